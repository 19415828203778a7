/- Part of the proof (R7): an engine, rules or contracts of the functions; it states nothing of the claim by itself. -/
import Derived.Test.YthalloeiidpfeaaGreatR6
import Derived.Test.YthalloeiidpfeaaGreatR4
import Derived.Laws.IdiomRangeMap
import Derived.Test.YthalloeiidpfeaaGreatR3
import Derived.ChangeSlices

set_option maxRecDepth 100000
set_option linter.unusedVariables false
set_option linter.unusedSimpArgs false
namespace Go.Proofs
open Go Go.Q
open Tryz (prog)
theorem stP8 {w : World} {b o k : Nat} {pre old cs post : List Value} {T : TypeId} (h : w.heap[b]? = some (.cells (pre ++ (old ++ post)).toArray T)) (ho : o = pre.length) (hk : cs.length = k) (hl : old.length = k) (hone : cs.all Q.one = true) {K : World → Prop} :
    stn k (.pointer (some ⟨b, o, none⟩)) (.agg cs.toArray) w K = K (setBlk w b (.cells (pre ++ (cs ++ post)).toArray T)) := by
  rw [stn_p, wrN_mk, h]
  have hsp : splice (pre ++ (old ++ post)).toArray o cs.toArray = (pre ++ (cs ++ post)).toArray := by
    subst ho; subst hk
    simp [splice, List.take_append, List.drop_append, ← hl]
  apply propext
  constructor
  · rintro ⟨_, _, hk⟩
    rw [hsp] at hk
    exact hk
  · intro hK
    refine ⟨by simpa using hk, ⟨by simp; omega, by rw [okFr0]; trivial, by simpa using hone⟩, ?_⟩
    rw [hsp]; exact hK
section
variable {w0 w w' : World} {kb bd ab : Nat} {l l' : LV} {t : Nat} {lp : Value} {X S B : List Nat} {R : KW} {d : DK} {g : LG}
theorem KC.stl (h : KC w kb bd l t lp X) {a b c : Value} (hv : LX (kb :: X) w (.agg #[a, b, c, .int .i64 l'.ops]) l') {K : World → Prop} (hK : ∀ w', KC w' kb bd l' t lp X → Kp [kb] w w' → K w') :
    stn 4 (.pointer (some ⟨kb, 0 + 1, none⟩)) (.agg #[a, b, c, .int .i64 l'.ops]) w K := by
  obtain ⟨a0, b0, c0, h1, h2⟩ := h.ex
  obtain ⟨a', b', c', e, r1, r2, r3⟩ := hv.at
  simp only [Value.agg.injEq, Array.mk.injEq, List.cons.injEq] at e
  obtain ⟨rfl, rfl, rfl, _⟩ := e
  have h1' : w.heap[kb]? = some (.cells ([Value.pointer (some ⟨bd, 0, none⟩)] ++ ([a0, b0, c0, Value.int .i64 l.ops] ++ [Value.int .i64 (t : Nat), lp])).toArray 58) := h1
  rw [show (#[a, b, c, Value.int .i64 l'.ops] : Array Value) = [a, b, c, Value.int .i64 l'.ops].toArray from rfl, stP8 (o := 0 + 1) (k := 4) (cs := [a, b, c, Value.int .i64 l'.ops]) h1' rfl rfl rfl (by simp only [List.all_cons, List.all_nil, Rd.isOne8 r1, Rd.isOne8 r2, Rd.isOne8 r3, Bool.and_true, Bool.true_and]; rfl)]
  have hk : Kp [kb] w (setBlk w kb (.cells ([Value.pointer (some ⟨bd, 0, none⟩)] ++ ([a, b, c, Value.int .i64 l'.ops] ++ [Value.int .i64 (t : Nat), lp])).toArray 58)) := (Kp.refl _ _).setBlk (.inl (by simp)) _
  exact hK _ ⟨a, b, c, heap_self (live_of h1), hv.keepS hk (by simp)⟩ hk
def subL (l : LV) (g : LG) (d : DK) (o : OpV) : LV × LG × DK × Int :=
  if (applyL l o).2 ≠ 0 then (l, g, d, (applyL l o).2)
  else if ¬ usedOf (recL (applyL l o).1) ≤ 32 * ((d.now.length - 2) / 2) then (l, g, d, 2)
  else if (addG g d [79 :: (putOp o).1]).2.2 ≠ 0 then (l, (addG g d [79 :: (putOp o).1]).1, (addG g d [79 :: (putOp o).1]).2.1, (addG g d [79 :: (putOp o).1]).2.2)
  else ((applyL l o).1, (addG g d [79 :: (putOp o).1]).1, (addG g d [79 :: (putOp o).1]).2.1, 0)
theorem applyL_may (hm : May l) {o : OpV} (ho : o.Wf) : May (applyL l o).1 := by
  unfold applyL
  split
  · exact stepL_may hm ho
  · exact may_z
theorem submit_k (h : KS w0 w kb bd ab l t g d B) (hm : May l) {o : OpV} (how : o.Wf) (h4 : 4 ≤ d.now.length) (hw' : (applyL l o).2 = 0 → LWf (applyL l o).1 ∧ Recs (recL (applyL l o).1)) (hgl : g.l.length < 2 ^ 38) (hdl : d.l.length < 2 ^ 38) {lo hi : Nat} (hlo : g.lo = (lo : Int)) (hhi : g.hi = (hi : Int)) (hlh : lo ≤ hi) (hhi2 : hi ≤ 4096) (hroom : (g.used.length : Int) ≤ 32 * (hi - lo))
    (hR : ∀ w' B', KS w0 w' kb bd ab (subL l g d o).1 t (subL l g d o).2.1 (subL l g d o).2.2.1 B' → Kp (kb :: B) w w' → (∀ y ∈ B', y ∈ B ∨ w.heap.size ≤ y) → R (.int .i64 (subL l g d o).2.2.2) w') :
    callG prog 12 #[.pointer (some ⟨kb, 0, none⟩), .agg (opC o).toArray] w R := by
  refine Fn31_call ?_
  unfold Fn31 Fn31_s0
  refine argBox (cs := opC o) fun p3 w1 hp3 h3 k1 => ?_
  have h1 := h.keep k1
  have hlts := h.lts
  have z0 := h.kp.size
  have z1 := k1.size
  have l3 := lt_of_blk h3
  refine given_k h1.kc ?_
  simp only [un_not, bV_b]
  refine ⟨fun h => by simp at h, fun _ => ?_⟩
  have kd : Kp [] w1 w1.drew := (Kp.refl [] w1).drew
  have h1d := h1.keep kd
  have h3d := kd.get h3 (by simp)
  have zd : w1.drew.heap.size = w1.heap.size := rfl
  obtain ⟨v, hv1, hv2⟩ := h1d.kc.ldl
  rw [nk_p, fa_p, hv1, ldAll (k := 7) h3d rfl]
  have hq := wf_rng how
  -- behind Apply, and the variable
  have tail : ∀ (p5 : Nat) (w4 : World), w1.heap.size ≤ p5 → Kp [] w1 w4 → VX (p5 :: kb :: B) w4 p5 (applyL l o).1 → w4.heap[p3]? = some (.cells (opC o).toArray 42) →
      (qG prog (bq .neq 30 (.tmp 22) (.const (.int .i64 0)) (.int .i64 (applyL l o).2) (.int .i64 0)) w4 fun t24 =>
  bV t24
  (R (.int .i64 (applyL l o).2) w4)
  (ldn 4 (.pointer (some ⟨p5, 0, none⟩)) w4 fun t27 =>
  callG prog 8 #[t27] w4 fun t28 w =>
  qG prog (Instr.extract t28 0) w fun t29 =>
  qG prog (Instr.extract t28 1) w fun t30 =>
  qG prog (bq .neq 30 (.tmp 30) (.const (.int .i64 0)) t30 (.int .i64 0)) w fun t32 =>
  bV t32
  (R t30 w)
  (callG prog 42 #[.pointer (some ⟨kb, 0, none⟩), t29] w fun t36 w =>
  qG prog (Op.unary .not t36) w fun t37 =>
  bV t37
  (R (.int .i64 2) w)
  (ldn 7 (.pointer (some ⟨p3, 0, none⟩)) w fun t39 =>
  callG prog 43 #[t39] w fun t40 w =>
  qG prog (Instr.extract t40 0) w fun t41 =>
  qG prog (Instr.extract t40 1) w fun t42 =>
  nk (.pointer (some ⟨kb, 0, none⟩)) fun t44 =>
  fa 6 t44 fun t45 =>
  ld1 t45 w fun t46 =>
  qG prog (bq .add 9 (.const (.string ⟨#[79]⟩)) (.tmp 41) (.string ⟨#[79]⟩) t41) w fun t48 =>
  bsl 9 1 1 (zc prog 9) #[(0, t48)] w fun t49 w =>
  callG prog 44 #[t46, t49] w fun t50 w =>
  qG prog (bq .neq 30 (.tmp 50) (.const (.int .i64 0)) t50 (.int .i64 0)) w fun t52 =>
  bV t52
  (R t50 w)
  (ldn 4 (.pointer (some ⟨p5, 0, none⟩)) w fun t55 =>
  nk (.pointer (some ⟨kb, 0, none⟩)) fun t56 =>
  fa 1 t56 fun t57 =>
  stn 4 t57 t55 w fun w =>
  R (.int .i64 0) w))))) := by
    intro p5 w4 hp5 k4 c4 h34
    have h4' := h1.keep k4
    have k04 := k1.trans' k4
    have z4 := k4.size
    unfold subL at hR
    simp only [bq_neq, bV_b, decide_eq_true_eq, decide_eq_false_iff_not]
    refine ⟨fun he => ?_, fun he => ?_⟩
    · rw [if_pos he] at hR
      exact hR w4 B h4' (k04.mono (by simp)) fun y hy => .inl hy
    have he : (applyL l o).2 = 0 := Decidable.not_not.1 he
    rw [if_neg (by rw [he]; simp)] at hR
    obtain ⟨hwf, hrec⟩ := hw' he
    have hm' := applyL_may hm how
    generalize hl' : (applyL l o).1 = l' at *
    obtain ⟨v5, hld5, hv5⟩ := c4.ld
    rw [hld5]
    refine Records_k hm' hwf hv5.at fun w5 v6 hf5 => ?_
    have k5 := hf5.kp
    rw [ex0, ex1]
    simp only [bq_neq, bV_b, decide_eq_true_eq]
    refine ⟨fun hh => absurd rfl hh, fun _ => ?_⟩
    have h5 := h4'.keep k5
    obtain ⟨S, SL, lv, eB, hd5, _⟩ := h5.ol.ex
    refine fits_k h5.kc hd5 h4 hf5.rd hrec fun w6 k6 => ?_
    have k06 := (k04.trans' k5).trans' k6
    have h6 := h5.keep k6
    simp only [un_not, bV_b, Bool.not_eq_true', decide_eq_false_iff_not, Bool.not_eq_false', decide_eq_true_eq]
    refine ⟨fun hno => ?_, fun hfit => ?_⟩
    · rw [if_pos hno] at hR
      exact hR w6 B h6 (k06.mono (by simp)) fun y hy => .inl hy
    rw [if_neg (by simpa using hfit)] at hR
    have h36 := k6.get (k5.get h34 (by simp)) (by simp)
    rw [ldAll (k := 7) h36 rfl]
    refine PutOp_spec o how fun w7 k7 => ?_
    have h7 := h6.keep k7
    rw [ex0, ex1, nk_p, fa_p, h7.kc.ldlog]
    have hpl : (putOp o).1.length ≤ 20000 := by
      unfold putOp
      split
      · exact putRow_len (by simp [opRow])
      · simp
    rw [show (Value.string ⟨#[79]⟩) = .string (str [79]) from rfl, bq_sadd (by rw [str_size, str_size]; simp; omega), str_append, bsl_one rfl]
    obtain ⟨w8, hw8⟩ : ∃ w8, w8 = w7.alloc (.cells #[.string (str ([79] ++ (putOp o).1))] 9) := ⟨_, rfl⟩
    have k8 : Kp [] w7 w8 := by rw [hw8]; exact (Kp.refl [] w7).alloc _
    have hb8 : w8.heap[w7.heap.size]? = some (.cells #[.string (str ([79] ++ (putOp o).1))] 9) := by rw [hw8]; exact heap_new
    rw [← hw8]
    have hs8 : RdAt w8 (.slice (some ⟨w7.heap.size, 0, none⟩) 1 1) 1 ([79 :: (putOp o).1].map strV) [w7.heap.size] :=
      .inr ⟨_, 0, 1, _, _, _, rfl, rfl, hb8, by simp [strV], by simp, by simp [strV], by simp⟩
    have h8 := h7.keep k8
    have k08 := (k06.trans' k7).trans' k8
    have z8 := k08.size
    have z7 := (k06.trans' k7).size
    have l8 := lt_of_blk hb8
    have k48 := ((k5.trans' k6).trans' k7).trans' k8
    have c8 := c4.keep k48
    obtain ⟨vv, a, b, c, hh5, hve, hlx⟩ := c8.ex
    have hp5B : p5 ∉ B := fun hm => by have := hlts p5 (by simp [hm]); omega
    refine ol_add h8.ol (.inr hs8) (fun x hx hm => by simp at hx; subst hx; have := hlts _ (List.mem_cons_of_mem _ hm); omega) (fun x hx => by simp at hx; subst hx; exact l8) (lo := lo) (hi := hi) (by simp; omega) (by intro s hs; simp at hs; rw [hs]; simp; omega) hlo hhi hlh hhi2 hroom (by omega) fun w9 B' o9 k9 hB' => ?_
    have hkbB := h.kbB
    have hkb' : kb ∉ B' := fun hm => by
      have := hlts kb (by simp)
      rcases hB' kb hm with hh | hh
      · exact hkbB hh
      · omega
    have hBw : ∀ y ∈ B', y ∈ B ∨ w.heap.size ≤ y := fun y hy => (hB' y hy).imp id fun hh => by omega
    have kc9 : KC w9 kb bd l t (.pointer (some ⟨ab, 0, none⟩)) B' := ((h8.kc.grow (Y := B ++ B') fun y hy => by
      rcases List.mem_append.1 hy with hh | hh
      · exact .inl hh
      · exact hB' y hh).keep k9 (fun y hy => by simp [hy]) hkbB).grow fun y hy => .inl (by simp [hy])
    have k09 : Kp (kb :: B) w w9 := (k08.mono (by simp)).trans' (k9.mono fun y hy _ => by simp [hy])
    simp only [bq_neq, bV_b, decide_eq_true_eq, decide_eq_false_iff_not]
    refine ⟨fun he2 => ?_, fun he2 => ?_⟩
    · rw [if_pos he2] at hR
      exact hR w9 B' ⟨o9, h.kb0, hkb', kc9⟩ k09 hBw
    have he2 : (addG g d [79 :: (putOp o).1]).2.2 = 0 := Decidable.not_not.1 he2
    rw [if_neg (by rw [he2]; simp)] at hR
    rw [ldAll (k := 4) (k9.get hh5 hp5B) rfl, nk_p, fa_p]
    have hlx9 : LX (kb :: B') w9 (.agg #[a, b, c, .int .i64 l'.ops]) l' := by
      rw [← hve]
      refine LX.less (LX.keepS (X := p5 :: kb :: (B ++ B')) (LX.grow hlx fun y hy => ?_) k9 fun y hy => by simp [hy]) fun y hy => ?_
      · simp only [List.mem_cons, List.mem_append] at hy ⊢
        rcases hy with hh | hh | hh | hh
        · exact .inl (.inl hh)
        · exact .inl (.inr (.inl hh))
        · exact .inl (.inr (.inr hh))
        · rcases hB' y hh with h' | h'
          · exact .inl (.inr (.inr h'))
          · exact .inr h'
      · simp only [List.mem_cons, List.mem_append] at hy ⊢
        rcases hy with hh | hh
        · exact .inr (.inl hh)
        · exact .inr (.inr (.inr hh))
    refine kc9.stl hlx9 fun w10 kc10 k10 => ?_
    refine hR w10 B' ⟨OL.keep o9 k10 (fun y hy hm => by simp at hm; subst hm; exact hkb' hy) (o9.kp.trans k10 fun y hy hlt => by simp at hy; have := h.kb0; omega), h.kb0, hkb', kc10⟩ (k09.trans' (k10.mono fun y hy _ => by simp at hy; simp [hy])) hBw
  refine ⟨?_, ?_⟩
  · refine Apply_X hm hv2 (fun y hy => by have := hlts y hy; omega) o hq fun v2 w2 k2 hx2 => ?_
    simp only [ex0, ex1]
    have z2 := k2.size
    refine zeroVX (X := kb :: B) fun p5 w3 hp5 k3 c3 => ?_
    have z3 := k3.size
    have k13 := (kd.trans' k2).trans' k3
    have h3' := k13.get h3 (by simp)
    obtain ⟨v', hv1', hv2'⟩ := (h1.keep k13).kc.ldl
    have hsame : v' = v := by
      have e1 := (h1.keep k13).kc
      obtain ⟨a, b, c, x1, x2⟩ := h1d.kc.ex
      have y1 := hv1 (fun u => u = .agg #[a, b, c, .int .i64 l.ops])
      have y2 := hv1' (fun u => u = .agg #[a, b, c, .int .i64 l.ops])
      rw [ldP x1 (p := #[a, b, c, .int .i64 l.ops]) rfl (by simp)] at y1
      rw [ldP ((k2.trans' k3).get x1 (by simp)) (p := #[a, b, c, .int .i64 l.ops]) rfl (by simp)] at y2
      exact (Eq.mp y2 rfl).trans (Eq.mp y1 rfl).symm
    simp only [stb_ex0, stb_ex1, true_and]
    refine ⟨by rw [ldAll (k := 7) h3' rfl], by rw [hv1', hsame], ?_⟩
    refine VX.st c3 ((LX.more hx2 (p := p5) hp5).keep k3) fun w4 k4 c4 => ?_
    have hp35 : p3 ≠ p5 := by omega
    exact tail p5 w4 (by omega) (k13.trans k4 fun y hy hlt => by simp at hy; omega) c4 (k4.get h3' (by simp; exact hp35))
  · refine zeroVX (X := kb :: B) fun p5 w3 hp5 k3 c3 => ?_
    have z3 := k3.size
    have k13 := kd.trans' k3
    have h3' := k13.get h3 (by simp)
    obtain ⟨v', hv1', hv2'⟩ := (h1.keep k13).kc.ldl
    have hsame : v' = v := by
      obtain ⟨a, b, c, x1, x2⟩ := h1d.kc.ex
      have y1 := hv1 (fun u => u = .agg #[a, b, c, .int .i64 l.ops])
      have y2 := hv1' (fun u => u = .agg #[a, b, c, .int .i64 l.ops])
      rw [ldP x1 (p := #[a, b, c, .int .i64 l.ops]) rfl (by simp)] at y1
      rw [ldP (k3.get x1 (by simp)) (p := #[a, b, c, .int .i64 l.ops]) rfl (by simp)] at y2
      exact (Eq.mp y2 rfl).trans (Eq.mp y1 rfl).symm
    refine ⟨by rw [ldAll (k := 7) h3' rfl], by rw [hv1', hsame], ?_⟩
    refine Apply_X hm ((hv2.more hp5).keep k3) (fun y hy => by
      rcases List.mem_cons.1 hy with rfl | hy
      · exact c3.lt
      · have := hlts y hy; omega) o hq fun v2 w2 k2 hx2 => ?_
    simp only [ex0, ex1]
    have z2 := k2.size
    refine VX.st (c3.keep k2) hx2 fun w4 k4 c4 => ?_
    simp only [stb_ex0, stb_ex1, true_and]
    have hp35 : p3 ≠ p5 := by omega
    exact tail p5 w4 (by omega) ((k13.trans' k2).trans k4 fun y hy hlt => by simp at hy; omega) c4 (k4.get (k2.get h3' (by simp)) (by simp; exact hp35))
end
end Go.Proofs

set_option linter.unusedVariables false
set_option linter.unusedSimpArgs false
namespace Go.Q
open Go.MapKept
variable {P : Program}
structure SE where
  k : List UInt8
  v : Int
  b : Nat
def SE.ent (e : SE) : MapEntry := ⟨.string (str e.k), .int .i64 e.v, e.b⟩
def SE.kv (e : SE) : List UInt8 × Int := (e.k, e.v)
structure MapE (w : World) (n : Nat) (m : List SE) (clock : Nat) : Prop where
  blk : w.heap[n]? = some (.map (m.map SE.ent).toArray clock)
  nb : (m.map (·.b)).Nodup
  old : ∀ e ∈ m, e.b < clock
  nk : (m.map (·.k)).Nodup
def SMap (w : World) (n : Nat) (N : List (List UInt8 × Int)) : Prop := ∃ m clock, MapE w n m clock ∧ (m.map SE.kv).Perm N
structure SMapT (P : Program) (T kt et : TypeId) : Prop where
  hm : P.underlying T = some (.map kt et)
  hk : P.underlying kt = some .string
  hz : ∀ w, (zeroValue et).run P w = .ok (.int .i64 0) w
def putN (N : List (List UInt8 × Int)) (k : List UInt8) (v : Int) : List (List UInt8 × Int) := (k, v) :: N.filter fun x => decide (x.1 ≠ k)
section
variable {w w' : World} {n clock : Nat} {m : List SE} {N : List (List UInt8 × Int)} {T kt et : TypeId} {k : List UInt8}
theorem strV_inj {a b : List UInt8} : (Value.string (str a) = Value.string (str b)) ↔ a = b := by
  constructor
  · intro h
    injection h with h
    simp only [str, ByteArray.mk.injEq] at h
    simpa using h
  · rintro rfl; rfl
theorem isKey_s (a : List UInt8) : IsKey .string (.string (str a)) := trivial
theorem find_spec (m : List SE) (k : List UInt8) : (Instr.findNow .string (.string (str k)) (m.map SE.ent) 0 = some none ∧ ∀ e ∈ m, e.k ≠ k) ∨
    ∃ j, ∃ h : j < m.length, Instr.findNow .string (.string (str k)) (m.map SE.ent) 0 = some (some (j, .int .i64 m[j].v)) ∧ m[j].k = k := by
  rcases findNow_spec (isKey_s k) (m.map SE.ent) 0 (fun x hx => by obtain ⟨e, _, rfl⟩ := List.mem_map.1 hx; exact isKey_s e.k) with ⟨h1, h2⟩ | ⟨j, e, h1, h2, h3⟩
  · exact .inl ⟨h1, fun e he hk => h2 e.ent (List.mem_map.2 ⟨e, he, rfl⟩) (by rw [← hk]; rfl)⟩
  · right
    obtain ⟨hj, hje⟩ := List.getElem?_eq_some_iff.1 h2
    have hj' : j < m.length := by simpa using hj
    have he : e = (m[j]).ent := by rw [← hje]; simp
    refine ⟨j, hj', ?_, ?_⟩
    · rw [h1, he, Nat.zero_add]; rfl
    · rw [he] at h3
      exact strV_inj.1 h3
theorem SMap.put (ht : SMapT P T kt et) (h : SMap w n N) (v : Int) {K : World → Prop} (hK : ∀ w', SMap w' n (putN N k v) → Kp [n] w w' → K w') : uG P (Instr.mapUpdate T (.map (some n)) (.string (str k)) (.int .i64 v)) w K := by
  obtain ⟨m, c, h1, h2⟩ := h
  have hgo := Go.MapKept.run_getObj_map (P := P) h1.blk
  have hso := fun o => Go.MapKept.run_setObj_map (P := P) o h1.blk
  have hc := fun e n => run_checkKey (P := P) (w := w) ht.hk (isKey_s k) e n
  have hlv := lt_of_blk h1.blk
  rcases find_spec m k with ⟨g1, g2⟩ | ⟨j, hj, g1, g2⟩
  · have hf : (Instr.findKey kt (.string (str k)) (m.map SE.ent).toArray.toList).run P w = .ok none w := run_findKey ht.hk g1
    refine uG_of (w' := setBlk w n (.map ((m.map SE.ent).toArray.push ⟨.string (str k), .int .i64 v, c⟩) (c + 1))) ?_ (hK _ ⟨m ++ [⟨k, v, c⟩], c + 1, ⟨?_, ?_, ?_, ?_⟩, ?_⟩ ((Kp.refl _ w).setBlk (.inl (by simp)) _))
    · simp only [Instr.mapUpdate, Sem.run_bind, run_underlying ht.hm, Result.andThen_ok, hgo, hc, hf, hso]
      rfl
    · rw [heap_self (live_of h1.blk)]
      simp [SE.ent]
    · rw [List.map_append, List.nodup_append]
      refine ⟨h1.nb, by simp, fun a ha b hb => ?_⟩
      simp at hb
      obtain ⟨e, he, rfl⟩ := List.mem_map.1 ha
      have := h1.old e he
      omega
    · intro e he
      rcases List.mem_append.1 he with he | he
      · have := h1.old e he; omega
      · simp at he; rw [he]; simp
    · rw [List.map_append, List.nodup_append]
      refine ⟨h1.nk, by simp, fun a ha b hb => ?_⟩
      simp at hb
      obtain ⟨e, he, rfl⟩ := List.mem_map.1 ha
      rw [hb]; exact g2 e he
    · have hfl : N.filter (fun x => decide (x.1 ≠ k)) = N := by
        rw [List.filter_eq_self]
        intro x hx
        obtain ⟨e, he, hex⟩ := List.mem_map.1 (h2.mem_iff.2 hx)
        rw [← hex, decide_eq_true_eq]
        exact g2 e he
      unfold putN
      rw [hfl, List.map_append]
      refine (List.perm_append_comm).trans ?_
      exact List.Perm.cons _ h2
  · have hf : (Instr.findKey kt (.string (str k)) (m.map SE.ent).toArray.toList).run P w = .ok (some (j, .int .i64 m[j].v)) w := run_findKey ht.hk g1
    have hks : (Instr.keyThatStays (.string (str k)) (.string (str k))).run P w = .ok (.string (str k)) w := run_keyThatStays (isKey_s k)
    have hgj : (m.map SE.ent).toArray[j]? = some m[j].ent := by simp [hj]
    have hek : m[j].ent.key = .string (str k) := by rw [← g2]; rfl
    refine uG_of (w' := setBlk w n (.map ((m.map SE.ent).toArray.modify j fun e => { e with key := .string (str k), val := .int .i64 v }) c)) ?_ (hK _ ⟨m.set j ⟨k, v, m[j].b⟩, c, ⟨?_, ?_, ?_, ?_⟩, ?_⟩ ((Kp.refl _ w).setBlk (.inl (by simp)) _))
    · simp [Instr.mapUpdate, Sem.run_bind, run_underlying ht.hm, hgo, hc, hf, hso, hgj, hek, hks, Result.andThen, hj]
      rfl
    · rw [heap_self (live_of h1.blk)]
      congr 2
      apply Array.ext_getElem?
      intro i
      rw [Array.getElem?_modify]
      by_cases e : j = i
      · subst e; simp [hj, SE.ent]
      · simp [e, List.getElem?_set_ne e]
    · rw [List.map_set]
      have : (m.map (·.b)).set j m[j].b = m.map (·.b) := by
        apply List.ext_getElem?
        intro i
        rw [List.getElem?_set]
        split
        · rename_i h; subst h; simp [hj]
        · rfl
      rw [this]; exact h1.nb
    · intro e he
      rcases List.mem_or_eq_of_mem_set he with he | he
      · exact h1.old e he
      · rw [he]; exact h1.old m[j] (List.getElem_mem hj)
    · rw [List.map_set]
      have : (m.map (·.k)).set j k = m.map (·.k) := by
        apply List.ext_getElem?
        intro i
        rw [List.getElem?_set]
        split
        · rename_i h; subst h; simp [hj, g2]
        · rfl
      rw [this]; exact h1.nk
    · have hm : m = m.take j ++ m[j] :: m.drop (j + 1) := by rw [← List.drop_eq_getElem_cons hj, List.take_append_drop]
      have hnk := h1.nk
      rw [hm, List.map_append, List.map_cons, List.nodup_append] at hnk
      obtain ⟨_, q2, q3⟩ := hnk
      rw [List.nodup_cons] at q2
      have hA : ∀ e ∈ m.take j, e.k ≠ k := fun e he hk => q3 _ (List.mem_map.2 ⟨e, he, rfl⟩) m[j].k List.mem_cons_self (hk.trans g2.symm)
      have hB : ∀ e ∈ m.drop (j + 1), e.k ≠ k := fun e he hk => q2.1 (List.mem_map.2 ⟨e, he, hk.trans g2.symm⟩)
      have hf : ((m.map SE.kv).filter fun x => decide (x.1 ≠ k)) = (m.take j).map SE.kv ++ (m.drop (j + 1)).map SE.kv := by
        conv => lhs; rw [hm]
        rw [List.map_append, List.map_cons, List.filter_append, List.filter_cons_of_neg (by simp [SE.kv, g2])]
        congr 1
        · rw [List.filter_eq_self]; intro x hx; obtain ⟨e, he, rfl⟩ := List.mem_map.1 hx; rw [decide_eq_true_eq]; exact hA e he
        · rw [List.filter_eq_self]; intro x hx; obtain ⟨e, he, rfl⟩ := List.mem_map.1 hx; rw [decide_eq_true_eq]; exact hB e he
      have hs : (m.set j ⟨k, v, m[j].b⟩).map SE.kv = (m.take j).map SE.kv ++ (k, v) :: (m.drop (j + 1)).map SE.kv := by
        rw [List.set_eq_take_append_cons_drop, if_pos hj, List.map_append, List.map_cons]; rfl
      rw [hs]
      unfold putN
      refine List.perm_middle.trans (List.Perm.cons _ ?_)
      rw [← hf]
      exact h2.filter _
end
end Go.Q

set_option maxRecDepth 100000
set_option linter.unusedVariables false
set_option linter.unusedSimpArgs false
namespace Go.Proofs
open Go Go.Q
open Tryz (prog)
section
variable {w w' : World} {R : KW}
theorem bq_eqs8 {P : Program} {T : TypeId} {xo yo : Operand} {a b : List UInt8} {K : Value → Prop} : qG P (bq .eql T xo yo (.string (str a)) (.string (str b))) w K = K (.bool (decide (a = b))) := by
  rw [bq_seql]
  congr 2
  have := strV_inj (a := a) (b := b)
  simp only [Value.string.injEq] at this
  exact decide_eq_decide.2 this
theorem bq_nes8 {P : Program} {T : TypeId} {xo yo : Operand} {a b : List UInt8} {K : Value → Prop} : qG P (bq .neq T xo yo (.string (str a)) (.string (str b))) w K = K (.bool (!decide (a = b))) := by
  rw [bq_sneq]
  congr 3
  have := strV_inj (a := a) (b := b)
  simp only [Value.string.injEq] at this
  exact decide_eq_decide.2 this
theorem slS_tail8 {c : UInt8} {t : List UInt8} {K : Value → Prop} : slS (.string (str (c :: t))) (some (.int .i64 1)) none K = K (.string (str t)) := by
  have hx : (str (c :: t)).extract 1 (t.length + 1) = str t := by rw [str_extract]; simp
  simp only [slS_p, bnd_some, bnd_none, str_size, List.length_cons, Int.toNat_one, hx]
  exact propext ⟨fun h => h.2, fun h => ⟨by omega, h⟩⟩
theorem slS_head8 {c : UInt8} {t : List UInt8} {K : Value → Prop} : slS (.string (str (c :: t))) none (some (.int .i64 1)) K = K (.string (str [c])) := by
  have hx : (str (c :: t)).extract 0 1 = str [c] := by rw [str_extract]; simp
  simp only [slS_p, bnd_some, bnd_none, str_size, List.length_cons, Int.toNat_one, hx]
  exact propext ⟨fun h => h.2, fun h => ⟨by omega, h⟩⟩
theorem equal_k {va vb : Value} {a : List (List UInt8)} (ha : Rd w va 1 (a.map strV)) (hb : Rd w vb 1 (a.map strV)) (hl : a.length < 2 ^ 40) (hR : ∀ w', Kp [] w w' → R (.bool true) w') : callG prog 114 #[va, vb] w R := by
  refine Fn103_call ?_
  unfold Fn103 Fn103_s4
  rw [ha.lenL, hb.lenL, List.length_map]
  simp only [bq_neq, bV_b, decide_eq_true_eq]
  refine ⟨fun hh => absurd rfl hh, fun _ => ?_⟩
  unfold Fn103_s3
  rw [ha.lenL, List.length_map]
  unfold Fn103_L2
  refine loop_inv (fun m xs w' => ∃ k, k ≤ a.length ∧ m = a.length - k ∧ xs = [va, vb, .int .i64 (a.length : Nat), .int .i64 (k : Nat)] ∧ Kp [] w w') ?_ (m := a.length) ⟨0, by omega, rfl, rfl, Kp.refl _ _⟩
  rintro m N xs w1 ⟨k, hk, rfl, rfl, k1⟩ hN
  unfold Fn103_L2F Fn103_b1
  dsimp only
  simp only [bq_lss, bV_b, decide_eq_true_eq, decide_eq_false_iff_not]
  refine ⟨fun hlt => ?_, fun hge => ?_⟩
  · have hlt : k < a.length := by omega
    obtain ⟨pa, i1, i2⟩ := rd_str (ha.keep k1.drew) hlt
    obtain ⟨pb, j1, j2⟩ := rd_str (hb.keep k1.drew) hlt
    rw [i1, i2, j1, j2, bq_nes8]
    simp only [bV_b]
    refine ⟨fun hh => by simp at hh, fun _ => ?_⟩
    have e2 : IntKind.i64.wrap ((k : Int) + 1) = ((k + 1 : Nat) : Int) := by rw [w64 (by omega) (by omega)]; simp
    simp only [bq_add, e2]
    exact hN (a.length - (k + 1)) _ _ (by omega) ⟨k + 1, by omega, rfl, rfl, k1.drew⟩
  · unfold Fn103_s0
    exact hR w1 k1
def lZv : Value := .agg #[.slice none 0 0, .slice none 0 0, .slice none 0 0, .int .i64 0]
theorem lz_wf : LWf lZ := ⟨by simp [lZ], by simp [lZ], by simp [lZ], by constructor <;> simp [numV, lZ]⟩
theorem recL_z : recL lZ = [recE 0] := rfl
theorem recE0 : takeRow (putRow [numV 0]).1 = ([numV 0], 0) := by decide +kernel
theorem recE0_len : (putRow [numV 0]).1.length < 2 ^ 39 := by decide +kernel
theorem laid_k {v : Value} {rest : List (List UInt8)} (hv : Rd w v 1 ((recE 0 :: rest).map strV)) (hl : rest.length < 2 ^ 30) (hR : ∀ w' v', Kp [] w w' → Rd w' v' 1 (rest.map strV) → R (.tuple #[lZv, v', .bool true]) w') : callG prog 85 #[v] w R := by
  refine Fn43_call ?_
  unfold Fn43 Fn43_s22
  refine newB fun p2 w1 hp2 h2 k1 => ?_
  refine newB fun p5 w2 hp5 h5 k2 => ?_
  have z1 := k1.size
  have z2 := k2.size
  have l2 := lt_of_blk h2
  have l5 := lt_of_blk h5
  have h22 := k2.get h2 (by simp)
  have k02 := k1.trans' k2
  unfold Fn43_s21
  rw [hv.lenL, List.length_map, List.length_cons]
  unfold Fn43_L20
  refine loop_inv (fun m xs w' => m = 1 ∧ xs = [v, .pointer (some ⟨p2, 0, none⟩), .pointer (some ⟨p5, 0, none⟩), v, .int .i64 ((rest.length + 1 : Nat) : Int), .int .i64 0] ∧ w' = w2) ?_ (m := 1) ⟨rfl, rfl, rfl⟩
  rintro m N xs w2' ⟨rfl, rfl, rfl⟩ hN
  unfold Fn43_L20F Fn43_s19
  dsimp only
  simp only [bq_lss, bV_b, decide_eq_true_eq, decide_eq_false_iff_not]
  refine ⟨fun _ => ?_, fun hh => by omega⟩
  unfold Fn43_s18
  obtain ⟨pe, i1, i2⟩ := rd_str (hv.keep k02) (i := 0) (by simp)
  rw [show (Value.int .i64 0) = .int .i64 ((0 : Nat) : Int) from rfl, i1, i2, show (recE 0 :: rest)[0] = 69 :: (putRow [numV 0]).1 from rfl, slS_tail8]
  refine Take_spec _ recE0_len fun v3 w3 hf3 => ?_
  rw [recE0] at *
  have k3 := hf3.kp
  have z3 := k3.size
  rw [ex0, ex1]
  simp only [bq_neq, bV_b, decide_eq_true_eq]
  refine ⟨fun hh => absurd rfl hh, fun _ => ?_⟩
  unfold Fn43_s17
  rw [slS_head8]
  unfold Fn43_s16
  rw [show (Value.string ⟨#[83]⟩) = .string (str [83]) from rfl, bq_eqs8, show decide (([69] : List UInt8) = [83]) = false from rfl]
  unfold Fn43_s15
  simp only [bV_b]
  refine ⟨fun hh => by simp at hh, fun _ => ?_⟩
  unfold Fn43_s14
  rw [show (Value.string ⟨#[72]⟩) = .string (str [72]) from rfl, bq_eqs8, show decide (([69] : List UInt8) = [72]) = false from rfl]
  unfold Fn43_s13
  simp only [bV_b]
  refine ⟨fun hh => by simp at hh, fun _ => ?_⟩
  unfold Fn43_s12
  rw [show (Value.string ⟨#[77]⟩) = .string (str [77]) from rfl, bq_eqs8, show decide (([69] : List UInt8) = [77]) = false from rfl]
  unfold Fn43_s11
  simp only [bV_b]
  refine ⟨fun hh => by simp at hh, fun _ => ?_⟩
  unfold Fn43_s10
  rw [show (Value.string ⟨#[69]⟩) = .string (str [69]) from rfl, bq_eqs8, show decide (([69] : List UInt8) = [69]) = true from rfl]
  unfold Fn43_s9
  simp only [bV_b]
  refine ⟨fun _ => ?_, fun hh => by simp at hh⟩
  unfold Fn43_s7
  obtain ⟨bl, o, j1, j2⟩ := hf3.rd.rowK (i := 0) (by simp)
  obtain ⟨_, j3, _⟩ := j2 w3 (Kp.refl _ _)
  rw [hf3.rd.lenL]
  simp only [List.length_map, List.length_cons, List.length_nil, bq_neq, bV_b, decide_eq_true_eq]
  refine ⟨fun hh => by simp at hh, fun _ => ?_⟩
  rw [show (Value.int .i64 0) = .int .i64 ((0 : Nat) : Int) from rfl, j1, fa_p, j3 0 (.int .i64 1) (by omega) rfl]
  simp only [bq_neq, bV_b, decide_eq_true_eq]
  refine ⟨fun hh => absurd rfl hh, fun _ => ?_⟩
  unfold Fn43_s6
  rw [show (Value.int .i64 0) = .int .i64 ((0 : Nat) : Int) from rfl, j1, fa_p, j3 1 (.int .i64 0) (by omega) rfl, fa_p]
  have h53 := k3.get h5 (by simp)
  have h23 := k3.get h22 (by simp)
  rw [zcLed] at h53 h23
  rw [stF h53 (by simp) rfl]
  generalize hw4 : setBlk w3 p5 _ = w4
  have h54 : w4.heap[p5]? = some (.cells #[.slice none 0 0, .slice none 0 0, .slice none 0 0, .int .i64 0] 26) := by rw [← hw4]; exact heap_self (live_of h53)
  have k4 : Kp [p5] w3 w4 := by rw [← hw4]; exact (Kp.refl _ _).setBlk (.inl (by simp)) _
  have h24 := k4.get h23 (by simp; omega)
  have k04 : Kp [] w w4 := (k02.trans' k3).trans k4 fun y hy hlt => by simp at hy; omega
  rw [ldA (k := 4) h54 rfl]
  refine Records_k may_z lz_wf (lz_x (X := []) w4).at fun w5 v5 hf5 => ?_
  have k5 := hf5.kp
  have h55 := k5.get h54 (by simp)
  have h25 := k5.get h24 (by simp)
  have k05 := k04.trans' k5
  have hv5 := hv.keep k05
  obtain ⟨va, a1, a2⟩ := hv.drop (p := 1) (kd := .i64) (by simp)
  obtain ⟨vb, b1, b2⟩ := hv5.take (p := 1) (kd := .i64) (by simp)
  have e1 : IntKind.i64.wrap (((0 : Nat) : Int) + 1) = ((1 : Nat) : Int) := by decide
  have h55d : w5.drew.heap[p5]? = some (.cells #[.slice none 0 0, .slice none 0 0, .slice none 0 0, .int .i64 0] 26) := h55
  have kd5 : Kp [] w5 w5.drew := (Kp.refl [] w5).drew
  rw [ex0, ex1, ldA (k := 4) h55d rfl]
  simp only [bq_add, e1]
  rw [a2]
  simp only [bq_eql, bV_b, decide_eq_true_eq]
  refine ⟨fun _ => ?_, fun hh => by simp at hh⟩
  rw [b2]
  have hb1 : Rd w5.drew vb 1 ([recE 0].map strV) := b1.keep kd5
  refine equal_k (hf5.rd.keep kd5) hb1 (by simp [recL_z]) fun w6 k6 => ?_
  have k56 := kd5.trans' k6
  have h56 := k56.get h55 (by simp)
  have h26 := k56.get h25 (by simp)
  simp only [stb_add, e1, true_and]
  refine ⟨by rw [ldA (k := 4) h56 rfl], ?_⟩
  rw [stA (k := 4) (c := #[.slice none 0 0, .slice none 0 0, .slice none 0 0, .int .i64 0]) h26 rfl rfl (by simp [Q.one])]
  generalize hw7 : setBlk w6 p2 _ = w7
  have h27 : w7.heap[p2]? = some (.cells #[.slice none 0 0, .slice none 0 0, .slice none 0 0, .int .i64 0] 26) := by rw [← hw7]; exact heap_self (live_of h26)
  have k7 : Kp [p2] w6 w7 := by rw [← hw7]; exact (Kp.refl _ _).setBlk (.inl (by simp)) _
  have k07 : Kp [] w w7 := (k05.trans' k56).trans k7 fun y hy hlt => by simp at hy; omega
  rw [lvLedw h27 rfl]
  exact hR w7 va k07 (a1.keep k07)
end
end Go.Proofs

set_option maxRecDepth 100000
set_option linter.unusedVariables false
set_option linter.unusedSimpArgs false
namespace Go.Proofs
open Go Go.Q
open Tryz (prog)
theorem e3_0 {a b c : Value} {w : World} {K : Value → Prop} : qG prog (Instr.extract (.tuple #[a, b, c]) 0) w K = K a := qG_of rfl
theorem e3_1 {a b c : Value} {w : World} {K : Value → Prop} : qG prog (Instr.extract (.tuple #[a, b, c]) 1) w K = K b := qG_of rfl
theorem e3_2 {a b c : Value} {w : World} {K : Value → Prop} : qG prog (Instr.extract (.tuple #[a, b, c]) 2) w K = K c := qG_of rfl
def recO (o : OpV) : List UInt8 := 79 :: (putOp o).1
theorem putOp_short (o : OpV) : (putOp o).1.length ≤ 20000 := by
  unfold putOp
  split
  · exact putRow_len (by simp [opRow])
  · simp
section
variable {w w' : World} {R : KW} {bd : Nat} {d : DK} {S X : List Nat}
theorem whole_k (hd : DiskAt w bd d S) (hoff : d.off = false) (h4 : 4 ≤ d.now.length) (hX : ∀ q ∈ X, q < w.heap.size) {ops : List OpV} (hops : ∀ o ∈ ops, takeOp (putOp o).1 = (o, 0) ∧ o.Wf) (hl : ops.length < 2 ^ 20)
    (hsc : scan ((1 : Nat) : Int) (allOf d (areaL d.now.length 1) ((d.now.length - 2) / 2)) = recE 0 :: ops.map recO) (hrep : (replayL lZ ops 0).2.2 = 0)
    (hR : ∀ w' v, Kp [] w w' → LX X w' v (replayL lZ ops 0).1 → R (.tuple #[v, .bool true]) w') : callG prog 38 #[.pointer (some ⟨bd, 0, none⟩), .int .i64 ((1 : Nat) : Int)] w R := by
  refine Fn44_call ?_
  unfold Fn44 Fn44_s4
  have hmost := hd.ok.most
  obtain ⟨a1, a2⟩ := areaL_le (t := 1) h4
  refine zeroVX (X := X) fun p4 w1 hp4 k1 c4 => ?_
  have z1 := k1.size
  refine area_k (hd.keep k1 (by simp)) (by omega) 1 ?_
  rw [ex0, ex1]
  refine Open_ok (hd.keep k1 (by simp)) hoff (lo := areaL d.now.length 1) (hi := areaL d.now.length 1 + (d.now.length - 2) / 2) (by omega) a2 (turn := ((1 : Nat) : Int)) (by decide) fun w2 a lv SL hL k2 ha hSL => ?_
  rw [Nat.add_sub_cancel_left, hsc] at hL
  rw [ex0, ex1]
  simp only [bq_neq, bV_b, decide_eq_true_eq]
  refine ⟨fun hh => absurd rfl hh, fun _ => ?_⟩
  refine Records_spec hL (by simp; omega) fun w3 v3 S3 h3 k3 hS3 => ?_
  refine laid_k (rest := ops.map recO) ⟨S3, .inr h3.rd⟩ (by rw [List.length_map]; omega) fun w4 vr k4 hr4 => ?_
  rw [e3_0, e3_1, e3_2]
  have k14 := (k2.trans' k3).trans' k4
  have z4 := k14.size
  refine newVX (X := p4 :: X) (lz_x w4) fun p10 w5 hp10 k5 c10 => ?_
  have c4' := ((c4.keep k14).more hp10).keep k5
  simp only [un_not, bV_b]
  refine ⟨fun hh => by simp at hh, fun _ => ?_⟩
  have hr5 := hr4.keep k5
  unfold Fn44_s3
  rw [hr5.lenL, List.length_map, List.length_map]
  unfold Fn44_L2
  refine loop_inv (fun m xs w' => ∃ k vo, k ≤ ops.length ∧ m = ops.length - k ∧ xs = [.pointer (some ⟨p4, 0, none⟩), .pointer (some ⟨p10, 0, none⟩), vo, vr, .int .i64 (ops.length : Nat), .int .i64 (k : Nat)] ∧ Fr w5 w' vo 7 ((ops.take k).map opC)) ?_ (m := ops.length) ⟨0, .slice none 0 0, by omega, rfl, rfl, by simpa using fr_nil (Kp.refl _ _)⟩
  rintro m N xs w6 ⟨k, vo, hk, rfl, rfl, hf⟩ hN
  have k6 := hf.kp
  unfold Fn44_L2F Fn44_b1
  dsimp only
  simp only [bq_lss, bV_b, decide_eq_true_eq, decide_eq_false_iff_not]
  refine ⟨fun hlt => ?_, fun hge => ?_⟩
  · have hlt : k < ops.length := by omega
    obtain ⟨ho1, ho2⟩ := hops _ (List.getElem_mem hlt)
    obtain ⟨pe, i1, i2⟩ := rd_str (hr5.keep k6) (i := k) (by simpa using hlt)
    have hg : (ops.map recO)[k]'(by simpa using hlt) = 79 :: (putOp ops[k]).1 := by simp [recO]
    rw [i1, i2, hg, slS_tail8]
    have hpl := putOp_short ops[k]
    refine TakeOp_spec _ (by omega) fun w7 k7 => ?_
    rw [ho1, ex0, ex1]
    refine boxOp (by rw [zcOp]; rfl) fun p16 w8 hp16 h16 k8 => ?_
    rw [slS_head8, show (Value.string ⟨#[79]⟩) = .string (str [79]) from rfl, bq_nes8]
    simp only [bV_b]
    refine ⟨fun hh => by simp at hh, fun _ => ?_⟩
    simp only [bq_neq, bV_b, decide_eq_true_eq]
    refine ⟨fun hh => absurd rfl hh, fun _ => ?_⟩
    rw [ldOp h16]
    refine bsl_rowN (n := 7) (cs := opC ops[k]) (by omega) rfl rfl fun v9 w9 hf9 => ?_
    rw [zcOp]
    refine fr_push (wx := w9) (k := 7) ((hf.keep (k7.trans' k8)).keep hf9.kp) hf9.rd (by omega) rfl rfl (by rw [List.length_map, List.length_take]; omega) (by rw [List.length_map, List.length_take]; omega) fun v10 w10 hf10 => ?_
    have e2 : IntKind.i64.wrap ((k : Int) + 1) = ((k + 1 : Nat) : Int) := by rw [w64 (by omega) (by omega)]; simp
    simp only [bq_add, e2]
    refine hN (ops.length - (k + 1)) _ w10 (by omega) ⟨k + 1, v10, by omega, rfl, rfl, ?_⟩
    rw [take_snoc hlt, List.map_append]
    exact hf10
  · have : k = ops.length := by omega
    subst this
    rw [List.take_length] at hf
    unfold Fn44_s0
    have c10' := c10.keep k6
    have c46 := c4'.keep k6
    obtain ⟨v7, hld7, hv7⟩ := c10'.ld
    rw [hld7]
    have z5 := k5.size
    have z6 := k6.size
    have hX6 : ∀ q ∈ p10 :: p4 :: X, q < w6.heap.size := by
      intro q hq
      rcases List.mem_cons.1 hq with rfl | hq
      · exact c10'.lt
      · rcases List.mem_cons.1 hq with rfl | hq
        · exact c46.lt
        · have := hX q hq; omega
    refine Replay_X may_z hv7 hX6 ⟨hf.rd, fun o ho => (hops o ho).2⟩ (by omega) fun v8 w8 k8 hv8 => ?_
    rw [e3_0, e3_1, e3_2]
    refine VX.st (c10'.keep k8) hv8 fun w9 k9 c9 => ?_
    obtain ⟨v10, hld10, hv10⟩ := c9.ld
    rw [hld10, hrep]
    simp only [bq_eql]
    rw [show decide True = true from rfl]
    have lt4 := c4.lt
    have c49 : VX (p10 :: p4 :: X) w9 p4 lZ := (c46.keep k8).keepS k9 (fun q hq => by simp at hq; simp [hq]) (by simp; omega)
    have z8 := k8.size
    refine retVX (K := fun v w => R (.tuple #[v, .bool true]) w) c49 hv10 fun w11 k11 hv11 => ?_
    refine hR w11 v10 ?_ (hv11.less fun q hq => by simp [hq])
    have k08 : Kp [] w w8 := ((((k1.trans' k14).trans' k5).trans' k6).trans' k8)
    exact (k08.trans k9 fun y hy hlt => by simp at hy; omega).trans k11 fun y hy hlt => by simp at hy; omega
end
end Go.Proofs

set_option maxRecDepth 100000
set_option linter.unusedVariables false
set_option linter.unusedSimpArgs false
namespace Go.Proofs
open Go Go.Q
open Tryz (prog)
def nought : List UInt8 := List.replicate 32 0
theorem read_ok8 {d : DK} (ho : d.off = false) {a : Nat} (ha : a < d.now.length) : d.read (a : Nat) = (sec d.now a, 0) := by
  unfold DK.read sec
  rw [if_pos (by omega), ho]
  simp
theorem KC.stt {w : World} {kb bd : Nat} {l : LV} {t : Nat} {lp : Value} {X : List Nat} (h : KC w kb bd l t lp X) {t' : Nat} {K : World → Prop} (hK : ∀ w', KC w' kb bd l t' lp X → Kp [kb] w w' → K w') : st1 (.pointer (some ⟨kb, 0 + 5, none⟩)) (.int .i64 (t' : Nat)) w K := by
  obtain ⟨a, b, c, h1, h2⟩ := h.ex
  rw [stF h1 (by simp) rfl]
  have hk : Kp [kb] w (setBlk w kb (.cells ((#[Value.pointer (some ⟨bd, 0, none⟩), a, b, c, .int .i64 l.ops, .int .i64 (t : Nat), lp] : Array Value).setIfInBounds (0 + 5) (.int .i64 (t' : Nat))) 58)) := (Kp.refl _ _).setBlk (.inl (by simp)) _
  exact hK _ ⟨a, b, c, heap_self (live_of h1), h2.keepS hk (by simp)⟩ hk
theorem zcK : zc prog 58 = #[.pointer none, .slice none 0 0, .slice none 0 0, .slice none 0 0, .int .i64 0, .int .i64 0, .pointer none] := by kernel_rfl
def Slot1 (d : DK) (l : LV) (t : Nat) : Prop :=
  (sec d.now 1 = nought ∧ l = lZ ∧ t = 0) ∨ (sec d.now 1 = headK 1 ∧ t = 1 ∧ ∃ ops : List OpV, (∀ o ∈ ops, takeOp (putOp o).1 = (o, 0) ∧ o.Wf) ∧ ops.length < 2 ^ 20 ∧ scan ((1 : Nat) : Int) (allOf d (areaL d.now.length 1) ((d.now.length - 2) / 2)) = recE 0 :: ops.map recO ∧ (replayL lZ ops 0).2.2 = 0 ∧ l = (replayL lZ ops 0).1)
section
variable {w0 w w' : World} {kb bd : Nat} {l : LV} {t : Nat} {lp : Value} {S : List Nat} {R : KW} {d : DK}
theorem Open_k (o : Own w0 w bd d S) (hcalm : Calm d) (hflow : Flow d) (hdl : d.l.length < 2 ^ 30) (h4 : 4 ≤ d.now.length) (hn : d.now.length ≤ 120) (h0 : sec d.now 0 = nought) (h1 : Slot1 d l t) (hm : May l) (hw : LWf l) (hrec : Recs (recL l)) (hfit : usedOf (recL l) ≤ 32 * ((d.now.length - 2) / 2))
    (hR : ∀ w' kb ab B d', KS w0 w' kb bd ab l (t + 1) (logOf d.now.length (t + 1) (recL l)) d' B → Laid d d' (t + 1) (recL l) → Kp S w w' → (∀ y ∈ B, y ∈ S ∨ w.heap.size ≤ y) → w.heap.size ≤ kb → R (.tuple #[.pointer (some ⟨kb, 0, none⟩), .int .i64 0]) w') :
    callG prog 11 #[.pointer (some ⟨bd, 0, none⟩)] w R := by
  refine Fn37_call ?_
  unfold Fn37 Fn37_s7
  have hlS := o.at_.live
  have z0 := o.kp.size
  have ht1 : t ≤ 1 := by rcases h1 with h | h <;> omega
  refine Size_spec o.at_ ?_
  simp only [bq_lss, bV_b, decide_eq_true_eq, decide_eq_false_iff_not]
  refine ⟨fun hh => by omega, fun _ => ?_⟩
  refine Off_spec o.at_ ?_
  rw [hcalm.off]
  simp only [bV_b]
  refine ⟨fun hh => by simp at hh, fun _ => ?_⟩
  have hbl : ∀ K : Value → Prop, bld [(0, 1), (1, 4), (5, 1), (6, 1)] (zc prog 58) #[(0, .pointer (some ⟨bd, 0, none⟩))] K = K (.agg #[.pointer (some ⟨bd, 0, none⟩), .slice none 0 0, .slice none 0 0, .slice none 0 0, .int .i64 0, .int .i64 0, .pointer none]) := fun K => by rw [zcK]; rfl
  rw [hbl]
  refine argB fun kb w1 hkb hc1 k1 => ?_
  have z1 := k1.size
  have hkbS : kb ∉ S := fun hm => by have := hlS kb hm; omega
  have kc1 : KC w1 kb bd lZ 0 (.pointer none) S := ⟨_, _, _, hc1, lz_x w1⟩
  unfold Fn37_s6 Fn37_L5
  -- a slot that is passed over
  have pass : ∀ (k : Nat) (w2 : World) (N : KL), k < 2 → sec d.now k = nought → Kp [] w w2 → (∀ w3, Kp [] w2 w3 → N [.pointer (some ⟨bd, 0, none⟩), .pointer (some ⟨kb, 0, none⟩), .int .i64 ((k + 1 : Nat) : Int)] w3) →
      Fn37_s3 R N (.pointer (some ⟨bd, 0, none⟩)) (.pointer (some ⟨kb, 0, none⟩)) (.int .i64 (k : Nat)) w2 := by
    intro k w2 N hk hs k2 hN
    unfold Fn37_s3
    refine Read_spec (o.at_.keep k2 (by simp)) _ ?_
    rw [read_ok8 hcalm.off (by omega), hs, ex0, ex1]
    refine crcTake_spec nought (by simp [nought]) ?_
    rw [if_neg (by simp [nought]), show takeN nought 4 = 0 by decide]
    simp only [bq_lss, bV_b, decide_eq_true_eq, decide_eq_false_iff_not]
    refine ⟨fun _ => ?_, fun hh => by omega⟩
    unfold Fn37_s1
    have e2 : IntKind.i64.wrap ((k : Int) + 1) = ((k + 1 : Nat) : Int) := by rw [w64 (by omega) (by omega)]; simp
    simp only [bq_add, e2]
    exact hN w2 (Kp.refl _ _)
  refine loop_inv (fun m xs w' => ∃ k, k ≤ 2 ∧ m = 2 - k ∧ xs = [.pointer (some ⟨bd, 0, none⟩), .pointer (some ⟨kb, 0, none⟩), .int .i64 (k : Nat)] ∧ (k ≤ 1 → KC w' kb bd lZ 0 (.pointer none) S) ∧ (k = 2 → KC w' kb bd l t (.pointer none) S) ∧ Kp [] w w') ?_ (m := 2) ⟨0, by omega, rfl, rfl, fun _ => kc1, fun hh => by omega, k1⟩
  rintro m N xs w2 ⟨k, hk, rfl, rfl, hkc, hkc2, k2⟩ hN
  unfold Fn37_L5F Fn37_s4
  dsimp only
  simp only [bq_lss, bV_b, decide_eq_true_eq, decide_eq_false_iff_not]
  refine ⟨fun hlt => ?_, fun hge => ?_⟩
  · rcases (show k = 0 ∨ k = 1 by omega) with rfl | rfl
    · refine pass 0 w2 N (by omega) h0 k2 fun w3 k3 => ?_
      exact hN 1 _ w3 (by omega) ⟨1, by omega, rfl, rfl, fun _ => (hkc (by omega)).keep0 k3, fun hh => by omega, k2.trans' k3⟩
    · have kc2 := hkc (by omega)
      rcases h1 with ⟨g1, rfl, rfl⟩ | ⟨g1, rfl, ops, g2, g3, g4, g5, rfl⟩
      · refine pass 1 w2 N (by omega) g1 k2 fun w3 k3 => ?_
        exact hN 0 _ w3 (by omega) ⟨2, by omega, rfl, rfl, fun hh => by omega, fun _ => kc2.keep0 k3, k2.trans' k3⟩
      · unfold Fn37_s3
        refine Read_spec (o.at_.keep k2 (by simp)) _ ?_
        rw [read_ok8 hcalm.off (by omega), g1, ex0, ex1]
        refine crcTake_spec (headK 1) (by rw [headK_len]; omega) ?_
        have htk : takeN (headK 1) 4 = 1 := by
          unfold headK
          rw [List.append_assoc]
          exact take_put 1 (by omega) _
        rw [if_neg (by rw [headK_len]; omega), htk]
        simp only [bq_lss, bV_b, decide_eq_true_eq, decide_eq_false_iff_not]
        refine ⟨fun hh => by omega, fun _ => ?_⟩
        simp only [bq_gtr, bV_b, decide_eq_true_eq, decide_eq_false_iff_not]
        refine ⟨fun hh => by omega, fun _ => ?_⟩
        rw [rem_of (by omega) (by omega), show (((1 : Nat) : Int) % 2) = ((1 : Nat) : Int) by decide]
        simp only [bq_neq, bV_b, decide_eq_true_eq]
        refine ⟨fun hh => absurd rfl hh, fun _ => ?_⟩
        refine head_k _ fun w3 k3 => ?_
        rw [show headK ((1 : Nat) : Int) = headK 1 from rfl, bq_nes8]
        simp only [bV_b]
        refine ⟨fun hh => by simp at hh, fun _ => ?_⟩
        have kc3 := kc2.keep0 k3
        rw [nk_p, fa_p, kc3.ldt]
        simp only [bq_leq, bV_b, decide_eq_true_eq, decide_eq_false_iff_not]
        refine ⟨fun hh => by omega, fun _ => ?_⟩
        unfold Fn37_s2
        have k03 := k2.trans' k3
        have z3 := k03.size
        have lkb := kc3.lt
        refine whole_k (X := kb :: S) (o.at_.keep k03 (by simp)) hcalm.off h4 (fun q hq => by
          rcases List.mem_cons.1 hq with rfl | hq
          · exact lkb
          · have := hlS q hq; omega) g2 g3 g4 g5 fun w4 v4 k4 hv4 => ?_
        rw [ex0, ex1]
        refine newVX hv4 fun p9 w5 hp9 k5 c9 => ?_
        simp only [bV_b]
        refine ⟨fun _ => ?_, fun hh => by simp at hh⟩
        obtain ⟨vv, a, b, c, hh5, hve, hlx⟩ := c9.ex
        rw [ldAll (k := 4) hh5 rfl, nk_p, fa_p]
        have kc5 := (kc3.keep0 k4).keep0 k5
        refine kc5.stl (l' := (replayL lZ ops 0).1) (by rw [← hve]; exact hlx.less fun q hq => by simp only [List.mem_cons] at hq ⊢; exact .inr hq) fun w6 kc6 k6 => ?_
        rw [nk_p, fa_p]
        refine kc6.stt (t' := 1) fun w7 kc7 k7 => ?_
        unfold Fn37_s1
        have e2 : IntKind.i64.wrap (((1 : Nat) : Int) + 1) = ((2 : Nat) : Int) := by decide
        simp only [bq_add, e2]
        refine hN 0 _ w7 (by omega) ⟨2, by omega, rfl, rfl, fun hh => by omega, fun _ => kc7, ?_⟩
        exact (((k03.trans' k4).trans' k5).trans k6 fun y hy hlt => by simp at hy; omega).trans k7 fun y hy hlt => by simp at hy; omega
  · have : k = 2 := by omega
    subst this
    have kc2 := hkc2 rfl
    unfold Fn37_s0
    refine lay_k (o.keep k2) (by omega) hkbS kc2 rfl hm hw hcalm hflow hdl h4 hn (by omega) hrec hfit fun w3 ab B d' hs hl k3 hB => ?_
    simp only [bq_neq, bV_b, decide_eq_true_eq]
    refine ⟨fun hh => absurd rfl hh, fun _ => ?_⟩
    have z2 := k2.size
    refine hR w3 kb ab B d' hs hl ?_ (fun y hy => (hB y hy).imp id fun hh => by omega) hkb
    exact (k2.mono (S' := S) (by simp)).trans k3 fun y hy hlt => by
      rcases List.mem_cons.1 hy with rfl | hy
      · omega
      · exact hy
end
end Go.Proofs

set_option maxRecDepth 100000
set_option linter.unusedVariables false
set_option linter.unusedSimpArgs false
namespace Go.Proofs
open Go Go.Q
open Tryz (prog)
def pc (s : List UInt8) (n k : Nat) : List UInt8 := ((s ++ List.replicate (n - s.length) 0).drop (32 * k)).take 32
theorem pc_mid {s : List UInt8} {n k : Nat} (h1 : 32 * k ≤ s.length) (hn : s.length ≤ n) (hk : 32 * k + 32 ≤ n) : pc s n k = (s.drop (32 * k)).take 32 ++ List.replicate (32 - min 32 (s.length - 32 * k)) 0 := by
  unfold pc
  rw [List.drop_append_of_le_length h1, List.take_append, List.length_drop, List.take_replicate]
  congr 2
  omega
theorem pc_end {s : List UInt8} {n k : Nat} (h1 : s.length ≤ 32 * k) (hk : 32 * k + 32 ≤ n) : pc s n k = List.replicate 32 0 := by
  unfold pc
  rw [List.drop_append, List.drop_eq_nil_of_le h1, List.nil_append, List.drop_replicate, List.take_replicate]
  congr 1
  omega
theorem pc_len {s : List UInt8} {n k : Nat} (hn : s.length ≤ n) (hk : 32 * k + 32 ≤ n) : (pc s n k).length = 32 := by
  unfold pc
  rw [List.length_take, List.length_drop, List.length_append, List.length_replicate]; omega
theorem secOf_eq {all : List UInt8} {k : Nat} : secOf all k = (all.drop (32 * k)).take 32 := by
  unfold secOf
  rw [List.drop_take]
  by_cases h : 32 * k + 32 ≤ all.length
  · rw [show min (32 * k + 32) all.length - 32 * k = 32 by omega]
  · rw [List.take_of_length_le (by rw [List.length_drop]; omega), List.take_of_length_le (by rw [List.length_drop]; omega)]
theorem put_sec {u v : List UInt8} {n k : Nat} (hu : u.length < 32 * k + 32) (hk1 : 32 * k < (u ++ v).length) (hn : (u ++ v).length ≤ n) (hk : 32 * k + 32 ≤ n) : secOf (u ++ v) k ++ (pc u n k).drop (secOf (u ++ v) k).length = pc (u ++ v) n k := by
  rw [pc_mid (by omega) hn hk, secOf_eq]
  congr 1
  have hl : ((List.drop (32 * k) (u ++ v)).take 32).length = min 32 ((u ++ v).length - 32 * k) := by rw [List.length_take, List.length_drop]
  rw [hl]
  have hun : u.length ≤ n := by rw [List.length_append] at hn; omega
  by_cases h : 32 * k + 32 ≤ (u ++ v).length
  · rw [show min 32 ((u ++ v).length - 32 * k) = 32 by omega, List.drop_eq_nil_of_le (by rw [pc_len hun hk]; omega)]
    rfl
  · rw [show min 32 ((u ++ v).length - 32 * k) = (u ++ v).length - 32 * k by omega]
    have huv : u.length ≤ (u ++ v).length := by rw [List.length_append]; omega
    unfold pc
    rw [List.drop_take, List.drop_drop, show 32 * k + ((u ++ v).length - 32 * k) = (u ++ v).length by omega, List.drop_append, List.drop_eq_nil_of_le huv, List.nil_append, List.drop_replicate, List.take_replicate]
    congr 1
    omega
theorem pc_same {u v : List UInt8} {n k : Nat} (h : 32 * k + 32 ≤ u.length ∨ (u ++ v).length ≤ 32 * k) (hn : (u ++ v).length ≤ n) (hk : 32 * k + 32 ≤ n) : pc (u ++ v) n k = pc u n k := by
  have hla : (u ++ v).length = u.length + v.length := List.length_append
  rcases h with h | h
  · rw [pc_mid (by omega) hn hk, pc_mid (by omega) (by omega) hk]
    rw [List.drop_append_of_le_length (by omega), List.take_append_of_le_length (by rw [List.length_drop]; omega)]
    congr 2
    omega
  · rw [pc_end h hk, pc_end (by omega) hk]
structure LS (n t : Nat) (g : LG) (d : DK) (rs : List (List UInt8)) : Prop where
  g : g = logOf n t rs
  calm : Calm d
  flow : Flow d
  len : d.now.length = n
  rows : ∀ x ∈ d.now, x.length = 32
  secs : ∀ k, k < (n - 2) / 2 → sec d.now (areaL n t + k) = pc (fr ((t : Nat) : Int) rs) (32 * ((n - 2) / 2)) k
  fit : usedOf rs ≤ 32 * ((n - 2) / 2)
theorem LS.area {n t : Nat} {g : LG} {d : DK} {rs : List (List UInt8)} (h : LS n t g d rs) (h4 : 4 ≤ n) : allOf d (areaL n t) ((n - 2) / 2) = fr ((t : Nat) : Int) rs ++ List.replicate (32 * ((n - 2) / 2) - usedOf rs) 0 := by
  have := areaL_le (t := t) h4
  have hf := h.fit
  rw [← fr_len ((t : Nat) : Int) rs]
  exact sec_flat (by rw [h.len]; omega) (by rw [List.length_append, List.length_replicate, fr_len]; omega) h.secs
theorem flat_sec {L : List (List UInt8)} (hr : ∀ x ∈ L, x.length = 32) {a n k : Nat} (h : a + n ≤ L.length) (hk : k < n) : sec L (a + k) = ((((L.drop a).take n).flatten).drop (32 * k)).take 32 := by
  have e : ∀ m, m ≤ n → ∀ j, j < m → sec L (a + j) = ((((L.drop a).take m).flatten).drop (32 * j)).take 32 := by
    intro m
    induction m with
    | zero => intro _ j hj; omega
    | succ m ih =>
      intro hm j hj
      have hg : m < (L.drop a).length := by rw [List.length_drop]; omega
      have hlen : (((L.drop a).take m).flatten).length = 32 * m := by
        rw [flat_len (k := 32) (fun x hx => hr x (List.mem_of_mem_drop (List.mem_of_mem_take hx))), List.length_take, List.length_drop]; omega
      have hgm : (L.drop a)[m] = sec L (a + m) := by
        rw [List.getElem_drop]; unfold sec; simp [List.getD, show a + m < L.length by omega]
      have hl32 : (sec L (a + m)).length = 32 := by
        rw [← hgm]; exact hr _ (List.mem_of_mem_drop (List.getElem_mem hg))
      rw [take_snoc hg, List.flatten_append, List.flatten_cons, List.flatten_nil, List.append_nil, hgm]
      by_cases hjm : j < m
      · rw [List.drop_append_of_le_length (by omega), List.take_append_of_le_length (by rw [List.length_drop]; omega)]
        exact ih (by omega) j hjm
      · have : j = m := by omega
        subst this
        rw [List.drop_append, List.drop_eq_nil_of_le (by omega), List.nil_append, hlen, Nat.sub_self, List.drop_zero, List.take_of_length_le (by omega)]
  exact e n (Nat.le_refl _) k hk
theorem Laid.ls {d d' : DK} {t : Nat} {rs : List (List UInt8)} (h : Laid d d' t rs) (h4 : 4 ≤ d.now.length) (hfit : usedOf rs ≤ 32 * ((d.now.length - 2) / 2)) : LS d.now.length t (logOf d.now.length t rs) d' rs := by
  have := areaL_le (t := t) h4
  refine ⟨rfl, h.calm, h.flow, h.len, h.rows, fun k hk => ?_, hfit⟩
  rw [flat_sec h.rows (a := areaL d.now.length t) (n := (d.now.length - 2) / 2) (by rw [h.len]; omega) hk]
  have ha := h.area
  unfold allOf at ha
  rw [ha]
  unfold pc
  rw [fr_len]
theorem putN_pc {n lo : Nat} {u v : List UInt8} (hn : (u ++ v).length ≤ n) : ∀ (m : Nat) {d : DK} {k : Nat}, Calm d → Flow d → (∀ x ∈ d.now, x.length = 32) → lo + k + m ≤ d.now.length → u.length < 32 * k + 32 → (0 < m → 32 * (k + m - 1) < (u ++ v).length) → 32 * (k + m) ≤ n → (∀ j, k ≤ j → j < k + m → sec d.now (lo + j) = pc u n j) →
    (putN lo (u ++ v) d k m).2 = 0 ∧ Calm (putN lo (u ++ v) d k m).1 ∧ Flow (putN lo (u ++ v) d k m).1 ∧ (putN lo (u ++ v) d k m).1.sure = d.sure ∧ (putN lo (u ++ v) d k m).1.now.length = d.now.length ∧ (∀ x ∈ (putN lo (u ++ v) d k m).1.now, x.length = 32) ∧ (∀ j, k ≤ j → j < k + m → sec (putN lo (u ++ v) d k m).1.now (lo + j) = pc (u ++ v) n j) ∧ (∀ i, i < lo + k ∨ lo + k + m ≤ i → sec (putN lo (u ++ v) d k m).1.now i = sec d.now i) := by
  intro m
  induction m with
  | zero =>
    intro d k hc hf hr hl hu hv hk hs
    exact ⟨rfl, hc, hf, rfl, rfl, hr, fun j h1 h2 => by omega, fun i _ => rfl⟩
  | succ m ih =>
    intro d k hc hf hr hl hu hv hk hs
    have hv0 : 32 * k < (u ++ v).length := by have := hv (by omega); omega
    have hun : u.length ≤ n := by rw [List.length_append] at hn; omega
    have hi : lo + k < d.now.length := by omega
    have hrd := read_ok8 hc.off hi
    have hsk := hs k (by omega) (by omega)
    have hx : secOf (u ++ v) k ++ (sec d.now (lo + k)).drop (secOf (u ++ v) k).length = pc (u ++ v) n k := by rw [hsk]; exact put_sec hu hv0 hn (by omega)
    have hxl := pc_len (s := u ++ v) (n := n) (k := k) hn (by omega)
    have hp : putK d lo (u ++ v) k = ({ d with now := d.now.set (lo + k) (pc (u ++ v) n k), l := d.l ++ [(lo + k, pc (u ++ v) n k)] }, 0) := by
      unfold putK
      rw [hrd, if_pos rfl, hx, write_calm hc.off hc.fuse hi hxl]
    have hgo : putN lo (u ++ v) d k (m + 1) = putN lo (u ++ v) { d with now := d.now.set (lo + k) (pc (u ++ v) n k), l := d.l ++ [(lo + k, pc (u ++ v) n k)] } (k + 1) m := by
      show (if (putK d lo (u ++ v) k).2 = 0 then putN lo (u ++ v) (putK d lo (u ++ v) k).1 (k + 1) m else putK d lo (u ++ v) k) = _
      rw [hp, if_pos rfl]
    rw [hgo]
    obtain ⟨a1, a2, a3, a4, a5, a6, a7, a8⟩ := ih (d := { d with now := d.now.set (lo + k) (pc (u ++ v) n k), l := d.l ++ [(lo + k, pc (u ++ v) n k)] }) (k := k + 1) ⟨hc.off, hc.fuse⟩ (by
      show d.now.set (lo + k) _ = applyAll d.sure (d.l ++ [(lo + k, _)])
      rw [applyAll_snoc, ← hf]) (fun x hx => by
      rcases List.mem_or_eq_of_mem_set hx with hx | hx
      · exact hr x hx
      · rw [hx]; exact hxl) (by simp; omega) (by omega) (fun hm => by have := hv (by omega); rw [show k + 1 + m - 1 = k + (m + 1) - 1 by omega]; exact this) (by omega) (fun j h1 h2 => by
      show sec (d.now.set (lo + k) _) _ = _
      rw [sec_set hi, if_neg (by omega)]
      exact hs j (by omega) (by omega))
    refine ⟨a1, a2, a3, a4, a5.trans (by simp), a6, fun j h1 h2 => ?_, fun i h1 => ?_⟩
    · by_cases hj : j = k
      · subst hj
        rw [a8 _ (.inl (by omega))]
        show sec (d.now.set (lo + j) _) _ = _
        rw [sec_set hi, if_pos rfl]
      · exact a7 j (by omega) (by omega)
    · rw [a8 i (by omega)]
      show sec (d.now.set (lo + k) _) _ = _
      rw [sec_set hi, if_neg (by omega)]
theorem LS.add {n t : Nat} {g : LG} {d : DK} {rs grp : List (List UInt8)} (h : LS n t g d rs) (h4 : 4 ≤ n) (ht1 : 1 ≤ t) (ht2 : t ≤ 2147483647) (hr : Recs grp) (hu : usedOf rs + usedOf grp ≤ 32 * ((n - 2) / 2)) :
    (addG g d grp).2.2 = 0 ∧ LS n t (addG g d grp).1 (addG g d grp).2.1 (rs ++ grp) ∧ (addG g d grp).2.1.sure = d.sure ∧ (addG g d grp).2.1.l.length ≤ d.l.length + n ∧ ∀ i, i < areaL n t ∨ areaL n t + (n - 2) / 2 ≤ i → sec (addG g d grp).2.1.now i = sec d.now i := by
  obtain ⟨b1, b2⟩ := areaL_le (t := t) h4
  have hg := h.g
  have hlen := h.len
  have hsecs := h.secs
  generalize hH : (n - 2) / 2 = H at *
  generalize hA : areaL n t = A at *
  have hto := turnOk_of ht1 ht2
  have hul : (fr ((t : Nat) : Int) rs).length = usedOf rs := fr_len _ rs
  have hug : (fr ((t : Nat) : Int) grp).length = usedOf grp := fr_len _ grp
  have glo : g.lo.toNat = A := by rw [hg]; unfold logOf; rw [hA]; simp
  have gt : g.turn = ((t : Nat) : Int) := by rw [hg]; rfl
  have gused : g.used = fr ((t : Nat) : Int) rs := by rw [hg]; rfl
  have gl : g.l = rs := by rw [hg]; rfl
  have groom : roomOf g = 32 * (H : Nat) - (usedOf rs : Nat) := by
    unfold roomOf
    rw [gused, hul, hg]
    unfold logOf
    rw [hA, hH]
    simp only
    omega
  have hrun := addRun_fits (t := ((t : Nat) : Int)) (room := roomOf g) hto grp [] hr (by rw [groom]; simp; omega)
  rw [List.nil_append] at hrun
  have hadd : addG g d grp = (if (if 0 < (fr ((t : Nat) : Int) grp).length then putN A (fr ((t : Nat) : Int) rs ++ fr ((t : Nat) : Int) grp) d ((fr ((t : Nat) : Int) rs).length / 32) (((fr ((t : Nat) : Int) rs ++ fr ((t : Nat) : Int) grp).length + 31) / 32 - (fr ((t : Nat) : Int) rs).length / 32) else (d, 0)).2 = 0 then ({ g with l := rs ++ grp, used := fr ((t : Nat) : Int) rs ++ fr ((t : Nat) : Int) grp }, (if 0 < (fr ((t : Nat) : Int) grp).length then putN A (fr ((t : Nat) : Int) rs ++ fr ((t : Nat) : Int) grp) d ((fr ((t : Nat) : Int) rs).length / 32) (((fr ((t : Nat) : Int) rs ++ fr ((t : Nat) : Int) grp).length + 31) / 32 - (fr ((t : Nat) : Int) rs).length / 32) else (d, 0)).1, 0) else (g, (if 0 < (fr ((t : Nat) : Int) grp).length then putN A (fr ((t : Nat) : Int) rs ++ fr ((t : Nat) : Int) grp) d ((fr ((t : Nat) : Int) rs).length / 32) (((fr ((t : Nat) : Int) rs ++ fr ((t : Nat) : Int) grp).length + 31) / 32 - (fr ((t : Nat) : Int) rs).length / 32) else (d, 0)).1, (if 0 < (fr ((t : Nat) : Int) grp).length then putN A (fr ((t : Nat) : Int) rs ++ fr ((t : Nat) : Int) grp) d ((fr ((t : Nat) : Int) rs).length / 32) (((fr ((t : Nat) : Int) rs ++ fr ((t : Nat) : Int) grp).length + 31) / 32 - (fr ((t : Nat) : Int) rs).length / 32) else (d, 0)).2)) := by
    unfold addG
    rw [gt, hrun, glo, gused, gl]
    simp
  generalize hU : fr ((t : Nat) : Int) rs = U at *
  generalize hV : fr ((t : Nat) : Int) grp = V at *
  have hUV : (U ++ V).length = usedOf rs + usedOf grp := by rw [List.length_append, hul, hug]
  have hfr : fr ((t : Nat) : Int) (rs ++ grp) = U ++ V := by rw [fr_append, hU, hV]
  have hgn : ({ g with l := rs ++ grp, used := U ++ V } : LG) = logOf n t (rs ++ grp) := by rw [hg]; unfold logOf; rw [hfr]
  by_cases h0 : 0 < V.length
  · rw [if_pos h0] at hadd
    obtain ⟨a1, a2, a3, a4, a5, a6, a7, a8⟩ := putN_pc (n := 32 * H) (lo := A) (u := U) (v := V) (by omega) (((U ++ V).length + 31) / 32 - U.length / 32) (d := d) (k := U.length / 32) h.calm h.flow h.rows (by omega) (by omega) (fun _ => by omega) (by omega) (fun j _ hj2 => by
      have := hsecs j (by omega)
      exact this)
    have hll := putN_l A (U ++ V) (((U ++ V).length + 31) / 32 - U.length / 32) d (U.length / 32)
    rw [if_pos a1] at hadd
    rw [hadd]
    refine ⟨rfl, ⟨hgn, a2, a3, a5.trans hlen, a6, fun k hk => ?_, by rw [usedOf_append, hH]; exact hu⟩, a4, by dsimp only; omega, fun i hi => a8 i (by omega)⟩
    rw [hH] at hk ⊢
    rw [hA, hfr]
    show sec (putN A (U ++ V) d (U.length / 32) (((U ++ V).length + 31) / 32 - U.length / 32)).1.now (A + k) = _
    by_cases hin : U.length / 32 ≤ k ∧ k < U.length / 32 + (((U ++ V).length + 31) / 32 - U.length / 32)
    · exact a7 k hin.1 hin.2
    · rw [a8 _ (by omega), hsecs k hk, pc_same (by omega) (by omega) (by omega)]
  · rw [if_neg h0, if_pos rfl] at hadd
    have hV0 : V = [] := List.length_eq_zero_iff.1 (by omega)
    rw [hadd]
    refine ⟨rfl, ⟨hgn, h.calm, h.flow, hlen, h.rows, fun k hk => ?_, by rw [usedOf_append, hH]; exact hu⟩, rfl, by dsimp only; omega, fun i hi => rfl⟩
    rw [hH] at hk ⊢
    rw [hA, hfr, hV0, List.append_nil]
    exact hsecs k hk
theorem LS.full {n t : Nat} {g : LG} {d : DK} {rs : List (List UInt8)} {s : List UInt8} (h : LS n t g d rs) (ht1 : 1 ≤ t) (ht2 : t ≤ 2147483647) (hr : s ≠ [] ∧ s.length ≤ 1024) (hu : 32 * ((n - 2) / 2) < usedOf rs + usedOf [s]) : addG g d [s] = (g, d, 2) := by
  have hg := h.g
  have hto := turnOk_of ht1 ht2
  have gt : g.turn = ((t : Nat) : Int) := by rw [hg]; rfl
  have gused : g.used = fr ((t : Nat) : Int) rs := by rw [hg]; rfl
  have groom : roomOf g = 32 * (((n - 2) / 2 : Nat) : Int) - (usedOf rs : Nat) := by
    unfold roomOf
    rw [gused, fr_len, hg]
    unfold logOf
    simp only
    omega
  have hfl := frameB_len ((t : Nat) : Int) s
  have hu1 : usedOf [s] = 10 + s.length := by simp [usedOf]
  have hrun : addRun ((t : Nat) : Int) (roomOf g) [s] [] false = (0, [], true) := by
    rw [addRun_cons, frame_rec hto hr, if_pos rfl, if_pos (.inr (by rw [hfl, groom]; simp; omega))]
    rfl
  unfold addG
  rw [gt, hrun]
  simp
end Go.Proofs

set_option maxRecDepth 100000
set_option linter.unusedVariables false
set_option linter.unusedSimpArgs false
namespace Go.Proofs
open Go Go.Q
open Tryz (prog)
def wfB (v : V3) : Bool := decide (-9223372036854775808 ≤ v.k ∧ v.k < 9223372036854775808 ∧ -9223372036854775808 ≤ v.n ∧ v.n < 9223372036854775808 ∧ v.s.length < 2 ^ 39)
theorem wfB_of {v : V3} (h : wfB v = true) : v.Wf := by
  unfold wfB at h
  simp only [decide_eq_true_eq] at h
  exact ⟨h.1, h.2.1, h.2.2.1, h.2.2.2.1, h.2.2.2.2⟩
def lwfB (l : LV) : Bool := (l.st.all fun s => (rowS s).all wfB) && (l.ho.all fun h => (rowH stateT h).all wfB) && (l.mo.all fun h => (rowH kindT h).all wfB) && wfB (numV l.ops)
theorem lwf_of {l : LV} (h : lwfB l = true) : LWf l := by
  unfold lwfB at h
  simp only [Bool.and_eq_true, List.all_eq_true] at h
  obtain ⟨⟨⟨h1, h2⟩, h3⟩, h4⟩ := h
  exact ⟨fun s hs v hv => wfB_of (h1 s hs v hv), fun s hs v hv => wfB_of (h2 s hs v hv), fun s hs v hv => wfB_of (h3 s hs v hv), wfB_of h4⟩
def recsB (rs : List (List UInt8)) : Bool := rs.all fun s => decide (s ≠ [] ∧ s.length ≤ 1024)
theorem recs_of {rs : List (List UInt8)} (h : recsB rs = true) : Recs rs := by
  unfold recsB at h
  rw [List.all_eq_true] at h
  exact fun s hs => of_decide_eq_true (h s hs)
section
variable {w0 w w' : World} {kb bd ab : Nat} {l : LV} {n t : Nat} {B : List Nat} {R : KW} {d : DK} {g : LG} {rs : List (List UInt8)}
theorem submit_ls (h : KS w0 w kb bd ab l t g d B) (hls : LS n t g d rs) (h4 : 4 ≤ n) (hn : n ≤ 120) (ht1 : 1 ≤ t) (ht2 : t ≤ 2147483647) (hrs : rs.length < 2 ^ 37) (hdl : d.l.length < 2 ^ 37) (hm : May l) {o : OpV} (how : o.Wf) (happ : (applyL l o).2 = 0) (hwf : LWf (applyL l o).1) (hrec : Recs (recL (applyL l o).1)) (hO : Recs [recO o])
    (hok : usedOf (recL (applyL l o).1) ≤ 32 * ((n - 2) / 2) → usedOf rs + usedOf [recO o] ≤ 32 * ((n - 2) / 2) → ∀ w' B' g' d', KS w0 w' kb bd ab (applyL l o).1 t g' d' B' → LS n t g' d' (rs ++ [recO o]) → d'.sure = d.sure → d'.l.length ≤ d.l.length + n → (∀ i, i < areaL n t ∨ areaL n t + (n - 2) / 2 ≤ i → sec d'.now i = sec d.now i) → Kp (kb :: B) w w' → (∀ y ∈ B', y ∈ B ∨ w.heap.size ≤ y) → R (.int .i64 0) w')
    (hfull : (¬ usedOf (recL (applyL l o).1) ≤ 32 * ((n - 2) / 2) ∨ ¬ usedOf rs + usedOf [recO o] ≤ 32 * ((n - 2) / 2)) → ∀ w' B', KS w0 w' kb bd ab l t g d B' → Kp (kb :: B) w w' → (∀ y ∈ B', y ∈ B ∨ w.heap.size ≤ y) → R (.int .i64 2) w') :
    callG prog 12 #[.pointer (some ⟨kb, 0, none⟩), .agg (opC o).toArray] w R := by
  have hlen := hls.len
  have hg := hls.g
  have ha := areaL_le (t := t) h4
  have hfit := hls.fit
  have hO1 := hO (recO o) (by simp)
  refine submit_k h hm how (by omega) (fun _ => ⟨hwf, hrec⟩) (by rw [hg]; show rs.length < _; omega) (by omega) (lo := areaL n t) (hi := areaL n t + (n - 2) / 2) (by rw [hg]; rfl) (by rw [hg]; rfl) (by omega) (by omega) (by
    rw [hg]
    show (((fr ((t : Nat) : Int) rs).length : Nat) : Int) ≤ _
    rw [fr_len]; omega) fun w' B' hs hk hB => ?_
  unfold subL at hs ⊢
  rw [if_neg (by rw [happ]; simp)] at hs ⊢
  rw [hlen] at hs ⊢
  by_cases hf1 : usedOf (recL (applyL l o).1) ≤ 32 * ((n - 2) / 2)
  · rw [if_neg (by simpa using hf1)] at hs ⊢
    by_cases hf2 : usedOf rs + usedOf [recO o] ≤ 32 * ((n - 2) / 2)
    · obtain ⟨a1, a2, a3, a4, a5⟩ := hls.add h4 ht1 ht2 hO hf2
      rw [show [79 :: (putOp o).1] = [recO o] from rfl] at hs ⊢
      rw [if_neg (by rw [a1]; simp)] at hs ⊢
      exact hok hf1 hf2 w' B' _ _ hs a2 a3 a4 a5 hk hB
    · have hfu := hls.full ht1 ht2 hO1 (by omega)
      rw [show [79 :: (putOp o).1] = [recO o] from rfl] at hs ⊢
      rw [hfu] at hs ⊢
      rw [if_pos (by simp)] at hs ⊢
      exact hfull (.inr hf2) w' B' hs hk hB
  · rw [if_pos hf1] at hs ⊢
    exact hfull (.inl hf1) w' B' hs hk hB
end
def oR (q : Int) : OpV := ⟨1, [115], [120], [], q, 0, 0⟩
def l5 : LV := ⟨[⟨[115], [120], 5, 0⟩], [], [⟨1, [115], [120], 5, 1, 0⟩], 1⟩
def l7 : LV := ⟨[⟨[115], [120], 7, 0⟩], [], [⟨1, [115], [120], 5, 1, 0⟩, ⟨2, [115], [120], 2, 1, 0⟩], 2⟩
theorem app5 : applyL lZ (oR 5) = (l5, 0) := by decide +kernel
theorem app7 : applyL l5 (oR 2) = (l7, 0) := by decide +kernel
theorem rep5 : replayL lZ [oR 5] 0 = (l5, 1, 0) := by decide +kernel
theorem wf5 : LWf l5 := lwf_of (by decide +kernel)
theorem wf7 : LWf l7 := lwf_of (by decide +kernel)
theorem rc0 : Recs (recL lZ) := recs_of (by decide +kernel)
theorem rc5 : Recs (recL l5) := recs_of (by decide +kernel)
theorem rc7 : Recs (recL l7) := recs_of (by decide +kernel)
theorem ro5 : Recs [recO (oR 5)] := recs_of (by decide +kernel)
theorem ro2 : Recs [recO (oR 2)] := recs_of (by decide +kernel)
theorem us0 : usedOf (recL lZ) ≤ 608 := by decide +kernel
theorem us5 : usedOf (recL l5) ≤ 608 := by decide +kernel
theorem us7 : usedOf (recL l7) ≤ 608 := by decide +kernel
theorem ul5 : usedOf (recL lZ) + usedOf [recO (oR 5)] ≤ 608 := by decide +kernel
theorem ul7 : usedOf (recL lZ ++ [recO (oR 5)]) + usedOf [recO (oR 2)] ≤ 608 := by decide +kernel
theorem oR_wf (q : Int) (h0 : -9223372036854775808 ≤ q) (h1 : q < 9223372036854775808) : (oR q).Wf := by
  constructor <;> simp [oR] <;> omega
theorem may5 : May l5 := by
  have := applyL_may may_z (oR_wf 5 (by omega) (by omega))
  rw [app5] at this
  exact this
theorem tk5 : takeOp (putOp (oR 5)).1 = (oR 5, 0) := by decide +kernel
section
variable {w w' : World} {R : KW}
theorem receive_k (q : Int) (hR : ∀ w', Kp [] w w' → R (.agg (opC (oR q)).toArray) w') : callG prog 20 #[.int .i64 q] w R := by
  refine Fn47_call ?_
  unfold Fn47 Fn47_s0
  refine newB fun p2 w1 hp2 h2 k1 => ?_
  have hbl : ∀ K : Value → Prop, bld [(0, 1), (1, 1), (2, 1), (3, 1), (4, 1), (5, 1), (6, 1)] (zc prog 42) #[(0, .int .i64 1), (1, .string ⟨#[115]⟩), (2, .string ⟨#[120]⟩), (4, .int .i64 q)] K = K (.agg (opC (oR q)).toArray) := fun K => by rw [zcOp]; rfl
  rw [hbl]
  refine retB (by kernel_rfl) (by kernel_rfl) h2 (by rw [zcOp]; rfl) rfl (by simp [opC, Q.one]) fun w2 k2 => ?_
  exact hR w2 (k1.trans k2 fun y hy hlt => by simp at hy; omega)
end
end Go.Proofs

set_option maxRecDepth 100000
set_option linter.unusedVariables false
set_option linter.unusedSimpArgs false
namespace Go.Proofs
open Go Go.Q
open Tryz (prog)
theorem crashL_nil (l : List (Nat × List UInt8)) (L : List (List UInt8)) : crashL l [] L = L := by cases l <;> rfl
theorem sec_fresh8 {n i : Nat} (hi : i < n) : sec (DK.fresh n).now i = nought := by
  unfold sec DK.fresh secs0 nought
  simp [List.getD, hi]
theorem fresh_calm (n : Nat) : Calm (DK.fresh n) := ⟨rfl, rfl⟩
theorem ints_none {w : World} : IntsAt w (.slice none 0 0) [] [] := ⟨none, 0, rfl, .inl rfl⟩
section
variable {w0 w w' : World} {R : KW}
theorem Open_new {bd n : Nat} {S : List Nat} (o : Own w0 w bd (DK.fresh n) S) (h4 : 4 ≤ n) (hn : n ≤ 120) (hfit : usedOf (recL lZ) ≤ 32 * ((n - 2) / 2))
    (hR : ∀ w' kb ab B g d', KS w0 w' kb bd ab lZ 1 g d' B → LS n 1 g d' (recL lZ) → sec d'.now 0 = nought → sec d'.now 1 = headK 1 → d'.l = [] → Kp S w w' → (∀ y ∈ B, y ∈ S ∨ w.heap.size ≤ y) → w.heap.size ≤ kb → R (.tuple #[.pointer (some ⟨kb, 0, none⟩), .int .i64 0]) w') :
    callG prog 11 #[.pointer (some ⟨bd, 0, none⟩)] w R := by
  have hlen : (DK.fresh n).now.length = n := by simp [DK.fresh, secs0]
  have ha := areaL_le (t := 1) h4
  refine Open_k o (fresh_calm n) (flow_fresh n) (by simp [DK.fresh]) (by omega) (by omega) (sec_fresh8 (by omega)) (.inl ⟨sec_fresh8 (by omega), rfl, rfl⟩) may_z lz_wf rc0 (by rw [hlen]; exact hfit) fun w' kb ab B d' hs hl hk hB hkb => ?_
  have hls := hl.ls (by omega) (by rw [hlen]; exact hfit)
  rw [hlen] at hls hs
  refine hR w' kb ab B _ d' hs hls ?_ hl.head hl.log hk hB hkb
  rw [hl.out 0 (by omega) (.inl (by rw [hlen]; have := (areaL_le (n := n) (t := 0 + 1) h4).1; omega))]
  exact sec_fresh8 (by omega)
theorem awake8 (hR : ∀ w', Kp [] w w' → R (.bool true) w') : callG prog 7 #[] w R := by
  refine Fn46_call ?_
  unfold Fn46 Fn46_s1
  rw [show (Value.int .i64 40) = .int .i64 ((40 : Nat) : Int) from rfl]
  refine New_ok (by omega) (by omega) fun w1 bd S1 hd1 k1 hS1 => ?_
  rw [ex0, ex1]
  have o1 : Own w w1 bd (DK.fresh 40) S1 := ⟨hd1, k1, hS1⟩
  refine Open_new o1 (by omega) (by omega) us0 fun w2 kb ab B2 g2 d2 hs2 hl2 hz2 hh2 he2 k2 hB2 hkb2 => ?_
  rw [ex0, ex1]
  simp only [bq_neq, bV_b, decide_eq_true_eq]
  refine ⟨fun hh => absurd rfl hh, fun _ => ⟨fun hh => absurd rfl hh, fun _ => ?_⟩⟩
  rw [bq_peql _ (by kernel_rfl)]
  simp only [bV_b, Option.isNone_some]
  refine ⟨fun hh => by simp at hh, fun _ => ?_⟩
  refine receive_k 5 fun w3 k3 => ?_
  have hap : (applyL lZ (oR 5)).1 = l5 := by rw [app5]
  refine submit_ls (hs2.keep k3) hl2 (by omega) (by omega) (by omega) (by omega) (by decide) (by rw [he2]; simp) may_z (oR_wf 5 (by omega) (by omega)) (by rw [app5]) (by rw [hap]; exact wf5) (by rw [hap]; exact rc5) ro5 (fun _ _ w4 B4 g4 d4 hs4 hl4 hsu4 hll4 hout4 k4 hB4 => ?_) fun hno => ?_
  rotate_left
  · exfalso
    rw [hap] at hno
    rcases hno with hno | hno
    · exact hno us5
    · exact hno ul5
  rw [hap] at hs4
  simp only [bq_neq, bV_b, decide_eq_true_eq]
  refine ⟨fun hh => absurd rfl hh, fun _ => ?_⟩
  refine sync_k hs4 (by rw [he2] at hll4; simp at hll4; omega) fun w5 hs5 k5 => ?_
  have hfl := flush_flow hl4.calm hl4.flow
  rw [hfl] at hs5
  rw [hfl]
  simp only [bq_neq, bV_b, decide_eq_true_eq]
  refine ⟨fun hh => absurd rfl hh, fun _ => ?_⟩
  have hl5 : LS 40 1 g4 { d4 with sure := d4.now, l := [] } (recL lZ ++ [recO (oR 5)]) := ⟨hl4.g, ⟨hl4.calm.off, hl4.calm.fuse⟩, rfl, hl4.len, hl4.rows, hl4.secs, hl4.fit⟩
  refine receive_k 2 fun w6 k6 => ?_
  have hap7 : (applyL l5 (oR 2)).1 = l7 := by rw [app7]
  refine submit_ls (hs5.keep k6) hl5 (by omega) (by omega) (by omega) (by omega) (by decide) (by simp) may5 (oR_wf 2 (by omega) (by omega)) (by rw [app7]) (by rw [hap7]; exact wf7) (by rw [hap7]; exact rc7) ro2 (fun _ _ w7 B7 g7 d7 hs7 hl7 hsu7 hll7 hout7 k7 hB7 => ?_) fun hno => ?_
  rotate_left
  · exfalso
    rw [hap7] at hno
    rcases hno with hno | hno
    · exact hno us7
    · exact hno ul7
  simp only [bq_neq, bV_b, decide_eq_true_eq]
  refine ⟨fun hh => absurd rfl hh, fun _ => ?_⟩
  obtain ⟨S7, SL7, lv7, eB7, hd7, _⟩ := hs7.ol.ex
  have hnew7 := hs7.ol.new
  have hkp7 := hs7.ol.kp
  refine Crash_spec hd7 (by simp at hll7; omega) ints_none (by simp) (by simp) fun w8 hd8 k8 => ?_
  simp only [bq_neq, bV_b, decide_eq_true_eq]
  refine ⟨fun hh => absurd rfl hh, fun _ => ?_⟩
  have hcr : (d7.crash []).now = d4.now := by
    show crashL d7.l [] d7.sure = d4.now
    rw [crashL_nil, hsu7]
  have hlen8 : (d7.crash []).now.length = 40 := by rw [hcr]; exact hl4.len
  have o8 : Own w w8 bd (d7.crash []) S7 := ⟨hd8, hkp7.trans k8 fun y hy hlt => by have := hnew7 y (by rw [eB7]; simp [hy]); omega, fun y hy => hnew7 y (by rw [eB7]; simp [hy])⟩
  have ha := areaL_le (n := 40) (t := 1) (by omega)
  have hd4a : allOf (d7.crash []) (areaL 40 1) ((40 - 2) / 2) = fr ((1 : Nat) : Int) (recL lZ ++ [recO (oR 5)]) ++ List.replicate (32 * ((40 - 2) / 2) - usedOf (recL lZ ++ [recO (oR 5)])) 0 := by
    have := hl4.area (by omega)
    unfold allOf at this ⊢
    rw [hcr]
    exact this
  have hrs : Recs (recL lZ ++ [recO (oR 5)]) := fun s hs => by
    rcases List.mem_append.1 hs with hs | hs
    · exact rc0 s hs
    · exact ro5 s hs
  have hz4 : sec d4.now 0 = nought := by rw [hout4 0 (.inl (by omega))]; exact hz2
  have hh4 : sec d4.now 1 = headK 1 := by rw [hout4 1 (.inl (by omega))]; exact hh2
  unfold Fn46_s0
  refine Open_k (l := l5) (t := 1) o8 ⟨rfl, rfl⟩ rfl (by simp [DK.crash]) (by omega) (by omega) (by rw [hcr]; exact hz4) (.inr ⟨by rw [hcr]; exact hh4, rfl, [oR 5], fun o ho => by simp at ho; rw [ho]; exact ⟨tk5, oR_wf 5 (by omega) (by omega)⟩, by simp, ?_, by rw [rep5], by rw [rep5]⟩) may5 wf5 rc5 (by rw [hlen8]; exact us5) fun w9 kb9 ab9 B9 d9 hs9 hl9 k9 hB9 hkb9 => ?_
  · rw [hlen8, hd4a, scan_fr (turnOk_of (by omega) (by omega)) _ _ hrs, scan_noughts, List.append_nil]
    rfl
  rw [ex0, ex1]
  simp only [bq_eql, bV_b, decide_eq_true_eq]
  refine ⟨fun _ => ?_, fun hh => by simp at hh⟩
  rw [bq_pneq _ (by kernel_rfl)]
  simp only [bV_b, Option.isNone_some, Bool.not_false]
  refine ⟨fun _ => ?_, fun hh => by simp at hh⟩
  refine ledger_k hs9.kc may5 fun w10 v10 k10 hv10 _ => ?_
  rw [show (Value.string ⟨#[115]⟩) = .string (str [115]) from rfl, show (Value.string ⟨#[120]⟩) = .string (str [120]) from rfl]
  refine refFind_spec hv10 (by simp [l5]) [115] [120] fun w11 k11 => ?_
  have hfd : findS l5.st [115] [120] = ⟨[115], [120], 5, 0⟩ := by decide +kernel
  rw [hfd]
  have hf2 : ∀ (a b c d : Value) (K : Value → Prop), fld false 2 1 (.agg #[a, b, c, d]) K = K c := fun a b c d K => rfl
  unfold sA
  rw [hf2]
  simp only [bq_eql, bV_b, decide_eq_true_eq]
  refine ⟨fun _ => ?_, fun hh => by simp at hh⟩
  have hs11 := (hs9.keep k10).keep k11
  refine turn_k hs11.kc ?_
  simp only [bq_eql, bV_b, decide_eq_true_eq]
  refine ⟨fun _ => ?_, fun hh => by simp at hh⟩
  refine ledger_k hs11.kc may5 fun w12 v12 k12 hv12 _ => ?_
  obtain ⟨a, b, c, rfl, r1, r2, r3⟩ := hv12
  rw [hf2, r3.lenL]
  simp only [bq_eql]
  exact hR w12 (hs11.kp.trans' k12)
end
end Go.Proofs

set_option maxRecDepth 100000
set_option linter.unusedVariables false
set_option linter.unusedSimpArgs false
namespace Go.Proofs
open Go Go.Q
open Tryz (prog)
section
variable {w w' : World} {R : KW} {l : LV} {v : Value}
def LightL (l : LV) : Prop := l.st.length ≤ 30 ∧ l.ho.length ≤ 30 ∧ l.mo.length ≤ 60
theorem Light_k (hv : LedAt w v l) (hR : ∀ w' b, Kp [] w w' → (b = true ↔ LightL l) → R (.bool b) w') : callG prog 6 #[v] w R := by
  refine Fn89_call ?_
  unfold Fn89 Fn89_s0
  refine boxLed hv fun x a b c w1 hx1 k1 hB _ => ?_
  simp only [fa_p, Nat.add_zero, Nat.zero_add]
  rw [hB.l0, hB.a.lenL, List.length_map]
  simp only [bq_leq, bV_b, decide_eq_true_eq, decide_eq_false_iff_not]
  refine ⟨fun e1 => ?_, fun e => hR w1 false k1 (nbF fun hh => e (by have := hh.1; omega))⟩
  rw [hB.l1, hB.b.lenL, List.length_map]
  simp only [bq_leq, bV_b, decide_eq_true_eq, decide_eq_false_iff_not]
  refine ⟨fun e2 => ?_, fun e => hR w1 false k1 (nbF fun hh => e (by have := hh.2.1; omega))⟩
  rw [hB.l2, hB.c.lenL, List.length_map]
  simp only [bq_leq]
  refine hR w1 _ k1 ?_
  simp only [decide_eq_true_eq]
  exact ⟨fun e3 => ⟨by omega, by omega, by omega⟩, fun hh => by have := hh.2.2; omega⟩
theorem Records_no (hg : LRg l) (hfew : fullL l = false) (hno : ¬ May l) (hv : LedAt w v l) (hR : ∀ w', Kp [] w w' → R (.tuple #[.slice none 0 0, .int .i64 1]) w') : callG prog 8 #[v] w R := by
  refine Fn38_call ?_
  unfold Fn38 Fn38_s10
  refine boxLed hv fun x1 a b c w1 hx1 k1 hb1 he => ?_
  rw [hb1.ld]
  refine Check_any hg hfew hb1.at (fun hm => absurd hm hno) fun _ w2 k2 => ?_
  simp only [bq_neq, bV_b, decide_eq_true_eq]
  exact ⟨fun _ => hR w2 (k1.trans' k2), fun hh => absurd hh (by decide)⟩
theorem row_k (c : UInt8) {rv : Value} {r : List V3} (hr : Rd w rv 3 (r.map valV)) (hw : ∀ v ∈ r, v.Wf) (hlen : r.length ≤ 255) (hR : ∀ w', Kp [] w w' → R (.string (str (c :: (putRow r).1))) w') : callG prog 29 #[.string (str [c]), rv] w R := by
  refine Fn97_call ?_
  unfold Fn97 Fn97_s0
  refine refPut_spec hr hw (by omega) fun w1 k1 => ?_
  have hpl := putRow_len hlen
  rw [ex0, ex1, bq_sadd (by rw [str_size, str_size]; simp; omega), str_append]
  exact hR w1 k1
theorem push_str {w0 : World} {v : Value} {L : List (List UInt8)} (h : Fr w0 w v 1 (L.map strV)) (hl : L.length < 2 ^ 30) (s : List UInt8) {K : KW} (hK : ∀ v' w', Fr w0 w' v' 1 ((L ++ [s]).map strV) → K v' w') :
    bsl 9 1 1 (zc prog 9) #[(0, .string (str s))] w fun t w => app 9 1 16 (zc prog 9) v t w K := by
  refine bsl_rowN (n := 1) (cs := strV s) (by omega) rfl rfl fun v1 w1 f1 => ?_
  rw [zc9]
  refine fr_push (wx := w1) (h.keep f1.kp) f1.rd (by omega) rfl (by rfl) (by simp; omega) (by simp; omega) fun v' w' h' => hK v' w' (by rw [List.map_append]; exact h')
theorem refRecords_no (hg : LRg l) (hfew : fullL l = false) (hno : ¬ May l) (hv : LedAt w v l) (hR : ∀ w', Kp [] w w' → R (.tuple #[.slice none 0 0, .int .i64 1]) w') : callG prog 9 #[v] w R := by
  refine Fn96_call ?_
  unfold Fn96 Fn96_s10
  refine boxLed hv fun x1 a b c w1 hx1 k1 hb1 he => ?_
  rw [hb1.ld]
  refine refMay_any hg hfew hb1.at fun w2 b2 k2 h2 => ?_
  cases b2 with
  | true => exact absurd (h2.1 rfl) hno
  | false =>
    simp only [un_not, bV_b]
    exact ⟨fun _ => hR w2 (k1.trans' k2), fun hh => by cases hh⟩
theorem refRecords_k (hm : May l) (hw : LWf l) (hv : LedAt w v l) (hR : ∀ w' v' , Fr w w' v' 1 ((recL l).map strV) → R (.tuple #[v', .int .i64 0]) w') : callG prog 9 #[v] w R := by
  refine Fn96_call ?_
  unfold Fn96 Fn96_s10
  refine boxLed hv fun x a b c w1 hx1 k1 hb1 he => ?_
  rw [hb1.ld]
  refine refMay_true hm hb1.at fun w2 k2 => ?_
  simp only [un_not, bV_b, Bool.not_true, Bool.false_eq_true, false_implies, true_and, true_implies]
  have hb2 := hb1.keep k2
  have k12 := k1.trans' k2
  have hfew := hm.few
  unfold fullL at hfew
  simp only [decide_eq_false_iff_not, not_or, Nat.not_lt] at hfew
  obtain ⟨fw1, fw2, fw3⟩ := hfew
  have rl : ∀ h : HV, ∀ txt, (rowH txt h).length ≤ 255 := fun h txt => by unfold rowH; split <;> simp
  have e1 : ∀ k : Nat, k ≤ 4096 → IntKind.i64.wrap ((k : Int) + 1) = ((k + 1 : Nat) : Int) := fun k hk => by rw [w64 (by omega) (by omega)]; simp
  have fin : ∀ w4 v4, Fr w2 w4 v4 1 ((l.st.map recS ++ l.ho.map recH ++ l.mo.map recM).map strV) → Fn96_s0 R (.pointer (some ⟨x, 0, none⟩)) v4 w4 := by
    intro w4 v4 o4
    have hb4 := hb2.keep o4.kp
    unfold Fn96_s0
    simp only [fa_p, Nat.add_zero, Nat.zero_add]
    rw [hb4.l3]
    have hbl : ∀ K : Value → Prop, bld [(0, 1), (1, 1), (2, 1)] (zc prog 76) #[(0, .int .i64 1), (1, .int .i64 l.ops)] K = K (.agg (valV (numV l.ops)).toArray) := fun K => by rw [zcV]; rfl
    rw [hbl]
    refine bsl_rowN (n := 3) (cs := valV (numV l.ops)) (by omega) rfl rfl fun v5 w5 hf5 => ?_
    rw [show (Value.string ⟨#[69]⟩) = .string (str [69]) from rfl]
    refine row_k (r := [numV l.ops]) 69 hf5.rd (by intro v hv; simp at hv; rw [hv]; exact hw.ops) (by simp) fun w6 k6 => ?_
    refine push_str (o4.keep (hf5.kp.trans' k6)) (by simp; omega) _ fun v7 w7 h7 => ?_
    exact hR w7 v7 ⟨by obtain ⟨S, s1, s2⟩ := h7.ex; exact ⟨S, s1, fun y hy => by have := s2 y hy; have := k12.size; omega⟩, k12.trans' h7.kp⟩
  have sM : ∀ w4 v4, Fr w2 w4 v4 1 ((l.st.map recS ++ l.ho.map recH).map strV) → Fn96_s3 R (.pointer (some ⟨x, 0, none⟩)) v4 w4 := by
    intro w4 v4 o4
    unfold Fn96_s3 Fn96_L2
    refine loop_inv (fun m xs w' => ∃ k v', k ≤ l.mo.length ∧ m = l.mo.length - k ∧ xs = [.pointer (some ⟨x, 0, none⟩), v', .int .i64 (k : Nat)] ∧ Fr w2 w' v' 1 ((l.st.map recS ++ l.ho.map recH ++ (l.mo.take k).map recM).map strV)) ?_ (m := l.mo.length) ⟨0, v4, by omega, rfl, rfl, by simpa using o4⟩
    rintro m N xs w5 ⟨k, v5, hk, rfl, rfl, o5⟩ hN
    have hb5 := hb2.keep o5.kp
    unfold Fn96_L2F Fn96_b1
    simp only [fa_p, Nat.add_zero, Nat.zero_add]
    rw [hb5.l2, hb5.c.lenL, List.length_map]
    simp only [bq_lss, bV_b, decide_eq_true_eq, decide_eq_false_iff_not]
    refine ⟨fun hlt => ?_, fun hge => ?_⟩
    · have hlt : k < l.mo.length := by omega
      obtain ⟨pe, i1, i2⟩ := rd_hold hb5.c hlt
      rw [hb5.l2, i1, i2]
      refine refMoveRow_spec _ fun rv w6 k6 hrv => ?_
      rw [show (Value.string ⟨#[77]⟩) = .string (str [77]) from rfl]
      refine row_k 77 hrv (hw.mo _ (List.getElem_mem hlt)) (rl _ _) fun w7 k7 => ?_
      refine push_str (o5.keep (k6.trans' k7)) (by simp; omega) _ fun v8 w8 o8 => ?_
      simp only [bq_add, e1 k (by omega)]
      refine hN (l.mo.length - (k + 1)) _ w8 (by omega) ⟨k + 1, v8, by omega, rfl, rfl, ?_⟩
      rw [take_snoc hlt, List.map_append (f := recM), ← List.append_assoc]
      exact o8
    · have : k = l.mo.length := by omega
      subst this
      rw [List.take_length] at o5
      exact fin w5 v5 o5
  have sH : ∀ w4 v4, Fr w2 w4 v4 1 ((l.st.map recS).map strV) → Fn96_s6 R (.pointer (some ⟨x, 0, none⟩)) v4 w4 := by
    intro w4 v4 o4
    unfold Fn96_s6 Fn96_L5
    refine loop_inv (fun m xs w' => ∃ k v', k ≤ l.ho.length ∧ m = l.ho.length - k ∧ xs = [.pointer (some ⟨x, 0, none⟩), v', .int .i64 (k : Nat)] ∧ Fr w2 w' v' 1 ((l.st.map recS ++ (l.ho.take k).map recH).map strV)) ?_ (m := l.ho.length) ⟨0, v4, by omega, rfl, rfl, by simpa using o4⟩
    rintro m N xs w5 ⟨k, v5, hk, rfl, rfl, o5⟩ hN
    have hb5 := hb2.keep o5.kp
    unfold Fn96_L5F Fn96_b4
    simp only [fa_p, Nat.add_zero, Nat.zero_add]
    rw [hb5.l1, hb5.b.lenL, List.length_map]
    simp only [bq_lss, bV_b, decide_eq_true_eq, decide_eq_false_iff_not]
    refine ⟨fun hlt => ?_, fun hge => ?_⟩
    · have hlt : k < l.ho.length := by omega
      obtain ⟨pe, i1, i2⟩ := rd_hold hb5.b hlt
      rw [hb5.l1, i1, i2]
      refine refHoldRow_spec _ fun rv w6 k6 hrv => ?_
      rw [show (Value.string ⟨#[72]⟩) = .string (str [72]) from rfl]
      refine row_k 72 hrv (hw.ho _ (List.getElem_mem hlt)) (rl _ _) fun w7 k7 => ?_
      refine push_str (o5.keep (k6.trans' k7)) (by simp; omega) _ fun v8 w8 o8 => ?_
      simp only [bq_add, e1 k (by omega)]
      refine hN (l.ho.length - (k + 1)) _ w8 (by omega) ⟨k + 1, v8, by omega, rfl, rfl, ?_⟩
      rw [take_snoc hlt, List.map_append (f := recH), ← List.append_assoc]
      exact o8
    · have : k = l.ho.length := by omega
      subst this
      rw [List.take_length] at o5
      exact sM w5 v5 o5
  unfold Fn96_s9 Fn96_L8
  refine loop_inv (fun m xs w' => ∃ k v', k ≤ l.st.length ∧ m = l.st.length - k ∧ xs = [.pointer (some ⟨x, 0, none⟩), v', .int .i64 (k : Nat)] ∧ Fr w2 w' v' 1 (((l.st.take k).map recS).map strV)) ?_ (m := l.st.length) ⟨0, .slice none 0 0, by omega, rfl, rfl, by simpa using fr_nil (Kp.refl [] w2)⟩
  rintro m N xs w5 ⟨k, v5, hk, rfl, rfl, o5⟩ hN
  have hb5 := hb2.keep o5.kp
  unfold Fn96_L8F Fn96_b7
  simp only [fa_p, Nat.add_zero, Nat.zero_add]
  rw [hb5.l0, hb5.a.lenL, List.length_map]
  simp only [bq_lss, bV_b, decide_eq_true_eq, decide_eq_false_iff_not]
  refine ⟨fun hlt => ?_, fun hge => ?_⟩
  · have hlt : k < l.st.length := by omega
    obtain ⟨pe, i1, i2⟩ := rd_stock hb5.a hlt
    rw [hb5.l0, i1, i2]
    refine refStockRow_spec _ fun rv w6 k6 hrv => ?_
    rw [show (Value.string ⟨#[83]⟩) = .string (str [83]) from rfl]
    refine row_k 83 hrv (hw.st _ (List.getElem_mem hlt)) (by simp [rowS]) fun w7 k7 => ?_
    refine push_str (o5.keep (k6.trans' k7)) (by simp; omega) _ fun v8 w8 o8 => ?_
    simp only [bq_add, e1 k (by omega)]
    refine hN (l.st.length - (k + 1)) _ w8 (by omega) ⟨k + 1, v8, by omega, rfl, rfl, ?_⟩
    rw [take_snoc hlt, List.map_append (f := recS)]
    exact o8
  · have : k = l.st.length := by omega
    subst this
    rw [List.take_length] at o5
    exact sH w5 v5 o5
structure LTk (l : LV) : Prop where
  rg : LRg l
  ho : ∀ h ∈ l.ho, rngI h.q ∧ rngI h.due
  mo : ∀ h ∈ l.mo, rngI h.due
  ops : rngI l.ops
theorem numV_wf {n : Int} (h : rngI n) : (numV n).Wf := ⟨by simp [numV], by simp [numV], h.1, by have := h.2; simp only [numV]; omega, by simp [numV]⟩
theorem textV_wf {s : List UInt8} (h : nameOk s = true) : (textV s).Wf := by
  unfold nameOk at h
  simp only [decide_eq_true_eq] at h
  exact ⟨by simp [textV], by simp [textV], by simp [textV], by simp [textV], by simp only [textV]; omega⟩
theorem someV_wf {n : Int} (h : rngI n) : (someV n).Wf := by
  unfold someV
  split
  · exact ⟨by simp, by simp, by simp, by simp, by simp⟩
  · exact numV_wf h
theorem LTk.wf (h : LTk l) (hm : May l) : LWf l where
  st := fun s hs v hv => by
    obtain ⟨m1, m2, m3, m4, m5, _, _⟩ := hm.f.ok s hs
    have gf := fits_iff.1 m3
    simp only [rowS, List.mem_cons, List.not_mem_nil, or_false] at hv
    rcases hv with rfl | rfl | rfl | rfl
    · exact textV_wf m1
    · exact textV_wf m2
    · exact numV_wf ⟨by omega, by omega⟩
    · exact numV_wf ⟨by omega, by omega⟩
  ho := fun x hx v hv => by
    obtain ⟨k, hk, rfl⟩ := List.getElem_of_mem hx
    obtain ⟨⟨m1, m2, m3, m4, m5, m6, m7⟩, _⟩ := may_hold hm hk
    unfold rowH at hv
    split at hv
    · cases hv
    · simp only [List.mem_cons, List.not_mem_nil, or_false] at hv
      rcases hv with rfl | rfl | rfl | rfl | rfl | rfl
      · exact numV_wf (h.rg.ho _ (List.getElem_mem hk)).2
      · exact textV_wf m2
      · exact textV_wf m3
      · exact numV_wf (h.ho _ (List.getElem_mem hk)).1
      · refine textV_wf ?_
        unfold stateT
        split
        · rfl
        · split
          · rfl
          · split
            · rfl
            · exfalso; omega
      · exact someV_wf (h.ho _ (List.getElem_mem hk)).2
  mo := fun x hx v hv => by
    obtain ⟨k, hk, rfl⟩ := List.getElem_of_mem hx
    obtain ⟨⟨m1, m2, m3, m4, m5, m6, m7⟩, _⟩ := may_move hm hk
    unfold rowH at hv
    split at hv
    · cases hv
    · simp only [List.mem_cons, List.not_mem_nil, or_false] at hv
      rcases hv with rfl | rfl | rfl | rfl | rfl | rfl
      · exact numV_wf (h.rg.mo _ (List.getElem_mem hk)).2
      · exact textV_wf m2
      · exact textV_wf m3
      · exact numV_wf (h.rg.mo _ (List.getElem_mem hk)).1
      · refine textV_wf ?_
        unfold kindT
        split
        · rfl
        · split
          · rfl
          · split
            · rfl
            · split
              · rfl
              · exfalso; omega
      · exact someV_wf (h.mo _ (List.getElem_mem hk))
  ops := numV_wf h.ops
theorem same_recs {w0 : World} {va vb : Value} {L : List (List UInt8)} (ha : Rd w va 1 (L.map strV)) (hb : Rd w vb 1 (L.map strV)) (hl : L.length < 2 ^ 30) (hk : Kp [] w0 w) (hR : ∀ w', Kp [] w0 w' → R (.bool true) w') : Fn45_s3 R va vb w := by
  unfold Fn45_s3 Fn45_L2
  refine loop_inv (fun m xs w' => ∃ k, k ≤ L.length ∧ m = L.length - k ∧ xs = [va, vb, .int .i64 (k : Nat)] ∧ Kp [] w w') ?_ (m := L.length) ⟨0, by omega, rfl, rfl, Kp.refl _ _⟩
  rintro m N xs w1 ⟨k, hk1, rfl, rfl, k1⟩ hN
  unfold Fn45_L2F Fn45_b1
  dsimp only
  rw [(ha.keep k1).lenL, List.length_map]
  simp only [bq_lss, bV_b, decide_eq_true_eq, decide_eq_false_iff_not]
  refine ⟨fun hlt => ?_, fun hge => ?_⟩
  · have hlt : k < L.length := by omega
    have kd : Kp [] w w1.drew := k1.trans' kp_drew
    obtain ⟨p, p1, p2⟩ := (ha.keep kd).one (i := k) (by simpa using hlt) (x := .string (str L[k])) (by simp [strV])
    obtain ⟨q, q1, q2⟩ := (hb.keep kd).one (i := k) (by simpa using hlt) (x := .string (str L[k])) (by simp [strV])
    rw [p1, p2, q1, q2, bq_nes8]
    have e1 : IntKind.i64.wrap ((k : Int) + 1) = ((k + 1 : Nat) : Int) := by rw [w64 (by omega) (by omega)]; simp
    simp only [decide_true, Bool.not_true, bV_b, Bool.false_eq_true, false_implies, true_and, true_implies, bq_add, e1]
    exact hN (L.length - (k + 1)) _ _ (by omega) ⟨k + 1, by omega, rfl, rfl, kd⟩
  · unfold Fn45_s0
    exact awake8 fun w2 k2 => hR w2 ((hk.trans' k1).trans' k2)
theorem records8 (hv : LedAt w v l) (ht : LTk l) (hR : ∀ w', Kp [] w w' → R (.bool true) w') : callG prog 3 #[v] w R := by
  refine Fn45_call ?_
  unfold Fn45 Fn45_s4
  refine boxLed hv fun x a b c w1 hx1 k1 hb1 he => ?_
  rw [hb1.ld]
  refine Light_k hb1.at fun w2 b2 k2 h2 => ?_
  have k12 := k1.trans' k2
  simp only [un_not, bV_b]
  refine ⟨fun e => awake8 fun w3 k3 => hR w3 (k12.trans' k3), fun e => ?_⟩
  have hli : LightL l := h2.1 (by simpa using e)
  have hfew : fullL l = false := by
    obtain ⟨f1, f2, f3⟩ := hli
    simp only [fullL, decide_eq_false_iff_not, not_or]
    omega
  have hb2 := hb1.keep k2
  rw [hb2.ld]
  by_cases hm : May l
  · have hw := ht.wf hm
    refine Records_k hm hw hb2.at fun w3 va fa => ?_
    have hb3 := hb2.keep fa.kp
    rw [ex0, ex1, hb3.ld]
    refine refRecords_k hm hw hb3.at fun w4 vb fb => ?_
    have hla : (recL l).length < 2 ^ 30 := by
      obtain ⟨f1, f2, f3⟩ := hli
      simp [recL]; omega
    have ra := fa.rd.keep fb.kp
    rw [ex0, ex1]
    simp only [bq_neq, bV_b, decide_eq_true_eq]
    refine ⟨fun hh => absurd rfl hh, fun _ => ?_⟩
    rw [ra.lenL, fb.rd.lenL]
    simp only [bq_neq, bV_b, decide_eq_true_eq]
    refine ⟨fun hh => absurd rfl hh, fun _ => ?_⟩
    exact same_recs ra fb.rd hla ((k12.trans' fa.kp).trans' fb.kp) hR
  · refine Records_no ht.rg hfew hm hb2.at fun w3 k3 => ?_
    have hb3 := hb2.keep k3
    rw [ex0, ex1, hb3.ld]
    refine refRecords_no ht.rg hfew hm hb3.at fun w4 k4 => ?_
    have rn : Rd w4 (.slice none 0 0) 1 (([] : List (List UInt8)).map strV) := (fr_nil (Kp.refl [] w4)).rd
    rw [ex0, ex1]
    simp only [bq_neq, bV_b, decide_eq_true_eq]
    refine ⟨fun hh => absurd rfl hh, fun _ => ?_⟩
    rw [rn.lenL, rn.lenL]
    simp only [bq_neq, bV_b, decide_eq_true_eq]
    refine ⟨fun hh => absurd rfl hh, fun _ => ?_⟩
    exact same_recs rn rn (by simp) ((k12.trans' k3).trans' k4) hR
end
end Go.Proofs

set_option linter.unusedVariables false
set_option linter.unusedSimpArgs false
namespace Go.Proofs
open Go Go.Q
open Tryz (prog)
def Taken (w : World) (t : TypeId) (v : Value) : Prop :=
  ∃ (H : Type) (enc : TypeId × Value → H) (fuel : Nat) (x : DataW H × List MemPlace), DataW.trod enc prog w 0 (fun _ => true) true fuel t v.cells.toList = some x
section
variable {H : Type} {enc : TypeId × Value → H} {w : World} {fuel n : Nat} {cs : List Value} {x : DataW H × List MemPlace}
theorem str_all (s : ByteArray) : s = str s.data.toList := by cases s; simp [str]
theorem one_cell {i : Nat} (hi : i < cs.length) : (cs.drop i).take 1 = [cs[i]] := by rw [List.drop_eq_getElem_cons hi]; rfl
theorem fld_int {i : Nat} {q : Option (DataW H × List MemPlace)} (h : DataW.trod enc prog w 0 (fun _ => true) true n 3 ((cs.drop i).take (prog.cellsOf 3)) = q) (hq : q.isSome = true) (hi : i < cs.length) : ∃ z : Int, cs[i] = .int .i64 z ∧ -9223372036854775808 ≤ z ∧ z < 9223372036854775808 := by
  obtain ⟨y, rfl⟩ := Option.isSome_iff_exists.1 hq
  rw [show prog.cellsOf 3 = 1 by kernel_rfl, one_cell hi] at h
  obtain ⟨z, e, _, hw⟩ := DataW.trod_int Tryz.underlying3 h
  injection e with e _
  exact ⟨z, e, wf64 hw⟩
theorem fld_str {i : Nat} {q : Option (DataW H × List MemPlace)} (h : DataW.trod enc prog w 0 (fun _ => true) true n 9 ((cs.drop i).take (prog.cellsOf 9)) = q) (hq : q.isSome = true) (hi : i < cs.length) : ∃ s : List UInt8, cs[i] = .string (str s) ∧ s.length ≤ maxLen := by
  obtain ⟨y, rfl⟩ := Option.isSome_iff_exists.1 hq
  rw [show prog.cellsOf 9 = 1 by kernel_rfl, one_cell hi] at h
  obtain ⟨s, e, _, hw⟩ := DataW.trod_string Tryz.underlying9 h
  injection e with e _
  exact ⟨s.data.toList, by rw [e]; exact congrArg Value.string (str_all s), hw⟩
theorem stock_in (h : DataW.trod enc prog w 0 (fun _ => true) true fuel 48 cs = some x) : ∃ s : SV, cs = [.string (str s.sku), .string (str s.loc), .int .i64 s.hand, .int .i64 s.held] := by
  obtain ⟨xs, n, rfl, _, hl, hx, hf⟩ := DataW.trod_struct Tryz.underlying48 h
  rw [show prog.cellsOf 48 = 4 by kernel_rfl] at hl
  have hx4 : xs.length = 4 := hx
  have g0 : DataW.trod enc prog w 0 (fun _ => true) true n 9 ((cs.drop 0).take (prog.cellsOf 9)) = xs[0]? := hf 0 _ rfl
  obtain ⟨z0, e0, p0⟩ := fld_str g0 (by simp; omega) (by omega)
  have g1 : DataW.trod enc prog w 0 (fun _ => true) true n 9 ((cs.drop 1).take (prog.cellsOf 9)) = xs[1]? := hf 1 _ rfl
  obtain ⟨z1, e1, p1⟩ := fld_str g1 (by simp; omega) (by omega)
  have g2 : DataW.trod enc prog w 0 (fun _ => true) true n 3 ((cs.drop 2).take (prog.cellsOf 3)) = xs[2]? := hf 2 _ rfl
  obtain ⟨z2, e2, p2⟩ := fld_int g2 (by simp; omega) (by omega)
  have g3 : DataW.trod enc prog w 0 (fun _ => true) true n 3 ((cs.drop 3).take (prog.cellsOf 3)) = xs[3]? := hf 3 _ rfl
  obtain ⟨z3, e3, p3⟩ := fld_int g3 (by simp; omega) (by omega)
  obtain ⟨c0, c1, c2, c3, rfl⟩ := list4 hl
  simp only [List.getElem_cons_zero, List.getElem_cons_succ] at e0 e1 e2 e3
  subst e0 e1 e2 e3
  exact ⟨⟨z0, z1, z2, z3⟩, rfl⟩
end
end Go.Proofs

set_option linter.unusedVariables false
set_option linter.unusedSimpArgs false
namespace Go.Proofs
open Go Go.Q
open Tryz (prog)
theorem rng_in {z : Int} (h : -9223372036854775808 ≤ z ∧ z < 9223372036854775808) : rngI z := by
  unfold rngI
  omega
section
variable {H : Type} {enc : TypeId × Value → H} {w : World} {fuel n : Nat} {cs : List Value} {x : DataW H × List MemPlace}
theorem hold_in2 (h : DataW.trod enc prog w 0 (fun _ => true) true fuel 70 cs = some x) : ∃ h : HV, cs = [.int .i64 h.id, .string (str h.sku), .string (str h.loc), .int .i64 h.q, .int .i64 h.st, .int .i64 h.due] ∧ (rngI h.q ∧ rngI h.id) ∧ rngI h.due := by
  obtain ⟨xs, n, rfl, _, hl, hx, hf⟩ := DataW.trod_struct Tryz.underlying70 h
  rw [show prog.cellsOf 70 = 6 by kernel_rfl] at hl
  have hx6 : xs.length = 6 := hx
  have g0 : DataW.trod enc prog w 0 (fun _ => true) true n 3 ((cs.drop 0).take (prog.cellsOf 3)) = xs[0]? := hf 0 _ rfl
  obtain ⟨z0, e0, p0⟩ := fld_int g0 (by simp; omega) (by omega)
  have g1 : DataW.trod enc prog w 0 (fun _ => true) true n 9 ((cs.drop 1).take (prog.cellsOf 9)) = xs[1]? := hf 1 _ rfl
  obtain ⟨z1, e1, p1⟩ := fld_str g1 (by simp; omega) (by omega)
  have g2 : DataW.trod enc prog w 0 (fun _ => true) true n 9 ((cs.drop 2).take (prog.cellsOf 9)) = xs[2]? := hf 2 _ rfl
  obtain ⟨z2, e2, p2⟩ := fld_str g2 (by simp; omega) (by omega)
  have g3 : DataW.trod enc prog w 0 (fun _ => true) true n 3 ((cs.drop 3).take (prog.cellsOf 3)) = xs[3]? := hf 3 _ rfl
  obtain ⟨z3, e3, p3⟩ := fld_int g3 (by simp; omega) (by omega)
  have g4 : DataW.trod enc prog w 0 (fun _ => true) true n 3 ((cs.drop 4).take (prog.cellsOf 3)) = xs[4]? := hf 4 _ rfl
  obtain ⟨z4, e4, p4⟩ := fld_int g4 (by simp; omega) (by omega)
  have g5 : DataW.trod enc prog w 0 (fun _ => true) true n 3 ((cs.drop 5).take (prog.cellsOf 3)) = xs[5]? := hf 5 _ rfl
  obtain ⟨z5, e5, p5⟩ := fld_int g5 (by simp; omega) (by omega)
  obtain ⟨c0, c1, c2, c3, c4, c5, rfl⟩ := list6 hl
  simp only [List.getElem_cons_zero, List.getElem_cons_succ] at e0 e1 e2 e3 e4 e5
  subst e0 e1 e2 e3 e4 e5
  exact ⟨⟨z0, z1, z2, z3, z4, z5⟩, rfl, ⟨rng_in p3, rng_in p0⟩, rng_in p5⟩
theorem move_in2 (h : DataW.trod enc prog w 0 (fun _ => true) true fuel 73 cs = some x) : ∃ h : HV, cs = [.int .i64 h.id, .string (str h.sku), .string (str h.loc), .int .i64 h.q, .int .i64 h.st, .int .i64 h.due] ∧ (rngI h.q ∧ rngI h.id) ∧ rngI h.due := by
  obtain ⟨xs, n, rfl, _, hl, hx, hf⟩ := DataW.trod_struct Tryz.underlying73 h
  rw [show prog.cellsOf 73 = 6 by kernel_rfl] at hl
  have hx6 : xs.length = 6 := hx
  have g0 : DataW.trod enc prog w 0 (fun _ => true) true n 3 ((cs.drop 0).take (prog.cellsOf 3)) = xs[0]? := hf 0 _ rfl
  obtain ⟨z0, e0, p0⟩ := fld_int g0 (by simp; omega) (by omega)
  have g1 : DataW.trod enc prog w 0 (fun _ => true) true n 9 ((cs.drop 1).take (prog.cellsOf 9)) = xs[1]? := hf 1 _ rfl
  obtain ⟨z1, e1, p1⟩ := fld_str g1 (by simp; omega) (by omega)
  have g2 : DataW.trod enc prog w 0 (fun _ => true) true n 9 ((cs.drop 2).take (prog.cellsOf 9)) = xs[2]? := hf 2 _ rfl
  obtain ⟨z2, e2, p2⟩ := fld_str g2 (by simp; omega) (by omega)
  have g3 : DataW.trod enc prog w 0 (fun _ => true) true n 3 ((cs.drop 3).take (prog.cellsOf 3)) = xs[3]? := hf 3 _ rfl
  obtain ⟨z3, e3, p3⟩ := fld_int g3 (by simp; omega) (by omega)
  have g4 : DataW.trod enc prog w 0 (fun _ => true) true n 3 ((cs.drop 4).take (prog.cellsOf 3)) = xs[4]? := hf 4 _ rfl
  obtain ⟨z4, e4, p4⟩ := fld_int g4 (by simp; omega) (by omega)
  have g5 : DataW.trod enc prog w 0 (fun _ => true) true n 3 ((cs.drop 5).take (prog.cellsOf 3)) = xs[5]? := hf 5 _ rfl
  obtain ⟨z5, e5, p5⟩ := fld_int g5 (by simp; omega) (by omega)
  obtain ⟨c0, c1, c2, c3, c4, c5, rfl⟩ := list6 hl
  simp only [List.getElem_cons_zero, List.getElem_cons_succ] at e0 e1 e2 e3 e4 e5
  subst e0 e1 e2 e3 e4 e5
  exact ⟨⟨z0, z1, z2, z3, z4, z5⟩, rfl, ⟨rng_in p3, rng_in p0⟩, rng_in p5⟩
theorem fld_any {T : TypeId} {i k : Nat} {q : Option (DataW H × List MemPlace)} (h : DataW.trod enc prog w 0 (fun _ => true) true n T ((cs.drop i).take (prog.cellsOf T)) = q) (hq : q.isSome = true) (hc : prog.cellsOf T = 1) (hi : i < cs.length) : ∃ y, DataW.trod enc prog w 0 (fun _ => true) true n T [cs[i]] = some y := by
  obtain ⟨y, rfl⟩ := Option.isSome_iff_exists.1 hq
  rw [hc, one_cell hi] at h
  exact ⟨y, h⟩
theorem rows_of {α : Type} {f : α → List Value} {Q : α → Prop} {rows : List (List Value)} (h : ∀ r ∈ rows, ∃ a, r = f a ∧ Q a) : ∃ l : List α, rows = l.map f ∧ ∀ a ∈ l, Q a := by
  induction rows with
  | nil => exact ⟨[], rfl, by simp⟩
  | cons r rows ih =>
    obtain ⟨l, h1, h2⟩ := ih fun x hx => h x (by simp [hx])
    obtain ⟨s, h3, h4⟩ := h r (by simp)
    exact ⟨s :: l, by rw [h1, h3]; rfl, fun z hz => by
      rcases List.mem_cons.1 hz with rfl | hz
      · exact h4
      · exact h2 z hz⟩
theorem led_in (h : DataW.trod enc prog w 0 (fun _ => true) true fuel 26 cs = some x) : ∃ l : LV, LedAt w (.agg cs.toArray) l ∧ LTk l := by
  obtain ⟨xs, n, rfl, _, hl, hx, hf⟩ := DataW.trod_struct Tryz.underlying26 h
  rw [show prog.cellsOf 26 = 4 by kernel_rfl] at hl
  have hx4 : xs.length = 4 := hx
  have g0 : DataW.trod enc prog w 0 (fun _ => true) true n 22 ((cs.drop 0).take (prog.cellsOf 22)) = xs[0]? := hf 0 _ rfl
  obtain ⟨y0, e0⟩ := fld_any (k := 0) g0 (by simp; omega) (by kernel_rfl) (by omega)
  have g1 : DataW.trod enc prog w 0 (fun _ => true) true n 23 ((cs.drop 1).take (prog.cellsOf 23)) = xs[1]? := hf 1 _ rfl
  obtain ⟨y1, e1⟩ := fld_any (k := 0) g1 (by simp; omega) (by kernel_rfl) (by omega)
  have g2 : DataW.trod enc prog w 0 (fun _ => true) true n 24 ((cs.drop 2).take (prog.cellsOf 24)) = xs[2]? := hf 2 _ rfl
  obtain ⟨y2, e2⟩ := fld_any (k := 0) g2 (by simp; omega) (by kernel_rfl) (by omega)
  have g3 : DataW.trod enc prog w 0 (fun _ => true) true n 3 ((cs.drop 3).take (prog.cellsOf 3)) = xs[3]? := hf 3 _ rfl
  obtain ⟨z3, e3, p3⟩ := fld_int g3 (by simp; omega) (by omega)
  obtain ⟨c0, c1, c2, c3, rfl⟩ := list4 hl
  simp only [List.getElem_cons_zero, List.getElem_cons_succ] at e0 e1 e2 e3
  subst e3
  obtain ⟨v0, r0, S0, hv0, a0, _, _, q0⟩ := arg_slice Tryz.underlying22 (n := 4) (by kernel_rfl) (by omega) e0
  obtain ⟨v1, r1, S1, hv1, a1, _, _, q1⟩ := arg_slice Tryz.underlying23 (n := 6) (by kernel_rfl) (by omega) e1
  obtain ⟨v2, r2, S2, hv2, a2, _, _, q2⟩ := arg_slice Tryz.underlying24 (n := 6) (by kernel_rfl) (by omega) e2
  obtain ⟨st, t0, _⟩ := rows_of (f := sC) (Q := fun _ => True) (rows := r0) fun r hm => by
    obtain ⟨f, y, hy⟩ := q0 r hm
    obtain ⟨s, hs⟩ := stock_in hy
    exact ⟨s, hs, trivial⟩
  obtain ⟨ho, t1, u1⟩ := rows_of (f := hC) (Q := fun h : HV => (rngI h.q ∧ rngI h.id) ∧ rngI h.due) (rows := r1) fun r hm => by
    obtain ⟨f, y, hy⟩ := q1 r hm
    obtain ⟨s, hs⟩ := hold_in2 hy
    exact ⟨s, hs⟩
  obtain ⟨mo, t2, u2⟩ := rows_of (f := hC) (Q := fun h : HV => (rngI h.q ∧ rngI h.id) ∧ rngI h.due) (rows := r2) fun r hm => by
    obtain ⟨f, y, hy⟩ := q2 r hm
    obtain ⟨s, hs⟩ := move_in2 hy
    exact ⟨s, hs⟩
  subst t0 t1 t2
  simp only [List.cons.injEq, and_true] at hv0 hv1 hv2
  subst hv0 hv1 hv2
  exact ⟨⟨st, ho, mo, z3⟩, ⟨c0, c1, c2, rfl, ⟨S0, a0⟩, ⟨S1, a1⟩, ⟨S2, a2⟩⟩, ⟨⟨fun h hh => ⟨fun _ => (u1 h hh).1.1, (u1 h hh).1.2⟩, fun h hh => (u2 h hh).1⟩, fun h hh => ⟨(u1 h hh).1.1, (u1 h hh).2⟩, fun h hh => (u2 h hh).2, rng_in p3⟩⟩
end
theorem led_taken {w : World} {cs : Array Value} (h : Taken w 26 (.agg cs)) : ∃ l : LV, LedAt w (.agg cs) l ∧ LTk l := by
  obtain ⟨H, enc, fuel, x, h⟩ := h
  exact led_in h
end Go.Proofs

