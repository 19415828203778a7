/- Part of the proof (M4): an engine, rules or contracts of the functions; it states nothing of the claim by itself. -/
import Derived.Test.YtcekhmkhagakiaaM3
import Derived.Test.YtcekhmkhagakiaaM1

/- Layer 7: Apply and Replay, of the program and of the document. -/
set_option maxRecDepth 100000
set_option linter.unusedVariables false
set_option linter.unusedSimpArgs false
namespace Go.Proofs
open Go Go.Q
def applyL (l : LV) (o : OpV) : LV × Int := if (stepL l o).2 = 0 then ((stepL l o).1, 0) else (lZ, (stepL l o).2)
def replayL : LV → List OpV → Nat → LV × Nat × Int
  | l, [], k => (l, k, 0)
  | l, o :: r, k => if (stepL l o).2 = 0 then replayL (stepL l o).1 r (k + 1) else (l, k, (stepL l o).2)
section
variable {X : List Nat} {w w' : World} {v : Value} {l l' : LV} {x y : Nat}
theorem LX.less {Y : List Nat} (h : LX X w v l) (hY : ∀ q ∈ Y, q ∈ X) : LX Y w v l := by
  obtain ⟨T, h1, h2⟩ := h
  exact ⟨T, h1, fun q hq hm => h2 q hq (hY q hm)⟩
theorem retVX {z : Nat} {l0 : LV} (h : VX X w z l0) (hv : LX X w v l') {K : Value → World → Prop} (hK : ∀ w', Kp [z] w w' → LX X w' v l' → K v w') :
    stn 4 (.pointer (some ⟨z, 0, none⟩)) v w fun w => qG Try.prog (do loadVar 60 (← asAddr (.pointer (some ⟨z, 0, none⟩)))) w fun r4 => K r4 w := by
  obtain ⟨_, a, b, c, h1, h2, h3⟩ := h.ex
  have hm := h.m
  have hv' := hv
  obtain ⟨T, hv1, hv2⟩ := hv
  obtain ⟨a', b', c', SA, SB, SC, e, r1, r2, r3, _⟩ := hv1.ex
  subst e
  have hone := LedAt.ones (l := l') ⟨_, r1⟩ ⟨_, r2⟩ ⟨_, r3⟩
  rw [stAll (k := 4) h1 rfl rfl hone, lvLedw (heap_self (live_of h1)) rfl]
  have hkx : Kp [z] w (setBlk w z (.cells #[a', b', c', .int .i64 l'.ops] 60)) := (Kp.refl _ w).setBlk (.inl (by simp)) _
  exact hK _ hkx (hv'.keepS hkx fun q hq => by simp at hq; exact hq ▸ hm)
theorem step_X (hm : May l) (hv : LX X w v l) (hX : ∀ q ∈ X, q < w.heap.size) (o : OpV) (hq : rngI o.q) {K : Value → World → Prop}
    (hK : ∀ v' w', Kp [] w w' → LX X w' v' (stepL l o).1 → K (.tuple #[v', .int .i64 (stepL l o).2]) w') : callG Try.prog 67 #[v, .agg (opC o).toArray] w K := by
  obtain ⟨T, h1, h2⟩ := hv
  refine step_spec hm h1 o hq fun v' w' S' hk hv' hS => hK v' w' hk ⟨S', hv', fun q hq hm => ?_⟩
  rcases hS q hq with h | h
  · exact h2 q h hm
  · have := hX q hm; omega
theorem zLed_bld {K : Value → Prop} : bld [(0, 1), (1, 1), (2, 1), (3, 1)] (zc Try.prog 60) #[] K = K (.agg #[.slice none 0 0, .slice none 0 0, .slice none 0 0, .int .i64 0]) := by rw [zcLed, bld_done]
theorem Apply_X (hm : May l) (hv : LX X w v l) (hX : ∀ q ∈ X, q < w.heap.size) (o : OpV) (hq : rngI o.q) {K : Value → World → Prop}
    (hK : ∀ v' w', Kp [] w w' → LX X w' v' (applyL l o).1 → K (.tuple #[v', .int .i64 (applyL l o).2]) w') : callG Try.prog 39 #[v, .agg (opC o).toArray] w K := by
  refine ledger_Apply_call ?_
  unfold ledger_Apply ledger_Apply_s0
  refine argVX hv fun p2 w1 hp2 k1 c1 => ?_
  refine argBox (cs := opC o) fun y w2 hy hh2 k2 => ?_
  have c2 := c1.keep k2
  refine zeroVX (X := p2 :: X) fun p4 w3 hp4 k3 c4 => ?_
  have c3 := (c2.more hp4).keep k3
  have s1 := k1.size
  have s2 := k2.size
  have s3 := k3.size
  have hy3 := k3.get hh2 (by simp)
  have k03 := (k1.trans' k2).trans' k3
  have hX3 : ∀ q ∈ p4 :: p2 :: X, q < w3.heap.size := fun q hq => by
    rcases List.mem_cons.1 hq with rfl | hq
    · exact c4.lt
    · rcases List.mem_cons.1 hq with rfl | hq
      · exact c3.lt
      · have := hX q hq; omega
  have hsub : ∀ q ∈ X, q ∈ p4 :: p2 :: X := fun q hq => by simp [hq]
  obtain ⟨v3, hld3, hv3⟩ := c3.ld
  rw [hld3]
  refine Check_spec7 hm hv3.at fun w4 k4 => ?_
  simp only [bq_neq, bV_b, decide_eq_true_eq, decide_eq_false_iff_not]
  refine ⟨fun h => absurd rfl h, fun _ => ?_⟩
  have d3 := c3.keep k4
  have d4 := c4.keep k4
  have hy4 := k4.get hy3 (by simp)
  have s4 := k4.size
  obtain ⟨v4, hld4, hv4⟩ := d3.ld
  rw [hld4, ldAll (k := 7) hy4 rfl]
  refine step_X hm hv4 (fun q hq => by have := hX3 q hq; omega) o hq fun v5 w5 k5 hv5 => ?_
  have e4 := d4.keep k5
  have s5 := k5.size
  simp only [ex0, ex1]
  refine newVX hv5 fun p7 w6 hp7 k6 c7 => ?_
  have f4 := (e4.more hp7).keep k6
  have k06 := ((k03.trans' k4).trans' k5).trans' k6
  have hsub' : ∀ q ∈ X, q ∈ p7 :: p4 :: p2 :: X := fun q hq => by simp [hq]
  have hpw : w.heap.size ≤ p4 := by omega
  have fin : ∀ w', Kp [p4] w6 w' → Kp [] w w' := fun w' k => k06.trans k fun q hq hlt => by simp at hq; omega
  simp only [bq_neq, bV_b, decide_eq_true_eq, decide_eq_false_iff_not]
  refine ⟨fun e => ?_, fun e => ?_⟩
  · have ea : applyL l o = (lZ, (stepL l o).2) := by unfold applyL; rw [if_neg e]
    rw [ea] at hK
    rw [zLed_bld]
    exact retVX (K := fun v w => K (.tuple #[v, .int .i64 (stepL l o).2]) w) f4 (lz_x _) fun w' kz hz => hK _ w' (fin w' kz) (hz.less hsub')
  · have e0 : (stepL l o).2 = 0 := Decidable.not_not.1 e
    have ea : applyL l o = ((stepL l o).1, 0) := by unfold applyL; rw [if_pos e0]
    rw [ea] at hK
    obtain ⟨v7, hld7, hv7⟩ := c7.ld
    rw [hld7]
    exact retVX (K := fun v w => K (.tuple #[v, .int .i64 0]) w) f4 hv7 fun w' kz hz => hK _ w' (fin w' kz) (hz.less hsub')
/-- operations that were given -/
structure OpsAt (w : World) (v : Value) (ops : List OpV) : Prop where
  rd : Rd w v 7 (ops.map opC)
  wf : ∀ o ∈ ops, o.Wf
theorem OpsAt.keep {ops : List OpV} (h : OpsAt w v ops) (hk : Kp [] w w') : OpsAt w' v ops := ⟨h.rd.keep hk, h.wf⟩
theorem wf_rng {o : OpV} (h : o.Wf) : rngI o.q := ⟨h.q0, h.q1⟩
theorem replayL_drop {ops : List OpV} {i : Nat} (h : i < ops.length) (l : LV) (k : Nat) : replayL l (ops.drop i) k = if (stepL l ops[i]).2 = 0 then replayL (stepL l ops[i]).1 (ops.drop (i + 1)) (k + 1) else (l, k, (stepL l ops[i]).2) := by
  rw [List.drop_eq_getElem_cons h]; rfl
theorem Replay_X (hm : May l) (hv : LX X w v l) (hX : ∀ q ∈ X, q < w.heap.size) {vo : Value} {ops : List OpV} (ho : OpsAt w vo ops) (hl : ops.length < 2 ^ 40) {K : Value → World → Prop}
    (hK : ∀ v' w', Kp [] w w' → LX X w' v' (replayL l ops 0).1 → K (.tuple #[v', .int .i64 (replayL l ops 0).2.1, .int .i64 (replayL l ops 0).2.2]) w') : callG Try.prog 36 #[v, vo] w K := by
  refine ledger_Replay_call ?_
  unfold ledger_Replay ledger_Replay_s4
  refine argVX hv fun p2 w1 hp2 k1 c1 => ?_
  refine zeroVX (X := p2 :: X) fun p4 w3 hp4 k3 c4 => ?_
  have c3 := (c1.more hp4).keep k3
  have s1 := k1.size
  have s3 := k3.size
  have k03 := k1.trans' k3
  have hX3 : ∀ q ∈ p4 :: p2 :: X, q < w3.heap.size := fun q hq => by
    rcases List.mem_cons.1 hq with rfl | hq
    · exact c4.lt
    · rcases List.mem_cons.1 hq with rfl | hq
      · exact c3.lt
      · have := hX q hq; omega
  have hsub : ∀ q ∈ X, q ∈ p4 :: p2 :: X := fun q hq => by simp [hq]
  have hp24 : p2 ≠ p4 := by have := c1.lt; omega
  obtain ⟨v3, hld3, hv3⟩ := c3.ld
  rw [hld3]
  refine Check_spec7 hm hv3.at fun w4 k4 => ?_
  simp only [bq_neq, bV_b, decide_eq_true_eq, decide_eq_false_iff_not]
  refine ⟨fun h => absurd rfl h, fun _ => ?_⟩
  obtain ⟨E, hE⟩ : ∃ E, E = replayL l ops 0 := ⟨_, rfl⟩
  rw [← hE] at hK
  have o4 := (ho.keep k03).keep k4
  have k04 := k03.trans' k4
  have s4 := k4.size
  unfold ledger_Replay_s3 ledger_Replay_L2
  rw [o4.rd.lenL, List.length_map]
  refine loop_inv (fun m xs wi => ∃ (i : Nat) (li : LV) (Y : List Nat), i ≤ ops.length ∧ m = ops.length - i ∧ xs = [vo, .pointer (some ⟨p2, 0, none⟩), .pointer (some ⟨p4, 0, none⟩), vo, .int .i64 ops.length, .int .i64 (i : Nat)] ∧ E = replayL li (ops.drop i) i ∧ May li ∧ Kp [] w wi ∧ w4.heap.size ≤ wi.heap.size ∧
      (∀ q ∈ X, q ∈ Y) ∧ (∀ q ∈ Y, q < wi.heap.size) ∧ VX Y wi p2 li ∧ VX Y wi p4 lZ) ?_ (m := ops.length)
    ⟨0, l, p4 :: p2 :: X, by omega, rfl, rfl, hE, hm, k04, Nat.le_refl _, hsub, fun q hq => by have := hX3 q hq; omega, c3.keep k4, c4.keep k4⟩
  rintro m N xs wi ⟨i, li, Y, hi, rfl, rfl, he, hmi, ki, hsi, hXY, hY, ci, zi⟩ hN
  have hiw : IntKind.i64.wrap ((i : Int) + 1) = ((i + 1 : Nat) : Int) := by rw [w64 (by omega) (by omega)]; simp
  have oi := ho.keep ki
  unfold ledger_Replay_L2F ledger_Replay_b1
  simp only [bq_lss, bV_b, decide_eq_true_eq, decide_eq_false_iff_not]
  refine ⟨fun hlt => ?_, fun hge => ?_⟩
  · have hlt : i < ops.length := by omega
    rw [replayL_drop hlt] at he
    obtain ⟨p, i1, i2, _⟩ := rd_parts oi.rd hlt
    rw [i1, i2]
    refine boxG (c := (opC ops[i]).toArray) (by kernel_rfl) rfl (by simp [opC, one]) fun y w5 hy hh5 k5 => ?_
    have c5 := ci.keep k5
    have z5 := zi.keep k5
    have s5 := k5.size
    obtain ⟨v5, hld5, hv5⟩ := c5.ld
    rw [hld5, ldAll (k := 7) hh5 rfl]
    have hwf := ho.wf ops[i] (List.getElem_mem hlt)
    refine step_X hmi hv5 (fun q hq => by have := hY q hq; omega) ops[i] (wf_rng hwf) fun v6 w6 k6 hv6 => ?_
    have s6 := k6.size
    simp only [ex0, ex1]
    refine newVX hv6 fun p7 w7 hp7 k7 c7 => ?_
    have s7 := k7.size
    have c8 := ((c5.keep k6).more hp7).keep k7
    have z8 := ((z5.keep k6).more hp7).keep k7
    have k57 := (k5.trans' k6).trans' k7
    simp only [bq_neq, bV_b, decide_eq_true_eq, decide_eq_false_iff_not]
    refine ⟨fun e => ?_, fun e => ?_⟩
    · rw [if_neg e] at he
      rw [he] at hK
      obtain ⟨v8, hld8, hv8⟩ := c8.ld
      rw [hld8]
      refine retVX (K := fun v w => K (.tuple #[v, .int .i64 i, .int .i64 (stepL li ops[i]).2]) w) z8 hv8 fun w' kz hz => hK _ w' ((ki.trans' k57).trans kz fun q hq hlt => by simp at hq; omega) (hz.less fun q hq => by simp [hXY q hq])
    · have e0 : (stepL li ops[i]).2 = 0 := Decidable.not_not.1 e
      rw [if_pos e0] at he
      obtain ⟨v8, hld8, hv8⟩ := c7.ld
      rw [hld8]
      refine c8.st hv8 fun w9 k9 c9 => ?_
      simp only [bq_add, hiw]
      have hm9 := c9.m
      have s9 := k9.size
      refine hN (ops.length - (i + 1)) _ w9 (by omega) ⟨i + 1, _, p7 :: Y, by omega, rfl, rfl, he, stepL_may hmi hwf, (ki.trans' k57).trans k9 fun q hq hlt => by simp at hq; omega, by omega, fun q hq => by simp [hXY q hq], fun q hq => ?_, c9, z8.keepS k9 (fun q hq => by simp at hq; exact hq ▸ hm9) (by simpa using Ne.symm hp24)⟩
      rcases List.mem_cons.1 hq with rfl | hq
      · have := c7.lt; omega
      · have := hY q hq; omega
  · have hie : i = ops.length := by omega
    subst hie
    rw [List.drop_length] at he
    have he' : E = (li, ops.length, 0) := he
    rw [he'] at hK
    unfold ledger_Replay_s0
    obtain ⟨v8, hld8, hv8⟩ := ci.ld
    rw [hld8, oi.rd.lenL, List.length_map]
    exact retVX (K := fun v w => K (.tuple #[v, .int .i64 ops.length, .int .i64 0]) w) zi hv8 fun w' kz hz => hK _ w' (ki.trans kz fun q hq hlt => by simp at hq; omega) (hz.less hXY)
end
end Go.Proofs

/- Layer 7: the document's Replay; are ledgers the same? -/
set_option maxRecDepth 100000
set_option linter.unusedVariables false
set_option linter.unusedSimpArgs false
namespace Go.Proofs
open Go Go.Q
section
variable {X : List Nat} {w w' : World} {v : Value} {l l' : LV} {x y : Nat}
/-! ### are ledgers the same? -/
theorem sC_inj {a b : SV} : eqC (sC a) (sC b) = decide (a = b) := by
  obtain ⟨a1, a2, a3, a4⟩ := a
  obtain ⟨b1, b2, b3, b4⟩ := b
  rw [Bool.eq_iff_iff]
  simp [sC]
theorem hC_inj {a b : HV} : eqC (hC a) (hC b) = decide (a = b) := by
  obtain ⟨a1, a2, a3, a4, a5, a6⟩ := a
  obtain ⟨b1, b2, b3, b4, b5, b6⟩ := b
  rw [Bool.eq_iff_iff]
  simp [hC]
theorem Same7_spec {w : World} {v v' : Value} {l l' : LV} (h : LedAt w v l) (h' : LedAt w v' l') (hs : l.st.length < 2 ^ 40) (hh : l.ho.length < 2 ^ 40) (hm : l.mo.length < 2 ^ 40) {K : Value → World → Prop} (hK : ∀ w', Kp [] w w' → K (.bool (decide (l = l'))) w') : callG Try.prog 38 #[v, v'] w K := by
  refine ref07_Same_call ?_
  unfold ref07_Same ref07_Same_s10
  refine boxLed h fun x a b c w1 hx k1 hB _ => ?_
  refine boxLed (h'.keep k1) fun y a' b' c' w2 hy k2 hB' _ => ?_
  have hB2 := hB.keep k2
  have k02 := k1.trans' k2
  have hno : ∀ w', Kp [] w2 w' → ¬ (l = l') → K (.bool false) w' := fun w' k e => by have := hK w' (k02.trans' k); rw [decide_eq_false e] at this; exact this
  simp only [fa_p, Nat.add_zero, Nat.zero_add]
  rw [hB2.l0, hB2.a.lenL, hB'.l0, hB'.a.lenL, List.length_map, List.length_map]
  simp only [bq_neq, bV_b, decide_eq_true_eq, decide_eq_false_iff_not]
  refine ⟨fun e => hno w2 (Kp.refl _ _) (fun h => e (by rw [h])), fun e1 => ?_⟩
  rw [hB2.l1, hB2.b.lenL, hB'.l1, hB'.b.lenL, List.length_map, List.length_map]
  simp only [bq_neq, bV_b, decide_eq_true_eq, decide_eq_false_iff_not]
  refine ⟨fun e => hno w2 (Kp.refl _ _) (fun h => e (by rw [h])), fun e2 => ?_⟩
  rw [hB2.l2, hB2.c.lenL, hB'.l2, hB'.c.lenL, List.length_map, List.length_map]
  simp only [bq_neq, bV_b, decide_eq_true_eq, decide_eq_false_iff_not]
  refine ⟨fun e => hno w2 (Kp.refl _ _) (fun h => e (by rw [h])), fun e3 => ?_⟩
  rw [hB2.l3, hB'.l3]
  simp only [bq_neq, bV_b, decide_eq_true_eq, decide_eq_false_iff_not]
  refine ⟨fun e => hno w2 (Kp.refl _ _) (fun h => e (by rw [h])), fun e4 => ?_⟩
  have e1 : l.st.length = l'.st.length := by omega
  have e2 : l.ho.length = l'.ho.length := by omega
  have e3 : l.mo.length = l'.mo.length := by omega
  have e4 : l.ops = l'.ops := Decidable.not_not.1 e4
  unfold ref07_Same_s9 ref07_Same_L8
  refine loop_inv (fun m xs wi => ∃ i, i ≤ l.st.length ∧ m = l.st.length - i ∧ xs = [.pointer (some ⟨x, 0, none⟩), .pointer (some ⟨y, 0, none⟩), .int .i64 (i : Nat)] ∧ Kp [] w2 wi ∧ ∀ j (h1 : j < l.st.length) (h2 : j < l'.st.length), j < i → l.st[j] = l'.st[j]) ?_ (m := l.st.length) ⟨0, by omega, rfl, rfl, Kp.refl _ _, fun j _ _ h => by omega⟩
  rintro m N xs wi ⟨i, hi, rfl, rfl, ki, hall⟩ hN
  have hiw : IntKind.i64.wrap ((i : Int) + 1) = ((i + 1 : Nat) : Int) := by rw [w64 (by omega) (by omega)]; simp
  have bi := hB2.keep ki
  unfold ref07_Same_L8F ref07_Same_b7
  simp only [fa_p, Nat.add_zero, Nat.zero_add]
  rw [bi.l0, bi.a.lenL, List.length_map]
  simp only [bq_lss, bV_b, decide_eq_true_eq, decide_eq_false_iff_not]
  refine ⟨fun hlt => ?_, fun hge => ?_⟩
  · have hlt : i < l.st.length := by omega
    have kd : Kp [] w2 wi.drew := ki.trans' kp_drew
    have bd := hB2.keep kd
    have bd' := hB'.keep kd
    obtain ⟨p, p1, p2, _⟩ := rd_parts bd.a hlt
    obtain ⟨q, q1, q2, _⟩ := rd_parts bd'.a (show i < l'.st.length by omega)
    rw [bd.l0, p1, p2, bd'.l0, q1, q2]
    rw [bq_aggneq (by kernel_rfl), sC_inj]
    simp only [bV_b, bq_add, hiw]
    refine ⟨fun e => hno _ kd (fun h => ?_), fun e => ?_⟩
    · subst h; simp at e
    · have e : l.st[i] = l'.st[i]'(by omega) := by simpa using e
      refine hN (l.st.length - (i + 1)) _ _ (by omega) ⟨i + 1, by omega, rfl, rfl, kd, fun j h1 h2 hj => ?_⟩
      by_cases hji : j = i
      · subst hji; exact e
      · exact hall j h1 h2 (by omega)
  have est : l.st = l'.st := List.ext_getElem e1 fun j h1 h2 => hall j h1 h2 (by omega)
  unfold ref07_Same_s6 ref07_Same_L5
  refine loop_inv (fun m xs wj => ∃ i, i ≤ l.ho.length ∧ m = l.ho.length - i ∧ xs = [.pointer (some ⟨x, 0, none⟩), .pointer (some ⟨y, 0, none⟩), .int .i64 (i : Nat)] ∧ Kp [] w2 wj ∧ ∀ j (h1 : j < l.ho.length) (h2 : j < l'.ho.length), j < i → l.ho[j] = l'.ho[j]) ?_ (m := l.ho.length) ⟨0, by omega, rfl, rfl, ki, fun j _ _ h => by omega⟩
  clear hN hall hiw bi
  rintro m N xs wj ⟨i, hi, rfl, rfl, kj, hall⟩ hN
  have hiw : IntKind.i64.wrap ((i : Int) + 1) = ((i + 1 : Nat) : Int) := by rw [w64 (by omega) (by omega)]; simp
  have bi := hB2.keep kj
  unfold ref07_Same_L5F ref07_Same_b4
  simp only [fa_p, Nat.add_zero, Nat.zero_add]
  rw [bi.l1, bi.b.lenL, List.length_map]
  simp only [bq_lss, bV_b, decide_eq_true_eq, decide_eq_false_iff_not]
  refine ⟨fun hlt => ?_, fun hge => ?_⟩
  · have hlt : i < l.ho.length := by omega
    have kd : Kp [] w2 wj.drew := kj.trans' kp_drew
    have bd := hB2.keep kd
    have bd' := hB'.keep kd
    obtain ⟨p, p1, p2, _⟩ := rd_parts bd.b hlt
    obtain ⟨q, q1, q2, _⟩ := rd_parts bd'.b (show i < l'.ho.length by omega)
    rw [bd.l1, p1, p2, bd'.l1, q1, q2]
    rw [bq_aggneq (by kernel_rfl), hC_inj]
    simp only [bV_b, bq_add, hiw]
    refine ⟨fun e => hno _ kd (fun h => ?_), fun e => ?_⟩
    · subst h; simp at e
    · have e : l.ho[i] = l'.ho[i]'(by omega) := by simpa using e
      refine hN (l.ho.length - (i + 1)) _ _ (by omega) ⟨i + 1, by omega, rfl, rfl, kd, fun j h1 h2 hj => ?_⟩
      by_cases hji : j = i
      · subst hji; exact e
      · exact hall j h1 h2 (by omega)
  have eho : l.ho = l'.ho := List.ext_getElem e2 fun j h1 h2 => hall j h1 h2 (by omega)
  unfold ref07_Same_s3 ref07_Same_L2
  refine loop_inv (fun m xs wj => ∃ i, i ≤ l.mo.length ∧ m = l.mo.length - i ∧ xs = [.pointer (some ⟨x, 0, none⟩), .pointer (some ⟨y, 0, none⟩), .int .i64 (i : Nat)] ∧ Kp [] w2 wj ∧ ∀ j (h1 : j < l.mo.length) (h2 : j < l'.mo.length), j < i → l.mo[j] = l'.mo[j]) ?_ (m := l.mo.length) ⟨0, by omega, rfl, rfl, kj, fun j _ _ h => by omega⟩
  clear hN hall hiw bi
  rintro m N xs wk ⟨i, hi, rfl, rfl, kk, hall⟩ hN
  have hiw : IntKind.i64.wrap ((i : Int) + 1) = ((i + 1 : Nat) : Int) := by rw [w64 (by omega) (by omega)]; simp
  have bi := hB2.keep kk
  unfold ref07_Same_L2F ref07_Same_b1
  simp only [fa_p, Nat.add_zero, Nat.zero_add]
  rw [bi.l2, bi.c.lenL, List.length_map]
  simp only [bq_lss, bV_b, decide_eq_true_eq, decide_eq_false_iff_not]
  refine ⟨fun hlt => ?_, fun hge => ?_⟩
  · have hlt : i < l.mo.length := by omega
    have kd : Kp [] w2 wk.drew := kk.trans' kp_drew
    have bd := hB2.keep kd
    have bd' := hB'.keep kd
    obtain ⟨p, p1, p2, _⟩ := rd_parts bd.c hlt
    obtain ⟨q, q1, q2, _⟩ := rd_parts bd'.c (show i < l'.mo.length by omega)
    rw [bd.l2, p1, p2, bd'.l2, q1, q2]
    rw [bq_aggneq (by kernel_rfl), hC_inj]
    simp only [bV_b, bq_add, hiw]
    refine ⟨fun e => hno _ kd (fun h => ?_), fun e => ?_⟩
    · subst h; simp at e
    · have e : l.mo[i] = l'.mo[i]'(by omega) := by simpa using e
      refine hN (l.mo.length - (i + 1)) _ _ (by omega) ⟨i + 1, by omega, rfl, rfl, kd, fun j h1 h2 hj => ?_⟩
      by_cases hji : j = i
      · subst hji; exact e
      · exact hall j h1 h2 (by omega)
  have emo : l.mo = l'.mo := List.ext_getElem e3 fun j h1 h2 => hall j h1 h2 (by omega)
  unfold ref07_Same_s0
  have := hK wk (k02.trans' kk)
  have e : l = l' := by
    cases l; cases l'
    simp only [LV.mk.injEq]
    exact ⟨est, eho, emo, e4⟩
  rw [decide_eq_true e] at this
  exact this
end
end Go.Proofs

set_option linter.unusedVariables false
set_option linter.unusedSimpArgs false
namespace Go.Proofs
open Go Go.Q
set_option maxRecDepth 100000
/-! quayside/quaysidelaw07.receive -/
def law07_receive_s0 (R : Value → World → Prop) (x0 x1 x2 : Value) (w : World) : Prop :=
  newG (zc Try.prog 23) 23 w fun t6 w =>
  bld [(0, 1), (1, 1), (2, 1), (3, 1), (4, 1), (5, 1), (6, 1)] (zc Try.prog 23) #[(0, (.int .i64 1)), (1, x0), (2, x1), (4, x2)] fun t10 =>
  stn 7 t6 t10 w fun w =>
  qG Try.prog (do loadVar 23 (← asAddr t6)) w fun r6 =>
  R r6 w
theorem law07_receive_s0_eq (R : Value → World → Prop) : ∀ e w, lift Try.prog 11 (bodyOf Try.f45) (finK Try.prog Try.f45.results.toList R) e w = law07_receive_s0 R (e 0) (e 1) (e 2) w := fun e w => by kernel_rfl
def law07_receive (R : Value → World → Prop) (x0 x1 x2 : Value) (w : World) : Prop := law07_receive_s0 R x0 x1 x2 w
theorem law07_receive_call {R : Value → World → Prop} {x0 x1 x2 : Value} {w : World} (h : law07_receive R x0 x1 x2 w) : callG Try.prog 45 #[x0, x1, x2] w R :=
  calls_lift_eq Try.mixed Try.func45 (args := [x0, x1, x2]) rfl rfl rfl rfl ((law07_receive_s0_eq R) (envOf [x0, x1, x2]) w) (by kernel_rfl) h
/-! quayside/quaysidelaw07.awake -/
def law07_awake_s0 (R : Value → World → Prop) (w : World) : Prop :=
  bld [(0, 1), (1, 1), (2, 1), (3, 1)] (zc Try.prog 60) #[] fun t7 =>
  callG Try.prog 45 #[(.string ⟨#[115]⟩), (.string ⟨#[120]⟩), (.int .i64 5)] w fun t8 w =>
  bld [(0, 1), (1, 1), (2, 1), (3, 1), (4, 1), (5, 1), (6, 1)] (zc Try.prog 23) #[(0, (.int .i64 2)), (1, (.string ⟨#[115]⟩)), (2, (.string ⟨#[120]⟩)), (4, (.int .i64 3))] fun t9 =>
  bld [(0, 1), (1, 1), (2, 1), (3, 1), (4, 1), (5, 1), (6, 1)] (zc Try.prog 23) #[(0, (.int .i64 3)), (5, (.int .i64 1))] fun t10 =>
  bld [(0, 1), (1, 1), (2, 1), (3, 1), (4, 1), (5, 1), (6, 1)] (zc Try.prog 23) #[(0, (.int .i64 6)), (1, (.string ⟨#[115]⟩)), (2, (.string ⟨#[120]⟩)), (3, (.string ⟨#[121]⟩)), (4, (.int .i64 1))] fun t11 =>
  bsl 23 7 4 (zc Try.prog 23) #[(0, t8), (1, t9), (2, t10), (3, t11)] w fun t12 w =>
  callG Try.prog 36 #[t7, t12] w fun t13 w =>
  qG Try.prog (Instr.extract t13 0) w fun t14 =>
  qG Try.prog (Instr.extract t13 1) w fun t15 =>
  qG Try.prog (Instr.extract t13 2) w fun t16 =>
  newG (zc Try.prog 60) 60 w fun t1 w =>
  stn 4 t1 t14 w fun w =>
  ldn 4 t1 w fun t18 =>
  bld [(0, 1), (1, 1), (2, 1), (3, 1), (4, 1), (5, 1), (6, 1)] (zc Try.prog 23) #[(0, (.int .i64 4)), (5, (.int .i64 1))] fun t19 =>
  callG Try.prog 39 #[t18, t19] w fun t20 w =>
  qG Try.prog (Instr.extract t20 0) w fun t21 =>
  qG Try.prog (Instr.extract t20 1) w fun t22 =>
  newG (zc Try.prog 60) 60 w fun t4 w =>
  stn 4 t4 t21 w fun w =>
  qG Try.prog (bq .eql 3 (.tmp 23) (.const (.int .i64 4)) t15 (.int .i64 4)) w fun t24 =>
  bV t24
  (qG Try.prog (bq .eql 26 (.tmp 26) (.const (.int .i64 0)) t16 (.int .i64 0)) w fun t27 =>
  bV t27
  (qG Try.prog (bq .eql 26 (.tmp 30) (.const (.int .i64 71)) t22 (.int .i64 71)) w fun t31 =>
  bV t31
  (ldn 4 t1 w fun t34 =>
  callG Try.prog 43 #[t34, (.string ⟨#[115]⟩), (.string ⟨#[120]⟩)] w fun t35 w =>
  qG Try.prog (bq .eql 3 (.tmp 35) (.const (.int .i64 1)) t35 (.int .i64 1)) w fun t36 =>
  bV t36
  (ldn 4 t1 w fun t39 =>
  callG Try.prog 44 #[t39, (.string ⟨#[115]⟩), (.string ⟨#[121]⟩)] w fun t40 w =>
  fld false 2 1 t40 fun t41 =>
  qG Try.prog (bq .eql 3 (.tmp 41) (.const (.int .i64 1)) t41 (.int .i64 1)) w fun t42 =>
  bV t42
  (fa 2 t1 fun t45 =>
  ld1 t45 w fun t46 =>
  lenL t46 fun t47 =>
  qG Try.prog (bq .eql 3 (.tmp 47) (.const (.int .i64 4)) t47 (.int .i64 4)) w fun t48 =>
  bV t48
  (ldn 4 t1 w fun t51 =>
  callG Try.prog 66 #[t51] w fun t52 w =>
  qG Try.prog (bq .eql 26 (.tmp 52) (.const (.int .i64 0)) t52 (.int .i64 0)) w fun t53 =>
  R t53 w)
  (R (.bool false) w))
  (R (.bool false) w))
  (R (.bool false) w))
  (R (.bool false) w))
  (R (.bool false) w))
  (R (.bool false) w)
theorem law07_awake_s0_eq (R : Value → World → Prop) : ∀ e w, lift Try.prog 55 (bodyOf Try.f35) (finK Try.prog Try.f35.results.toList R) e w = law07_awake_s0 R w := fun e w => by kernel_rfl
def law07_awake (R : Value → World → Prop) (w : World) : Prop := law07_awake_s0 R  w
theorem law07_awake_call {R : Value → World → Prop} {w : World} (h : law07_awake R w) : callG Try.prog 35 #[] w R :=
  calls_lift_eq Try.mixed Try.func35 (args := []) rfl rfl rfl rfl ((law07_awake_s0_eq R) (envOf []) w) (by kernel_rfl) h
/-! quayside/quaysidelaw07.play -/
/-! quayside/quaysidelaw07.total -/
/-! quayside/quaysidelaw07.LedgerReplays -/
/-! quayside/quaysidelaw07.LedgerKeeps -/
def law07_LedgerKeeps_s0 (R : Value → World → Prop) (w : World) : Prop :=
  callG Try.prog 35 #[] w fun t134 w =>
  R t134 w
theorem law07_LedgerKeeps_s0_eq (R : Value → World → Prop) : ∀ e w, lift Try.prog 135 (sub (bodyOf Try.f9) [1, 1, 1]) (finK Try.prog Try.f9.results.toList R) e w = law07_LedgerKeeps_s0 R w := fun e w => by kernel_rfl
def law07_LedgerKeeps_s1 (R : Value → World → Prop) (N1 : List Value → World → Prop) (x0 x3 x4 : Value) (w : World) : Prop :=
  qG Try.prog (bq .add 3 (.tmp 19) (.const (.int .i64 1)) x4 (.int .i64 1)) w fun t20 =>
  N1 [x0, x3, t20] w
theorem law07_LedgerKeeps_s1_eq (R : Value → World → Prop) (N1 : List Value → World → Prop) : ∀ e w, lift Try.prog 135 (sub (bodyOf Try.f9) [1, 1, 0, 1, 0, 0, 1, 1]) (seqK (fun e w => N1 [e 0, e 3, e 4] w) (blockK 0 (seqK (fun e w => law07_LedgerKeeps_s0 R  w) (finK Try.prog Try.f9.results.toList R)))) e w = law07_LedgerKeeps_s1 R N1 (e 0) (e 3) (e 4) w := fun e w => by kernel_rfl
def law07_LedgerKeeps_s2 (R : Value → World → Prop) (N1 : List Value → World → Prop) (x0 x3 x4 x5 : Value) (w : World) : Prop :=
  ldn 4 x5 w fun t133 =>
  stn 4 x3 t133 w fun w =>
  law07_LedgerKeeps_s1 R N1 x0 x3 x4 w
theorem law07_LedgerKeeps_s2_eq (R : Value → World → Prop) (N1 : List Value → World → Prop) : ∀ e w, lift Try.prog 135 (sub (bodyOf Try.f9) [1, 1, 0, 1, 0, 0, 1, 0, 0, 1, 1, 1, 1, 1]) (blockK 1 (seqK (fun e w => law07_LedgerKeeps_s1 R N1 (e 0) (e 3) (e 4) w) (seqK (fun e w => N1 [e 0, e 3, e 4] w) (blockK 0 (seqK (fun e w => law07_LedgerKeeps_s0 R  w) (finK Try.prog Try.f9.results.toList R)))))) e w = law07_LedgerKeeps_s2 R N1 (e 0) (e 3) (e 4) (e 5) w := fun e w => by kernel_rfl
def law07_LedgerKeeps_b3 (R : Value → World → Prop) (N1 : List Value → World → Prop) (N2 : List Value → World → Prop) (x0 x3 x4 x5 x8 : Value) (w : World) : Prop :=
  fa 1 x3 fun t84 =>
  ld1 t84 w fun t85 =>
  lenL t85 fun t86 =>
  qG Try.prog (bq .lss 3 (.tmp 83) (.tmp 86) x8 t86) w fun t87 =>
  bV t87
  (fa 1 x5 fun t90 =>
  ld1 t90 w fun t91 =>
  ia 6 t91 x8 fun t93 =>
  ldn 6 t93 w fun t94 =>
  newG (zc Try.prog 34) 34 w fun t9 w =>
  stn 6 t9 t94 w fun w =>
  fa 1 x3 fun t95 =>
  ld1 t95 w fun t96 =>
  ia 6 t96 x8 fun t98 =>
  fa 4 t98 fun t99 =>
  ld1 t99 w fun t100 =>
  fa 4 t9 fun t101 =>
  st1 t101 t100 w fun w =>
  ldn 6 t9 (World.drew w) fun t102 =>
  fa 1 x3 fun t103 =>
  ld1 t103 (World.drew w) fun t104 =>
  ia 6 t104 x8 fun t106 =>
  ldn 6 t106 (World.drew w) fun t107 =>
  qG Try.prog (bq .neq 34 (.tmp 102) (.tmp 107) t102 t107) (World.drew w) fun t108 =>
  bV t108
  (R (.bool false) (World.drew w))
  (fa 1 x3 fun t110 =>
  ld1 t110 (World.drew w) fun t111 =>
  ia 6 t111 x8 fun t113 =>
  fa 4 t113 fun t114 =>
  ld1 t114 (World.drew w) fun t115 =>
  qG Try.prog (bq .neq 3 (.tmp 115) (.const (.int .i64 0)) t115 (.int .i64 0)) (World.drew w) fun t116 =>
  bV t116
  (fa 1 x5 fun t118 =>
  ld1 t118 (World.drew w) fun t119 =>
  ia 6 t119 x8 fun t121 =>
  fa 4 t121 fun t122 =>
  ld1 t122 (World.drew w) fun t123 =>
  fa 1 x3 fun t124 =>
  ld1 t124 (World.drew w) fun t125 =>
  ia 6 t125 x8 fun t127 =>
  fa 4 t127 fun t128 =>
  ld1 t128 (World.drew w) fun t129 =>
  qG Try.prog (bq .neq 3 (.tmp 123) (.tmp 129) t123 t129) (World.drew w) fun t130 =>
  bV t130
  (R (.bool false) (World.drew w))
  (qG Try.prog (bq .add 3 (.tmp 88) (.const (.int .i64 1)) x8 (.int .i64 1)) (World.drew w) fun t89 =>
  N2 [x0, x3, x4, x5, t89] (World.drew w)))
  (qG Try.prog (bq .add 3 (.tmp 88) (.const (.int .i64 1)) x8 (.int .i64 1)) (World.drew w) fun t89_1 =>
  N2 [x0, x3, x4, x5, t89_1] (World.drew w))))
  (law07_LedgerKeeps_s2 R N1 x0 x3 x4 x5 w)
theorem law07_LedgerKeeps_b3_eq (R : Value → World → Prop) (N1 : List Value → World → Prop) (N2 : List Value → World → Prop) : ∀ e w, lift Try.prog 135 (sub (bodyOf Try.f9) [1, 1, 0, 1, 0, 0, 1, 0, 0, 1, 1, 1, 1, 0, 1, 0, 0]) (seqK (fun e w => N2 [e 0, e 3, e 4, e 5, e 8] w) (blockK 4 (seqK (fun e w => law07_LedgerKeeps_s2 R N1 (e 0) (e 3) (e 4) (e 5) w) (blockK 1 (seqK (fun e w => law07_LedgerKeeps_s1 R N1 (e 0) (e 3) (e 4) w) (seqK (fun e w => N1 [e 0, e 3, e 4] w) (blockK 0 (seqK (fun e w => law07_LedgerKeeps_s0 R  w) (finK Try.prog Try.f9.results.toList R))))))))) e w = law07_LedgerKeeps_b3 R N1 N2 (e 0) (e 3) (e 4) (e 5) (e 8) w := fun e w => by kernel_rfl
def law07_LedgerKeeps_L4F (R : Value → World → Prop) (N1 : List Value → World → Prop) (N2 : List Value → World → Prop) (xs : List Value) (w : World) : Prop :=
  match xs with
  | [x0, x3, x4, x5, x8] => law07_LedgerKeeps_b3 R N1 N2 x0 x3 x4 x5 x8 w
  | _ => False
def law07_LedgerKeeps_L4 (R : Value → World → Prop) (N1 : List Value → World → Prop) (x0 x3 x4 x5 x8 : Value) (w : World) : Prop :=
  ∃ m, loopV (law07_LedgerKeeps_L4F R N1) m [x0, x3, x4, x5, x8] w
theorem law07_LedgerKeeps_L4_eq (R : Value → World → Prop) (N1 : List Value → World → Prop) : ∀ e w, lift Try.prog 135 (sub (bodyOf Try.f9) [1, 1, 0, 1, 0, 0, 1, 0, 0, 1, 1, 1, 1, 0, 1, 0]) (blockK 4 (seqK (fun e w => law07_LedgerKeeps_s2 R N1 (e 0) (e 3) (e 4) (e 5) w) (blockK 1 (seqK (fun e w => law07_LedgerKeeps_s1 R N1 (e 0) (e 3) (e 4) w) (seqK (fun e w => N1 [e 0, e 3, e 4] w) (blockK 0 (seqK (fun e w => law07_LedgerKeeps_s0 R  w) (finK Try.prog Try.f9.results.toList R)))))))) e w = law07_LedgerKeeps_L4 R N1 (e 0) (e 3) (e 4) (e 5) (e 8) w := loop_seg (F := law07_LedgerKeeps_L4F R N1) (sel := fun e => [e 0, e 3, e 4, e 5, e 8]) fun N2 => (law07_LedgerKeeps_b3_eq R N1 N2)
def law07_LedgerKeeps_s5 (R : Value → World → Prop) (N1 : List Value → World → Prop) (x0 x3 x4 x5 : Value) (w : World) : Prop :=
  law07_LedgerKeeps_L4 R N1 x0 x3 x4 x5 (.int .i64 0) w
theorem law07_LedgerKeeps_s5_eq (R : Value → World → Prop) (N1 : List Value → World → Prop) : ∀ e w, lift Try.prog 135 (sub (bodyOf Try.f9) [1, 1, 0, 1, 0, 0, 1, 0, 0, 1, 1, 1, 1, 0]) (seqK (fun e w => law07_LedgerKeeps_s2 R N1 (e 0) (e 3) (e 4) (e 5) w) (blockK 1 (seqK (fun e w => law07_LedgerKeeps_s1 R N1 (e 0) (e 3) (e 4) w) (seqK (fun e w => N1 [e 0, e 3, e 4] w) (blockK 0 (seqK (fun e w => law07_LedgerKeeps_s0 R  w) (finK Try.prog Try.f9.results.toList R))))))) e w = law07_LedgerKeeps_s5 R N1 (e 0) (e 3) (e 4) (e 5) w :=
  segs_eq (l := [(sub (bodyOf Try.f9) [1, 1, 0, 1, 0, 0, 1, 0, 0, 1, 1, 1, 1, 0, 0])]) (y := (sub (bodyOf Try.f9) [1, 1, 0, 1, 0, 0, 1, 0, 0, 1, 1, 1, 1, 0, 1])) (Y := (fun e w => law07_LedgerKeeps_L4 R N1 (e 0) (e 3) (e 4) (e 5) (e 8) w)) (law07_LedgerKeeps_L4_eq R N1) (fun e w => by kernel_rfl)
def law07_LedgerKeeps_b6 (R : Value → World → Prop) (N1 : List Value → World → Prop) (N2 : List Value → World → Prop) (x0 x3 x4 x5 x7 : Value) (w : World) : Prop :=
  fa 2 x3 fun t66 =>
  ld1 t66 w fun t67 =>
  lenL t67 fun t68 =>
  qG Try.prog (bq .lss 3 (.tmp 65) (.tmp 68) x7 t68) w fun t69 =>
  bV t69
  (fa 2 x5 fun t72 =>
  ld1 t72 (World.drew w) fun t73 =>
  ia 6 t73 x7 fun t75 =>
  ldn 6 t75 (World.drew w) fun t76 =>
  fa 2 x3 fun t77 =>
  ld1 t77 (World.drew w) fun t78 =>
  ia 6 t78 x7 fun t80 =>
  ldn 6 t80 (World.drew w) fun t81 =>
  qG Try.prog (bq .neq 50 (.tmp 76) (.tmp 81) t76 t81) (World.drew w) fun t82 =>
  bV t82
  (R (.bool false) (World.drew w))
  (qG Try.prog (bq .add 3 (.tmp 70) (.const (.int .i64 1)) x7 (.int .i64 1)) (World.drew w) fun t71 =>
  N2 [x0, x3, x4, x5, t71] (World.drew w)))
  (law07_LedgerKeeps_s5 R N1 x0 x3 x4 x5 w)
theorem law07_LedgerKeeps_b6_eq (R : Value → World → Prop) (N1 : List Value → World → Prop) (N2 : List Value → World → Prop) : ∀ e w, lift Try.prog 135 (sub (bodyOf Try.f9) [1, 1, 0, 1, 0, 0, 1, 0, 0, 1, 1, 1, 0, 1, 0, 0]) (seqK (fun e w => N2 [e 0, e 3, e 4, e 5, e 7] w) (blockK 2 (seqK (fun e w => law07_LedgerKeeps_s5 R N1 (e 0) (e 3) (e 4) (e 5) w) (blockK 1 (seqK (fun e w => law07_LedgerKeeps_s1 R N1 (e 0) (e 3) (e 4) w) (seqK (fun e w => N1 [e 0, e 3, e 4] w) (blockK 0 (seqK (fun e w => law07_LedgerKeeps_s0 R  w) (finK Try.prog Try.f9.results.toList R))))))))) e w = law07_LedgerKeeps_b6 R N1 N2 (e 0) (e 3) (e 4) (e 5) (e 7) w := fun e w => by kernel_rfl
def law07_LedgerKeeps_L7F (R : Value → World → Prop) (N1 : List Value → World → Prop) (N2 : List Value → World → Prop) (xs : List Value) (w : World) : Prop :=
  match xs with
  | [x0, x3, x4, x5, x7] => law07_LedgerKeeps_b6 R N1 N2 x0 x3 x4 x5 x7 w
  | _ => False
def law07_LedgerKeeps_L7 (R : Value → World → Prop) (N1 : List Value → World → Prop) (x0 x3 x4 x5 x7 : Value) (w : World) : Prop :=
  ∃ m, loopV (law07_LedgerKeeps_L7F R N1) m [x0, x3, x4, x5, x7] w
theorem law07_LedgerKeeps_L7_eq (R : Value → World → Prop) (N1 : List Value → World → Prop) : ∀ e w, lift Try.prog 135 (sub (bodyOf Try.f9) [1, 1, 0, 1, 0, 0, 1, 0, 0, 1, 1, 1, 0, 1, 0]) (blockK 2 (seqK (fun e w => law07_LedgerKeeps_s5 R N1 (e 0) (e 3) (e 4) (e 5) w) (blockK 1 (seqK (fun e w => law07_LedgerKeeps_s1 R N1 (e 0) (e 3) (e 4) w) (seqK (fun e w => N1 [e 0, e 3, e 4] w) (blockK 0 (seqK (fun e w => law07_LedgerKeeps_s0 R  w) (finK Try.prog Try.f9.results.toList R)))))))) e w = law07_LedgerKeeps_L7 R N1 (e 0) (e 3) (e 4) (e 5) (e 7) w := loop_seg (F := law07_LedgerKeeps_L7F R N1) (sel := fun e => [e 0, e 3, e 4, e 5, e 7]) fun N2 => (law07_LedgerKeeps_b6_eq R N1 N2)
def law07_LedgerKeeps_s8 (R : Value → World → Prop) (N1 : List Value → World → Prop) (x0 x3 x4 x5 : Value) (w : World) : Prop :=
  law07_LedgerKeeps_L7 R N1 x0 x3 x4 x5 (.int .i64 0) w
theorem law07_LedgerKeeps_s8_eq (R : Value → World → Prop) (N1 : List Value → World → Prop) : ∀ e w, lift Try.prog 135 (sub (bodyOf Try.f9) [1, 1, 0, 1, 0, 0, 1, 0, 0, 1, 1, 1, 0]) (seqK (fun e w => law07_LedgerKeeps_s5 R N1 (e 0) (e 3) (e 4) (e 5) w) (blockK 1 (seqK (fun e w => law07_LedgerKeeps_s1 R N1 (e 0) (e 3) (e 4) w) (seqK (fun e w => N1 [e 0, e 3, e 4] w) (blockK 0 (seqK (fun e w => law07_LedgerKeeps_s0 R  w) (finK Try.prog Try.f9.results.toList R))))))) e w = law07_LedgerKeeps_s8 R N1 (e 0) (e 3) (e 4) (e 5) w :=
  segs_eq (l := [(sub (bodyOf Try.f9) [1, 1, 0, 1, 0, 0, 1, 0, 0, 1, 1, 1, 0, 0])]) (y := (sub (bodyOf Try.f9) [1, 1, 0, 1, 0, 0, 1, 0, 0, 1, 1, 1, 0, 1])) (Y := (fun e w => law07_LedgerKeeps_L7 R N1 (e 0) (e 3) (e 4) (e 5) (e 7) w)) (law07_LedgerKeeps_L7_eq R N1) (fun e w => by kernel_rfl)
def law07_LedgerKeeps_s9 (R : Value → World → Prop) (N1 : List Value → World → Prop) (x0 x3 x4 : Value) (w : World) : Prop :=
  ldn 4 x3 (World.drew w) fun t22 =>
  ia 7 x0 x4 fun t25 =>
  ldn 7 t25 (World.drew w) fun t26 =>
  (callG Try.prog 39 #[t22, t26] (World.drew w) fun t27 w =>
  qG Try.prog (Instr.extract t27 0) w fun t28 =>
  qG Try.prog (Instr.extract t27 1) w fun t29 =>
  newG (zc Try.prog 60) 60 w fun t5 w =>
  stb Try.prog (Instr.extract t27 1) t29 w ∧
  stb Try.prog (Instr.extract t27 0) t28 w ∧
  ldn 7 t25 w (fun u => u = t26) ∧
  ldn 4 x3 w (fun u => u = t22) ∧
  stn 4 t5 t28 w fun w =>
  stb Try.prog (Instr.extract t27 1) t29 w ∧
  qG Try.prog (bq .neq 26 (.tmp 30) (.const (.int .i64 0)) t29 (.int .i64 0)) w fun t31 =>
  bV t31
  (ldn 4 t5 w fun t32 =>
  bld [(0, 1), (1, 1), (2, 1), (3, 1)] (zc Try.prog 60) #[] fun t33 =>
  callG Try.prog 38 #[t32, t33] w fun t34 w =>
  qG Try.prog (Op.unary .not t34) w fun t35 =>
  bV t35
  (R (.bool false) w)
  (law07_LedgerKeeps_s1 R N1 x0 x3 x4 w))
  (ldn 4 t5 w fun t36 =>
  callG Try.prog 40 #[t36] w fun t37 w =>
  qG Try.prog (Op.unary .not t37) w fun t38 =>
  bV t38
  (R (.bool false) w)
  (fa 3 t5 fun t40 =>
  ld1 t40 w fun t41 =>
  fa 3 x3 fun t42 =>
  ld1 t42 w fun t43 =>
  qG Try.prog (bq .add 3 (.tmp 43) (.const (.int .i64 1)) t43 (.int .i64 1)) w fun t44 =>
  qG Try.prog (bq .neq 3 (.tmp 41) (.tmp 44) t41 t44) w fun t45 =>
  bV t45
  (R (.bool false) w)
  (fa 1 t5 fun t48 =>
  ld1 t48 w fun t49 =>
  lenL t49 fun t50 =>
  fa 1 x3 fun t51 =>
  ld1 t51 w fun t52 =>
  lenL t52 fun t53 =>
  qG Try.prog (bq .lss 3 (.tmp 50) (.tmp 53) t50 t53) w fun t54 =>
  bV t54
  (R (.bool false) w)
  (fa 2 t5 fun t57 =>
  ld1 t57 w fun t58 =>
  lenL t58 fun t59 =>
  fa 2 x3 fun t60 =>
  ld1 t60 w fun t61 =>
  lenL t61 fun t62 =>
  qG Try.prog (bq .lss 3 (.tmp 59) (.tmp 62) t59 t62) w fun t63 =>
  bV t63
  (R (.bool false) w)
  (law07_LedgerKeeps_s8 R N1 x0 x3 x4 t5 w)))))) ∧
  (newG (zc Try.prog 60) 60 (World.drew w) fun t5_1 w =>
  ldn 7 t25 w (fun u => u = t26) ∧
  ldn 4 x3 w (fun u => u = t22) ∧
  callG Try.prog 39 #[t22, t26] w fun t27_1 w =>
  qG Try.prog (Instr.extract t27_1 0) w fun t28_1 =>
  qG Try.prog (Instr.extract t27_1 1) w fun t29_1 =>
  stn 4 t5_1 t28_1 w fun w =>
  stb Try.prog (Instr.extract t27_1 1) t29_1 w ∧
  qG Try.prog (bq .neq 26 (.tmp 30) (.const (.int .i64 0)) t29_1 (.int .i64 0)) w fun t31_1 =>
  bV t31_1
  (ldn 4 t5_1 w fun t32_1 =>
  bld [(0, 1), (1, 1), (2, 1), (3, 1)] (zc Try.prog 60) #[] fun t33_1 =>
  callG Try.prog 38 #[t32_1, t33_1] w fun t34_1 w =>
  qG Try.prog (Op.unary .not t34_1) w fun t35_1 =>
  bV t35_1
  (R (.bool false) w)
  (law07_LedgerKeeps_s1 R N1 x0 x3 x4 w))
  (ldn 4 t5_1 w fun t36_1 =>
  callG Try.prog 40 #[t36_1] w fun t37_1 w =>
  qG Try.prog (Op.unary .not t37_1) w fun t38_1 =>
  bV t38_1
  (R (.bool false) w)
  (fa 3 t5_1 fun t40_1 =>
  ld1 t40_1 w fun t41_1 =>
  fa 3 x3 fun t42_1 =>
  ld1 t42_1 w fun t43_1 =>
  qG Try.prog (bq .add 3 (.tmp 43) (.const (.int .i64 1)) t43_1 (.int .i64 1)) w fun t44_1 =>
  qG Try.prog (bq .neq 3 (.tmp 41) (.tmp 44) t41_1 t44_1) w fun t45_1 =>
  bV t45_1
  (R (.bool false) w)
  (fa 1 t5_1 fun t48_1 =>
  ld1 t48_1 w fun t49_1 =>
  lenL t49_1 fun t50_1 =>
  fa 1 x3 fun t51_1 =>
  ld1 t51_1 w fun t52_1 =>
  lenL t52_1 fun t53_1 =>
  qG Try.prog (bq .lss 3 (.tmp 50) (.tmp 53) t50_1 t53_1) w fun t54_1 =>
  bV t54_1
  (R (.bool false) w)
  (fa 2 t5_1 fun t57_1 =>
  ld1 t57_1 w fun t58_1 =>
  lenL t58_1 fun t59_1 =>
  fa 2 x3 fun t60_1 =>
  ld1 t60_1 w fun t61_1 =>
  lenL t61_1 fun t62_1 =>
  qG Try.prog (bq .lss 3 (.tmp 59) (.tmp 62) t59_1 t62_1) w fun t63_1 =>
  bV t63_1
  (R (.bool false) w)
  (law07_LedgerKeeps_s8 R N1 x0 x3 x4 t5_1 w))))))
theorem law07_LedgerKeeps_s9_eq (R : Value → World → Prop) (N1 : List Value → World → Prop) : ∀ e w, lift Try.prog 135 (sub (bodyOf Try.f9) [1, 1, 0, 1, 0, 0, 1, 0, 0]) (blockK 1 (seqK (fun e w => law07_LedgerKeeps_s1 R N1 (e 0) (e 3) (e 4) w) (seqK (fun e w => N1 [e 0, e 3, e 4] w) (blockK 0 (seqK (fun e w => law07_LedgerKeeps_s0 R  w) (finK Try.prog Try.f9.results.toList R)))))) e w = law07_LedgerKeeps_s9 R N1 (e 0) (e 3) (e 4) w :=
  segs_eq (l := [(sub (bodyOf Try.f9) [1, 1, 0, 1, 0, 0, 1, 0, 0, 0]), (sub (bodyOf Try.f9) [1, 1, 0, 1, 0, 0, 1, 0, 0, 1, 0]), (sub (bodyOf Try.f9) [1, 1, 0, 1, 0, 0, 1, 0, 0, 1, 1, 0])]) (y := (sub (bodyOf Try.f9) [1, 1, 0, 1, 0, 0, 1, 0, 0, 1, 1, 1])) (Y := (fun e w => law07_LedgerKeeps_s8 R N1 (e 0) (e 3) (e 4) (e 5) w)) (seq_seg (x := (sub (bodyOf Try.f9) [1, 1, 0, 1, 0, 0, 1, 0, 0, 1, 1, 1, 0])) (y := (sub (bodyOf Try.f9) [1, 1, 0, 1, 0, 0, 1, 0, 0, 1, 1, 1, 1])) (seq_seg (x := (sub (bodyOf Try.f9) [1, 1, 0, 1, 0, 0, 1, 0, 0, 1, 1, 1, 1, 0])) (y := (sub (bodyOf Try.f9) [1, 1, 0, 1, 0, 0, 1, 0, 0, 1, 1, 1, 1, 1])) (law07_LedgerKeeps_s2_eq R N1) (law07_LedgerKeeps_s5_eq R N1)) (law07_LedgerKeeps_s8_eq R N1)) (fun e w => by kernel_rfl)
def law07_LedgerKeeps_s10 (R : Value → World → Prop) (N1 : List Value → World → Prop) (x0 x3 x4 : Value) (w : World) : Prop :=
  lenL x0 fun t13 =>
  qG Try.prog (bq .lss 3 (.tmp 11) (.tmp 13) x4 t13) w fun t14 =>
  bV t14
  (qG Try.prog (bq .lss 3 (.tmp 16) (.const (.int .i64 30)) x4 (.int .i64 30)) w fun t17 =>
  bV t17
  (law07_LedgerKeeps_s9 R N1 x0 x3 x4 w)
  (law07_LedgerKeeps_s0 R  w))
  (law07_LedgerKeeps_s0 R  w)
theorem law07_LedgerKeeps_s10_eq (R : Value → World → Prop) (N1 : List Value → World → Prop) : ∀ e w, lift Try.prog 135 (sub (bodyOf Try.f9) [1, 1, 0, 1, 0, 0]) (seqK (fun e w => N1 [e 0, e 3, e 4] w) (blockK 0 (seqK (fun e w => law07_LedgerKeeps_s0 R  w) (finK Try.prog Try.f9.results.toList R)))) e w = law07_LedgerKeeps_s10 R N1 (e 0) (e 3) (e 4) w :=
  segs_eq (l := [(sub (bodyOf Try.f9) [1, 1, 0, 1, 0, 0, 0])]) (y := (sub (bodyOf Try.f9) [1, 1, 0, 1, 0, 0, 1])) (Y := (fun e w => law07_LedgerKeeps_s9 R N1 (e 0) (e 3) (e 4) w)) (seq_seg (x := (sub (bodyOf Try.f9) [1, 1, 0, 1, 0, 0, 1, 0])) (y := (sub (bodyOf Try.f9) [1, 1, 0, 1, 0, 0, 1, 1])) (law07_LedgerKeeps_s1_eq R N1) (law07_LedgerKeeps_s9_eq R N1)) (fun e w => by kernel_rfl)
def law07_LedgerKeeps_L11F (R : Value → World → Prop) (N1 : List Value → World → Prop) (xs : List Value) (w : World) : Prop :=
  match xs with
  | [x0, x3, x4] => law07_LedgerKeeps_s10 R N1 x0 x3 x4 w
  | _ => False
def law07_LedgerKeeps_L11 (R : Value → World → Prop) (x0 x3 x4 : Value) (w : World) : Prop :=
  ∃ m, loopV (law07_LedgerKeeps_L11F R) m [x0, x3, x4] w
theorem law07_LedgerKeeps_L11_eq (R : Value → World → Prop) : ∀ e w, lift Try.prog 135 (sub (bodyOf Try.f9) [1, 1, 0, 1, 0]) (blockK 0 (seqK (fun e w => law07_LedgerKeeps_s0 R  w) (finK Try.prog Try.f9.results.toList R))) e w = law07_LedgerKeeps_L11 R (e 0) (e 3) (e 4) w := loop_seg (F := law07_LedgerKeeps_L11F R) (sel := fun e => [e 0, e 3, e 4]) fun N1 => (law07_LedgerKeeps_s10_eq R N1)
def law07_LedgerKeeps_s12 (R : Value → World → Prop) (x0 x3 : Value) (w : World) : Prop :=
  law07_LedgerKeeps_L11 R x0 x3 (.int .i64 0) w
theorem law07_LedgerKeeps_s12_eq (R : Value → World → Prop) : ∀ e w, lift Try.prog 135 (sub (bodyOf Try.f9) [1, 1, 0]) (seqK (fun e w => law07_LedgerKeeps_s0 R  w) (finK Try.prog Try.f9.results.toList R)) e w = law07_LedgerKeeps_s12 R (e 0) (e 3) w :=
  segs_eq (l := [(sub (bodyOf Try.f9) [1, 1, 0, 0])]) (y := (sub (bodyOf Try.f9) [1, 1, 0, 1])) (Y := (fun e w => law07_LedgerKeeps_L11 R (e 0) (e 3) (e 4) w)) (law07_LedgerKeeps_L11_eq R) (fun e w => by kernel_rfl)
def law07_LedgerKeeps_s13 (R : Value → World → Prop) (x0 : Value) (w : World) : Prop :=
  bld [(0, 1), (1, 1), (2, 1), (3, 1)] (zc Try.prog 60) #[] fun t10 =>
  newG (zc Try.prog 60) 60 w fun t3 w =>
  stn 4 t3 t10 w fun w =>
  law07_LedgerKeeps_s12 R x0 t3 w
theorem law07_LedgerKeeps_s13_eq (R : Value → World → Prop) : ∀ e w, lift Try.prog 135 (bodyOf Try.f9) (finK Try.prog Try.f9.results.toList R) e w = law07_LedgerKeeps_s13 R (e 0) w :=
  segs_eq (l := [(sub (bodyOf Try.f9) [0]), (sub (bodyOf Try.f9) [1, 0])]) (y := (sub (bodyOf Try.f9) [1, 1])) (Y := (fun e w => law07_LedgerKeeps_s12 R (e 0) (e 3) w)) (seq_seg (x := (sub (bodyOf Try.f9) [1, 1, 0])) (y := (sub (bodyOf Try.f9) [1, 1, 1])) (law07_LedgerKeeps_s0_eq R) (law07_LedgerKeeps_s12_eq R)) (fun e w => by kernel_rfl)
def law07_LedgerKeeps (R : Value → World → Prop) (x0 : Value) (w : World) : Prop := law07_LedgerKeeps_s13 R x0 w
theorem law07_LedgerKeeps_call {R : Value → World → Prop} {x0 : Value} {w : World} (h : law07_LedgerKeeps R x0 w) : callG Try.prog 9 #[x0] w R :=
  calls_lift_eq Try.mixed Try.func9 (args := [x0]) rfl rfl rfl rfl ((law07_LedgerKeeps_s13_eq R) (envOf [x0]) w) (by kernel_rfl) h
/-! quayside/quaysidelaw07.LedgerMoves -/
/-! quayside/quaysidelaw07.LedgerHolds -/
/-! quayside/quaysidelaw07.LedgerEdges -/
end Go.Proofs

/- Layer 7: the law's awake; LedgerReplays. -/
set_option maxRecDepth 100000
set_option linter.unusedVariables false
set_option linter.unusedSimpArgs false
namespace Go.Proofs
open Go Go.Q
theorem aggOp : aggO Try.prog 23 = some true := by kernel_rfl
theorem szOp : szO Try.prog 23 = some 7 := by kernel_rfl
theorem receive_spec {w : World} (sku loc : List UInt8) (n : Int) {K : Value → World → Prop} (hK : ∀ w', Kp [] w w' → K (opA ⟨1, sku, loc, [], n, 0, 0⟩) w') : callG Try.prog 45 #[.string (str sku), .string (str loc), .int .i64 n] w K := by
  refine law07_receive_call ?_
  unfold law07_receive law07_receive_s0
  simp [-getElem?_pos, -Array.all_eq_true, -Array.getElem?_eq_getElem, -List.length_flatten, List.getElem?_cons_zero, List.getElem?_cons_succ, op_zc, str_nil, bld_done, bld_if, offAt, putAt, -ldn_p, -stn_p, -newG_k]
  refine boxG (c := (opC ⟨1, sku, loc, [], n, 0, 0⟩).toArray) (K := fun p w => qG Try.prog (do loadVar 23 (← asAddr p)) w fun r6 => K r6 w) rfl rfl (by simp [opC, one]) fun p w1 hp hh k1 => ?_
  rw [loadVar_of aggOp szOp hh rfl]
  exact hK w1 k1
def awOps : List OpV := [⟨1, [115], [120], [], 5, 0, 0⟩, ⟨2, [115], [120], [], 3, 0, 0⟩, ⟨3, [], [], [], 0, 1, 0⟩, ⟨6, [115], [120], [121], 1, 0, 0⟩]
def awL : LV := (replayL lZ awOps 0).1
theorem awE : replayL lZ awOps 0 = (awL, 4, 0) := by decide
theorem replay_may : ∀ (ops : List OpV) (l : LV) (k : Nat), May l → (∀ o ∈ ops, o.Wf) → May (replayL l ops k).1 := by
  intro ops
  induction ops with
  | nil => intro l k h _; exact h
  | cons o r ih =>
    intro l k h hw
    unfold replayL
    split
    · exact ih _ _ (stepL_may h (hw o (by simp))) fun x hx => hw x (by simp [hx])
    · exact h
theorem awWf : ∀ o ∈ awOps, o.Wf := by
  intro o ho
  simp only [awOps, List.mem_cons, List.not_mem_nil, or_false] at ho
  rcases ho with rfl | rfl | rfl | rfl <;> exact ⟨by decide, by decide, by decide, by decide, by decide, by decide, by decide, by decide⟩
theorem awMay : May awL := replay_may awOps lZ 0 may_z awWf
theorem awake7 {w : World} {K : Value → World → Prop} (hK : ∀ w', Kp [] w w' → K (.bool true) w') : callG Try.prog 35 #[] w K := by
  refine law07_awake_call ?_
  unfold law07_awake law07_awake_s0
  rw [zLed_bld]
  refine receive_spec [115] [120] 5 fun w1 k1 => ?_
  have hb : ∀ (ps : List (Nat × Value)) (o : OpV), True := fun _ _ => trivial
  simp [-getElem?_pos, -Array.all_eq_true, -Array.getElem?_eq_getElem, -List.length_flatten, List.getElem?_cons_zero, List.getElem?_cons_succ, op_zc, str_nil, bld_done, bld_if, offAt, putAt, -ldn_p, -stn_p, -newG_k, -ld1_p, -st1_p]
  rw [← op_zc]
  refine bsl_rows (n := 7) (len := 4) (xs := awOps.map opA) (rows := awOps.map opC) (by omega) rfl rfl (by simp [awOps, opC]) (by omega) fun v2 w2 f2 => ?_
  have ho : OpsAt w2 v2 awOps := ⟨f2.rd, awWf⟩
  refine Replay_X (X := []) may_z (lz_x _) (by simp) ho (by decide) fun v3 w3 k3 hv3 => ?_
  rw [awE] at hv3
  rw [awE]
  simp only [ex30, ex31, ex32]
  have k03 := (k1.trans' f2.kp).trans' k3
  refine newVX hv3 fun p1 w4 hp1 k4 c1 => ?_
  obtain ⟨v4, hld4, hv4⟩ := c1.ld
  rw [hld4]
  have hX : ∀ q ∈ [p1], q < w4.heap.size := fun q hq => by
    simp at hq; rw [hq]; exact c1.lt
  refine Apply_X (X := [p1]) awMay hv4 hX ⟨4, [], [], [], 0, 1, 0⟩ (by unfold rngI; decide) fun v5 w5 k5 hv5 => ?_
  have e5 : applyL awL ⟨4, [], [], [], 0, 1, 0⟩ = (lZ, 71) := by decide
  rw [e5] at hv5
  rw [e5]
  simp only [ex0, ex1]
  refine newVX hv5 fun p4 w6 hp4 k6 c4 => ?_
  have d1 := ((c1.keep k5).more hp4).keep k6
  have k46 := k5.trans' k6
  simp only [bq_eql, bV_b, decide_eq_true_eq, decide_eq_false_iff_not]
  refine ⟨fun _ => ?_, fun h => absurd (by decide) h⟩
  refine ⟨fun _ => ?_, fun h => absurd (by decide) h⟩
  refine ⟨fun _ => ?_, fun h => absurd (by decide) h⟩
  obtain ⟨v6, hld6, hv6⟩ := d1.ld
  rw [hld6]
  refine Free_spec7 awMay hv6.at [115] [120] fun w7 k7 => ?_
  have e7 : freeL awL [115] [120] = 1 := by decide
  rw [e7]
  simp only [bq_eql, bV_b, decide_eq_true_eq, decide_eq_false_iff_not]
  refine ⟨fun _ => ?_, fun h => absurd (by decide) h⟩
  have d7 := d1.keep k7
  obtain ⟨v7, hld7, hv7⟩ := d7.ld
  rw [hld7]
  refine Find_spec7 hv7.at (by decide) [115] [121] fun w8 k8 => ?_
  have e8 : findS awL.st [115] [121] = ⟨[115], [121], 1, 0⟩ := by decide
  rw [e8]
  unfold sA
  simp [-getElem?_pos, -Array.all_eq_true, -Array.getElem?_eq_getElem, -List.length_flatten, List.getElem?_cons_zero, List.getElem?_cons_succ, -ldn_p, -stn_p, -newG_k, -ld1_p, -st1_p]
  have d8 := d7.keep k8
  obtain ⟨a, b, c, hB⟩ := d8.box
  rw [hB.l2, hB.c.lenL, List.length_map]
  have e9 : awL.mo.length = 4 := by decide
  rw [e9]
  simp only [bq_eql, bV_b, decide_eq_true_eq, decide_eq_false_iff_not]
  refine ⟨fun _ => ?_, fun h => absurd (by decide) h⟩
  rw [hB.ld]
  refine Check_spec7 awMay hB.at fun w9 k9 => ?_
  simp only [bq_eql]
  have := hK w9 (((((k03.trans' k4).trans' k46).trans' k7).trans' k8).trans' k9)
  exact this
end Go.Proofs

/- Layer 7: play, total. -/
set_option maxRecDepth 100000
set_option linter.unusedVariables false
set_option linter.unusedSimpArgs false
namespace Go.Proofs
open Go Go.Q
/-- variables that are there -/
def YB (Y : List Nat) (w : World) : Prop := ∀ q ∈ Y, q < w.heap.size
theorem YB.keep {Y S : List Nat} {w w' : World} (h : YB Y w) (hk : Kp S w w') : YB Y w' := fun q hq => by have := h q hq; have := hk.size; omega
theorem YB.cons {Y : List Nat} {p : Nat} {w : World} {l : LV} {X : List Nat} (h : YB Y w) (hp : VX X w p l) : YB (p :: Y) w := fun q hq => by
  rcases List.mem_cons.1 hq with rfl | hq
  · exact hp.lt
  · exact h q hq
section
variable {X : List Nat} {w w' : World} {v : Value} {l l' : LV} {x y : Nat}
/-- one variable is written: another one stays -/
theorem VX.keep1 {S : Nat} (h : VX X w x l) (hk : Kp [S] w w') (hS : S ∈ X) (hx : x ≠ S) : VX X w' x l := h.keepS hk (fun q hq => by simp at hq; exact hq ▸ hS) (by simpa using hx)
theorem Kp.one {w0 w w' : World} {S : Nat} (h : Kp [] w0 w) (hk : Kp [S] w w') (hS : w0.heap.size ≤ S) : Kp [] w0 w' := h.trans hk fun q hq hlt => by simp at hq; omega
/-- reading it again -/
theorem VX.same (h : VX X w x l) (hv : ∀ K : Value → Prop, ldn 4 (.pointer (some ⟨x, 0, none⟩)) w K = K v) (hk : Kp [] w w') {K : Value → Prop} : ldn 4 (.pointer (some ⟨x, 0, none⟩)) w' K = K v := by
  obtain ⟨u, a, b, c, g1, g2, g3⟩ := h.ex
  have e1 := hv fun v => v = u
  rw [ldAll (k := 4) g1 rfl, ← g2] at e1
  have : v = u := by simpa using e1.symm
  rw [this, ldAll (k := 4) (hk.get g1 (by simp)) rfl, ← g2]
theorem OpsAt.row {vo : Value} {ops : List OpV} (h : OpsAt w vo ops) {i : Nat} (hi : i < ops.length) : ∃ p, (∀ K : Value → Prop, ia 7 vo (.int .i64 i) K = K p) ∧ ∀ w', Kp [] w w' → ∀ K : Value → Prop, ldn 7 p w' K = K (opA ops[i]) := by
  obtain ⟨p, i1, i2, _⟩ := rd_parts h.rd hi
  refine ⟨p, i1, fun w' k' K => ?_⟩
  obtain ⟨p', j1, j2, _⟩ := rd_parts (h.keep k').rd hi
  have e1 := i1 fun v => v = p'
  rw [j1] at e1
  have : p = p' := by simpa using e1.symm
  rw [this]; exact j2 K
end
end Go.Proofs

/- Plain, layer 7: as many as a number lets be there. -/
set_option linter.unusedVariables false
set_option linter.unusedSimpArgs false
namespace Go.Q
open Go
end Go.Q

/- Plain, layer 7: what is moved is neither more nor fewer. -/
set_option linter.unusedVariables false
set_option linter.unusedSimpArgs false
namespace Go.Q
open Go
/-- an operation that was done -/
theorem stepL_done {l l' : LV} {o : OpV} (h : stepL l o = (l', 0)) : o.ok = true ∧ (doesL l o).2 = 0 ∧ fullL (doesL l o).1 = false ∧ l' = { (doesL l o).1 with ops := l.ops + 1 } := by
  unfold stepL at h
  split at h
  · simp at h
  · rename_i h1
    split at h
    · rename_i h2
      simp only [Prod.mk.injEq] at h
      exact absurd h.2 h2
    · rename_i h2
      split at h
      · simp at h
      · rename_i h3
        rw [not_or] at h3
        simp only [Prod.mk.injEq, and_true] at h
        exact ⟨by simpa using h1, Decidable.not_not.1 h2, by simpa using h3.1, h.symm⟩
/-! ### sums of a sku -/
end Go.Q

/- Plain, layer 7: holds and movements stay. -/
set_option linter.unusedVariables false
set_option linter.unusedSimpArgs false
namespace Go.Q
open Go
structure HoKeep (a b : List HV) : Prop where
  len : a.length ≤ b.length
  at_ : ∀ k (h : k < a.length) (h' : k < b.length), b[k] = { a[k] with st := b[k].st } ∧ (a[k].st ≠ 0 → b[k].st = a[k].st)
theorem HoKeep.refl (a : List HV) : HoKeep a a := ⟨Nat.le_refl _, fun k h _ => ⟨rfl, fun _ => rfl⟩⟩
theorem HoKeep.trans {a b c : List HV} (h : HoKeep a b) (h' : HoKeep b c) : HoKeep a c := by
  refine ⟨Nat.le_trans h.len h'.len, fun k h1 h2 => ?_⟩
  have hb : k < b.length := Nat.lt_of_lt_of_le h1 h.len
  obtain ⟨e1, e2⟩ := h.at_ k h1 hb
  obtain ⟨e3, e4⟩ := h'.at_ k hb h2
  refine ⟨by rw [e3, e1], fun h0 => ?_⟩
  have hb0 := e2 h0
  rw [e4 (by rw [hb0]; exact h0), hb0]
theorem HoKeep.set {a : List HV} {k : Nat} (hk : k < a.length) (h0 : a[k].st = 0) (n : Int) : HoKeep a (a.set k { a[k] with st := n }) := by
  refine ⟨by simp, fun j h1 h2 => ?_⟩
  by_cases he : k = j
  · subst he
    simp [h0]
  · simp [List.getElem_set_ne he]
theorem HoKeep.snoc (a : List HV) (h : HV) : HoKeep a (a ++ [h]) := by
  refine ⟨by simp, fun j h1 h2 => ?_⟩
  rw [List.getElem_append_left h1]
  exact ⟨rfl, fun _ => rfl⟩
theorem state_keep {l : LV} {k : Nat} (hk : k < l.ho.length) (h0 : l.ho[k].st = 0) (n : Int) : HoKeep l.ho (stateL l k n).ho := by
  have e : (stateL l k n).ho = l.ho.set k { l.ho[k] with st := n } := by simp [stateL, List.getD, hk]
  rw [e]
  exact HoKeep.set hk h0 n
theorem expire_keep (due : Int) : ∀ (m : Nat) (l : LV) (i : Nat), i + m ≤ l.ho.length → HoKeep l.ho (expireL l due i m).ho := by
  intro m
  induction m with
  | zero => intro l i _; exact HoKeep.refl _
  | succ m ih =>
    intro l i hi
    unfold expireL
    have hil : i < l.ho.length := by omega
    have hg : l.ho.getD i hZ = l.ho[i] := by simp [List.getD, hil]
    simp only [hg]
    split
    · rename_i hd
      simp only [dueL, decide_eq_true_eq] at hd
      have h1 : HoKeep l.ho (stateL (heldL l l.ho[i].sku l.ho[i].loc (w64i (-l.ho[i].q))) i 2).ho := state_keep (l := heldL l l.ho[i].sku l.ho[i].loc (w64i (-l.ho[i].q))) hil hd.1 2
      exact h1.trans (ih _ (i + 1) (by have := h1.len; omega))
    · exact ih l (i + 1) (by omega)
theorem expire_mo (due : Int) : ∀ (m : Nat) (l : LV) (i : Nat), (expireL l due i m).mo = l.mo := by
  intro m
  induction m with
  | zero => intro l i; rfl
  | succ m ih =>
    intro l i
    unfold expireL
    rw [ih]
    split <;> rfl
theorem does_keep {l : LV} {o : OpV} (ho : o.ok = true) : HoKeep l.ho (doesL l o).1.ho ∧ ∃ t, (doesL l o).1.mo = l.mo ++ t := by
  have r : HoKeep l.ho l.ho ∧ ∃ t, l.mo = l.mo ++ t := ⟨HoKeep.refl _, [], by simp⟩
  unfold doesL
  split
  · split
    · exact r
    · split
      · exact r
      · exact ⟨HoKeep.refl _, _, rfl⟩
  · rename_i h17
    split
    · split
      · exact r
      · exact ⟨HoKeep.snoc _ _, [], by simp [heldL]⟩
    · rename_i h2
      split
      · refine ⟨expire_keep o.due l.ho.length l 0 (by omega), [], ?_⟩
        show (expireL l o.due 0 l.ho.length).mo = _
        rw [expire_mo, List.append_nil]
      · rename_i h5
        split
        · split
          · exact r
          · split
            · exact r
            · exact ⟨HoKeep.refl _, _, List.append_assoc _ _ _⟩
        · rename_i h6
          unfold overL
          split
          · exact r
          · rename_i hc
            rw [not_or] at hc
            have hid : 1 ≤ o.id := by
              unfold OpV.ok at ho
              by_cases h34 : o.k = 3 ∨ o.k = 4
              · have h1 : ¬ o.k = 1 := by omega
                have h2 : ¬ o.k = 2 := by omega
                simp [h1, h2, h34] at ho
                exact ho.2.2.2.1
              · have h1 : ¬ o.k = 1 := by omega
                have h7 : ¬ o.k = 7 := by omega
                simp [h1, h2, h34, h5, h6, h7] at ho
            have hlt : (o.id - 1).toNat < l.ho.length := by omega
            have hgd : holdAt l o.id = l.ho[(o.id - 1).toNat] := by simp only [holdAt, List.getD, List.getElem?_eq_getElem hlt, Option.getD_some]
            have h0 : l.ho[(o.id - 1).toNat].st = 0 := by rw [← hgd]; exact Decidable.not_not.1 hc.2
            simp only
            split
            · exact ⟨state_keep (l := heldL l (holdAt l o.id).sku (holdAt l o.id).loc (w64i (-(holdAt l o.id).q))) hlt h0 2, [], by simp [stateL, heldL]⟩
            · exact ⟨state_keep (l := heldL l (holdAt l o.id).sku (holdAt l o.id).loc (w64i (-(holdAt l o.id).q))) hlt h0 1, _, rfl⟩
theorem step_keep {l l' : LV} {o : OpV} (h : stepL l o = (l', 0)) : HoKeep l.ho l'.ho ∧ (∃ t, l'.mo = l.mo ++ t) ∧ l'.ops = l.ops + 1 := by
  obtain ⟨h1, h2, h3, rfl⟩ := stepL_done h
  obtain ⟨g1, g2⟩ := does_keep (l := l) h1
  exact ⟨g1, g2, rfl⟩
end Go.Q

/- Layer 7: LedgerKeeps. -/
set_option maxRecDepth 100000
set_option linter.unusedVariables false
set_option linter.unusedSimpArgs false
namespace Go.Proofs
open Go Go.Q
section
variable {X : List Nat} {w w' : World} {v : Value} {l l' : LV} {x y : Nat}
/-- an operation is applied, its ledger put in a variable, in whatever order -/
theorem applyVar (hm : May l) (c : VX X w x l) (hX : YB X w) (hld : ∀ K : Value → Prop, ldn 4 (.pointer (some ⟨x, 0, none⟩)) w K = K v) (hv : LX X w v l) (o : OpV) (hq : rngI o.q) {RO : World → Prop} (hRO : ∀ w', Kp [] w w' → RO w') {REST : Value → Value → World → Prop}
    (hR : ∀ p w', Kp [] w w' → w.heap.size ≤ p → YB (p :: X) w' → (∀ y m, VX X w y m → VX (p :: X) w' y m ∧ y ≠ p) → VX (p :: X) w' p (applyL l o).1 → REST (.pointer (some ⟨p, 0, none⟩)) (.int .i64 (applyL l o).2) w') :
    (callG Try.prog 39 #[v, opA o] w fun t36 w =>
    qG Try.prog (Instr.extract t36 0) w fun t37 =>
    qG Try.prog (Instr.extract t36 1) w fun t38 =>
    newG (zc Try.prog 60) 60 w fun t9 w =>
    stb Try.prog (Instr.extract t36 1) t38 w ∧
    stb Try.prog (Instr.extract t36 0) t37 w ∧
    RO w ∧
    ldn 4 (.pointer (some ⟨x, 0, none⟩)) w (fun u => u = v) ∧
    stn 4 t9 t37 w fun w =>
    stb Try.prog (Instr.extract t36 1) t38 w ∧ REST t9 t38 w) ∧
    (newG (zc Try.prog 60) 60 w fun t9_1 w =>
    RO w ∧
    ldn 4 (.pointer (some ⟨x, 0, none⟩)) w (fun u => u = v) ∧
    callG Try.prog 39 #[v, opA o] w fun t36_1 w =>
    qG Try.prog (Instr.extract t36_1 0) w fun t37_1 =>
    qG Try.prog (Instr.extract t36_1 1) w fun t38_1 =>
    stn 4 t9_1 t37_1 w fun w =>
    stb Try.prog (Instr.extract t36_1 1) t38_1 w ∧ REST t9_1 t38_1 w) := by
  have rl : ∀ w', Kp [] w w' → ∀ K : Value → Prop, ldn 4 (.pointer (some ⟨x, 0, none⟩)) w' K = K v := fun w' k' K => c.same hld k'
  have fin : ∀ (w1 w2 : World) (p : Nat), Kp [] w w1 → w.heap.size ≤ p → (∀ y m, VX X w y m → VX (p :: X) w1 y m ∧ y ≠ p) → YB (p :: X) w1 → VX (p :: X) w1 p lZ → Kp [p] w1 w2 → VX (p :: X) w2 p (applyL l o).1 → REST (.pointer (some ⟨p, 0, none⟩)) (.int .i64 (applyL l o).2) w2 := by
    intro w1 w2 p k1 hp hall hY hz k2 cp
    refine hR p w2 (Kp.one k1 k2 hp) hp (hY.keep k2) (fun y m hy => ?_) cp
    obtain ⟨h1, h2⟩ := hall y m hy
    exact ⟨h1.keep1 k2 cp.m h2, h2⟩
  refine ⟨?_, ?_⟩
  · refine Apply_X hm hv hX o hq fun v2 w2 k2 hv2 => ?_
    simp only [ex0, ex1]
    have s12 := k2.size
    refine zeroVX (X := X) fun p w3 hp k3 cz => ?_
    have k03 := k2.trans' k3
    rw [rl _ k03]
    simp only [stb_ex0, stb_ex1, true_and]
    refine ⟨hRO _ k03, cz.st ((hv2.more hp).keep k3) fun w4 k4 c4 => ?_⟩
    exact fin w3 w4 p k03 (by omega) (fun y m hy => ⟨((hy.keep k2).more hp).keep k3, by have := (hy.keep k2).lt; omega⟩) ((hX.keep k03).cons cz) cz k4 c4
  · refine zeroVX (X := X) fun p w1 hp k1 cz => ?_
    rw [rl _ k1]
    refine ⟨hRO _ k1, rfl, ?_⟩
    refine Apply_X hm ((hv.more hp).keep k1) ((hX.keep k1).cons cz) o hq fun v2 w2 k2 hv2 => ?_
    simp only [ex0, ex1]
    refine (cz.keep k2).st hv2 fun w4 k4 c4 => ?_
    simp only [stb_ex0, stb_ex1, true_and]
    have k02 := k1.trans' k2
    exact fin w2 w4 p k02 (by omega) (fun y m hy => ⟨((hy.more hp).keep k1).keep k2, by have := hy.lt; omega⟩) (((hX.keep k1).cons cz).keep k2) (cz.keep k2) k4 c4
end
theorem ledgerKeeps_spec {w : World} {vo : Value} {ops : List OpV} (ho : OpsAt w vo ops) {K : Value → World → Prop} (hK : ∀ w', Kp [] w w' → K (.bool true) w') : callG Try.prog 9 #[vo] w K := by
  refine law07_LedgerKeeps_call ?_
  unfold law07_LedgerKeeps law07_LedgerKeeps_s13
  rw [zLed_bld]
  refine newVX (X := []) (lz_x _) fun p3 w1 hp3 k1 c3 => ?_
  have aw : ∀ w', Kp [] w w' → law07_LedgerKeeps_s0 K w' := fun w' k' => by
    unfold law07_LedgerKeeps_s0
    exact awake7 fun w6 k6 => hK w6 (k'.trans' k6)
  unfold law07_LedgerKeeps_s12 law07_LedgerKeeps_L11
  refine loop_inv (fun m xs wi => ∃ (i : Nat) (li : LV) (Y : List Nat), i ≤ 30 ∧ m = 30 - i ∧ xs = [vo, .pointer (some ⟨p3, 0, none⟩), .int .i64 (i : Nat)] ∧ Kp [] w wi ∧ May li ∧ YB Y wi ∧ VX Y wi p3 li) ?_ (m := 30)
    ⟨0, lZ, [p3], by omega, rfl, rfl, k1, may_z, fun q hq => by simp at hq; rw [hq]; exact c3.lt, c3⟩
  rintro m N xs wi ⟨i, li, Y, hi, rfl, rfl, ki, hmi, hY, ci⟩ hN
  have hiw : IntKind.i64.wrap ((i : Int) + 1) = ((i + 1 : Nat) : Int) := by rw [w64 (by omega) (by omega)]; simp
  have oi := ho.keep ki
  unfold law07_LedgerKeeps_L11F law07_LedgerKeeps_s10
  dsimp only
  rw [oi.rd.lenL, List.length_map]
  simp only [bq_lss, bV_b, decide_eq_true_eq, decide_eq_false_iff_not]
  refine ⟨fun hlt => ⟨fun hlt2 => ?_, fun _ => aw wi ki⟩, fun _ => aw wi ki⟩
  have hlt : i < ops.length := by omega
  have kd : Kp [] wi wi.drew := kp_drew
  have od := oi.keep kd
  have hwf := ho.wf ops[i] (List.getElem_mem hlt)
  have cd := ci.keep kd
  obtain ⟨W, hW⟩ : ∃ W, W = wi.drew := ⟨_, rfl⟩
  rw [← hW] at kd od cd
  unfold law07_LedgerKeeps_s9
  rw [← hW]
  obtain ⟨v5, hld5, hv5⟩ := cd.ld
  obtain ⟨p, i1, rp⟩ := od.row hlt
  rw [hld5, i1, rp _ (Kp.refl _ _)]
  have hfew := hmi.few
  simp only [fullL, decide_eq_false_iff_not, not_or] at hfew
  refine applyVar hmi cd (hY.keep kd) hld5 hv5 ops[i] (wf_rng hwf) (RO := fun w => ldn 7 p w fun u => u = opA ops[i]) (fun w' k' => by rw [rp _ k']) fun p5 w2 k2 hp5 hY2 hall c5 => ?_
  obtain ⟨e3, n3⟩ := hall p3 _ cd
  have k02 := (ki.trans' kd).trans' k2
  have hnext : ∀ (w' : World) (l' : LV) (Y' : List Nat), Kp [] w w' → May l' → YB Y' w' → VX Y' w' p3 l' → law07_LedgerKeeps_s1 K N vo (.pointer (some ⟨p3, 0, none⟩)) (.int .i64 i) w' := fun w' l' Y' k' hm' hY' c' => by
    unfold law07_LedgerKeeps_s1
    simp only [bq_add, hiw]
    exact hN (30 - (i + 1)) _ w' (by omega) ⟨i + 1, l', Y', by omega, rfl, rfl, k', hm', hY', c'⟩
  simp only [bq_neq, bV_b, decide_eq_true_eq, decide_eq_false_iff_not]
  refine ⟨fun e => ?_, fun e => ?_⟩
  · have e0 : (stepL li ops[i]).2 ≠ 0 := fun h => e (by unfold applyL; rw [if_pos h])
    have ea : (applyL li ops[i]).1 = lZ := by unfold applyL; rw [if_neg e0]
    rw [ea] at c5
    obtain ⟨v8, hld8, hv8⟩ := c5.ld
    rw [hld8, zLed_bld]
    refine Same7_spec hv8.at (lz_x (X := []) w2).at (by decide) (by decide) (by decide) fun w9 k9 => ?_
    simp only [un_not, bV_b, decide_true, Bool.not_true, Bool.false_eq_true, false_implies, true_and, true_implies]
    exact hnext w9 li _ (k02.trans' k9) hmi (hY2.keep k9) (e3.keep k9)
  have e0 : (stepL li ops[i]).2 = 0 := by
    have he : (applyL li ops[i]).2 = 0 := Decidable.not_not.1 e
    unfold applyL at he
    split at he
    · assumption
    · exact he
  have ea : (applyL li ops[i]).1 = (stepL li ops[i]).1 := by unfold applyL; rw [if_pos e0]
  obtain ⟨n, hn⟩ : ∃ n, n = (stepL li ops[i]).1 := ⟨_, rfl⟩
  rw [ea, ← hn] at c5
  have hst : stepL li ops[i] = (n, 0) := by rw [hn, ← e0]
  have hmn : May n := by rw [hn]; exact stepL_may hmi hwf
  obtain ⟨hho, ⟨t, hmo⟩, hops⟩ := step_keep hst
  have hops0 := hmi.ops
  have hfn := hmn.few
  simp only [fullL, decide_eq_false_iff_not, not_or] at hfn
  obtain ⟨v8, hld8, hv8⟩ := c5.ld
  rw [hld8]
  refine refMay_true hmn hv8.at fun w3 k3 => ?_
  have k03 := k02.trans' k3
  have hY3 := hY2.keep k3
  have f3 := e3.keep k3
  have f5 := c5.keep k3
  obtain ⟨a, b, c, hB3⟩ := f3.box
  obtain ⟨a', b', c', hB5⟩ := f5.box
  simp only [un_not, bV_b, Bool.not_true, Bool.false_eq_true, false_implies, true_and, true_implies, fa_p, Nat.add_zero, Nat.zero_add]
  rw [hB5.l3, hB3.l3]
  have hlo : li.ops < 4611686018427387904 := by
    refine Classical.byContradiction fun hc => ?_
    have hx := hst
    unfold stepL at hx
    split at hx
    · simp at hx
    · split at hx
      · rename_i h2
        simp only [Prod.mk.injEq] at hx
        exact h2 hx.2
      · rw [if_pos (.inr (by omega))] at hx
        simp at hx
  have hwo : IntKind.i64.wrap (li.ops + 1) = li.ops + 1 := by rw [w64 (by omega) (by omega)]
  simp only [bq_add, hwo, bq_neq, hops, bV_b, decide_eq_true_eq, decide_eq_false_iff_not]
  refine ⟨fun h => absurd rfl h, fun _ => ?_⟩
  rw [hB5.l1, hB5.b.lenL, hB3.l1, hB3.b.lenL, List.length_map, List.length_map]
  have hhl := hho.len
  simp only [bq_lss, bV_b, decide_eq_true_eq, decide_eq_false_iff_not]
  refine ⟨fun h => by omega, fun _ => ?_⟩
  rw [hB5.l2, hB5.c.lenL, hB3.l2, hB3.c.lenL, List.length_map, List.length_map]
  have hml : n.mo.length = li.mo.length + t.length := by rw [hmo, List.length_append]
  simp only [bq_lss, bV_b, decide_eq_true_eq, decide_eq_false_iff_not]
  refine ⟨fun h => by omega, fun _ => ?_⟩
  unfold law07_LedgerKeeps_s8 law07_LedgerKeeps_L7
  refine loop_inv (fun m xs wj => ∃ j, j ≤ li.mo.length ∧ m = li.mo.length - j ∧ xs = [vo, .pointer (some ⟨p3, 0, none⟩), .int .i64 (i : Nat), .pointer (some ⟨p5, 0, none⟩), .int .i64 (j : Nat)] ∧ Kp [] w3 wj) ?_ (m := li.mo.length) ⟨0, by omega, rfl, rfl, Kp.refl _ _⟩
  rintro m N2 xs wj ⟨j, hj, rfl, rfl, kj⟩ hN2
  have hjw : IntKind.i64.wrap ((j : Int) + 1) = ((j + 1 : Nat) : Int) := by rw [w64 (by omega) (by omega)]; simp
  have b3 := hB3.keep kj
  unfold law07_LedgerKeeps_L7F law07_LedgerKeeps_b6
  simp only [fa_p, Nat.add_zero, Nat.zero_add]
  rw [b3.l2, b3.c.lenL, List.length_map]
  simp only [bq_lss, bV_b, decide_eq_true_eq, decide_eq_false_iff_not]
  refine ⟨fun hlt => ?_, fun hge => ?_⟩
  · have hlt : j < li.mo.length := by omega
    have kd : Kp [] w3 wj.drew := kj.trans' kp_drew
    have b3 := hB3.keep kd
    have b5 := hB5.keep kd
    obtain ⟨p, j1, j2, _⟩ := rd_parts b5.c (show j < n.mo.length by omega)
    obtain ⟨q, q1, q2, _⟩ := rd_parts b3.c hlt
    rw [b5.l2, j1, j2, b3.l2, q1, q2]
    have em : n.mo[j]'(by omega) = li.mo[j] := by
      have : n.mo[j]? = li.mo[j]? := by rw [hmo, List.getElem?_append_left hlt]
      rw [List.getElem?_eq_getElem hlt, List.getElem?_eq_getElem (by omega)] at this
      injection this
    rw [em, bq_aggneq (by kernel_rfl), hC_inj]
    simp only [decide_true, Bool.not_true, bV_b, Bool.false_eq_true, false_implies, true_and, true_implies, bq_add, hjw]
    exact hN2 (li.mo.length - (j + 1)) _ _ (by omega) ⟨j + 1, by omega, rfl, rfl, kd⟩
  unfold law07_LedgerKeeps_s5 law07_LedgerKeeps_L4
  clear hN2 hjw b3
  refine loop_inv (fun m xs wk => ∃ j, j ≤ li.ho.length ∧ m = li.ho.length - j ∧ xs = [vo, .pointer (some ⟨p3, 0, none⟩), .int .i64 (i : Nat), .pointer (some ⟨p5, 0, none⟩), .int .i64 (j : Nat)] ∧ Kp [] w3 wk) ?_ (m := li.ho.length) ⟨0, by omega, rfl, rfl, kj⟩
  rintro m N2 xs wk ⟨j, hj, rfl, rfl, kk⟩ hN2
  have hjw : IntKind.i64.wrap ((j : Int) + 1) = ((j + 1 : Nat) : Int) := by rw [w64 (by omega) (by omega)]; simp
  have b3 := hB3.keep kk
  have b5 := hB5.keep kk
  unfold law07_LedgerKeeps_L4F law07_LedgerKeeps_b3
  simp only [fa_p, Nat.add_zero, Nat.zero_add]
  rw [b3.l1, b3.b.lenL, List.length_map]
  simp only [bq_lss, bV_b, decide_eq_true_eq, decide_eq_false_iff_not]
  refine ⟨fun hlt => ?_, fun hge => ?_⟩
  · have hlt : j < li.ho.length := by omega
    have hltn : j < n.ho.length := by omega
    obtain ⟨h1, h2⟩ := hho.at_ j hlt hltn
    obtain ⟨p, j1, j2, _⟩ := rd_parts b5.b hltn
    rw [b5.l1, j1, j2]
    refine boxHold (o := n.ho[j]) (by kernel_rfl) fun q w5 hq hh5 hk5 => ?_
    have b3' := b3.keep hk5
    obtain ⟨r, r1, _, r3⟩ := rd_parts b3'.b hlt
    simp only [fa_p, Nat.add_zero, Nat.zero_add]
    rw [b3'.l1, r1, r3 4 (.int .i64 li.ho[j].st) rfl]
    rw [stF hh5 (by simp [hC]) rfl]
    have hcell : (hC n.ho[j]).toArray.setIfInBounds 4 (.int .i64 li.ho[j].st) = (hC li.ho[j]).toArray := by
      rw [h1]; rfl
    rw [hcell]
    obtain ⟨w6, hw6⟩ : ∃ w6, w6 = (setBlk w5 q (.cells (hC li.ho[j]).toArray 34)).drew := ⟨_, rfl⟩
    have hs3 := kk.size
    have k56 : Kp [q] w5 w6 := by rw [hw6]; exact ((Kp.refl _ w5).setBlk (.inl (by simp)) _).drew
    have k36 : Kp [] w3 w6 := (kk.trans' hk5).trans k56 fun z hz hlt' => by simp at hz; omega
    have hh6 : w6.heap[q]? = some (.cells (hC li.ho[j]).toArray 34) := by rw [hw6]; exact heap_self (live_of hh5)
    rw [← hw6]
    have c3 := hB3.keep k36
    have c5 := hB5.keep k36
    obtain ⟨r, r1, r2, r3⟩ := rd_parts c3.b hlt
    obtain ⟨s, s1, s2, s3⟩ := rd_parts c5.b hltn
    rw [ldHold hh6, c3.l1, r1, r2]
    rw [show hA li.ho[j] = .agg (hC li.ho[j]).toArray from rfl, bq_aggneq (by kernel_rfl), hC_inj]
    simp only [decide_true, Bool.not_true, bV_b, Bool.false_eq_true, false_implies, true_and, true_implies]
    rw [c3.l1, r1, r3 4 (.int .i64 li.ho[j].st) rfl]
    have go : N2 [vo, .pointer (some ⟨p3, 0, none⟩), .int .i64 (i : Nat), .pointer (some ⟨p5, 0, none⟩), .int .i64 (j + 1 : Nat)] w6 := hN2 (li.ho.length - (j + 1)) _ w6 (by omega) ⟨j + 1, by omega, rfl, rfl, k36⟩
    simp only [bq_neq, bV_b, decide_eq_true_eq, decide_eq_false_iff_not, bq_add, hjw]
    refine ⟨fun hne => ?_, fun _ => go⟩
    rw [c5.l1, s1, s3 4 (.int .i64 n.ho[j].st) rfl, c3.l1, r1, r3 4 (.int .i64 li.ho[j].st) rfl]
    simp only [bq_neq, bV_b, decide_eq_true_eq, decide_eq_false_iff_not]
    exact ⟨fun h => absurd (h2 hne) h, fun _ => go⟩
  · unfold law07_LedgerKeeps_s2
    have g3 := f3.keep kk
    have g5 := f5.keep kk
    obtain ⟨v9, hld9, hv9⟩ := g5.ld
    rw [hld9]
    refine g3.st hv9 fun w9 k9 c9 => ?_
    exact hnext w9 n _ (Kp.one (k03.trans' kk) k9 (by omega)) hmn ((hY3.keep kk).keep k9) c9
end Go.Proofs

/- Layer 7: operations that were given. -/
set_option linter.unusedVariables false
set_option linter.unusedSimpArgs false
namespace Go.Proofs
open Go Go.Q
theorem ops_of {rows : List (List Value)} (h : ∀ r ∈ rows, ∃ o : OpV, r = opC o ∧ o.Wf) : ∃ l : List OpV, rows = l.map opC ∧ ∀ o ∈ l, o.Wf := by
  induction rows with
  | nil => exact ⟨[], rfl, by simp⟩
  | cons r rows ih =>
    obtain ⟨l, h1, h2⟩ := ih fun x hx => h x (by simp [hx])
    obtain ⟨s, h3, h4⟩ := h r (by simp)
    exact ⟨s :: l, by rw [h1, h3]; rfl, fun x hx => by
      rcases List.mem_cons.1 hx with rfl | hx
      · exact h4
      · exact h2 x hx⟩
theorem ops_taken {w : World} {a : Option Addr} {l c : Nat} (h : Taken w 55 (.slice a l c)) : ∃ ops : List OpV, OpsAt w (.slice a l c) ops := by
  obtain ⟨H, enc, fuel, x, h⟩ := h
  obtain ⟨v, rows, SK, hv, harg, hlt, hlen, hr⟩ := arg_slice Try.underlying55 (n := 7) (by kernel_rfl) (by omega) h
  obtain ⟨ops, hl, hs⟩ := ops_of (rows := rows) fun r hm => by
    obtain ⟨f, y, hy⟩ := hr r hm
    exact op_in hy
  subst hl
  injection hv with e _
  subst e
  exact ⟨ops, ⟨SK, harg⟩, hs⟩
end Go.Proofs

