/- Part of the proof (P3): an engine, rules or contracts of the functions; it states nothing of the claim by itself. -/
import Derived.Test.YthbdpllbenolfaaP2
import Derived.Test.YthbdpllbenolfaaP1
import Derived.ChangeSlices

/- Layer 10: the law is awake. -/
set_option maxRecDepth 100000
set_option linter.unusedVariables false
set_option linter.unusedSimpArgs false
namespace Go.Proofs
open Go Go.Q
def vA : V3 := ⟨2, 0, [97]⟩
def mA : List E := [⟨vA, 3⟩, ⟨vA, 1⟩]
theorem vA_wf : vA.Rg := ⟨by decide, by decide, by decide, by decide⟩
theorem v0_wf : (⟨0, 0, []⟩ : V3).Rg := ⟨by decide, by decide, by decide, by decide⟩
theorem bld_val0 {K : Value → Prop} : bld [(0, 1), (1, 1), (2, 1)] (zc Try.prog 24) #[] K = K (valA ⟨0, 0, []⟩) := by rw [zcVl, bld_done]; rfl
theorem bld_valA {K : Value → Prop} : bld [(0, 1), (1, 1), (2, 1)] (zc Try.prog 24) #[(0, (.int .i64 2)), (2, (.string ⟨#[97]⟩))] K = K (valA vA) := by
  rw [zcVl]; rfl
theorem bld_ix0 {K : Value → Prop} : bld [(0, 1), (1, 1)] (zc Try.prog 27) #[] K = K (.agg #[.slice none 0 0, .int .i64 0]) := by rw [zcIx, bld_done]
theorem ixm0 {X : List Nat} {w : World} : IxM X w (.agg #[.slice none 0 0, .int .i64 0]) [] 0 := ⟨.slice none 0 0, [], rfl, ⟨[], ⟨[], .inl ⟨none, 0, rfl, rfl⟩, by simp⟩, rfl, fun k h => by simp at h⟩, hinv_nil, rfl⟩
theorem wf_all {m : List E} (h : m = [] ∨ m = [⟨vA, 3⟩] ∨ m = mA) : ∀ e ∈ m, e.v.Rg := by
  intro e he
  have : e.v = vA := by
    rcases h with rfl | rfl | rfl
    · simp at he
    · simp at he; rw [he]
    · simp [mA] at he; rcases he with rfl | rfl <;> rfl
  rw [this]; exact vA_wf
section
variable {wb w : World} {x1 x2 x3 : Nat} {c3 : Array Value} {R : Value → World → Prop}
theorem awT_ok {t38 t39 : Value} (hk : Kp [] wb w) (h3 : w.heap[x3]? = some (.cells c3 27)) (hc : c3.size = 2) (hx : IxM [] w (.agg c3) mA 8) (ha : Rd w t38 1 ([1].map intV)) (hb : Rd w t39 1 ([1].map intV)) (hR : ∀ w', Kp [] wb w' → R (.bool true) w') : awT R (.pointer (some ⟨x3, 0, none⟩)) t38 t39 w := by
  unfold awT
  refine Same_spec ha hb (by simp) fun w1 k1 => ?_
  rw [decide_eq_true rfl]
  simp only [bV_b]
  refine ⟨fun _ => ?_, fun h => (by cases h)⟩
  rw [ldA (k := 2) (k1.get h3 (by simp)) hc, bld_val0]
  refine Find_spec (hx.keep k1) (by decide) ⟨0, 0, []⟩ v0_wf fun out w2 hf => ?_
  have hn : sortI (numsOf mA ⟨0, 0, []⟩) = [] := by decide
  rw [hf.rd.lenL, hn]
  simp only [bq_eql]
  exact hR w2 ((hk.trans' k1).trans' hf.kp)
theorem aw1 {w : World} {K : Value → World → Prop} (hK : ∀ v' w', Fr w w' v' 1 ([1].map intV) → K v' w') : bsl 3 1 1 (zc Try.prog 3) #[(0, (.int .i64 1))] w K := bsl_rowN (n := 1) (cs := intV 1) (by omega) rfl rfl fun v' w' h => hK v' w' h
theorem aw13 {w : World} {K : Value → World → Prop} (hK : ∀ v' w', Fr w w' v' 1 ([1, 3].map intV) → K v' w') : bsl 3 1 2 (zc Try.prog 3) #[(0, (.int .i64 1)), (1, (.int .i64 3))] w K :=
  bsl_rows (n := 1) (len := 2) (xs := [.int .i64 1, .int .i64 3]) (rows := [1, 3].map intV) (by omega) rfl rfl (by simp [intV]) (by omega) hK
theorem awC_ok (hk : Kp [] wb w) (h1 : w.heap[x1]? = some (.cells (valV vA).toArray 24)) (h3 : w.heap[x3]? = some (.cells c3 27)) (hc : c3.size = 2) (hx : IxM [] w (.agg c3) mA 8) (hR : ∀ w', Kp [] wb w' → R (.bool true) w') :
    awC R (.pointer (some ⟨x1, 0, none⟩)) (.pointer (some ⟨x3, 0, none⟩)) w := by
  unfold awC
  have r1 : ∀ w', Kp [] w w' → ∀ K : Value → Prop, ldn 3 (.pointer (some ⟨x1, 0, none⟩)) w' K = K (valA vA) := fun w' hk' K => ldA (hk'.get h1 (by simp)) rfl
  have r3 : ∀ w', Kp [] w w' → ∀ K : Value → Prop, ldn 2 (.pointer (some ⟨x3, 0, none⟩)) w' K = K (.agg c3) := fun w' hk' K => ldA (hk'.get h3 (by simp)) hc
  have hn : sortI (numsOf (dropM mA ⟨vA, 3⟩) vA) = [1] := by decide
  have hdl : (dropM mA ⟨vA, 3⟩).length < 2 ^ 20 := by decide
  have k0 := Kp.refl [] w
  rw [r3 _ k0, r1 _ k0, r1 _ k0]
  have tail : ∀ w' t38 t39, Kp [] w w' → Rd w' t38 1 ([1].map intV) → Rd w' t39 1 ([1].map intV) → awT R (.pointer (some ⟨x3, 0, none⟩)) t38 t39 w' := fun w' t38 t39 hk' ha hb => awT_ok (hk.trans' hk') (hk'.get h3 (by simp)) hc (hx.keep hk') ha hb hR
  refine ⟨?_, ?_⟩
  · refine Without_spec hx (by simp) (by decide) (by decide) vA vA_wf 3 fun t36 w1 k1 hx1 => ?_
    rw [r1 _ k1]
    refine ⟨rfl, ?_, ?_⟩
    · refine Find_spec hx1 hdl vA vA_wf fun t38 w2 hf2 => ?_
      rw [hn] at hf2
      refine aw1 fun t39 w3 hf3 => ?_
      have k3 := (k1.trans' hf2.kp).trans' hf3.kp
      rw [r1 _ k3, r3 _ k3]
      refine ⟨rfl, rfl, rfl, ?_⟩
      exact tail w3 t38 t39 k3 (hf2.rd.keep hf3.kp) hf3.rd
    · refine aw1 fun t39 w2 hf2 => ?_
      have k2 := k1.trans' hf2.kp
      rw [r1 _ k2, r3 _ k2]
      refine ⟨rfl, rfl, rfl, ?_⟩
      refine Find_spec (hx1.keep hf2.kp) hdl vA vA_wf fun t38 w3 hf3 => ?_
      rw [hn] at hf3
      exact tail w3 t38 t39 (k2.trans' hf3.kp) hf3.rd (hf2.rd.keep hf3.kp)
  · refine aw1 fun t39 w1 hf1 => ?_
    have k1 := hf1.kp
    rw [r1 _ k1, r3 _ k1]
    refine ⟨rfl, rfl, rfl, ?_⟩
    refine Without_spec (hx.keep k1) (by simp) (by decide) (by decide) vA vA_wf 3 fun t36 w2 k2 hx2 => ?_
    rw [r1 _ (k1.trans' k2)]
    refine ⟨rfl, ?_⟩
    refine Find_spec hx2 hdl vA vA_wf fun t38 w3 hf3 => ?_
    rw [hn] at hf3
    exact tail w3 t38 t39 ((k1.trans' k2).trans' hf3.kp) hf3.rd ((hf1.rd.keep k2).keep hf3.kp)
theorem awB_ok (hk : Kp [] wb w) (h1 : w.heap[x1]? = some (.cells (valV vA).toArray 24)) (h2 : w.heap[x2]? = some (.cells #[.slice none 0 0, .int .i64 0] 27)) (h3 : w.heap[x3]? = some (.cells c3 27)) (hc : c3.size = 2) (hx : IxM [] w (.agg c3) mA 8) (hR : ∀ w', Kp [] wb w' → R (.bool true) w') :
    awB R (.pointer (some ⟨x1, 0, none⟩)) (.pointer (some ⟨x2, 0, none⟩)) (.pointer (some ⟨x3, 0, none⟩)) w := by
  unfold awB
  have r1 : ∀ w', Kp [] w w' → ∀ K : Value → Prop, ldn 3 (.pointer (some ⟨x1, 0, none⟩)) w' K = K (valA vA) := fun w' hk' K => ldA (hk'.get h1 (by simp)) rfl
  have r2 : ∀ w', Kp [] w w' → ∀ K : Value → Prop, ldn 2 (.pointer (some ⟨x2, 0, none⟩)) w' K = K (.agg #[.slice none 0 0, .int .i64 0]) := fun w' hk' K => ldA (hk'.get h2 (by simp)) rfl
  have r3 : ∀ w', Kp [] w w' → ∀ K : Value → Prop, ldn 2 (.pointer (some ⟨x3, 0, none⟩)) w' K = K (.agg c3) := fun w' hk' K => ldA (hk'.get h3 (by simp)) hc
  have hn : sortI (numsOf mA vA) = [1, 3] := by decide
  have kd : Kp [] w w.drew := kp_drew
  have rest : ∀ w' t15 t16, Kp [] w w' → Rd w' t15 1 ([1, 3].map intV) → Rd w' t16 1 ([1, 3].map intV) → callG Try.prog 12 #[t15, t16] w' fun t17 w =>
      bV t17
      (ldn 2 (.pointer (some ⟨x3, 0, none⟩)) w fun t19 =>
      callG Try.prog 10 #[t19] w fun t20 w =>
      qG Try.prog (bq .eql 3 (.tmp 20) (.const (.int .i64 2)) t20 (.int .i64 2)) w fun t21 =>
      bV t21
      (ldn 2 (.pointer (some ⟨x2, 0, none⟩)) w fun t24 =>
      callG Try.prog 10 #[t24] w fun t25 w =>
      qG Try.prog (bq .eql 3 (.tmp 25) (.const (.int .i64 0)) t25 (.int .i64 0)) w fun t26 =>
      bV t26
      (ldn 2 (.pointer (some ⟨x3, 0, none⟩)) w fun t29 =>
      callG Try.prog 11 #[t29] w fun t30 w =>
      qG Try.prog (bq .eql 3 (.tmp 30) (.const (.int .i64 8)) t30 (.int .i64 8)) w fun t31 =>
      bV t31
      (awC R (.pointer (some ⟨x1, 0, none⟩)) (.pointer (some ⟨x3, 0, none⟩)) w)
      (((R (.bool false) w) ∧ (R (.bool false) w)) ∧ (R (.bool false) w)))
      (((R (.bool false) w) ∧ (R (.bool false) w)) ∧ (R (.bool false) w)))
      (((R (.bool false) w) ∧ (R (.bool false) w)) ∧ (R (.bool false) w)))
      (((R (.bool false) w) ∧ (R (.bool false) w)) ∧ (R (.bool false) w)) := by
    intro w' t15 t16 hk' ha hb
    refine Same_spec ha hb (by simp) fun w1 k1 => ?_
    have g1 := hk'.trans' k1
    rw [decide_eq_true rfl]
    simp only [bV_b]
    refine ⟨fun _ => ?_, fun h => (by cases h)⟩
    rw [r3 _ g1]
    refine Len_spec (hx.keep g1) fun w2 k2 => ?_
    have g2 := g1.trans' k2
    simp only [bq_eql, bV_b]
    refine ⟨fun _ => ?_, fun h => (by simp [mA] at h)⟩
    rw [r2 _ g2]
    refine Len_spec (X := []) ixm0 fun w3 k3 => ?_
    have g3 := g2.trans' k3
    simp only [bq_eql, bV_b]
    refine ⟨fun _ => ?_, fun h => (by simp at h)⟩
    rw [r3 _ g3]
    refine Buckets_spec (hx.keep g3) fun w4 k4 => ?_
    have g4 := g3.trans' k4
    simp only [bq_eql, bV_b]
    refine ⟨fun _ => ?_, fun h => (by simp at h)⟩
    exact awC_ok (hk.trans' g4) (g4.get h1 (by simp)) (g4.get h3 (by simp)) hc (hx.keep g4) hR
  rw [r3 _ kd, r1 _ kd]
  refine ⟨?_, ?_⟩
  · refine Find_spec (hx.keep kd) (by decide) vA vA_wf fun t15 w1 hf1 => ?_
    rw [hn] at hf1
    refine aw13 fun t16 w2 hf2 => ?_
    have k2 := (kd.trans' hf1.kp).trans' hf2.kp
    rw [r1 _ k2, r3 _ k2]
    refine ⟨rfl, rfl, ?_⟩
    exact rest w2 t15 t16 k2 (hf1.rd.keep hf2.kp) hf2.rd
  · refine aw13 fun t16 w1 hf1 => ?_
    have k1 := kd.trans' hf1.kp
    rw [r1 _ k1, r3 _ k1]
    refine ⟨rfl, rfl, ?_⟩
    refine Find_spec (hx.keep k1) (by decide) vA vA_wf fun t15 w2 hf2 => ?_
    rw [hn] at hf2
    exact rest w2 t15 t16 (k1.trans' hf2.kp) hf2.rd (hf1.rd.keep hf2.kp)
end
theorem awake10 {w : World} {R : Value → World → Prop} (hR : ∀ w', Kp [] w w' → R (.bool true) w') : callG Try.prog 7 #[] w R := by
  refine law10_awake_call ?_
  unfold law10_awake law10_awake_s0
  rw [bld_valA]
  refine newB fun x1 w1 hx1 hh1 hk1 => ?_
  unfold valA
  rw [stA (k := 3) hh1 (by rw [zcV]; rfl) rfl (by simp [valV, vA]), bld_ix0]
  obtain ⟨w2, hw2⟩ : ∃ w2, w2 = setBlk w1 x1 (.cells (valV vA).toArray 24) := ⟨_, rfl⟩
  have h12 : w2.heap[x1]? = some (.cells (valV vA).toArray 24) := by rw [hw2]; exact heap_self (live_of hh1)
  have hk02 : Kp [] w w2 := by rw [hw2]; exact hk1.setBlk (.inr hx1) _
  rw [← hw2]
  refine newB fun x2 w3 hx2 hh2 hk3 => ?_
  rw [stA (k := 2) hh2 (by rw [zcIx]; rfl) rfl (by simp)]
  obtain ⟨w4, hw4⟩ : ∃ w4, w4 = setBlk w3 x2 (.cells #[.slice none 0 0, .int .i64 0] 27) := ⟨_, rfl⟩
  have h24 : w4.heap[x2]? = some (.cells #[.slice none 0 0, .int .i64 0] 27) := by rw [hw4]; exact heap_self (live_of hh2)
  have hk24 : Kp [] w2 w4 := by rw [hw4]; exact hk3.setBlk (.inr hx2) _
  have h14 := hk24.get h12 (by simp)
  have hk04 := hk02.trans' hk24
  rw [← hw4]
  have kd : Kp [] w4 w4.drew := kp_drew
  have l1 := lt_of_blk h14
  have l2 := lt_of_blk h24
  have s04 := hk04.size
  have r1 : ∀ w', Kp [] w4 w' → ∀ K : Value → Prop, ldn 3 (.pointer (some ⟨x1, 0, none⟩)) w' K = K (valA vA) := fun w' hk' K => ldA (hk'.get h14 (by simp)) rfl
  have r2 : ∀ w', Kp [] w4 w' → ∀ K : Value → Prop, ldn 2 (.pointer (some ⟨x2, 0, none⟩)) w' K = K (.agg #[.slice none 0 0, .int .i64 0]) := fun w' hk' K => ldA (hk'.get h24 (by simp)) rfl
  rw [r2 _ kd, r1 _ kd, r1 _ kd, r1 _ kd]
  have e1 : putM [] ⟨vA, 3⟩ = [⟨vA, 3⟩] ∧ putB 0 [] ⟨vA, 3⟩ = 8 := by decide
  have e2 : putM [⟨vA, 3⟩] ⟨vA, 1⟩ = mA ∧ putB 8 [⟨vA, 3⟩] ⟨vA, 1⟩ = 8 := by decide
  have e3 : putM mA ⟨vA, 3⟩ = mA ∧ putB 8 mA ⟨vA, 3⟩ = 8 := by decide
  have W1 : ∀ {w' : World} {X : List Nat} {K : Value → World → Prop}, (∀ x ∈ X, x < w'.heap.size) → (∀ v w'', Kp [] w' w'' → IxM X w'' v [⟨vA, 3⟩] 8 → K v w'') → callG Try.prog 15 #[.agg #[.slice none 0 0, .int .i64 0], valA vA, .int .i64 3] w' K := by
    intro w' X K hX hK
    refine With_spec (ixm0 (X := X)) hX (by decide) (by decide) (by simp) vA vA_wf 3 fun v w'' k h => hK v w'' k ?_
    rw [e1.1, e1.2] at h; exact h
  have W2 : ∀ {w' : World} {v : Value} {X : List Nat} {K : Value → World → Prop}, IxM X w' v [⟨vA, 3⟩] 8 → (∀ x ∈ X, x < w'.heap.size) → (∀ v w'', Kp [] w' w'' → IxM X w'' v mA 8 → K v w'') → callG Try.prog 15 #[v, valA vA, .int .i64 1] w' K := by
    intro w' v X K hx hX hK
    refine With_spec hx hX (by decide) (by decide) (wf_all (.inr (.inl rfl))) vA vA_wf 1 fun v w'' k h => hK v w'' k ?_
    rw [e2.1, e2.2] at h; exact h
  have W3 : ∀ {w' : World} {v : Value} {X : List Nat} {K : Value → World → Prop}, IxM X w' v mA 8 → (∀ x ∈ X, x < w'.heap.size) → (∀ v w'', Kp [] w' w'' → IxM X w'' v mA 8 → K v w'') → callG Try.prog 15 #[v, valA vA, .int .i64 3] w' K := by
    intro w' v X K hx hX hK
    refine With_spec hx hX (by decide) (by decide) (wf_all (.inr (.inr rfl))) vA vA_wf 3 fun v w'' k h => hK v w'' k ?_
    rw [e3.1, e3.2] at h; exact h
  have fin : ∀ w' x3 t, Kp [] w4 w' → w4.heap.size ≤ x3 → w'.heap[x3]? = some (.cells (zc Try.prog 27) 27) → IxM [x3] w' t mA 8 → stn 2 (.pointer (some ⟨x3, 0, none⟩)) t w' fun w => awB R (.pointer (some ⟨x1, 0, none⟩)) (.pointer (some ⟨x2, 0, none⟩)) (.pointer (some ⟨x3, 0, none⟩)) w := by
    intro w' x3 t hk' hx3 hh3 hx
    have hx0 := hx
    obtain ⟨o, bs, rfl, hix, _, _⟩ := hx0
    rw [stA (k := 2) hh3 (by rw [zcIx]; rfl) rfl (by simp [hix.ix.one])]
    have hkx : Kp [x3] w' (setBlk w' x3 (.cells #[o, .int .i64 mA.length] 27)) := (Kp.refl _ _).setBlk (.inl (by simp)) _
    refine awB_ok ((hk04.trans' hk').trans hkx fun b hb hlt => by simp at hb; omega) (hkx.get (hk'.get h14 (by simp)) (by simp; omega)) (hkx.get (hk'.get h24 (by simp)) (by simp; omega)) (heap_self (live_of hh3)) rfl ((hx.keepS hkx (by simp)).more (by simp)) hR
  have sd : w4.drew.heap.size = w4.heap.size := rfl
  refine ⟨?_, ?_⟩
  · refine W1 (X := []) (by simp) fun t8 w5 k5 hx5 => ?_
    have g5 := kd.trans' k5
    rw [r1 _ g5]
    refine ⟨rfl, rfl, ?_, ?_⟩
    · refine W2 hx5 (by simp) fun t10 w6 k6 hx6 => ?_
      have g6 := g5.trans' k6
      rw [r1 _ g6]
      refine ⟨rfl, ?_, ?_⟩
      · refine W3 hx6 (by simp) fun t12 w7 k7 hx7 => ?_
        have g7 := g6.trans' k7
        refine newB fun x3 w8 hx3 hh3 k8 => ?_
        have g8 := g7.trans' k8
        rw [r1 _ g8, r2 _ g8]
        refine ⟨rfl, rfl, rfl, rfl, ?_⟩
        have s7 := g7.size
        exact fin w8 x3 t12 g8 (by omega) hh3 ((hx7.more (by simpa using hx3)).keep k8)
      · refine newB fun x3 w7 hx3 hh3 k7 => ?_
        have g7 := g6.trans' k7
        rw [r1 _ g7, r2 _ g7]
        refine ⟨rfl, rfl, rfl, rfl, ?_⟩
        have s6 := g6.size
        have l3 := lt_of_blk hh3
        refine W3 ((hx6.more (Y := [x3]) (by simpa using hx3)).keep k7) (by simpa using l3) fun t12 w8 k8 hx8 => ?_
        exact fin w8 x3 t12 (g7.trans' k8) (by omega) (k8.get hh3 (by simp)) hx8
    · refine newB fun x3 w6 hx3 hh3 k6 => ?_
      have g6 := g5.trans' k6
      rw [r1 _ g6, r2 _ g6]
      refine ⟨rfl, rfl, rfl, rfl, ?_⟩
      have s5 := g5.size
      have l3 := lt_of_blk hh3
      refine W2 ((hx5.more (Y := [x3]) (by simpa using hx3)).keep k6) (by simpa using l3) fun t10 w7 k7 hx7 => ?_
      have g7 := g6.trans' k7
      rw [r1 _ g7]
      refine ⟨rfl, ?_⟩
      have s7 := k7.size
      refine W3 hx7 (by simp; omega) fun t12 w8 k8 hx8 => ?_
      exact fin w8 x3 t12 (g7.trans' k8) (by omega) (k8.get (k7.get hh3 (by simp)) (by simp)) hx8
  · refine newB fun x3 w5 hx3 hh3 k5 => ?_
    have g5 := kd.trans' k5
    rw [r1 _ g5, r2 _ g5]
    refine ⟨rfl, rfl, rfl, rfl, ?_⟩
    have l3 := lt_of_blk hh3
    refine W1 (X := [x3]) (by simpa using l3) fun t8 w6 k6 hx6 => ?_
    have g6 := g5.trans' k6
    have s6 := k6.size
    rw [r1 _ g6]
    refine ⟨rfl, rfl, ?_⟩
    refine W2 hx6 (by simp; omega) fun t10 w7 k7 hx7 => ?_
    have g7 := g6.trans' k7
    have s7 := k7.size
    rw [r1 _ g7]
    refine ⟨rfl, ?_⟩
    refine W3 hx7 (by simp; omega) fun t12 w8 k8 hx8 => ?_
    exact fin w8 x3 t12 (g7.trans' k8) (by omega) (k8.get (k7.get (k6.get hh3 (by simp)) (by simp)) (by simp)) hx8
end Go.Proofs

/- Layer 10: what is put twice is there once. -/
set_option maxRecDepth 100000
set_option linter.unusedVariables false
set_option linter.unusedSimpArgs false
namespace Go.Proofs
open Go Go.Q
section
variable {wb w : World} {x2 x5 x6 : Nat} {v5 v6 : Array Value} {R : Value → World → Prop} {v : V3} {n : Int} {B5 B6 : Nat}
end
end Go.Proofs

/- Layer 10: many numbers are all found. -/
set_option maxRecDepth 100000
set_option linter.unusedVariables false
set_option linter.unusedSimpArgs false
namespace Go.Proofs
open Go Go.Q
structure GSt6 (wb : World) (x6 : Nat) (X : List Nat) (m : List E) (B : Nat) (w : World) : Prop where
  kp : Kp [] wb w
  ex : ∃ c, c.size = 2 ∧ w.heap[x6]? = some (.cells c 27) ∧ IxM (x6 :: X) w (.agg c) m B
theorem GSt6.keep {wb w w' : World} {x6 B : Nat} {X : List Nat} {m : List E} (h : GSt6 wb x6 X m B w) (hk : Kp [] w w') : GSt6 wb x6 X m B w' := by
  obtain ⟨h1, c, h2, h3, h4⟩ := h
  exact ⟨h1.trans' hk, c, h2, hk.get h3 (by simp), h4.keep hk⟩
theorem GSt6.keepS {S : List Nat} {wb w w' : World} {x6 B : Nat} {X : List Nat} {m : List E} (h : GSt6 wb x6 X m B w) (hk : Kp S w w') (hS : ∀ x ∈ S, x ∈ X ∧ x ≠ x6 ∧ wb.heap.size ≤ x) : GSt6 wb x6 X m B w' := by
  obtain ⟨h1, c, h2, h3, h4⟩ := h
  exact ⟨h1.trans hk fun b hb hlt => by have := (hS b hb).2.2; omega, c, h2, hk.get h3 fun hm => (hS x6 hm).2.1 rfl, h4.keepS hk fun x hx => by simp [(hS x hx).1]⟩
theorem GSt6.ld {wb w : World} {x6 B : Nat} {X : List Nat} {m : List E} (h : GSt6 wb x6 X m B w) : ∃ val, (∀ K : Value → Prop, ldn 2 (.pointer (some ⟨x6, 0, none⟩)) w K = K val) ∧ IxM (x6 :: X) w val m B := by
  obtain ⟨h1, c, h2, h3, h4⟩ := h
  exact ⟨_, fun K => ldA h3 h2, h4⟩
theorem GSt6.lt {wb w : World} {x6 B : Nat} {X : List Nat} {m : List E} (h : GSt6 wb x6 X m B w) : x6 < w.heap.size := by
  obtain ⟨h1, c, h2, h3, h4⟩ := h
  exact lt_of_blk h3
theorem GSt6.st {wb w : World} {x6 B B' : Nat} {X : List Nat} {m m' : List E} {val : Value} (h : GSt6 wb x6 X m B w) (hx : IxM (x6 :: X) w val m' B') (h6 : wb.heap.size ≤ x6) {K : World → Prop} (hK : ∀ w', Kp [x6] w w' → GSt6 wb x6 X m' B' w' → K w') : stn 2 (.pointer (some ⟨x6, 0, none⟩)) val w K := by
  obtain ⟨h1, c, h2, h3, h4⟩ := h
  have hx0 := hx
  obtain ⟨o, b, rfl, hix, _, _⟩ := hx0
  rw [stA (k := 2) h3 h2 rfl (by simp [hix.ix.one])]
  have hkx : Kp [x6] w (setBlk w x6 (.cells #[o, .int .i64 m'.length] 27)) := (Kp.refl _ _).setBlk (.inl (by simp)) _
  exact hK _ hkx ⟨h1.setBlk (.inr h6) _, _, rfl, heap_self (live_of h3), hx.keepS hkx (by simp)⟩
/-- a new variable -/
theorem gst_new {wb w : World} {X : List Nat} {m : List E} {B : Nat} {val : Value} (hk : Kp [] wb w) (hx : IxM X w val m B) {K : Value → World → Prop} (hK : ∀ x6 w', w.heap.size ≤ x6 → Kp [] w w' → GSt6 wb x6 X m B w' → K (.pointer (some ⟨x6, 0, none⟩)) w') :
    newG (zc Try.prog 27) 27 w fun t w => stn 2 t val w fun w => K t w := by
  refine newB fun x6 w1 hx6 hh6 hk1 => ?_
  have hx0 := hx
  obtain ⟨o, b, rfl, hix, _, _⟩ := hx0
  have hs := hk.size
  rw [stA (k := 2) hh6 (by rw [zcIx]; rfl) rfl (by simp [hix.ix.one])]
  have hkx : Kp [] w (setBlk w1 x6 (.cells #[o, .int .i64 m.length] 27)) := hk1.setBlk (.inr hx6) _
  refine hK x6 _ hx6 hkx ⟨hk.trans' hkx, _, rfl, heap_self (live_of hh6), (hx.more (Y := x6 :: X) fun y hy => ?_).keep hkx⟩
  rcases List.mem_cons.1 hy with rfl | hy
  · exact .inr hx6
  · exact .inl hy
section
variable {wb w : World} {x6 x10 : Nat} {R : Value → World → Prop} {fr : Int} {n : Nat}
end
end Go.Proofs

/- Layer 10: an index has what was put and not taken. -/
set_option maxRecDepth 100000
set_option linter.unusedVariables false
set_option linter.unusedSimpArgs false
namespace Go.Proofs
open Go Go.Q
/-- what is so of an index behind some calls -/
structure PInv (i : Nat) (m : List E) (B most : Nat) : Prop where
  le : m.length ≤ most
  mi : most ≤ i
  room : most ≤ 4 * B
  b : B = 0 ∨ 8 ≤ B
  bs : B ≤ 8 + i
  rg : ∀ e ∈ m, e.v.Rg
theorem doesM_rg {m : List E} (h : ∀ e ∈ m, e.v.Rg) {a : A10} (ha : a.v.Rg) : ∀ e ∈ doesM m a, e.v.Rg := by
  intro e he
  unfold doesM dropM putM at he
  split at he
  · exact h e (List.mem_filter.1 he).1
  · split at he
    · rcases List.mem_append.1 he with he | he
      · exact h e he
      · simp at he; rw [he]; exact ha
    · exact h e he
def most' (m : List E) (most : Nat) : Nat := if most < m.length then m.length else most
def b0 (m : List E) (most B : Nat) : Nat := if most < m.length then max B 8 else B
theorem plays_step {i : Nat} {m : List E} {B most : Nat} (h : PInv i m B most) {a : A10} (ha : a.v.Rg) :
    PInv (i + 1) (doesM m a) (doesB B m a) (most' (doesM m a) most) ∧ doesB B m a = (if 0 < b0 (doesM m a) most B ∧ 4 * b0 (doesM m a) most B < most' (doesM m a) most then 2 * b0 (doesM m a) most B else b0 (doesM m a) most B) := by
  have hl := h.le
  have hi := h.mi
  have hr := h.room
  have hb := h.b
  have hbs := h.bs
  have hrg := doesM_rg h.rg ha
  by_cases hk : a.k = 1
  · have e1 : doesM m a = dropM m (aE a) := by unfold doesM; rw [if_pos hk]
    have e2 : doesB B m a = B := by unfold doesB; rw [if_pos hk]
    have hd : (dropM m (aE a)).length ≤ m.length := List.length_filter_le _ _
    have e3 : most' (dropM m (aE a)) most = most := by unfold most'; rw [if_neg (by omega)]
    have e4 : b0 (dropM m (aE a)) most B = B := by unfold b0; rw [if_neg (by omega)]
    rw [e1] at hrg ⊢
    rw [e2, e3, e4, if_neg (by omega)]
    exact ⟨⟨by omega, by omega, by omega, hb, by omega, hrg⟩, rfl⟩
  · have e1 : doesM m a = putM m (aE a) := by unfold doesM; rw [if_neg hk]
    have e2 : doesB B m a = putB B m (aE a) := by unfold doesB; rw [if_neg hk]
    rw [e1] at hrg ⊢
    rw [e2]
    by_cases hp : (aE a).v.ok = true ∧ aE a ∉ m
    · have e3 : (putM m (aE a)).length = m.length + 1 := by unfold putM; rw [if_pos hp]; simp
      have e4 : putB B m (aE a) = growB B (m.length + 1) := by unfold putB; rw [if_pos hp]
      rw [e4]
      by_cases hm : most < m.length + 1
      · have e5 : most' (putM m (aE a)) most = m.length + 1 := by unfold most'; rw [e3, if_pos hm]
        have e6 : b0 (putM m (aE a)) most B = max B 8 := by unfold b0; rw [e3, if_pos hm]
        rw [e5, e6]
        unfold growB
        by_cases h4 : 4 * B < m.length + 1
        · rw [if_pos h4]
          refine ⟨⟨by omega, by omega, by omega, .inr (by omega), by omega, hrg⟩, ?_⟩
          rcases hb with hb | hb
          · subst hb
            rw [if_neg (by omega)]; rfl
          · rw [if_pos (by omega)]; omega
        · rw [if_neg h4]
          have hb8 : 8 ≤ B := by omega
          refine ⟨⟨by omega, by omega, by omega, .inr hb8, by omega, hrg⟩, ?_⟩
          rw [if_neg (by omega)]; omega
      · have e5 : most' (putM m (aE a)) most = most := by unfold most'; rw [e3, if_neg hm]
        have e6 : b0 (putM m (aE a)) most B = B := by unfold b0; rw [e3, if_neg hm]
        rw [e5, e6]
        have e7 : growB B (m.length + 1) = B := by unfold growB; rw [if_neg (by omega)]
        rw [e7, if_neg (by omega)]
        exact ⟨⟨by omega, by omega, by omega, hb, by omega, hrg⟩, rfl⟩
    · have e3 : putM m (aE a) = m := by unfold putM; rw [if_neg hp]
      have e4 : putB B m (aE a) = B := by unfold putB; rw [if_neg hp]
      have e5 : most' m most = most := by unfold most'; rw [if_neg (by omega)]
      have e6 : b0 m most B = B := by unfold b0; rw [if_neg (by omega)]
      rw [e3] at hrg ⊢
      rw [e4, e5, e6, if_neg (by omega)]
      exact ⟨⟨by omega, by omega, by omega, hb, by omega, hrg⟩, rfl⟩
section
variable {wb w : World} {x3 x5 : Nat} {x0 x6 : Value} {R : Value → World → Prop} {N : List Value → World → Prop} {v : V3} {m : List E} {B most i : Nat} {l : List A10}
theorem plays_s0 (h3 : w.heap[x3]? = some (.cells (valV v).toArray 24)) (hs : GSt6 wb x5 [] m B w) (hr : Rd w x6 4 (m.map eC)) (hm : m.length < 2 ^ 20) (hv : v.Rg) (hR : ∀ w', Kp [] wb w' → R (.bool true) w') :
    law10_HashPlays_s0 R (.pointer (some ⟨x3, 0, none⟩)) (.pointer (some ⟨x5, 0, none⟩)) x6 w := by
  unfold law10_HashPlays_s0
  have kd : Kp [] w w.drew := kp_drew
  obtain ⟨val, l1, l2⟩ := (hs.keep kd).ld
  have r3 : ∀ w', Kp [] w w' → ∀ K : Value → Prop, ldn 3 (.pointer (some ⟨x3, 0, none⟩)) w' K = K (valA v) := fun w' hk' K => ldA (hk'.get h3 (by simp)) rfl
  rw [l1, r3 _ kd, r3 _ kd]
  refine Find_spec l2 hm v hv fun out w1 hf1 => ?_
  have k1 := kd.trans' hf1.kp
  rw [r3 _ k1]
  refine ⟨rfl, ?_⟩
  refine lfind_spec (hr.keep k1) (by omega) v fun out2 w2 hf2 => ?_
  refine Same_spec (hf1.rd.keep hf2.kp) hf2.rd (by rw [sortI_len]; have := numsOf_len m v; omega) fun w3 k3 => ?_
  rw [decide_eq_true rfl]
  simp only [bV_b]
  refine ⟨fun _ => ?_, fun h => (by cases h)⟩
  refine awake10 fun w4 k4 => hR w4 ?_
  exact (((hs.kp.trans' k1).trans' hf2.kp).trans' k3).trans' k4
theorem plays_s2 (hs : GSt6 wb x5 [] m B w) (hr : Rd w x6 4 (m.map eC)) (hm : m.length < 2 ^ 20) (hx0 : Rd w x0 5 (l.map aC)) (hi : i < l.length) (ha : l[i].v.Rg) {x3v x7 : Value} (hN : ∀ w', Kp [] w w' → law10_HashPlays_s1 R N x0 x3v (.pointer (some ⟨x5, 0, none⟩)) x6 x7 (.int .i64 B) (.int .i64 (i : Nat)) w') :
    law10_HashPlays_s2 R N x0 x3v (.pointer (some ⟨x5, 0, none⟩)) x6 x7 (.int .i64 B) (.int .i64 (i : Nat)) w := by
  unfold law10_HashPlays_s2
  have kd : Kp [] w w.drew := kp_drew
  obtain ⟨val, l1, l2⟩ := (hs.keep kd).ld
  rw [l1, hr.lenL, List.length_map]
  refine Len_spec l2 fun w1 k1 => ?_
  have g1 := kd.trans' k1
  simp only [bq_neq, bV_b]
  refine ⟨fun h => (by simp at h), fun _ => ?_⟩
  obtain ⟨val1, a1, a2⟩ := (hs.keep g1).ld
  rw [a1]
  refine Buckets_spec a2 fun w2 k2 => ?_
  have g2 := g1.trans' k2
  simp only [bq_neq, bV_b]
  refine ⟨fun h => (by simp at h), fun _ => ?_⟩
  obtain ⟨val2, b1, b2⟩ := (hs.keep g2).ld
  obtain ⟨bl, o, q1, q2⟩ := hx0.rowK (i := i) (by simpa using hi)
  have hrow : (l.map aC)[i]'(by simpa using hi) = aC l[i] := by simp
  rw [hrow] at q2
  have rv : ∀ w', Kp [] w w' → ∀ K : Value → Prop, ldn 3 (.pointer (some ⟨bl, o + 2, none⟩)) w' K = K (valA l[i].v) := fun w' hk' K => (q2 w' hk').2.2 2 3 _ (by omega) (act_val l[i]) K
  rw [b1, q1, fa_p, rv _ g2, q1, fa_p, rv _ g2]
  refine Find_spec b2 hm l[i].v ha fun out w3 hf3 => ?_
  have g3 := g2.trans' hf3.kp
  rw [rv _ g3]
  refine ⟨rfl, ?_⟩
  refine lfind_spec (hr.keep g3) (by omega) l[i].v fun out2 w4 hf4 => ?_
  refine Same_spec (hf3.rd.keep hf4.kp) hf4.rd (by rw [sortI_len]; have := numsOf_len m l[i].v; omega) fun w5 k5 => ?_
  rw [decide_eq_true rfl]
  simp only [un_not, bV_b]
  refine ⟨fun h => (by simp at h), fun _ => ?_⟩
  exact hN w5 ((g3.trans' hf4.kp).trans' k5)
/-- the buckets are doubled -/
theorem plays_L4 {x3v x0v x6v x5v : Value} {mo b : Nat} (hb : b < 2 ^ 20) (hB : B = if 0 < b ∧ 4 * b < mo then 2 * b else b) (hfin : ¬ (0 < B ∧ 4 * B < mo)) (hs2 : law10_HashPlays_s2 R N x0v x3v x5v x6v (.int .i64 mo) (.int .i64 B) (.int .i64 (i : Nat)) w) :
    law10_HashPlays_L4 R N x0v x3v x5v x6v (.int .i64 mo) (.int .i64 b) (.int .i64 (i : Nat)) w := by
  unfold law10_HashPlays_L4
  refine loop_inv (fun mm xs wi => wi = w ∧ ∃ c : Nat, xs = [x0v, x3v, x5v, x6v, .int .i64 mo, .int .i64 c, .int .i64 (i : Nat)] ∧ ((mm = 1 ∧ c = b) ∨ (mm = 0 ∧ c = B))) ?_ (m := 1) ⟨rfl, b, rfl, .inl ⟨rfl, rfl⟩⟩
  rintro mm N2 xs wi ⟨rfl, c, rfl, hc⟩ hN2
  have hc2 : c < 2 ^ 21 := by
    rcases hc with ⟨_, rfl⟩ | ⟨_, rfl⟩
    · omega
    · rw [hB]; split <;> omega
  have e1 : IntKind.i64.wrap (4 * (c : Int)) = 4 * (c : Int) := w64 (by omega) (by omega)
  have e2 : IntKind.i64.wrap (2 * (c : Int)) = ((2 * c : Nat) : Int) := by rw [w64 (by omega) (by omega)]; simp
  unfold law10_HashPlays_L4F law10_HashPlays_b3
  dsimp only
  simp only [bq_gtr, bq_mul, e1, e2, bq_lss, bV_b, decide_eq_true_eq, decide_eq_false_iff_not]
  refine ⟨fun h0 => ⟨fun h4 => ?_, fun h4 => ?_⟩, fun h0 => ?_⟩
  · rcases hc with ⟨rfl, rfl⟩ | ⟨_, rfl⟩
    · refine hN2 0 _ _ (by omega) ⟨rfl, 2 * c, rfl, .inr ⟨rfl, ?_⟩⟩
      rw [hB, if_pos (by omega)]
    · omega
  · have : c = B := by
      rcases hc with ⟨_, rfl⟩ | ⟨_, rfl⟩
      · rw [hB, if_neg (by omega)]
      · rfl
    rw [this]; exact hs2
  · have : c = B := by
      rcases hc with ⟨_, rfl⟩ | ⟨_, rfl⟩
      · rw [hB, if_neg (by omega)]
      · rfl
    rw [this]; exact hs2
end
theorem hashPlays_spec {w : World} {x0 : Value} {l : List A10} (hx0 : Rd w x0 5 (l.map aC)) (hl : ∀ a ∈ l, a.v.Rg) (v : V3) (hv : v.Rg) {R : Value → World → Prop} (hR : ∀ w', Kp [] w w' → R (.bool true) w') : callG Try.prog 3 #[x0, valA v] w R := by
  refine law10_HashPlays_call ?_
  unfold law10_HashPlays law10_HashPlays_s9
  have e0 : ∀ (k : Value → World → Prop), newG (Value.cells (valA v)) 24 w k = newG (Value.cells (.agg (valV v).toArray)) 24 w k := fun _ => rfl
  rw [e0]
  refine argB fun x3 w1 hx3 hh3 hk1 => ?_
  rw [bld_ix0]
  refine gst_new hk1 (ixm0 (X := [])) fun x5 w2 hx5 k2 hs5 => ?_
  have hs1 := hk1.size
  have l3 := lt_of_blk hh3
  have h3 := k2.get hh3 (by simp)
  unfold law10_HashPlays_s8 law10_HashPlays_L7
  refine loop_inv (fun mm xs wi => ∃ i m B most x6, mm = l.length - i ∧ i ≤ l.length ∧ i ≤ 120 ∧ xs = [x0, .pointer (some ⟨x3, 0, none⟩), .pointer (some ⟨x5, 0, none⟩), x6, .int .i64 (most : Nat), .int .i64 (B : Nat), .int .i64 (i : Nat)] ∧ wi.heap[x3]? = some (.cells (valV v).toArray 24) ∧ GSt6 w x5 [] m B wi ∧ (∃ S, ArgAt wi x6 4 (m.map eC) S ∧ x5 ∉ S) ∧ PInv i m B most) ?_ (m := l.length) ⟨0, [], 0, 0, .slice none 0 0, rfl, by omega, by omega, rfl, h3, hs5, ⟨[], .inl ⟨none, 0, rfl, rfl⟩, by simp⟩, ⟨by simp, by omega, by omega, .inl rfl, by omega, by simp⟩⟩
  rintro mm N xs wi ⟨i, m, B, most, x6, rfl, hi, hi120, rfl, h3, hs, ⟨S6, hr6, hn6⟩, hp⟩ hN
  have hpl := hp.le
  have hpi := hp.mi
  have hpb := hp.bs
  have hx0i := hx0.keep hs.kp
  have send : law10_HashPlays_s0 R (.pointer (some ⟨x3, 0, none⟩)) (.pointer (some ⟨x5, 0, none⟩)) x6 wi := plays_s0 h3 hs ⟨S6, hr6⟩ (by omega) hv hR
  unfold law10_HashPlays_L7F law10_HashPlays_s6
  dsimp only
  rw [hx0i.lenL, List.length_map]
  simp only [bq_lss, bV_b, decide_eq_true_eq, decide_eq_false_iff_not]
  refine ⟨fun hlt => ⟨fun hlt2 => ?_, fun _ => send⟩, fun _ => send⟩
  have hlt : i < l.length := by omega
  have hlt2 : i < 120 := by omega
  have hiw : IntKind.i64.wrap ((i : Int) + 1) = ((i + 1 : Nat) : Int) := by rw [w64 (by omega) (by omega)]; simp
  have ha : l[i].v.Rg := hl _ (List.getElem_mem hlt)
  obtain ⟨bl, o, q1, q2⟩ := hx0.rowK (i := i) (by simpa using hlt)
  have hrow : (l.map aC)[i]'(by simpa using hlt) = aC l[i] := by simp
  rw [hrow] at q2
  have rs : ∀ K : Value → Prop, ld1 (.pointer (some ⟨bl, o + 2 + 2, none⟩)) wi K = K (.string (str l[i].v.s)) := fun K => (q2 wi hs.kp).2.1 4 (.string (str l[i].v.s)) (by omega) rfl K
  unfold law10_HashPlays_s5
  rw [q1, fa_p, fa_p, rs]
  simp only [lenS_s, bq_gtr, bV_b, decide_eq_true_eq, decide_eq_false_iff_not]
  refine ⟨fun _ => awake10 fun w' hk' => hR w' (hs.kp.trans' hk'), fun _ => ?_⟩
  have kd : Kp [] wi wi.drew := kp_drew
  obtain ⟨val, l1, l2⟩ := (hs.keep kd).ld
  rw [l1, q1, (q2 _ (hs.kp.trans' kd)).1]
  refine done_spec l2 (by simpa using hs.lt) (by omega) (by omega) hp.rg l[i] ha fun val' w3 k3 hx' => ?_
  have g3 := kd.trans' k3
  refine (hs.keep g3).st hx' (by omega) fun w4 k4 hs4 => ?_
  have hr4 : Rd w4 x6 4 (m.map eC) := ⟨S6, (hr6.keep g3 (by simp)).keep k4 fun x hx hm => by simp at hm; exact hn6 (hm ▸ hx)⟩
  have h34 : w4.heap[x3]? = some (.cells (valV v).toArray 24) := k4.get (g3.get h3 (by simp)) (by simp; omega)
  rw [q1, (q2 _ hs4.kp).1]
  refine does_spec hr4 (by omega) l[i] fun t41 w5 hf5 => ?_
  have hs5 := hs4.keep hf5.kp
  have h35 := hf5.kp.get h34 (by simp)
  obtain ⟨hp', hB'⟩ := plays_step hp ha
  have hpi' := hp'.mi
  have hpl' := hp'.le
  have hpr' := hp'.room
  have hpb' := hp'.bs
  have hx05 := hx0.keep hs5.kp
  have l5 := hs4.lt
  have hmain : law10_HashPlays_L4 R N x0 (.pointer (some ⟨x3, 0, none⟩)) (.pointer (some ⟨x5, 0, none⟩)) t41 (.int .i64 (most' (doesM m l[i]) most : Nat)) (.int .i64 (b0 (doesM m l[i]) most B : Nat)) (.int .i64 (i : Nat)) w5 := by
    refine plays_L4 (B := doesB B m l[i]) (by unfold b0; split <;> omega) hB' (by omega) ?_
    refine plays_s2 hs5 hf5.rd (by omega) hx05 hlt ha fun w6 k6 => ?_
    unfold law10_HashPlays_s1
    simp only [bq_add, hiw]
    refine hN (l.length - (i + 1)) _ w6 (by omega) ⟨i + 1, doesM m l[i], doesB B m l[i], most' (doesM m l[i]) most, t41, rfl, by omega, by omega, rfl, k6.get h35 (by simp), hs5.keep k6, ?_, hp'⟩
    obtain ⟨S, hS, hS2⟩ := hf5.ex
    exact ⟨S, (ArgAt.keep (.inr hS.rd) k6 (by simp)), fun hm => by have := hS2 x5 hm; omega⟩
  rw [hf5.rd.lenL, List.length_map]
  simp only [bq_gtr, bV_b, decide_eq_true_eq, decide_eq_false_iff_not]
  refine ⟨fun hgt => ?_, fun hle => ?_⟩
  · have e1 : most' (doesM m l[i]) most = (doesM m l[i]).length := by unfold most'; rw [if_pos (by omega)]
    have e2 : b0 (doesM m l[i]) most B = max B 8 := by unfold b0; rw [if_pos (by omega)]
    rw [e1, e2] at hmain
    have e3 : max (B : Int) 8 = ((max B 8 : Nat) : Int) := by omega
    rw [hf5.rd.lenL, List.length_map]
    simp only [q_max, e3]
    exact hmain
  · have e1 : most' (doesM m l[i]) most = most := by unfold most'; rw [if_neg (by omega)]
    have e2 : b0 (doesM m l[i]) most B = B := by unfold b0; rw [if_neg (by omega)]
    rw [e1, e2] at hmain
    exact hmain
end Go.Proofs

/- What the statement's own reading says of the arguments that came in: values, calls, numbers. -/
set_option linter.unusedVariables false
set_option linter.unusedSimpArgs false
namespace Go.Proofs
open Go Go.Q
/-- an argument that the statement's own reading took -/
def Taken (w : World) (t : TypeId) (v : Value) : Prop :=
  ∃ (H : Type) (enc : TypeId × Value → H) (fuel : Nat) (x : DataW H × List MemPlace), DataW.trod enc Try.prog w 0 (fun _ => true) true fuel t v.cells.toList = some x
section
variable {H : Type} {enc : TypeId × Value → H} {w : World} {fuel n : Nat} {cs : List Value} {x : DataW H × List MemPlace}
theorem str_all (s : ByteArray) : s = str s.data.toList := by cases s; simp [str]
theorem one_celA {i : Nat} (hi : i < cs.length) : (cs.drop i).take 1 = [cs[i]] := by rw [List.drop_eq_getElem_cons hi]; rfl
theorem fld_int {i : Nat} {q : Option (DataW H × List MemPlace)} (h : DataW.trod enc Try.prog w 0 (fun _ => true) true n 3 ((cs.drop i).take (Try.prog.cellsOf 3)) = q) (hq : q.isSome = true) (hi : i < cs.length) : ∃ z : Int, cs[i] = .int .i64 z ∧ -9223372036854775808 ≤ z ∧ z < 9223372036854775808 := by
  obtain ⟨y, rfl⟩ := Option.isSome_iff_exists.1 hq
  rw [show Try.prog.cellsOf 3 = 1 by kernel_rfl, one_celA hi] at h
  obtain ⟨z, e, _, hw⟩ := DataW.trod_int Try.underlying3 h
  injection e with e _
  exact ⟨z, e, wf64 hw⟩
theorem fld_str {i : Nat} {q : Option (DataW H × List MemPlace)} (h : DataW.trod enc Try.prog w 0 (fun _ => true) true n 9 ((cs.drop i).take (Try.prog.cellsOf 9)) = q) (hq : q.isSome = true) (hi : i < cs.length) : ∃ s : List UInt8, cs[i] = .string (str s) ∧ s.length ≤ maxLen := by
  obtain ⟨y, rfl⟩ := Option.isSome_iff_exists.1 hq
  rw [show Try.prog.cellsOf 9 = 1 by kernel_rfl, one_celA hi] at h
  obtain ⟨s, e, _, hw⟩ := DataW.trod_string Try.underlying9 h
  injection e with e _
  exact ⟨s.data.toList, by rw [e]; exact congrArg Value.string (str_all s), hw⟩
theorem list3 {α : Type} {r : List α} (h : r.length = 3) : ∃ a b c, r = [a, b, c] := by
  match r, h with
  | [a, b, c], _ => exact ⟨a, b, c, rfl⟩
theorem list5 {α : Type} {r : List α} (h : r.length = 5) : ∃ a b c d e, r = [a, b, c, d, e] := by
  match r, h with
  | [a, b, c, d, e], _ => exact ⟨a, b, c, d, e, rfl⟩
theorem val_in (h : DataW.trod enc Try.prog w 0 (fun _ => true) true fuel 24 cs = some x) : ∃ v : V3, cs = valV v ∧ v.Rg := by
  obtain ⟨xs, n, rfl, _, hl, hx, hf⟩ := DataW.trod_struct Try.underlying24 h
  rw [show Try.prog.cellsOf 24 = 3 by kernel_rfl] at hl
  have hx3 : xs.length = 3 := hx
  have g0 : DataW.trod enc Try.prog w 0 (fun _ => true) true n 3 ((cs.drop 0).take (Try.prog.cellsOf 3)) = xs[0]? := hf 0 _ rfl
  obtain ⟨z0, e0, p0⟩ := fld_int g0 (by simp; omega) (by omega)
  have g1 : DataW.trod enc Try.prog w 0 (fun _ => true) true n 3 ((cs.drop 1).take (Try.prog.cellsOf 3)) = xs[1]? := hf 1 _ rfl
  obtain ⟨z1, e1, p1⟩ := fld_int g1 (by simp; omega) (by omega)
  have g2 : DataW.trod enc Try.prog w 0 (fun _ => true) true n 9 ((cs.drop 2).take (Try.prog.cellsOf 9)) = xs[2]? := hf 2 _ rfl
  obtain ⟨z2, e2, p2⟩ := fld_str g2 (by simp; omega) (by omega)
  obtain ⟨c0, c1, c2, rfl⟩ := list3 hl
  simp only [List.getElem_cons_zero, List.getElem_cons_succ] at e0 e1 e2
  subst e0 e1 e2
  exact ⟨⟨z0, z1, z2⟩, rfl, ⟨p0.1, p0.2, p1.1, p1.2⟩⟩
theorem act_in (h : DataW.trod enc Try.prog w 0 (fun _ => true) true fuel 30 cs = some x) : ∃ a : A10, cs = aC a ∧ a.v.Rg := by
  obtain ⟨xs, n, rfl, _, hl, hx, hf⟩ := DataW.trod_struct Try.underlying30 h
  rw [show Try.prog.cellsOf 30 = 5 by kernel_rfl] at hl
  have hx3 : xs.length = 3 := hx
  have g0 : DataW.trod enc Try.prog w 0 (fun _ => true) true n 3 ((cs.drop 0).take (Try.prog.cellsOf 3)) = xs[0]? := hf 0 _ rfl
  obtain ⟨z0, e0, p0⟩ := fld_int g0 (by simp; omega) (by omega)
  have g1 : DataW.trod enc Try.prog w 0 (fun _ => true) true n 3 ((cs.drop 1).take (Try.prog.cellsOf 3)) = xs[1]? := hf 1 _ rfl
  obtain ⟨z1, e1, p1⟩ := fld_int g1 (by simp; omega) (by omega)
  have g2 : DataW.trod enc Try.prog w 0 (fun _ => true) true n 24 ((cs.drop 2).take (Try.prog.cellsOf 24)) = xs[2]? := hf 2 _ rfl
  have hs2 : (xs[2]?).isSome = true := by simp; omega
  obtain ⟨y, hy⟩ := Option.isSome_iff_exists.1 hs2
  rw [hy] at g2
  obtain ⟨v, hv, hr⟩ := val_in g2
  rw [show Try.prog.cellsOf 24 = 3 by kernel_rfl] at hv
  obtain ⟨c0, c1, c2, c3, c4, rfl⟩ := list5 hl
  simp only [List.getElem_cons_zero, List.getElem_cons_succ] at e0 e1
  subst e0 e1
  exact ⟨⟨z0, z1, v⟩, by
    simp only [List.drop_succ_cons, List.drop_zero, List.take_succ_cons, List.take_zero] at hv
    show [_, _, c2, c3, c4] = [_, _] ++ valV v
    rw [← hv]; rfl, hr⟩
end
theorem val_taken {w : World} {c : Array Value} (h : Taken w 24 (.agg c)) : ∃ v : V3, Value.agg c = valA v ∧ v.Rg := by
  obtain ⟨H, enc, fuel, x, h⟩ := h
  obtain ⟨v, h1, h2⟩ := val_in h
  refine ⟨v, ?_, h2⟩
  unfold valA
  congr 1
  apply Array.toList_inj.1
  exact h1
theorem acts_of {rows : List (List Value)} (h : ∀ r ∈ rows, ∃ a : A10, r = aC a ∧ a.v.Rg) : ∃ l : List A10, rows = l.map aC ∧ ∀ a ∈ l, a.v.Rg := by
  induction rows with
  | nil => exact ⟨[], rfl, by simp⟩
  | cons r rows ih =>
    obtain ⟨l, h1, h2⟩ := ih fun x hx => h x (by simp [hx])
    obtain ⟨s, h3, h4⟩ := h r (by simp)
    exact ⟨s :: l, by rw [h1, h3]; rfl, fun x hx => by
      rcases List.mem_cons.1 hx with rfl | hx
      · exact h4
      · exact h2 x hx⟩
theorem acts_taken {w : World} {a : Option Addr} {l c : Nat} (h : Taken w 22 (.slice a l c)) : ∃ acts : List A10, Rd w (.slice a l c) 5 (acts.map aC) ∧ ∀ a ∈ acts, a.v.Rg := by
  obtain ⟨H, enc, fuel, x, h⟩ := h
  obtain ⟨v, rows, SK, hv, harg, hlt, hlen, hr⟩ := arg_slice Try.underlying22 (n := 5) (by kernel_rfl) (by omega) h
  obtain ⟨acts, hl, hs⟩ := acts_of (rows := rows) fun r hm => by
    obtain ⟨f, y, hy⟩ := hr r hm
    exact act_in hy
  subst hl
  injection hv with e _
  subst e
  exact ⟨acts, ⟨SK, harg⟩, hs⟩
end Go.Proofs

