/- Part of the proof (S3): an engine, rules or contracts of the functions; it states nothing of the claim by itself. -/
import Derived.Test.YthbdpllbenolfaaS2
import Derived.Test.YthbdpllbenolfaaS1
import Derived.ChangeSlices

/- Layer 10: the law is awake. -/
set_option maxRecDepth 100000
set_option linter.unusedVariables false
set_option linter.unusedSimpArgs false
namespace Go.Proofs
open Go Go.Q
def vA : V3 := ⟨2, 0, [97]⟩
def mA : List E := [⟨vA, 3⟩, ⟨vA, 1⟩]
theorem vA_wf : vA.Rg := ⟨by decide, by decide, by decide, by decide⟩
theorem v0_wf : (⟨0, 0, []⟩ : V3).Rg := ⟨by decide, by decide, by decide, by decide⟩
theorem bld_val0 {K : Value → Prop} : bld [(0, 1), (1, 1), (2, 1)] (zc Try.prog 24) #[] K = K (valA ⟨0, 0, []⟩) := by rw [zcVl, bld_done]; rfl
theorem bld_valA {K : Value → Prop} : bld [(0, 1), (1, 1), (2, 1)] (zc Try.prog 24) #[(0, (.int .i64 2)), (2, (.string ⟨#[97]⟩))] K = K (valA vA) := by
  rw [zcVl]; rfl
theorem bld_ix0 {K : Value → Prop} : bld [(0, 1), (1, 1)] (zc Try.prog 27) #[] K = K (.agg #[.slice none 0 0, .int .i64 0]) := by rw [zcIx, bld_done]
theorem ixm0 {X : List Nat} {w : World} : IxM X w (.agg #[.slice none 0 0, .int .i64 0]) [] 0 := ⟨.slice none 0 0, [], rfl, ⟨[], ⟨[], .inl ⟨none, 0, rfl, rfl⟩, by simp⟩, rfl, fun k h => by simp at h⟩, hinv_nil, rfl⟩
theorem wf_all {m : List E} (h : m = [] ∨ m = [⟨vA, 3⟩] ∨ m = mA) : ∀ e ∈ m, e.v.Rg := by
  intro e he
  have : e.v = vA := by
    rcases h with rfl | rfl | rfl
    · simp at he
    · simp at he; rw [he]
    · simp [mA] at he; rcases he with rfl | rfl <;> rfl
  rw [this]; exact vA_wf
section
variable {wb w : World} {x1 x2 x3 : Nat} {c3 : Array Value} {R : Value → World → Prop}
theorem awT_ok {t38 t39 : Value} (hk : Kp [] wb w) (h3 : w.heap[x3]? = some (.cells c3 27)) (hc : c3.size = 2) (hx : IxM [] w (.agg c3) mA 8) (ha : Rd w t38 1 ([1].map intV)) (hb : Rd w t39 1 ([1].map intV)) (hR : ∀ w', Kp [] wb w' → R (.bool true) w') : awT R (.pointer (some ⟨x3, 0, none⟩)) t38 t39 w := by
  unfold awT
  refine Same_spec ha hb (by simp) fun w1 k1 => ?_
  rw [decide_eq_true rfl]
  simp only [bV_b]
  refine ⟨fun _ => ?_, fun h => (by cases h)⟩
  rw [ldA (k := 2) (k1.get h3 (by simp)) hc, bld_val0]
  refine Find_spec (hx.keep k1) (by decide) ⟨0, 0, []⟩ v0_wf fun out w2 hf => ?_
  have hn : sortI (numsOf mA ⟨0, 0, []⟩) = [] := by decide
  rw [hf.rd.lenL, hn]
  simp only [bq_eql]
  exact hR w2 ((hk.trans' k1).trans' hf.kp)
theorem aw1 {w : World} {K : Value → World → Prop} (hK : ∀ v' w', Fr w w' v' 1 ([1].map intV) → K v' w') : bsl 3 1 1 (zc Try.prog 3) #[(0, (.int .i64 1))] w K := bsl_rowN (n := 1) (cs := intV 1) (by omega) rfl rfl fun v' w' h => hK v' w' h
theorem aw13 {w : World} {K : Value → World → Prop} (hK : ∀ v' w', Fr w w' v' 1 ([1, 3].map intV) → K v' w') : bsl 3 1 2 (zc Try.prog 3) #[(0, (.int .i64 1)), (1, (.int .i64 3))] w K :=
  bsl_rows (n := 1) (len := 2) (xs := [.int .i64 1, .int .i64 3]) (rows := [1, 3].map intV) (by omega) rfl rfl (by simp [intV]) (by omega) hK
theorem awC_ok (hk : Kp [] wb w) (h1 : w.heap[x1]? = some (.cells (valV vA).toArray 24)) (h3 : w.heap[x3]? = some (.cells c3 27)) (hc : c3.size = 2) (hx : IxM [] w (.agg c3) mA 8) (hR : ∀ w', Kp [] wb w' → R (.bool true) w') :
    awC R (.pointer (some ⟨x1, 0, none⟩)) (.pointer (some ⟨x3, 0, none⟩)) w := by
  unfold awC
  have r1 : ∀ w', Kp [] w w' → ∀ K : Value → Prop, ldn 3 (.pointer (some ⟨x1, 0, none⟩)) w' K = K (valA vA) := fun w' hk' K => ldA (hk'.get h1 (by simp)) rfl
  have r3 : ∀ w', Kp [] w w' → ∀ K : Value → Prop, ldn 2 (.pointer (some ⟨x3, 0, none⟩)) w' K = K (.agg c3) := fun w' hk' K => ldA (hk'.get h3 (by simp)) hc
  have hn : sortI (numsOf (dropM mA ⟨vA, 3⟩) vA) = [1] := by decide
  have hdl : (dropM mA ⟨vA, 3⟩).length < 2 ^ 20 := by decide
  have k0 := Kp.refl [] w
  rw [r3 _ k0, r1 _ k0, r1 _ k0]
  have tail : ∀ w' t38 t39, Kp [] w w' → Rd w' t38 1 ([1].map intV) → Rd w' t39 1 ([1].map intV) → awT R (.pointer (some ⟨x3, 0, none⟩)) t38 t39 w' := fun w' t38 t39 hk' ha hb => awT_ok (hk.trans' hk') (hk'.get h3 (by simp)) hc (hx.keep hk') ha hb hR
  refine ⟨?_, ?_⟩
  · refine Without_spec hx (by simp) (by decide) (by decide) vA vA_wf 3 fun t36 w1 k1 hx1 => ?_
    rw [r1 _ k1]
    refine ⟨rfl, ?_, ?_⟩
    · refine Find_spec hx1 hdl vA vA_wf fun t38 w2 hf2 => ?_
      rw [hn] at hf2
      refine aw1 fun t39 w3 hf3 => ?_
      have k3 := (k1.trans' hf2.kp).trans' hf3.kp
      rw [r1 _ k3, r3 _ k3]
      refine ⟨rfl, rfl, rfl, ?_⟩
      exact tail w3 t38 t39 k3 (hf2.rd.keep hf3.kp) hf3.rd
    · refine aw1 fun t39 w2 hf2 => ?_
      have k2 := k1.trans' hf2.kp
      rw [r1 _ k2, r3 _ k2]
      refine ⟨rfl, rfl, rfl, ?_⟩
      refine Find_spec (hx1.keep hf2.kp) hdl vA vA_wf fun t38 w3 hf3 => ?_
      rw [hn] at hf3
      exact tail w3 t38 t39 (k2.trans' hf3.kp) hf3.rd (hf2.rd.keep hf3.kp)
  · refine aw1 fun t39 w1 hf1 => ?_
    have k1 := hf1.kp
    rw [r1 _ k1, r3 _ k1]
    refine ⟨rfl, rfl, rfl, ?_⟩
    refine Without_spec (hx.keep k1) (by simp) (by decide) (by decide) vA vA_wf 3 fun t36 w2 k2 hx2 => ?_
    rw [r1 _ (k1.trans' k2)]
    refine ⟨rfl, ?_⟩
    refine Find_spec hx2 hdl vA vA_wf fun t38 w3 hf3 => ?_
    rw [hn] at hf3
    exact tail w3 t38 t39 ((k1.trans' k2).trans' hf3.kp) hf3.rd ((hf1.rd.keep k2).keep hf3.kp)
theorem awB_ok (hk : Kp [] wb w) (h1 : w.heap[x1]? = some (.cells (valV vA).toArray 24)) (h2 : w.heap[x2]? = some (.cells #[.slice none 0 0, .int .i64 0] 27)) (h3 : w.heap[x3]? = some (.cells c3 27)) (hc : c3.size = 2) (hx : IxM [] w (.agg c3) mA 8) (hR : ∀ w', Kp [] wb w' → R (.bool true) w') :
    awB R (.pointer (some ⟨x1, 0, none⟩)) (.pointer (some ⟨x2, 0, none⟩)) (.pointer (some ⟨x3, 0, none⟩)) w := by
  unfold awB
  have r1 : ∀ w', Kp [] w w' → ∀ K : Value → Prop, ldn 3 (.pointer (some ⟨x1, 0, none⟩)) w' K = K (valA vA) := fun w' hk' K => ldA (hk'.get h1 (by simp)) rfl
  have r2 : ∀ w', Kp [] w w' → ∀ K : Value → Prop, ldn 2 (.pointer (some ⟨x2, 0, none⟩)) w' K = K (.agg #[.slice none 0 0, .int .i64 0]) := fun w' hk' K => ldA (hk'.get h2 (by simp)) rfl
  have r3 : ∀ w', Kp [] w w' → ∀ K : Value → Prop, ldn 2 (.pointer (some ⟨x3, 0, none⟩)) w' K = K (.agg c3) := fun w' hk' K => ldA (hk'.get h3 (by simp)) hc
  have hn : sortI (numsOf mA vA) = [1, 3] := by decide
  have kd : Kp [] w w.drew := kp_drew
  have rest : ∀ w' t15 t16, Kp [] w w' → Rd w' t15 1 ([1, 3].map intV) → Rd w' t16 1 ([1, 3].map intV) → callG Try.prog 12 #[t15, t16] w' fun t17 w =>
      bV t17
      (ldn 2 (.pointer (some ⟨x3, 0, none⟩)) w fun t19 =>
      callG Try.prog 10 #[t19] w fun t20 w =>
      qG Try.prog (bq .eql 3 (.tmp 20) (.const (.int .i64 2)) t20 (.int .i64 2)) w fun t21 =>
      bV t21
      (ldn 2 (.pointer (some ⟨x2, 0, none⟩)) w fun t24 =>
      callG Try.prog 10 #[t24] w fun t25 w =>
      qG Try.prog (bq .eql 3 (.tmp 25) (.const (.int .i64 0)) t25 (.int .i64 0)) w fun t26 =>
      bV t26
      (ldn 2 (.pointer (some ⟨x3, 0, none⟩)) w fun t29 =>
      callG Try.prog 11 #[t29] w fun t30 w =>
      qG Try.prog (bq .eql 3 (.tmp 30) (.const (.int .i64 8)) t30 (.int .i64 8)) w fun t31 =>
      bV t31
      (awC R (.pointer (some ⟨x1, 0, none⟩)) (.pointer (some ⟨x3, 0, none⟩)) w)
      (((R (.bool false) w) ∧ (R (.bool false) w)) ∧ (R (.bool false) w)))
      (((R (.bool false) w) ∧ (R (.bool false) w)) ∧ (R (.bool false) w)))
      (((R (.bool false) w) ∧ (R (.bool false) w)) ∧ (R (.bool false) w)))
      (((R (.bool false) w) ∧ (R (.bool false) w)) ∧ (R (.bool false) w)) := by
    intro w' t15 t16 hk' ha hb
    refine Same_spec ha hb (by simp) fun w1 k1 => ?_
    have g1 := hk'.trans' k1
    rw [decide_eq_true rfl]
    simp only [bV_b]
    refine ⟨fun _ => ?_, fun h => (by cases h)⟩
    rw [r3 _ g1]
    refine Len_spec (hx.keep g1) fun w2 k2 => ?_
    have g2 := g1.trans' k2
    simp only [bq_eql, bV_b]
    refine ⟨fun _ => ?_, fun h => (by simp [mA] at h)⟩
    rw [r2 _ g2]
    refine Len_spec (X := []) ixm0 fun w3 k3 => ?_
    have g3 := g2.trans' k3
    simp only [bq_eql, bV_b]
    refine ⟨fun _ => ?_, fun h => (by simp at h)⟩
    rw [r3 _ g3]
    refine Buckets_spec (hx.keep g3) fun w4 k4 => ?_
    have g4 := g3.trans' k4
    simp only [bq_eql, bV_b]
    refine ⟨fun _ => ?_, fun h => (by simp at h)⟩
    exact awC_ok (hk.trans' g4) (g4.get h1 (by simp)) (g4.get h3 (by simp)) hc (hx.keep g4) hR
  rw [r3 _ kd, r1 _ kd]
  refine ⟨?_, ?_⟩
  · refine Find_spec (hx.keep kd) (by decide) vA vA_wf fun t15 w1 hf1 => ?_
    rw [hn] at hf1
    refine aw13 fun t16 w2 hf2 => ?_
    have k2 := (kd.trans' hf1.kp).trans' hf2.kp
    rw [r1 _ k2, r3 _ k2]
    refine ⟨rfl, rfl, ?_⟩
    exact rest w2 t15 t16 k2 (hf1.rd.keep hf2.kp) hf2.rd
  · refine aw13 fun t16 w1 hf1 => ?_
    have k1 := kd.trans' hf1.kp
    rw [r1 _ k1, r3 _ k1]
    refine ⟨rfl, rfl, ?_⟩
    refine Find_spec (hx.keep k1) (by decide) vA vA_wf fun t15 w2 hf2 => ?_
    rw [hn] at hf2
    exact rest w2 t15 t16 (k1.trans' hf2.kp) hf2.rd (hf1.rd.keep hf2.kp)
end
theorem awake10 {w : World} {R : Value → World → Prop} (hR : ∀ w', Kp [] w w' → R (.bool true) w') : callG Try.prog 7 #[] w R := by
  refine law10_awake_call ?_
  unfold law10_awake law10_awake_s0
  rw [bld_valA]
  refine newB fun x1 w1 hx1 hh1 hk1 => ?_
  unfold valA
  rw [stA (k := 3) hh1 (by rw [zcV]; rfl) rfl (by simp [valV, vA]), bld_ix0]
  obtain ⟨w2, hw2⟩ : ∃ w2, w2 = setBlk w1 x1 (.cells (valV vA).toArray 24) := ⟨_, rfl⟩
  have h12 : w2.heap[x1]? = some (.cells (valV vA).toArray 24) := by rw [hw2]; exact heap_self (live_of hh1)
  have hk02 : Kp [] w w2 := by rw [hw2]; exact hk1.setBlk (.inr hx1) _
  rw [← hw2]
  refine newB fun x2 w3 hx2 hh2 hk3 => ?_
  rw [stA (k := 2) hh2 (by rw [zcIx]; rfl) rfl (by simp)]
  obtain ⟨w4, hw4⟩ : ∃ w4, w4 = setBlk w3 x2 (.cells #[.slice none 0 0, .int .i64 0] 27) := ⟨_, rfl⟩
  have h24 : w4.heap[x2]? = some (.cells #[.slice none 0 0, .int .i64 0] 27) := by rw [hw4]; exact heap_self (live_of hh2)
  have hk24 : Kp [] w2 w4 := by rw [hw4]; exact hk3.setBlk (.inr hx2) _
  have h14 := hk24.get h12 (by simp)
  have hk04 := hk02.trans' hk24
  rw [← hw4]
  have kd : Kp [] w4 w4.drew := kp_drew
  have l1 := lt_of_blk h14
  have l2 := lt_of_blk h24
  have s04 := hk04.size
  have r1 : ∀ w', Kp [] w4 w' → ∀ K : Value → Prop, ldn 3 (.pointer (some ⟨x1, 0, none⟩)) w' K = K (valA vA) := fun w' hk' K => ldA (hk'.get h14 (by simp)) rfl
  have r2 : ∀ w', Kp [] w4 w' → ∀ K : Value → Prop, ldn 2 (.pointer (some ⟨x2, 0, none⟩)) w' K = K (.agg #[.slice none 0 0, .int .i64 0]) := fun w' hk' K => ldA (hk'.get h24 (by simp)) rfl
  rw [r2 _ kd, r1 _ kd, r1 _ kd, r1 _ kd]
  have e1 : putM [] ⟨vA, 3⟩ = [⟨vA, 3⟩] ∧ putB 0 [] ⟨vA, 3⟩ = 8 := by decide
  have e2 : putM [⟨vA, 3⟩] ⟨vA, 1⟩ = mA ∧ putB 8 [⟨vA, 3⟩] ⟨vA, 1⟩ = 8 := by decide
  have e3 : putM mA ⟨vA, 3⟩ = mA ∧ putB 8 mA ⟨vA, 3⟩ = 8 := by decide
  have W1 : ∀ {w' : World} {X : List Nat} {K : Value → World → Prop}, (∀ x ∈ X, x < w'.heap.size) → (∀ v w'', Kp [] w' w'' → IxM X w'' v [⟨vA, 3⟩] 8 → K v w'') → callG Try.prog 15 #[.agg #[.slice none 0 0, .int .i64 0], valA vA, .int .i64 3] w' K := by
    intro w' X K hX hK
    refine With_spec (ixm0 (X := X)) hX (by decide) (by decide) (by simp) vA vA_wf 3 fun v w'' k h => hK v w'' k ?_
    rw [e1.1, e1.2] at h; exact h
  have W2 : ∀ {w' : World} {v : Value} {X : List Nat} {K : Value → World → Prop}, IxM X w' v [⟨vA, 3⟩] 8 → (∀ x ∈ X, x < w'.heap.size) → (∀ v w'', Kp [] w' w'' → IxM X w'' v mA 8 → K v w'') → callG Try.prog 15 #[v, valA vA, .int .i64 1] w' K := by
    intro w' v X K hx hX hK
    refine With_spec hx hX (by decide) (by decide) (wf_all (.inr (.inl rfl))) vA vA_wf 1 fun v w'' k h => hK v w'' k ?_
    rw [e2.1, e2.2] at h; exact h
  have W3 : ∀ {w' : World} {v : Value} {X : List Nat} {K : Value → World → Prop}, IxM X w' v mA 8 → (∀ x ∈ X, x < w'.heap.size) → (∀ v w'', Kp [] w' w'' → IxM X w'' v mA 8 → K v w'') → callG Try.prog 15 #[v, valA vA, .int .i64 3] w' K := by
    intro w' v X K hx hX hK
    refine With_spec hx hX (by decide) (by decide) (wf_all (.inr (.inr rfl))) vA vA_wf 3 fun v w'' k h => hK v w'' k ?_
    rw [e3.1, e3.2] at h; exact h
  have fin : ∀ w' x3 t, Kp [] w4 w' → w4.heap.size ≤ x3 → w'.heap[x3]? = some (.cells (zc Try.prog 27) 27) → IxM [x3] w' t mA 8 → stn 2 (.pointer (some ⟨x3, 0, none⟩)) t w' fun w => awB R (.pointer (some ⟨x1, 0, none⟩)) (.pointer (some ⟨x2, 0, none⟩)) (.pointer (some ⟨x3, 0, none⟩)) w := by
    intro w' x3 t hk' hx3 hh3 hx
    have hx0 := hx
    obtain ⟨o, bs, rfl, hix, _, _⟩ := hx0
    rw [stA (k := 2) hh3 (by rw [zcIx]; rfl) rfl (by simp [hix.ix.one])]
    have hkx : Kp [x3] w' (setBlk w' x3 (.cells #[o, .int .i64 mA.length] 27)) := (Kp.refl _ _).setBlk (.inl (by simp)) _
    refine awB_ok ((hk04.trans' hk').trans hkx fun b hb hlt => by simp at hb; omega) (hkx.get (hk'.get h14 (by simp)) (by simp; omega)) (hkx.get (hk'.get h24 (by simp)) (by simp; omega)) (heap_self (live_of hh3)) rfl ((hx.keepS hkx (by simp)).more (by simp)) hR
  have sd : w4.drew.heap.size = w4.heap.size := rfl
  refine ⟨?_, ?_⟩
  · refine W1 (X := []) (by simp) fun t8 w5 k5 hx5 => ?_
    have g5 := kd.trans' k5
    rw [r1 _ g5]
    refine ⟨rfl, rfl, ?_, ?_⟩
    · refine W2 hx5 (by simp) fun t10 w6 k6 hx6 => ?_
      have g6 := g5.trans' k6
      rw [r1 _ g6]
      refine ⟨rfl, ?_, ?_⟩
      · refine W3 hx6 (by simp) fun t12 w7 k7 hx7 => ?_
        have g7 := g6.trans' k7
        refine newB fun x3 w8 hx3 hh3 k8 => ?_
        have g8 := g7.trans' k8
        rw [r1 _ g8, r2 _ g8]
        refine ⟨rfl, rfl, rfl, rfl, ?_⟩
        have s7 := g7.size
        exact fin w8 x3 t12 g8 (by omega) hh3 ((hx7.more (by simpa using hx3)).keep k8)
      · refine newB fun x3 w7 hx3 hh3 k7 => ?_
        have g7 := g6.trans' k7
        rw [r1 _ g7, r2 _ g7]
        refine ⟨rfl, rfl, rfl, rfl, ?_⟩
        have s6 := g6.size
        have l3 := lt_of_blk hh3
        refine W3 ((hx6.more (Y := [x3]) (by simpa using hx3)).keep k7) (by simpa using l3) fun t12 w8 k8 hx8 => ?_
        exact fin w8 x3 t12 (g7.trans' k8) (by omega) (k8.get hh3 (by simp)) hx8
    · refine newB fun x3 w6 hx3 hh3 k6 => ?_
      have g6 := g5.trans' k6
      rw [r1 _ g6, r2 _ g6]
      refine ⟨rfl, rfl, rfl, rfl, ?_⟩
      have s5 := g5.size
      have l3 := lt_of_blk hh3
      refine W2 ((hx5.more (Y := [x3]) (by simpa using hx3)).keep k6) (by simpa using l3) fun t10 w7 k7 hx7 => ?_
      have g7 := g6.trans' k7
      rw [r1 _ g7]
      refine ⟨rfl, ?_⟩
      have s7 := k7.size
      refine W3 hx7 (by simp; omega) fun t12 w8 k8 hx8 => ?_
      exact fin w8 x3 t12 (g7.trans' k8) (by omega) (k8.get (k7.get hh3 (by simp)) (by simp)) hx8
  · refine newB fun x3 w5 hx3 hh3 k5 => ?_
    have g5 := kd.trans' k5
    rw [r1 _ g5, r2 _ g5]
    refine ⟨rfl, rfl, rfl, rfl, ?_⟩
    have l3 := lt_of_blk hh3
    refine W1 (X := [x3]) (by simpa using l3) fun t8 w6 k6 hx6 => ?_
    have g6 := g5.trans' k6
    have s6 := k6.size
    rw [r1 _ g6]
    refine ⟨rfl, rfl, ?_⟩
    refine W2 hx6 (by simp; omega) fun t10 w7 k7 hx7 => ?_
    have g7 := g6.trans' k7
    have s7 := k7.size
    rw [r1 _ g7]
    refine ⟨rfl, ?_⟩
    refine W3 hx7 (by simp; omega) fun t12 w8 k8 hx8 => ?_
    exact fin w8 x3 t12 (g7.trans' k8) (by omega) (k8.get (k7.get (k6.get hh3 (by simp)) (by simp)) (by simp)) hx8
end Go.Proofs

/- Layer 10: what is put twice is there once. -/
set_option maxRecDepth 100000
set_option linter.unusedVariables false
set_option linter.unusedSimpArgs false
namespace Go.Proofs
open Go Go.Q
section
variable {wb w : World} {x2 x5 x6 : Nat} {v5 v6 : Array Value} {R : Value → World → Prop} {v : V3} {n : Int} {B5 B6 : Nat}
end
end Go.Proofs

/- Layer 10: many numbers are all found. -/
set_option maxRecDepth 100000
set_option linter.unusedVariables false
set_option linter.unusedSimpArgs false
namespace Go.Proofs
open Go Go.Q
def andI (x : Int) (c : Nat) : Nat := (BitVec.ofInt 64 x &&& BitVec.ofInt 64 (c : Int)).toNat
theorem andI_le (x : Int) {c : Nat} (hc : c < 2 ^ 63) : andI x c ≤ c := by
  unfold andI
  rw [BitVec.toNat_and]
  have : (BitVec.ofInt 64 (c : Int)).toNat = c := by rw [ofInt_nat, Nat.mod_eq_of_lt (by omega)]
  rw [this]
  exact Nat.and_le_right
theorem andI_of {xo yo : Operand} {w : World} {T : TypeId} {x : Int} {c : Nat} (hc : c < 2 ^ 63) {K : Value → Prop} : qG Try.prog (bq .and T xo yo (.int .i64 x) (.int .i64 c)) w K = K (.int .i64 (andI x c)) := by
  have h : (bq .and T xo yo (.int .i64 x) (.int .i64 c)).run Try.prog w = .ok (.int .i64 (IntKind.i64.wrap ((BitVec.ofInt 64 x &&& BitVec.ofInt 64 (c : Int)).toNat : Int))) w := run_bq_int (s := .pure _) fun w => by
    simp only [binOp, ne_eq, not_true_eq_false, if_false, Op.intBits]
    rfl
  have := andI_le x hc
  rw [qG_of h, wrap_nat64 (by unfold andI at this; omega)]
  rfl
structure GSt6 (wb : World) (x6 : Nat) (X : List Nat) (m : List E) (B : Nat) (w : World) : Prop where
  kp : Kp [] wb w
  ex : ∃ c, c.size = 2 ∧ w.heap[x6]? = some (.cells c 27) ∧ IxM (x6 :: X) w (.agg c) m B
theorem GSt6.keep {wb w w' : World} {x6 B : Nat} {X : List Nat} {m : List E} (h : GSt6 wb x6 X m B w) (hk : Kp [] w w') : GSt6 wb x6 X m B w' := by
  obtain ⟨h1, c, h2, h3, h4⟩ := h
  exact ⟨h1.trans' hk, c, h2, hk.get h3 (by simp), h4.keep hk⟩
theorem GSt6.keepS {S : List Nat} {wb w w' : World} {x6 B : Nat} {X : List Nat} {m : List E} (h : GSt6 wb x6 X m B w) (hk : Kp S w w') (hS : ∀ x ∈ S, x ∈ X ∧ x ≠ x6 ∧ wb.heap.size ≤ x) : GSt6 wb x6 X m B w' := by
  obtain ⟨h1, c, h2, h3, h4⟩ := h
  exact ⟨h1.trans hk fun b hb hlt => by have := (hS b hb).2.2; omega, c, h2, hk.get h3 fun hm => (hS x6 hm).2.1 rfl, h4.keepS hk fun x hx => by simp [(hS x hx).1]⟩
theorem GSt6.lt {wb w : World} {x6 B : Nat} {X : List Nat} {m : List E} (h : GSt6 wb x6 X m B w) : x6 < w.heap.size := by
  obtain ⟨h1, c, h2, h3, h4⟩ := h
  exact lt_of_blk h3
theorem GSt6.st {wb w : World} {x6 B B' : Nat} {X : List Nat} {m m' : List E} {val : Value} (h : GSt6 wb x6 X m B w) (hx : IxM (x6 :: X) w val m' B') (h6 : wb.heap.size ≤ x6) {K : World → Prop} (hK : ∀ w', Kp [x6] w w' → GSt6 wb x6 X m' B' w' → K w') : stn 2 (.pointer (some ⟨x6, 0, none⟩)) val w K := by
  obtain ⟨h1, c, h2, h3, h4⟩ := h
  have hx0 := hx
  obtain ⟨o, b, rfl, hix, _, _⟩ := hx0
  rw [stA (k := 2) h3 h2 rfl (by simp [hix.ix.one])]
  have hkx : Kp [x6] w (setBlk w x6 (.cells #[o, .int .i64 m'.length] 27)) := (Kp.refl _ _).setBlk (.inl (by simp)) _
  exact hK _ hkx ⟨h1.setBlk (.inr h6) _, _, rfl, heap_self (live_of h3), hx.keepS hkx (by simp)⟩
section
variable {wb w : World} {x6 x10 : Nat} {R : Value → World → Prop} {fr : Int} {n : Nat}
end
end Go.Proofs

/- Layer 10: an index has what was put and not taken. -/
set_option maxRecDepth 100000
set_option linter.unusedVariables false
set_option linter.unusedSimpArgs false
namespace Go.Proofs
open Go Go.Q
theorem doesM_len (m : List E) (a : A10) : (doesM m a).length ≤ m.length + 1 := by
  unfold doesM dropM putM
  split
  · have := List.length_filter_le (fun x => decide (x ≠ aE a)) m; omega
  · split
    · simp
    · omega
theorem doesM_rg {m : List E} (h : ∀ e ∈ m, e.v.Rg) {a : A10} (ha : a.v.Rg) : ∀ e ∈ doesM m a, e.v.Rg := by
  intro e he
  unfold doesM dropM putM at he
  split at he
  · exact h e (List.mem_filter.1 he).1
  · split at he
    · rcases List.mem_append.1 he with he | he
      · exact h e he
      · simp at he; rw [he]; exact ha
    · exact h e he
section
variable {wb w : World} {x3 x5 : Nat} {x0 x6 : Value} {R : Value → World → Prop} {N : List Value → World → Prop} {v : V3} {m : List E} {B most i : Nat} {l : List A10}
end
end Go.Proofs

/- Layer 10: elder indexes stay. -/
set_option maxRecDepth 100000
set_option linter.unusedVariables false
set_option linter.unusedSimpArgs false
namespace Go.Proofs
open Go Go.Q
structure Ent where
  row : List Value
  mv : Value
  m : List E
  B : Nat
structure EntX (X : List Nat) (w : World) (e : Ent) : Prop where
  ix : IxM X w (.agg e.row.toArray) e.m e.B
  len : e.row.length = 2
  one : e.row.all Q.one = true
  mv : ∃ S, ArgAt w e.mv 4 (e.m.map eC) S ∧ ∀ x ∈ S, x ∉ X
  mone : Q.one e.mv = true
  rg : ∀ x ∈ e.m, x.v.Rg
structure EntB (i : Nat) (e : Ent) : Prop where
  m : e.m.length ≤ i
  B : e.B ≤ 8 + i
theorem EntX.keepS {X S : List Nat} {w w' : World} {e : Ent} (h : EntX X w e) (hk : Kp S w w') (hS : ∀ x ∈ S, x ∈ X) : EntX X w' e := by
  obtain ⟨h1, h2, h3, ⟨T, h4, h5⟩, h6, h7⟩ := h
  exact ⟨h1.keepS hk hS, h2, h3, ⟨T, h4.keep hk fun x hx hm => h5 x hx (hS x hm), h5⟩, h6, h7⟩
theorem EntX.keep {X : List Nat} {w w' : World} {e : Ent} (h : EntX X w e) (hk : Kp [] w w') : EntX X w' e := h.keepS hk (by simp)
theorem EntX.more {X Y : List Nat} {w : World} {e : Ent} (h : EntX X w e) (hY : ∀ y ∈ Y, y ∈ X ∨ w.heap.size ≤ y) : EntX Y w e := by
  obtain ⟨h1, h2, h3, ⟨T, h4, h5⟩, h6, h7⟩ := h
  obtain ⟨T', g1, g2⟩ := argLt h4
  refine ⟨h1.more hY, h2, h3, ⟨T', g1, fun x hx hm => ?_⟩, h6, h7⟩
  rcases hY x hm with hm | hm
  · exact h5 x (g2 x hx).1 hm
  · have := (g2 x hx).2; omega
theorem EntX.step {X Y S : List Nat} {w w' : World} {e : Ent} (h : EntX X w e) (hk : Kp S w w') (hS : ∀ x ∈ S, x ∈ X) (hY : ∀ y ∈ Y, y ∈ X ∨ w.heap.size ≤ y) : EntX Y w' e := by
  have h1 : EntX (X ++ Y) w e := h.more fun y hy => by
    rcases List.mem_append.1 hy with hy | hy
    · exact .inl hy
    · exact hY y hy
  exact (h1.keepS hk fun x hx => List.mem_append_left _ (hS x hx)).more fun y hy => .inl (List.mem_append_right _ hy)
structure SSt (wb w : World) (x5 x6 : Value) (L : List Ent) (S5 S6 : List Nat) : Prop where
  kp : Kp [] wb w
  r5 : RowsAt w x5 2 (L.map (·.row)) S5
  r6 : RowsAt w x6 1 (L.map fun e => [e.mv]) S6
  d : ∀ x ∈ S5, x ∉ S6
  b5 : ∀ x ∈ S5, wb.heap.size ≤ x
  b6 : ∀ x ∈ S6, wb.heap.size ≤ x
  ent : ∀ e ∈ L, EntX (S5 ++ S6) w e
  pos : 0 < L.length
theorem SSt.keep {wb w w' : World} {x5 x6 : Value} {L : List Ent} {S5 S6 : List Nat} (h : SSt wb w x5 x6 L S5 S6) (hk : Kp [] w w') : SSt wb w' x5 x6 L S5 S6 :=
  ⟨h.kp.trans' hk, h.r5.keep hk (by simp), h.r6.keep hk (by simp), h.d, h.b5, h.b6, fun e he => (h.ent e he).keep hk, h.pos⟩
theorem SSt.lt {wb w : World} {x5 x6 : Value} {L : List Ent} {S5 S6 : List Nat} (h : SSt wb w x5 x6 L S5 S6) : ∀ x ∈ S5 ++ S6, x < w.heap.size := by
  intro x hx
  rcases List.mem_append.1 hx with hx | hx
  · exact h.r5.lt x hx
  · exact h.r6.lt x hx
section
variable {wb w : World} {x0 x1 x5 x6 : Value} {L : List Ent} {S5 S6 : List Nat} {R : Value → World → Prop} {N N2 : List Value → World → Prop} {l : List A10} {zs : List Int}
theorem SSt.row (h : SSt wb w x5 x6 L S5 S6) {k : Nat} (hk : k < L.length) : ∃ p q, (∀ K, ia 2 x5 (.int .i64 k) K = K p) ∧ (∀ w', Kp [] w w' → ∀ K : Value → Prop, ldn 2 p w' K = K (.agg L[k].row.toArray)) ∧ (∀ K, ia 1 x6 (.int .i64 k) K = K q) ∧ (∀ w', Kp [] w w' → ∀ K : Value → Prop, ld1 q w' K = K L[k].mv) := by
  have hr5 : Rd w x5 2 (L.map (·.row)) := ⟨S5, .inr h.r5.rd⟩
  have hr6 : Rd w x6 1 (L.map fun e => [e.mv]) := ⟨S6, .inr h.r6.rd⟩
  obtain ⟨bl, o, q1, q2⟩ := hr5.rowK (i := k) (by simpa using hk)
  obtain ⟨q, q3, q4⟩ := hr6.oneK (i := k) (by simpa using hk) (x := L[k].mv) (by simp)
  have hrow : (L.map (·.row))[k]'(by simpa using hk) = L[k].row := by simp
  rw [hrow] at q2
  exact ⟨_, q, fun K => q1 .i64 K, fun w' hk' K => (q2 w' hk').1 K, fun K => q3 .i64 K, q4⟩
theorem stays_s9 (h : SSt wb w x5 x6 L S5 S6) {i k : Nat} (hb : ∀ e ∈ L, EntB i e) (hi50 : i < 50) (hk : k < L.length) (hL : L.length ≤ 60) (hx0 : Rd wb x0 5 (l.map aC)) (hi : i < l.length) (ha : l[i].v.Rg)
    (hN : ∀ x5' x6' w' e S5' S6', SSt wb w' x5' x6' (L ++ [e]) S5' S6' → EntB (i + 1) e → N [x0, x1, x5', x6', .int .i64 ((i + 1 : Nat) : Int)] w') :
    law10_HashStays_s9 R N x0 x1 x5 x6 (.int .i64 (i : Nat)) (.int .i64 (k : Nat)) w := by
  have hiw : IntKind.i64.wrap ((i : Int) + 1) = ((i + 1 : Nat) : Int) := by rw [w64 (by omega) (by omega)]; simp
  obtain ⟨p, q, p1, p2, q1, q2⟩ := h.row hk
  obtain ⟨bl, o, a1, a2⟩ := hx0.rowK (i := i) (by simpa using hi)
  have hrow : (l.map aC)[i]'(by simpa using hi) = aC l[i] := by simp
  rw [hrow] at a2
  have kd : Kp [] w w.drew := kp_drew
  have hent := h.ent _ (List.getElem_mem hk)
  have hbe := hb _ (List.getElem_mem hk)
  have hbm := hbe.m
  have hbB := hbe.B
  have hlt := h.lt
  unfold law10_HashStays_s9
  rw [p1, p2 _ kd, a1, (a2 _ (h.kp.trans' kd)).1]
  refine done_spec (hent.ix.keep kd) (fun x hx => hlt x hx) (by omega) (by omega) hent.rg l[i] ha fun val w1 k1 hx' => ?_
  have g1 := kd.trans' k1
  have hx'0 := hx'
  obtain ⟨o', bs', rfl, hix', hh', hl'⟩ := hx'0
  have ho' := hix'.ix.one
  refine bsl_rowN (n := 2) (cs := [o', .int .i64 (doesM L[k].m l[i]).length]) (by omega) rfl rfl fun t58 w2 hf2 => ?_
  have g2 := g1.trans' hf2.kp
  have h2 := h.keep g2
  have hx2 := hx'.keep hf2.kp
  rw [show zc Try.prog 27 = [Value.slice none 0 0, .int .i64 0].toArray by kernel_rfl]
  refine rows_app (G := [[o', .int .i64 (doesM L[k].m l[i]).length]]) h2.r5 (by omega) rfl (by simp) (by simp [ho']) (fun K' hK' => hf2.rd.src K' hK') (by simp; omega) (by simp; omega) fun t59 w3 S5' hr5 hk3 hS5 => ?_
  have hX5 : ∀ x ∈ S5, x ∈ S5 ++ S6 := fun x hx => List.mem_append_left _ hx
  have hY5 : ∀ y ∈ S5' ++ S6, y ∈ S5 ++ S6 ∨ w2.heap.size ≤ y := fun y hy => by
    rcases List.mem_append.1 hy with hy | hy
    · rcases hS5 y hy with hy | hy
      · exact .inl (List.mem_append_left _ hy)
      · exact .inr hy
    · exact .inl (List.mem_append_right _ hy)
  have hs2 := h2.kp.size
  have hkb3 : Kp [] wb w3 := h2.kp.trans hk3 fun b hb hlt => by have := h.b5 b hb; omega
  have hr63 := h2.r6.keep hk3 fun x hx hm => h.d x hm hx
  have hd5 : ∀ x ∈ S5', x ∉ S6 := fun x hx hm => by
    rcases hS5 x hx with hx | hx
    · exact h.d x hx hm
    · have := h2.r6.lt x hm; omega
  have hb5' : ∀ x ∈ S5', wb.heap.size ≤ x := fun x hx => by
    rcases hS5 x hx with hx | hx
    · exact h.b5 x hx
    · omega
  have hent3 : ∀ e ∈ L, EntX (S5' ++ S6) w3 e := fun e he => (h2.ent e he).step hk3 hX5 hY5
  have hx3 : IxM (S5' ++ S6) w3 (.agg #[o', .int .i64 (doesM L[k].m l[i]).length]) (doesM L[k].m l[i]) (doesB L[k].B L[k].m l[i]) := by
    have e1 : IxM ((S5 ++ S6) ++ (S5' ++ S6)) w2 (.agg #[o', .int .i64 (doesM L[k].m l[i]).length]) (doesM L[k].m l[i]) (doesB L[k].B L[k].m l[i]) := hx2.more fun y hy => by
      rcases List.mem_append.1 hy with hy | hy
      · exact .inl hy
      · exact hY5 y hy
    exact (e1.keepS hk3 fun x hx => List.mem_append_left _ (hX5 x hx)).more fun y hy => .inl (List.mem_append_right _ hy)
  have hr63rd : Rd w3 x6 1 (L.map fun e => [e.mv]) := ⟨S6, .inr hr63.rd⟩
  obtain ⟨q', q3, q4⟩ := hr63rd.oneK (i := k) (by simpa using hk) (x := L[k].mv) (by simp)
  have kd3 : Kp [] w3 w3.drew := kp_drew
  rw [q3, q4 _ kd3, a1, (a2 _ (hkb3.trans' kd3)).1]
  obtain ⟨Sm, hm1, _⟩ := (hent3 _ (List.getElem_mem hk)).mv
  refine does_spec (Rd.keep ⟨Sm, hm1⟩ kd3) (by omega) l[i] fun t69 w4 hf4 => ?_
  refine bsl_rowN (n := 1) (cs := [t69]) (by omega) (by
    obtain ⟨a, c, hv⟩ := hf4.rd.slice
    rw [hv]; rfl) rfl fun t70 w5 hf5 => ?_
  have g5 : Kp [] w3 w5 := (kd3.trans' hf4.kp).trans' hf5.kp
  have hr65 := hr63.keep g5 (by simp)
  rw [show zc Try.prog 28 = [Value.slice none 0 0].toArray by kernel_rfl]
  refine rows_app (G := [[t69]]) hr65 (by omega) rfl (by simp) (by simp [hf4.one]) (fun K' hK' => hf5.rd.src K' hK') (by simp; omega) (by simp; omega) fun t71 w6 S6' hr6 hk6 hS6 => ?_
  have hs5 := g5.size
  have hr55 := (hr5.keep g5 (by simp)).keep hk6 hd5
  have hX6 : ∀ x ∈ S6, x ∈ S5' ++ S6 := fun x hx => List.mem_append_right _ hx
  have hY6 : ∀ y ∈ S5' ++ S6', y ∈ S5' ++ S6 ∨ w5.heap.size ≤ y := fun y hy => by
    rcases List.mem_append.1 hy with hy | hy
    · exact .inl (List.mem_append_left _ hy)
    · rcases hS6 y hy with hy | hy
      · exact .inl (List.mem_append_right _ hy)
      · exact .inr hy
  have hkb5 := hkb3.trans' g5
  have hsb := hkb5.size
  have hlt5 := hr5.lt
  unfold law10_HashStays_s8
  simp only [bq_add, hiw]
  refine hN t59 t71 w6 ⟨[o', .int .i64 (doesM L[k].m l[i]).length], t69, doesM L[k].m l[i], doesB L[k].B L[k].m l[i]⟩ S5' S6' ⟨hkb5.trans hk6 fun b hb hlt => by have := h.b6 b hb; omega, by rw [List.map_append]; exact hr55, by rw [List.map_append]; exact hr6, fun x hx hm => ?_, hb5', fun x hx => ?_, fun e he => ?_, by simp⟩ ⟨?_, ?_⟩
  · rcases hS6 x hm with hm | hm
    · exact hd5 x hx hm
    · have := hlt5 x hx; omega
  · rcases hS6 x hx with hx | hx
    · exact h.b6 x hx
    · omega
  · rcases List.mem_append.1 he with he | he
    · exact ((hent3 e he).keep g5).step hk6 hX6 hY6
    · simp at he
      subst he
      refine EntX.step (X := S5' ++ S6) ⟨hx3.keep g5, rfl, by simp [ho'], ?_, hf4.one, doesM_rg hent.rg ha⟩ hk6 hX6 hY6
      obtain ⟨Sn, hn1, hn2⟩ := hf4.ex
      refine ⟨Sn, .inr (hn1.keep hf5.kp (by simp)).rd, fun x hx hm => ?_⟩
      have := hn2 x hx
      have hw3 : w3.drew.heap.size = w3.heap.size := rfl
      rcases List.mem_append.1 hm with hm | hm
      · have := hlt5 x hm; omega
      · have := hr63.lt x hm; omega
  · have := doesM_len L[k].m l[i]
    show (doesM L[k].m l[i]).length ≤ i + 1
    omega
  · show doesB L[k].B L[k].m l[i] ≤ 8 + (i + 1)
    unfold doesB putB growB
    split
    · omega
    · split
      · split <;> omega
      · omega
/-- one index, held against its pairs -/
theorem stays_L3 (h : SSt wb w x5 x6 L S5 S6) {i : Nat} (hi : i < L.length) (hm : L[i].m.length < 2 ^ 20) (hN : ∀ w', Kp [] w w' → law10_HashStays_s1 R N x5 x6 (.int .i64 (i : Nat)) w') :
    law10_HashStays_L3 R N x5 x6 (.int .i64 (i : Nat)) (.int .i64 0) w := by
  obtain ⟨p, q, p1, p2, q1, q2⟩ := h.row hi
  have hent := h.ent _ (List.getElem_mem hi)
  obtain ⟨Sm, hm1, _⟩ := hent.mv
  have hmv : Rd w L[i].mv 4 (L[i].m.map eC) := ⟨Sm, hm1⟩
  unfold law10_HashStays_L3
  refine loop_inv (fun mm xs wi => ∃ k, k ≤ L[i].m.length ∧ mm = L[i].m.length - k ∧ xs = [x5, x6, .int .i64 (i : Nat), .int .i64 (k : Nat)] ∧ Kp [] w wi) ?_ (m := L[i].m.length) ⟨0, by omega, rfl, rfl, Kp.refl _ _⟩
  rintro mm N2 xs wi ⟨k, hk, rfl, rfl, hki⟩ hN2
  have hkw : IntKind.i64.wrap ((k : Int) + 1) = ((k + 1 : Nat) : Int) := by rw [w64 (by omega) (by omega)]; simp
  unfold law10_HashStays_L3F law10_HashStays_b2
  dsimp only
  rw [q1, q2 _ hki, (hmv.keep hki).lenL, List.length_map]
  simp only [bq_lss, bV_b, decide_eq_true_eq, decide_eq_false_iff_not]
  refine ⟨fun hlt => ?_, fun _ => hN wi hki⟩
  have hlt : k < L[i].m.length := by omega
  have kd : Kp [] w wi.drew := hki.drew
  obtain ⟨bl, o, r1, r2⟩ := hmv.rowK (i := k) (by simpa using hlt)
  have hrow : (L[i].m.map eC)[k]'(by simpa using hlt) = eC L[i].m[k] := by simp
  rw [hrow] at r2
  have rv : ∀ w', Kp [] w w' → ∀ K : Value → Prop, ldn 3 (.pointer (some ⟨bl, o + 0, none⟩)) w' K = K (valA L[i].m[k].v) := fun w' hk' K => (r2 w' hk').2.2 0 3 _ (by omega) (ent_val L[i].m[k]) K
  have hv : L[i].m[k].v.Rg := hent.rg _ (List.getElem_mem hlt)
  rw [p1, p2 _ kd, q1, q2 _ kd, r1, fa_p, rv _ kd, q1, q2 _ kd, q1, q2 _ kd, r1, fa_p, rv _ kd]
  refine Find_spec (hent.ix.keep kd) hm L[i].m[k].v hv fun out w1 hf1 => ?_
  have g1 := kd.trans' hf1.kp
  rw [rv _ g1, q2 _ g1]
  refine ⟨rfl, rfl, rfl, ?_⟩
  refine lfind_spec (hmv.keep g1) (by omega) L[i].m[k].v fun out2 w2 hf2 => ?_
  refine Same_spec (hf1.rd.keep hf2.kp) hf2.rd (by rw [sortI_len]; have := numsOf_len L[i].m L[i].m[k].v; omega) fun w3 k3 => ?_
  rw [decide_eq_true rfl]
  simp only [un_not, bV_b]
  refine ⟨fun h => (by simp at h), fun _ => ?_⟩
  simp only [bq_add, hkw]
  exact hN2 (L[i].m.length - (k + 1)) _ w3 (by omega) ⟨k + 1, by omega, rfl, rfl, (g1.trans' hf2.kp).trans' k3⟩
theorem stays_s7 (h : SSt wb w x5 x6 L S5 S6) (hm : ∀ e ∈ L, e.m.length < 2 ^ 20) (hL : L.length ≤ 60) (hR : ∀ w', Kp [] wb w' → R (.bool true) w') : law10_HashStays_s7 R x5 x6 w := by
  unfold law10_HashStays_s7 law10_HashStays_L6
  refine loop_inv (fun mm xs wi => ∃ i, i ≤ L.length ∧ mm = L.length - i ∧ xs = [x5, x6, .int .i64 (i : Nat)] ∧ Kp [] w wi) ?_ (m := L.length) ⟨0, by omega, rfl, rfl, Kp.refl _ _⟩
  rintro mm N xs wi ⟨i, hi, rfl, rfl, hki⟩ hN
  have hiw : IntKind.i64.wrap ((i : Int) + 1) = ((i + 1 : Nat) : Int) := by rw [w64 (by omega) (by omega)]; simp
  have hw := h.keep hki
  have aw : law10_HashStays_s0 R wi := by
    unfold law10_HashStays_s0
    exact awake10 fun w' hk' => hR w' (hw.kp.trans' hk')
  have hr5 : Rd wi x5 2 (L.map (·.row)) := ⟨S5, .inr hw.r5.rd⟩
  have hr6 : Rd wi x6 1 (L.map fun e => [e.mv]) := ⟨S6, .inr hw.r6.rd⟩
  unfold law10_HashStays_L6F law10_HashStays_s5
  dsimp only
  rw [hr5.lenL, List.length_map]
  simp only [bq_lss, bV_b, decide_eq_true_eq, decide_eq_false_iff_not]
  refine ⟨fun hlt => ?_, fun _ => aw⟩
  rw [hr6.lenL, List.length_map]
  simp only [bq_lss, bV_b, decide_eq_true_eq, decide_eq_false_iff_not]
  refine ⟨fun _ => ?_, fun _ => aw⟩
  have hlt : i < L.length := by omega
  obtain ⟨p, q, p1, p2, q1, q2⟩ := hw.row hlt
  have hent := hw.ent _ (List.getElem_mem hlt)
  obtain ⟨Sm, hm1, _⟩ := hent.mv
  have hmv : Rd wi L[i].mv 4 (L[i].m.map eC) := ⟨Sm, hm1⟩
  have kd : Kp [] wi wi.drew := kp_drew
  unfold law10_HashStays_s4
  rw [p1, p2 _ kd, q1, q2 _ kd, hmv.lenL, List.length_map]
  refine Len_spec (hent.ix.keep kd) fun w1 k1 => ?_
  have g1 := kd.trans' k1
  rw [q2 _ g1]
  refine ⟨rfl, ?_⟩
  simp only [bq_neq, bV_b]
  refine ⟨fun h => (by simp at h), fun _ => ?_⟩
  refine stays_L3 (hw.keep g1) hlt (hm _ (List.getElem_mem hlt)) fun w2 k2 => ?_
  unfold law10_HashStays_s1
  simp only [bq_add, hiw]
  exact hN (L.length - (i + 1)) _ w2 (by omega) ⟨i + 1, by omega, rfl, rfl, (hki.trans' g1).trans' k2⟩
end
theorem hashStays_spec {w : World} {x0 x1 : Value} {l : List A10} {zs : List Int} (hx0 : Rd w x0 5 (l.map aC)) (hl : ∀ a ∈ l, a.v.Rg) (hx1 : Rd w x1 1 (zs.map intV)) {R : Value → World → Prop} (hR : ∀ w', Kp [] w w' → R (.bool true) w') : callG Try.prog 4 #[x0, x1] w R := by
  refine law10_HashStays_call ?_
  unfold law10_HashStays law10_HashStays_s14
  rw [bld_ix0]
  refine bsl_rowN (n := 2) (cs := [.slice none 0 0, .int .i64 0]) (by omega) rfl rfl fun x5 w1 hf1 => ?_
  refine bsl_rowN (n := 1) (cs := [.slice none 0 0]) (by omega) rfl rfl fun x6 w2 hf2 => ?_
  obtain ⟨S5, h5, b5⟩ := hf1.ex
  obtain ⟨S6, h6, b6⟩ := hf2.ex
  have hs1 := hf1.kp.size
  have hs2 := hf2.kp.size
  unfold law10_HashStays_s13 law10_HashStays_L12
  have hst : SSt w w2 x5 x6 [⟨[.slice none 0 0, .int .i64 0], .slice none 0 0, [], 0⟩] S5 S6 := ⟨hf1.kp.trans' hf2.kp, h5.keep hf2.kp (by simp), h6, fun x hx hm => by have := h5.lt x hx; have := b6 x hm; omega, b5, fun x hx => by have := b6 x hx; omega, fun e he => by
    simp at he
    subst he
    exact ⟨ixm0, rfl, rfl, ⟨[], .inl ⟨none, 0, rfl, rfl⟩, by simp⟩, rfl, by simp⟩, by simp⟩
  refine loop_inv (fun mm xs wi => ∃ i x5 x6 L S5 S6, mm = l.length - i ∧ i ≤ l.length ∧ i ≤ 50 ∧ xs = [x0, x1, x5, x6, .int .i64 (i : Nat)] ∧ SSt w wi x5 x6 L S5 S6 ∧ L.length = i + 1 ∧ ∀ e ∈ L, EntB i e) ?_ (m := l.length) ⟨0, x5, x6, _, S5, S6, rfl, by omega, by omega, rfl, hst, rfl, fun e he => by
    simp at he
    subst he
    exact ⟨by simp, by simp⟩⟩
  rintro mm N xs wi ⟨i, x5, x6, L, S5, S6, rfl, hi, hi50, rfl, hs, hL, hb⟩ hN
  have hx0i := hx0.keep hs.kp
  have hx1i := hx1.keep hs.kp
  have hr5 : Rd wi x5 2 (L.map (·.row)) := ⟨S5, .inr hs.r5.rd⟩
  have send : law10_HashStays_s7 R x5 x6 wi := stays_s7 hs (fun e he => by have := (hb e he).m; omega) (by omega) hR
  unfold law10_HashStays_L12F law10_HashStays_s11
  dsimp only
  rw [hx0i.lenL, List.length_map]
  simp only [bq_lss, bV_b, decide_eq_true_eq, decide_eq_false_iff_not]
  refine ⟨fun hlt => ⟨fun hlt2 => ?_, fun _ => send⟩, fun _ => send⟩
  have hlt : i < l.length := by omega
  have hlt2 : i < 50 := by omega
  have ha : l[i].v.Rg := hl _ (List.getElem_mem hlt)
  obtain ⟨bl, o, q1, q2⟩ := hx0.rowK (i := i) (by simpa using hlt)
  have hrow : (l.map aC)[i]'(by simpa using hlt) = aC l[i] := by simp
  rw [hrow] at q2
  have rs : ∀ K : Value → Prop, ld1 (.pointer (some ⟨bl, o + 2 + 2, none⟩)) wi K = K (.string (str l[i].v.s)) := fun K => (q2 wi hs.kp).2.1 4 (.string (str l[i].v.s)) (by omega) rfl K
  have s9 : ∀ k : Nat, k < L.length → law10_HashStays_s9 R N x0 x1 x5 x6 (.int .i64 (i : Nat)) (.int .i64 (k : Nat)) wi := by
    intro k hk
    refine stays_s9 hs hb hlt2 hk (by omega) hx0 hlt ha fun x5' x6' w' e S5' S6' hs' he => ?_
    refine hN (l.length - (i + 1)) _ w' (by omega) ⟨i + 1, x5', x6', _, S5', S6', rfl, by omega, by omega, rfl, hs', by simp [hL], fun e' he' => ?_⟩
    rcases List.mem_append.1 he' with he' | he'
    · have := hb e' he'
      exact ⟨by have := this.m; omega, by have := this.B; omega⟩
    · simp at he'
      rw [he']; exact he
  unfold law10_HashStays_s10
  rw [q1, fa_p, fa_p, rs]
  simp only [lenS_s, bq_gtr, bV_b, decide_eq_true_eq, decide_eq_false_iff_not]
  refine ⟨fun _ => awake10 fun w' hk' => hR w' (hs.kp.trans' hk'), fun _ => ?_⟩
  have hsub : IntKind.i64.wrap ((L.length : Int) - 1) = ((L.length - 1 : Nat) : Int) := by rw [w64 (by omega) (by omega)]; omega
  rw [hr5.lenL, List.length_map]
  simp only [bq_sub, hsub]
  rw [hx1i.lenL, List.length_map]
  simp only [bq_lss, bV_b, decide_eq_true_eq, decide_eq_false_iff_not]
  refine ⟨fun hz => ?_, fun _ => s9 (L.length - 1) (by omega)⟩
  have hz : i < zs.length := by omega
  obtain ⟨q, q3, q4⟩ := hx1i.oneK (i := i) (by simpa using hz) (x := .int .i64 zs[i]) (by simp [intV])
  have hle := andI_le zs[i] (c := 255) (by omega)
  rw [q3, q4 _ (Kp.refl _ _), show (255 : Int) = ((255 : Nat) : Int) from rfl, andI_of (by omega), hr5.lenL, List.length_map, rem_of (by omega) (by omega)]
  have hk : andI zs[i] 255 % L.length < L.length := Nat.mod_lt _ (by omega)
  exact s9 (andI zs[i] 255 % L.length) hk
end Go.Proofs

/- What the statement's own reading says of the arguments that came in: values, calls, numbers. -/
set_option linter.unusedVariables false
set_option linter.unusedSimpArgs false
namespace Go.Proofs
open Go Go.Q
/-- an argument that the statement's own reading took -/
def Taken (w : World) (t : TypeId) (v : Value) : Prop :=
  ∃ (H : Type) (enc : TypeId × Value → H) (fuel : Nat) (x : DataW H × List MemPlace), DataW.trod enc Try.prog w 0 (fun _ => true) true fuel t v.cells.toList = some x
section
variable {H : Type} {enc : TypeId × Value → H} {w : World} {fuel n : Nat} {cs : List Value} {x : DataW H × List MemPlace}
theorem str_all (s : ByteArray) : s = str s.data.toList := by cases s; simp [str]
theorem one_celA {i : Nat} (hi : i < cs.length) : (cs.drop i).take 1 = [cs[i]] := by rw [List.drop_eq_getElem_cons hi]; rfl
theorem fld_int {i : Nat} {q : Option (DataW H × List MemPlace)} (h : DataW.trod enc Try.prog w 0 (fun _ => true) true n 3 ((cs.drop i).take (Try.prog.cellsOf 3)) = q) (hq : q.isSome = true) (hi : i < cs.length) : ∃ z : Int, cs[i] = .int .i64 z ∧ -9223372036854775808 ≤ z ∧ z < 9223372036854775808 := by
  obtain ⟨y, rfl⟩ := Option.isSome_iff_exists.1 hq
  rw [show Try.prog.cellsOf 3 = 1 by kernel_rfl, one_celA hi] at h
  obtain ⟨z, e, _, hw⟩ := DataW.trod_int Try.underlying3 h
  injection e with e _
  exact ⟨z, e, wf64 hw⟩
theorem fld_str {i : Nat} {q : Option (DataW H × List MemPlace)} (h : DataW.trod enc Try.prog w 0 (fun _ => true) true n 9 ((cs.drop i).take (Try.prog.cellsOf 9)) = q) (hq : q.isSome = true) (hi : i < cs.length) : ∃ s : List UInt8, cs[i] = .string (str s) ∧ s.length ≤ maxLen := by
  obtain ⟨y, rfl⟩ := Option.isSome_iff_exists.1 hq
  rw [show Try.prog.cellsOf 9 = 1 by kernel_rfl, one_celA hi] at h
  obtain ⟨s, e, _, hw⟩ := DataW.trod_string Try.underlying9 h
  injection e with e _
  exact ⟨s.data.toList, by rw [e]; exact congrArg Value.string (str_all s), hw⟩
theorem list3 {α : Type} {r : List α} (h : r.length = 3) : ∃ a b c, r = [a, b, c] := by
  match r, h with
  | [a, b, c], _ => exact ⟨a, b, c, rfl⟩
theorem list5 {α : Type} {r : List α} (h : r.length = 5) : ∃ a b c d e, r = [a, b, c, d, e] := by
  match r, h with
  | [a, b, c, d, e], _ => exact ⟨a, b, c, d, e, rfl⟩
theorem val_in (h : DataW.trod enc Try.prog w 0 (fun _ => true) true fuel 24 cs = some x) : ∃ v : V3, cs = valV v ∧ v.Rg := by
  obtain ⟨xs, n, rfl, _, hl, hx, hf⟩ := DataW.trod_struct Try.underlying24 h
  rw [show Try.prog.cellsOf 24 = 3 by kernel_rfl] at hl
  have hx3 : xs.length = 3 := hx
  have g0 : DataW.trod enc Try.prog w 0 (fun _ => true) true n 3 ((cs.drop 0).take (Try.prog.cellsOf 3)) = xs[0]? := hf 0 _ rfl
  obtain ⟨z0, e0, p0⟩ := fld_int g0 (by simp; omega) (by omega)
  have g1 : DataW.trod enc Try.prog w 0 (fun _ => true) true n 3 ((cs.drop 1).take (Try.prog.cellsOf 3)) = xs[1]? := hf 1 _ rfl
  obtain ⟨z1, e1, p1⟩ := fld_int g1 (by simp; omega) (by omega)
  have g2 : DataW.trod enc Try.prog w 0 (fun _ => true) true n 9 ((cs.drop 2).take (Try.prog.cellsOf 9)) = xs[2]? := hf 2 _ rfl
  obtain ⟨z2, e2, p2⟩ := fld_str g2 (by simp; omega) (by omega)
  obtain ⟨c0, c1, c2, rfl⟩ := list3 hl
  simp only [List.getElem_cons_zero, List.getElem_cons_succ] at e0 e1 e2
  subst e0 e1 e2
  exact ⟨⟨z0, z1, z2⟩, rfl, ⟨p0.1, p0.2, p1.1, p1.2⟩⟩
theorem act_in (h : DataW.trod enc Try.prog w 0 (fun _ => true) true fuel 30 cs = some x) : ∃ a : A10, cs = aC a ∧ a.v.Rg := by
  obtain ⟨xs, n, rfl, _, hl, hx, hf⟩ := DataW.trod_struct Try.underlying30 h
  rw [show Try.prog.cellsOf 30 = 5 by kernel_rfl] at hl
  have hx3 : xs.length = 3 := hx
  have g0 : DataW.trod enc Try.prog w 0 (fun _ => true) true n 3 ((cs.drop 0).take (Try.prog.cellsOf 3)) = xs[0]? := hf 0 _ rfl
  obtain ⟨z0, e0, p0⟩ := fld_int g0 (by simp; omega) (by omega)
  have g1 : DataW.trod enc Try.prog w 0 (fun _ => true) true n 3 ((cs.drop 1).take (Try.prog.cellsOf 3)) = xs[1]? := hf 1 _ rfl
  obtain ⟨z1, e1, p1⟩ := fld_int g1 (by simp; omega) (by omega)
  have g2 : DataW.trod enc Try.prog w 0 (fun _ => true) true n 24 ((cs.drop 2).take (Try.prog.cellsOf 24)) = xs[2]? := hf 2 _ rfl
  have hs2 : (xs[2]?).isSome = true := by simp; omega
  obtain ⟨y, hy⟩ := Option.isSome_iff_exists.1 hs2
  rw [hy] at g2
  obtain ⟨v, hv, hr⟩ := val_in g2
  rw [show Try.prog.cellsOf 24 = 3 by kernel_rfl] at hv
  obtain ⟨c0, c1, c2, c3, c4, rfl⟩ := list5 hl
  simp only [List.getElem_cons_zero, List.getElem_cons_succ] at e0 e1
  subst e0 e1
  exact ⟨⟨z0, z1, v⟩, by
    simp only [List.drop_succ_cons, List.drop_zero, List.take_succ_cons, List.take_zero] at hv
    show [_, _, c2, c3, c4] = [_, _] ++ valV v
    rw [← hv]; rfl, hr⟩
end
theorem acts_of {rows : List (List Value)} (h : ∀ r ∈ rows, ∃ a : A10, r = aC a ∧ a.v.Rg) : ∃ l : List A10, rows = l.map aC ∧ ∀ a ∈ l, a.v.Rg := by
  induction rows with
  | nil => exact ⟨[], rfl, by simp⟩
  | cons r rows ih =>
    obtain ⟨l, h1, h2⟩ := ih fun x hx => h x (by simp [hx])
    obtain ⟨s, h3, h4⟩ := h r (by simp)
    exact ⟨s :: l, by rw [h1, h3]; rfl, fun x hx => by
      rcases List.mem_cons.1 hx with rfl | hx
      · exact h4
      · exact h2 x hx⟩
theorem acts_taken {w : World} {a : Option Addr} {l c : Nat} (h : Taken w 22 (.slice a l c)) : ∃ acts : List A10, Rd w (.slice a l c) 5 (acts.map aC) ∧ ∀ a ∈ acts, a.v.Rg := by
  obtain ⟨H, enc, fuel, x, h⟩ := h
  obtain ⟨v, rows, SK, hv, harg, hlt, hlen, hr⟩ := arg_slice Try.underlying22 (n := 5) (by kernel_rfl) (by omega) h
  obtain ⟨acts, hl, hs⟩ := acts_of (rows := rows) fun r hm => by
    obtain ⟨f, y, hy⟩ := hr r hm
    exact act_in hy
  subst hl
  injection hv with e _
  subst e
  exact ⟨acts, ⟨SK, harg⟩, hs⟩
theorem ints_of {rows : List (List Value)} (h : ∀ r ∈ rows, ∃ z : Int, r = intV z) : ∃ l : List Int, rows = l.map intV := by
  induction rows with
  | nil => exact ⟨[], rfl⟩
  | cons r rows ih =>
    obtain ⟨l, h1⟩ := ih fun x hx => h x (by simp [hx])
    obtain ⟨s, h3⟩ := h r (by simp)
    exact ⟨s :: l, by rw [h1, h3]; rfl⟩
theorem ints_taken {w : World} {a : Option Addr} {l c : Nat} (h : Taken w 36 (.slice a l c)) : ∃ zs : List Int, Rd w (.slice a l c) 1 (zs.map intV) := by
  obtain ⟨H, enc, fuel, x, h⟩ := h
  obtain ⟨v, rows, SK, hv, harg, hlt, hlen, hr⟩ := arg_slice Try.underlying36 (n := 1) (by kernel_rfl) (by omega) h
  obtain ⟨zs, hl⟩ := ints_of (rows := rows) fun r hm => by
    obtain ⟨f, y, hy⟩ := hr r hm
    obtain ⟨z, e, _, _⟩ := DataW.trod_int Try.underlying3 hy
    exact ⟨z, by rw [e]; rfl⟩
  subst hl
  injection hv with e _
  subst e
  exact ⟨zs, ⟨SK, harg⟩⟩
end Go.Proofs

