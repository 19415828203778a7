/- Part of the proof (M3): an engine, rules or contracts of the functions; it states nothing of the claim by itself. -/
import Derived.Test.YtiljkkdhohnpbaaM2
import Derived.Test.YtiljkkdhohnpbaaM1
import Derived.OpenShut
import Derived.WideShapes
import Derived.ChangeSlices

/- Layer 22: about how many of two have the same. -/
set_option maxRecDepth 100000
set_option linter.unusedVariables false
set_option linter.unusedSimpArgs false
namespace Go.Proofs
open Go Go.Q
theorem run_max3 {P : Program} {ts : Array TypeId} {t : TypeId} {k : IntKind} {a b c : Int} {w : World} : (Builtin.max_ ts t #[.int k a, .int k b, .int k c]).run P w = .ok (.int k (max (max a b) c)) w := by
  simp only [Builtin.max_, List.foldlM_cons, List.foldlM_nil, Builtin.max2, pure_bind]
  show Result.ok _ _ = _
  congr 2; omega
theorem q_max3 {P : Program} {ts : Array TypeId} {t : TypeId} {k : IntKind} {a b c : Int} {w : World} {K : Value → Prop} : qG P (Builtin.max_ ts t #[.int k a, .int k b, .int k c]) w K = K (.int k (max (max a b) c)) := qG_of run_max3
--BEGIN
section
variable {w : World} {R : Value → World → Prop}
theorem of_any {val : Value} {n : Int} {l : List (List V3)} (h : StatAt w val (statV n l)) (col : Int)
    (hK : ∀ w' c, c.size = 3 → c.all Q.one = true → Kp [] w w' → (∀ cv, atV (statV n l) col = some cv → ∃ sv, c = (cC cv.nulls cv.distinct sv).toArray) → R (.tuple #[.agg c, .bool (atV (statV n l) col).isSome]) w') : callG Try.prog 24 #[val, .int .i64 col] w R := by
  refine of_spec h (by simp only [statV, List.length_map, List.length_range]; omega) col ?_ ?_
  · intro hno w' c h3 h1 hk
    have := hK w' c h3 h1 hk (fun cv hcv => by rw [hno] at hcv; cases hcv)
    rw [hno] at this
    exact this
  · intro cv hcv w' cs hk hcx
    obtain ⟨sv, hcs, hsv1, S, hsv, _⟩ := hcx
    have := hK w' cs.toArray (by rw [hcs]; rfl) (by rw [hcs]; simp [cC, hsv1]) hk (fun cv' hcv' => by rw [hcv] at hcv'; injection hcv' with e; subst e; exact ⟨sv, by rw [hcs]⟩)
    rw [hcv] at this
    exact this
theorem jo_s0 {x13 x15 : Nat} {cx cy : ColV} {ra rb : Int} {svx svy : Value} {T T' : TypeId} {fr fr' : Nat × Nat} (h13 : w.heap[x13]? = some (.cells (cC cx.nulls cx.distinct svx).toArray T fr)) (h15 : w.heap[x15]? = some (.cells (cC cy.nulls cy.distinct svy).toArray T' fr'))
    (ha : 1 ≤ ra) (hb : 1 ≤ rb) (hR : R (.int .i64 (min 1099511627776 (max 1 (min ra 1073741824 * min rb 1073741824 / (max 1 (max cx.distinct cy.distinct) : Nat))))) w) :
    stat_Joined_s0 R (.int .i64 ra) (.int .i64 rb) (.pointer (some ⟨x13, 0, none⟩)) (.pointer (some ⟨x15, 0, none⟩)) w := by
  unfold stat_Joined_s0
  have q : ∀ (K : Value → Prop), (fa 1 (.pointer (some ⟨x13, 0, none⟩)) fun t => ld1 t w K) = K (.int .i64 cx.distinct) := fun K => by rw [fa_p, ldF (x := .int .i64 cx.distinct) h13 rfl]
  have q' : ∀ (K : Value → Prop), (fa 1 (.pointer (some ⟨x15, 0, none⟩)) fun t => ld1 t w K) = K (.int .i64 cy.distinct) := fun K => by rw [fa_p, ldF (x := .int .i64 cy.distinct) h15 rfl]
  have hm0 : (0 : Int) ≤ min ra 1073741824 * min rb 1073741824 := Int.mul_nonneg (by omega) (by omega)
  have hm1 : min ra 1073741824 * min rb 1073741824 ≤ 1073741824 * 1073741824 := Int.mul_le_mul (by omega) (by omega) (by omega) (by omega)
  have ew : IntKind.i64.wrap (min ra 1073741824 * min rb 1073741824) = min ra 1073741824 * min rb 1073741824 := w64 (by omega) (by omega)
  have ed : max (max 1 (cx.distinct : Int)) (cy.distinct : Int) = ((max 1 (max cx.distinct cy.distinct) : Nat) : Int) := by omega
  have ed2 : max (max (cx.distinct : Int) (cy.distinct : Int)) 1 = ((max 1 (max cx.distinct cy.distinct) : Nat) : Int) := by omega
  have hdp : (0 : Int) < ((max 1 (max cx.distinct cy.distinct) : Nat) : Int) := by omega
  have hq := Int.ediv_le_self ((max 1 (max cx.distinct cy.distinct) : Nat) : Int) hm0
  have hq0 : 0 ≤ min ra 1073741824 * min rb 1073741824 / ((max 1 (max cx.distinct cy.distinct) : Nat) : Int) := Int.ediv_nonneg hm0 (by omega)
  have ew2 : IntKind.i64.wrap (min ra 1073741824 * min rb 1073741824 / ((max 1 (max cx.distinct cy.distinct) : Nat) : Int)) = min ra 1073741824 * min rb 1073741824 / ((max 1 (max cx.distinct cy.distinct) : Nat) : Int) := w64 (by omega) (by omega)
  generalize hd : (max 1 (max cx.distinct cy.distinct) : Nat) = D at *
  generalize hM : min ra 1073741824 * min rb 1073741824 = M at *
  simp only [q, q', q_min, q_max, q_max3, bq_mul, hM, ew, ed, ed2]
  rw [quo_of hm0 hdp, ew2]
  simp only [q_max, q_min]
  exact hR
theorem Joined_spec {va vb : Value} {n m : Int} {a b : List (List V3)} (hsa : StatAt w va (statV n a)) (hsb : StatAt w vb (statV m b)) (ca ra cb rb : Int) (hR : ∀ w', Kp [] w w' → R (.int .i64 (joinedQ (statV n a) ca ra (statV m b) cb rb)) w') : callG Try.prog 17 #[va, .int .i64 ca, .int .i64 ra, vb, .int .i64 cb, .int .i64 rb] w R := by
  have hha := hsa
  have hhb := hsb
  obtain ⟨oa, cssa, hva, hoa, _⟩ := hha
  obtain ⟨ob, cssb, hvb, hob, _⟩ := hhb
  refine stat_Joined_call ?_
  unfold stat_Joined stat_Joined_s1
  rw [hva, hvb]
  refine argB fun x6 w1 hx6 h6 k1 => ?_
  refine argB fun x9 w2 hx9 h9 k2 => ?_
  have k02 := k1.trans' k2
  rw [ldA (k := 2) (k2.get h6 (by simp)) rfl, ← hva]
  refine of_any (hsa.keep k02) ca fun w3 c1 h13s h1o k3 hc1 => ?_
  rw [ex0, ex1]
  refine newB fun x13 w4 hx13 h13 k4 => ?_
  rw [stA (k := 3) h13 (by rw [zcCol]; rfl) h13s h1o]
  obtain ⟨w5, hw5⟩ : ∃ w5, w5 = setBlk w4 x13 (.cells c1 32) := ⟨_, rfl⟩
  have k35 : Kp [] w3 w5 := by rw [hw5]; exact k4.setBlk (.inr hx13) _
  have g13 : w5.heap[x13]? = some (.cells c1 32) := by rw [hw5]; exact heap_self (live_of h13)
  have k25 := k3.trans' k35
  have k05 := k02.trans' k25
  rw [← hw5, ldA (k := 2) (k25.get h9 (by simp)) rfl, ← hvb]
  refine of_any (hsb.keep k05) cb fun w6 c2 h15s h2o k6 hc2 => ?_
  rw [ex0, ex1]
  refine newB fun x15 w7 hx15 h15 k7 => ?_
  rw [stA (k := 3) h15 (by rw [zcCol]; rfl) h15s h2o]
  obtain ⟨w8, hw8⟩ : ∃ w8, w8 = setBlk w7 x15 (.cells c2 32) := ⟨_, rfl⟩
  have k68 : Kp [] w6 w8 := by rw [hw8]; exact k7.setBlk (.inr hx15) _
  have g15 : w8.heap[x15]? = some (.cells c2 32) := by rw [hw8]; exact heap_self (live_of h15)
  have k58 := k6.trans' k68
  have k08 := k05.trans' k58
  have g13' := k58.get g13 (by simp)
  rw [← hw8]
  have hR := hR w8 k08
  unfold joinedQ at hR
  cases hA : atV (statV n a) ca with
  | none =>
    rw [hA] at hR
    simp only [un_not, bV_b, Option.isSome_none]
    exact ⟨fun _ => hR, fun h => by simp at h⟩
  | some x =>
    rw [hA] at hR
    simp only [un_not, bV_b, Option.isSome_some]
    refine ⟨fun h => by simp at h, fun _ => ?_⟩
    cases hB : atV (statV m b) cb with
    | none =>
      rw [hB] at hR
      simp only [un_not, bV_b, Option.isSome_none]
      exact ⟨fun _ => hR, fun h => by simp at h⟩
    | some y =>
      rw [hB] at hR
      simp only at hR
      simp only [un_not, bV_b, Option.isSome_some]
      refine ⟨fun h => by simp at h, fun _ => ?_⟩
      obtain ⟨svx, hcx⟩ := hc1 x hA
      obtain ⟨svy, hcy⟩ := hc2 y hB
      simp only [bq_lss, bV_b, decide_eq_true_eq, decide_eq_false_iff_not]
      refine ⟨fun h => ?_, fun h => ⟨fun h' => ?_, fun h' => ?_⟩⟩
      · rw [if_pos (.inl h)] at hR; exact hR
      · rw [if_pos (.inr h')] at hR; exact hR
      · rw [if_neg (by omega)] at hR
        exact jo_s0 (by rw [g13', hcx]) (by rw [g15, hcy]) (by omega) (by omega) hR
end
--END
section
variable {w : World} {R : Value → World → Prop}
theorem Kept0_spec {val : Value} {n : Int} {l : List (List V3)} (h : StatAt w val (statV n l)) (hR : ∀ w', Kp [] w w' → R (.int .i64 (l.length : Nat)) w') : callG Try.prog 21 #[val, .slice none 0 0] w R := by
  obtain ⟨o, css, hval, ho, _⟩ := h
  refine stat_Kept_call ?_
  unfold stat_Kept stat_Kept_s4
  rw [hval]
  refine argB fun x2 w1 hx2 h2 k1 => ?_
  rw [fa_p, ldF (x := .int .i64 l.length) h2 rfl, q_max]
  have e : max (0 : Int) (l.length : Int) = l.length := by omega
  rw [e]
  unfold stat_Kept_s3 stat_Kept_L2
  rw [lenL_s]
  refine ⟨1, ?_⟩
  unfold loopV stat_Kept_L2F stat_Kept_b1
  dsimp only
  simp only [bq_lss, bV_b]
  refine ⟨fun h => by simp at h, fun _ => ?_⟩
  unfold stat_Kept_s0
  exact hR w1 k1
end
end Go.Proofs

/- Layer 22: about how many of two have the same: the document's. -/
set_option maxRecDepth 100000
set_option linter.unusedVariables false
set_option linter.unusedSimpArgs false
namespace Go.Proofs
open Go Go.Q
section
variable {w : World} {R : Value → World → Prop}
theorem at_any {val : Value} {n : Int} {l : List (List V3)} (h : StatAt w val (statV n l)) (col : Int)
    (hK : ∀ w' c, c.size = 3 → c.all Q.one = true → Kp [] w w' → (∀ cv, atV (statV n l) col = some cv → ∃ sv, c = (cC cv.nulls cv.distinct sv).toArray) → R (.tuple #[.agg c, .bool (atV (statV n l) col).isSome]) w') : callG Try.prog 29 #[val, .int .i64 col] w R := by
  refine at_spec h (by simp only [statV, List.length_map, List.length_range]; omega) col ?_ ?_
  · intro hno w' c h3 h1 hk
    have := hK w' c h3 h1 hk (fun cv hcv => by rw [hno] at hcv; cases hcv)
    rw [hno] at this
    exact this
  · intro cv hcv w' cs hk hcx
    obtain ⟨sv, hcs, hsv1, S, hsv, _⟩ := hcx
    have := hK w' cs.toArray (by rw [hcs]; rfl) (by rw [hcs]; simp [cC, hsv1]) hk (fun cv' hcv' => by rw [hcv] at hcv'; injection hcv' with e; subst e; exact ⟨sv, by rw [hcs]⟩)
    rw [hcv] at this
    exact this
theorem rjo_s0 {x13 x15 : Nat} {cx cy : ColV} {ra rb : Int} {svx svy : Value} {T T' : TypeId} {fr fr' : Nat × Nat} (h13 : w.heap[x13]? = some (.cells (cC cx.nulls cx.distinct svx).toArray T fr)) (h15 : w.heap[x15]? = some (.cells (cC cy.nulls cy.distinct svy).toArray T' fr'))
    (ha : 1 ≤ ra) (hb : 1 ≤ rb) (hR : R (.int .i64 (min 1099511627776 (max 1 (min ra 1073741824 * min rb 1073741824 / (max 1 (max cx.distinct cy.distinct) : Nat))))) w) :
    ref22_Joined_s0 R (.int .i64 ra) (.int .i64 rb) (.pointer (some ⟨x13, 0, none⟩)) (.pointer (some ⟨x15, 0, none⟩)) w := by
  unfold ref22_Joined_s0
  have q : ∀ (K : Value → Prop), (fa 1 (.pointer (some ⟨x13, 0, none⟩)) fun t => ld1 t w K) = K (.int .i64 cx.distinct) := fun K => by rw [fa_p, ldF (x := .int .i64 cx.distinct) h13 rfl]
  have q' : ∀ (K : Value → Prop), (fa 1 (.pointer (some ⟨x15, 0, none⟩)) fun t => ld1 t w K) = K (.int .i64 cy.distinct) := fun K => by rw [fa_p, ldF (x := .int .i64 cy.distinct) h15 rfl]
  have hm0 : (0 : Int) ≤ min ra 1073741824 * min rb 1073741824 := Int.mul_nonneg (by omega) (by omega)
  have hm1 : min ra 1073741824 * min rb 1073741824 ≤ 1073741824 * 1073741824 := Int.mul_le_mul (by omega) (by omega) (by omega) (by omega)
  have ew : IntKind.i64.wrap (min ra 1073741824 * min rb 1073741824) = min ra 1073741824 * min rb 1073741824 := w64 (by omega) (by omega)
  have ed : max (max 1 (cx.distinct : Int)) (cy.distinct : Int) = ((max 1 (max cx.distinct cy.distinct) : Nat) : Int) := by omega
  have ed2 : max (max (cx.distinct : Int) (cy.distinct : Int)) 1 = ((max 1 (max cx.distinct cy.distinct) : Nat) : Int) := by omega
  have hdp : (0 : Int) < ((max 1 (max cx.distinct cy.distinct) : Nat) : Int) := by omega
  have hq := Int.ediv_le_self ((max 1 (max cx.distinct cy.distinct) : Nat) : Int) hm0
  have hq0 : 0 ≤ min ra 1073741824 * min rb 1073741824 / ((max 1 (max cx.distinct cy.distinct) : Nat) : Int) := Int.ediv_nonneg hm0 (by omega)
  have ew2 : IntKind.i64.wrap (min ra 1073741824 * min rb 1073741824 / ((max 1 (max cx.distinct cy.distinct) : Nat) : Int)) = min ra 1073741824 * min rb 1073741824 / ((max 1 (max cx.distinct cy.distinct) : Nat) : Int) := w64 (by omega) (by omega)
  generalize hd : (max 1 (max cx.distinct cy.distinct) : Nat) = D at *
  generalize hM : min ra 1073741824 * min rb 1073741824 = M at *
  simp only [q, q', q_min, q_max, q_max3, bq_mul, hM, ew, ed, ed2]
  rw [quo_of hm0 hdp, ew2]
  simp only [q_max, q_min]
  exact hR
theorem rJoined_spec {va vb : Value} {n m : Int} {a b : List (List V3)} (hsa : StatAt w va (statV n a)) (hsb : StatAt w vb (statV m b)) (ca ra cb rb : Int) (hR : ∀ w', Kp [] w w' → R (.int .i64 (joinedQ (statV n a) ca ra (statV m b) cb rb)) w') : callG Try.prog 18 #[va, .int .i64 ca, .int .i64 ra, vb, .int .i64 cb, .int .i64 rb] w R := by
  have hha := hsa
  have hhb := hsb
  obtain ⟨oa, cssa, hva, hoa, _⟩ := hha
  obtain ⟨ob, cssb, hvb, hob, _⟩ := hhb
  refine ref22_Joined_call ?_
  unfold ref22_Joined ref22_Joined_s1
  rw [hva, hvb]
  refine argB fun x6 w1 hx6 h6 k1 => ?_
  refine argB fun x9 w2 hx9 h9 k2 => ?_
  have k02 := k1.trans' k2
  rw [ldA (k := 2) (k2.get h6 (by simp)) rfl, ← hva]
  refine at_any (hsa.keep k02) ca fun w3 c1 h13s h1o k3 hc1 => ?_
  rw [ex0, ex1]
  refine newB fun x13 w4 hx13 h13 k4 => ?_
  rw [stA (k := 3) h13 (by rw [zcCol]; rfl) h13s h1o]
  obtain ⟨w5, hw5⟩ : ∃ w5, w5 = setBlk w4 x13 (.cells c1 32) := ⟨_, rfl⟩
  have k35 : Kp [] w3 w5 := by rw [hw5]; exact k4.setBlk (.inr hx13) _
  have g13 : w5.heap[x13]? = some (.cells c1 32) := by rw [hw5]; exact heap_self (live_of h13)
  have k25 := k3.trans' k35
  have k05 := k02.trans' k25
  rw [← hw5, ldA (k := 2) (k25.get h9 (by simp)) rfl, ← hvb]
  refine at_any (hsb.keep k05) cb fun w6 c2 h15s h2o k6 hc2 => ?_
  rw [ex0, ex1]
  refine newB fun x15 w7 hx15 h15 k7 => ?_
  rw [stA (k := 3) h15 (by rw [zcCol]; rfl) h15s h2o]
  obtain ⟨w8, hw8⟩ : ∃ w8, w8 = setBlk w7 x15 (.cells c2 32) := ⟨_, rfl⟩
  have k68 : Kp [] w6 w8 := by rw [hw8]; exact k7.setBlk (.inr hx15) _
  have g15 : w8.heap[x15]? = some (.cells c2 32) := by rw [hw8]; exact heap_self (live_of h15)
  have k58 := k6.trans' k68
  have k08 := k05.trans' k58
  have g13' := k58.get g13 (by simp)
  rw [← hw8]
  have hR := hR w8 k08
  unfold joinedQ at hR
  cases hA : atV (statV n a) ca with
  | none =>
    rw [hA] at hR
    simp only [un_not, bV_b, Option.isSome_none]
    exact ⟨fun _ => hR, fun h => by simp at h⟩
  | some x =>
    rw [hA] at hR
    simp only [un_not, bV_b, Option.isSome_some]
    refine ⟨fun h => by simp at h, fun _ => ?_⟩
    cases hB : atV (statV m b) cb with
    | none =>
      rw [hB] at hR
      simp only [un_not, bV_b, Option.isSome_none]
      exact ⟨fun _ => hR, fun h => by simp at h⟩
    | some y =>
      rw [hB] at hR
      simp only at hR
      simp only [un_not, bV_b, Option.isSome_some]
      refine ⟨fun h => by simp at h, fun _ => ?_⟩
      obtain ⟨svx, hcx⟩ := hc1 x hA
      obtain ⟨svy, hcy⟩ := hc2 y hB
      simp only [bq_lss, bV_b, decide_eq_true_eq, decide_eq_false_iff_not]
      refine ⟨fun h => ?_, fun h => ⟨fun h' => ?_, fun h' => ?_⟩⟩
      · rw [if_pos (.inl h)] at hR; exact hR
      · rw [if_pos (.inr h')] at hR; exact hR
      · rw [if_neg (by omega)] at hR
        exact rjo_s0 (by rw [g13', hcx]) (by rw [g15, hcy]) (by omega) (by omega) hR
end
end Go.Proofs

set_option linter.unusedVariables false
set_option linter.unusedSimpArgs false
namespace Go.Proofs
open Go Go.Q
set_option maxRecDepth 100000
/-! quayside/quaysidelaw22.num -/
def law22_num_s0 (R : Value → World → Prop) (x0 : Value) (w : World) : Prop :=
  newG (zc Try.prog 35) 35 w fun t2 w =>
  bld [(0, 1), (1, 1), (2, 1)] (zc Try.prog 35) #[(0, (.int .i64 1)), (1, x0)] fun t4 =>
  stn 3 t2 t4 w fun w =>
  qG Try.prog (do loadVar 35 (← asAddr t2)) w fun r2 =>
  R r2 w
theorem law22_num_s0_eq (R : Value → World → Prop) : ∀ e w, lift Try.prog 5 (bodyOf Try.f20) (finK Try.prog Try.f20.results.toList R) e w = law22_num_s0 R (e 0) w := fun e w => by kernel_rfl
def law22_num (R : Value → World → Prop) (x0 : Value) (w : World) : Prop := law22_num_s0 R x0 w
theorem law22_num_call {R : Value → World → Prop} {x0 : Value} {w : World} (h : law22_num R x0 w) : callG Try.prog 20 #[x0] w R :=
  calls_lift_eq Try.mixed Try.func20 (args := [x0]) rfl rfl rfl rfl ((law22_num_s0_eq R) (envOf [x0]) w) (by kernel_rfl) h
/-! quayside/quaysidelaw22.light -/
def law22_light_s0 (R : Value → World → Prop) (x0 : Value) (w : World) : Prop :=
  lenL x0 fun t41 =>
  qG Try.prog (bq .leq 3 (.tmp 41) (.const (.int .i64 100)) t41 (.int .i64 100)) w fun t42 =>
  R t42 w
theorem law22_light_s0_eq (R : Value → World → Prop) : ∀ e w, lift Try.prog 43 (sub (bodyOf Try.f7) [1, 1]) (finK Try.prog Try.f7.results.toList R) e w = law22_light_s0 R (e 0) w := fun e w => by kernel_rfl
def law22_light_s1 (R : Value → World → Prop) (N1 : List Value → World → Prop) (x0 x3 : Value) (w : World) : Prop :=
  qG Try.prog (bq .add 3 (.tmp 13) (.const (.int .i64 1)) x3 (.int .i64 1)) w fun t14 =>
  N1 [x0, t14] w
theorem law22_light_s1_eq (R : Value → World → Prop) (N1 : List Value → World → Prop) : ∀ e w, lift Try.prog 43 (sub (bodyOf Try.f7) [1, 0, 1, 0, 0, 1, 1]) (seqK (fun e w => N1 [e 0, e 3] w) (blockK 0 (seqK (fun e w => law22_light_s0 R (e 0) w) (finK Try.prog Try.f7.results.toList R)))) e w = law22_light_s1 R N1 (e 0) (e 3) w := fun e w => by kernel_rfl
def law22_light_b2 (R : Value → World → Prop) (N1 : List Value → World → Prop) (N2 : List Value → World → Prop) (x0 x3 x4 : Value) (w : World) : Prop :=
  ia 1 x0 x3 fun t24 =>
  ld1 t24 w fun t25 =>
  lenL t25 fun t26 =>
  qG Try.prog (bq .lss 3 (.tmp 21) (.tmp 26) x4 t26) w fun t27 =>
  bV t27
  (ia 1 x0 x3 fun t32 =>
  ld1 t32 w fun t33 =>
  ia 3 t33 x4 fun t35 =>
  fa 2 t35 fun t36 =>
  ld1 t36 w fun t37 =>
  lenS t37 fun t38 =>
  qG Try.prog (bq .gtr 3 (.tmp 38) (.const (.int .i64 100)) t38 (.int .i64 100)) w fun t39 =>
  bV t39
  (R (.bool false) w)
  (qG Try.prog (bq .add 3 (.tmp 28) (.const (.int .i64 1)) x4 (.int .i64 1)) w fun t29 =>
  N2 [x0, x3, t29] w))
  (law22_light_s1 R N1 x0 x3 w)
theorem law22_light_b2_eq (R : Value → World → Prop) (N1 : List Value → World → Prop) (N2 : List Value → World → Prop) : ∀ e w, lift Try.prog 43 (sub (bodyOf Try.f7) [1, 0, 1, 0, 0, 1, 0, 0, 1, 1, 0, 0]) (seqK (fun e w => N2 [e 0, e 3, e 4] w) (blockK 2 (blockK 1 (seqK (fun e w => law22_light_s1 R N1 (e 0) (e 3) w) (seqK (fun e w => N1 [e 0, e 3] w) (blockK 0 (seqK (fun e w => law22_light_s0 R (e 0) w) (finK Try.prog Try.f7.results.toList R)))))))) e w = law22_light_b2 R N1 N2 (e 0) (e 3) (e 4) w := fun e w => by kernel_rfl
def law22_light_L3F (R : Value → World → Prop) (N1 : List Value → World → Prop) (N2 : List Value → World → Prop) (xs : List Value) (w : World) : Prop :=
  match xs with
  | [x0, x3, x4] => law22_light_b2 R N1 N2 x0 x3 x4 w
  | _ => False
def law22_light_L3 (R : Value → World → Prop) (N1 : List Value → World → Prop) (x0 x3 x4 : Value) (w : World) : Prop :=
  ∃ m, loopV (law22_light_L3F R N1) m [x0, x3, x4] w
theorem law22_light_L3_eq (R : Value → World → Prop) (N1 : List Value → World → Prop) : ∀ e w, lift Try.prog 43 (sub (bodyOf Try.f7) [1, 0, 1, 0, 0, 1, 0, 0, 1, 1, 0]) (blockK 2 (blockK 1 (seqK (fun e w => law22_light_s1 R N1 (e 0) (e 3) w) (seqK (fun e w => N1 [e 0, e 3] w) (blockK 0 (seqK (fun e w => law22_light_s0 R (e 0) w) (finK Try.prog Try.f7.results.toList R))))))) e w = law22_light_L3 R N1 (e 0) (e 3) (e 4) w := loop_seg (F := law22_light_L3F R N1) (sel := fun e => [e 0, e 3, e 4]) fun N2 => (law22_light_b2_eq R N1 N2)
def law22_light_s4 (R : Value → World → Prop) (N1 : List Value → World → Prop) (x0 x3 : Value) (w : World) : Prop :=
  ia 1 x0 x3 fun t17 =>
  ld1 t17 w fun t18 =>
  lenL t18 fun t19 =>
  qG Try.prog (bq .gtr 3 (.tmp 19) (.const (.int .i64 8)) t19 (.int .i64 8)) w fun t20 =>
  bV t20
  (R (.bool false) w)
  (law22_light_L3 R N1 x0 x3 (.int .i64 0) w)
theorem law22_light_s4_eq (R : Value → World → Prop) (N1 : List Value → World → Prop) : ∀ e w, lift Try.prog 43 (sub (bodyOf Try.f7) [1, 0, 1, 0, 0, 1, 0, 0]) (blockK 1 (seqK (fun e w => law22_light_s1 R N1 (e 0) (e 3) w) (seqK (fun e w => N1 [e 0, e 3] w) (blockK 0 (seqK (fun e w => law22_light_s0 R (e 0) w) (finK Try.prog Try.f7.results.toList R)))))) e w = law22_light_s4 R N1 (e 0) (e 3) w :=
  segs_eq (l := [(sub (bodyOf Try.f7) [1, 0, 1, 0, 0, 1, 0, 0, 0]), (sub (bodyOf Try.f7) [1, 0, 1, 0, 0, 1, 0, 0, 1, 0])]) (y := (sub (bodyOf Try.f7) [1, 0, 1, 0, 0, 1, 0, 0, 1, 1])) (Y := (fun e w => law22_light_L3 R N1 (e 0) (e 3) (e 4) w)) (law22_light_L3_eq R N1) (fun e w => by kernel_rfl)
def law22_light_s5 (R : Value → World → Prop) (N1 : List Value → World → Prop) (x0 x3 : Value) (w : World) : Prop :=
  lenL x0 fun t7 =>
  qG Try.prog (bq .lss 3 (.tmp 5) (.tmp 7) x3 t7) w fun t8 =>
  bV t8
  (qG Try.prog (bq .lss 3 (.tmp 10) (.const (.int .i64 100)) x3 (.int .i64 100)) w fun t11 =>
  bV t11
  (law22_light_s4 R N1 x0 x3 w)
  (law22_light_s0 R x0 w))
  (law22_light_s0 R x0 w)
theorem law22_light_s5_eq (R : Value → World → Prop) (N1 : List Value → World → Prop) : ∀ e w, lift Try.prog 43 (sub (bodyOf Try.f7) [1, 0, 1, 0, 0]) (seqK (fun e w => N1 [e 0, e 3] w) (blockK 0 (seqK (fun e w => law22_light_s0 R (e 0) w) (finK Try.prog Try.f7.results.toList R)))) e w = law22_light_s5 R N1 (e 0) (e 3) w :=
  segs_eq (l := [(sub (bodyOf Try.f7) [1, 0, 1, 0, 0, 0])]) (y := (sub (bodyOf Try.f7) [1, 0, 1, 0, 0, 1])) (Y := (fun e w => law22_light_s4 R N1 (e 0) (e 3) w)) (seq_seg (x := (sub (bodyOf Try.f7) [1, 0, 1, 0, 0, 1, 0])) (y := (sub (bodyOf Try.f7) [1, 0, 1, 0, 0, 1, 1])) (law22_light_s1_eq R N1) (law22_light_s4_eq R N1)) (fun e w => by kernel_rfl)
def law22_light_L6F (R : Value → World → Prop) (N1 : List Value → World → Prop) (xs : List Value) (w : World) : Prop :=
  match xs with
  | [x0, x3] => law22_light_s5 R N1 x0 x3 w
  | _ => False
def law22_light_L6 (R : Value → World → Prop) (x0 x3 : Value) (w : World) : Prop :=
  ∃ m, loopV (law22_light_L6F R) m [x0, x3] w
theorem law22_light_L6_eq (R : Value → World → Prop) : ∀ e w, lift Try.prog 43 (sub (bodyOf Try.f7) [1, 0, 1, 0]) (blockK 0 (seqK (fun e w => law22_light_s0 R (e 0) w) (finK Try.prog Try.f7.results.toList R))) e w = law22_light_L6 R (e 0) (e 3) w := loop_seg (F := law22_light_L6F R) (sel := fun e => [e 0, e 3]) fun N1 => (law22_light_s5_eq R N1)
def law22_light_s7 (R : Value → World → Prop) (x0 : Value) (w : World) : Prop :=
  law22_light_L6 R x0 (.int .i64 0) w
theorem law22_light_s7_eq (R : Value → World → Prop) : ∀ e w, lift Try.prog 43 (sub (bodyOf Try.f7) [1, 0]) (seqK (fun e w => law22_light_s0 R (e 0) w) (finK Try.prog Try.f7.results.toList R)) e w = law22_light_s7 R (e 0) w :=
  segs_eq (l := [(sub (bodyOf Try.f7) [1, 0, 0])]) (y := (sub (bodyOf Try.f7) [1, 0, 1])) (Y := (fun e w => law22_light_L6 R (e 0) (e 3) w)) (law22_light_L6_eq R) (fun e w => by kernel_rfl)
def law22_light_s8 (R : Value → World → Prop) (x0 : Value) (w : World) : Prop :=
  law22_light_s7 R x0 w
theorem law22_light_s8_eq (R : Value → World → Prop) : ∀ e w, lift Try.prog 43 (bodyOf Try.f7) (finK Try.prog Try.f7.results.toList R) e w = law22_light_s8 R (e 0) w :=
  segs_eq (l := [(sub (bodyOf Try.f7) [0])]) (y := (sub (bodyOf Try.f7) [1])) (Y := (fun e w => law22_light_s7 R (e 0) w)) (seq_seg (x := (sub (bodyOf Try.f7) [1, 0])) (y := (sub (bodyOf Try.f7) [1, 1])) (law22_light_s0_eq R) (law22_light_s7_eq R)) (fun e w => by kernel_rfl)
def law22_light (R : Value → World → Prop) (x0 : Value) (w : World) : Prop := law22_light_s8 R x0 w
theorem law22_light_call {R : Value → World → Prop} {x0 : Value} {w : World} (h : law22_light R x0 w) : callG Try.prog 7 #[x0] w R :=
  calls_lift_eq Try.mixed Try.func7 (args := [x0]) rfl rfl rfl rfl ((law22_light_s8_eq R) (envOf [x0]) w) (by kernel_rfl) h
/-! quayside/quaysidelaw22.same -/
/-! quayside/quaysidelaw22.awake -/
def law22_awake_s0 (R : Value → World → Prop) (w : World) : Prop :=
  callG Try.prog 20 #[(.int .i64 1)] w fun t3 w =>
  bsl 35 3 1 (zc Try.prog 35) #[(0, t3)] w fun t4 w =>
  callG Try.prog 20 #[(.int .i64 2)] w fun t5 w =>
  bsl 35 3 1 (zc Try.prog 35) #[(0, t5)] w fun t6 w =>
  callG Try.prog 20 #[(.int .i64 2)] w fun t7 w =>
  bsl 35 3 1 (zc Try.prog 35) #[(0, t7)] w fun t8 w =>
  bld [(0, 1), (1, 1), (2, 1)] (zc Try.prog 35) #[] fun t9 =>
  bsl 35 3 1 (zc Try.prog 35) #[(0, t9)] w fun t10 w =>
  bsl 44 1 4 (zc Try.prog 44) #[(0, t4), (1, t6), (2, t8), (3, t10)] w fun t11 w =>
  callG Try.prog 9 #[(.int .i64 1), t11] w fun t12 w =>
  newG (zc Try.prog 27) 27 w fun t1 w =>
  stn 2 t1 t12 w fun w =>
  callG Try.prog 20 #[(.int .i64 2)] w fun t13 w =>
  bld [(0, 1), (1, 1), (2, 3)] (zc Try.prog 37) #[(0, (.bool true)), (2, t13)] fun t14 =>
  newG (zc Try.prog 37) 37 w fun t2 w =>
  stn 5 t2 t14 w fun w =>
  fa 0 t1 fun t15 =>
  ld1 t15 (World.drew w) fun t16 =>
  qG Try.prog (bq .eql 3 (.tmp 16) (.const (.int .i64 4)) t16 (.int .i64 4)) (World.drew w) fun t17 =>
  bV t17
  (fa 1 t1 fun t19 =>
  ld1 t19 (World.drew w) fun t20 =>
  lenL t20 fun t21 =>
  qG Try.prog (bq .eql 3 (.tmp 21) (.const (.int .i64 1)) t21 (.int .i64 1)) (World.drew w) fun t22 =>
  bV t22
  (fa 1 t1 fun t25 =>
  ld1 t25 (World.drew w) fun t26 =>
  ia 3 t26 (.int .i64 0) fun t27 =>
  fa 0 t27 fun t28 =>
  ld1 t28 (World.drew w) fun t29 =>
  qG Try.prog (bq .eql 3 (.tmp 29) (.const (.int .i64 1)) t29 (.int .i64 1)) (World.drew w) fun t30 =>
  bV t30
  (fa 1 t1 fun t33 =>
  ld1 t33 (World.drew w) fun t34 =>
  ia 3 t34 (.int .i64 0) fun t35 =>
  fa 1 t35 fun t36 =>
  ld1 t36 (World.drew w) fun t37 =>
  qG Try.prog (bq .eql 3 (.tmp 37) (.const (.int .i64 2)) t37 (.int .i64 2)) (World.drew w) fun t38 =>
  bV t38
  (fa 1 t1 fun t41 =>
  ld1 t41 (World.drew w) fun t42 =>
  ia 3 t42 (.int .i64 0) fun t43 =>
  fa 2 t43 fun t44 =>
  ld1 t44 (World.drew w) fun t45 =>
  lenL t45 fun t46 =>
  qG Try.prog (bq .eql 3 (.tmp 46) (.const (.int .i64 3)) t46 (.int .i64 3)) (World.drew w) fun t47 =>
  bV t47
  (ldn 2 t1 (World.drew w) fun t50 =>
  callG Try.prog 20 #[(.int .i64 2)] (World.drew w) fun t51 w =>
  ldn 2 t1 w (fun u => u = t50) ∧
  callG Try.prog 12 #[t50, (.int .i64 0), t51] w fun t52 w =>
  qG Try.prog (bq .eql 3 (.tmp 52) (.const (.int .i64 1)) t52 (.int .i64 1)) w fun t53 =>
  bV t53
  (ldn 2 t1 w fun t56 =>
  ldn 5 t2 w fun t57 =>
  ldn 5 t2 w fun t58 =>
  callG Try.prog 13 #[t56, (.int .i64 0), t57, t58] w fun t59 w =>
  qG Try.prog (bq .eql 3 (.tmp 59) (.const (.int .i64 2)) t59 (.int .i64 2)) w fun t60 =>
  bV t60
  (ldn 2 t1 w fun t63 =>
  callG Try.prog 21 #[t63, (.slice none 0 0)] w fun t64 w =>
  qG Try.prog (bq .eql 3 (.tmp 64) (.const (.int .i64 4)) t64 (.int .i64 4)) w fun t65 =>
  bV t65
  (ldn 2 t1 w fun t68 =>
  ldn 2 t1 w fun t69 =>
  callG Try.prog 17 #[t68, (.int .i64 0), (.int .i64 4), t69, (.int .i64 0), (.int .i64 4)] w fun t70 w =>
  qG Try.prog (bq .eql 3 (.tmp 70) (.const (.int .i64 8)) t70 (.int .i64 8)) w fun t71 =>
  R t71 w)
  (R (.bool false) w))
  (R (.bool false) w))
  (R (.bool false) w))
  (R (.bool false) (World.drew w)))
  (R (.bool false) (World.drew w)))
  (R (.bool false) (World.drew w)))
  (R (.bool false) (World.drew w)))
  (R (.bool false) (World.drew w))
theorem law22_awake_s0_eq (R : Value → World → Prop) : ∀ e w, lift Try.prog 73 (bodyOf Try.f8) (finK Try.prog Try.f8.results.toList R) e w = law22_awake_s0 R w := fun e w => by kernel_rfl
def law22_awake (R : Value → World → Prop) (w : World) : Prop := law22_awake_s0 R  w
theorem law22_awake_call {R : Value → World → Prop} {w : World} (h : law22_awake R w) : callG Try.prog 8 #[] w R :=
  calls_lift_eq Try.mixed Try.func8 (args := []) rfl rfl rfl rfl ((law22_awake_s0_eq R) (envOf []) w) (by kernel_rfl) h
/-! quayside/quaysidelaw22.StatOf -/
/-! quayside/quaysidelaw22.StatFinds -/
/-! quayside/quaysidelaw22.StatWiders -/
/-! quayside/quaysidelaw22.StatJoined -/
def law22_StatJoined_s0 (R : Value → World → Prop) (x0 x1 x5 x7 x8 : Value) (w : World) : Prop :=
  ldn 2 x7 w fun t65 =>
  iaA 4 1 x5 (.int .i64 0) fun t66 =>
  ld1 t66 w fun t67 =>
  lenL x0 fun t69 =>
  ldn 2 x8 w fun t70 =>
  iaA 4 1 x5 (.int .i64 2) fun t71 =>
  ld1 t71 w fun t72 =>
  lenL x1 fun t74 =>
  callG Try.prog 17 #[t65, t67, t69, t70, t72, t74] w fun t75 w =>
  qG Try.prog (bq .geq 3 (.tmp 76) (.const (.int .i64 0)) t75 (.int .i64 0)) w fun t77 =>
  bV t77
  (lenL x0 fun t81 =>
  lenL x1 fun t83 =>
  qG Try.prog (bq .mul 3 (.tmp 81) (.tmp 83) t81 t83) w fun t84 =>
  qG Try.prog (bq .leq 3 (.tmp 79) (.tmp 84) t75 t84) w fun t85 =>
  bV t85
  (callG Try.prog 20 #[t75] w fun t89 w =>
  bld [(0, 1), (1, 1), (2, 3)] (zc Try.prog 37) #[] fun t90 =>
  bld [(0, 1), (1, 1), (2, 3)] (zc Try.prog 37) #[] fun t91 =>
  callG Try.prog 19 #[t89, t90, t91] w fun t92 w =>
  bV t92
  (callG Try.prog 8 #[] w fun t95 w =>
  R t95 w)
  (R (.bool false) w))
  (R (.bool false) w))
  (R (.bool false) w)
theorem law22_StatJoined_s0_eq (R : Value → World → Prop) : ∀ e w, lift Try.prog 97 (sub (bodyOf Try.f6) [1, 1, 1, 1, 1]) (finK Try.prog Try.f6.results.toList R) e w = law22_StatJoined_s0 R (e 0) (e 1) (e 5) (e 7) (e 8) w := fun e w => by kernel_rfl
def law22_StatJoined_s1 (R : Value → World → Prop) (x0 x1 x5 : Value) (w : World) : Prop :=
  callG Try.prog 9 #[(.int .i64 3), x0] w fun t21 w =>
  callG Try.prog 9 #[(.int .i64 3), x1] w fun t23 w =>
  newG (zc Try.prog 27) 27 w fun t7 w =>
  newG (zc Try.prog 27) 27 w fun t8 w =>
  stn 2 t7 t21 w fun w =>
  stn 2 t8 t23 w fun w =>
  ldn 2 t7 w fun t24 =>
  iaA 4 1 x5 (.int .i64 0) fun t25 =>
  ld1 t25 w fun t26 =>
  iaA 4 1 x5 (.int .i64 1) fun t27 =>
  ld1 t27 w fun t28 =>
  ldn 2 t8 w fun t29 =>
  iaA 4 1 x5 (.int .i64 2) fun t30 =>
  ld1 t30 w fun t31 =>
  iaA 4 1 x5 (.int .i64 3) fun t32 =>
  ld1 t32 w fun t33 =>
  callG Try.prog 17 #[t24, t26, t28, t29, t31, t33] w fun t34 w =>
  iaA 4 1 x5 (.int .i64 0) fun t38 =>
  ld1 t38 (World.drew w) fun t39 =>
  iaA 4 1 x5 (.int .i64 1) fun t40 =>
  ld1 t40 (World.drew w) fun t41 =>
  iaA 4 1 x5 (.int .i64 2) fun t44 =>
  ld1 t44 (World.drew w) fun t45 =>
  iaA 4 1 x5 (.int .i64 3) fun t46 =>
  ld1 t46 (World.drew w) fun t47 =>
  callG Try.prog 10 #[(.int .i64 3), x0] (World.drew w) fun t37 w =>
  ld1 t46 w (fun u => u = t47) ∧
  ld1 t44 w (fun u => u = t45) ∧
  ld1 t40 w (fun u => u = t41) ∧
  ld1 t38 w (fun u => u = t39) ∧
  callG Try.prog 10 #[(.int .i64 3), x1] w fun t43 w =>
  ld1 t46 w (fun u => u = t47) ∧
  ld1 t44 w (fun u => u = t45) ∧
  ld1 t40 w (fun u => u = t41) ∧
  ld1 t38 w (fun u => u = t39) ∧
  callG Try.prog 18 #[t37, t39, t41, t43, t45, t47] w fun t48 w =>
  qG Try.prog (bq .neq 3 (.tmp 35) (.tmp 48) t34 t48) w fun t49 =>
  bV t49
  (R (.bool false) w)
  (ldn 2 t8 w fun t52 =>
  iaA 4 1 x5 (.int .i64 2) fun t53 =>
  ld1 t53 w fun t54 =>
  iaA 4 1 x5 (.int .i64 3) fun t55 =>
  ld1 t55 w fun t56 =>
  ldn 2 t7 w fun t57 =>
  iaA 4 1 x5 (.int .i64 0) fun t58 =>
  ld1 t58 w fun t59 =>
  iaA 4 1 x5 (.int .i64 1) fun t60 =>
  ld1 t60 w fun t61 =>
  callG Try.prog 17 #[t52, t54, t56, t57, t59, t61] w fun t62 w =>
  qG Try.prog (bq .neq 3 (.tmp 51) (.tmp 62) t34 t62) w fun t63 =>
  bV t63
  (R (.bool false) w)
  (law22_StatJoined_s0 R x0 x1 x5 t7 t8 w))
theorem law22_StatJoined_s1_eq (R : Value → World → Prop) : ∀ e w, lift Try.prog 97 (sub (bodyOf Try.f6) [1, 1]) (finK Try.prog Try.f6.results.toList R) e w = law22_StatJoined_s1 R (e 0) (e 1) (e 5) w :=
  segs_eq (l := [(sub (bodyOf Try.f6) [1, 1, 0]), (sub (bodyOf Try.f6) [1, 1, 1, 0]), (sub (bodyOf Try.f6) [1, 1, 1, 1, 0])]) (y := (sub (bodyOf Try.f6) [1, 1, 1, 1, 1])) (Y := (fun e w => law22_StatJoined_s0 R (e 0) (e 1) (e 5) (e 7) (e 8) w)) (law22_StatJoined_s0_eq R) (fun e w => by kernel_rfl)
def law22_StatJoined_s2 (R : Value → World → Prop) (x0 x1 x2 : Value) (w : World) : Prop :=
  newG (Value.cells x2) 46 w fun t5 w =>
  callG Try.prog 7 #[x0] w fun t12 w =>
  qG Try.prog (Op.unary .not t12) w fun t13 =>
  bV t13
  (callG Try.prog 8 #[] w fun t19 w =>
  R t19 w)
  (callG Try.prog 7 #[x1] w fun t16 w =>
  qG Try.prog (Op.unary .not t16) w fun t17 =>
  bV t17
  (callG Try.prog 8 #[] w fun t19_1 w =>
  R t19_1 w)
  (law22_StatJoined_s1 R x0 x1 t5 w))
theorem law22_StatJoined_s2_eq (R : Value → World → Prop) : ∀ e w, lift Try.prog 97 (bodyOf Try.f6) (finK Try.prog Try.f6.results.toList R) e w = law22_StatJoined_s2 R (e 0) (e 1) (e 2) w :=
  segs_eq (l := [(sub (bodyOf Try.f6) [0]), (sub (bodyOf Try.f6) [1, 0])]) (y := (sub (bodyOf Try.f6) [1, 1])) (Y := (fun e w => law22_StatJoined_s1 R (e 0) (e 1) (e 5) w)) (law22_StatJoined_s1_eq R) (fun e w => by kernel_rfl)
def law22_StatJoined (R : Value → World → Prop) (x0 x1 x2 : Value) (w : World) : Prop := law22_StatJoined_s2 R x0 x1 x2 w
theorem law22_StatJoined_call {R : Value → World → Prop} {x0 x1 x2 : Value} {w : World} (h : law22_StatJoined R x0 x1 x2 w) : callG Try.prog 6 #[x0, x1, x2] w R :=
  calls_lift_eq Try.mixed Try.func6 (args := [x0, x1, x2]) rfl rfl rfl rfl ((law22_StatJoined_s2_eq R) (envOf [x0, x1, x2]) w) (by kernel_rfl) h
end Go.Proofs

/- Layer 22: the statements' own functions; what must come. -/
set_option maxRecDepth 100000
set_option linter.unusedVariables false
set_option linter.unusedSimpArgs false
namespace Go.Proofs
open Go Go.Q
section
variable {w : World} {R : Value → World → Prop}
def nV (n : Int) : V3 := ⟨1, n, []⟩
theorem bld_num {z : Int} {K : Value → Prop} : bld [(0, 1), (1, 1), (2, 1)] (zc Try.prog 35) #[(0, (.int .i64 1)), (1, .int .i64 z)] K = K (valA (nV z)) := by
  rw [zcVal]; rfl
theorem num_spec (z : Int) (hR : ∀ w', Kp [] w w' → R (valA (nV z)) w') : callG Try.prog 20 #[.int .i64 z] w R := by
  refine law22_num_call ?_
  unfold law22_num law22_num_s0
  refine newB fun x2 w1 hx2 h2 k1 => ?_
  rw [bld_num]
  unfold valA
  refine retB (by kernel_rfl) (by kernel_rfl) h2 (by rw [zcVal]; rfl) rfl (by simp [valV]) fun w6 hk6 => ?_
  exact hR w6 (k1.trans hk6 fun x hx hlt => by simp at hx; omega)
theorem light_spec {x0 : Value} {rows : List (List V3)} (hx : Nst 3 valV w x0 rows) (hT : rows.length ≤ 100 → (∀ r ∈ rows, r.length ≤ 8) → ∀ w', Kp [] w w' → R (.bool true) w') (hF : ∀ w', Kp [] w w' → R (.bool false) w') : callG Try.prog 7 #[x0] w R := by
  refine law22_light_call ?_
  unfold law22_light law22_light_s8 law22_light_s7 law22_light_L6
  have fin : ∀ w', Kp [] w w' → (rows.length ≤ 100 → ∀ r ∈ rows, r.length ≤ 8) → law22_light_s0 R x0 w' := by
    intro w' hk' h8
    unfold law22_light_s0
    rw [hx.lenL]
    simp only [bq_leq]
    by_cases h : (rows.length : Int) ≤ 100
    · rw [decide_eq_true h]; exact hT (by omega) (h8 (by omega)) w' hk'
    · rw [decide_eq_false h]; exact hF w' hk'
  refine loop_inv (fun m xs wi => ∃ i, i ≤ 100 ∧ i ≤ rows.length ∧ m = 100 - i ∧ xs = [x0, .int .i64 (i : Nat)] ∧ Kp [] w wi ∧ ∀ j (h : j < rows.length), j < i → rows[j].length ≤ 8) ?_ (m := 100) ⟨0, by omega, by omega, by omega, rfl, Kp.refl _ _, fun j _ h => by omega⟩
  rintro m N xs wi ⟨i, hi, hil, rfl, rfl, hk, h8⟩ hN
  have hxi := hx.keep hk
  have hiw : IntKind.i64.wrap ((i : Int) + 1) = ((i + 1 : Nat) : Int) := by rw [w64 (by omega) (by omega)]; simp
  unfold law22_light_L6F law22_light_s5
  dsimp only
  rw [hxi.lenL]
  simp only [bq_lss, bV_b, decide_eq_true_eq, decide_eq_false_iff_not]
  refine ⟨fun hlt => ⟨fun hlt2 => ?_, fun hge => fin wi hk fun hle r hr => ?_⟩, fun hge => fin wi hk fun hle r hr => ?_⟩
  · have hlt : i < rows.length := by omega
    obtain ⟨p, r, p1, p2, p3⟩ := hxi.at hlt
    unfold law22_light_s4
    rw [p1, p2 _ (Kp.refl _ _), p3.lenL, List.length_map]
    simp only [bq_gtr, bV_b, decide_eq_true_eq, decide_eq_false_iff_not]
    refine ⟨fun _ => hF wi hk, fun hr8 => ?_⟩
    have hr8 : rows[i].length ≤ 8 := by omega
    unfold law22_light_L3
    refine loop_inv (fun m2 xs wj => ∃ k, k ≤ rows[i].length ∧ m2 = rows[i].length - k ∧ xs = [x0, .int .i64 (i : Nat), .int .i64 (k : Nat)] ∧ wj = wi) ?_ (m := rows[i].length) ⟨0, by omega, rfl, rfl, rfl⟩
    rintro m2 N2 xs wj ⟨k, hkl, rfl, rfl, rfl⟩ hN2
    have hkw : IntKind.i64.wrap ((k : Int) + 1) = ((k + 1 : Nat) : Int) := by rw [w64 (by omega) (by omega)]; simp
    unfold law22_light_L3F law22_light_b2
    dsimp only
    rw [p1, p2 _ (Kp.refl _ _), p3.lenL, List.length_map]
    simp only [bq_lss, bV_b, decide_eq_true_eq, decide_eq_false_iff_not]
    refine ⟨fun hklt => ?_, fun _ => ?_⟩
    · have hklt : k < rows[i].length := by omega
      obtain ⟨q, q1, q2, q3⟩ := p3.get (i := k) (by simpa using hklt)
      have hrow : (rows[i].map valV)[k]'(by simpa using hklt) = valV rows[i][k] := by simp
      have hs : ((rows[i].map valV)[k]'(by simpa using hklt))[2]'(by rw [hrow]; simp [valV]) = .string (str rows[i][k].s) := by simp only [hrow]; rfl
      rw [p1, p2 _ (Kp.refl _ _), q1, q3 2 (by rw [hrow]; simp [valV]), hs]
      simp only [lenS_s, bq_gtr, bV_b, decide_eq_true_eq, decide_eq_false_iff_not, bq_add, hkw]
      refine ⟨fun _ => hF _ hk, fun _ => hN2 (rows[i].length - (k + 1)) _ _ (by omega) ⟨k + 1, by omega, rfl, rfl, rfl⟩⟩
    · unfold law22_light_s1
      simp only [bq_add, hiw]
      refine hN (100 - (i + 1)) _ _ (by omega) ⟨i + 1, by omega, by omega, rfl, rfl, hk, fun j hj hji => ?_⟩
      by_cases e : j = i
      · subst e; exact hr8
      · exact h8 j hj (by omega)
  · obtain ⟨j, hj, rfl⟩ := List.getElem_of_mem hr
    exact h8 j hj (by omega)
  · obtain ⟨j, hj, rfl⟩ := List.getElem_of_mem hr
    exact h8 j hj (by omega)
end

def rows0 : List (List V3) := [[nV 1], [nV 2], [nV 2], [⟨0, 0, []⟩]]
theorem stat0 : statV 1 rows0 = ⟨4, [⟨1, 2, [nV 1, nV 2, nV 2]⟩]⟩ := by rfl
theorem same0 : sameQ (statV 1 rows0) 0 (nV 2) = 1 := by decide
theorem btw0 : betweenQ (statV 1 rows0) 0 (bAt (nV 2)) (bAt (nV 2)) = 2 := by decide
theorem joined0 : joinedQ (statV 1 rows0) 0 4 (statV 1 rows0) 0 4 = 8 := by decide
section
variable {w : World} {R : Value → World → Prop}
theorem awake22 (hR : ∀ w', Kp [] w w' → R (.bool true) w') : callG Try.prog 8 #[] w R := by
  refine law22_awake_call ?_
  unfold law22_awake law22_awake_s0
  refine num_spec 1 fun w1 k1 => ?_
  refine bsl_rowN (n := 3) (cs := valV (nV 1)) (by omega) rfl rfl fun t4 w2 f4 => ?_
  refine num_spec 2 fun w3 k3 => ?_
  refine bsl_rowN (n := 3) (cs := valV (nV 2)) (by omega) rfl rfl fun t6 w4 f6 => ?_
  refine num_spec 2 fun w5 k5 => ?_
  refine bsl_rowN (n := 3) (cs := valV (nV 2)) (by omega) rfl rfl fun t8 w6 f8 => ?_
  have bz : ∀ K : Value → Prop, bld [(0, 1), (1, 1), (2, 1)] (zc Try.prog 35) #[] K = K (valA ⟨0, 0, []⟩) := fun K => by rw [zcVal]; rfl
  rw [bz]
  refine bsl_rowN (n := 3) (cs := valV ⟨0, 0, []⟩) (by omega) rfl rfl fun t10 w7 f10 => ?_
  have o4 := f4.one
  have o6 := f6.one
  have o8 := f8.one
  have o10 := f10.one
  have c1 : ∀ v : Value, Q.one v = true → Value.cells v = [v].toArray := fun v h => by cases v <;> simp [Q.one] at h <;> rfl
  refine bsl_rowsX (n := 1) (len := 4) (xs := [t4, t6, t8, t10]) (rows := [t4, t6, t8, t10].map cel) (by omega) rfl (by simp [cel, c1 _ o4, c1 _ o6, c1 _ o8, c1 _ o10]) (by simp [cel]) (by omega) fun t11 o hf => ?_
  obtain ⟨w8, hw8⟩ : ∃ w8, w8 = w7.alloc o := ⟨_, rfl⟩
  rw [← hw8] at hf ⊢
  have k78 := hf.kp
  have k68 := f10.kp.trans' k78
  have k48 := (k5.trans' f8.kp).trans' k68
  have k28 := (k3.trans' f6.kp).trans' k48
  have k08 := k1.trans' (f4.kp.trans' k28)
  have hx : Nst 3 valV w8 t11 rows0 := by
    refine ⟨[t4, t6, t8, t10], hf.rd, rfl, fun i hi v hv => ?_⟩
    have hi : i < 4 := hi
    match i, hi with
    | 0, _ => simp at hv; subst hv; exact f4.rd.keep k28
    | 1, _ => simp at hv; subst hv; exact f6.rd.keep k48
    | 2, _ => simp at hv; subst hv; exact f8.rd.keep k68
    | 3, _ => simp at hv; subst hv; exact f10.rd.keep k78
  refine Of_spec hx (by decide) (by decide) 1 fun w9 val k9 hst => ?_
  have hst0 := hst
  rw [stat0] at hst0
  obtain ⟨o, css, hval, ho, hrd, hlen, hcol⟩ := hst0
  have hlen : css.length = 1 := hlen
  have hval : val = .agg #[.int .i64 ((4 : Nat) : Int), o] := hval
  obtain ⟨sv, hcs, hsv1, Ssv, hsv, _⟩ := hcol 0 (by decide) (css[0]'(by omega)) (by simp [hlen])
  have hcs : css[0]'(by omega) = cC 1 2 sv := hcs
  refine newB fun x1 wa hx1 h1 ka => ?_
  rw [hval, stA (k := 2) h1 (by rw [zcSt]; rfl) rfl (by simp [ho])]
  obtain ⟨wb, hwb⟩ : ∃ wb, wb = setBlk wa x1 (.cells #[.int .i64 ((4 : Nat) : Int), o] 27) := ⟨_, rfl⟩
  have kb : Kp [] w9 wb := by rw [hwb]; exact ka.setBlk (.inr hx1) _
  have g1 : wb.heap[x1]? = some (.cells #[.int .i64 ((4 : Nat) : Int), o] 27) := by rw [hwb]; exact heap_self (live_of h1)
  rw [← hwb]
  refine num_spec 2 fun wc kc => ?_
  rw [bld_at_val]
  refine newB fun x2 wd hx2 h2 kd => ?_
  unfold bdA
  rw [stA (k := 5) h2 (by rw [zcBd]; rfl) rfl (bC_one _)]
  obtain ⟨we, hwe⟩ : ∃ we, we = setBlk wd x2 (.cells (bC (bAt (nV 2))).toArray 37) := ⟨_, rfl⟩
  have ke : Kp [] wc we := by rw [hwe]; exact kd.setBlk (.inr hx2) _
  have g2 : we.heap[x2]? = some (.cells (bC (bAt (nV 2))).toArray 37) := by rw [hwe]; exact heap_self (live_of h2)
  rw [← hwe]
  have kbe := (kc.trans' ke).drew
  have k9e := kb.trans' kbe
  have k0e : Kp [] w we.drew := (k08.trans' k9).trans' k9e
  have g1e := kbe.get g1 (by simp)
  have g2e : we.drew.heap[x2]? = some (.cells (bC (bAt (nV 2))).toArray 37) := g2
  have hste := hst.keep k9e
  have hrde := hrd.keep k9e
  have hsve : Rd we.drew sv 3 ([nV 1, nV 2, nV 2].map valV) := Rd.keep ⟨Ssv, hsv⟩ k9e
  generalize we.drew = wf at k0e g1e g2e hste hrde hsve ⊢
  have ld1' : ∀ w', Kp [] wf w' → ∀ K : Value → Prop, ldn 2 (.pointer (some ⟨x1, 0, none⟩)) w' K = K val := fun w' hk' K => by rw [ldA (k := 2) (hk'.get g1e (by simp)) rfl, hval]
  obtain ⟨p, p1, p2, p3⟩ := hrde.get (i := 0) (by omega)
  have p1' : ∀ K, ia 3 o (.int .i64 0) K = K p := fun K => p1 .i64 K
  have f0 : ∀ K : Value → Prop, (fa 0 p fun q => ld1 q wf K) = K (.int .i64 1) := fun K => by rw [p3 0 (by rw [hcs]; simp [cC])]; simp only [hcs]; rfl
  have f1 : ∀ K : Value → Prop, (fa 1 p fun q => ld1 q wf K) = K (.int .i64 2) := fun K => by rw [p3 1 (by rw [hcs]; simp [cC])]; simp only [hcs]; rfl
  have f2 : ∀ K : Value → Prop, (fa 2 p fun q => ld1 q wf K) = K sv := fun K => by rw [p3 2 (by rw [hcs]; simp [cC])]; simp only [hcs]; rfl
  rw [fa_p, ldF (x := .int .i64 ((4 : Nat) : Int)) g1e rfl]
  simp only [bq_eql, bV_b, decide_eq_true_eq, decide_eq_false_iff_not]
  refine ⟨fun _ => ?_, fun h => absurd (by first | trivial | rfl | decide) h⟩
  rw [fa_p, ldF (x := o) g1e rfl, hrde.lenL, hlen]
  simp only [bq_eql, bV_b, decide_eq_true_eq, decide_eq_false_iff_not]
  refine ⟨fun _ => ?_, fun h => absurd (by first | trivial | rfl | decide) h⟩
  rw [fa_p, ldF (x := o) g1e rfl, p1', f0]
  simp only [bq_eql, bV_b, decide_eq_true_eq, decide_eq_false_iff_not]
  refine ⟨fun _ => ?_, fun h => absurd (by first | trivial | rfl | decide) h⟩
  rw [fa_p, ldF (x := o) g1e rfl, p1', f1]
  simp only [bq_eql, bV_b, decide_eq_true_eq, decide_eq_false_iff_not]
  refine ⟨fun _ => ?_, fun h => absurd (by first | trivial | rfl | decide) h⟩
  rw [fa_p, ldF (x := o) g1e rfl, p1', f2, hsve.lenL]
  simp only [bq_eql, bV_b, decide_eq_true_eq, decide_eq_false_iff_not]
  refine ⟨fun _ => ?_, fun h => absurd (by first | trivial | rfl | decide) h⟩
  rw [ld1' _ (Kp.refl _ _)]
  refine num_spec 2 fun wg kg => ?_
  rw [ld1' _ kg]
  refine ⟨rfl, ?_⟩
  refine Same_spec (hste.keep kg) (by decide) 0 (nV 2) fun wh kh => ?_
  rw [same0]
  simp only [bq_eql, bV_b, decide_eq_true_eq, decide_eq_false_iff_not]
  refine ⟨fun _ => ?_, fun h => absurd (by first | trivial | rfl | decide) h⟩
  have k2 := kg.trans' kh
  rw [ld1' _ k2, ldA (k := 5) (k2.get g2e (by simp)) rfl, ldA (k := 5) (k2.get g2e (by simp)) rfl]
  refine Between_spec (hste.keep k2) (by decide) 0 (bAt (nV 2)) (bAt (nV 2)) fun wi ki => ?_
  rw [btw0]
  simp only [bq_eql, bV_b, decide_eq_true_eq, decide_eq_false_iff_not]
  refine ⟨fun _ => ?_, fun h => absurd (by first | trivial | rfl | decide) h⟩
  have k3 := k2.trans' ki
  rw [ld1' _ k3]
  refine Kept0_spec (hste.keep k3) fun wj kj => ?_
  simp only [bq_eql, bV_b, decide_eq_true_eq, decide_eq_false_iff_not]
  refine ⟨fun _ => ?_, fun h => absurd (by first | trivial | rfl | decide) h⟩
  have k4 := k3.trans' kj
  rw [ld1' _ k4, ld1' _ k4]
  refine Joined_spec (hste.keep k4) (hste.keep k4) 0 4 0 4 fun wk kk => ?_
  rw [joined0]
  simp only [bq_eql]
  exact hR wk (k0e.trans' (k4.trans' kk))
end
end Go.Proofs

/- Layer 22: the four statements. -/
set_option maxRecDepth 100000
set_option linter.unusedVariables false
set_option linter.unusedSimpArgs false
namespace Go.Proofs
open Go Go.Q
section
variable {w : World} {R : Value → World → Prop}
theorem and255 {xo yo : Operand} {w : World} {T : TypeId} {x : Int} {K : Value → Prop} (hK : ∀ c : Nat, c < 256 → K (.int .i64 c)) : qG Try.prog (bq .and T xo yo (.int .i64 x) (.int .i64 255)) w K := by
  have h : (bq .and T xo yo (.int .i64 x) (.int .i64 255)).run Try.prog w = .ok (.int .i64 (IntKind.i64.wrap ((BitVec.ofInt 64 x &&& BitVec.ofInt 64 255).toNat : Int))) w := run_bq_int (s := .pure _) fun w => by
    simp only [binOp, ne_eq, not_true_eq_false, if_false, Op.intBits]
    rfl
  have hle : (BitVec.ofInt 64 x &&& BitVec.ofInt 64 255).toNat ≤ 255 := by
    rw [BitVec.toNat_and]
    exact Nat.and_le_right
  rw [qG_of h, wrap_nat64 (by omega)]
  exact hK _ (by omega)
theorem in_num (z : Int) : inT (nV z) bNone bNone = true := by rfl
theorem statJoined_spec {x0 x1 : Value} {ra rb : List (List V3)} (hx0 : Nst 3 valV w x0 ra) (hx1 : Nst 3 valV w x1 rb) (a b c d : Int) (hR : ∀ w', Kp [] w w' → R (.bool true) w') : callG Try.prog 6 #[x0, x1, .agg #[.int .i64 a, .int .i64 b, .int .i64 c, .int .i64 d]] w R := by
  refine law22_StatJoined_call ?_
  unfold law22_StatJoined law22_StatJoined_s2
  refine argB fun x5 w1 hx5 h5 k1 => ?_
  have aw : ∀ w', Kp [] w w' → callG Try.prog 8 #[] w' fun t w => R t w := fun w' hk => awake22 fun w2 k2 => hR w2 (hk.trans' k2)
  have e0 : ∀ K : Value → Prop, iaA 4 1 (.pointer (some ⟨x5, 0, none⟩)) (.int .i64 0) K = K (.pointer (some ⟨x5, 0, none⟩)) := fun K => by rw [iaA_p]; simp
  have e1 : ∀ K : Value → Prop, iaA 4 1 (.pointer (some ⟨x5, 0, none⟩)) (.int .i64 1) K = K (.pointer (some ⟨x5, 1, none⟩)) := fun K => by rw [iaA_p]; simp
  have e2 : ∀ K : Value → Prop, iaA 4 1 (.pointer (some ⟨x5, 0, none⟩)) (.int .i64 2) K = K (.pointer (some ⟨x5, 2, none⟩)) := fun K => by rw [iaA_p]; simp
  have e3 : ∀ K : Value → Prop, iaA 4 1 (.pointer (some ⟨x5, 0, none⟩)) (.int .i64 3) K = K (.pointer (some ⟨x5, 3, none⟩)) := fun K => by rw [iaA_p]; simp
  have v0 : ∀ w', Kp [] w1 w' → ∀ K : Value → Prop, ld1 (.pointer (some ⟨x5, 0, none⟩)) w' K = K (.int .i64 a) := fun w' hk K => ldF (hk.get h5 (by simp)) rfl
  have v1 : ∀ w', Kp [] w1 w' → ∀ K : Value → Prop, ld1 (.pointer (some ⟨x5, 1, none⟩)) w' K = K (.int .i64 b) := fun w' hk K => ldF (hk.get h5 (by simp)) rfl
  have v2 : ∀ w', Kp [] w1 w' → ∀ K : Value → Prop, ld1 (.pointer (some ⟨x5, 2, none⟩)) w' K = K (.int .i64 c) := fun w' hk K => ldF (hk.get h5 (by simp)) rfl
  have v3 : ∀ w', Kp [] w1 w' → ∀ K : Value → Prop, ld1 (.pointer (some ⟨x5, 3, none⟩)) w' K = K (.int .i64 d) := fun w' hk K => ldF (hk.get h5 (by simp)) rfl
  refine light_spec (hx0.keep k1) (fun hla h8a w2 k2 => ?_) fun w2 k2 => ?_
  · have k02 := k1.trans' k2
    simp only [un_not, bV_b]
    refine ⟨fun h => by simp at h, fun _ => ?_⟩
    refine light_spec (hx1.keep k02) (fun hlb h8b w3 k3 => ?_) fun w3 k3 => ?_
    · have k03 := k02.trans' k3
      simp only [un_not, bV_b]
      refine ⟨fun h => by simp at h, fun _ => ?_⟩
      have h30a : ∀ r ∈ ra, r.length < 2 ^ 30 := fun r hr => by have := h8a r hr; omega
      have h30b : ∀ r ∈ rb, r.length < 2 ^ 30 := fun r hr => by have := h8b r hr; omega
      unfold law22_StatJoined_s1
      refine Of_spec (hx0.keep k03) (by omega) h30a 3 fun w4 va k4 ha => ?_
      have k04 := k03.trans' k4
      refine Of_spec (hx1.keep k04) (by omega) h30b 3 fun w5 vb k5 hb => ?_
      have ha5 := ha.keep k5
      obtain ⟨oa, ca, hva, hoa, _⟩ := id ha5
      obtain ⟨ob, cb, hvb, hob, _⟩ := id hb
      refine newB fun x7 w6 hx7 h7 k6 => ?_
      refine newB fun x8 w7 hx8 h8 k7 => ?_
      have h77 := k7.get h7 (by simp)
      have l7 := lt_of_blk h7
      have s6 := k6.size
      rw [hva, hvb, stA (k := 2) h77 (by rw [zcSt]; rfl) rfl (by simp [hoa]), stA (k := 2) (by rw [heap_ne (by omega)]; exact h8) (by rw [zcSt]; rfl) rfl (by simp [hob])]
      obtain ⟨w8, hw8⟩ : ∃ w8, w8 = setBlk (setBlk w7 x7 (.cells #[.int .i64 (statV 3 ra).rows, oa] 27)) x8 (.cells #[.int .i64 (statV 3 rb).rows, ob] 27) := ⟨_, rfl⟩
      have k58 : Kp [] w5 w8 := by rw [hw8]; exact ((k6.trans' k7).setBlk (.inr hx7) _).setBlk (.inr (by omega)) _
      have g7 : w8.heap[x7]? = some (.cells #[.int .i64 (statV 3 ra).rows, oa] 27) := by rw [hw8, heap_ne (by omega), heap_self (live_of h77)]
      have g8 : w8.heap[x8]? = some (.cells #[.int .i64 (statV 3 rb).rows, ob] 27) := by rw [hw8]; exact heap_self (by have := lt_of_blk h8; unfold Live; simpa using this)
      rw [← hw8]
      have ld7 : ∀ w', Kp [] w8 w' → ∀ K : Value → Prop, ldn 2 (.pointer (some ⟨x7, 0, none⟩)) w' K = K va := fun w' hk' K => by rw [ldA (k := 2) (hk'.get g7 (by simp)) rfl, hva]
      have ld8 : ∀ w', Kp [] w8 w' → ∀ K : Value → Prop, ldn 2 (.pointer (some ⟨x8, 0, none⟩)) w' K = K vb := fun w' hk' K => by rw [ldA (k := 2) (hk'.get g8 (by simp)) rfl, hvb]
      have k88 : Kp [] w8 w8 := Kp.refl _ _
      have k08 : Kp [] w w8 := (k04.trans' k5).trans' k58
      have k18 : Kp [] w1 w8 := (((k2.trans' k3).trans' k4).trans' k5).trans' k58
      have ha8 := ha5.keep k58
      have hb8 := hb.keep k58
      rw [ld7 _ k88, e0, v0 _ k18, e1, v1 _ k18, ld8 _ k88, e2, v2 _ k18, e3, v3 _ k18]
      refine Joined_spec ha8 hb8 a b c d fun w9 k9 => ?_
      have k8d : Kp [] w8 w9.drew := k9.drew
      have k1d := k18.trans' k8d
      have k0d := k08.trans' k8d
      rw [e0, v0 _ k1d, e1, v1 _ k1d, e2, v2 _ k1d, e3, v3 _ k1d]
      refine rOf_spec (hx0.keep k0d) (by omega) h30a 3 fun wa ua ka hua => ?_
      have k1a := k1d.trans' ka
      rw [v3 _ k1a, v2 _ k1a, v1 _ k1a, v0 _ k1a]
      refine ⟨rfl, rfl, rfl, rfl, ?_⟩
      have k0a := k0d.trans' ka
      refine rOf_spec (hx1.keep k0a) (by omega) h30b 3 fun wb ub kb hub => ?_
      have k1b := k1a.trans' kb
      rw [v3 _ k1b, v2 _ k1b, v1 _ k1b, v0 _ k1b]
      refine ⟨rfl, rfl, rfl, rfl, ?_⟩
      refine rJoined_spec (hua.keep kb) hub a b c d fun wc kc => ?_
      simp only [bq_neq, bV_b, decide_eq_true_eq, decide_eq_false_iff_not]
      refine ⟨fun h => absurd rfl h, fun _ => ?_⟩
      have k8c : Kp [] w8 wc := ((k8d.trans' ka).trans' kb).trans' kc
      have k1c := k18.trans' k8c
      rw [ld8 _ k8c, e2, v2 _ k1c, e3, v3 _ k1c, ld7 _ k8c, e0, v0 _ k1c, e1, v1 _ k1c]
      refine Joined_spec (hb8.keep k8c) (ha8.keep k8c) c d a b fun wd kd => ?_
      rw [joined_symm (statV 3 rb)]
      simp only [bq_neq, bV_b, decide_eq_true_eq, decide_eq_false_iff_not]
      refine ⟨fun h => absurd rfl h, fun _ => ?_⟩
      have k8e := k8c.trans' kd
      have k1e := k18.trans' k8e
      unfold law22_StatJoined_s0
      rw [ld7 _ k8e, e0, v0 _ k1e, hx0.lenL, ld8 _ k8e, e2, v2 _ k1e, hx1.lenL]
      refine Joined_spec (ha8.keep k8e) (hb8.keep k8e) a ra.length c rb.length fun we ke => ?_
      have hj := joined_bnd (n := 3) (m := 3) (ca := a) (cb := c) (a := ra) (b := rb) (by omega) (by omega)
      generalize joinedQ (statV 3 ra) a ra.length (statV 3 rb) c rb.length = J at *
      have hm1 : (ra.length : Int) * rb.length ≤ 100 * 100 := Int.mul_le_mul (by omega) (by omega) (by omega) (by omega)
      have hm0 : (0 : Int) ≤ (ra.length : Int) * rb.length := Int.mul_nonneg (by omega) (by omega)
      have hmw : IntKind.i64.wrap ((ra.length : Int) * rb.length) = (ra.length : Int) * rb.length := w64 (by omega) (by omega)
      have hlx : ∀ K : Value → Prop, lenL x0 K = K (.int .i64 ra.length) := fun K => hx0.lenL
      have hly : ∀ K : Value → Prop, lenL x1 K = K (.int .i64 rb.length) := fun K => hx1.lenL
      have k0f := k08.trans' (k8e.trans' ke)
      simp only [bq_geq, bV_b, decide_eq_true_eq, decide_eq_false_iff_not, hlx, hly, bq_mul, hmw, bq_leq]
      refine ⟨fun _ => ⟨fun _ => ?_, fun h => absurd hj.2 h⟩, fun h => absurd hj.1 h⟩
      refine num_spec J fun wg kg => ?_
      rw [bld_bd0, bld_bd0]
      refine rIn_spec (nV J) bNone bNone fun wh kh => ?_
      rw [in_num]
      simp only [bV_b]
      exact ⟨fun _ => aw wh ((k0f.trans' kg).trans' kh), fun h => by simp at h⟩
    · simp only [un_not, bV_b]
      exact ⟨fun _ => aw w3 (k02.trans' k3), fun h => by simp at h⟩
  · simp only [un_not, bV_b]
    exact ⟨fun _ => aw w2 (k1.trans' k2), fun h => by simp at h⟩
end
end Go.Proofs

/- Arrays that came in. -/
set_option linter.unusedVariables false
set_option linter.unusedSimpArgs false
namespace Go.Q
theorem okWide_array {P : Program} {w : World} {r : Reach} {base : Nat} {t : TypeId} {v : Value} {n : Nat} {e : TypeId} (ht : P.underlying t = some (.array n e)) (h : Value.okWide P w r base t v) : ∃ cs, v = .agg cs ∧ cs.size = P.cellsOf t := by
  simp only [Value.okWide, ht] at h
  obtain ⟨cs, h1, h2, _⟩ := h
  exact ⟨cs, h1, h2⟩
/-- the elements of an array, one behind the other -/
theorem arr_rows {H : Type} {enc : TypeId × Value → H} {P : Program} {w : World} {base : Nat} {spare : Nat → Bool} {held : Bool} {fuel : Nat} {t e : TypeId} {cs : List Value} {x : DataW H × List MemPlace} {n k : Nat} (ht : P.underlying t = some (.array n e)) (hk : P.cellsOf e = k) (hc : P.cellsOf t = n * k)
    (h : DataW.trod enc P w base spare held fuel t cs = some x) : ∃ rows : List (List Value), cs = rows.flatten ∧ rows.length = n ∧ ∀ r ∈ rows, ∃ f y, DataW.trod enc P w base spare held f e r = some y := by
  obtain ⟨xs, m, _, _, hl, hx, hel⟩ := DataW.trod_array ht h
  refine ⟨(List.range n).map fun i => (cs.drop (i * k)).take k, ?_, by simp, fun r hr => ?_⟩
  · rw [chop_flat, ← hc, ← hl, List.take_length]
  · obtain ⟨i, hi, rfl⟩ := List.mem_map.1 hr
    have hi := List.mem_range.1 hi
    have := hel i hi
    rw [hk] at this
    obtain ⟨y, hy⟩ := Option.isSome_iff_exists.1 (show (xs[i]?).isSome = true by simp; omega)
    rw [hy] at this
    exact ⟨m, y, this⟩
end Go.Q

/- What the statement's own reading says of the arguments that came in: rows, ranges, values, numbers. -/
set_option linter.unusedVariables false
set_option linter.unusedSimpArgs false
namespace Go.Proofs
open Go Go.Q
/-- an argument that the statement's own reading took -/
def Taken (w : World) (t : TypeId) (v : Value) : Prop :=
  ∃ (H : Type) (enc : TypeId × Value → H) (fuel : Nat) (x : DataW H × List MemPlace), DataW.trod enc Try.prog w 0 (fun _ => true) true fuel t v.cells.toList = some x
section
variable {H : Type} {enc : TypeId × Value → H} {w : World} {fuel n : Nat} {cs : List Value} {x : DataW H × List MemPlace}
theorem str_all (s : ByteArray) : s = str s.data.toList := by cases s; simp [str]
theorem one_celA {i : Nat} (hi : i < cs.length) : (cs.drop i).take 1 = [cs[i]] := by rw [List.drop_eq_getElem_cons hi]; rfl
theorem fld_int {i : Nat} {q : Option (DataW H × List MemPlace)} (h : DataW.trod enc Try.prog w 0 (fun _ => true) true n 3 ((cs.drop i).take (Try.prog.cellsOf 3)) = q) (hq : q.isSome = true) (hi : i < cs.length) : ∃ z : Int, cs[i] = .int .i64 z := by
  obtain ⟨y, rfl⟩ := Option.isSome_iff_exists.1 hq
  rw [show Try.prog.cellsOf 3 = 1 by kernel_rfl, one_celA hi] at h
  obtain ⟨z, e, _, hw⟩ := DataW.trod_int Try.underlying3 h
  injection e with e _
  exact ⟨z, e⟩
theorem fld_str {i : Nat} {q : Option (DataW H × List MemPlace)} (h : DataW.trod enc Try.prog w 0 (fun _ => true) true n 9 ((cs.drop i).take (Try.prog.cellsOf 9)) = q) (hq : q.isSome = true) (hi : i < cs.length) : ∃ s : List UInt8, cs[i] = .string (str s) := by
  obtain ⟨y, rfl⟩ := Option.isSome_iff_exists.1 hq
  rw [show Try.prog.cellsOf 9 = 1 by kernel_rfl, one_celA hi] at h
  obtain ⟨s, e, _, hw⟩ := DataW.trod_string Try.underlying9 h
  injection e with e _
  exact ⟨s.data.toList, by rw [e]; exact congrArg Value.string (str_all s)⟩
theorem list3 {α : Type} {r : List α} (h : r.length = 3) : ∃ a b c, r = [a, b, c] := by
  match r, h with
  | [a, b, c], _ => exact ⟨a, b, c, rfl⟩
theorem val_in (h : DataW.trod enc Try.prog w 0 (fun _ => true) true fuel 35 cs = some x) : ∃ v : V3, cs = valV v := by
  obtain ⟨xs, n, rfl, _, hl, hx, hf⟩ := DataW.trod_struct Try.underlying35 h
  rw [show Try.prog.cellsOf 35 = 3 by kernel_rfl] at hl
  have hx3 : xs.length = 3 := hx
  have g0 : DataW.trod enc Try.prog w 0 (fun _ => true) true n 3 ((cs.drop 0).take (Try.prog.cellsOf 3)) = xs[0]? := hf 0 _ rfl
  obtain ⟨z0, e0⟩ := fld_int g0 (by simp; omega) (by omega)
  have g1 : DataW.trod enc Try.prog w 0 (fun _ => true) true n 3 ((cs.drop 1).take (Try.prog.cellsOf 3)) = xs[1]? := hf 1 _ rfl
  obtain ⟨z1, e1⟩ := fld_int g1 (by simp; omega) (by omega)
  have g2 : DataW.trod enc Try.prog w 0 (fun _ => true) true n 9 ((cs.drop 2).take (Try.prog.cellsOf 9)) = xs[2]? := hf 2 _ rfl
  obtain ⟨z2, e2⟩ := fld_str g2 (by simp; omega) (by omega)
  obtain ⟨c0, c1, c2, rfl⟩ := list3 hl
  simp only [List.getElem_cons_zero, List.getElem_cons_succ] at e0 e1 e2
  subst e0 e1 e2
  exact ⟨⟨z0, z1, z2⟩, rfl⟩
theorem all_in {α : Type} {f : α → List Value} {rows : List (List Value)} (h : ∀ r ∈ rows, ∃ a, r = f a) : ∃ l : List α, rows = l.map f := by
  induction rows with
  | nil => exact ⟨[], rfl⟩
  | cons r rows ih =>
    obtain ⟨l, h1⟩ := ih fun x hx => h x (by simp [hx])
    obtain ⟨s, h3⟩ := h r (by simp)
    exact ⟨s :: l, by rw [h1, h3]; rfl⟩
theorem row_in (h : DataW.trod enc Try.prog w 0 (fun _ => true) true fuel 44 cs = some x) : ∃ (v : Value) (r : List V3), cs = [v] ∧ Rd w v 3 (r.map valV) := by
  obtain ⟨v, rows, SK, hv, harg, hlt, hlen, hr⟩ := arg_slice Try.underlying44 (n := 3) (by kernel_rfl) (by omega) h
  obtain ⟨l, hl⟩ := all_in (f := valV) (rows := rows) fun r hm => by
    obtain ⟨f, y, hy⟩ := hr r hm
    exact val_in hy
  subst hl
  exact ⟨v, l, hv, ⟨SK, harg⟩⟩
end
theorem rows_of {w : World} {rows : List (List Value)} (h : ∀ r ∈ rows, ∃ (v : Value) (l : List V3), r = [v] ∧ Rd w v 3 (l.map valV)) : ∃ (vs : List Value) (bs : List (List V3)), rows = vs.map cel ∧ vs.length = bs.length ∧ ∀ i (h : i < bs.length) v, vs[i]? = some v → Rd w v 3 (bs[i].map valV) := by
  induction rows with
  | nil => exact ⟨[], [], rfl, rfl, by simp⟩
  | cons r rows ih =>
    obtain ⟨vs, bs, h1, h2, h3⟩ := ih fun x hx => h x (by simp [hx])
    obtain ⟨v, l, h4, h5⟩ := h r (by simp)
    refine ⟨v :: vs, l :: bs, by rw [h1, h4]; rfl, by simp [h2], fun i hi u hu => ?_⟩
    cases i with
    | zero => simp at hu; subst hu; exact h5
    | succ i => exact h3 i (by simpa using hi) u (by simpa using hu)
theorem rows_taken {w : World} {a : Option Addr} {l c : Nat} (h : Taken w 22 (.slice a l c)) : ∃ rows : List (List V3), Nst 3 valV w (.slice a l c) rows := by
  obtain ⟨H, enc, fuel, x, h⟩ := h
  obtain ⟨v, rows, SK, hv, harg, hlt, hlen, hr⟩ := arg_slice Try.underlying22 (n := 1) (by kernel_rfl) (by omega) h
  obtain ⟨vs, bs, h1, h2, h3⟩ := rows_of (w := w) (rows := rows) fun r hm => by
    obtain ⟨f, y, hy⟩ := hr r hm
    exact row_in hy
  injection hv with e _
  subst e
  subst h1
  exact ⟨bs, vs, ⟨SK, harg⟩, h2, h3⟩
theorem agg_of {c : Array Value} {l : List Value} (h : c.toList = l) : Value.agg c = .agg l.toArray := by rw [← h]
theorem ints_taken {w : World} {c : Array Value} (h : Taken w 46 (.agg c)) : ∃ a b d e : Int, Value.agg c = .agg #[.int .i64 a, .int .i64 b, .int .i64 d, .int .i64 e] := by
  obtain ⟨H, enc, fuel, x, h⟩ := h
  obtain ⟨rows, h1, h2, h3⟩ := arr_rows Try.underlying46 (k := 1) (by kernel_rfl) (by kernel_rfl) h
  obtain ⟨l, hl⟩ := all_in (f := fun z : Int => [Value.int .i64 z]) (rows := rows) fun r hm => by
    obtain ⟨f, y, hy⟩ := h3 r hm
    obtain ⟨z, e, _, _⟩ := DataW.trod_int Try.underlying3 hy
    exact ⟨z, e⟩
  subst hl
  match l, h2 with
  | [a, b, d, e], _ => exact ⟨a, b, d, e, agg_of (by have h1 : c.toList = _ := h1; rw [h1]; simp)⟩
end Go.Proofs

