/- Part of the proof (K2): an engine, rules or contracts of the functions; it states nothing of the claim by itself. -/
import Derived.Test.YtiljkkdhohnpbaaK1

/- Layer 22: values, each once; copies. -/
set_option maxRecDepth 100000
set_option linter.unusedVariables false
set_option linter.unusedSimpArgs false
namespace Go.Proofs
open Go Go.Q
theorem eqVal {a b a' b' : Int} {s s' : ByteArray} : aggEq Try.prog 35 [.int .i64 a, .int .i64 b, .string s] [.int .i64 a', .int .i64 b', .string s'] = true := by kernel_rfl
theorem zcVal : zc Try.prog 35 = [.int .i64 0, .int .i64 0, .string (str [])].toArray := by kernel_rfl
theorem val_inj (a b : V3) : eqC (valV a) (valV b) = decide (a = b) := by
  obtain ⟨k, n, s⟩ := a
  obtain ⟨k', n', s'⟩ := b
  simp only [valV, eqC_cons, eqC_nil, eqV_int, eqV_str, str_eq, V3.mk.injEq]
  simp [Bool.decide_and]
theorem bq_val {xo yo : Operand} {w : World} (a b : V3) {K : Value → Prop} : qG Try.prog (bq .eql 35 xo yo (.agg (valV a).toArray) (.agg (valV b).toArray)) w K = K (.bool (decide (a = b))) := by
  rw [bq_aggeql (by exact eqVal), val_inj]
theorem bq_valn {xo yo : Operand} {w : World} (a b : V3) {K : Value → Prop} : qG Try.prog (bq .neq 35 xo yo (.agg (valV a).toArray) (.agg (valV b).toArray)) w K = K (.bool !(decide (a = b))) := by
  rw [bq_aggneq (by exact eqVal), val_inj]
theorem vC_one (b : List V3) : ((b.map valV).flatten).all Q.one = true := by
  rw [List.all_eq_true]
  intro x hx
  obtain ⟨r, hr, hxr⟩ := List.mem_flatten.1 hx
  obtain ⟨y, _, rfl⟩ := List.mem_map.1 hr
  simp only [valV, List.mem_cons, List.not_mem_nil, or_false] at hxr
  rcases hxr with rfl | rfl | rfl <;> rfl
theorem cloneV_spec {w : World} {v : Value} {b : List V3} (h : Rd w v 3 (b.map valV)) (hl : b.length < 2 ^ 30) {K : Value → World → Prop} (hK : ∀ v' w', Fr w w' v' 3 (b.map valV) → K v' w') :
    callG Try.prog 36 #[v] w K := by
  refine slices_Clone_api_Value_api_Value_call ?_
  unfold slices_Clone_api_Value_api_Value slices_Clone_api_Value_api_Value_s0
  exact clone_gen (k := 3) (bytes := 32) (by kernel_rfl) zcVal rfl (by omega) h (vC_one b) (by simp; omega) (by simp; omega) hK
/-- rows of a block, from a place on as they were -/
structure CB (w0 w : World) (bl T cap n p : Nat) (l : List V3) : Prop where
  kp : Kp [] w0 w
  ex : ∃ F : List (List Value), w.heap[bl]? = some (.cells F.flatten.toArray T (0, 0)) ∧ (∀ x ∈ F, x.length = 3) ∧ F.length = cap ∧ ∀ t (h : t < l.length), p ≤ t → F[t]? = some (valV l[t])
theorem CB.rd {w0 w w' : World} {bl T cap p i : Nat} {l : List V3} {n : Nat} (h : CB w0 w bl T cap n p l) (hk : Kp [] w w') (hi : i < l.length) (hp : p ≤ i) {o : Nat} (ho : o = i * 3) {K : Value → Prop} : ldn 3 (.pointer (some ⟨bl, o, none⟩)) w' K = K (.agg (valV l[i]).toArray) := by
  obtain ⟨F, h1, h2, h3, h4⟩ := h.ex
  have h5 := h4 i hi hp
  have hiF : i < F.length := (List.getElem?_eq_some_iff.1 h5).1
  have hFi : F[i] = valV l[i] := (List.getElem?_eq_some_iff.1 h5).2
  subst ho
  have := rd_rows (w := w') (m := 1) (i := i) (hk.get h1 (by simp)) h2 (by omega) (K := fun cs => K (.agg cs))
  rw [Nat.one_mul] at this
  rw [ldn_p, this]
  have e : ((F.drop i).take 1).flatten = valV l[i] := by
    rw [List.drop_eq_getElem_cons hiF, hFi]
    simp
  rw [e]
theorem CB.keep {w0 w w' : World} {bl T cap n p p' : Nat} {l : List V3} (h : CB w0 w bl T cap n p l) (hk : Kp [] w w') (hp : p ≤ p') : CB w0 w' bl T cap n p' l := by
  obtain ⟨h1, F, h2, h3, h4, h5⟩ := h
  exact ⟨h1.trans' hk, F, hk.get h2 (by simp), h3, h4, fun t ht htp => h5 t ht (by omega)⟩
theorem compact_spec {w0 w : World} {v : Value} {l : List V3} (h : Fr w0 w v 3 (l.map valV)) (hl : l.length < 2 ^ 30) {K : Value → World → Prop} (hK : ∀ v' w', Kp [] w0 w' → (∀ K : Value → Prop, lenL v' K = K (.int .i64 (distV l))) → K v' w') :
    callG Try.prog 35 #[v] w K := by
  refine slices_Compact_api_Value_api_Value_call ?_
  unfold slices_Compact_api_Value_api_Value slices_Compact_api_Value_api_Value_s13
  have hlen : ∀ K : Value → Prop, lenL v K = K (.int .i64 l.length) := fun K => by rw [h.rd.lenL, List.length_map]
  rw [hlen]
  simp only [bq_lss, bV_b, decide_eq_true_eq, decide_eq_false_iff_not]
  refine ⟨fun h2 => ?_, fun h2 => ?_⟩
  · refine hK v w h.kp fun K => ?_
    have : distV l = l.length := by
      match l, h2 with
      | [], _ => rfl
      | [a], _ => rfl
      | a :: b :: r, h2 => simp at h2; omega
    rw [hlen, this]
  · obtain ⟨S, hr, hS⟩ := h.ex
    rcases hr with ⟨_, h2', _⟩ | ⟨bl, F, T, h1, h2', h3, h4, h5, h6⟩
    · have : l = [] := by simpa using h2'
      subst this; simp at h2
    · have hbl : w0.heap.size ≤ bl := hS bl (by rw [h2']; simp)
      simp only [List.length_map] at h1 h5 h6
      have hcb : CB w0 w bl T F.length l.length 0 l := ⟨h.kp, F, h3, h4, rfl, fun t ht _ => by
        rw [← List.getElem?_take_of_lt ht, h5]
        simp [ht]⟩
      have hcap : ∀ q : Nat, (q : Int) ≤ F.length ↔ q ≤ F.length := fun q => by omega
      unfold slices_Compact_api_Value_api_Value_s12 slices_Compact_api_Value_api_Value_L11
      refine loop_inv (fun m xs wi => ∃ k, 1 ≤ k ∧ k ≤ l.length ∧ m = l.length - k ∧ xs = [v, .int .i64 (k : Nat)] ∧ Kp [] w wi ∧ distV (l.take k) = k) ?_ (m := l.length - 1) ⟨1, by omega, by omega, rfl, rfl, Kp.refl _ _, by
        match l, h2 with
        | [], h2 => simp at h2
        | a :: r, _ => rfl⟩
      rintro m N xs wi ⟨k, hk1, hkl, rfl, rfl, hki, hd⟩ hN
      have hkw : IntKind.i64.wrap ((k : Int) + 1) = ((k + 1 : Nat) : Int) := by rw [w64 (by omega) (by omega)]; simp
      have hks : IntKind.i64.wrap ((k : Int) - 1) = ((k - 1 : Nat) : Int) := by rw [w64 (by omega) (by omega)]; omega
      unfold slices_Compact_api_Value_api_Value_L11F slices_Compact_api_Value_api_Value_s10
      dsimp only
      rw [hlen]
      simp only [bq_lss, bV_b, decide_eq_true_eq, decide_eq_false_iff_not]
      refine ⟨fun hlt => ?_, fun hge => ?_⟩
      · have hlt : k < l.length := by omega
        unfold slices_Compact_api_Value_api_Value_s9
        have ea : ∀ (i : Nat), i < l.length → ∀ K : Value → Prop, ia 3 v (.int .i64 i) K = K (.pointer (some ⟨bl, i * 3, none⟩)) := by
          intro i hi K
          rw [h1, ia_p, Int.toNat_natCast, Nat.zero_add]
          have : (0 ≤ (i : Int) ∧ (i : Int) < l.length) = True := by simp; omega
          rw [this, true_and]
        rw [ea k hlt, hcb.rd hki.drew hlt (by omega) rfl]
        simp only [bq_sub, hks]
        rw [ea (k - 1) (by omega), hcb.rd (i := k - 1) hki.drew (by omega) (by omega) rfl, bq_val]
        unfold slices_Compact_api_Value_api_Value_s8
        simp only [bV_b, decide_eq_true_eq, decide_eq_false_iff_not]
        have htk := distV_take hlt
        rw [dif_neg (by omega)] at htk
        refine ⟨fun heq => ?_, fun hne => ?_⟩
        · rw [if_pos heq.symm] at htk
          unfold slices_Compact_api_Value_api_Value_s6 slices_Compact_api_Value_api_Value_s5 slices_Compact_api_Value_api_Value_L4
          have e4 : ∀ K : Value → Prop, slL 3 v (some (.int .i64 k)) none K = K (.slice (some ⟨bl, k * 3, none⟩) (l.length - k) (F.length - k)) := by
            intro K
            have g1 : (k : Int) ≤ l.length := by omega
            have g2 : ¬ F.length = k := by omega
            rw [h1]
            simp [g1, g2]
            omega
          rw [e4]
          refine loop_inv (fun m xs wj => ∃ j q : Nat, 1 ≤ j ∧ j ≤ l.length - k ∧ m = l.length - k - j ∧ xs = [v, .int .i64 (q : Nat), .slice (some ⟨bl, k * 3, none⟩) (l.length - k) (F.length - k), .int .i64 (j : Nat)] ∧ CB w0 wj bl T F.length l.length (k + j - 1) l ∧ q = distV (l.take (k + j)) ∧ q ≤ k + j - 1) ?_ (m := l.length - k - 1) ⟨1, k, by omega, by omega, rfl, rfl, hcb.keep hki.drew (by omega), by omega, by omega⟩
          rintro m2 N2 xs wj ⟨j, q, hj1, hjl, rfl, rfl, hc, hq, hqk⟩ hN2
          have hjw : IntKind.i64.wrap ((j : Int) + 1) = ((j + 1 : Nat) : Int) := by rw [w64 (by omega) (by omega)]; simp
          have hjs : IntKind.i64.wrap ((j : Int) - 1) = ((j - 1 : Nat) : Int) := by rw [w64 (by omega) (by omega)]; omega
          have hqw : IntKind.i64.wrap ((q : Int) + 1) = ((q + 1 : Nat) : Int) := by rw [w64 (by omega) (by omega)]; simp
          unfold slices_Compact_api_Value_api_Value_L4F slices_Compact_api_Value_api_Value_b3
          dsimp only
          simp only [lenL_s, bq_lss, bV_b, decide_eq_true_eq, decide_eq_false_iff_not]
          refine ⟨fun hjlt => ?_, fun hjge => ?_⟩
          · have hjlt : k + j < l.length := by omega
            have e5 : ∀ (i : Nat), i < l.length - k → ∀ K : Value → Prop, ia 3 (.slice (some ⟨bl, k * 3, none⟩) (l.length - k) (F.length - k)) (.int .i64 i) K = K (.pointer (some ⟨bl, k * 3 + i * 3, none⟩)) := by
              intro i hi K
              rw [ia_p, Int.toNat_natCast]
              have : (0 ≤ (i : Int) ∧ (i : Int) < ((l.length - k : Nat) : Int)) = True := by simp; omega
              rw [this, true_and]
            have hkd : Kp [] wj wj.drew := kp_drew
            rw [e5 j (by omega), hc.rd (i := k + j) hkd hjlt (by omega) (by omega)]
            simp only [bq_sub, hjs]
            rw [e5 (j - 1) (by omega), hc.rd (i := k + j - 1) hkd (by omega) (by omega) (by omega), bq_valn]
            have htj := distV_take hjlt
            rw [dif_neg (by omega)] at htj
            simp only [bV_b, bq_add, hjw, hqw]
            refine ⟨fun hne => ?_, fun heq2 => ?_⟩
            · have hne : ¬ l[k + j - 1] = l[k + j] := fun hh => by simp [hh] at hne
              rw [if_neg hne] at htj
              rw [e5 j (by omega), hc.rd (i := k + j) hkd hjlt (by omega) (by omega), ea q (by omega)]
              obtain ⟨G, g1, g2, g3, g4⟩ := hc.ex
              have g1d : wj.drew.heap[bl]? = some (.cells G.flatten.toArray T (0, 0)) := g1
              have hst : ∀ K : World → Prop, stn 3 (.pointer (some ⟨bl, q * 3, none⟩)) (.agg (valV l[k + j]).toArray) wj.drew K = K (setBlk wj.drew bl (.cells (G.take q ++ [valV l[k + j]] ++ G.drop (q + 1)).flatten.toArray T)) := by
                intro K
                have := wr_rows (w := wj.drew) (k := 3) (F := G) (G := [valV l[k + j]]) (i := q) g1d g2 (by simp [valV]) (by simp; omega) (by simpa using vC_one [l[k + j]]) (K := K)
                rw [stn_p]
                have e6 : [valV l[k + j]].flatten.toArray = (valV l[k + j]).toArray := by simp
                rw [e6] at this
                rw [this]
                exact propext ⟨fun h => h.2, fun h => ⟨rfl, h⟩⟩
              rw [hst]
              refine hN2 (l.length - k - (j + 1)) _ _ (by omega) ⟨j + 1, q + 1, by omega, by omega, rfl, rfl, ⟨(hc.kp.drew).setBlk (.inr hbl) _, G.take q ++ [valV l[k + j]] ++ G.drop (q + 1), heap_self (live_of g1d), ?_, by simp; omega, fun t ht htp => ?_⟩, by rw [show k + (j + 1) = k + j + 1 by omega, htj, hq], by omega⟩
              · intro x hx
                rw [List.mem_append, List.mem_append] at hx
                rcases hx with (hx | hx) | hx
                · exact g2 x (List.mem_of_mem_take hx)
                · simp at hx; rw [hx]; rfl
                · exact g2 x (List.mem_of_mem_drop hx)
              · have hqG : q < G.length := by omega
                rw [List.append_assoc, List.getElem?_append_right (by simp; omega), List.singleton_append]
                have : t - (G.take q).length = (t - q - 1) + 1 := by simp; omega
                rw [this, List.getElem?_cons_succ, List.getElem?_drop, show q + 1 + (t - q - 1) = t by omega]
                exact g4 t ht (by omega)
            · have heq2 : l[k + j - 1] = l[k + j] := by
                have : l[k + j] = l[k + j - 1] := by simpa using heq2
                exact this.symm
              rw [if_pos heq2] at htj
              refine hN2 (l.length - k - (j + 1)) _ _ (by omega) ⟨j + 1, q, by omega, by omega, rfl, rfl, hc.keep hkd (by omega), by rw [show k + (j + 1) = k + j + 1 by omega, htj, hq]; rfl, by omega⟩
          · have hje : k + j = l.length := by omega
            unfold slices_Compact_api_Value_api_Value_s2
            obtain ⟨G, g1, g2, g3, g4⟩ := hc.ex
            have e7 : ∀ K : Value → Prop, slL 3 v (some (.int .i64 q)) none K = K (.slice (some ⟨bl, q * 3, none⟩) (l.length - q) (F.length - q)) := by
              intro K
              have t1 : (q : Int) ≤ l.length := by omega
              have t2 : ¬ F.length = q := by omega
              rw [h1]
              simp [t1, t2]
              omega
            have e8 : ∀ K : Value → Prop, slL 3 v none (some (.int .i64 q)) K = K (.slice (some ⟨bl, 0, none⟩) q F.length) := by
              intro K
              have t1 : (q : Int) ≤ F.length := by omega
              rw [h1]
              simp [t1]
            have hz3 := rep_rows (k := 3) (z := [.int .i64 0, .int .i64 0, .string (str [])]) (by omega) rfl (l.length - q)
            obtain ⟨d, hd2⟩ : ∃ d, l.length - q = d + 1 := ⟨l.length - q - 1, by omega⟩
            rw [e7, zcVal, hd2]
            rw [hd2] at hz3
            simp only [clr]
            rw [hz3, wr_rows (w := wj) (k := 3) (F := G) (G := List.replicate (d + 1) [.int .i64 0, .int .i64 0, .string (str [])]) (i := q) g1 g2 (by intro y hy; rw [List.mem_replicate] at hy; rw [hy.2]; rfl) (by simp; omega) (by
              rw [List.all_eq_true]
              intro x hx
              obtain ⟨r, hr2, hxr⟩ := List.mem_flatten.1 hx
              rw [List.mem_replicate] at hr2
              rw [hr2.2] at hxr
              simp only [List.mem_cons, List.not_mem_nil, or_false] at hxr
              rcases hxr with rfl | rfl | rfl <;> rfl), e8]
            refine hK _ _ (hc.kp.setBlk (.inr hbl) _) fun K => ?_
            have : q = distV l := by rw [hq, hje, List.take_length]
            rw [lenL_s, this]
        · rw [if_neg fun hh => hne hh.symm] at htk
          unfold slices_Compact_api_Value_api_Value_s7 slices_Compact_api_Value_api_Value_s1
          simp only [bq_add, hkw]
          exact hN (l.length - (k + 1)) _ _ (by omega) ⟨k + 1, by omega, by omega, rfl, rfl, hki.drew, by omega⟩
      · have hke : k = l.length := by omega
        unfold slices_Compact_api_Value_api_Value_s0
        refine hK v wi (h.kp.trans' hki) fun K => ?_
        rw [hke, List.take_length] at hd
        rw [hlen, hd]
end Go.Proofs

set_option linter.unusedVariables false
set_option linter.unusedSimpArgs false
namespace Go.Proofs
open Go Go.Q
set_option maxRecDepth 100000
/-! quayside/stat.column -/
def stat_column_s0 (R : Value → World → Prop) (x4 x5 : Value) (w : World) : Prop :=
  ldn 3 x5 w fun t71 =>
  stn 3 x4 t71 w fun w =>
  qG Try.prog (do loadVar 32 (← asAddr x4)) w fun r4 =>
  R r4 w
theorem stat_column_s0_eq (R : Value → World → Prop) : ∀ e w, lift Try.prog 72 (sub (bodyOf Try.f22) [1, 1, 1, 1, 1, 1, 1, 1]) (finK Try.prog Try.f22.results.toList R) e w = stat_column_s0 R (e 4) (e 5) w := fun e w => by kernel_rfl
def stat_column_b1 (R : Value → World → Prop) (N1 : List Value → World → Prop) (x4 x5 x6 x53 : Value) (w : World) : Prop :=
  qG Try.prog (bq .lss 3 (.tmp 53) (.const (.int .i64 9)) x53 (.int .i64 9)) w fun t54 =>
  bV t54
  (fa 2 x5 fun t56 =>
  ld1 t56 (World.drew w) fun t57 =>
  lenL x6 fun t61 =>
  qG Try.prog (bq .sub 3 (.tmp 61) (.const (.int .i64 1)) t61 (.int .i64 1)) (World.drew w) fun t62 =>
  qG Try.prog (bq .mul 3 (.tmp 59) (.tmp 62) x53 t62) (World.drew w) fun t63 =>
  qG Try.prog (bq .quo 3 (.tmp 63) (.const (.int .i64 8)) t63 (.int .i64 8)) (World.drew w) fun t64 =>
  ia 3 x6 t64 fun t65 =>
  ldn 3 t65 (World.drew w) fun t66 =>
  bsl 35 3 1 (zc Try.prog 35) #[(0, t66)] (World.drew w) fun t67 w =>
  ld1 t56 w (fun u => u = t57) ∧
  app 35 3 32 (zc Try.prog 35) t57 t67 w fun t68 w =>
  fa 2 x5 fun t69 =>
  st1 t69 t68 w fun w =>
  qG Try.prog (bq .add 3 (.tmp 53) (.const (.int .i64 1)) x53 (.int .i64 1)) w fun t70 =>
  N1 [x4, x5, x6, t70] w)
  (stat_column_s0 R x4 x5 w)
theorem stat_column_b1_eq (R : Value → World → Prop) (N1 : List Value → World → Prop) : ∀ e w, lift Try.prog 72 (sub (bodyOf Try.f22) [1, 1, 1, 1, 1, 1, 1, 0, 1, 0, 0]) (seqK (fun e w => N1 [e 4, e 5, e 6, e 53] w) (blockK 2 (seqK (fun e w => stat_column_s0 R (e 4) (e 5) w) (finK Try.prog Try.f22.results.toList R)))) e w = stat_column_b1 R N1 (e 4) (e 5) (e 6) (e 53) w := fun e w => by kernel_rfl
def stat_column_L2F (R : Value → World → Prop) (N1 : List Value → World → Prop) (xs : List Value) (w : World) : Prop :=
  match xs with
  | [x4, x5, x6, x53] => stat_column_b1 R N1 x4 x5 x6 x53 w
  | _ => False
def stat_column_L2 (R : Value → World → Prop) (x4 x5 x6 x53 : Value) (w : World) : Prop :=
  ∃ m, loopV (stat_column_L2F R) m [x4, x5, x6, x53] w
theorem stat_column_L2_eq (R : Value → World → Prop) : ∀ e w, lift Try.prog 72 (sub (bodyOf Try.f22) [1, 1, 1, 1, 1, 1, 1, 0, 1, 0]) (blockK 2 (seqK (fun e w => stat_column_s0 R (e 4) (e 5) w) (finK Try.prog Try.f22.results.toList R))) e w = stat_column_L2 R (e 4) (e 5) (e 6) (e 53) w := loop_seg (F := stat_column_L2F R) (sel := fun e => [e 4, e 5, e 6, e 53]) fun N1 => (stat_column_b1_eq R N1)
def stat_column_s3 (R : Value → World → Prop) (x4 x5 x6 : Value) (w : World) : Prop :=
  stat_column_L2 R x4 x5 x6 (.int .i64 0) w
theorem stat_column_s3_eq (R : Value → World → Prop) : ∀ e w, lift Try.prog 72 (sub (bodyOf Try.f22) [1, 1, 1, 1, 1, 1, 1, 0]) (seqK (fun e w => stat_column_s0 R (e 4) (e 5) w) (finK Try.prog Try.f22.results.toList R)) e w = stat_column_s3 R (e 4) (e 5) (e 6) w :=
  segs_eq (l := [(sub (bodyOf Try.f22) [1, 1, 1, 1, 1, 1, 1, 0, 0])]) (y := (sub (bodyOf Try.f22) [1, 1, 1, 1, 1, 1, 1, 0, 1])) (Y := (fun e w => stat_column_L2 R (e 4) (e 5) (e 6) (e 53) w)) (stat_column_L2_eq R) (fun e w => by kernel_rfl)
def stat_column_s4 (R : Value → World → Prop) (x4 x5 x6 : Value) (w : World) : Prop :=
  callG Try.prog 34 #[x6, (.func (.func 25) #[] #[])] w fun t41 w =>
  callG Try.prog 36 #[x6] w fun t43 w =>
  callG Try.prog 35 #[t43] w fun t44 w =>
  lenL t44 fun t45 =>
  fa 1 x5 fun t46 =>
  st1 t46 t45 w fun w =>
  lenL x6 fun t48 =>
  qG Try.prog (bq .leq 3 (.tmp 48) (.const (.int .i64 9)) t48 (.int .i64 9)) w fun t49 =>
  bV t49
  (fa 2 x5 fun t51 =>
  st1 t51 x6 w fun w =>
  ldn 3 x5 w fun t52 =>
  stn 3 x4 t52 w fun w =>
  qG Try.prog (do loadVar 32 (← asAddr x4)) w fun r4 =>
  R r4 w)
  (stat_column_s3 R x4 x5 x6 w)
theorem stat_column_s4_eq (R : Value → World → Prop) : ∀ e w, lift Try.prog 72 (sub (bodyOf Try.f22) [1, 1, 1, 1]) (finK Try.prog Try.f22.results.toList R) e w = stat_column_s4 R (e 4) (e 5) (e 6) w :=
  segs_eq (l := [(sub (bodyOf Try.f22) [1, 1, 1, 1, 0]), (sub (bodyOf Try.f22) [1, 1, 1, 1, 1, 0]), (sub (bodyOf Try.f22) [1, 1, 1, 1, 1, 1, 0])]) (y := (sub (bodyOf Try.f22) [1, 1, 1, 1, 1, 1, 1])) (Y := (fun e w => stat_column_s3 R (e 4) (e 5) (e 6) w)) (seq_seg (x := (sub (bodyOf Try.f22) [1, 1, 1, 1, 1, 1, 1, 0])) (y := (sub (bodyOf Try.f22) [1, 1, 1, 1, 1, 1, 1, 1])) (stat_column_s0_eq R) (stat_column_s3_eq R)) (fun e w => by kernel_rfl)
def stat_column_s5 (R : Value → World → Prop) (N1 : List Value → World → Prop) (x0 x4 x5 x6 x10 x11 x12 : Value) (w : World) : Prop :=
  qG Try.prog (bq .add 3 (.tmp 12) (.const (.int .i64 1)) x12 (.int .i64 1)) w fun t39 =>
  N1 [x0, x4, x5, x6, x10, x11, t39] w
theorem stat_column_s5_eq (R : Value → World → Prop) (N1 : List Value → World → Prop) : ∀ e w, lift Try.prog 72 (sub (bodyOf Try.f22) [1, 1, 1, 0, 1, 0, 0, 1, 1, 1]) (seqK (fun e w => N1 [e 0, e 4, e 5, e 6, e 10, e 11, e 12] w) (blockK 0 (seqK (fun e w => stat_column_s4 R (e 4) (e 5) (e 6) w) (finK Try.prog Try.f22.results.toList R)))) e w = stat_column_s5 R N1 (e 0) (e 4) (e 5) (e 6) (e 10) (e 11) (e 12) w := fun e w => by kernel_rfl
def stat_column_s6 (R : Value → World → Prop) (N1 : List Value → World → Prop) (x0 x4 x5 x6 x8 x10 x11 x12 x27 : Value) (w : World) : Prop :=
  bV x27
  (fa 0 x5 fun t28 =>
  ld1 t28 w fun t29 =>
  qG Try.prog (bq .add 3 (.tmp 29) (.const (.int .i64 1)) t29 (.int .i64 1)) w fun t30 =>
  fa 0 x5 fun t31 =>
  st1 t31 t30 w fun w =>
  stat_column_s5 R N1 x0 x4 x5 x6 x10 x11 x12 w)
  (ia 3 x8 x0 fun t35 =>
  ldn 3 t35 w fun t36 =>
  bsl 35 3 1 (zc Try.prog 35) #[(0, t36)] w fun t37 w =>
  app 35 3 32 (zc Try.prog 35) x6 t37 w fun t38 w =>
  stat_column_s5 R N1 x0 x4 x5 t38 x10 x11 x12 w)
theorem stat_column_s6_eq (R : Value → World → Prop) (N1 : List Value → World → Prop) : ∀ e w, lift Try.prog 72 (sub (bodyOf Try.f22) [1, 1, 1, 0, 1, 0, 0, 1, 1, 0, 0, 1, 1]) (blockK 1 (seqK (fun e w => stat_column_s5 R N1 (e 0) (e 4) (e 5) (e 6) (e 10) (e 11) (e 12) w) (seqK (fun e w => N1 [e 0, e 4, e 5, e 6, e 10, e 11, e 12] w) (blockK 0 (seqK (fun e w => stat_column_s4 R (e 4) (e 5) (e 6) w) (finK Try.prog Try.f22.results.toList R)))))) e w = stat_column_s6 R N1 (e 0) (e 4) (e 5) (e 6) (e 8) (e 10) (e 11) (e 12) (e 27) w := fun e w => by kernel_rfl
def stat_column_s7 (R : Value → World → Prop) (N1 : List Value → World → Prop) (x0 x4 x5 x6 x10 x11 x12 : Value) (w : World) : Prop :=
  ia 1 x10 x12 fun t14 =>
  ld1 t14 w fun t15 =>
  lenL t15 fun t18 =>
  qG Try.prog (bq .geq 3 (.tmp 16) (.tmp 18) x0 t18) w fun t19 =>
  bV t19
  (stat_column_s6 R N1 x0 x4 x5 x6 t15 x10 x11 x12 (.bool true) w)
  (ia 3 t15 x0 fun t23 =>
  fa 0 t23 fun t24 =>
  ld1 t24 w fun t25 =>
  qG Try.prog (bq .eql 3 (.tmp 25) (.const (.int .i64 0)) t25 (.int .i64 0)) w fun t26 =>
  stat_column_s6 R N1 x0 x4 x5 x6 t15 x10 x11 x12 t26 w)
theorem stat_column_s7_eq (R : Value → World → Prop) (N1 : List Value → World → Prop) : ∀ e w, lift Try.prog 72 (sub (bodyOf Try.f22) [1, 1, 1, 0, 1, 0, 0, 1, 1, 0, 0]) (blockK 1 (seqK (fun e w => stat_column_s5 R N1 (e 0) (e 4) (e 5) (e 6) (e 10) (e 11) (e 12) w) (seqK (fun e w => N1 [e 0, e 4, e 5, e 6, e 10, e 11, e 12] w) (blockK 0 (seqK (fun e w => stat_column_s4 R (e 4) (e 5) (e 6) w) (finK Try.prog Try.f22.results.toList R)))))) e w = stat_column_s7 R N1 (e 0) (e 4) (e 5) (e 6) (e 10) (e 11) (e 12) w :=
  segs_eq (l := [(sub (bodyOf Try.f22) [1, 1, 1, 0, 1, 0, 0, 1, 1, 0, 0, 0]), (sub (bodyOf Try.f22) [1, 1, 1, 0, 1, 0, 0, 1, 1, 0, 0, 1, 0])]) (y := (sub (bodyOf Try.f22) [1, 1, 1, 0, 1, 0, 0, 1, 1, 0, 0, 1, 1])) (Y := (fun e w => stat_column_s6 R N1 (e 0) (e 4) (e 5) (e 6) (e 8) (e 10) (e 11) (e 12) (e 27) w)) (stat_column_s6_eq R N1) (fun e w => by kernel_rfl)
def stat_column_s8 (R : Value → World → Prop) (N1 : List Value → World → Prop) (x0 x4 x5 x6 x10 x11 x12 : Value) (w : World) : Prop :=
  qG Try.prog (bq .lss 3 (.tmp 12) (.tmp 11) x12 x11) w fun t13 =>
  bV t13
  (stat_column_s7 R N1 x0 x4 x5 x6 x10 x11 x12 w)
  (stat_column_s4 R x4 x5 x6 w)
theorem stat_column_s8_eq (R : Value → World → Prop) (N1 : List Value → World → Prop) : ∀ e w, lift Try.prog 72 (sub (bodyOf Try.f22) [1, 1, 1, 0, 1, 0, 0]) (seqK (fun e w => N1 [e 0, e 4, e 5, e 6, e 10, e 11, e 12] w) (blockK 0 (seqK (fun e w => stat_column_s4 R (e 4) (e 5) (e 6) w) (finK Try.prog Try.f22.results.toList R)))) e w = stat_column_s8 R N1 (e 0) (e 4) (e 5) (e 6) (e 10) (e 11) (e 12) w :=
  segs_eq (l := [(sub (bodyOf Try.f22) [1, 1, 1, 0, 1, 0, 0, 0]), (sub (bodyOf Try.f22) [1, 1, 1, 0, 1, 0, 0, 1, 0])]) (y := (sub (bodyOf Try.f22) [1, 1, 1, 0, 1, 0, 0, 1, 1])) (Y := (fun e w => stat_column_s7 R N1 (e 0) (e 4) (e 5) (e 6) (e 10) (e 11) (e 12) w)) (seq_seg (x := (sub (bodyOf Try.f22) [1, 1, 1, 0, 1, 0, 0, 1, 1, 0])) (y := (sub (bodyOf Try.f22) [1, 1, 1, 0, 1, 0, 0, 1, 1, 1])) (stat_column_s5_eq R N1) (stat_column_s7_eq R N1)) (fun e w => by kernel_rfl)
def stat_column_L9F (R : Value → World → Prop) (N1 : List Value → World → Prop) (xs : List Value) (w : World) : Prop :=
  match xs with
  | [x0, x4, x5, x6, x10, x11, x12] => stat_column_s8 R N1 x0 x4 x5 x6 x10 x11 x12 w
  | _ => False
def stat_column_L9 (R : Value → World → Prop) (x0 x4 x5 x6 x10 x11 x12 : Value) (w : World) : Prop :=
  ∃ m, loopV (stat_column_L9F R) m [x0, x4, x5, x6, x10, x11, x12] w
theorem stat_column_L9_eq (R : Value → World → Prop) : ∀ e w, lift Try.prog 72 (sub (bodyOf Try.f22) [1, 1, 1, 0, 1, 0]) (blockK 0 (seqK (fun e w => stat_column_s4 R (e 4) (e 5) (e 6) w) (finK Try.prog Try.f22.results.toList R))) e w = stat_column_L9 R (e 0) (e 4) (e 5) (e 6) (e 10) (e 11) (e 12) w := loop_seg (F := stat_column_L9F R) (sel := fun e => [e 0, e 4, e 5, e 6, e 10, e 11, e 12]) fun N1 => (stat_column_s8_eq R N1)
def stat_column_s10 (R : Value → World → Prop) (x0 x1 x4 x5 x6 : Value) (w : World) : Prop :=
  lenL x1 fun t11 =>
  stat_column_L9 R x0 x4 x5 x6 x1 t11 (.int .i64 0) w
theorem stat_column_s10_eq (R : Value → World → Prop) : ∀ e w, lift Try.prog 72 (sub (bodyOf Try.f22) [1, 1, 1, 0]) (seqK (fun e w => stat_column_s4 R (e 4) (e 5) (e 6) w) (finK Try.prog Try.f22.results.toList R)) e w = stat_column_s10 R (e 0) (e 1) (e 4) (e 5) (e 6) w :=
  segs_eq (l := [(sub (bodyOf Try.f22) [1, 1, 1, 0, 0])]) (y := (sub (bodyOf Try.f22) [1, 1, 1, 0, 1])) (Y := (fun e w => stat_column_L9 R (e 0) (e 4) (e 5) (e 6) (e 10) (e 11) (e 12) w)) (stat_column_L9_eq R) (fun e w => by kernel_rfl)
def stat_column_s11 (R : Value → World → Prop) (x0 x1 : Value) (w : World) : Prop :=
  newG (zc Try.prog 32) 32 w fun t4 w =>
  newG (zc Try.prog 32) 32 w fun t5 w =>
  stat_column_s10 R x0 x1 t4 t5 (.slice none 0 0) w
theorem stat_column_s11_eq (R : Value → World → Prop) : ∀ e w, lift Try.prog 72 (bodyOf Try.f22) (finK Try.prog Try.f22.results.toList R) e w = stat_column_s11 R (e 0) (e 1) w :=
  segs_eq (l := [(sub (bodyOf Try.f22) [0]), (sub (bodyOf Try.f22) [1, 0]), (sub (bodyOf Try.f22) [1, 1, 0])]) (y := (sub (bodyOf Try.f22) [1, 1, 1])) (Y := (fun e w => stat_column_s10 R (e 0) (e 1) (e 4) (e 5) (e 6) w)) (seq_seg (x := (sub (bodyOf Try.f22) [1, 1, 1, 0])) (y := (sub (bodyOf Try.f22) [1, 1, 1, 1])) (stat_column_s4_eq R) (stat_column_s10_eq R)) (fun e w => by kernel_rfl)
def stat_column (R : Value → World → Prop) (x0 x1 : Value) (w : World) : Prop := stat_column_s11 R x0 x1 w
theorem stat_column_call {R : Value → World → Prop} {x0 x1 : Value} {w : World} (h : stat_column R x0 x1 w) : callG Try.prog 22 #[x0, x1] w R :=
  calls_lift_eq Try.mixed Try.func22 (args := [x0, x1]) rfl rfl rfl rfl ((stat_column_s11_eq R) (envOf [x0, x1]) w) (by kernel_rfl) h
/-! quayside/stat.Of -/
def stat_Of_s0 (R : Value → World → Prop) (x4 x5 : Value) (w : World) : Prop :=
  ldn 2 x5 w fun t25 =>
  stn 2 x4 t25 w fun w =>
  qG Try.prog (do loadVar 27 (← asAddr x4)) w fun r4 =>
  R r4 w
theorem stat_Of_s0_eq (R : Value → World → Prop) : ∀ e w, lift Try.prog 26 (sub (bodyOf Try.f9) [1, 1, 1]) (finK Try.prog Try.f9.results.toList R) e w = stat_Of_s0 R (e 4) (e 5) w := fun e w => by kernel_rfl
def stat_Of_b1 (R : Value → World → Prop) (N1 : List Value → World → Prop) (x1 x4 x5 x12 x13 : Value) (w : World) : Prop :=
  qG Try.prog (bq .lss 3 (.tmp 13) (.tmp 12) x13 x12) w fun t14 =>
  bV t14
  (fa 1 x5 fun t16 =>
  ld1 t16 (World.drew w) fun t17 =>
  callG Try.prog 22 #[x13, x1] (World.drew w) fun t20 w =>
  ld1 t16 w (fun u => u = t17) ∧
  bsl 32 3 1 (zc Try.prog 32) #[(0, t20)] w fun t21 w =>
  ld1 t16 w (fun u => u = t17) ∧
  app 32 3 40 (zc Try.prog 32) t17 t21 w fun t22 w =>
  fa 1 x5 fun t23 =>
  st1 t23 t22 w fun w =>
  qG Try.prog (bq .add 3 (.tmp 13) (.const (.int .i64 1)) x13 (.int .i64 1)) w fun t24 =>
  N1 [x1, x4, x5, x12, t24] w)
  (stat_Of_s0 R x4 x5 w)
theorem stat_Of_b1_eq (R : Value → World → Prop) (N1 : List Value → World → Prop) : ∀ e w, lift Try.prog 26 (sub (bodyOf Try.f9) [1, 1, 0, 1, 0, 0]) (seqK (fun e w => N1 [e 1, e 4, e 5, e 12, e 13] w) (blockK 0 (seqK (fun e w => stat_Of_s0 R (e 4) (e 5) w) (finK Try.prog Try.f9.results.toList R)))) e w = stat_Of_b1 R N1 (e 1) (e 4) (e 5) (e 12) (e 13) w := fun e w => by kernel_rfl
def stat_Of_L2F (R : Value → World → Prop) (N1 : List Value → World → Prop) (xs : List Value) (w : World) : Prop :=
  match xs with
  | [x1, x4, x5, x12, x13] => stat_Of_b1 R N1 x1 x4 x5 x12 x13 w
  | _ => False
def stat_Of_L2 (R : Value → World → Prop) (x1 x4 x5 x12 x13 : Value) (w : World) : Prop :=
  ∃ m, loopV (stat_Of_L2F R) m [x1, x4, x5, x12, x13] w
theorem stat_Of_L2_eq (R : Value → World → Prop) : ∀ e w, lift Try.prog 26 (sub (bodyOf Try.f9) [1, 1, 0, 1, 0]) (blockK 0 (seqK (fun e w => stat_Of_s0 R (e 4) (e 5) w) (finK Try.prog Try.f9.results.toList R))) e w = stat_Of_L2 R (e 1) (e 4) (e 5) (e 12) (e 13) w := loop_seg (F := stat_Of_L2F R) (sel := fun e => [e 1, e 4, e 5, e 12, e 13]) fun N1 => (stat_Of_b1_eq R N1)
def stat_Of_s3 (R : Value → World → Prop) (x0 x1 x4 x5 : Value) (w : World) : Prop :=
  qG Try.prog (Builtin.min_ #[3, 3] 3 #[x0, (.int .i64 64)]) w fun t11 =>
  qG Try.prog (Builtin.max_ #[3, 3] 3 #[(.int .i64 0), t11]) w fun t12 =>
  stat_Of_L2 R x1 x4 x5 t12 (.int .i64 0) w
theorem stat_Of_s3_eq (R : Value → World → Prop) : ∀ e w, lift Try.prog 26 (sub (bodyOf Try.f9) [1, 1, 0]) (seqK (fun e w => stat_Of_s0 R (e 4) (e 5) w) (finK Try.prog Try.f9.results.toList R)) e w = stat_Of_s3 R (e 0) (e 1) (e 4) (e 5) w :=
  segs_eq (l := [(sub (bodyOf Try.f9) [1, 1, 0, 0])]) (y := (sub (bodyOf Try.f9) [1, 1, 0, 1])) (Y := (fun e w => stat_Of_L2 R (e 1) (e 4) (e 5) (e 12) (e 13) w)) (stat_Of_L2_eq R) (fun e w => by kernel_rfl)
def stat_Of_s4 (R : Value → World → Prop) (x0 x1 : Value) (w : World) : Prop :=
  newG (zc Try.prog 27) 27 w fun t4 w =>
  lenL x1 fun t8 =>
  bld [(0, 1), (1, 1)] (zc Try.prog 27) #[(0, t8)] fun t9 =>
  newG (zc Try.prog 27) 27 w fun t5 w =>
  stn 2 t5 t9 w fun w =>
  stat_Of_s3 R x0 x1 t4 t5 w
theorem stat_Of_s4_eq (R : Value → World → Prop) : ∀ e w, lift Try.prog 26 (bodyOf Try.f9) (finK Try.prog Try.f9.results.toList R) e w = stat_Of_s4 R (e 0) (e 1) w :=
  segs_eq (l := [(sub (bodyOf Try.f9) [0]), (sub (bodyOf Try.f9) [1, 0])]) (y := (sub (bodyOf Try.f9) [1, 1])) (Y := (fun e w => stat_Of_s3 R (e 0) (e 1) (e 4) (e 5) w)) (seq_seg (x := (sub (bodyOf Try.f9) [1, 1, 0])) (y := (sub (bodyOf Try.f9) [1, 1, 1])) (stat_Of_s0_eq R) (stat_Of_s3_eq R)) (fun e w => by kernel_rfl)
def stat_Of (R : Value → World → Prop) (x0 x1 : Value) (w : World) : Prop := stat_Of_s4 R x0 x1 w
theorem stat_Of_call {R : Value → World → Prop} {x0 x1 : Value} {w : World} (h : stat_Of R x0 x1 w) : callG Try.prog 9 #[x0, x1] w R :=
  calls_lift_eq Try.mixed Try.func9 (args := [x0, x1]) rfl rfl rfl rfl ((stat_Of_s4_eq R) (envOf [x0, x1]) w) (by kernel_rfl) h
/-! quayside/stat.of -/
def stat_of_s0 (R : Value → World → Prop) (x1 x2 x4 : Value) (w : World) : Prop :=
  fa 1 x2 fun t16 =>
  ld1 t16 (World.drew w) fun t17 =>
  ia 3 t17 x1 fun t19 =>
  ldn 3 t19 (World.drew w) fun t20 =>
  fa 1 x2 fun t21 =>
  ld1 t21 (World.drew w) fun t22 =>
  ia 3 t22 x1 fun t24 =>
  fa 2 t24 fun t25 =>
  ld1 t25 (World.drew w) fun t26 =>
  lenL t26 fun t27 =>
  qG Try.prog (bq .gtr 3 (.tmp 27) (.const (.int .i64 0)) t27 (.int .i64 0)) (World.drew w) fun t28 =>
  stn 3 x4 t20 (World.drew w) fun w =>
  stb Try.prog (bq .gtr 3 (.tmp 27) (.const (.int .i64 0)) t27 (.int .i64 0)) t28 w ∧
  ld1 t25 w (fun u => u = t26) ∧
  ld1 t21 w (fun u => u = t22) ∧
  qG Try.prog (do loadVar 32 (← asAddr x4)) w fun r4 =>
  R (.tuple #[r4, t28]) w
theorem stat_of_s0_eq (R : Value → World → Prop) : ∀ e w, lift Try.prog 29 (sub (bodyOf Try.f24) [1, 1]) (finK Try.prog Try.f24.results.toList R) e w = stat_of_s0 R (e 1) (e 2) (e 4) w := fun e w => by kernel_rfl
def stat_of_s1 (R : Value → World → Prop) (x0 x1 : Value) (w : World) : Prop :=
  newG (Value.cells x0) 27 w fun t2 w =>
  newG (zc Try.prog 32) 32 w fun t4 w =>
  qG Try.prog (bq .lss 3 (.tmp 6) (.const (.int .i64 0)) x1 (.int .i64 0)) w fun t7 =>
  bV t7
  (bld [(0, 1), (1, 1), (2, 1)] (zc Try.prog 32) #[] fun t15 =>
  stn 3 t4 t15 w fun w =>
  qG Try.prog (do loadVar 32 (← asAddr t4)) w fun r4 =>
  R (.tuple #[r4, (.bool false)]) w)
  (fa 1 t2 fun t10 =>
  ld1 t10 w fun t11 =>
  lenL t11 fun t12 =>
  qG Try.prog (bq .geq 3 (.tmp 9) (.tmp 12) x1 t12) w fun t13 =>
  bV t13
  (bld [(0, 1), (1, 1), (2, 1)] (zc Try.prog 32) #[] fun t15_1 =>
  stn 3 t4 t15_1 w fun w =>
  qG Try.prog (do loadVar 32 (← asAddr t4)) w fun r4_1 =>
  R (.tuple #[r4_1, (.bool false)]) w)
  (stat_of_s0 R x1 t2 t4 w))
theorem stat_of_s1_eq (R : Value → World → Prop) : ∀ e w, lift Try.prog 29 (bodyOf Try.f24) (finK Try.prog Try.f24.results.toList R) e w = stat_of_s1 R (e 0) (e 1) w :=
  segs_eq (l := [(sub (bodyOf Try.f24) [0]), (sub (bodyOf Try.f24) [1, 0])]) (y := (sub (bodyOf Try.f24) [1, 1])) (Y := (fun e w => stat_of_s0 R (e 1) (e 2) (e 4) w)) (stat_of_s0_eq R) (fun e w => by kernel_rfl)
def stat_of (R : Value → World → Prop) (x0 x1 : Value) (w : World) : Prop := stat_of_s1 R x0 x1 w
theorem stat_of_call {R : Value → World → Prop} {x0 x1 : Value} {w : World} (h : stat_of R x0 x1 w) : callG Try.prog 24 #[x0, x1] w R :=
  calls_lift_eq Try.mixed Try.func24 (args := [x0, x1]) rfl rfl rfl rfl ((stat_of_s1_eq R) (envOf [x0, x1]) w) (by kernel_rfl) h
/-! quayside/stat.Same -/
def stat_Same_s0 (R : Value → World → Prop) (x3 x7 : Value) (w : World) : Prop :=
  fa 0 x3 fun t44 =>
  ld1 t44 w fun t45 =>
  fa 0 x7 fun t46 =>
  ld1 t46 w fun t47 =>
  qG Try.prog (bq .sub 3 (.tmp 45) (.tmp 47) t45 t47) w fun t48 =>
  fa 1 x7 fun t49 =>
  ld1 t49 w fun t50 =>
  qG Try.prog (Builtin.max_ #[3, 3] 3 #[(.int .i64 1), t50]) w fun t51 =>
  qG Try.prog (bq .quo 3 (.tmp 48) (.tmp 51) t48 t51) w fun t52 =>
  qG Try.prog (Builtin.max_ #[3, 3] 3 #[(.int .i64 1), t52]) w fun t53 =>
  R t53 w
theorem stat_Same_s0_eq (R : Value → World → Prop) : ∀ e w, lift Try.prog 54 (sub (bodyOf Try.f12) [1, 1, 1]) (finK Try.prog Try.f12.results.toList R) e w = stat_Same_s0 R (e 3) (e 7) w := fun e w => by kernel_rfl
def stat_Same_s1 (R : Value → World → Prop) (x0 x1 x2 : Value) (w : World) : Prop :=
  newG (Value.cells x0) 27 w fun t3 w =>
  newG (Value.cells x2) 35 w fun t5 w =>
  ldn 2 t3 w fun t10 =>
  callG Try.prog 24 #[t10, x1] w fun t12 w =>
  qG Try.prog (Instr.extract t12 0) w fun t13 =>
  qG Try.prog (Instr.extract t12 1) w fun t14 =>
  newG (zc Try.prog 32) 32 w fun t7 w =>
  stn 3 t7 t13 w fun w =>
  qG Try.prog (Op.unary .not t14) (World.drew w) fun t16 =>
  bV t16
  (R (.int .i64 0) (World.drew w))
  (fa 0 t5 fun t18 =>
  ld1 t18 (World.drew w) fun t19 =>
  qG Try.prog (bq .eql 3 (.tmp 19) (.const (.int .i64 0)) t19 (.int .i64 0)) (World.drew w) fun t20 =>
  bV t20
  (R (.int .i64 0) (World.drew w))
  (ldn 3 t5 (World.drew w) fun t23 =>
  fa 2 t7 fun t24 =>
  ld1 t24 (World.drew w) fun t25 =>
  ia 3 t25 (.int .i64 0) fun t26 =>
  ldn 3 t26 (World.drew w) fun t27 =>
  callG Try.prog 25 #[t23, t27] (World.drew w) fun t28 w =>
  qG Try.prog (bq .lss 3 (.tmp 28) (.const (.int .i64 0)) t28 (.int .i64 0)) w fun t29 =>
  bV t29
  (R (.int .i64 0) w)
  (ldn 3 t5 w fun t32 =>
  fa 2 t7 fun t33 =>
  ld1 t33 w fun t34 =>
  fa 2 t7 fun t35 =>
  ld1 t35 w fun t36 =>
  lenL t36 fun t37 =>
  qG Try.prog (bq .sub 3 (.tmp 37) (.const (.int .i64 1)) t37 (.int .i64 1)) w fun t38 =>
  ia 3 t34 t38 fun t39 =>
  ldn 3 t39 w fun t40 =>
  callG Try.prog 25 #[t32, t40] w fun t41 w =>
  qG Try.prog (bq .gtr 3 (.tmp 41) (.const (.int .i64 0)) t41 (.int .i64 0)) w fun t42 =>
  bV t42
  (R (.int .i64 0) w)
  (stat_Same_s0 R t3 t7 w))))
theorem stat_Same_s1_eq (R : Value → World → Prop) : ∀ e w, lift Try.prog 54 (bodyOf Try.f12) (finK Try.prog Try.f12.results.toList R) e w = stat_Same_s1 R (e 0) (e 1) (e 2) w :=
  segs_eq (l := [(sub (bodyOf Try.f12) [0]), (sub (bodyOf Try.f12) [1, 0]), (sub (bodyOf Try.f12) [1, 1, 0])]) (y := (sub (bodyOf Try.f12) [1, 1, 1])) (Y := (fun e w => stat_Same_s0 R (e 3) (e 7) w)) (stat_Same_s0_eq R) (fun e w => by kernel_rfl)
def stat_Same (R : Value → World → Prop) (x0 x1 x2 : Value) (w : World) : Prop := stat_Same_s1 R x0 x1 x2 w
theorem stat_Same_call {R : Value → World → Prop} {x0 x1 x2 : Value} {w : World} (h : stat_Same R x0 x1 x2 w) : callG Try.prog 12 #[x0, x1, x2] w R :=
  calls_lift_eq Try.mixed Try.func12 (args := [x0, x1, x2]) rfl rfl rfl rfl ((stat_Same_s1_eq R) (envOf [x0, x1, x2]) w) (by kernel_rfl) h
/-! quayside/simplify.tighter -/
def simplify_tighter_s0 (R : Value → World → Prop) (x0 x1 x2 : Value) (w : World) : Prop :=
  newG (Value.cells x0) 37 w fun t3 w =>
  newG (Value.cells x1) 37 w fun t4 w =>
  newG (zc Try.prog 37) 37 w fun t6 w =>
  fa 0 t3 fun t9 =>
  ld1 t9 w fun t10 =>
  qG Try.prog (Op.unary .not t10) w fun t11 =>
  bV t11
  (ldn 5 t4 w fun t12 =>
  stn 5 t6 t12 w fun w =>
  qG Try.prog (do loadVar 37 (← asAddr t6)) w fun r6 =>
  R r6 w)
  (fa 0 t4 fun t14 =>
  ld1 t14 w fun t15 =>
  qG Try.prog (Op.unary .not t15) w fun t16 =>
  bV t16
  (ldn 5 t3 w fun t17 =>
  stn 5 t6 t17 w fun w =>
  qG Try.prog (do loadVar 37 (← asAddr t6)) w fun r6_1 =>
  R r6_1 w)
  (fa 2 t3 fun t18 =>
  ldn 3 t18 w fun t19 =>
  fa 2 t4 fun t20 =>
  ldn 3 t20 w fun t21 =>
  callG Try.prog 25 #[t19, t21] w fun t22 w =>
  qG Try.prog (bq .mul 3 (.tmp 22) (.tmp 23) t22 x2) w fun t24 =>
  qG Try.prog (bq .lss 3 (.tmp 26) (.const (.int .i64 0)) t24 (.int .i64 0)) w fun t27 =>
  bV t27
  (ldn 5 t4 w fun t28 =>
  stn 5 t6 t28 w fun w =>
  qG Try.prog (do loadVar 37 (← asAddr t6)) w fun r6_2 =>
  R r6_2 w)
  (qG Try.prog (bq .eql 3 (.tmp 30) (.const (.int .i64 0)) t24 (.int .i64 0)) w fun t31 =>
  bV t31
  (fa 1 t3 fun t32 =>
  ld1 t32 w fun t33 =>
  bV t33
  (fa 1 t3 fun t38 =>
  st1 t38 (.bool true) w fun w =>
  ldn 5 t3 w fun t39 =>
  stn 5 t6 t39 w fun w =>
  qG Try.prog (do loadVar 37 (← asAddr t6)) w fun r6_3 =>
  R r6_3 w)
  (fa 1 t4 fun t35 =>
  ld1 t35 w fun t36 =>
  fa 1 t3 fun t38_1 =>
  st1 t38_1 t36 w fun w =>
  ldn 5 t3 w fun t39_1 =>
  stn 5 t6 t39_1 w fun w =>
  qG Try.prog (do loadVar 37 (← asAddr t6)) w fun r6_4 =>
  R r6_4 w))
  (ldn 5 t3 w fun t39_2 =>
  stn 5 t6 t39_2 w fun w =>
  qG Try.prog (do loadVar 37 (← asAddr t6)) w fun r6_5 =>
  R r6_5 w))))
theorem simplify_tighter_s0_eq (R : Value → World → Prop) : ∀ e w, lift Try.prog 40 (bodyOf Try.f41) (finK Try.prog Try.f41.results.toList R) e w = simplify_tighter_s0 R (e 0) (e 1) (e 2) w := fun e w => by kernel_rfl
def simplify_tighter (R : Value → World → Prop) (x0 x1 x2 : Value) (w : World) : Prop := simplify_tighter_s0 R x0 x1 x2 w
theorem simplify_tighter_call {R : Value → World → Prop} {x0 x1 x2 : Value} {w : World} (h : simplify_tighter R x0 x1 x2 w) : callG Try.prog 41 #[x0, x1, x2] w R :=
  calls_lift_eq Try.mixed Try.func41 (args := [x0, x1, x2]) rfl rfl rfl rfl ((simplify_tighter_s0_eq R) (envOf [x0, x1, x2]) w) (by kernel_rfl) h
/-! quayside/simplify.Narrow -/
def simplify_Narrow_s0 (R : Value → World → Prop) (x8 x9 x11 x12 : Value) (w : World) : Prop :=
  fa 2 x11 fun t30 =>
  ldn 3 t30 w fun t31 =>
  fa 2 x12 fun t32 =>
  ldn 3 t32 w fun t33 =>
  callG Try.prog 25 #[t31, t33] w fun t34 w =>
  ldn 5 x11 (World.drew w) fun t35 =>
  ldn 5 x12 (World.drew w) fun t36 =>
  qG Try.prog (bq .lss 3 (.tmp 37) (.const (.int .i64 0)) t34 (.int .i64 0)) (World.drew w) fun t38 =>
  bV t38
  (stn 5 x8 t35 (World.drew w) fun w =>
  ldn 5 x12 w (fun u => u = t36) ∧
  stn 5 x9 t36 w fun w =>
  qG Try.prog (do loadVar 37 (← asAddr x8)) w fun r8 =>
  qG Try.prog (do loadVar 37 (← asAddr x9)) w fun r9 =>
  R (.tuple #[r8, r9, (.bool true)]) w)
  (qG Try.prog (bq .eql 3 (.tmp 40) (.const (.int .i64 0)) t34 (.int .i64 0)) (World.drew w) fun t41 =>
  bV t41
  (fa 1 x11 fun t43 =>
  ld1 t43 (World.drew w) fun t44 =>
  qG Try.prog (Op.unary .not t44) (World.drew w) fun t45 =>
  bV t45
  (fa 1 x12 fun t48 =>
  ld1 t48 (World.drew w) fun t49 =>
  qG Try.prog (Op.unary .not t49) (World.drew w) fun t50 =>
  stn 5 x8 t35 (World.drew w) fun w =>
  stb Try.prog (Op.unary .not t49) t50 w ∧
  ld1 t48 w (fun u => u = t49) ∧
  ldn 5 x12 w (fun u => u = t36) ∧
  stn 5 x9 t36 w fun w =>
  stb Try.prog (Op.unary .not t49) t50 w ∧
  ld1 t48 w (fun u => u = t49) ∧
  qG Try.prog (do loadVar 37 (← asAddr x8)) w fun r8_1 =>
  qG Try.prog (do loadVar 37 (← asAddr x9)) w fun r9_1 =>
  R (.tuple #[r8_1, r9_1, t50]) w)
  (stn 5 x8 t35 (World.drew w) fun w =>
  ldn 5 x12 w (fun u => u = t36) ∧
  stn 5 x9 t36 w fun w =>
  qG Try.prog (do loadVar 37 (← asAddr x8)) w fun r8_2 =>
  qG Try.prog (do loadVar 37 (← asAddr x9)) w fun r9_2 =>
  R (.tuple #[r8_2, r9_2, (.bool false)]) w))
  (stn 5 x8 t35 (World.drew w) fun w =>
  ldn 5 x12 w (fun u => u = t36) ∧
  stn 5 x9 t36 w fun w =>
  qG Try.prog (do loadVar 37 (← asAddr x8)) w fun r8_3 =>
  qG Try.prog (do loadVar 37 (← asAddr x9)) w fun r9_3 =>
  R (.tuple #[r8_3, r9_3, (.bool false)]) w))
theorem simplify_Narrow_s0_eq (R : Value → World → Prop) : ∀ e w, lift Try.prog 53 (sub (bodyOf Try.f26) [1, 1, 1]) (finK Try.prog Try.f26.results.toList R) e w = simplify_Narrow_s0 R (e 8) (e 9) (e 11) (e 12) w := fun e w => by kernel_rfl
def simplify_Narrow_s1 (R : Value → World → Prop) (x0 x1 x2 x3 : Value) (w : World) : Prop :=
  newG (Value.cells x0) 37 w fun t4 w =>
  newG (Value.cells x1) 37 w fun t5 w =>
  newG (Value.cells x2) 37 w fun t6 w =>
  newG (Value.cells x3) 37 w fun t7 w =>
  newG (zc Try.prog 37) 37 w fun t8 w =>
  newG (zc Try.prog 37) 37 w fun t9 w =>
  ldn 5 t4 (World.drew w) fun t14 =>
  ldn 5 t6 (World.drew w) fun t15 =>
  ldn 5 t5 (World.drew w) fun t17 =>
  ldn 5 t7 (World.drew w) fun t18 =>
  (callG Try.prog 41 #[t14, t15, (.int .i64 1)] (World.drew w) fun t16 w =>
  ldn 5 t7 w (fun u => u = t18) ∧
  ldn 5 t5 w (fun u => u = t17) ∧
  (callG Try.prog 41 #[t17, t18, (.int .i64 (-1))] w fun t19 w =>
  (newG (zc Try.prog 37) 37 w fun t11 w =>
  ldn 5 t7 w (fun u => u = t18) ∧
  ldn 5 t5 w (fun u => u = t17) ∧
  ldn 5 t6 w (fun u => u = t15) ∧
  ldn 5 t4 w (fun u => u = t14) ∧
  newG (zc Try.prog 37) 37 w fun t12 w =>
  ldn 5 t7 w (fun u => u = t18) ∧
  ldn 5 t5 w (fun u => u = t17) ∧
  ldn 5 t6 w (fun u => u = t15) ∧
  ldn 5 t4 w (fun u => u = t14) ∧
  stn 5 t11 t16 w fun w =>
  stn 5 t12 t19 w fun w =>
  fa 0 t11 fun t20 =>
  ld1 t20 w fun t21 =>
  qG Try.prog (Op.unary .not t21) w fun t22 =>
  bV t22
  (ldn 5 t11 (World.drew w) fun t28 =>
  ldn 5 t12 (World.drew w) fun t29 =>
  stn 5 t8 t28 (World.drew w) fun w =>
  ldn 5 t12 w (fun u => u = t29) ∧
  stn 5 t9 t29 w fun w =>
  qG Try.prog (do loadVar 37 (← asAddr t8)) w fun r8 =>
  qG Try.prog (do loadVar 37 (← asAddr t9)) w fun r9 =>
  R (.tuple #[r8, r9, (.bool true)]) w)
  (fa 0 t12 fun t24 =>
  ld1 t24 w fun t25 =>
  qG Try.prog (Op.unary .not t25) w fun t26 =>
  bV t26
  (ldn 5 t11 (World.drew w) fun t28_1 =>
  ldn 5 t12 (World.drew w) fun t29_1 =>
  stn 5 t8 t28_1 (World.drew w) fun w =>
  ldn 5 t12 w (fun u => u = t29_1) ∧
  stn 5 t9 t29_1 w fun w =>
  qG Try.prog (do loadVar 37 (← asAddr t8)) w fun r8_1 =>
  qG Try.prog (do loadVar 37 (← asAddr t9)) w fun r9_1 =>
  R (.tuple #[r8_1, r9_1, (.bool true)]) w)
  (simplify_Narrow_s0 R t8 t9 t11 t12 w))) ∧
  (newG (zc Try.prog 37) 37 w fun t12_1 w =>
  ldn 5 t7 w (fun u => u = t18) ∧
  ldn 5 t5 w (fun u => u = t17) ∧
  ldn 5 t6 w (fun u => u = t15) ∧
  ldn 5 t4 w (fun u => u = t14) ∧
  newG (zc Try.prog 37) 37 w fun t11_1 w =>
  ldn 5 t7 w (fun u => u = t18) ∧
  ldn 5 t5 w (fun u => u = t17) ∧
  ldn 5 t6 w (fun u => u = t15) ∧
  ldn 5 t4 w (fun u => u = t14) ∧
  stn 5 t11_1 t16 w fun w =>
  stn 5 t12_1 t19 w fun w =>
  fa 0 t11_1 fun t20_1 =>
  ld1 t20_1 w fun t21_1 =>
  qG Try.prog (Op.unary .not t21_1) w fun t22_1 =>
  bV t22_1
  (ldn 5 t11_1 (World.drew w) fun t28_2 =>
  ldn 5 t12_1 (World.drew w) fun t29_2 =>
  stn 5 t8 t28_2 (World.drew w) fun w =>
  ldn 5 t12_1 w (fun u => u = t29_2) ∧
  stn 5 t9 t29_2 w fun w =>
  qG Try.prog (do loadVar 37 (← asAddr t8)) w fun r8_2 =>
  qG Try.prog (do loadVar 37 (← asAddr t9)) w fun r9_2 =>
  R (.tuple #[r8_2, r9_2, (.bool true)]) w)
  (fa 0 t12_1 fun t24_1 =>
  ld1 t24_1 w fun t25_1 =>
  qG Try.prog (Op.unary .not t25_1) w fun t26_1 =>
  bV t26_1
  (ldn 5 t11_1 (World.drew w) fun t28_3 =>
  ldn 5 t12_1 (World.drew w) fun t29_3 =>
  stn 5 t8 t28_3 (World.drew w) fun w =>
  ldn 5 t12_1 w (fun u => u = t29_3) ∧
  stn 5 t9 t29_3 w fun w =>
  qG Try.prog (do loadVar 37 (← asAddr t8)) w fun r8_3 =>
  qG Try.prog (do loadVar 37 (← asAddr t9)) w fun r9_3 =>
  R (.tuple #[r8_3, r9_3, (.bool true)]) w)
  (simplify_Narrow_s0 R t8 t9 t11_1 t12_1 w)))) ∧
  (newG (zc Try.prog 37) 37 w fun t11_2 w =>
  ldn 5 t7 w (fun u => u = t18) ∧
  ldn 5 t5 w (fun u => u = t17) ∧
  ldn 5 t6 w (fun u => u = t15) ∧
  ldn 5 t4 w (fun u => u = t14) ∧
  (callG Try.prog 41 #[t17, t18, (.int .i64 (-1))] w fun t19_1 w =>
  newG (zc Try.prog 37) 37 w fun t12_2 w =>
  ldn 5 t7 w (fun u => u = t18) ∧
  ldn 5 t5 w (fun u => u = t17) ∧
  ldn 5 t6 w (fun u => u = t15) ∧
  ldn 5 t4 w (fun u => u = t14) ∧
  stn 5 t11_2 t16 w fun w =>
  stn 5 t12_2 t19_1 w fun w =>
  fa 0 t11_2 fun t20_2 =>
  ld1 t20_2 w fun t21_2 =>
  qG Try.prog (Op.unary .not t21_2) w fun t22_2 =>
  bV t22_2
  (ldn 5 t11_2 (World.drew w) fun t28_4 =>
  ldn 5 t12_2 (World.drew w) fun t29_4 =>
  stn 5 t8 t28_4 (World.drew w) fun w =>
  ldn 5 t12_2 w (fun u => u = t29_4) ∧
  stn 5 t9 t29_4 w fun w =>
  qG Try.prog (do loadVar 37 (← asAddr t8)) w fun r8_4 =>
  qG Try.prog (do loadVar 37 (← asAddr t9)) w fun r9_4 =>
  R (.tuple #[r8_4, r9_4, (.bool true)]) w)
  (fa 0 t12_2 fun t24_2 =>
  ld1 t24_2 w fun t25_2 =>
  qG Try.prog (Op.unary .not t25_2) w fun t26_2 =>
  bV t26_2
  (ldn 5 t11_2 (World.drew w) fun t28_5 =>
  ldn 5 t12_2 (World.drew w) fun t29_5 =>
  stn 5 t8 t28_5 (World.drew w) fun w =>
  ldn 5 t12_2 w (fun u => u = t29_5) ∧
  stn 5 t9 t29_5 w fun w =>
  qG Try.prog (do loadVar 37 (← asAddr t8)) w fun r8_5 =>
  qG Try.prog (do loadVar 37 (← asAddr t9)) w fun r9_5 =>
  R (.tuple #[r8_5, r9_5, (.bool true)]) w)
  (simplify_Narrow_s0 R t8 t9 t11_2 t12_2 w))) ∧
  (newG (zc Try.prog 37) 37 w fun t12_3 w =>
  ldn 5 t7 w (fun u => u = t18) ∧
  ldn 5 t5 w (fun u => u = t17) ∧
  ldn 5 t6 w (fun u => u = t15) ∧
  ldn 5 t4 w (fun u => u = t14) ∧
  callG Try.prog 41 #[t17, t18, (.int .i64 (-1))] w fun t19_2 w =>
  stn 5 t11_2 t16 w fun w =>
  stn 5 t12_3 t19_2 w fun w =>
  fa 0 t11_2 fun t20_3 =>
  ld1 t20_3 w fun t21_3 =>
  qG Try.prog (Op.unary .not t21_3) w fun t22_3 =>
  bV t22_3
  (ldn 5 t11_2 (World.drew w) fun t28_6 =>
  ldn 5 t12_3 (World.drew w) fun t29_6 =>
  stn 5 t8 t28_6 (World.drew w) fun w =>
  ldn 5 t12_3 w (fun u => u = t29_6) ∧
  stn 5 t9 t29_6 w fun w =>
  qG Try.prog (do loadVar 37 (← asAddr t8)) w fun r8_6 =>
  qG Try.prog (do loadVar 37 (← asAddr t9)) w fun r9_6 =>
  R (.tuple #[r8_6, r9_6, (.bool true)]) w)
  (fa 0 t12_3 fun t24_3 =>
  ld1 t24_3 w fun t25_3 =>
  qG Try.prog (Op.unary .not t25_3) w fun t26_3 =>
  bV t26_3
  (ldn 5 t11_2 (World.drew w) fun t28_7 =>
  ldn 5 t12_3 (World.drew w) fun t29_7 =>
  stn 5 t8 t28_7 (World.drew w) fun w =>
  ldn 5 t12_3 w (fun u => u = t29_7) ∧
  stn 5 t9 t29_7 w fun w =>
  qG Try.prog (do loadVar 37 (← asAddr t8)) w fun r8_7 =>
  qG Try.prog (do loadVar 37 (← asAddr t9)) w fun r9_7 =>
  R (.tuple #[r8_7, r9_7, (.bool true)]) w)
  (simplify_Narrow_s0 R t8 t9 t11_2 t12_3 w)))) ∧
  (newG (zc Try.prog 37) 37 w fun t12_4 w =>
  ldn 5 t7 w (fun u => u = t18) ∧
  ldn 5 t5 w (fun u => u = t17) ∧
  ldn 5 t6 w (fun u => u = t15) ∧
  ldn 5 t4 w (fun u => u = t14) ∧
  (callG Try.prog 41 #[t17, t18, (.int .i64 (-1))] w fun t19_3 w =>
  newG (zc Try.prog 37) 37 w fun t11_3 w =>
  ldn 5 t7 w (fun u => u = t18) ∧
  ldn 5 t5 w (fun u => u = t17) ∧
  ldn 5 t6 w (fun u => u = t15) ∧
  ldn 5 t4 w (fun u => u = t14) ∧
  stn 5 t11_3 t16 w fun w =>
  stn 5 t12_4 t19_3 w fun w =>
  fa 0 t11_3 fun t20_4 =>
  ld1 t20_4 w fun t21_4 =>
  qG Try.prog (Op.unary .not t21_4) w fun t22_4 =>
  bV t22_4
  (ldn 5 t11_3 (World.drew w) fun t28_8 =>
  ldn 5 t12_4 (World.drew w) fun t29_8 =>
  stn 5 t8 t28_8 (World.drew w) fun w =>
  ldn 5 t12_4 w (fun u => u = t29_8) ∧
  stn 5 t9 t29_8 w fun w =>
  qG Try.prog (do loadVar 37 (← asAddr t8)) w fun r8_8 =>
  qG Try.prog (do loadVar 37 (← asAddr t9)) w fun r9_8 =>
  R (.tuple #[r8_8, r9_8, (.bool true)]) w)
  (fa 0 t12_4 fun t24_4 =>
  ld1 t24_4 w fun t25_4 =>
  qG Try.prog (Op.unary .not t25_4) w fun t26_4 =>
  bV t26_4
  (ldn 5 t11_3 (World.drew w) fun t28_9 =>
  ldn 5 t12_4 (World.drew w) fun t29_9 =>
  stn 5 t8 t28_9 (World.drew w) fun w =>
  ldn 5 t12_4 w (fun u => u = t29_9) ∧
  stn 5 t9 t29_9 w fun w =>
  qG Try.prog (do loadVar 37 (← asAddr t8)) w fun r8_9 =>
  qG Try.prog (do loadVar 37 (← asAddr t9)) w fun r9_9 =>
  R (.tuple #[r8_9, r9_9, (.bool true)]) w)
  (simplify_Narrow_s0 R t8 t9 t11_3 t12_4 w))) ∧
  (newG (zc Try.prog 37) 37 w fun t11_4 w =>
  ldn 5 t7 w (fun u => u = t18) ∧
  ldn 5 t5 w (fun u => u = t17) ∧
  ldn 5 t6 w (fun u => u = t15) ∧
  ldn 5 t4 w (fun u => u = t14) ∧
  callG Try.prog 41 #[t17, t18, (.int .i64 (-1))] w fun t19_4 w =>
  stn 5 t11_4 t16 w fun w =>
  stn 5 t12_4 t19_4 w fun w =>
  fa 0 t11_4 fun t20_5 =>
  ld1 t20_5 w fun t21_5 =>
  qG Try.prog (Op.unary .not t21_5) w fun t22_5 =>
  bV t22_5
  (ldn 5 t11_4 (World.drew w) fun t28_10 =>
  ldn 5 t12_4 (World.drew w) fun t29_10 =>
  stn 5 t8 t28_10 (World.drew w) fun w =>
  ldn 5 t12_4 w (fun u => u = t29_10) ∧
  stn 5 t9 t29_10 w fun w =>
  qG Try.prog (do loadVar 37 (← asAddr t8)) w fun r8_10 =>
  qG Try.prog (do loadVar 37 (← asAddr t9)) w fun r9_10 =>
  R (.tuple #[r8_10, r9_10, (.bool true)]) w)
  (fa 0 t12_4 fun t24_5 =>
  ld1 t24_5 w fun t25_5 =>
  qG Try.prog (Op.unary .not t25_5) w fun t26_5 =>
  bV t26_5
  (ldn 5 t11_4 (World.drew w) fun t28_11 =>
  ldn 5 t12_4 (World.drew w) fun t29_11 =>
  stn 5 t8 t28_11 (World.drew w) fun w =>
  ldn 5 t12_4 w (fun u => u = t29_11) ∧
  stn 5 t9 t29_11 w fun w =>
  qG Try.prog (do loadVar 37 (← asAddr t8)) w fun r8_11 =>
  qG Try.prog (do loadVar 37 (← asAddr t9)) w fun r9_11 =>
  R (.tuple #[r8_11, r9_11, (.bool true)]) w)
  (simplify_Narrow_s0 R t8 t9 t11_4 t12_4 w))))) ∧
  (newG (zc Try.prog 37) 37 (World.drew w) fun t11_5 w =>
  ldn 5 t7 w (fun u => u = t18) ∧
  ldn 5 t5 w (fun u => u = t17) ∧
  ldn 5 t6 w (fun u => u = t15) ∧
  ldn 5 t4 w (fun u => u = t14) ∧
  (callG Try.prog 41 #[t14, t15, (.int .i64 1)] w fun t16_1 w =>
  ldn 5 t7 w (fun u => u = t18) ∧
  ldn 5 t5 w (fun u => u = t17) ∧
  (callG Try.prog 41 #[t17, t18, (.int .i64 (-1))] w fun t19_5 w =>
  newG (zc Try.prog 37) 37 w fun t12_5 w =>
  ldn 5 t7 w (fun u => u = t18) ∧
  ldn 5 t5 w (fun u => u = t17) ∧
  ldn 5 t6 w (fun u => u = t15) ∧
  ldn 5 t4 w (fun u => u = t14) ∧
  stn 5 t11_5 t16_1 w fun w =>
  stn 5 t12_5 t19_5 w fun w =>
  fa 0 t11_5 fun t20_6 =>
  ld1 t20_6 w fun t21_6 =>
  qG Try.prog (Op.unary .not t21_6) w fun t22_6 =>
  bV t22_6
  (ldn 5 t11_5 (World.drew w) fun t28_12 =>
  ldn 5 t12_5 (World.drew w) fun t29_12 =>
  stn 5 t8 t28_12 (World.drew w) fun w =>
  ldn 5 t12_5 w (fun u => u = t29_12) ∧
  stn 5 t9 t29_12 w fun w =>
  qG Try.prog (do loadVar 37 (← asAddr t8)) w fun r8_12 =>
  qG Try.prog (do loadVar 37 (← asAddr t9)) w fun r9_12 =>
  R (.tuple #[r8_12, r9_12, (.bool true)]) w)
  (fa 0 t12_5 fun t24_6 =>
  ld1 t24_6 w fun t25_6 =>
  qG Try.prog (Op.unary .not t25_6) w fun t26_6 =>
  bV t26_6
  (ldn 5 t11_5 (World.drew w) fun t28_13 =>
  ldn 5 t12_5 (World.drew w) fun t29_13 =>
  stn 5 t8 t28_13 (World.drew w) fun w =>
  ldn 5 t12_5 w (fun u => u = t29_13) ∧
  stn 5 t9 t29_13 w fun w =>
  qG Try.prog (do loadVar 37 (← asAddr t8)) w fun r8_13 =>
  qG Try.prog (do loadVar 37 (← asAddr t9)) w fun r9_13 =>
  R (.tuple #[r8_13, r9_13, (.bool true)]) w)
  (simplify_Narrow_s0 R t8 t9 t11_5 t12_5 w))) ∧
  (newG (zc Try.prog 37) 37 w fun t12_6 w =>
  ldn 5 t7 w (fun u => u = t18) ∧
  ldn 5 t5 w (fun u => u = t17) ∧
  ldn 5 t6 w (fun u => u = t15) ∧
  ldn 5 t4 w (fun u => u = t14) ∧
  callG Try.prog 41 #[t17, t18, (.int .i64 (-1))] w fun t19_6 w =>
  stn 5 t11_5 t16_1 w fun w =>
  stn 5 t12_6 t19_6 w fun w =>
  fa 0 t11_5 fun t20_7 =>
  ld1 t20_7 w fun t21_7 =>
  qG Try.prog (Op.unary .not t21_7) w fun t22_7 =>
  bV t22_7
  (ldn 5 t11_5 (World.drew w) fun t28_14 =>
  ldn 5 t12_6 (World.drew w) fun t29_14 =>
  stn 5 t8 t28_14 (World.drew w) fun w =>
  ldn 5 t12_6 w (fun u => u = t29_14) ∧
  stn 5 t9 t29_14 w fun w =>
  qG Try.prog (do loadVar 37 (← asAddr t8)) w fun r8_14 =>
  qG Try.prog (do loadVar 37 (← asAddr t9)) w fun r9_14 =>
  R (.tuple #[r8_14, r9_14, (.bool true)]) w)
  (fa 0 t12_6 fun t24_7 =>
  ld1 t24_7 w fun t25_7 =>
  qG Try.prog (Op.unary .not t25_7) w fun t26_7 =>
  bV t26_7
  (ldn 5 t11_5 (World.drew w) fun t28_15 =>
  ldn 5 t12_6 (World.drew w) fun t29_15 =>
  stn 5 t8 t28_15 (World.drew w) fun w =>
  ldn 5 t12_6 w (fun u => u = t29_15) ∧
  stn 5 t9 t29_15 w fun w =>
  qG Try.prog (do loadVar 37 (← asAddr t8)) w fun r8_15 =>
  qG Try.prog (do loadVar 37 (← asAddr t9)) w fun r9_15 =>
  R (.tuple #[r8_15, r9_15, (.bool true)]) w)
  (simplify_Narrow_s0 R t8 t9 t11_5 t12_6 w)))) ∧
  (newG (zc Try.prog 37) 37 w fun t12_7 w =>
  ldn 5 t7 w (fun u => u = t18) ∧
  ldn 5 t5 w (fun u => u = t17) ∧
  ldn 5 t6 w (fun u => u = t15) ∧
  ldn 5 t4 w (fun u => u = t14) ∧
  callG Try.prog 41 #[t14, t15, (.int .i64 1)] w fun t16_2 w =>
  ldn 5 t7 w (fun u => u = t18) ∧
  ldn 5 t5 w (fun u => u = t17) ∧
  callG Try.prog 41 #[t17, t18, (.int .i64 (-1))] w fun t19_7 w =>
  stn 5 t11_5 t16_2 w fun w =>
  stn 5 t12_7 t19_7 w fun w =>
  fa 0 t11_5 fun t20_8 =>
  ld1 t20_8 w fun t21_8 =>
  qG Try.prog (Op.unary .not t21_8) w fun t22_8 =>
  bV t22_8
  (ldn 5 t11_5 (World.drew w) fun t28_16 =>
  ldn 5 t12_7 (World.drew w) fun t29_16 =>
  stn 5 t8 t28_16 (World.drew w) fun w =>
  ldn 5 t12_7 w (fun u => u = t29_16) ∧
  stn 5 t9 t29_16 w fun w =>
  qG Try.prog (do loadVar 37 (← asAddr t8)) w fun r8_16 =>
  qG Try.prog (do loadVar 37 (← asAddr t9)) w fun r9_16 =>
  R (.tuple #[r8_16, r9_16, (.bool true)]) w)
  (fa 0 t12_7 fun t24_8 =>
  ld1 t24_8 w fun t25_8 =>
  qG Try.prog (Op.unary .not t25_8) w fun t26_8 =>
  bV t26_8
  (ldn 5 t11_5 (World.drew w) fun t28_17 =>
  ldn 5 t12_7 (World.drew w) fun t29_17 =>
  stn 5 t8 t28_17 (World.drew w) fun w =>
  ldn 5 t12_7 w (fun u => u = t29_17) ∧
  stn 5 t9 t29_17 w fun w =>
  qG Try.prog (do loadVar 37 (← asAddr t8)) w fun r8_17 =>
  qG Try.prog (do loadVar 37 (← asAddr t9)) w fun r9_17 =>
  R (.tuple #[r8_17, r9_17, (.bool true)]) w)
  (simplify_Narrow_s0 R t8 t9 t11_5 t12_7 w)))) ∧
  (newG (zc Try.prog 37) 37 (World.drew w) fun t12_8 w =>
  ldn 5 t7 w (fun u => u = t18) ∧
  ldn 5 t5 w (fun u => u = t17) ∧
  ldn 5 t6 w (fun u => u = t15) ∧
  ldn 5 t4 w (fun u => u = t14) ∧
  (callG Try.prog 41 #[t14, t15, (.int .i64 1)] w fun t16_3 w =>
  ldn 5 t7 w (fun u => u = t18) ∧
  ldn 5 t5 w (fun u => u = t17) ∧
  (callG Try.prog 41 #[t17, t18, (.int .i64 (-1))] w fun t19_8 w =>
  newG (zc Try.prog 37) 37 w fun t11_6 w =>
  ldn 5 t7 w (fun u => u = t18) ∧
  ldn 5 t5 w (fun u => u = t17) ∧
  ldn 5 t6 w (fun u => u = t15) ∧
  ldn 5 t4 w (fun u => u = t14) ∧
  stn 5 t11_6 t16_3 w fun w =>
  stn 5 t12_8 t19_8 w fun w =>
  fa 0 t11_6 fun t20_9 =>
  ld1 t20_9 w fun t21_9 =>
  qG Try.prog (Op.unary .not t21_9) w fun t22_9 =>
  bV t22_9
  (ldn 5 t11_6 (World.drew w) fun t28_18 =>
  ldn 5 t12_8 (World.drew w) fun t29_18 =>
  stn 5 t8 t28_18 (World.drew w) fun w =>
  ldn 5 t12_8 w (fun u => u = t29_18) ∧
  stn 5 t9 t29_18 w fun w =>
  qG Try.prog (do loadVar 37 (← asAddr t8)) w fun r8_18 =>
  qG Try.prog (do loadVar 37 (← asAddr t9)) w fun r9_18 =>
  R (.tuple #[r8_18, r9_18, (.bool true)]) w)
  (fa 0 t12_8 fun t24_9 =>
  ld1 t24_9 w fun t25_9 =>
  qG Try.prog (Op.unary .not t25_9) w fun t26_9 =>
  bV t26_9
  (ldn 5 t11_6 (World.drew w) fun t28_19 =>
  ldn 5 t12_8 (World.drew w) fun t29_19 =>
  stn 5 t8 t28_19 (World.drew w) fun w =>
  ldn 5 t12_8 w (fun u => u = t29_19) ∧
  stn 5 t9 t29_19 w fun w =>
  qG Try.prog (do loadVar 37 (← asAddr t8)) w fun r8_19 =>
  qG Try.prog (do loadVar 37 (← asAddr t9)) w fun r9_19 =>
  R (.tuple #[r8_19, r9_19, (.bool true)]) w)
  (simplify_Narrow_s0 R t8 t9 t11_6 t12_8 w))) ∧
  (newG (zc Try.prog 37) 37 w fun t11_7 w =>
  ldn 5 t7 w (fun u => u = t18) ∧
  ldn 5 t5 w (fun u => u = t17) ∧
  ldn 5 t6 w (fun u => u = t15) ∧
  ldn 5 t4 w (fun u => u = t14) ∧
  callG Try.prog 41 #[t17, t18, (.int .i64 (-1))] w fun t19_9 w =>
  stn 5 t11_7 t16_3 w fun w =>
  stn 5 t12_8 t19_9 w fun w =>
  fa 0 t11_7 fun t20_10 =>
  ld1 t20_10 w fun t21_10 =>
  qG Try.prog (Op.unary .not t21_10) w fun t22_10 =>
  bV t22_10
  (ldn 5 t11_7 (World.drew w) fun t28_20 =>
  ldn 5 t12_8 (World.drew w) fun t29_20 =>
  stn 5 t8 t28_20 (World.drew w) fun w =>
  ldn 5 t12_8 w (fun u => u = t29_20) ∧
  stn 5 t9 t29_20 w fun w =>
  qG Try.prog (do loadVar 37 (← asAddr t8)) w fun r8_20 =>
  qG Try.prog (do loadVar 37 (← asAddr t9)) w fun r9_20 =>
  R (.tuple #[r8_20, r9_20, (.bool true)]) w)
  (fa 0 t12_8 fun t24_10 =>
  ld1 t24_10 w fun t25_10 =>
  qG Try.prog (Op.unary .not t25_10) w fun t26_10 =>
  bV t26_10
  (ldn 5 t11_7 (World.drew w) fun t28_21 =>
  ldn 5 t12_8 (World.drew w) fun t29_21 =>
  stn 5 t8 t28_21 (World.drew w) fun w =>
  ldn 5 t12_8 w (fun u => u = t29_21) ∧
  stn 5 t9 t29_21 w fun w =>
  qG Try.prog (do loadVar 37 (← asAddr t8)) w fun r8_21 =>
  qG Try.prog (do loadVar 37 (← asAddr t9)) w fun r9_21 =>
  R (.tuple #[r8_21, r9_21, (.bool true)]) w)
  (simplify_Narrow_s0 R t8 t9 t11_7 t12_8 w)))) ∧
  (newG (zc Try.prog 37) 37 w fun t11_8 w =>
  ldn 5 t7 w (fun u => u = t18) ∧
  ldn 5 t5 w (fun u => u = t17) ∧
  ldn 5 t6 w (fun u => u = t15) ∧
  ldn 5 t4 w (fun u => u = t14) ∧
  callG Try.prog 41 #[t14, t15, (.int .i64 1)] w fun t16_4 w =>
  ldn 5 t7 w (fun u => u = t18) ∧
  ldn 5 t5 w (fun u => u = t17) ∧
  callG Try.prog 41 #[t17, t18, (.int .i64 (-1))] w fun t19_10 w =>
  stn 5 t11_8 t16_4 w fun w =>
  stn 5 t12_8 t19_10 w fun w =>
  fa 0 t11_8 fun t20_11 =>
  ld1 t20_11 w fun t21_11 =>
  qG Try.prog (Op.unary .not t21_11) w fun t22_11 =>
  bV t22_11
  (ldn 5 t11_8 (World.drew w) fun t28_22 =>
  ldn 5 t12_8 (World.drew w) fun t29_22 =>
  stn 5 t8 t28_22 (World.drew w) fun w =>
  ldn 5 t12_8 w (fun u => u = t29_22) ∧
  stn 5 t9 t29_22 w fun w =>
  qG Try.prog (do loadVar 37 (← asAddr t8)) w fun r8_22 =>
  qG Try.prog (do loadVar 37 (← asAddr t9)) w fun r9_22 =>
  R (.tuple #[r8_22, r9_22, (.bool true)]) w)
  (fa 0 t12_8 fun t24_11 =>
  ld1 t24_11 w fun t25_11 =>
  qG Try.prog (Op.unary .not t25_11) w fun t26_11 =>
  bV t26_11
  (ldn 5 t11_8 (World.drew w) fun t28_23 =>
  ldn 5 t12_8 (World.drew w) fun t29_23 =>
  stn 5 t8 t28_23 (World.drew w) fun w =>
  ldn 5 t12_8 w (fun u => u = t29_23) ∧
  stn 5 t9 t29_23 w fun w =>
  qG Try.prog (do loadVar 37 (← asAddr t8)) w fun r8_23 =>
  qG Try.prog (do loadVar 37 (← asAddr t9)) w fun r9_23 =>
  R (.tuple #[r8_23, r9_23, (.bool true)]) w)
  (simplify_Narrow_s0 R t8 t9 t11_8 t12_8 w))))
theorem simplify_Narrow_s1_eq (R : Value → World → Prop) : ∀ e w, lift Try.prog 53 (bodyOf Try.f26) (finK Try.prog Try.f26.results.toList R) e w = simplify_Narrow_s1 R (e 0) (e 1) (e 2) (e 3) w :=
  segs_eq (l := [(sub (bodyOf Try.f26) [0]), (sub (bodyOf Try.f26) [1, 0]), (sub (bodyOf Try.f26) [1, 1, 0])]) (y := (sub (bodyOf Try.f26) [1, 1, 1])) (Y := (fun e w => simplify_Narrow_s0 R (e 8) (e 9) (e 11) (e 12) w)) (simplify_Narrow_s0_eq R) (fun e w => by kernel_rfl)
def simplify_Narrow (R : Value → World → Prop) (x0 x1 x2 x3 : Value) (w : World) : Prop := simplify_Narrow_s1 R x0 x1 x2 x3 w
theorem simplify_Narrow_call {R : Value → World → Prop} {x0 x1 x2 x3 : Value} {w : World} (h : simplify_Narrow R x0 x1 x2 x3 w) : callG Try.prog 26 #[x0, x1, x2, x3] w R :=
  calls_lift_eq Try.mixed Try.func26 (args := [x0, x1, x2, x3]) rfl rfl rfl rfl ((simplify_Narrow_s1_eq R) (envOf [x0, x1, x2, x3]) w) (by kernel_rfl) h
/-! quayside/stat.in -/
def stat_in_s0 (R : Value → World → Prop) (x0 x1 x2 : Value) (w : World) : Prop :=
  newG (Value.cells x0) 35 w fun t3 w =>
  newG (Value.cells x1) 37 w fun t4 w =>
  newG (Value.cells x2) 37 w fun t5 w =>
  ldn 3 t3 w fun t11 =>
  bld [(0, 1), (1, 1), (2, 3)] (zc Try.prog 37) #[(0, (.bool true)), (2, t11)] fun t12 =>
  newG (zc Try.prog 37) 37 w fun t7 w =>
  stn 5 t7 t12 w fun w =>
  ldn 5 t4 w fun t14 =>
  ldn 5 t5 w fun t15 =>
  ldn 5 t7 w fun t16 =>
  ldn 5 t7 w fun t17 =>
  callG Try.prog 26 #[t14, t15, t16, t17] w fun t18 w =>
  qG Try.prog (Instr.extract t18 0) w fun t19 =>
  qG Try.prog (Instr.extract t18 1) w fun t20 =>
  qG Try.prog (Instr.extract t18 2) w fun t21 =>
  newG (zc Try.prog 37) 37 w fun t8 w =>
  newG (zc Try.prog 37) 37 w fun t9 w =>
  stn 5 t8 t19 w fun w =>
  stn 5 t9 t20 w fun w =>
  R t21 w
theorem stat_in_s0_eq (R : Value → World → Prop) : ∀ e w, lift Try.prog 23 (bodyOf Try.f27) (finK Try.prog Try.f27.results.toList R) e w = stat_in_s0 R (e 0) (e 1) (e 2) w := fun e w => by kernel_rfl
def stat_in (R : Value → World → Prop) (x0 x1 x2 : Value) (w : World) : Prop := stat_in_s0 R x0 x1 x2 w
theorem stat_in_call {R : Value → World → Prop} {x0 x1 x2 : Value} {w : World} (h : stat_in R x0 x1 x2 w) : callG Try.prog 27 #[x0, x1, x2] w R :=
  calls_lift_eq Try.mixed Try.func27 (args := [x0, x1, x2]) rfl rfl rfl rfl ((stat_in_s0_eq R) (envOf [x0, x1, x2]) w) (by kernel_rfl) h
/-! quayside/stat.share -/
def stat_share_s0 (R : Value → World → Prop) (x0 x1 x2 : Value) (w : World) : Prop :=
  qG Try.prog (bq .quo 3 (.tmp 7) (.tmp 8) x0 x2) (World.drew w) fun t9 =>
  qG Try.prog (bq .mul 3 (.tmp 9) (.tmp 10) t9 x1) (World.drew w) fun t11 =>
  qG Try.prog (bq .rem 3 (.tmp 12) (.tmp 13) x0 x2) (World.drew w) fun t14 =>
  qG Try.prog (bq .mul 3 (.tmp 14) (.tmp 15) t14 x1) (World.drew w) fun t16 =>
  qG Try.prog (bq .quo 3 (.tmp 16) (.tmp 17) t16 x2) (World.drew w) fun t18 =>
  qG Try.prog (bq .add 3 (.tmp 11) (.tmp 18) t11 t18) (World.drew w) fun t19 =>
  R t19 (World.drew w)
theorem stat_share_s0_eq (R : Value → World → Prop) : ∀ e w, lift Try.prog 20 (bodyOf Try.f28) (finK Try.prog Try.f28.results.toList R) e w = stat_share_s0 R (e 0) (e 1) (e 2) w := fun e w => by kernel_rfl
def stat_share (R : Value → World → Prop) (x0 x1 x2 : Value) (w : World) : Prop := stat_share_s0 R x0 x1 x2 w
theorem stat_share_call {R : Value → World → Prop} {x0 x1 x2 : Value} {w : World} (h : stat_share R x0 x1 x2 w) : callG Try.prog 28 #[x0, x1, x2] w R :=
  calls_lift_eq Try.mixed Try.func28 (args := [x0, x1, x2]) rfl rfl rfl rfl ((stat_share_s0_eq R) (envOf [x0, x1, x2]) w) (by kernel_rfl) h
/-! quayside/stat.Between -/
def stat_Between_s0 (R : Value → World → Prop) (x4 x9 x14 : Value) (w : World) : Prop :=
  fa 0 x4 fun t52 =>
  ld1 t52 w fun t53 =>
  fa 0 x9 fun t54 =>
  ld1 t54 w fun t55 =>
  qG Try.prog (bq .sub 3 (.tmp 53) (.tmp 55) t53 t55) w fun t56 =>
  qG Try.prog (bq .sub 3 (.tmp 56) (.const (.int .i64 1)) t56 (.int .i64 1)) w fun t57 =>
  fa 2 x9 fun t59 =>
  ld1 t59 w fun t60 =>
  lenL t60 fun t61 =>
  callG Try.prog 28 #[t57, x14, t61] w fun t62 w =>
  qG Try.prog (bq .add 3 (.const (.int .i64 1)) (.tmp 62) (.int .i64 1) t62) w fun t63 =>
  R t63 w
theorem stat_Between_s0_eq (R : Value → World → Prop) : ∀ e w, lift Try.prog 64 (sub (bodyOf Try.f13) [1, 1, 1, 1, 1, 1]) (finK Try.prog Try.f13.results.toList R) e w = stat_Between_s0 R (e 4) (e 9) (e 14) w := fun e w => by kernel_rfl
def stat_Between_b1 (R : Value → World → Prop) (N1 : List Value → World → Prop) (x4 x6 x7 x9 x14 x39 x40 x41 : Value) (w : World) : Prop :=
  qG Try.prog (bq .lss 3 (.tmp 41) (.tmp 40) x41 x40) w fun t42 =>
  bV t42
  (ia 3 x39 x41 fun t43 =>
  ldn 3 t43 w fun t44 =>
  newG (zc Try.prog 35) 35 w fun t16 w =>
  stn 3 t16 t44 w fun w =>
  ldn 3 t16 w fun t45 =>
  ldn 5 x6 w fun t46 =>
  ldn 5 x7 w fun t47 =>
  callG Try.prog 27 #[t45, t46, t47] w fun t48 w =>
  bV t48
  (qG Try.prog (bq .add 3 (.tmp 49) (.const (.int .i64 1)) x14 (.int .i64 1)) w fun t50 =>
  qG Try.prog (bq .add 3 (.tmp 41) (.const (.int .i64 1)) x41 (.int .i64 1)) w fun t51 =>
  N1 [x4, x6, x7, x9, t50, x39, x40, t51] w)
  (qG Try.prog (bq .add 3 (.tmp 41) (.const (.int .i64 1)) x41 (.int .i64 1)) w fun t51_1 =>
  N1 [x4, x6, x7, x9, x14, x39, x40, t51_1] w))
  (stat_Between_s0 R x4 x9 x14 w)
theorem stat_Between_b1_eq (R : Value → World → Prop) (N1 : List Value → World → Prop) : ∀ e w, lift Try.prog 64 (sub (bodyOf Try.f13) [1, 1, 1, 1, 1, 0, 1, 0, 0]) (seqK (fun e w => N1 [e 4, e 6, e 7, e 9, e 14, e 39, e 40, e 41] w) (blockK 0 (seqK (fun e w => stat_Between_s0 R (e 4) (e 9) (e 14) w) (finK Try.prog Try.f13.results.toList R)))) e w = stat_Between_b1 R N1 (e 4) (e 6) (e 7) (e 9) (e 14) (e 39) (e 40) (e 41) w := fun e w => by kernel_rfl
def stat_Between_L2F (R : Value → World → Prop) (N1 : List Value → World → Prop) (xs : List Value) (w : World) : Prop :=
  match xs with
  | [x4, x6, x7, x9, x14, x39, x40, x41] => stat_Between_b1 R N1 x4 x6 x7 x9 x14 x39 x40 x41 w
  | _ => False
def stat_Between_L2 (R : Value → World → Prop) (x4 x6 x7 x9 x14 x39 x40 x41 : Value) (w : World) : Prop :=
  ∃ m, loopV (stat_Between_L2F R) m [x4, x6, x7, x9, x14, x39, x40, x41] w
theorem stat_Between_L2_eq (R : Value → World → Prop) : ∀ e w, lift Try.prog 64 (sub (bodyOf Try.f13) [1, 1, 1, 1, 1, 0, 1, 0]) (blockK 0 (seqK (fun e w => stat_Between_s0 R (e 4) (e 9) (e 14) w) (finK Try.prog Try.f13.results.toList R))) e w = stat_Between_L2 R (e 4) (e 6) (e 7) (e 9) (e 14) (e 39) (e 40) (e 41) w := loop_seg (F := stat_Between_L2F R) (sel := fun e => [e 4, e 6, e 7, e 9, e 14, e 39, e 40, e 41]) fun N1 => (stat_Between_b1_eq R N1)
def stat_Between_s3 (R : Value → World → Prop) (x4 x6 x7 x9 x14 : Value) (w : World) : Prop :=
  fa 2 x9 fun t38 =>
  ld1 t38 w fun t39 =>
  lenL t39 fun t40 =>
  stat_Between_L2 R x4 x6 x7 x9 x14 t39 t40 (.int .i64 0) w
theorem stat_Between_s3_eq (R : Value → World → Prop) : ∀ e w, lift Try.prog 64 (sub (bodyOf Try.f13) [1, 1, 1, 1, 1, 0]) (seqK (fun e w => stat_Between_s0 R (e 4) (e 9) (e 14) w) (finK Try.prog Try.f13.results.toList R)) e w = stat_Between_s3 R (e 4) (e 6) (e 7) (e 9) (e 14) w :=
  segs_eq (l := [(sub (bodyOf Try.f13) [1, 1, 1, 1, 1, 0, 0])]) (y := (sub (bodyOf Try.f13) [1, 1, 1, 1, 1, 0, 1])) (Y := (fun e w => stat_Between_L2 R (e 4) (e 6) (e 7) (e 9) (e 14) (e 39) (e 40) (e 41) w)) (stat_Between_L2_eq R) (fun e w => by kernel_rfl)
def stat_Between_s4 (R : Value → World → Prop) (x4 x6 x7 x9 : Value) (w : World) : Prop :=
  stat_Between_s3 R x4 x6 x7 x9 (.int .i64 0) w
theorem stat_Between_s4_eq (R : Value → World → Prop) : ∀ e w, lift Try.prog 64 (sub (bodyOf Try.f13) [1, 1, 1, 1]) (finK Try.prog Try.f13.results.toList R) e w = stat_Between_s4 R (e 4) (e 6) (e 7) (e 9) w :=
  segs_eq (l := [(sub (bodyOf Try.f13) [1, 1, 1, 1, 0])]) (y := (sub (bodyOf Try.f13) [1, 1, 1, 1, 1])) (Y := (fun e w => stat_Between_s3 R (e 4) (e 6) (e 7) (e 9) (e 14) w)) (seq_seg (x := (sub (bodyOf Try.f13) [1, 1, 1, 1, 1, 0])) (y := (sub (bodyOf Try.f13) [1, 1, 1, 1, 1, 1])) (stat_Between_s0_eq R) (stat_Between_s3_eq R)) (fun e w => by kernel_rfl)
def stat_Between_s5 (R : Value → World → Prop) (x0 x1 x2 x3 : Value) (w : World) : Prop :=
  newG (Value.cells x0) 27 w fun t4 w =>
  newG (Value.cells x2) 37 w fun t6 w =>
  newG (Value.cells x3) 37 w fun t7 w =>
  ldn 2 t4 w fun t18 =>
  callG Try.prog 24 #[t18, x1] w fun t20 w =>
  qG Try.prog (Instr.extract t20 0) w fun t21 =>
  qG Try.prog (Instr.extract t20 1) w fun t22 =>
  newG (zc Try.prog 32) 32 w fun t9 w =>
  stn 3 t9 t21 w fun w =>
  ldn 5 t6 w fun t24 =>
  ldn 5 t7 w fun t25 =>
  bld [(0, 1), (1, 1), (2, 3)] (zc Try.prog 37) #[] fun t26 =>
  bld [(0, 1), (1, 1), (2, 3)] (zc Try.prog 37) #[] fun t27 =>
  callG Try.prog 26 #[t24, t25, t26, t27] w fun t28 w =>
  qG Try.prog (Instr.extract t28 0) w fun t29 =>
  qG Try.prog (Instr.extract t28 1) w fun t30 =>
  qG Try.prog (Instr.extract t28 2) w fun t31 =>
  newG (zc Try.prog 37) 37 w fun t11 w =>
  newG (zc Try.prog 37) 37 w fun t12 w =>
  stn 5 t11 t29 w fun w =>
  stn 5 t12 t30 w fun w =>
  qG Try.prog (Op.unary .not t22) w fun t33 =>
  bV t33
  (R (.int .i64 0) w)
  (qG Try.prog (Op.unary .not t31) w fun t36 =>
  bV t36
  (R (.int .i64 0) w)
  (stat_Between_s4 R t4 t6 t7 t9 w))
theorem stat_Between_s5_eq (R : Value → World → Prop) : ∀ e w, lift Try.prog 64 (bodyOf Try.f13) (finK Try.prog Try.f13.results.toList R) e w = stat_Between_s5 R (e 0) (e 1) (e 2) (e 3) w :=
  segs_eq (l := [(sub (bodyOf Try.f13) [0]), (sub (bodyOf Try.f13) [1, 0]), (sub (bodyOf Try.f13) [1, 1, 0]), (sub (bodyOf Try.f13) [1, 1, 1, 0])]) (y := (sub (bodyOf Try.f13) [1, 1, 1, 1])) (Y := (fun e w => stat_Between_s4 R (e 4) (e 6) (e 7) (e 9) w)) (stat_Between_s4_eq R) (fun e w => by kernel_rfl)
def stat_Between (R : Value → World → Prop) (x0 x1 x2 x3 : Value) (w : World) : Prop := stat_Between_s5 R x0 x1 x2 x3 w
theorem stat_Between_call {R : Value → World → Prop} {x0 x1 x2 x3 : Value} {w : World} (h : stat_Between R x0 x1 x2 x3 w) : callG Try.prog 13 #[x0, x1, x2, x3] w R :=
  calls_lift_eq Try.mixed Try.func13 (args := [x0, x1, x2, x3]) rfl rfl rfl rfl ((stat_Between_s5_eq R) (envOf [x0, x1, x2, x3]) w) (by kernel_rfl) h
/-! quayside/stat.Kept -/
def stat_Kept_s0 (R : Value → World → Prop) (x5 : Value) (w : World) : Prop :=
  R x5 w
theorem stat_Kept_s0_eq (R : Value → World → Prop) : ∀ e w, lift Try.prog 46 (sub (bodyOf Try.f21) [1, 1, 1]) (finK Try.prog Try.f21.results.toList R) e w = stat_Kept_s0 R (e 5) w := fun e w => by kernel_rfl
def stat_Kept_b1 (R : Value → World → Prop) (N1 : List Value → World → Prop) (x2 x5 x15 x16 x17 : Value) (w : World) : Prop :=
  qG Try.prog (bq .lss 3 (.tmp 17) (.tmp 16) x17 x16) w fun t18 =>
  bV t18
  (ia 12 x15 x17 fun t19 =>
  ldn 12 t19 w fun t20 =>
  newG (zc Try.prog 62) 62 w fun t7 w =>
  stn 12 t7 t20 w fun w =>
  qG Try.prog (bq .eql 3 (.tmp 21) (.const (.int .i64 0)) x5 (.int .i64 0)) w fun t22 =>
  bV t22
  (stat_Kept_s0 R x5 w)
  (ldn 12 t7 w fun t24 =>
  callG Try.prog 33 #[t24] w fun t25 w =>
  qG Try.prog (Instr.extract t25 0) w fun t26 =>
  qG Try.prog (Instr.extract t25 1) w fun t27 =>
  qG Try.prog (Instr.extract t25 2) w fun t28 =>
  qG Try.prog (Instr.extract t25 3) w fun t29 =>
  newG (zc Try.prog 37) 37 w fun t9 w =>
  newG (zc Try.prog 37) 37 w fun t10 w =>
  stn 5 t9 t27 w fun w =>
  stn 5 t10 t28 w fun w =>
  bV t29
  (ldn 2 x2 (World.drew w) fun t32 =>
  ldn 5 t9 (World.drew w) fun t34 =>
  ldn 5 t10 (World.drew w) fun t35 =>
  fa 0 x2 fun t37 =>
  ld1 t37 (World.drew w) fun t38 =>
  callG Try.prog 13 #[t32, t26, t34, t35] (World.drew w) fun t36 w =>
  ld1 t37 w (fun u => u = t38) ∧
  callG Try.prog 28 #[x5, t36, t38] w fun t39 w =>
  qG Try.prog (bq .add 3 (.tmp 17) (.const (.int .i64 1)) x17 (.int .i64 1)) w fun t44 =>
  N1 [x2, t39, x15, x16, t44] w)
  (qG Try.prog (bq .quo 3 (.tmp 41) (.const (.int .i64 2)) x5 (.int .i64 2)) w fun t42 =>
  qG Try.prog (bq .sub 3 (.tmp 40) (.tmp 42) x5 t42) w fun t43 =>
  qG Try.prog (bq .add 3 (.tmp 17) (.const (.int .i64 1)) x17 (.int .i64 1)) w fun t44_1 =>
  N1 [x2, t43, x15, x16, t44_1] w)))
  (stat_Kept_s0 R x5 w)
theorem stat_Kept_b1_eq (R : Value → World → Prop) (N1 : List Value → World → Prop) : ∀ e w, lift Try.prog 46 (sub (bodyOf Try.f21) [1, 1, 0, 1, 0, 0]) (seqK (fun e w => N1 [e 2, e 5, e 15, e 16, e 17] w) (blockK 0 (seqK (fun e w => stat_Kept_s0 R (e 5) w) (finK Try.prog Try.f21.results.toList R)))) e w = stat_Kept_b1 R N1 (e 2) (e 5) (e 15) (e 16) (e 17) w := fun e w => by kernel_rfl
def stat_Kept_L2F (R : Value → World → Prop) (N1 : List Value → World → Prop) (xs : List Value) (w : World) : Prop :=
  match xs with
  | [x2, x5, x15, x16, x17] => stat_Kept_b1 R N1 x2 x5 x15 x16 x17 w
  | _ => False
def stat_Kept_L2 (R : Value → World → Prop) (x2 x5 x15 x16 x17 : Value) (w : World) : Prop :=
  ∃ m, loopV (stat_Kept_L2F R) m [x2, x5, x15, x16, x17] w
theorem stat_Kept_L2_eq (R : Value → World → Prop) : ∀ e w, lift Try.prog 46 (sub (bodyOf Try.f21) [1, 1, 0, 1, 0]) (blockK 0 (seqK (fun e w => stat_Kept_s0 R (e 5) w) (finK Try.prog Try.f21.results.toList R))) e w = stat_Kept_L2 R (e 2) (e 5) (e 15) (e 16) (e 17) w := loop_seg (F := stat_Kept_L2F R) (sel := fun e => [e 2, e 5, e 15, e 16, e 17]) fun N1 => (stat_Kept_b1_eq R N1)
def stat_Kept_s3 (R : Value → World → Prop) (x1 x2 x5 : Value) (w : World) : Prop :=
  lenL x1 fun t16 =>
  stat_Kept_L2 R x2 x5 x1 t16 (.int .i64 0) w
theorem stat_Kept_s3_eq (R : Value → World → Prop) : ∀ e w, lift Try.prog 46 (sub (bodyOf Try.f21) [1, 1, 0]) (seqK (fun e w => stat_Kept_s0 R (e 5) w) (finK Try.prog Try.f21.results.toList R)) e w = stat_Kept_s3 R (e 1) (e 2) (e 5) w :=
  segs_eq (l := [(sub (bodyOf Try.f21) [1, 1, 0, 0])]) (y := (sub (bodyOf Try.f21) [1, 1, 0, 1])) (Y := (fun e w => stat_Kept_L2 R (e 2) (e 5) (e 15) (e 16) (e 17) w)) (stat_Kept_L2_eq R) (fun e w => by kernel_rfl)
def stat_Kept_s4 (R : Value → World → Prop) (x0 x1 : Value) (w : World) : Prop :=
  newG (Value.cells x0) 27 w fun t2 w =>
  fa 0 t2 fun t12 =>
  ld1 t12 w fun t13 =>
  qG Try.prog (Builtin.max_ #[3, 3] 3 #[(.int .i64 0), t13]) w fun t14 =>
  stat_Kept_s3 R x1 t2 t14 w
theorem stat_Kept_s4_eq (R : Value → World → Prop) : ∀ e w, lift Try.prog 46 (bodyOf Try.f21) (finK Try.prog Try.f21.results.toList R) e w = stat_Kept_s4 R (e 0) (e 1) w :=
  segs_eq (l := [(sub (bodyOf Try.f21) [0]), (sub (bodyOf Try.f21) [1, 0])]) (y := (sub (bodyOf Try.f21) [1, 1])) (Y := (fun e w => stat_Kept_s3 R (e 1) (e 2) (e 5) w)) (seq_seg (x := (sub (bodyOf Try.f21) [1, 1, 0])) (y := (sub (bodyOf Try.f21) [1, 1, 1])) (stat_Kept_s0_eq R) (stat_Kept_s3_eq R)) (fun e w => by kernel_rfl)
def stat_Kept (R : Value → World → Prop) (x0 x1 : Value) (w : World) : Prop := stat_Kept_s4 R x0 x1 w
theorem stat_Kept_call {R : Value → World → Prop} {x0 x1 : Value} {w : World} (h : stat_Kept R x0 x1 w) : callG Try.prog 21 #[x0, x1] w R :=
  calls_lift_eq Try.mixed Try.func21 (args := [x0, x1]) rfl rfl rfl rfl ((stat_Kept_s4_eq R) (envOf [x0, x1]) w) (by kernel_rfl) h
/-! quayside/stat.Joined -/
def stat_Joined_s0 (R : Value → World → Prop) (x2 x5 x13 x15 : Value) (w : World) : Prop :=
  qG Try.prog (Builtin.min_ #[3, 3] 3 #[x2, (.int .i64 1073741824)]) w fun t44 =>
  qG Try.prog (Builtin.min_ #[3, 3] 3 #[x5, (.int .i64 1073741824)]) w fun t46 =>
  qG Try.prog (bq .mul 3 (.tmp 44) (.tmp 46) t44 t46) w fun t47 =>
  fa 1 x13 fun t48 =>
  ld1 t48 w fun t49 =>
  fa 1 x15 fun t50 =>
  ld1 t50 w fun t51 =>
  qG Try.prog (Builtin.max_ #[3, 3, 3] 3 #[(.int .i64 1), t49, t51]) w fun t52 =>
  qG Try.prog (bq .quo 3 (.tmp 47) (.tmp 52) t47 t52) w fun t53 =>
  qG Try.prog (Builtin.max_ #[3, 3] 3 #[(.int .i64 1), t53]) w fun t54 =>
  qG Try.prog (Builtin.min_ #[3, 3] 3 #[(.int .i64 1099511627776), t54]) w fun t55 =>
  R t55 w
theorem stat_Joined_s0_eq (R : Value → World → Prop) : ∀ e w, lift Try.prog 56 (sub (bodyOf Try.f17) [1, 1, 1, 1]) (finK Try.prog Try.f17.results.toList R) e w = stat_Joined_s0 R (e 2) (e 5) (e 13) (e 15) w := fun e w => by kernel_rfl
def stat_Joined_s1 (R : Value → World → Prop) (x0 x1 x2 x3 x4 x5 : Value) (w : World) : Prop :=
  newG (Value.cells x0) 27 w fun t6 w =>
  newG (Value.cells x3) 27 w fun t9 w =>
  ldn 2 t6 w fun t18 =>
  callG Try.prog 24 #[t18, x1] w fun t20 w =>
  qG Try.prog (Instr.extract t20 0) w fun t21 =>
  qG Try.prog (Instr.extract t20 1) w fun t22 =>
  newG (zc Try.prog 32) 32 w fun t13 w =>
  stn 3 t13 t21 w fun w =>
  ldn 2 t9 w fun t24 =>
  callG Try.prog 24 #[t24, x4] w fun t26 w =>
  qG Try.prog (Instr.extract t26 0) w fun t27 =>
  qG Try.prog (Instr.extract t26 1) w fun t28 =>
  newG (zc Try.prog 32) 32 w fun t15 w =>
  stn 3 t15 t27 w fun w =>
  qG Try.prog (Op.unary .not t22) w fun t30 =>
  bV t30
  (R (.int .i64 0) w)
  (qG Try.prog (Op.unary .not t28) w fun t33 =>
  bV t33
  (R (.int .i64 0) w)
  (qG Try.prog (bq .lss 3 (.tmp 36) (.const (.int .i64 1)) x2 (.int .i64 1)) w fun t37 =>
  bV t37
  (R (.int .i64 0) w)
  (qG Try.prog (bq .lss 3 (.tmp 40) (.const (.int .i64 1)) x5 (.int .i64 1)) w fun t41 =>
  bV t41
  (R (.int .i64 0) w)
  (stat_Joined_s0 R x2 x5 t13 t15 w))))
theorem stat_Joined_s1_eq (R : Value → World → Prop) : ∀ e w, lift Try.prog 56 (bodyOf Try.f17) (finK Try.prog Try.f17.results.toList R) e w = stat_Joined_s1 R (e 0) (e 1) (e 2) (e 3) (e 4) (e 5) w :=
  segs_eq (l := [(sub (bodyOf Try.f17) [0]), (sub (bodyOf Try.f17) [1, 0]), (sub (bodyOf Try.f17) [1, 1, 0]), (sub (bodyOf Try.f17) [1, 1, 1, 0])]) (y := (sub (bodyOf Try.f17) [1, 1, 1, 1])) (Y := (fun e w => stat_Joined_s0 R (e 2) (e 5) (e 13) (e 15) w)) (stat_Joined_s0_eq R) (fun e w => by kernel_rfl)
def stat_Joined (R : Value → World → Prop) (x0 x1 x2 x3 x4 x5 : Value) (w : World) : Prop := stat_Joined_s1 R x0 x1 x2 x3 x4 x5 w
theorem stat_Joined_call {R : Value → World → Prop} {x0 x1 x2 x3 x4 x5 : Value} {w : World} (h : stat_Joined R x0 x1 x2 x3 x4 x5 w) : callG Try.prog 17 #[x0, x1, x2, x3, x4, x5] w R :=
  calls_lift_eq Try.mixed Try.func17 (args := [x0, x1, x2, x3, x4, x5]) rfl rfl rfl rfl ((stat_Joined_s1_eq R) (envOf [x0, x1, x2, x3, x4, x5]) w) (by kernel_rfl) h
end Go.Proofs

/- Layer 22: the tighter end of two. -/
set_option maxRecDepth 100000
set_option linter.unusedVariables false
set_option linter.unusedSimpArgs false
namespace Go.Proofs
open Go Go.Q
def bC (b : Bd) : List Value := [.bool b.has, .bool b.open_] ++ valV b.val
def bdA (b : Bd) : Value := .agg (bC b).toArray
theorem zcBd : zc Try.prog 37 = [.bool false, .bool false, .int .i64 0, .int .i64 0, .string (str [])].toArray := by kernel_rfl
theorem bd_val (b : Bd) : (bC b).toArray.extract 2 (2 + 3) = (valV b.val).toArray := rfl
theorem bC_one (b : Bd) : (bC b).toArray.all Q.one = true := by simp [bC, valV]
theorem tighter_spec {w : World} (a b : Bd) {sg : Int} (hs : sg = 1 ∨ sg = -1) {R : Value → World → Prop} (hK : ∀ w', Kp [] w w' → R (bdA (tightV a b sg)) w') : callG Try.prog 41 #[bdA a, bdA b, .int .i64 sg] w R := by
  refine simplify_tighter_call ?_
  unfold simplify_tighter simplify_tighter_s0 bdA
  refine argB fun p w1 hp h1 k1 => ?_
  refine argB fun q w2 hq h2 k2 => ?_
  refine newB fun z w3 hz h3 k3 => ?_
  have s1 := k1.size
  have s2 := k2.size
  have l1 := lt_of_blk h1
  have l2 := lt_of_blk h2
  have k03 := (k1.trans' k2).trans' k3
  have h13 := k3.get (k2.get h1 (by simp)) (by simp)
  have h23 := k3.get h2 (by simp)
  have ret : ∀ (w' : World) (c : Bd), Kp [] w w' → w'.heap[z]? = some (.cells (zc Try.prog 37) 37) → tightV a b sg = c → stn 5 (.pointer (some ⟨z, 0, none⟩)) (.agg (bC c).toArray) w' fun w => qG Try.prog (do loadVar 37 (← asAddr (.pointer (some ⟨z, 0, none⟩)))) w fun r6 => R r6 w := by
    intro w' c hk' hz' hc
    refine retB (by kernel_rfl) (by kernel_rfl) hz' (by rw [zcBd]; rfl) rfl (bC_one c) fun w6 hk6 => ?_
    have := hK w6 (hk'.trans hk6 fun x hx hlt => by simp at hx; omega)
    rw [hc] at this
    exact this
  rw [fa_p, ldF (x := .bool a.has) h13 rfl]
  simp only [un_not, bV_b]
  refine ⟨fun ha => ?_, fun ha => ?_⟩
  · have ha : a.has = false := by simpa using ha
    rw [ldA (k := 5) h23 rfl]
    exact ret w3 b k03 h3 (by unfold tightV; rw [if_pos ha])
  · have ha : a.has = true := by simpa using ha
    rw [fa_p, ldF (x := .bool b.has) h23 rfl]
    simp only [un_not, bV_b]
    refine ⟨fun hb => ?_, fun hb => ?_⟩
    · have hb : b.has = false := by simpa using hb
      rw [ldA (k := 5) h13 rfl]
      exact ret w3 a k03 h3 (by unfold tightV; rw [if_neg (by simp [ha]), if_pos hb])
    · have hb : b.has = true := by simpa using hb
      have hb0 := cmpV_bnd a.val b.val
      rw [fa_p, ldP (k := 3) h13 (bd_val a) (by simp [bC, valV]), fa_p, ldP (k := 3) h23 (bd_val b) (by simp [bC, valV])]
      refine vCompare_spec a.val b.val fun w4 _ k4 => ?_
      have hw : IntKind.i64.wrap (cmpV a.val b.val * sg) = cmpV a.val b.val * sg := by
        rcases hs with rfl | rfl
        · exact w64 (by omega) (by omega)
        · exact w64 (by omega) (by omega)
      have h14 := k4.get h13 (by simp)
      have h24 := k4.get h23 (by simp)
      have h34 := k4.get h3 (by simp)
      have k04 := k03.trans' k4
      simp only [bq_mul, hw, bq_lss, bV_b, decide_eq_true_eq, decide_eq_false_iff_not, bq_eql]
      have e : tightV a b sg = if cmpV a.val b.val * sg < 0 then b else if cmpV a.val b.val * sg = 0 then ⟨a.has, a.open_ || b.open_, a.val⟩ else a := by
        unfold tightV; rw [if_neg (by simp [ha]), if_neg (by simp [hb])]
      refine ⟨fun hc => ?_, fun hc => ⟨fun h0 => ?_, fun h0 => ?_⟩⟩
      · rw [ldA (k := 5) h24 rfl]
        exact ret w4 b k04 h34 (by rw [e, if_pos hc])
      · have fin : ∀ x : Bool, x = (a.open_ || b.open_) → st1 (.pointer (some ⟨p, 0 + 1, none⟩)) (.bool x) w4 fun w => ldn 5 (.pointer (some ⟨p, 0, none⟩)) w fun t39 => stn 5 (.pointer (some ⟨z, 0, none⟩)) t39 w fun w => qG Try.prog (do loadVar 37 (← asAddr (.pointer (some ⟨z, 0, none⟩)))) w fun r6 => R r6 w := by
          intro x hx
          rw [stF (j := 0 + 1) h14 (by simp [bC, valV]) rfl]
          have ec : (bC a).toArray.setIfInBounds (0 + 1) (.bool x) = (bC ⟨a.has, x, a.val⟩).toArray := rfl
          rw [ec, ldA (k := 5) (heap_self (live_of h14)) rfl]
          have hpz : ¬ p = z := by omega
          exact ret _ ⟨a.has, x, a.val⟩ (k04.setBlk (.inr hp) _) (by rw [heap_ne hpz]; exact h34) (by rw [e, if_neg hc, if_pos h0, hx])
        rw [fa_p, ldF (x := .bool a.open_) h14 rfl]
        simp only [bV_b]
        refine ⟨fun ho => ?_, fun ho => ?_⟩
        · rw [fa_p]
          exact fin true (by rw [ho]; rfl)
        · rw [fa_p, ldF (x := .bool b.open_) h24 rfl, fa_p]
          exact fin b.open_ (by rw [ho]; rfl)
      · rw [ldA (k := 5) h14 rfl]
        exact ret w4 a k04 h34 (by rw [e, if_neg hc, if_neg h0])
end Go.Proofs

/- Layer 22: the orders in which Narrow may go. (Written by gen_nw22.py.) -/
set_option maxRecDepth 100000
set_option linter.unusedVariables false
set_option linter.unusedSimpArgs false
namespace Go.Proofs
open Go Go.Q
def nwF (R : Value → World → Prop) (t8 t9 t11 t12 t16 t19 : Value) (w : World) : Prop :=
  stn 5 t11 t16 w fun w =>
  stn 5 t12 t19 w fun w =>
  fa 0 t11 fun t20 =>
  ld1 t20 w fun t21 =>
  qG Try.prog (Op.unary .not t21) w fun t22 =>
  bV t22
  (ldn 5 t11 (World.drew w) fun t28 =>
  ldn 5 t12 (World.drew w) fun t29 =>
  stn 5 t8 t28 (World.drew w) fun w =>
  ldn 5 t12 w (fun u => u = t29) ∧
  stn 5 t9 t29 w fun w =>
  qG Try.prog (do loadVar 37 (← asAddr t8)) w fun r8 =>
  qG Try.prog (do loadVar 37 (← asAddr t9)) w fun r9 =>
  R (.tuple #[r8, r9, (.bool true)]) w)
  (fa 0 t12 fun t24 =>
  ld1 t24 w fun t25 =>
  qG Try.prog (Op.unary .not t25) w fun t26 =>
  bV t26
  (ldn 5 t11 (World.drew w) fun t28_1 =>
  ldn 5 t12 (World.drew w) fun t29_1 =>
  stn 5 t8 t28_1 (World.drew w) fun w =>
  ldn 5 t12 w (fun u => u = t29_1) ∧
  stn 5 t9 t29_1 w fun w =>
  qG Try.prog (do loadVar 37 (← asAddr t8)) w fun r8_1 =>
  qG Try.prog (do loadVar 37 (← asAddr t9)) w fun r9_1 =>
  R (.tuple #[r8_1, r9_1, (.bool true)]) w)
  (simplify_Narrow_s0 R t8 t9 t11 t12 w))
theorem narrow_orders {w : World} {a b c d : Bd} {R : Value → World → Prop} (hF : ∀ (wb w' : World) x8 x9 x11 x12, Kp [] w wb → Kp [] wb w' → x8 < x9 → w.heap.size ≤ x8 → x9 < wb.heap.size → wb.heap[x8]? = some (.cells (zc Try.prog 37) 37) → wb.heap[x9]? = some (.cells (zc Try.prog 37) 37) → w'.heap[x11]? = some (.cells (zc Try.prog 37) 37) → w'.heap[x12]? = some (.cells (zc Try.prog 37) 37) → wb.heap.size ≤ x11 → wb.heap.size ≤ x12 → x11 ≠ x12 →
    nwF R (.pointer (some ⟨x8, 0, none⟩)) (.pointer (some ⟨x9, 0, none⟩)) (.pointer (some ⟨x11, 0, none⟩)) (.pointer (some ⟨x12, 0, none⟩)) (bdA (tightV a c 1)) (bdA (tightV b d (-1))) w') : callG Try.prog 26 #[bdA a, bdA b, bdA c, bdA d] w R := by
  refine simplify_Narrow_call ?_
  unfold simplify_Narrow simplify_Narrow_s1
  have e0 : ∀ (v : Bd) (w : World) (k : Value → World → Prop), newG (Value.cells (bdA v)) 37 w k = newG (Value.cells (.agg (bC v).toArray)) 37 w k := fun _ _ _ => rfl
  rw [e0]
  refine argB fun x4 w1 hx4 h4 k1 => ?_
  rw [e0]
  refine argB fun x5 w2 hx5 h5 k2 => ?_
  rw [e0]
  refine argB fun x6 w3 hx6 h6 k3 => ?_
  rw [e0]
  refine argB fun x7 w4 hx7 h7 k4 => ?_
  refine newB fun x8 w5 hx8 h8 k5 => ?_
  refine newB fun x9 w6 hx9 h9 k6 => ?_
  have l8 := lt_of_blk h8
  have l9 := lt_of_blk h9
  have k06 : Kp [] w w6 := ((((k1.trans' k2).trans' k3).trans' k4).trans' k5).trans' k6
  have b4 := (((((k2.trans' k3).trans' k4).trans' k5).trans' k6)).get h4 (by simp)
  have b5 := ((((k3.trans' k4).trans' k5).trans' k6)).get h5 (by simp)
  have b6 := (((k4.trans' k5).trans' k6)).get h6 (by simp)
  have b7 := ((k5.trans' k6)).get h7 (by simp)
  have b8 := k6.get h8 (by simp)
  have s4 := ((k1.trans' k2).trans' k3).trans' k4 |>.size
  have r4 : ∀ w', Kp [] w6 w' → ∀ K : Value → Prop, ldn 5 (.pointer (some ⟨x4, 0, none⟩)) w' K = K (bdA a) := fun w' hk' K => ldA (hk'.get b4 (by simp)) rfl
  have r5 : ∀ w', Kp [] w6 w' → ∀ K : Value → Prop, ldn 5 (.pointer (some ⟨x5, 0, none⟩)) w' K = K (bdA b) := fun w' hk' K => ldA (hk'.get b5 (by simp)) rfl
  have r6 : ∀ w', Kp [] w6 w' → ∀ K : Value → Prop, ldn 5 (.pointer (some ⟨x6, 0, none⟩)) w' K = K (bdA c) := fun w' hk' K => ldA (hk'.get b6 (by simp)) rfl
  have r7 : ∀ w', Kp [] w6 w' → ∀ K : Value → Prop, ldn 5 (.pointer (some ⟨x7, 0, none⟩)) w' K = K (bdA d) := fun w' hk' K => ldA (hk'.get b7 (by simp)) rfl
  have g0 : Kp [] w6 w6.drew := kp_drew
  have zd : w6.drew.heap.size = w6.heap.size := rfl
  rw [r4 _ g0, r6 _ g0, r5 _ g0, r7 _ g0]
  refine ⟨?_, ?_, ?_⟩
  · refine tighter_spec a c (.inl rfl) fun v1 j1 => ?_
    have g1 := g0.trans' j1
    have sz1 := j1.size
    have szg1 := g0.size
    rw [r7 _ g1, r5 _ g1]
    refine ⟨rfl, rfl, ?_⟩
    refine ⟨?_, ?_, ?_⟩
    · refine tighter_spec b d (.inr rfl) fun v2 j2 => ?_
      have g2 := g1.trans' j2
      have sz2 := j2.size
      have szg2 := g1.size
      refine ⟨?_, ?_⟩
      · refine newB fun y3 v3 hy3 hb3 j3 => ?_
        have g3 := g2.trans' j3
        have sz3 := j3.size
        have szg3 := g2.size
        have lt3 := lt_of_blk hb3
        rw [r7 _ g3, r5 _ g3, r6 _ g3, r4 _ g3]
        refine ⟨rfl, rfl, rfl, rfl, ?_⟩
        refine newB fun y4 v4 hy4 hb4 j4 => ?_
        have g4 := g3.trans' j4
        have sz4 := j4.size
        have szg4 := g3.size
        have lt4 := lt_of_blk hb4
        rw [r7 _ g4, r5 _ g4, r6 _ g4, r4 _ g4]
        refine ⟨rfl, rfl, rfl, rfl, ?_⟩
        exact hF w6 _ _ _ _ _ k06 g4 (by omega) (by omega) (by omega) b8 h9 (j4.get hb3 (by simp)) hb4 (by omega) (by omega) (by omega)
      · refine newB fun y3 v3 hy3 hb3 j3 => ?_
        have g3 := g2.trans' j3
        have sz3 := j3.size
        have szg3 := g2.size
        have lt3 := lt_of_blk hb3
        rw [r7 _ g3, r5 _ g3, r6 _ g3, r4 _ g3]
        refine ⟨rfl, rfl, rfl, rfl, ?_⟩
        refine newB fun y4 v4 hy4 hb4 j4 => ?_
        have g4 := g3.trans' j4
        have sz4 := j4.size
        have szg4 := g3.size
        have lt4 := lt_of_blk hb4
        rw [r7 _ g4, r5 _ g4, r6 _ g4, r4 _ g4]
        refine ⟨rfl, rfl, rfl, rfl, ?_⟩
        exact hF w6 _ _ _ _ _ k06 g4 (by omega) (by omega) (by omega) b8 h9 hb4 (j4.get hb3 (by simp)) (by omega) (by omega) (by omega)
    · refine newB fun y2 v2 hy2 hb2 j2 => ?_
      have g2 := g1.trans' j2
      have sz2 := j2.size
      have szg2 := g1.size
      have lt2 := lt_of_blk hb2
      rw [r7 _ g2, r5 _ g2, r6 _ g2, r4 _ g2]
      refine ⟨rfl, rfl, rfl, rfl, ?_⟩
      refine ⟨?_, ?_⟩
      · refine tighter_spec b d (.inr rfl) fun v3 j3 => ?_
        have g3 := g2.trans' j3
        have sz3 := j3.size
        have szg3 := g2.size
        refine newB fun y4 v4 hy4 hb4 j4 => ?_
        have g4 := g3.trans' j4
        have sz4 := j4.size
        have szg4 := g3.size
        have lt4 := lt_of_blk hb4
        rw [r7 _ g4, r5 _ g4, r6 _ g4, r4 _ g4]
        refine ⟨rfl, rfl, rfl, rfl, ?_⟩
        exact hF w6 _ _ _ _ _ k06 g4 (by omega) (by omega) (by omega) b8 h9 (j4.get (j3.get hb2 (by simp)) (by simp)) hb4 (by omega) (by omega) (by omega)
      · refine newB fun y3 v3 hy3 hb3 j3 => ?_
        have g3 := g2.trans' j3
        have sz3 := j3.size
        have szg3 := g2.size
        have lt3 := lt_of_blk hb3
        rw [r7 _ g3, r5 _ g3, r6 _ g3, r4 _ g3]
        refine ⟨rfl, rfl, rfl, rfl, ?_⟩
        refine tighter_spec b d (.inr rfl) fun v4 j4 => ?_
        have g4 := g3.trans' j4
        have sz4 := j4.size
        have szg4 := g3.size
        exact hF w6 _ _ _ _ _ k06 g4 (by omega) (by omega) (by omega) b8 h9 (j4.get (j3.get hb2 (by simp)) (by simp)) (j4.get hb3 (by simp)) (by omega) (by omega) (by omega)
    · refine newB fun y2 v2 hy2 hb2 j2 => ?_
      have g2 := g1.trans' j2
      have sz2 := j2.size
      have szg2 := g1.size
      have lt2 := lt_of_blk hb2
      rw [r7 _ g2, r5 _ g2, r6 _ g2, r4 _ g2]
      refine ⟨rfl, rfl, rfl, rfl, ?_⟩
      refine ⟨?_, ?_⟩
      · refine tighter_spec b d (.inr rfl) fun v3 j3 => ?_
        have g3 := g2.trans' j3
        have sz3 := j3.size
        have szg3 := g2.size
        refine newB fun y4 v4 hy4 hb4 j4 => ?_
        have g4 := g3.trans' j4
        have sz4 := j4.size
        have szg4 := g3.size
        have lt4 := lt_of_blk hb4
        rw [r7 _ g4, r5 _ g4, r6 _ g4, r4 _ g4]
        refine ⟨rfl, rfl, rfl, rfl, ?_⟩
        exact hF w6 _ _ _ _ _ k06 g4 (by omega) (by omega) (by omega) b8 h9 hb4 (j4.get (j3.get hb2 (by simp)) (by simp)) (by omega) (by omega) (by omega)
      · refine newB fun y3 v3 hy3 hb3 j3 => ?_
        have g3 := g2.trans' j3
        have sz3 := j3.size
        have szg3 := g2.size
        have lt3 := lt_of_blk hb3
        rw [r7 _ g3, r5 _ g3, r6 _ g3, r4 _ g3]
        refine ⟨rfl, rfl, rfl, rfl, ?_⟩
        refine tighter_spec b d (.inr rfl) fun v4 j4 => ?_
        have g4 := g3.trans' j4
        have sz4 := j4.size
        have szg4 := g3.size
        exact hF w6 _ _ _ _ _ k06 g4 (by omega) (by omega) (by omega) b8 h9 (j4.get hb3 (by simp)) (j4.get (j3.get hb2 (by simp)) (by simp)) (by omega) (by omega) (by omega)
  · refine newB fun y1 v1 hy1 hb1 j1 => ?_
    have g1 := g0.trans' j1
    have sz1 := j1.size
    have szg1 := g0.size
    have lt1 := lt_of_blk hb1
    rw [r7 _ g1, r5 _ g1, r6 _ g1, r4 _ g1]
    refine ⟨rfl, rfl, rfl, rfl, ?_⟩
    refine ⟨?_, ?_⟩
    · refine tighter_spec a c (.inl rfl) fun v2 j2 => ?_
      have g2 := g1.trans' j2
      have sz2 := j2.size
      have szg2 := g1.size
      rw [r7 _ g2, r5 _ g2]
      refine ⟨rfl, rfl, ?_⟩
      refine ⟨?_, ?_⟩
      · refine tighter_spec b d (.inr rfl) fun v3 j3 => ?_
        have g3 := g2.trans' j3
        have sz3 := j3.size
        have szg3 := g2.size
        refine newB fun y4 v4 hy4 hb4 j4 => ?_
        have g4 := g3.trans' j4
        have sz4 := j4.size
        have szg4 := g3.size
        have lt4 := lt_of_blk hb4
        rw [r7 _ g4, r5 _ g4, r6 _ g4, r4 _ g4]
        refine ⟨rfl, rfl, rfl, rfl, ?_⟩
        exact hF w6 _ _ _ _ _ k06 g4 (by omega) (by omega) (by omega) b8 h9 (j4.get (j3.get (j2.get hb1 (by simp)) (by simp)) (by simp)) hb4 (by omega) (by omega) (by omega)
      · refine newB fun y3 v3 hy3 hb3 j3 => ?_
        have g3 := g2.trans' j3
        have sz3 := j3.size
        have szg3 := g2.size
        have lt3 := lt_of_blk hb3
        rw [r7 _ g3, r5 _ g3, r6 _ g3, r4 _ g3]
        refine ⟨rfl, rfl, rfl, rfl, ?_⟩
        refine tighter_spec b d (.inr rfl) fun v4 j4 => ?_
        have g4 := g3.trans' j4
        have sz4 := j4.size
        have szg4 := g3.size
        exact hF w6 _ _ _ _ _ k06 g4 (by omega) (by omega) (by omega) b8 h9 (j4.get (j3.get (j2.get hb1 (by simp)) (by simp)) (by simp)) (j4.get hb3 (by simp)) (by omega) (by omega) (by omega)
    · refine newB fun y2 v2 hy2 hb2 j2 => ?_
      have g2 := g1.trans' j2
      have sz2 := j2.size
      have szg2 := g1.size
      have lt2 := lt_of_blk hb2
      rw [r7 _ g2, r5 _ g2, r6 _ g2, r4 _ g2]
      refine ⟨rfl, rfl, rfl, rfl, ?_⟩
      refine tighter_spec a c (.inl rfl) fun v3 j3 => ?_
      have g3 := g2.trans' j3
      have sz3 := j3.size
      have szg3 := g2.size
      rw [r7 _ g3, r5 _ g3]
      refine ⟨rfl, rfl, ?_⟩
      refine tighter_spec b d (.inr rfl) fun v4 j4 => ?_
      have g4 := g3.trans' j4
      have sz4 := j4.size
      have szg4 := g3.size
      exact hF w6 _ _ _ _ _ k06 g4 (by omega) (by omega) (by omega) b8 h9 (j4.get (j3.get (j2.get hb1 (by simp)) (by simp)) (by simp)) (j4.get (j3.get hb2 (by simp)) (by simp)) (by omega) (by omega) (by omega)
  · refine newB fun y1 v1 hy1 hb1 j1 => ?_
    have g1 := g0.trans' j1
    have sz1 := j1.size
    have szg1 := g0.size
    have lt1 := lt_of_blk hb1
    rw [r7 _ g1, r5 _ g1, r6 _ g1, r4 _ g1]
    refine ⟨rfl, rfl, rfl, rfl, ?_⟩
    refine ⟨?_, ?_⟩
    · refine tighter_spec a c (.inl rfl) fun v2 j2 => ?_
      have g2 := g1.trans' j2
      have sz2 := j2.size
      have szg2 := g1.size
      rw [r7 _ g2, r5 _ g2]
      refine ⟨rfl, rfl, ?_⟩
      refine ⟨?_, ?_⟩
      · refine tighter_spec b d (.inr rfl) fun v3 j3 => ?_
        have g3 := g2.trans' j3
        have sz3 := j3.size
        have szg3 := g2.size
        refine newB fun y4 v4 hy4 hb4 j4 => ?_
        have g4 := g3.trans' j4
        have sz4 := j4.size
        have szg4 := g3.size
        have lt4 := lt_of_blk hb4
        rw [r7 _ g4, r5 _ g4, r6 _ g4, r4 _ g4]
        refine ⟨rfl, rfl, rfl, rfl, ?_⟩
        exact hF w6 _ _ _ _ _ k06 g4 (by omega) (by omega) (by omega) b8 h9 hb4 (j4.get (j3.get (j2.get hb1 (by simp)) (by simp)) (by simp)) (by omega) (by omega) (by omega)
      · refine newB fun y3 v3 hy3 hb3 j3 => ?_
        have g3 := g2.trans' j3
        have sz3 := j3.size
        have szg3 := g2.size
        have lt3 := lt_of_blk hb3
        rw [r7 _ g3, r5 _ g3, r6 _ g3, r4 _ g3]
        refine ⟨rfl, rfl, rfl, rfl, ?_⟩
        refine tighter_spec b d (.inr rfl) fun v4 j4 => ?_
        have g4 := g3.trans' j4
        have sz4 := j4.size
        have szg4 := g3.size
        exact hF w6 _ _ _ _ _ k06 g4 (by omega) (by omega) (by omega) b8 h9 (j4.get hb3 (by simp)) (j4.get (j3.get (j2.get hb1 (by simp)) (by simp)) (by simp)) (by omega) (by omega) (by omega)
    · refine newB fun y2 v2 hy2 hb2 j2 => ?_
      have g2 := g1.trans' j2
      have sz2 := j2.size
      have szg2 := g1.size
      have lt2 := lt_of_blk hb2
      rw [r7 _ g2, r5 _ g2, r6 _ g2, r4 _ g2]
      refine ⟨rfl, rfl, rfl, rfl, ?_⟩
      refine tighter_spec a c (.inl rfl) fun v3 j3 => ?_
      have g3 := g2.trans' j3
      have sz3 := j3.size
      have szg3 := g2.size
      rw [r7 _ g3, r5 _ g3]
      refine ⟨rfl, rfl, ?_⟩
      refine tighter_spec b d (.inr rfl) fun v4 j4 => ?_
      have g4 := g3.trans' j4
      have sz4 := j4.size
      have szg4 := g3.size
      exact hF w6 _ _ _ _ _ k06 g4 (by omega) (by omega) (by omega) b8 h9 (j4.get (j3.get hb2 (by simp)) (by simp)) (j4.get (j3.get (j2.get hb1 (by simp)) (by simp)) (by simp)) (by omega) (by omega) (by omega)
end Go.Proofs

/- Layer 22: what two ranges say together. -/
set_option maxRecDepth 100000
set_option linter.unusedVariables false
set_option linter.unusedSimpArgs false
namespace Go.Proofs
open Go Go.Q
theorem lvBd {w : World} {b : Nat} {v : Bd} {T : TypeId} {fr : Nat × Nat} (hh : w.heap[b]? = some (.cells (bC v).toArray T fr)) {K : Value → Prop} :
    qG Try.prog (do loadVar 37 (← asAddr (.pointer (some ⟨b, 0, none⟩)))) w K = K (bdA v) := loadVar_of (by kernel_rfl) (by kernel_rfl) hh rfl
section
variable {w wj : World} {x8 x9 x11 x12 : Nat} {A B : Bd} {R : Value → World → Prop}
structure NB (w wj : World) (x8 x9 x11 x12 : Nat) (A B : Bd) : Prop where
  kp : Kp [] w wj
  b8 : wj.heap[x8]? = some (.cells (zc Try.prog 37) 37)
  b9 : wj.heap[x9]? = some (.cells (zc Try.prog 37) 37)
  b11 : wj.heap[x11]? = some (.cells (bC A).toArray 37)
  b12 : wj.heap[x12]? = some (.cells (bC B).toArray 37)
  l8 : w.heap.size ≤ x8
  l89 : x8 < x9
  l11 : x9 < x11
  l12 : x9 < x12
theorem NB.keep {w' : World} (h : NB w wj x8 x9 x11 x12 A B) (hk : Kp [] wj w') : NB w w' x8 x9 x11 x12 A B :=
  ⟨h.kp.trans' hk, hk.get h.b8 (by simp), hk.get h.b9 (by simp), hk.get h.b11 (by simp), hk.get h.b12 (by simp), h.l8, h.l89, h.l11, h.l12⟩
/-- the results' variables, once written -/
theorem NB.st (h : NB w wj x8 x9 x11 x12 A B) {K : World → Prop} (hK : ∀ w', Kp [] w w' → w'.heap[x8]? = some (.cells (bC A).toArray 37) → w'.heap[x9]? = some (.cells (zc Try.prog 37) 37) → w'.heap[x12]? = some (.cells (bC B).toArray 37) → K w') : stn 5 (.pointer (some ⟨x8, 0, none⟩)) (bdA A) wj K := by
  unfold bdA
  have := h.l89
  have := h.l11
  have := h.l12
  rw [stA (k := 5) h.b8 (by rw [zcBd]; rfl) rfl (bC_one A)]
  exact hK _ (h.kp.setBlk (.inr h.l8) _) (heap_self (live_of h.b8)) (by rw [heap_ne (by omega)]; exact h.b9) (by rw [heap_ne (by omega)]; exact h.b12)
theorem nw_ret (h : NB w wj x8 x9 x11 x12 A B) {t : Value} (hR : ∀ w', Kp [] w w' → R (.tuple #[bdA A, bdA B, t]) w') :
    stn 5 (.pointer (some ⟨x8, 0, none⟩)) (bdA A) wj fun w =>
    ldn 5 (.pointer (some ⟨x12, 0, none⟩)) w (fun u => u = bdA B) ∧
    stn 5 (.pointer (some ⟨x9, 0, none⟩)) (bdA B) w fun w =>
    qG Try.prog (do loadVar 37 (← asAddr (.pointer (some ⟨x8, 0, none⟩)))) w fun r8 =>
    qG Try.prog (do loadVar 37 (← asAddr (.pointer (some ⟨x9, 0, none⟩)))) w fun r9 =>
    R (.tuple #[r8, r9, t]) w := by
  refine h.st fun w1 k1 c8 c9 c12 => ?_
  have := h.l89
  have := h.l8
  rw [ldA (k := 5) c12 rfl]
  refine ⟨rfl, ?_⟩
  unfold bdA
  rw [stA (k := 5) c9 (by rw [zcBd]; rfl) rfl (bC_one B), lvBd (v := A) (by rw [heap_ne (by omega)]; exact c8), lvBd (v := B) (heap_self (live_of c9))]
  exact hR _ (k1.setBlk (.inr (by omega)) _)
theorem narrow_s0 (h : NB w wj x8 x9 x11 x12 A B) (ha : A.has = true) (hb : B.has = true) (hR : ∀ w', Kp [] w w' → R (.tuple #[bdA A, bdA B, .bool (bothV A B)]) w') :
    simplify_Narrow_s0 R (.pointer (some ⟨x8, 0, none⟩)) (.pointer (some ⟨x9, 0, none⟩)) (.pointer (some ⟨x11, 0, none⟩)) (.pointer (some ⟨x12, 0, none⟩)) wj := by
  unfold simplify_Narrow_s0
  rw [fa_p, ldP (k := 3) h.b11 (bd_val A) (by simp [bC, valV]), fa_p, ldP (k := 3) h.b12 (bd_val B) (by simp [bC, valV])]
  refine vCompare_spec A.val B.val fun w1 _ k1 => ?_
  have h1 := (h.keep k1).keep kp_drew
  have e : bothV A B = decide (cmpV A.val B.val < 0 ∨ cmpV A.val B.val = 0 ∧ A.open_ = false ∧ B.open_ = false) := by
    unfold bothV; rw [if_neg (by simp [ha, hb])]
  rw [e] at hR
  rw [ldA (k := 5) h1.b11 rfl, ldA (k := 5) h1.b12 rfl]
  simp only [bq_lss, bV_b, decide_eq_true_eq, decide_eq_false_iff_not, bq_eql]
  refine ⟨fun hc => ?_, fun hc => ⟨fun h0 => ?_, fun h0 => ?_⟩⟩
  · refine nw_ret h1 fun w' hk' => ?_
    have := hR w' hk'
    rw [decide_eq_true (.inl hc)] at this
    exact this
  · rw [fa_p, ldF (x := .bool A.open_) h1.b11 rfl]
    simp only [un_not, bV_b]
    refine ⟨fun ho => ?_, fun ho => ?_⟩
    · have ho : A.open_ = false := by simpa using ho
      rw [fa_p, ldF (x := .bool B.open_) h1.b12 rfl]
      simp only [un_not, stb_not]
      refine h1.st fun w2 k2 c8 c9 c12 => ?_
      have := h.l89
      have := h.l8
      have := h.l12
      rw [ldF (x := .bool B.open_) c12 rfl, ldA (k := 5) c12 rfl]
      refine ⟨trivial, rfl, rfl, ?_⟩
      rw [stA (k := 5) c9 (by rw [zcBd]; rfl) rfl (bC_one B)]
      have hne : ¬ x9 = x12 := by omega
      rw [ldF (x := .bool B.open_) (by rw [heap_ne hne]; exact c12) rfl, lvBd (v := A) (by rw [heap_ne (by omega)]; exact c8), lvBd (v := B) (heap_self (live_of c9))]
      refine ⟨trivial, rfl, ?_⟩
      have := hR _ (k2.setBlk (.inr (show w.heap.size ≤ x9 by omega)) (.cells (bC B).toArray 37))
      have e2 : decide (cmpV A.val B.val < 0 ∨ cmpV A.val B.val = 0 ∧ A.open_ = false ∧ B.open_ = false) = !B.open_ := by
        cases hbo : B.open_
        · rw [decide_eq_true (.inr ⟨h0, ho, rfl⟩)]; rfl
        · rw [decide_eq_false (by rintro (hh | ⟨_, _, hh⟩); exact hc hh; cases hh)]; rfl
      rw [e2] at this
      exact this
    · have ho : A.open_ = true := by simpa using ho
      refine nw_ret h1 fun w' hk' => ?_
      have := hR w' hk'
      rw [decide_eq_false (by rintro (hh | ⟨_, hh, _⟩); exact hc hh; rw [ho] at hh; cases hh)] at this
      exact this
  · refine nw_ret h1 fun w' hk' => ?_
    have := hR w' hk'
    rw [decide_eq_false (by rintro (hh | ⟨hh, _⟩); exact hc hh; exact h0 hh)] at this
    exact this
end
theorem narrow_spec {w : World} (a b c d : Bd) {R : Value → World → Prop} (hR : ∀ w', Kp [] w w' → R (.tuple #[bdA (tightV a c 1), bdA (tightV b d (-1)), .bool (narrowV a b c d)]) w') : callG Try.prog 26 #[bdA a, bdA b, bdA c, bdA d] w R := by
  refine narrow_orders fun wb w' x8 x9 x11 x12 kb k' l89 l8 l9 b8 b9 b11 b12 l11 l12 ne => ?_
  unfold narrowV at hR
  generalize tightV a c 1 = A at hR ⊢
  generalize tightV b d (-1) = B at hR ⊢
  unfold nwF
  have kk := kb.trans' k'
  have s' := kb.size
  have st1' : ∀ K : World → Prop, stn 5 (.pointer (some ⟨x11, 0, none⟩)) (bdA A) w' K = K (setBlk w' x11 (.cells (bC A).toArray 37)) := fun K => stA b11 (by rw [zcBd]; rfl) rfl (bC_one A)
  rw [st1']
  obtain ⟨w1, hw1⟩ : ∃ w1, w1 = setBlk w' x11 (.cells (bC A).toArray 37) := ⟨_, rfl⟩
  have c12 : w1.heap[x12]? = some (.cells (zc Try.prog 37) 37) := by rw [hw1, heap_ne ne]; exact b12
  have c11 : w1.heap[x11]? = some (.cells (bC A).toArray 37) := by rw [hw1]; exact heap_self (live_of b11)
  have k1 : Kp [] wb w1 := by rw [hw1]; exact k'.setBlk (.inr l11) _
  rw [← hw1]
  have st2' : ∀ K : World → Prop, stn 5 (.pointer (some ⟨x12, 0, none⟩)) (bdA B) w1 K = K (setBlk w1 x12 (.cells (bC B).toArray 37)) := fun K => stA c12 (by rw [zcBd]; rfl) rfl (bC_one B)
  rw [st2']
  obtain ⟨w2, hw2⟩ : ∃ w2, w2 = setBlk w1 x12 (.cells (bC B).toArray 37) := ⟨_, rfl⟩
  have d11 : w2.heap[x11]? = some (.cells (bC A).toArray 37) := by rw [hw2, heap_ne (Ne.symm ne)]; exact c11
  have d12 : w2.heap[x12]? = some (.cells (bC B).toArray 37) := by rw [hw2]; exact heap_self (live_of c12)
  have k2 : Kp [] wb w2 := by rw [hw2]; exact k1.setBlk (.inr l12) _
  rw [← hw2]
  have hn : NB w w2 x8 x9 x11 x12 A B := ⟨kb.trans' k2, k2.get b8 (by simp), k2.get b9 (by simp), d11, d12, l8, l89, by omega, by omega⟩
  have hnd := hn.keep kp_drew
  have rest : bothV A B = true → (ldn 5 (.pointer (some ⟨x11, 0, none⟩)) w2.drew fun t28 => ldn 5 (.pointer (some ⟨x12, 0, none⟩)) w2.drew fun t29 => stn 5 (.pointer (some ⟨x8, 0, none⟩)) t28 w2.drew fun w =>
      ldn 5 (.pointer (some ⟨x12, 0, none⟩)) w (fun u => u = t29) ∧
      stn 5 (.pointer (some ⟨x9, 0, none⟩)) t29 w fun w =>
      qG Try.prog (do loadVar 37 (← asAddr (.pointer (some ⟨x8, 0, none⟩)))) w fun r8 =>
      qG Try.prog (do loadVar 37 (← asAddr (.pointer (some ⟨x9, 0, none⟩)))) w fun r9 =>
      R (.tuple #[r8, r9, .bool true]) w) := by
    intro hb
    rw [ldA (k := 5) hnd.b11 rfl, ldA (k := 5) hnd.b12 rfl]
    rw [hb] at hR
    exact nw_ret hnd hR
  rw [fa_p, ldF (x := .bool A.has) d11 rfl]
  simp only [un_not, bV_b]
  refine ⟨fun ha => rest (by unfold bothV; rw [if_pos (.inl (by simpa using ha))]), fun ha => ?_⟩
  rw [fa_p, ldF (x := .bool B.has) d12 rfl]
  simp only [un_not, bV_b]
  refine ⟨fun hb => rest (by unfold bothV; rw [if_pos (.inr (by simpa using hb))]), fun hb => ?_⟩
  exact narrow_s0 hn (by simpa using ha) (by simpa using hb) hR
end Go.Proofs

/- Layer 22: is a value in a range; shares. -/
set_option maxRecDepth 100000
set_option linter.unusedVariables false
set_option linter.unusedSimpArgs false
namespace Go.Proofs
open Go Go.Q
theorem bld_at_val (v : V3) {K : Value → Prop} : bld [(0, 1), (1, 1), (2, 3)] (zc Try.prog 37) #[(0, (.bool true)), (2, valA v)] K = K (bdA (bAt v)) := by
  rw [zcBd]; rfl
theorem in_spec {w : World} (v : V3) (lo hi : Bd) {R : Value → World → Prop} (hR : ∀ w', Kp [] w w' → R (.bool (inV v lo hi)) w') : callG Try.prog 27 #[valA v, bdA lo, bdA hi] w R := by
  refine stat_in_call ?_
  unfold stat_in stat_in_s0
  have e0 : ∀ (v : V3) (w : World) (k : Value → World → Prop), newG (Value.cells (valA v)) 35 w k = newG (Value.cells (.agg (valV v).toArray)) 35 w k := fun _ _ _ => rfl
  have e1 : ∀ (v : Bd) (w : World) (k : Value → World → Prop), newG (Value.cells (bdA v)) 37 w k = newG (Value.cells (.agg (bC v).toArray)) 37 w k := fun _ _ _ => rfl
  rw [e0]
  refine argB fun x3 w1 hx3 h3 k1 => ?_
  rw [e1]
  refine argB fun x4 w2 hx4 h4 k2 => ?_
  rw [e1]
  refine argB fun x5 w3 hx5 h5 k3 => ?_
  have b3 := k3.get (k2.get h3 (by simp)) (by simp)
  have b4 := k3.get h4 (by simp)
  have k03 := (k1.trans' k2).trans' k3
  rw [show ∀ K : Value → Prop, ldn 3 (.pointer (some ⟨x3, 0, none⟩)) w3 K = K (valA v) from fun K => ldA b3 rfl, bld_at_val]
  refine newB fun x7 w4 hx7 h7 k4 => ?_
  unfold bdA
  rw [stA (k := 5) h7 (by rw [zcBd]; rfl) rfl (bC_one _)]
  obtain ⟨w5, hw5⟩ : ∃ w5, w5 = setBlk w4 x7 (.cells (bC (bAt v)).toArray 37) := ⟨_, rfl⟩
  have c7 : w5.heap[x7]? = some (.cells (bC (bAt v)).toArray 37) := by rw [hw5]; exact heap_self (live_of h7)
  have k35 : Kp [] w3 w5 := by rw [hw5]; exact k4.setBlk (.inr hx7) _
  rw [← hw5, ldA (k := 5) (k35.get b4 (by simp)) rfl, ldA (k := 5) (k35.get h5 (by simp)) rfl, ldA (k := 5) c7 rfl, ldA (k := 5) c7 rfl]
  refine narrow_spec lo hi (bAt v) (bAt v) fun w6 k6 => ?_
  rw [ex30, ex31, ex32]
  refine newB fun x8 w7 hx8 h8 k7 => ?_
  refine newB fun x9 w8 hx9 h9 k8 => ?_
  have h88 := k8.get h8 (by simp)
  have l8 := lt_of_blk h8
  unfold bdA
  rw [stA (k := 5) h88 (by rw [zcBd]; rfl) rfl (bC_one _), stA (k := 5) (by rw [heap_ne (by omega)]; exact h9) (by rw [zcBd]; rfl) rfl (bC_one _)]
  have s7 := k7.size
  exact hR _ (((k03.trans' k35).trans' k6).trans' (((k7.trans' k8).setBlk (.inr hx8) _).setBlk (.inr (by omega)) _))
theorem share_spec {w : World} (a b c : Nat) (hc : 0 < c) (ha : a < 2 ^ 30) (hb : b < 2 ^ 30) (hc2 : c < 2 ^ 30) {R : Value → World → Prop} (hR : R (.int .i64 (shareN a b c)) w.drew) : callG Try.prog 28 #[.int .i64 a, .int .i64 b, .int .i64 c] w R := by
  refine stat_share_call ?_
  unfold stat_share stat_share_s0
  have h1 : a / c ≤ a := Nat.div_le_self _ _
  have h2 : a % c < c := Nat.mod_lt _ hc
  have h3 : a / c * b ≤ 2 ^ 30 * 2 ^ 30 := Nat.mul_le_mul (by omega) (by omega)
  have h4 : a % c * b ≤ 2 ^ 30 * 2 ^ 30 := Nat.mul_le_mul (by omega) (by omega)
  have h5 : a % c * b / c ≤ a % c * b := Nat.div_le_self _ _
  have q1 : ((a : Int) / (c : Int)) = ((a / c : Nat) : Int) := by simp
  have q2 : ((a : Int) % (c : Int)) = ((a % c : Nat) : Int) := by simp
  have q3 : ((a / c : Nat) : Int) * (b : Int) = ((a / c * b : Nat) : Int) := by simp
  have q4 : ((a % c : Nat) : Int) * (b : Int) = ((a % c * b : Nat) : Int) := by simp
  have q5 : (((a % c * b : Nat) : Int) / (c : Int)) = ((a % c * b / c : Nat) : Int) := by simp
  have q6 : ((a / c * b : Nat) : Int) + ((a % c * b / c : Nat) : Int) = ((shareN a b c : Nat) : Int) := by unfold shareN; simp
  have h6 : shareN a b c ≤ 2 ^ 30 * 2 ^ 30 + 2 ^ 30 * 2 ^ 30 := by unfold shareN; exact Nat.add_le_add h3 (Nat.le_trans h5 h4)
  rw [quo_of (by omega) (by omega), q1, wrap_nat64 (by omega)]
  simp only [bq_mul]
  rw [q3, wrap_nat64 (Nat.lt_of_le_of_lt h3 (by decide)), rem_of (by omega) (by omega), q2]
  simp only [bq_mul]
  rw [q4, wrap_nat64 (Nat.lt_of_le_of_lt h4 (by decide)), quo_of (Int.natCast_nonneg _) (by omega), q5, wrap_nat64 (Nat.lt_of_le_of_lt (Nat.le_trans h5 h4) (by decide))]
  simp only [bq_add]
  rw [q6, wrap_nat64 (Nat.lt_of_le_of_lt h6 (by decide))]
  exact hR
end Go.Proofs

set_option linter.unusedVariables false
set_option linter.unusedSimpArgs false
namespace Go.Proofs
open Go Go.Q
set_option maxRecDepth 100000
/-! quayside/quaysideref22.sorted -/
def ref22_sorted_s0 (R : Value → World → Prop) (x0 x3 x5 : Value) (w : World) : Prop :=
  slL 3 x0 none (some x5) fun t25 =>
  app 35 3 32 (zc Try.prog 35) (.slice none 0 0) t25 w fun t26 w =>
  ldn 3 x3 w fun t28 =>
  bsl 35 3 1 (zc Try.prog 35) #[(0, t28)] w fun t29 w =>
  app 35 3 32 (zc Try.prog 35) t26 t29 w fun t30 w =>
  slL 3 x0 (some x5) none fun t34 =>
  app 35 3 32 (zc Try.prog 35) t30 t34 w fun t35 w =>
  R t35 w
theorem ref22_sorted_s0_eq (R : Value → World → Prop) : ∀ e w, lift Try.prog 36 (sub (bodyOf Try.f37) [1, 1, 1]) (finK Try.prog Try.f37.results.toList R) e w = ref22_sorted_s0 R (e 0) (e 3) (e 5) w := fun e w => by kernel_rfl
def ref22_sorted_b1 (R : Value → World → Prop) (N1 : List Value → World → Prop) (x0 x3 x5 : Value) (w : World) : Prop :=
  lenL x0 fun t9 =>
  qG Try.prog (bq .lss 3 (.tmp 7) (.tmp 9) x5 t9) (World.drew w) fun t10 =>
  bV t10
  (ia 3 x0 x5 fun t14 =>
  ldn 3 t14 (World.drew w) fun t15 =>
  ldn 3 x3 (World.drew w) fun t16 =>
  callG Try.prog 16 #[t15, t16] (World.drew w) fun t17 w =>
  qG Try.prog (bq .leq 3 (.tmp 17) (.const (.int .i64 0)) t17 (.int .i64 0)) w fun t18 =>
  bV t18
  (qG Try.prog (bq .add 3 (.tmp 20) (.const (.int .i64 1)) x5 (.int .i64 1)) w fun t21 =>
  N1 [x0, x3, t21] w)
  (ref22_sorted_s0 R x0 x3 x5 w))
  (ref22_sorted_s0 R x0 x3 x5 (World.drew w))
theorem ref22_sorted_b1_eq (R : Value → World → Prop) (N1 : List Value → World → Prop) : ∀ e w, lift Try.prog 36 (sub (bodyOf Try.f37) [1, 1, 0, 0, 0]) (seqK (fun e w => N1 [e 0, e 3, e 5] w) (blockK 0 (seqK (fun e w => ref22_sorted_s0 R (e 0) (e 3) (e 5) w) (finK Try.prog Try.f37.results.toList R)))) e w = ref22_sorted_b1 R N1 (e 0) (e 3) (e 5) w := fun e w => by kernel_rfl
def ref22_sorted_L2F (R : Value → World → Prop) (N1 : List Value → World → Prop) (xs : List Value) (w : World) : Prop :=
  match xs with
  | [x0, x3, x5] => ref22_sorted_b1 R N1 x0 x3 x5 w
  | _ => False
def ref22_sorted_L2 (R : Value → World → Prop) (x0 x3 x5 : Value) (w : World) : Prop :=
  ∃ m, loopV (ref22_sorted_L2F R) m [x0, x3, x5] w
theorem ref22_sorted_L2_eq (R : Value → World → Prop) : ∀ e w, lift Try.prog 36 (sub (bodyOf Try.f37) [1, 1, 0, 0]) (blockK 0 (seqK (fun e w => ref22_sorted_s0 R (e 0) (e 3) (e 5) w) (finK Try.prog Try.f37.results.toList R))) e w = ref22_sorted_L2 R (e 0) (e 3) (e 5) w := loop_seg (F := ref22_sorted_L2F R) (sel := fun e => [e 0, e 3, e 5]) fun N1 => (ref22_sorted_b1_eq R N1)
def ref22_sorted_s3 (R : Value → World → Prop) (x0 x1 : Value) (w : World) : Prop :=
  newG (Value.cells x1) 35 w fun t3 w =>
  ref22_sorted_L2 R x0 t3 (.int .i64 0) w
theorem ref22_sorted_s3_eq (R : Value → World → Prop) : ∀ e w, lift Try.prog 36 (bodyOf Try.f37) (finK Try.prog Try.f37.results.toList R) e w = ref22_sorted_s3 R (e 0) (e 1) w :=
  segs_eq (l := [(sub (bodyOf Try.f37) [0]), (sub (bodyOf Try.f37) [1, 0])]) (y := (sub (bodyOf Try.f37) [1, 1])) (Y := (fun e w => ref22_sorted_L2 R (e 0) (e 3) (e 5) w)) (seq_seg (x := (sub (bodyOf Try.f37) [1, 1, 0])) (y := (sub (bodyOf Try.f37) [1, 1, 1])) (ref22_sorted_s0_eq R) (ref22_sorted_L2_eq R)) (fun e w => by kernel_rfl)
def ref22_sorted (R : Value → World → Prop) (x0 x1 : Value) (w : World) : Prop := ref22_sorted_s3 R x0 x1 w
theorem ref22_sorted_call {R : Value → World → Prop} {x0 x1 : Value} {w : World} (h : ref22_sorted R x0 x1 w) : callG Try.prog 37 #[x0, x1] w R :=
  calls_lift_eq Try.mixed Try.func37 (args := [x0, x1]) rfl rfl rfl rfl ((ref22_sorted_s3_eq R) (envOf [x0, x1]) w) (by kernel_rfl) h
/-! quayside/quaysideref22.column -/
def ref22_column_s0 (R : Value → World → Prop) (x4 x5 : Value) (w : World) : Prop :=
  ldn 3 x5 w fun t97 =>
  stn 3 x4 t97 w fun w =>
  qG Try.prog (do loadVar 32 (← asAddr x4)) w fun r4 =>
  R r4 w
theorem ref22_column_s0_eq (R : Value → World → Prop) : ∀ e w, lift Try.prog 98 (sub (bodyOf Try.f23) [1, 1, 1, 1, 1, 1, 1]) (finK Try.prog Try.f23.results.toList R) e w = ref22_column_s0 R (e 4) (e 5) w := fun e w => by kernel_rfl
def ref22_column_b1 (R : Value → World → Prop) (N1 : List Value → World → Prop) (x4 x5 x6 x9 : Value) (w : World) : Prop :=
  qG Try.prog (bq .lss 3 (.tmp 79) (.const (.int .i64 9)) x9 (.int .i64 9)) w fun t80 =>
  bV t80
  (fa 2 x5 fun t83 =>
  ld1 t83 (World.drew w) fun t84 =>
  lenL x6 fun t88 =>
  qG Try.prog (bq .sub 3 (.tmp 88) (.const (.int .i64 1)) t88 (.int .i64 1)) (World.drew w) fun t89 =>
  qG Try.prog (bq .mul 3 (.tmp 86) (.tmp 89) x9 t89) (World.drew w) fun t90 =>
  qG Try.prog (bq .quo 3 (.tmp 90) (.const (.int .i64 8)) t90 (.int .i64 8)) (World.drew w) fun t91 =>
  ia 3 x6 t91 fun t92 =>
  ldn 3 t92 (World.drew w) fun t93 =>
  bsl 35 3 1 (zc Try.prog 35) #[(0, t93)] (World.drew w) fun t94 w =>
  ld1 t83 w (fun u => u = t84) ∧
  app 35 3 32 (zc Try.prog 35) t84 t94 w fun t95 w =>
  fa 2 x5 fun t96 =>
  st1 t96 t95 w fun w =>
  qG Try.prog (bq .add 3 (.tmp 81) (.const (.int .i64 1)) x9 (.int .i64 1)) w fun t82 =>
  N1 [x4, x5, x6, t82] w)
  (ref22_column_s0 R x4 x5 w)
theorem ref22_column_b1_eq (R : Value → World → Prop) (N1 : List Value → World → Prop) : ∀ e w, lift Try.prog 98 (sub (bodyOf Try.f23) [1, 1, 1, 1, 1, 1, 0, 1, 0, 0]) (seqK (fun e w => N1 [e 4, e 5, e 6, e 9] w) (blockK 4 (seqK (fun e w => ref22_column_s0 R (e 4) (e 5) w) (finK Try.prog Try.f23.results.toList R)))) e w = ref22_column_b1 R N1 (e 4) (e 5) (e 6) (e 9) w := fun e w => by kernel_rfl
def ref22_column_L2F (R : Value → World → Prop) (N1 : List Value → World → Prop) (xs : List Value) (w : World) : Prop :=
  match xs with
  | [x4, x5, x6, x9] => ref22_column_b1 R N1 x4 x5 x6 x9 w
  | _ => False
def ref22_column_L2 (R : Value → World → Prop) (x4 x5 x6 x9 : Value) (w : World) : Prop :=
  ∃ m, loopV (ref22_column_L2F R) m [x4, x5, x6, x9] w
theorem ref22_column_L2_eq (R : Value → World → Prop) : ∀ e w, lift Try.prog 98 (sub (bodyOf Try.f23) [1, 1, 1, 1, 1, 1, 0, 1, 0]) (blockK 4 (seqK (fun e w => ref22_column_s0 R (e 4) (e 5) w) (finK Try.prog Try.f23.results.toList R))) e w = ref22_column_L2 R (e 4) (e 5) (e 6) (e 9) w := loop_seg (F := ref22_column_L2F R) (sel := fun e => [e 4, e 5, e 6, e 9]) fun N1 => (ref22_column_b1_eq R N1)
def ref22_column_s3 (R : Value → World → Prop) (x4 x5 x6 : Value) (w : World) : Prop :=
  ref22_column_L2 R x4 x5 x6 (.int .i64 0) w
theorem ref22_column_s3_eq (R : Value → World → Prop) : ∀ e w, lift Try.prog 98 (sub (bodyOf Try.f23) [1, 1, 1, 1, 1, 1, 0]) (seqK (fun e w => ref22_column_s0 R (e 4) (e 5) w) (finK Try.prog Try.f23.results.toList R)) e w = ref22_column_s3 R (e 4) (e 5) (e 6) w :=
  segs_eq (l := [(sub (bodyOf Try.f23) [1, 1, 1, 1, 1, 1, 0, 0])]) (y := (sub (bodyOf Try.f23) [1, 1, 1, 1, 1, 1, 0, 1])) (Y := (fun e w => ref22_column_L2 R (e 4) (e 5) (e 6) (e 9) w)) (ref22_column_L2_eq R) (fun e w => by kernel_rfl)
def ref22_column_s4 (R : Value → World → Prop) (x4 x5 x6 : Value) (w : World) : Prop :=
  lenL x6 fun t74 =>
  qG Try.prog (bq .leq 3 (.tmp 74) (.const (.int .i64 9)) t74 (.int .i64 9)) w fun t75 =>
  bV t75
  (fa 2 x5 fun t77 =>
  st1 t77 x6 w fun w =>
  ldn 3 x5 w fun t78 =>
  stn 3 x4 t78 w fun w =>
  qG Try.prog (do loadVar 32 (← asAddr x4)) w fun r4 =>
  R r4 w)
  (ref22_column_s3 R x4 x5 x6 w)
theorem ref22_column_s4_eq (R : Value → World → Prop) : ∀ e w, lift Try.prog 98 (sub (bodyOf Try.f23) [1, 1, 1, 1, 1]) (finK Try.prog Try.f23.results.toList R) e w = ref22_column_s4 R (e 4) (e 5) (e 6) w :=
  segs_eq (l := [(sub (bodyOf Try.f23) [1, 1, 1, 1, 1, 0])]) (y := (sub (bodyOf Try.f23) [1, 1, 1, 1, 1, 1])) (Y := (fun e w => ref22_column_s3 R (e 4) (e 5) (e 6) w)) (seq_seg (x := (sub (bodyOf Try.f23) [1, 1, 1, 1, 1, 1, 0])) (y := (sub (bodyOf Try.f23) [1, 1, 1, 1, 1, 1, 1])) (ref22_column_s0_eq R) (ref22_column_s3_eq R)) (fun e w => by kernel_rfl)
def ref22_column_b5 (R : Value → World → Prop) (N1 : List Value → World → Prop) (x4 x5 x6 x8 : Value) (w : World) : Prop :=
  lenL x6 fun t50 =>
  qG Try.prog (bq .lss 3 (.tmp 48) (.tmp 50) x8 t50) w fun t51 =>
  bV t51
  (qG Try.prog (bq .eql 3 (.tmp 54) (.const (.int .i64 0)) x8 (.int .i64 0)) (World.drew w) fun t55 =>
  bV t55
  (fa 1 x5 fun t69 =>
  ld1 t69 (World.drew w) fun t70 =>
  qG Try.prog (bq .add 3 (.tmp 70) (.const (.int .i64 1)) t70 (.int .i64 1)) (World.drew w) fun t71 =>
  fa 1 x5 fun t72 =>
  st1 t72 t71 (World.drew w) fun w =>
  qG Try.prog (bq .add 3 (.tmp 52) (.const (.int .i64 1)) x8 (.int .i64 1)) w fun t53 =>
  N1 [x4, x5, x6, t53] w)
  (qG Try.prog (bq .sub 3 (.tmp 58) (.const (.int .i64 1)) x8 (.int .i64 1)) (World.drew w) fun t59 =>
  ia 3 x6 t59 fun t60 =>
  ldn 3 t60 (World.drew w) fun t61 =>
  ia 3 x6 x8 fun t64 =>
  ldn 3 t64 (World.drew w) fun t65 =>
  callG Try.prog 16 #[t61, t65] (World.drew w) fun t66 w =>
  qG Try.prog (bq .neq 3 (.tmp 66) (.const (.int .i64 0)) t66 (.int .i64 0)) w fun t67 =>
  bV t67
  (fa 1 x5 fun t69_1 =>
  ld1 t69_1 w fun t70_1 =>
  qG Try.prog (bq .add 3 (.tmp 70) (.const (.int .i64 1)) t70_1 (.int .i64 1)) w fun t71_1 =>
  fa 1 x5 fun t72_1 =>
  st1 t72_1 t71_1 w fun w =>
  qG Try.prog (bq .add 3 (.tmp 52) (.const (.int .i64 1)) x8 (.int .i64 1)) w fun t53_1 =>
  N1 [x4, x5, x6, t53_1] w)
  (qG Try.prog (bq .add 3 (.tmp 52) (.const (.int .i64 1)) x8 (.int .i64 1)) w fun t53_2 =>
  N1 [x4, x5, x6, t53_2] w)))
  (ref22_column_s4 R x4 x5 x6 w)
theorem ref22_column_b5_eq (R : Value → World → Prop) (N1 : List Value → World → Prop) : ∀ e w, lift Try.prog 98 (sub (bodyOf Try.f23) [1, 1, 1, 1, 0, 1, 0, 0]) (seqK (fun e w => N1 [e 4, e 5, e 6, e 8] w) (blockK 2 (seqK (fun e w => ref22_column_s4 R (e 4) (e 5) (e 6) w) (finK Try.prog Try.f23.results.toList R)))) e w = ref22_column_b5 R N1 (e 4) (e 5) (e 6) (e 8) w := fun e w => by kernel_rfl
def ref22_column_L6F (R : Value → World → Prop) (N1 : List Value → World → Prop) (xs : List Value) (w : World) : Prop :=
  match xs with
  | [x4, x5, x6, x8] => ref22_column_b5 R N1 x4 x5 x6 x8 w
  | _ => False
def ref22_column_L6 (R : Value → World → Prop) (x4 x5 x6 x8 : Value) (w : World) : Prop :=
  ∃ m, loopV (ref22_column_L6F R) m [x4, x5, x6, x8] w
theorem ref22_column_L6_eq (R : Value → World → Prop) : ∀ e w, lift Try.prog 98 (sub (bodyOf Try.f23) [1, 1, 1, 1, 0, 1, 0]) (blockK 2 (seqK (fun e w => ref22_column_s4 R (e 4) (e 5) (e 6) w) (finK Try.prog Try.f23.results.toList R))) e w = ref22_column_L6 R (e 4) (e 5) (e 6) (e 8) w := loop_seg (F := ref22_column_L6F R) (sel := fun e => [e 4, e 5, e 6, e 8]) fun N1 => (ref22_column_b5_eq R N1)
def ref22_column_s7 (R : Value → World → Prop) (x4 x5 x6 : Value) (w : World) : Prop :=
  ref22_column_L6 R x4 x5 x6 (.int .i64 0) w
theorem ref22_column_s7_eq (R : Value → World → Prop) : ∀ e w, lift Try.prog 98 (sub (bodyOf Try.f23) [1, 1, 1, 1, 0]) (seqK (fun e w => ref22_column_s4 R (e 4) (e 5) (e 6) w) (finK Try.prog Try.f23.results.toList R)) e w = ref22_column_s7 R (e 4) (e 5) (e 6) w :=
  segs_eq (l := [(sub (bodyOf Try.f23) [1, 1, 1, 1, 0, 0])]) (y := (sub (bodyOf Try.f23) [1, 1, 1, 1, 0, 1])) (Y := (fun e w => ref22_column_L6 R (e 4) (e 5) (e 6) (e 8) w)) (ref22_column_L6_eq R) (fun e w => by kernel_rfl)
def ref22_column_s8 (R : Value → World → Prop) (N1 : List Value → World → Prop) (x0 x1 x4 x5 x6 x7 : Value) (w : World) : Prop :=
  qG Try.prog (bq .add 3 (.tmp 15) (.const (.int .i64 1)) x7 (.int .i64 1)) w fun t16 =>
  N1 [x0, x1, x4, x5, x6, t16] w
theorem ref22_column_s8_eq (R : Value → World → Prop) (N1 : List Value → World → Prop) : ∀ e w, lift Try.prog 98 (sub (bodyOf Try.f23) [1, 1, 1, 0, 1, 0, 0, 1, 1]) (seqK (fun e w => N1 [e 0, e 1, e 4, e 5, e 6, e 7] w) (blockK 0 (seqK (fun e w => ref22_column_s7 R (e 4) (e 5) (e 6) w) (finK Try.prog Try.f23.results.toList R)))) e w = ref22_column_s8 R N1 (e 0) (e 1) (e 4) (e 5) (e 6) (e 7) w := fun e w => by kernel_rfl
def ref22_column_s9 (R : Value → World → Prop) (N1 : List Value → World → Prop) (x0 x1 x4 x5 x6 x7 : Value) (w : World) : Prop :=
  ia 1 x1 x7 fun t42 =>
  ld1 t42 w fun t43 =>
  ia 3 t43 x0 fun t45 =>
  ldn 3 t45 w fun t46 =>
  callG Try.prog 37 #[x6, t46] w fun t47 w =>
  ref22_column_s8 R N1 x0 x1 x4 x5 t47 x7 w
theorem ref22_column_s9_eq (R : Value → World → Prop) (N1 : List Value → World → Prop) : ∀ e w, lift Try.prog 98 (sub (bodyOf Try.f23) [1, 1, 1, 0, 1, 0, 0, 1, 0, 0, 1]) (blockK 1 (seqK (fun e w => ref22_column_s8 R N1 (e 0) (e 1) (e 4) (e 5) (e 6) (e 7) w) (seqK (fun e w => N1 [e 0, e 1, e 4, e 5, e 6, e 7] w) (blockK 0 (seqK (fun e w => ref22_column_s7 R (e 4) (e 5) (e 6) w) (finK Try.prog Try.f23.results.toList R)))))) e w = ref22_column_s9 R N1 (e 0) (e 1) (e 4) (e 5) (e 6) (e 7) w := fun e w => by kernel_rfl
def ref22_column_s10 (R : Value → World → Prop) (N1 : List Value → World → Prop) (x0 x1 x4 x5 x6 x7 : Value) (w : World) : Prop :=
  ia 1 x1 x7 fun t20 =>
  ld1 t20 w fun t21 =>
  lenL t21 fun t22 =>
  qG Try.prog (bq .geq 3 (.tmp 17) (.tmp 22) x0 t22) w fun t23 =>
  bV t23
  (fa 0 x5 fun t35 =>
  ld1 t35 w fun t36 =>
  qG Try.prog (bq .add 3 (.tmp 36) (.const (.int .i64 1)) t36 (.int .i64 1)) w fun t37 =>
  fa 0 x5 fun t38 =>
  st1 t38 t37 w fun w =>
  ref22_column_s8 R N1 x0 x1 x4 x5 x6 x7 w)
  (ia 1 x1 x7 fun t27 =>
  ld1 t27 w fun t28 =>
  ia 3 t28 x0 fun t30 =>
  fa 0 t30 fun t31 =>
  ld1 t31 w fun t32 =>
  qG Try.prog (bq .eql 3 (.tmp 32) (.const (.int .i64 0)) t32 (.int .i64 0)) w fun t33 =>
  bV t33
  (fa 0 x5 fun t35_1 =>
  ld1 t35_1 w fun t36_1 =>
  qG Try.prog (bq .add 3 (.tmp 36) (.const (.int .i64 1)) t36_1 (.int .i64 1)) w fun t37_1 =>
  fa 0 x5 fun t38_1 =>
  st1 t38_1 t37_1 w fun w =>
  ref22_column_s8 R N1 x0 x1 x4 x5 x6 x7 w)
  (ref22_column_s9 R N1 x0 x1 x4 x5 x6 x7 w))
theorem ref22_column_s10_eq (R : Value → World → Prop) (N1 : List Value → World → Prop) : ∀ e w, lift Try.prog 98 (sub (bodyOf Try.f23) [1, 1, 1, 0, 1, 0, 0, 1, 0, 0]) (blockK 1 (seqK (fun e w => ref22_column_s8 R N1 (e 0) (e 1) (e 4) (e 5) (e 6) (e 7) w) (seqK (fun e w => N1 [e 0, e 1, e 4, e 5, e 6, e 7] w) (blockK 0 (seqK (fun e w => ref22_column_s7 R (e 4) (e 5) (e 6) w) (finK Try.prog Try.f23.results.toList R)))))) e w = ref22_column_s10 R N1 (e 0) (e 1) (e 4) (e 5) (e 6) (e 7) w :=
  segs_eq (l := [(sub (bodyOf Try.f23) [1, 1, 1, 0, 1, 0, 0, 1, 0, 0, 0])]) (y := (sub (bodyOf Try.f23) [1, 1, 1, 0, 1, 0, 0, 1, 0, 0, 1])) (Y := (fun e w => ref22_column_s9 R N1 (e 0) (e 1) (e 4) (e 5) (e 6) (e 7) w)) (ref22_column_s9_eq R N1) (fun e w => by kernel_rfl)
def ref22_column_s11 (R : Value → World → Prop) (N1 : List Value → World → Prop) (x0 x1 x4 x5 x6 x7 : Value) (w : World) : Prop :=
  lenL x1 fun t13 =>
  qG Try.prog (bq .lss 3 (.tmp 11) (.tmp 13) x7 t13) w fun t14 =>
  bV t14
  (ref22_column_s10 R N1 x0 x1 x4 x5 x6 x7 w)
  (ref22_column_s7 R x4 x5 x6 w)
theorem ref22_column_s11_eq (R : Value → World → Prop) (N1 : List Value → World → Prop) : ∀ e w, lift Try.prog 98 (sub (bodyOf Try.f23) [1, 1, 1, 0, 1, 0, 0]) (seqK (fun e w => N1 [e 0, e 1, e 4, e 5, e 6, e 7] w) (blockK 0 (seqK (fun e w => ref22_column_s7 R (e 4) (e 5) (e 6) w) (finK Try.prog Try.f23.results.toList R)))) e w = ref22_column_s11 R N1 (e 0) (e 1) (e 4) (e 5) (e 6) (e 7) w :=
  segs_eq (l := [(sub (bodyOf Try.f23) [1, 1, 1, 0, 1, 0, 0, 0])]) (y := (sub (bodyOf Try.f23) [1, 1, 1, 0, 1, 0, 0, 1])) (Y := (fun e w => ref22_column_s10 R N1 (e 0) (e 1) (e 4) (e 5) (e 6) (e 7) w)) (seq_seg (x := (sub (bodyOf Try.f23) [1, 1, 1, 0, 1, 0, 0, 1, 0])) (y := (sub (bodyOf Try.f23) [1, 1, 1, 0, 1, 0, 0, 1, 1])) (ref22_column_s8_eq R N1) (ref22_column_s10_eq R N1)) (fun e w => by kernel_rfl)
def ref22_column_L12F (R : Value → World → Prop) (N1 : List Value → World → Prop) (xs : List Value) (w : World) : Prop :=
  match xs with
  | [x0, x1, x4, x5, x6, x7] => ref22_column_s11 R N1 x0 x1 x4 x5 x6 x7 w
  | _ => False
def ref22_column_L12 (R : Value → World → Prop) (x0 x1 x4 x5 x6 x7 : Value) (w : World) : Prop :=
  ∃ m, loopV (ref22_column_L12F R) m [x0, x1, x4, x5, x6, x7] w
theorem ref22_column_L12_eq (R : Value → World → Prop) : ∀ e w, lift Try.prog 98 (sub (bodyOf Try.f23) [1, 1, 1, 0, 1, 0]) (blockK 0 (seqK (fun e w => ref22_column_s7 R (e 4) (e 5) (e 6) w) (finK Try.prog Try.f23.results.toList R))) e w = ref22_column_L12 R (e 0) (e 1) (e 4) (e 5) (e 6) (e 7) w := loop_seg (F := ref22_column_L12F R) (sel := fun e => [e 0, e 1, e 4, e 5, e 6, e 7]) fun N1 => (ref22_column_s11_eq R N1)
def ref22_column_s13 (R : Value → World → Prop) (x0 x1 x4 x5 x6 : Value) (w : World) : Prop :=
  ref22_column_L12 R x0 x1 x4 x5 x6 (.int .i64 0) w
theorem ref22_column_s13_eq (R : Value → World → Prop) : ∀ e w, lift Try.prog 98 (sub (bodyOf Try.f23) [1, 1, 1, 0]) (seqK (fun e w => ref22_column_s7 R (e 4) (e 5) (e 6) w) (finK Try.prog Try.f23.results.toList R)) e w = ref22_column_s13 R (e 0) (e 1) (e 4) (e 5) (e 6) w :=
  segs_eq (l := [(sub (bodyOf Try.f23) [1, 1, 1, 0, 0])]) (y := (sub (bodyOf Try.f23) [1, 1, 1, 0, 1])) (Y := (fun e w => ref22_column_L12 R (e 0) (e 1) (e 4) (e 5) (e 6) (e 7) w)) (ref22_column_L12_eq R) (fun e w => by kernel_rfl)
def ref22_column_s14 (R : Value → World → Prop) (x0 x1 : Value) (w : World) : Prop :=
  newG (zc Try.prog 32) 32 w fun t4 w =>
  bld [(0, 1), (1, 1), (2, 1)] (zc Try.prog 32) #[] fun t10 =>
  newG (zc Try.prog 32) 32 w fun t5 w =>
  stn 3 t5 t10 w fun w =>
  ref22_column_s13 R x0 x1 t4 t5 (.slice none 0 0) w
theorem ref22_column_s14_eq (R : Value → World → Prop) : ∀ e w, lift Try.prog 98 (bodyOf Try.f23) (finK Try.prog Try.f23.results.toList R) e w = ref22_column_s14 R (e 0) (e 1) w :=
  segs_eq (l := [(sub (bodyOf Try.f23) [0]), (sub (bodyOf Try.f23) [1, 0]), (sub (bodyOf Try.f23) [1, 1, 0])]) (y := (sub (bodyOf Try.f23) [1, 1, 1])) (Y := (fun e w => ref22_column_s13 R (e 0) (e 1) (e 4) (e 5) (e 6) w)) (seq_seg (x := (sub (bodyOf Try.f23) [1, 1, 1, 0])) (y := (sub (bodyOf Try.f23) [1, 1, 1, 1])) (seq_seg (x := (sub (bodyOf Try.f23) [1, 1, 1, 1, 0])) (y := (sub (bodyOf Try.f23) [1, 1, 1, 1, 1])) (ref22_column_s4_eq R) (ref22_column_s7_eq R)) (ref22_column_s13_eq R)) (fun e w => by kernel_rfl)
def ref22_column (R : Value → World → Prop) (x0 x1 : Value) (w : World) : Prop := ref22_column_s14 R x0 x1 w
theorem ref22_column_call {R : Value → World → Prop} {x0 x1 : Value} {w : World} (h : ref22_column R x0 x1 w) : callG Try.prog 23 #[x0, x1] w R :=
  calls_lift_eq Try.mixed Try.func23 (args := [x0, x1]) rfl rfl rfl rfl ((ref22_column_s14_eq R) (envOf [x0, x1]) w) (by kernel_rfl) h
/-! quayside/quaysideref22.Of -/
def ref22_Of_s0 (R : Value → World → Prop) (x4 x5 : Value) (w : World) : Prop :=
  ldn 2 x5 w fun t27 =>
  stn 2 x4 t27 w fun w =>
  qG Try.prog (do loadVar 27 (← asAddr x4)) w fun r4 =>
  R r4 w
theorem ref22_Of_s0_eq (R : Value → World → Prop) : ∀ e w, lift Try.prog 28 (sub (bodyOf Try.f10) [1, 1, 1]) (finK Try.prog Try.f10.results.toList R) e w = ref22_Of_s0 R (e 4) (e 5) w := fun e w => by kernel_rfl
def ref22_Of_s1 (R : Value → World → Prop) (N1 : List Value → World → Prop) (x0 x1 x4 x5 x6 : Value) (w : World) : Prop :=
  fa 1 x5 fun t19 =>
  ld1 t19 (World.drew w) fun t20 =>
  callG Try.prog 23 #[x6, x1] (World.drew w) fun t23 w =>
  ld1 t19 w (fun u => u = t20) ∧
  bsl 32 3 1 (zc Try.prog 32) #[(0, t23)] w fun t24 w =>
  ld1 t19 w (fun u => u = t20) ∧
  app 32 3 40 (zc Try.prog 32) t20 t24 w fun t25 w =>
  fa 1 x5 fun t26 =>
  st1 t26 t25 w fun w =>
  qG Try.prog (bq .add 3 (.tmp 17) (.const (.int .i64 1)) x6 (.int .i64 1)) w fun t18 =>
  N1 [x0, x1, x4, x5, t18] w
theorem ref22_Of_s1_eq (R : Value → World → Prop) (N1 : List Value → World → Prop) : ∀ e w, lift Try.prog 28 (sub (bodyOf Try.f10) [1, 1, 0, 1, 0, 0, 1]) (seqK (fun e w => N1 [e 0, e 1, e 4, e 5, e 6] w) (blockK 0 (seqK (fun e w => ref22_Of_s0 R (e 4) (e 5) w) (finK Try.prog Try.f10.results.toList R)))) e w = ref22_Of_s1 R N1 (e 0) (e 1) (e 4) (e 5) (e 6) w := fun e w => by kernel_rfl
def ref22_Of_s2 (R : Value → World → Prop) (N1 : List Value → World → Prop) (x0 x1 x4 x5 x6 : Value) (w : World) : Prop :=
  qG Try.prog (bq .lss 3 (.tmp 10) (.tmp 11) x6 x0) w fun t12 =>
  bV t12
  (qG Try.prog (bq .lss 3 (.tmp 14) (.const (.int .i64 64)) x6 (.int .i64 64)) w fun t15 =>
  bV t15
  (ref22_Of_s1 R N1 x0 x1 x4 x5 x6 w)
  (ref22_Of_s0 R x4 x5 w))
  (ref22_Of_s0 R x4 x5 w)
theorem ref22_Of_s2_eq (R : Value → World → Prop) (N1 : List Value → World → Prop) : ∀ e w, lift Try.prog 28 (sub (bodyOf Try.f10) [1, 1, 0, 1, 0, 0]) (seqK (fun e w => N1 [e 0, e 1, e 4, e 5, e 6] w) (blockK 0 (seqK (fun e w => ref22_Of_s0 R (e 4) (e 5) w) (finK Try.prog Try.f10.results.toList R)))) e w = ref22_Of_s2 R N1 (e 0) (e 1) (e 4) (e 5) (e 6) w :=
  segs_eq (l := [(sub (bodyOf Try.f10) [1, 1, 0, 1, 0, 0, 0])]) (y := (sub (bodyOf Try.f10) [1, 1, 0, 1, 0, 0, 1])) (Y := (fun e w => ref22_Of_s1 R N1 (e 0) (e 1) (e 4) (e 5) (e 6) w)) (ref22_Of_s1_eq R N1) (fun e w => by kernel_rfl)
def ref22_Of_L3F (R : Value → World → Prop) (N1 : List Value → World → Prop) (xs : List Value) (w : World) : Prop :=
  match xs with
  | [x0, x1, x4, x5, x6] => ref22_Of_s2 R N1 x0 x1 x4 x5 x6 w
  | _ => False
def ref22_Of_L3 (R : Value → World → Prop) (x0 x1 x4 x5 x6 : Value) (w : World) : Prop :=
  ∃ m, loopV (ref22_Of_L3F R) m [x0, x1, x4, x5, x6] w
theorem ref22_Of_L3_eq (R : Value → World → Prop) : ∀ e w, lift Try.prog 28 (sub (bodyOf Try.f10) [1, 1, 0, 1, 0]) (blockK 0 (seqK (fun e w => ref22_Of_s0 R (e 4) (e 5) w) (finK Try.prog Try.f10.results.toList R))) e w = ref22_Of_L3 R (e 0) (e 1) (e 4) (e 5) (e 6) w := loop_seg (F := ref22_Of_L3F R) (sel := fun e => [e 0, e 1, e 4, e 5, e 6]) fun N1 => (ref22_Of_s2_eq R N1)
def ref22_Of_s4 (R : Value → World → Prop) (x0 x1 x4 x5 : Value) (w : World) : Prop :=
  ref22_Of_L3 R x0 x1 x4 x5 (.int .i64 0) w
theorem ref22_Of_s4_eq (R : Value → World → Prop) : ∀ e w, lift Try.prog 28 (sub (bodyOf Try.f10) [1, 1, 0]) (seqK (fun e w => ref22_Of_s0 R (e 4) (e 5) w) (finK Try.prog Try.f10.results.toList R)) e w = ref22_Of_s4 R (e 0) (e 1) (e 4) (e 5) w :=
  segs_eq (l := [(sub (bodyOf Try.f10) [1, 1, 0, 0])]) (y := (sub (bodyOf Try.f10) [1, 1, 0, 1])) (Y := (fun e w => ref22_Of_L3 R (e 0) (e 1) (e 4) (e 5) (e 6) w)) (ref22_Of_L3_eq R) (fun e w => by kernel_rfl)
def ref22_Of_s5 (R : Value → World → Prop) (x0 x1 : Value) (w : World) : Prop :=
  newG (zc Try.prog 27) 27 w fun t4 w =>
  lenL x1 fun t8 =>
  bld [(0, 1), (1, 1)] (zc Try.prog 27) #[(0, t8)] fun t9 =>
  newG (zc Try.prog 27) 27 w fun t5 w =>
  stn 2 t5 t9 w fun w =>
  ref22_Of_s4 R x0 x1 t4 t5 w
theorem ref22_Of_s5_eq (R : Value → World → Prop) : ∀ e w, lift Try.prog 28 (bodyOf Try.f10) (finK Try.prog Try.f10.results.toList R) e w = ref22_Of_s5 R (e 0) (e 1) w :=
  segs_eq (l := [(sub (bodyOf Try.f10) [0]), (sub (bodyOf Try.f10) [1, 0])]) (y := (sub (bodyOf Try.f10) [1, 1])) (Y := (fun e w => ref22_Of_s4 R (e 0) (e 1) (e 4) (e 5) w)) (seq_seg (x := (sub (bodyOf Try.f10) [1, 1, 0])) (y := (sub (bodyOf Try.f10) [1, 1, 1])) (ref22_Of_s0_eq R) (ref22_Of_s4_eq R)) (fun e w => by kernel_rfl)
def ref22_Of (R : Value → World → Prop) (x0 x1 : Value) (w : World) : Prop := ref22_Of_s5 R x0 x1 w
theorem ref22_Of_call {R : Value → World → Prop} {x0 x1 : Value} {w : World} (h : ref22_Of R x0 x1 w) : callG Try.prog 10 #[x0, x1] w R :=
  calls_lift_eq Try.mixed Try.func10 (args := [x0, x1]) rfl rfl rfl rfl ((ref22_Of_s5_eq R) (envOf [x0, x1]) w) (by kernel_rfl) h
/-! quayside/quaysideref22.at -/
def ref22_at_s0 (R : Value → World → Prop) (x1 x2 x4 : Value) (w : World) : Prop :=
  fa 1 x2 fun t16 =>
  ld1 t16 (World.drew w) fun t17 =>
  ia 3 t17 x1 fun t19 =>
  ldn 3 t19 (World.drew w) fun t20 =>
  fa 1 x2 fun t21 =>
  ld1 t21 (World.drew w) fun t22 =>
  ia 3 t22 x1 fun t24 =>
  fa 2 t24 fun t25 =>
  ld1 t25 (World.drew w) fun t26 =>
  lenL t26 fun t27 =>
  qG Try.prog (bq .gtr 3 (.tmp 27) (.const (.int .i64 0)) t27 (.int .i64 0)) (World.drew w) fun t28 =>
  stn 3 x4 t20 (World.drew w) fun w =>
  stb Try.prog (bq .gtr 3 (.tmp 27) (.const (.int .i64 0)) t27 (.int .i64 0)) t28 w ∧
  ld1 t25 w (fun u => u = t26) ∧
  ld1 t21 w (fun u => u = t22) ∧
  qG Try.prog (do loadVar 32 (← asAddr x4)) w fun r4 =>
  R (.tuple #[r4, t28]) w
theorem ref22_at_s0_eq (R : Value → World → Prop) : ∀ e w, lift Try.prog 29 (sub (bodyOf Try.f29) [1, 1]) (finK Try.prog Try.f29.results.toList R) e w = ref22_at_s0 R (e 1) (e 2) (e 4) w := fun e w => by kernel_rfl
def ref22_at_s1 (R : Value → World → Prop) (x0 x1 : Value) (w : World) : Prop :=
  newG (Value.cells x0) 27 w fun t2 w =>
  newG (zc Try.prog 32) 32 w fun t4 w =>
  qG Try.prog (bq .lss 3 (.tmp 6) (.const (.int .i64 0)) x1 (.int .i64 0)) w fun t7 =>
  bV t7
  (bld [(0, 1), (1, 1), (2, 1)] (zc Try.prog 32) #[] fun t15 =>
  stn 3 t4 t15 w fun w =>
  qG Try.prog (do loadVar 32 (← asAddr t4)) w fun r4 =>
  R (.tuple #[r4, (.bool false)]) w)
  (fa 1 t2 fun t10 =>
  ld1 t10 w fun t11 =>
  lenL t11 fun t12 =>
  qG Try.prog (bq .geq 3 (.tmp 9) (.tmp 12) x1 t12) w fun t13 =>
  bV t13
  (bld [(0, 1), (1, 1), (2, 1)] (zc Try.prog 32) #[] fun t15_1 =>
  stn 3 t4 t15_1 w fun w =>
  qG Try.prog (do loadVar 32 (← asAddr t4)) w fun r4_1 =>
  R (.tuple #[r4_1, (.bool false)]) w)
  (ref22_at_s0 R x1 t2 t4 w))
theorem ref22_at_s1_eq (R : Value → World → Prop) : ∀ e w, lift Try.prog 29 (bodyOf Try.f29) (finK Try.prog Try.f29.results.toList R) e w = ref22_at_s1 R (e 0) (e 1) w :=
  segs_eq (l := [(sub (bodyOf Try.f29) [0]), (sub (bodyOf Try.f29) [1, 0])]) (y := (sub (bodyOf Try.f29) [1, 1])) (Y := (fun e w => ref22_at_s0 R (e 1) (e 2) (e 4) w)) (ref22_at_s0_eq R) (fun e w => by kernel_rfl)
def ref22_at (R : Value → World → Prop) (x0 x1 : Value) (w : World) : Prop := ref22_at_s1 R x0 x1 w
theorem ref22_at_call {R : Value → World → Prop} {x0 x1 : Value} {w : World} (h : ref22_at R x0 x1 w) : callG Try.prog 29 #[x0, x1] w R :=
  calls_lift_eq Try.mixed Try.func29 (args := [x0, x1]) rfl rfl rfl rfl ((ref22_at_s1_eq R) (envOf [x0, x1]) w) (by kernel_rfl) h
/-! quayside/quaysideref22.Same -/
def ref22_Same_s0 (R : Value → World → Prop) (x3 x7 : Value) (w : World) : Prop :=
  fa 0 x3 fun t44 =>
  ld1 t44 w fun t45 =>
  fa 0 x7 fun t46 =>
  ld1 t46 w fun t47 =>
  qG Try.prog (bq .sub 3 (.tmp 45) (.tmp 47) t45 t47) w fun t48 =>
  fa 1 x7 fun t49 =>
  ld1 t49 w fun t50 =>
  qG Try.prog (Builtin.max_ #[3, 3] 3 #[(.int .i64 1), t50]) w fun t51 =>
  qG Try.prog (bq .quo 3 (.tmp 48) (.tmp 51) t48 t51) w fun t52 =>
  qG Try.prog (Builtin.max_ #[3, 3] 3 #[(.int .i64 1), t52]) w fun t53 =>
  R t53 w
theorem ref22_Same_s0_eq (R : Value → World → Prop) : ∀ e w, lift Try.prog 54 (sub (bodyOf Try.f14) [1, 1, 1]) (finK Try.prog Try.f14.results.toList R) e w = ref22_Same_s0 R (e 3) (e 7) w := fun e w => by kernel_rfl
def ref22_Same_s1 (R : Value → World → Prop) (x0 x1 x2 : Value) (w : World) : Prop :=
  newG (Value.cells x0) 27 w fun t3 w =>
  newG (Value.cells x2) 35 w fun t5 w =>
  ldn 2 t3 w fun t10 =>
  callG Try.prog 29 #[t10, x1] w fun t12 w =>
  qG Try.prog (Instr.extract t12 0) w fun t13 =>
  qG Try.prog (Instr.extract t12 1) w fun t14 =>
  newG (zc Try.prog 32) 32 w fun t7 w =>
  stn 3 t7 t13 w fun w =>
  qG Try.prog (Op.unary .not t14) (World.drew w) fun t16 =>
  bV t16
  (R (.int .i64 0) (World.drew w))
  (fa 0 t5 fun t18 =>
  ld1 t18 (World.drew w) fun t19 =>
  qG Try.prog (bq .eql 3 (.tmp 19) (.const (.int .i64 0)) t19 (.int .i64 0)) (World.drew w) fun t20 =>
  bV t20
  (R (.int .i64 0) (World.drew w))
  (ldn 3 t5 (World.drew w) fun t23 =>
  fa 2 t7 fun t24 =>
  ld1 t24 (World.drew w) fun t25 =>
  ia 3 t25 (.int .i64 0) fun t26 =>
  ldn 3 t26 (World.drew w) fun t27 =>
  callG Try.prog 16 #[t23, t27] (World.drew w) fun t28 w =>
  qG Try.prog (bq .lss 3 (.tmp 28) (.const (.int .i64 0)) t28 (.int .i64 0)) w fun t29 =>
  bV t29
  (R (.int .i64 0) w)
  (ldn 3 t5 w fun t32 =>
  fa 2 t7 fun t33 =>
  ld1 t33 w fun t34 =>
  fa 2 t7 fun t35 =>
  ld1 t35 w fun t36 =>
  lenL t36 fun t37 =>
  qG Try.prog (bq .sub 3 (.tmp 37) (.const (.int .i64 1)) t37 (.int .i64 1)) w fun t38 =>
  ia 3 t34 t38 fun t39 =>
  ldn 3 t39 w fun t40 =>
  callG Try.prog 16 #[t32, t40] w fun t41 w =>
  qG Try.prog (bq .gtr 3 (.tmp 41) (.const (.int .i64 0)) t41 (.int .i64 0)) w fun t42 =>
  bV t42
  (R (.int .i64 0) w)
  (ref22_Same_s0 R t3 t7 w))))
theorem ref22_Same_s1_eq (R : Value → World → Prop) : ∀ e w, lift Try.prog 54 (bodyOf Try.f14) (finK Try.prog Try.f14.results.toList R) e w = ref22_Same_s1 R (e 0) (e 1) (e 2) w :=
  segs_eq (l := [(sub (bodyOf Try.f14) [0]), (sub (bodyOf Try.f14) [1, 0]), (sub (bodyOf Try.f14) [1, 1, 0])]) (y := (sub (bodyOf Try.f14) [1, 1, 1])) (Y := (fun e w => ref22_Same_s0 R (e 3) (e 7) w)) (ref22_Same_s0_eq R) (fun e w => by kernel_rfl)
def ref22_Same (R : Value → World → Prop) (x0 x1 x2 : Value) (w : World) : Prop := ref22_Same_s1 R x0 x1 x2 w
theorem ref22_Same_call {R : Value → World → Prop} {x0 x1 x2 : Value} {w : World} (h : ref22_Same R x0 x1 x2 w) : callG Try.prog 14 #[x0, x1, x2] w R :=
  calls_lift_eq Try.mixed Try.func14 (args := [x0, x1, x2]) rfl rfl rfl rfl ((ref22_Same_s1_eq R) (envOf [x0, x1, x2]) w) (by kernel_rfl) h
/-! quayside/quaysideref22.share -/
def ref22_share_s0 (R : Value → World → Prop) (x0 x1 x2 : Value) (w : World) : Prop :=
  qG Try.prog (bq .quo 3 (.tmp 9) (.tmp 10) x0 x2) (World.drew w) fun t11 =>
  qG Try.prog (bq .rem 3 (.tmp 12) (.tmp 13) x0 x2) (World.drew w) fun t14 =>
  qG Try.prog (bq .mul 3 (.tmp 15) (.tmp 16) t11 x1) (World.drew w) fun t17 =>
  qG Try.prog (bq .mul 3 (.tmp 18) (.tmp 19) t14 x1) (World.drew w) fun t20 =>
  qG Try.prog (bq .quo 3 (.tmp 20) (.tmp 21) t20 x2) (World.drew w) fun t22 =>
  qG Try.prog (bq .add 3 (.tmp 17) (.tmp 22) t17 t22) (World.drew w) fun t23 =>
  R t23 (World.drew w)
theorem ref22_share_s0_eq (R : Value → World → Prop) : ∀ e w, lift Try.prog 24 (bodyOf Try.f31) (finK Try.prog Try.f31.results.toList R) e w = ref22_share_s0 R (e 0) (e 1) (e 2) w := fun e w => by kernel_rfl
def ref22_share (R : Value → World → Prop) (x0 x1 x2 : Value) (w : World) : Prop := ref22_share_s0 R x0 x1 x2 w
theorem ref22_share_call {R : Value → World → Prop} {x0 x1 x2 : Value} {w : World} (h : ref22_share R x0 x1 x2 w) : callG Try.prog 31 #[x0, x1, x2] w R :=
  calls_lift_eq Try.mixed Try.func31 (args := [x0, x1, x2]) rfl rfl rfl rfl ((ref22_share_s0_eq R) (envOf [x0, x1, x2]) w) (by kernel_rfl) h
/-! quayside/quaysideref21.end -/
def ref21_end_s0 (R : Value → World → Prop) (x0 x1 x2 : Value) (w : World) : Prop :=
  newG (Value.cells x0) 37 w fun t3 w =>
  newG (Value.cells x1) 37 w fun t4 w =>
  newG (zc Try.prog 37) 37 w fun t6 w =>
  fa 0 t3 fun t8 =>
  ld1 t8 w fun t9 =>
  qG Try.prog (Op.unary .not t9) w fun t10 =>
  bV t10
  (ldn 5 t4 w fun t11 =>
  stn 5 t6 t11 w fun w =>
  qG Try.prog (do loadVar 37 (← asAddr t6)) w fun r6 =>
  R r6 w)
  (fa 0 t4 fun t12 =>
  ld1 t12 w fun t13 =>
  qG Try.prog (Op.unary .not t13) w fun t14 =>
  bV t14
  (ldn 5 t3 w fun t15 =>
  stn 5 t6 t15 w fun w =>
  qG Try.prog (do loadVar 37 (← asAddr t6)) w fun r6_1 =>
  R r6_1 w)
  (fa 2 t3 fun t16 =>
  ldn 3 t16 w fun t17 =>
  fa 2 t4 fun t18 =>
  ldn 3 t18 w fun t19 =>
  callG Try.prog 16 #[t17, t19] w fun t20 w =>
  qG Try.prog (bq .eql 3 (.tmp 21) (.const (.int .i64 0)) t20 (.int .i64 0)) w fun t22 =>
  bV t22
  (fa 1 t3 fun t23 =>
  ld1 t23 w fun t24 =>
  bV t24
  (fa 1 t3 fun t29 =>
  st1 t29 (.bool true) w fun w =>
  ldn 5 t3 w fun t30 =>
  stn 5 t6 t30 w fun w =>
  qG Try.prog (do loadVar 37 (← asAddr t6)) w fun r6_2 =>
  R r6_2 w)
  (fa 1 t4 fun t26 =>
  ld1 t26 w fun t27 =>
  fa 1 t3 fun t29_1 =>
  st1 t29_1 t27 w fun w =>
  ldn 5 t3 w fun t30_1 =>
  stn 5 t6 t30_1 w fun w =>
  qG Try.prog (do loadVar 37 (← asAddr t6)) w fun r6_3 =>
  R r6_3 w))
  (qG Try.prog (bq .gtr 3 (.tmp 31) (.const (.int .i64 0)) t20 (.int .i64 0)) w fun t32 =>
  qG Try.prog (bq .eql 4 (.tmp 32) (.tmp 33) t32 x2) w fun t34 =>
  bV t34
  (ldn 5 t3 w fun t35 =>
  stn 5 t6 t35 w fun w =>
  qG Try.prog (do loadVar 37 (← asAddr t6)) w fun r6_4 =>
  R r6_4 w)
  (ldn 5 t4 w fun t36 =>
  stn 5 t6 t36 w fun w =>
  qG Try.prog (do loadVar 37 (← asAddr t6)) w fun r6_5 =>
  R r6_5 w))))
theorem ref21_end_s0_eq (R : Value → World → Prop) : ∀ e w, lift Try.prog 37 (bodyOf Try.f42) (finK Try.prog Try.f42.results.toList R) e w = ref21_end_s0 R (e 0) (e 1) (e 2) w := fun e w => by kernel_rfl
def ref21_end (R : Value → World → Prop) (x0 x1 x2 : Value) (w : World) : Prop := ref21_end_s0 R x0 x1 x2 w
theorem ref21_end_call {R : Value → World → Prop} {x0 x1 x2 : Value} {w : World} (h : ref21_end R x0 x1 x2 w) : callG Try.prog 42 #[x0, x1, x2] w R :=
  calls_lift_eq Try.mixed Try.func42 (args := [x0, x1, x2]) rfl rfl rfl rfl ((ref21_end_s0_eq R) (envOf [x0, x1, x2]) w) (by kernel_rfl) h
/-! quayside/quaysideref21.Narrow -/
def ref21_Narrow_s0 (R : Value → World → Prop) (x8 x9 x11 x12 : Value) (w : World) : Prop :=
  fa 2 x11 fun t30 =>
  ldn 3 t30 w fun t31 =>
  fa 2 x12 fun t32 =>
  ldn 3 t32 w fun t33 =>
  callG Try.prog 16 #[t31, t33] w fun t34 w =>
  ldn 5 x11 (World.drew w) fun t35 =>
  ldn 5 x12 (World.drew w) fun t36 =>
  qG Try.prog (bq .lss 3 (.tmp 37) (.const (.int .i64 0)) t34 (.int .i64 0)) (World.drew w) fun t38 =>
  bV t38
  (stn 5 x8 t35 (World.drew w) fun w =>
  ldn 5 x12 w (fun u => u = t36) ∧
  stn 5 x9 t36 w fun w =>
  qG Try.prog (do loadVar 37 (← asAddr x8)) w fun r8 =>
  qG Try.prog (do loadVar 37 (← asAddr x9)) w fun r9 =>
  R (.tuple #[r8, r9, (.bool true)]) w)
  (qG Try.prog (bq .eql 3 (.tmp 40) (.const (.int .i64 0)) t34 (.int .i64 0)) (World.drew w) fun t41 =>
  bV t41
  (fa 1 x11 fun t43 =>
  ld1 t43 (World.drew w) fun t44 =>
  qG Try.prog (Op.unary .not t44) (World.drew w) fun t45 =>
  bV t45
  (fa 1 x12 fun t48 =>
  ld1 t48 (World.drew w) fun t49 =>
  qG Try.prog (Op.unary .not t49) (World.drew w) fun t50 =>
  stn 5 x8 t35 (World.drew w) fun w =>
  stb Try.prog (Op.unary .not t49) t50 w ∧
  ld1 t48 w (fun u => u = t49) ∧
  ldn 5 x12 w (fun u => u = t36) ∧
  stn 5 x9 t36 w fun w =>
  stb Try.prog (Op.unary .not t49) t50 w ∧
  ld1 t48 w (fun u => u = t49) ∧
  qG Try.prog (do loadVar 37 (← asAddr x8)) w fun r8_1 =>
  qG Try.prog (do loadVar 37 (← asAddr x9)) w fun r9_1 =>
  R (.tuple #[r8_1, r9_1, t50]) w)
  (stn 5 x8 t35 (World.drew w) fun w =>
  ldn 5 x12 w (fun u => u = t36) ∧
  stn 5 x9 t36 w fun w =>
  qG Try.prog (do loadVar 37 (← asAddr x8)) w fun r8_2 =>
  qG Try.prog (do loadVar 37 (← asAddr x9)) w fun r9_2 =>
  R (.tuple #[r8_2, r9_2, (.bool false)]) w))
  (stn 5 x8 t35 (World.drew w) fun w =>
  ldn 5 x12 w (fun u => u = t36) ∧
  stn 5 x9 t36 w fun w =>
  qG Try.prog (do loadVar 37 (← asAddr x8)) w fun r8_3 =>
  qG Try.prog (do loadVar 37 (← asAddr x9)) w fun r9_3 =>
  R (.tuple #[r8_3, r9_3, (.bool false)]) w))
theorem ref21_Narrow_s0_eq (R : Value → World → Prop) : ∀ e w, lift Try.prog 53 (sub (bodyOf Try.f30) [1, 1, 1]) (finK Try.prog Try.f30.results.toList R) e w = ref21_Narrow_s0 R (e 8) (e 9) (e 11) (e 12) w := fun e w => by kernel_rfl
def ref21_Narrow_s1 (R : Value → World → Prop) (x0 x1 x2 x3 : Value) (w : World) : Prop :=
  newG (Value.cells x0) 37 w fun t4 w =>
  newG (Value.cells x1) 37 w fun t5 w =>
  newG (Value.cells x2) 37 w fun t6 w =>
  newG (Value.cells x3) 37 w fun t7 w =>
  newG (zc Try.prog 37) 37 w fun t8 w =>
  newG (zc Try.prog 37) 37 w fun t9 w =>
  ldn 5 t4 (World.drew w) fun t14 =>
  ldn 5 t6 (World.drew w) fun t15 =>
  ldn 5 t5 (World.drew w) fun t17 =>
  ldn 5 t7 (World.drew w) fun t18 =>
  (callG Try.prog 42 #[t14, t15, (.bool true)] (World.drew w) fun t16 w =>
  ldn 5 t7 w (fun u => u = t18) ∧
  ldn 5 t5 w (fun u => u = t17) ∧
  (callG Try.prog 42 #[t17, t18, (.bool false)] w fun t19 w =>
  (newG (zc Try.prog 37) 37 w fun t11 w =>
  ldn 5 t7 w (fun u => u = t18) ∧
  ldn 5 t5 w (fun u => u = t17) ∧
  ldn 5 t6 w (fun u => u = t15) ∧
  ldn 5 t4 w (fun u => u = t14) ∧
  newG (zc Try.prog 37) 37 w fun t12 w =>
  ldn 5 t7 w (fun u => u = t18) ∧
  ldn 5 t5 w (fun u => u = t17) ∧
  ldn 5 t6 w (fun u => u = t15) ∧
  ldn 5 t4 w (fun u => u = t14) ∧
  stn 5 t11 t16 w fun w =>
  stn 5 t12 t19 w fun w =>
  fa 0 t11 fun t20 =>
  ld1 t20 w fun t21 =>
  qG Try.prog (Op.unary .not t21) w fun t22 =>
  bV t22
  (ldn 5 t11 (World.drew w) fun t28 =>
  ldn 5 t12 (World.drew w) fun t29 =>
  stn 5 t8 t28 (World.drew w) fun w =>
  ldn 5 t12 w (fun u => u = t29) ∧
  stn 5 t9 t29 w fun w =>
  qG Try.prog (do loadVar 37 (← asAddr t8)) w fun r8 =>
  qG Try.prog (do loadVar 37 (← asAddr t9)) w fun r9 =>
  R (.tuple #[r8, r9, (.bool true)]) w)
  (fa 0 t12 fun t24 =>
  ld1 t24 w fun t25 =>
  qG Try.prog (Op.unary .not t25) w fun t26 =>
  bV t26
  (ldn 5 t11 (World.drew w) fun t28_1 =>
  ldn 5 t12 (World.drew w) fun t29_1 =>
  stn 5 t8 t28_1 (World.drew w) fun w =>
  ldn 5 t12 w (fun u => u = t29_1) ∧
  stn 5 t9 t29_1 w fun w =>
  qG Try.prog (do loadVar 37 (← asAddr t8)) w fun r8_1 =>
  qG Try.prog (do loadVar 37 (← asAddr t9)) w fun r9_1 =>
  R (.tuple #[r8_1, r9_1, (.bool true)]) w)
  (ref21_Narrow_s0 R t8 t9 t11 t12 w))) ∧
  (newG (zc Try.prog 37) 37 w fun t12_1 w =>
  ldn 5 t7 w (fun u => u = t18) ∧
  ldn 5 t5 w (fun u => u = t17) ∧
  ldn 5 t6 w (fun u => u = t15) ∧
  ldn 5 t4 w (fun u => u = t14) ∧
  newG (zc Try.prog 37) 37 w fun t11_1 w =>
  ldn 5 t7 w (fun u => u = t18) ∧
  ldn 5 t5 w (fun u => u = t17) ∧
  ldn 5 t6 w (fun u => u = t15) ∧
  ldn 5 t4 w (fun u => u = t14) ∧
  stn 5 t11_1 t16 w fun w =>
  stn 5 t12_1 t19 w fun w =>
  fa 0 t11_1 fun t20_1 =>
  ld1 t20_1 w fun t21_1 =>
  qG Try.prog (Op.unary .not t21_1) w fun t22_1 =>
  bV t22_1
  (ldn 5 t11_1 (World.drew w) fun t28_2 =>
  ldn 5 t12_1 (World.drew w) fun t29_2 =>
  stn 5 t8 t28_2 (World.drew w) fun w =>
  ldn 5 t12_1 w (fun u => u = t29_2) ∧
  stn 5 t9 t29_2 w fun w =>
  qG Try.prog (do loadVar 37 (← asAddr t8)) w fun r8_2 =>
  qG Try.prog (do loadVar 37 (← asAddr t9)) w fun r9_2 =>
  R (.tuple #[r8_2, r9_2, (.bool true)]) w)
  (fa 0 t12_1 fun t24_1 =>
  ld1 t24_1 w fun t25_1 =>
  qG Try.prog (Op.unary .not t25_1) w fun t26_1 =>
  bV t26_1
  (ldn 5 t11_1 (World.drew w) fun t28_3 =>
  ldn 5 t12_1 (World.drew w) fun t29_3 =>
  stn 5 t8 t28_3 (World.drew w) fun w =>
  ldn 5 t12_1 w (fun u => u = t29_3) ∧
  stn 5 t9 t29_3 w fun w =>
  qG Try.prog (do loadVar 37 (← asAddr t8)) w fun r8_3 =>
  qG Try.prog (do loadVar 37 (← asAddr t9)) w fun r9_3 =>
  R (.tuple #[r8_3, r9_3, (.bool true)]) w)
  (ref21_Narrow_s0 R t8 t9 t11_1 t12_1 w)))) ∧
  (newG (zc Try.prog 37) 37 w fun t11_2 w =>
  ldn 5 t7 w (fun u => u = t18) ∧
  ldn 5 t5 w (fun u => u = t17) ∧
  ldn 5 t6 w (fun u => u = t15) ∧
  ldn 5 t4 w (fun u => u = t14) ∧
  (callG Try.prog 42 #[t17, t18, (.bool false)] w fun t19_1 w =>
  newG (zc Try.prog 37) 37 w fun t12_2 w =>
  ldn 5 t7 w (fun u => u = t18) ∧
  ldn 5 t5 w (fun u => u = t17) ∧
  ldn 5 t6 w (fun u => u = t15) ∧
  ldn 5 t4 w (fun u => u = t14) ∧
  stn 5 t11_2 t16 w fun w =>
  stn 5 t12_2 t19_1 w fun w =>
  fa 0 t11_2 fun t20_2 =>
  ld1 t20_2 w fun t21_2 =>
  qG Try.prog (Op.unary .not t21_2) w fun t22_2 =>
  bV t22_2
  (ldn 5 t11_2 (World.drew w) fun t28_4 =>
  ldn 5 t12_2 (World.drew w) fun t29_4 =>
  stn 5 t8 t28_4 (World.drew w) fun w =>
  ldn 5 t12_2 w (fun u => u = t29_4) ∧
  stn 5 t9 t29_4 w fun w =>
  qG Try.prog (do loadVar 37 (← asAddr t8)) w fun r8_4 =>
  qG Try.prog (do loadVar 37 (← asAddr t9)) w fun r9_4 =>
  R (.tuple #[r8_4, r9_4, (.bool true)]) w)
  (fa 0 t12_2 fun t24_2 =>
  ld1 t24_2 w fun t25_2 =>
  qG Try.prog (Op.unary .not t25_2) w fun t26_2 =>
  bV t26_2
  (ldn 5 t11_2 (World.drew w) fun t28_5 =>
  ldn 5 t12_2 (World.drew w) fun t29_5 =>
  stn 5 t8 t28_5 (World.drew w) fun w =>
  ldn 5 t12_2 w (fun u => u = t29_5) ∧
  stn 5 t9 t29_5 w fun w =>
  qG Try.prog (do loadVar 37 (← asAddr t8)) w fun r8_5 =>
  qG Try.prog (do loadVar 37 (← asAddr t9)) w fun r9_5 =>
  R (.tuple #[r8_5, r9_5, (.bool true)]) w)
  (ref21_Narrow_s0 R t8 t9 t11_2 t12_2 w))) ∧
  (newG (zc Try.prog 37) 37 w fun t12_3 w =>
  ldn 5 t7 w (fun u => u = t18) ∧
  ldn 5 t5 w (fun u => u = t17) ∧
  ldn 5 t6 w (fun u => u = t15) ∧
  ldn 5 t4 w (fun u => u = t14) ∧
  callG Try.prog 42 #[t17, t18, (.bool false)] w fun t19_2 w =>
  stn 5 t11_2 t16 w fun w =>
  stn 5 t12_3 t19_2 w fun w =>
  fa 0 t11_2 fun t20_3 =>
  ld1 t20_3 w fun t21_3 =>
  qG Try.prog (Op.unary .not t21_3) w fun t22_3 =>
  bV t22_3
  (ldn 5 t11_2 (World.drew w) fun t28_6 =>
  ldn 5 t12_3 (World.drew w) fun t29_6 =>
  stn 5 t8 t28_6 (World.drew w) fun w =>
  ldn 5 t12_3 w (fun u => u = t29_6) ∧
  stn 5 t9 t29_6 w fun w =>
  qG Try.prog (do loadVar 37 (← asAddr t8)) w fun r8_6 =>
  qG Try.prog (do loadVar 37 (← asAddr t9)) w fun r9_6 =>
  R (.tuple #[r8_6, r9_6, (.bool true)]) w)
  (fa 0 t12_3 fun t24_3 =>
  ld1 t24_3 w fun t25_3 =>
  qG Try.prog (Op.unary .not t25_3) w fun t26_3 =>
  bV t26_3
  (ldn 5 t11_2 (World.drew w) fun t28_7 =>
  ldn 5 t12_3 (World.drew w) fun t29_7 =>
  stn 5 t8 t28_7 (World.drew w) fun w =>
  ldn 5 t12_3 w (fun u => u = t29_7) ∧
  stn 5 t9 t29_7 w fun w =>
  qG Try.prog (do loadVar 37 (← asAddr t8)) w fun r8_7 =>
  qG Try.prog (do loadVar 37 (← asAddr t9)) w fun r9_7 =>
  R (.tuple #[r8_7, r9_7, (.bool true)]) w)
  (ref21_Narrow_s0 R t8 t9 t11_2 t12_3 w)))) ∧
  (newG (zc Try.prog 37) 37 w fun t12_4 w =>
  ldn 5 t7 w (fun u => u = t18) ∧
  ldn 5 t5 w (fun u => u = t17) ∧
  ldn 5 t6 w (fun u => u = t15) ∧
  ldn 5 t4 w (fun u => u = t14) ∧
  (callG Try.prog 42 #[t17, t18, (.bool false)] w fun t19_3 w =>
  newG (zc Try.prog 37) 37 w fun t11_3 w =>
  ldn 5 t7 w (fun u => u = t18) ∧
  ldn 5 t5 w (fun u => u = t17) ∧
  ldn 5 t6 w (fun u => u = t15) ∧
  ldn 5 t4 w (fun u => u = t14) ∧
  stn 5 t11_3 t16 w fun w =>
  stn 5 t12_4 t19_3 w fun w =>
  fa 0 t11_3 fun t20_4 =>
  ld1 t20_4 w fun t21_4 =>
  qG Try.prog (Op.unary .not t21_4) w fun t22_4 =>
  bV t22_4
  (ldn 5 t11_3 (World.drew w) fun t28_8 =>
  ldn 5 t12_4 (World.drew w) fun t29_8 =>
  stn 5 t8 t28_8 (World.drew w) fun w =>
  ldn 5 t12_4 w (fun u => u = t29_8) ∧
  stn 5 t9 t29_8 w fun w =>
  qG Try.prog (do loadVar 37 (← asAddr t8)) w fun r8_8 =>
  qG Try.prog (do loadVar 37 (← asAddr t9)) w fun r9_8 =>
  R (.tuple #[r8_8, r9_8, (.bool true)]) w)
  (fa 0 t12_4 fun t24_4 =>
  ld1 t24_4 w fun t25_4 =>
  qG Try.prog (Op.unary .not t25_4) w fun t26_4 =>
  bV t26_4
  (ldn 5 t11_3 (World.drew w) fun t28_9 =>
  ldn 5 t12_4 (World.drew w) fun t29_9 =>
  stn 5 t8 t28_9 (World.drew w) fun w =>
  ldn 5 t12_4 w (fun u => u = t29_9) ∧
  stn 5 t9 t29_9 w fun w =>
  qG Try.prog (do loadVar 37 (← asAddr t8)) w fun r8_9 =>
  qG Try.prog (do loadVar 37 (← asAddr t9)) w fun r9_9 =>
  R (.tuple #[r8_9, r9_9, (.bool true)]) w)
  (ref21_Narrow_s0 R t8 t9 t11_3 t12_4 w))) ∧
  (newG (zc Try.prog 37) 37 w fun t11_4 w =>
  ldn 5 t7 w (fun u => u = t18) ∧
  ldn 5 t5 w (fun u => u = t17) ∧
  ldn 5 t6 w (fun u => u = t15) ∧
  ldn 5 t4 w (fun u => u = t14) ∧
  callG Try.prog 42 #[t17, t18, (.bool false)] w fun t19_4 w =>
  stn 5 t11_4 t16 w fun w =>
  stn 5 t12_4 t19_4 w fun w =>
  fa 0 t11_4 fun t20_5 =>
  ld1 t20_5 w fun t21_5 =>
  qG Try.prog (Op.unary .not t21_5) w fun t22_5 =>
  bV t22_5
  (ldn 5 t11_4 (World.drew w) fun t28_10 =>
  ldn 5 t12_4 (World.drew w) fun t29_10 =>
  stn 5 t8 t28_10 (World.drew w) fun w =>
  ldn 5 t12_4 w (fun u => u = t29_10) ∧
  stn 5 t9 t29_10 w fun w =>
  qG Try.prog (do loadVar 37 (← asAddr t8)) w fun r8_10 =>
  qG Try.prog (do loadVar 37 (← asAddr t9)) w fun r9_10 =>
  R (.tuple #[r8_10, r9_10, (.bool true)]) w)
  (fa 0 t12_4 fun t24_5 =>
  ld1 t24_5 w fun t25_5 =>
  qG Try.prog (Op.unary .not t25_5) w fun t26_5 =>
  bV t26_5
  (ldn 5 t11_4 (World.drew w) fun t28_11 =>
  ldn 5 t12_4 (World.drew w) fun t29_11 =>
  stn 5 t8 t28_11 (World.drew w) fun w =>
  ldn 5 t12_4 w (fun u => u = t29_11) ∧
  stn 5 t9 t29_11 w fun w =>
  qG Try.prog (do loadVar 37 (← asAddr t8)) w fun r8_11 =>
  qG Try.prog (do loadVar 37 (← asAddr t9)) w fun r9_11 =>
  R (.tuple #[r8_11, r9_11, (.bool true)]) w)
  (ref21_Narrow_s0 R t8 t9 t11_4 t12_4 w))))) ∧
  (newG (zc Try.prog 37) 37 (World.drew w) fun t11_5 w =>
  ldn 5 t7 w (fun u => u = t18) ∧
  ldn 5 t5 w (fun u => u = t17) ∧
  ldn 5 t6 w (fun u => u = t15) ∧
  ldn 5 t4 w (fun u => u = t14) ∧
  (callG Try.prog 42 #[t14, t15, (.bool true)] w fun t16_1 w =>
  ldn 5 t7 w (fun u => u = t18) ∧
  ldn 5 t5 w (fun u => u = t17) ∧
  (callG Try.prog 42 #[t17, t18, (.bool false)] w fun t19_5 w =>
  newG (zc Try.prog 37) 37 w fun t12_5 w =>
  ldn 5 t7 w (fun u => u = t18) ∧
  ldn 5 t5 w (fun u => u = t17) ∧
  ldn 5 t6 w (fun u => u = t15) ∧
  ldn 5 t4 w (fun u => u = t14) ∧
  stn 5 t11_5 t16_1 w fun w =>
  stn 5 t12_5 t19_5 w fun w =>
  fa 0 t11_5 fun t20_6 =>
  ld1 t20_6 w fun t21_6 =>
  qG Try.prog (Op.unary .not t21_6) w fun t22_6 =>
  bV t22_6
  (ldn 5 t11_5 (World.drew w) fun t28_12 =>
  ldn 5 t12_5 (World.drew w) fun t29_12 =>
  stn 5 t8 t28_12 (World.drew w) fun w =>
  ldn 5 t12_5 w (fun u => u = t29_12) ∧
  stn 5 t9 t29_12 w fun w =>
  qG Try.prog (do loadVar 37 (← asAddr t8)) w fun r8_12 =>
  qG Try.prog (do loadVar 37 (← asAddr t9)) w fun r9_12 =>
  R (.tuple #[r8_12, r9_12, (.bool true)]) w)
  (fa 0 t12_5 fun t24_6 =>
  ld1 t24_6 w fun t25_6 =>
  qG Try.prog (Op.unary .not t25_6) w fun t26_6 =>
  bV t26_6
  (ldn 5 t11_5 (World.drew w) fun t28_13 =>
  ldn 5 t12_5 (World.drew w) fun t29_13 =>
  stn 5 t8 t28_13 (World.drew w) fun w =>
  ldn 5 t12_5 w (fun u => u = t29_13) ∧
  stn 5 t9 t29_13 w fun w =>
  qG Try.prog (do loadVar 37 (← asAddr t8)) w fun r8_13 =>
  qG Try.prog (do loadVar 37 (← asAddr t9)) w fun r9_13 =>
  R (.tuple #[r8_13, r9_13, (.bool true)]) w)
  (ref21_Narrow_s0 R t8 t9 t11_5 t12_5 w))) ∧
  (newG (zc Try.prog 37) 37 w fun t12_6 w =>
  ldn 5 t7 w (fun u => u = t18) ∧
  ldn 5 t5 w (fun u => u = t17) ∧
  ldn 5 t6 w (fun u => u = t15) ∧
  ldn 5 t4 w (fun u => u = t14) ∧
  callG Try.prog 42 #[t17, t18, (.bool false)] w fun t19_6 w =>
  stn 5 t11_5 t16_1 w fun w =>
  stn 5 t12_6 t19_6 w fun w =>
  fa 0 t11_5 fun t20_7 =>
  ld1 t20_7 w fun t21_7 =>
  qG Try.prog (Op.unary .not t21_7) w fun t22_7 =>
  bV t22_7
  (ldn 5 t11_5 (World.drew w) fun t28_14 =>
  ldn 5 t12_6 (World.drew w) fun t29_14 =>
  stn 5 t8 t28_14 (World.drew w) fun w =>
  ldn 5 t12_6 w (fun u => u = t29_14) ∧
  stn 5 t9 t29_14 w fun w =>
  qG Try.prog (do loadVar 37 (← asAddr t8)) w fun r8_14 =>
  qG Try.prog (do loadVar 37 (← asAddr t9)) w fun r9_14 =>
  R (.tuple #[r8_14, r9_14, (.bool true)]) w)
  (fa 0 t12_6 fun t24_7 =>
  ld1 t24_7 w fun t25_7 =>
  qG Try.prog (Op.unary .not t25_7) w fun t26_7 =>
  bV t26_7
  (ldn 5 t11_5 (World.drew w) fun t28_15 =>
  ldn 5 t12_6 (World.drew w) fun t29_15 =>
  stn 5 t8 t28_15 (World.drew w) fun w =>
  ldn 5 t12_6 w (fun u => u = t29_15) ∧
  stn 5 t9 t29_15 w fun w =>
  qG Try.prog (do loadVar 37 (← asAddr t8)) w fun r8_15 =>
  qG Try.prog (do loadVar 37 (← asAddr t9)) w fun r9_15 =>
  R (.tuple #[r8_15, r9_15, (.bool true)]) w)
  (ref21_Narrow_s0 R t8 t9 t11_5 t12_6 w)))) ∧
  (newG (zc Try.prog 37) 37 w fun t12_7 w =>
  ldn 5 t7 w (fun u => u = t18) ∧
  ldn 5 t5 w (fun u => u = t17) ∧
  ldn 5 t6 w (fun u => u = t15) ∧
  ldn 5 t4 w (fun u => u = t14) ∧
  callG Try.prog 42 #[t14, t15, (.bool true)] w fun t16_2 w =>
  ldn 5 t7 w (fun u => u = t18) ∧
  ldn 5 t5 w (fun u => u = t17) ∧
  callG Try.prog 42 #[t17, t18, (.bool false)] w fun t19_7 w =>
  stn 5 t11_5 t16_2 w fun w =>
  stn 5 t12_7 t19_7 w fun w =>
  fa 0 t11_5 fun t20_8 =>
  ld1 t20_8 w fun t21_8 =>
  qG Try.prog (Op.unary .not t21_8) w fun t22_8 =>
  bV t22_8
  (ldn 5 t11_5 (World.drew w) fun t28_16 =>
  ldn 5 t12_7 (World.drew w) fun t29_16 =>
  stn 5 t8 t28_16 (World.drew w) fun w =>
  ldn 5 t12_7 w (fun u => u = t29_16) ∧
  stn 5 t9 t29_16 w fun w =>
  qG Try.prog (do loadVar 37 (← asAddr t8)) w fun r8_16 =>
  qG Try.prog (do loadVar 37 (← asAddr t9)) w fun r9_16 =>
  R (.tuple #[r8_16, r9_16, (.bool true)]) w)
  (fa 0 t12_7 fun t24_8 =>
  ld1 t24_8 w fun t25_8 =>
  qG Try.prog (Op.unary .not t25_8) w fun t26_8 =>
  bV t26_8
  (ldn 5 t11_5 (World.drew w) fun t28_17 =>
  ldn 5 t12_7 (World.drew w) fun t29_17 =>
  stn 5 t8 t28_17 (World.drew w) fun w =>
  ldn 5 t12_7 w (fun u => u = t29_17) ∧
  stn 5 t9 t29_17 w fun w =>
  qG Try.prog (do loadVar 37 (← asAddr t8)) w fun r8_17 =>
  qG Try.prog (do loadVar 37 (← asAddr t9)) w fun r9_17 =>
  R (.tuple #[r8_17, r9_17, (.bool true)]) w)
  (ref21_Narrow_s0 R t8 t9 t11_5 t12_7 w)))) ∧
  (newG (zc Try.prog 37) 37 (World.drew w) fun t12_8 w =>
  ldn 5 t7 w (fun u => u = t18) ∧
  ldn 5 t5 w (fun u => u = t17) ∧
  ldn 5 t6 w (fun u => u = t15) ∧
  ldn 5 t4 w (fun u => u = t14) ∧
  (callG Try.prog 42 #[t14, t15, (.bool true)] w fun t16_3 w =>
  ldn 5 t7 w (fun u => u = t18) ∧
  ldn 5 t5 w (fun u => u = t17) ∧
  (callG Try.prog 42 #[t17, t18, (.bool false)] w fun t19_8 w =>
  newG (zc Try.prog 37) 37 w fun t11_6 w =>
  ldn 5 t7 w (fun u => u = t18) ∧
  ldn 5 t5 w (fun u => u = t17) ∧
  ldn 5 t6 w (fun u => u = t15) ∧
  ldn 5 t4 w (fun u => u = t14) ∧
  stn 5 t11_6 t16_3 w fun w =>
  stn 5 t12_8 t19_8 w fun w =>
  fa 0 t11_6 fun t20_9 =>
  ld1 t20_9 w fun t21_9 =>
  qG Try.prog (Op.unary .not t21_9) w fun t22_9 =>
  bV t22_9
  (ldn 5 t11_6 (World.drew w) fun t28_18 =>
  ldn 5 t12_8 (World.drew w) fun t29_18 =>
  stn 5 t8 t28_18 (World.drew w) fun w =>
  ldn 5 t12_8 w (fun u => u = t29_18) ∧
  stn 5 t9 t29_18 w fun w =>
  qG Try.prog (do loadVar 37 (← asAddr t8)) w fun r8_18 =>
  qG Try.prog (do loadVar 37 (← asAddr t9)) w fun r9_18 =>
  R (.tuple #[r8_18, r9_18, (.bool true)]) w)
  (fa 0 t12_8 fun t24_9 =>
  ld1 t24_9 w fun t25_9 =>
  qG Try.prog (Op.unary .not t25_9) w fun t26_9 =>
  bV t26_9
  (ldn 5 t11_6 (World.drew w) fun t28_19 =>
  ldn 5 t12_8 (World.drew w) fun t29_19 =>
  stn 5 t8 t28_19 (World.drew w) fun w =>
  ldn 5 t12_8 w (fun u => u = t29_19) ∧
  stn 5 t9 t29_19 w fun w =>
  qG Try.prog (do loadVar 37 (← asAddr t8)) w fun r8_19 =>
  qG Try.prog (do loadVar 37 (← asAddr t9)) w fun r9_19 =>
  R (.tuple #[r8_19, r9_19, (.bool true)]) w)
  (ref21_Narrow_s0 R t8 t9 t11_6 t12_8 w))) ∧
  (newG (zc Try.prog 37) 37 w fun t11_7 w =>
  ldn 5 t7 w (fun u => u = t18) ∧
  ldn 5 t5 w (fun u => u = t17) ∧
  ldn 5 t6 w (fun u => u = t15) ∧
  ldn 5 t4 w (fun u => u = t14) ∧
  callG Try.prog 42 #[t17, t18, (.bool false)] w fun t19_9 w =>
  stn 5 t11_7 t16_3 w fun w =>
  stn 5 t12_8 t19_9 w fun w =>
  fa 0 t11_7 fun t20_10 =>
  ld1 t20_10 w fun t21_10 =>
  qG Try.prog (Op.unary .not t21_10) w fun t22_10 =>
  bV t22_10
  (ldn 5 t11_7 (World.drew w) fun t28_20 =>
  ldn 5 t12_8 (World.drew w) fun t29_20 =>
  stn 5 t8 t28_20 (World.drew w) fun w =>
  ldn 5 t12_8 w (fun u => u = t29_20) ∧
  stn 5 t9 t29_20 w fun w =>
  qG Try.prog (do loadVar 37 (← asAddr t8)) w fun r8_20 =>
  qG Try.prog (do loadVar 37 (← asAddr t9)) w fun r9_20 =>
  R (.tuple #[r8_20, r9_20, (.bool true)]) w)
  (fa 0 t12_8 fun t24_10 =>
  ld1 t24_10 w fun t25_10 =>
  qG Try.prog (Op.unary .not t25_10) w fun t26_10 =>
  bV t26_10
  (ldn 5 t11_7 (World.drew w) fun t28_21 =>
  ldn 5 t12_8 (World.drew w) fun t29_21 =>
  stn 5 t8 t28_21 (World.drew w) fun w =>
  ldn 5 t12_8 w (fun u => u = t29_21) ∧
  stn 5 t9 t29_21 w fun w =>
  qG Try.prog (do loadVar 37 (← asAddr t8)) w fun r8_21 =>
  qG Try.prog (do loadVar 37 (← asAddr t9)) w fun r9_21 =>
  R (.tuple #[r8_21, r9_21, (.bool true)]) w)
  (ref21_Narrow_s0 R t8 t9 t11_7 t12_8 w)))) ∧
  (newG (zc Try.prog 37) 37 w fun t11_8 w =>
  ldn 5 t7 w (fun u => u = t18) ∧
  ldn 5 t5 w (fun u => u = t17) ∧
  ldn 5 t6 w (fun u => u = t15) ∧
  ldn 5 t4 w (fun u => u = t14) ∧
  callG Try.prog 42 #[t14, t15, (.bool true)] w fun t16_4 w =>
  ldn 5 t7 w (fun u => u = t18) ∧
  ldn 5 t5 w (fun u => u = t17) ∧
  callG Try.prog 42 #[t17, t18, (.bool false)] w fun t19_10 w =>
  stn 5 t11_8 t16_4 w fun w =>
  stn 5 t12_8 t19_10 w fun w =>
  fa 0 t11_8 fun t20_11 =>
  ld1 t20_11 w fun t21_11 =>
  qG Try.prog (Op.unary .not t21_11) w fun t22_11 =>
  bV t22_11
  (ldn 5 t11_8 (World.drew w) fun t28_22 =>
  ldn 5 t12_8 (World.drew w) fun t29_22 =>
  stn 5 t8 t28_22 (World.drew w) fun w =>
  ldn 5 t12_8 w (fun u => u = t29_22) ∧
  stn 5 t9 t29_22 w fun w =>
  qG Try.prog (do loadVar 37 (← asAddr t8)) w fun r8_22 =>
  qG Try.prog (do loadVar 37 (← asAddr t9)) w fun r9_22 =>
  R (.tuple #[r8_22, r9_22, (.bool true)]) w)
  (fa 0 t12_8 fun t24_11 =>
  ld1 t24_11 w fun t25_11 =>
  qG Try.prog (Op.unary .not t25_11) w fun t26_11 =>
  bV t26_11
  (ldn 5 t11_8 (World.drew w) fun t28_23 =>
  ldn 5 t12_8 (World.drew w) fun t29_23 =>
  stn 5 t8 t28_23 (World.drew w) fun w =>
  ldn 5 t12_8 w (fun u => u = t29_23) ∧
  stn 5 t9 t29_23 w fun w =>
  qG Try.prog (do loadVar 37 (← asAddr t8)) w fun r8_23 =>
  qG Try.prog (do loadVar 37 (← asAddr t9)) w fun r9_23 =>
  R (.tuple #[r8_23, r9_23, (.bool true)]) w)
  (ref21_Narrow_s0 R t8 t9 t11_8 t12_8 w))))
theorem ref21_Narrow_s1_eq (R : Value → World → Prop) : ∀ e w, lift Try.prog 53 (bodyOf Try.f30) (finK Try.prog Try.f30.results.toList R) e w = ref21_Narrow_s1 R (e 0) (e 1) (e 2) (e 3) w :=
  segs_eq (l := [(sub (bodyOf Try.f30) [0]), (sub (bodyOf Try.f30) [1, 0]), (sub (bodyOf Try.f30) [1, 1, 0])]) (y := (sub (bodyOf Try.f30) [1, 1, 1])) (Y := (fun e w => ref21_Narrow_s0 R (e 8) (e 9) (e 11) (e 12) w)) (ref21_Narrow_s0_eq R) (fun e w => by kernel_rfl)
def ref21_Narrow (R : Value → World → Prop) (x0 x1 x2 x3 : Value) (w : World) : Prop := ref21_Narrow_s1 R x0 x1 x2 x3 w
theorem ref21_Narrow_call {R : Value → World → Prop} {x0 x1 x2 x3 : Value} {w : World} (h : ref21_Narrow R x0 x1 x2 x3 w) : callG Try.prog 30 #[x0, x1, x2, x3] w R :=
  calls_lift_eq Try.mixed Try.func30 (args := [x0, x1, x2, x3]) rfl rfl rfl rfl ((ref21_Narrow_s1_eq R) (envOf [x0, x1, x2, x3]) w) (by kernel_rfl) h
/-! quayside/quaysideref11.In -/
def ref11_In_s0 (R : Value → World → Prop) (x3 x5 : Value) (w : World) : Prop :=
  fa 0 x5 fun t29 =>
  ld1 t29 w fun t30 =>
  qG Try.prog (Op.unary .not t30) w fun t31 =>
  bV t31
  (R (.bool true) w)
  (ldn 3 x3 w fun t33 =>
  fa 2 x5 fun t34 =>
  ldn 3 t34 w fun t35 =>
  callG Try.prog 16 #[t33, t35] w fun t36 w =>
  qG Try.prog (bq .lss 3 (.tmp 36) (.const (.int .i64 0)) t36 (.int .i64 0)) w fun t37 =>
  bV t37
  (R (.bool true) w)
  (fa 1 x5 fun t40 =>
  ld1 t40 w fun t41 =>
  qG Try.prog (Op.unary .not t41) w fun t42 =>
  bV t42
  (ldn 3 x3 w fun t44 =>
  fa 2 x5 fun t45 =>
  ldn 3 t45 w fun t46 =>
  qG Try.prog (bq .eql 35 (.tmp 44) (.tmp 46) t44 t46) w fun t47 =>
  R t47 w)
  (R (.bool false) w)))
theorem ref11_In_s0_eq (R : Value → World → Prop) : ∀ e w, lift Try.prog 50 (sub (bodyOf Try.f19) [1, 1, 1]) (finK Try.prog Try.f19.results.toList R) e w = ref11_In_s0 R (e 3) (e 5) w := fun e w => by kernel_rfl
def ref11_In_s1 (R : Value → World → Prop) (x0 x1 x2 : Value) (w : World) : Prop :=
  newG (Value.cells x0) 35 w fun t3 w =>
  newG (Value.cells x1) 37 w fun t4 w =>
  newG (Value.cells x2) 37 w fun t5 w =>
  fa 0 t3 fun t7 =>
  ld1 t7 w fun t8 =>
  qG Try.prog (bq .eql 3 (.tmp 8) (.const (.int .i64 0)) t8 (.int .i64 0)) w fun t9 =>
  bV t9
  (R (.bool false) w)
  (fa 0 t4 fun t10 =>
  ld1 t10 w fun t11 =>
  bV t11
  (ldn 3 t3 w fun t13 =>
  fa 2 t4 fun t14 =>
  ldn 3 t14 w fun t15 =>
  callG Try.prog 16 #[t13, t15] w fun t16 w =>
  qG Try.prog (bq .lss 3 (.tmp 16) (.const (.int .i64 0)) t16 (.int .i64 0)) w fun t17 =>
  bV t17
  (R (.bool false) w)
  (fa 1 t4 fun t19 =>
  ld1 t19 w fun t20 =>
  bV t20
  (ldn 3 t3 w fun t22 =>
  fa 2 t4 fun t23 =>
  ldn 3 t23 w fun t24 =>
  qG Try.prog (bq .eql 35 (.tmp 22) (.tmp 24) t22 t24) w fun t25 =>
  bV t25
  (R (.bool false) w)
  (ref11_In_s0 R t3 t5 w))
  (ref11_In_s0 R t3 t5 w)))
  (ref11_In_s0 R t3 t5 w))
theorem ref11_In_s1_eq (R : Value → World → Prop) : ∀ e w, lift Try.prog 50 (bodyOf Try.f19) (finK Try.prog Try.f19.results.toList R) e w = ref11_In_s1 R (e 0) (e 1) (e 2) w :=
  segs_eq (l := [(sub (bodyOf Try.f19) [0]), (sub (bodyOf Try.f19) [1, 0]), (sub (bodyOf Try.f19) [1, 1, 0])]) (y := (sub (bodyOf Try.f19) [1, 1, 1])) (Y := (fun e w => ref11_In_s0 R (e 3) (e 5) w)) (ref11_In_s0_eq R) (fun e w => by kernel_rfl)
def ref11_In (R : Value → World → Prop) (x0 x1 x2 : Value) (w : World) : Prop := ref11_In_s1 R x0 x1 x2 w
theorem ref11_In_call {R : Value → World → Prop} {x0 x1 x2 : Value} {w : World} (h : ref11_In R x0 x1 x2 w) : callG Try.prog 19 #[x0, x1, x2] w R :=
  calls_lift_eq Try.mixed Try.func19 (args := [x0, x1, x2]) rfl rfl rfl rfl ((ref11_In_s1_eq R) (envOf [x0, x1, x2]) w) (by kernel_rfl) h
/-! quayside/quaysideref22.Between -/
def ref22_Between_s0 (R : Value → World → Prop) (x4 x9 x14 : Value) (w : World) : Prop :=
  fa 0 x4 fun t54 =>
  ld1 t54 w fun t55 =>
  fa 0 x9 fun t56 =>
  ld1 t56 w fun t57 =>
  qG Try.prog (bq .sub 3 (.tmp 55) (.tmp 57) t55 t57) w fun t58 =>
  qG Try.prog (bq .sub 3 (.tmp 58) (.const (.int .i64 1)) t58 (.int .i64 1)) w fun t59 =>
  fa 2 x9 fun t61 =>
  ld1 t61 w fun t62 =>
  lenL t62 fun t63 =>
  callG Try.prog 31 #[t59, x14, t63] w fun t64 w =>
  qG Try.prog (bq .add 3 (.const (.int .i64 1)) (.tmp 64) (.int .i64 1) t64) w fun t65 =>
  R t65 w
theorem ref22_Between_s0_eq (R : Value → World → Prop) : ∀ e w, lift Try.prog 66 (sub (bodyOf Try.f15) [1, 1, 1, 1, 1, 1]) (finK Try.prog Try.f15.results.toList R) e w = ref22_Between_s0 R (e 4) (e 9) (e 14) w := fun e w => by kernel_rfl
def ref22_Between_b1 (R : Value → World → Prop) (N1 : List Value → World → Prop) (x4 x6 x7 x9 x14 x15 : Value) (w : World) : Prop :=
  fa 2 x9 fun t38 =>
  ld1 t38 w fun t39 =>
  lenL t39 fun t40 =>
  qG Try.prog (bq .lss 3 (.tmp 37) (.tmp 40) x15 t40) w fun t41 =>
  bV t41
  (fa 2 x9 fun t44 =>
  ld1 t44 (World.drew w) fun t45 =>
  ia 3 t45 x15 fun t47 =>
  ldn 3 t47 (World.drew w) fun t48 =>
  ldn 5 x6 (World.drew w) fun t49 =>
  ldn 5 x7 (World.drew w) fun t50 =>
  callG Try.prog 19 #[t48, t49, t50] (World.drew w) fun t51 w =>
  bV t51
  (qG Try.prog (bq .add 3 (.tmp 52) (.const (.int .i64 1)) x14 (.int .i64 1)) w fun t53 =>
  qG Try.prog (bq .add 3 (.tmp 42) (.const (.int .i64 1)) x15 (.int .i64 1)) w fun t43 =>
  N1 [x4, x6, x7, x9, t53, t43] w)
  (qG Try.prog (bq .add 3 (.tmp 42) (.const (.int .i64 1)) x15 (.int .i64 1)) w fun t43_1 =>
  N1 [x4, x6, x7, x9, x14, t43_1] w))
  (ref22_Between_s0 R x4 x9 x14 w)
theorem ref22_Between_b1_eq (R : Value → World → Prop) (N1 : List Value → World → Prop) : ∀ e w, lift Try.prog 66 (sub (bodyOf Try.f15) [1, 1, 1, 1, 1, 0, 1, 0, 0]) (seqK (fun e w => N1 [e 4, e 6, e 7, e 9, e 14, e 15] w) (blockK 0 (seqK (fun e w => ref22_Between_s0 R (e 4) (e 9) (e 14) w) (finK Try.prog Try.f15.results.toList R)))) e w = ref22_Between_b1 R N1 (e 4) (e 6) (e 7) (e 9) (e 14) (e 15) w := fun e w => by kernel_rfl
def ref22_Between_L2F (R : Value → World → Prop) (N1 : List Value → World → Prop) (xs : List Value) (w : World) : Prop :=
  match xs with
  | [x4, x6, x7, x9, x14, x15] => ref22_Between_b1 R N1 x4 x6 x7 x9 x14 x15 w
  | _ => False
def ref22_Between_L2 (R : Value → World → Prop) (x4 x6 x7 x9 x14 x15 : Value) (w : World) : Prop :=
  ∃ m, loopV (ref22_Between_L2F R) m [x4, x6, x7, x9, x14, x15] w
theorem ref22_Between_L2_eq (R : Value → World → Prop) : ∀ e w, lift Try.prog 66 (sub (bodyOf Try.f15) [1, 1, 1, 1, 1, 0, 1, 0]) (blockK 0 (seqK (fun e w => ref22_Between_s0 R (e 4) (e 9) (e 14) w) (finK Try.prog Try.f15.results.toList R))) e w = ref22_Between_L2 R (e 4) (e 6) (e 7) (e 9) (e 14) (e 15) w := loop_seg (F := ref22_Between_L2F R) (sel := fun e => [e 4, e 6, e 7, e 9, e 14, e 15]) fun N1 => (ref22_Between_b1_eq R N1)
def ref22_Between_s3 (R : Value → World → Prop) (x4 x6 x7 x9 x14 : Value) (w : World) : Prop :=
  ref22_Between_L2 R x4 x6 x7 x9 x14 (.int .i64 0) w
theorem ref22_Between_s3_eq (R : Value → World → Prop) : ∀ e w, lift Try.prog 66 (sub (bodyOf Try.f15) [1, 1, 1, 1, 1, 0]) (seqK (fun e w => ref22_Between_s0 R (e 4) (e 9) (e 14) w) (finK Try.prog Try.f15.results.toList R)) e w = ref22_Between_s3 R (e 4) (e 6) (e 7) (e 9) (e 14) w :=
  segs_eq (l := [(sub (bodyOf Try.f15) [1, 1, 1, 1, 1, 0, 0])]) (y := (sub (bodyOf Try.f15) [1, 1, 1, 1, 1, 0, 1])) (Y := (fun e w => ref22_Between_L2 R (e 4) (e 6) (e 7) (e 9) (e 14) (e 15) w)) (ref22_Between_L2_eq R) (fun e w => by kernel_rfl)
def ref22_Between_s4 (R : Value → World → Prop) (x4 x6 x7 x9 : Value) (w : World) : Prop :=
  ref22_Between_s3 R x4 x6 x7 x9 (.int .i64 0) w
theorem ref22_Between_s4_eq (R : Value → World → Prop) : ∀ e w, lift Try.prog 66 (sub (bodyOf Try.f15) [1, 1, 1, 1]) (finK Try.prog Try.f15.results.toList R) e w = ref22_Between_s4 R (e 4) (e 6) (e 7) (e 9) w :=
  segs_eq (l := [(sub (bodyOf Try.f15) [1, 1, 1, 1, 0])]) (y := (sub (bodyOf Try.f15) [1, 1, 1, 1, 1])) (Y := (fun e w => ref22_Between_s3 R (e 4) (e 6) (e 7) (e 9) (e 14) w)) (seq_seg (x := (sub (bodyOf Try.f15) [1, 1, 1, 1, 1, 0])) (y := (sub (bodyOf Try.f15) [1, 1, 1, 1, 1, 1])) (ref22_Between_s0_eq R) (ref22_Between_s3_eq R)) (fun e w => by kernel_rfl)
def ref22_Between_s5 (R : Value → World → Prop) (x0 x1 x2 x3 : Value) (w : World) : Prop :=
  newG (Value.cells x0) 27 w fun t4 w =>
  newG (Value.cells x2) 37 w fun t6 w =>
  newG (Value.cells x3) 37 w fun t7 w =>
  ldn 2 t4 w fun t17 =>
  callG Try.prog 29 #[t17, x1] w fun t19 w =>
  qG Try.prog (Instr.extract t19 0) w fun t20 =>
  qG Try.prog (Instr.extract t19 1) w fun t21 =>
  newG (zc Try.prog 32) 32 w fun t9 w =>
  stn 3 t9 t20 w fun w =>
  ldn 5 t6 w fun t23 =>
  ldn 5 t7 w fun t24 =>
  bld [(0, 1), (1, 1), (2, 3)] (zc Try.prog 37) #[] fun t25 =>
  bld [(0, 1), (1, 1), (2, 3)] (zc Try.prog 37) #[] fun t26 =>
  callG Try.prog 30 #[t23, t24, t25, t26] w fun t27 w =>
  qG Try.prog (Instr.extract t27 0) w fun t28 =>
  qG Try.prog (Instr.extract t27 1) w fun t29 =>
  qG Try.prog (Instr.extract t27 2) w fun t30 =>
  newG (zc Try.prog 37) 37 w fun t11 w =>
  newG (zc Try.prog 37) 37 w fun t12 w =>
  stn 5 t11 t28 w fun w =>
  stn 5 t12 t29 w fun w =>
  qG Try.prog (Op.unary .not t21) w fun t32 =>
  bV t32
  (R (.int .i64 0) w)
  (qG Try.prog (Op.unary .not t30) w fun t35 =>
  bV t35
  (R (.int .i64 0) w)
  (ref22_Between_s4 R t4 t6 t7 t9 w))
theorem ref22_Between_s5_eq (R : Value → World → Prop) : ∀ e w, lift Try.prog 66 (bodyOf Try.f15) (finK Try.prog Try.f15.results.toList R) e w = ref22_Between_s5 R (e 0) (e 1) (e 2) (e 3) w :=
  segs_eq (l := [(sub (bodyOf Try.f15) [0]), (sub (bodyOf Try.f15) [1, 0]), (sub (bodyOf Try.f15) [1, 1, 0]), (sub (bodyOf Try.f15) [1, 1, 1, 0])]) (y := (sub (bodyOf Try.f15) [1, 1, 1, 1])) (Y := (fun e w => ref22_Between_s4 R (e 4) (e 6) (e 7) (e 9) w)) (ref22_Between_s4_eq R) (fun e w => by kernel_rfl)
def ref22_Between (R : Value → World → Prop) (x0 x1 x2 x3 : Value) (w : World) : Prop := ref22_Between_s5 R x0 x1 x2 x3 w
theorem ref22_Between_call {R : Value → World → Prop} {x0 x1 x2 x3 : Value} {w : World} (h : ref22_Between R x0 x1 x2 x3 w) : callG Try.prog 15 #[x0, x1, x2, x3] w R :=
  calls_lift_eq Try.mixed Try.func15 (args := [x0, x1, x2, x3]) rfl rfl rfl rfl ((ref22_Between_s5_eq R) (envOf [x0, x1, x2, x3]) w) (by kernel_rfl) h
/-! quayside/quaysideref22.Joined -/
end Go.Proofs

/- Layer 22: the document's ranges and shares. -/
set_option maxRecDepth 100000
set_option linter.unusedVariables false
set_option linter.unusedSimpArgs false
namespace Go.Proofs
open Go Go.Q
theorem rshare_spec {w : World} (a b c : Nat) (hc : 0 < c) (ha : a < 2 ^ 30) (hb : b < 2 ^ 30) (hc2 : c < 2 ^ 30) {R : Value → World → Prop} (hR : R (.int .i64 (shareN a b c)) w.drew) : callG Try.prog 31 #[.int .i64 a, .int .i64 b, .int .i64 c] w R := by
  refine ref22_share_call ?_
  unfold ref22_share ref22_share_s0
  have h1 : a / c ≤ a := Nat.div_le_self _ _
  have h2 : a % c < c := Nat.mod_lt _ hc
  have h3 : a / c * b ≤ 2 ^ 30 * 2 ^ 30 := Nat.mul_le_mul (by omega) (by omega)
  have h4 : a % c * b ≤ 2 ^ 30 * 2 ^ 30 := Nat.mul_le_mul (by omega) (by omega)
  have h5 : a % c * b / c ≤ a % c * b := Nat.div_le_self _ _
  have q1 : ((a : Int) / (c : Int)) = ((a / c : Nat) : Int) := by simp
  have q2 : ((a : Int) % (c : Int)) = ((a % c : Nat) : Int) := by simp
  have q3 : ((a / c : Nat) : Int) * (b : Int) = ((a / c * b : Nat) : Int) := by simp
  have q4 : ((a % c : Nat) : Int) * (b : Int) = ((a % c * b : Nat) : Int) := by simp
  have q5 : (((a % c * b : Nat) : Int) / (c : Int)) = ((a % c * b / c : Nat) : Int) := by simp
  have q6 : ((a / c * b : Nat) : Int) + ((a % c * b / c : Nat) : Int) = ((shareN a b c : Nat) : Int) := by unfold shareN; simp
  have h6 : shareN a b c ≤ 2 ^ 30 * 2 ^ 30 + 2 ^ 30 * 2 ^ 30 := by unfold shareN; exact Nat.add_le_add h3 (Nat.le_trans h5 h4)
  rw [quo_of (by omega) (by omega), q1, wrap_nat64 (by omega), rem_of (by omega) (by omega), q2]
  simp only [bq_mul]
  rw [q3, wrap_nat64 (Nat.lt_of_le_of_lt h3 (by decide)), q4, wrap_nat64 (Nat.lt_of_le_of_lt h4 (by decide)), quo_of (Int.natCast_nonneg _) (by omega), q5, wrap_nat64 (Nat.lt_of_le_of_lt (Nat.le_trans h5 h4) (by decide))]
  simp only [bq_add]
  rw [q6, wrap_nat64 (Nat.lt_of_le_of_lt h6 (by decide))]
  exact hR
theorem rIn_s0 {wb w : World} {x3 x5 : Nat} {v : V3} {hi : Bd} (hk : Kp [] wb w) (h3 : w.heap[x3]? = some (.cells (valV v).toArray 35)) (h5 : w.heap[x5]? = some (.cells (bC hi).toArray 37)) {R : Value → World → Prop} (hR : ∀ w', Kp [] wb w' → R (.bool (decide (hi.has = false ∨ cmpV v hi.val < 0 ∨ hi.open_ = false ∧ v = hi.val))) w') :
    ref11_In_s0 R (.pointer (some ⟨x3, 0, none⟩)) (.pointer (some ⟨x5, 0, none⟩)) w := by
  unfold ref11_In_s0
  rw [fa_p, ldF (x := .bool hi.has) h5 rfl]
  simp only [un_not, bV_b]
  refine ⟨fun hh => ?_, fun hh => ?_⟩
  · have := hR w hk
    rw [decide_eq_true (.inl (by simpa using hh))] at this
    exact this
  · have hh : hi.has = true := by simpa using hh
    rw [show ∀ K : Value → Prop, ldn 3 (.pointer (some ⟨x3, 0, none⟩)) w K = K (valA v) from fun K => ldA h3 rfl, fa_p, ldP (k := 3) h5 (bd_val hi) (by simp [bC, valV])]
    refine dCompare_spec v hi.val fun w1 k1 => ?_
    have g3 := k1.get h3 (by simp)
    have g5 := k1.get h5 (by simp)
    have hR := hR w1 (hk.trans' k1)
    simp only [bq_lss, bV_b, decide_eq_true_eq, decide_eq_false_iff_not]
    refine ⟨fun hc => ?_, fun hc => ?_⟩
    · rw [decide_eq_true (.inr (.inl hc))] at hR
      exact hR
    · rw [fa_p, ldF (x := .bool hi.open_) g5 rfl]
      simp only [un_not, bV_b]
      refine ⟨fun ho => ?_, fun ho => ?_⟩
      · have ho : hi.open_ = false := by simpa using ho
        rw [ldA (k := 3) g3 rfl, fa_p, ldP (k := 3) g5 (bd_val hi) (by simp [bC, valV]), bq_val]
        have e : decide (hi.has = false ∨ cmpV v hi.val < 0 ∨ hi.open_ = false ∧ v = hi.val) = decide (v = hi.val) := by
          by_cases g : v = hi.val
          · rw [decide_eq_true g, decide_eq_true (.inr (.inr ⟨ho, g⟩))]
          · rw [decide_eq_false g, decide_eq_false]
            rintro (q | q | ⟨_, q⟩)
            · rw [hh] at q; cases q
            · exact hc q
            · exact g q
        rw [e] at hR
        exact hR
      · have ho : hi.open_ = true := by simpa using ho
        rw [decide_eq_false] at hR
        · exact hR
        · rintro (q | q | ⟨q, _⟩)
          · rw [hh] at q; cases q
          · exact hc q
          · rw [ho] at q; cases q
theorem rIn_spec {w : World} (v : V3) (lo hi : Bd) {R : Value → World → Prop} (hR : ∀ w', Kp [] w w' → R (.bool (inT v lo hi)) w') : callG Try.prog 19 #[valA v, bdA lo, bdA hi] w R := by
  refine ref11_In_call ?_
  unfold ref11_In ref11_In_s1
  have e0 : ∀ (v : V3) (w : World) (k : Value → World → Prop), newG (Value.cells (valA v)) 35 w k = newG (Value.cells (.agg (valV v).toArray)) 35 w k := fun _ _ _ => rfl
  have e1 : ∀ (v : Bd) (w : World) (k : Value → World → Prop), newG (Value.cells (bdA v)) 37 w k = newG (Value.cells (.agg (bC v).toArray)) 37 w k := fun _ _ _ => rfl
  rw [e0]
  refine argB fun x3 w1 hx3 h3 k1 => ?_
  rw [e1]
  refine argB fun x4 w2 hx4 h4 k2 => ?_
  rw [e1]
  refine argB fun x5 w3 hx5 h5 k3 => ?_
  have b3 := k3.get (k2.get h3 (by simp)) (by simp)
  have b4 := k3.get h4 (by simp)
  have k03 := (k1.trans' k2).trans' k3
  unfold inT at hR
  rw [fa_p, ldF (x := .int .i64 v.k) b3 rfl]
  simp only [bq_eql, bV_b, decide_eq_true_eq, decide_eq_false_iff_not]
  refine ⟨fun h => ?_, fun h => ?_⟩
  · rw [if_pos h] at hR; exact hR w3 k03
  · rw [if_neg h] at hR
    rw [fa_p, ldF (x := .bool lo.has) b4 rfl]
    simp only [bV_b]
    refine ⟨fun hl => ?_, fun hl => ?_⟩
    · rw [show ∀ K : Value → Prop, ldn 3 (.pointer (some ⟨x3, 0, none⟩)) w3 K = K (valA v) from fun K => ldA b3 rfl, fa_p, ldP (k := 3) b4 (bd_val lo) (by simp [bC, valV])]
      refine dCompare_spec v lo.val fun w4 k4 => ?_
      have g3 := k4.get b3 (by simp)
      have g4 := k4.get b4 (by simp)
      have g5 := k4.get h5 (by simp)
      have k04 := k03.trans' k4
      simp only [bq_lss, bV_b, decide_eq_true_eq, decide_eq_false_iff_not]
      refine ⟨fun hc => ?_, fun hc => ?_⟩
      · rw [if_pos ⟨hl, .inl hc⟩] at hR; exact hR w4 k04
      · rw [fa_p, ldF (x := .bool lo.open_) g4 rfl]
        simp only [bV_b]
        refine ⟨fun ho => ?_, fun ho => ?_⟩
        · rw [ldA (k := 3) g3 rfl, fa_p, ldP (k := 3) g4 (bd_val lo) (by simp [bC, valV]), bq_val]
          simp only [bV_b, decide_eq_true_eq, decide_eq_false_iff_not]
          refine ⟨fun he => ?_, fun he => ?_⟩
          · rw [if_pos ⟨hl, .inr ⟨ho, he⟩⟩] at hR; exact hR w4 k04
          · rw [if_neg (by rintro ⟨_, q | ⟨_, q⟩⟩; exact hc q; exact he q)] at hR
            exact rIn_s0 k04 g3 g5 hR
        · rw [if_neg (by rintro ⟨_, q | ⟨q, _⟩⟩; exact hc q; rw [ho] at q; cases q)] at hR
          exact rIn_s0 k04 g3 g5 hR
    · rw [if_neg (by rintro ⟨q, _⟩; rw [hl] at q; cases q)] at hR
      exact rIn_s0 k03 b3 h5 hR
end Go.Proofs

/- Layer 22: the document's tighter end. -/
set_option maxRecDepth 100000
set_option linter.unusedVariables false
set_option linter.unusedSimpArgs false
namespace Go.Proofs
open Go Go.Q
theorem end_spec {w : World} (a b : Bd) (lower : Bool) {sg : Int} (hs : sg = if lower = true then 1 else -1) {R : Value → World → Prop} (hK : ∀ w', Kp [] w w' → R (bdA (tightV a b sg)) w') : callG Try.prog 42 #[bdA a, bdA b, .bool lower] w R := by
  refine ref21_end_call ?_
  unfold ref21_end ref21_end_s0 bdA
  refine argB fun p w1 hp h1 k1 => ?_
  refine argB fun q w2 hq h2 k2 => ?_
  refine newB fun z w3 hz h3 k3 => ?_
  have s1 := k1.size
  have s2 := k2.size
  have l1 := lt_of_blk h1
  have l2 := lt_of_blk h2
  have k03 := (k1.trans' k2).trans' k3
  have h13 := k3.get (k2.get h1 (by simp)) (by simp)
  have h23 := k3.get h2 (by simp)
  have ret : ∀ (w' : World) (c : Bd), Kp [] w w' → w'.heap[z]? = some (.cells (zc Try.prog 37) 37) → tightV a b sg = c → stn 5 (.pointer (some ⟨z, 0, none⟩)) (.agg (bC c).toArray) w' fun w => qG Try.prog (do loadVar 37 (← asAddr (.pointer (some ⟨z, 0, none⟩)))) w fun r6 => R r6 w := by
    intro w' c hk' hz' hc
    refine retB (by kernel_rfl) (by kernel_rfl) hz' (by rw [zcBd]; rfl) rfl (bC_one c) fun w6 hk6 => ?_
    have := hK w6 (hk'.trans hk6 fun x hx hlt => by simp at hx; omega)
    rw [hc] at this
    exact this
  rw [fa_p, ldF (x := .bool a.has) h13 rfl]
  simp only [un_not, bV_b]
  refine ⟨fun ha => ?_, fun ha => ?_⟩
  · have ha : a.has = false := by simpa using ha
    rw [ldA (k := 5) h23 rfl]
    exact ret w3 b k03 h3 (by unfold tightV; rw [if_pos ha])
  · have ha : a.has = true := by simpa using ha
    rw [fa_p, ldF (x := .bool b.has) h23 rfl]
    simp only [un_not, bV_b]
    refine ⟨fun hb => ?_, fun hb => ?_⟩
    · have hb : b.has = false := by simpa using hb
      rw [ldA (k := 5) h13 rfl]
      exact ret w3 a k03 h3 (by unfold tightV; rw [if_neg (by simp [ha]), if_pos hb])
    · have hb : b.has = true := by simpa using hb
      have hb0 := cmpV_bnd a.val b.val
      rw [fa_p, ldP (k := 3) h13 (bd_val a) (by simp [bC, valV]), fa_p, ldP (k := 3) h23 (bd_val b) (by simp [bC, valV])]
      refine dCompare_spec a.val b.val fun w4 k4 => ?_
      have h14 := k4.get h13 (by simp)
      have h24 := k4.get h23 (by simp)
      have h34 := k4.get h3 (by simp)
      have k04 := k03.trans' k4
      have hsg : sg = 1 ∧ lower = true ∨ sg = -1 ∧ lower = false := by
        cases lower
        · exact .inr ⟨hs, rfl⟩
        · exact .inl ⟨hs, rfl⟩
      have e : tightV a b sg = if cmpV a.val b.val * sg < 0 then b else if cmpV a.val b.val * sg = 0 then ⟨a.has, a.open_ || b.open_, a.val⟩ else a := by
        unfold tightV; rw [if_neg (by simp [ha]), if_neg (by simp [hb])]
      simp only [bq_eql, bV_b, decide_eq_true_eq, decide_eq_false_iff_not, bq_gtr]
      refine ⟨fun h0 => ?_, fun h0 => ?_⟩
      · have fin : ∀ x : Bool, x = (a.open_ || b.open_) → st1 (.pointer (some ⟨p, 0 + 1, none⟩)) (.bool x) w4 fun w => ldn 5 (.pointer (some ⟨p, 0, none⟩)) w fun t39 => stn 5 (.pointer (some ⟨z, 0, none⟩)) t39 w fun w => qG Try.prog (do loadVar 37 (← asAddr (.pointer (some ⟨z, 0, none⟩)))) w fun r6 => R r6 w := by
          intro x hx
          rw [stF (j := 0 + 1) h14 (by simp [bC, valV]) rfl]
          have ec : (bC a).toArray.setIfInBounds (0 + 1) (.bool x) = (bC ⟨a.has, x, a.val⟩).toArray := rfl
          rw [ec, ldA (k := 5) (heap_self (live_of h14)) rfl]
          have hpz : ¬ p = z := by omega
          exact ret _ ⟨a.has, x, a.val⟩ (k04.setBlk (.inr hp) _) (by rw [heap_ne hpz]; exact h34) (by rw [e, h0, Int.zero_mul, if_neg (by omega), if_pos rfl, hx])
        rw [fa_p, ldF (x := .bool a.open_) h14 rfl]
        simp only [bV_b]
        refine ⟨fun ho => ?_, fun ho => ?_⟩
        · rw [fa_p]
          exact fin true (by rw [ho]; rfl)
        · rw [fa_p, ldF (x := .bool b.open_) h24 rfl, fa_p]
          exact fin b.open_ (by rw [ho]; rfl)
      · rw [bq_beql _ _ (by kernel_rfl)]
        simp only [bV_b]
        refine ⟨fun hc => ?_, fun hc => ?_⟩
        · rw [ldA (k := 5) h14 rfl]
          refine ret w4 a k04 h34 ?_
          rcases hsg with ⟨rfl, hl⟩ | ⟨rfl, hl⟩
          · rw [hl] at hc
            have : cmpV a.val b.val > 0 := by simpa using hc
            rw [e, if_neg (by omega), if_neg (by omega)]
          · rw [hl] at hc
            have : ¬ cmpV a.val b.val > 0 := by simpa using hc
            rw [e, if_neg (by omega), if_neg (by omega)]
        · rw [ldA (k := 5) h24 rfl]
          refine ret w4 b k04 h34 ?_
          rcases hsg with ⟨rfl, hl⟩ | ⟨rfl, hl⟩
          · rw [hl] at hc
            have : ¬ cmpV a.val b.val > 0 := by simpa using hc
            rw [e, if_pos (by omega)]
          · rw [hl] at hc
            have : cmpV a.val b.val > 0 := by simpa using hc
            rw [e, if_pos (by omega)]
end Go.Proofs

/- Layer 22: the orders in which Narrow may go. (Written by gen_nw22.py.) -/
set_option maxRecDepth 100000
set_option linter.unusedVariables false
set_option linter.unusedSimpArgs false
namespace Go.Proofs
open Go Go.Q
def rnwF (R : Value → World → Prop) (t8 t9 t11 t12 t16 t19 : Value) (w : World) : Prop :=
  stn 5 t11 t16 w fun w =>
  stn 5 t12 t19 w fun w =>
  fa 0 t11 fun t20 =>
  ld1 t20 w fun t21 =>
  qG Try.prog (Op.unary .not t21) w fun t22 =>
  bV t22
  (ldn 5 t11 (World.drew w) fun t28 =>
  ldn 5 t12 (World.drew w) fun t29 =>
  stn 5 t8 t28 (World.drew w) fun w =>
  ldn 5 t12 w (fun u => u = t29) ∧
  stn 5 t9 t29 w fun w =>
  qG Try.prog (do loadVar 37 (← asAddr t8)) w fun r8 =>
  qG Try.prog (do loadVar 37 (← asAddr t9)) w fun r9 =>
  R (.tuple #[r8, r9, (.bool true)]) w)
  (fa 0 t12 fun t24 =>
  ld1 t24 w fun t25 =>
  qG Try.prog (Op.unary .not t25) w fun t26 =>
  bV t26
  (ldn 5 t11 (World.drew w) fun t28_1 =>
  ldn 5 t12 (World.drew w) fun t29_1 =>
  stn 5 t8 t28_1 (World.drew w) fun w =>
  ldn 5 t12 w (fun u => u = t29_1) ∧
  stn 5 t9 t29_1 w fun w =>
  qG Try.prog (do loadVar 37 (← asAddr t8)) w fun r8_1 =>
  qG Try.prog (do loadVar 37 (← asAddr t9)) w fun r9_1 =>
  R (.tuple #[r8_1, r9_1, (.bool true)]) w)
  (ref21_Narrow_s0 R t8 t9 t11 t12 w))
theorem rnarrow_orders {w : World} {a b c d : Bd} {R : Value → World → Prop} (hF : ∀ (wb w' : World) x8 x9 x11 x12, Kp [] w wb → Kp [] wb w' → x8 < x9 → w.heap.size ≤ x8 → x9 < wb.heap.size → wb.heap[x8]? = some (.cells (zc Try.prog 37) 37) → wb.heap[x9]? = some (.cells (zc Try.prog 37) 37) → w'.heap[x11]? = some (.cells (zc Try.prog 37) 37) → w'.heap[x12]? = some (.cells (zc Try.prog 37) 37) → wb.heap.size ≤ x11 → wb.heap.size ≤ x12 → x11 ≠ x12 →
    rnwF R (.pointer (some ⟨x8, 0, none⟩)) (.pointer (some ⟨x9, 0, none⟩)) (.pointer (some ⟨x11, 0, none⟩)) (.pointer (some ⟨x12, 0, none⟩)) (bdA (tightV a c 1)) (bdA (tightV b d (-1))) w') : callG Try.prog 30 #[bdA a, bdA b, bdA c, bdA d] w R := by
  refine ref21_Narrow_call ?_
  unfold ref21_Narrow ref21_Narrow_s1
  have e0 : ∀ (v : Bd) (w : World) (k : Value → World → Prop), newG (Value.cells (bdA v)) 37 w k = newG (Value.cells (.agg (bC v).toArray)) 37 w k := fun _ _ _ => rfl
  rw [e0]
  refine argB fun x4 w1 hx4 h4 k1 => ?_
  rw [e0]
  refine argB fun x5 w2 hx5 h5 k2 => ?_
  rw [e0]
  refine argB fun x6 w3 hx6 h6 k3 => ?_
  rw [e0]
  refine argB fun x7 w4 hx7 h7 k4 => ?_
  refine newB fun x8 w5 hx8 h8 k5 => ?_
  refine newB fun x9 w6 hx9 h9 k6 => ?_
  have l8 := lt_of_blk h8
  have l9 := lt_of_blk h9
  have k06 : Kp [] w w6 := ((((k1.trans' k2).trans' k3).trans' k4).trans' k5).trans' k6
  have b4 := (((((k2.trans' k3).trans' k4).trans' k5).trans' k6)).get h4 (by simp)
  have b5 := ((((k3.trans' k4).trans' k5).trans' k6)).get h5 (by simp)
  have b6 := (((k4.trans' k5).trans' k6)).get h6 (by simp)
  have b7 := ((k5.trans' k6)).get h7 (by simp)
  have b8 := k6.get h8 (by simp)
  have s4 := ((k1.trans' k2).trans' k3).trans' k4 |>.size
  have r4 : ∀ w', Kp [] w6 w' → ∀ K : Value → Prop, ldn 5 (.pointer (some ⟨x4, 0, none⟩)) w' K = K (bdA a) := fun w' hk' K => ldA (hk'.get b4 (by simp)) rfl
  have r5 : ∀ w', Kp [] w6 w' → ∀ K : Value → Prop, ldn 5 (.pointer (some ⟨x5, 0, none⟩)) w' K = K (bdA b) := fun w' hk' K => ldA (hk'.get b5 (by simp)) rfl
  have r6 : ∀ w', Kp [] w6 w' → ∀ K : Value → Prop, ldn 5 (.pointer (some ⟨x6, 0, none⟩)) w' K = K (bdA c) := fun w' hk' K => ldA (hk'.get b6 (by simp)) rfl
  have r7 : ∀ w', Kp [] w6 w' → ∀ K : Value → Prop, ldn 5 (.pointer (some ⟨x7, 0, none⟩)) w' K = K (bdA d) := fun w' hk' K => ldA (hk'.get b7 (by simp)) rfl
  have g0 : Kp [] w6 w6.drew := kp_drew
  have zd : w6.drew.heap.size = w6.heap.size := rfl
  rw [r4 _ g0, r6 _ g0, r5 _ g0, r7 _ g0]
  refine ⟨?_, ?_, ?_⟩
  · refine end_spec a c true rfl fun v1 j1 => ?_
    have g1 := g0.trans' j1
    have sz1 := j1.size
    have szg1 := g0.size
    rw [r7 _ g1, r5 _ g1]
    refine ⟨rfl, rfl, ?_⟩
    refine ⟨?_, ?_, ?_⟩
    · refine end_spec b d false rfl fun v2 j2 => ?_
      have g2 := g1.trans' j2
      have sz2 := j2.size
      have szg2 := g1.size
      refine ⟨?_, ?_⟩
      · refine newB fun y3 v3 hy3 hb3 j3 => ?_
        have g3 := g2.trans' j3
        have sz3 := j3.size
        have szg3 := g2.size
        have lt3 := lt_of_blk hb3
        rw [r7 _ g3, r5 _ g3, r6 _ g3, r4 _ g3]
        refine ⟨rfl, rfl, rfl, rfl, ?_⟩
        refine newB fun y4 v4 hy4 hb4 j4 => ?_
        have g4 := g3.trans' j4
        have sz4 := j4.size
        have szg4 := g3.size
        have lt4 := lt_of_blk hb4
        rw [r7 _ g4, r5 _ g4, r6 _ g4, r4 _ g4]
        refine ⟨rfl, rfl, rfl, rfl, ?_⟩
        exact hF w6 _ _ _ _ _ k06 g4 (by omega) (by omega) (by omega) b8 h9 (j4.get hb3 (by simp)) hb4 (by omega) (by omega) (by omega)
      · refine newB fun y3 v3 hy3 hb3 j3 => ?_
        have g3 := g2.trans' j3
        have sz3 := j3.size
        have szg3 := g2.size
        have lt3 := lt_of_blk hb3
        rw [r7 _ g3, r5 _ g3, r6 _ g3, r4 _ g3]
        refine ⟨rfl, rfl, rfl, rfl, ?_⟩
        refine newB fun y4 v4 hy4 hb4 j4 => ?_
        have g4 := g3.trans' j4
        have sz4 := j4.size
        have szg4 := g3.size
        have lt4 := lt_of_blk hb4
        rw [r7 _ g4, r5 _ g4, r6 _ g4, r4 _ g4]
        refine ⟨rfl, rfl, rfl, rfl, ?_⟩
        exact hF w6 _ _ _ _ _ k06 g4 (by omega) (by omega) (by omega) b8 h9 hb4 (j4.get hb3 (by simp)) (by omega) (by omega) (by omega)
    · refine newB fun y2 v2 hy2 hb2 j2 => ?_
      have g2 := g1.trans' j2
      have sz2 := j2.size
      have szg2 := g1.size
      have lt2 := lt_of_blk hb2
      rw [r7 _ g2, r5 _ g2, r6 _ g2, r4 _ g2]
      refine ⟨rfl, rfl, rfl, rfl, ?_⟩
      refine ⟨?_, ?_⟩
      · refine end_spec b d false rfl fun v3 j3 => ?_
        have g3 := g2.trans' j3
        have sz3 := j3.size
        have szg3 := g2.size
        refine newB fun y4 v4 hy4 hb4 j4 => ?_
        have g4 := g3.trans' j4
        have sz4 := j4.size
        have szg4 := g3.size
        have lt4 := lt_of_blk hb4
        rw [r7 _ g4, r5 _ g4, r6 _ g4, r4 _ g4]
        refine ⟨rfl, rfl, rfl, rfl, ?_⟩
        exact hF w6 _ _ _ _ _ k06 g4 (by omega) (by omega) (by omega) b8 h9 (j4.get (j3.get hb2 (by simp)) (by simp)) hb4 (by omega) (by omega) (by omega)
      · refine newB fun y3 v3 hy3 hb3 j3 => ?_
        have g3 := g2.trans' j3
        have sz3 := j3.size
        have szg3 := g2.size
        have lt3 := lt_of_blk hb3
        rw [r7 _ g3, r5 _ g3, r6 _ g3, r4 _ g3]
        refine ⟨rfl, rfl, rfl, rfl, ?_⟩
        refine end_spec b d false rfl fun v4 j4 => ?_
        have g4 := g3.trans' j4
        have sz4 := j4.size
        have szg4 := g3.size
        exact hF w6 _ _ _ _ _ k06 g4 (by omega) (by omega) (by omega) b8 h9 (j4.get (j3.get hb2 (by simp)) (by simp)) (j4.get hb3 (by simp)) (by omega) (by omega) (by omega)
    · refine newB fun y2 v2 hy2 hb2 j2 => ?_
      have g2 := g1.trans' j2
      have sz2 := j2.size
      have szg2 := g1.size
      have lt2 := lt_of_blk hb2
      rw [r7 _ g2, r5 _ g2, r6 _ g2, r4 _ g2]
      refine ⟨rfl, rfl, rfl, rfl, ?_⟩
      refine ⟨?_, ?_⟩
      · refine end_spec b d false rfl fun v3 j3 => ?_
        have g3 := g2.trans' j3
        have sz3 := j3.size
        have szg3 := g2.size
        refine newB fun y4 v4 hy4 hb4 j4 => ?_
        have g4 := g3.trans' j4
        have sz4 := j4.size
        have szg4 := g3.size
        have lt4 := lt_of_blk hb4
        rw [r7 _ g4, r5 _ g4, r6 _ g4, r4 _ g4]
        refine ⟨rfl, rfl, rfl, rfl, ?_⟩
        exact hF w6 _ _ _ _ _ k06 g4 (by omega) (by omega) (by omega) b8 h9 hb4 (j4.get (j3.get hb2 (by simp)) (by simp)) (by omega) (by omega) (by omega)
      · refine newB fun y3 v3 hy3 hb3 j3 => ?_
        have g3 := g2.trans' j3
        have sz3 := j3.size
        have szg3 := g2.size
        have lt3 := lt_of_blk hb3
        rw [r7 _ g3, r5 _ g3, r6 _ g3, r4 _ g3]
        refine ⟨rfl, rfl, rfl, rfl, ?_⟩
        refine end_spec b d false rfl fun v4 j4 => ?_
        have g4 := g3.trans' j4
        have sz4 := j4.size
        have szg4 := g3.size
        exact hF w6 _ _ _ _ _ k06 g4 (by omega) (by omega) (by omega) b8 h9 (j4.get hb3 (by simp)) (j4.get (j3.get hb2 (by simp)) (by simp)) (by omega) (by omega) (by omega)
  · refine newB fun y1 v1 hy1 hb1 j1 => ?_
    have g1 := g0.trans' j1
    have sz1 := j1.size
    have szg1 := g0.size
    have lt1 := lt_of_blk hb1
    rw [r7 _ g1, r5 _ g1, r6 _ g1, r4 _ g1]
    refine ⟨rfl, rfl, rfl, rfl, ?_⟩
    refine ⟨?_, ?_⟩
    · refine end_spec a c true rfl fun v2 j2 => ?_
      have g2 := g1.trans' j2
      have sz2 := j2.size
      have szg2 := g1.size
      rw [r7 _ g2, r5 _ g2]
      refine ⟨rfl, rfl, ?_⟩
      refine ⟨?_, ?_⟩
      · refine end_spec b d false rfl fun v3 j3 => ?_
        have g3 := g2.trans' j3
        have sz3 := j3.size
        have szg3 := g2.size
        refine newB fun y4 v4 hy4 hb4 j4 => ?_
        have g4 := g3.trans' j4
        have sz4 := j4.size
        have szg4 := g3.size
        have lt4 := lt_of_blk hb4
        rw [r7 _ g4, r5 _ g4, r6 _ g4, r4 _ g4]
        refine ⟨rfl, rfl, rfl, rfl, ?_⟩
        exact hF w6 _ _ _ _ _ k06 g4 (by omega) (by omega) (by omega) b8 h9 (j4.get (j3.get (j2.get hb1 (by simp)) (by simp)) (by simp)) hb4 (by omega) (by omega) (by omega)
      · refine newB fun y3 v3 hy3 hb3 j3 => ?_
        have g3 := g2.trans' j3
        have sz3 := j3.size
        have szg3 := g2.size
        have lt3 := lt_of_blk hb3
        rw [r7 _ g3, r5 _ g3, r6 _ g3, r4 _ g3]
        refine ⟨rfl, rfl, rfl, rfl, ?_⟩
        refine end_spec b d false rfl fun v4 j4 => ?_
        have g4 := g3.trans' j4
        have sz4 := j4.size
        have szg4 := g3.size
        exact hF w6 _ _ _ _ _ k06 g4 (by omega) (by omega) (by omega) b8 h9 (j4.get (j3.get (j2.get hb1 (by simp)) (by simp)) (by simp)) (j4.get hb3 (by simp)) (by omega) (by omega) (by omega)
    · refine newB fun y2 v2 hy2 hb2 j2 => ?_
      have g2 := g1.trans' j2
      have sz2 := j2.size
      have szg2 := g1.size
      have lt2 := lt_of_blk hb2
      rw [r7 _ g2, r5 _ g2, r6 _ g2, r4 _ g2]
      refine ⟨rfl, rfl, rfl, rfl, ?_⟩
      refine end_spec a c true rfl fun v3 j3 => ?_
      have g3 := g2.trans' j3
      have sz3 := j3.size
      have szg3 := g2.size
      rw [r7 _ g3, r5 _ g3]
      refine ⟨rfl, rfl, ?_⟩
      refine end_spec b d false rfl fun v4 j4 => ?_
      have g4 := g3.trans' j4
      have sz4 := j4.size
      have szg4 := g3.size
      exact hF w6 _ _ _ _ _ k06 g4 (by omega) (by omega) (by omega) b8 h9 (j4.get (j3.get (j2.get hb1 (by simp)) (by simp)) (by simp)) (j4.get (j3.get hb2 (by simp)) (by simp)) (by omega) (by omega) (by omega)
  · refine newB fun y1 v1 hy1 hb1 j1 => ?_
    have g1 := g0.trans' j1
    have sz1 := j1.size
    have szg1 := g0.size
    have lt1 := lt_of_blk hb1
    rw [r7 _ g1, r5 _ g1, r6 _ g1, r4 _ g1]
    refine ⟨rfl, rfl, rfl, rfl, ?_⟩
    refine ⟨?_, ?_⟩
    · refine end_spec a c true rfl fun v2 j2 => ?_
      have g2 := g1.trans' j2
      have sz2 := j2.size
      have szg2 := g1.size
      rw [r7 _ g2, r5 _ g2]
      refine ⟨rfl, rfl, ?_⟩
      refine ⟨?_, ?_⟩
      · refine end_spec b d false rfl fun v3 j3 => ?_
        have g3 := g2.trans' j3
        have sz3 := j3.size
        have szg3 := g2.size
        refine newB fun y4 v4 hy4 hb4 j4 => ?_
        have g4 := g3.trans' j4
        have sz4 := j4.size
        have szg4 := g3.size
        have lt4 := lt_of_blk hb4
        rw [r7 _ g4, r5 _ g4, r6 _ g4, r4 _ g4]
        refine ⟨rfl, rfl, rfl, rfl, ?_⟩
        exact hF w6 _ _ _ _ _ k06 g4 (by omega) (by omega) (by omega) b8 h9 hb4 (j4.get (j3.get (j2.get hb1 (by simp)) (by simp)) (by simp)) (by omega) (by omega) (by omega)
      · refine newB fun y3 v3 hy3 hb3 j3 => ?_
        have g3 := g2.trans' j3
        have sz3 := j3.size
        have szg3 := g2.size
        have lt3 := lt_of_blk hb3
        rw [r7 _ g3, r5 _ g3, r6 _ g3, r4 _ g3]
        refine ⟨rfl, rfl, rfl, rfl, ?_⟩
        refine end_spec b d false rfl fun v4 j4 => ?_
        have g4 := g3.trans' j4
        have sz4 := j4.size
        have szg4 := g3.size
        exact hF w6 _ _ _ _ _ k06 g4 (by omega) (by omega) (by omega) b8 h9 (j4.get hb3 (by simp)) (j4.get (j3.get (j2.get hb1 (by simp)) (by simp)) (by simp)) (by omega) (by omega) (by omega)
    · refine newB fun y2 v2 hy2 hb2 j2 => ?_
      have g2 := g1.trans' j2
      have sz2 := j2.size
      have szg2 := g1.size
      have lt2 := lt_of_blk hb2
      rw [r7 _ g2, r5 _ g2, r6 _ g2, r4 _ g2]
      refine ⟨rfl, rfl, rfl, rfl, ?_⟩
      refine end_spec a c true rfl fun v3 j3 => ?_
      have g3 := g2.trans' j3
      have sz3 := j3.size
      have szg3 := g2.size
      rw [r7 _ g3, r5 _ g3]
      refine ⟨rfl, rfl, ?_⟩
      refine end_spec b d false rfl fun v4 j4 => ?_
      have g4 := g3.trans' j4
      have sz4 := j4.size
      have szg4 := g3.size
      exact hF w6 _ _ _ _ _ k06 g4 (by omega) (by omega) (by omega) b8 h9 (j4.get (j3.get hb2 (by simp)) (by simp)) (j4.get (j3.get (j2.get hb1 (by simp)) (by simp)) (by simp)) (by omega) (by omega) (by omega)
end Go.Proofs

/- Layer 22: what two ranges say together, by the document. (Written by gen_nwr22.py.) -/
set_option maxRecDepth 100000
set_option linter.unusedVariables false
set_option linter.unusedSimpArgs false
namespace Go.Proofs
open Go Go.Q
section
variable {w wj : World} {x8 x9 x11 x12 : Nat} {A B : Bd} {R : Value → World → Prop}
theorem rnarrow_s0 (h : NB w wj x8 x9 x11 x12 A B) (ha : A.has = true) (hb : B.has = true) (hR : ∀ w', Kp [] w w' → R (.tuple #[bdA A, bdA B, .bool (bothV A B)]) w') :
    ref21_Narrow_s0 R (.pointer (some ⟨x8, 0, none⟩)) (.pointer (some ⟨x9, 0, none⟩)) (.pointer (some ⟨x11, 0, none⟩)) (.pointer (some ⟨x12, 0, none⟩)) wj := by
  unfold ref21_Narrow_s0
  rw [fa_p, ldP (k := 3) h.b11 (bd_val A) (by simp [bC, valV]), fa_p, ldP (k := 3) h.b12 (bd_val B) (by simp [bC, valV])]
  refine dCompare_spec A.val B.val fun w1 k1 => ?_
  have h1 := (h.keep k1).keep kp_drew
  have e : bothV A B = decide (cmpV A.val B.val < 0 ∨ cmpV A.val B.val = 0 ∧ A.open_ = false ∧ B.open_ = false) := by
    unfold bothV; rw [if_neg (by simp [ha, hb])]
  rw [e] at hR
  rw [ldA (k := 5) h1.b11 rfl, ldA (k := 5) h1.b12 rfl]
  simp only [bq_lss, bV_b, decide_eq_true_eq, decide_eq_false_iff_not, bq_eql]
  refine ⟨fun hc => ?_, fun hc => ⟨fun h0 => ?_, fun h0 => ?_⟩⟩
  · refine nw_ret h1 fun w' hk' => ?_
    have := hR w' hk'
    rw [decide_eq_true (.inl hc)] at this
    exact this
  · rw [fa_p, ldF (x := .bool A.open_) h1.b11 rfl]
    simp only [un_not, bV_b]
    refine ⟨fun ho => ?_, fun ho => ?_⟩
    · have ho : A.open_ = false := by simpa using ho
      rw [fa_p, ldF (x := .bool B.open_) h1.b12 rfl]
      simp only [un_not, stb_not]
      refine h1.st fun w2 k2 c8 c9 c12 => ?_
      have := h.l89
      have := h.l8
      have := h.l12
      rw [ldF (x := .bool B.open_) c12 rfl, ldA (k := 5) c12 rfl]
      refine ⟨trivial, rfl, rfl, ?_⟩
      rw [stA (k := 5) c9 (by rw [zcBd]; rfl) rfl (bC_one B)]
      have hne : ¬ x9 = x12 := by omega
      rw [ldF (x := .bool B.open_) (by rw [heap_ne hne]; exact c12) rfl, lvBd (v := A) (by rw [heap_ne (by omega)]; exact c8), lvBd (v := B) (heap_self (live_of c9))]
      refine ⟨trivial, rfl, ?_⟩
      have := hR _ (k2.setBlk (.inr (show w.heap.size ≤ x9 by omega)) (.cells (bC B).toArray 37))
      have e2 : decide (cmpV A.val B.val < 0 ∨ cmpV A.val B.val = 0 ∧ A.open_ = false ∧ B.open_ = false) = !B.open_ := by
        cases hbo : B.open_
        · rw [decide_eq_true (.inr ⟨h0, ho, rfl⟩)]; rfl
        · rw [decide_eq_false (by rintro (hh | ⟨_, _, hh⟩); exact hc hh; cases hh)]; rfl
      rw [e2] at this
      exact this
    · have ho : A.open_ = true := by simpa using ho
      refine nw_ret h1 fun w' hk' => ?_
      have := hR w' hk'
      rw [decide_eq_false (by rintro (hh | ⟨_, hh, _⟩); exact hc hh; rw [ho] at hh; cases hh)] at this
      exact this
  · refine nw_ret h1 fun w' hk' => ?_
    have := hR w' hk'
    rw [decide_eq_false (by rintro (hh | ⟨hh, _⟩); exact hc hh; exact h0 hh)] at this
    exact this
end
theorem rnarrow_spec {w : World} (a b c d : Bd) {R : Value → World → Prop} (hR : ∀ w', Kp [] w w' → R (.tuple #[bdA (tightV a c 1), bdA (tightV b d (-1)), .bool (narrowV a b c d)]) w') : callG Try.prog 30 #[bdA a, bdA b, bdA c, bdA d] w R := by
  refine rnarrow_orders fun wb w' x8 x9 x11 x12 kb k' l89 l8 l9 b8 b9 b11 b12 l11 l12 ne => ?_
  unfold narrowV at hR
  generalize tightV a c 1 = A at hR ⊢
  generalize tightV b d (-1) = B at hR ⊢
  unfold rnwF
  have kk := kb.trans' k'
  have s' := kb.size
  have st1' : ∀ K : World → Prop, stn 5 (.pointer (some ⟨x11, 0, none⟩)) (bdA A) w' K = K (setBlk w' x11 (.cells (bC A).toArray 37)) := fun K => stA b11 (by rw [zcBd]; rfl) rfl (bC_one A)
  rw [st1']
  obtain ⟨w1, hw1⟩ : ∃ w1, w1 = setBlk w' x11 (.cells (bC A).toArray 37) := ⟨_, rfl⟩
  have c12 : w1.heap[x12]? = some (.cells (zc Try.prog 37) 37) := by rw [hw1, heap_ne ne]; exact b12
  have c11 : w1.heap[x11]? = some (.cells (bC A).toArray 37) := by rw [hw1]; exact heap_self (live_of b11)
  have k1 : Kp [] wb w1 := by rw [hw1]; exact k'.setBlk (.inr l11) _
  rw [← hw1]
  have st2' : ∀ K : World → Prop, stn 5 (.pointer (some ⟨x12, 0, none⟩)) (bdA B) w1 K = K (setBlk w1 x12 (.cells (bC B).toArray 37)) := fun K => stA c12 (by rw [zcBd]; rfl) rfl (bC_one B)
  rw [st2']
  obtain ⟨w2, hw2⟩ : ∃ w2, w2 = setBlk w1 x12 (.cells (bC B).toArray 37) := ⟨_, rfl⟩
  have d11 : w2.heap[x11]? = some (.cells (bC A).toArray 37) := by rw [hw2, heap_ne (Ne.symm ne)]; exact c11
  have d12 : w2.heap[x12]? = some (.cells (bC B).toArray 37) := by rw [hw2]; exact heap_self (live_of c12)
  have k2 : Kp [] wb w2 := by rw [hw2]; exact k1.setBlk (.inr l12) _
  rw [← hw2]
  have hn : NB w w2 x8 x9 x11 x12 A B := ⟨kb.trans' k2, k2.get b8 (by simp), k2.get b9 (by simp), d11, d12, l8, l89, by omega, by omega⟩
  have hnd := hn.keep kp_drew
  have rest : bothV A B = true → (ldn 5 (.pointer (some ⟨x11, 0, none⟩)) w2.drew fun t28 => ldn 5 (.pointer (some ⟨x12, 0, none⟩)) w2.drew fun t29 => stn 5 (.pointer (some ⟨x8, 0, none⟩)) t28 w2.drew fun w =>
      ldn 5 (.pointer (some ⟨x12, 0, none⟩)) w (fun u => u = t29) ∧
      stn 5 (.pointer (some ⟨x9, 0, none⟩)) t29 w fun w =>
      qG Try.prog (do loadVar 37 (← asAddr (.pointer (some ⟨x8, 0, none⟩)))) w fun r8 =>
      qG Try.prog (do loadVar 37 (← asAddr (.pointer (some ⟨x9, 0, none⟩)))) w fun r9 =>
      R (.tuple #[r8, r9, .bool true]) w) := by
    intro hb
    rw [ldA (k := 5) hnd.b11 rfl, ldA (k := 5) hnd.b12 rfl]
    rw [hb] at hR
    exact nw_ret hnd hR
  rw [fa_p, ldF (x := .bool A.has) d11 rfl]
  simp only [un_not, bV_b]
  refine ⟨fun ha => rest (by unfold bothV; rw [if_pos (.inl (by simpa using ha))]), fun ha => ?_⟩
  rw [fa_p, ldF (x := .bool B.has) d12 rfl]
  simp only [un_not, bV_b]
  refine ⟨fun hb => rest (by unfold bothV; rw [if_pos (.inr (by simpa using hb))]), fun hb => ?_⟩
  exact rnarrow_s0 hn (by simpa using ha) (by simpa using hb) hR
end Go.Proofs

/- Layer 22: the document's list of values with one more. -/
set_option maxRecDepth 100000
set_option linter.unusedVariables false
set_option linter.unusedSimpArgs false
namespace Go.Proofs
open Go Go.Q
theorem tw_eqV {x : V3} : ∀ {l : List V3} {k : Nat}, k ≤ l.length → (∀ j (h : j < l.length), j < k → leV l[j] x) → (∀ h : k < l.length, ¬ leV l[k] x) → insV l x = l.take k ++ [x] ++ l.drop k := by
  have key : ∀ {l : List V3} {k : Nat}, k ≤ l.length → (∀ j (h : j < l.length), j < k → leV l[j] x) → (∀ h : k < l.length, ¬ leV l[k] x) → l.takeWhile (fun y => decide (leV y x)) = l.take k ∧ l.dropWhile (fun y => decide (leV y x)) = l.drop k := by
    intro l
    induction l with
    | nil => intro k hk _ _; simp
    | cons y r ih =>
      intro k hk h1 h2
      cases k with
      | zero =>
        have := h2 (by simp)
        simp only [List.getElem_cons_zero] at this
        rw [List.takeWhile_cons_of_neg (by simpa using this), List.dropWhile_cons_of_neg (by simpa using this)]
        simp
      | succ k =>
        have h0 := h1 0 (by simp) (by omega)
        simp only [List.getElem_cons_zero] at h0
        obtain ⟨g1, g2⟩ := ih (k := k) (by simpa using hk) (fun j hj hjk => by have := h1 (j + 1) (by simpa using hj) (by omega); simpa using this) (fun h => by have := h2 (by simpa using h); simpa using this)
        rw [List.takeWhile_cons_of_pos (by simpa using h0), List.dropWhile_cons_of_pos (by simpa using h0), g1, g2]
        simp
  intro l k hk h1 h2
  obtain ⟨g1, g2⟩ := key hk h1 h2
  unfold insV
  rw [g1, g2]
theorem cmpV_le {a b : V3} : cmpV a b ≤ 0 ↔ leV a b := by
  rcases cmpV_cases a b with ⟨h1, h2⟩ | ⟨h1, h2⟩ | ⟨h1, h2⟩
  · exact ⟨fun _ => ltV_asymm h2, fun _ => by omega⟩
  · subst h2; exact ⟨fun _ => ltV_irrefl a, fun _ => by omega⟩
  · exact ⟨fun h => by omega, fun h => absurd h2 h⟩
theorem sorted_spec {w : World} {x0 : Value} {l : List V3} (hr : Rd w x0 3 (l.map valV)) (hl : l.length < 2 ^ 30) (v : V3) {R : Value → World → Prop} (hR : ∀ out w', Fr w w' out 3 ((insV l v).map valV) → R out w') : callG Try.prog 37 #[x0, valA v] w R := by
  refine ref22_sorted_call ?_
  unfold ref22_sorted ref22_sorted_s3 valA
  refine argB fun x3 w1 hx3 h3 k1 => ?_
  unfold ref22_sorted_L2
  have hlm : (l.map valV).length = l.length := by simp
  refine loop_inv (fun m xs wi => ∃ k, k ≤ l.length ∧ m = l.length - k ∧ xs = [x0, .pointer (some ⟨x3, 0, none⟩), .int .i64 (k : Nat)] ∧ Kp [] w1 wi ∧ ∀ j (h : j < l.length), j < k → leV l[j] v) ?_ (m := l.length) ⟨0, by omega, rfl, rfl, Kp.refl _ _, fun j _ h => by omega⟩
  rintro m N xs wi ⟨k, hk, rfl, rfl, hki, hb⟩ hN
  have hkw : IntKind.i64.wrap ((k : Int) + 1) = ((k + 1 : Nat) : Int) := by rw [w64 (by omega) (by omega)]; simp
  have s0 : ∀ w', Kp [] w1 w' → (∀ h : k < l.length, ¬ leV l[k] v) → ref22_sorted_s0 R x0 (.pointer (some ⟨x3, 0, none⟩)) (.int .i64 (k : Nat)) w' := by
    intro w' hk' hst
    have hw' := k1.trans' hk'
    have hrw := hr.keep hw'
    obtain ⟨v1, r1, e1⟩ := hrw.take (p := k) (by rw [hlm]; exact hk) (kd := .i64)
    unfold ref22_sorted_s0
    rw [e1, zcVal]
    refine fr_app (k := 3) (rows := []) (bytes := 32) (z := [.int .i64 0, .int .i64 0, .string (str [])]) (x := v1) (w0 := w') (G := (l.map valV).take k) (fr_nil (Kp.refl _ _)) (by omega) rfl (fun y hy => r1.row hy) ?_ (fun K' hK' => r1.src K' hK') (by simp; omega) (by simp; omega) fun t44 w2 hf2 => ?_
    · rw [← List.map_take]; exact vC_one _
    have hk2 := hf2.kp
    rw [ldA (k := 3) ((hk'.trans' hk2).get h3 (by simp)) rfl]
    refine bsl_rowN (n := 3) (cs := valV v) (by omega) rfl rfl fun t51 w3 hf3 => ?_
    refine fr_push (wx := w3) (hf2.keep hf3.kp) hf3.rd (by omega) rfl (by simp [valV]) (by simp; omega) (by simp; omega) fun t52 w4 hf4 => ?_
    obtain ⟨v2, r2, e2⟩ := (hrw.keep hf4.kp).drop (p := k) (by rw [hlm]; exact hk) (kd := .i64)
    rw [e2]
    refine fr_app (k := 3) (bytes := 32) (z := [.int .i64 0, .int .i64 0, .string (str [])]) (x := v2) (G := (l.map valV).drop k) hf4 (by omega) rfl (fun y hy => r2.row hy) ?_ (fun K' hK' => r2.src K' hK') (by simp; omega) (by simp; omega) fun t57 w5 hf5 => ?_
    · rw [← List.map_drop]; exact vC_one _
    refine hR t57 w5 ?_
    rw [tw_eqV hk hb hst]
    simp only [List.map_append, List.map_take, List.map_drop, List.map_cons, List.map_nil]
    have := hf5.base hw'
    simpa using this
  have hri := hr.keep (k1.trans' hki)
  unfold ref22_sorted_L2F ref22_sorted_b1
  dsimp only
  rw [hri.lenL, hlm]
  simp only [bq_lss, bV_b, decide_eq_true_eq, decide_eq_false_iff_not]
  refine ⟨fun hlt => ?_, fun hge => s0 _ hki.drew fun h => by omega⟩
  have hlt : k < l.length := by omega
  obtain ⟨q, q1, q2, _⟩ := (hri.keep kp_drew).get (i := k) (by simpa using hlt)
  have hrow : (l.map valV)[k]'(by simpa using hlt) = valV l[k] := by simp
  rw [hrow] at q2
  rw [q1, q2, ldA (k := 3) (hki.drew.get h3 (by simp)) rfl]
  refine dCompare_spec l[k] v fun w4 k4 => ?_
  have g4 := hki.drew.trans' k4
  simp only [bq_leq, bV_b, decide_eq_true_eq, decide_eq_false_iff_not, bq_add, hkw]
  refine ⟨fun hc => ?_, fun hc => s0 w4 g4 fun _ hh => hc (cmpV_le.2 hh)⟩
  refine hN (l.length - (k + 1)) _ _ (by omega) ⟨k + 1, by omega, rfl, rfl, g4, fun j hj hjk => ?_⟩
  by_cases e : j = k
  · subst e; exact cmpV_le.1 hc
  · exact hb j hj (by omega)
end Go.Proofs

/- Indexes as values: buckets that can be read; buckets in a slice of one's own; buckets that are filled. -/
set_option linter.unusedVariables false
set_option linter.unusedSimpArgs false
namespace Go.Q
/-- a value whose numbers are numbers of 64 bits -/
structure V3.Rg (v : V3) : Prop where
  k0 : -9223372036854775808 ≤ v.k
  k1 : v.k < 9223372036854775808
  n0 : -9223372036854775808 ≤ v.n
  n1 : v.n < 9223372036854775808
theorem V3.Rg.wf {v : V3} (h : v.Rg) (hok : v.ok = true) : v.Wf := by
  refine ⟨h.k0, h.k1, h.n0, h.n1, ?_⟩
  unfold V3.ok at hok
  split at hok
  · simp at hok; rw [hok.2]; decide
  · split at hok
    · simp at hok; rw [hok]; decide
    · split at hok
      · simp at hok; omega
      · split at hok
        · simp at hok; rw [hok.2]; decide
        · cases hok
def cel (v : Value) : List Value := [v]
def Ix (w : World) (o : Value) (bs : List (List E)) : Prop :=
  ∃ vs : List Value, Rd w o 1 (vs.map cel) ∧ vs.length = bs.length ∧ ∀ k (h : k < bs.length) v, vs[k]? = some v → Rd w v 4 (bs[k].map eC)
def IxO (w : World) (o : Value) (bs : List (List E)) (So X : List Nat) : Prop :=
  (∃ vs : List Value, RowsAt w o 1 (vs.map cel) So ∧ vs.length = bs.length ∧ ∀ k (h : k < bs.length) v, vs[k]? = some v → ∃ S, ArgAt w v 4 (bs[k].map eC) S ∧ ∀ x ∈ S, x ∉ So ∧ x ∉ X) ∧ ∀ x ∈ So, x ∉ X
section
variable {w0 w w' : World} {o : Value} {bs : List (List E)}
theorem Ix.keep (h : Ix w o bs) (hk : Kp [] w w') : Ix w' o bs := by
  obtain ⟨vs, h1, h2, h3⟩ := h
  exact ⟨vs, h1.keep hk, h2, fun k hlt v hv => (h3 k hlt v hv).keep hk⟩
theorem Ix.lenL (h : Ix w o bs) {K : Value → Prop} : lenL o K = K (.int .i64 bs.length) := by
  obtain ⟨vs, h1, h2, h3⟩ := h
  rw [h1.lenL, List.length_map, h2]
theorem Ix.one (h : Ix w o bs) : Q.one o = true := by
  obtain ⟨vs, h1, h2, h3⟩ := h
  obtain ⟨a, c, hv⟩ := h1.slice
  rw [hv]; rfl
/-- a row of one cell is read, now or later -/
theorem Rd.oneK {v : Value} {rows : List (List Value)} (h : Rd w v 1 rows) {i : Nat} (hi : i < rows.length) {x : Value} (hx : rows[i] = [x]) : ∃ p, (∀ kd K, ia 1 v (.int kd i) K = K p) ∧ ∀ w', Kp [] w w' → ∀ K : Value → Prop, ld1 p w' K = K x := by
  obtain ⟨bl, o, T, c, fr, h1, h2, h3, h4, h5⟩ := h.at hi
  refine ⟨_, h2, fun w' hk K => ?_⟩
  have := h5 0 (by omega)
  rw [hx, Nat.add_zero, List.getElem?_cons_zero] at this
  exact ldF (hk.get h1 (by simp)) this
/-- a row is read, whole or in part, now or later -/
theorem Rd.rowK {v : Value} {k : Nat} {rows : List (List Value)} (h : Rd w v k rows) {i : Nat} (hi : i < rows.length) : ∃ bl o, (∀ kd K, ia k v (.int kd i) K = K (.pointer (some ⟨bl, o, none⟩))) ∧ ∀ w', Kp [] w w' → (∀ K : Value → Prop, ldn k (.pointer (some ⟨bl, o, none⟩)) w' K = K (.agg rows[i].toArray)) ∧
    (∀ j x, j < k → rows[i][j]? = some x → ∀ K : Value → Prop, ld1 (.pointer (some ⟨bl, o + j, none⟩)) w' K = K x) ∧ ∀ j n part, j + n ≤ k → rows[i].toArray.extract j (j + n) = part → ∀ K : Value → Prop, ldn n (.pointer (some ⟨bl, o + j, none⟩)) w' K = K (.agg part) := by
  obtain ⟨bl, o, T, c, fr, h1, h2, h3, h4, h5⟩ := h.at hi
  refine ⟨bl, o, h2, fun w' hk => ⟨fun K => ldP (hk.get h1 (by simp)) h4 h3, fun j x hj hx K => ldF (hk.get h1 (by simp)) (by rw [h5 j hj]; exact hx), fun j n part hjn hp K => ldP (hk.get h1 (by simp)) ?_ (by omega)⟩⟩
  rw [← hp, ← h4]
  apply Array.toList_inj.1
  simp only [Array.toList_extract, List.extract_eq_take_drop, List.drop_take, List.take_take, List.drop_drop]
  congr 1
  omega
theorem Ix.at (h : Ix w o bs) {k : Nat} (hk : k < bs.length) : ∃ p v, (∀ K, ia 1 o (.int .i64 k) K = K p) ∧ (∀ w', Kp [] w w' → ∀ K : Value → Prop, ld1 p w' K = K v) ∧ Rd w v 4 (bs[k].map eC) := by
  obtain ⟨vs, h1, h2, h3⟩ := h
  have hkv : k < (vs.map cel).length := by simpa [h2] using hk
  obtain ⟨p, g1, g2⟩ := h1.oneK (i := k) hkv (x := vs[k]) (by simp [cel])
  exact ⟨p, vs[k], fun K => g1 .i64 K, g2, h3 k hk _ (by simp [h2, hk])⟩
theorem IxO.ix {So X : List Nat} (h : IxO w o bs So X) : Ix w o bs := by
  obtain ⟨⟨vs, h1, h2, h3⟩, _⟩ := h
  refine ⟨vs, ⟨So, .inr h1.rd⟩, h2, fun k hlt v hv => ?_⟩
  obtain ⟨S, h4, _⟩ := h3 k hlt v hv
  exact ⟨S, h4⟩
theorem IxO.keepS {So X S : List Nat} (h : IxO w o bs So X) (hk : Kp S w w') (hS : ∀ x ∈ S, x ∈ X) : IxO w' o bs So X := by
  obtain ⟨⟨vs, h1, h2, h3⟩, h0⟩ := h
  refine ⟨⟨vs, h1.keep hk fun x hx hm => h0 x hx (hS x hm), h2, fun k hlt v hv => ?_⟩, h0⟩
  obtain ⟨S, h4, h5⟩ := h3 k hlt v hv
  exact ⟨S, h4.keep hk fun x hx hm => (h5 x hx).2 (hS x hm), h5⟩
theorem IxO.keep {So X : List Nat} (h : IxO w o bs So X) (hk : Kp [] w w') : IxO w' o bs So X := h.keepS hk (by simp)
theorem IxO.less {So X Y : List Nat} (h : IxO w o bs So X) (hY : ∀ y ∈ Y, y ∈ X) : IxO w o bs So Y := by
  obtain ⟨⟨vs, h1, h2, h3⟩, h0⟩ := h
  refine ⟨⟨vs, h1, h2, fun k hlt v hv => ?_⟩, fun x hx hm => h0 x hx (hY x hm)⟩
  obtain ⟨S, h4, h5⟩ := h3 k hlt v hv
  exact ⟨S, h4, fun x hx => ⟨(h5 x hx).1, fun hm => (h5 x hx).2 (hY x hm)⟩⟩
theorem eC_one (b : List E) : ((b.map eC).flatten).all Q.one = true := by
  rw [List.all_eq_true]
  intro x hx
  obtain ⟨r, hr, hxr⟩ := List.mem_flatten.1 hx
  obtain ⟨y, _, rfl⟩ := List.mem_map.1 hr
  simp only [eC, valV, List.cons_append, List.nil_append, List.mem_cons, List.not_mem_nil, or_false] at hxr
  rcases hxr with rfl | rfl | rfl | rfl <;> rfl
theorem argLt {v : Value} {k : Nat} {rows : List (List Value)} {S : List Nat} (h : ArgAt w v k rows S) : ∃ S', ArgAt w v k rows S' ∧ ∀ x ∈ S', x ∈ S ∧ x < w.heap.size := by
  rcases h with h | h
  · exact ⟨[], .inl h, by simp⟩
  · rcases h with h | ⟨bl, o, cap, c, T, fr, h1, h2, h3, h4⟩
    · exact ⟨[], .inr (.inl h), by simp⟩
    · exact ⟨S, .inr (.inr ⟨bl, o, cap, c, T, fr, h1, h2, h3, h4⟩), fun x hx => ⟨hx, by rw [h2] at hx; simp at hx; rw [hx]; exact lt_of_blk h3⟩⟩
/-- an index whose blocks are none of these -/
def IxX (X : List Nat) (w : World) (o : Value) (bs : List (List E)) : Prop :=
  ∃ vs : List Value, (∃ So, ArgAt w o 1 (vs.map cel) So ∧ ∀ x ∈ So, x ∉ X) ∧ vs.length = bs.length ∧ ∀ k (h : k < bs.length) v, vs[k]? = some v → ∃ S, ArgAt w v 4 (bs[k].map eC) S ∧ ∀ x ∈ S, x ∉ X
theorem IxX.ix {X : List Nat} (h : IxX X w o bs) : Ix w o bs := by
  obtain ⟨vs, ⟨So, h1, _⟩, h2, h3⟩ := h
  refine ⟨vs, ⟨So, h1⟩, h2, fun k hlt v hv => ?_⟩
  obtain ⟨S, h4, _⟩ := h3 k hlt v hv
  exact ⟨S, h4⟩
theorem IxX.keepS {X S : List Nat} (h : IxX X w o bs) (hk : Kp S w w') (hS : ∀ x ∈ S, x ∈ X) : IxX X w' o bs := by
  obtain ⟨vs, ⟨So, h1, h0⟩, h2, h3⟩ := h
  refine ⟨vs, ⟨So, h1.keep hk fun x hx hm => h0 x hx (hS x hm), h0⟩, h2, fun k hlt v hv => ?_⟩
  obtain ⟨S, h4, h5⟩ := h3 k hlt v hv
  exact ⟨S, h4.keep hk fun x hx hm => h5 x hx (hS x hm), h5⟩
theorem IxX.keep {X : List Nat} (h : IxX X w o bs) (hk : Kp [] w w') : IxX X w' o bs := h.keepS hk (by simp)
theorem IxX.more {X Y : List Nat} (h : IxX X w o bs) (hY : ∀ y ∈ Y, y ∈ X ∨ w.heap.size ≤ y) : IxX Y w o bs := by
  obtain ⟨vs, ⟨So, h1, h0⟩, h2, h3⟩ := h
  obtain ⟨So', g1, g2⟩ := argLt h1
  refine ⟨vs, ⟨So', g1, fun x hx hm => ?_⟩, h2, fun k hlt v hv => ?_⟩
  · rcases hY x hm with hm | hm
    · exact h0 x (g2 x hx).1 hm
    · have := (g2 x hx).2; omega
  · obtain ⟨S, h4, h5⟩ := h3 k hlt v hv
    obtain ⟨S', g3, g4⟩ := argLt h4
    refine ⟨S', g3, fun x hx hm => ?_⟩
    rcases hY x hm with hm | hm
    · exact h5 x (g4 x hx).1 hm
    · have := (g4 x hx).2; omega
/-- a bucket of one's own is turned -/
theorem IxO.upd {So X : List Nat} (h : IxO w o bs So X) {k : Nat} (hk : k < bs.length) : ∃ p v, (∀ K, ia 1 o (.int .i64 k) K = K p) ∧ (∀ w1, Kp [] w w1 → ∀ K : Value → Prop, ld1 p w1 K = K v) ∧ Rd w v 4 (bs[k].map eC) ∧
    ∀ w2, Kp [] w w2 → ∀ v' b' S', ArgAt w2 v' 4 (b'.map eC) S' → Q.one v' = true → (∀ x ∈ S', x ∉ So ∧ x ∉ X) → ∀ K : World → Prop, (∀ w3, Kp So w2 w3 → IxO w3 o (bs.set k b') So X → K w3) → st1 p v' w2 K := by
  obtain ⟨⟨vs, h1, h2, h3⟩, h0⟩ := h
  have hkv : k < vs.length := by omega
  obtain ⟨bl, g1, g2, g3, g4⟩ := h1.updK (f := cel) hkv
  obtain ⟨S, g5, g6⟩ := h3 k hk vs[k] (by simp [hkv])
  refine ⟨_, vs[k], g2, fun w1 hk1 K => g3 w1 hk1 0 vs[k] rfl K, ⟨S, g5⟩, fun w2 hk2 v' b' S' hv' hone hS' K hK => ?_⟩
  refine g4 w2 hk2 0 (by omega) v' v' hone rfl K fun w3 hk3 hr => hK w3 hk3 ⟨⟨vs.set k v', hr, by simp [h2], fun j hj v hv => ?_⟩, h0⟩
  simp only [List.length_set] at hj
  by_cases he : k = j
  · subst he
    rw [List.getElem?_set_self hkv] at hv
    injection hv with hv
    subst hv
    refine ⟨S', ?_, hS'⟩
    rw [List.getElem_set_self]
    exact hv'.keep hk3 fun x hx => (hS' x hx).1
  · rw [List.getElem?_set_ne he] at hv
    obtain ⟨S2, q1, q2⟩ := h3 j hj v hv
    refine ⟨S2, ?_, q2⟩
    rw [List.getElem_set_ne he]
    exact (q1.keep hk2 (by simp)).keep hk3 fun x hx => (q2 x hx).1
/-! ### buckets that are filled -/
structure Gro (w0 w : World) (y : Nat) (o : Value) (bs : List (List E)) (So : List Nat) (B : Nat → List Nat) : Prop where
  ex : ∃ vs : List Value, RowsAt w o 1 (vs.map cel) So ∧ vs.length = bs.length ∧ ∀ k (h : k < bs.length) v, vs[k]? = some v → RowsAt w v 4 (bs[k].map eC) (B k)
  so : ∀ x ∈ So, w0.heap.size ≤ x ∧ x ≠ y
  b : ∀ k x, x ∈ B k → w0.heap.size ≤ x ∧ x < w.heap.size ∧ x ∉ So ∧ x ≠ y
  nd : ∀ j k x, j ≠ k → x ∈ B j → x ∉ B k
theorem Gro.keep {y : Nat} {So : List Nat} {B : Nat → List Nat} (h : Gro w0 w y o bs So B) (hk : Kp [] w w') : Gro w0 w' y o bs So B := by
  obtain ⟨⟨vs, h1, h2, h3⟩, h4, h5, h6⟩ := h
  exact ⟨⟨vs, h1.keep hk (by simp), h2, fun k hlt v hv => (h3 k hlt v hv).keep hk (by simp)⟩, h4, fun k x hx => by
    obtain ⟨a, b, c⟩ := h5 k x hx
    exact ⟨a, Nat.lt_of_lt_of_le b hk.size, c⟩, h6⟩
theorem Gro.keepS {y : Nat} {So S : List Nat} {B : Nat → List Nat} (h : Gro w0 w y o bs So B) (hk : Kp S w w') (hS : ∀ x ∈ S, x < w0.heap.size ∨ x = y) : Gro w0 w' y o bs So B := by
  obtain ⟨⟨vs, h1, h2, h3⟩, h4, h5, h6⟩ := h
  exact ⟨⟨vs, h1.keep hk fun x hx hm => by have := h4 x hx; have := hS x hm; omega, h2, fun k hlt v hv => (h3 k hlt v hv).keep hk fun x hx hm => by have := h5 k x hx; have := hS x hm; omega⟩, h4, fun k x hx => by
    obtain ⟨a, b, c⟩ := h5 k x hx
    exact ⟨a, Nat.lt_of_lt_of_le b hk.size, c⟩, h6⟩
theorem Gro.push {e bytes : Nat} {z : List Value} {y : Nat} {So : List Nat} {B : Nat → List Nat} (h : Gro w0 w y o bs So B) (hy : y < w.heap.size) (hz : z.length = 4) (hb : bytes ≤ 64) {k : Nat} (hk : k < bs.length) : ∃ p v, (∀ K, ia 1 o (.int .i64 k) K = K p) ∧ (∀ w1, Kp [] w w1 → ∀ K : Value → Prop, ld1 p w1 K = K v) ∧
    ∀ w1, Kp [] w w1 → ∀ x a, Rd w1 x 4 [eC a] → bs[k].length < 2 ^ 30 → ∀ K : Value → World → Prop, (∀ v' w2 B', Kp (B k) w1 w2 → (∀ K2 : World → Prop, (∀ w3, Kp So w2 w3 → Gro w0 w3 y o (bs.set k (bs[k] ++ [a])) So B' → K2 w3) → st1 p v' w2 K2) → K v' w2) → app e 4 bytes z.toArray v x w1 K := by
  obtain ⟨⟨vs, h1, h2, h3⟩, h4, h5, h6⟩ := h
  have hkv : k < vs.length := by omega
  obtain ⟨bl, g1, g2, g3, g4⟩ := h1.updK (f := cel) hkv
  have g5 := h3 k hk vs[k] (by simp [hkv])
  refine ⟨_, vs[k], g2, fun w1 hk1 K => g3 w1 hk1 0 vs[k] rfl K, fun w1 hk1 x a hx hl K hK => ?_⟩
  have hs1 := hk1.size
  have hm : 2 * (bs[k].length + 1) * bytes ≤ 2 ^ 32 * 64 := Nat.mul_le_mul (by omega) hb
  refine rows_app (g5.keep hk1 (by simp)) (by omega) hz (G := [eC a]) (by simp [eC, valV]) (by simpa using eC_one [a]) (fun K' hK' => hx.src K' hK') (by simp; omega) (by simp; omega) fun v' w2 S' hr hk2 hS' => ?_
  have hs2 := hk2.size
  obtain ⟨va, vc, hva, _⟩ := hr.len
  have hone : Q.one v' = true := by rw [hva]; rfl
  have hS2 : ∀ q ∈ S', w0.heap.size ≤ q ∧ q ∉ So ∧ q ≠ y ∧ ∀ j, j ≠ k → q ∉ B j := by
    intro q hq
    rcases hS' q hq with hq | hq
    · obtain ⟨a1, a2, a3, a4⟩ := h5 k q hq
      exact ⟨a1, a3, a4, fun j hj => h6 k j q (fun h => hj h.symm) hq⟩
    · have hso := h1.lt
      refine ⟨?_, fun hm => by have := hso q hm; omega, by omega, fun j hj hm => by have := (h5 j q hm).2.1; omega⟩
      have := (h4 bl (by rw [g1]; simp)).1
      have := hso bl (by rw [g1]; simp)
      omega
  have hnS : ∀ q ∈ So, q ∉ B k := fun q hq hm => (h5 k q hm).2.2.1 hq
  have hso2 := (h1.keep hk1 (by simp)).keep hk2 hnS
  obtain ⟨bl', g1', g2', g3', g4'⟩ := hso2.updK (f := cel) hkv
  have hbl : bl' = bl := by rw [g1] at g1'; simpa using g1'.symm
  subst hbl
  refine hK v' w2 (fun j => if j = k then S' else B j) hk2 fun K2 hK2 => ?_
  refine g4' w2 (Kp.refl _ _) 0 (by omega) v' v' hone rfl K2 fun w3 hk3 hr3 => hK2 w3 hk3 ⟨⟨vs.set k v', hr3, by simp [h2], fun j hj v hv => ?_⟩, h4, fun j q hq => ?_, fun i j q hij hq => ?_⟩
  · simp only [List.length_set] at hj
    by_cases he : k = j
    · subst he
      rw [List.getElem?_set_self hkv] at hv
      injection hv with hv
      subst hv
      simp only [if_true]
      rw [List.getElem_set_self, List.map_append]
      exact hr.keep hk3 fun q hq => (hS2 q hq).2.1
    · rw [List.getElem?_set_ne he] at hv
      rw [List.getElem_set_ne he]
      have hjk : ¬ j = k := fun h => he h.symm
      simp only [if_neg hjk]
      exact (((h3 j hj v hv).keep hk1 (by simp)).keep hk2 fun q hq => h6 j k q hjk hq).keep hk3 fun q hq => (h5 j q hq).2.2.1
  · have hs3 := hk3.size
    by_cases hj : j = k
    · simp only [if_pos hj] at hq
      obtain ⟨a1, a2, a3, a4⟩ := hS2 q hq
      have := hr.lt q hq
      exact ⟨a1, by omega, a2, a3⟩
    · simp only [if_neg hj] at hq
      obtain ⟨a1, a2, a3, a4⟩ := h5 j q hq
      exact ⟨a1, by omega, a3, a4⟩
  · by_cases hi : i = k
    · have hj : ¬ j = k := fun h => hij (hi.trans h.symm)
      simp only [if_pos hi] at hq
      simp only [if_neg hj]
      exact (hS2 q hq).2.2.2 j hj
    · simp only [if_neg hi] at hq
      by_cases hj : j = k
      · simp only [if_pos hj]
        intro hm
        exact (hS2 q hm).2.2.2 i hi hq
      · simp only [if_neg hj]
        exact h6 i j q hij hq
end
end Go.Q

/- Slices of slices that are read; a block that is written while a slice stands; columns as values. -/
set_option linter.unusedVariables false
set_option linter.unusedSimpArgs false
namespace Go.Q
section
variable {α : Type} {k : Nat} {f : α → List Value} {w0 w w' : World} {o v : Value} {bs : List (List α)} {rows : List (List Value)}
def Nst (k : Nat) (f : α → List Value) (w : World) (o : Value) (bs : List (List α)) : Prop :=
  ∃ vs : List Value, Rd w o 1 (vs.map cel) ∧ vs.length = bs.length ∧ ∀ i (h : i < bs.length) v, vs[i]? = some v → Rd w v k (bs[i].map f)
theorem Nst.keep (h : Nst k f w o bs) (hk : Kp [] w w') : Nst k f w' o bs := by
  obtain ⟨vs, h1, h2, h3⟩ := h
  exact ⟨vs, h1.keep hk, h2, fun i hi v hv => (h3 i hi v hv).keep hk⟩
theorem Nst.lenL (h : Nst k f w o bs) {K : Value → Prop} : lenL o K = K (.int .i64 bs.length) := by
  obtain ⟨vs, h1, h2, h3⟩ := h
  rw [h1.lenL, List.length_map, h2]
theorem Nst.at (h : Nst k f w o bs) {i : Nat} (hi : i < bs.length) : ∃ p v, (∀ K, ia 1 o (.int .i64 i) K = K p) ∧ (∀ w', Kp [] w w' → ∀ K : Value → Prop, ld1 p w' K = K v) ∧ Rd w v k (bs[i].map f) := by
  obtain ⟨vs, h1, h2, h3⟩ := h
  have hkv : i < (vs.map cel).length := by simpa [h2] using hi
  obtain ⟨p, g1, g2⟩ := h1.oneK (i := i) hkv (x := vs[i]'(by omega)) (by simp [cel])
  exact ⟨p, vs[i]'(by omega), fun K => g1 .i64 K, g2, h3 i hi _ (by simp [h2, hi])⟩
/-- a slice of one's own stands while other blocks, elder ones, are written -/
theorem Fr.keepS {S : List Nat} {wb : World} (h : Fr w0 w v k rows) (hk : Kp S w w') (hS : ∀ x ∈ S, x < w0.heap.size) (hb : Kp [] wb w') (hs : wb.heap.size ≤ w0.heap.size) : Fr wb w' v k rows := by
  obtain ⟨Sv, h1, h2⟩ := h.ex
  exact ⟨⟨Sv, h1.keep hk fun x hx hm => by have := h2 x hx; have := hS x hm; omega, fun x hx => by have := h2 x hx; omega⟩, hb⟩
theorem kp_turn {b : Nat} {o o' : Obj} (h : Kp [] (setBlk w0 b o) w) (hb : b < w0.heap.size) : Kp [] (setBlk w0 b o') (setBlk w b o') := by
  have hs := h.size
  simp only [size_setBlk] at hs
  refine ⟨h.os, h.tape, h.output, by simpa using hs, fun c hc _ => ?_⟩
  simp only [size_setBlk] at hc
  by_cases e : b = c
  · subst e
    rw [heap_self (by unfold Live; omega), heap_self (by unfold Live; omega)]
  · have := h.keep c (by simpa using hc) (by simp)
    rw [heap_ne e] at this
    rw [heap_ne e, heap_ne e, this]
theorem Fr.turn {b : Nat} {o o' : Obj} (h : Fr (setBlk w0 b o) w v k rows) (hb : b < w0.heap.size) : Fr (setBlk w0 b o') (setBlk w b o') v k rows :=
  h.keepS (S := [b]) ((Kp.refl _ _).setBlk (.inl (by simp)) _) (by simpa using hb) (kp_turn h.kp hb) (by simp)
theorem kp_in {b : Nat} {o : Obj} (h : Kp [] (setBlk w0 b o) w) (hb : b < w0.heap.size) : w.heap[b]? = some o := h.get (heap_self hb) (by simp)
end
/-! ### columns as values -/
def cC (n d : Int) (v : Value) : List Value := [.int .i64 n, .int .i64 d, v]
def ColX (X : List Nat) (w : World) (cs : List Value) (c : ColV) : Prop := ∃ v, cs = cC c.nulls c.distinct v ∧ one v = true ∧ ∃ S, ArgAt w v 3 (c.steps.map valV) S ∧ ∀ x ∈ S, x ∉ X
section
variable {w w' : World} {X Y S : List Nat} {cs : List Value} {c : ColV}
theorem ColX.keepS (h : ColX X w cs c) (hk : Kp S w w') (hS : ∀ x ∈ S, x ∈ X) : ColX X w' cs c := by
  obtain ⟨v, h1, h0, Sv, h2, h3⟩ := h
  exact ⟨v, h1, h0, Sv, h2.keep hk fun x hx hm => h3 x hx (hS x hm), h3⟩
theorem ColX.keep (h : ColX X w cs c) (hk : Kp [] w w') : ColX X w' cs c := h.keepS hk (by simp)
theorem ColX.more (h : ColX X w cs c) (hY : ∀ y ∈ Y, y ∈ X ∨ w.heap.size ≤ y) : ColX Y w cs c := by
  obtain ⟨v, h1, h0, Sv, h2, h3⟩ := h
  obtain ⟨S', g1, g2⟩ := argLt h2
  refine ⟨v, h1, h0, S', g1, fun x hx hm => ?_⟩
  rcases hY x hm with hm | hm
  · exact h3 x (g2 x hx).1 hm
  · have := (g2 x hx).2; omega
theorem ColX.step (h : ColX X w cs c) (hk : Kp S w w') (hS : ∀ x ∈ S, x ∈ X) (hY : ∀ y ∈ Y, y ∈ X ∨ w.heap.size ≤ y) : ColX Y w' cs c := by
  have h1 : ColX (X ++ Y) w cs c := h.more fun y hy => by
    rcases List.mem_append.1 hy with hy | hy
    · exact .inl hy
    · exact hY y hy
  exact (h1.keepS hk fun x hx => List.mem_append_left _ (hS x hx)).more fun y hy => .inl (List.mem_append_right _ hy)
theorem ColX.len (h : ColX X w cs c) : cs.length = 3 := by obtain ⟨v, h1, _⟩ := h; rw [h1]; rfl
theorem ColX.ones (h : ColX X w cs c) : cs.all one = true := by obtain ⟨v, h1, h2, _⟩ := h; rw [h1]; simp [cC, h2]
/-- what is known of rows, as a value -/
def StatAt (w : World) (val : Value) (st : StatV) : Prop := ∃ o css, val = .agg #[.int .i64 st.rows, o] ∧ one o = true ∧ Rd w o 3 css ∧ css.length = st.cols.length ∧ ∀ i (h : i < st.cols.length) cs, css[i]? = some cs → ColX [] w cs st.cols[i]
theorem StatAt.keep {val : Value} {st : StatV} (h : StatAt w val st) (hk : Kp [] w w') : StatAt w' val st := by
  obtain ⟨o, css, h1, h0, h2, h3, h4⟩ := h
  exact ⟨o, css, h1, h0, h2.keep hk, h3, fun i hi cs hcs => (h4 i hi cs hcs).keep hk⟩
end
end Go.Q

