/- Part of the proof (K3): an engine, rules or contracts of the functions; it states nothing of the claim by itself. -/
import Derived.Test.YtiljkkdhohnpbaaK2
import Derived.Test.YtiljkkdhohnpbaaK1
import Derived.OpenShut
import Derived.WideShapes
import Derived.ChangeSlices

/- Layer 22: the end of a column, as both sides have it: its steps. -/
set_option maxRecDepth 100000
set_option linter.unusedVariables false
set_option linter.unusedSimpArgs false
namespace Go.Proofs
open Go Go.Q
theorem zcCol : zc Try.prog 32 = (cC 0 0 (.slice none 0 0)).toArray := by kernel_rfl
/-- a world in which a column stands in a variable -/
def cB (w2 : World) (x5 : Nat) (n d : Int) (v : Value) : World := setBlk w2 x5 (.cells (cC n d v).toArray 32)
structure CBs (w w2 : World) (x4 x5 : Nat) : Prop where
  kp : Kp [] w w2
  h4 : w2.heap[x4]? = some (.cells (zc Try.prog 32) 32)
  l4 : w.heap.size ≤ x4
  l5 : w.heap.size ≤ x5
  ne : ¬ x5 = x4
  lt : x5 < w2.heap.size
section
variable {w w2 wi : World} {x4 x5 : Nat} {n d : Int} {v v6 : Value} {l : List V3} {R : Value → World → Prop}
theorem CBs.base (hb : CBs w w2 x4 x5) (h : Kp [] (cB w2 x5 n d v) wi) : Kp [] w wi := (hb.kp.setBlk (.inr hb.l5) _).trans' h
theorem CBs.in (hb : CBs w w2 x4 x5) (h : Kp [] (cB w2 x5 n d v) wi) : wi.heap[x5]? = some (.cells (cC n d v).toArray 32) := kp_in h hb.lt
theorem CBs.in4 (hb : CBs w w2 x4 x5) (h : Kp [] (cB w2 x5 n d v) wi) : wi.heap[x4]? = some (.cells (zc Try.prog 32) 32) := h.get (by unfold cB; rw [heap_ne hb.ne]; exact hb.h4) (by simp)
theorem col_ret (hb : CBs w w2 x4 x5) (h1 : Q.one v = true) (hf : Fr (cB w2 x5 n d v) wi v6 3 (l.map valV)) (hR : ∀ w', Fr w w' v6 3 (l.map valV) → R (.agg (cC n d v).toArray) w') :
    ldn 3 (.pointer (some ⟨x5, 0, none⟩)) wi fun t => stn 3 (.pointer (some ⟨x4, 0, none⟩)) t wi fun w => qG Try.prog (do loadVar 32 (← asAddr (.pointer (some ⟨x4, 0, none⟩)))) w fun r4 => R r4 w := by
  have lt4 := lt_of_blk hb.h4
  rw [ldA (k := 3) (hb.in hf.kp) rfl]
  refine retB (by kernel_rfl) (by kernel_rfl) (hb.in4 hf.kp) (by rw [zcCol]; rfl) rfl (by simp [cC, h1]) fun w6 hk6 => ?_
  refine hR w6 (hf.keepS hk6 (by simpa [cB] using lt4) ((hb.base hf.kp).trans hk6 fun x hx hlt => ?_) (by simpa [cB] using hb.kp.size))
  have := hb.l4
  simp at hx
  omega
theorem col_few {xo yo : Operand} {T : TypeId} (hb : CBs w w2 x4 x5) (hf : Fr (cB w2 x5 n d v) wi v6 3 (l.map valV)) {P : Prop} (hP : 9 < l.length → P) (hR : l.length ≤ 9 → ∀ w', Fr w w' v6 3 (l.map valV) → R (.agg (cC n d v6).toArray) w') :
    lenL v6 fun t48 =>
    qG Try.prog (bq .leq T xo yo t48 (.int .i64 9)) wi fun t49 =>
    bV t49
    (fa 2 (.pointer (some ⟨x5, 0, none⟩)) fun t51 =>
    st1 t51 v6 wi fun w =>
    ldn 3 (.pointer (some ⟨x5, 0, none⟩)) w fun t52 =>
    stn 3 (.pointer (some ⟨x4, 0, none⟩)) t52 w fun w =>
    qG Try.prog (do loadVar 32 (← asAddr (.pointer (some ⟨x4, 0, none⟩)))) w fun r4 =>
    R r4 w) P := by
  rw [hf.rd.lenL, List.length_map]
  simp only [bq_leq, bV_b, decide_eq_true_eq, decide_eq_false_iff_not]
  refine ⟨fun h => ?_, fun h => hP (by omega)⟩
  rw [fa_p, stF (hb.in hf.kp) (by simp [cC]) hf.one]
  have e : (cC n d v).toArray.setIfInBounds (0 + 2) v6 = (cC n d v6).toArray := rfl
  rw [e]
  exact col_ret hb hf.one (hf.turn (o' := .cells (cC n d v6).toArray 32) hb.lt) (hR (by omega))
end
section
variable {w w2 wi : World} {x4 x5 : Nat} {n d : Int} {v6 : Value} {l : List V3} {R : Value → World → Prop}
theorem col_many (hb : CBs w w2 x4 x5) (hf : Fr (cB w2 x5 n d (.slice none 0 0)) wi v6 3 (l.map valV)) (hl : 9 < l.length) (hl2 : l.length < 2 ^ 40) (hR : ∀ v w', Fr w w' v 3 ((stepsV l).map valV) → R (.agg (cC n d v).toArray) w') :
    stat_column_s3 R (.pointer (some ⟨x4, 0, none⟩)) (.pointer (some ⟨x5, 0, none⟩)) v6 wi := by
  unfold stat_column_s3 stat_column_L2
  have hs2 := hf.kp.size
  simp only [cB, size_setBlk] at hs2
  have hlt := hb.lt
  have hl4 := lt_of_blk hb.h4
  have hbi : CBs w wi x4 x5 := ⟨hb.base hf.kp, hb.in4 hf.kp, hb.l4, hb.l5, hb.ne, by omega⟩
  have rd6 : ∀ o, Rd (setBlk wi x5 o) v6 3 (l.map valV) := fun o => (hf.turn (o' := o) hb.lt).rd
  have e0 : cB wi x5 n d (.slice none 0 0) = wi := by
    have hh := hb.in hf.kp
    unfold cB setBlk
    have : wi.heap.setIfInBounds x5 (.cells (cC n d (.slice none 0 0)).toArray 32) = wi.heap := by
      apply Array.ext_getElem?
      intro j
      rw [Array.getElem?_setIfInBounds]
      split
      · rename_i h; subst h; split
        · exact hh.symm
        · rename_i h2; exact absurd (show x5 < wi.heap.size by omega) h2
      · rfl
    rw [this]
  refine loop_inv (fun m xs wj => ∃ k v, k ≤ 9 ∧ m = 9 - k ∧ xs = [.pointer (some ⟨x4, 0, none⟩), .pointer (some ⟨x5, 0, none⟩), v6, .int .i64 (k : Nat)] ∧ Fr (cB wi x5 n d v) wj v 3 (((List.range k).map fun k => l.getD (k * (l.length - 1) / 8) ⟨0, 0, []⟩).map valV)) ?_ (m := 9) ⟨0, .slice none 0 0, by omega, by omega, rfl, by rw [e0]; exact fr_nil (Kp.refl _ _)⟩
  rintro m N xs wj ⟨k, v, hk, rfl, rfl, hv⟩ hN
  unfold stat_column_L2F stat_column_b1
  dsimp only
  simp only [bq_lss, bV_b, decide_eq_true_eq, decide_eq_false_iff_not]
  refine ⟨fun hk9 => ?_, fun hk9 => ?_⟩
  · have hk9 : k < 9 := by omega
    have hvd := hv.keep kp_drew
    have h5 := hbi.in hvd.kp
    rw [fa_p, ldF (x := v) h5 rfl]
    have r6 : ∀ w', Kp [] wj.drew w' → Rd w' v6 3 (l.map valV) := fun w' hk' => (rd6 _).keep (hvd.kp.trans' hk')
    have hp : k * (l.length - 1) < 9 * 2 ^ 40 := Nat.lt_of_le_of_lt (Nat.mul_le_mul_left k (show l.length - 1 ≤ 2 ^ 40 by omega)) (by have : k * 2 ^ 40 < 9 * 2 ^ 40 := Nat.mul_lt_mul_of_pos_right hk9 (by decide); exact this)
    have q1 : IntKind.i64.wrap ((l.length : Int) - 1) = ((l.length - 1 : Nat) : Int) := by rw [w64 (by omega) (by omega)]; omega
    have q2 : ((k : Nat) : Int) * ((l.length - 1 : Nat) : Int) = ((k * (l.length - 1) : Nat) : Int) := by simp
    have q3 : ((k * (l.length - 1) : Nat) : Int) / 8 = ((k * (l.length - 1) / 8 : Nat) : Int) := by simp
    have hkw : IntKind.i64.wrap ((k : Int) + 1) = ((k + 1 : Nat) : Int) := by rw [w64 (by omega) (by omega)]; simp
    have hix : k * (l.length - 1) / 8 < l.length := by
      have : k * (l.length - 1) ≤ 8 * (l.length - 1) := Nat.mul_le_mul_right _ (by omega)
      omega
    rw [(r6 _ (Kp.refl _ _)).lenL, List.length_map]
    simp only [bq_sub, q1, bq_mul, q2]
    rw [wrap_nat64 (by omega), quo_of (Int.natCast_nonneg _) (by omega), q3, wrap_nat64 (by omega)]
    obtain ⟨p, p1, p2, _⟩ := (r6 _ (Kp.refl _ _)).get (i := k * (l.length - 1) / 8) (by simpa using hix)
    have hrow : (l.map valV)[k * (l.length - 1) / 8]'(by simpa using hix) = valV l[k * (l.length - 1) / 8] := by simp
    rw [hrow] at p2
    rw [p1, p2]
    refine bsl_rowN (n := 3) (cs := valV l[k * (l.length - 1) / 8]) (by omega) rfl rfl fun t67 w3 hf3 => ?_
    have hv3 := hvd.keep hf3.kp
    rw [ldF (x := v) (hbi.in hv3.kp) rfl, zcVal]
    refine ⟨rfl, ?_⟩
    refine fr_push (wx := w3) hv3 hf3.rd (by omega) rfl (by simp [valV]) (by simp; omega) (by simp; omega) fun t68 w4 hf4 => ?_
    rw [fa_p, stF (hbi.in hf4.kp) (by simp [cC]) hf4.one]
    have e : (cC n d v).toArray.setIfInBounds (0 + 2) t68 = (cC n d t68).toArray := rfl
    rw [e]
    simp only [bq_add, hkw]
    refine hN (9 - (k + 1)) _ _ (by omega) ⟨k + 1, t68, by omega, rfl, rfl, ?_⟩
    have := hf4.turn (o' := .cells (cC n d t68).toArray 32) hbi.lt
    rw [List.range_succ, List.map_append, List.map_append]
    have hg : l.getD (k * (l.length - 1) / 8) ⟨0, 0, []⟩ = l[k * (l.length - 1) / 8] := by simp [List.getD, hix]
    simp only [List.map_cons, List.map_nil, hg]
    exact this
  · have hk9 : k = 9 := by omega
    subst hk9
    unfold stat_column_s0
    refine col_ret hbi hv.one hv fun w' hf' => ?_
    refine hR v w' ?_
    unfold stepsV
    rw [if_neg (by omega)]
    exact hf'
end
end Go.Proofs

/- Layer 22: what is known of a column, and of rows. -/
set_option maxRecDepth 100000
set_option linter.unusedVariables false
set_option linter.unusedSimpArgs false
namespace Go.Proofs
open Go Go.Q
def cellV (r : List V3) (c : Nat) : List V3 := match r[c]? with | some v => if v.k = 0 then [] else [v] | none => []
theorem cellV_none {r : List V3} {c : Nat} (h : r.length ≤ c) : cellV r c = [] := by unfold cellV; rw [List.getElem?_eq_none h]
theorem colVals_snoc {c : Nat} {rows : List (List V3)} {i : Nat} (hi : i < rows.length) : colVals c (rows.take (i + 1)) = colVals c (rows.take i) ++ cellV rows[i] c := by
  unfold colVals cellV
  rw [List.take_succ_eq_append_getElem hi, List.filterMap_append]
  congr 1
  rw [List.filterMap_cons, List.filterMap_nil]
  cases rows[i][c]? with
  | none => rfl
  | some v => by_cases h : v.k = 0
              · simp [h]
              · simp [h]
theorem colVals_take_le {c : Nat} {rows : List (List V3)} {i : Nat} (hi : i ≤ rows.length) : (colVals c (rows.take i)).length ≤ i := by
  have := colVals_le c (rows.take i)
  rw [List.length_take] at this
  omega
section
variable {w w2 wi : World} {x4 x5 : Nat} {R : Value → World → Prop}
theorem column_spec {x1 : Value} {rows : List (List V3)} (hx : Nst 3 valV w x1 rows) (hl : rows.length < 2 ^ 20) (hw8 : ∀ r ∈ rows, r.length < 2 ^ 30) (c : Nat) (hc : c < 2 ^ 20) (hR : ∀ v w', Fr w w' v 3 ((colV c rows).steps.map valV) → R (.agg (cC (colV c rows).nulls (colV c rows).distinct v).toArray) w') : callG Try.prog 22 #[.int .i64 (c : Nat), x1] w R := by
  refine stat_column_call ?_
  unfold stat_column stat_column_s11
  refine newB fun x4 w1 hx4 h4 k1 => ?_
  refine newB fun x5 w2 hx5 h5 k2 => ?_
  have hs1 := k1.size
  have l4 := lt_of_blk h4
  have hb : CBs w w2 x4 x5 := ⟨k1.trans' k2, k2.get h4 (by simp), hx4, by omega, by omega, lt_of_blk h5⟩
  unfold stat_column_s10 stat_column_L9
  rw [hx.lenL]
  have e0 : cB w2 x5 0 0 (.slice none 0 0) = w2 := by
    unfold cB setBlk
    have : w2.heap.setIfInBounds x5 (.cells (cC 0 0 (.slice none 0 0)).toArray 32) = w2.heap := by
      apply Array.ext_getElem?
      intro j
      rw [Array.getElem?_setIfInBounds]
      split
      · rename_i h; subst h; split
        · rw [h5, zcCol]
        · rename_i h2; exact absurd (lt_of_blk h5) h2
      · rfl
    rw [this]
  refine loop_inv (fun m xs wi => ∃ i v6, i ≤ rows.length ∧ m = rows.length - i ∧ xs = [.int .i64 (c : Nat), .pointer (some ⟨x4, 0, none⟩), .pointer (some ⟨x5, 0, none⟩), v6, x1, .int .i64 rows.length, .int .i64 (i : Nat)] ∧
    Fr (cB w2 x5 ((i - (colVals c (rows.take i)).length : Nat) : Int) 0 (.slice none 0 0)) wi v6 3 ((colVals c (rows.take i)).map valV)) ?_ (m := rows.length) ⟨0, .slice none 0 0, by omega, by omega, rfl, by
      have : ((0 - (colVals c (rows.take 0)).length : Nat) : Int) = 0 := by simp
      rw [this, e0]; exact fr_nil (Kp.refl _ _)⟩
  rintro m N xs wi ⟨i, v6, hi, rfl, rfl, hv⟩ hN
  have hiw : IntKind.i64.wrap ((i : Int) + 1) = ((i + 1 : Nat) : Int) := by rw [w64 (by omega) (by omega)]; simp
  have hcl := colVals_take_le (c := c) hi
  have hxi := hx.keep (hb.base hv.kp)
  unfold stat_column_L9F stat_column_s8
  dsimp only
  simp only [bq_lss, bV_b, decide_eq_true_eq, decide_eq_false_iff_not]
  refine ⟨fun hlt => ?_, fun hge => ?_⟩
  · have hlt : i < rows.length := by omega
    have hsn := colVals_snoc (c := c) hlt
    obtain ⟨p, r, p1, p2, p3⟩ := hxi.at hlt
    have hr8 := hw8 _ (List.getElem_mem hlt)
    unfold stat_column_s7
    rw [p1, p2 _ (Kp.refl _ _), p3.lenL, List.length_map]
    -- none
    have none_ : cellV rows[i] c = [] → stat_column_s6 R N (.int .i64 (c : Nat)) (.pointer (some ⟨x4, 0, none⟩)) (.pointer (some ⟨x5, 0, none⟩)) v6 r x1 (.int .i64 rows.length) (.int .i64 (i : Nat)) (.bool true) wi := by
      intro hno
      rw [hno, List.append_nil] at hsn
      unfold stat_column_s6
      rw [fa_p, ldF (x := .int .i64 ((i - (colVals c (rows.take i)).length : Nat) : Int)) (hb.in hv.kp) rfl]
      have hnw : IntKind.i64.wrap (((i - (colVals c (rows.take i)).length : Nat) : Int) + 1) = ((i + 1 - (colVals c (rows.take (i + 1))).length : Nat) : Int) := by rw [hsn, w64 (by omega) (by omega)]; omega
      simp only [bV_b, bq_add, hnw]
      refine ⟨fun _ => ?_, fun h => by simp at h⟩
      rw [fa_p, stF (hb.in hv.kp) (by simp [cC]) rfl]
      have e : (cC ((i - (colVals c (rows.take i)).length : Nat) : Int) 0 (.slice none 0 0)).toArray.setIfInBounds (0 + 0) (.int .i64 ((i + 1 - (colVals c (rows.take (i + 1))).length : Nat) : Int)) = (cC ((i + 1 - (colVals c (rows.take (i + 1))).length : Nat) : Int) 0 (.slice none 0 0)).toArray := rfl
      rw [e]
      unfold stat_column_s5
      simp only [bq_add, hiw]
      refine hN (rows.length - (i + 1)) _ _ (by omega) ⟨i + 1, v6, by omega, rfl, rfl, ?_⟩
      have := hv.turn (o' := .cells (cC ((i + 1 - (colVals c (rows.take (i + 1))).length : Nat) : Int) 0 (.slice none 0 0)).toArray 32) hb.lt
      rw [← hsn] at this
      exact this
    simp only [bq_geq, bV_b, decide_eq_true_eq, decide_eq_false_iff_not]
    refine ⟨fun hge => none_ ?_, fun hclt => ?_⟩
    · exact cellV_none (by omega)
    · have hclt : c < rows[i].length := by omega
      obtain ⟨q, q1, q2, q3⟩ := p3.get (i := c) (by simpa using hclt)
      have hrow : (rows[i].map valV)[c]'(by simpa using hclt) = valV rows[i][c] := by simp
      have hsn2 : rows[i][c]? = some rows[i][c] := by simp [hclt]
      rw [q1, q3 0 (by rw [hrow]; simp [valV])]
      simp only [hrow]
      have hk0 : (valV rows[i][c])[0]'(by simp [valV]) = .int .i64 rows[i][c].k := rfl
      rw [hk0]
      simp only [bq_eql]
      by_cases hk : rows[i][c].k = 0
      · rw [decide_eq_true hk]
        exact none_ (by unfold cellV; rw [hsn2]; simp [hk])
      · rw [decide_eq_false hk]
        unfold cellV at hsn
        rw [hsn2] at hsn
        simp only [if_neg hk] at hsn
        unfold stat_column_s6
        simp only [bV_b]
        refine ⟨fun h => by simp at h, fun _ => ?_⟩
        rw [q1, q2, hrow]
        refine bsl_rowN (n := 3) (cs := valV rows[i][c]) (by omega) rfl rfl fun t37 w3 hf3 => ?_
        rw [zcVal]
        refine fr_push (wx := w3) (hv.keep hf3.kp) hf3.rd (by omega) rfl (by simp [valV]) (by simp; omega) (by simp; omega) fun t38 w4 hf4 => ?_
        unfold stat_column_s5
        simp only [bq_add, hiw]
        refine hN (rows.length - (i + 1)) _ _ (by omega) ⟨i + 1, t38, by omega, rfl, rfl, ?_⟩
        have hn : i + 1 - (colVals c (rows.take (i + 1))).length = i - (colVals c (rows.take i)).length := by rw [hsn]; simp
        rw [hn, hsn, List.map_append]
        exact hf4
  · have hie : i = rows.length := by omega
    subst hie
    rw [List.take_length] at hv
    have hcl2 := colVals_le c rows
    unfold stat_column_s4
    refine SortV_spec hv (by omega) fun w3 hf3 => ?_
    have hsl := sortV_len (colVals c rows)
    refine cloneV_spec hf3.rd (by omega) fun t43 w4 hf4 => ?_
    refine compact_spec hf4 (by omega) fun t44 w5 k5 hlen => ?_
    have hf5 := hf3.keep k5
    rw [hlen, fa_p, stF (hb.in hf5.kp) (by simp [cC]) rfl]
    have e : ∀ nn : Int, (cC nn 0 (.slice none 0 0)).toArray.setIfInBounds (0 + 1) (.int .i64 (distV (sortV (colVals c rows)))) = (cC nn (distV (sortV (colVals c rows))) (.slice none 0 0)).toArray := fun _ => rfl
    rw [e]
    have hf6 := hf5.turn (o' := .cells (cC ((rows.length - (colVals c rows).length : Nat) : Int) (distV (sortV (colVals c rows))) (.slice none 0 0)).toArray 32) hb.lt
    refine col_few hb hf6 (fun h9 => col_many hb hf6 h9 (by omega) hR) fun h9 w' hf' => ?_
    refine hR v6 w' ?_
    have : (colV c rows).steps = sortV (colVals c rows) := by unfold colV stepsV; simp only; rw [if_pos h9]
    rw [this]; exact hf'
end
end Go.Proofs

/- Layer 22: the end of the document's column. -/
set_option maxRecDepth 100000
set_option linter.unusedVariables false
set_option linter.unusedSimpArgs false
namespace Go.Proofs
open Go Go.Q
section
variable {w w2 wi : World} {x4 x5 : Nat} {n d : Int} {v6 : Value} {l : List V3} {R : Value → World → Prop}
theorem rcol_many (hb : CBs w w2 x4 x5) (hf : Fr (cB w2 x5 n d (.slice none 0 0)) wi v6 3 (l.map valV)) (hl : 9 < l.length) (hl2 : l.length < 2 ^ 40) (hR : ∀ v w', Fr w w' v 3 ((stepsV l).map valV) → R (.agg (cC n d v).toArray) w') :
    ref22_column_s3 R (.pointer (some ⟨x4, 0, none⟩)) (.pointer (some ⟨x5, 0, none⟩)) v6 wi := by
  unfold ref22_column_s3 ref22_column_L2
  have hs2 := hf.kp.size
  simp only [cB, size_setBlk] at hs2
  have hlt := hb.lt
  have hl4 := lt_of_blk hb.h4
  have hbi : CBs w wi x4 x5 := ⟨hb.base hf.kp, hb.in4 hf.kp, hb.l4, hb.l5, hb.ne, by omega⟩
  have rd6 : ∀ o, Rd (setBlk wi x5 o) v6 3 (l.map valV) := fun o => (hf.turn (o' := o) hb.lt).rd
  have e0 : cB wi x5 n d (.slice none 0 0) = wi := by
    have hh := hb.in hf.kp
    unfold cB setBlk
    have : wi.heap.setIfInBounds x5 (.cells (cC n d (.slice none 0 0)).toArray 32) = wi.heap := by
      apply Array.ext_getElem?
      intro j
      rw [Array.getElem?_setIfInBounds]
      split
      · rename_i h; subst h; split
        · exact hh.symm
        · rename_i h2; exact absurd (show x5 < wi.heap.size by omega) h2
      · rfl
    rw [this]
  refine loop_inv (fun m xs wj => ∃ k v, k ≤ 9 ∧ m = 9 - k ∧ xs = [.pointer (some ⟨x4, 0, none⟩), .pointer (some ⟨x5, 0, none⟩), v6, .int .i64 (k : Nat)] ∧ Fr (cB wi x5 n d v) wj v 3 (((List.range k).map fun k => l.getD (k * (l.length - 1) / 8) ⟨0, 0, []⟩).map valV)) ?_ (m := 9) ⟨0, .slice none 0 0, by omega, by omega, rfl, by rw [e0]; exact fr_nil (Kp.refl _ _)⟩
  rintro m N xs wj ⟨k, v, hk, rfl, rfl, hv⟩ hN
  unfold ref22_column_L2F ref22_column_b1
  dsimp only
  simp only [bq_lss, bV_b, decide_eq_true_eq, decide_eq_false_iff_not]
  refine ⟨fun hk9 => ?_, fun hk9 => ?_⟩
  · have hk9 : k < 9 := by omega
    have hvd := hv.keep kp_drew
    have h5 := hbi.in hvd.kp
    rw [fa_p, ldF (x := v) h5 rfl]
    have r6 : ∀ w', Kp [] wj.drew w' → Rd w' v6 3 (l.map valV) := fun w' hk' => (rd6 _).keep (hvd.kp.trans' hk')
    have hp : k * (l.length - 1) < 9 * 2 ^ 40 := Nat.lt_of_le_of_lt (Nat.mul_le_mul_left k (show l.length - 1 ≤ 2 ^ 40 by omega)) (by have : k * 2 ^ 40 < 9 * 2 ^ 40 := Nat.mul_lt_mul_of_pos_right hk9 (by decide); exact this)
    have q1 : IntKind.i64.wrap ((l.length : Int) - 1) = ((l.length - 1 : Nat) : Int) := by rw [w64 (by omega) (by omega)]; omega
    have q2 : ((k : Nat) : Int) * ((l.length - 1 : Nat) : Int) = ((k * (l.length - 1) : Nat) : Int) := by simp
    have q3 : ((k * (l.length - 1) : Nat) : Int) / 8 = ((k * (l.length - 1) / 8 : Nat) : Int) := by simp
    have hkw : IntKind.i64.wrap ((k : Int) + 1) = ((k + 1 : Nat) : Int) := by rw [w64 (by omega) (by omega)]; simp
    have hix : k * (l.length - 1) / 8 < l.length := by
      have : k * (l.length - 1) ≤ 8 * (l.length - 1) := Nat.mul_le_mul_right _ (by omega)
      omega
    rw [(r6 _ (Kp.refl _ _)).lenL, List.length_map]
    simp only [bq_sub, q1, bq_mul, q2]
    rw [wrap_nat64 (by omega), quo_of (Int.natCast_nonneg _) (by omega), q3, wrap_nat64 (by omega)]
    obtain ⟨p, p1, p2, _⟩ := (r6 _ (Kp.refl _ _)).get (i := k * (l.length - 1) / 8) (by simpa using hix)
    have hrow : (l.map valV)[k * (l.length - 1) / 8]'(by simpa using hix) = valV l[k * (l.length - 1) / 8] := by simp
    rw [hrow] at p2
    rw [p1, p2]
    refine bsl_rowN (n := 3) (cs := valV l[k * (l.length - 1) / 8]) (by omega) rfl rfl fun t67 w3 hf3 => ?_
    have hv3 := hvd.keep hf3.kp
    rw [ldF (x := v) (hbi.in hv3.kp) rfl, zcVal]
    refine ⟨rfl, ?_⟩
    refine fr_push (wx := w3) hv3 hf3.rd (by omega) rfl (by simp [valV]) (by simp; omega) (by simp; omega) fun t68 w4 hf4 => ?_
    rw [fa_p, stF (hbi.in hf4.kp) (by simp [cC]) hf4.one]
    have e : (cC n d v).toArray.setIfInBounds (0 + 2) t68 = (cC n d t68).toArray := rfl
    rw [e]
    simp only [bq_add, hkw]
    refine hN (9 - (k + 1)) _ _ (by omega) ⟨k + 1, t68, by omega, rfl, rfl, ?_⟩
    have := hf4.turn (o' := .cells (cC n d t68).toArray 32) hbi.lt
    rw [List.range_succ, List.map_append, List.map_append]
    have hg : l.getD (k * (l.length - 1) / 8) ⟨0, 0, []⟩ = l[k * (l.length - 1) / 8] := by simp [List.getD, hix]
    simp only [List.map_cons, List.map_nil, hg]
    exact this
  · have hk9 : k = 9 := by omega
    subst hk9
    unfold ref22_column_s0
    refine col_ret hbi hv.one hv fun w' hf' => ?_
    refine hR v w' ?_
    unfold stepsV
    rw [if_neg (by omega)]
    exact hf'
end
end Go.Proofs

/- Layer 22: what is known of a column: the document's. -/
set_option maxRecDepth 100000
set_option linter.unusedVariables false
set_option linter.unusedSimpArgs false
namespace Go.Proofs
open Go Go.Q
theorem sortV_snoc (l : List V3) (x : V3) : sortV (l ++ [x]) = insV (sortV l) x := by simp [sortV, List.foldl_append]
theorem bld_col0 {K : Value → Prop} : bld [(0, 1), (1, 1), (2, 1)] (zc Try.prog 32) #[] K = K (.agg (cC 0 0 (.slice none 0 0)).toArray) := by
  rw [zcCol]; rfl
section
variable {w w2 wi : World} {x4 x5 : Nat} {R : Value → World → Prop}
theorem rcol_L6 {n : Int} {v6 : Value} {l : List V3} (hb : CBs w w2 x4 x5) (hf : Fr (cB w2 x5 n 0 (.slice none 0 0)) wi v6 3 (l.map valV)) (hl : l.length < 2 ^ 20) (hR : ∀ v w', Fr w w' v 3 ((stepsV l).map valV) → R (.agg (cC n (distV l) v).toArray) w') :
    ref22_column_s7 R (.pointer (some ⟨x4, 0, none⟩)) (.pointer (some ⟨x5, 0, none⟩)) v6 wi := by
  unfold ref22_column_s7 ref22_column_L6
  refine loop_inv (fun m xs wj => ∃ i, i ≤ l.length ∧ m = l.length - i ∧ xs = [.pointer (some ⟨x4, 0, none⟩), .pointer (some ⟨x5, 0, none⟩), v6, .int .i64 (i : Nat)] ∧ Fr (cB w2 x5 n (distV (l.take i)) (.slice none 0 0)) wj v6 3 (l.map valV)) ?_ (m := l.length) ⟨0, by omega, rfl, rfl, hf⟩
  rintro m N xs wj ⟨i, hi, rfl, rfl, hv⟩ hN
  have hiw : IntKind.i64.wrap ((i : Int) + 1) = ((i + 1 : Nat) : Int) := by rw [w64 (by omega) (by omega)]; simp
  have his : 0 < i → IntKind.i64.wrap ((i : Int) - 1) = ((i - 1 : Nat) : Int) := fun h => by rw [w64 (by omega) (by omega)]; omega
  unfold ref22_column_L6F ref22_column_b5
  dsimp only
  rw [hv.rd.lenL, List.length_map]
  simp only [bq_lss, bV_b, decide_eq_true_eq, decide_eq_false_iff_not]
  refine ⟨fun hlt => ?_, fun hge => ?_⟩
  · have hlt : i < l.length := by omega
    have ht := distV_take hlt
    have hdl := distV_le (l.take i)
    rw [List.length_take] at hdl
    have hvd := hv.keep kp_drew
    have inc : ∀ w', Fr (cB w2 x5 n (distV (l.take i)) (.slice none 0 0)) w' v6 3 (l.map valV) → distV (l.take (i + 1)) = distV (l.take i) + 1 → ∀ {xo yo xo' yo' : Operand},
        (fa 1 (.pointer (some ⟨x5, 0, none⟩)) fun t69 => ld1 t69 w' fun t70 => qG Try.prog (bq .add 3 xo yo t70 (.int .i64 1)) w' fun t71 => fa 1 (.pointer (some ⟨x5, 0, none⟩)) fun t72 => st1 t72 t71 w' fun w =>
          qG Try.prog (bq .add 3 xo' yo' (.int .i64 (i : Nat)) (.int .i64 1)) w fun t53 => N [.pointer (some ⟨x4, 0, none⟩), .pointer (some ⟨x5, 0, none⟩), v6, t53] w) := by
      intro w' hf' hd _ _ _ _
      rw [fa_p, ldF (x := .int .i64 (distV (l.take i))) (hb.in hf'.kp) rfl]
      have hdw : IntKind.i64.wrap (((distV (l.take i) : Nat) : Int) + 1) = ((distV (l.take (i + 1)) : Nat) : Int) := by rw [hd, w64 (by omega) (by omega)]; simp
      simp only [bq_add, hdw]
      rw [fa_p, stF (hb.in hf'.kp) (by simp [cC]) rfl]
      have e : (cC n (distV (l.take i)) (.slice none 0 0)).toArray.setIfInBounds (0 + 1) (.int .i64 ((distV (l.take (i + 1)) : Nat) : Int)) = (cC n (distV (l.take (i + 1))) (.slice none 0 0)).toArray := rfl
      rw [e]
      simp only [hiw]
      exact hN (l.length - (i + 1)) _ _ (by omega) ⟨i + 1, by omega, rfl, rfl, hf'.turn (o' := .cells (cC n (distV (l.take (i + 1))) (.slice none 0 0)).toArray 32) hb.lt⟩
    simp only [bq_eql, bV_b, decide_eq_true_eq, decide_eq_false_iff_not]
    refine ⟨fun h0 => ?_, fun h0 => ?_⟩
    · refine inc _ hvd ?_
      rw [ht, dif_pos (by omega)]
    · have hpos : 0 < i := by omega
      rw [dif_neg (by omega)] at ht
      obtain ⟨p, p1, p2, _⟩ := hvd.rd.get (i := i - 1) (by simp; omega)
      obtain ⟨q, q1, q2, _⟩ := hvd.rd.get (i := i) (by simpa using hlt)
      have r1 : (l.map valV)[i - 1]'(by simp; omega) = valV (l[i - 1]'(by omega)) := by simp
      have r2 : (l.map valV)[i]'(by simpa using hlt) = valV l[i] := by simp
      rw [r1] at p2
      rw [r2] at q2
      simp only [bq_sub, his hpos]
      rw [p1, p2, q1, q2]
      refine dCompare_spec _ _ fun w3 k3 => ?_
      have hv3 := hvd.keep k3
      simp only [bq_neq, bV_b, decide_eq_true_eq, decide_eq_false_iff_not]
      refine ⟨fun hne => ?_, fun heq => ?_⟩
      · refine inc _ hv3 ?_
        rw [if_neg fun hh => hne (cmpV_zero.2 hh)] at ht
        exact ht
      · have heq : l[i - 1]'(by omega) = l[i] := cmpV_zero.1 (by simpa using heq)
        rw [if_pos heq] at ht
        simp only [bq_add, hiw]
        refine hN (l.length - (i + 1)) _ _ (by omega) ⟨i + 1, by omega, rfl, rfl, ?_⟩
        rw [ht]; exact hv3
  · have hie : i = l.length := by omega
    subst hie
    rw [List.take_length] at hv
    unfold ref22_column_s4
    refine col_few hb hv (fun h9 => rcol_many hb hv h9 (by omega) hR) fun h9 w' hf' => ?_
    refine hR v6 w' ?_
    unfold stepsV
    rw [if_pos h9]; exact hf'
theorem rcolumn_spec {x1 : Value} {rows : List (List V3)} (hx : Nst 3 valV w x1 rows) (hl : rows.length < 2 ^ 20) (hw8 : ∀ r ∈ rows, r.length < 2 ^ 30) (c : Nat) (hc : c < 2 ^ 20) (hR : ∀ v w', Fr w w' v 3 ((colV c rows).steps.map valV) → R (.agg (cC (colV c rows).nulls (colV c rows).distinct v).toArray) w') : callG Try.prog 23 #[.int .i64 (c : Nat), x1] w R := by
  refine ref22_column_call ?_
  unfold ref22_column ref22_column_s14
  refine newB fun x4 w1 hx4 h4 k1 => ?_
  rw [bld_col0]
  refine newB fun x5 w2 hx5 h5 k2 => ?_
  have hs1 := k1.size
  have l4 := lt_of_blk h4
  have hb : CBs w w2 x4 x5 := ⟨k1.trans' k2, k2.get h4 (by simp), hx4, by omega, by omega, lt_of_blk h5⟩
  rw [stA (k := 3) h5 (by rw [zcCol]; rfl) rfl (by simp [cC])]
  unfold ref22_column_s13 ref22_column_L12
  refine loop_inv (fun m xs wi => ∃ i v6, i ≤ rows.length ∧ m = rows.length - i ∧ xs = [.int .i64 (c : Nat), x1, .pointer (some ⟨x4, 0, none⟩), .pointer (some ⟨x5, 0, none⟩), v6, .int .i64 (i : Nat)] ∧
    Fr (cB w2 x5 ((i - (colVals c (rows.take i)).length : Nat) : Int) 0 (.slice none 0 0)) wi v6 3 ((sortV (colVals c (rows.take i))).map valV)) ?_ (m := rows.length) ⟨0, .slice none 0 0, by omega, by omega, rfl, by
      have : ((0 - (colVals c (rows.take 0)).length : Nat) : Int) = 0 := by simp
      rw [this]; exact fr_nil (Kp.refl _ _)⟩
  rintro m N xs wi ⟨i, v6, hi, rfl, rfl, hv⟩ hN
  have hiw : IntKind.i64.wrap ((i : Int) + 1) = ((i + 1 : Nat) : Int) := by rw [w64 (by omega) (by omega)]; simp
  have hcl := colVals_take_le (c := c) hi
  have hxi := hx.keep (hb.base hv.kp)
  unfold ref22_column_L12F ref22_column_s11
  dsimp only
  rw [hxi.lenL]
  simp only [bq_lss, bV_b, decide_eq_true_eq, decide_eq_false_iff_not]
  refine ⟨fun hlt => ?_, fun hge => ?_⟩
  · have hlt : i < rows.length := by omega
    have hsn := colVals_snoc (c := c) hlt
    obtain ⟨p, r, p1, p2, p3⟩ := hxi.at hlt
    have hr8 := hw8 _ (List.getElem_mem hlt)
    unfold ref22_column_s10
    rw [p1, p2 _ (Kp.refl _ _), p3.lenL, List.length_map]
    have none_ : cellV rows[i] c = [] → ∀ {xo yo : Operand},
      (fa 0 (.pointer (some ⟨x5, 0, none⟩)) fun t35 => ld1 t35 wi fun t36 => qG Try.prog (bq .add 3 xo yo t36 (.int .i64 1)) wi fun t37 => fa 0 (.pointer (some ⟨x5, 0, none⟩)) fun t38 => st1 t38 t37 wi fun w =>
        ref22_column_s8 R N (.int .i64 (c : Nat)) x1 (.pointer (some ⟨x4, 0, none⟩)) (.pointer (some ⟨x5, 0, none⟩)) v6 (.int .i64 (i : Nat)) w) := by
      intro hno _ _
      rw [hno, List.append_nil] at hsn
      rw [fa_p, ldF (x := .int .i64 ((i - (colVals c (rows.take i)).length : Nat) : Int)) (hb.in hv.kp) rfl]
      have hnw : IntKind.i64.wrap (((i - (colVals c (rows.take i)).length : Nat) : Int) + 1) = ((i + 1 - (colVals c (rows.take (i + 1))).length : Nat) : Int) := by rw [hsn, w64 (by omega) (by omega)]; omega
      simp only [bq_add, hnw]
      rw [fa_p, stF (hb.in hv.kp) (by simp [cC]) rfl]
      have e : (cC ((i - (colVals c (rows.take i)).length : Nat) : Int) 0 (.slice none 0 0)).toArray.setIfInBounds (0 + 0) (.int .i64 ((i + 1 - (colVals c (rows.take (i + 1))).length : Nat) : Int)) = (cC ((i + 1 - (colVals c (rows.take (i + 1))).length : Nat) : Int) 0 (.slice none 0 0)).toArray := rfl
      rw [e]
      unfold ref22_column_s8
      simp only [bq_add, hiw]
      refine hN (rows.length - (i + 1)) _ _ (by omega) ⟨i + 1, v6, by omega, rfl, rfl, ?_⟩
      have := hv.turn (o' := .cells (cC ((i + 1 - (colVals c (rows.take (i + 1))).length : Nat) : Int) 0 (.slice none 0 0)).toArray 32) hb.lt
      rw [← hsn] at this
      exact this
    simp only [bq_geq, bV_b, decide_eq_true_eq, decide_eq_false_iff_not]
    refine ⟨fun hge => none_ ?_, fun hclt => ?_⟩
    · exact cellV_none (by omega)
    · have hclt : c < rows[i].length := by omega
      obtain ⟨q, q1, q2, q3⟩ := p3.get (i := c) (by simpa using hclt)
      have hrow : (rows[i].map valV)[c]'(by simpa using hclt) = valV rows[i][c] := by simp
      have hsn2 : rows[i][c]? = some rows[i][c] := by simp [hclt]
      rw [p1, p2 _ (Kp.refl _ _), q1, q3 0 (by rw [hrow]; simp [valV])]
      simp only [hrow]
      have hk0 : (valV rows[i][c])[0]'(by simp [valV]) = .int .i64 rows[i][c].k := rfl
      rw [hk0]
      simp only [bq_eql, bV_b, decide_eq_true_eq, decide_eq_false_iff_not]
      refine ⟨fun hk => none_ (by unfold cellV; rw [hsn2]; simp [hk]), fun hk => ?_⟩
      unfold cellV at hsn
      rw [hsn2] at hsn
      simp only [if_neg hk] at hsn
      unfold ref22_column_s9
      rw [p1, p2 _ (Kp.refl _ _), q1, q2, hrow]
      have hsl := sortV_len (colVals c (rows.take i))
      refine sorted_spec hv.rd (by omega) rows[i][c] fun out w3 hf3 => ?_
      unfold ref22_column_s8
      simp only [bq_add, hiw]
      refine hN (rows.length - (i + 1)) _ _ (by omega) ⟨i + 1, out, by omega, rfl, rfl, ?_⟩
      have hn : i + 1 - (colVals c (rows.take (i + 1))).length = i - (colVals c (rows.take i)).length := by rw [hsn]; simp
      rw [hn, hsn, sortV_snoc]
      exact hf3.base hv.kp
  · have hie : i = rows.length := by omega
    subst hie
    rw [List.take_length] at hv
    have hcl2 := colVals_le c rows
    have hsl := sortV_len (colVals c rows)
    exact rcol_L6 hb hv (by omega) hR
end
end Go.Proofs

/- Layer 22: what is known of rows. -/
set_option maxRecDepth 100000
set_option linter.unusedVariables false
set_option linter.unusedSimpArgs false
namespace Go.Proofs
open Go Go.Q
theorem zcSt : zc Try.prog 27 = #[.int .i64 0, .slice none 0 0] := by kernel_rfl
theorem bld_st {n : Int} {K : Value → Prop} : bld [(0, 1), (1, 1)] (zc Try.prog 27) #[(0, .int .i64 n)] K = K (.agg #[.int .i64 n, .slice none 0 0]) := by
  rw [zcSt]; rfl
structure OSt (w : World) (x4 x5 : Nat) (wi : World) (r : Int) (cols : List ColV) (o : Value) (css : List (List Value)) (S : List Nat) : Prop where
  kp : Kp [] w wi
  h4 : wi.heap[x4]? = some (.cells (zc Try.prog 27) 27)
  h5 : wi.heap[x5]? = some (.cells #[.int .i64 r, o] 27)
  rows : RowsAt wi o 3 css S
  ns : ∀ x ∈ S, x ≠ x4 ∧ x ≠ x5 ∧ w.heap.size ≤ x
  len : css.length = cols.length
  col : ∀ i (h : i < cols.length) cs, css[i]? = some cs → ColX (x4 :: x5 :: S) wi cs cols[i]
  l4 : w.heap.size ≤ x4
  l5 : w.heap.size ≤ x5
  ne : x4 ≠ x5
section
variable {w wi : World} {x4 x5 : Nat} {r : Int} {cols : List ColV} {o : Value} {css : List (List Value)} {S : List Nat} {R : Value → World → Prop}
theorem RowsAt.one' {v : Value} {k : Nat} {rows : List (List Value)} (h : RowsAt w v k rows S) : Q.one v = true := by
  obtain ⟨a, c, hv, _⟩ := h.len
  rw [hv]; rfl
theorem OSt.keep (h : OSt w x4 x5 wi r cols o css S) {w' : World} (hk : Kp [] wi w') : OSt w x4 x5 w' r cols o css S :=
  ⟨h.kp.trans' hk, hk.get h.h4 (by simp), hk.get h.h5 (by simp), h.rows.keep hk (by simp), h.ns, h.len, fun i hi cs hcs => (h.col i hi cs hcs).keep hk, h.l4, h.l5, h.ne⟩
theorem of_ret (h : OSt w x4 x5 wi r cols o css S) {n : Nat} (hr : r = n) (hR : ∀ w' val, Kp [] w w' → StatAt w' val ⟨n, cols⟩ → R val w') :
    ldn 2 (.pointer (some ⟨x5, 0, none⟩)) wi fun t => stn 2 (.pointer (some ⟨x4, 0, none⟩)) t wi fun w => qG Try.prog (do loadVar 27 (← asAddr (.pointer (some ⟨x4, 0, none⟩)))) w fun r4 => R r4 w := by
  subst hr
  have h1 := RowsAt.one' h.rows
  rw [ldA (k := 2) h.h5 rfl]
  refine retB (by kernel_rfl) (by kernel_rfl) h.h4 (by rw [zcSt]; rfl) rfl (by simp [h1]) fun w6 hk6 => ?_
  refine hR w6 _ (h.kp.trans hk6 fun x hx hlt => by have := h.l4; simp at hx; omega) ⟨o, css, rfl, h1, ⟨S, .inr (h.rows.keep hk6 fun x hx hm => (h.ns x hx).1 (by simpa using hm)).rd⟩, h.len, fun i hi cs hcs => ?_⟩
  exact (h.col i hi cs hcs).step hk6 (by simp) (by simp)
theorem of_push {x1 : Value} {rows : List (List V3)} {f : FuncId} {c : Nat} (h : OSt w x4 x5 wi r cols o css S) (hx : Nst 3 valV w x1 rows) (hcl : cols.length < 2 ^ 20)
    (hC : ∀ (w' : World) (R' : Value → World → Prop), Nst 3 valV w' x1 rows → (∀ v w'', Fr w' w'' v 3 ((colV c rows).steps.map valV) → R' (.agg (cC (colV c rows).nulls (colV c rows).distinct v).toArray) w'') → callG Try.prog f #[.int .i64 (c : Nat), x1] w' R')
    {REST : World → Prop} (hK : ∀ w' o' css' S', OSt w x4 x5 w' r (cols ++ [colV c rows]) o' css' S' → REST w') :
    fa 1 (.pointer (some ⟨x5, 0, none⟩)) fun t16 =>
    ld1 t16 (World.drew wi) fun t17 =>
    callG Try.prog f #[.int .i64 (c : Nat), x1] (World.drew wi) fun t20 w =>
    ld1 t16 w (fun u => u = t17) ∧
    bsl 32 3 1 (zc Try.prog 32) #[(0, t20)] w fun t21 w =>
    ld1 t16 w (fun u => u = t17) ∧
    app 32 3 40 (zc Try.prog 32) t17 t21 w fun t22 w =>
    fa 1 (.pointer (some ⟨x5, 0, none⟩)) fun t23 =>
    st1 t23 t22 w fun w => REST w := by
  have hd := h.keep kp_drew
  rw [fa_p, ldF (x := o) hd.h5 rfl]
  refine hC _ _ (hx.keep hd.kp) fun v w3 hf3 => ?_
  have h3 := hd.keep hf3.kp
  rw [ldF (x := o) h3.h5 rfl]
  refine ⟨rfl, ?_⟩
  have hv1 := hf3.one
  refine bsl_rowN (n := 3) (cs := cC (colV c rows).nulls (colV c rows).distinct v) (by omega) rfl rfl fun t21 w4 hf4 => ?_
  have h4 := h3.keep hf4.kp
  rw [ldF (x := o) h4.h5 rfl, zcCol]
  refine ⟨rfl, ?_⟩
  have hlen := h4.len
  have hlt4 := h4.rows.lt
  have hcx : ColX (x4 :: x5 :: S) w4 (cC (colV c rows).nulls (colV c rows).distinct v) (colV c rows) := by
    obtain ⟨Sv, g1, g2⟩ := (hf3.keep hf4.kp).ex
    refine ⟨v, rfl, hv1, Sv, .inr g1.rd, fun x hx hm => ?_⟩
    have := g2 x hx
    have hdl := hd.rows.lt
    simp only [List.mem_cons] at hm
    have l4 := lt_of_blk hd.h4
    have l5 := lt_of_blk hd.h5
    rcases hm with hm | hm | hm
    · omega
    · omega
    · have := hdl x hm; omega
  refine rows_app (G := [cC (colV c rows).nulls (colV c rows).distinct v]) h4.rows (by omega) rfl (by simp [cC]) (by simp [cC, hv1]) (fun K' hK' => hf4.rd.src K' hK') (by simp; omega) (by simp; omega) fun o' w5 S' hr5 hk5 hS5 => ?_
  have h5k : w5.heap[x5]? = some (.cells #[.int .i64 r, o] 27) := hk5.get h4.h5 fun hm => (h4.ns x5 hm).2.1 rfl
  have h4k : w5.heap[x4]? = some (.cells (zc Try.prog 27) 27) := hk5.get h4.h4 fun hm => (h4.ns x4 hm).1 rfl
  have ho' := RowsAt.one' hr5
  rw [fa_p, stF h5k (by simp) ho']
  have e : (#[.int .i64 r, o] : Array Value).setIfInBounds (0 + 1) o' = #[.int .i64 r, o'] := rfl
  rw [e]
  have l4 := lt_of_blk h4.h4
  have l5 := lt_of_blk h4.h5
  have hne := h.ne
  have hsz := h4.kp.size
  have ns' : ∀ x ∈ S', x ≠ x4 ∧ x ≠ x5 ∧ w.heap.size ≤ x := fun x hx => by
    rcases hS5 x hx with hx | hx
    · exact h4.ns x hx
    · exact ⟨by omega, by omega, by omega⟩
  have hkx : Kp [x5] w5 (setBlk w5 x5 (.cells #[.int .i64 r, o'] 27)) := (Kp.refl _ _).setBlk (.inl (by simp)) _
  have hY : ∀ y ∈ x4 :: x5 :: S', y ∈ x4 :: x5 :: S ∨ w4.heap.size ≤ y := fun y hy => by
    simp only [List.mem_cons] at hy ⊢
    rcases hy with hy | hy | hy
    · exact .inl (.inl hy)
    · exact .inl (.inr (.inl hy))
    · exact (hS5 y hy).imp (fun h => .inr (.inr h)) id
  have hcs : ∀ (cs : List Value) (c : ColV), ColX (x4 :: x5 :: S) w4 cs c → ColX (x4 :: x5 :: S') (setBlk w5 x5 (.cells #[.int .i64 r, o'] 27)) cs c := fun cs c hc =>
    ((hc.step hk5 (fun x hx => by simp [hx]) hY).keepS hkx (by simp))
  refine hK _ o' (css ++ [cC (colV c rows).nulls (colV c rows).distinct v]) S' ⟨(h4.kp.trans hk5 fun x hx hlt => by have := (h4.ns x hx).2.2; omega).setBlk (.inr h.l5) _, by rw [heap_ne (Ne.symm hne)]; exact h4k, heap_self (live_of h5k), hr5.keep hkx fun x hx hm => (ns' x hx).2.1 (by simpa using hm), ns', by simp [hlen], fun i hi cs hcsi => ?_, h.l4, h.l5, h.ne⟩
  refine hcs cs _ ?_
  by_cases hil : i < cols.length
  · rw [List.getElem?_append_left (by omega)] at hcsi
    rw [List.getElem_append_left hil]
    exact h4.col i hil cs hcsi
  · have hie : i = cols.length := by simp at hi; omega
    subst hie
    rw [List.getElem?_append_right (by omega), hlen, Nat.sub_self] at hcsi
    simp at hcsi
    rw [List.getElem_append_right (by omega)]
    simp
    rw [← hcsi]
    exact hcx
theorem of_new {n : Nat} {REST : Value → Value → World → Prop} (hK : ∀ x4 x5 w', OSt w x4 x5 w' n [] (.slice none 0 0) [] [] → REST (.pointer (some ⟨x4, 0, none⟩)) (.pointer (some ⟨x5, 0, none⟩)) w') :
    newG (zc Try.prog 27) 27 w fun t4 w =>
    bld [(0, 1), (1, 1)] (zc Try.prog 27) #[(0, .int .i64 n)] fun t9 =>
    newG (zc Try.prog 27) 27 w fun t5 w =>
    stn 2 t5 t9 w fun w => REST t4 t5 w := by
  refine newB fun x4 w1 hx4 h4 k1 => ?_
  rw [bld_st]
  refine newB fun x5 w2 hx5 h5 k2 => ?_
  have hs1 := k1.size
  have l4 := lt_of_blk h4
  rw [stA (k := 2) h5 (by rw [zcSt]; rfl) rfl (by simp)]
  exact hK x4 x5 _ ⟨(k1.trans' k2).setBlk (.inr (by omega)) _, by rw [heap_ne (by omega)]; exact k2.get h4 (by simp), heap_self (live_of h5), .inl ⟨rfl, rfl, rfl⟩, by simp, rfl, by simp, hx4, by omega, by omega⟩
end
section
variable {w : World} {x1 : Value} {rows : List (List V3)} {R : Value → World → Prop}
theorem range_snoc {i : Nat} : (List.range (i + 1)).map (fun c => colV c rows) = (List.range i).map (fun c => colV c rows) ++ [colV i rows] := by rw [List.range_succ, List.map_append]; rfl
theorem Of_spec (hx : Nst 3 valV w x1 rows) (hl : rows.length < 2 ^ 20) (hw8 : ∀ r ∈ rows, r.length < 2 ^ 30) (n : Int) (hR : ∀ w' val, Kp [] w w' → StatAt w' val (statV n rows) → R val w') : callG Try.prog 9 #[.int .i64 n, x1] w R := by
  refine stat_Of_call ?_
  unfold stat_Of stat_Of_s4
  simp only [hx.lenL]
  refine of_new fun x4 x5 w1 h0 => ?_
  unfold stat_Of_s3 stat_Of_L2
  rw [q_min, q_max]
  have e : max 0 (min n 64) = ((min n.toNat 64 : Nat) : Int) := by omega
  rw [e]
  have hm : min n.toNat 64 ≤ 64 := Nat.min_le_right _ _
  generalize hmm : min n.toNat 64 = m at *
  refine loop_inv (fun mm xs wi => ∃ i o css S, i ≤ m ∧ mm = m - i ∧ xs = [x1, .pointer (some ⟨x4, 0, none⟩), .pointer (some ⟨x5, 0, none⟩), .int .i64 (m : Nat), .int .i64 (i : Nat)] ∧ OSt w x4 x5 wi rows.length ((List.range i).map fun c => colV c rows) o css S) ?_ (m := m) ⟨0, _, _, _, by omega, by omega, rfl, h0⟩
  rintro mm N xs wi ⟨i, o, css, S, hi, rfl, rfl, h⟩ hN
  have hiw : IntKind.i64.wrap ((i : Int) + 1) = ((i + 1 : Nat) : Int) := by rw [w64 (by omega) (by omega)]; simp
  unfold stat_Of_L2F stat_Of_b1
  dsimp only
  simp only [bq_lss, bV_b, decide_eq_true_eq, decide_eq_false_iff_not]
  refine ⟨fun hlt => ?_, fun hge => ?_⟩
  · refine of_push (c := i) h hx (by simp; omega) (fun w' R' hx' hR' => column_spec hx' hl hw8 i (by omega) hR') fun w' o' css' S' h' => ?_
    simp only [bq_add, hiw]
    exact hN (m - (i + 1)) _ _ (by omega) ⟨i + 1, o', css', S', by omega, rfl, rfl, by rw [range_snoc]; exact h'⟩
  · have : i = m := by omega
    subst this
    unfold stat_Of_s0
    refine of_ret h rfl fun w' val hk hs => hR w' val hk ?_
    unfold statV
    rw [hmm]; exact hs
theorem rOf_spec (hx : Nst 3 valV w x1 rows) (hl : rows.length < 2 ^ 20) (hw8 : ∀ r ∈ rows, r.length < 2 ^ 30) (n : Int) (hR : ∀ w' val, Kp [] w w' → StatAt w' val (statV n rows) → R val w') : callG Try.prog 10 #[.int .i64 n, x1] w R := by
  refine ref22_Of_call ?_
  unfold ref22_Of ref22_Of_s5
  simp only [hx.lenL]
  refine of_new fun x4 x5 w1 h0 => ?_
  unfold ref22_Of_s4 ref22_Of_L3
  refine loop_inv (fun mm xs wi => ∃ i o css S, i ≤ min n.toNat 64 ∧ mm = 64 - i ∧ xs = [.int .i64 n, x1, .pointer (some ⟨x4, 0, none⟩), .pointer (some ⟨x5, 0, none⟩), .int .i64 (i : Nat)] ∧ OSt w x4 x5 wi rows.length ((List.range i).map fun c => colV c rows) o css S) ?_ (m := 64) ⟨0, _, _, _, by omega, by omega, rfl, h0⟩
  rintro mm N xs wi ⟨i, o, css, S, hi, rfl, rfl, h⟩ hN
  have hiw : IntKind.i64.wrap ((i : Int) + 1) = ((i + 1 : Nat) : Int) := by rw [w64 (by omega) (by omega)]; simp
  have done : i = min n.toNat 64 → ref22_Of_s0 R (.pointer (some ⟨x4, 0, none⟩)) (.pointer (some ⟨x5, 0, none⟩)) wi := by
    rintro rfl
    unfold ref22_Of_s0
    exact of_ret h rfl fun w' val hk hs => hR w' val hk hs
  unfold ref22_Of_L3F ref22_Of_s2
  dsimp only
  simp only [bq_lss, bV_b, decide_eq_true_eq, decide_eq_false_iff_not]
  refine ⟨fun hlt => ⟨fun hlt2 => ?_, fun hge => done (by omega)⟩, fun hge => done (by omega)⟩
  unfold ref22_Of_s1
  refine of_push (c := i) h hx (by simp; omega) (fun w' R' hx' hR' => rcolumn_spec hx' hl hw8 i (by omega) hR') fun w' o' css' S' h' => ?_
  simp only [bq_add, hiw]
  exact hN (64 - (i + 1)) _ _ (by omega) ⟨i + 1, o', css', S', by omega, rfl, rfl, by rw [range_snoc]; exact h'⟩
end
end Go.Proofs

/- Layer 22: a column of what is known; about how many have a value. -/
set_option maxRecDepth 100000
set_option linter.unusedVariables false
set_option linter.unusedSimpArgs false
namespace Go.Proofs
open Go Go.Q
section
variable {w : World} {R : Value → World → Prop}
theorem vCompareK_spec (a b : V3) (hK : ∀ w', Kp [] w w' → R (.int .i64 (cmpV a b)) w') : callG Try.prog 25 #[valA a, valA b] w R := vCompare_spec a b fun w' _ h => hK w' h
theorem of_spec {val : Value} {st : StatV} (h : StatAt w val st) (hl : st.cols.length < 2 ^ 30) (col : Int) (hN : atV st col = none → ∀ w' c, c.size = 3 → c.all Q.one = true → Kp [] w w' → R (.tuple #[.agg c, .bool false]) w')
    (hS : ∀ c, atV st col = some c → ∀ w' cs, Kp [] w w' → ColX [] w' cs c → R (.tuple #[.agg cs.toArray, .bool true]) w') : callG Try.prog 24 #[val, .int .i64 col] w R := by
  obtain ⟨o, css, rfl, ho, hrd, hlen, hcol⟩ := h
  refine stat_of_call ?_
  unfold stat_of stat_of_s1
  refine argB fun x2 w1 hx2 h2 k1 => ?_
  refine newB fun x4 w2 hx4 h4 k2 => ?_
  have k02 := k1.trans' k2
  have h22 := k2.get h2 (by simp)
  have s1 := k1.size
  have zero : atV st col = none → (bld [(0, 1), (1, 1), (2, 1)] (zc Try.prog 32) #[] fun t15 => stn 3 (.pointer (some ⟨x4, 0, none⟩)) t15 w2 fun w => qG Try.prog (do loadVar 32 (← asAddr (.pointer (some ⟨x4, 0, none⟩)))) w fun r4 => R (.tuple #[r4, (.bool false)]) w) := by
    intro hno
    rw [bld_col0]
    refine retB (R := fun r4 w => R (.tuple #[r4, (.bool false)]) w) (by kernel_rfl) (by kernel_rfl) h4 (by first | (rw [zcCol]; done) | (rw [zcCol]; rfl)) rfl (by simp [cC]) fun w6 hk6 => ?_
    exact hN hno w6 _ rfl (by simp [cC]) (k02.trans hk6 fun x hx hlt => by simp at hx; omega)
  simp only [bq_lss, bV_b, decide_eq_true_eq, decide_eq_false_iff_not]
  refine ⟨fun hneg => zero (by unfold atV; rw [if_neg (by omega)]), fun hge => ?_⟩
  rw [fa_p, ldF (x := o) h22 rfl, hrd.lenL, hlen]
  simp only [bq_geq, bV_b, decide_eq_true_eq, decide_eq_false_iff_not]
  refine ⟨fun hbig => zero (by unfold atV; rw [if_neg (by omega)]), fun hlt => ?_⟩
  obtain ⟨k, rfl⟩ : ∃ k : Nat, col = k := ⟨col.toNat, by omega⟩
  have hk : k < st.cols.length := by omega
  have hat : atV st k = if st.cols[k].steps = [] then none else some st.cols[k] := by
    unfold atV
    rw [if_pos (by omega)]
    simp [hk]
  have hkc : k < css.length := by omega
  obtain ⟨v, hv, hv1, S, hv2, _⟩ := hcol k hk css[k] (by simp [hkc])
  obtain ⟨bl, off, r1, r2⟩ := hrd.rowK (i := k) hkc
  have kd := k02.drew
  have h22d : w2.drew.heap[x2]? = some (.cells #[.int .i64 st.rows, o] 27) := h22
  have hst : ∀ K : Value → Prop, lenL v K = K (.int .i64 st.cols[k].steps.length) := fun K => by rw [hv2.lenL, List.length_map]
  unfold stat_of_s0
  rw [fa_p, ldF (x := o) h22d rfl, r1, (r2 _ kd).1, fa_p, ldF (x := o) h22d rfl, r1, fa_p, (r2 _ kd).2.1 2 v (by omega) (by rw [hv]; rfl), hst]
  simp only [bq_gtr]
  rw [stA (k := 3) (show w2.drew.heap[x4]? = _ from h4) (by rw [zcCol]; rfl) (by simp [hv, cC]) (by rw [hv]; simp [cC, hv1])]
  obtain ⟨w3, hw3⟩ : ∃ w3, w3 = setBlk w2.drew x4 (.cells css[k].toArray 32) := ⟨_, rfl⟩
  have k3 : Kp [] w w3 := by rw [hw3]; exact kd.setBlk (.inr (by omega)) _
  have g2 : w3.heap[x2]? = some (.cells #[.int .i64 st.rows, o] 27) := by rw [hw3, heap_ne (by have := lt_of_blk h2; omega)]; exact h22d
  have g4 : w3.heap[x4]? = some (.cells css[k].toArray 32) := by rw [hw3]; exact heap_self (live_of (show w2.drew.heap[x4]? = _ from h4))
  rw [← hw3, (r2 _ k3).2.1 2 v (by omega) (by rw [hv]; rfl), ldF (x := o) g2 rfl, loadVar_of (n := 3) (by kernel_rfl) (by kernel_rfl) g4 (by simp [hv, cC])]
  refine ⟨by rw [stb_of run_gtr], rfl, rfl, ?_⟩
  have hcx : ColX [] w3 css[k] st.cols[k] := ⟨v, hv, hv1, S, hv2.keep k3 (by simp), by simp⟩
  by_cases hs : st.cols[k].steps = []
  · rw [if_pos hs] at hat
    rw [hs]
    exact hN hat w3 _ (by simp [hv, cC]) (by rw [hv]; simp [cC, hv1]) k3
  · rw [if_neg hs] at hat
    have : decide ((st.cols[k].steps.length : Int) > ((0 : Nat) : Int)) = true := decide_eq_true (by have := List.length_pos_iff.2 hs; omega)
    have := hS _ hat w3 _ k3 hcx
    simpa [List.length_pos_iff.2 hs] using this
/-- how many of a column, by how many different ones -/
theorem same_s0 {wb : World} {x3 x7 : Nat} {r n d : Nat} {v o : Value} {T T' : TypeId} {fr fr' : Nat × Nat} (h3 : w.heap[x3]? = some (.cells #[.int .i64 r, o] T fr)) (h7 : w.heap[x7]? = some (.cells (cC n d v).toArray T' fr')) (hn : n ≤ r) (hr : r < 2 ^ 30) (hd : d < 2 ^ 30) (hR : R (.int .i64 ((max 1 ((r - n) / max 1 d) : Nat) : Int)) w) :
    stat_Same_s0 R (.pointer (some ⟨x3, 0, none⟩)) (.pointer (some ⟨x7, 0, none⟩)) w := by
  unfold stat_Same_s0
  rw [fa_p, ldF (x := .int .i64 r) h3 rfl, fa_p, ldF (x := .int .i64 n) h7 rfl]
  have e1 : IntKind.i64.wrap ((r : Int) - (n : Int)) = ((r - n : Nat) : Int) := by rw [w64 (by omega) (by omega)]; omega
  simp only [bq_sub, e1]
  rw [fa_p, ldF (x := .int .i64 d) h7 rfl, q_max]
  have e2 : max (1 : Int) (d : Int) = ((max 1 d : Nat) : Int) := by omega
  have e3 : ((r - n : Nat) : Int) / ((max 1 d : Nat) : Int) = (((r - n) / max 1 d : Nat) : Int) := by simp
  have h4 : (r - n) / max 1 d ≤ r - n := Nat.div_le_self _ _
  rw [e2, quo_of (by omega) (by omega), e3, wrap_nat64 (by omega), q_max]
  have e5 : max (1 : Int) (((r - n) / max 1 d : Nat) : Int) = ((max 1 ((r - n) / max 1 d) : Nat) : Int) := by omega
  rw [e5]
  exact hR
theorem Same_spec {val : Value} {n : Int} {rows : List (List V3)} (h : StatAt w val (statV n rows)) (hl : rows.length < 2 ^ 20) (col : Int) (v : V3) (hR : ∀ w', Kp [] w w' → R (.int .i64 (sameQ (statV n rows) col v)) w') : callG Try.prog 12 #[val, .int .i64 col, valA v] w R := by
  have hh := h
  obtain ⟨o, css, hval, ho, hrd, hlen, hcol⟩ := hh
  refine stat_Same_call ?_
  unfold stat_Same stat_Same_s1
  rw [hval]
  refine argB fun x3 w1 hx3 h3 k1 => ?_
  have e0 : ∀ (v : V3) (w : World) (k : Value → World → Prop), newG (Value.cells (valA v)) 35 w k = newG (Value.cells (.agg (valV v).toArray)) 35 w k := fun _ _ _ => rfl
  rw [e0]
  refine argB fun x5 w2 hx5 h5 k2 => ?_
  have k02 := k1.trans' k2
  have h32 := k2.get h3 (by simp)
  rw [ldA (k := 2) h32 rfl, ← hval]
  refine of_spec (h.keep k02) (by simp only [statV, List.length_map, List.length_range]; omega) col ?_ ?_
  · intro hno w3 c hc3 hc1 k3
    have k03 := k02.trans' k3
    rw [ex0, ex1]
    refine newB fun x7 w4 hx7 h7 k4 => ?_
    rw [stA (k := 3) h7 (by rw [zcCol]; rfl) hc3 hc1]
    simp only [un_not, bV_b]
    refine ⟨fun _ => ?_, fun h => by simp at h⟩
    have := hR (setBlk w4 x7 (.cells c 32)).drew ((k03.trans' (k4.setBlk (.inr hx7) _)).drew)
    unfold sameQ at this
    rw [hno] at this
    exact this
  · intro c hc w3 cs k3 hcx
    obtain ⟨k, rfl, hk, rfl, hv0⟩ := atV_stat hc
    obtain ⟨sv, hcs, hsv1, S, hsv, _⟩ := hcx
    have k03 := k02.trans' k3
    rw [ex0, ex1]
    refine newB fun x7 w4 hx7 h7 k4 => ?_
    rw [stA (k := 3) h7 (by rw [zcCol]; rfl) (by rw [hcs]; rfl) (by rw [hcs]; simp [cC, hsv1])]
    obtain ⟨w5, hw5⟩ : ∃ w5, w5 = (setBlk w4 x7 (.cells cs.toArray 32)).drew := ⟨_, rfl⟩
    have k35 : Kp [] w3 w5 := by rw [hw5]; exact (k4.setBlk (.inr hx7) _).drew
    have h75 : w5.heap[x7]? = some (.cells (cC (colV k rows).nulls (colV k rows).distinct sv).toArray 32) := by rw [hw5, heap_drew, heap_self (live_of h7), hcs]
    rw [← hw5]
    have k25 := k3.trans' k35
    have k05 := k02.trans' k25
    have h35 := k25.get h32 (by simp)
    have h55 := k25.get h5 (by simp)
    have rs : Rd w5 sv 3 ((colV k rows).steps.map valV) := ⟨S, hsv.keep k35 (by simp)⟩
    have hpos : 0 < (colV k rows).steps.length := List.length_pos_iff.2 fun hh => hv0 (colV_nil.1 hh)
    have hR : ∀ w' (q : Nat), Kp [] w w' → sameQ (statV n rows) k v = q → R (.int .i64 (q : Int)) w' := fun w' q hk' hq => by rw [← hq]; exact hR w' hk'
    have hsQ : sameQ (statV n rows) k v = if v.k = 0 ∨ cmpV v ((colV k rows).steps.getD 0 ⟨0, 0, []⟩) < 0 ∨ cmpV v ((colV k rows).steps.getD ((colV k rows).steps.length - 1) ⟨0, 0, []⟩) > 0 then 0 else max 1 (((statV n rows).rows - (colV k rows).nulls) / max 1 (colV k rows).distinct) := by
      unfold sameQ; rw [hc]
    have hsl : (colV k rows).steps.length ≤ rows.length ∨ (colV k rows).steps.length ≤ 9 := by
      unfold colV stepsV
      simp only
      split
      · right; assumption
      · right; simp
    simp only [un_not, bV_b]
    refine ⟨fun h => by simp at h, fun _ => ?_⟩
    rw [fa_p, ldF (x := .int .i64 v.k) h55 rfl]
    simp only [bq_eql, bV_b, decide_eq_true_eq, decide_eq_false_iff_not]
    refine ⟨fun hk0 => hR w5 0 k05 (by rw [hsQ, if_pos (.inl hk0)]), fun hk0 => ?_⟩
    rw [show ∀ K : Value → Prop, ldn 3 (.pointer (some ⟨x5, 0, none⟩)) w5 K = K (valA v) from fun K => ldA h55 rfl, fa_p, ldF (x := sv) h75 rfl]
    obtain ⟨p, p1, p2, _⟩ := rs.get (i := 0) (by simpa using hpos)
    have r0 : ((colV k rows).steps.map valV)[0]'(by simpa using hpos) = valV ((colV k rows).steps.getD 0 ⟨0, 0, []⟩) := by simp [List.getD, hpos]
    rw [r0] at p2
    have p1' : ∀ K, ia 3 sv (.int .i64 0) K = K p := fun K => p1 .i64 K
    rw [p1', p2]
    refine vCompareK_spec _ _ fun w6 k6 => ?_
    have k06 := k05.trans' k6
    simp only [bq_lss, bV_b, decide_eq_true_eq, decide_eq_false_iff_not]
    refine ⟨fun hlo => hR w6 0 k06 (by rw [hsQ, if_pos (.inr (.inl hlo))]), fun hlo => ?_⟩
    have h56 := k6.get h55 (by simp)
    have h76 := k6.get h75 (by simp)
    have h36 := k6.get h35 (by simp)
    rw [show ∀ K : Value → Prop, ldn 3 (.pointer (some ⟨x5, 0, none⟩)) w6 K = K (valA v) from fun K => ldA h56 rfl, fa_p, ldF (x := sv) h76 rfl, fa_p, ldF (x := sv) h76 rfl, rs.lenL, List.length_map]
    have e1 : IntKind.i64.wrap (((colV k rows).steps.length : Int) - 1) = (((colV k rows).steps.length - 1 : Nat) : Int) := by rw [w64 (by omega) (by omega)]; omega
    simp only [bq_sub, e1]
    obtain ⟨q, q1, q2, _⟩ := (rs.keep k6).get (i := (colV k rows).steps.length - 1) (by simp; omega)
    have r1 : ((colV k rows).steps.map valV)[(colV k rows).steps.length - 1]'(by simp; omega) = valV ((colV k rows).steps.getD ((colV k rows).steps.length - 1) ⟨0, 0, []⟩) := by
      have : (colV k rows).steps.length - 1 < (colV k rows).steps.length := by omega
      simp [List.getD, this]
    rw [r1] at q2
    rw [q1, q2]
    refine vCompareK_spec _ _ fun w7 k7 => ?_
    have k07 := k06.trans' k7
    simp only [bq_gtr, bV_b, decide_eq_true_eq, decide_eq_false_iff_not]
    refine ⟨fun hhi => hR w7 0 k07 (by rw [hsQ, if_pos (.inr (.inr hhi))]), fun hhi => ?_⟩
    have hnl : (colV k rows).nulls ≤ rows.length := by unfold colV; simp only; omega
    have hdl : (colV k rows).distinct ≤ rows.length := by
      have h1 := distV_le (sortV (colVals k rows))
      have h2 := sortV_len (colVals k rows)
      have h3 := colVals_le k rows
      unfold colV; simp only; omega
    refine same_s0 (wb := w7) (k7.get h36 (by simp)) (k7.get h76 (by simp)) hnl (show rows.length < 2 ^ 30 by omega) (by omega) ?_
    exact hR w7 _ k07 (by rw [hsQ, if_neg (by rintro (g | g | g); exact hk0 g; exact hlo g; exact hhi g)])
end
end Go.Proofs

/- Layer 22: the same of the document. -/
set_option maxRecDepth 100000
set_option linter.unusedVariables false
set_option linter.unusedSimpArgs false
namespace Go.Proofs
open Go Go.Q
section
variable {w : World} {R : Value → World → Prop}
theorem at_spec {val : Value} {st : StatV} (h : StatAt w val st) (hl : st.cols.length < 2 ^ 30) (col : Int) (hN : atV st col = none → ∀ w' c, c.size = 3 → c.all Q.one = true → Kp [] w w' → R (.tuple #[.agg c, .bool false]) w')
    (hS : ∀ c, atV st col = some c → ∀ w' cs, Kp [] w w' → ColX [] w' cs c → R (.tuple #[.agg cs.toArray, .bool true]) w') : callG Try.prog 29 #[val, .int .i64 col] w R := by
  obtain ⟨o, css, rfl, ho, hrd, hlen, hcol⟩ := h
  refine ref22_at_call ?_
  unfold ref22_at ref22_at_s1
  refine argB fun x2 w1 hx2 h2 k1 => ?_
  refine newB fun x4 w2 hx4 h4 k2 => ?_
  have k02 := k1.trans' k2
  have h22 := k2.get h2 (by simp)
  have s1 := k1.size
  have zero : atV st col = none → (bld [(0, 1), (1, 1), (2, 1)] (zc Try.prog 32) #[] fun t15 => stn 3 (.pointer (some ⟨x4, 0, none⟩)) t15 w2 fun w => qG Try.prog (do loadVar 32 (← asAddr (.pointer (some ⟨x4, 0, none⟩)))) w fun r4 => R (.tuple #[r4, (.bool false)]) w) := by
    intro hno
    rw [bld_col0]
    refine retB (R := fun r4 w => R (.tuple #[r4, (.bool false)]) w) (by kernel_rfl) (by kernel_rfl) h4 (by first | (rw [zcCol]; done) | (rw [zcCol]; rfl)) rfl (by simp [cC]) fun w6 hk6 => ?_
    exact hN hno w6 _ rfl (by simp [cC]) (k02.trans hk6 fun x hx hlt => by simp at hx; omega)
  simp only [bq_lss, bV_b, decide_eq_true_eq, decide_eq_false_iff_not]
  refine ⟨fun hneg => zero (by unfold atV; rw [if_neg (by omega)]), fun hge => ?_⟩
  rw [fa_p, ldF (x := o) h22 rfl, hrd.lenL, hlen]
  simp only [bq_geq, bV_b, decide_eq_true_eq, decide_eq_false_iff_not]
  refine ⟨fun hbig => zero (by unfold atV; rw [if_neg (by omega)]), fun hlt => ?_⟩
  obtain ⟨k, rfl⟩ : ∃ k : Nat, col = k := ⟨col.toNat, by omega⟩
  have hk : k < st.cols.length := by omega
  have hat : atV st k = if st.cols[k].steps = [] then none else some st.cols[k] := by
    unfold atV
    rw [if_pos (by omega)]
    simp [hk]
  have hkc : k < css.length := by omega
  obtain ⟨v, hv, hv1, S, hv2, _⟩ := hcol k hk css[k] (by simp [hkc])
  obtain ⟨bl, off, r1, r2⟩ := hrd.rowK (i := k) hkc
  have kd := k02.drew
  have h22d : w2.drew.heap[x2]? = some (.cells #[.int .i64 st.rows, o] 27) := h22
  have hst : ∀ K : Value → Prop, lenL v K = K (.int .i64 st.cols[k].steps.length) := fun K => by rw [hv2.lenL, List.length_map]
  unfold ref22_at_s0
  rw [fa_p, ldF (x := o) h22d rfl, r1, (r2 _ kd).1, fa_p, ldF (x := o) h22d rfl, r1, fa_p, (r2 _ kd).2.1 2 v (by omega) (by rw [hv]; rfl), hst]
  simp only [bq_gtr]
  rw [stA (k := 3) (show w2.drew.heap[x4]? = _ from h4) (by rw [zcCol]; rfl) (by simp [hv, cC]) (by rw [hv]; simp [cC, hv1])]
  obtain ⟨w3, hw3⟩ : ∃ w3, w3 = setBlk w2.drew x4 (.cells css[k].toArray 32) := ⟨_, rfl⟩
  have k3 : Kp [] w w3 := by rw [hw3]; exact kd.setBlk (.inr (by omega)) _
  have g2 : w3.heap[x2]? = some (.cells #[.int .i64 st.rows, o] 27) := by rw [hw3, heap_ne (by have := lt_of_blk h2; omega)]; exact h22d
  have g4 : w3.heap[x4]? = some (.cells css[k].toArray 32) := by rw [hw3]; exact heap_self (live_of (show w2.drew.heap[x4]? = _ from h4))
  rw [← hw3, (r2 _ k3).2.1 2 v (by omega) (by rw [hv]; rfl), ldF (x := o) g2 rfl, loadVar_of (n := 3) (by kernel_rfl) (by kernel_rfl) g4 (by simp [hv, cC])]
  refine ⟨by rw [stb_of run_gtr], rfl, rfl, ?_⟩
  have hcx : ColX [] w3 css[k] st.cols[k] := ⟨v, hv, hv1, S, hv2.keep k3 (by simp), by simp⟩
  by_cases hs : st.cols[k].steps = []
  · rw [if_pos hs] at hat
    rw [hs]
    exact hN hat w3 _ (by simp [hv, cC]) (by rw [hv]; simp [cC, hv1]) k3
  · rw [if_neg hs] at hat
    have : decide ((st.cols[k].steps.length : Int) > ((0 : Nat) : Int)) = true := decide_eq_true (by have := List.length_pos_iff.2 hs; omega)
    have := hS _ hat w3 _ k3 hcx
    simpa [List.length_pos_iff.2 hs] using this
/-- how many of a column, by how many different ones -/
theorem rsame_s0 {wb : World} {x3 x7 : Nat} {r n d : Nat} {v o : Value} {T T' : TypeId} {fr fr' : Nat × Nat} (h3 : w.heap[x3]? = some (.cells #[.int .i64 r, o] T fr)) (h7 : w.heap[x7]? = some (.cells (cC n d v).toArray T' fr')) (hn : n ≤ r) (hr : r < 2 ^ 30) (hd : d < 2 ^ 30) (hR : R (.int .i64 ((max 1 ((r - n) / max 1 d) : Nat) : Int)) w) :
    ref22_Same_s0 R (.pointer (some ⟨x3, 0, none⟩)) (.pointer (some ⟨x7, 0, none⟩)) w := by
  unfold ref22_Same_s0
  rw [fa_p, ldF (x := .int .i64 r) h3 rfl, fa_p, ldF (x := .int .i64 n) h7 rfl]
  have e1 : IntKind.i64.wrap ((r : Int) - (n : Int)) = ((r - n : Nat) : Int) := by rw [w64 (by omega) (by omega)]; omega
  simp only [bq_sub, e1]
  rw [fa_p, ldF (x := .int .i64 d) h7 rfl, q_max]
  have e2 : max (1 : Int) (d : Int) = ((max 1 d : Nat) : Int) := by omega
  have e3 : ((r - n : Nat) : Int) / ((max 1 d : Nat) : Int) = (((r - n) / max 1 d : Nat) : Int) := by simp
  have h4 : (r - n) / max 1 d ≤ r - n := Nat.div_le_self _ _
  rw [e2, quo_of (by omega) (by omega), e3, wrap_nat64 (by omega), q_max]
  have e5 : max (1 : Int) (((r - n) / max 1 d : Nat) : Int) = ((max 1 ((r - n) / max 1 d) : Nat) : Int) := by omega
  rw [e5]
  exact hR
theorem rSame_spec {val : Value} {n : Int} {rows : List (List V3)} (h : StatAt w val (statV n rows)) (hl : rows.length < 2 ^ 20) (col : Int) (v : V3) (hR : ∀ w', Kp [] w w' → R (.int .i64 (sameQ (statV n rows) col v)) w') : callG Try.prog 14 #[val, .int .i64 col, valA v] w R := by
  have hh := h
  obtain ⟨o, css, hval, ho, hrd, hlen, hcol⟩ := hh
  refine ref22_Same_call ?_
  unfold ref22_Same ref22_Same_s1
  rw [hval]
  refine argB fun x3 w1 hx3 h3 k1 => ?_
  have e0 : ∀ (v : V3) (w : World) (k : Value → World → Prop), newG (Value.cells (valA v)) 35 w k = newG (Value.cells (.agg (valV v).toArray)) 35 w k := fun _ _ _ => rfl
  rw [e0]
  refine argB fun x5 w2 hx5 h5 k2 => ?_
  have k02 := k1.trans' k2
  have h32 := k2.get h3 (by simp)
  rw [ldA (k := 2) h32 rfl, ← hval]
  refine at_spec (h.keep k02) (by simp only [statV, List.length_map, List.length_range]; omega) col ?_ ?_
  · intro hno w3 c hc3 hc1 k3
    have k03 := k02.trans' k3
    rw [ex0, ex1]
    refine newB fun x7 w4 hx7 h7 k4 => ?_
    rw [stA (k := 3) h7 (by rw [zcCol]; rfl) hc3 hc1]
    simp only [un_not, bV_b]
    refine ⟨fun _ => ?_, fun h => by simp at h⟩
    have := hR (setBlk w4 x7 (.cells c 32)).drew ((k03.trans' (k4.setBlk (.inr hx7) _)).drew)
    unfold sameQ at this
    rw [hno] at this
    exact this
  · intro c hc w3 cs k3 hcx
    obtain ⟨k, rfl, hk, rfl, hv0⟩ := atV_stat hc
    obtain ⟨sv, hcs, hsv1, S, hsv, _⟩ := hcx
    have k03 := k02.trans' k3
    rw [ex0, ex1]
    refine newB fun x7 w4 hx7 h7 k4 => ?_
    rw [stA (k := 3) h7 (by rw [zcCol]; rfl) (by rw [hcs]; rfl) (by rw [hcs]; simp [cC, hsv1])]
    obtain ⟨w5, hw5⟩ : ∃ w5, w5 = (setBlk w4 x7 (.cells cs.toArray 32)).drew := ⟨_, rfl⟩
    have k35 : Kp [] w3 w5 := by rw [hw5]; exact (k4.setBlk (.inr hx7) _).drew
    have h75 : w5.heap[x7]? = some (.cells (cC (colV k rows).nulls (colV k rows).distinct sv).toArray 32) := by rw [hw5, heap_drew, heap_self (live_of h7), hcs]
    rw [← hw5]
    have k25 := k3.trans' k35
    have k05 := k02.trans' k25
    have h35 := k25.get h32 (by simp)
    have h55 := k25.get h5 (by simp)
    have rs : Rd w5 sv 3 ((colV k rows).steps.map valV) := ⟨S, hsv.keep k35 (by simp)⟩
    have hpos : 0 < (colV k rows).steps.length := List.length_pos_iff.2 fun hh => hv0 (colV_nil.1 hh)
    have hR : ∀ w' (q : Nat), Kp [] w w' → sameQ (statV n rows) k v = q → R (.int .i64 (q : Int)) w' := fun w' q hk' hq => by rw [← hq]; exact hR w' hk'
    have hsQ : sameQ (statV n rows) k v = if v.k = 0 ∨ cmpV v ((colV k rows).steps.getD 0 ⟨0, 0, []⟩) < 0 ∨ cmpV v ((colV k rows).steps.getD ((colV k rows).steps.length - 1) ⟨0, 0, []⟩) > 0 then 0 else max 1 (((statV n rows).rows - (colV k rows).nulls) / max 1 (colV k rows).distinct) := by
      unfold sameQ; rw [hc]
    have hsl : (colV k rows).steps.length ≤ rows.length ∨ (colV k rows).steps.length ≤ 9 := by
      unfold colV stepsV
      simp only
      split
      · right; assumption
      · right; simp
    simp only [un_not, bV_b]
    refine ⟨fun h => by simp at h, fun _ => ?_⟩
    rw [fa_p, ldF (x := .int .i64 v.k) h55 rfl]
    simp only [bq_eql, bV_b, decide_eq_true_eq, decide_eq_false_iff_not]
    refine ⟨fun hk0 => hR w5 0 k05 (by rw [hsQ, if_pos (.inl hk0)]), fun hk0 => ?_⟩
    rw [show ∀ K : Value → Prop, ldn 3 (.pointer (some ⟨x5, 0, none⟩)) w5 K = K (valA v) from fun K => ldA h55 rfl, fa_p, ldF (x := sv) h75 rfl]
    obtain ⟨p, p1, p2, _⟩ := rs.get (i := 0) (by simpa using hpos)
    have r0 : ((colV k rows).steps.map valV)[0]'(by simpa using hpos) = valV ((colV k rows).steps.getD 0 ⟨0, 0, []⟩) := by simp [List.getD, hpos]
    rw [r0] at p2
    have p1' : ∀ K, ia 3 sv (.int .i64 0) K = K p := fun K => p1 .i64 K
    rw [p1', p2]
    refine dCompare_spec _ _ fun w6 k6 => ?_
    have k06 := k05.trans' k6
    simp only [bq_lss, bV_b, decide_eq_true_eq, decide_eq_false_iff_not]
    refine ⟨fun hlo => hR w6 0 k06 (by rw [hsQ, if_pos (.inr (.inl hlo))]), fun hlo => ?_⟩
    have h56 := k6.get h55 (by simp)
    have h76 := k6.get h75 (by simp)
    have h36 := k6.get h35 (by simp)
    rw [show ∀ K : Value → Prop, ldn 3 (.pointer (some ⟨x5, 0, none⟩)) w6 K = K (valA v) from fun K => ldA h56 rfl, fa_p, ldF (x := sv) h76 rfl, fa_p, ldF (x := sv) h76 rfl, rs.lenL, List.length_map]
    have e1 : IntKind.i64.wrap (((colV k rows).steps.length : Int) - 1) = (((colV k rows).steps.length - 1 : Nat) : Int) := by rw [w64 (by omega) (by omega)]; omega
    simp only [bq_sub, e1]
    obtain ⟨q, q1, q2, _⟩ := (rs.keep k6).get (i := (colV k rows).steps.length - 1) (by simp; omega)
    have r1 : ((colV k rows).steps.map valV)[(colV k rows).steps.length - 1]'(by simp; omega) = valV ((colV k rows).steps.getD ((colV k rows).steps.length - 1) ⟨0, 0, []⟩) := by
      have : (colV k rows).steps.length - 1 < (colV k rows).steps.length := by omega
      simp [List.getD, this]
    rw [r1] at q2
    rw [q1, q2]
    refine dCompare_spec _ _ fun w7 k7 => ?_
    have k07 := k06.trans' k7
    simp only [bq_gtr, bV_b, decide_eq_true_eq, decide_eq_false_iff_not]
    refine ⟨fun hhi => hR w7 0 k07 (by rw [hsQ, if_pos (.inr (.inr hhi))]), fun hhi => ?_⟩
    have hnl : (colV k rows).nulls ≤ rows.length := by unfold colV; simp only; omega
    have hdl : (colV k rows).distinct ≤ rows.length := by
      have h1 := distV_le (sortV (colVals k rows))
      have h2 := sortV_len (colVals k rows)
      have h3 := colVals_le k rows
      unfold colV; simp only; omega
    refine rsame_s0 (wb := w7) (k7.get h36 (by simp)) (k7.get h76 (by simp)) hnl (show rows.length < 2 ^ 30 by omega) (by omega) ?_
    exact hR w7 _ k07 (by rw [hsQ, if_neg (by rintro (g | g | g); exact hk0 g; exact hlo g; exact hhi g)])
end
end Go.Proofs

/- Layer 22: about how many are between two. -/
set_option maxRecDepth 100000
set_option linter.unusedVariables false
set_option linter.unusedSimpArgs false
namespace Go.Proofs
open Go Go.Q
theorem bld_bd0 {K : Value → Prop} : bld [(0, 1), (1, 1), (2, 3)] (zc Try.prog 37) #[] K = K (bdA bNone) := by
  rw [zcBd]; rfl
structure BSt (w wj : World) (x4 x6 x7 x9 : Nat) (rows : Nat) (c : ColV) (lo hi : Bd) (o sv : Value) : Prop where
  kp : Kp [] w wj
  h4 : wj.heap[x4]? = some (.cells #[.int .i64 rows, o] 27)
  h6 : wj.heap[x6]? = some (.cells (bC lo).toArray 37)
  h7 : wj.heap[x7]? = some (.cells (bC hi).toArray 37)
  h9 : wj.heap[x9]? = some (.cells (cC c.nulls c.distinct sv).toArray 32)
  rs : Rd wj sv 3 (c.steps.map valV)
section
variable {w wj : World} {x4 x6 x7 x9 rows : Nat} {c : ColV} {lo hi : Bd} {o sv : Value} {R : Value → World → Prop}
theorem BSt.keep (h : BSt w wj x4 x6 x7 x9 rows c lo hi o sv) {w' : World} (hk : Kp [] wj w') : BSt w w' x4 x6 x7 x9 rows c lo hi o sv :=
  ⟨h.kp.trans' hk, hk.get h.h4 (by simp), hk.get h.h6 (by simp), hk.get h.h7 (by simp), hk.get h.h9 (by simp), h.rs.keep hk⟩
theorem steps_len (l : List V3) : (stepsV l).length ≤ 9 := by
  unfold stepsV
  split
  · assumption
  · simp
theorem nulls_lt {k : Nat} {l : List (List V3)} (h : colVals k l ≠ []) : (colV k l).nulls < l.length := by
  have h1 := pos_left h
  have h2 := colVals_le k l
  unfold colV
  simp only
  omega
end
--BEGIN
section
variable {w wj : World} {x4 x6 x7 x9 : Nat} {lo hi : Bd} {o sv : Value} {R : Value → World → Prop}
theorem btw_s0 {k n : Nat} {l : List (List V3)} (h : BSt w wj x4 x6 x7 x9 l.length (colV k l) lo hi o sv) (hl : l.length < 2 ^ 20) (hv0 : colVals k l ≠ []) (hn : n ≤ (colV k l).steps.length)
    (hR : ∀ w', Kp [] w w' → R (.int .i64 ((1 + shareN (l.length - (colV k l).nulls - 1) n (colV k l).steps.length : Nat) : Int)) w') : stat_Between_s0 R (.pointer (some ⟨x4, 0, none⟩)) (.pointer (some ⟨x9, 0, none⟩)) (.int .i64 (n : Nat)) wj := by
  have hnl := nulls_lt hv0
  have hs9 : (colV k l).steps.length ≤ 9 := steps_len _
  have hpos : 0 < (colV k l).steps.length := List.length_pos_iff.2 fun hh => hv0 (colV_nil.1 hh)
  unfold stat_Between_s0
  rw [fa_p, ldF (x := .int .i64 l.length) h.h4 rfl, fa_p, ldF (x := .int .i64 (colV k l).nulls) h.h9 rfl]
  have e1 : IntKind.i64.wrap ((l.length : Int) - ((colV k l).nulls : Int)) = ((l.length - (colV k l).nulls : Nat) : Int) := by rw [w64 (by omega) (by omega)]; omega
  have e2 : IntKind.i64.wrap (((l.length - (colV k l).nulls : Nat) : Int) - 1) = ((l.length - (colV k l).nulls - 1 : Nat) : Int) := by rw [w64 (by omega) (by omega)]; omega
  simp only [bq_sub, e1, e2]
  rw [fa_p, ldF (x := sv) h.h9 rfl, h.rs.lenL, List.length_map]
  refine share_spec _ _ _ hpos (by omega) (by omega) (by omega) ?_
  have h3 := shareN_mono (a := l.length - (colV k l).nulls - 1) (c := (colV k l).steps.length) hn
  rw [shareN_all hpos] at h3
  have e3 : IntKind.i64.wrap (1 + ((shareN (l.length - (colV k l).nulls - 1) n (colV k l).steps.length : Nat) : Int)) = ((1 + shareN (l.length - (colV k l).nulls - 1) n (colV k l).steps.length : Nat) : Int) := by rw [w64 (by omega) (by omega)]; omega
  simp only [bq_add, e3]
  exact hR _ h.kp.drew
theorem btw_head {val : Value} {n : Int} {l : List (List V3)} (h : StatAt w val (statV n l)) (hl : l.length < 2 ^ 20) (col : Int) (lo hi : Bd) (hR : ∀ w', Kp [] w w' → R (.int .i64 (betweenQ (statV n l) col lo hi)) w')
    (hK : ∀ k wj x4 x6 x7 x9 o sv, colVals k l ≠ [] → betweenQ (statV n l) col lo hi = 1 + shareN (l.length - (colV k l).nulls - 1) (inN (colV k l).steps lo hi) (colV k l).steps.length → BSt w wj x4 x6 x7 x9 l.length (colV k l) lo hi o sv →
      stat_Between_s4 R (.pointer (some ⟨x4, 0, none⟩)) (.pointer (some ⟨x6, 0, none⟩)) (.pointer (some ⟨x7, 0, none⟩)) (.pointer (some ⟨x9, 0, none⟩)) wj) :
    callG Try.prog 13 #[val, .int .i64 col, bdA lo, bdA hi] w R := by
  have hh := h
  obtain ⟨o, css, hval, ho, hrd, hlen, hcol⟩ := hh
  refine stat_Between_call ?_
  unfold stat_Between stat_Between_s5
  rw [hval]
  have e1 : ∀ (v : Bd) (w : World) (k : Value → World → Prop), newG (Value.cells (bdA v)) 37 w k = newG (Value.cells (.agg (bC v).toArray)) 37 w k := fun _ _ _ => rfl
  refine argB fun x4 w1 hx4 h4 k1 => ?_
  rw [e1]
  refine argB fun x6 w2 hx6 h6 k2 => ?_
  rw [e1]
  refine argB fun x7 w3 hx7 h7 k3 => ?_
  have k03 := (k1.trans' k2).trans' k3
  have h43 := k3.get (k2.get h4 (by simp)) (by simp)
  have h63 := k3.get h6 (by simp)
  rw [ldA (k := 2) h43 rfl, ← hval]
  have fin : ∀ (w4 : World) (c : Array Value) (t : Bool), c.size = 3 → c.all Q.one = true → Kp [] w3 w4 → (t = false → betweenQ (statV n l) col lo hi = 0) → (t = true → ∃ k sv, colVals k l ≠ [] ∧ atV (statV n l) col = some (colV k l) ∧ c = (cC (colV k l).nulls (colV k l).distinct sv).toArray ∧ Rd w4 sv 3 ((colV k l).steps.map valV)) →
      (qG Try.prog (Instr.extract (.tuple #[.agg c, .bool t]) 0) w4 fun t21 =>
      qG Try.prog (Instr.extract (.tuple #[.agg c, .bool t]) 1) w4 fun t22 =>
      newG (zc Try.prog 32) 32 w4 fun t9 w =>
      stn 3 t9 t21 w fun w =>
      ldn 5 (.pointer (some ⟨x6, 0, none⟩)) w fun t24 =>
      ldn 5 (.pointer (some ⟨x7, 0, none⟩)) w fun t25 =>
      bld [(0, 1), (1, 1), (2, 3)] (zc Try.prog 37) #[] fun t26 =>
      bld [(0, 1), (1, 1), (2, 3)] (zc Try.prog 37) #[] fun t27 =>
      callG Try.prog 26 #[t24, t25, t26, t27] w fun t28 w =>
      qG Try.prog (Instr.extract t28 0) w fun t29 =>
      qG Try.prog (Instr.extract t28 1) w fun t30 =>
      qG Try.prog (Instr.extract t28 2) w fun t31 =>
      newG (zc Try.prog 37) 37 w fun t11 w =>
      newG (zc Try.prog 37) 37 w fun t12 w =>
      stn 5 t11 t29 w fun w =>
      stn 5 t12 t30 w fun w =>
      qG Try.prog (Op.unary .not t22) w fun t33 =>
      bV t33
      (R (.int .i64 0) w)
      (qG Try.prog (Op.unary .not t31) w fun t36 =>
      bV t36
      (R (.int .i64 0) w)
      (stat_Between_s4 R (.pointer (some ⟨x4, 0, none⟩)) (.pointer (some ⟨x6, 0, none⟩)) (.pointer (some ⟨x7, 0, none⟩)) t9 w))) := by
    intro w4 c t hc3 hc1 k4 hno hyes
    rw [ex0, ex1]
    refine newB fun x9 w5 hx9 h9 k5 => ?_
    rw [stA (k := 3) h9 (by rw [zcCol]; rfl) hc3 hc1]
    obtain ⟨w6, hw6⟩ : ∃ w6, w6 = setBlk w5 x9 (.cells c 32) := ⟨_, rfl⟩
    have k46 : Kp [] w4 w6 := by rw [hw6]; exact k5.setBlk (.inr hx9) _
    have g9 : w6.heap[x9]? = some (.cells c 32) := by rw [hw6]; exact heap_self (live_of h9)
    rw [← hw6]
    have k36 := k4.trans' k46
    rw [ldA (k := 5) (k36.get h63 (by simp)) rfl, ldA (k := 5) (k36.get h7 (by simp)) rfl, bld_bd0, bld_bd0]
    refine narrow_spec lo hi bNone bNone fun w7 k7 => ?_
    rw [ex30, ex31, ex32]
    refine newB fun x11 w8 hx11 h11 k8 => ?_
    refine newB fun x12 w9 hx12 h12 k9 => ?_
    have h119 := k9.get h11 (by simp)
    have l11 := lt_of_blk h11
    unfold bdA
    rw [stA (k := 5) h119 (by rw [zcBd]; rfl) rfl (bC_one _), stA (k := 5) (by rw [heap_ne (by omega)]; exact h12) (by rw [zcBd]; rfl) rfl (bC_one _)]
    have s8 := k8.size
    obtain ⟨wa, hwa⟩ : ∃ wa, wa = setBlk (setBlk w9 x11 (.cells (bC (tightV lo bNone 1)).toArray 37)) x12 (.cells (bC (tightV hi bNone (-1))).toArray 37) := ⟨_, rfl⟩
    have k7a : Kp [] w7 wa := by rw [hwa]; exact ((k8.trans' k9).setBlk (.inr hx11) _).setBlk (.inr (by omega)) _
    rw [← hwa]
    have k6a := k7.trans' k7a
    have k0a := k03.trans' (k36.trans' k6a)
    simp only [un_not, bV_b]
    refine ⟨fun h => ?_, fun h => ⟨fun h2 => ?_, fun h2 => ?_⟩⟩
    · have := hR wa k0a
      rw [hno (by simpa using h)] at this
      exact this
    · have := hR wa k0a
      obtain ⟨k, sv, hv0, hat, _, _⟩ := hyes (by simpa using h)
      unfold betweenQ at this
      rw [hat] at this
      simp only at this
      rw [if_neg (by simpa using h2)] at this
      exact this
    · obtain ⟨k, sv, hv0, hat, hc, hsv⟩ := hyes (by simpa using h)
      refine hK k wa x4 x6 x7 x9 o sv hv0 ?_ ⟨k0a, (k36.trans' k6a).get h43 (by simp), (k36.trans' k6a).get h63 (by simp), (k36.trans' k6a).get h7 (by simp), ?_, (hsv.keep k46).keep k6a⟩
      · unfold betweenQ
        rw [hat]
        simp only
        rw [if_pos (by simpa using h2)]; rfl
      · rw [← hc]; exact k6a.get g9 (by simp)
  refine of_spec (h.keep k03) (by simp only [statV, List.length_map, List.length_range]; omega) col ?_ ?_
  · intro hno w4 c hc3 hc1 k4
    exact fin w4 c false hc3 hc1 k4 (fun _ => by unfold betweenQ; rw [hno]) (fun h => by cases h)
  · intro c hc w4 cs k4 hcx
    obtain ⟨k, hk0, hk, rfl, hv0⟩ := atV_stat hc
    obtain ⟨sv, hcs, hsv1, S, hsv, _⟩ := hcx
    exact fin w4 _ true (by rw [hcs]; rfl) (by rw [hcs]; simp [cC, hsv1]) k4 (fun h => by cases h) fun _ => ⟨k, sv, hv0, hc, by rw [hcs], ⟨S, hsv⟩⟩
end
--END
section
variable {w : World} {R : Value → World → Prop}
theorem filt_snoc {α : Type} (p : α → Bool) {l : List α} {i : Nat} (hi : i < l.length) : ((l.take (i + 1)).filter p).length = ((l.take i).filter p).length + if p l[i] = true then 1 else 0 := by
  rw [List.take_succ_eq_append_getElem hi, List.filter_append, List.length_append]
  by_cases h : p l[i] = true <;> simp [h]
theorem Between_spec {val : Value} {n : Int} {l : List (List V3)} (h : StatAt w val (statV n l)) (hl : l.length < 2 ^ 20) (col : Int) (lo hi : Bd) (hR : ∀ w', Kp [] w w' → R (.int .i64 (betweenQ (statV n l) col lo hi)) w') : callG Try.prog 13 #[val, .int .i64 col, bdA lo, bdA hi] w R := by
  refine btw_head h hl col lo hi hR fun k wj x4 x6 x7 x9 o sv hv0 hq hb => ?_
  rw [hq] at hR
  have hs9 : (colV k l).steps.length ≤ 9 := steps_len _
  unfold stat_Between_s4 stat_Between_s3 stat_Between_L2
  rw [fa_p, ldF (x := sv) hb.h9 rfl, hb.rs.lenL, List.length_map]
  generalize hst : (colV k l).steps = st at *
  refine loop_inv (fun m xs wi => ∃ i, i ≤ st.length ∧ m = st.length - i ∧ xs = [.pointer (some ⟨x4, 0, none⟩), .pointer (some ⟨x6, 0, none⟩), .pointer (some ⟨x7, 0, none⟩), .pointer (some ⟨x9, 0, none⟩), .int .i64 ((((st.take i).filter fun v => inV v lo hi).length : Nat) : Int), sv, .int .i64 (st.length : Nat), .int .i64 (i : Nat)] ∧ BSt w wi x4 x6 x7 x9 l.length (colV k l) lo hi o sv) ?_ (m := st.length) ⟨0, by omega, rfl, rfl, hb⟩
  rintro m N xs wi ⟨i, hi', rfl, rfl, hbi⟩ hN
  have hrs := hbi.rs
  rw [hst] at hrs
  have hiw : IntKind.i64.wrap ((i : Int) + 1) = ((i + 1 : Nat) : Int) := by rw [w64 (by omega) (by omega)]; simp
  unfold stat_Between_L2F stat_Between_b1
  dsimp only
  simp only [bq_lss, bV_b, decide_eq_true_eq, decide_eq_false_iff_not]
  refine ⟨fun hlt => ?_, fun hge => ?_⟩
  · have hlt : i < st.length := by omega
    have hfl := filt_snoc (fun v => inV v lo hi) hlt
    obtain ⟨p, p1, p2, _⟩ := hrs.get (i := i) (by simpa using hlt)
    have hrow : (st.map valV)[i]'(by simpa using hlt) = valV st[i] := by simp
    rw [hrow] at p2
    rw [p1, p2]
    refine newB fun x16 w2 hx16 h16 k2 => ?_
    rw [stA (k := 3) h16 (by rw [zcVal]; rfl) rfl (by simp [valV])]
    obtain ⟨w3, hw3⟩ : ∃ w3, w3 = setBlk w2 x16 (.cells (valV st[i]).toArray 35) := ⟨_, rfl⟩
    have k3 : Kp [] wi w3 := by rw [hw3]; exact k2.setBlk (.inr hx16) _
    have g16 : w3.heap[x16]? = some (.cells (valV st[i]).toArray 35) := by rw [hw3]; exact heap_self (live_of h16)
    have h3 := hbi.keep k3
    rw [← hw3, show ∀ K : Value → Prop, ldn 3 (.pointer (some ⟨x16, 0, none⟩)) w3 K = K (valA st[i]) from fun K => ldA g16 rfl, ldA (k := 5) h3.h6 rfl, ldA (k := 5) h3.h7 rfl]
    refine in_spec st[i] lo _ fun w4 k4 => ?_
    have h4 := h3.keep k4
    have hbd : ((st.take i).filter fun v => inV v lo hi).length ≤ i := by
      have := List.length_filter_le (fun v => inV v lo hi) (st.take i)
      rw [List.length_take] at this
      omega
    simp only [bV_b, bq_add, hiw]
    refine ⟨fun hin => ?_, fun hin => ?_⟩
    · rw [if_pos hin] at hfl
      have hnw : IntKind.i64.wrap (((((st.take i).filter fun v => inV v lo hi).length : Nat) : Int) + 1) = ((((st.take (i + 1)).filter fun v => inV v lo hi).length : Nat) : Int) := by rw [hfl, w64 (by omega) (by omega)]; simp
      rw [hnw]
      exact hN (st.length - (i + 1)) _ _ (by omega) ⟨i + 1, by omega, rfl, rfl, h4⟩
    · rw [if_neg (by simp [hin])] at hfl
      refine hN (st.length - (i + 1)) _ _ (by omega) ⟨i + 1, by omega, rfl, ?_, h4⟩
      rw [hfl]; rfl
  · have hie : i = st.length := by omega
    subst hie
    rw [List.take_length]
    refine btw_s0 hbi hl hv0 (by rw [hst]; exact List.length_filter_le _ _) fun w' hk => ?_
    rw [hst]
    exact hR w' hk
end
end Go.Proofs

/- Layer 22: about how many are between two: the document's. -/
set_option maxRecDepth 100000
set_option linter.unusedVariables false
set_option linter.unusedSimpArgs false
namespace Go.Proofs
open Go Go.Q
section
variable {w wj : World} {x4 x6 x7 x9 : Nat} {lo hi : Bd} {o sv : Value} {R : Value → World → Prop}
theorem rbtw_s0 {k n : Nat} {l : List (List V3)} (h : BSt w wj x4 x6 x7 x9 l.length (colV k l) lo hi o sv) (hl : l.length < 2 ^ 20) (hv0 : colVals k l ≠ []) (hn : n ≤ (colV k l).steps.length)
    (hR : ∀ w', Kp [] w w' → R (.int .i64 ((1 + shareN (l.length - (colV k l).nulls - 1) n (colV k l).steps.length : Nat) : Int)) w') : ref22_Between_s0 R (.pointer (some ⟨x4, 0, none⟩)) (.pointer (some ⟨x9, 0, none⟩)) (.int .i64 (n : Nat)) wj := by
  have hnl := nulls_lt hv0
  have hs9 : (colV k l).steps.length ≤ 9 := steps_len _
  have hpos : 0 < (colV k l).steps.length := List.length_pos_iff.2 fun hh => hv0 (colV_nil.1 hh)
  unfold ref22_Between_s0
  rw [fa_p, ldF (x := .int .i64 l.length) h.h4 rfl, fa_p, ldF (x := .int .i64 (colV k l).nulls) h.h9 rfl]
  have e1 : IntKind.i64.wrap ((l.length : Int) - ((colV k l).nulls : Int)) = ((l.length - (colV k l).nulls : Nat) : Int) := by rw [w64 (by omega) (by omega)]; omega
  have e2 : IntKind.i64.wrap (((l.length - (colV k l).nulls : Nat) : Int) - 1) = ((l.length - (colV k l).nulls - 1 : Nat) : Int) := by rw [w64 (by omega) (by omega)]; omega
  simp only [bq_sub, e1, e2]
  rw [fa_p, ldF (x := sv) h.h9 rfl, h.rs.lenL, List.length_map]
  refine rshare_spec _ _ _ hpos (by omega) (by omega) (by omega) ?_
  have h3 := shareN_mono (a := l.length - (colV k l).nulls - 1) (c := (colV k l).steps.length) hn
  rw [shareN_all hpos] at h3
  have e3 : IntKind.i64.wrap (1 + ((shareN (l.length - (colV k l).nulls - 1) n (colV k l).steps.length : Nat) : Int)) = ((1 + shareN (l.length - (colV k l).nulls - 1) n (colV k l).steps.length : Nat) : Int) := by rw [w64 (by omega) (by omega)]; omega
  simp only [bq_add, e3]
  exact hR _ h.kp.drew
theorem rbtw_head {val : Value} {n : Int} {l : List (List V3)} (h : StatAt w val (statV n l)) (hl : l.length < 2 ^ 20) (col : Int) (lo hi : Bd) (hR : ∀ w', Kp [] w w' → R (.int .i64 (betweenQ (statV n l) col lo hi)) w')
    (hK : ∀ k wj x4 x6 x7 x9 o sv, colVals k l ≠ [] → betweenQ (statV n l) col lo hi = 1 + shareN (l.length - (colV k l).nulls - 1) (inN (colV k l).steps lo hi) (colV k l).steps.length → BSt w wj x4 x6 x7 x9 l.length (colV k l) lo hi o sv →
      ref22_Between_s4 R (.pointer (some ⟨x4, 0, none⟩)) (.pointer (some ⟨x6, 0, none⟩)) (.pointer (some ⟨x7, 0, none⟩)) (.pointer (some ⟨x9, 0, none⟩)) wj) :
    callG Try.prog 15 #[val, .int .i64 col, bdA lo, bdA hi] w R := by
  have hh := h
  obtain ⟨o, css, hval, ho, hrd, hlen, hcol⟩ := hh
  refine ref22_Between_call ?_
  unfold ref22_Between ref22_Between_s5
  rw [hval]
  have e1 : ∀ (v : Bd) (w : World) (k : Value → World → Prop), newG (Value.cells (bdA v)) 37 w k = newG (Value.cells (.agg (bC v).toArray)) 37 w k := fun _ _ _ => rfl
  refine argB fun x4 w1 hx4 h4 k1 => ?_
  rw [e1]
  refine argB fun x6 w2 hx6 h6 k2 => ?_
  rw [e1]
  refine argB fun x7 w3 hx7 h7 k3 => ?_
  have k03 := (k1.trans' k2).trans' k3
  have h43 := k3.get (k2.get h4 (by simp)) (by simp)
  have h63 := k3.get h6 (by simp)
  rw [ldA (k := 2) h43 rfl, ← hval]
  have fin : ∀ (w4 : World) (c : Array Value) (t : Bool), c.size = 3 → c.all Q.one = true → Kp [] w3 w4 → (t = false → betweenQ (statV n l) col lo hi = 0) → (t = true → ∃ k sv, colVals k l ≠ [] ∧ atV (statV n l) col = some (colV k l) ∧ c = (cC (colV k l).nulls (colV k l).distinct sv).toArray ∧ Rd w4 sv 3 ((colV k l).steps.map valV)) →
      (qG Try.prog (Instr.extract (.tuple #[.agg c, .bool t]) 0) w4 fun t21 =>
      qG Try.prog (Instr.extract (.tuple #[.agg c, .bool t]) 1) w4 fun t22 =>
      newG (zc Try.prog 32) 32 w4 fun t9 w =>
      stn 3 t9 t21 w fun w =>
      ldn 5 (.pointer (some ⟨x6, 0, none⟩)) w fun t24 =>
      ldn 5 (.pointer (some ⟨x7, 0, none⟩)) w fun t25 =>
      bld [(0, 1), (1, 1), (2, 3)] (zc Try.prog 37) #[] fun t26 =>
      bld [(0, 1), (1, 1), (2, 3)] (zc Try.prog 37) #[] fun t27 =>
      callG Try.prog 30 #[t24, t25, t26, t27] w fun t28 w =>
      qG Try.prog (Instr.extract t28 0) w fun t29 =>
      qG Try.prog (Instr.extract t28 1) w fun t30 =>
      qG Try.prog (Instr.extract t28 2) w fun t31 =>
      newG (zc Try.prog 37) 37 w fun t11 w =>
      newG (zc Try.prog 37) 37 w fun t12 w =>
      stn 5 t11 t29 w fun w =>
      stn 5 t12 t30 w fun w =>
      qG Try.prog (Op.unary .not t22) w fun t33 =>
      bV t33
      (R (.int .i64 0) w)
      (qG Try.prog (Op.unary .not t31) w fun t36 =>
      bV t36
      (R (.int .i64 0) w)
      (ref22_Between_s4 R (.pointer (some ⟨x4, 0, none⟩)) (.pointer (some ⟨x6, 0, none⟩)) (.pointer (some ⟨x7, 0, none⟩)) t9 w))) := by
    intro w4 c t hc3 hc1 k4 hno hyes
    rw [ex0, ex1]
    refine newB fun x9 w5 hx9 h9 k5 => ?_
    rw [stA (k := 3) h9 (by rw [zcCol]; rfl) hc3 hc1]
    obtain ⟨w6, hw6⟩ : ∃ w6, w6 = setBlk w5 x9 (.cells c 32) := ⟨_, rfl⟩
    have k46 : Kp [] w4 w6 := by rw [hw6]; exact k5.setBlk (.inr hx9) _
    have g9 : w6.heap[x9]? = some (.cells c 32) := by rw [hw6]; exact heap_self (live_of h9)
    rw [← hw6]
    have k36 := k4.trans' k46
    rw [ldA (k := 5) (k36.get h63 (by simp)) rfl, ldA (k := 5) (k36.get h7 (by simp)) rfl, bld_bd0, bld_bd0]
    refine rnarrow_spec lo hi bNone bNone fun w7 k7 => ?_
    rw [ex30, ex31, ex32]
    refine newB fun x11 w8 hx11 h11 k8 => ?_
    refine newB fun x12 w9 hx12 h12 k9 => ?_
    have h119 := k9.get h11 (by simp)
    have l11 := lt_of_blk h11
    unfold bdA
    rw [stA (k := 5) h119 (by rw [zcBd]; rfl) rfl (bC_one _), stA (k := 5) (by rw [heap_ne (by omega)]; exact h12) (by rw [zcBd]; rfl) rfl (bC_one _)]
    have s8 := k8.size
    obtain ⟨wa, hwa⟩ : ∃ wa, wa = setBlk (setBlk w9 x11 (.cells (bC (tightV lo bNone 1)).toArray 37)) x12 (.cells (bC (tightV hi bNone (-1))).toArray 37) := ⟨_, rfl⟩
    have k7a : Kp [] w7 wa := by rw [hwa]; exact ((k8.trans' k9).setBlk (.inr hx11) _).setBlk (.inr (by omega)) _
    rw [← hwa]
    have k6a := k7.trans' k7a
    have k0a := k03.trans' (k36.trans' k6a)
    simp only [un_not, bV_b]
    refine ⟨fun h => ?_, fun h => ⟨fun h2 => ?_, fun h2 => ?_⟩⟩
    · have := hR wa k0a
      rw [hno (by simpa using h)] at this
      exact this
    · have := hR wa k0a
      obtain ⟨k, sv, hv0, hat, _, _⟩ := hyes (by simpa using h)
      unfold betweenQ at this
      rw [hat] at this
      simp only at this
      rw [if_neg (by simpa using h2)] at this
      exact this
    · obtain ⟨k, sv, hv0, hat, hc, hsv⟩ := hyes (by simpa using h)
      refine hK k wa x4 x6 x7 x9 o sv hv0 ?_ ⟨k0a, (k36.trans' k6a).get h43 (by simp), (k36.trans' k6a).get h63 (by simp), (k36.trans' k6a).get h7 (by simp), ?_, (hsv.keep k46).keep k6a⟩
      · unfold betweenQ
        rw [hat]
        simp only
        rw [if_pos (by simpa using h2)]; rfl
      · rw [← hc]; exact k6a.get g9 (by simp)
  refine at_spec (h.keep k03) (by simp only [statV, List.length_map, List.length_range]; omega) col ?_ ?_
  · intro hno w4 c hc3 hc1 k4
    exact fin w4 c false hc3 hc1 k4 (fun _ => by unfold betweenQ; rw [hno]) (fun h => by cases h)
  · intro c hc w4 cs k4 hcx
    obtain ⟨k, hk0, hk, rfl, hv0⟩ := atV_stat hc
    obtain ⟨sv, hcs, hsv1, S, hsv, _⟩ := hcx
    exact fin w4 _ true (by rw [hcs]; rfl) (by rw [hcs]; simp [cC, hsv1]) k4 (fun h => by cases h) fun _ => ⟨k, sv, hv0, hc, by rw [hcs], ⟨S, hsv⟩⟩
end
section
variable {w : World} {R : Value → World → Prop}
theorem rBetween_spec {val : Value} {n : Int} {l : List (List V3)} (h : StatAt w val (statV n l)) (hl : l.length < 2 ^ 20) (col : Int) (lo hi : Bd) (hR : ∀ w', Kp [] w w' → R (.int .i64 (betweenQ (statV n l) col lo hi)) w') : callG Try.prog 15 #[val, .int .i64 col, bdA lo, bdA hi] w R := by
  refine rbtw_head h hl col lo hi hR fun k wj x4 x6 x7 x9 o sv hv0 hq hb => ?_
  rw [hq] at hR
  have hs9 : (colV k l).steps.length ≤ 9 := steps_len _
  have hdoc := inN_doc (c := k) (rows := l) lo hi
  unfold ref22_Between_s4 ref22_Between_s3 ref22_Between_L2
  generalize hst : (colV k l).steps = st at *
  refine loop_inv (fun m xs wi => ∃ i, i ≤ st.length ∧ m = st.length - i ∧ xs = [.pointer (some ⟨x4, 0, none⟩), .pointer (some ⟨x6, 0, none⟩), .pointer (some ⟨x7, 0, none⟩), .pointer (some ⟨x9, 0, none⟩), .int .i64 ((((st.take i).filter fun v => inT v lo hi).length : Nat) : Int), .int .i64 (i : Nat)] ∧ BSt w wi x4 x6 x7 x9 l.length (colV k l) lo hi o sv) ?_ (m := st.length) ⟨0, by omega, rfl, rfl, hb⟩
  rintro m N xs wi ⟨i, hi', rfl, rfl, hbi⟩ hN
  have hbd0 := hbi.keep kp_drew
  have hrs := hbd0.rs
  rw [hst] at hrs
  have hiw : IntKind.i64.wrap ((i : Int) + 1) = ((i + 1 : Nat) : Int) := by rw [w64 (by omega) (by omega)]; simp
  unfold ref22_Between_L2F ref22_Between_b1
  dsimp only
  rw [fa_p, ldF (x := sv) hbi.h9 rfl, hrs.lenL, List.length_map]
  simp only [bq_lss, bV_b, decide_eq_true_eq, decide_eq_false_iff_not]
  refine ⟨fun hlt => ?_, fun hge => ?_⟩
  · have hlt : i < st.length := by omega
    have hfl := filt_snoc (fun v => inT v lo hi) hlt
    obtain ⟨p, p1, p2, _⟩ := hrs.get (i := i) (by simpa using hlt)
    have hrow : (st.map valV)[i]'(by simpa using hlt) = valV st[i] := by simp
    rw [hrow] at p2
    rw [fa_p, ldF (x := sv) hbd0.h9 rfl, p1, p2, ldA (k := 5) hbd0.h6 rfl, ldA (k := 5) hbd0.h7 rfl]
    refine rIn_spec st[i] lo _ fun w4 k4 => ?_
    have h4 := hbd0.keep k4
    have hbd : ((st.take i).filter fun v => inT v lo hi).length ≤ i := by
      have := List.length_filter_le (fun v => inT v lo hi) (st.take i)
      rw [List.length_take] at this
      omega
    simp only [bV_b, bq_add, hiw]
    refine ⟨fun hin => ?_, fun hin => ?_⟩
    · rw [if_pos hin] at hfl
      have hnw : IntKind.i64.wrap (((((st.take i).filter fun v => inT v lo hi).length : Nat) : Int) + 1) = ((((st.take (i + 1)).filter fun v => inT v lo hi).length : Nat) : Int) := by rw [hfl, w64 (by omega) (by omega)]; simp
      rw [hnw]
      exact hN (st.length - (i + 1)) _ _ (by omega) ⟨i + 1, by omega, rfl, rfl, h4⟩
    · rw [if_neg (by simp [hin])] at hfl
      refine hN (st.length - (i + 1)) _ _ (by omega) ⟨i + 1, by omega, rfl, ?_, h4⟩
      rw [hfl]; rfl
  · have hie : i = st.length := by omega
    subst hie
    rw [List.take_length]
    refine rbtw_s0 hbi hl hv0 (by rw [hst]; exact List.length_filter_le _ _) fun w' hk => ?_
    rw [hst, hdoc]
    exact hR w' hk
end
end Go.Proofs

/- Layer 22: about how many of two have the same. -/
set_option maxRecDepth 100000
set_option linter.unusedVariables false
set_option linter.unusedSimpArgs false
namespace Go.Proofs
open Go Go.Q
theorem run_max3 {P : Program} {ts : Array TypeId} {t : TypeId} {k : IntKind} {a b c : Int} {w : World} : (Builtin.max_ ts t #[.int k a, .int k b, .int k c]).run P w = .ok (.int k (max (max a b) c)) w := by
  simp only [Builtin.max_, List.foldlM_cons, List.foldlM_nil, Builtin.max2, pure_bind]
  show Result.ok _ _ = _
  congr 2; omega
theorem q_max3 {P : Program} {ts : Array TypeId} {t : TypeId} {k : IntKind} {a b c : Int} {w : World} {K : Value → Prop} : qG P (Builtin.max_ ts t #[.int k a, .int k b, .int k c]) w K = K (.int k (max (max a b) c)) := qG_of run_max3
--BEGIN
section
variable {w : World} {R : Value → World → Prop}
theorem of_any {val : Value} {n : Int} {l : List (List V3)} (h : StatAt w val (statV n l)) (col : Int)
    (hK : ∀ w' c, c.size = 3 → c.all Q.one = true → Kp [] w w' → (∀ cv, atV (statV n l) col = some cv → ∃ sv, c = (cC cv.nulls cv.distinct sv).toArray) → R (.tuple #[.agg c, .bool (atV (statV n l) col).isSome]) w') : callG Try.prog 24 #[val, .int .i64 col] w R := by
  refine of_spec h (by simp only [statV, List.length_map, List.length_range]; omega) col ?_ ?_
  · intro hno w' c h3 h1 hk
    have := hK w' c h3 h1 hk (fun cv hcv => by rw [hno] at hcv; cases hcv)
    rw [hno] at this
    exact this
  · intro cv hcv w' cs hk hcx
    obtain ⟨sv, hcs, hsv1, S, hsv, _⟩ := hcx
    have := hK w' cs.toArray (by rw [hcs]; rfl) (by rw [hcs]; simp [cC, hsv1]) hk (fun cv' hcv' => by rw [hcv] at hcv'; injection hcv' with e; subst e; exact ⟨sv, by rw [hcs]⟩)
    rw [hcv] at this
    exact this
theorem jo_s0 {x13 x15 : Nat} {cx cy : ColV} {ra rb : Int} {svx svy : Value} {T T' : TypeId} {fr fr' : Nat × Nat} (h13 : w.heap[x13]? = some (.cells (cC cx.nulls cx.distinct svx).toArray T fr)) (h15 : w.heap[x15]? = some (.cells (cC cy.nulls cy.distinct svy).toArray T' fr'))
    (ha : 1 ≤ ra) (hb : 1 ≤ rb) (hR : R (.int .i64 (min 1099511627776 (max 1 (min ra 1073741824 * min rb 1073741824 / (max 1 (max cx.distinct cy.distinct) : Nat))))) w) :
    stat_Joined_s0 R (.int .i64 ra) (.int .i64 rb) (.pointer (some ⟨x13, 0, none⟩)) (.pointer (some ⟨x15, 0, none⟩)) w := by
  unfold stat_Joined_s0
  have q : ∀ (K : Value → Prop), (fa 1 (.pointer (some ⟨x13, 0, none⟩)) fun t => ld1 t w K) = K (.int .i64 cx.distinct) := fun K => by rw [fa_p, ldF (x := .int .i64 cx.distinct) h13 rfl]
  have q' : ∀ (K : Value → Prop), (fa 1 (.pointer (some ⟨x15, 0, none⟩)) fun t => ld1 t w K) = K (.int .i64 cy.distinct) := fun K => by rw [fa_p, ldF (x := .int .i64 cy.distinct) h15 rfl]
  have hm0 : (0 : Int) ≤ min ra 1073741824 * min rb 1073741824 := Int.mul_nonneg (by omega) (by omega)
  have hm1 : min ra 1073741824 * min rb 1073741824 ≤ 1073741824 * 1073741824 := Int.mul_le_mul (by omega) (by omega) (by omega) (by omega)
  have ew : IntKind.i64.wrap (min ra 1073741824 * min rb 1073741824) = min ra 1073741824 * min rb 1073741824 := w64 (by omega) (by omega)
  have ed : max (max 1 (cx.distinct : Int)) (cy.distinct : Int) = ((max 1 (max cx.distinct cy.distinct) : Nat) : Int) := by omega
  have ed2 : max (max (cx.distinct : Int) (cy.distinct : Int)) 1 = ((max 1 (max cx.distinct cy.distinct) : Nat) : Int) := by omega
  have hdp : (0 : Int) < ((max 1 (max cx.distinct cy.distinct) : Nat) : Int) := by omega
  have hq := Int.ediv_le_self ((max 1 (max cx.distinct cy.distinct) : Nat) : Int) hm0
  have hq0 : 0 ≤ min ra 1073741824 * min rb 1073741824 / ((max 1 (max cx.distinct cy.distinct) : Nat) : Int) := Int.ediv_nonneg hm0 (by omega)
  have ew2 : IntKind.i64.wrap (min ra 1073741824 * min rb 1073741824 / ((max 1 (max cx.distinct cy.distinct) : Nat) : Int)) = min ra 1073741824 * min rb 1073741824 / ((max 1 (max cx.distinct cy.distinct) : Nat) : Int) := w64 (by omega) (by omega)
  generalize hd : (max 1 (max cx.distinct cy.distinct) : Nat) = D at *
  generalize hM : min ra 1073741824 * min rb 1073741824 = M at *
  simp only [q, q', q_min, q_max, q_max3, bq_mul, hM, ew, ed, ed2]
  rw [quo_of hm0 hdp, ew2]
  simp only [q_max, q_min]
  exact hR
theorem Joined_spec {va vb : Value} {n m : Int} {a b : List (List V3)} (hsa : StatAt w va (statV n a)) (hsb : StatAt w vb (statV m b)) (ca ra cb rb : Int) (hR : ∀ w', Kp [] w w' → R (.int .i64 (joinedQ (statV n a) ca ra (statV m b) cb rb)) w') : callG Try.prog 17 #[va, .int .i64 ca, .int .i64 ra, vb, .int .i64 cb, .int .i64 rb] w R := by
  have hha := hsa
  have hhb := hsb
  obtain ⟨oa, cssa, hva, hoa, _⟩ := hha
  obtain ⟨ob, cssb, hvb, hob, _⟩ := hhb
  refine stat_Joined_call ?_
  unfold stat_Joined stat_Joined_s1
  rw [hva, hvb]
  refine argB fun x6 w1 hx6 h6 k1 => ?_
  refine argB fun x9 w2 hx9 h9 k2 => ?_
  have k02 := k1.trans' k2
  rw [ldA (k := 2) (k2.get h6 (by simp)) rfl, ← hva]
  refine of_any (hsa.keep k02) ca fun w3 c1 h13s h1o k3 hc1 => ?_
  rw [ex0, ex1]
  refine newB fun x13 w4 hx13 h13 k4 => ?_
  rw [stA (k := 3) h13 (by rw [zcCol]; rfl) h13s h1o]
  obtain ⟨w5, hw5⟩ : ∃ w5, w5 = setBlk w4 x13 (.cells c1 32) := ⟨_, rfl⟩
  have k35 : Kp [] w3 w5 := by rw [hw5]; exact k4.setBlk (.inr hx13) _
  have g13 : w5.heap[x13]? = some (.cells c1 32) := by rw [hw5]; exact heap_self (live_of h13)
  have k25 := k3.trans' k35
  have k05 := k02.trans' k25
  rw [← hw5, ldA (k := 2) (k25.get h9 (by simp)) rfl, ← hvb]
  refine of_any (hsb.keep k05) cb fun w6 c2 h15s h2o k6 hc2 => ?_
  rw [ex0, ex1]
  refine newB fun x15 w7 hx15 h15 k7 => ?_
  rw [stA (k := 3) h15 (by rw [zcCol]; rfl) h15s h2o]
  obtain ⟨w8, hw8⟩ : ∃ w8, w8 = setBlk w7 x15 (.cells c2 32) := ⟨_, rfl⟩
  have k68 : Kp [] w6 w8 := by rw [hw8]; exact k7.setBlk (.inr hx15) _
  have g15 : w8.heap[x15]? = some (.cells c2 32) := by rw [hw8]; exact heap_self (live_of h15)
  have k58 := k6.trans' k68
  have k08 := k05.trans' k58
  have g13' := k58.get g13 (by simp)
  rw [← hw8]
  have hR := hR w8 k08
  unfold joinedQ at hR
  cases hA : atV (statV n a) ca with
  | none =>
    rw [hA] at hR
    simp only [un_not, bV_b, Option.isSome_none]
    exact ⟨fun _ => hR, fun h => by simp at h⟩
  | some x =>
    rw [hA] at hR
    simp only [un_not, bV_b, Option.isSome_some]
    refine ⟨fun h => by simp at h, fun _ => ?_⟩
    cases hB : atV (statV m b) cb with
    | none =>
      rw [hB] at hR
      simp only [un_not, bV_b, Option.isSome_none]
      exact ⟨fun _ => hR, fun h => by simp at h⟩
    | some y =>
      rw [hB] at hR
      simp only at hR
      simp only [un_not, bV_b, Option.isSome_some]
      refine ⟨fun h => by simp at h, fun _ => ?_⟩
      obtain ⟨svx, hcx⟩ := hc1 x hA
      obtain ⟨svy, hcy⟩ := hc2 y hB
      simp only [bq_lss, bV_b, decide_eq_true_eq, decide_eq_false_iff_not]
      refine ⟨fun h => ?_, fun h => ⟨fun h' => ?_, fun h' => ?_⟩⟩
      · rw [if_pos (.inl h)] at hR; exact hR
      · rw [if_pos (.inr h')] at hR; exact hR
      · rw [if_neg (by omega)] at hR
        exact jo_s0 (by rw [g13', hcx]) (by rw [g15, hcy]) (by omega) (by omega) hR
end
--END
section
variable {w : World} {R : Value → World → Prop}
theorem Kept0_spec {val : Value} {n : Int} {l : List (List V3)} (h : StatAt w val (statV n l)) (hR : ∀ w', Kp [] w w' → R (.int .i64 (l.length : Nat)) w') : callG Try.prog 21 #[val, .slice none 0 0] w R := by
  obtain ⟨o, css, hval, ho, _⟩ := h
  refine stat_Kept_call ?_
  unfold stat_Kept stat_Kept_s4
  rw [hval]
  refine argB fun x2 w1 hx2 h2 k1 => ?_
  rw [fa_p, ldF (x := .int .i64 l.length) h2 rfl, q_max]
  have e : max (0 : Int) (l.length : Int) = l.length := by omega
  rw [e]
  unfold stat_Kept_s3 stat_Kept_L2
  rw [lenL_s]
  refine ⟨1, ?_⟩
  unfold loopV stat_Kept_L2F stat_Kept_b1
  dsimp only
  simp only [bq_lss, bV_b]
  refine ⟨fun h => by simp at h, fun _ => ?_⟩
  unfold stat_Kept_s0
  exact hR w1 k1
end
end Go.Proofs

/- Layer 22: about how many of two have the same: the document's. -/
set_option maxRecDepth 100000
set_option linter.unusedVariables false
set_option linter.unusedSimpArgs false
namespace Go.Proofs
open Go Go.Q
section
variable {w : World} {R : Value → World → Prop}
end
end Go.Proofs

set_option linter.unusedVariables false
set_option linter.unusedSimpArgs false
namespace Go.Proofs
open Go Go.Q
set_option maxRecDepth 100000
/-! quayside/quaysidelaw22.num -/
def law22_num_s0 (R : Value → World → Prop) (x0 : Value) (w : World) : Prop :=
  newG (zc Try.prog 35) 35 w fun t2 w =>
  bld [(0, 1), (1, 1), (2, 1)] (zc Try.prog 35) #[(0, (.int .i64 1)), (1, x0)] fun t4 =>
  stn 3 t2 t4 w fun w =>
  qG Try.prog (do loadVar 35 (← asAddr t2)) w fun r2 =>
  R r2 w
theorem law22_num_s0_eq (R : Value → World → Prop) : ∀ e w, lift Try.prog 5 (bodyOf Try.f20) (finK Try.prog Try.f20.results.toList R) e w = law22_num_s0 R (e 0) w := fun e w => by kernel_rfl
def law22_num (R : Value → World → Prop) (x0 : Value) (w : World) : Prop := law22_num_s0 R x0 w
theorem law22_num_call {R : Value → World → Prop} {x0 : Value} {w : World} (h : law22_num R x0 w) : callG Try.prog 20 #[x0] w R :=
  calls_lift_eq Try.mixed Try.func20 (args := [x0]) rfl rfl rfl rfl ((law22_num_s0_eq R) (envOf [x0]) w) (by kernel_rfl) h
/-! quayside/quaysidelaw22.light -/
def law22_light_s0 (R : Value → World → Prop) (x0 : Value) (w : World) : Prop :=
  lenL x0 fun t41 =>
  qG Try.prog (bq .leq 3 (.tmp 41) (.const (.int .i64 100)) t41 (.int .i64 100)) w fun t42 =>
  R t42 w
theorem law22_light_s0_eq (R : Value → World → Prop) : ∀ e w, lift Try.prog 43 (sub (bodyOf Try.f7) [1, 1]) (finK Try.prog Try.f7.results.toList R) e w = law22_light_s0 R (e 0) w := fun e w => by kernel_rfl
def law22_light_s1 (R : Value → World → Prop) (N1 : List Value → World → Prop) (x0 x3 : Value) (w : World) : Prop :=
  qG Try.prog (bq .add 3 (.tmp 13) (.const (.int .i64 1)) x3 (.int .i64 1)) w fun t14 =>
  N1 [x0, t14] w
theorem law22_light_s1_eq (R : Value → World → Prop) (N1 : List Value → World → Prop) : ∀ e w, lift Try.prog 43 (sub (bodyOf Try.f7) [1, 0, 1, 0, 0, 1, 1]) (seqK (fun e w => N1 [e 0, e 3] w) (blockK 0 (seqK (fun e w => law22_light_s0 R (e 0) w) (finK Try.prog Try.f7.results.toList R)))) e w = law22_light_s1 R N1 (e 0) (e 3) w := fun e w => by kernel_rfl
def law22_light_b2 (R : Value → World → Prop) (N1 : List Value → World → Prop) (N2 : List Value → World → Prop) (x0 x3 x4 : Value) (w : World) : Prop :=
  ia 1 x0 x3 fun t24 =>
  ld1 t24 w fun t25 =>
  lenL t25 fun t26 =>
  qG Try.prog (bq .lss 3 (.tmp 21) (.tmp 26) x4 t26) w fun t27 =>
  bV t27
  (ia 1 x0 x3 fun t32 =>
  ld1 t32 w fun t33 =>
  ia 3 t33 x4 fun t35 =>
  fa 2 t35 fun t36 =>
  ld1 t36 w fun t37 =>
  lenS t37 fun t38 =>
  qG Try.prog (bq .gtr 3 (.tmp 38) (.const (.int .i64 100)) t38 (.int .i64 100)) w fun t39 =>
  bV t39
  (R (.bool false) w)
  (qG Try.prog (bq .add 3 (.tmp 28) (.const (.int .i64 1)) x4 (.int .i64 1)) w fun t29 =>
  N2 [x0, x3, t29] w))
  (law22_light_s1 R N1 x0 x3 w)
theorem law22_light_b2_eq (R : Value → World → Prop) (N1 : List Value → World → Prop) (N2 : List Value → World → Prop) : ∀ e w, lift Try.prog 43 (sub (bodyOf Try.f7) [1, 0, 1, 0, 0, 1, 0, 0, 1, 1, 0, 0]) (seqK (fun e w => N2 [e 0, e 3, e 4] w) (blockK 2 (blockK 1 (seqK (fun e w => law22_light_s1 R N1 (e 0) (e 3) w) (seqK (fun e w => N1 [e 0, e 3] w) (blockK 0 (seqK (fun e w => law22_light_s0 R (e 0) w) (finK Try.prog Try.f7.results.toList R)))))))) e w = law22_light_b2 R N1 N2 (e 0) (e 3) (e 4) w := fun e w => by kernel_rfl
def law22_light_L3F (R : Value → World → Prop) (N1 : List Value → World → Prop) (N2 : List Value → World → Prop) (xs : List Value) (w : World) : Prop :=
  match xs with
  | [x0, x3, x4] => law22_light_b2 R N1 N2 x0 x3 x4 w
  | _ => False
def law22_light_L3 (R : Value → World → Prop) (N1 : List Value → World → Prop) (x0 x3 x4 : Value) (w : World) : Prop :=
  ∃ m, loopV (law22_light_L3F R N1) m [x0, x3, x4] w
theorem law22_light_L3_eq (R : Value → World → Prop) (N1 : List Value → World → Prop) : ∀ e w, lift Try.prog 43 (sub (bodyOf Try.f7) [1, 0, 1, 0, 0, 1, 0, 0, 1, 1, 0]) (blockK 2 (blockK 1 (seqK (fun e w => law22_light_s1 R N1 (e 0) (e 3) w) (seqK (fun e w => N1 [e 0, e 3] w) (blockK 0 (seqK (fun e w => law22_light_s0 R (e 0) w) (finK Try.prog Try.f7.results.toList R))))))) e w = law22_light_L3 R N1 (e 0) (e 3) (e 4) w := loop_seg (F := law22_light_L3F R N1) (sel := fun e => [e 0, e 3, e 4]) fun N2 => (law22_light_b2_eq R N1 N2)
def law22_light_s4 (R : Value → World → Prop) (N1 : List Value → World → Prop) (x0 x3 : Value) (w : World) : Prop :=
  ia 1 x0 x3 fun t17 =>
  ld1 t17 w fun t18 =>
  lenL t18 fun t19 =>
  qG Try.prog (bq .gtr 3 (.tmp 19) (.const (.int .i64 8)) t19 (.int .i64 8)) w fun t20 =>
  bV t20
  (R (.bool false) w)
  (law22_light_L3 R N1 x0 x3 (.int .i64 0) w)
theorem law22_light_s4_eq (R : Value → World → Prop) (N1 : List Value → World → Prop) : ∀ e w, lift Try.prog 43 (sub (bodyOf Try.f7) [1, 0, 1, 0, 0, 1, 0, 0]) (blockK 1 (seqK (fun e w => law22_light_s1 R N1 (e 0) (e 3) w) (seqK (fun e w => N1 [e 0, e 3] w) (blockK 0 (seqK (fun e w => law22_light_s0 R (e 0) w) (finK Try.prog Try.f7.results.toList R)))))) e w = law22_light_s4 R N1 (e 0) (e 3) w :=
  segs_eq (l := [(sub (bodyOf Try.f7) [1, 0, 1, 0, 0, 1, 0, 0, 0]), (sub (bodyOf Try.f7) [1, 0, 1, 0, 0, 1, 0, 0, 1, 0])]) (y := (sub (bodyOf Try.f7) [1, 0, 1, 0, 0, 1, 0, 0, 1, 1])) (Y := (fun e w => law22_light_L3 R N1 (e 0) (e 3) (e 4) w)) (law22_light_L3_eq R N1) (fun e w => by kernel_rfl)
def law22_light_s5 (R : Value → World → Prop) (N1 : List Value → World → Prop) (x0 x3 : Value) (w : World) : Prop :=
  lenL x0 fun t7 =>
  qG Try.prog (bq .lss 3 (.tmp 5) (.tmp 7) x3 t7) w fun t8 =>
  bV t8
  (qG Try.prog (bq .lss 3 (.tmp 10) (.const (.int .i64 100)) x3 (.int .i64 100)) w fun t11 =>
  bV t11
  (law22_light_s4 R N1 x0 x3 w)
  (law22_light_s0 R x0 w))
  (law22_light_s0 R x0 w)
theorem law22_light_s5_eq (R : Value → World → Prop) (N1 : List Value → World → Prop) : ∀ e w, lift Try.prog 43 (sub (bodyOf Try.f7) [1, 0, 1, 0, 0]) (seqK (fun e w => N1 [e 0, e 3] w) (blockK 0 (seqK (fun e w => law22_light_s0 R (e 0) w) (finK Try.prog Try.f7.results.toList R)))) e w = law22_light_s5 R N1 (e 0) (e 3) w :=
  segs_eq (l := [(sub (bodyOf Try.f7) [1, 0, 1, 0, 0, 0])]) (y := (sub (bodyOf Try.f7) [1, 0, 1, 0, 0, 1])) (Y := (fun e w => law22_light_s4 R N1 (e 0) (e 3) w)) (seq_seg (x := (sub (bodyOf Try.f7) [1, 0, 1, 0, 0, 1, 0])) (y := (sub (bodyOf Try.f7) [1, 0, 1, 0, 0, 1, 1])) (law22_light_s1_eq R N1) (law22_light_s4_eq R N1)) (fun e w => by kernel_rfl)
def law22_light_L6F (R : Value → World → Prop) (N1 : List Value → World → Prop) (xs : List Value) (w : World) : Prop :=
  match xs with
  | [x0, x3] => law22_light_s5 R N1 x0 x3 w
  | _ => False
def law22_light_L6 (R : Value → World → Prop) (x0 x3 : Value) (w : World) : Prop :=
  ∃ m, loopV (law22_light_L6F R) m [x0, x3] w
theorem law22_light_L6_eq (R : Value → World → Prop) : ∀ e w, lift Try.prog 43 (sub (bodyOf Try.f7) [1, 0, 1, 0]) (blockK 0 (seqK (fun e w => law22_light_s0 R (e 0) w) (finK Try.prog Try.f7.results.toList R))) e w = law22_light_L6 R (e 0) (e 3) w := loop_seg (F := law22_light_L6F R) (sel := fun e => [e 0, e 3]) fun N1 => (law22_light_s5_eq R N1)
def law22_light_s7 (R : Value → World → Prop) (x0 : Value) (w : World) : Prop :=
  law22_light_L6 R x0 (.int .i64 0) w
theorem law22_light_s7_eq (R : Value → World → Prop) : ∀ e w, lift Try.prog 43 (sub (bodyOf Try.f7) [1, 0]) (seqK (fun e w => law22_light_s0 R (e 0) w) (finK Try.prog Try.f7.results.toList R)) e w = law22_light_s7 R (e 0) w :=
  segs_eq (l := [(sub (bodyOf Try.f7) [1, 0, 0])]) (y := (sub (bodyOf Try.f7) [1, 0, 1])) (Y := (fun e w => law22_light_L6 R (e 0) (e 3) w)) (law22_light_L6_eq R) (fun e w => by kernel_rfl)
def law22_light_s8 (R : Value → World → Prop) (x0 : Value) (w : World) : Prop :=
  law22_light_s7 R x0 w
theorem law22_light_s8_eq (R : Value → World → Prop) : ∀ e w, lift Try.prog 43 (bodyOf Try.f7) (finK Try.prog Try.f7.results.toList R) e w = law22_light_s8 R (e 0) w :=
  segs_eq (l := [(sub (bodyOf Try.f7) [0])]) (y := (sub (bodyOf Try.f7) [1])) (Y := (fun e w => law22_light_s7 R (e 0) w)) (seq_seg (x := (sub (bodyOf Try.f7) [1, 0])) (y := (sub (bodyOf Try.f7) [1, 1])) (law22_light_s0_eq R) (law22_light_s7_eq R)) (fun e w => by kernel_rfl)
def law22_light (R : Value → World → Prop) (x0 : Value) (w : World) : Prop := law22_light_s8 R x0 w
theorem law22_light_call {R : Value → World → Prop} {x0 : Value} {w : World} (h : law22_light R x0 w) : callG Try.prog 7 #[x0] w R :=
  calls_lift_eq Try.mixed Try.func7 (args := [x0]) rfl rfl rfl rfl ((law22_light_s8_eq R) (envOf [x0]) w) (by kernel_rfl) h
/-! quayside/quaysidelaw22.same -/
/-! quayside/quaysidelaw22.awake -/
def law22_awake_s0 (R : Value → World → Prop) (w : World) : Prop :=
  callG Try.prog 20 #[(.int .i64 1)] w fun t3 w =>
  bsl 35 3 1 (zc Try.prog 35) #[(0, t3)] w fun t4 w =>
  callG Try.prog 20 #[(.int .i64 2)] w fun t5 w =>
  bsl 35 3 1 (zc Try.prog 35) #[(0, t5)] w fun t6 w =>
  callG Try.prog 20 #[(.int .i64 2)] w fun t7 w =>
  bsl 35 3 1 (zc Try.prog 35) #[(0, t7)] w fun t8 w =>
  bld [(0, 1), (1, 1), (2, 1)] (zc Try.prog 35) #[] fun t9 =>
  bsl 35 3 1 (zc Try.prog 35) #[(0, t9)] w fun t10 w =>
  bsl 44 1 4 (zc Try.prog 44) #[(0, t4), (1, t6), (2, t8), (3, t10)] w fun t11 w =>
  callG Try.prog 9 #[(.int .i64 1), t11] w fun t12 w =>
  newG (zc Try.prog 27) 27 w fun t1 w =>
  stn 2 t1 t12 w fun w =>
  callG Try.prog 20 #[(.int .i64 2)] w fun t13 w =>
  bld [(0, 1), (1, 1), (2, 3)] (zc Try.prog 37) #[(0, (.bool true)), (2, t13)] fun t14 =>
  newG (zc Try.prog 37) 37 w fun t2 w =>
  stn 5 t2 t14 w fun w =>
  fa 0 t1 fun t15 =>
  ld1 t15 (World.drew w) fun t16 =>
  qG Try.prog (bq .eql 3 (.tmp 16) (.const (.int .i64 4)) t16 (.int .i64 4)) (World.drew w) fun t17 =>
  bV t17
  (fa 1 t1 fun t19 =>
  ld1 t19 (World.drew w) fun t20 =>
  lenL t20 fun t21 =>
  qG Try.prog (bq .eql 3 (.tmp 21) (.const (.int .i64 1)) t21 (.int .i64 1)) (World.drew w) fun t22 =>
  bV t22
  (fa 1 t1 fun t25 =>
  ld1 t25 (World.drew w) fun t26 =>
  ia 3 t26 (.int .i64 0) fun t27 =>
  fa 0 t27 fun t28 =>
  ld1 t28 (World.drew w) fun t29 =>
  qG Try.prog (bq .eql 3 (.tmp 29) (.const (.int .i64 1)) t29 (.int .i64 1)) (World.drew w) fun t30 =>
  bV t30
  (fa 1 t1 fun t33 =>
  ld1 t33 (World.drew w) fun t34 =>
  ia 3 t34 (.int .i64 0) fun t35 =>
  fa 1 t35 fun t36 =>
  ld1 t36 (World.drew w) fun t37 =>
  qG Try.prog (bq .eql 3 (.tmp 37) (.const (.int .i64 2)) t37 (.int .i64 2)) (World.drew w) fun t38 =>
  bV t38
  (fa 1 t1 fun t41 =>
  ld1 t41 (World.drew w) fun t42 =>
  ia 3 t42 (.int .i64 0) fun t43 =>
  fa 2 t43 fun t44 =>
  ld1 t44 (World.drew w) fun t45 =>
  lenL t45 fun t46 =>
  qG Try.prog (bq .eql 3 (.tmp 46) (.const (.int .i64 3)) t46 (.int .i64 3)) (World.drew w) fun t47 =>
  bV t47
  (ldn 2 t1 (World.drew w) fun t50 =>
  callG Try.prog 20 #[(.int .i64 2)] (World.drew w) fun t51 w =>
  ldn 2 t1 w (fun u => u = t50) ∧
  callG Try.prog 12 #[t50, (.int .i64 0), t51] w fun t52 w =>
  qG Try.prog (bq .eql 3 (.tmp 52) (.const (.int .i64 1)) t52 (.int .i64 1)) w fun t53 =>
  bV t53
  (ldn 2 t1 w fun t56 =>
  ldn 5 t2 w fun t57 =>
  ldn 5 t2 w fun t58 =>
  callG Try.prog 13 #[t56, (.int .i64 0), t57, t58] w fun t59 w =>
  qG Try.prog (bq .eql 3 (.tmp 59) (.const (.int .i64 2)) t59 (.int .i64 2)) w fun t60 =>
  bV t60
  (ldn 2 t1 w fun t63 =>
  callG Try.prog 21 #[t63, (.slice none 0 0)] w fun t64 w =>
  qG Try.prog (bq .eql 3 (.tmp 64) (.const (.int .i64 4)) t64 (.int .i64 4)) w fun t65 =>
  bV t65
  (ldn 2 t1 w fun t68 =>
  ldn 2 t1 w fun t69 =>
  callG Try.prog 17 #[t68, (.int .i64 0), (.int .i64 4), t69, (.int .i64 0), (.int .i64 4)] w fun t70 w =>
  qG Try.prog (bq .eql 3 (.tmp 70) (.const (.int .i64 8)) t70 (.int .i64 8)) w fun t71 =>
  R t71 w)
  (R (.bool false) w))
  (R (.bool false) w))
  (R (.bool false) w))
  (R (.bool false) (World.drew w)))
  (R (.bool false) (World.drew w)))
  (R (.bool false) (World.drew w)))
  (R (.bool false) (World.drew w)))
  (R (.bool false) (World.drew w))
theorem law22_awake_s0_eq (R : Value → World → Prop) : ∀ e w, lift Try.prog 73 (bodyOf Try.f8) (finK Try.prog Try.f8.results.toList R) e w = law22_awake_s0 R w := fun e w => by kernel_rfl
def law22_awake (R : Value → World → Prop) (w : World) : Prop := law22_awake_s0 R  w
theorem law22_awake_call {R : Value → World → Prop} {w : World} (h : law22_awake R w) : callG Try.prog 8 #[] w R :=
  calls_lift_eq Try.mixed Try.func8 (args := []) rfl rfl rfl rfl ((law22_awake_s0_eq R) (envOf []) w) (by kernel_rfl) h
/-! quayside/quaysidelaw22.StatOf -/
/-! quayside/quaysidelaw22.StatFinds -/
def law22_StatFinds_s0 (R : Value → World → Prop) (x0 x1 x5 : Value) (w : World) : Prop :=
  callG Try.prog 9 #[(.int .i64 3), x0] w fun t32 w =>
  newG (zc Try.prog 27) 27 w fun t7 w =>
  stn 2 t7 t32 w fun w =>
  callG Try.prog 10 #[(.int .i64 3), x0] w fun t34 w =>
  newG (zc Try.prog 27) 27 w fun t8 w =>
  stn 2 t8 t34 w fun w =>
  ldn 2 t7 (World.drew w) fun t35 =>
  iaA 2 5 x5 (.int .i64 0) fun t37 =>
  fa 2 t37 fun t38 =>
  ldn 3 t38 (World.drew w) fun t39 =>
  ldn 2 t7 (World.drew w) fun t41 =>
  iaA 2 5 x5 (.int .i64 0) fun t43 =>
  ldn 5 t43 (World.drew w) fun t44 =>
  iaA 2 5 x5 (.int .i64 1) fun t45 =>
  ldn 5 t45 (World.drew w) fun t46 =>
  callG Try.prog 12 #[t35, x1, t39] (World.drew w) fun t40 w =>
  ldn 5 t45 w (fun u => u = t46) ∧
  ldn 5 t43 w (fun u => u = t44) ∧
  ldn 2 t7 w (fun u => u = t41) ∧
  callG Try.prog 13 #[t41, x1, t44, t46] w fun t47 w =>
  ldn 2 t8 w fun t49 =>
  iaA 2 5 x5 (.int .i64 0) fun t51 =>
  fa 2 t51 fun t52 =>
  ldn 3 t52 w fun t53 =>
  callG Try.prog 14 #[t49, x1, t53] w fun t54 w =>
  qG Try.prog (bq .eql 3 (.tmp 48) (.tmp 54) t40 t54) w fun t55 =>
  bV t55
  (ldn 2 t8 w fun t58 =>
  iaA 2 5 x5 (.int .i64 0) fun t60 =>
  ldn 5 t60 w fun t61 =>
  iaA 2 5 x5 (.int .i64 1) fun t62 =>
  ldn 5 t62 w fun t63 =>
  callG Try.prog 15 #[t58, x1, t61, t63] w fun t64 w =>
  qG Try.prog (bq .eql 3 (.tmp 57) (.tmp 64) t47 t64) w fun t65 =>
  bV t65
  (qG Try.prog (bq .geq 3 (.tmp 68) (.const (.int .i64 0)) t40 (.int .i64 0)) w fun t69 =>
  bV t69
  (lenL x0 fun t74 =>
  qG Try.prog (bq .leq 3 (.tmp 72) (.tmp 74) t40 t74) w fun t75 =>
  bV t75
  (qG Try.prog (bq .geq 3 (.tmp 78) (.const (.int .i64 0)) t47 (.int .i64 0)) w fun t79 =>
  bV t79
  (lenL x0 fun t84 =>
  qG Try.prog (bq .leq 3 (.tmp 82) (.tmp 84) t47 t84) w fun t85 =>
  bV t85
  (callG Try.prog 8 #[] w fun t88 w =>
  R t88 w)
  (R (.bool false) w))
  (R (.bool false) w))
  (R (.bool false) w))
  (R (.bool false) w))
  (R (.bool false) w))
  (R (.bool false) w)
theorem law22_StatFinds_s0_eq (R : Value → World → Prop) : ∀ e w, lift Try.prog 90 (sub (bodyOf Try.f4) [1, 1]) (finK Try.prog Try.f4.results.toList R) e w = law22_StatFinds_s0 R (e 0) (e 1) (e 5) w := fun e w => by kernel_rfl
def law22_StatFinds_s1 (R : Value → World → Prop) (x0 x1 x2 : Value) (w : World) : Prop :=
  newG (Value.cells x2) 38 w fun t5 w =>
  callG Try.prog 7 #[x0] w fun t12 w =>
  qG Try.prog (Op.unary .not t12) w fun t13 =>
  bV t13
  (callG Try.prog 8 #[] w fun t30 w =>
  R t30 w)
  (iaA 2 5 t5 (.int .i64 0) fun t15 =>
  fa 2 t15 fun t16 =>
  fa 2 t16 fun t17 =>
  ld1 t17 w fun t18 =>
  lenS t18 fun t19 =>
  qG Try.prog (bq .gtr 3 (.tmp 19) (.const (.int .i64 100)) t19 (.int .i64 100)) w fun t20 =>
  bV t20
  (callG Try.prog 8 #[] w fun t30_1 w =>
  R t30_1 w)
  (iaA 2 5 t5 (.int .i64 1) fun t23 =>
  fa 2 t23 fun t24 =>
  fa 2 t24 fun t25 =>
  ld1 t25 w fun t26 =>
  lenS t26 fun t27 =>
  qG Try.prog (bq .gtr 3 (.tmp 27) (.const (.int .i64 100)) t27 (.int .i64 100)) w fun t28 =>
  bV t28
  (callG Try.prog 8 #[] w fun t30_2 w =>
  R t30_2 w)
  (law22_StatFinds_s0 R x0 x1 t5 w)))
theorem law22_StatFinds_s1_eq (R : Value → World → Prop) : ∀ e w, lift Try.prog 90 (bodyOf Try.f4) (finK Try.prog Try.f4.results.toList R) e w = law22_StatFinds_s1 R (e 0) (e 1) (e 2) w :=
  segs_eq (l := [(sub (bodyOf Try.f4) [0]), (sub (bodyOf Try.f4) [1, 0])]) (y := (sub (bodyOf Try.f4) [1, 1])) (Y := (fun e w => law22_StatFinds_s0 R (e 0) (e 1) (e 5) w)) (law22_StatFinds_s0_eq R) (fun e w => by kernel_rfl)
def law22_StatFinds (R : Value → World → Prop) (x0 x1 x2 : Value) (w : World) : Prop := law22_StatFinds_s1 R x0 x1 x2 w
theorem law22_StatFinds_call {R : Value → World → Prop} {x0 x1 x2 : Value} {w : World} (h : law22_StatFinds R x0 x1 x2 w) : callG Try.prog 4 #[x0, x1, x2] w R :=
  calls_lift_eq Try.mixed Try.func4 (args := [x0, x1, x2]) rfl rfl rfl rfl ((law22_StatFinds_s1_eq R) (envOf [x0, x1, x2]) w) (by kernel_rfl) h
/-! quayside/quaysidelaw22.StatWiders -/
/-! quayside/quaysidelaw22.StatJoined -/
end Go.Proofs

/- Layer 22: the statements' own functions; what must come. -/
set_option maxRecDepth 100000
set_option linter.unusedVariables false
set_option linter.unusedSimpArgs false
namespace Go.Proofs
open Go Go.Q
section
variable {w : World} {R : Value → World → Prop}
def nV (n : Int) : V3 := ⟨1, n, []⟩
theorem bld_num {z : Int} {K : Value → Prop} : bld [(0, 1), (1, 1), (2, 1)] (zc Try.prog 35) #[(0, (.int .i64 1)), (1, .int .i64 z)] K = K (valA (nV z)) := by
  rw [zcVal]; rfl
theorem num_spec (z : Int) (hR : ∀ w', Kp [] w w' → R (valA (nV z)) w') : callG Try.prog 20 #[.int .i64 z] w R := by
  refine law22_num_call ?_
  unfold law22_num law22_num_s0
  refine newB fun x2 w1 hx2 h2 k1 => ?_
  rw [bld_num]
  unfold valA
  refine retB (by kernel_rfl) (by kernel_rfl) h2 (by rw [zcVal]; rfl) rfl (by simp [valV]) fun w6 hk6 => ?_
  exact hR w6 (k1.trans hk6 fun x hx hlt => by simp at hx; omega)
theorem light_spec {x0 : Value} {rows : List (List V3)} (hx : Nst 3 valV w x0 rows) (hT : rows.length ≤ 100 → (∀ r ∈ rows, r.length ≤ 8) → ∀ w', Kp [] w w' → R (.bool true) w') (hF : ∀ w', Kp [] w w' → R (.bool false) w') : callG Try.prog 7 #[x0] w R := by
  refine law22_light_call ?_
  unfold law22_light law22_light_s8 law22_light_s7 law22_light_L6
  have fin : ∀ w', Kp [] w w' → (rows.length ≤ 100 → ∀ r ∈ rows, r.length ≤ 8) → law22_light_s0 R x0 w' := by
    intro w' hk' h8
    unfold law22_light_s0
    rw [hx.lenL]
    simp only [bq_leq]
    by_cases h : (rows.length : Int) ≤ 100
    · rw [decide_eq_true h]; exact hT (by omega) (h8 (by omega)) w' hk'
    · rw [decide_eq_false h]; exact hF w' hk'
  refine loop_inv (fun m xs wi => ∃ i, i ≤ 100 ∧ i ≤ rows.length ∧ m = 100 - i ∧ xs = [x0, .int .i64 (i : Nat)] ∧ Kp [] w wi ∧ ∀ j (h : j < rows.length), j < i → rows[j].length ≤ 8) ?_ (m := 100) ⟨0, by omega, by omega, by omega, rfl, Kp.refl _ _, fun j _ h => by omega⟩
  rintro m N xs wi ⟨i, hi, hil, rfl, rfl, hk, h8⟩ hN
  have hxi := hx.keep hk
  have hiw : IntKind.i64.wrap ((i : Int) + 1) = ((i + 1 : Nat) : Int) := by rw [w64 (by omega) (by omega)]; simp
  unfold law22_light_L6F law22_light_s5
  dsimp only
  rw [hxi.lenL]
  simp only [bq_lss, bV_b, decide_eq_true_eq, decide_eq_false_iff_not]
  refine ⟨fun hlt => ⟨fun hlt2 => ?_, fun hge => fin wi hk fun hle r hr => ?_⟩, fun hge => fin wi hk fun hle r hr => ?_⟩
  · have hlt : i < rows.length := by omega
    obtain ⟨p, r, p1, p2, p3⟩ := hxi.at hlt
    unfold law22_light_s4
    rw [p1, p2 _ (Kp.refl _ _), p3.lenL, List.length_map]
    simp only [bq_gtr, bV_b, decide_eq_true_eq, decide_eq_false_iff_not]
    refine ⟨fun _ => hF wi hk, fun hr8 => ?_⟩
    have hr8 : rows[i].length ≤ 8 := by omega
    unfold law22_light_L3
    refine loop_inv (fun m2 xs wj => ∃ k, k ≤ rows[i].length ∧ m2 = rows[i].length - k ∧ xs = [x0, .int .i64 (i : Nat), .int .i64 (k : Nat)] ∧ wj = wi) ?_ (m := rows[i].length) ⟨0, by omega, rfl, rfl, rfl⟩
    rintro m2 N2 xs wj ⟨k, hkl, rfl, rfl, rfl⟩ hN2
    have hkw : IntKind.i64.wrap ((k : Int) + 1) = ((k + 1 : Nat) : Int) := by rw [w64 (by omega) (by omega)]; simp
    unfold law22_light_L3F law22_light_b2
    dsimp only
    rw [p1, p2 _ (Kp.refl _ _), p3.lenL, List.length_map]
    simp only [bq_lss, bV_b, decide_eq_true_eq, decide_eq_false_iff_not]
    refine ⟨fun hklt => ?_, fun _ => ?_⟩
    · have hklt : k < rows[i].length := by omega
      obtain ⟨q, q1, q2, q3⟩ := p3.get (i := k) (by simpa using hklt)
      have hrow : (rows[i].map valV)[k]'(by simpa using hklt) = valV rows[i][k] := by simp
      have hs : ((rows[i].map valV)[k]'(by simpa using hklt))[2]'(by rw [hrow]; simp [valV]) = .string (str rows[i][k].s) := by simp only [hrow]; rfl
      rw [p1, p2 _ (Kp.refl _ _), q1, q3 2 (by rw [hrow]; simp [valV]), hs]
      simp only [lenS_s, bq_gtr, bV_b, decide_eq_true_eq, decide_eq_false_iff_not, bq_add, hkw]
      refine ⟨fun _ => hF _ hk, fun _ => hN2 (rows[i].length - (k + 1)) _ _ (by omega) ⟨k + 1, by omega, rfl, rfl, rfl⟩⟩
    · unfold law22_light_s1
      simp only [bq_add, hiw]
      refine hN (100 - (i + 1)) _ _ (by omega) ⟨i + 1, by omega, by omega, rfl, rfl, hk, fun j hj hji => ?_⟩
      by_cases e : j = i
      · subst e; exact hr8
      · exact h8 j hj (by omega)
  · obtain ⟨j, hj, rfl⟩ := List.getElem_of_mem hr
    exact h8 j hj (by omega)
  · obtain ⟨j, hj, rfl⟩ := List.getElem_of_mem hr
    exact h8 j hj (by omega)
end

def rows0 : List (List V3) := [[nV 1], [nV 2], [nV 2], [⟨0, 0, []⟩]]
theorem stat0 : statV 1 rows0 = ⟨4, [⟨1, 2, [nV 1, nV 2, nV 2]⟩]⟩ := by rfl
theorem same0 : sameQ (statV 1 rows0) 0 (nV 2) = 1 := by decide
theorem btw0 : betweenQ (statV 1 rows0) 0 (bAt (nV 2)) (bAt (nV 2)) = 2 := by decide
theorem joined0 : joinedQ (statV 1 rows0) 0 4 (statV 1 rows0) 0 4 = 8 := by decide
section
variable {w : World} {R : Value → World → Prop}
theorem awake22 (hR : ∀ w', Kp [] w w' → R (.bool true) w') : callG Try.prog 8 #[] w R := by
  refine law22_awake_call ?_
  unfold law22_awake law22_awake_s0
  refine num_spec 1 fun w1 k1 => ?_
  refine bsl_rowN (n := 3) (cs := valV (nV 1)) (by omega) rfl rfl fun t4 w2 f4 => ?_
  refine num_spec 2 fun w3 k3 => ?_
  refine bsl_rowN (n := 3) (cs := valV (nV 2)) (by omega) rfl rfl fun t6 w4 f6 => ?_
  refine num_spec 2 fun w5 k5 => ?_
  refine bsl_rowN (n := 3) (cs := valV (nV 2)) (by omega) rfl rfl fun t8 w6 f8 => ?_
  have bz : ∀ K : Value → Prop, bld [(0, 1), (1, 1), (2, 1)] (zc Try.prog 35) #[] K = K (valA ⟨0, 0, []⟩) := fun K => by rw [zcVal]; rfl
  rw [bz]
  refine bsl_rowN (n := 3) (cs := valV ⟨0, 0, []⟩) (by omega) rfl rfl fun t10 w7 f10 => ?_
  have o4 := f4.one
  have o6 := f6.one
  have o8 := f8.one
  have o10 := f10.one
  have c1 : ∀ v : Value, Q.one v = true → Value.cells v = [v].toArray := fun v h => by cases v <;> simp [Q.one] at h <;> rfl
  refine bsl_rowsX (n := 1) (len := 4) (xs := [t4, t6, t8, t10]) (rows := [t4, t6, t8, t10].map cel) (by omega) rfl (by simp [cel, c1 _ o4, c1 _ o6, c1 _ o8, c1 _ o10]) (by simp [cel]) (by omega) fun t11 o hf => ?_
  obtain ⟨w8, hw8⟩ : ∃ w8, w8 = w7.alloc o := ⟨_, rfl⟩
  rw [← hw8] at hf ⊢
  have k78 := hf.kp
  have k68 := f10.kp.trans' k78
  have k48 := (k5.trans' f8.kp).trans' k68
  have k28 := (k3.trans' f6.kp).trans' k48
  have k08 := k1.trans' (f4.kp.trans' k28)
  have hx : Nst 3 valV w8 t11 rows0 := by
    refine ⟨[t4, t6, t8, t10], hf.rd, rfl, fun i hi v hv => ?_⟩
    have hi : i < 4 := hi
    match i, hi with
    | 0, _ => simp at hv; subst hv; exact f4.rd.keep k28
    | 1, _ => simp at hv; subst hv; exact f6.rd.keep k48
    | 2, _ => simp at hv; subst hv; exact f8.rd.keep k68
    | 3, _ => simp at hv; subst hv; exact f10.rd.keep k78
  refine Of_spec hx (by decide) (by decide) 1 fun w9 val k9 hst => ?_
  have hst0 := hst
  rw [stat0] at hst0
  obtain ⟨o, css, hval, ho, hrd, hlen, hcol⟩ := hst0
  have hlen : css.length = 1 := hlen
  have hval : val = .agg #[.int .i64 ((4 : Nat) : Int), o] := hval
  obtain ⟨sv, hcs, hsv1, Ssv, hsv, _⟩ := hcol 0 (by decide) (css[0]'(by omega)) (by simp [hlen])
  have hcs : css[0]'(by omega) = cC 1 2 sv := hcs
  refine newB fun x1 wa hx1 h1 ka => ?_
  rw [hval, stA (k := 2) h1 (by rw [zcSt]; rfl) rfl (by simp [ho])]
  obtain ⟨wb, hwb⟩ : ∃ wb, wb = setBlk wa x1 (.cells #[.int .i64 ((4 : Nat) : Int), o] 27) := ⟨_, rfl⟩
  have kb : Kp [] w9 wb := by rw [hwb]; exact ka.setBlk (.inr hx1) _
  have g1 : wb.heap[x1]? = some (.cells #[.int .i64 ((4 : Nat) : Int), o] 27) := by rw [hwb]; exact heap_self (live_of h1)
  rw [← hwb]
  refine num_spec 2 fun wc kc => ?_
  rw [bld_at_val]
  refine newB fun x2 wd hx2 h2 kd => ?_
  unfold bdA
  rw [stA (k := 5) h2 (by rw [zcBd]; rfl) rfl (bC_one _)]
  obtain ⟨we, hwe⟩ : ∃ we, we = setBlk wd x2 (.cells (bC (bAt (nV 2))).toArray 37) := ⟨_, rfl⟩
  have ke : Kp [] wc we := by rw [hwe]; exact kd.setBlk (.inr hx2) _
  have g2 : we.heap[x2]? = some (.cells (bC (bAt (nV 2))).toArray 37) := by rw [hwe]; exact heap_self (live_of h2)
  rw [← hwe]
  have kbe := (kc.trans' ke).drew
  have k9e := kb.trans' kbe
  have k0e : Kp [] w we.drew := (k08.trans' k9).trans' k9e
  have g1e := kbe.get g1 (by simp)
  have g2e : we.drew.heap[x2]? = some (.cells (bC (bAt (nV 2))).toArray 37) := g2
  have hste := hst.keep k9e
  have hrde := hrd.keep k9e
  have hsve : Rd we.drew sv 3 ([nV 1, nV 2, nV 2].map valV) := Rd.keep ⟨Ssv, hsv⟩ k9e
  generalize we.drew = wf at k0e g1e g2e hste hrde hsve ⊢
  have ld1' : ∀ w', Kp [] wf w' → ∀ K : Value → Prop, ldn 2 (.pointer (some ⟨x1, 0, none⟩)) w' K = K val := fun w' hk' K => by rw [ldA (k := 2) (hk'.get g1e (by simp)) rfl, hval]
  obtain ⟨p, p1, p2, p3⟩ := hrde.get (i := 0) (by omega)
  have p1' : ∀ K, ia 3 o (.int .i64 0) K = K p := fun K => p1 .i64 K
  have f0 : ∀ K : Value → Prop, (fa 0 p fun q => ld1 q wf K) = K (.int .i64 1) := fun K => by rw [p3 0 (by rw [hcs]; simp [cC])]; simp only [hcs]; rfl
  have f1 : ∀ K : Value → Prop, (fa 1 p fun q => ld1 q wf K) = K (.int .i64 2) := fun K => by rw [p3 1 (by rw [hcs]; simp [cC])]; simp only [hcs]; rfl
  have f2 : ∀ K : Value → Prop, (fa 2 p fun q => ld1 q wf K) = K sv := fun K => by rw [p3 2 (by rw [hcs]; simp [cC])]; simp only [hcs]; rfl
  rw [fa_p, ldF (x := .int .i64 ((4 : Nat) : Int)) g1e rfl]
  simp only [bq_eql, bV_b, decide_eq_true_eq, decide_eq_false_iff_not]
  refine ⟨fun _ => ?_, fun h => absurd (by first | trivial | rfl | decide) h⟩
  rw [fa_p, ldF (x := o) g1e rfl, hrde.lenL, hlen]
  simp only [bq_eql, bV_b, decide_eq_true_eq, decide_eq_false_iff_not]
  refine ⟨fun _ => ?_, fun h => absurd (by first | trivial | rfl | decide) h⟩
  rw [fa_p, ldF (x := o) g1e rfl, p1', f0]
  simp only [bq_eql, bV_b, decide_eq_true_eq, decide_eq_false_iff_not]
  refine ⟨fun _ => ?_, fun h => absurd (by first | trivial | rfl | decide) h⟩
  rw [fa_p, ldF (x := o) g1e rfl, p1', f1]
  simp only [bq_eql, bV_b, decide_eq_true_eq, decide_eq_false_iff_not]
  refine ⟨fun _ => ?_, fun h => absurd (by first | trivial | rfl | decide) h⟩
  rw [fa_p, ldF (x := o) g1e rfl, p1', f2, hsve.lenL]
  simp only [bq_eql, bV_b, decide_eq_true_eq, decide_eq_false_iff_not]
  refine ⟨fun _ => ?_, fun h => absurd (by first | trivial | rfl | decide) h⟩
  rw [ld1' _ (Kp.refl _ _)]
  refine num_spec 2 fun wg kg => ?_
  rw [ld1' _ kg]
  refine ⟨rfl, ?_⟩
  refine Same_spec (hste.keep kg) (by decide) 0 (nV 2) fun wh kh => ?_
  rw [same0]
  simp only [bq_eql, bV_b, decide_eq_true_eq, decide_eq_false_iff_not]
  refine ⟨fun _ => ?_, fun h => absurd (by first | trivial | rfl | decide) h⟩
  have k2 := kg.trans' kh
  rw [ld1' _ k2, ldA (k := 5) (k2.get g2e (by simp)) rfl, ldA (k := 5) (k2.get g2e (by simp)) rfl]
  refine Between_spec (hste.keep k2) (by decide) 0 (bAt (nV 2)) (bAt (nV 2)) fun wi ki => ?_
  rw [btw0]
  simp only [bq_eql, bV_b, decide_eq_true_eq, decide_eq_false_iff_not]
  refine ⟨fun _ => ?_, fun h => absurd (by first | trivial | rfl | decide) h⟩
  have k3 := k2.trans' ki
  rw [ld1' _ k3]
  refine Kept0_spec (hste.keep k3) fun wj kj => ?_
  simp only [bq_eql, bV_b, decide_eq_true_eq, decide_eq_false_iff_not]
  refine ⟨fun _ => ?_, fun h => absurd (by first | trivial | rfl | decide) h⟩
  have k4 := k3.trans' kj
  rw [ld1' _ k4, ld1' _ k4]
  refine Joined_spec (hste.keep k4) (hste.keep k4) 0 4 0 4 fun wk kk => ?_
  rw [joined0]
  simp only [bq_eql]
  exact hR wk (k0e.trans' (k4.trans' kk))
end
end Go.Proofs

/- Layer 22: the four statements. -/
set_option maxRecDepth 100000
set_option linter.unusedVariables false
set_option linter.unusedSimpArgs false
namespace Go.Proofs
open Go Go.Q
section
variable {w : World} {R : Value → World → Prop}
theorem stvar {val : Value} {st : StatV} (h : StatAt w val st) {K : Value → World → Prop} (hK : ∀ x w', w.heap.size ≤ x → Kp [] w w' → (∀ o, val = .agg #[.int .i64 st.rows, o] → w'.heap[x]? = some (.cells #[.int .i64 st.rows, o] 27)) → (∀ w2, Kp [] w' w2 → ∀ K : Value → Prop, ldn 2 (.pointer (some ⟨x, 0, none⟩)) w2 K = K val) → K (.pointer (some ⟨x, 0, none⟩)) w') :
    newG (zc Try.prog 27) 27 w fun t w => stn 2 t val w fun w => K t w := by
  obtain ⟨o, css, hval, ho, _⟩ := h
  refine newB fun x w1 hx h1 k1 => ?_
  rw [hval, stA (k := 2) h1 (by rw [zcSt]; rfl) rfl (by simp [ho])]
  refine hK x _ hx (k1.setBlk (.inr hx) _) (fun o' he => ?_) fun w2 k2 K => ?_
  · rw [hval] at he
    injection he with he
    rw [← he]
    exact heap_self (live_of h1)
  · rw [ldA (k := 2) (k2.get (heap_self (live_of h1)) (by simp)) rfl, hval]
theorem statFinds_spec {x0 : Value} {rows : List (List V3)} (hx : Nst 3 valV w x0 rows) (col : Int) (b0 b1 : Bd) (hR : ∀ w', Kp [] w w' → R (.bool true) w') : callG Try.prog 4 #[x0, .int .i64 col, .agg (bC b0 ++ bC b1).toArray] w R := by
  refine law22_StatFinds_call ?_
  unfold law22_StatFinds law22_StatFinds_s1
  refine argB fun x5 w1 hx5 h5 k1 => ?_
  have aw : ∀ w', Kp [] w w' → callG Try.prog 8 #[] w' fun t w => R t w := fun w' hk => awake22 fun w2 k2 => hR w2 (hk.trans' k2)
  have e0 : ∀ K : Value → Prop, iaA 2 5 (.pointer (some ⟨x5, 0, none⟩)) (.int .i64 0) K = K (.pointer (some ⟨x5, 0, none⟩)) := fun K => by
    rw [iaA_p]
    simp
  have e1 : ∀ K : Value → Prop, iaA 2 5 (.pointer (some ⟨x5, 0, none⟩)) (.int .i64 1) K = K (.pointer (some ⟨x5, 5, none⟩)) := fun K => by
    rw [iaA_p]
    simp
  have r0 : ∀ w', Kp [] w1 w' → ∀ K : Value → Prop, ldn 5 (.pointer (some ⟨x5, 0, none⟩)) w' K = K (bdA b0) := fun w' hk K => ldP (hk.get h5 (by simp)) rfl (by simp [bC, valV])
  have r1 : ∀ w', Kp [] w1 w' → ∀ K : Value → Prop, ldn 5 (.pointer (some ⟨x5, 5, none⟩)) w' K = K (bdA b1) := fun w' hk K => ldP (hk.get h5 (by simp)) rfl (by simp [bC, valV])
  have v0 : ∀ w', Kp [] w1 w' → ∀ K : Value → Prop, ldn 3 (.pointer (some ⟨x5, 0 + 2, none⟩)) w' K = K (valA b0.val) := fun w' hk K => ldP (hk.get h5 (by simp)) rfl (by simp [bC, valV])
  have kd : Kp [] w1 w1.drew := kp_drew
  refine light_spec (hx.keep k1) (fun hl h8 w2 k2 => ?_) fun w2 k2 => ?_
  · have k02 := k1.trans' k2
    simp only [un_not, bV_b]
    refine ⟨fun h => by simp at h, fun _ => ?_⟩
    rw [e0, fa_p, fa_p, ldF (x := .string (str b0.val.s)) (k2.get h5 (by simp)) rfl]
    simp only [lenS_s, bq_gtr, bV_b]
    refine ⟨fun _ => aw w2 k02, fun _ => ?_⟩
    rw [e1, fa_p, fa_p, ldF (x := .string (str b1.val.s)) (k2.get h5 (by simp)) rfl]
    simp only [lenS_s, bq_gtr, bV_b]
    refine ⟨fun _ => aw w2 k02, fun _ => ?_⟩
    have h30 : ∀ r ∈ rows, r.length < 2 ^ 30 := fun r hr => by have := h8 r hr; omega
    unfold law22_StatFinds_s0
    refine Of_spec (hx.keep k02) (by omega) h30 3 fun w3 va k3 ha => ?_
    refine stvar ha fun x7 w4 hx7 k4 _ ld7 => ?_
    have k04 := (k02.trans' k3).trans' k4
    refine rOf_spec (hx.keep k04) (by omega) h30 3 fun w5 vb k5 hb => ?_
    refine stvar hb fun x8 w6 hx8 k6 _ ld8 => ?_
    have k46 := k5.trans' k6
    have k46d := k46.drew
    have k06d := k04.trans' k46d
    have k16d : Kp [] w1 w6.drew := ((k2.trans' k3).trans' k4).trans' k46d
    have ha6 := (ha.keep k4).keep k46d
    have hb6 := (hb.keep k6).keep (kp_drew)
    have k66d : Kp [] w6 w6.drew := kp_drew
    rw [ld7 _ k46d, e0, fa_p, v0 _ k16d, ld7 _ k46d, e0, r0 _ k16d, e1, r1 _ k16d]
    refine Same_spec ha6 (by omega) col b0.val fun w7 k7 => ?_
    have k17 := k16d.trans' k7
    rw [r1 _ k17, r0 _ k17, ld7 _ (k46d.trans' k7)]
    refine ⟨rfl, rfl, rfl, ?_⟩
    refine Between_spec (ha6.keep k7) (by omega) col b0 b1 fun w8 k8 => ?_
    have k78 := k7.trans' k8
    have k18 := k16d.trans' k78
    rw [ld8 _ (k66d.trans' k78), e0, fa_p, v0 _ k18]
    refine rSame_spec (hb6.keep k78) (by omega) col b0.val fun w9 k9 => ?_
    have k79 := k78.trans' k9
    have k19 := k16d.trans' k79
    simp only [bq_eql, bV_b, decide_eq_true_eq, decide_eq_false_iff_not]
    refine ⟨fun _ => ?_, fun h => absurd trivial h⟩
    rw [ld8 _ (k66d.trans' k79), e0, r0 _ k19, e1, r1 _ k19]
    refine rBetween_spec (hb6.keep k79) (by omega) col b0 b1 fun wa ka => ?_
    have k7a := k79.trans' ka
    have k0a := k06d.trans' k7a
    have hs := sameQ_le 3 col rows b0.val
    have hb := betweenQ_le 3 col rows b0 b1
    have hlx : ∀ K : Value → Prop, lenL x0 K = K (.int .i64 rows.length) := fun K => hx.lenL
    simp only [bq_eql, bV_b, decide_eq_true_eq, decide_eq_false_iff_not, bq_geq, bq_leq, hlx]
    refine ⟨fun _ => ⟨fun _ => ⟨fun _ => ⟨fun _ => ⟨fun _ => aw wa k0a, fun h => absurd (by omega) h⟩, fun h => absurd (by omega) h⟩, fun h => absurd (by omega) h⟩, fun h => absurd (by omega) h⟩, fun h => absurd trivial h⟩
  · simp only [un_not, bV_b]
    refine ⟨fun _ => aw w2 (k1.trans' k2), fun h => by simp at h⟩
theorem and255 {xo yo : Operand} {w : World} {T : TypeId} {x : Int} {K : Value → Prop} (hK : ∀ c : Nat, c < 256 → K (.int .i64 c)) : qG Try.prog (bq .and T xo yo (.int .i64 x) (.int .i64 255)) w K := by
  have h : (bq .and T xo yo (.int .i64 x) (.int .i64 255)).run Try.prog w = .ok (.int .i64 (IntKind.i64.wrap ((BitVec.ofInt 64 x &&& BitVec.ofInt 64 255).toNat : Int))) w := run_bq_int (s := .pure _) fun w => by
    simp only [binOp, ne_eq, not_true_eq_false, if_false, Op.intBits]
    rfl
  have hle : (BitVec.ofInt 64 x &&& BitVec.ofInt 64 255).toNat ≤ 255 := by
    rw [BitVec.toNat_and]
    exact Nat.and_le_right
  rw [qG_of h, wrap_nat64 (by omega)]
  exact hK _ (by omega)
end
end Go.Proofs

/- Arrays that came in. -/
set_option linter.unusedVariables false
set_option linter.unusedSimpArgs false
namespace Go.Q
theorem okWide_array {P : Program} {w : World} {r : Reach} {base : Nat} {t : TypeId} {v : Value} {n : Nat} {e : TypeId} (ht : P.underlying t = some (.array n e)) (h : Value.okWide P w r base t v) : ∃ cs, v = .agg cs ∧ cs.size = P.cellsOf t := by
  simp only [Value.okWide, ht] at h
  obtain ⟨cs, h1, h2, _⟩ := h
  exact ⟨cs, h1, h2⟩
/-- the elements of an array, one behind the other -/
theorem arr_rows {H : Type} {enc : TypeId × Value → H} {P : Program} {w : World} {base : Nat} {spare : Nat → Bool} {held : Bool} {fuel : Nat} {t e : TypeId} {cs : List Value} {x : DataW H × List MemPlace} {n k : Nat} (ht : P.underlying t = some (.array n e)) (hk : P.cellsOf e = k) (hc : P.cellsOf t = n * k)
    (h : DataW.trod enc P w base spare held fuel t cs = some x) : ∃ rows : List (List Value), cs = rows.flatten ∧ rows.length = n ∧ ∀ r ∈ rows, ∃ f y, DataW.trod enc P w base spare held f e r = some y := by
  obtain ⟨xs, m, _, _, hl, hx, hel⟩ := DataW.trod_array ht h
  refine ⟨(List.range n).map fun i => (cs.drop (i * k)).take k, ?_, by simp, fun r hr => ?_⟩
  · rw [chop_flat, ← hc, ← hl, List.take_length]
  · obtain ⟨i, hi, rfl⟩ := List.mem_map.1 hr
    have hi := List.mem_range.1 hi
    have := hel i hi
    rw [hk] at this
    obtain ⟨y, hy⟩ := Option.isSome_iff_exists.1 (show (xs[i]?).isSome = true by simp; omega)
    rw [hy] at this
    exact ⟨m, y, this⟩
end Go.Q

/- What the statement's own reading says of the arguments that came in: rows, ranges, values, numbers. -/
set_option linter.unusedVariables false
set_option linter.unusedSimpArgs false
namespace Go.Proofs
open Go Go.Q
/-- an argument that the statement's own reading took -/
def Taken (w : World) (t : TypeId) (v : Value) : Prop :=
  ∃ (H : Type) (enc : TypeId × Value → H) (fuel : Nat) (x : DataW H × List MemPlace), DataW.trod enc Try.prog w 0 (fun _ => true) true fuel t v.cells.toList = some x
section
variable {H : Type} {enc : TypeId × Value → H} {w : World} {fuel n : Nat} {cs : List Value} {x : DataW H × List MemPlace}
theorem str_all (s : ByteArray) : s = str s.data.toList := by cases s; simp [str]
theorem one_celA {i : Nat} (hi : i < cs.length) : (cs.drop i).take 1 = [cs[i]] := by rw [List.drop_eq_getElem_cons hi]; rfl
theorem fld_int {i : Nat} {q : Option (DataW H × List MemPlace)} (h : DataW.trod enc Try.prog w 0 (fun _ => true) true n 3 ((cs.drop i).take (Try.prog.cellsOf 3)) = q) (hq : q.isSome = true) (hi : i < cs.length) : ∃ z : Int, cs[i] = .int .i64 z := by
  obtain ⟨y, rfl⟩ := Option.isSome_iff_exists.1 hq
  rw [show Try.prog.cellsOf 3 = 1 by kernel_rfl, one_celA hi] at h
  obtain ⟨z, e, _, hw⟩ := DataW.trod_int Try.underlying3 h
  injection e with e _
  exact ⟨z, e⟩
theorem fld_bool {i : Nat} {q : Option (DataW H × List MemPlace)} (h : DataW.trod enc Try.prog w 0 (fun _ => true) true n 4 ((cs.drop i).take (Try.prog.cellsOf 4)) = q) (hq : q.isSome = true) (hi : i < cs.length) : ∃ z : Bool, cs[i] = .bool z := by
  obtain ⟨y, rfl⟩ := Option.isSome_iff_exists.1 hq
  rw [show Try.prog.cellsOf 4 = 1 by kernel_rfl, one_celA hi] at h
  obtain ⟨z, e, _⟩ := DataW.trod_bool Try.underlying4 h
  injection e with e _
  exact ⟨z, e⟩
theorem fld_str {i : Nat} {q : Option (DataW H × List MemPlace)} (h : DataW.trod enc Try.prog w 0 (fun _ => true) true n 9 ((cs.drop i).take (Try.prog.cellsOf 9)) = q) (hq : q.isSome = true) (hi : i < cs.length) : ∃ s : List UInt8, cs[i] = .string (str s) := by
  obtain ⟨y, rfl⟩ := Option.isSome_iff_exists.1 hq
  rw [show Try.prog.cellsOf 9 = 1 by kernel_rfl, one_celA hi] at h
  obtain ⟨s, e, _, hw⟩ := DataW.trod_string Try.underlying9 h
  injection e with e _
  exact ⟨s.data.toList, by rw [e]; exact congrArg Value.string (str_all s)⟩
theorem list3 {α : Type} {r : List α} (h : r.length = 3) : ∃ a b c, r = [a, b, c] := by
  match r, h with
  | [a, b, c], _ => exact ⟨a, b, c, rfl⟩
theorem list5 {α : Type} {r : List α} (h : r.length = 5) : ∃ a b c d e, r = [a, b, c, d, e] := by
  match r, h with
  | [a, b, c, d, e], _ => exact ⟨a, b, c, d, e, rfl⟩
theorem val_in (h : DataW.trod enc Try.prog w 0 (fun _ => true) true fuel 35 cs = some x) : ∃ v : V3, cs = valV v := by
  obtain ⟨xs, n, rfl, _, hl, hx, hf⟩ := DataW.trod_struct Try.underlying35 h
  rw [show Try.prog.cellsOf 35 = 3 by kernel_rfl] at hl
  have hx3 : xs.length = 3 := hx
  have g0 : DataW.trod enc Try.prog w 0 (fun _ => true) true n 3 ((cs.drop 0).take (Try.prog.cellsOf 3)) = xs[0]? := hf 0 _ rfl
  obtain ⟨z0, e0⟩ := fld_int g0 (by simp; omega) (by omega)
  have g1 : DataW.trod enc Try.prog w 0 (fun _ => true) true n 3 ((cs.drop 1).take (Try.prog.cellsOf 3)) = xs[1]? := hf 1 _ rfl
  obtain ⟨z1, e1⟩ := fld_int g1 (by simp; omega) (by omega)
  have g2 : DataW.trod enc Try.prog w 0 (fun _ => true) true n 9 ((cs.drop 2).take (Try.prog.cellsOf 9)) = xs[2]? := hf 2 _ rfl
  obtain ⟨z2, e2⟩ := fld_str g2 (by simp; omega) (by omega)
  obtain ⟨c0, c1, c2, rfl⟩ := list3 hl
  simp only [List.getElem_cons_zero, List.getElem_cons_succ] at e0 e1 e2
  subst e0 e1 e2
  exact ⟨⟨z0, z1, z2⟩, rfl⟩
theorem bd_in (h : DataW.trod enc Try.prog w 0 (fun _ => true) true fuel 37 cs = some x) : ∃ b : Bd, cs = bC b := by
  obtain ⟨xs, n, rfl, _, hl, hx, hf⟩ := DataW.trod_struct Try.underlying37 h
  rw [show Try.prog.cellsOf 37 = 5 by kernel_rfl] at hl
  have hx3 : xs.length = 3 := hx
  have g0 : DataW.trod enc Try.prog w 0 (fun _ => true) true n 4 ((cs.drop 0).take (Try.prog.cellsOf 4)) = xs[0]? := hf 0 _ rfl
  obtain ⟨z0, e0⟩ := fld_bool g0 (by simp; omega) (by omega)
  have g1 : DataW.trod enc Try.prog w 0 (fun _ => true) true n 4 ((cs.drop 1).take (Try.prog.cellsOf 4)) = xs[1]? := hf 1 _ rfl
  obtain ⟨z1, e1⟩ := fld_bool g1 (by simp; omega) (by omega)
  have g2 : DataW.trod enc Try.prog w 0 (fun _ => true) true n 35 ((cs.drop 2).take (Try.prog.cellsOf 35)) = xs[2]? := hf 2 _ rfl
  have hs2 : (xs[2]?).isSome = true := by simp; omega
  obtain ⟨y, hy⟩ := Option.isSome_iff_exists.1 hs2
  rw [hy] at g2
  obtain ⟨v, hv⟩ := val_in g2
  rw [show Try.prog.cellsOf 35 = 3 by kernel_rfl] at hv
  obtain ⟨c0, c1, c2, c3, c4, rfl⟩ := list5 hl
  simp only [List.getElem_cons_zero, List.getElem_cons_succ] at e0 e1
  subst e0 e1
  exact ⟨⟨z0, z1, v⟩, by
    simp only [List.drop_succ_cons, List.drop_zero, List.take_succ_cons, List.take_zero] at hv
    show [_, _, c2, c3, c4] = [_, _] ++ valV v
    rw [← hv]; rfl⟩
theorem all_in {α : Type} {f : α → List Value} {rows : List (List Value)} (h : ∀ r ∈ rows, ∃ a, r = f a) : ∃ l : List α, rows = l.map f := by
  induction rows with
  | nil => exact ⟨[], rfl⟩
  | cons r rows ih =>
    obtain ⟨l, h1⟩ := ih fun x hx => h x (by simp [hx])
    obtain ⟨s, h3⟩ := h r (by simp)
    exact ⟨s :: l, by rw [h1, h3]; rfl⟩
theorem row_in (h : DataW.trod enc Try.prog w 0 (fun _ => true) true fuel 44 cs = some x) : ∃ (v : Value) (r : List V3), cs = [v] ∧ Rd w v 3 (r.map valV) := by
  obtain ⟨v, rows, SK, hv, harg, hlt, hlen, hr⟩ := arg_slice Try.underlying44 (n := 3) (by kernel_rfl) (by omega) h
  obtain ⟨l, hl⟩ := all_in (f := valV) (rows := rows) fun r hm => by
    obtain ⟨f, y, hy⟩ := hr r hm
    exact val_in hy
  subst hl
  exact ⟨v, l, hv, ⟨SK, harg⟩⟩
end
theorem rows_of {w : World} {rows : List (List Value)} (h : ∀ r ∈ rows, ∃ (v : Value) (l : List V3), r = [v] ∧ Rd w v 3 (l.map valV)) : ∃ (vs : List Value) (bs : List (List V3)), rows = vs.map cel ∧ vs.length = bs.length ∧ ∀ i (h : i < bs.length) v, vs[i]? = some v → Rd w v 3 (bs[i].map valV) := by
  induction rows with
  | nil => exact ⟨[], [], rfl, rfl, by simp⟩
  | cons r rows ih =>
    obtain ⟨vs, bs, h1, h2, h3⟩ := ih fun x hx => h x (by simp [hx])
    obtain ⟨v, l, h4, h5⟩ := h r (by simp)
    refine ⟨v :: vs, l :: bs, by rw [h1, h4]; rfl, by simp [h2], fun i hi u hu => ?_⟩
    cases i with
    | zero => simp at hu; subst hu; exact h5
    | succ i => exact h3 i (by simpa using hi) u (by simpa using hu)
theorem rows_taken {w : World} {a : Option Addr} {l c : Nat} (h : Taken w 22 (.slice a l c)) : ∃ rows : List (List V3), Nst 3 valV w (.slice a l c) rows := by
  obtain ⟨H, enc, fuel, x, h⟩ := h
  obtain ⟨v, rows, SK, hv, harg, hlt, hlen, hr⟩ := arg_slice Try.underlying22 (n := 1) (by kernel_rfl) (by omega) h
  obtain ⟨vs, bs, h1, h2, h3⟩ := rows_of (w := w) (rows := rows) fun r hm => by
    obtain ⟨f, y, hy⟩ := hr r hm
    exact row_in hy
  injection hv with e _
  subst e
  subst h1
  exact ⟨bs, vs, ⟨SK, harg⟩, h2, h3⟩
theorem agg_of {c : Array Value} {l : List Value} (h : c.toList = l) : Value.agg c = .agg l.toArray := by rw [← h]
theorem bounds_taken {w : World} {c : Array Value} (h : Taken w 38 (.agg c)) : ∃ b0 b1 : Bd, Value.agg c = .agg (bC b0 ++ bC b1).toArray := by
  obtain ⟨H, enc, fuel, x, h⟩ := h
  obtain ⟨rows, h1, h2, h3⟩ := arr_rows Try.underlying38 (k := 5) (by kernel_rfl) (by kernel_rfl) h
  obtain ⟨l, hl⟩ := all_in (f := bC) (rows := rows) fun r hm => by
    obtain ⟨f, y, hy⟩ := h3 r hm
    exact bd_in hy
  subst hl
  match l, h2 with
  | [a, b], _ => exact ⟨a, b, agg_of (by have h1 : c.toList = _ := h1; rw [h1]; simp)⟩
end Go.Proofs

