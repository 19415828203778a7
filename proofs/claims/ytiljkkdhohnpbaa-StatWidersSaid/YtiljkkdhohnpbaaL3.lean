/- Part of the proof (L3): an engine, rules or contracts of the functions; it states nothing of the claim by itself. -/
import Derived.Test.YtiljkkdhohnpbaaL2
import Derived.Test.YtiljkkdhohnpbaaL1
import Derived.OpenShut
import Derived.WideShapes
import Derived.ChangeSlices

/- Layer 22: the four statements. -/
set_option maxRecDepth 100000
set_option linter.unusedVariables false
set_option linter.unusedSimpArgs false
namespace Go.Proofs
open Go Go.Q
section
variable {w : World} {R : Value → World → Prop}
theorem stvar {val : Value} {st : StatV} (h : StatAt w val st) {K : Value → World → Prop} (hK : ∀ x w', w.heap.size ≤ x → Kp [] w w' → (∀ o, val = .agg #[.int .i64 st.rows, o] → w'.heap[x]? = some (.cells #[.int .i64 st.rows, o] 27)) → (∀ w2, Kp [] w' w2 → ∀ K : Value → Prop, ldn 2 (.pointer (some ⟨x, 0, none⟩)) w2 K = K val) → K (.pointer (some ⟨x, 0, none⟩)) w') :
    newG (zc Try.prog 27) 27 w fun t w => stn 2 t val w fun w => K t w := by
  obtain ⟨o, css, hval, ho, _⟩ := h
  refine newB fun x w1 hx h1 k1 => ?_
  rw [hval, stA (k := 2) h1 (by rw [zcSt]; rfl) rfl (by simp [ho])]
  refine hK x _ hx (k1.setBlk (.inr hx) _) (fun o' he => ?_) fun w2 k2 K => ?_
  · rw [hval] at he
    injection he with he
    rw [← he]
    exact heap_self (live_of h1)
  · rw [ldA (k := 2) (k2.get (heap_self (live_of h1)) (by simp)) rfl, hval]
theorem and255 {xo yo : Operand} {w : World} {T : TypeId} {x : Int} {K : Value → Prop} (hK : ∀ c : Nat, c < 256 → K (.int .i64 c)) : qG Try.prog (bq .and T xo yo (.int .i64 x) (.int .i64 255)) w K := by
  have h : (bq .and T xo yo (.int .i64 x) (.int .i64 255)).run Try.prog w = .ok (.int .i64 (IntKind.i64.wrap ((BitVec.ofInt 64 x &&& BitVec.ofInt 64 255).toNat : Int))) w := run_bq_int (s := .pure _) fun w => by
    simp only [binOp, ne_eq, not_true_eq_false, if_false, Op.intBits]
    rfl
  have hle : (BitVec.ofInt 64 x &&& BitVec.ofInt 64 255).toNat ≤ 255 := by
    rw [BitVec.toNat_and]
    exact Nat.and_le_right
  rw [qG_of h, wrap_nat64 (by omega)]
  exact hK _ (by omega)
theorem statWiders_spec {x0 : Value} {rows : List (List V3)} (hx : Nst 3 valV w x0 rows) (col : Int) (a b c d : V3) (hR : ∀ w', Kp [] w w' → R (.bool true) w') : callG Try.prog 5 #[x0, .int .i64 col, .agg (valV a ++ valV b ++ valV c ++ valV d).toArray] w R := by
  refine law22_StatWiders_call ?_
  unfold law22_StatWiders law22_StatWiders_s8
  refine argB fun x5 w1 hx5 h5 k1 => ?_
  have aw : ∀ w', Kp [] w w' → callG Try.prog 8 #[] w' fun t w => R t w := fun w' hk => awake22 fun w2 k2 => hR w2 (hk.trans' k2)
  have ei : ∀ (i : Nat), i < 4 → ∀ K : Value → Prop, iaA 4 3 (.pointer (some ⟨x5, 0, none⟩)) (.int .i64 (i : Nat)) K = K (.pointer (some ⟨x5, i * 3, none⟩)) := fun i hi K => by
    rw [iaA_p]
    have : ((0 : Int) ≤ (i : Nat) ∧ ((i : Nat) : Int) < ((4 : Nat) : Int)) = True := by simp; omega
    rw [this, true_and, Int.toNat_natCast, Nat.zero_add]
  have rv : ∀ (i : Nat) (hi : i < 4), ∀ w', Kp [] w1 w' → ∀ K : Value → Prop, ldn 3 (.pointer (some ⟨x5, i * 3, none⟩)) w' K = K (valA ([a, b, c, d][i]'hi)) := fun i hi w' hk K => by
    match i, hi with
    | 0, _ => exact ldP (hk.get h5 (by simp)) rfl (by simp [valV])
    | 1, _ => exact ldP (hk.get h5 (by simp)) rfl (by simp [valV])
    | 2, _ => exact ldP (hk.get h5 (by simp)) rfl (by simp [valV])
    | 3, _ => exact ldP (hk.get h5 (by simp)) rfl (by simp [valV])
  have rs : ∀ (i : Nat) (hi : i < 4), ∀ w', Kp [] w1 w' → ∀ K : Value → Prop, ld1 (.pointer (some ⟨x5, i * 3 + 2, none⟩)) w' K = K (.string (str ([a, b, c, d][i]'hi).s)) := fun i hi w' hk K => by
    match i, hi with
    | 0, _ => exact ldF (hk.get h5 (by simp)) rfl
    | 1, _ => exact ldF (hk.get h5 (by simp)) rfl
    | 2, _ => exact ldF (hk.get h5 (by simp)) rfl
    | 3, _ => exact ldF (hk.get h5 (by simp)) rfl
  refine light_spec (hx.keep k1) (fun hl h8 w2 k2 => ?_) fun w2 k2 => ?_
  · have k02 := k1.trans' k2
    simp only [un_not, bV_b]
    refine ⟨fun h => by simp at h, fun _ => ?_⟩
    have h30 : ∀ r ∈ rows, r.length < 2 ^ 30 := fun r hr => by have := h8 r hr; omega
    unfold law22_StatWiders_s7 law22_StatWiders_L6
    refine loop_inv (fun m xs wi => ∃ i, i ≤ 4 ∧ m = 4 - i ∧ xs = [x0, .int .i64 col, .pointer (some ⟨x5, 0, none⟩), .int .i64 (i : Nat)] ∧ Kp [] w1 wi ∧ ∀ j (h : j < 4), 0 < j → j < i → cmpV ([a, b, c, d][j - 1]'(by simp; omega)) ([a, b, c, d][j]'h) ≤ 0) ?_ (m := 4) ⟨0, by omega, rfl, rfl, k2, fun j _ _ h => by omega⟩
    rintro m N xs wi ⟨i, hi, rfl, rfl, hk, hc⟩ hN
    have hiw : IntKind.i64.wrap ((i : Int) + 1) = ((i + 1 : Nat) : Int) := by rw [w64 (by omega) (by omega)]; simp
    have hkd := hk.drew
    have k0d := k1.trans' hkd
    have k0i := k1.trans' hk
    unfold law22_StatWiders_L6F law22_StatWiders_b5
    dsimp only
    simp only [bq_lss, bV_b, decide_eq_true_eq, decide_eq_false_iff_not]
    refine ⟨fun hlt => ?_, fun hge => ?_⟩
    · have hlt : i < 4 := by omega
      rw [ei i hlt, fa_p, rs i hlt _ hkd]
      simp only [lenS_s, bq_gtr, bV_b, decide_eq_true_eq, decide_eq_false_iff_not]
      refine ⟨fun _ => aw _ k0d, fun _ => ⟨fun hpos => ?_, fun hz => ?_⟩⟩
      · have hpos : 0 < i := by omega
        have his : IntKind.i64.wrap ((i : Int) - 1) = ((i - 1 : Nat) : Int) := by rw [w64 (by omega) (by omega)]; omega
        simp only [bq_sub, his]
        rw [ei (i - 1) (by omega), rv (i - 1) (by omega) _ hkd, ei i hlt, rv i hlt _ hkd]
        refine dCompare_spec _ _ fun w3 k3 => ?_
        simp only [bq_gtr, bV_b, decide_eq_true_eq, decide_eq_false_iff_not]
        refine ⟨fun _ => aw w3 (k0d.trans' k3), fun hcc => ?_⟩
        simp only [bq_add, hiw]
        refine hN (4 - (i + 1)) _ _ (by omega) ⟨i + 1, by omega, rfl, rfl, hkd.trans' k3, fun j hj h0 hji => ?_⟩
        by_cases e : j = i
        · subst e; omega
        · exact hc j hj h0 (by omega)
      · simp only [bq_add, hiw]
        exact hN (4 - (i + 1)) _ _ (by omega) ⟨i + 1, by omega, rfl, rfl, hkd, fun j hj h0 hji => hc j hj h0 (by omega)⟩
    · have hie : i = 4 := by omega
      subst hie
      have c1 : cmpV a b ≤ 0 := hc 1 (by omega) (by omega) (by omega)
      have c2 : cmpV b c ≤ 0 := hc 2 (by omega) (by omega) (by omega)
      have c3 : cmpV c d ≤ 0 := hc 3 (by omega) (by omega) (by omega)
      unfold law22_StatWiders_s4
      refine and255 fun k' hk' => ?_
      rw [rem_of (by omega) (by omega)]
      obtain ⟨k, hk3⟩ : ∃ k, k = k' % 3 := ⟨_, rfl⟩
      have hk3' : k < 3 := by omega
      have ek : ((k' : Int) % 3) = ((k : Nat) : Int) := by omega
      rw [ek]
      refine Of_spec (hx.keep k0i) (by omega) h30 3 fun w3 va k3 ha => ?_
      refine stvar ha fun x9 w4 hx9 k4 _ ld9 => ?_
      have k14 := (hk.trans' k3).trans' k4
      have k44 : Kp [] w4 w4 := Kp.refl _ _
      have ha4 := ha.keep k4
      have E : ∀ (j : Nat) (hj : j < 4) (w' : World), Kp [] w1 w' → ∀ K : Value → Prop, (iaA 4 3 (.pointer (some ⟨x5, 0, none⟩)) (.int .i64 (j : Nat)) fun t => ldn 3 t w' fun v => bld [(0, 1), (1, 1), (2, 3)] (zc Try.prog 37) #[(0, (.bool true)), (2, v)] K) = K (bdA (bdC ([a, b, c, d][j]'hj))) := fun j hj w' hk' K => by
        rw [ei j hj, rv j hj _ hk', bld_at_val]; rfl
      have E0 := fun w' hk' K => E 0 (by omega) w' hk' K
      have E1 := fun w' hk' K => E 1 (by omega) w' hk' K
      have E2 := fun w' hk' K => E 2 (by omega) w' hk' K
      have E3 := fun w' hk' K => E 3 (by omega) w' hk' K
      rw [ld9 _ k44]
      have q : ((1 : Nat) : Int) = 1 := rfl
      have q2 : ((2 : Nat) : Int) = 2 := rfl
      have q0 : ((0 : Nat) : Int) = 0 := rfl
      have q3 : ((3 : Nat) : Int) = 3 := rfl
      rw [q] at E1
      rw [q2] at E2
      rw [q0] at E0
      rw [q3] at E3
      rw [E1 _ k14, E2 _ k14]
      refine Between_spec ha4 (by omega) k _ _ fun w5 k5 => ?_
      have k15 := k14.trans' k5
      rw [ld9 _ k5, E0 _ k15, E3 _ k15]
      refine Between_spec (ha4.keep k5) (by omega) k _ _ fun w6 k6 => ?_
      have k46 := k5.trans' k6
      rw [ld9 _ k46, bld_bd0, bld_bd0]
      refine Between_spec (ha4.keep k46) (by omega) k _ _ fun w7 k7 => ?_
      have k47 := k46.trans' k7
      have k07 : Kp [] w w7 := k1.trans' (k14.trans' k47)
      have hw1 : betweenQ (statV 3 rows) k (bdC b) (bdC c) ≤ betweenQ (statV 3 rows) k (bdC a) (bdC d) := wider c1 c2 c3
      have hkm : k < min (3 : Int).toNat 64 := by simp; omega
      have hw2 := below_all (rows := rows) hkm (bdC a) (bdC d)
      have hw3 := all_between (rows := rows) hkm
      have hlx : ∀ K : Value → Prop, lenL x0 K = K (.int .i64 rows.length) := fun K => hx.lenL
      show law22_StatWiders_s3 R x0 (.int .i64 (k : Nat)) (.int .i64 ((betweenQ (statV 3 rows) k (bdC b) (bdC c) : Nat) : Int)) (.int .i64 ((betweenQ (statV 3 rows) k (bdC a) (bdC d) : Nat) : Int)) (.int .i64 ((betweenQ (statV 3 rows) k bNone bNone : Nat) : Int)) (.int .i64 0) w7
      generalize betweenQ (statV 3 rows) k (bdC b) (bdC c) = qi at *
      generalize betweenQ (statV 3 rows) k (bdC a) (bdC d) = qo at *
      generalize betweenQ (statV 3 rows) k bNone bNone = qa at *
      unfold law22_StatWiders_s3 law22_StatWiders_L2
      refine loop_inv (fun m xs wi => ∃ i, i ≤ rows.length ∧ m = rows.length - i ∧ xs = [x0, .int .i64 (k : Nat), .int .i64 (qi : Nat), .int .i64 (qo : Nat), .int .i64 (qa : Nat), .int .i64 ((colVals k (rows.take i)).length : Nat), .int .i64 (i : Nat)] ∧ wi = w7) ?_ (m := rows.length) ⟨0, by omega, rfl, rfl, rfl⟩
      rintro m N xs wj ⟨i, hi, rfl, rfl, rfl⟩ hN
      have hiw : IntKind.i64.wrap ((i : Int) + 1) = ((i + 1 : Nat) : Int) := by rw [w64 (by omega) (by omega)]; simp
      unfold law22_StatWiders_L2F law22_StatWiders_b1
      dsimp only
      rw [hlx]
      simp only [bq_lss, bV_b, decide_eq_true_eq, decide_eq_false_iff_not]
      refine ⟨fun hlt => ?_, fun _ => ?_⟩
      · have hlt : i < rows.length := by omega
        have hsn := colVals_snoc (c := k) hlt
        have hcl := colVals_take_le (c := k) hi
        obtain ⟨p, r, p1, p2, p3⟩ := (hx.keep k07).at hlt
        have hr8 := h8 _ (List.getElem_mem hlt)
        rw [p1, p2 _ (Kp.refl _ _), p3.lenL, List.length_map]
        simp only [bq_lss, bV_b, decide_eq_true_eq, decide_eq_false_iff_not]
        refine ⟨fun hkl => ?_, fun hkl => ?_⟩
        · have hkl : k < rows[i].length := by omega
          obtain ⟨q, q1, q2, q3⟩ := p3.get (i := k) (by simpa using hkl)
          have hrow : (rows[i].map valV)[k]'(by simpa using hkl) = valV rows[i][k] := by simp
          have hk0 : ((rows[i].map valV)[k]'(by simpa using hkl))[0]'(by rw [hrow]; simp [valV]) = .int .i64 rows[i][k].k := by simp only [hrow]; rfl
          have hs2 : rows[i][k]? = some rows[i][k] := by simp [hkl]
          unfold cellV at hsn
          rw [hs2] at hsn
          rw [p1, p2 _ (Kp.refl _ _), q1, q3 0 (by rw [hrow]; simp [valV]), hk0]
          simp only [bq_neq, bV_b, decide_eq_true_eq, decide_eq_false_iff_not, bq_add, hiw]
          refine ⟨fun hne => ?_, fun heq => ?_⟩
          · simp only [if_neg hne] at hsn
            have e : IntKind.i64.wrap (((colVals k (rows.take i)).length : Int) + 1) = (((colVals k (rows.take (i + 1))).length : Nat) : Int) := by rw [hsn, w64 (by omega) (by omega)]; simp
            rw [e]
            exact hN (rows.length - (i + 1)) _ _ (by omega) ⟨i + 1, by omega, rfl, rfl, rfl⟩
          · have heq : rows[i][k].k = 0 := by simpa using heq
            simp only [if_pos heq, List.append_nil] at hsn
            refine hN (rows.length - (i + 1)) _ _ (by omega) ⟨i + 1, by omega, rfl, by rw [hsn], rfl⟩
        · rw [cellV_none (by omega), List.append_nil] at hsn
          simp only [bq_add, hiw]
          refine hN (rows.length - (i + 1)) _ _ (by omega) ⟨i + 1, by omega, rfl, by rw [hsn], rfl⟩
      · have hie : i = rows.length := by omega
        subst hie
        rw [List.take_length]
        unfold law22_StatWiders_s0
        simp only [bq_leq, bq_eql, bV_b, decide_eq_true_eq, decide_eq_false_iff_not]
        exact ⟨fun _ => ⟨fun _ => ⟨fun _ => aw wj k07, fun h => absurd (by omega) h⟩, fun h => absurd (by omega) h⟩, fun h => absurd (by omega) h⟩
  · simp only [un_not, bV_b]
    exact ⟨fun _ => aw w2 (k1.trans' k2), fun h => by simp at h⟩
end
end Go.Proofs

/- Arrays that came in. -/
set_option linter.unusedVariables false
set_option linter.unusedSimpArgs false
namespace Go.Q
theorem okWide_array {P : Program} {w : World} {r : Reach} {base : Nat} {t : TypeId} {v : Value} {n : Nat} {e : TypeId} (ht : P.underlying t = some (.array n e)) (h : Value.okWide P w r base t v) : ∃ cs, v = .agg cs ∧ cs.size = P.cellsOf t := by
  simp only [Value.okWide, ht] at h
  obtain ⟨cs, h1, h2, _⟩ := h
  exact ⟨cs, h1, h2⟩
/-- the elements of an array, one behind the other -/
theorem arr_rows {H : Type} {enc : TypeId × Value → H} {P : Program} {w : World} {base : Nat} {spare : Nat → Bool} {held : Bool} {fuel : Nat} {t e : TypeId} {cs : List Value} {x : DataW H × List MemPlace} {n k : Nat} (ht : P.underlying t = some (.array n e)) (hk : P.cellsOf e = k) (hc : P.cellsOf t = n * k)
    (h : DataW.trod enc P w base spare held fuel t cs = some x) : ∃ rows : List (List Value), cs = rows.flatten ∧ rows.length = n ∧ ∀ r ∈ rows, ∃ f y, DataW.trod enc P w base spare held f e r = some y := by
  obtain ⟨xs, m, _, _, hl, hx, hel⟩ := DataW.trod_array ht h
  refine ⟨(List.range n).map fun i => (cs.drop (i * k)).take k, ?_, by simp, fun r hr => ?_⟩
  · rw [chop_flat, ← hc, ← hl, List.take_length]
  · obtain ⟨i, hi, rfl⟩ := List.mem_map.1 hr
    have hi := List.mem_range.1 hi
    have := hel i hi
    rw [hk] at this
    obtain ⟨y, hy⟩ := Option.isSome_iff_exists.1 (show (xs[i]?).isSome = true by simp; omega)
    rw [hy] at this
    exact ⟨m, y, this⟩
end Go.Q

/- What the statement's own reading says of the arguments that came in: rows, ranges, values, numbers. -/
set_option linter.unusedVariables false
set_option linter.unusedSimpArgs false
namespace Go.Proofs
open Go Go.Q
/-- an argument that the statement's own reading took -/
def Taken (w : World) (t : TypeId) (v : Value) : Prop :=
  ∃ (H : Type) (enc : TypeId × Value → H) (fuel : Nat) (x : DataW H × List MemPlace), DataW.trod enc Try.prog w 0 (fun _ => true) true fuel t v.cells.toList = some x
section
variable {H : Type} {enc : TypeId × Value → H} {w : World} {fuel n : Nat} {cs : List Value} {x : DataW H × List MemPlace}
theorem str_all (s : ByteArray) : s = str s.data.toList := by cases s; simp [str]
theorem one_celA {i : Nat} (hi : i < cs.length) : (cs.drop i).take 1 = [cs[i]] := by rw [List.drop_eq_getElem_cons hi]; rfl
theorem fld_int {i : Nat} {q : Option (DataW H × List MemPlace)} (h : DataW.trod enc Try.prog w 0 (fun _ => true) true n 3 ((cs.drop i).take (Try.prog.cellsOf 3)) = q) (hq : q.isSome = true) (hi : i < cs.length) : ∃ z : Int, cs[i] = .int .i64 z := by
  obtain ⟨y, rfl⟩ := Option.isSome_iff_exists.1 hq
  rw [show Try.prog.cellsOf 3 = 1 by kernel_rfl, one_celA hi] at h
  obtain ⟨z, e, _, hw⟩ := DataW.trod_int Try.underlying3 h
  injection e with e _
  exact ⟨z, e⟩
theorem fld_str {i : Nat} {q : Option (DataW H × List MemPlace)} (h : DataW.trod enc Try.prog w 0 (fun _ => true) true n 9 ((cs.drop i).take (Try.prog.cellsOf 9)) = q) (hq : q.isSome = true) (hi : i < cs.length) : ∃ s : List UInt8, cs[i] = .string (str s) := by
  obtain ⟨y, rfl⟩ := Option.isSome_iff_exists.1 hq
  rw [show Try.prog.cellsOf 9 = 1 by kernel_rfl, one_celA hi] at h
  obtain ⟨s, e, _, hw⟩ := DataW.trod_string Try.underlying9 h
  injection e with e _
  exact ⟨s.data.toList, by rw [e]; exact congrArg Value.string (str_all s)⟩
theorem list3 {α : Type} {r : List α} (h : r.length = 3) : ∃ a b c, r = [a, b, c] := by
  match r, h with
  | [a, b, c], _ => exact ⟨a, b, c, rfl⟩
theorem val_in (h : DataW.trod enc Try.prog w 0 (fun _ => true) true fuel 35 cs = some x) : ∃ v : V3, cs = valV v := by
  obtain ⟨xs, n, rfl, _, hl, hx, hf⟩ := DataW.trod_struct Try.underlying35 h
  rw [show Try.prog.cellsOf 35 = 3 by kernel_rfl] at hl
  have hx3 : xs.length = 3 := hx
  have g0 : DataW.trod enc Try.prog w 0 (fun _ => true) true n 3 ((cs.drop 0).take (Try.prog.cellsOf 3)) = xs[0]? := hf 0 _ rfl
  obtain ⟨z0, e0⟩ := fld_int g0 (by simp; omega) (by omega)
  have g1 : DataW.trod enc Try.prog w 0 (fun _ => true) true n 3 ((cs.drop 1).take (Try.prog.cellsOf 3)) = xs[1]? := hf 1 _ rfl
  obtain ⟨z1, e1⟩ := fld_int g1 (by simp; omega) (by omega)
  have g2 : DataW.trod enc Try.prog w 0 (fun _ => true) true n 9 ((cs.drop 2).take (Try.prog.cellsOf 9)) = xs[2]? := hf 2 _ rfl
  obtain ⟨z2, e2⟩ := fld_str g2 (by simp; omega) (by omega)
  obtain ⟨c0, c1, c2, rfl⟩ := list3 hl
  simp only [List.getElem_cons_zero, List.getElem_cons_succ] at e0 e1 e2
  subst e0 e1 e2
  exact ⟨⟨z0, z1, z2⟩, rfl⟩
theorem all_in {α : Type} {f : α → List Value} {rows : List (List Value)} (h : ∀ r ∈ rows, ∃ a, r = f a) : ∃ l : List α, rows = l.map f := by
  induction rows with
  | nil => exact ⟨[], rfl⟩
  | cons r rows ih =>
    obtain ⟨l, h1⟩ := ih fun x hx => h x (by simp [hx])
    obtain ⟨s, h3⟩ := h r (by simp)
    exact ⟨s :: l, by rw [h1, h3]; rfl⟩
theorem row_in (h : DataW.trod enc Try.prog w 0 (fun _ => true) true fuel 44 cs = some x) : ∃ (v : Value) (r : List V3), cs = [v] ∧ Rd w v 3 (r.map valV) := by
  obtain ⟨v, rows, SK, hv, harg, hlt, hlen, hr⟩ := arg_slice Try.underlying44 (n := 3) (by kernel_rfl) (by omega) h
  obtain ⟨l, hl⟩ := all_in (f := valV) (rows := rows) fun r hm => by
    obtain ⟨f, y, hy⟩ := hr r hm
    exact val_in hy
  subst hl
  exact ⟨v, l, hv, ⟨SK, harg⟩⟩
end
theorem rows_of {w : World} {rows : List (List Value)} (h : ∀ r ∈ rows, ∃ (v : Value) (l : List V3), r = [v] ∧ Rd w v 3 (l.map valV)) : ∃ (vs : List Value) (bs : List (List V3)), rows = vs.map cel ∧ vs.length = bs.length ∧ ∀ i (h : i < bs.length) v, vs[i]? = some v → Rd w v 3 (bs[i].map valV) := by
  induction rows with
  | nil => exact ⟨[], [], rfl, rfl, by simp⟩
  | cons r rows ih =>
    obtain ⟨vs, bs, h1, h2, h3⟩ := ih fun x hx => h x (by simp [hx])
    obtain ⟨v, l, h4, h5⟩ := h r (by simp)
    refine ⟨v :: vs, l :: bs, by rw [h1, h4]; rfl, by simp [h2], fun i hi u hu => ?_⟩
    cases i with
    | zero => simp at hu; subst hu; exact h5
    | succ i => exact h3 i (by simpa using hi) u (by simpa using hu)
theorem rows_taken {w : World} {a : Option Addr} {l c : Nat} (h : Taken w 22 (.slice a l c)) : ∃ rows : List (List V3), Nst 3 valV w (.slice a l c) rows := by
  obtain ⟨H, enc, fuel, x, h⟩ := h
  obtain ⟨v, rows, SK, hv, harg, hlt, hlen, hr⟩ := arg_slice Try.underlying22 (n := 1) (by kernel_rfl) (by omega) h
  obtain ⟨vs, bs, h1, h2, h3⟩ := rows_of (w := w) (rows := rows) fun r hm => by
    obtain ⟨f, y, hy⟩ := hr r hm
    exact row_in hy
  injection hv with e _
  subst e
  subst h1
  exact ⟨bs, vs, ⟨SK, harg⟩, h2, h3⟩
theorem agg_of {c : Array Value} {l : List Value} (h : c.toList = l) : Value.agg c = .agg l.toArray := by rw [← h]
theorem vals_taken {w : World} {c : Array Value} (h : Taken w 42 (.agg c)) : ∃ v0 v1 v2 v3 : V3, Value.agg c = .agg (valV v0 ++ valV v1 ++ valV v2 ++ valV v3).toArray := by
  obtain ⟨H, enc, fuel, x, h⟩ := h
  obtain ⟨rows, h1, h2, h3⟩ := arr_rows Try.underlying42 (k := 3) (by kernel_rfl) (by kernel_rfl) h
  obtain ⟨l, hl⟩ := all_in (f := valV) (rows := rows) fun r hm => by
    obtain ⟨f, y, hy⟩ := h3 r hm
    exact val_in hy
  subst hl
  match l, h2 with
  | [a, b, d, e], _ => exact ⟨a, b, d, e, agg_of (by have h1 : c.toList = _ := h1; rw [h1]; simp)⟩
end Go.Proofs

