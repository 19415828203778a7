/- Part of the proof (L5): an engine, rules or contracts of the functions; it states nothing of the claim by itself. -/
import Derived.Test.YthalloeiidpfeaaGreatL4
import Derived.Test.YthalloeiidpfeaaGreatL3
import Derived.Test.YthalloeiidpfeaaGreatL1
import Derived.Test.YthalloeiidpfeaaGreatL2

set_option linter.unusedVariables false
set_option linter.unusedSimpArgs false
namespace Go.Proofs
open Go Go.Q
theorem run_max3 {P : Program} {ts : Array TypeId} {t : TypeId} {k : IntKind} {a b c : Int} {w : World} : (Builtin.max_ ts t #[.int k a, .int k b, .int k c]).run P w = .ok (.int k (max (max a b) c)) w := by
  simp only [Builtin.max_, List.foldlM_cons, List.foldlM_nil, Builtin.max2, pure_bind]
  show Result.ok _ _ = _
  congr 2; omega
theorem ok_doH {l : LV} {o : OpV} (hm : May l) (hq : rngI o.q) (ho : o.ok = true) : DoH l o := by
  refine ⟨hm, hq, ?_, ?_, fun h => ?_⟩
  all_goals
    unfold OpV.ok at ho
    simp only at ho
  · by_cases h1 : o.k = 1
    · omega
    by_cases h2 : o.k = 2
    · omega
    by_cases h3 : o.k = 3 ∨ o.k = 4
    · omega
    by_cases h5 : o.k = 5
    · omega
    by_cases h6 : o.k = 6
    · omega
    by_cases h7 : o.k = 7
    · omega
    simp [h1, h2, h3, h5, h6, h7] at ho
  · by_cases h1 : o.k = 1
    · omega
    by_cases h2 : o.k = 2
    · omega
    by_cases h3 : o.k = 3 ∨ o.k = 4
    · omega
    by_cases h5 : o.k = 5
    · omega
    by_cases h6 : o.k = 6
    · omega
    by_cases h7 : o.k = 7
    · omega
    simp [h1, h2, h3, h5, h6, h7] at ho
  · have h1 : ¬ o.k = 1 := by omega
    have h2 : ¬ o.k = 2 := by omega
    simp [h1, h2, h] at ho
    exact ho.2.2.2.1
theorem bld_whole {n : Nat} {z cs : Array Value} (hz : z.size = n) (hc : cs.size = n) {K : Value → Prop} : bld [(0, n)] z #[(0, .agg cs)] K = K (.agg cs) := by
  unfold bld
  show (match Instr.fill _ z [(0, Value.agg cs)] with | some cs => K (.agg cs) | none => False) = _
  have hc' : (Value.cells (.agg cs)).size = n := hc
  rw [fill_step (off := 0) (size := n) rfl hc' (by omega)]
  have : splice z 0 (Value.cells (.agg cs)) = cs := splice_all (by rw [hz]; exact hc.symm)
  rw [this]
  rfl
theorem step_spec {w : World} {v : Value} {l : LV} {S0 : List Nat} (hm : May l) (hv : LedS w v l S0) (o : OpV) (hq : rngI o.q) {K : Value → World → Prop}
    (hK : ∀ v' w' S', Kp [] w w' → LedS w' v' (stepL l o).1 S' → (∀ q ∈ S', q ∈ S0 ∨ w.heap.size ≤ q) → K (.tuple #[v', .int .i64 (stepL l o).2]) w') : callG Tryz.prog 92 #[v, .agg (opC o).toArray] w K := by
  refine ledger_step_call ?_
  have hlt0 := hv.lt
  have hfew := hm.few
  simp only [fullL, decide_eq_false_iff_not, not_or] at hfew
  unfold ledger_step ledger_step_s1
  refine argVar hv fun x2 w1 c1 => ?_
  refine argBox (cs := opC o) fun y w2 hy hh2 hk2 => ?_
  rw [newG_k, zcLed]
  obtain ⟨z, hz⟩ : ∃ z, z = w2.heap.size := ⟨_, rfl⟩
  obtain ⟨w3, hw3⟩ := ex_w (w' := w2.alloc (.cells [.slice none 0 0, .slice none 0 0, .slice none 0 0, .int .i64 0].toArray 26))
  have hk3 : Kp [] w2 w3 := by rw [hw3]; exact kp_alloc
  have hz3 : w3.heap[z]? = some (.cells [.slice none 0 0, .slice none 0 0, .slice none 0 0, .int .i64 0].toArray 26) := by rw [hw3, hz]; exact heap_new
  rw [← hw3, ← hz]
  have c3 := (c1.keep hk2).keep hk3
  have hs1 := c1.kp.size
  have hs2 := hk2.size
  have hzl := lt_of_blk hz3
  have hzS : z ∉ S0 := fun hm => by have := hlt0 z hm; omega
  have hy3 := hk3.get hh2 (by simp)
  have hx2l : x2 < w1.heap.size := by
    obtain ⟨_, _, _, h1, _⟩ := c1.ex
    exact lt_of_blk h1
  have hx20 := c1.x0
  have give : ∀ (e : Int) w', LVar w w' x2 l S0 S0 → w'.heap[z]? = some (.cells [.slice none 0 0, .slice none 0 0, .slice none 0 0, .int .i64 0].toArray 26) → stepL l o = (l, e) →
      ldn 4 (.pointer (some ⟨x2, 0, none⟩)) w' fun t67 => stn 4 (.pointer (some ⟨z, 0, none⟩)) t67 w' fun w => qG Tryz.prog (do loadVar 26 (← asAddr (.pointer (some ⟨z, 0, none⟩)))) w fun r4 => K (.tuple #[r4, .int .i64 e]) w := by
    intro e w' cx hzx he
    rw [he] at hK
    exact led_give (K := fun v w => K (.tuple #[v, .int .i64 e]) w) cx hzx (by omega) hzS fun v' w' hk hv' => hK v' w' S0 hk hv' fun q hq => .inl hq
  rw [ldAll (k := 7) hy3 rfl]
  refine CheckOp_spec o fun w4 hk4 => ?_
  have c4 := c3.keep hk4
  have hz4 := hk4.get hz3 (by simp)
  have hy4 := hk4.get hy3 (by simp)
  cases hok : o.ok with
  | false =>
    simp only [Bool.false_eq_true, if_false, bq_neq, bV_b, decide_eq_true_eq, decide_eq_false_iff_not]
    refine ⟨fun _ => ?_, fun h => absurd (by decide) h⟩
    exact give 1 w4 c4 hz4 (by unfold stepL; rw [if_pos hok])
  | true =>
    have hdo := ok_doH hm hq hok
    simp only [if_true, bq_neq, bV_b, decide_eq_true_eq, decide_eq_false_iff_not]
    refine ⟨fun h => absurd rfl h, fun _ => ?_⟩
    obtain ⟨a, b, c, hx4, hl4⟩ := c4.ex
    obtain ⟨a', b', c', SA0, SB0, SC0, e4, ra0, rb0, rc0, _⟩ := hl4.ex
    simp only [Value.agg.injEq, Array.mk.injEq, List.cons.injEq] at e4
    obtain ⟨rfl, rfl, rfl, _⟩ := e4
    rw [ldAll (k := 4) hx4 rfl, bld_whole (n := 4) (by kernel_rfl) rfl]
    rw [newG_k]
    obtain ⟨x, hx⟩ : ∃ x, x = w4.heap.size := ⟨_, rfl⟩
    obtain ⟨w5, hw5⟩ : ∃ w5, w5 = w4.alloc (.cells #[a, b, c, .int .i64 l.ops] 169) := ⟨_, rfl⟩
    have hk5 : Kp [] w4 w5 := by rw [hw5]; exact kp_alloc
    have hx5 : w5.heap[x]? = some (.cells #[a, b, c, .int .i64 l.ops] 169) := by rw [hw5, hx]; exact heap_new
    have hw5' : w4.alloc (.cells (Value.cells (.agg #[a, b, c, .int .i64 l.ops])) 169) = w5 := hw5.symm
    rw [hw5', ← hx]
    obtain ⟨W, hW⟩ : ∃ W, W = w5.drew := ⟨_, rfl⟩
    have kW : Kp [] w4 W := by rw [hW]; exact hk5.drew
    have hxW : W.heap[x]? = some (.cells #[a, b, c, .int .i64 l.ops] 169) := by rw [hW]; exact hx5
    rw [← hW]
    have r2 : ∀ w6, Kp [] W w6 → ∀ j v, (#[a, b, c, .int .i64 l.ops] : Array Value)[j]? = some v → ∀ K : Value → Prop, ld1 (.pointer (some ⟨x2, j, none⟩)) w6 K = K v := fun w6 k6 j v hj K => ldF ((kW.trans' k6).get hx4 (by simp)) hj
    simp only [fa_p, nk_p, Nat.add_zero, Nat.zero_add]
    rw [r2 W (Kp.refl _ _) 0 a rfl, r2 W (Kp.refl _ _) 1 b rfl, r2 W (Kp.refl _ _) 2 c rfl]
    have kw0 : Kp [] w W := c4.kp.trans' kW
    refine cloneStock_spec (l := l.st) (Rd.keep ⟨_, ra0⟩ kW) (by omega) fun va w6 fa => ?_
    rw [r2 w6 fa.kp 2 c rfl, r2 w6 fa.kp 1 b rfl]
    refine ⟨rfl, rfl, cloneHold_spec (l := l.ho) (Rd.keep ⟨_, rb0⟩ (kW.trans' fa.kp)) (by omega) fun vb w7 fb => ?_⟩
    have k67 := fa.kp.trans' fb.kp
    rw [r2 w7 k67 2 c rfl]
    refine ⟨rfl, cloneMove_spec (l := l.mo) (Rd.keep ⟨_, rc0⟩ (kW.trans' k67)) (by omega) fun vc w8 fc => ?_⟩
    have kW8 := k67.trans' fc.kp
    obtain ⟨SA, ra, na⟩ := fa.ex
    obtain ⟨SB, rb, nb⟩ := fb.ex
    obtain ⟨SC, rc, nc⟩ := fc.ex
    have ra8 := ra.keep (fb.kp.trans' fc.kp) (by simp)
    have rb8 := rb.keep fc.kp (by simp)
    have hxW8 := kW8.get hxW (by simp)
    have hWx := lt_of_blk hxW
    have s6 := fa.kp.size
    have s7 := fb.kp.size
    have la := ra.lt
    have lb := rb.lt
    have lx := live_of hxW8
    have o1 : one va = true := fa.one
    have o2 : one vb = true := fb.one
    have o3 : one vc = true := fc.one
    rw [stF hxW8 (by simp) o1]
    rw [stF (heap_self lx) (by simp) o2, setBlk2]
    rw [stF (heap_self lx) (by simp) o3, setBlk2]
    obtain ⟨w9, hw9⟩ : ∃ w9, w9 = setBlk w8 x (.cells #[va, vb, vc, .int .i64 l.ops] 169) := ⟨_, rfl⟩
    have hw9' : setBlk w8 x (.cells (((#[a, b, c, .int .i64 l.ops].setIfInBounds 0 va).setIfInBounds 1 vb).setIfInBounds 2 vc) 169) = w9 := by rw [hw9]; rfl
    have k89 : Kp [x] w8 w9 := by rw [hw9]; exact (Kp.refl _ _).setBlk (.inl (by simp)) _
    have hx9 : w9.heap[x]? = some (.cells #[va, vb, vc, .int .i64 l.ops] 169) := by rw [hw9]; exact heap_self lx
    rw [hw9']
    have xA : ∀ q ∈ SA, q ≠ x := fun q hq => by have := na q hq; omega
    have xB : ∀ q ∈ SB, q ≠ x := fun q hq => by have := nb q hq; omega
    have xC : ∀ q ∈ SC, q ≠ x := fun q hq => by have := nc q hq; omega
    have sk := c4.kp.size
    have hx0 : w.heap.size ≤ x := by omega
    have kw9 : Kp [] w w9 := (kw0.trans' kW8).trans k89 fun q hq hlt => by simp at hq; omega
    have swW := kw0.size
    have s5 := hk5.size
    have hW9 : WorkAt w w9 x l (x :: blksC [⟨va, 4, l.st.map sC, SA⟩, ⟨vb, 6, l.ho.map hC, SB⟩, ⟨vc, 6, l.mo.map hC, SC⟩]) := by
      refine ⟨⟨va, vb, vc, SA, SB, SC, ⟨hx9, fun i hi => ?_, ?_⟩, rfl⟩, fun q hq => ?_, kw9⟩
      · rcases (by simp at hi; omega : i = 0 ∨ i = 1 ∨ i = 2) with rfl | rfl | rfl
        · exact ra8.keep k89 fun q hq => by simpa using xA q hq
        · exact rb8.keep k89 fun q hq => by simpa using xB q hq
        · exact rc.keep k89 fun q hq => by simpa using xC q hq
      · simp only [blksC, List.map_cons, List.map_nil, List.flatten_cons, List.flatten_nil, List.append_nil]
        refine List.nodup_cons.2 ⟨fun hm => ?_, List.nodup_append.2 ⟨ra.nodup, List.nodup_append.2 ⟨rb.nodup, rc.nodup, fun q hq r hr he => ?_⟩, fun q hq r hr he => ?_⟩⟩
        · simp only [List.mem_append] at hm
          rcases hm with h | h | h
          · exact xA x h rfl
          · exact xB x h rfl
          · exact xC x h rfl
        · subst he
          have := lb q hq
          have := nc q hr
          omega
        · subst he
          have := la q hq
          simp only [List.mem_append] at hr
          rcases hr with h | h
          · have := nb q h; omega
          · have := nc q h; omega
      · simp only [blksC, List.map_cons, List.map_nil, List.flatten_cons, List.flatten_nil, List.append_nil, List.mem_cons, List.mem_append] at hq
        rcases hq with rfl | h | h | h
        · omega
        · have := na q h; omega
        · have := nb q h; omega
        · have := nc q h; omega
    obtain ⟨SW, hSW⟩ : ∃ SW, SW = x :: blksC [⟨va, 4, l.st.map sC, SA⟩, ⟨vb, 6, l.ho.map hC, SB⟩, ⟨vc, 6, l.mo.map hC, SC⟩] := ⟨_, rfl⟩
    rw [← hSW] at hW9
    have hnW : ∀ q ∈ SW, w4.heap.size ≤ q := fun q hq => by
      rw [hSW] at hq
      simp only [blksC, List.map_cons, List.map_nil, List.flatten_cons, List.flatten_nil, List.append_nil, List.mem_cons, List.mem_append] at hq
      rcases hq with rfl | h | h | h
      · omega
      · have := na q h; omega
      · have := nb q h; omega
      · have := nc q h; omega
    have k49 : Kp [] w4 w9 := (kW.trans' kW8).trans k89 fun q hq hlt => by simp at hq; omega
    rw [ldAll (k := 7) (k49.get hy4 (by simp)) rfl]
    refine does_spec hdo hW9 fun w10 S10 h10 k10 hS10 => ?_
    have s4l := k49.size
    have k410 : Kp [] w4 w10 := k49.trans k10 fun q hq hlt => by have := hnW q hq; omega
    have c10 := c4.keep k410
    have hz10 := k410.get hz4 (by simp)
    simp only [bq_neq, bV_b, decide_eq_true_eq, decide_eq_false_iff_not]
    refine ⟨fun e => give _ w10 c10 hz10 (by unfold stepL; rw [if_neg (by simp [hok]), if_pos e]), fun e => ?_⟩
    obtain ⟨l', hl'⟩ : ∃ l', l' = (doesL l o).1 := ⟨_, rfl⟩
    rw [← hl'] at h10
    have h10d := h10.keep kp_drew
    obtain ⟨va', vb', vc', SA', SB', SC', hbx, hSx⟩ := h10d.ex
    have hlx : ∀ i (hi : i < 3) v' (hv' : ([(⟨va', 4, l'.st.map sC, SA'⟩ : Cmp), ⟨vb', 6, l'.ho.map hC, SB'⟩, ⟨vc', 6, l'.mo.map hC, SC'⟩].map (fun x : Cmp => x.v) ++ [Value.int .i64 l'.ops])[i]? = some v') (K : Value → Prop), ld1 (.pointer (some ⟨x, i, none⟩)) w10.drew K = K v' := fun i hi v' hv' K => ldF hbx.cell (by simpa using hv')
    obtain ⟨aa, ac, ha', _⟩ := (hbx.rows 0 (by simp)).len
    obtain ⟨ba, bc, hb', _⟩ := (hbx.rows 1 (by simp)).len
    obtain ⟨ca, cc, hc', _⟩ := (hbx.rows 2 (by simp)).len
    simp only [List.getElem_cons_zero, List.getElem_cons_succ, List.length_map] at ha' hb' hc'
    have la' : ∀ K : Value → Prop, lenL va' K = K (.int .i64 l'.st.length) := fun K => by rw [ha']; rfl
    have lb' : ∀ K : Value → Prop, lenL vb' K = K (.int .i64 l'.ho.length) := fun K => by rw [hb']; rfl
    have lc' : ∀ K : Value → Prop, lenL vc' K = K (.int .i64 l'.mo.length) := fun K => by rw [hc']; rfl
    rw [hlx 0 (by omega) va' rfl, la', hlx 1 (by omega) vb' rfl, lb', hlx 2 (by omega) vc' rfl, lc']
    rw [qG_of run_max3]
    have c10d := c10.keep kp_drew
    have hz10d := kp_drew.get hz10 (by simp)
    have e0 : (doesL l o).2 = 0 := Decidable.not_not.1 e
    simp only [bq_gtr, bV_b, decide_eq_true_eq, decide_eq_false_iff_not]
    refine ⟨fun e2 => ?_, fun e2 => ?_⟩
    · exact give 2 w10.drew c10d hz10d (by
        unfold stepL
        rw [if_neg (by simp [hok]), if_neg e, if_pos (.inl (by unfold fullL; rw [← hl']; exact decide_eq_true (by omega)))])
    · obtain ⟨xa, xb, xc, hxx, _⟩ := c10d.ex
      rw [ldF hxx (j := 3) (x := .int .i64 l.ops) rfl]
      simp only [bq_geq, bV_b, decide_eq_true_eq, decide_eq_false_iff_not]
      refine ⟨fun e3 => give 2 w10.drew c10d hz10d (by unfold stepL; rw [if_neg (by simp [hok]), if_neg e, if_pos (.inr (by omega))]), fun e3 => ?_⟩
      have hstep : stepL l o = ({ l' with ops := l.ops + 1 }, 0) := by
        unfold stepL
        rw [if_neg (by simp [hok]), if_neg e, if_neg, hl']
        rw [not_or]
        refine ⟨?_, by omega⟩
        unfold fullL
        rw [← hl', decide_eq_true_eq]
        omega
      have hops : l'.ops = l.ops := by
        rw [hl']
        exact (doesL_ops l o)
      unfold ledger_step_s0
      simp only [fa_p, nk_p, Nat.add_zero, Nat.zero_add]
      have hcell := hbx.cell
      have hops0 := hm.ops
      have hiw : IntKind.i64.wrap (l'.ops + 1) = l.ops + 1 := by rw [hops, w64 (by omega) (by omega)]
      rw [ldF hcell (j := 3) (x := .int .i64 l'.ops) rfl]
      simp only [bq_add, hiw]
      rw [stF hcell (by simp) rfl]
      obtain ⟨wA, hwA⟩ : ∃ wA, wA = setBlk w10.drew x (.cells #[va', vb', vc', .int .i64 (l.ops + 1)] 169) := ⟨_, rfl⟩
      have hwA' : setBlk w10.drew x (.cells ((([(⟨va', 4, l'.st.map sC, SA'⟩ : Cmp), ⟨vb', 6, l'.ho.map hC, SB'⟩, ⟨vc', 6, l'.mo.map hC, SC'⟩].map (fun x : Cmp => x.v) ++ [Value.int .i64 l'.ops]).toArray).setIfInBounds 3 (.int .i64 (l.ops + 1))) 169) = wA := by rw [hwA]; rfl
      rw [hwA']
      have kA : Kp [x] w10.drew wA := by rw [hwA]; exact (Kp.refl _ _).setBlk (.inl (by simp)) _
      have hxA : wA.heap[x]? = some (.cells #[va', vb', vc', .int .i64 (l.ops + 1)] 169) := by rw [hwA]; exact heap_self (live_of hcell)
      have hn10 : ∀ q ∈ S10, w4.heap.size ≤ q := fun q hq => by
        rcases hS10 q hq with h | h
        · exact hnW q h
        · have := k49.size; omega
      have hzx : z ≠ x := by have := hk4.size; omega
      have hzA : wA.heap[z]? = some (.cells [.slice none 0 0, .slice none 0 0, .slice none 0 0, .int .i64 0].toArray 26) := kA.get hz10d (by simpa using hzx)
      have hx0' : ∀ i (hi : i < 3), x ∉ [SA', SB', SC'][i] := by
        intro i hi
        rcases (by omega : i = 0 ∨ i = 1 ∨ i = 2) with rfl | rfl | rfl
        · exact hbx.x_not (i := 0) (by simp)
        · exact hbx.x_not (i := 1) (by simp)
        · exact hbx.x_not (i := 2) (by simp)
      have rA := (hbx.rows 0 (by simp)).keep kA fun q hq => by simp; intro e; exact hx0' 0 (by omega) (e ▸ hq)
      have rB := (hbx.rows 1 (by simp)).keep kA fun q hq => by simp; intro e; exact hx0' 1 (by omega) (e ▸ hq)
      have rC := (hbx.rows 2 (by simp)).keep kA fun q hq => by simp; intro e; exact hx0' 2 (by omega) (e ▸ hq)
      simp only [List.getElem_cons_zero, List.getElem_cons_succ] at rA rB rC
      have hin : ∀ q ∈ SA' ++ (SB' ++ SC'), q ∈ S10 := fun q hq => by
        rw [hSx]
        simp only [blksC, List.map_cons, List.map_nil, List.flatten_cons, List.flatten_nil, List.append_nil, List.mem_cons]
        exact .inr hq
      have hltA := kA.size
      have hlt10 := h10d.lt
      have hvA : LedS wA (.agg #[va', vb', vc', .int .i64 (l.ops + 1)]) { l' with ops := l.ops + 1 } (SA' ++ (SB' ++ SC')) :=
        ⟨⟨va', vb', vc', SA', SB', SC', rfl, .inr rA.rd, .inr rB.rd, .inr rC.rd, rfl⟩, fun q hq => by have := hlt10 q (hin q hq); omega⟩
      rw [hstep] at hK
      have kfin : Kp [] w wA := by
        refine ((c10d.kp).mono (by simp)).trans kA fun q hq hlt => ?_
        simp at hq; omega
      rw [ldAll (k := 4) hxA rfl]
      refine led_put (K := fun v w => K (.tuple #[v, .int .i64 0]) w) hzA hvA (fun hm => by have := hn10 z (hin z hm); have := hk4.size; omega) fun w' hk' hv' => hK _ w' _ (kfin.trans hk' fun q hq hlt => by simp at hq; omega) hv' fun q hq => .inr (by have := hn10 q (hin q hq); omega)
end Go.Proofs

set_option linter.unusedVariables false
set_option linter.unusedSimpArgs false
namespace Go.Proofs
open Go Go.Q
structure LBox (w : World) (x : Nat) (a b c : Value) (l : LV) : Prop where
  h : w.heap[x]? = some (.cells #[a, b, c, .int .i64 l.ops] 26)
  a : Rd w a 4 (l.st.map sC)
  b : Rd w b 6 (l.ho.map hC)
  c : Rd w c 6 (l.mo.map hC)
section
variable {w0 w : World} {x : Nat} {a b c : Value} {l : LV}
theorem LBox.keep {w' : World} (h : LBox w x a b c l) (hk : Kp [] w w') : LBox w' x a b c l := ⟨hk.get h.h (by simp), h.a.keep hk, h.b.keep hk, h.c.keep hk⟩
theorem LBox.at (h : LBox w x a b c l) : LedAt w (.agg #[a, b, c, .int .i64 l.ops]) l := ⟨a, b, c, rfl, h.a, h.b, h.c⟩
theorem LBox.l0 (h : LBox w x a b c l) {K : Value → Prop} : ld1 (.pointer (some ⟨x, 0, none⟩)) w K = K a := ldF h.h rfl
theorem LBox.l1 (h : LBox w x a b c l) {K : Value → Prop} : ld1 (.pointer (some ⟨x, 1, none⟩)) w K = K b := ldF h.h rfl
theorem LBox.l2 (h : LBox w x a b c l) {K : Value → Prop} : ld1 (.pointer (some ⟨x, 2, none⟩)) w K = K c := ldF h.h rfl
theorem LBox.l3 (h : LBox w x a b c l) {K : Value → Prop} : ld1 (.pointer (some ⟨x, 3, none⟩)) w K = K (.int .i64 l.ops) := ldF h.h rfl
theorem LBox.ld (h : LBox w x a b c l) {K : Value → Prop} : ldn 4 (.pointer (some ⟨x, 0, none⟩)) w K = K (.agg #[a, b, c, .int .i64 l.ops]) := ldAll h.h rfl
theorem boxLed {v : Value} (hv : LedAt w v l) {K : Value → World → Prop} (hK : ∀ x a b c w1, w.heap.size ≤ x → Kp [] w w1 → LBox w1 x a b c l → v = .agg #[a, b, c, .int .i64 l.ops] → K (.pointer (some ⟨x, 0, none⟩)) w1) : newG (Value.cells v) 26 w K := by
  obtain ⟨a, b, c, rfl, h1, h2, h3⟩ := hv
  exact argBox (cs := [a, b, c, .int .i64 l.ops]) fun x w1 hx1 hh1 hk1 => hK x a b c w1 hx1 hk1 ⟨hh1, h1.keep hk1, h2.keep hk1, h3.keep hk1⟩ rfl
theorem rd_parts {α : Type} {f : α → List Value} {w : World} {v : Value} {k : Nat} {L : List α} (h : Rd w v k (L.map f)) {i : Nat} (hi : i < L.length) : ∃ p, (∀ K : Value → Prop, ia k v (.int .i64 i) K = K p) ∧ (∀ K : Value → Prop, ldn k p w K = K (.agg (f L[i]).toArray)) ∧ ∀ j x, (f L[i])[j]? = some x → ∀ K : Value → Prop, fa j p (fun q => ld1 q w K) = K x := by
  obtain ⟨p, h1, h2, h3⟩ := h.get (i := i) (by simpa using hi)
  have e : (L.map f)[i]'(by simpa using hi) = f L[i] := by simp
  refine ⟨p, fun K => h1 .i64 K, fun K => by rw [h2 K, e], fun j x hx K => ?_⟩
  obtain ⟨hj, hx⟩ := List.getElem?_eq_some_iff.1 hx
  rw [h3 j (by rw [e]; exact hj)]
  have : ((L.map f)[i]'(by simpa using hi))[j]'(by rw [e]; exact hj) = x := by rw [← hx]; congr 1
  rw [this]
end
end Go.Proofs

set_option linter.unusedVariables false
set_option linter.unusedSimpArgs false
namespace Go.Proofs
open Go Go.Q
section
variable {w0 w : World} {x : Nat} {a b c : Value} {l : LV}
end
end Go.Proofs

set_option linter.unusedVariables false
set_option linter.unusedSimpArgs false
namespace Go.Proofs
open Go Go.Q
end Go.Proofs

set_option linter.unusedVariables false
set_option linter.unusedSimpArgs false
namespace Go.Proofs
open Go Go.Q
end Go.Proofs

set_option linter.unusedVariables false
set_option linter.unusedSimpArgs false
namespace Go.Proofs
open Go Go.Q
end Go.Proofs

set_option linter.unusedVariables false
set_option linter.unusedSimpArgs false
namespace Go.Proofs
open Go Go.Q
end Go.Proofs

set_option linter.unusedVariables false
set_option linter.unusedSimpArgs false
namespace Go.Proofs
open Go Go.Q
end Go.Proofs

set_option linter.unusedVariables false
set_option linter.unusedSimpArgs false
namespace Go.Proofs
open Go Go.Q
theorem varLed {w : World} {v : Value} {l : LV} {S : List Nat} (hv : LedS w v l S) {K : Value → World → Prop}
    (hK : ∀ p w1 a b c, w.heap.size ≤ p → p < w1.heap.size → w1.heap[p]? = some (.cells #[a, b, c, .int .i64 l.ops] 26) → v = .agg #[a, b, c, .int .i64 l.ops] → Kp [] w w1 → LedS w1 v l S → K (.pointer (some ⟨p, 0, none⟩)) w1) :
    newG (zc Tryz.prog 26) 26 w fun p w => stn 4 p v w fun w => K p w := by
  obtain ⟨a, b, c, SA, SB, SC, rfl, h1, h2, h3, _⟩ := hv.ex
  have hone := LedAt.ones (l := l) ⟨_, h1⟩ ⟨_, h2⟩ ⟨_, h3⟩
  refine boxG (c := #[a, b, c, .int .i64 l.ops]) (by kernel_rfl) rfl (by simpa using hone) fun p w1 hp hh hk => ?_
  exact hK p w1 a b c hp (lt_of_blk hh) hh rfl hk (hv.keep hk (by simp))
set_option maxRecDepth 100000 in
def LX (X : List Nat) (w : World) (v : Value) (l : LV) : Prop := ∃ S, LedS w v l S ∧ ∀ q ∈ S, q ∉ X
structure VX (X : List Nat) (w : World) (x : Nat) (l : LV) : Prop where
  m : x ∈ X
  ex : ∃ v a b c, w.heap[x]? = some (.cells #[a, b, c, .int .i64 l.ops] 26) ∧ v = .agg #[a, b, c, .int .i64 l.ops] ∧ LX X w v l
section
variable {X : List Nat} {w w' : World} {v : Value} {l l' : LV} {x y : Nat}
theorem LX.keepS {S : List Nat} (h : LX X w v l) (hk : Kp S w w') (hS : ∀ q ∈ S, q ∈ X) : LX X w' v l := by
  obtain ⟨T, h1, h2⟩ := h
  exact ⟨T, h1.keep hk (fun q hq hm => h2 q hq (hS q hm)), h2⟩
theorem LX.keep (h : LX X w v l) (hk : Kp [] w w') : LX X w' v l := h.keepS hk (by simp)
theorem LX.more {p : Nat} (h : LX X w v l) (hp : w.heap.size ≤ p) : LX (p :: X) w v l := by
  obtain ⟨T, h1, h2⟩ := h
  refine ⟨T, h1, fun q hq hm => ?_⟩
  rcases List.mem_cons.1 hm with rfl | hm
  · have := h1.lt q hq; omega
  · exact h2 q hq hm
theorem LX.at (h : LX X w v l) : LedAt w v l := by
  obtain ⟨T, h1, h2⟩ := h
  exact h1.at
theorem VX.keepS {S : List Nat} (h : VX X w x l) (hk : Kp S w w') (hS : ∀ q ∈ S, q ∈ X) (hx : x ∉ S) : VX X w' x l := by
  obtain ⟨v, a, b, c, h1, h2, h3⟩ := h.ex
  exact ⟨h.m, v, a, b, c, hk.get h1 hx, h2, h3.keepS hk hS⟩
theorem VX.keep (h : VX X w x l) (hk : Kp [] w w') : VX X w' x l := h.keepS hk (by simp) (by simp)
theorem VX.more {p : Nat} (h : VX X w x l) (hp : w.heap.size ≤ p) : VX (p :: X) w x l := by
  obtain ⟨v, a, b, c, h1, h2, h3⟩ := h.ex
  exact ⟨List.mem_cons_of_mem _ h.m, v, a, b, c, h1, h2, h3.more hp⟩
theorem VX.ld (h : VX X w x l) : ∃ v, (∀ K : Value → Prop, ldn 4 (.pointer (some ⟨x, 0, none⟩)) w K = K v) ∧ LX X w v l := by
  obtain ⟨v, a, b, c, h1, h2, h3⟩ := h.ex
  exact ⟨v, fun K => by rw [h2]; exact ldAll h1 rfl, h3⟩
theorem VX.box (h : VX X w x l) : ∃ a b c, LBox w x a b c l := by
  obtain ⟨v, a, b, c, h1, h2, h3⟩ := h.ex
  obtain ⟨a', b', c', e, r1, r2, r3⟩ := h3.at
  rw [h2] at e
  simp only [Value.agg.injEq, Array.mk.injEq, List.cons.injEq] at e
  obtain ⟨rfl, rfl, rfl, _⟩ := e
  exact ⟨_, _, _, h1, r1, r2, r3⟩
theorem VX.lt (h : VX X w x l) : x < w.heap.size := by
  obtain ⟨v, a, b, c, h1, h2, h3⟩ := h.ex
  exact lt_of_blk h1
theorem VX.st (h : VX X w x l) (hv : LX X w v l') {K : World → Prop} (hK : ∀ w2, Kp [x] w w2 → VX X w2 x l' → K w2) : stn 4 (.pointer (some ⟨x, 0, none⟩)) v w K := by
  obtain ⟨_, a, b, c, h1, h2, h3⟩ := h.ex
  obtain ⟨T, hv1, hv2⟩ := hv
  obtain ⟨a', b', c', SA, SB, SC, rfl, r1, r2, r3, _⟩ := hv1.ex
  have hone := LedAt.ones (l := l') ⟨_, r1⟩ ⟨_, r2⟩ ⟨_, r3⟩
  rw [stAll (k := 4) h1 rfl rfl hone]
  have hkx : Kp [x] w (setBlk w x (.cells #[a', b', c', .int .i64 l'.ops] 26)) := (Kp.refl _ w).setBlk (.inl (by simp)) _
  have hm := h.m
  exact hK _ hkx ⟨hm, _, a', b', c', heap_self (live_of h1), rfl, T, hv1.keep hkx (fun q hq => by simp; intro e; exact hv2 q hq (e ▸ hm)), hv2⟩
theorem lz_led (w : World) : LedS w (.agg #[.slice none 0 0, .slice none 0 0, .slice none 0 0, .int .i64 0]) lZ [] :=
  ⟨⟨_, _, _, [], [], [], rfl, .inr (.inl ⟨rfl, rfl⟩), .inr (.inl ⟨rfl, rfl⟩), .inr (.inl ⟨rfl, rfl⟩), rfl⟩, by simp⟩
theorem lz_x (w : World) : LX X w (.agg #[.slice none 0 0, .slice none 0 0, .slice none 0 0, .int .i64 0]) lZ := ⟨[], lz_led w, by simp⟩
theorem newVX (hv : LX X w v l) {K : Value → World → Prop} (hK : ∀ p w1, w.heap.size ≤ p → Kp [] w w1 → VX (p :: X) w1 p l → K (.pointer (some ⟨p, 0, none⟩)) w1) :
    newG (zc Tryz.prog 26) 26 w fun p w => stn 4 p v w fun w => K p w := by
  obtain ⟨T, hv1, hv2⟩ := hv
  refine varLed hv1 fun p w1 a b c hp hpl hh hve hk hv' => hK p w1 hp hk ⟨by simp, v, a, b, c, hh, hve, T, hv', fun q hq hm => ?_⟩
  rcases List.mem_cons.1 hm with rfl | hm
  · have := hv1.lt q hq; omega
  · exact hv2 q hq hm
theorem zeroVX {K : Value → World → Prop} (hK : ∀ p w1, w.heap.size ≤ p → Kp [] w w1 → VX (p :: X) w1 p lZ → K (.pointer (some ⟨p, 0, none⟩)) w1) : newG (zc Tryz.prog 26) 26 w K := by
  rw [newG_k, zcLed]
  exact hK _ _ (Nat.le_refl _) kp_alloc ⟨by simp, _, _, _, _, heap_new, rfl, [], lz_led _, by simp⟩
theorem argVX (hv : LX X w v l) {K : Value → World → Prop} (hK : ∀ p w1, w.heap.size ≤ p → Kp [] w w1 → VX (p :: X) w1 p l → K (.pointer (some ⟨p, 0, none⟩)) w1) : newG (Value.cells v) 26 w K := by
  obtain ⟨T, hv1, hv2⟩ := hv
  obtain ⟨a, b, c, SA, SB, SC, e, h1, h2, h3, _⟩ := hv1.ex
  subst e
  refine argBox (cs := [a, b, c, .int .i64 l.ops]) fun p w1 hp hh hk => ?_
  refine hK p w1 hp hk ⟨by simp, _, a, b, c, hh, rfl, T, hv1.keep hk (by simp), fun q hq hm => ?_⟩
  rcases List.mem_cons.1 hm with rfl | hm
  · have := hv1.lt q hq; omega
  · exact hv2 q hq hm
end
end Go.Proofs

set_option maxRecDepth 100000
set_option linter.unusedVariables false
set_option linter.unusedSimpArgs false
namespace Go.Proofs
open Go Go.Q
def applyL (l : LV) (o : OpV) : LV × Int := if (stepL l o).2 = 0 then ((stepL l o).1, 0) else (lZ, (stepL l o).2)
def replayL : LV → List OpV → Nat → LV × Nat × Int
  | l, [], k => (l, k, 0)
  | l, o :: r, k => if (stepL l o).2 = 0 then replayL (stepL l o).1 r (k + 1) else (l, k, (stepL l o).2)
section
variable {X : List Nat} {w w' : World} {v : Value} {l l' : LV} {x y : Nat}
theorem LX.less {Y : List Nat} (h : LX X w v l) (hY : ∀ q ∈ Y, q ∈ X) : LX Y w v l := by
  obtain ⟨T, h1, h2⟩ := h
  exact ⟨T, h1, fun q hq hm => h2 q hq (hY q hm)⟩
theorem retVX {z : Nat} {l0 : LV} (h : VX X w z l0) (hv : LX X w v l') {K : Value → World → Prop} (hK : ∀ w', Kp [z] w w' → LX X w' v l' → K v w') :
    stn 4 (.pointer (some ⟨z, 0, none⟩)) v w fun w => qG Tryz.prog (do loadVar 26 (← asAddr (.pointer (some ⟨z, 0, none⟩)))) w fun r4 => K r4 w := by
  obtain ⟨_, a, b, c, h1, h2, h3⟩ := h.ex
  have hm := h.m
  have hv' := hv
  obtain ⟨T, hv1, hv2⟩ := hv
  obtain ⟨a', b', c', SA, SB, SC, e, r1, r2, r3, _⟩ := hv1.ex
  subst e
  have hone := LedAt.ones (l := l') ⟨_, r1⟩ ⟨_, r2⟩ ⟨_, r3⟩
  rw [stAll (k := 4) h1 rfl rfl hone, lvLedw (heap_self (live_of h1)) rfl]
  have hkx : Kp [z] w (setBlk w z (.cells #[a', b', c', .int .i64 l'.ops] 26)) := (Kp.refl _ w).setBlk (.inl (by simp)) _
  exact hK _ hkx (hv'.keepS hkx fun q hq => by simp at hq; exact hq ▸ hm)
theorem step_X (hm : May l) (hv : LX X w v l) (hX : ∀ q ∈ X, q < w.heap.size) (o : OpV) (hq : rngI o.q) {K : Value → World → Prop}
    (hK : ∀ v' w', Kp [] w w' → LX X w' v' (stepL l o).1 → K (.tuple #[v', .int .i64 (stepL l o).2]) w') : callG Tryz.prog 92 #[v, .agg (opC o).toArray] w K := by
  obtain ⟨T, h1, h2⟩ := hv
  refine step_spec hm h1 o hq fun v' w' S' hk hv' hS => hK v' w' hk ⟨S', hv', fun q hq hm => ?_⟩
  rcases hS q hq with h | h
  · exact h2 q h hm
  · have := hX q hm; omega
theorem zLed_bld {K : Value → Prop} : bld [(0, 1), (1, 1), (2, 1), (3, 1)] (zc Tryz.prog 26) #[] K = K (.agg #[.slice none 0 0, .slice none 0 0, .slice none 0 0, .int .i64 0]) := by rw [zcLed, bld_done]
theorem Apply_X (hm : May l) (hv : LX X w v l) (hX : ∀ q ∈ X, q < w.heap.size) (o : OpV) (hq : rngI o.q) {K : Value → World → Prop}
    (hK : ∀ v' w', Kp [] w w' → LX X w' v' (applyL l o).1 → K (.tuple #[v', .int .i64 (applyL l o).2]) w') : callG Tryz.prog 41 #[v, .agg (opC o).toArray] w K := by
  refine ledger_Apply_call ?_
  unfold ledger_Apply ledger_Apply_s0
  refine argVX hv fun p2 w1 hp2 k1 c1 => ?_
  refine argBox (cs := opC o) fun y w2 hy hh2 k2 => ?_
  have c2 := c1.keep k2
  refine zeroVX (X := p2 :: X) fun p4 w3 hp4 k3 c4 => ?_
  have c3 := (c2.more hp4).keep k3
  have s1 := k1.size
  have s2 := k2.size
  have s3 := k3.size
  have hy3 := k3.get hh2 (by simp)
  have k03 := (k1.trans' k2).trans' k3
  have hX3 : ∀ q ∈ p4 :: p2 :: X, q < w3.heap.size := fun q hq => by
    rcases List.mem_cons.1 hq with rfl | hq
    · exact c4.lt
    · rcases List.mem_cons.1 hq with rfl | hq
      · exact c3.lt
      · have := hX q hq; omega
  have hsub : ∀ q ∈ X, q ∈ p4 :: p2 :: X := fun q hq => by simp [hq]
  obtain ⟨v3, hld3, hv3⟩ := c3.ld
  rw [hld3]
  refine Check_spec7 hm hv3.at fun w4 k4 => ?_
  simp only [bq_neq, bV_b, decide_eq_true_eq, decide_eq_false_iff_not]
  refine ⟨fun h => absurd rfl h, fun _ => ?_⟩
  have d3 := c3.keep k4
  have d4 := c4.keep k4
  have hy4 := k4.get hy3 (by simp)
  have s4 := k4.size
  obtain ⟨v4, hld4, hv4⟩ := d3.ld
  rw [hld4, ldAll (k := 7) hy4 rfl]
  refine step_X hm hv4 (fun q hq => by have := hX3 q hq; omega) o hq fun v5 w5 k5 hv5 => ?_
  have e4 := d4.keep k5
  have s5 := k5.size
  simp only [ex0, ex1]
  refine newVX hv5 fun p7 w6 hp7 k6 c7 => ?_
  have f4 := (e4.more hp7).keep k6
  have k06 := ((k03.trans' k4).trans' k5).trans' k6
  have hsub' : ∀ q ∈ X, q ∈ p7 :: p4 :: p2 :: X := fun q hq => by simp [hq]
  have hpw : w.heap.size ≤ p4 := by omega
  have fin : ∀ w', Kp [p4] w6 w' → Kp [] w w' := fun w' k => k06.trans k fun q hq hlt => by simp at hq; omega
  simp only [bq_neq, bV_b, decide_eq_true_eq, decide_eq_false_iff_not]
  refine ⟨fun e => ?_, fun e => ?_⟩
  · have ea : applyL l o = (lZ, (stepL l o).2) := by unfold applyL; rw [if_neg e]
    rw [ea] at hK
    rw [zLed_bld]
    exact retVX (K := fun v w => K (.tuple #[v, .int .i64 (stepL l o).2]) w) f4 (lz_x _) fun w' kz hz => hK _ w' (fin w' kz) (hz.less hsub')
  · have e0 : (stepL l o).2 = 0 := Decidable.not_not.1 e
    have ea : applyL l o = ((stepL l o).1, 0) := by unfold applyL; rw [if_pos e0]
    rw [ea] at hK
    obtain ⟨v7, hld7, hv7⟩ := c7.ld
    rw [hld7]
    exact retVX (K := fun v w => K (.tuple #[v, .int .i64 0]) w) f4 hv7 fun w' kz hz => hK _ w' (fin w' kz) (hz.less hsub')
structure OpsAt (w : World) (v : Value) (ops : List OpV) : Prop where
  rd : Rd w v 7 (ops.map opC)
  wf : ∀ o ∈ ops, o.Wf
theorem OpsAt.keep {ops : List OpV} (h : OpsAt w v ops) (hk : Kp [] w w') : OpsAt w' v ops := ⟨h.rd.keep hk, h.wf⟩
theorem wf_rng {o : OpV} (h : o.Wf) : rngI o.q := ⟨h.q0, h.q1⟩
theorem replayL_drop {ops : List OpV} {i : Nat} (h : i < ops.length) (l : LV) (k : Nat) : replayL l (ops.drop i) k = if (stepL l ops[i]).2 = 0 then replayL (stepL l ops[i]).1 (ops.drop (i + 1)) (k + 1) else (l, k, (stepL l ops[i]).2) := by
  rw [List.drop_eq_getElem_cons h]; rfl
theorem Replay_X (hm : May l) (hv : LX X w v l) (hX : ∀ q ∈ X, q < w.heap.size) {vo : Value} {ops : List OpV} (ho : OpsAt w vo ops) (hl : ops.length < 2 ^ 40) {K : Value → World → Prop}
    (hK : ∀ v' w', Kp [] w w' → LX X w' v' (replayL l ops 0).1 → K (.tuple #[v', .int .i64 (replayL l ops 0).2.1, .int .i64 (replayL l ops 0).2.2]) w') : callG Tryz.prog 88 #[v, vo] w K := by
  refine ledger_Replay_call ?_
  unfold ledger_Replay ledger_Replay_s4
  refine argVX hv fun p2 w1 hp2 k1 c1 => ?_
  refine zeroVX (X := p2 :: X) fun p4 w3 hp4 k3 c4 => ?_
  have c3 := (c1.more hp4).keep k3
  have s1 := k1.size
  have s3 := k3.size
  have k03 := k1.trans' k3
  have hX3 : ∀ q ∈ p4 :: p2 :: X, q < w3.heap.size := fun q hq => by
    rcases List.mem_cons.1 hq with rfl | hq
    · exact c4.lt
    · rcases List.mem_cons.1 hq with rfl | hq
      · exact c3.lt
      · have := hX q hq; omega
  have hsub : ∀ q ∈ X, q ∈ p4 :: p2 :: X := fun q hq => by simp [hq]
  have hp24 : p2 ≠ p4 := by have := c1.lt; omega
  obtain ⟨v3, hld3, hv3⟩ := c3.ld
  rw [hld3]
  refine Check_spec7 hm hv3.at fun w4 k4 => ?_
  simp only [bq_neq, bV_b, decide_eq_true_eq, decide_eq_false_iff_not]
  refine ⟨fun h => absurd rfl h, fun _ => ?_⟩
  obtain ⟨E, hE⟩ : ∃ E, E = replayL l ops 0 := ⟨_, rfl⟩
  rw [← hE] at hK
  have o4 := (ho.keep k03).keep k4
  have k04 := k03.trans' k4
  have s4 := k4.size
  unfold ledger_Replay_s3 ledger_Replay_L2
  rw [o4.rd.lenL, List.length_map]
  refine loop_inv (fun m xs wi => ∃ (i : Nat) (li : LV) (Y : List Nat), i ≤ ops.length ∧ m = ops.length - i ∧ xs = [vo, .pointer (some ⟨p2, 0, none⟩), .pointer (some ⟨p4, 0, none⟩), vo, .int .i64 ops.length, .int .i64 (i : Nat)] ∧ E = replayL li (ops.drop i) i ∧ May li ∧ Kp [] w wi ∧ w4.heap.size ≤ wi.heap.size ∧
      (∀ q ∈ X, q ∈ Y) ∧ (∀ q ∈ Y, q < wi.heap.size) ∧ VX Y wi p2 li ∧ VX Y wi p4 lZ) ?_ (m := ops.length)
    ⟨0, l, p4 :: p2 :: X, by omega, rfl, rfl, hE, hm, k04, Nat.le_refl _, hsub, fun q hq => by have := hX3 q hq; omega, c3.keep k4, c4.keep k4⟩
  rintro m N xs wi ⟨i, li, Y, hi, rfl, rfl, he, hmi, ki, hsi, hXY, hY, ci, zi⟩ hN
  have hiw : IntKind.i64.wrap ((i : Int) + 1) = ((i + 1 : Nat) : Int) := by rw [w64 (by omega) (by omega)]; simp
  have oi := ho.keep ki
  unfold ledger_Replay_L2F ledger_Replay_b1
  simp only [bq_lss, bV_b, decide_eq_true_eq, decide_eq_false_iff_not]
  refine ⟨fun hlt => ?_, fun hge => ?_⟩
  · have hlt : i < ops.length := by omega
    rw [replayL_drop hlt] at he
    obtain ⟨p, i1, i2, _⟩ := rd_parts oi.rd hlt
    rw [i1, i2]
    refine boxG (c := (opC ops[i]).toArray) (by kernel_rfl) rfl (by simp [opC, one]) fun y w5 hy hh5 k5 => ?_
    have c5 := ci.keep k5
    have z5 := zi.keep k5
    have s5 := k5.size
    obtain ⟨v5, hld5, hv5⟩ := c5.ld
    rw [hld5, ldAll (k := 7) hh5 rfl]
    have hwf := ho.wf ops[i] (List.getElem_mem hlt)
    refine step_X hmi hv5 (fun q hq => by have := hY q hq; omega) ops[i] (wf_rng hwf) fun v6 w6 k6 hv6 => ?_
    have s6 := k6.size
    simp only [ex0, ex1]
    refine newVX hv6 fun p7 w7 hp7 k7 c7 => ?_
    have s7 := k7.size
    have c8 := ((c5.keep k6).more hp7).keep k7
    have z8 := ((z5.keep k6).more hp7).keep k7
    have k57 := (k5.trans' k6).trans' k7
    simp only [bq_neq, bV_b, decide_eq_true_eq, decide_eq_false_iff_not]
    refine ⟨fun e => ?_, fun e => ?_⟩
    · rw [if_neg e] at he
      rw [he] at hK
      obtain ⟨v8, hld8, hv8⟩ := c8.ld
      rw [hld8]
      refine retVX (K := fun v w => K (.tuple #[v, .int .i64 i, .int .i64 (stepL li ops[i]).2]) w) z8 hv8 fun w' kz hz => hK _ w' ((ki.trans' k57).trans kz fun q hq hlt => by simp at hq; omega) (hz.less fun q hq => by simp [hXY q hq])
    · have e0 : (stepL li ops[i]).2 = 0 := Decidable.not_not.1 e
      rw [if_pos e0] at he
      obtain ⟨v8, hld8, hv8⟩ := c7.ld
      rw [hld8]
      refine c8.st hv8 fun w9 k9 c9 => ?_
      simp only [bq_add, hiw]
      have hm9 := c9.m
      have s9 := k9.size
      refine hN (ops.length - (i + 1)) _ w9 (by omega) ⟨i + 1, _, p7 :: Y, by omega, rfl, rfl, he, stepL_may hmi hwf, (ki.trans' k57).trans k9 fun q hq hlt => by simp at hq; omega, by omega, fun q hq => by simp [hXY q hq], fun q hq => ?_, c9, z8.keepS k9 (fun q hq => by simp at hq; exact hq ▸ hm9) (by simpa using Ne.symm hp24)⟩
      rcases List.mem_cons.1 hq with rfl | hq
      · have := c7.lt; omega
      · have := hY q hq; omega
  · have hie : i = ops.length := by omega
    subst hie
    rw [List.drop_length] at he
    have he' : E = (li, ops.length, 0) := he
    rw [he'] at hK
    unfold ledger_Replay_s0
    obtain ⟨v8, hld8, hv8⟩ := ci.ld
    rw [hld8, oi.rd.lenL, List.length_map]
    exact retVX (K := fun v w => K (.tuple #[v, .int .i64 ops.length, .int .i64 0]) w) zi hv8 fun w' kz hz => hK _ w' (ki.trans kz fun q hq hlt => by simp at hq; omega) (hz.less hXY)
end
end Go.Proofs

set_option linter.unusedVariables false
set_option linter.unusedSimpArgs false
namespace Go.Q
def crcBit (c : Nat) : Nat := if c % 2 = 1 then (c / 2) ^^^ 3988292384 else c / 2
def crcBits : Nat → Nat → Nat
  | 0, c => c
  | n + 1, c => crcBit (crcBits n c)
def crcByte (c : Nat) (b : UInt8) : Nat := crcBits 8 (c ^^^ b.toNat)
def crcRun (c : Nat) (s : List UInt8) : Nat := s.foldl crcByte c
def crcMore (sum : Int) (s : List UInt8) : Nat := 4294967295 ^^^ crcRun (4294967295 ^^^ (sum % 4294967296).toNat) s
theorem crcBit_lt {c : Nat} (h : c < 2 ^ 32) : crcBit c < 2 ^ 32 := by
  unfold crcBit
  split
  · exact Nat.xor_lt_two_pow (by omega) (by omega)
  · omega
theorem crcBits_lt {c : Nat} (h : c < 2 ^ 32) : ∀ n, crcBits n c < 2 ^ 32 := by
  intro n
  induction n with
  | zero => exact h
  | succ n ih => exact crcBit_lt ih
theorem crcByte_lt {c : Nat} (h : c < 2 ^ 32) (b : UInt8) : crcByte c b < 2 ^ 32 := crcBits_lt (Nat.xor_lt_two_pow h (by have := b.toNat_lt; omega)) 8
theorem crcRun_lt {s : List UInt8} : ∀ {c : Nat}, c < 2 ^ 32 → crcRun c s < 2 ^ 32 := by
  induction s with
  | nil => intro c h; exact h
  | cons b s ih => intro c h; exact ih (crcByte_lt h b)
theorem crcRun_take {c : Nat} {s : List UInt8} {i : Nat} (hi : i < s.length) : crcRun c (s.take (i + 1)) = crcByte (crcRun c (s.take i)) s[i] := by
  rw [List.take_succ_eq_append_getElem hi]
  unfold crcRun
  rw [List.foldl_append]; rfl
theorem crc_step {c : Nat} (h : c < 2 ^ 32) : (c / 2) ^^^ (3988292384 &&& ((2 ^ 32 - c % 2) % 2 ^ 32)) = crcBit c := by
  unfold crcBit
  rcases Nat.mod_two_eq_zero_or_one c with h0 | h0
  · rw [h0, if_neg (by omega)]; simp
  · rw [h0, if_pos rfl]
    have : (2 ^ 32 - 1) % 2 ^ 32 = 4294967295 := by decide
    rw [this]
    rfl
theorem crcMore_lt (sum : Int) (s : List UInt8) : crcMore sum s < 2 ^ 32 := by
  unfold crcMore
  have h0 : (sum % 4294967296).toNat < 2 ^ 32 := by omega
  exact Nat.xor_lt_two_pow (by omega) (crcRun_lt (Nat.xor_lt_two_pow (by omega) h0))
end Go.Q

set_option linter.unusedVariables false
set_option linter.unusedSimpArgs false
namespace Go.Proofs
open Go Go.Q
theorem ixS_str {s : List UInt8} {kd : IntKind} {i : Nat} (hi : i < s.length) {K : Value → Prop} : ixS (.string (str s)) (.int kd i) K = K (.int .u8 s[i].toNat) := by
  have : (str s)[i]? = some s[i] := by
    have h : i < (str s).size := by simpa using hi
    rw [getElem?_pos (str s) i h]
    rfl
  unfold ixS
  simp only [Int.toNat_natCast, this]
  simp
theorem More_spec {w : World} (sum : Int) (s : List UInt8) (hs : s.length < 2 ^ 62) {K : Value → World → Prop} (hK : K (.int .i64 (crcMore sum s)) w) : callG Tryz.prog 106 #[.int .i64 sum, .string (str s)] w K := by
  refine crc_More_call ?_
  simp only [crc_More, crc_More_s8]
  obtain ⟨c0, hc0⟩ : ∃ c0, c0 = (sum % 4294967296).toNat := ⟨_, rfl⟩
  have hlt0 : c0 < 2 ^ 32 := by omega
  have hw : IntKind.u32.wrap sum = (c0 : Int) := by
    simp [IntKind.wrap, IntKind.bits, IntKind.signed]; omega
  simp only [cvI_i, hw]
  rw [not32_of hlt0]
  obtain ⟨c, hc⟩ : ∃ c, c = 4294967295 ^^^ c0 := ⟨_, rfl⟩
  have hlt : c < 2 ^ 32 := by rw [hc]; exact Nat.xor_lt_two_pow (by omega) hlt0
  have hcm : crcMore sum s = 4294967295 ^^^ crcRun c s := by unfold crcMore; rw [hc, hc0]
  have hc2 : (2 ^ 32 - 1) ^^^ c0 = c := by rw [hc]
  rw [hc2]
  rw [hcm] at hK
  unfold crc_More_s7 crc_More_L6
  simp only [lenS_s, str_size]
  refine loop_inv (fun m xs w' => ∃ i, i ≤ s.length ∧ m = s.length - i ∧ xs = [.string (str s), .int .u32 (crcRun c (s.take i)), .int .i64 s.length, .int .i64 (i : Nat)] ∧ w' = w)
    ?_ (m := s.length) ⟨0, by omega, rfl, rfl, rfl⟩
  rintro m N xs w' ⟨i, hi, rfl, rfl, rfl⟩ hN
  simp only [crc_More_L6F, crc_More_s5, bq_lss, bV_b]
  have hri := crcRun_lt (s := s.take i) hlt
  refine ⟨fun h => ?_, fun h => ?_⟩
  · have hi : i < s.length := by simpa using h
    have hN' := hN (s.length - (i + 1)) _ w' (by omega) ⟨i + 1, by omega, rfl, rfl, rfl⟩
    have hiw : IntKind.i64.wrap ((i : Int) + 1) = ((i + 1 : Nat) : Int) := by rw [w64 (by omega) (by omega)]; simp
    rw [crcRun_take hi] at hN'
    obtain ⟨r, hr⟩ : ∃ r, r = crcRun c (s.take i) := ⟨_, rfl⟩
    rw [← hr] at hri hN' ⊢
    unfold crc_More_s4
    rw [ixS_str hi]
    have hb := s[i].toNat_lt
    simp only [cvI_i, wrap_nat32 (show s[i].toNat < 2 ^ 32 by omega)]
    rw [xor32_of hri (by omega)]
    unfold crc_More_L3
    have hx : r ^^^ s[i].toNat < 2 ^ 32 := Nat.xor_lt_two_pow hri (by omega)
    obtain ⟨x, hxe⟩ : ∃ x, x = r ^^^ s[i].toNat := ⟨_, rfl⟩
    have hby : crcByte r s[i] = crcBits 8 x := by rw [hxe]; rfl
    rw [hby] at hN'
    rw [← hxe] at hx ⊢
    refine loop_inv (fun m xs w'' => ∃ j, j ≤ 8 ∧ m = 8 - j ∧ xs = [.string (str s), .int .u32 (crcBits j x), .int .i64 s.length, .int .i64 (i : Nat), .int .i64 (j : Nat)] ∧ w'' = w')
      ?_ (m := 8) ⟨0, by omega, rfl, rfl, rfl⟩
    rintro m N2 xs w'' ⟨j, hj, rfl, rfl, rfl⟩ hN2
    simp only [crc_More_L3F, crc_More_b2, bq_lss, bV_b]
    have hbl := crcBits_lt hx j
    refine ⟨fun h => ?_, fun h => ?_⟩
    · have hj : j < 8 := by simp at h; omega
      have hN2' := hN2 (8 - (j + 1)) _ w'' (by omega) ⟨j + 1, by omega, rfl, rfl, rfl⟩
      have hjw : IntKind.i64.wrap ((j : Int) + 1) = ((j + 1 : Nat) : Int) := by rw [w64 (by omega) (by omega)]; simp
      have hst := crc_step hbl
      have hcj : crcBits (j + 1) x = crcBit (crcBits j x) := rfl
      rw [hcj, ← hst] at hN2'
      obtain ⟨y, hy⟩ : ∃ y, y = crcBits j x := ⟨_, rfl⟩
      rw [← hy] at hbl hN2' ⊢
      rw [shr_of (by omega) (by decide)]
      have h1 : ((y : Int) / 2 ^ (1 : Int).toNat) = ((y / 2 : Nat) : Int) := by simp
      rw [h1]
      rw [show ((1 : Int)) = ((1 : Nat) : Int) from rfl, and32_of hbl (by omega), Nat.and_one_is_mod, neg32_of (by omega)]
      rw [show ((3988292384 : Int)) = ((3988292384 : Nat) : Int) from rfl, and32_of (by omega) (by omega)]
      have ha : 3988292384 &&& ((2 ^ 32 - y % 2) % 2 ^ 32) < 2 ^ 32 := Nat.and_lt_two_pow _ (by omega)
      rw [xor32_of (by omega) ha]
      simp only [bq_add]
      rw [show ((1 : Nat) : Int) = 1 from rfl, hjw]
      exact hN2'
    · have hje : j = 8 := by simp at h; omega
      subst hje
      unfold crc_More_s1
      simp only [bq_add, hiw]
      exact hN'
  · have hie : i = s.length := by simp at h; omega
    subst hie
    rw [List.take_length] at hri ⊢
    unfold crc_More_s0
    rw [not32_of hri]
    simp only [cvI_i]
    have hx : (2 ^ 32 - 1) ^^^ crcRun c s < 2 ^ 32 := Nat.xor_lt_two_pow (by omega) hri
    rw [wrap_nat64 (by omega)]
    exact hK
theorem Sum_spec {w : World} (s : List UInt8) (hs : s.length < 2 ^ 62) {K : Value → World → Prop} (hK : K (.int .i64 (crcMore 0 s)) w) : callG Tryz.prog 82 #[.string (str s)] w K := by
  refine crc_Sum_call ?_
  simp only [crc_Sum, crc_Sum_s0]
  exact More_spec 0 s hs hK
end Go.Proofs

set_option linter.unusedVariables false
set_option linter.unusedSimpArgs false
namespace Go.Proofs
open Go Go.Q
theorem cvBS_str {w : World} {b cap T : Nat} {fr : Nat × Nat} {l : List UInt8} (h : w.heap[b]? = some (.cells (u8c l).toArray T fr)) {n : Nat} (hn : n = l.length) {K : Value → Prop} :
    cvBS (.slice (some ⟨b, 0, none⟩) n cap) w K = K (.string (str l)) := by
  subst hn
  have ht : List.take l.length (u8c l) = u8c l := List.take_of_length_le (by simp)
  have hb := bytesOf_u8c l
  have hl : (u8c l).length = l.length := by simp
  obtain ⟨C, hC⟩ : ∃ C, C = u8c l := ⟨_, rfl⟩
  rw [← hC] at h ht hb hl
  simp [-getElem?_pos, -Array.getElem?_eq_getElem, cvBS, h, hl, ht, hb]
  rfl
def putB (x : Int) (k : Nat) : UInt8 := UInt8.ofNat ((x / 2 ^ (8 * k)) % 256).toNat
def put4 (x : Int) : List UInt8 := [putB x 0, putB x 1, putB x 2, putB x 3]
theorem zc119 : zc Tryz.prog 152 = (u8c [0, 0, 0, 0]).toArray := by kernel_rfl
theorem putB_wrap (x : Int) (k : Nat) : IntKind.u8.wrap (x / 2 ^ (8 * k)) = ((putB x k).toNat : Int) := by
  obtain ⟨y, hy⟩ : ∃ y, y = x / 2 ^ (8 * k) := ⟨_, rfl⟩
  have : putB x k = UInt8.ofNat (y % 256).toNat := by rw [hy]; rfl
  rw [this, ← hy]
  simp [IntKind.wrap, IntKind.bits, IntKind.signed]
  omega
theorem crcPut_spec {w : World} (x : Int) {K : Value → World → Prop} (hK : ∀ w', Kp [] w w' → K (.string (str (put4 x))) w') : callG Tryz.prog 80 #[.int .i64 x] w K := by
  refine crc_Put_call ?_
  simp only [crc_Put, crc_Put_s4, crc_Put_s3, newG_k, zc119]
  obtain ⟨a, ha⟩ : ∃ a, a = w.heap.size := ⟨_, rfl⟩
  obtain ⟨w1, hw1⟩ : ∃ w1, w1 = w.alloc (.cells (u8c [0, 0, 0, 0]).toArray 152) := ⟨_, rfl⟩
  have hk1 : Kp [] w w1 := by rw [hw1]; exact (Kp.refl [] w).alloc _
  have hA : w1.heap[a]? = some (.cells (u8c [0, 0, 0, 0]).toArray 152) := by rw [hw1, ha]; exact heap_new
  rw [← ha, ← hw1]
  unfold crc_Put_L2
  refine loop_inv (fun m xs w' => ∃ i, i ≤ 4 ∧ m = 4 - i ∧ xs = [.int .i64 x, .pointer (some ⟨a, 0, none⟩), .int .i64 (i : Nat)] ∧ Kp [] w w' ∧ w'.heap[a]? = some (.cells (u8c ((put4 x).take i ++ List.replicate (4 - i) 0)).toArray 152))
    ?_ (m := 4) ⟨0, by omega, rfl, rfl, hk1, hA⟩
  rintro m N xs w' ⟨i, hi, rfl, rfl, hk, hA⟩ hN
  simp only [crc_Put_L2F, crc_Put_b1, bq_lss, bV_b]
  refine ⟨fun h => ?_, fun h => ?_⟩
  · have hi : i < 4 := by simp at h; omega
    have hiw : IntKind.i64.wrap ((i : Int) + 1) = ((i + 1 : Nat) : Int) := by rw [w64 (by omega) (by omega)]; simp
    have h8 : IntKind.i64.wrap (8 * (i : Int)) = ((8 * i : Nat) : Int) := by rw [w64 (by omega) (by omega)]; simp
    simp only [bq_mul, h8]
    rw [shr_of (by omega) (by simp [IntKind.bits]; omega), Int.toNat_natCast]
    simp only [cvI_i, putB_wrap]
    have hset : (u8c ((put4 x).take i ++ List.replicate (4 - i) 0)).set i (.int .u8 (putB x i).toNat) = u8c ((put4 x).take (i + 1) ++ List.replicate (4 - (i + 1)) 0) := by
      match i, hi with
      | 0, _ => rfl
      | 1, _ => rfl
      | 2, _ => rfl
      | 3, _ => rfl
    have hlen : (u8c ((put4 x).take i ++ List.replicate (4 - i) 0)).length = 4 := by simp [put4]; omega
    obtain ⟨C, hC⟩ : ∃ C, C = u8c ((put4 x).take i ++ List.replicate (4 - i) 0) := ⟨_, rfl⟩
    obtain ⟨C', hC'⟩ : ∃ C', C' = u8c ((put4 x).take (i + 1) ++ List.replicate (4 - (i + 1)) 0) := ⟨_, rfl⟩
    rw [← hC] at hA hset hlen
    rw [← hC'] at hset
    have hi4 : (i : Int) < 4 := by omega
    simp [-getElem?_pos, -Array.getElem?_eq_getElem, -List.length_flatten, List.getElem?_cons_zero, List.getElem?_cons_succ, hA, hlen, hi, hi4, hset, hiw]
    exact hN (4 - (i + 1)) _ _ (by omega) ⟨i + 1, by omega, rfl, rfl, hk.setBlk (.inr (by omega)) _, by rw [← hC']; exact heap_self (live_of hA)⟩
  · have hie : i = 4 := by simp at h; omega
    subst hie
    have hp : (put4 x).take 4 ++ List.replicate (4 - 4) 0 = put4 x := rfl
    rw [hp] at hA
    unfold crc_Put_s0
    simp only [slA_p, bnd_none]
    have e : (if 4 = 0 then 0 else 0 + 0 * 1) = 0 := rfl
    simp only [e]
    rw [cvBS_str (n := 4 - 0) hA rfl]
    exact hK _ hk
theorem take4_get {s : List UInt8} (h : ¬ s.length < 4) : ∃ a b c d r, s = a :: b :: c :: d :: r := by
  match s, h with
  | a :: b :: c :: d :: r, _ => exact ⟨a, b, c, d, r, rfl⟩
  | [], h => simp at h
  | [_], h => simp at h
  | [_, _], h => simp at h
  | [_, _, _], h => simp at h
theorem or_add {x y k : Nat} (hx : x < 2 ^ k) : x ||| (y * 2 ^ k) = x + y * 2 ^ k := by
  rw [Nat.or_comm, Nat.add_comm, Nat.mul_comm]
  exact (Nat.two_pow_add_eq_or_of_lt hx y).symm
def takeN (s : List UInt8) : Nat → Nat
  | 0 => 0
  | i + 1 => takeN s i + (s.getD i 0).toNat * 2 ^ (8 * i)
theorem takeN_lt (s : List UInt8) : ∀ i, takeN s i < 2 ^ (8 * i) := by
  intro i
  induction i with
  | zero => simp [takeN]
  | succ i ih =>
    have hb := (s.getD i 0).toNat_lt
    have : (s.getD i 0).toNat * 2 ^ (8 * i) ≤ 255 * 2 ^ (8 * i) := Nat.mul_le_mul_right _ (by omega)
    have h2 : 2 ^ (8 * (i + 1)) = 256 * 2 ^ (8 * i) := by rw [Nat.mul_succ, Nat.pow_add]; omega
    simp only [takeN]
    omega
theorem crcTake_spec {w : World} (s : List UInt8) (hs : s.length < 2 ^ 62) {K : Value → World → Prop} (hK : K (.int .i64 (if s.length < 4 then -1 else (takeN s 4 : Nat))) w) : callG Tryz.prog 36 #[.string (str s)] w K := by
  refine crc_Take_call ?_
  simp only [crc_Take, crc_Take_s4, lenS_s, str_size, bq_lss, bV_b]
  refine ⟨fun h => ?_, fun h => ?_⟩
  · have h : s.length < 4 := by simp at h; omega
    rw [if_pos h] at hK; exact hK
  · have h : ¬ s.length < 4 := by simp at h; omega
    rw [if_neg h] at hK
    unfold crc_Take_s3 crc_Take_L2
    refine loop_inv (fun m xs w' => ∃ i, i ≤ 4 ∧ m = 4 - i ∧ xs = [.string (str s), .int .i64 (takeN s i : Nat), .int .i64 (i : Nat)] ∧ w' = w)
      ?_ (m := 4) ⟨0, by omega, rfl, rfl, rfl⟩
    rintro m N xs w' ⟨i, hi, rfl, rfl, rfl⟩ hN
    simp only [crc_Take_L2F, crc_Take_b1, bq_lss, bV_b]
    refine ⟨fun h4 => ?_, fun h4 => ?_⟩
    · have hi : i < 4 := by simp at h4; omega
      have hi' : i < s.length := by omega
      have hiw : IntKind.i64.wrap ((i : Int) + 1) = ((i + 1 : Nat) : Int) := by rw [w64 (by omega) (by omega)]; simp
      have h8 : IntKind.i64.wrap (8 * (i : Int)) = ((8 * i : Nat) : Int) := by rw [w64 (by omega) (by omega)]; simp
      have hin := hN (4 - (i + 1)) _ w' (by omega) ⟨i + 1, by omega, rfl, rfl, rfl⟩
      have hg : s.getD i 0 = s[i] := by simp [List.getD, hi']
      have ht : takeN s (i + 1) = takeN s i + s[i].toNat * 2 ^ (8 * i) := by rw [← hg]; rfl
      have hlt := takeN_lt s i
      have hlt' := takeN_lt s (i + 1)
      rw [ht] at hin hlt'
      have hb := s[i].toNat_lt
      have hp : 2 ^ (8 * (i + 1)) ≤ 2 ^ 32 := Nat.pow_le_pow_right (by omega) (by omega)
      have hp' : 2 ^ (8 * i) ≤ 2 ^ 32 := Nat.pow_le_pow_right (by omega) (by omega)
      rw [ixS_str hi']
      simp only [cvI_i, wrap_nat64 (show s[i].toNat < 2 ^ 63 by omega), bq_mul, h8]
      rw [shl_of (by omega) (by simp [IntKind.bits]; omega), Int.toNat_natCast]
      have hc : ((s[i].toNat : Int) * 2 ^ (8 * i)) = ((s[i].toNat * 2 ^ (8 * i) : Nat) : Int) := by simp
      rw [hc, wrap_nat64 (by omega), or64_of (by omega) (by omega), or_add hlt]
      simp only [bq_add, hiw]
      exact hin
    · have hie : i = 4 := by simp at h4; omega
      subst hie
      exact hK
end Go.Proofs

set_option linter.unusedVariables false
set_option linter.unusedSimpArgs false
namespace Go.Proofs
open Go Go.Q
theorem strV_one (L : List (List UInt8)) : (L.map strV).flatten.all Q.one = true := by
  induction L with
  | nil => rfl
  | cons x r ih => simp [strV, Q.one] at ih ⊢
theorem zc9 : zc Tryz.prog 9 = [Value.string ⟨#[]⟩].toArray := by kernel_rfl
def turnOk (t : Int) : Bool := decide (1 ≤ t ∧ t ≤ 2147483647)
def headOf (t : Int) (s : List UInt8) : List UInt8 := put4 t ++ (put4 s.length).take 2
def frameB (t : Int) (s : List UInt8) : List UInt8 := headOf t s ++ put4 (crcMore 0 (headOf t s ++ s)) ++ s
def frame (t : Int) (s : List UInt8) : List UInt8 × Int := if turnOk t = true ∧ s ≠ [] ∧ s.length ≤ 1024 then (frameB t s, 0) else ([], 1)
theorem put4_len (x : Int) : (put4 x).length = 4 := rfl
theorem headOf_len (t : Int) (s : List UInt8) : (headOf t s).length = 6 := by simp [headOf, put4_len]
theorem frameB_len (t : Int) (s : List UInt8) : (frameB t s).length = 10 + s.length := by simp [frameB, headOf_len, put4_len]; omega
theorem crcMore_more (a b : List UInt8) : crcMore (crcMore 0 a) b = crcMore 0 (a ++ b) := by
  have hlt := crcMore_lt 0 a
  have h1 : ((crcMore 0 a : Nat) : Int) % 4294967296 = (crcMore 0 a : Nat) := Int.emod_eq_of_lt (by omega) (by omega)
  unfold crcMore at h1 ⊢
  rw [h1, Int.toNat_natCast, ← Nat.xor_assoc, Nat.xor_self, Nat.zero_xor]
  unfold crcRun
  rw [List.foldl_append]
theorem right_spec {w : World} (t : Int) {K : Value → World → Prop} (hK : K (.bool (turnOk t)) w) : callG Tryz.prog 107 #[.int .i64 t] w K := by
  refine wal_right_call ?_
  simp only [wal_right, wal_right_s0, bq_geq, bq_leq, bV_b]
  unfold turnOk at hK
  refine ⟨fun h => ?_, fun h => ?_⟩
  · have : 1 ≤ t := by simpa using h
    simpa [this] using hK
  · have : ¬ 1 ≤ t := by simpa using h
    simpa [this] using hK
theorem put2 (t : List UInt8) : (put4 t.length).take 2 = [putB t.length 0, putB t.length 1] := rfl
theorem Frame_spec {w : World} (t : Int) (s : List UInt8) {K : Value → World → Prop} (hs : s.length < 2 ^ 62) (hK : ∀ w', Kp [] w w' → K (.tuple #[.string (str (frame t s).1), .int .i64 (frame t s).2]) w') :
    callG Tryz.prog 89 #[.int .i64 t, .string (str s)] w K := by
  refine wal_Frame_call ?_
  simp only [wal_Frame, wal_Frame_s1]
  refine right_spec t ?_
  unfold frame at hK
  have hnil : (⟨#[]⟩ : ByteArray) = str [] := rfl
  have hbad : ¬ (turnOk t = true ∧ s ≠ [] ∧ s.length ≤ 1024) → K (.tuple #[.string (str []), .int .i64 1]) w := by
    intro h; have := hK w (Kp.refl _ _); rw [if_neg h] at this; exact this
  simp only [hnil]
  simp [-getElem?_pos, -Array.getElem?_eq_getElem, -List.length_flatten, List.getElem?_cons_zero, List.getElem?_cons_succ, ]
  refine ⟨fun h => hbad (by simp [h]), fun h => ⟨fun h1 => hbad (by simp [h1]), fun h1 => ⟨fun h2 => hbad (by omega), fun h2 => ?_⟩⟩⟩
  rw [if_pos ⟨h, h1, by omega⟩] at hK
  unfold wal_Frame_s0
  refine crcPut_spec t fun w1 hk1 => ?_
  simp only [lenS_s, str_size]
  refine crcPut_spec s.length fun w2 hk2 => ?_
  have hl := put4_len t
  have hl2 := put4_len s.length
  simp [-getElem?_pos, -Array.getElem?_eq_getElem, -List.length_flatten, List.getElem?_cons_zero, List.getElem?_cons_succ, str_extract, hl, hl2, bq_sadd]
  have hh : put4 t ++ (put4 s.length).take 2 = headOf t s := rfl
  rw [hh]
  refine Sum_spec _ (by rw [headOf_len]; omega) ?_
  refine More_spec _ _ hs ?_
  rw [crcMore_more]
  refine crcPut_spec _ fun w3 hk3 => ?_
  have hl3 := put4_len (crcMore 0 (headOf t s ++ s))
  have hl4 := headOf_len t s
  have b1 : (str (headOf t s)).size + (str (put4 (crcMore 0 (headOf t s ++ s)))).size < 9223372036854775808 := by simp [hl3, hl4]
  have b2 : (str (headOf t s ++ put4 (crcMore 0 (headOf t s ++ s)))).size + (str s).size < 9223372036854775808 := by simp [hl3, hl4]; omega
  rw [bq_sadd b1, str_append, bq_sadd b2, str_append]
  exact hK w3 ((hk1.trans' hk2).trans' hk3)
end Go.Proofs

set_option linter.unusedVariables false
set_option linter.unusedSimpArgs false
namespace Go.Proofs
open Go Go.Q
def lenAt (s : List UInt8) : Nat := (s.getD 4 0).toNat + (s.getD 5 0).toNat * 2 ^ 8
def recOf (s : List UInt8) : List UInt8 := (s.drop 10).take (lenAt s)
def nextOk (t : Int) (s : List UInt8) : Bool :=
  decide (10 < s.length) && turnOk t && decide (((takeN s 4 : Nat) : Int) = t) && decide (1 ≤ lenAt s) && decide (lenAt s ≤ 1024) && decide (lenAt s + 10 ≤ s.length) && decide (takeN (s.drop 6) 4 = crcMore 0 (s.take 6 ++ recOf s))
theorem lenAt_lt (s : List UInt8) : lenAt s < 65536 := by
  have h1 := (s.getD 4 0).toNat_lt
  have h2 := (s.getD 5 0).toNat_lt
  unfold lenAt; omega
theorem next_spec {w : World} (t : Int) (s : List UInt8) (hs : s.length < 2 ^ 62) {K : Value → World → Prop}
    (hK : ∀ w' r, Kp [] w w' → (nextOk t s = true → r = str (recOf s)) → K (.tuple #[.string r, .bool (nextOk t s)]) w') : callG Tryz.prog 128 #[.int .i64 t, .string (str s)] w K := by
  refine wal_next_call ?_
  simp only [wal_next, wal_next_s2, lenS_s, str_size, bq_leq, bV_b]
  have no : ∀ w', Kp [] w w' → nextOk t s = false → K (.tuple #[.string ⟨#[]⟩, .bool false]) w' := by
    intro w' hk h
    have := hK w' ⟨#[]⟩ hk (by rw [h]; intro h; cases h)
    rw [h] at this; exact this
  have hk0 : Kp [] w w := Kp.refl _ _
  refine ⟨fun h => no w hk0 ?_, fun h => ?_⟩
  · have : ¬ 10 < s.length := by simp at h; omega
    simp [nextOk, this]
  have h10 : 10 < s.length := by simp at h; omega
  refine right_spec t ?_
  simp [-getElem?_pos, -Array.getElem?_eq_getElem, -List.length_flatten, List.getElem?_cons_zero, List.getElem?_cons_succ, ]
  refine ⟨fun h => no w hk0 (by simp [nextOk, h]), fun hto => ?_⟩
  refine crcTake_spec s hs ?_
  rw [if_neg (by omega)]
  simp [-getElem?_pos, -Array.getElem?_eq_getElem, -List.length_flatten, List.getElem?_cons_zero, List.getElem?_cons_succ, ]
  refine ⟨fun h => no w hk0 (by simp [nextOk, h]), fun htk => ?_⟩
  unfold wal_next_s1
  have e4 : s.getD 4 0 = s[4] := by simp [List.getD, show 4 < s.length by omega]
  have e5 : s.getD 5 0 = s[5] := by simp [List.getD, show 5 < s.length by omega]
  have b4 := s[4].toNat_lt
  have b5 := s[5].toNat_lt
  have hn : lenAt s = s[4].toNat + s[5].toNat * 2 ^ 8 := by unfold lenAt; rw [e4, e5]
  have i4 : ∀ K : Value → Prop, ixS (.string (str s)) (.int .i64 4) K = K (.int .u8 s[4].toNat) := fun K => ixS_str (i := 4) (by omega)
  have i5 : ∀ K : Value → Prop, ixS (.string (str s)) (.int .i64 5) K = K (.int .u8 s[5].toNat) := fun K => ixS_str (i := 5) (by omega)
  simp only [i4, i5, cvI_i, wrap_nat64 (show s[4].toNat < 2 ^ 63 by omega), wrap_nat64 (show s[5].toNat < 2 ^ 63 by omega)]
  rw [shl_of (by omega) (by decide)]
  have hc : ((s[5].toNat : Int) * (2 : Int) ^ (8 : Int).toNat) = ((s[5].toNat * 2 ^ 8 : Nat) : Int) := by simp
  rw [hc, wrap_nat64 (by omega), or64_of (by omega) (by omega), or_add (by omega), ← hn]
  have hkd : Kp [] w w.drew := (Kp.refl _ _).drew
  have hlt := lenAt_lt s
  simp only [bq_lss, bq_gtr, bV_b]
  refine ⟨fun h => no _ hkd ?_, fun h1 => ⟨fun h => no _ hkd ?_, fun h2 => ?_⟩⟩
  · have : ¬ 1 ≤ lenAt s := by simp at h; omega
    simp [nextOk, this]
  · have : ¬ lenAt s ≤ 1024 := by simp at h; omega
    simp [nextOk, this]
  have h1 : 1 ≤ lenAt s := by simp at h1; omega
  have h2 : lenAt s ≤ 1024 := by simp at h2; omega
  have hsub : IntKind.i64.wrap ((s.length : Int) - 10) = (s.length : Int) - 10 := w64 (by omega) (by omega)
  simp only [lenS_s, str_size, bq_sub, hsub, bq_gtr, bV_b]
  refine ⟨fun h => no _ hkd ?_, fun h3 => ?_⟩
  · have : ¬ lenAt s + 10 ≤ s.length := by simp at h; omega
    simp [nextOk, this]
  have h3 : lenAt s + 10 ≤ s.length := by simp at h3; omega
  unfold wal_next_s0
  have hadd : IntKind.i64.wrap (10 + (lenAt s : Int)) = ((10 + lenAt s : Nat) : Int) := by rw [w64 (by omega) (by omega)]; simp
  have hext : (str s).extract 10 (10 + lenAt s) = str (recOf s) := by
    rw [str_extract]; unfold recOf; rw [List.drop_take]; congr 2; omega
  have hle1 : ((10 + lenAt s : Nat) : Int) ≤ s.length := by omega
  have hle2 : (10 : Int) ≤ ((10 + lenAt s : Nat) : Int) := by omega
  have h6 : (6 : Int) ≤ s.length := by omega
  have hext2 : (str s).extract 6 s.length = str (s.drop 6) := by rw [str_extract, List.take_length]
  have hext3 : (str s).extract 0 6 = str (s.take 6) := by rw [str_extract]; rfl
  simp only [bq_add, hadd, slS_p, bnd_some, bnd_none, str_size, Int.toNat_natCast]
  refine ⟨⟨by omega, hle1⟩, ⟨by omega, hle2⟩, ⟨by omega, h6⟩, ⟨by omega, h6⟩, ?_⟩
  have t10 : (10 : Int).toNat = 10 := rfl
  have t6 : (6 : Int).toNat = 6 := rfl
  rw [t10, t6, hext, hext2, hext3]
  refine crcTake_spec (s.drop 6) (by simp; omega) ?_
  rw [if_neg (by simp; omega)]
  refine Sum_spec (s.take 6) (by simp; omega) ?_
  have hrl : (recOf s).length = lenAt s := by unfold recOf; simp; omega
  refine More_spec _ (recOf s) (by omega) ?_
  rw [crcMore_more]
  simp only [bq_eql]
  have hok : nextOk t s = decide (((takeN (s.drop 6) 4 : Nat) : Int) = (crcMore 0 (s.take 6 ++ recOf s) : Nat)) := by
    have hi : (((takeN (s.drop 6) 4 : Nat) : Int) = (crcMore 0 (s.take 6 ++ recOf s) : Nat)) = (takeN (s.drop 6) 4 = crcMore 0 (s.take 6 ++ recOf s)) := by apply propext; omega
    simp only [hi]
    simp [nextOk, h10, hto, htk, h1, h2, h3]
  rw [← hok]
  exact hK _ _ hkd.drew fun _ => rfl
theorem put_take {s : List UInt8} (h : 4 ≤ s.length) : put4 (takeN s 4 : Nat) = s.take 4 := by
  obtain ⟨a, b, c, d, r, rfl⟩ := take4_get (s := s) (by omega)
  have ha := a.toNat_lt
  have hb := b.toNat_lt
  have hc := c.toNat_lt
  have hd := d.toNat_lt
  have hN : takeN (a :: b :: c :: d :: r) 4 = a.toNat + b.toNat * 256 + c.toNat * 65536 + d.toNat * 16777216 := by
    simp [takeN, List.getD]
  rw [hN]
  have p : ∀ (k : Nat) (x : UInt8), ((((a.toNat + b.toNat * 256 + c.toNat * 65536 + d.toNat * 16777216 : Nat) : Int) / 2 ^ (8 * k)) % 256).toNat = x.toNat → putB ((a.toNat + b.toNat * 256 + c.toNat * 65536 + d.toNat * 16777216 : Nat) : Int) k = x := by
    intro k x h
    unfold putB
    rw [h]; simp
  have q0 := p 0 a (by simp; omega)
  have q1 := p 1 b (by simp; omega)
  have q2 := p 2 c (by simp; omega)
  have q3 := p 3 d (by simp; omega)
  unfold put4
  rw [q0, q1, q2, q3]
  rfl
theorem take_put (x : Nat) (h : x < 4294967296) (r : List UInt8) : takeN (put4 x ++ r) 4 = x := by
  have p : ∀ k, (putB x k).toNat = (x / 2 ^ (8 * k)) % 256 := by
    intro k
    unfold putB
    have : (((x : Int) / 2 ^ (8 * k)) % 256).toNat = (x / 2 ^ (8 * k)) % 256 := by
      have : ((x : Int) / 2 ^ (8 * k)) = ((x / 2 ^ (8 * k) : Nat) : Int) := by simp
      rw [this]; omega
    rw [this]
    simp
  have hN : takeN (put4 x ++ r) 4 = (putB x 0).toNat + (putB x 1).toNat * 256 + (putB x 2).toNat * 65536 + (putB x 3).toNat * 16777216 := by
    simp [takeN, List.getD, put4]
  rw [hN, p, p, p, p]
  simp
  omega
end Go.Proofs

set_option linter.unusedVariables false
set_option linter.unusedSimpArgs false
namespace Go.Proofs
open Go Go.Q
theorem recOf_len {s : List UInt8} (h : lenAt s + 10 ≤ s.length) : (recOf s).length = lenAt s := by unfold recOf; simp; omega
theorem head_take {s : List UInt8} {t : Int} (h : lenAt s + 10 ≤ s.length) (h4 : put4 t = s.take 4) : headOf t (recOf s) = s.take 6 := by
  have h6 : 6 ≤ s.length := by omega
  obtain ⟨a, b, c, d, r, rfl⟩ := take4_get (s := s) (by omega)
  match r, h6 with
  | e :: f :: r, _ =>
    have he := e.toNat_lt
    have hf := f.toNat_lt
    have hl : lenAt (a :: b :: c :: d :: e :: f :: r) = e.toNat + f.toNat * 256 := by simp [lenAt, List.getD]
    have p0 : putB (lenAt (a :: b :: c :: d :: e :: f :: r) : Nat) 0 = e := by
      rw [hl]
      unfold putB
      have : ((((e.toNat + f.toNat * 256 : Nat) : Int) / 2 ^ (8 * 0)) % 256).toNat = e.toNat := by simp; omega
      rw [this]; simp
    have p1 : putB (lenAt (a :: b :: c :: d :: e :: f :: r) : Nat) 1 = f := by
      rw [hl]
      unfold putB
      have : ((((e.toNat + f.toNat * 256 : Nat) : Int) / 2 ^ (8 * 1)) % 256).toNat = f.toNat := by simp; omega
      rw [this]; simp
    unfold headOf
    rw [put2, h4, recOf_len h, p0, p1]
    rfl
theorem next_frame (t : Int) (s : List UInt8) : nextOk t s = true ↔ (10 < s.length ∧ 1 ≤ lenAt s ∧ lenAt s ≤ 1024 ∧ lenAt s + 10 ≤ s.length ∧ frame t (recOf s) = (s.take (10 + lenAt s), 0)) := by
  have hsum : ∀ {h : List UInt8}, lenAt s + 10 ≤ s.length → s.take 6 ++ (s.drop 6).take 4 ++ recOf s = s.take (10 + lenAt s) := by
    intro _ h
    unfold recOf
    rw [List.take_add (l := s) (i := 10), show (10 : Nat) = 6 + 4 from rfl, List.take_add (l := s) (i := 6)]
  constructor
  · intro h
    simp only [nextOk, Bool.and_eq_true, decide_eq_true_eq] at h
    obtain ⟨⟨⟨⟨⟨⟨h1, h2⟩, h3⟩, h4⟩, h5⟩, h6⟩, h7⟩ := h
    refine ⟨h1, h4, h5, h6, ?_⟩
    have hl := recOf_len h6
    have hp : put4 t = s.take 4 := by rw [← h3]; exact put_take (by omega)
    have hh := head_take h6 hp
    unfold frame
    rw [if_pos ⟨h2, by intro h0; rw [h0] at hl; simp at hl; omega, by omega⟩]
    unfold frameB
    rw [hh, ← h7, put_take (by simp; omega), hsum (h := []) h6]
  · rintro ⟨h1, h4, h5, h6, h⟩
    have hl := recOf_len h6
    unfold frame at h
    split at h
    · rename_i hc
      injection h with h _
      have hto := hc.1
      have ht : 1 ≤ t ∧ t ≤ 2147483647 := by simpa [turnOk] using hto
      unfold frameB at h
      have e4 : put4 t = s.take 4 := by
        have := congrArg (List.take 4) h
        rw [List.take_take, Nat.min_eq_left (by omega)] at this
        rw [← this]
        simp [headOf, put4]
      have hh := head_take h6 e4
      have hts : ((takeN s 4 : Nat) : Int) = t := by
        have hs : s = put4 t ++ s.drop 4 := by rw [e4, List.take_append_drop]
        obtain ⟨n, rfl⟩ : ∃ n : Nat, t = n := ⟨t.toNat, by omega⟩
        rw [hs, take_put n (by omega)]
      have e6 : put4 (crcMore 0 (s.take 6 ++ recOf s)) = (s.drop 6).take 4 := by
        rw [hh] at h
        have := congrArg (fun l => (l.drop 6).take 4) h
        simp only [List.append_assoc] at this
        rw [List.drop_left' (by simp; omega), List.take_left' (put4_len _), List.drop_take, List.take_take, Nat.min_eq_left (by omega)] at this
        exact this
      have h7 : takeN (s.drop 6) 4 = crcMore 0 (s.take 6 ++ recOf s) := by
        have hs : s.drop 6 = put4 (crcMore 0 (s.take 6 ++ recOf s)) ++ (s.drop 6).drop 4 := by rw [e6, List.take_append_drop]
        have := take_put (crcMore 0 (s.take 6 ++ recOf s)) (crcMore_lt _ _) ((s.drop 6).drop 4)
        rw [← hs] at this
        exact this
      simp [nextOk, h1, hto, hts, h4, h5, h6, h7]
    · injection h with _ h
      cases h
def scanL (t : Int) : Nat → List UInt8 → List (List UInt8)
  | 0, _ => []
  | n + 1, s => if nextOk t s = true then recOf s :: scanL t n (s.drop (10 + lenAt s)) else []
def usedOf (l : List (List UInt8)) : Nat := (l.map fun r => 10 + r.length).sum
theorem usedOf_snoc (l : List (List UInt8)) (r : List UInt8) : usedOf (l ++ [r]) = usedOf l + (10 + r.length) := by simp [usedOf]
theorem usedOf_len (l : List (List UInt8)) : l.length ≤ usedOf l := by
  induction l with
  | nil => simp
  | cons x l ih => simp [usedOf] at ih ⊢; omega
def scan (t : Int) (s : List UInt8) : List (List UInt8) := scanL t s.length s
theorem Scan_spec {w : World} (t : Int) (s : List UInt8) (hs : s.length < 2 ^ 40) {K : Value → World → Prop}
    (hK : ∀ w' v S, RowsAt w' v 1 ((scan t s).map strV) S → Kp [] w w' → (∀ y ∈ S, w.heap.size ≤ y) → K (.tuple #[v, .int .i64 (usedOf (scan t s))]) w') : callG Tryz.prog 109 #[.int .i64 t, .string (str s)] w K := by
  refine wal_Scan_call ?_
  simp only [wal_Scan, wal_Scan_s2]
  unfold wal_Scan_L1
  refine loop_inv (fun m xs wi => ∃ out f v S, scan t s = out ++ scanL t f (s.drop (usedOf out)) ∧ usedOf out ≤ s.length ∧ s.length - usedOf out ≤ f ∧ m = s.length - usedOf out ∧ xs = [.int .i64 t, .string (str s), v, .int .i64 (usedOf out)] ∧
      RowsAt wi v 1 (out.map strV) S ∧ Kp [] w wi ∧ ∀ y ∈ S, w.heap.size ≤ y)
    ?_ (m := s.length) ⟨[], s.length, .slice none 0 0, [], rfl, by simp [usedOf], by simp [usedOf], by simp [usedOf], rfl, .inl ⟨rfl, rfl, rfl⟩, Kp.refl _ _, by simp⟩
  rintro m N xs wi ⟨out, f, v, S, hsc, hu, hf, rfl, rfl, hr, hk, hS⟩ hN
  simp only [wal_Scan_L1F, wal_Scan_b0, slS_p, bnd_some, bnd_none, str_size, Int.toNat_natCast]
  refine ⟨⟨by omega, by omega⟩, ?_⟩
  rw [str_extract, List.take_length]
  refine next_spec t (s.drop (usedOf out)) (by simp; omega) fun w1 r hk1 hr1 => ?_
  cases hok : nextOk t (s.drop (usedOf out)) with
  | false =>
    simp [-getElem?_pos, -Array.getElem?_eq_getElem, -List.length_flatten, List.getElem?_cons_zero, List.getElem?_cons_succ, ]
    have he : scanL t f (s.drop (usedOf out)) = [] := by
      cases f with
      | zero => rfl
      | succ f => unfold scanL; rw [if_neg (by rw [hok]; simp)]
    rw [he, List.append_nil] at hsc
    rw [hsc] at hK
    exact hK w1 v S (hr.keep hk1 (by simp)) (hk.trans' hk1) hS
  | true =>
    have hrr := hr1 hok
    subst hrr
    obtain ⟨n1, n2, n3, n4, n5⟩ := (next_frame t _).1 hok
    have hrl := recOf_len n4
    rw [List.length_drop] at n1 n4
    obtain ⟨f, rfl⟩ : ∃ f', f = f' + 1 := ⟨f - 1, by omega⟩
    have he : scanL t (f + 1) (s.drop (usedOf out)) = recOf (s.drop (usedOf out)) :: scanL t f ((s.drop (usedOf out)).drop (10 + lenAt (s.drop (usedOf out)))) := by
      conv => lhs; unfold scanL
      rw [if_pos hok]
    rw [he] at hsc
    obtain ⟨rc, hrc⟩ : ∃ rc, rc = recOf (s.drop (usedOf out)) := ⟨_, rfl⟩
    obtain ⟨n, hn⟩ : ∃ n, n = lenAt (s.drop (usedOf out)) := ⟨_, rfl⟩
    rw [← hrc, ← hn] at hsc hrl
    rw [← hn] at n2 n3 n4
    rw [← hrc]
    have hlen := usedOf_len out
    simp only [ex0, ex1]
    simp [-getElem?_pos, -Array.getElem?_eq_getElem, -List.length_flatten, List.getElem?_cons_zero, List.getElem?_cons_succ, ]
    rw [bsl_one rfl]
    obtain ⟨w3, hw3⟩ : ∃ w3, w3 = w1.alloc (.cells #[.string (str rc)] 9) := ⟨_, rfl⟩
    have hk3 : Kp [] w1 w3 := by rw [hw3]; exact (Kp.refl [] w1).alloc _
    have hb3 : w3.heap[w1.heap.size]? = some (.cells #[.string (str rc)] 9) := by rw [hw3]; exact heap_new
    rw [← hw3, zc9]
    have hs3 : RdAt w3 (.slice (some ⟨w1.heap.size, 0, none⟩) 1 1) 1 [strV rc] [w1.heap.size] :=
      .inr ⟨_, 0, 1, _, _, _, rfl, rfl, hb3, by simp [strV], by simp, by simp [strV], by simp⟩
    have hk13 := hk1.trans' hk3
    refine rows_app (k := 1) (z := [.string ⟨#[]⟩]) (G := [strV rc]) (hr.keep hk13 (by simp)) (by omega) rfl (by simp [strV]) (by simp [strV, Q.one]) (fun K' hK' => hs3.src K' hK') (by simp; omega) (by simp; omega) fun v4 w4 S4 h4 hk4 hS4 => ?_
    have hw3s := (hk.trans' hk13).size
    have ha1 : IntKind.i64.wrap (10 + (rc.length : Int)) = ((10 + rc.length : Nat) : Int) := by rw [w64 (by omega) (by omega)]; simp
    have hus := usedOf_snoc out rc
    have ha2 : IntKind.i64.wrap ((usedOf out : Int) + ((10 + rc.length : Nat) : Int)) = ((usedOf (out ++ [rc]) : Nat) : Int) := by rw [w64 (by omega) (by omega), hus]; simp
    simp only [lenS_s, str_size, bq_add, ha1, ha2]
    refine hN (s.length - usedOf (out ++ [rc])) _ _ (by omega) ⟨out ++ [rc], f, v4, S4, ?_, by omega, by omega, rfl, rfl, by simpa using h4, (hk.trans' hk13).trans hk4 fun y hy hlt => by have := hS y hy; omega, fun y hy => ?_⟩
    · rw [hsc, List.drop_drop, hus, hrl]; simp
    · rcases hS4 y hy with h | h
      · exact hS y h
      · omega
end Go.Proofs

set_option linter.unusedVariables false
set_option linter.unusedSimpArgs false
namespace Go.Proofs
open Go Go.Q
structure DK where
  sure : List (List UInt8)
  now : List (List UInt8)
  l : List (Nat × List UInt8)
  fuse : Int
  off : Bool
structure DK.Ok (d : DK) : Prop where
  len : d.sure.length = d.now.length
  pos : 0 < d.now.length
  most : d.now.length ≤ 4096
  sz1 : ∀ x ∈ d.sure, x.length = 32
  sz2 : ∀ x ∈ d.now, x.length = 32
  szl : ∀ x ∈ d.l, x.1 < d.now.length ∧ x.2.length = 32
  f0 : -1 ≤ d.fuse
  f1 : d.fuse < 9223372036854775808
def encW (x : Nat × List UInt8) : List Value := .int .i64 x.1 :: u8c x.2
def LogAt (w : World) (lv : Value) (l : List (Nat × List UInt8)) (S : List Nat) : Prop := RowsAt w lv 33 (l.map encW) S
structure DiskIs (w : World) (b : Nat) (d : DK) (bs bn : Nat) (lv : Value) (SL : List Nat) (T Ts Tn : Nat) : Prop where
  hb : w.heap[b]? = some (.cells #[.slice (some ⟨bs, 0, none⟩) d.now.length d.now.length, .slice (some ⟨bn, 0, none⟩) d.now.length d.now.length, lv, .int .i64 d.fuse, .bool d.off] T (0, 0))
  hs : w.heap[bs]? = some (.cells (d.sure.map u8c).flatten.toArray Ts (0, 0))
  hn : w.heap[bn]? = some (.cells (d.now.map u8c).flatten.toArray Tn (0, 0))
  hl : LogAt w lv d.l SL
  nd : (b :: bs :: bn :: SL).Nodup
  ok : d.Ok
def DiskAt (w : World) (b : Nat) (d : DK) (S : List Nat) : Prop := ∃ bs bn lv SL T Ts Tn, S = b :: bs :: bn :: SL ∧ DiskIs w b d bs bn lv SL T Ts Tn
theorem DiskAt.keep {w w' : World} {b : Nat} {d : DK} {S S' : List Nat} (h : DiskAt w b d S) (hk : Kp S' w w') (hd : ∀ x ∈ S, x ∉ S') : DiskAt w' b d S := by
  obtain ⟨bs, bn, lv, SL, T, Ts, Tn, rfl, h⟩ := h
  exact ⟨bs, bn, lv, SL, T, Ts, Tn, rfl, hk.get h.hb (hd _ (by simp)), hk.get h.hs (hd _ (by simp)), hk.get h.hn (hd _ (by simp)), RowsAt.keep h.hl hk (fun x hx => hd x (by simp [hx])), h.nd, h.ok⟩
def DK.burns (d : DK) : DK × Bool :=
  if d.off = true ∨ d.fuse = 0 then ({ d with off := true, fuse := -1 }, false) else ({ d with fuse := if d.fuse > 0 then d.fuse - 1 else d.fuse }, true)
theorem Size_spec {w : World} {b : Nat} {d : DK} {S : List Nat} (h : DiskAt w b d S) {K : Value → World → Prop} (hK : K (.int .i64 d.now.length) w) : callG Tryz.prog 33 #[.pointer (some ⟨b, 0, none⟩)] w K := by
  obtain ⟨bs, bn, lv, SL, T, Ts, Tn, rfl, h⟩ := h
  refine disk_Disk_Size_call ?_
  simpa [disk_Disk_Size, disk_Disk_Size_s0, h.hb] using hK
theorem has_spec {w : World} {b : Nat} {d : DK} {S : List Nat} (h : DiskAt w b d S) (at_ : Int) {K : Value → World → Prop} (hK : K (.bool (decide (0 ≤ at_ ∧ at_ < d.now.length))) w) :
    callG Tryz.prog 79 #[.pointer (some ⟨b, 0, none⟩), .int .i64 at_] w K := by
  refine disk_Disk_has_call ?_
  simp only [disk_Disk_has, disk_Disk_has_s0, bq_geq, bV_b]
  refine ⟨fun h0 => Size_spec h ?_, fun h0 => ?_⟩
  · simp at h0
    simpa [h0] using hK
  · simp at h0
    have : ¬ 0 ≤ at_ := by omega
    simpa [this, h0] using hK
theorem DiskIs.ne {w : World} {b : Nat} {d : DK} {bs bn : Nat} {lv : Value} {SL : List Nat} {T Ts Tn : Nat} (h : DiskIs w b d bs bn lv SL T Ts Tn) :
    ¬ b = bs ∧ ¬ b = bn ∧ b ∉ SL ∧ ¬ bs = bn ∧ bs ∉ SL ∧ bn ∉ SL ∧ SL.Nodup ∧ ¬ bs = b ∧ ¬ bn = b ∧ ¬ bn = bs := by
  have hnd := h.nd
  simp only [List.nodup_cons, List.mem_cons, not_or] at hnd
  obtain ⟨⟨n1, n2, n3⟩, ⟨n4, n5⟩, n6, n7⟩ := hnd
  exact ⟨n1, n2, n3, n4, n5, n6, n7, fun h => n1 h.symm, fun h => n2 h.symm, fun h => n4 h.symm⟩
theorem DiskIs.head {w : World} {b : Nat} {d : DK} {bs bn : Nat} {lv : Value} {SL : List Nat} {T Ts Tn : Nat} (h : DiskIs w b d bs bn lv SL T Ts Tn) (f : Int) (o : Bool) (hf : -1 ≤ f) (hf' : f < 9223372036854775808) :
    let w' := setBlk w b (.cells #[.slice (some ⟨bs, 0, none⟩) d.now.length d.now.length, .slice (some ⟨bn, 0, none⟩) d.now.length d.now.length, lv, .int .i64 f, .bool o] T (0, 0))
    DiskIs w' b { d with fuse := f, off := o } bs bn lv SL T Ts Tn ∧ Kp [b] w w' := by
  obtain ⟨n1, n2, n3, n4, n5, n6, n7, n8, n9, n10⟩ := h.ne
  have hk : Kp [b] w (setBlk w b (.cells #[.slice (some ⟨bs, 0, none⟩) d.now.length d.now.length, .slice (some ⟨bn, 0, none⟩) d.now.length d.now.length, lv, .int .i64 f, .bool o] T (0, 0))) := (Kp.refl _ _).setBlk (.inl (by simp)) _
  exact ⟨⟨heap_self (live_of h.hb), hk.get h.hs (by simp [n8]), hk.get h.hn (by simp [n9]), RowsAt.keep h.hl hk (fun x hx => by simp; intro hh; subst hh; exact n3 hx), h.nd,
    ⟨h.ok.len, h.ok.pos, h.ok.most, h.ok.sz1, h.ok.sz2, h.ok.szl, hf, hf'⟩⟩, hk⟩
theorem burns_spec {w : World} {b : Nat} {d : DK} {S : List Nat} (h : DiskAt w b d S) {K : Value → World → Prop} (hK : ∀ w', DiskAt w' b d.burns.1 S → Kp [b] w w' → K (.bool d.burns.2) w') :
    callG Tryz.prog 117 #[.pointer (some ⟨b, 0, none⟩)] w K := by
  obtain ⟨bs, bn, lv, SL, T, Ts, Tn, rfl, h⟩ := h
  have hlv := live_of h.hb
  have f0 := h.ok.f0
  have f1 := h.ok.f1
  refine disk_Disk_burns_call ?_
  have put : ∀ f o, d.burns.1 = { d with fuse := f, off := o } → -1 ≤ f → f < 9223372036854775808 → K (.bool d.burns.2) (setBlk w b (.cells #[.slice (some ⟨bs, 0, none⟩) d.now.length d.now.length, .slice (some ⟨bn, 0, none⟩) d.now.length d.now.length, lv, .int .i64 f, .bool o] T (0, 0))) := by
    intro f o hb h0 h1
    obtain ⟨g1, g2⟩ := h.head f o h0 h1
    exact hK _ (by rw [hb]; exact ⟨bs, bn, lv, SL, T, Ts, Tn, rfl, g1⟩) g2
  have hw : IntKind.i64.wrap (d.fuse - 1) = d.fuse - 1 := w64 (by omega) (by omega)
  cases ho : d.off with
  | true =>
    have hbb : d.burns = ({ d with fuse := -1, off := true }, false) := by simp [DK.burns, ho]
    have := put (-1) true (by rw [hbb]) (by omega) (by omega)
    rw [hbb] at this
    simpa [disk_Disk_burns, disk_Disk_burns_s0, disk_Disk_burns_s1, disk_Disk_burns_s2, disk_Disk_burns_s3, h.hb, heap_self, hlv, ho] using this
  | false =>
    by_cases hz : d.fuse = 0
    · have hbb : d.burns = ({ d with fuse := -1, off := true }, false) := by simp [DK.burns, hz]
      have := put (-1) true (by rw [hbb]) (by omega) (by omega)
      rw [hbb] at this
      simpa [disk_Disk_burns, disk_Disk_burns_s0, disk_Disk_burns_s1, disk_Disk_burns_s2, disk_Disk_burns_s3, h.hb, heap_self, hlv, ho, hz] using this
    · by_cases hp : 0 < d.fuse
      · have hbb : d.burns = ({ d with fuse := d.fuse - 1, off := false }, true) := by simp [DK.burns, ho, hz, hp]
        have := put (d.fuse - 1) false (by rw [hbb]) (by omega) (by omega)
        rw [hbb] at this
        have hle : ¬ d.fuse ≤ 0 := by omega
        simpa [disk_Disk_burns, disk_Disk_burns_s0, disk_Disk_burns_s1, disk_Disk_burns_s2, disk_Disk_burns_s3, h.hb, heap_self, hlv, ho, hz, hp, hw, hle] using this
      · have hbb : d.burns = ({ d with fuse := d.fuse, off := false }, true) := by simp [DK.burns, ho, hz, hp]
        have := put d.fuse false (by rw [hbb]) (by omega) (by omega)
        rw [hbb] at this
        have hle : d.fuse ≤ 0 := by omega
        simpa [disk_Disk_burns, disk_Disk_burns_s0, disk_Disk_burns_s1, disk_Disk_burns_s2, disk_Disk_burns_s3, h.hb, heap_self, hlv, ho, hz, hp, hle] using this
theorem Off_spec {w : World} {b : Nat} {d : DK} {S : List Nat} (h : DiskAt w b d S) {K : Value → World → Prop} (hK : K (.bool d.off) w) : callG Tryz.prog 34 #[.pointer (some ⟨b, 0, none⟩)] w K := by
  obtain ⟨bs, bn, lv, SL, T, Ts, Tn, rfl, h⟩ := h
  refine disk_Disk_Off_call ?_
  simpa [disk_Disk_Off, disk_Disk_Off_s0, h.hb] using hK
theorem LogAt.len {w : World} {lv : Value} {l : List (Nat × List UInt8)} {S : List Nat} (h : LogAt w lv l S) : ∃ a c, lv = .slice a l.length c := by
  obtain ⟨a, c, h, _⟩ := RowsAt.len h
  exact ⟨a, c, by simpa using h⟩
def DK.read (d : DK) (at_ : Int) : List UInt8 × Int :=
  if 0 ≤ at_ ∧ at_ < d.now.length then (if d.off = true then ([], 30) else (d.now.getD at_.toNat [], 0)) else ([], 1)
theorem rows_get {L : List (List UInt8)} (h : ∀ x ∈ L, x.length = 32) {i : Nat} (hi : i < L.length) : ((L.map u8c).flatten.drop (i * 32)).take 32 = u8c (L.getD i []) := by
  rw [flat_get (k := 32) (by intro x hx; rw [List.mem_map] at hx; obtain ⟨y, hy, rfl⟩ := hx; simp [h y hy]) (by simpa using hi)]
  simp [List.getD, hi]
theorem rows_len {L : List (List UInt8)} (h : ∀ x ∈ L, x.length = 32) : (L.map u8c).flatten.length = L.length * 32 := by
  rw [flat_len (k := 32) (by intro x hx; rw [List.mem_map] at hx; obtain ⟨y, hy, rfl⟩ := hx; simp [h y hy])]
  simp
theorem Read_spec {w : World} {b : Nat} {d : DK} {S : List Nat} (h : DiskAt w b d S) (at_ : Int) {K : Value → World → Prop} (hK : K (.tuple #[.string (str (d.read at_).1), .int .i64 (d.read at_).2]) w) :
    callG Tryz.prog 35 #[.pointer (some ⟨b, 0, none⟩), .int .i64 at_] w K := by
  refine disk_Disk_Read_call ?_
  simp only [disk_Disk_Read, disk_Disk_Read_s0]
  refine has_spec h at_ ?_
  obtain ⟨bs, bn, lv, SL, T, Ts, Tn, rfl, h⟩ := h
  unfold DK.read at hK
  by_cases hat : 0 ≤ at_ ∧ at_ < d.now.length
  · rw [if_pos hat] at hK
    cases ho : d.off with
    | true => rw [ho, if_pos rfl] at hK; simpa [hat, h.hb, ho, str] using hK
    | false =>
      rw [ho, if_neg (by simp)] at hK
      have hi : at_.toNat < d.now.length := by omega
      have hlen := rows_len h.ok.sz2
      have hget := rows_get h.ok.sz2 hi
      have hle : at_.toNat * 32 + 32 ≤ (d.now.map u8c).flatten.length := by rw [hlen]; omega
      simpa [-List.length_flatten, hat, h.hb, ho, cvBS, h.hn, hle, hget, bytesOf_u8c, str] using hK
  · rw [if_neg hat] at hK
    simpa [hat, str] using hK
def DK.settled (d : DK) : DK := { d with l := [] }
theorem rep_rows {k : Nat} {v : List Value} (hv : v.length = k) (hk : 0 < k) (n : Nat) : rep v.toArray (n * k) = (List.replicate n v).flatten.toArray := by
  apply Array.ext
  · simp [rep, hv]
  · intro i h1 h2
    have hi : i < n * k := by simpa [rep] using h1
    simp only [rep, Array.getElem_map, Array.getElem_range, List.size_toArray, hv]
    have hm : i % k < k := Nat.mod_lt _ hk
    have hd : i / k < n := (Nat.div_lt_iff_lt_mul hk).2 hi
    have hfl : ((List.replicate n v).flatten.drop ((i / k) * k)).take k = v := by
      rw [flat_get (k := k) (by intro x hx; rw [List.mem_replicate] at hx; rw [hx.2, hv]) (by simpa using hd)]
      simp
    have hidx : i / k * k + i % k = i := by rw [Nat.mul_comm]; exact Nat.div_add_mod i k
    have e2 := congrArg (fun l => l[i % k]?) hfl
    simp only [List.getElem?_take_of_lt hm, List.getElem?_drop, hidx] at e2
    have h2' : i < (List.replicate n v).flatten.length := by simpa using h2
    rw [List.getElem?_eq_getElem h2', List.getElem?_eq_getElem (by omega)] at e2
    injection e2 with e2
    rw [List.getElem_toArray, e2]
    simp [hv, hm]
theorem zc93 : zc Tryz.prog 95 = (Value.int .i64 0 :: List.replicate 32 (Value.int .u8 0)).toArray := by kernel_rfl
theorem zc91 : zc Tryz.prog 93 = (List.replicate 32 (Value.int .u8 0)).toArray := by kernel_rfl
theorem one_all_replicate (n : Nat) (v : List Value) (hv : v.all one = true) : (List.replicate n v).flatten.toArray.all one = true := by
  rw [List.all_toArray, List.all_eq_true]
  intro x hx
  rw [List.mem_flatten] at hx
  obtain ⟨y, hy, hxy⟩ := hx
  rw [List.mem_replicate] at hy
  rw [hy.2] at hxy
  exact List.all_eq_true.1 hv x hxy
theorem settles_spec {w : World} {b : Nat} {d : DK} {S : List Nat} (h : DiskAt w b d S) {K : Value → World → Prop} (hK : ∀ w', DiskAt w' b d.settled S → Kp S w w' → K (.tuple #[]) w') :
    callG Tryz.prog 50 #[.pointer (some ⟨b, 0, none⟩)] w K := by
  refine disk_Disk_settles_call ?_
  obtain ⟨bs, bn, lv, SL, T, Ts, Tn, rfl, h⟩ := h
  obtain ⟨n1, n2, n3, n4, n5, n6, n7, n8, n9, n10⟩ := h.ne
  have hlv := live_of h.hb
  rcases h.hl with ⟨h1, h2, h3⟩ | ⟨bl, F, TF, h1, h2, h3, h4, h5, h6⟩
  · subst h1; subst h3
    have g := h.head d.fuse d.off h.ok.f0 h.ok.f1
    have hl0 : d.l = [] := by simpa using h2
    have hd : d.settled = { d with fuse := d.fuse, off := d.off } := by simp [DK.settled, ← hl0]
    have := hK _ (by rw [hd]; exact ⟨bs, bn, _, [], T, Ts, Tn, rfl, g.1⟩) (g.2.mono (by simp))
    simpa [disk_Disk_settles, disk_Disk_settles_s0, h.hb, clr] using this
  · simp only [List.length_map] at h1 h5 h6
    subst h1; subst h2
    simp only [List.mem_singleton] at n3 n5 n6
    have nl : ¬ bl = b := fun hh => n3 hh.symm
    have nl2 : ¬ bl = bs := fun hh => n5 hh.symm
    have nl3 : ¬ bl = bn := fun hh => n6 hh.symm
    have hlvl := live_of h3
    -- the head behind it
    have fin : ∀ F' : List (List Value), F'.length = F.length → (∀ x ∈ F', x.length = 33) →
        K (.tuple #[]) (setBlk (setBlk w bl (.cells F'.flatten.toArray TF (0, 0))) b (.cells #[.slice (some ⟨bs, 0, none⟩) d.now.length d.now.length, .slice (some ⟨bn, 0, none⟩) d.now.length d.now.length, .slice (some ⟨bl, 0, none⟩) 0 F.length, .int .i64 d.fuse, .bool d.off] T (0, 0))) := by
      intro F' hF' hF'r
      have hk : Kp [b, bl] w (setBlk (setBlk w bl (.cells F'.flatten.toArray TF (0, 0))) b (.cells #[.slice (some ⟨bs, 0, none⟩) d.now.length d.now.length, .slice (some ⟨bn, 0, none⟩) d.now.length d.now.length, .slice (some ⟨bl, 0, none⟩) 0 F.length, .int .i64 d.fuse, .bool d.off] T (0, 0))) :=
        ((Kp.refl _ _).setBlk (.inl (by simp)) _).setBlk (.inl (by simp)) _
      refine hK _ ⟨bs, bn, .slice (some ⟨bl, 0, none⟩) 0 F.length, [bl], T, Ts, Tn, rfl, heap_self (by simpa using hlv), hk.get h.hs (by simp [n8]; exact fun hh => nl2 hh.symm), hk.get h.hn (by simp [n9]; exact fun hh => nl3 hh.symm), ?_, h.nd, ?_⟩ (hk.mono (by simp))
      · refine .inr ⟨bl, F', TF, by simp [DK.settled, hF'], rfl, ?_, hF'r, by simp [DK.settled], by simp [DK.settled]⟩
        rw [heap_ne n3, heap_self hlvl]
      · exact ⟨h.ok.len, h.ok.pos, h.ok.most, h.ok.sz1, h.ok.sz2, by simp [DK.settled], h.ok.f0, h.ok.f1⟩
    cases hm : d.l.length with
    | zero =>
      have := fin F rfl h4
      have hself : setBlk w bl (.cells F.flatten.toArray TF (0, 0)) = w := setBlk_self h3
      rw [hself] at this
      have hite : (if F.length = 0 then some (⟨bl, 0, none⟩ : Addr) else some ⟨bl, 0, none⟩) = some ⟨bl, 0, none⟩ := by split <;> rfl
      simpa [disk_Disk_settles, disk_Disk_settles_s0, h.hb, clr, hm, hite] using this
    | succ m =>
      have hle : m + 1 ≤ F.length := by omega
      have hfl := flat_len h4
      have := fin (List.replicate (m + 1) (Value.int .i64 0 :: List.replicate 32 (Value.int .u8 0)) ++ F.drop (m + 1)) (by simp; omega) (by
        intro x hx
        rw [List.mem_append] at hx
        rcases hx with hx | hx
        · rw [List.mem_replicate] at hx; rw [hx.2]; simp
        · exact h4 x (List.mem_of_mem_drop hx))
      have hsp := flat_splice_many (i := 0) h4 (G := List.replicate (m + 1) (Value.int .i64 0 :: List.replicate 32 (Value.int .u8 0))) (by intro x hx; rw [List.mem_replicate] at hx; rw [hx.2]; simp) (by simp; omega)
      have hrep := rep_rows (k := 33) (v := Value.int .i64 0 :: List.replicate 32 (Value.int .u8 0)) (by simp) (by omega) (m + 1)
      have hite : (if F.length = 0 then some (⟨bl, 0, none⟩ : Addr) else some ⟨bl, 0, none⟩) = some ⟨bl, 0, none⟩ := by split <;> rfl
      have hcells : splice F.flatten.toArray 0 (rep (zc Tryz.prog 95) ((m + 1) * 33)) = (List.replicate (m + 1) (Value.int .i64 0 :: List.replicate 32 (Value.int .u8 0)) ++ F.drop (m + 1)).flatten.toArray := by
        rw [zc93, hrep, splice_list]
        congr 1
        simpa [-List.length_flatten, -List.flatten_append] using hsp
      have hone : (rep (zc Tryz.prog 95) ((m + 1) * 33)).all one = true := by rw [zc93, hrep]; exact one_all_replicate _ _ (by simp)
      have hsz : (rep (zc Tryz.prog 95) ((m + 1) * 33)).size ≤ F.flatten.length := by
        rw [hfl]; simp [rep]; omega
      simpa [-List.length_flatten, disk_Disk_settles, disk_Disk_settles_s0, h.hb, clr, hm, hite, h3, hcells, hone, hsz, heap_ne nl] using this
end Go.Proofs

set_option linter.unusedVariables false
set_option linter.unusedSimpArgs false
namespace Go.Proofs
open Go Go.Q
theorem zc56 : zc Tryz.prog 54 = #[.slice none 0 0, .slice none 0 0, .slice none 0 0, .int .i64 0, .bool false] := by kernel_rfl
def secs0 (n : Nat) : List (List UInt8) := List.replicate n (List.replicate 32 0)
def DK.fresh (n : Nat) : DK := { sure := secs0 n, now := secs0 n, l := [], fuse := -1, off := false }
theorem secs0_cells (n : Nat) : rep (zc Tryz.prog 93) (n * 32) = ((secs0 n).map u8c).flatten.toArray := by
  rw [zc91, rep_rows (k := 32) (by simp) (by omega)]
  simp [secs0, u8c]
theorem fresh_ok {n : Nat} (h1 : 1 ≤ n) (h2 : n ≤ 4096) : (DK.fresh n).Ok :=
  ⟨rfl, by simp [DK.fresh, secs0]; omega, by simp [DK.fresh, secs0]; omega, by intro x hx; simp only [DK.fresh, secs0, List.mem_replicate] at hx; rw [hx.2]; simp,
   by intro x hx; simp only [DK.fresh, secs0, List.mem_replicate] at hx; rw [hx.2]; simp, by simp [DK.fresh], by simp [DK.fresh], by simp [DK.fresh]⟩
theorem New_ok {w : World} {n : Nat} (h1 : 1 ≤ n) (h2 : n ≤ 4096) {K : Value → World → Prop}
    (hK : ∀ w' b S, DiskAt w' b (DK.fresh n) S → Kp [] w w' → (∀ x ∈ S, w.heap.size ≤ x) → K (.tuple #[.pointer (some ⟨b, 0, none⟩), .int .i64 0]) w') : callG Tryz.prog 10 #[.int .i64 n] w K := by
  refine disk_New_call ?_
  have ha : ¬ ((n : Int) < 1) := by omega
  have hb : ¬ ((4096 : Int) < n) := by omega
  have hn1 : ((n : Int)).toNat = n := by omega
  have hlen : (DK.fresh n).now.length = n := by simp [DK.fresh, secs0]
  have one : ∀ bs bn, ((bs = w.heap.size ∧ bn = w.heap.size + 1) ∨ (bs = w.heap.size + 1 ∧ bn = w.heap.size)) →
      K (.tuple #[.pointer (some ⟨w.heap.size + 2, 0, none⟩), .int .i64 0]) ((((w.alloc (.cells ((secs0 n).map u8c).flatten.toArray 93)).alloc (.cells ((secs0 n).map u8c).flatten.toArray 93)).alloc
        (.cells #[.slice (some ⟨bs, 0, none⟩) n n, .slice (some ⟨bn, 0, none⟩) n n, .slice none 0 0, .int .i64 (-1), .bool false] 54)).drew) := by
    intro bs bn hbb
    refine hK _ _ [w.heap.size + 2, bs, bn] ⟨bs, bn, .slice none 0 0, [], 54, 93, 93, rfl, ?_, ?_, ?_, .inl ⟨rfl, rfl, rfl⟩, ?_, fresh_ok h1 h2⟩ ?_ ?_
    · rw [hlen]; simp only [heap_drew, heap_alloc, World.size_alloc]; (repeat (first | rw [if_pos (by first | trivial | omega)] | rw [if_neg (by omega)])); rfl
    · rcases hbb with ⟨rfl, rfl⟩ | ⟨rfl, rfl⟩ <;> simp only [heap_drew, heap_alloc, World.size_alloc] <;> (repeat (first | rw [if_pos (by first | trivial | omega)] | rw [if_neg (by omega)])) <;> rfl
    · rcases hbb with ⟨rfl, rfl⟩ | ⟨rfl, rfl⟩ <;> simp only [heap_drew, heap_alloc, World.size_alloc] <;> (repeat (first | rw [if_pos (by first | trivial | omega)] | rw [if_neg (by omega)])) <;> rfl
    · rcases hbb with ⟨rfl, rfl⟩ | ⟨rfl, rfl⟩ <;> simp
    · exact ((((Kp.refl _ _).alloc _).alloc _).alloc _).drew
    · intro x hx
      simp only [List.mem_cons, List.not_mem_nil, or_false] at hx
      rcases hbb with ⟨rfl, rfl⟩ | ⟨rfl, rfl⟩ <;> rcases hx with hx | hx | hx <;> omega
  have hone := one w.heap.size (w.heap.size + 1) (.inl ⟨rfl, rfl⟩)
  have htwo := one (w.heap.size + 1) w.heap.size (.inr ⟨rfl, rfl⟩)
  have hb2 : (32 : Int) * n ≤ 281474976710656 := by omega
  have hb3 : (n : Int) < 9223372036854775808 := by omega
  have hb0 : (0 : Int) ≤ n := by omega
  simp [disk_New, disk_New_s0, ha, hb, mkG, hb2, hb3, hn1, secs0_cells, zc56, bld, Instr.fill, Value.cells]
  exact ⟨hone, htwo⟩
end Go.Proofs

set_option linter.unusedVariables false
set_option linter.unusedSimpArgs false
namespace Go.Proofs
open Go Go.Q
def DK.write (d : DK) (at_ : Int) (s : List UInt8) : DK × Int :=
  if (0 ≤ at_ ∧ at_ < d.now.length) ∧ s.length = 32 then
    (if d.burns.2 = true then ({ d.burns.1 with now := d.now.set at_.toNat s, l := d.l ++ [(at_.toNat, s)] }, 0) else (d.burns.1, 30))
  else (d, 1)
theorem DK.burns_now (d : DK) : d.burns.1.now = d.now ∧ d.burns.1.l = d.l ∧ d.burns.1.sure = d.sure := by
  unfold DK.burns; split <;> simp
theorem set_cells {L : List (List UInt8)} (h : ∀ x ∈ L, x.length = 32) {i : Nat} (hi : i < L.length) {s : List UInt8} (hs : s.length = 32) :
    splice (L.map u8c).flatten.toArray (i * 32) (u8c s).toArray = ((L.set i s).map u8c).flatten.toArray := by
  rw [splice_list, flat_splice (k := 32) (by intro x hx; rw [List.mem_map] at hx; obtain ⟨y, hy, rfl⟩ := hx; simp [h y hy]) (by simpa using hi) (by simp [hs])]
  congr 2
  rw [List.map_set]
  congr 1
  rw [List.drop_of_length_le (by simp [hs, h _ (List.getElem_mem hi)])]
  simp
theorem bld93 {n : Int} {cs : Array Value} (hc : cs.size = 32) {k : Value → Prop} : bld [(0, 1), (1, 32)] (zc Tryz.prog 95) #[(0, .int .i64 n), (1, .agg cs)] k = k (.agg (.int .i64 n :: cs.toList).toArray) := by
  have hz : (zc Tryz.prog 95).size = 33 := by rw [zc93]; simp
  unfold bld
  rw [fill_step (off := 0) (size := 1) rfl rfl (by omega), fill_step (off := 1) (size := 32) rfl (show (Value.agg cs).cells.size = 32 from hc) (by rw [splice_size (by simp [Value.cells, hz])]; omega)]
  have hdrop : (zc Tryz.prog 95).toList.drop 33 = [] := List.drop_of_length_le (by simp [hz])
  have e : splice (splice (zc Tryz.prog 95) 0 (Value.cells (.int .i64 n))) 1 (Value.cells (.agg cs)) = (.int .i64 n :: cs.toList).toArray := by
    simp [splice, Value.cells, hc, hdrop]
  simp only [Instr.fill, e]
theorem bsl93 {cs : Array Value} (hc : cs.size = 33) {w : World} {k : Value → World → Prop} : bsl 95 33 1 (zc Tryz.prog 95) #[(0, .agg cs)] w k = k (.slice (some ⟨w.heap.size, 0, none⟩) 1 1) (w.alloc (.cells cs 95)) := by
  have hr : (rep (zc Tryz.prog 95) (1 * 33)).size = 33 := by simp [rep]
  unfold bsl
  show (match Instr.fill (fun i => some (i * 33, 33)) (rep (zc Tryz.prog 95) (1 * 33)) [(0, Value.agg cs)] with | some cs => k (Value.slice (some ⟨w.heap.size, 0, none⟩) 1 1) (w.alloc (Obj.cells cs 95)) | none => False) = _
  rw [fill_step (off := 0) (size := 33) rfl (show (Value.agg cs).cells.size = 33 from hc) (by omega)]
  have hdrop : (rep (zc Tryz.prog 95) 33).toList.drop 33 = [] := List.drop_of_length_le (by simpa using Nat.le_of_eq hr)
  have e : splice (rep (zc Tryz.prog 95) (1 * 33)) 0 (Value.cells (.agg cs)) = cs := by
    simp [splice, Value.cells, hc, hdrop]
  simp only [Instr.fill, e]
theorem Write_spec {w : World} {b : Nat} {d : DK} {S : List Nat} (h : DiskAt w b d S) (hl : d.l.length < 2 ^ 40) (at_ : Int) (s : List UInt8) {K : Value → World → Prop}
    (hK : ∀ w' S', DiskAt w' b (d.write at_ s).1 S' → Kp S w w' → (∀ x ∈ S', x ∈ S ∨ w.heap.size ≤ x) → K (.int .i64 (d.write at_ s).2) w') :
    callG Tryz.prog 90 #[.pointer (some ⟨b, 0, none⟩), .int .i64 at_, .string (str s)] w K := by
  refine disk_Disk_Write_call ?_
  simp only [disk_Disk_Write, disk_Disk_Write_s1]
  refine has_spec h at_ ?_
  unfold DK.write at hK
  by_cases hat : (0 ≤ at_ ∧ at_ < d.now.length) ∧ s.length = 32
  case neg =>
    rw [if_neg hat] at hK
    have := hK w S h (Kp.refl _ _) (fun x hx => .inl hx)
    by_cases ha : 0 ≤ at_ ∧ at_ < d.now.length
    · have hs : ¬ s.length = 32 := fun hs => hat ⟨ha, hs⟩
      have hs' : ¬ ((s.length : Int) = 32) := by omega
      simpa [ha, hs'] using this
    · simpa [ha] using this
  case pos =>
    rw [if_pos hat] at hK
    obtain ⟨ha, hs⟩ := hat
    have hs' : ((s.length : Int) = 32) := by omega
    suffices hmain : disk_Disk_Write_s0 K (.pointer (some ⟨b, 0, none⟩)) (.int .i64 at_) (.string (str s)) w by
      simpa [ha, hs'] using hmain
    unfold disk_Disk_Write_s0
    refine burns_spec h fun w1 h1 hk1 => ?_
    obtain ⟨hnow, hlog, hsure⟩ := d.burns_now
    have hbS : b ∈ S := by obtain ⟨bs, bn, lv, SL, T, Ts, Tn, rfl, _⟩ := h; simp
    cases hb2 : d.burns.2 with
    | false =>
      rw [hb2] at hK
      have := hK w1 S h1 (hk1.mono (by simpa using fun _ => hbS)) (fun x hx => .inl hx)
      simpa using this
    | true =>
      rw [hb2] at hK
      simp only [if_true] at hK
      generalize hd1 : d.burns.1 = d1 at *
      obtain ⟨bs, bn, lv, SL, T, Ts, Tn, rfl, h1⟩ := h1
      obtain ⟨n1, n2, n3, n4, n5, n6, n7, n8, n9, n10⟩ := h1.ne
      have hlv := live_of h1.hb
      have hlvn := live_of h1.hn
      have hi : at_.toNat < d1.now.length := by rw [hnow]; omega
      have hlen := rows_len h1.ok.sz2
      have hle : at_.toNat * 32 + 32 ≤ (d1.now.map u8c).flatten.length := by rw [hlen]; omega
      have hset := set_cells h1.ok.sz2 hi hs
      have hsz2 : ∀ x ∈ d1.now.set at_.toNat s, x.length = 32 := by
        intro x hx
        rcases List.mem_or_eq_of_mem_set hx with hx | hx
        · exact h1.ok.sz2 x hx
        · rw [hx, hs]
      have hget := rows_get hsz2 (i := at_.toNat) (by simpa using hi)
      have hsget : (d1.now.set at_.toNat s).getD at_.toNat [] = s := by simp [List.getD, hi]
      have hext : (str s).extract 0 32 = str s := by
        have := ByteArray.extract_zero_size (b := str s)
        simpa [hs] using this
      have hcs : u8s (str s) = (u8c s).toArray := by rw [u8s_eq]; rfl
      have hon := one_u8c s
      have hle2 : at_.toNat * 32 + 32 ≤ ((d1.now.set at_.toNat s).map u8c).flatten.length := by rw [rows_len hsz2]; simp; omega
      have hat' : at_ < d1.now.length := by rw [hnow]; exact ha.2
      obtain ⟨N2, hN2⟩ : ∃ N2, N2 = ((d1.now.set at_.toNat s).map u8c).flatten.toArray := ⟨_, rfl⟩
      obtain ⟨N1, hN1⟩ : ∃ N1, N1 = (d1.now.map u8c).flatten.toArray := ⟨_, rfl⟩
      obtain ⟨cs, hcs2⟩ : ∃ cs, cs = (u8c s).toArray := ⟨_, rfl⟩
      have hn1 := h1.hn
      have hcsz : cs.size = 32 := by rw [hcs2]; simp [hs]
      have hN1s : at_.toNat * 32 + 32 ≤ N1.size := by rw [hN1]; exact hle
      have hN2s : at_.toNat * 32 + 32 ≤ N2.size := by rw [hN2]; exact hle2
      have hN2e : N2.extract (at_.toNat * 32) (at_.toNat * 32 + 32) = cs := by rw [hN2, extract_list, hget, hsget, hcs2]
      rw [← hcs2] at hcs hset hon
      rw [← hN1, ← hN2] at hset
      rw [← hN1] at hn1
      have hencs : encW (at_.toNat, s) = .int .i64 at_ :: cs.toList := by rw [hcs2]; simp [encW, Int.toNat_of_nonneg ha.1]
      simp [hs, ha.1, hat', h1.hb, hn1, cp, src, wrO, hext, hcs, hcsz, hN1s, hset, hN2s, hN2e, heap_self, hlv, hlvn, heap_ne n9, bld93, bsl93, heap_old]
      refine ⟨fun i hi => by rw [Array.all_eq_true] at hon; exact hon i (by omega), ?_⟩
      obtain ⟨W, hW⟩ : ∃ W, W = ((setBlk w1 bn (Obj.cells N2 Tn)).alloc (Obj.cells (Value.int IntKind.i64 at_ :: cs.toList).toArray 95)).drew := ⟨_, rfl⟩
      rw [← hW]
      have hkW : Kp [bn] w1 W := by rw [hW]; exact (((Kp.refl _ _).setBlk (.inl (by simp)) _).alloc _).drew
      have hWb := hkW.get h1.hb (by simpa using n2)
      have hWs := hkW.get h1.hs (by simpa using n4)
      have hWn : W.heap[bn]? = some (.cells N2 Tn (0, 0)) := by rw [hW]; simp only [heap_drew]; rw [heap_old (by simpa using hlvn), heap_self hlvn]
      have hWl : RowsAt W lv 33 (d1.l.map encW) SL := RowsAt.keep h1.hl hkW (fun x hx => by simp; intro hh; subst hh; exact n6 hx)
      have hWx : W.heap[w1.heap.size]? = some (.cells (encW (at_.toNat, s)).toArray 95 (0, 0)) := by
        rw [hW, hencs]; simp only [heap_drew]
        have := heap_new (w := setBlk w1 bn (Obj.cells N2 Tn)) (o := Obj.cells (Value.int IntKind.i64 at_ :: cs.toList).toArray 95)
        rw [size_setBlk] at this
        exact this
      have henl : (encW (at_.toNat, s)).length = 33 := by simp [encW, hs]
      rw [zc93]
      refine rows_app (rows := d1.l.map encW) (G := [encW (at_.toNat, s)]) hWl (by omega) (by simp) (by simpa using henl) ?_ ?_ ?_ ?_ ?_
      · have := one_u8c s
        rw [List.all_toArray] at this
        simpa [encW] using this
      · intro K' hk'
        have : (encW (at_.toNat, s)).toArray.extract 0 33 = (encW (at_.toNat, s)).toArray := by rw [← henl]; simp
        simpa [srcA, hWx, henl, this] using hk'
      · simp only [List.length_map, List.length_singleton, hlog]; omega
      · simp only [List.length_map, List.length_singleton, hlog]; omega
      · intro v' w' S' hr hk' hS'
        obtain ⟨a, c, hv', _⟩ := hr.len
        have hone' : one v' = true := by rw [hv']; rfl
        have hb' := hk'.get hWb n3
        have hs2 := hk'.get hWs n5
        have hn2 := hk'.get hWn n6
        have hlt : ∀ x, x ∈ b :: bs :: bn :: SL → x < w1.heap.size := by
          intro x hx
          simp only [List.mem_cons] at hx
          rcases hx with rfl | rfl | rfl | hx
          · exact hlv
          · exact live_of h1.hs
          · exact hlvn
          · exact RowsAt.lt h1.hl x hx
        have hWsz := hkW.size
        have hd' : ∀ x ∈ S', x ≠ b ∧ x ≠ bs ∧ x ≠ bn := by
          intro x hx
          rcases hS' x hx with hx | hx
          · exact ⟨fun hh => n3 (hh ▸ hx), fun hh => n5 (hh ▸ hx), fun hh => n6 (hh ▸ hx)⟩
          · have := hlt b (by simp); have := hlt bs (by simp); have := hlt bn (by simp)
            exact ⟨by omega, by omega, by omega⟩
        obtain ⟨w2, hw2⟩ : ∃ w2, w2 = setBlk w' b (.cells #[.slice (some ⟨bs, 0, none⟩) d1.now.length d1.now.length, .slice (some ⟨bn, 0, none⟩) d1.now.length d1.now.length, v', .int .i64 d1.fuse, .bool d1.off] T (0, 0)) := ⟨_, rfl⟩
        have hk2 : Kp [b] w' w2 := by rw [hw2]; exact (Kp.refl _ _).setBlk (.inl (by simp)) _
        have := hK w2 (b :: bs :: bn :: S') ⟨bs, bn, v', S', T, Ts, Tn, rfl, ?_, ?_, ?_, ?_, ?_, ?_⟩ ?_ ?_
        · simpa [hone', hb', hw2] using this
        · have := heap_self (o := .cells #[.slice (some ⟨bs, 0, none⟩) d1.now.length d1.now.length, .slice (some ⟨bn, 0, none⟩) d1.now.length d1.now.length, v', .int .i64 d1.fuse, .bool d1.off] T (0, 0)) (live_of hb')
          rw [hw2, this]; simp [hnow]
        · exact hk2.get hs2 (by simpa using n8)
        · rw [hN2, hnow] at hn2; exact hk2.get hn2 (by simpa using n9)
        · have := RowsAt.keep hr hk2 (fun x hx => by simpa using (hd' x hx).1)
          rw [hlog] at this
          simpa [LogAt] using this
        · have := hr.nodup
          simp only [List.nodup_cons, List.mem_cons, not_or]
          exact ⟨⟨n1, n2, fun hx => (hd' _ hx).1 rfl⟩, ⟨n4, fun hx => (hd' _ hx).2.1 rfl⟩, fun hx => (hd' _ hx).2.2 rfl, this⟩
        · refine ⟨by simpa [hsure, hnow] using h1.ok.len, by simpa [hnow] using h1.ok.pos, by simpa [hnow] using h1.ok.most, h1.ok.sz1, by rw [hnow] at hsz2; exact hsz2, ?_, h1.ok.f0, h1.ok.f1⟩
          intro x hx
          rw [List.mem_append] at hx
          simp only [List.length_set]
          rcases hx with hx | hx
          · have := h1.ok.szl x (by rw [hlog]; exact hx); rw [hnow] at this; exact this
          · simp only [List.mem_singleton] at hx; subst hx; exact ⟨by rw [hnow] at hi; exact hi, hs⟩
        · have e1 : Kp (b :: bs :: bn :: SL) w w1 := hk1.mono (by simp)
          have e2 : Kp (b :: bs :: bn :: SL) w1 W := hkW.mono (by simp)
          have e3 : Kp (b :: bs :: bn :: SL) W w' := hk'.mono (fun x hx _ => by simp [hx])
          have e4 : Kp (b :: bs :: bn :: SL) w' w2 := hk2.mono (by simp)
          exact ((e1.trans' e2).trans' e3).trans' e4
        · intro x hx
          simp only [List.mem_cons] at hx ⊢
          rcases hx with hx | hx | hx | hx
          · exact .inl (.inl hx)
          · exact .inl (.inr (.inl hx))
          · exact .inl (.inr (.inr (.inl hx)))
          · rcases hS' x hx with hx | hx
            · exact .inl (.inr (.inr (.inr hx)))
            · exact .inr (by have := hk1.size; omega)
end Go.Proofs

set_option linter.unusedVariables false
set_option linter.unusedSimpArgs false
namespace Go.Proofs
open Go Go.Q
def applyAll (L : List (List UInt8)) (l : List (Nat × List UInt8)) : List (List UInt8) := l.foldl (fun L x => L.set x.1 x.2) L
def DK.flush (d : DK) : DK × Int :=
  if d.burns.2 = true then ({ d.burns.1 with sure := applyAll d.sure d.l, l := [] }, 0) else (d.burns.1, 30)
theorem DiskIs.setSure {w : World} {b : Nat} {d : DK} {bs bn : Nat} {lv : Value} {SL : List Nat} {T Ts Tn : Nat} (h : DiskIs w b d bs bn lv SL T Ts Tn) (L : List (List UInt8)) (hL : ∀ x ∈ L, x.length = 32) (hn : L.length = d.sure.length) :
    DiskIs (setBlk w bs (.cells (L.map u8c).flatten.toArray Ts (0, 0))) b { d with sure := L } bs bn lv SL T Ts Tn ∧ Kp [bs] w (setBlk w bs (.cells (L.map u8c).flatten.toArray Ts (0, 0))) := by
  obtain ⟨n1, n2, n3, n4, n5, n6, n7, n8, n9, n10⟩ := h.ne
  have hk : Kp [bs] w (setBlk w bs (.cells (L.map u8c).flatten.toArray Ts (0, 0))) := (Kp.refl _ _).setBlk (.inl (by simp)) _
  exact ⟨⟨hk.get h.hb (by simpa using n1), heap_self (live_of h.hs), hk.get h.hn (by simpa using n10), RowsAt.keep h.hl hk (fun x hx => by simp; intro hh; subst hh; exact n5 hx), h.nd,
    ⟨by rw [hn]; exact h.ok.len, h.ok.pos, h.ok.most, hL, h.ok.sz2, h.ok.szl, h.ok.f0, h.ok.f1⟩⟩, hk⟩
theorem DiskIs.keep {w w' : World} {b : Nat} {d : DK} {bs bn : Nat} {lv : Value} {SL : List Nat} {T Ts Tn : Nat} {S' : List Nat} (h : DiskIs w b d bs bn lv SL T Ts Tn) (hk : Kp S' w w') (hd : ∀ x ∈ b :: bs :: bn :: SL, x ∉ S') :
    DiskIs w' b d bs bn lv SL T Ts Tn :=
  ⟨hk.get h.hb (hd _ (by simp)), hk.get h.hs (hd _ (by simp)), hk.get h.hn (hd _ (by simp)), RowsAt.keep h.hl hk (fun x hx => hd x (by simp [hx])), h.nd, h.ok⟩
theorem DiskIs.live {w : World} {b : Nat} {d : DK} {bs bn : Nat} {lv : Value} {SL : List Nat} {T Ts Tn : Nat} (h : DiskIs w b d bs bn lv SL T Ts Tn) : ∀ x ∈ b :: bs :: bn :: SL, x < w.heap.size := by
  intro x hx
  simp only [List.mem_cons] at hx
  rcases hx with rfl | rfl | rfl | hx
  · exact live_of h.hb
  · exact live_of h.hs
  · exact live_of h.hn
  · exact RowsAt.lt h.hl x hx
theorem take_snoc {α : Type} {l : List α} {i : Nat} (hi : i < l.length) : l.take (i + 1) = l.take i ++ [l[i]] := by
  rw [List.take_succ_eq_append_getElem hi]
theorem Flush_loop {R : Value → World → Prop} {w0 : World} {b : Nat} {d : DK} {bs bn : Nat} {lv : Value} {SL : List Nat} {T Ts Tn : Nat} (h0 : DiskIs w0 b d bs bn lv SL T Ts Tn) (hlen : d.l.length < 2 ^ 40)
    (hend : ∀ w', DiskIs w' b { d with sure := applyAll d.sure d.l } bs bn lv SL T Ts Tn → Kp [bs] w0 w' → disk_Disk_Flush_s0 R (.pointer (some ⟨b, 0, none⟩)) w') :
    disk_Disk_Flush_L2 R (.pointer (some ⟨b, 0, none⟩)) lv (.int .i64 d.l.length) (.int .i64 0) w0 := by
  unfold disk_Disk_Flush_L2
  refine loop_inv (fun m xs w => ∃ i, i ≤ d.l.length ∧ m = d.l.length - i ∧ xs = [.pointer (some ⟨b, 0, none⟩), lv, .int .i64 d.l.length, .int .i64 i] ∧
    DiskIs w b { d with sure := applyAll d.sure (d.l.take i) } bs bn lv SL T Ts Tn ∧ Kp [bs] w0 w) ?_ (m := d.l.length) ⟨0, by omega, by omega, rfl, h0, Kp.refl _ _⟩
  rintro m N xs w ⟨i, hi, rfl, rfl, h, hk⟩ hN
  simp only [disk_Disk_Flush_L2F, disk_Disk_Flush_b1, bq_lss, bV_b]
  refine ⟨fun hlt => ?_, fun hge => ?_⟩
  · have hlt : i < d.l.length := by simpa using hlt
    obtain ⟨n1, n2, n3, n4, n5, n6, n7, n8, n9, n10⟩ := h.ne
    obtain ⟨bl, TF, c, hbl, hheap, hia, hle, hext, _⟩ := RowsAt.at h.hl (i := i) (by simpa using hlt)
    have hrow : (d.l.map encW)[i]'(by simpa using hlt) = encW d.l[i] := by simp
    simp only at hia hext
    rw [hrow] at hext
    have hx := h0.ok.szl d.l[i] (List.getElem_mem hlt)
    have hin := hN (d.l.length - (i + 1)) [.pointer (some ⟨b, 0, none⟩), lv, .int .i64 d.l.length, .int .i64 ((i + 1 : Nat) : Int)]
    have hencl : (encW d.l[i]).length = 33 := by simp [encW, hx.2]
    have hext2 : ((encW d.l[i]).toArray.extract 1 33) = (u8c d.l[i].2).toArray := by
      have := extract_list (encW d.l[i]) 1 32
      rw [this]
      have h32 : (u8c d.l[i].2).take 32 = u8c d.l[i].2 := List.take_of_length_le (by simp [hx.2])
      simp [encW, h32]
    have hzsz : (zc Tryz.prog 95).size = 33 := by rw [zc93]; simp
    have hsp : splice (zc Tryz.prog 95) 0 (encW d.l[i]).toArray = (encW d.l[i]).toArray := by
      have : (zc Tryz.prog 95).toList.drop 33 = [] := List.drop_of_length_le (by simp [hzsz])
      simp [splice, hencl, this]
    have hone : (encW d.l[i]).toArray.all one = true := by
      have := one_u8c d.l[i].2
      rw [List.all_toArray] at this ⊢
      simpa [encW] using this
    have hgen : ∀ k, k < w.heap.size → k ≠ w.heap.size := fun k hk => by omega
    obtain ⟨E, hE⟩ : ∃ E, E = (encW d.l[i]).toArray := ⟨_, rfl⟩
    have hE0 : E[0]? = some (.int .i64 d.l[i].1) := by rw [hE]; rfl
    have hEs : E.size = 33 := by rw [hE]; simpa using hencl
    rw [← hE] at hext hext2 hsp hone
    rw [hia]
    have hlb := live_of h.hb
    have hls := live_of h.hs
    have hks : Kp [] w (w.alloc (.cells E 95)) := (Kp.refl _ _).alloc _
    have h' := h.keep hks (by simp)
    have hiw : IntKind.i64.wrap ((i : Int) + 1) = ((i + 1 : Nat) : Int) := by rw [w64 (by omega) (by omega)]; simp
    simp [-getElem?_pos, -Array.getElem?_eq_getElem, -List.length_flatten, List.getElem?_cons_zero, List.getElem?_cons_succ, hheap, hle, hext, hEs, hzsz, hone, hsp, h.hb, heap_new, heap_old, hlb, hls, hE0, hext2, hx.1, h.hs, hiw]
    refine ⟨fun j hj => by rw [Array.all_eq_true] at hone; exact hone j (by omega), ?_⟩
    have hi1 : d.l[i].1 < (applyAll d.sure (d.l.take i)).length := by have := h.ok.len; simp only at this; omega
    have hsz := h.ok.sz1
    simp only at hsz
    have hcells := set_cells hsz hi1 hx.2
    rw [hcells]
    have hL : applyAll d.sure (d.l.take (i + 1)) = (applyAll d.sure (d.l.take i)).set d.l[i].1 d.l[i].2 := by unfold applyAll; rw [take_snoc hlt, List.foldl_append]; rfl
    have hset := h'.setSure ((applyAll d.sure (d.l.take i)).set d.l[i].1 d.l[i].2) (by
      intro x hx'
      rcases List.mem_or_eq_of_mem_set hx' with hx' | hx'
      · exact hsz x hx'
      · rw [hx']; exact hx.2) (by simp)
    have hkd : ∀ w, Kp [] w w.drew := fun w => (Kp.refl _ w).drew
    refine ⟨hx.2, ⟨by rw [rows_len hsz, hx.2]; omega, by have := one_u8c d.l[i].2; rw [List.all_toArray, List.all_eq_true] at this; exact this⟩, ?_⟩
    refine hin _ (by omega) ⟨i + 1, hlt, rfl, by simp, ?_, ?_⟩
    · rw [hL]; exact hset.1.keep (hkd _) (by simp)
    · exact (hk.trans' ((hks.mono (by simp)).trans' hset.2)).drew
  · have hie : i = d.l.length := by simp at hge; omega
    subst hie
    rw [List.take_length] at h
    exact hend w h hk
theorem Flush_spec {w : World} {b : Nat} {d : DK} {S : List Nat} (h : DiskAt w b d S) (hl : d.l.length < 2 ^ 40) {K : Value → World → Prop}
    (hK : ∀ w', DiskAt w' b d.flush.1 S → Kp S w w' → K (.int .i64 d.flush.2) w') : callG Tryz.prog 91 #[.pointer (some ⟨b, 0, none⟩)] w K := by
  refine disk_Disk_Flush_call ?_
  simp only [disk_Disk_Flush, disk_Disk_Flush_s4]
  refine Size_spec h ?_
  have hp : d.now ≠ [] := by
    obtain ⟨bs, bn, lv, SL, T, Ts, Tn, rfl, h⟩ := h
    intro hh; have := h.ok.pos; rw [hh] at this; simp at this
  suffices hmain : callG Tryz.prog 117 #[.pointer (some ⟨b, 0, none⟩)] w fun t11 w =>
      qG Tryz.prog (Op.unary .not t11) w fun t12 => bV t12 (K (.int .i64 30) w) (disk_Disk_Flush_s3 K (.pointer (some ⟨b, 0, none⟩)) w) by
    simpa [hp] using hmain
  refine burns_spec h fun w1 h1 hk1 => ?_
  obtain ⟨hnow, hlog, hsure⟩ := d.burns_now
  unfold DK.flush at hK
  have hbS : b ∈ S := by obtain ⟨bs, bn, lv, SL, T, Ts, Tn, rfl, _⟩ := h; simp
  have hk1' : Kp S w w1 := hk1.mono (by simpa using fun _ => hbS)
  cases hb2 : d.burns.2 with
  | false =>
    rw [hb2] at hK
    have := hK w1 h1 hk1'
    simpa using this
  | true =>
    rw [hb2] at hK
    simp only [if_true] at hK
    generalize hd1 : d.burns.1 = d1 at *
    obtain ⟨bs, bn, lv, SL, T, Ts, Tn, rfl, h1⟩ := h1
    obtain ⟨a, c, hlv⟩ := LogAt.len h1.hl
    suffices hmain : disk_Disk_Flush_L2 K (.pointer (some ⟨b, 0, none⟩)) lv (.int .i64 d1.l.length) (.int .i64 0) w1 by
      rw [hlv] at hmain
      simpa [disk_Disk_Flush_s3, h1.hb, hlv] using hmain
    refine Flush_loop h1 (by rw [hlog]; exact hl) fun w2 h2 hk2 => ?_
    simp only [disk_Disk_Flush_s0]
    refine settles_spec ⟨bs, bn, lv, SL, T, Ts, Tn, rfl, h2⟩ fun w3 h3 hk3 => ?_
    refine hK w3 ?_ ((hk1'.trans' (hk2.mono (by simp))).trans' hk3)
    rw [hsure, hlog] at h3
    exact h3
def crashL : List (Nat × List UInt8) → List Int → List (List UInt8) → List (List UInt8)
  | [], _, L => L
  | _ :: _, [], L => L
  | x :: l, k :: ks, L => crashL l ks (L.set x.1 (x.2.take (max 0 (min k 32)).toNat ++ (L.getD x.1 []).drop (max 0 (min k 32)).toNat))
def crash1 (x : Nat × List UInt8) (k : Option Int) (L : List (List UInt8)) : List (List UInt8) :=
  match k with
  | none => L
  | some k => L.set x.1 (x.2.take (max 0 (min k 32)).toNat ++ (L.getD x.1 []).drop (max 0 (min k 32)).toNat)
theorem crashL_snoc (x : Nat × List UInt8) : ∀ (l : List (Nat × List UInt8)) (ks : List Int) (L : List (List UInt8)), crashL (l ++ [x]) ks L = crash1 x ks[l.length]? (crashL l ks L) := by
  intro l
  induction l with
  | nil => intro ks L; cases ks <;> rfl
  | cons y r ih =>
    intro ks L
    cases ks with
    | nil => rfl
    | cons k ks => simp only [List.cons_append, crashL, ih]; rfl
theorem crashL_ok {n : Nat} : ∀ {l : List (Nat × List UInt8)} {ks : List Int} {L : List (List UInt8)}, (∀ x ∈ L, x.length = 32) → L.length = n → (∀ x ∈ l, x.1 < n ∧ x.2.length = 32) → (∀ x ∈ crashL l ks L, x.length = 32) ∧ (crashL l ks L).length = n := by
  intro l
  induction l with
  | nil => intro ks L hL hn _; exact ⟨hL, hn⟩
  | cons y r ih =>
    intro ks L hL hn hl
    cases ks with
    | nil => exact ⟨hL, hn⟩
    | cons k ks =>
      have hy := hl y (by simp)
      refine ih (fun x hx => ?_) (by simpa using hn) (fun x hx => hl x (by simp [hx]))
      rcases List.mem_or_eq_of_mem_set hx with hx | hx
      · exact hL x hx
      · have hg : (L.getD y.1 []).length = 32 := by
          have : y.1 < L.length := by omega
          simp only [List.getD, List.getElem?_eq_getElem this, Option.getD_some]
          exact hL _ (List.getElem_mem this)
        have hle : (max 0 (min k 32)).toNat ≤ 32 := by omega
        rw [hx, List.length_append, List.length_take, List.length_drop, hg, hy.2]; omega
def DK.crash (d : DK) (ks : List Int) : DK := { sure := crashL d.l ks d.sure, now := crashL d.l ks d.sure, l := [], fuse := -1, off := false }
end Go.Proofs

set_option linter.unusedVariables false
set_option linter.unusedSimpArgs false
namespace Go.Proofs
open Go Go.Q
theorem pre_cells {L : List (List UInt8)} (h : ∀ x ∈ L, x.length = 32) {i : Nat} (hi : i < L.length) {s : List UInt8} (hs : s.length ≤ 32) :
    splice (L.map u8c).flatten.toArray (i * 32) (u8c s).toArray = ((L.set i (s ++ (L.getD i []).drop s.length)).map u8c).flatten.toArray := by
  rw [splice_list, flat_splice (k := 32) (by intro x hx; rw [List.mem_map] at hx; obtain ⟨y, hy, rfl⟩ := hx; simp [h y hy]) (by simpa using hi) (by simp [hs])]
  congr 2
  rw [List.map_set]
  congr 1
  rw [u8c_append, ← u8c_drop]
  simp [List.getD, hi]
theorem DiskIs.setNow {w : World} {b : Nat} {d : DK} {bs bn : Nat} {lv : Value} {SL : List Nat} {T Ts Tn : Nat} (h : DiskIs w b d bs bn lv SL T Ts Tn) (L : List (List UInt8)) (hL : ∀ x ∈ L, x.length = 32) (hn : L.length = d.now.length) :
    DiskIs (setBlk w bn (.cells (L.map u8c).flatten.toArray Tn (0, 0))) b { d with now := L } bs bn lv SL T Ts Tn ∧ Kp [bn] w (setBlk w bn (.cells (L.map u8c).flatten.toArray Tn (0, 0))) := by
  obtain ⟨n1, n2, n3, n4, n5, n6, n7, n8, n9, n10⟩ := h.ne
  have hk : Kp [bn] w (setBlk w bn (.cells (L.map u8c).flatten.toArray Tn (0, 0))) := (Kp.refl _ _).setBlk (.inl (by simp)) _
  exact ⟨⟨by simp only [hn]; exact hk.get h.hb (by simpa using n2), hk.get h.hs (by simpa using n4), heap_self (live_of h.hn), RowsAt.keep h.hl hk (fun x hx => by simp; intro hh; subst hh; exact n6 hx), h.nd,
    ⟨by simp only [hn]; exact h.ok.len, by simp only [hn]; exact h.ok.pos, by simp only [hn]; exact h.ok.most, h.ok.sz1, hL, by simp only [hn]; exact h.ok.szl, h.ok.f0, h.ok.f1⟩⟩, hk⟩
theorem Crash_loop {R : Value → World → Prop} {w0 : World} {b : Nat} {d : DK} {bs bn : Nat} {lv kv : Value} {ks : List Int} {SK : List Nat} {SL : List Nat} {T Ts Tn : Nat} (h0 : DiskIs w0 b d bs bn lv SL T Ts Tn) (hlen : d.l.length < 2 ^ 40)
    (hks : IntsAt w0 kv ks SK) (hdis : ∀ x ∈ SK, x ∉ b :: bs :: bn :: SL) (hkw : ∀ x ∈ ks, -9223372036854775808 ≤ x ∧ x < 9223372036854775808)
    (hend : ∀ w', DiskIs w' b { d with sure := crashL d.l ks d.sure } bs bn lv SL T Ts Tn → Kp [bs] w0 w' → disk_Disk_Crash_s0 R (.pointer (some ⟨b, 0, none⟩)) w') :
    disk_Disk_Crash_L2 R (.pointer (some ⟨b, 0, none⟩)) kv lv (.int .i64 d.l.length) (.int .i64 0) w0 := by
  unfold disk_Disk_Crash_L2
  have hstart : crashL (d.l.take 0) ks d.sure = d.sure := rfl
  refine loop_inv (fun m xs w => ∃ i, i ≤ d.l.length ∧ m = d.l.length - i ∧ xs = [.pointer (some ⟨b, 0, none⟩), kv, lv, .int .i64 d.l.length, .int .i64 i] ∧
    DiskIs w b { d with sure := crashL (d.l.take i) ks d.sure } bs bn lv SL T Ts Tn ∧ Kp [bs] w0 w) ?_ (m := d.l.length) ⟨0, by omega, by omega, rfl, by rw [hstart]; exact h0, Kp.refl _ _⟩
  rintro m N xs w ⟨i, hi, rfl, rfl, h, hk⟩ hN
  simp only [disk_Disk_Crash_L2F, disk_Disk_Crash_b1, bq_lss, bV_b]
  refine ⟨fun hlt => ?_, fun hge => ?_⟩
  · have hlt : i < d.l.length := by simpa using hlt
    have hks' : IntsAt w kv ks SK := hks.keep hk (fun x hx => by
      have := hdis x hx
      simp only [List.mem_cons, not_or] at this
      simp [this.2.1])
    obtain ⟨n1, n2, n3, n4, n5, n6, n7, n8, n9, n10⟩ := h.ne
    obtain ⟨bl, TF, c, hbl, hheap, hia, hle, hext, _⟩ := RowsAt.at h.hl (i := i) (by simpa using hlt)
    have hrow : (d.l.map encW)[i]'(by simpa using hlt) = encW d.l[i] := by simp
    simp only at hia hext
    rw [hrow] at hext
    have hx := h0.ok.szl d.l[i] (List.getElem_mem hlt)
    have hin := hN (d.l.length - (i + 1)) [.pointer (some ⟨b, 0, none⟩), kv, lv, .int .i64 d.l.length, .int .i64 ((i + 1 : Nat) : Int)]
    have hencl : (encW d.l[i]).length = 33 := by simp [encW, hx.2]
    have hzsz : (zc Tryz.prog 95).size = 33 := by rw [zc93]; simp
    have hsp : splice (zc Tryz.prog 95) 0 (encW d.l[i]).toArray = (encW d.l[i]).toArray := by
      have : (zc Tryz.prog 95).toList.drop 33 = [] := List.drop_of_length_le (by simp [hzsz])
      simp [splice, hencl, this]
    have hone : (encW d.l[i]).toArray.all one = true := by
      have := one_u8c d.l[i].2
      rw [List.all_toArray] at this ⊢
      simpa [encW] using this
    obtain ⟨E, hE⟩ : ∃ E, E = (encW d.l[i]).toArray := ⟨_, rfl⟩
    have hE0 : E[0]? = some (.int .i64 d.l[i].1) := by rw [hE]; rfl
    have hEs : E.size = 33 := by rw [hE]; simpa using hencl
    have hEx : ∀ n, n ≤ 32 → E.extract 1 (1 + n) = (u8c (d.l[i].2.take n)).toArray := by
      intro n hn
      rw [hE, extract_list, ← u8c_take]
      simp [encW]
    rw [← hE] at hext hsp hone
    have hlb := live_of h.hb
    have hls := live_of h.hs
    have hks1 : Kp [] w (w.alloc (.cells E 95)) := (Kp.refl _ _).alloc _
    have h' := h.keep hks1 (by simp)
    have hiw : IntKind.i64.wrap ((i : Int) + 1) = ((i + 1 : Nat) : Int) := by rw [w64 (by omega) (by omega)]; simp
    obtain ⟨ka, kc, hkv⟩ := hks'.len
    have hkl : ∀ K : Value → Prop, lenL kv K = K (.int .i64 ks.length) := by intro K; rw [hkv]; rfl
    have hi1 : d.l[i].1 < (crashL (d.l.take i) ks d.sure).length := by have := h.ok.len; simp only at this; omega
    have hsz := h.ok.sz1
    simp only at hsz
    have hL : crashL (d.l.take (i + 1)) ks d.sure = crash1 d.l[i] ks[i]? (crashL (d.l.take i) ks d.sure) := by
      rw [take_snoc hlt, crashL_snoc]; simp [Nat.min_eq_left hi]
    have hkd : ∀ w, Kp [] w w.drew := fun w => (Kp.refl _ w).drew
    rw [hia]
    by_cases hik : i < ks.length
    · obtain ⟨bk, ok, ck, Tk, frk, hbk, hkheap, hkia, hkc⟩ := hks'.at hik
      have hkne := live_of hkheap
      obtain ⟨q, hq⟩ : ∃ q, q = ks.getD i 0 := ⟨_, rfl⟩
      rw [← hq] at hkc
      have hki : ks[i]? = some q := by rw [hq]; simp [List.getD, hik]
      obtain ⟨n, hn⟩ : ∃ n, n = (max 0 (min q 32)).toNat := ⟨_, rfl⟩
      have hnq : max 0 (min q 32) = (n : Int) := by omega
      have hn32 : n ≤ 32 := by omega
      have hpre := pre_cells hsz hi1 (s := d.l[i].2.take n) (by simp; omega)
      have hmin : Nat.min 32 n = n := Nat.min_eq_right hn32
      have htl : (d.l[i].2.take n).length = n := by simp [hx.2, hn32]
      rw [htl] at hpre
      have honep := one_u8c (d.l[i].2.take n)
      obtain ⟨X, hX⟩ : ∃ X, X = (u8c (d.l[i].2.take n)).toArray := ⟨_, rfl⟩
      have hEX : E.extract 1 (1 + n) = X := by rw [hEx n hn32, hX]
      have hXs : X.size = n := by rw [hX]; simpa using htl
      rw [← hX] at hpre honep
      simp [-getElem?_pos, -Array.getElem?_eq_getElem, -List.length_flatten, List.getElem?_cons_zero, List.getElem?_cons_succ, hheap, hle, hext, hEs, hzsz, hone, hsp, h.hb, heap_new, heap_old, hlb, hls, hE0, hx.1, h.hs, hiw, hkl, hik, hkia, hkheap, hkc, hkne, hnq, hn32, cp, src, wrO, hmin, hEX, hXs, hpre]
      have hset := h'.setSure ((crashL (d.l.take i) ks d.sure).set d.l[i].1 (d.l[i].2.take n ++ ((crashL (d.l.take i) ks d.sure).getD d.l[i].1 []).drop n)) (by
        intro x hx'
        have hok := crashL_ok (n := d.now.length) (ks := ks) (l := d.l.take (i + 1)) h0.ok.sz1 (by have := h0.ok.len; exact this) (fun x hx => h0.ok.szl x (List.mem_of_mem_take hx))
        rw [hL, hki] at hok
        simp only [crash1, ← hn] at hok
        exact hok.1 x hx') (by simp)
      refine ⟨fun j hj => by rw [Array.all_eq_true] at hone; exact hone j (by omega), by omega, by omega, ⟨by rw [rows_len hsz]; omega, by rw [show min (1 + n) 33 - 1 = X.size by omega]; exact honep⟩, ?_⟩
      refine hin _ (by omega) ⟨i + 1, hlt, rfl, by simp, ?_, ?_⟩
      · rw [hL, hki]; simp only [crash1, ← hn]
        have := hset.1.keep (hkd _) (by simp)
        simpa using this
      · have := (hk.trans' ((hks1.mono (by simp)).trans' hset.2)).drew
        simpa using this
    · have hki : ks[i]? = none := by simp; omega
      simp [-getElem?_pos, -Array.getElem?_eq_getElem, -List.length_flatten, List.getElem?_cons_zero, List.getElem?_cons_succ, hheap, hle, hext, hEs, hzsz, hone, hsp, h.hb, heap_new, heap_old, hlb, hls, hE0, hx.1, h.hs, hiw, hkl, hik]
      refine ⟨fun j hj => by rw [Array.all_eq_true] at hone; exact hone j (by omega), ?_⟩
      refine hin _ (by omega) ⟨i + 1, hlt, rfl, by simp, ?_, hk.trans' (hks1.mono (by simp))⟩
      rw [hL, hki]
      exact h'
  · have hie : i = d.l.length := by simp at hge; omega
    subst hie
    rw [List.take_length] at h
    exact hend w h hk
theorem Crash_spec {w : World} {b : Nat} {d : DK} {S : List Nat} (h : DiskAt w b d S) (hl : d.l.length < 2 ^ 40) {kv : Value} {ks : List Int} {SK : List Nat} (hks : IntsAt w kv ks SK) (hdis : ∀ x ∈ SK, x ∉ S)
    (hkw : ∀ x ∈ ks, -9223372036854775808 ≤ x ∧ x < 9223372036854775808) {K : Value → World → Prop}
    (hK : ∀ w', DiskAt w' b (d.crash ks) S → Kp S w w' → K (.int .i64 0) w') : callG Tryz.prog 21 #[.pointer (some ⟨b, 0, none⟩), kv] w K := by
  refine disk_Disk_Crash_call ?_
  simp only [disk_Disk_Crash, disk_Disk_Crash_s4]
  refine Size_spec h ?_
  obtain ⟨bs, bn, lv, SL, T, Ts, Tn, rfl, h⟩ := h
  have hp : d.now ≠ [] := by intro hh; have := h.ok.pos; rw [hh] at this; simp at this
  obtain ⟨a, c, hlv⟩ := LogAt.len h.hl
  suffices hmain : disk_Disk_Crash_L2 K (.pointer (some ⟨b, 0, none⟩)) kv lv (.int .i64 d.l.length) (.int .i64 0) w by
    rw [hlv] at hmain
    simpa [hp, disk_Disk_Crash_s3, h.hb, hlv] using hmain
  refine Crash_loop h hl hks hdis hkw fun w1 h1 hk1 => ?_
  obtain ⟨n1, n2, n3, n4, n5, n6, n7, n8, n9, n10⟩ := h1.ne
  have hok := crashL_ok (n := d.now.length) (ks := ks) (l := d.l) h.ok.sz1 h.ok.len h.ok.szl
  -- now is what is sure
  obtain ⟨L, hL⟩ : ∃ L, L = crashL d.l ks d.sure := ⟨_, rfl⟩
  rw [← hL] at hok h1
  obtain ⟨C, hC⟩ : ∃ C, C = (L.map u8c).flatten.toArray := ⟨_, rfl⟩
  obtain ⟨N, hN⟩ : ∃ N, N = (d.now.map u8c).flatten.toArray := ⟨_, rfl⟩
  have hs := h1.hs
  have hn := h1.hn
  simp only at hs hn
  rw [← hC] at hs
  rw [← hN] at hn
  have hCs : C.size = d.now.length * 32 := by
    have := rows_len hok.1
    rw [hok.2] at this
    rw [hC]; exact this
  have hNs : N.size = d.now.length * 32 := by
    have := rows_len h.ok.sz2
    rw [hN]; exact this
  have hCone : C.all one = true := by
    rw [hC, List.all_toArray, List.all_eq_true]
    intro x hx
    rw [List.mem_flatten] at hx
    obtain ⟨y, hy, hxy⟩ := hx
    rw [List.mem_map] at hy
    obtain ⟨z, _, rfl⟩ := hy
    have := one_u8c z
    rw [List.all_toArray, List.all_eq_true] at this
    exact this x hxy
  have hCx : C.extract 0 (d.now.length * 32) = C := by rw [← hCs]; simp
  have hsp : splice N 0 C = C := by
    have : N.toList.drop C.size = [] := List.drop_of_length_le (by simp [hNs, hCs])
    simp [splice, this]
  have hlb := live_of h1.hb
  have hln := live_of h1.hn
  simp [-getElem?_pos, -Array.getElem?_eq_getElem, -List.length_flatten, List.getElem?_cons_zero, List.getElem?_cons_succ, disk_Disk_Crash_s0, h1.hb, hs, hn, cp, src, wrO, hCs, hNs, hCx, hsp, hCone]
  refine ⟨by rw [← hCs]; exact hCone, ?_⟩
  have hnow := h1.setNow L hok.1 hok.2
  rw [← hC] at hnow
  have hk2 : Kp [bn] w1 (setBlk w1 bn (.cells C Tn (0, 0))).drew := hnow.2.drew
  have h2 : DiskIs (setBlk w1 bn (.cells C Tn (0, 0))).drew b { sure := L, now := L, l := d.l, fuse := d.fuse, off := d.off } bs bn lv SL T Ts Tn := hnow.1.keep (Kp.refl [] _).drew (by simp)
  refine settles_spec ⟨bs, bn, lv, SL, T, Ts, Tn, rfl, h2⟩ fun w3 h3 hk3 => ?_
  obtain ⟨bs', bn', lv', SL', T', Ts', Tn', hS, h3⟩ := h3
  have hlv3 := live_of h3.hb
  have hhead := h3.head (-1) false (by omega) (by omega)
  simp only [List.cons.injEq, true_and] at hS
  obtain ⟨rfl, rfl, rfl⟩ := hS
  subst hL
  have := hK _ ⟨bs, bn, lv', SL, T', Ts', Tn', rfl, hhead.1⟩ ((((hk1.mono (by simp)).trans' (hk2.mono (by simp))).trans' hk3).trans' (hhead.2.mono (by simp)))
  simp [-getElem?_pos, -Array.getElem?_eq_getElem, -List.length_flatten, List.getElem?_cons_zero, List.getElem?_cons_succ, h3.hb, heap_self, hlv3]
  simpa [DK.settled] using this
end Go.Proofs

set_option linter.unusedVariables false
set_option linter.unusedSimpArgs false
namespace Go.Proofs
open Go Go.Q
structure LG where
  lo : Int
  hi : Int
  turn : Int
  l : List (List UInt8)
  used : List UInt8
def LogIs (w : World) (a b : Nat) (g : LG) (SL : List Nat) (lv : Value) : Prop :=
  w.heap[a]? = some (.cells #[.pointer (some ⟨b, 0, none⟩), .int .i64 g.lo, .int .i64 g.hi, .int .i64 g.turn, lv, .string (str g.used)] 141) ∧ RowsAt w lv 1 (g.l.map strV) SL ∧ a ∉ SL
theorem LogIs.keep {w w' : World} {a b : Nat} {g : LG} {SL S' : List Nat} {lv : Value} (h : LogIs w a b g SL lv) (hk : Kp S' w w') (h1 : a ∉ S') (h2 : ∀ x ∈ SL, x ∉ S') : LogIs w' a b g SL lv :=
  ⟨hk.get h.1 h1, h.2.1.keep hk h2, h.2.2⟩
theorem given_spec {w : World} {a b : Nat} {g : LG} {SL : List Nat} {lv : Value} (h : LogIs w a b g SL lv) {K : Value → World → Prop} (hK : K (.bool true) w) : callG Tryz.prog 94 #[.pointer (some ⟨a, 0, none⟩)] w K := by
  refine wal_Log_given_call ?_
  simpa [wal_Log_given, wal_Log_given_s0, h.1] using hK
theorem Clone_spec {w : World} {v : Value} {l : List (List UInt8)} {S : List Nat} (h : RowsAt w v 1 (l.map strV) S) (hl : l.length < 2 ^ 40) {K : Value → World → Prop}
    (hK : ∀ w' v' S', RowsAt w' v' 1 (l.map strV) S' → Kp [] w w' → (∀ y ∈ S', w.heap.size ≤ y) → K v' w') : callG Tryz.prog 115 #[v] w K := by
  refine slices_Clone_string_string_call ?_
  simp only [slices_Clone_string_string, slices_Clone_string_string_s0]
  obtain ⟨sa, sc, hv, _⟩ := h.len
  have hnil : sa = none → l = [] := by
    intro h0
    subst h0
    rcases h with ⟨_, h2, _⟩ | ⟨bl, F, T, h1, _⟩
    · simpa using h2
    · rw [h1] at hv; cases hv
  rw [hv, bq_sleql _ _ _ _ _ (by kernel_rfl)]
  simp only [bV_b]
  refine ⟨fun h0 => ?_, fun h0 => ?_⟩
  · have : l = [] := hnil (by simpa using h0)
    subst this
    exact hK w _ [] (.inl ⟨rfl, rfl, rfl⟩) (Kp.refl _ _) (by simp)
  · have hb : ∀ K : Value → World → Prop, bsl 9 1 0 (zc Tryz.prog 9) #[] w K = K (.slice (some ⟨w.heap.size, 0, none⟩) 0 0) (w.alloc (.cells #[] 9)) := by
      intro K
      have hr : rep (zc Tryz.prog 9) (0 * 1) = #[] := by simp [rep]
      unfold bsl
      rw [hr]
      rfl
    rw [hb, zc9]
    obtain ⟨w1, hw1⟩ : ∃ w1, w1 = w.alloc (.cells #[] 9) := ⟨_, rfl⟩
    have hk1 : Kp [] w w1 := by rw [hw1]; exact (Kp.refl [] w).alloc _
    have hb1 : w1.heap[w.heap.size]? = some (.cells #[] 9) := by rw [hw1]; exact heap_new
    rw [← hw1, ← hv]
    have h1 : RowsAt w1 (.slice (some ⟨w.heap.size, 0, none⟩) 0 0) 1 [] [w.heap.size] := .inr ⟨_, [], 9, rfl, rfl, hb1, by simp, rfl, by simp⟩
    have hs := (h.keep hk1 (by simp)).rd
    have hone := strV_one l
    refine rows_app (k := 1) (z := [.string ⟨#[]⟩]) (G := l.map strV) h1 (by omega) rfl (fun y hy => hs.row hy) hone (fun K' hK' => hs.src K' hK') (by simp; omega) (by simp; omega) fun v2 w2 S2 h2 hk2 hS2 => ?_
    have hsz := hk1.size
    refine hK w2 v2 S2 (by simpa using h2) (hk1.trans hk2 fun y hy hlt => by simp at hy; omega) fun y hy => ?_
    rcases hS2 y hy with h | h
    · simp at h; omega
    · omega
theorem Records_spec {w : World} {a b : Nat} {g : LG} {SL : List Nat} {lv : Value} (h : LogIs w a b g SL lv) (hl : g.l.length < 2 ^ 40) {K : Value → World → Prop}
    (hK : ∀ w' v' S', RowsAt w' v' 1 (g.l.map strV) S' → Kp [] w w' → (∀ y ∈ S', w.heap.size ≤ y) → K v' w') : callG Tryz.prog 86 #[.pointer (some ⟨a, 0, none⟩)] w K := by
  refine wal_Log_Records_call ?_
  simp only [wal_Log_Records, wal_Log_Records_s0]
  refine given_spec h ?_
  simp [-getElem?_pos, -Array.getElem?_eq_getElem, -List.length_flatten, List.getElem?_cons_zero, List.getElem?_cons_succ, h.1]
  exact Clone_spec h.2.1 hl hK
end Go.Proofs

set_option linter.unusedVariables false
set_option linter.unusedSimpArgs false
namespace Go.Proofs
open Go Go.Q
def allOf (d : DK) (lo n : Nat) : List UInt8 := ((d.now.drop lo).take n).flatten
theorem allOf_succ {d : DK} {lo n : Nat} (h : lo + n < d.now.length) : allOf d lo (n + 1) = allOf d lo n ++ d.now.getD (lo + n) [] := by
  unfold allOf
  rw [List.take_succ_eq_append_getElem (by simp; omega), List.flatten_append]
  simp [List.getD, h]
theorem allOf_len {d : DK} (ok : d.Ok) {lo n : Nat} (h : lo + n ≤ d.now.length) : (allOf d lo n).length = 32 * n := by
  unfold allOf
  rw [flat_len (k := 32) (fun x hx => ok.sz2 x (List.mem_of_mem_drop (List.mem_of_mem_take hx)))]
  simp; omega
theorem mk_func {f : FuncId} {caps : Array Value} {w : World} {K : Value → Prop} : qG Tryz.prog (Instr.makeFunc (.func f) #[] caps) w K = K (.func (.func f) #[] caps) := qG_of rfl
theorem has57 : hasBody Tryz.prog 108 = true := by kernel_rfl
theorem open_fn {w : World} {b xb bb : Nat} {d : DK} {S SB : List Nat} {l : List UInt8} (h : DiskAt w b d S) (hx : w.heap[xb]? = some (.cells #[.pointer (some ⟨b, 0, none⟩)] 34)) (hb : Bld w bb l SB) (at_ : Int) (hl : l.length + (d.read at_).1.length < 2 ^ 40) {K : Value → World → Prop}
    (hK : ∀ w' SB', Bld w' bb (l ++ (d.read at_).1) SB' → Kp SB w w' → (∀ x ∈ SB', x ∈ SB ∨ w.heap.size ≤ x) → K (.int .i64 (d.read at_).2) w') : callG Tryz.prog 108 #[.int .i64 at_, .pointer (some ⟨xb, 0, none⟩), .pointer (some ⟨bb, 0, none⟩)] w K := by
  refine wal_Open_1_call ?_
  simp only [wal_Open_1, wal_Open_1_s0]
  simp [-getElem?_pos, -Array.getElem?_eq_getElem, -List.length_flatten, List.getElem?_cons_zero, List.getElem?_cons_succ, hx]
  refine Read_spec h at_ ?_
  rw [ex0, ex1]
  exact WriteString_spec hb _ hl fun w' SB' h' hk hS => hK w' SB' h' hk hS
theorem open_sectors {w : World} {w0s : Nat} {b xb bb : Nat} {d : DK} {S SB : List Nat} {lo hi : Nat} {lp : Value} (h : DiskAt w b d S) (ok : d.Ok) (hoff : d.off = false) (hx : w.heap[xb]? = some (.cells #[.pointer (some ⟨b, 0, none⟩)] 34)) (hb : Bld w bb [] SB)
    (hd : ∀ x ∈ SB, w0s ≤ x) (hS0 : ∀ x ∈ S, x < w0s) (hx0 : xb ∉ SB) (hxs : w0s ≤ xb) (hxw : xb < w.heap.size) (hws : w0s ≤ w.heap.size) (hlh : lo ≤ hi) (hhi : hi ≤ d.now.length) {K : Value → World → Prop}
    (hK : ∀ w' SB', Bld w' bb (allOf d lo (hi - lo)) SB' → (∀ x ∈ SB', x ∈ SB ∨ w.heap.size ≤ x) → Kp SB w w' → K (.int .i64 0) w') :
    callG Tryz.prog 96 #[lp, .int .i64 lo, .int .i64 hi, .func (.func 108) #[] #[.pointer (some ⟨xb, 0, none⟩), .pointer (some ⟨bb, 0, none⟩)]] w K := by
  refine wal_Log_sectors_call ?_
  simp only [wal_Log_sectors, wal_Log_sectors_s4, wal_Log_sectors_s3]
  unfold wal_Log_sectors_L2
  have hmost := ok.most
  refine loop_inv (fun m xs wi => ∃ i SBi, lo + i ≤ hi ∧ m = hi - lo - i ∧ xs = [.int .i64 hi, .func (.func 108) #[] #[.pointer (some ⟨xb, 0, none⟩), .pointer (some ⟨bb, 0, none⟩)], .int .i64 ((lo + i : Nat) : Int)] ∧
      Bld wi bb (allOf d lo i) SBi ∧ (∀ x ∈ SBi, x ∈ SB ∨ w.heap.size ≤ x) ∧ Kp SB w wi)
    ?_ (m := hi - lo) ⟨0, SB, by omega, rfl, by rw [Nat.add_zero], by simpa [allOf] using hb, fun x hx => .inl hx, Kp.refl _ _⟩
  rintro m N xs wi ⟨i, SBi, hi', rfl, rfl, hbi, hSi, hki⟩ hN
  simp only [wal_Log_sectors_L2F, wal_Log_sectors_b1, bq_lss, bV_b]
  refine ⟨fun hlt => ?_, fun hge => ?_⟩
  · have hlt : lo + i < hi := by simp at hlt; omega
    refine ⟨has57, ?_⟩
    have hdi : DiskAt wi b d S := h.keep hki fun x hx hm => by have := hd x hm; have := hS0 x hx; omega
    have hxi := hki.get hx hx0
    have hr : d.read ((lo + i : Nat) : Int) = (d.now.getD (lo + i) [], 0) := by
      unfold DK.read
      rw [if_pos ⟨by omega, by omega⟩, if_neg (by simp [hoff]), Int.toNat_natCast]
    have hal := allOf_len ok (lo := lo) (n := i) (by omega)
    have hal2 := allOf_len ok (lo := lo) (n := i + 1) (by omega)
    have hsucc := allOf_succ (d := d) (lo := lo) (n := i) (by omega)
    have hg32 : (d.now.getD (lo + i) []).length ≤ 32 := by
      rw [hsucc, List.length_append] at hal2; omega
    refine open_fn hdi hxi hbi _ (by rw [hr]; simp only; omega) fun w' SB' hb' hk' hS' => ?_
    rw [hr] at hb' ⊢
    simp only at hb'
    rw [← hsucc] at hb'
    have hiw : IntKind.i64.wrap (((lo + i : Nat) : Int) + 1) = ((lo + (i + 1) : Nat) : Int) := by rw [w64 (by omega) (by omega)]; omega
    have hks := hki.size
    have hkk : Kp SB w w' := hki.trans hk' fun x hx hlt => by
      rcases hSi x hx with h | h
      · exact h
      · omega
    have hiw2 : IntKind.i64.wrap ((lo : Int) + (i : Int) + 1) = ((lo + (i + 1) : Nat) : Int) := by rw [w64 (by omega) (by omega)]; omega
    simp [-getElem?_pos, -Array.getElem?_eq_getElem, -List.length_flatten, List.getElem?_cons_zero, List.getElem?_cons_succ, ]
    rw [hiw2]
    refine hN (hi - lo - (i + 1)) _ _ (by omega) ⟨i + 1, SB', by omega, rfl, rfl, hb', fun x hx => ?_, hkk⟩
    rcases hS' x hx with h | h
    · exact hSi x h
    · exact .inr (by omega)
  · have hie : i = hi - lo := by simp at hge; omega
    subst hie
    unfold wal_Log_sectors_s0
    exact hK wi SBi hbi hSi hki
theorem zc107 : zc Tryz.prog 110 = #[.pointer none, .slice none 0 0] := by kernel_rfl
theorem zc71 : zc Tryz.prog 141 = #[.pointer none, .int .i64 0, .int .i64 0, .int .i64 0, .slice none 0 0, .string (str [])] := by kernel_rfl
theorem bld71 {x0 x1 x2 x3 : Value} (h0 : one x0 = true) (h1 : one x1 = true) (h2 : one x2 = true) (h3 : one x3 = true) {k : Value → Prop} :
    bld [(0, 1), (1, 1), (2, 1), (3, 1), (4, 1), (5, 1)] (zc Tryz.prog 141) #[(0, x0), (1, x1), (2, x2), (3, x3)] k = k (.agg #[x0, x1, x2, x3, .slice none 0 0, .string (str [])]) := by
  have g0 := cells_one h0
  have g1 := cells_one h1
  have g2 := cells_one h2
  have g3 := cells_one h3
  rw [zc71]
  unfold bld
  rw [fill_step (off := 0) (size := 1) rfl (by rw [g0]; rfl) (by simp), g0]
  rw [fill_step (off := 1) (size := 1) rfl (by rw [g1]; rfl) (by simp [splice]), g1]
  rw [fill_step (off := 2) (size := 1) rfl (by rw [g2]; rfl) (by simp [splice]), g2]
  rw [fill_step (off := 3) (size := 1) rfl (by rw [g3]; rfl) (by simp [splice]), g3]
  rfl
theorem scanL_used (t : Int) : ∀ f s, usedOf (scanL t f s) ≤ s.length := by
  intro f
  induction f with
  | zero => intro s; simp [scanL, usedOf]
  | succ f ih =>
    intro s
    unfold scanL
    split
    · rename_i h
      obtain ⟨_, _, _, n4, _⟩ := (next_frame t s).1 h
      have h1 := ih (s.drop (10 + lenAt s))
      have h2 := recOf_len n4
      rw [List.length_drop] at h1
      simp only [usedOf, List.map_cons, List.sum_cons] at h1 ⊢
      omega
    · simp [usedOf]
theorem scan_used (t : Int) (s : List UInt8) : usedOf (scan t s) ≤ s.length := scanL_used t _ s
theorem open_kp {w0 : Nat} {w w' : World} {S : List Nat} (h : Kp S w w') (hS : ∀ x ∈ S, w0 ≤ x) {w0w : World} (hk : Kp [] w0w w) (he : w0 = w0w.heap.size) : Kp [] w0w w' :=
  hk.trans h fun x hx hlt => by have := hS x hx; omega
theorem Open_ok {w : World} {b : Nat} {d : DK} {S : List Nat} (h : DiskAt w b d S) (hoff : d.off = false) {lo hi : Nat} (hlh : lo < hi) (hhi : hi ≤ d.now.length) {turn : Int} (ht : turnOk turn = true) {K : Value → World → Prop}
    (hK : ∀ w' a lv SL, LogIs w' a b ⟨lo, hi, turn, scan turn (allOf d lo (hi - lo)), (allOf d lo (hi - lo)).take (usedOf (scan turn (allOf d lo (hi - lo))))⟩ SL lv → Kp [] w w' → w.heap.size ≤ a → (∀ x ∈ SL, w.heap.size ≤ x) →
      K (.tuple #[.pointer (some ⟨a, 0, none⟩), .int .i64 0]) w') : callG Tryz.prog 84 #[.pointer (some ⟨b, 0, none⟩), .int .i64 lo, .int .i64 hi, .int .i64 turn] w K := by
  refine wal_Open_call ?_
  have ok : d.Ok := by obtain ⟨bs, bn, lv, SL, T, Ts, Tn, rfl, hd⟩ := h; exact hd.ok
  have hSlt : ∀ y ∈ S, y < w.heap.size := fun y hy => by
    obtain ⟨bs, bn, lv, SL, T, Ts, Tn, rfl, hd⟩ := h
    exact hd.live y hy
  have hmost := ok.most
  simp only [wal_Open, wal_Open_s1]
  rw [newG_k]
  obtain ⟨n, hn⟩ : ∃ n, n = w.heap.size := ⟨_, rfl⟩
  obtain ⟨w1, hw1⟩ : ∃ w1, w1 = w.alloc (.cells (Value.cells (.pointer (some ⟨b, 0, none⟩))) 34) := ⟨_, rfl⟩
  have hk1 : Kp [] w w1 := by rw [hw1]; exact (Kp.refl [] w).alloc _
  have hX1 : w1.heap[n]? = some (.cells #[.pointer (some ⟨b, 0, none⟩)] 34) := by rw [hw1, hn]; exact heap_new
  have hs1 : w1.heap.size = n + 1 := by rw [hw1, hn]; simp
  rw [← hn, ← hw1]
  have hlo : ¬ (lo : Int) < 0 := by omega
  simp [-getElem?_pos, -Array.getElem?_eq_getElem, -List.length_flatten, List.getElem?_cons_zero, List.getElem?_cons_succ, hX1]
  refine ⟨fun hbad => by omega, Size_spec (h.keep hk1 (by simp)) ?_⟩
  simp [-getElem?_pos, -Array.getElem?_eq_getElem, -List.length_flatten, List.getElem?_cons_zero, List.getElem?_cons_succ, ]
  refine ⟨fun hbad => by omega, fun _ => ⟨fun hbad => by omega, fun _ => ?_⟩⟩
  refine right_spec turn ?_
  simp [-getElem?_pos, -Array.getElem?_eq_getElem, -List.length_flatten, List.getElem?_cons_zero, List.getElem?_cons_succ, ht]
  unfold wal_Open_s0
  simp only [ld1_p, rd1_mk, hX1]
  have hget : (#[Value.pointer (some ⟨b, 0, none⟩)] : Array Value)[0]? = some (.pointer (some ⟨b, 0, none⟩)) := rfl
  simp only [hget]
  rw [bld71 rfl rfl rfl rfl, newG_k, newG_k, mk_func, zc107]
  have hcells : Value.cells (.agg #[.pointer (some ⟨b, 0, none⟩), .int .i64 lo, .int .i64 hi, .int .i64 turn, .slice none 0 0, .string (str [])]) = #[.pointer (some ⟨b, 0, none⟩), .int .i64 lo, .int .i64 hi, .int .i64 turn, .slice none 0 0, .string (str [])] := rfl
  rw [hcells]
  obtain ⟨w2, hw2⟩ : ∃ w2, w2 = w1.alloc (.cells #[.pointer (some ⟨b, 0, none⟩), .int .i64 lo, .int .i64 hi, .int .i64 turn, .slice none 0 0, .string (str [])] 141) := ⟨_, rfl⟩
  have hk2 : Kp [] w1 w2 := by rw [hw2]; exact (Kp.refl [] w1).alloc _
  have hA2 : w2.heap[n + 1]? = some (.cells #[.pointer (some ⟨b, 0, none⟩), .int .i64 lo, .int .i64 hi, .int .i64 turn, .slice none 0 0, .string (str [])] 141) := by rw [hw2, ← hs1]; exact heap_new
  have hs2 : w2.heap.size = n + 2 := by rw [hw2]; simp [hs1]
  rw [← hw2, hs1, hs2]
  obtain ⟨w3, hw3⟩ : ∃ w3, w3 = w2.alloc (.cells #[.pointer none, .slice none 0 0] 110) := ⟨_, rfl⟩
  have hk3 : Kp [] w2 w3 := by rw [hw3]; exact (Kp.refl [] w2).alloc _
  have hB3 : Bld w3 (n + 2) [] [n + 2] := by rw [hw3, ← hs2]; exact bld_new
  have hs3 : w3.heap.size = n + 3 := by rw [hw3]; simp [hs2]
  rw [← hw3]
  have hk13 := (hk1.trans' hk2).trans' hk3
  have hX3 := (hk2.trans' hk3).get hX1 (by simp)
  have hA3 := hk3.get hA2 (by simp)
  refine open_sectors (w0s := n) (SB := [n + 2]) (h.keep hk13 (by simp)) ok hoff hX3 hB3 (by simp) (by intro x hx; have := hSlt x hx; omega) (by simp) (by omega) (by omega) (by omega) (by omega) hhi fun w4 SB4 hB4 hS4 hk4 => ?_
  obtain ⟨all, hall⟩ : ∃ all, all = allOf d lo (hi - lo) := ⟨_, rfl⟩
  have hlen : all.length = 32 * (hi - lo) := by rw [hall]; exact allOf_len ok (by omega)
  rw [← hall] at hB4 hK
  have hA4 := hk4.get hA3 (by simp)
  have hs4 := hk4.size
  have hS4' : ∀ x ∈ SB4, n + 2 ≤ x := fun x hx => by
    rcases hS4 x hx with h | h
    · simp at h; omega
    · omega
  have ha4 : n + 1 ∉ SB4 := fun hm => by have := hS4' _ hm; omega
  simp [-getElem?_pos, -Array.getElem?_eq_getElem, -List.length_flatten, List.getElem?_cons_zero, List.getElem?_cons_succ, ]
  refine String_spec hB4.done (by omega) fun w5 hB5 hk5 => ?_
  have hs5 := hk5.size
  refine Scan_spec turn all (by omega) fun w6 v S6 hr6 hk6 hS6 => ?_
  have hA6 := hk6.get (hk5.get hA4 ha4) (by simp)
  have l6 := live_of hA6
  have hs6 := hk6.size
  have hv := rows_one hr6
  rw [ex0, ex1]
  simp [-getElem?_pos, -Array.getElem?_eq_getElem, -List.length_flatten, List.getElem?_cons_zero, List.getElem?_cons_succ, hA6, l6, hv]
  obtain ⟨w7, hw7⟩ : ∃ w7, w7 = setBlk w6 (n + 1) (.cells #[.pointer (some ⟨b, 0, none⟩), .int .i64 lo, .int .i64 hi, .int .i64 turn, v, .string (str [])] 141) := ⟨_, rfl⟩
  have hk7 : Kp [n + 1] w6 w7 := by rw [hw7]; exact (Kp.refl _ w6).setBlk (.inl (by simp)) _
  have hA7 : w7.heap[n + 1]? = some (.cells #[.pointer (some ⟨b, 0, none⟩), .int .i64 lo, .int .i64 hi, .int .i64 turn, v, .string (str [])] 141) := by rw [hw7]; exact heap_self l6
  rw [← hw7]
  have hB7 := (hB5.keep hk6 (by simp)).keep hk7 fun x hx => by have := hS4' x hx; simp; omega
  refine String_spec hB7 (by omega) fun w8 hB8 hk8 => ?_
  have hA8 := hk8.get hA7 ha4
  have l8 := live_of hA8
  have hus := scan_used turn all
  have hext : (str all).extract 0 (usedOf (scan turn all)) = str (all.take (usedOf (scan turn all))) := by rw [str_extract]; rfl
  simp [-getElem?_pos, -Array.getElem?_eq_getElem, -List.length_flatten, List.getElem?_cons_zero, List.getElem?_cons_succ, hA8, l8, hext, hus]
  have hk9 : Kp [n + 1] w8 (setBlk w8 (n + 1) (.cells #[.pointer (some ⟨b, 0, none⟩), .int .i64 lo, .int .i64 hi, .int .i64 turn, v, .string (str (all.take (usedOf (scan turn all))))] 141)) := (Kp.refl _ w8).setBlk (.inl (by simp)) _
  have hne6 : ∀ x ∈ S6, x ≠ n + 1 ∧ x ∉ SB4 := fun x hx => by
    have h5 := hS6 x hx
    refine ⟨by omega, fun hm => ?_⟩
    have hlive := (hB5.keep (Kp.refl [] w5) (by simp))
    have : x < w4.heap.size := hB4.live x hm
    omega
  have e1 : Kp [] w w6 := ((open_kp hk4 (w0 := n) (by simp) hk13 hn).trans hk5 fun x hx hlt => by have := hS4' x hx; omega).trans' hk6
  have e2 : Kp [] w w8 := (e1.trans hk7 fun x hx hlt => by simp at hx; omega).trans hk8 fun x hx hlt => by have := hS4' x hx; omega
  refine hK _ (n + 1) v S6 ⟨heap_self l8, ?_, fun hm => (hne6 _ hm).1 rfl⟩ (e2.trans hk9 fun x hx hlt => by simp at hx; omega) (by omega) (fun x hx => by have := hS6 x hx; have := hk13.size; omega)
  exact ((hr6.keep hk7 fun x hx => by have := hne6 x hx; simp; exact this.1).keep hk8 fun x hx => (hne6 x hx).2).keep hk9 fun x hx => by have := hne6 x hx; simp; exact this.1
end Go.Proofs

set_option linter.unusedVariables false
set_option linter.unusedSimpArgs false
namespace Go.Proofs
open Go Go.Q
theorem Sync_spec {w : World} {a b : Nat} {g : LG} {SL S : List Nat} {lv : Value} {d : DK} (h : LogIs w a b g SL lv) (hd : DiskAt w b d S) (hl : d.l.length < 2 ^ 40) {K : Value → World → Prop}
    (hK : ∀ w', DiskAt w' b d.flush.1 S → Kp S w w' → K (.int .i64 d.flush.2) w') : callG Tryz.prog 49 #[.pointer (some ⟨a, 0, none⟩)] w K := by
  refine wal_Log_Sync_call ?_
  simp only [wal_Log_Sync, wal_Log_Sync_s0]
  refine given_spec h ?_
  simp [-getElem?_pos, -Array.getElem?_eq_getElem, -List.length_flatten, List.getElem?_cons_zero, List.getElem?_cons_succ, h.1]
  exact Flush_spec hd hl hK
def secOf (all : List UInt8) (k : Nat) : List UInt8 := (all.take (min (32 * k + 32) all.length)).drop (32 * k)
def putK (d : DK) (lo : Nat) (all : List UInt8) (k : Nat) : DK × Int :=
  if (d.read ((lo + k : Nat) : Int)).2 = 0 then d.write ((lo + k : Nat) : Int) (secOf all k ++ (d.read ((lo + k : Nat) : Int)).1.drop (secOf all k).length) else (d, (d.read ((lo + k : Nat) : Int)).2)
theorem read_len {d : DK} (ok : d.Ok) {at_ : Int} (h : (d.read at_).2 = 0) : (d.read at_).1.length = 32 := by
  unfold DK.read at h ⊢
  split
  · rename_i hc
    rw [if_pos hc] at h
    split
    · rename_i ho; rw [if_pos ho] at h; simp at h
    · have hi : at_.toNat < d.now.length := by omega
      simp only [List.getD, List.getElem?_eq_getElem hi, Option.getD_some]
      exact ok.sz2 _ (List.getElem_mem hi)
  · rename_i hc
    rw [if_neg hc] at h
    simp at h
theorem add_fn {w : World} {a b xa xl : Nat} {g : LG} {SL S : List Nat} {lv : Value} {d : DK} {all : List UInt8} (h : LogIs w a b g SL lv) (hd : DiskAt w b d S) (hl : d.l.length < 2 ^ 40)
    (hxa : w.heap[xa]? = some (.cells #[.string (str all)] 9)) (hxl : w.heap[xl]? = some (.cells #[.pointer (some ⟨a, 0, none⟩)] 56)) {k lo : Nat} (hlo : g.lo = (lo : Int)) (hk : 32 * k < all.length) (hall : all.length < 2 ^ 40) (hlo2 : lo < 2 ^ 40) {K : Value → World → Prop}
    (hK : ∀ w' S', DiskAt w' b (putK d lo all k).1 S' → Kp S w w' → (∀ x ∈ S', x ∈ S ∨ w.heap.size ≤ x) → K (.int .i64 (putK d lo all k).2) w') :
    callG Tryz.prog 97 #[.int .i64 k, .pointer (some ⟨xa, 0, none⟩), .pointer (some ⟨xl, 0, none⟩)] w K := by
  refine wal_Log_Add_1_call ?_
  simp only [wal_Log_Add_1, wal_Log_Add_1_s0]
  have ok : d.Ok := by obtain ⟨bs, bn, lv, SL, T, Ts, Tn, rfl, hd⟩ := hd; exact hd.ok
  have h32 : IntKind.i64.wrap (32 * (k : Int)) = 32 * (k : Int) := w64 (by omega) (by omega)
  have h64 : IntKind.i64.wrap (32 * (k : Int) + 32) = 32 * (k : Int) + 32 := w64 (by omega) (by omega)
  obtain ⟨x, hx⟩ : ∃ x, x = min (32 * k + 32) all.length := ⟨_, rfl⟩
  have hmin : min (32 * (k : Int) + 32) (all.length : Int) = (x : Int) := by omega
  have hlk : IntKind.i64.wrap ((lo : Int) + (k : Int)) = (lo : Int) + (k : Int) := w64 (by omega) (by omega)
  have hA := h.1
  rw [hlo] at hA
  have htn : (32 * (k : Int)).toNat = 32 * k := by omega
  have hsec : (str all).extract (32 * k) x = str (secOf all k) := by rw [str_extract, hx]; rfl
  have hb1 : (0 : Int) ≤ x ∧ (x : Int) ≤ all.length := by omega
  have hb2 : (0 : Int) ≤ 32 * (k : Int) ∧ 32 * (k : Int) ≤ x := by omega
  have hsl : (secOf all k).length = x - 32 * k := by unfold secOf; rw [← hx]; simp; omega
  simp [-getElem?_pos, -Array.getElem?_eq_getElem, -List.length_flatten, List.getElem?_cons_zero, List.getElem?_cons_succ, hxa, hxl, hA, h32, h64, hmin, hlk, htn, hsec]
  refine ⟨by omega, by omega, ?_⟩
  refine Read_spec (hd.keep (Kp.refl [] w).drew (by simp)) _ ?_
  unfold putK at hK
  have hcast : ((lo + k : Nat) : Int) = (lo : Int) + (k : Int) := by simp
  rw [hcast] at hK
  simp [-getElem?_pos, -Array.getElem?_eq_getElem, -List.length_flatten, List.getElem?_cons_zero, List.getElem?_cons_succ, hxa, hxl, hA, hlk]
  have hmx : min x all.length = x := by omega
  rw [hmx]
  have hkd : Kp S w w.drew.drew := (Kp.refl _ _).drew.drew
  refine ⟨fun he => ?_, fun h0 => ⟨?_, ?_⟩⟩
  · rw [if_neg he] at hK
    exact hK w.drew S (hd.keep (Kp.refl [] w).drew (by simp)) (Kp.refl _ _).drew (fun x hx => .inl hx)
  · have := read_len ok h0
    omega
  · have hr := read_len ok h0
    rw [if_pos h0] at hK
    have hext : (str (d.read ((lo : Int) + (k : Int))).1).extract (x - 32 * k) (d.read ((lo : Int) + (k : Int))).1.length = str ((d.read ((lo : Int) + (k : Int))).1.drop (secOf all k).length) := by
      rw [str_extract, List.take_length, hsl]
    rw [hext, bq_sadd (by simp [hsl]; omega), str_append]
    refine Write_spec (hd.keep (Kp.refl [] w).drew.drew (by simp)) hl _ _ fun w' S' h' hk hS => ?_
    exact hK w' S' h' (hkd.trans' hk) hS
end Go.Proofs

set_option linter.unusedVariables false
set_option linter.unusedSimpArgs false
namespace Go.Proofs
open Go Go.Q
theorem burns_same (d : DK) : d.burns.1.sure = d.sure ∧ d.burns.1.l = d.l := by unfold DK.burns; split <;> simp
theorem write_l (d : DK) (at_ : Int) (s : List UInt8) : (d.write at_ s).1.l.length ≤ d.l.length + 1 := by
  obtain ⟨b1, b2⟩ := burns_same d
  unfold DK.write
  split
  · split
    · simp
    · show d.burns.1.l.length ≤ d.l.length + 1
      rw [b2]; omega
  · exact Nat.le_succ _
theorem putK_l (d : DK) (lo : Nat) (all : List UInt8) (k : Nat) : (putK d lo all k).1.l.length ≤ d.l.length + 1 := by
  unfold putK
  split
  · exact write_l _ _ _
  · exact Nat.le_succ _
def putN (lo : Nat) (all : List UInt8) : DK → Nat → Nat → DK × Int
  | d, _, 0 => (d, 0)
  | d, k, n + 1 => if (putK d lo all k).2 = 0 then putN lo all (putK d lo all k).1 (k + 1) n else putK d lo all k
theorem has62 : hasBody Tryz.prog 97 = true := by kernel_rfl
theorem add_sectors {w : World} {a b xa xl : Nat} {g : LG} {SL S : List Nat} {lv lp : Value} {d : DK} {all : List UInt8} (h : LogIs w a b g SL lv) (hd : DiskAt w b d S)
    (hxa : w.heap[xa]? = some (.cells #[.string (str all)] 9)) (hxl : w.heap[xl]? = some (.cells #[.pointer (some ⟨a, 0, none⟩)] 56)) {first last lo : Nat} (hlo : g.lo = (lo : Int)) (hk : 32 * last < all.length + 32) (hfl : first ≤ last) (hall : all.length < 2 ^ 30) (hlo2 : lo < 2 ^ 40)
    (hl : d.l.length + (last - first) < 2 ^ 40) (haS : a ∉ S) (hxaS : xa ∉ S) (hxlS : xl ∉ S) (hSL : ∀ x ∈ SL, x ∉ S) {K : Value → World → Prop}
    (hK : ∀ w' S', DiskAt w' b (putN lo all d first (last - first)).1 S' → Kp S w w' → (∀ x ∈ S', x ∈ S ∨ w.heap.size ≤ x) → K (.int .i64 (putN lo all d first (last - first)).2) w') :
    callG Tryz.prog 96 #[lp, .int .i64 first, .int .i64 last, .func (.func 97) #[] #[.pointer (some ⟨xa, 0, none⟩), .pointer (some ⟨xl, 0, none⟩)]] w K := by
  refine wal_Log_sectors_call ?_
  simp only [wal_Log_sectors, wal_Log_sectors_s4, wal_Log_sectors_s3]
  unfold wal_Log_sectors_L2
  have ha : a < w.heap.size := lt_of_blk h.1
  have hxa' : xa < w.heap.size := lt_of_blk hxa
  have hxl' : xl < w.heap.size := lt_of_blk hxl
  refine loop_inv (fun m xs wi => ∃ k dk Sk, first ≤ k ∧ k ≤ last ∧ m = last - k ∧ xs = [.int .i64 last, .func (.func 97) #[] #[.pointer (some ⟨xa, 0, none⟩), .pointer (some ⟨xl, 0, none⟩)], .int .i64 (k : Nat)] ∧
      putN lo all d first (last - first) = putN lo all dk k (last - k) ∧ DiskAt wi b dk Sk ∧ dk.l.length ≤ d.l.length + (k - first) ∧ Kp S w wi ∧ ∀ x ∈ Sk, x ∈ S ∨ w.heap.size ≤ x)
    ?_ (m := last - first) ⟨first, d, S, by omega, hfl, rfl, rfl, rfl, hd, by omega, Kp.refl _ _, fun x hx => .inl hx⟩
  rintro m N xs wi ⟨k, dk, Sk, hk1, hk2, rfl, rfl, hput, hdk, hlk, hkp, hSk⟩ hN
  simp only [wal_Log_sectors_L2F, wal_Log_sectors_b1, bq_lss, bV_b]
  refine ⟨fun hlt => ?_, fun hge => ?_⟩
  · have hlt : k < last := by simp at hlt; omega
    refine ⟨has62, ?_⟩
    have hi := h.keep hkp haS hSL
    refine add_fn hi hdk (by omega) (hkp.get hxa hxaS) (hkp.get hxl hxlS) (k := k) hlo (by omega) (by omega) hlo2 fun w' S' hd' hk' hS' => ?_
    have hks := hkp.size
    have hkk : Kp S w w' := hkp.trans hk' fun x hx hlt => by
      rcases hSk x hx with h | h
      · exact h
      · omega
    have hSS : ∀ x ∈ S', x ∈ S ∨ w.heap.size ≤ x := fun x hx => by
      rcases hS' x hx with h | h
      · exact hSk x h
      · exact .inr (by omega)
    have hn : last - k = (last - (k + 1)) + 1 := by omega
    rw [hn] at hput
    simp only [putN] at hput
    simp [-getElem?_pos, -Array.getElem?_eq_getElem, -List.length_flatten, List.getElem?_cons_zero, List.getElem?_cons_succ, ]
    refine ⟨fun he => ?_, fun he => ?_⟩
    · rw [if_neg he] at hput
      have := hK w' S' (by rw [hput]; exact hd') hkk hSS
      rw [hput] at this
      exact this
    · rw [if_pos he] at hput
      have hiw : IntKind.i64.wrap ((k : Int) + 1) = ((k + 1 : Nat) : Int) := by rw [w64 (by omega) (by omega)]; simp
      rw [hiw]
      have hpl := putK_l dk lo all k
      exact hN (last - (k + 1)) _ _ (by omega) ⟨k + 1, _, S', by omega, by omega, rfl, rfl, hput, hd', by omega, hkk, hSS⟩
  · have hke : k = last := by simp at hge; omega
    subst hke
    rw [Nat.sub_self] at hput
    unfold wal_Log_sectors_s0
    have := hK wi Sk (by rw [hput]; exact hdk) hkp hSk
    rw [hput] at this
    exact this
end Go.Proofs

set_option linter.unusedVariables false
set_option linter.unusedSimpArgs false
namespace Go.Proofs
open Go Go.Q
def addRun (turn room : Int) : List (List UInt8) → List UInt8 → Bool → Int × List UInt8 × Bool
  | [], b, full => (0, b, full)
  | s :: r, b, full =>
    if (frame turn s).2 = 0 then
      (if full = true ∨ ((frame turn s).1.length : Int) > room - (b.length : Int) then addRun turn room r b true else addRun turn room r (b ++ (frame turn s).1) false)
    else ((frame turn s).2, b, full)
theorem addRun_cons (turn room : Int) (s : List UInt8) (r : List (List UInt8)) (b : List UInt8) (full : Bool) : addRun turn room (s :: r) b full =
    if (frame turn s).2 = 0 then
      (if full = true ∨ ((frame turn s).1.length : Int) > room - (b.length : Int) then addRun turn room r b true else addRun turn room r (b ++ (frame turn s).1) false)
    else ((frame turn s).2, b, full) := rfl
theorem addRun_len (turn room : Int) (hr : 0 ≤ room) : ∀ (r : List (List UInt8)) (b : List UInt8) (full : Bool), (b.length : Int) ≤ room → ((addRun turn room r b full).2.1.length : Int) ≤ room := by
  intro r
  induction r with
  | nil => intro b full h; exact h
  | cons s r ih =>
    intro b full h
    unfold addRun
    split
    · split
      · exact ih b true h
      · rename_i hn
        refine ih _ _ ?_
        rw [not_or] at hn
        rw [List.length_append]
        omega
    · exact h
theorem frame_len_le (t : Int) (s : List UInt8) : (frame t s).1.length ≤ 1034 := by
  unfold frame
  split
  · rename_i h; rw [frameB_len]; omega
  · simp
theorem add_loop {w : World} {a bb xl b : Nat} {g : LG} {SL SB : List Nat} {lv gv : Value} {group : List (List UInt8)} {SG : List Nat} {room : Int} {R : Value → World → Prop}
    (h : LogIs w a b g SL lv) (hgv : ArgAt w gv 1 (group.map strV) SG) (hxl : w.heap[xl]? = some (.cells #[.pointer (some ⟨a, 0, none⟩)] 56)) (hB : Bld w bb [] SB) (haB : a ∉ SB) (hLB : ∀ x ∈ SL, x ∉ SB) (hGB : ∀ x ∈ SG, x ∉ SB) (hxB : xl ∉ SB)
    (hgl : group.length < 2 ^ 40) (hgs : ∀ s ∈ group, s.length < 2 ^ 62) (hroom : 0 ≤ room ∧ room < 2 ^ 30)
    (hbad : ∀ w' e, Kp SB w w' → (addRun g.turn room group [] false).1 = e → e ≠ 0 → R (.int .i64 e) w')
    (hend : ∀ w' SB', Kp SB w w' → (addRun g.turn room group [] false).1 = 0 → Bld w' bb (addRun g.turn room group [] false).2.1 SB' → (∀ x ∈ SB', x ∈ SB ∨ w.heap.size ≤ x) →
      wal_Log_Add_s1 R gv (.pointer (some ⟨xl, 0, none⟩)) (.pointer (some ⟨bb, 0, none⟩)) (.bool (addRun g.turn room group [] false).2.2) w') :
    wal_Log_Add_s4 R gv (.pointer (some ⟨xl, 0, none⟩)) (.pointer (some ⟨bb, 0, none⟩)) (.int .i64 room) (.bool false) w := by
  unfold wal_Log_Add_s4
  rw [hgv.lenL]
  unfold wal_Log_Add_L3
  simp only [List.length_map]
  refine loop_inv (fun m xs wi => ∃ i bi fi SBi, i ≤ group.length ∧ m = group.length - i ∧ xs = [gv, .pointer (some ⟨xl, 0, none⟩), .pointer (some ⟨bb, 0, none⟩), .int .i64 room, .bool fi, gv, .int .i64 group.length, .int .i64 (i : Nat)] ∧
      addRun g.turn room group [] false = addRun g.turn room (group.drop i) bi fi ∧ Bld wi bb bi SBi ∧ (bi.length : Int) ≤ room ∧ Kp SB w wi ∧ ∀ x ∈ SBi, x ∈ SB ∨ w.heap.size ≤ x)
    ?_ (m := group.length) ⟨0, [], false, SB, by omega, rfl, rfl, rfl, hB, by simpa using hroom.1, Kp.refl _ _, fun x hx => .inl hx⟩
  rintro m N xs wi ⟨i, bi, fi, SBi, hi, rfl, rfl, hrun, hbi, hbl, hk, hSi⟩ hN
  simp only [wal_Log_Add_L3F, wal_Log_Add_b2, bq_lss, bV_b]
  refine ⟨fun hlt' => ?_, fun hge => ?_⟩
  · have hi : i < group.length := by simpa using hlt'
    have hiw : IntKind.i64.wrap ((i : Int) + 1) = ((i + 1 : Nat) : Int) := by rw [w64 (by omega) (by omega)]; simp
    have hgi := hgv.keep hk hGB
    obtain ⟨bl, o, T, c, fr, _, hh, hia, _, _, hc⟩ := hgi.at (i := i) (by simpa using hi)
    have h1 : c[o]? = some (.string (str group[i])) := by have := hc 0 (by omega); simpa [strV] using this
    have hxi := hk.get hxl hxB
    have hAi := hk.get h.1 haB
    rw [List.drop_eq_getElem_cons hi] at hrun
    rw [addRun_cons] at hrun
    simp [-getElem?_pos, -Array.getElem?_eq_getElem, -List.length_flatten, List.getElem?_cons_zero, List.getElem?_cons_succ, hia, hh, h1, hxi, hAi]
    refine Frame_spec g.turn group[i] (hgs _ (List.getElem_mem hi)) fun w1 hk1 => ?_
    have hk1' : Kp SB w w1 := hk.trans hk1 (by simp)
    have hb1 := hbi.keep hk1 (by simp)
    have hfl := frame_len_le g.turn group[i]
    have hs1 := hk1'.size
    rw [ex0, ex1]
    simp [-getElem?_pos, -Array.getElem?_eq_getElem, -List.length_flatten, List.getElem?_cons_zero, List.getElem?_cons_succ, ]
    refine ⟨fun he => ?_, fun he => ?_⟩
    · rw [if_neg he] at hrun
      exact hbad w1 _ hk1' (by rw [hrun]) he
    rw [if_pos he] at hrun
    have write : addRun g.turn room group [] false = addRun g.turn room (group.drop (i + 1)) (bi ++ (frame g.turn group[i]).1) false → ((bi ++ (frame g.turn group[i]).1).length : Int) ≤ room →
        callG Tryz.prog 59 #[.pointer (some ⟨bb, 0, none⟩), .string (str (frame g.turn group[i]).1)] w1 fun t64 w => N [gv, .pointer (some ⟨xl, 0, none⟩), .pointer (some ⟨bb, 0, none⟩), .int .i64 room, .bool false, gv, .int .i64 group.length, .int .i64 ((i + 1 : Nat) : Int)] w := by
      intro hr hlen
      refine WriteString_spec hb1 _ (by rw [List.length_append] at hlen; omega) fun w2 S2 hb2 hk2 hS2 => ?_
      have hkk : Kp SB w w2 := hk1'.trans hk2 fun x hx hlt => by
        rcases hSi x hx with h | h
        · exact h
        · omega
      refine hN (group.length - (i + 1)) _ _ (by omega) ⟨i + 1, _, false, S2, by omega, rfl, rfl, hr, hb2, hlen, hkk, fun x hx => ?_⟩
      rcases hS2 x hx with h | h
      · exact hSi x h
      · exact .inr (by omega)
    have skip : addRun g.turn room group [] false = addRun g.turn room (group.drop (i + 1)) bi true →
        N [gv, .pointer (some ⟨xl, 0, none⟩), .pointer (some ⟨bb, 0, none⟩), .int .i64 room, .bool true, gv, .int .i64 group.length, .int .i64 ((i + 1 : Nat) : Int)] w1 := fun hr =>
      hN (group.length - (i + 1)) _ _ (by omega) ⟨i + 1, bi, true, SBi, by omega, rfl, rfl, hr, hb1, hbl, hk1', hSi⟩
    rw [hiw]
    refine ⟨fun hf => ?_, fun hf => ?_⟩
    · rw [if_pos (.inl hf)] at hrun
      exact skip hrun
    · refine Len_spec hb1.done ?_
      have hsub : IntKind.i64.wrap (room - (bi.length : Int)) = room - (bi.length : Int) := w64 (by omega) (by omega)
      simp only [bq_sub, hsub, bq_gtr]
      by_cases hbig : ((frame g.turn group[i]).1.length : Int) > room - (bi.length : Int)
      · rw [if_pos (.inr hbig)] at hrun
        simp only [hbig, decide_true]
        simp [-getElem?_pos, -Array.getElem?_eq_getElem, -List.length_flatten, List.getElem?_cons_zero, List.getElem?_cons_succ, ]
        exact skip hrun
      · rw [if_neg (by rw [hf]; simp; omega)] at hrun
        simp only [hbig, decide_false]
        simp [-getElem?_pos, -Array.getElem?_eq_getElem, -List.length_flatten, List.getElem?_cons_zero, List.getElem?_cons_succ, ]
        exact write hrun (by rw [List.length_append]; omega)
  · have hie : i = group.length := by simp at hge; omega
    subst hie
    rw [List.drop_length] at hrun
    have h0 : (addRun g.turn room group [] false).1 = 0 := by rw [hrun]; rfl
    have h2 : addRun g.turn room [] bi fi = (0, bi, fi) := rfl
    rw [h2] at hrun
    have := hend wi SBi hk h0 (by rw [hrun]; exact hbi) hSi
    rw [hrun] at this
    exact this
end Go.Proofs

set_option linter.unusedVariables false
set_option linter.unusedSimpArgs false
namespace Go.Proofs
open Go Go.Q
def roomOf (g : LG) : Int := 32 * (g.hi - g.lo) - g.used.length
def addG (g : LG) (d : DK) (group : List (List UInt8)) : LG × DK × Int :=
  let r := addRun g.turn (roomOf g) group [] false
  if r.1 ≠ 0 then (g, d, r.1)
  else if r.2.2 = true then (g, d, 2)
  else
    let all := g.used ++ r.2.1
    let p := if 0 < r.2.1.length then putN g.lo.toNat all d (g.used.length / 32) ((all.length + 31) / 32 - g.used.length / 32) else (d, 0)
    if p.2 = 0 then ({ g with l := g.l ++ group, used := all }, p.1, 0) else (g, p.1, p.2)
theorem add_s0 {w : World} {a b xa xl : Nat} {g : LG} {SL : List Nat} {lv gv : Value} {group : List (List UInt8)} {SG : List Nat} {all : List UInt8} {R : Value → World → Prop}
    (h : LogIs w a b g SL lv) (hgv : ArgAt w gv 1 (group.map strV) SG) (hxl : w.heap[xl]? = some (.cells #[.pointer (some ⟨a, 0, none⟩)] 56)) (hxa : w.heap[xa]? = some (.cells #[.string (str all)] 9))
    (hgl : g.l.length + group.length < 2 ^ 40) (hxlS : xl ∉ SL) (hxaS : xa ∉ SL) (hne1 : a ≠ xl) (hne2 : a ≠ xa)
    (hR : ∀ w' SL' lv', LogIs w' a b { g with l := g.l ++ group, used := all } SL' lv' → Kp (a :: SL) w w' → (∀ x ∈ SL', x ∈ SL ∨ w.heap.size ≤ x) → R (.int .i64 0) w') :
    wal_Log_Add_s0 R gv (.pointer (some ⟨xl, 0, none⟩)) (.pointer (some ⟨xa, 0, none⟩)) w := by
  unfold wal_Log_Add_s0
  obtain ⟨hA, hL, haS⟩ := h
  simp [-getElem?_pos, -Array.getElem?_eq_getElem, -List.length_flatten, List.getElem?_cons_zero, List.getElem?_cons_succ, hxl, hxa, hA]
  have hone := strV_one group
  have hgd := hgv.keep (Kp.refl [] w).drew (by simp)
  rw [zc9]
  refine rows_app (k := 1) (z := [.string ⟨#[]⟩]) (G := group.map strV) (hL.keep (Kp.refl [] w).drew (by simp)) (by omega) rfl (fun y hy => hgv.row hy) hone (fun K' hK' => hgd.src K' hK') (by simp; omega) (by simp; omega) fun v2 w2 S2 h2 hk2 hS2 => ?_
  have hkd : Kp SL w w2 := (Kp.refl _ w).drew.trans' hk2
  have hxl2 := hkd.get hxl hxlS
  have hxa2 := hkd.get hxa hxaS
  have hA2 := hkd.get hA haS
  have l2 := live_of hA2
  have hv2 := rows_one h2
  simp [-getElem?_pos, -Array.getElem?_eq_getElem, -List.length_flatten, List.getElem?_cons_zero, List.getElem?_cons_succ, hxl2, hxa2, hA2, l2, hv2, heap_self, heap_ne, hne1, hne2]
  have halive : a < w.heap.size := lt_of_blk hA
  have haS2 : a ∉ S2 := fun hm => by
    rcases hS2 a hm with h | h
    · exact haS h
    · simp only [heap_drew] at h; omega
  have hk3 : Kp [a] w2 (setBlk w2 a (.cells #[.pointer (some ⟨b, 0, none⟩), .int .i64 g.lo, .int .i64 g.hi, .int .i64 g.turn, v2, .string (str all)] 141)) := (Kp.refl _ w2).setBlk (.inl (by simp)) _
  refine hR _ S2 v2 ⟨heap_self l2, ?_, haS2⟩ ?_ ?_
  · show RowsAt _ v2 1 (List.map strV (g.l ++ group)) S2
    rw [List.map_append]
    exact h2.keep hk3 fun x hx => by simp; intro hh; exact haS2 (hh ▸ hx)
  · exact (hkd.mono fun x hx _ => by simp [hx]).trans hk3 fun x hx _ => by simp at hx; simp [hx]
  · intro x hx
    rcases hS2 x hx with h | h
    · exact .inl h
    · exact .inr (by simpa using h)
end Go.Proofs

set_option linter.unusedVariables false
set_option linter.unusedSimpArgs false
namespace Go.Proofs
open Go Go.Q
theorem zc9' : zc Tryz.prog 9 = #[.string (str [])] := by kernel_rfl
theorem add_s1 {w : World} {a b bb xl : Nat} {g : LG} {SL S SB SG : List Nat} {lv gv : Value} {group : List (List UInt8)} {d : DK} {r : List UInt8} {full : Bool} {R : Value → World → Prop} {lo : Nat}
    (h : LogIs w a b g SL lv) (hd : DiskAt w b d S) (hgv : ArgAt w gv 1 (group.map strV) SG) (hxl : w.heap[xl]? = some (.cells #[.pointer (some ⟨a, 0, none⟩)] 56)) (hB : Bld w bb r SB)
    (haB : a ∉ SB) (hLB : ∀ x ∈ SL, x ∉ SB) (hGB : ∀ x ∈ SG, x ∉ SB) (hxB : xl ∉ SB) (hSB : ∀ x ∈ S, x ∉ SB) (haS : a ∉ S) (hxlS : xl ∉ S) (hLS : ∀ x ∈ SL, x ∉ S) (hGS : ∀ x ∈ SG, x ∉ S) (hxlL : xl ∉ SL) (hne : a ≠ xl)
    (hgl : g.l.length + group.length < 2 ^ 39) (hlo : g.lo = (lo : Int)) (hlo2 : lo < 2 ^ 40) (hul : g.used.length + r.length < 2 ^ 30) (hdl : d.l.length < 2 ^ 39)
    (hlive : ∀ x ∈ SL ++ S ++ SG, x < w.heap.size)
    (hfull : full = true → R (.int .i64 2) w)
    (hdone : full = false → ∀ w' g' d' e S' SL' lv', (let p := if 0 < r.length then putN lo (g.used ++ r) d (g.used.length / 32) (((g.used ++ r).length + 31) / 32 - g.used.length / 32) else (d, 0)
        d' = p.1 ∧ e = p.2 ∧ g' = if p.2 = 0 then { g with l := g.l ++ group, used := g.used ++ r } else g) →
      LogIs w' a b g' SL' lv' → DiskAt w' b d' S' → (∀ x ∈ S', x ∈ S ∨ w.heap.size ≤ x) → (∀ x ∈ SL', x ∈ SL ∨ w.heap.size ≤ x) → (∀ x ∈ SL', x ∉ S') → a ∉ S' → Kp (a :: (SL ++ S ++ SB)) w w' → R (.int .i64 e) w') :
    wal_Log_Add_s1 R gv (.pointer (some ⟨xl, 0, none⟩)) (.pointer (some ⟨bb, 0, none⟩)) (.bool full) w := by
  unfold wal_Log_Add_s1
  simp only [bV_b]
  refine ⟨hfull, fun hf => ?_⟩
  have hdone := hdone hf
  have hA := h.1
  have ha : a < w.heap.size := lt_of_blk hA
  have hxlw : xl < w.heap.size := lt_of_blk hxl
  have hall : (str g.used).size + (str r).size < 9223372036854775808 := by simp; omega
  -- what follows, in either order
  have tail : ∀ (wT : World) (xa : Nat), w.heap.size ≤ xa → wT.heap[xa]? = some (.cells #[.string (str (g.used ++ r))] 9) → Kp SB w wT → BldD wT bb r SB → xa ∉ SB →
      (ld1 (.pointer (some ⟨xl, 0, none⟩)) wT fun t73 =>
        nk t73 fun t74 => fa 5 t74 fun t75 => ld1 t75 wT fun t76 => lenS t76 fun t77 =>
        qG Tryz.prog (bq .quo 3 (.tmp 77) (.const (.int .i64 32)) t77 (.int .i64 32)) wT fun t78 =>
        callG Tryz.prog 95 #[.pointer (some ⟨bb, 0, none⟩)] wT fun t79 w =>
        qG Tryz.prog (bq .gtr 3 (.tmp 79) (.const (.int .i64 0)) t79 (.int .i64 0)) w fun t80 =>
        bV t80
        (ld1 (.pointer (some ⟨xl, 0, none⟩)) w fun t81 =>
        ld1 (.pointer (some ⟨xa, 0, none⟩)) w fun t83 =>
        lenS t83 fun t84 =>
        qG Tryz.prog (bq .add 3 (.tmp 84) (.const (.int .i64 32)) t84 (.int .i64 32)) w fun t85 =>
        qG Tryz.prog (bq .sub 3 (.tmp 85) (.const (.int .i64 1)) t85 (.int .i64 1)) w fun t86 =>
        qG Tryz.prog (bq .quo 3 (.tmp 86) (.const (.int .i64 32)) t86 (.int .i64 32)) w fun t87 =>
        qG Tryz.prog (Instr.makeFunc (.func 97) #[] #[.pointer (some ⟨xa, 0, none⟩), .pointer (some ⟨xl, 0, none⟩)]) w fun t88 =>
        callG Tryz.prog 96 #[t81, t78, t87, t88] w fun t89 w =>
        qG Tryz.prog (bq .neq 30 (.tmp 90) (.const (.int .i64 0)) t89 (.int .i64 0)) w fun t91 =>
        bV t91
        (R t89 w)
        (wal_Log_Add_s0 R gv (.pointer (some ⟨xl, 0, none⟩)) (.pointer (some ⟨xa, 0, none⟩)) w))
        (wal_Log_Add_s0 R gv (.pointer (some ⟨xl, 0, none⟩)) (.pointer (some ⟨xa, 0, none⟩)) w)) := by
    intro wT xa hxaw hxa hk hBT hxaB
    have hxlT := hk.get hxl hxB
    have hAT := hk.get hA haB
    have hAll := h.keep hk haB hLB
    have hdT := hd.keep hk hSB
    have hgT := hgv.keep hk hGB
    simp [-getElem?_pos, -Array.getElem?_eq_getElem, -List.length_flatten, List.getElem?_cons_zero, List.getElem?_cons_succ, hxlT, hAT]
    rw [quo_of (by omega) (by omega)]
    have hq : IntKind.i64.wrap ((g.used.length : Int) / 32) = ((g.used.length / 32 : Nat) : Int) := by rw [w64 (by omega) (by omega)]; simp
    rw [hq]
    refine Len_spec hBT ?_
    simp [-getElem?_pos, -Array.getElem?_eq_getElem, -List.length_flatten, List.getElem?_cons_zero, List.getElem?_cons_succ, hxlT, hxa]
    have hxaS : xa ∉ S := fun hm => by have := hlive xa (by simp [hm]); omega
    have hxaL : xa ∉ SL := fun hm => by have := hlive xa (by simp [hm]); omega
    have hsT := hk.size
    have hkT' : Kp (a :: (SL ++ S ++ SB)) w wT := hk.mono fun x hx _ => by simp [hx]
    have hlen : (g.used ++ r).length = g.used.length + r.length := by simp
    refine ⟨fun hp => ?_, fun h0 => ?_⟩
    · have hr1 : IntKind.i64.wrap (IntKind.i64.wrap ((g.used.length : Int) + (r.length : Int) + 32) - 1) = ((g.used.length + r.length + 31 : Nat) : Int) := by
        rw [w64 (x := (g.used.length : Int) + (r.length : Int) + 32) (by omega) (by omega), w64 (by omega) (by omega)]; omega
      have hq2 : IntKind.i64.wrap (((g.used.length + r.length + 31 : Nat) : Int) / 32) = (((g.used.length + r.length + 31) / 32 : Nat) : Int) := by rw [w64 (by omega) (by omega)]; omega
      have hq3 : (g.used.length : Int) / 32 = ((g.used.length / 32 : Nat) : Int) := by omega
      rw [hr1, quo_of (by omega) (by omega), hq2, mk_func, hq3]
      refine add_sectors hAll hdT hxa hxlT (first := g.used.length / 32) (last := (g.used.length + r.length + 31) / 32) hlo (by rw [hlen]; omega) (by omega) (by rw [hlen]; omega) hlo2 (by omega) haS hxaS hxlS hLS fun w' S' hd' hk' hS' => ?_
      have hS'w : ∀ x ∈ S', x ∈ S ∨ w.heap.size ≤ x := fun x hx => by
        rcases hS' x hx with h | h
        · exact .inl h
        · exact .inr (by omega)
      have hk'' : Kp (a :: (SL ++ S ++ SB)) w w' := hkT'.trans hk' fun x hx _ => by simp [hx]
      have hL' := hAll.keep hk' haS hLS
      have haS' : a ∉ S' := fun hm => by
        rcases hS'w a hm with h | h
        · exact haS h
        · omega
      have hLS' : ∀ x ∈ SL, x ∉ S' := fun x hx hm => by
        rcases hS'w x hm with h | h
        · exact hLS x hx h
        · have := hlive x (by simp [hx]); omega
      rw [hlen] at hdone
      rw [if_pos hp] at hdone
      simp [-getElem?_pos, -Array.getElem?_eq_getElem, -List.length_flatten, List.getElem?_cons_zero, List.getElem?_cons_succ, ]
      refine ⟨fun he => ?_, fun he => ?_⟩
      · exact hdone w' g _ _ S' SL lv ⟨rfl, rfl, by rw [if_neg he]⟩ hL' hd' hS'w (fun x hx => .inl hx) hLS' haS' hk''
      · refine add_s0 hL' (hgT.keep hk' hGS) (hk'.get hxlT hxlS) (hk'.get hxa hxaS) (by omega) hxlL hxaL hne (by omega) fun w9 SL' lv' hL9 hk9 hS9 => ?_
        have hsz' := hk'.size
        have hnS : ∀ x ∈ a :: SL, x ∉ S' := fun x hx => by
          rcases List.mem_cons.1 hx with rfl | hx
          · exact haS'
          · exact hLS' x hx
        have hS'live : ∀ x ∈ S', x < w'.heap.size := fun x hx => by
          obtain ⟨bs, bn, lv, SL, T, Ts, Tn, rfl, hd⟩ := hd'
          exact hd.live x hx
        refine hdone w9 _ _ _ S' SL' lv' ⟨rfl, rfl, by rw [if_pos he]⟩ hL9 (hd'.keep hk9 fun x hx hm => hnS x hm hx) hS'w (fun x hx => ?_) (fun x hx hm => ?_) haS' (hk''.trans hk9 fun x hx _ => ?_) |> fun hR => by rw [he] at hR; exact hR
        · rcases hS9 x hx with h | h
          · exact .inl h
          · exact .inr (by omega)
        · rcases hS9 x hx with h | h
          · exact hLS' x h hm
          · have := hS'live x hm; omega
        · rcases List.mem_cons.1 hx with rfl | hx
          · simp
          · simp [hx]
    · rw [if_neg (by rw [h0]; simp)] at hdone
      refine add_s0 hAll hgT hxlT hxa (by omega) hxlL hxaL hne (by omega) fun w9 SL' lv' hL9 hk9 hS9 => ?_
      refine hdone w9 _ _ _ S SL' lv' ⟨rfl, rfl, by rw [if_pos rfl]⟩ hL9 (hdT.keep hk9 fun x hx hm => ?_) (fun x hx => .inl hx) (fun x hx => ?_) (fun x hx hm => ?_) haS (hkT'.trans hk9 fun x hx _ => ?_)
      · rcases List.mem_cons.1 hm with rfl | hm
        · exact haS hx
        · exact hLS x hm hx
      · rcases hS9 x hx with h | h
        · exact .inl h
        · exact .inr (by omega)
      · rcases hS9 x hx with h | h
        · exact hLS x h hm
        · have := hlive x (by simp [hm]); omega
      · rcases List.mem_cons.1 hx with rfl | hx
        · simp
        · simp [hx]
  have hxlx : ∀ K : Value → Prop, ld1 (.pointer (some ⟨xl, 0, none⟩)) w.drew K = K (.pointer (some ⟨a, 0, none⟩)) := by intro K; simp [hxl]
  simp [-getElem?_pos, -Array.getElem?_eq_getElem, -List.length_flatten, List.getElem?_cons_zero, List.getElem?_cons_succ, hxl, hA]
  refine ⟨?_, ?_⟩
  · refine String_spec (hB.done.keep (Kp.refl [] w).drew (by simp)) (by omega) fun w1 hB1 hk1 => ?_
    have hk1' : Kp SB w w1 := (Kp.refl _ w).drew.trans' hk1
    have hA1 := hk1'.get hA haB
    have hxl1 := hk1'.get hxl hxB
    have ha1 := live_of hA1
    have hxlv1 := live_of hxl1
    rw [bq_sadd hall]
    have hst : ∀ w', stb Tryz.prog (bq .add 9 (.tmp 70) (.tmp 71) (.string (str g.used)) (.string (str r))) (.string (str g.used ++ str r)) w' := fun w' => by rw [stb_of (run_sadd hall)]
    have hsz := hk1'.size
    simp [-getElem?_pos, -Array.getElem?_eq_getElem, -List.length_flatten, List.getElem?_cons_zero, List.getElem?_cons_succ, hA1, hxl1, heap_old, ha1, hxlv1, heap_new, zc9', -str_append]
    refine ⟨by simpa using hst _, ?_⟩
    have hkn : Kp [] w1 (w1.alloc (.cells #[.string (str (g.used ++ r))] 9)) := (Kp.refl [] w1).alloc _
    have ht := tail _ w1.heap.size (by omega) (heap_new (w := w1) (o := .cells #[.string (str (g.used ++ r))] 9)) (hk1'.trans hkn (by simp)) (hB1.keep hkn (by simp)) (fun hm => by have := hB.live _ hm; omega)
    simpa [-getElem?_pos, -Array.getElem?_eq_getElem, -List.length_flatten, List.getElem?_cons_zero, List.getElem?_cons_succ, hA1, hxl1, heap_old, ha1, hxlv1, heap_new, zc9'] using ht
  · simp [-getElem?_pos, -Array.getElem?_eq_getElem, -List.length_flatten, List.getElem?_cons_zero, List.getElem?_cons_succ, zc9', heap_old, (show Live w.drew a from ha), (show Live w.drew xl from hxlw), hA, hxl]
    obtain ⟨w1, hw1⟩ : ∃ w1, w1 = (w.alloc (.cells #[.string (str [])] 9)) := ⟨_, rfl⟩
    have hk1 : Kp [] w w1 := by rw [hw1]; exact (Kp.refl [] w).alloc _
    have hX1 : w1.heap[w.heap.size]? = some (.cells #[.string (str [])] 9) := by rw [hw1]; exact heap_new
    have hA1 := hk1.get hA (by simp)
    have hxl1 := hk1.get hxl (by simp)
    rw [← hw1]
    have hXB : w.heap.size ∉ SB := fun hm => by have := hB.live _ hm; omega
    simp [-getElem?_pos, -Array.getElem?_eq_getElem, -List.length_flatten, List.getElem?_cons_zero, List.getElem?_cons_succ, hA1, hxl1]
    refine String_spec ((hB.done.keep hk1 (by simp)).keep (Kp.refl [] w1).drew (by simp)) (by omega) fun w2 hB2 hk2 => ?_
    have hk2' : Kp SB w w2 := (hk1.mono (by simp)).trans ((Kp.refl _ w1).drew.trans' hk2) fun x hx _ => hx
    have hk12 : Kp SB w1 w2 := (Kp.refl _ w1).drew.trans' hk2
    have hA2 := hk2'.get hA haB
    have hxl2 := hk2'.get hxl hxB
    have hX2 := hk12.get hX1 hXB
    have lX2 := live_of hX2
    have hneX : ¬ w.heap.size = xl := by omega
    have hneA : ¬ w.heap.size = a := by omega
    rw [bq_sadd hall]
    have hkX : Kp [w.heap.size] w2 (setBlk w2 w.heap.size (.cells #[.string (str (g.used ++ r))] 9)) := (Kp.refl _ w2).setBlk (.inl (by simp)) _
    have ht := tail (setBlk w2 w.heap.size (.cells #[.string (str (g.used ++ r))] 9)) w.heap.size (Nat.le_refl _) (heap_self lX2) (hk2'.trans hkX fun x hx hlt => by simp at hx; omega) (hB2.keep hkX fun x hx => by simp; intro hh; exact hXB (hh ▸ hx)) hXB
    simpa [-getElem?_pos, -Array.getElem?_eq_getElem, -List.length_flatten, List.getElem?_cons_zero, List.getElem?_cons_succ, hA2, hxl2, hX2, lX2, heap_self, heap_ne, hneX, hneA] using ht
end Go.Proofs

set_option linter.unusedVariables false
set_option linter.unusedSimpArgs false
namespace Go.Proofs
open Go Go.Q
theorem Add_spec {w : World} {a b : Nat} {g : LG} {SL S SG : List Nat} {lv gv : Value} {group : List (List UInt8)} {d : DK} {lo hi : Nat}
    (h : LogIs w a b g SL lv) (hd : DiskAt w b d S) (hgv : ArgAt w gv 1 (group.map strV) SG)
    (haS : a ∉ S) (hLS : ∀ x ∈ SL, x ∉ S) (hGS : ∀ x ∈ SG, x ∉ S) (hlive : ∀ x ∈ SL ++ S ++ SG, x < w.heap.size)
    (hgl : g.l.length + group.length < 2 ^ 39) (hgs : ∀ s ∈ group, s.length < 2 ^ 62) (hlo : g.lo = (lo : Int)) (hhi : g.hi = (hi : Int)) (hlh : lo ≤ hi) (hhi2 : hi ≤ 4096) (hroom : (g.used.length : Int) ≤ 32 * (hi - lo)) (hdl : d.l.length < 2 ^ 39) {K : Value → World → Prop}
    (hK : ∀ w' g' d' e S' SL' lv', (g', d', e) = addG g d group → LogIs w' a b g' SL' lv' → DiskAt w' b d' S' → (∀ x ∈ S', x ∈ S ∨ w.heap.size ≤ x) → (∀ x ∈ SL', x ∈ SL ∨ w.heap.size ≤ x) → (∀ x ∈ SL', x ∉ S') → a ∉ S' →
      Kp (a :: (SL ++ S)) w w' → K (.int .i64 e) w') : callG Tryz.prog 44 #[.pointer (some ⟨a, 0, none⟩), gv] w K := by
  refine wal_Log_Add_call ?_
  simp only [wal_Log_Add, wal_Log_Add_s5]
  rw [newG_k]
  obtain ⟨n, hn⟩ : ∃ n, n = w.heap.size := ⟨_, rfl⟩
  obtain ⟨w1, hw1⟩ : ∃ w1, w1 = w.alloc (.cells (Value.cells (.pointer (some ⟨a, 0, none⟩))) 56) := ⟨_, rfl⟩
  have hk1 : Kp [] w w1 := by rw [hw1]; exact (Kp.refl [] w).alloc _
  have hX1 : w1.heap[n]? = some (.cells #[.pointer (some ⟨a, 0, none⟩)] 56) := by rw [hw1, hn]; exact heap_new
  have hs1 : w1.heap.size = n + 1 := by rw [hw1, hn]; simp
  rw [← hn, ← hw1]
  have h1 := h.keep hk1 (by simp) (by simp)
  have hA1 := h1.1
  simp only [ld1_p, rd1_mk, hX1]
  have hget : (#[Value.pointer (some ⟨a, 0, none⟩)] : Array Value)[0]? = some (.pointer (some ⟨a, 0, none⟩)) := rfl
  simp only [hget]
  refine given_spec h1 ?_
  obtain ⟨w2, hw2⟩ : ∃ w2, w2 = w1.alloc (.cells #[.pointer none, .slice none 0 0] 110) := ⟨_, rfl⟩
  have hk2 : Kp [] w1 w2 := by rw [hw2]; exact (Kp.refl [] w1).alloc _
  have hB2 : Bld w2 (n + 1) [] [n + 1] := by rw [hw2, ← hs1]; exact bld_new
  have hs2 : w2.heap.size = n + 2 := by rw [hw2]; simp [hs1]
  have hX2 := hk2.get hX1 (by simp)
  have h2 := h1.keep hk2 (by simp) (by simp)
  have hA2 := h2.1
  simp [-getElem?_pos, -Array.getElem?_eq_getElem, -List.length_flatten, List.getElem?_cons_zero, List.getElem?_cons_succ, zc107]
  rw [← hw2, hs1]
  have e1 : IntKind.i64.wrap (g.hi - g.lo) = g.hi - g.lo := w64 (by omega) (by omega)
  have e2 : IntKind.i64.wrap (32 * (g.hi - g.lo)) = 32 * (g.hi - g.lo) := w64 (by omega) (by omega)
  have e3 : IntKind.i64.wrap (32 * (g.hi - g.lo) - (g.used.length : Int)) = 32 * (g.hi - g.lo) - (g.used.length : Int) := w64 (by omega) (by omega)
  simp [-getElem?_pos, -Array.getElem?_eq_getElem, -List.length_flatten, List.getElem?_cons_zero, List.getElem?_cons_succ, hX2, hA2, e1, e2, e3]
  have hr : 32 * (g.hi - g.lo) - (g.used.length : Int) = roomOf g := rfl
  rw [hr]
  have hroom0 : 0 ≤ roomOf g ∧ roomOf g < 2 ^ 30 := by unfold roomOf; omega
  have hk3 : Kp [] w w2.drew := (hk1.trans' hk2).drew
  have hk2d : Kp [] w2 w2.drew := (Kp.refl _ _).drew
  have hlv : ∀ x, x ∈ SL ++ S ++ SG → x < n := fun x hx => by have := hlive x hx; omega
  have han : a < n := by have := lt_of_blk h.1; omega
  have hgv3 := hgv.keep hk3 (by simp)
  have hd3 := hd.keep hk3 (by simp)
  have h3 := h2.keep hk2d (by simp) (by simp)
  have hX3 := hk2d.get hX2 (by simp)
  have hB3 := hB2.keep hk2d (by simp)
  have hs3 : w2.drew.heap.size = n + 2 := hs2
  have hno : ∀ x, x ∈ SL ++ S ++ SG → x ∉ [n + 1] := fun x hx hm => by have := hlv x hx; simp at hm; omega
  refine add_loop h3 hgv3 hX3 hB3 (by simp; omega) (fun x hx => hno x (by simp [hx])) (fun x hx => hno x (by simp [hx])) (by simp) (by omega) hgs hroom0 ?_ ?_
  · intro w' e hk he hne
    have hk' : Kp [] w w' := hk3.trans hk fun x hx hlt => by simp at hx; omega
    refine hK w' g d e S SL lv ?_ (h.keep hk' (by simp) (by simp)) (hd.keep hk' (by simp)) (fun x hx => .inl hx) (fun x hx => .inl hx) hLS haS (hk'.mono (by simp))
    unfold addG
    simp only [he]
    rw [if_pos hne]
  · intro w' SB' hk he hB' hSB'
    have hk' : Kp [] w w' := hk3.trans hk fun x hx hlt => by simp at hx; omega
    have hSBn : ∀ x ∈ SB', n + 1 ≤ x := fun x hx => by
      rcases hSB' x hx with h | h
      · simp at h; omega
      · omega
    have hnoB : ∀ x, x ∈ SL ++ S ++ SG → x ∉ SB' := fun x hx hm => by have := hlv x hx; have := hSBn x hm; omega
    have hsz := hk'.size
    have hlen := addRun_len g.turn (roomOf g) hroom0.1 group [] false (by simpa using hroom0.1)
    have hrm : (g.used.length : Int) + roomOf g = 32 * (g.hi - g.lo) := by unfold roomOf; omega
    refine add_s1 (h.keep hk' (by simp) (by simp)) (hd.keep hk' (by simp)) (hgv.keep hk' (by simp)) (hk.get hX3 (by simp)) hB' (fun hm => by have := hSBn _ hm; omega) (fun x hx => hnoB x (by simp [hx])) (fun x hx => hnoB x (by simp [hx])) (fun hm => by have := hSBn _ hm; omega)
      (fun x hx => hnoB x (by simp [hx])) haS (fun hm => by have := hlv n (by simp [hm]); omega) hLS hGS (fun hm => by have := hlv n (by simp [hm]); omega) (by omega) hgl hlo (by omega) (by omega) hdl (fun x hx => by have := hlv x hx; omega) ?_ ?_
    · intro hf
      refine hK w' g d 2 S SL lv ?_ (h.keep hk' (by simp) (by simp)) (hd.keep hk' (by simp)) (fun x hx => .inl hx) (fun x hx => .inl hx) hLS haS (hk'.mono (by simp))
      unfold addG
      simp only [he, hf]
      rfl
    · intro hf w9 g' d' e S' SL' lv' hp hL9 hd9 hS9 hSL9 hLS9 haS9 hk9
      obtain ⟨p1, p2, p3⟩ := hp
      refine hK w9 g' d' e S' SL' lv' ?_ hL9 hd9 (fun x hx => ?_) (fun x hx => ?_) hLS9 haS9 ((hk'.mono (S' := a :: (SL ++ S)) (by simp)).trans hk9 fun x hx hlt => ?_)
      · have hlt : g.lo.toNat = lo := by omega
        obtain ⟨rr, hrr⟩ : ∃ rr, rr = (addRun g.turn (roomOf g) group [] false).2.1 := ⟨_, rfl⟩
        rw [← hrr] at p1 p2 p3
        obtain ⟨P, hP⟩ : ∃ P, P = (if 0 < rr.length then putN lo (g.used ++ rr) d (g.used.length / 32) (((g.used ++ rr).length + 31) / 32 - g.used.length / 32) else (d, 0)) := ⟨_, rfl⟩
        rw [← hP] at p1 p2 p3
        have hg : addG g d group = if P.2 = 0 then ({ g with l := g.l ++ group, used := g.used ++ rr }, P.1, 0) else (g, P.1, P.2) := by
          unfold addG
          simp only [he, hf, hlt, ← hrr, ← hP]
          simp
        rw [hg, p1, p2, p3]
        by_cases h0 : P.2 = 0
        · rw [if_pos h0, if_pos h0, h0]
        · rw [if_neg h0, if_neg h0]
      · rcases hS9 x hx with h | h
        · exact .inl h
        · exact .inr (by omega)
      · rcases hSL9 x hx with h | h
        · exact .inl h
        · exact .inr (by omega)
      · rcases List.mem_cons.1 hx with rfl | hx
        · simp
        · rcases List.mem_append.1 hx with hx | hx
          · simp at hx; rcases hx with hx | hx <;> simp [hx]
          · have := hSBn x hx; omega
end Go.Proofs

set_option linter.unusedVariables false
set_option linter.unusedSimpArgs false
namespace Go.Proofs
open Go Go.Q
theorem lenAt_frame (t : Int) (s : List UInt8) (h : s.length ≤ 1024) : lenAt (frameB t s) = s.length := by
  have h0 : (putB (s.length : Int) 0).toNat = s.length % 256 := by unfold putB; simp; omega
  have h1 : (putB (s.length : Int) 1).toNat = s.length / 256 % 256 := by unfold putB; simp; omega
  have e : lenAt (frameB t s) = (putB (s.length : Int) 0).toNat + (putB (s.length : Int) 1).toNat * 2 ^ 8 := by
    simp [lenAt, frameB, headOf, put4, List.getD]
  rw [e, h0, h1]; omega
theorem burns_calm {d : DK} (h1 : d.off = false) (h2 : d.fuse = -1) : d.burns = (d, true) := by
  cases d
  simp only at h1 h2
  subst h1; subst h2
  simp [DK.burns]
theorem write_calm {d : DK} (h1 : d.off = false) (h2 : d.fuse = -1) {i : Nat} (hi : i < d.now.length) {s : List UInt8} (hs : s.length = 32) :
    d.write i s = ({ d with now := d.now.set i s, l := d.l ++ [(i, s)] }, 0) := by
  unfold DK.write
  rw [burns_calm h1 h2, if_pos ⟨⟨by omega, by omega⟩, hs⟩, if_pos rfl]
  simp
theorem flush_calm {d : DK} (h1 : d.off = false) (h2 : d.fuse = -1) : d.flush = ({ d with sure := applyAll d.sure d.l, l := [] }, 0) := by
  unfold DK.flush
  rw [burns_calm h1 h2, if_pos rfl]
structure Calm (d : DK) : Prop where
  off : d.off = false
  fuse : d.fuse = -1
theorem putN_l (lo : Nat) (all : List UInt8) : ∀ (n : Nat) (d : DK) (k : Nat), (putN lo all d k n).1.l.length ≤ d.l.length + n := by
  intro n
  induction n with
  | zero => intro d k; simp [putN]
  | succ n ih =>
    intro d k
    have h := putK_l d lo all k
    unfold putN
    split
    · have := ih (putK d lo all k).1 (k + 1); omega
    · omega
def fr (t : Int) (l : List (List UInt8)) : List UInt8 := (l.map (frameB t)).flatten
theorem fr_append (t : Int) (a b : List (List UInt8)) : fr t (a ++ b) = fr t a ++ fr t b := by simp [fr]
theorem fr_cons (t : Int) (a : List UInt8) (b : List (List UInt8)) : fr t (a :: b) = frameB t a ++ fr t b := by simp [fr]
theorem fr_len (t : Int) (l : List (List UInt8)) : (fr t l).length = usedOf l := by
  induction l with
  | nil => rfl
  | cons a l ih => rw [fr_cons, List.length_append, ih, frameB_len]; simp [usedOf]
def Recs (l : List (List UInt8)) : Prop := ∀ s ∈ l, s ≠ [] ∧ s.length ≤ 1024
theorem frame_rec {t : Int} (ht : turnOk t = true) {s : List UInt8} (h : s ≠ [] ∧ s.length ≤ 1024) : frame t s = (frameB t s, 0) := by
  unfold frame; rw [if_pos ⟨ht, h⟩]
theorem addRun_fits {t room : Int} (ht : turnOk t = true) : ∀ (l : List (List UInt8)) (b : List UInt8), Recs l → (b.length : Int) + (usedOf l : Nat) ≤ room → addRun t room l b false = (0, b ++ fr t l, false) := by
  intro l
  induction l with
  | nil => intro b _ _; simp [addRun, fr]
  | cons s l ih =>
    intro b h hl
    have hs := frame_rec ht (h s (by simp))
    have hu : usedOf (s :: l) = 10 + s.length + usedOf l := by simp [usedOf]
    rw [hu] at hl
    have hfl := frameB_len t s
    rw [addRun_cons, hs, if_pos rfl, if_neg (by simp; omega), ih _ (fun x hx => h x (by simp [hx])) (by rw [List.length_append]; simp only; omega), fr_cons]
    simp
theorem scanL_frame {t : Int} (ht : turnOk t = true) {s : List UInt8} (h : s ≠ [] ∧ s.length ≤ 1024) (r : List UInt8) : nextOk t (frameB t s ++ r) = true ∧ recOf (frameB t s ++ r) = s ∧ lenAt (frameB t s ++ r) = s.length := by
  have hl := frameB_len t s
  have hla := lenAt_frame t s h.2
  have hs : s.length ≠ 0 := by simpa using h.1
  have hgd : ∀ i, i < (frameB t s).length → (frameB t s ++ r).getD i 0 = (frameB t s).getD i 0 := by
    intro i hi
    simp only [List.getD_eq_getElem?_getD]
    rw [List.getElem?_append_left hi]
  have hla2 : lenAt (frameB t s ++ r) = s.length := by
    rw [← hla]
    unfold lenAt
    rw [hgd 4 (by omega), hgd 5 (by omega)]
  have hrec : recOf (frameB t s ++ r) = s := by
    unfold recOf
    rw [hla2, List.drop_append_of_le_length (by omega), List.take_append_of_le_length (by rw [List.length_drop]; omega)]
    have : (frameB t s).drop 10 = s := by
      unfold frameB
      rw [List.drop_left' (by simp [headOf_len, put4_len])]
    rw [this, List.take_length]
  refine ⟨?_, hrec, hla2⟩
  refine (next_frame t _).2 ⟨by rw [List.length_append]; omega, by omega, by omega, by rw [List.length_append]; omega, ?_⟩
  rw [hrec, hla2, frame_rec ht h, List.take_append_of_le_length (by omega), List.take_of_length_le (by omega)]
theorem scanL_fuel (t : Int) : ∀ (n m : Nat) (s : List UInt8), s.length ≤ n → s.length ≤ m → scanL t n s = scanL t m s := by
  intro n
  induction n with
  | zero =>
    intro m s h _
    have : s = [] := List.length_eq_zero_iff.1 (by omega)
    subst this
    cases m with
    | zero => rfl
    | succ m => unfold scanL; rw [if_neg (by simp [nextOk])]
  | succ n ih =>
    intro m s h1 h2
    cases m with
    | zero =>
      have : s = [] := List.length_eq_zero_iff.1 (by omega)
      subst this
      unfold scanL; rw [if_neg (by simp [nextOk])]
    | succ m =>
      unfold scanL
      split
      · rw [ih m _ (by rw [List.length_drop]; omega) (by rw [List.length_drop]; omega)]
      · rfl
theorem scan_fr {t : Int} (ht : turnOk t = true) : ∀ (l : List (List UInt8)) (r : List UInt8), Recs l → scan t (fr t l ++ r) = l ++ scan t r := by
  intro l
  induction l with
  | nil => intro r _; rfl
  | cons s l ih =>
    intro r h
    have hs := h s (by simp)
    obtain ⟨h1, h2, h3⟩ := scanL_frame ht hs (fr t l ++ r)
    have hl := frameB_len t s
    have hi := ih r fun x hx => h x (by simp [hx])
    have key : scan t (frameB t s ++ (fr t l ++ r)) = s :: scan t (fr t l ++ r) := by
      unfold scan
      obtain ⟨n, hn⟩ : ∃ n, (frameB t s ++ (fr t l ++ r)).length = n + 1 := ⟨(frameB t s ++ (fr t l ++ r)).length - 1, by rw [List.length_append]; omega⟩
      have hn' : (fr t l ++ r).length ≤ n := by rw [List.length_append] at hn; omega
      rw [hn]
      conv => lhs; unfold scanL
      rw [if_pos h1, h2, h3, List.drop_left' hl, scanL_fuel t n _ _ hn' (Nat.le_refl _)]
    rw [fr_cons, List.append_assoc, key, hi]
    rfl
end Go.Proofs

set_option linter.unusedVariables false
set_option linter.unusedSimpArgs false
namespace Go.Proofs
open Go Go.Q
structure Own (w0 w : World) (b : Nat) (d : DK) (S : List Nat) : Prop where
  at_ : DiskAt w b d S
  kp : Kp [] w0 w
  new : ∀ x ∈ S, w0.heap.size ≤ x
theorem Own.keep {w0 w w' : World} {b : Nat} {d : DK} {S : List Nat} (h : Own w0 w b d S) (hk : Kp [] w w') : Own w0 w' b d S := ⟨h.at_.keep hk (by simp), h.kp.trans' hk, h.new⟩
structure OL (w0 w : World) (a b : Nat) (g : LG) (d : DK) (B : List Nat) : Prop where
  ex : ∃ S SL lv, B = a :: (SL ++ S) ∧ DiskAt w b d S ∧ LogIs w a b g SL lv ∧ a ∉ S ∧ ∀ x ∈ SL, x ∉ S
  kp : Kp [] w0 w
  new : ∀ x ∈ B, w0.heap.size ≤ x
theorem DiskAt.live {w : World} {b : Nat} {d : DK} {S : List Nat} (h : DiskAt w b d S) : ∀ x ∈ S, x < w.heap.size := by
  obtain ⟨bs, bn, lv, SL, T, Ts, Tn, rfl, hd⟩ := h
  exact hd.live
theorem DiskAt.ok {w : World} {b : Nat} {d : DK} {S : List Nat} (h : DiskAt w b d S) : d.Ok := by
  obtain ⟨bs, bn, lv, SL, T, Ts, Tn, rfl, hd⟩ := h
  exact hd.ok
section
variable {w0 w w' : World} {a b : Nat} {g : LG} {d : DK} {B : List Nat}
theorem OL.live (h : OL w0 w a b g d B) : ∀ x ∈ B, x < w.heap.size := by
  obtain ⟨S, SL, lv, rfl, hd, hL, h1, h2⟩ := h.ex
  intro x hx
  rcases List.mem_cons.1 hx with rfl | hx
  · exact lt_of_blk hL.1
  · rcases List.mem_append.1 hx with hx | hx
    · exact hL.2.1.lt x hx
    · exact hd.live x hx
theorem OL.keep (h : OL w0 w a b g d B) {S' : List Nat} (hk : Kp S' w w') (hd : ∀ x ∈ B, x ∉ S') (h0 : Kp [] w0 w') : OL w0 w' a b g d B := by
  obtain ⟨S, SL, lv, rfl, hd', hL, h1, h2⟩ := h.ex
  exact ⟨⟨S, SL, lv, rfl, hd'.keep hk fun x hx => hd x (by simp [hx]), hL.keep hk (hd a (by simp)) fun x hx => hd x (by simp [hx]), h1, h2⟩, h0, h.new⟩
theorem OL.keep0 (h : OL w0 w a b g d B) (hk : Kp [] w w') : OL w0 w' a b g d B := h.keep hk (by simp) (h.kp.trans' hk)
theorem OL.ok (h : OL w0 w a b g d B) : d.Ok := by
  obtain ⟨S, SL, lv, rfl, hd, hL, h1, h2⟩ := h.ex
  exact hd.ok
theorem OL.turn {S' : List Nat} (h : OL w0 w a b g d B) (hk : Kp S' w w') (hS : ∀ x ∈ S', x ∈ B) : Kp [] w0 w' := h.kp.trans hk fun x hx hlt => by have := h.new x (hS x hx); omega
theorem ol_add (h : OL w0 w a b g d B) {gv : Value} {group : List (List UInt8)} {SG : List Nat} (hgv : ArgAt w gv 1 (group.map strV) SG) (hGS : ∀ x ∈ SG, x ∉ B) (hGl : ∀ x ∈ SG, x < w.heap.size) {lo hi : Nat}
    (hgl : g.l.length + group.length < 2 ^ 39) (hgs : ∀ s ∈ group, s.length < 2 ^ 62) (hlo : g.lo = (lo : Int)) (hhi : g.hi = (hi : Int)) (hlh : lo ≤ hi) (hhi2 : hi ≤ 4096) (hroom : (g.used.length : Int) ≤ 32 * (hi - lo)) (hdl : d.l.length < 2 ^ 39) {K : Value → World → Prop}
    (hK : ∀ w' B', OL w0 w' a b (addG g d group).1 (addG g d group).2.1 B' → Kp B w w' → (∀ x ∈ B', x ∈ B ∨ w.heap.size ≤ x) → K (.int .i64 (addG g d group).2.2) w') :
    callG Tryz.prog 44 #[.pointer (some ⟨a, 0, none⟩), gv] w K := by
  have hlv := h.live
  have hkp := h.kp
  have hnew := h.new
  obtain ⟨S, SL, lv, rfl, hd, hL, h1, h2⟩ := h.ex
  refine Add_spec (lo := lo) (hi := hi) hL hd hgv h1 h2 (fun x hx hm => hGS x hx (by simp [hm])) (fun x hx => ?_) hgl hgs hlo hhi hlh hhi2 hroom hdl fun w' g' d' e S' SL' lv' hres hL' hd' hS' hSL' hLS' haS' hk' => ?_
  · rcases List.mem_append.1 hx with hx | hx
    · exact hlv x (by simpa using Or.inr (by simpa using hx))
    · exact hGl x hx
  · have e1 : (addG g d group).1 = g' := by rw [← hres]
    have e2 : (addG g d group).2.1 = d' := by rw [← hres]
    have e3 : (addG g d group).2.2 = e := by rw [← hres]
    rw [e1, e2, e3] at hK
    have hsz := hkp.size
    refine hK w' (a :: (SL' ++ S')) ⟨⟨S', SL', lv', rfl, hd', hL', haS', hLS'⟩, hkp.trans hk' fun x hx hlt => by have := hnew x hx; omega, fun x hx => ?_⟩ hk' (fun x hx => ?_)
    · rcases List.mem_cons.1 hx with rfl | hx
      · exact hnew _ (by simp)
      · rcases List.mem_append.1 hx with hx | hx
        · rcases hSL' x hx with h | h
          · exact hnew x (by simp [h])
          · omega
        · rcases hS' x hx with h | h
          · exact hnew x (by simp [h])
          · omega
    · rcases List.mem_cons.1 hx with rfl | hx
      · exact .inl (by simp)
      · rcases List.mem_append.1 hx with hx | hx
        · exact (hSL' x hx).imp (fun h => by simp [h]) id
        · exact (hS' x hx).imp (fun h => by simp [h]) id
theorem ol_sync (h : OL w0 w a b g d B) (hl : d.l.length < 2 ^ 40) {K : Value → World → Prop}
    (hK : ∀ w', OL w0 w' a b g d.flush.1 B → Kp B w w' → K (.int .i64 d.flush.2) w') : callG Tryz.prog 49 #[.pointer (some ⟨a, 0, none⟩)] w K := by
  have hT := @OL.turn w0 w
  have h' := h
  obtain ⟨S, SL, lv, rfl, hd, hL, h1, h2⟩ := h.ex
  refine Sync_spec hL hd hl fun w' hd' hk' => ?_
  have hkB : Kp (a :: (SL ++ S)) w w' := hk'.mono fun x hx _ => by simp [hx]
  exact hK w' ⟨⟨S, SL, lv, rfl, hd', hL.keep hk' h1 h2, h1, h2⟩, hT h' hkB (fun x hx => hx), h'.new⟩ hkB
theorem ol_open {S : List Nat} (o : Own w0 w b d S) (hoff : d.off = false) {lo hi : Nat} (hlh : lo < hi) (hhi : hi ≤ d.now.length) {turn : Int} (ht : turnOk turn = true) {K : Value → World → Prop}
    (hK : ∀ w' a B, OL w0 w' a b ⟨lo, hi, turn, scan turn (allOf d lo (hi - lo)), (allOf d lo (hi - lo)).take (usedOf (scan turn (allOf d lo (hi - lo))))⟩ d B → Kp [] w w' → (∀ x ∈ B, x ∈ S ∨ w.heap.size ≤ x) → (∀ x ∈ S, x ∈ B) →
      K (.tuple #[.pointer (some ⟨a, 0, none⟩), .int .i64 0]) w') : callG Tryz.prog 84 #[.pointer (some ⟨b, 0, none⟩), .int .i64 lo, .int .i64 hi, .int .i64 turn] w K := by
  refine Open_ok o.at_ hoff hlh hhi ht fun w' a lv SL hL hk ha hSL => ?_
  have hlS := o.at_.live
  have hs := o.kp.size
  refine hK w' a (a :: (SL ++ S)) ⟨⟨S, SL, lv, rfl, o.at_.keep hk (by simp), hL, fun hm => by have := hlS a hm; omega, fun x hx hm => by have := hlS x hm; have := hSL x hx; omega⟩, o.kp.trans' hk, fun x hx => ?_⟩ hk (fun x hx => ?_) (fun x hx => by simp [hx])
  · rcases List.mem_cons.1 hx with rfl | hx
    · omega
    · rcases List.mem_append.1 hx with hx | hx
      · have := hSL x hx; omega
      · exact o.new x hx
  · rcases List.mem_cons.1 hx with rfl | hx
    · exact .inr ha
    · rcases List.mem_append.1 hx with hx | hx
      · exact .inr (hSL x hx)
      · exact .inl hx
end
end Go.Proofs

set_option linter.unusedVariables false
set_option linter.unusedSimpArgs false
namespace Go.Proofs
open Go Go.Q
set_option maxRecDepth 100000
def strings_Builder_Grow_s0 (R : Value → World → Prop) (x0 x1 : Value) (w : World) : Prop :=
  nk x0 fun t10 =>
  fa 1 t10 fun t11 =>
  ld1 t11 (World.drew w) fun t12 =>
  qG Tryz.prog (Builtin.cap_ #[96] 3 #[t12]) (World.drew w) fun t13 =>
  nk x0 fun t15 =>
  fa 1 t15 fun t16 =>
  ld1 t16 (World.drew w) fun t17 =>
  lenL t17 fun t18 =>
  qG Tryz.prog (bq .sub 3 (.tmp 13) (.tmp 18) t13 t18) (World.drew w) fun t19 =>
  qG Tryz.prog (bq .lss 3 (.tmp 19) (.tmp 20) t19 x1) (World.drew w) fun t21 =>
  bV t21
  (callG Tryz.prog 141 #[x0, x1] (World.drew w) fun t24 w =>
  R (.tuple #[]) w)
  (R (.tuple #[]) (World.drew w))
theorem strings_Builder_Grow_s0_eq (R : Value → World → Prop) : ∀ e w, lift Tryz.prog 25 (sub (bodyOf Tryz.f127) [1, 1]) (finK Tryz.prog Tryz.f127.results.toList R) e w = strings_Builder_Grow_s0 R (e 0) (e 1) w := fun e w => by kernel_rfl
def strings_Builder_Grow_s1 (R : Value → World → Prop) (x0 x1 : Value) (w : World) : Prop :=
  callG Tryz.prog 101 #[x0] w fun t5 w =>
  qG Tryz.prog (bq .lss 3 (.tmp 6) (.const (.int .i64 0)) x1 (.int .i64 0)) w fun t7 =>
  bV t7
  (qG Tryz.prog (Instr.makeInterface 9 (.string ⟨#[115, 116, 114, 105, 110, 103, 115, 46, 66, 117, 105, 108, 100, 101, 114, 46, 71, 114, 111, 119, 58, 32, 110, 101, 103, 97, 116, 105, 118, 101, 32, 99, 111, 117, 110, 116]⟩)) w fun t8 =>
  False)
  (strings_Builder_Grow_s0 R x0 x1 w)
theorem strings_Builder_Grow_s1_eq (R : Value → World → Prop) : ∀ e w, lift Tryz.prog 25 (bodyOf Tryz.f127) (finK Tryz.prog Tryz.f127.results.toList R) e w = strings_Builder_Grow_s1 R (e 0) (e 1) w :=
  segs_eq (l := [(sub (bodyOf Tryz.f127) [0]), (sub (bodyOf Tryz.f127) [1, 0])]) (y := (sub (bodyOf Tryz.f127) [1, 1])) (Y := (fun e w => strings_Builder_Grow_s0 R (e 0) (e 1) w)) (strings_Builder_Grow_s0_eq R) (fun e w => by kernel_rfl)
def strings_Builder_Grow (R : Value → World → Prop) (x0 x1 : Value) (w : World) : Prop := strings_Builder_Grow_s1 R x0 x1 w
theorem strings_Builder_Grow_call {R : Value → World → Prop} {x0 x1 : Value} {w : World} (h : strings_Builder_Grow R x0 x1 w) : callG Tryz.prog 127 #[x0, x1] w R :=
  calls_lift_eq Tryz.mixed Tryz.func127 (args := [x0, x1]) rfl rfl rfl rfl ((strings_Builder_Grow_s1_eq R) (envOf [x0, x1]) w) (by kernel_rfl) h
def strings_Builder_grow_s0 (R : Value → World → Prop) (x0 x1 : Value) (w : World) : Prop :=
  nk x0 fun t6 =>
  fa 1 t6 fun t7 =>
  ld1 t7 (World.drew w) fun t8 =>
  qG Tryz.prog (Builtin.cap_ #[96] 3 #[t8]) (World.drew w) fun t9 =>
  qG Tryz.prog (bq .mul 3 (.const (.int .i64 2)) (.tmp 9) (.int .i64 2) t9) (World.drew w) fun t10 =>
  qG Tryz.prog (bq .add 3 (.tmp 10) (.tmp 11) t10 x1) (World.drew w) fun t12 =>
  nk x0 fun t15 =>
  fa 1 t15 fun t16 =>
  ld1 t16 (World.drew w) fun t17 =>
  lenL t17 fun t18 =>
  nG Tryz.prog (callFunc 148 #[t12]) (World.drew w) fun t13 w =>
  ld1 t16 w (fun u => u = t17) ∧
  slL 1 t13 none (some t18) fun t19 =>
  nk x0 fun t22 =>
  fa 1 t22 fun t23 =>
  ld1 t23 w fun t24 =>
  cp 1 t19 t24 w fun t25 w =>
  nk x0 fun t28 =>
  fa 1 t28 fun t29 =>
  st1 t29 t19 w fun w =>
  R (.tuple #[]) w
theorem strings_Builder_grow_s0_eq (R : Value → World → Prop) : ∀ e w, lift Tryz.prog 30 (bodyOf Tryz.f141) (finK Tryz.prog Tryz.f141.results.toList R) e w = strings_Builder_grow_s0 R (e 0) (e 1) w := fun e w => by kernel_rfl
def strings_Builder_grow (R : Value → World → Prop) (x0 x1 : Value) (w : World) : Prop := strings_Builder_grow_s0 R x0 x1 w
theorem strings_Builder_grow_call {R : Value → World → Prop} {x0 x1 : Value} {w : World} (h : strings_Builder_grow R x0 x1 w) : callG Tryz.prog 141 #[x0, x1] w R :=
  calls_lift_eq Tryz.mixed Tryz.func141 (args := [x0, x1]) rfl rfl rfl rfl ((strings_Builder_grow_s0_eq R) (envOf [x0, x1]) w) (by kernel_rfl) h
def math_bits_Mul_s0 (R : Value → World → Prop) (x0 x1 : Value) (w : World) : Prop :=
  callG Tryz.prog 139 #[x0, x1] w fun t25 w =>
  qG Tryz.prog (Instr.extract t25 0) w fun t26 =>
  qG Tryz.prog (Instr.extract t25 1) w fun t27 =>
  R (.tuple #[t26, t27]) w
theorem math_bits_Mul_s0_eq (R : Value → World → Prop) : ∀ e w, lift Tryz.prog 30 (bodyOf Tryz.f125) (finK Tryz.prog Tryz.f125.results.toList R) e w = math_bits_Mul_s0 R (e 0) (e 1) w := fun e w => by kernel_rfl
def math_bits_Mul (R : Value → World → Prop) (x0 x1 : Value) (w : World) : Prop := math_bits_Mul_s0 R x0 x1 w
theorem math_bits_Mul_call {R : Value → World → Prop} {x0 x1 : Value} {w : World} (h : math_bits_Mul R x0 x1 w) : callG Tryz.prog 125 #[x0, x1] w R :=
  calls_lift_eq Tryz.mixed Tryz.func125 (args := [x0, x1]) rfl rfl rfl rfl ((math_bits_Mul_s0_eq R) (envOf [x0, x1]) w) (by kernel_rfl) h
def math_bits_Mul64_s0 (R : Value → World → Prop) (x0 x1 : Value) (w : World) : Prop :=
  qG Tryz.prog (bq .and 146 (.tmp 14) (.const (.int .u64 4294967295)) x0 (.int .u64 4294967295)) w fun t15 =>
  qG Tryz.prog (bq .shr 146 (.tmp 16) (.const (.int .u64 32)) x0 (.int .u64 32)) w fun t17 =>
  qG Tryz.prog (bq .and 146 (.tmp 18) (.const (.int .u64 4294967295)) x1 (.int .u64 4294967295)) w fun t19 =>
  qG Tryz.prog (bq .shr 146 (.tmp 20) (.const (.int .u64 32)) x1 (.int .u64 32)) w fun t21 =>
  qG Tryz.prog (bq .mul 146 (.tmp 22) (.tmp 23) t15 t19) w fun t24 =>
  qG Tryz.prog (bq .mul 146 (.tmp 25) (.tmp 26) t17 t19) w fun t27 =>
  qG Tryz.prog (bq .shr 146 (.tmp 28) (.const (.int .u64 32)) t24 (.int .u64 32)) w fun t29 =>
  qG Tryz.prog (bq .add 146 (.tmp 27) (.tmp 29) t27 t29) w fun t30 =>
  qG Tryz.prog (bq .and 146 (.tmp 31) (.const (.int .u64 4294967295)) t30 (.int .u64 4294967295)) w fun t32 =>
  qG Tryz.prog (bq .shr 146 (.tmp 33) (.const (.int .u64 32)) t30 (.int .u64 32)) w fun t34 =>
  qG Tryz.prog (bq .mul 146 (.tmp 36) (.tmp 37) t15 t21) w fun t38 =>
  qG Tryz.prog (bq .add 146 (.tmp 35) (.tmp 38) t32 t38) w fun t39 =>
  qG Tryz.prog (bq .mul 146 (.tmp 40) (.tmp 41) t17 t21) w fun t42 =>
  qG Tryz.prog (bq .add 146 (.tmp 42) (.tmp 43) t42 t34) w fun t44 =>
  qG Tryz.prog (bq .shr 146 (.tmp 45) (.const (.int .u64 32)) t39 (.int .u64 32)) w fun t46 =>
  qG Tryz.prog (bq .add 146 (.tmp 44) (.tmp 46) t44 t46) w fun t47 =>
  qG Tryz.prog (bq .mul 146 (.tmp 48) (.tmp 49) x0 x1) w fun t50 =>
  R (.tuple #[t47, t50]) w
theorem math_bits_Mul64_s0_eq (R : Value → World → Prop) : ∀ e w, lift Tryz.prog 51 (bodyOf Tryz.f139) (finK Tryz.prog Tryz.f139.results.toList R) e w = math_bits_Mul64_s0 R (e 0) (e 1) w := fun e w => by kernel_rfl
def math_bits_Mul64 (R : Value → World → Prop) (x0 x1 : Value) (w : World) : Prop := math_bits_Mul64_s0 R x0 x1 w
theorem math_bits_Mul64_call {R : Value → World → Prop} {x0 x1 : Value} {w : World} (h : math_bits_Mul64 R x0 x1 w) : callG Tryz.prog 139 #[x0, x1] w R :=
  calls_lift_eq Tryz.mixed Tryz.func139 (args := [x0, x1]) rfl rfl rfl rfl ((math_bits_Mul64_s0_eq R) (envOf [x0, x1]) w) (by kernel_rfl) h
end Go.Proofs

set_option linter.unusedVariables false
set_option linter.unusedSimpArgs false
namespace Go.Proofs
open Go Go.Q
set_option maxRecDepth 100000
def strings_Repeat_s0 (R : Value → World → Prop) (x9 : Value) (w : World) : Prop :=
  callG Tryz.prog 61 #[x9] w fun t124 w =>
  R t124 w
theorem strings_Repeat_s0_eq (R : Value → World → Prop) : ∀ e w, lift Tryz.prog 125 (sub (bodyOf Tryz.f105) [1, 1, 1, 1, 1, 1, 1, 1, 1, 1, 1, 1, 1, 1]) (finK Tryz.prog Tryz.f105.results.toList R) e w = strings_Repeat_s0 R (e 9) w := fun e w => by kernel_rfl
def strings_Repeat_b1 (R : Value → World → Prop) (N1 : List Value → World → Prop) (x7 x8 x9 : Value) (w : World) : Prop :=
  callG Tryz.prog 95 #[x9] w fun t111 w =>
  qG Tryz.prog (bq .lss 3 (.tmp 111) (.tmp 112) t111 x7) w fun t113 =>
  bV t113
  (callG Tryz.prog 95 #[x9] w fun t115 w =>
  qG Tryz.prog (bq .sub 3 (.tmp 114) (.tmp 115) x7 t115) w fun t116 =>
  callG Tryz.prog 95 #[x9] w fun t117 w =>
  qG Tryz.prog (Builtin.min_ #[3, 3, 3] 3 #[t116, t117, x8]) w fun t119 =>
  callG Tryz.prog 61 #[x9] w fun t120 w =>
  slS t120 none (some t119) fun t122 =>
  callG Tryz.prog 59 #[x9, t122] w fun t123 w =>
  N1 [x7, x8, x9] w)
  (strings_Repeat_s0 R x9 w)
theorem strings_Repeat_b1_eq (R : Value → World → Prop) (N1 : List Value → World → Prop) : ∀ e w, lift Tryz.prog 125 (sub (bodyOf Tryz.f105) [1, 1, 1, 1, 1, 1, 1, 1, 1, 1, 1, 1, 1, 0, 0, 0]) (seqK (fun e w => N1 [e 7, e 8, e 9] w) (blockK 3 (seqK (fun e w => strings_Repeat_s0 R (e 9) w) (finK Tryz.prog Tryz.f105.results.toList R)))) e w = strings_Repeat_b1 R N1 (e 7) (e 8) (e 9) w := fun e w => by kernel_rfl
def strings_Repeat_L2F (R : Value → World → Prop) (N1 : List Value → World → Prop) (xs : List Value) (w : World) : Prop :=
  match xs with
  | [x7, x8, x9] => strings_Repeat_b1 R N1 x7 x8 x9 w
  | _ => False
def strings_Repeat_L2 (R : Value → World → Prop) (x7 x8 x9 : Value) (w : World) : Prop :=
  ∃ m, loopV (strings_Repeat_L2F R) m [x7, x8, x9] w
theorem strings_Repeat_L2_eq (R : Value → World → Prop) : ∀ e w, lift Tryz.prog 125 (sub (bodyOf Tryz.f105) [1, 1, 1, 1, 1, 1, 1, 1, 1, 1, 1, 1, 1, 0, 0]) (blockK 3 (seqK (fun e w => strings_Repeat_s0 R (e 9) w) (finK Tryz.prog Tryz.f105.results.toList R))) e w = strings_Repeat_L2 R (e 7) (e 8) (e 9) w := loop_seg (F := strings_Repeat_L2F R) (sel := fun e => [e 7, e 8, e 9]) fun N1 => (strings_Repeat_b1_eq R N1)
def strings_Repeat_s3 (R : Value → World → Prop) (x0 x7 x8 : Value) (w : World) : Prop :=
  newG (zc Tryz.prog 110) 110 w fun t9 w =>
  callG Tryz.prog 127 #[t9, x7] w fun t108 w =>
  callG Tryz.prog 59 #[t9, x0] w fun t110 w =>
  strings_Repeat_L2 R x7 x8 t9 w
theorem strings_Repeat_s3_eq (R : Value → World → Prop) : ∀ e w, lift Tryz.prog 125 (sub (bodyOf Tryz.f105) [1, 1, 1, 1, 1, 1, 1, 1, 1, 1]) (finK Tryz.prog Tryz.f105.results.toList R) e w = strings_Repeat_s3 R (e 0) (e 7) (e 8) w :=
  segs_eq (l := [(sub (bodyOf Tryz.f105) [1, 1, 1, 1, 1, 1, 1, 1, 1, 1, 0]), (sub (bodyOf Tryz.f105) [1, 1, 1, 1, 1, 1, 1, 1, 1, 1, 1, 0]), (sub (bodyOf Tryz.f105) [1, 1, 1, 1, 1, 1, 1, 1, 1, 1, 1, 1, 0])]) (y := (sub (bodyOf Tryz.f105) [1, 1, 1, 1, 1, 1, 1, 1, 1, 1, 1, 1, 1])) (Y := (fun e w => strings_Repeat_L2 R (e 7) (e 8) (e 9) w)) (seq_seg (x := (sub (bodyOf Tryz.f105) [1, 1, 1, 1, 1, 1, 1, 1, 1, 1, 1, 1, 1, 0])) (y := (sub (bodyOf Tryz.f105) [1, 1, 1, 1, 1, 1, 1, 1, 1, 1, 1, 1, 1, 1])) (strings_Repeat_s0_eq R) (strings_Repeat_L2_eq R)) (fun e w => by kernel_rfl)
def strings_Repeat_s4 (R : Value → World → Prop) (x0 x7 : Value) (w : World) : Prop :=
  qG Tryz.prog (bq .gtr 3 (.tmp 95) (.const (.int .i64 8192)) x7 (.int .i64 8192)) w fun t96 =>
  bV t96
  (lenS x0 fun t98 =>
  qG Tryz.prog (bq .quo 3 (.const (.int .i64 8192)) (.tmp 98) (.int .i64 8192) t98) w fun t99 =>
  lenS x0 fun t101 =>
  qG Tryz.prog (bq .mul 3 (.tmp 99) (.tmp 101) t99 t101) w fun t102 =>
  qG Tryz.prog (bq .eql 3 (.tmp 103) (.const (.int .i64 0)) t102 (.int .i64 0)) w fun t104 =>
  bV t104
  (lenS x0 fun t106 =>
  strings_Repeat_s3 R x0 x7 t106 w)
  (strings_Repeat_s3 R x0 x7 t102 w))
  (strings_Repeat_s3 R x0 x7 x7 w)
theorem strings_Repeat_s4_eq (R : Value → World → Prop) : ∀ e w, lift Tryz.prog 125 (sub (bodyOf Tryz.f105) [1, 1, 1, 1, 1, 1, 1, 1]) (finK Tryz.prog Tryz.f105.results.toList R) e w = strings_Repeat_s4 R (e 0) (e 7) w :=
  segs_eq (l := [(sub (bodyOf Tryz.f105) [1, 1, 1, 1, 1, 1, 1, 1, 0]), (sub (bodyOf Tryz.f105) [1, 1, 1, 1, 1, 1, 1, 1, 1, 0])]) (y := (sub (bodyOf Tryz.f105) [1, 1, 1, 1, 1, 1, 1, 1, 1, 1])) (Y := (fun e w => strings_Repeat_s3 R (e 0) (e 7) (e 8) w)) (strings_Repeat_s3_eq R) (fun e w => by kernel_rfl)
def strings_Repeat_s5 (R : Value → World → Prop) (x7 : Value) (w : World) : Prop :=
  slS (.string ⟨#[32, 32, 32, 32, 32, 32, 32, 32, 32, 32, 32, 32, 32, 32, 32, 32, 32, 32, 32, 32, 32, 32, 32, 32, 32, 32, 32, 32, 32, 32, 32, 32, 32, 32, 32, 32, 32, 32, 32, 32, 32, 32, 32, 32, 32, 32, 32, 32, 32, 32, 32, 32, 32, 32, 32, 32, 32, 32, 32, 32, 32, 32, 32, 32, 32, 32, 32, 32, 32, 32, 32, 32, 32, 32, 32, 32, 32, 32, 32, 32, 32, 32, 32, 32, 32, 32, 32, 32, 32, 32, 32, 32, 32, 32, 32, 32, 32, 32, 32, 32, 32, 32, 32, 32, 32, 32, 32, 32, 32, 32, 32, 32, 32, 32, 32, 32, 32, 32, 32, 32, 32, 32, 32, 32, 32, 32, 32, 32]⟩) none (some x7) fun t57 =>
  R t57 w
theorem strings_Repeat_s5_eq (R : Value → World → Prop) : ∀ e w, lift Tryz.prog 125 (sub (bodyOf Tryz.f105) [1, 1, 1, 1, 1, 1, 1, 0, 1, 0, 1, 0, 0, 1, 0]) (blockK 2 (blockK 1 (seqK (fun e w => strings_Repeat_s4 R (e 0) (e 7) w) (finK Tryz.prog Tryz.f105.results.toList R)))) e w = strings_Repeat_s5 R (e 7) w := fun e w => by kernel_rfl
def strings_Repeat_s6 (R : Value → World → Prop) (x7 : Value) (w : World) : Prop :=
  slS (.string ⟨#[45, 45, 45, 45, 45, 45, 45, 45, 45, 45, 45, 45, 45, 45, 45, 45, 45, 45, 45, 45, 45, 45, 45, 45, 45, 45, 45, 45, 45, 45, 45, 45, 45, 45, 45, 45, 45, 45, 45, 45, 45, 45, 45, 45, 45, 45, 45, 45, 45, 45, 45, 45, 45, 45, 45, 45, 45, 45, 45, 45, 45, 45, 45, 45, 45, 45, 45, 45, 45, 45, 45, 45, 45, 45, 45, 45, 45, 45, 45, 45, 45, 45, 45, 45, 45, 45, 45, 45, 45, 45, 45, 45, 45, 45, 45, 45, 45, 45, 45, 45, 45, 45, 45, 45, 45, 45, 45, 45, 45, 45, 45, 45, 45, 45, 45, 45, 45, 45, 45, 45, 45, 45, 45, 45, 45, 45, 45, 45]⟩) none (some x7) fun t66 =>
  R t66 w
theorem strings_Repeat_s6_eq (R : Value → World → Prop) : ∀ e w, lift Tryz.prog 125 (sub (bodyOf Tryz.f105) [1, 1, 1, 1, 1, 1, 1, 0, 1, 0, 1, 0, 0, 1, 1, 1, 0]) (blockK 2 (blockK 1 (seqK (fun e w => strings_Repeat_s4 R (e 0) (e 7) w) (finK Tryz.prog Tryz.f105.results.toList R)))) e w = strings_Repeat_s6 R (e 7) w := fun e w => by kernel_rfl
def strings_Repeat_s7 (R : Value → World → Prop) (x7 : Value) (w : World) : Prop :=
  slS (.string ⟨#[48, 48, 48, 48, 48, 48, 48, 48, 48, 48, 48, 48, 48, 48, 48, 48, 48, 48, 48, 48, 48, 48, 48, 48, 48, 48, 48, 48, 48, 48, 48, 48, 48, 48, 48, 48, 48, 48, 48, 48, 48, 48, 48, 48, 48, 48, 48, 48, 48, 48, 48, 48, 48, 48, 48, 48, 48, 48, 48, 48, 48, 48, 48, 48]⟩) none (some x7) fun t75 =>
  R t75 w
theorem strings_Repeat_s7_eq (R : Value → World → Prop) : ∀ e w, lift Tryz.prog 125 (sub (bodyOf Tryz.f105) [1, 1, 1, 1, 1, 1, 1, 0, 1, 0, 1, 0, 0, 1, 1, 1, 1, 1, 0]) (blockK 2 (blockK 1 (seqK (fun e w => strings_Repeat_s4 R (e 0) (e 7) w) (finK Tryz.prog Tryz.f105.results.toList R)))) e w = strings_Repeat_s7 R (e 7) w := fun e w => by kernel_rfl
def strings_Repeat_s8 (R : Value → World → Prop) (x0 x7 x76 : Value) (w : World) : Prop :=
  bV x76
  (slS (.string ⟨#[61, 61, 61, 61, 61, 61, 61, 61, 61, 61, 61, 61, 61, 61, 61, 61, 61, 61, 61, 61, 61, 61, 61, 61, 61, 61, 61, 61, 61, 61, 61, 61, 61, 61, 61, 61, 61, 61, 61, 61, 61, 61, 61, 61, 61, 61, 61, 61, 61, 61, 61, 61, 61, 61, 61, 61, 61, 61, 61, 61, 61, 61, 61, 61, 61, 61, 61, 61, 61, 61, 61, 61, 61, 61, 61, 61, 61, 61, 61, 61, 61, 61, 61, 61, 61, 61, 61, 61, 61, 61, 61, 61, 61, 61, 61, 61, 61, 61, 61, 61, 61, 61, 61, 61, 61, 61, 61, 61, 61, 61, 61, 61, 61, 61, 61, 61, 61, 61, 61, 61, 61, 61, 61, 61, 61, 61, 61, 61]⟩) none (some x7) fun t84 =>
  R t84 w)
  (qG Tryz.prog (bq .leq 3 (.tmp 86) (.const (.int .i64 64)) x7 (.int .i64 64)) w fun t87 =>
  bV t87
  (callG Tryz.prog 126 #[(.string ⟨#[9, 9, 9, 9, 9, 9, 9, 9, 9, 9, 9, 9, 9, 9, 9, 9, 9, 9, 9, 9, 9, 9, 9, 9, 9, 9, 9, 9, 9, 9, 9, 9, 9, 9, 9, 9, 9, 9, 9, 9, 9, 9, 9, 9, 9, 9, 9, 9, 9, 9, 9, 9, 9, 9, 9, 9, 9, 9, 9, 9, 9, 9, 9, 9]⟩), x0] w fun t90 w =>
  bV t90
  (slS (.string ⟨#[9, 9, 9, 9, 9, 9, 9, 9, 9, 9, 9, 9, 9, 9, 9, 9, 9, 9, 9, 9, 9, 9, 9, 9, 9, 9, 9, 9, 9, 9, 9, 9, 9, 9, 9, 9, 9, 9, 9, 9, 9, 9, 9, 9, 9, 9, 9, 9, 9, 9, 9, 9, 9, 9, 9, 9, 9, 9, 9, 9, 9, 9, 9, 9]⟩) none (some x7) fun t93 =>
  R t93 w)
  (strings_Repeat_s4 R x0 x7 w))
  (strings_Repeat_s4 R x0 x7 w))
theorem strings_Repeat_s8_eq (R : Value → World → Prop) : ∀ e w, lift Tryz.prog 125 (sub (bodyOf Tryz.f105) [1, 1, 1, 1, 1, 1, 1, 0, 1, 0, 1, 0, 0, 1, 1, 1, 1, 1, 1, 1]) (blockK 2 (blockK 1 (seqK (fun e w => strings_Repeat_s4 R (e 0) (e 7) w) (finK Tryz.prog Tryz.f105.results.toList R)))) e w = strings_Repeat_s8 R (e 0) (e 7) (e 76) w := fun e w => by kernel_rfl
def strings_Repeat_s9 (R : Value → World → Prop) (x0 x7 : Value) (w : World) : Prop :=
  qG Tryz.prog (bq .leq 3 (.tmp 77) (.const (.int .i64 128)) x7 (.int .i64 128)) w fun t78 =>
  bV t78
  (callG Tryz.prog 126 #[(.string ⟨#[61, 61, 61, 61, 61, 61, 61, 61, 61, 61, 61, 61, 61, 61, 61, 61, 61, 61, 61, 61, 61, 61, 61, 61, 61, 61, 61, 61, 61, 61, 61, 61, 61, 61, 61, 61, 61, 61, 61, 61, 61, 61, 61, 61, 61, 61, 61, 61, 61, 61, 61, 61, 61, 61, 61, 61, 61, 61, 61, 61, 61, 61, 61, 61, 61, 61, 61, 61, 61, 61, 61, 61, 61, 61, 61, 61, 61, 61, 61, 61, 61, 61, 61, 61, 61, 61, 61, 61, 61, 61, 61, 61, 61, 61, 61, 61, 61, 61, 61, 61, 61, 61, 61, 61, 61, 61, 61, 61, 61, 61, 61, 61, 61, 61, 61, 61, 61, 61, 61, 61, 61, 61, 61, 61, 61, 61, 61, 61]⟩), x0] w fun t81 w =>
  strings_Repeat_s8 R x0 x7 t81 w)
  (strings_Repeat_s8 R x0 x7 (.bool false) w)
theorem strings_Repeat_s9_eq (R : Value → World → Prop) : ∀ e w, lift Tryz.prog 125 (sub (bodyOf Tryz.f105) [1, 1, 1, 1, 1, 1, 1, 0, 1, 0, 1, 0, 0, 1, 1, 1, 1, 1, 1]) (blockK 2 (blockK 1 (seqK (fun e w => strings_Repeat_s4 R (e 0) (e 7) w) (finK Tryz.prog Tryz.f105.results.toList R)))) e w = strings_Repeat_s9 R (e 0) (e 7) w :=
  segs_eq (l := [(sub (bodyOf Tryz.f105) [1, 1, 1, 1, 1, 1, 1, 0, 1, 0, 1, 0, 0, 1, 1, 1, 1, 1, 1, 0])]) (y := (sub (bodyOf Tryz.f105) [1, 1, 1, 1, 1, 1, 1, 0, 1, 0, 1, 0, 0, 1, 1, 1, 1, 1, 1, 1])) (Y := (fun e w => strings_Repeat_s8 R (e 0) (e 7) (e 76) w)) (strings_Repeat_s8_eq R) (fun e w => by kernel_rfl)
def strings_Repeat_s10 (R : Value → World → Prop) (x0 x7 x67 : Value) (w : World) : Prop :=
  bV x67 (strings_Repeat_s7 R x7 w) (strings_Repeat_s9 R x0 x7 w)
theorem strings_Repeat_s10_eq (R : Value → World → Prop) : ∀ e w, lift Tryz.prog 125 (sub (bodyOf Tryz.f105) [1, 1, 1, 1, 1, 1, 1, 0, 1, 0, 1, 0, 0, 1, 1, 1, 1, 1]) (blockK 2 (blockK 1 (seqK (fun e w => strings_Repeat_s4 R (e 0) (e 7) w) (finK Tryz.prog Tryz.f105.results.toList R)))) e w = strings_Repeat_s10 R (e 0) (e 7) (e 67) w := fun e w => (cond_seg (x := (sub (bodyOf Tryz.f105) [1, 1, 1, 1, 1, 1, 1, 0, 1, 0, 1, 0, 0, 1, 1, 1, 1, 1, 0])) (y := (sub (bodyOf Tryz.f105) [1, 1, 1, 1, 1, 1, 1, 0, 1, 0, 1, 0, 0, 1, 1, 1, 1, 1, 1])) (strings_Repeat_s7_eq R) (strings_Repeat_s9_eq R) e w).trans (by kernel_rfl)
def strings_Repeat_s11 (R : Value → World → Prop) (x0 x7 : Value) (w : World) : Prop :=
  qG Tryz.prog (bq .leq 3 (.tmp 68) (.const (.int .i64 64)) x7 (.int .i64 64)) w fun t69 =>
  bV t69
  (callG Tryz.prog 126 #[(.string ⟨#[48, 48, 48, 48, 48, 48, 48, 48, 48, 48, 48, 48, 48, 48, 48, 48, 48, 48, 48, 48, 48, 48, 48, 48, 48, 48, 48, 48, 48, 48, 48, 48, 48, 48, 48, 48, 48, 48, 48, 48, 48, 48, 48, 48, 48, 48, 48, 48, 48, 48, 48, 48, 48, 48, 48, 48, 48, 48, 48, 48, 48, 48, 48, 48]⟩), x0] w fun t72 w =>
  strings_Repeat_s10 R x0 x7 t72 w)
  (strings_Repeat_s10 R x0 x7 (.bool false) w)
theorem strings_Repeat_s11_eq (R : Value → World → Prop) : ∀ e w, lift Tryz.prog 125 (sub (bodyOf Tryz.f105) [1, 1, 1, 1, 1, 1, 1, 0, 1, 0, 1, 0, 0, 1, 1, 1, 1]) (blockK 2 (blockK 1 (seqK (fun e w => strings_Repeat_s4 R (e 0) (e 7) w) (finK Tryz.prog Tryz.f105.results.toList R)))) e w = strings_Repeat_s11 R (e 0) (e 7) w :=
  segs_eq (l := [(sub (bodyOf Tryz.f105) [1, 1, 1, 1, 1, 1, 1, 0, 1, 0, 1, 0, 0, 1, 1, 1, 1, 0])]) (y := (sub (bodyOf Tryz.f105) [1, 1, 1, 1, 1, 1, 1, 0, 1, 0, 1, 0, 0, 1, 1, 1, 1, 1])) (Y := (fun e w => strings_Repeat_s10 R (e 0) (e 7) (e 67) w)) (strings_Repeat_s10_eq R) (fun e w => by kernel_rfl)
def strings_Repeat_s12 (R : Value → World → Prop) (x0 x7 x58 : Value) (w : World) : Prop :=
  bV x58 (strings_Repeat_s6 R x7 w) (strings_Repeat_s11 R x0 x7 w)
theorem strings_Repeat_s12_eq (R : Value → World → Prop) : ∀ e w, lift Tryz.prog 125 (sub (bodyOf Tryz.f105) [1, 1, 1, 1, 1, 1, 1, 0, 1, 0, 1, 0, 0, 1, 1, 1]) (blockK 2 (blockK 1 (seqK (fun e w => strings_Repeat_s4 R (e 0) (e 7) w) (finK Tryz.prog Tryz.f105.results.toList R)))) e w = strings_Repeat_s12 R (e 0) (e 7) (e 58) w := fun e w => (cond_seg (x := (sub (bodyOf Tryz.f105) [1, 1, 1, 1, 1, 1, 1, 0, 1, 0, 1, 0, 0, 1, 1, 1, 0])) (y := (sub (bodyOf Tryz.f105) [1, 1, 1, 1, 1, 1, 1, 0, 1, 0, 1, 0, 0, 1, 1, 1, 1])) (strings_Repeat_s6_eq R) (strings_Repeat_s11_eq R) e w).trans (by kernel_rfl)
def strings_Repeat_s13 (R : Value → World → Prop) (x0 x7 : Value) (w : World) : Prop :=
  qG Tryz.prog (bq .leq 3 (.tmp 59) (.const (.int .i64 128)) x7 (.int .i64 128)) w fun t60 =>
  bV t60
  (callG Tryz.prog 126 #[(.string ⟨#[45, 45, 45, 45, 45, 45, 45, 45, 45, 45, 45, 45, 45, 45, 45, 45, 45, 45, 45, 45, 45, 45, 45, 45, 45, 45, 45, 45, 45, 45, 45, 45, 45, 45, 45, 45, 45, 45, 45, 45, 45, 45, 45, 45, 45, 45, 45, 45, 45, 45, 45, 45, 45, 45, 45, 45, 45, 45, 45, 45, 45, 45, 45, 45, 45, 45, 45, 45, 45, 45, 45, 45, 45, 45, 45, 45, 45, 45, 45, 45, 45, 45, 45, 45, 45, 45, 45, 45, 45, 45, 45, 45, 45, 45, 45, 45, 45, 45, 45, 45, 45, 45, 45, 45, 45, 45, 45, 45, 45, 45, 45, 45, 45, 45, 45, 45, 45, 45, 45, 45, 45, 45, 45, 45, 45, 45, 45, 45]⟩), x0] w fun t63 w =>
  strings_Repeat_s12 R x0 x7 t63 w)
  (strings_Repeat_s12 R x0 x7 (.bool false) w)
theorem strings_Repeat_s13_eq (R : Value → World → Prop) : ∀ e w, lift Tryz.prog 125 (sub (bodyOf Tryz.f105) [1, 1, 1, 1, 1, 1, 1, 0, 1, 0, 1, 0, 0, 1, 1]) (blockK 2 (blockK 1 (seqK (fun e w => strings_Repeat_s4 R (e 0) (e 7) w) (finK Tryz.prog Tryz.f105.results.toList R)))) e w = strings_Repeat_s13 R (e 0) (e 7) w :=
  segs_eq (l := [(sub (bodyOf Tryz.f105) [1, 1, 1, 1, 1, 1, 1, 0, 1, 0, 1, 0, 0, 1, 1, 0])]) (y := (sub (bodyOf Tryz.f105) [1, 1, 1, 1, 1, 1, 1, 0, 1, 0, 1, 0, 0, 1, 1, 1])) (Y := (fun e w => strings_Repeat_s12 R (e 0) (e 7) (e 58) w)) (strings_Repeat_s12_eq R) (fun e w => by kernel_rfl)
def strings_Repeat_s14 (R : Value → World → Prop) (x0 x7 x49 : Value) (w : World) : Prop :=
  bV x49 (strings_Repeat_s5 R x7 w) (strings_Repeat_s13 R x0 x7 w)
theorem strings_Repeat_s14_eq (R : Value → World → Prop) : ∀ e w, lift Tryz.prog 125 (sub (bodyOf Tryz.f105) [1, 1, 1, 1, 1, 1, 1, 0, 1, 0, 1, 0, 0, 1]) (blockK 2 (blockK 1 (seqK (fun e w => strings_Repeat_s4 R (e 0) (e 7) w) (finK Tryz.prog Tryz.f105.results.toList R)))) e w = strings_Repeat_s14 R (e 0) (e 7) (e 49) w := fun e w => (cond_seg (x := (sub (bodyOf Tryz.f105) [1, 1, 1, 1, 1, 1, 1, 0, 1, 0, 1, 0, 0, 1, 0])) (y := (sub (bodyOf Tryz.f105) [1, 1, 1, 1, 1, 1, 1, 0, 1, 0, 1, 0, 0, 1, 1])) (strings_Repeat_s5_eq R) (strings_Repeat_s13_eq R) e w).trans (by kernel_rfl)
def strings_Repeat_s15 (R : Value → World → Prop) (x0 x7 : Value) (w : World) : Prop :=
  qG Tryz.prog (bq .leq 3 (.tmp 50) (.const (.int .i64 128)) x7 (.int .i64 128)) w fun t51 =>
  bV t51
  (callG Tryz.prog 126 #[(.string ⟨#[32, 32, 32, 32, 32, 32, 32, 32, 32, 32, 32, 32, 32, 32, 32, 32, 32, 32, 32, 32, 32, 32, 32, 32, 32, 32, 32, 32, 32, 32, 32, 32, 32, 32, 32, 32, 32, 32, 32, 32, 32, 32, 32, 32, 32, 32, 32, 32, 32, 32, 32, 32, 32, 32, 32, 32, 32, 32, 32, 32, 32, 32, 32, 32, 32, 32, 32, 32, 32, 32, 32, 32, 32, 32, 32, 32, 32, 32, 32, 32, 32, 32, 32, 32, 32, 32, 32, 32, 32, 32, 32, 32, 32, 32, 32, 32, 32, 32, 32, 32, 32, 32, 32, 32, 32, 32, 32, 32, 32, 32, 32, 32, 32, 32, 32, 32, 32, 32, 32, 32, 32, 32, 32, 32, 32, 32, 32, 32]⟩), x0] w fun t54 w =>
  strings_Repeat_s14 R x0 x7 t54 w)
  (strings_Repeat_s14 R x0 x7 (.bool false) w)
theorem strings_Repeat_s15_eq (R : Value → World → Prop) : ∀ e w, lift Tryz.prog 125 (sub (bodyOf Tryz.f105) [1, 1, 1, 1, 1, 1, 1, 0, 1, 0, 1, 0, 0]) (blockK 2 (blockK 1 (seqK (fun e w => strings_Repeat_s4 R (e 0) (e 7) w) (finK Tryz.prog Tryz.f105.results.toList R)))) e w = strings_Repeat_s15 R (e 0) (e 7) w :=
  segs_eq (l := [(sub (bodyOf Tryz.f105) [1, 1, 1, 1, 1, 1, 1, 0, 1, 0, 1, 0, 0, 0])]) (y := (sub (bodyOf Tryz.f105) [1, 1, 1, 1, 1, 1, 1, 0, 1, 0, 1, 0, 0, 1])) (Y := (fun e w => strings_Repeat_s14 R (e 0) (e 7) (e 49) w)) (strings_Repeat_s14_eq R) (fun e w => by kernel_rfl)
def strings_Repeat_s16 (R : Value → World → Prop) (x0 x7 : Value) (w : World) : Prop :=
  strings_Repeat_s4 R x0 x7 w
theorem strings_Repeat_s16_eq (R : Value → World → Prop) : ∀ e w, lift Tryz.prog 125 (sub (bodyOf Tryz.f105) [1, 1, 1, 1, 1, 1, 1, 0, 1, 0, 1, 1]) (blockK 1 (seqK (fun e w => strings_Repeat_s4 R (e 0) (e 7) w) (finK Tryz.prog Tryz.f105.results.toList R))) e w = strings_Repeat_s16 R (e 0) (e 7) w := fun e w => by kernel_rfl
def strings_Repeat_s17 (R : Value → World → Prop) (x0 x7 x43 : Value) (w : World) : Prop :=
  bV x43 (strings_Repeat_s15 R x0 x7 w) (strings_Repeat_s16 R x0 x7 w)
theorem strings_Repeat_s17_eq (R : Value → World → Prop) : ∀ e w, lift Tryz.prog 125 (sub (bodyOf Tryz.f105) [1, 1, 1, 1, 1, 1, 1, 0, 1, 0, 1]) (blockK 1 (seqK (fun e w => strings_Repeat_s4 R (e 0) (e 7) w) (finK Tryz.prog Tryz.f105.results.toList R))) e w = strings_Repeat_s17 R (e 0) (e 7) (e 43) w := fun e w => (cond_seg (x := (sub (bodyOf Tryz.f105) [1, 1, 1, 1, 1, 1, 1, 0, 1, 0, 1, 0])) (y := (sub (bodyOf Tryz.f105) [1, 1, 1, 1, 1, 1, 1, 0, 1, 0, 1, 1])) (strings_Repeat_s15_eq R) (strings_Repeat_s16_eq R) e w).trans (by kernel_rfl)
def strings_Repeat_s18 (R : Value → World → Prop) (x0 x7 x42 : Value) (w : World) : Prop :=
  qG Tryz.prog (bq .eql 5 (.tmp 42) (.const (.int .u8 32)) x42 (.int .u8 32)) w fun t44 =>
  bV t44
  (strings_Repeat_s17 R x0 x7 (.bool true) w)
  (qG Tryz.prog (bq .eql 5 (.tmp 42) (.const (.int .u8 45)) x42 (.int .u8 45)) w fun t45 =>
  bV t45
  (strings_Repeat_s17 R x0 x7 (.bool true) w)
  (qG Tryz.prog (bq .eql 5 (.tmp 42) (.const (.int .u8 48)) x42 (.int .u8 48)) w fun t46 =>
  bV t46
  (strings_Repeat_s17 R x0 x7 (.bool true) w)
  (qG Tryz.prog (bq .eql 5 (.tmp 42) (.const (.int .u8 61)) x42 (.int .u8 61)) w fun t47 =>
  bV t47
  (strings_Repeat_s17 R x0 x7 (.bool true) w)
  (qG Tryz.prog (bq .eql 5 (.tmp 42) (.const (.int .u8 9)) x42 (.int .u8 9)) w fun t48 =>
  strings_Repeat_s17 R x0 x7 t48 w))))
theorem strings_Repeat_s18_eq (R : Value → World → Prop) : ∀ e w, lift Tryz.prog 125 (sub (bodyOf Tryz.f105) [1, 1, 1, 1, 1, 1, 1, 0, 1, 0]) (blockK 1 (seqK (fun e w => strings_Repeat_s4 R (e 0) (e 7) w) (finK Tryz.prog Tryz.f105.results.toList R))) e w = strings_Repeat_s18 R (e 0) (e 7) (e 42) w :=
  segs_eq (l := [(sub (bodyOf Tryz.f105) [1, 1, 1, 1, 1, 1, 1, 0, 1, 0, 0])]) (y := (sub (bodyOf Tryz.f105) [1, 1, 1, 1, 1, 1, 1, 0, 1, 0, 1])) (Y := (fun e w => strings_Repeat_s17 R (e 0) (e 7) (e 43) w)) (strings_Repeat_s17_eq R) (fun e w => by kernel_rfl)
def strings_Repeat_s19 (R : Value → World → Prop) (x0 x7 : Value) (w : World) : Prop :=
  ixS x0 (.int .i64 0) fun t42 =>
  strings_Repeat_s18 R x0 x7 t42 w
theorem strings_Repeat_s19_eq (R : Value → World → Prop) : ∀ e w, lift Tryz.prog 125 (sub (bodyOf Tryz.f105) [1, 1, 1, 1, 1, 1, 1, 0]) (seqK (fun e w => strings_Repeat_s4 R (e 0) (e 7) w) (finK Tryz.prog Tryz.f105.results.toList R)) e w = strings_Repeat_s19 R (e 0) (e 7) w :=
  segs_eq (l := [(sub (bodyOf Tryz.f105) [1, 1, 1, 1, 1, 1, 1, 0, 0])]) (y := (sub (bodyOf Tryz.f105) [1, 1, 1, 1, 1, 1, 1, 0, 1])) (Y := (fun e w => strings_Repeat_s18 R (e 0) (e 7) (e 42) w)) (strings_Repeat_s18_eq R) (fun e w => by kernel_rfl)
def strings_Repeat_s20 (R : Value → World → Prop) (x0 x6 : Value) (w : World) : Prop :=
  cvI .i64 x6 fun t37 =>
  lenS x0 fun t39 =>
  qG Tryz.prog (bq .eql 3 (.tmp 39) (.const (.int .i64 0)) t39 (.int .i64 0)) w fun t40 =>
  bV t40
  (R (.string ⟨#[]⟩) w)
  (strings_Repeat_s19 R x0 t37 w)
theorem strings_Repeat_s20_eq (R : Value → World → Prop) : ∀ e w, lift Tryz.prog 125 (sub (bodyOf Tryz.f105) [1, 1, 1, 1, 1]) (finK Tryz.prog Tryz.f105.results.toList R) e w = strings_Repeat_s20 R (e 0) (e 6) w :=
  segs_eq (l := [(sub (bodyOf Tryz.f105) [1, 1, 1, 1, 1, 0]), (sub (bodyOf Tryz.f105) [1, 1, 1, 1, 1, 1, 0])]) (y := (sub (bodyOf Tryz.f105) [1, 1, 1, 1, 1, 1, 1])) (Y := (fun e w => strings_Repeat_s19 R (e 0) (e 7) w)) (seq_seg (x := (sub (bodyOf Tryz.f105) [1, 1, 1, 1, 1, 1, 1, 0])) (y := (sub (bodyOf Tryz.f105) [1, 1, 1, 1, 1, 1, 1, 1])) (strings_Repeat_s4_eq R) (strings_Repeat_s19_eq R)) (fun e w => by kernel_rfl)
def strings_Repeat_s21 (R : Value → World → Prop) (x0 x1 : Value) (w : World) : Prop :=
  lenS x0 fun t22 =>
  cvI .u64 t22 fun t23 =>
  cvI .u64 x1 fun t25 =>
  callG Tryz.prog 125 #[t23, t25] w fun t26 w =>
  qG Tryz.prog (Instr.extract t26 0) w fun t27 =>
  qG Tryz.prog (Instr.extract t26 1) w fun t28 =>
  qG Tryz.prog (bq .gtr 149 (.tmp 29) (.const (.int .u64 0)) t27 (.int .u64 0)) w fun t30 =>
  bV t30
  (qG Tryz.prog (Instr.makeInterface 9 (.string ⟨#[115, 116, 114, 105, 110, 103, 115, 58, 32, 82, 101, 112, 101, 97, 116, 32, 111, 117, 116, 112, 117, 116, 32, 108, 101, 110, 103, 116, 104, 32, 111, 118, 101, 114, 102, 108, 111, 119]⟩)) w fun t35 =>
  False)
  (qG Tryz.prog (bq .gtr 149 (.tmp 32) (.const (.int .u64 9223372036854775807)) t28 (.int .u64 9223372036854775807)) w fun t33 =>
  bV t33
  (qG Tryz.prog (Instr.makeInterface 9 (.string ⟨#[115, 116, 114, 105, 110, 103, 115, 58, 32, 82, 101, 112, 101, 97, 116, 32, 111, 117, 116, 112, 117, 116, 32, 108, 101, 110, 103, 116, 104, 32, 111, 118, 101, 114, 102, 108, 111, 119]⟩)) w fun t35_1 =>
  False)
  (strings_Repeat_s20 R x0 t28 w))
theorem strings_Repeat_s21_eq (R : Value → World → Prop) : ∀ e w, lift Tryz.prog 125 (sub (bodyOf Tryz.f105) [1, 1, 1]) (finK Tryz.prog Tryz.f105.results.toList R) e w = strings_Repeat_s21 R (e 0) (e 1) w :=
  segs_eq (l := [(sub (bodyOf Tryz.f105) [1, 1, 1, 0]), (sub (bodyOf Tryz.f105) [1, 1, 1, 1, 0])]) (y := (sub (bodyOf Tryz.f105) [1, 1, 1, 1, 1])) (Y := (fun e w => strings_Repeat_s20 R (e 0) (e 6) w)) (strings_Repeat_s20_eq R) (fun e w => by kernel_rfl)
def strings_Repeat_s22 (R : Value → World → Prop) (x0 x1 : Value) (w : World) : Prop :=
  qG Tryz.prog (bq .eql 3 (.tmp 11) (.const (.int .i64 0)) x1 (.int .i64 0)) w fun t13 =>
  bV t13
  (R (.string ⟨#[]⟩) w)
  (qG Tryz.prog (bq .eql 3 (.tmp 11) (.const (.int .i64 1)) x1 (.int .i64 1)) w fun t15 =>
  bV t15
  (R x0 w)
  (qG Tryz.prog (bq .lss 3 (.tmp 17) (.const (.int .i64 0)) x1 (.int .i64 0)) w fun t18 =>
  bV t18
  (qG Tryz.prog (Instr.makeInterface 9 (.string ⟨#[115, 116, 114, 105, 110, 103, 115, 58, 32, 110, 101, 103, 97, 116, 105, 118, 101, 32, 82, 101, 112, 101, 97, 116, 32, 99, 111, 117, 110, 116]⟩)) w fun t19 =>
  False)
  (strings_Repeat_s21 R x0 x1 w)))
theorem strings_Repeat_s22_eq (R : Value → World → Prop) : ∀ e w, lift Tryz.prog 125 (bodyOf Tryz.f105) (finK Tryz.prog Tryz.f105.results.toList R) e w = strings_Repeat_s22 R (e 0) (e 1) w :=
  segs_eq (l := [(sub (bodyOf Tryz.f105) [0]), (sub (bodyOf Tryz.f105) [1, 0]), (sub (bodyOf Tryz.f105) [1, 1, 0])]) (y := (sub (bodyOf Tryz.f105) [1, 1, 1])) (Y := (fun e w => strings_Repeat_s21 R (e 0) (e 1) w)) (strings_Repeat_s21_eq R) (fun e w => by kernel_rfl)
def strings_Repeat (R : Value → World → Prop) (x0 x1 : Value) (w : World) : Prop := strings_Repeat_s22 R x0 x1 w
theorem strings_Repeat_call {R : Value → World → Prop} {x0 x1 : Value} {w : World} (h : strings_Repeat R x0 x1 w) : callG Tryz.prog 105 #[x0, x1] w R :=
  calls_lift_eq Tryz.mixed Tryz.func105 (args := [x0, x1]) rfl rfl rfl rfl ((strings_Repeat_s22_eq R) (envOf [x0, x1]) w) (by kernel_rfl) h
end Go.Proofs

set_option linter.unusedVariables false
set_option linter.unusedSimpArgs false
namespace Go.Q
variable {P : Program}
end Go.Q

set_option linter.unusedVariables false
set_option linter.unusedSimpArgs false
namespace Go.Q
structure E where
  v : V3
  n : Int
  deriving DecidableEq
def eC (e : E) : List Value := valV e.v ++ [.int .i64 e.n]
end Go.Q

