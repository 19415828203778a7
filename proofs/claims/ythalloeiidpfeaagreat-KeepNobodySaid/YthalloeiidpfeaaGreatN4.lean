/- Part of the proof (N4): an engine, rules or contracts of the functions; it states nothing of the claim by itself. -/
import Derived.Test.YthalloeiidpfeaaGreatN1
import Derived.Test.YthalloeiidpfeaaGreatN3
import Derived.Test.YthalloeiidpfeaaGreatN2
import Derived.Lib.Overlaps

set_option linter.unusedVariables false
set_option linter.unusedSimpArgs false
namespace Go.Proofs
open Go Go.Q
theorem lname_spec {w : World} (s : List UInt8) {K : Value → World → Prop} (hK : K (.bool (nameOk s)) w) : callG Tryz.prog 51 #[.string (str s)] w K := by
  refine ledger_name_call ?_
  unfold nameOk at hK
  have e1 : ((1 : Int) ≤ (s.length : Int)) = (1 ≤ s.length) := by apply propext; omega
  by_cases h : 1 ≤ s.length
  · simpa [ledger_name, ledger_name_s0, e1, le64, h] using hK
  · simpa [ledger_name, ledger_name_s0, e1, le64, h] using hK
theorem zcPl : zc Tryz.prog 101 = [.string (str []), .string (str [])].toArray := by kernel_rfl
theorem aggPl : aggO Tryz.prog 101 = some true := by kernel_rfl
theorem szPl : szO Tryz.prog 101 = some 2 := by kernel_rfl
theorem lvPl {b : Nat} {w : World} {c : Array Value} {T : TypeId} {fr : Nat × Nat} (hb : Live w b) (hs : c.size = 2) {K : Value → Prop} :
    qG Tryz.prog (do loadVar 101 (← asAddr (.pointer (some ⟨b, 0, none⟩)))) (setBlk w b (.cells c T fr)) K = K (.agg c) := loadVar_of aggPl szPl (heap_self hb) hs
theorem of_spec7 {w : World} (s : SV) {K : Value → World → Prop} (hK : ∀ w', Kp [] w w' → K (keyV s.sku s.loc) w') : callG Tryz.prog 53 #[sA s] w K := by
  refine ledger_of_call ?_
  unfold ledger_of ledger_of_s0 sA
  simp only [newG_k, cells_agg, zcPl]
  obtain ⟨p, hp⟩ : ∃ p, p = w.heap.size := ⟨_, rfl⟩
  obtain ⟨w1, hw1⟩ := ex_w (w' := w.alloc (.cells #[.string (str s.sku), .string (str s.loc), .int .i64 s.hand, .int .i64 s.held] 48))
  have hk1 : Kp [] w w1 := by rw [hw1]; exact kp_alloc
  have h1 : w1.heap[p]? = some (.cells #[.string (str s.sku), .string (str s.loc), .int .i64 s.hand, .int .i64 s.held] 48) := by rw [hw1, hp]; exact heap_new
  rw [← hw1, ← hp]
  obtain ⟨q, hq⟩ : ∃ q, q = w1.heap.size := ⟨_, rfl⟩
  obtain ⟨w2, hw2⟩ := ex_w (w' := w1.alloc (.cells [.string (str []), .string (str [])].toArray 101))
  have hk2 : Kp [] w1 w2 := by rw [hw2]; exact kp_alloc
  have h2 : w2.heap[q]? = some (.cells [.string (str []), .string (str [])].toArray 101) := by rw [hw2, hq]; exact heap_new
  rw [← hw2, ← hq]
  have h12 := hk2.get h1 (by simp)
  have l2 := live_of h2
  have hqs : w.heap.size ≤ q := by have := hk1.size; omega
  simp [-getElem?_pos, -Array.all_eq_true, -Array.getElem?_eq_getElem, -List.length_flatten, List.getElem?_cons_zero, List.getElem?_cons_succ, h12, h2, zcPl, bld_done, bld_if, offAt, putAt, lvPl, l2]
  exact hK _ ((hk1.trans' hk2).setBlk (.inr hqs) _)
theorem Compare_spec {w : World} (a b : List UInt8) {K : Value → World → Prop} (hK : K (.int .i64 (cmpL a b)) w) : callG Tryz.prog 99 #[.string (str a), .string (str b)] w K := by
  refine strings_Compare_call ?_
  unfold strings_Compare strings_Compare_s0
  refine internal_bytealg_CompareString_call ?_
  unfold internal_bytealg_CompareString internal_bytealg_CompareString_s0
  exact nG_cmp Tryz.func137 (by kernel_rfl) (by kernel_rfl) (by kernel_rfl) (by kernel_rfl) a b hK
theorem Or_spec {w : World} {v : Value} {p q : Int} (hr : Rd w v 1 ([p, q].map intV)) {K : Value → World → Prop} (hK : K (.int .i64 (if p ≠ 0 then p else q)) w) : callG Tryz.prog 98 #[v] w K := by
  refine cmp_Or_int_call ?_
  unfold cmp_Or_int cmp_Or_int_s4 cmp_Or_int_s3 cmp_Or_int_L2
  rw [hr.lenL]
  obtain ⟨p0, a0, b0⟩ := hr.one (i := 0) (by simp) (x := .int .i64 p) (by simp [intV])
  obtain ⟨p1, a1, b1⟩ := hr.one (i := 1) (by simp) (x := .int .i64 q) (by simp [intV])
  have a0' : ∀ K : Value → Prop, ia 1 v (.int .i64 0) K = K p0 := fun K => a0 .i64 K
  have a1' : ∀ K : Value → Prop, ia 1 v (.int .i64 1) K = K p1 := fun K => a1 .i64 K
  refine loop_inv (fun m xs wi => (∃ i : Nat, i ≤ 2 ∧ m = 2 - i ∧ xs = [.int .i64 0, v, .int .i64 2, .int .i64 (i : Nat)] ∧ wi = w ∧ (1 ≤ i → p = 0) ∧ (2 ≤ i → q = 0))) ?_ (m := 2) ⟨0, by omega, rfl, rfl, rfl, by omega, by omega⟩
  rintro m N xs wi ⟨i, hi, rfl, rfl, rfl, hp, hq⟩ hN
  unfold cmp_Or_int_L2F cmp_Or_int_b1
  have : i = 0 ∨ i = 1 ∨ i = 2 := by omega
  rcases this with rfl | rfl | rfl
  · simp [-getElem?_pos, -Array.all_eq_true, -Array.getElem?_eq_getElem, -List.length_flatten, List.getElem?_cons_zero, List.getElem?_cons_succ, a0', b0]
    refine ⟨fun h => by rw [if_pos h] at hK; exact hK, fun h => ?_⟩
    have e : IntKind.i64.wrap 1 = 1 := by decide
    first | rw [e] | skip
    exact hN 1 _ wi (by omega) ⟨1, by omega, rfl, rfl, rfl, fun _ => h, by omega⟩
  · have h0 := hp (by omega)
    rw [if_neg (by simp [h0])] at hK
    simp [-getElem?_pos, -Array.all_eq_true, -Array.getElem?_eq_getElem, -List.length_flatten, List.getElem?_cons_zero, List.getElem?_cons_succ, a1', b1]
    refine ⟨fun h => hK, fun h => ?_⟩
    have e : IntKind.i64.wrap 2 = 2 := by decide
    first | rw [e] | skip
    exact hN 0 _ wi (by omega) ⟨2, by omega, rfl, rfl, rfl, fun _ => h0, fun _ => h⟩
  · have h0 := hp (by omega)
    have h1 := hq (by omega)
    rw [if_neg (by simp [h0]), h1] at hK
    simp [-getElem?_pos, -Array.all_eq_true, -Array.getElem?_eq_getElem, -List.length_flatten, List.getElem?_cons_zero, List.getElem?_cons_succ, cmp_Or_int_s0]
    exact hK
theorem order_spec {w : World} (s l s' l' : List UInt8) {K : Value → World → Prop} (hK : ∀ w', Kp [] w w' → K (.int .i64 (ordL s l s' l')) w') : callG Tryz.prog 52 #[keyV s l, keyV s' l'] w K := by
  refine ledger_order_call ?_
  unfold ledger_order ledger_order_s0 keyV
  simp only [newG_k, cells_agg]
  obtain ⟨p, hp⟩ : ∃ p, p = w.heap.size := ⟨_, rfl⟩
  obtain ⟨w1, hw1⟩ := ex_w (w' := w.alloc (.cells #[.string (str s), .string (str l)] 101))
  have hk1 : Kp [] w w1 := by rw [hw1]; exact kp_alloc
  have h1 : w1.heap[p]? = some (.cells #[.string (str s), .string (str l)] 101) := by rw [hw1, hp]; exact heap_new
  rw [← hw1, ← hp]
  obtain ⟨q, hq⟩ : ∃ q, q = w1.heap.size := ⟨_, rfl⟩
  obtain ⟨w2, hw2⟩ := ex_w (w' := w1.alloc (.cells #[.string (str s'), .string (str l')] 101))
  have hk2 : Kp [] w1 w2 := by rw [hw2]; exact kp_alloc
  have h2 : w2.heap[q]? = some (.cells #[.string (str s'), .string (str l')] 101) := by rw [hw2, hq]; exact heap_new
  rw [← hw2, ← hq]
  have h12 := hk2.get h1 (by simp)
  simp [-getElem?_pos, -Array.all_eq_true, -Array.getElem?_eq_getElem, -List.length_flatten, List.getElem?_cons_zero, List.getElem?_cons_succ, h12, h2]
  refine Compare_spec s s' ?_
  simp [-getElem?_pos, -Array.all_eq_true, -Array.getElem?_eq_getElem, -List.length_flatten, List.getElem?_cons_zero, List.getElem?_cons_succ, h12, h2]
  refine Compare_spec l l' ?_
  refine bsl_rows (n := 1) (len := 2) (xs := [.int .i64 (cmpL s s'), .int .i64 (cmpL l l')]) (rows := [cmpL s s', cmpL l l'].map intV) (by omega) rfl rfl (by simp [intV]) (by omega) fun v3 w3 h3 => ?_
  refine Or_spec h3.rd ?_
  exact hK w3 (((hk1.trans' hk2).trans' kp_drew).trans' h3.kp)
theorem hold_true {w : World} {h : HV} {k : Nat} (hk : k < 1000000) (h1 : h.id = (k + 1 : Nat)) (h2 : nameOk h.sku = true) (h3 : nameOk h.loc = true) (h4 : 1 ≤ h.q) (h5 : 0 ≤ h.st) (h6 : h.st ≤ 2) (h7 : 0 ≤ h.due) {K : Value → World → Prop} (hK : ∀ w', Kp [] w w' → K (.bool true) w') :
    callG Tryz.prog 54 #[.int .i64 k, hA h] w K := by
  refine ledger_hold_call ?_
  unfold ledger_hold ledger_hold_s0
  refine argBox (cs := hC h) fun b w1 hb hh hk1 => ?_
  have hiw : IntKind.i64.wrap ((k : Int) + 1) = ((k + 1 : Nat) : Int) := by rw [w64 (by omega) (by omega)]; simp
  simp [-getElem?_pos, -Array.all_eq_true, -Array.getElem?_eq_getElem, -List.length_flatten, List.getElem?_cons_zero, List.getElem?_cons_succ, hh, hC, hiw, h1]
  refine lname_spec h.sku ?_
  simp [-getElem?_pos, -Array.all_eq_true, -Array.getElem?_eq_getElem, -List.length_flatten, List.getElem?_cons_zero, List.getElem?_cons_succ, h2, hh, hC]
  refine lname_spec h.loc ?_
  simp [-getElem?_pos, -Array.all_eq_true, -Array.getElem?_eq_getElem, -List.length_flatten, List.getElem?_cons_zero, List.getElem?_cons_succ, h3, hh, hC, h4, h5, h6, h7]
  exact hK w1 hk1
theorem move_true {w : World} {h : HV} {k : Nat} (hk : k < 1000000) (h1 : h.id = (k + 1 : Nat)) (h2 : nameOk h.sku = true) (h3 : nameOk h.loc = true) (h4 : h.q ≠ 0) (h5 : h.st = 1 ∨ h.st = 3 ∨ h.st = 6 ∨ h.st = 7) (h6 : 0 ≤ h.due) (h7 : h.due ≠ 0 ↔ h.st = 3)
    {K : Value → World → Prop} (hK : ∀ w', Kp [] w w' → K (.bool true) w') : callG Tryz.prog 55 #[.int .i64 k, hA h] w K := by
  refine ledger_move_call ?_
  unfold ledger_move ledger_move_s4 ledger_move_s3 ledger_move_s2
  refine argBox (cs := hC h) fun b w1 hb hh hk1 => ?_
  have hiw : IntKind.i64.wrap ((k : Int) + 1) = ((k + 1 : Nat) : Int) := by rw [w64 (by omega) (by omega)]; simp
  have hs0 : ledger_move_s0 K (.int .i64 k) (.pointer (some ⟨b, 0, none⟩)) w1 := by
    unfold ledger_move_s0
    simp [-getElem?_pos, -Array.all_eq_true, -Array.getElem?_eq_getElem, -List.length_flatten, List.getElem?_cons_zero, List.getElem?_cons_succ, hh, hC, hiw, h1]
    refine lname_spec h.sku ?_
    simp [-getElem?_pos, -Array.all_eq_true, -Array.getElem?_eq_getElem, -List.length_flatten, List.getElem?_cons_zero, List.getElem?_cons_succ, h2, hh, hC]
    refine lname_spec h.loc ?_
    simp [-getElem?_pos, -Array.all_eq_true, -Array.getElem?_eq_getElem, -List.length_flatten, List.getElem?_cons_zero, List.getElem?_cons_succ, h3, hh, hC, h4]
    exact hK w1 hk1
  unfold ledger_move_s1
  simp [-getElem?_pos, -Array.all_eq_true, -Array.getElem?_eq_getElem, -List.length_flatten, List.getElem?_cons_zero, List.getElem?_cons_succ, hh, hC]
  have hK0 := hK w1 hk1
  rcases h5 with h5 | h5 | h5 | h5 <;> simp [h5] at h7 ⊢ <;> repeat' (first | exact hs0 | refine And.intro ?_ ?_ | intro _ | (exfalso; omega))
end Go.Proofs

set_option linter.unusedVariables false
set_option linter.unusedSimpArgs false
namespace Go.Q
open Go
structure IE where
  a : List UInt8
  b : List UInt8
  ks : List Int
  v : Value
  S : List Nat
def IE.me (e : IE) : ME := ⟨e.a, e.b, e.v⟩
def blksI (R : List IE) : List Nat := (R.map (·.S)).flatten
structure IMap (wb w : World) (n : Nat) (R : List IE) : Prop where
  map : MapIs w n (R.map IE.me)
  rows : ∀ e ∈ R, RowsAt w e.v 1 (e.ks.map intV) e.S
  nd : (blksI R).Nodup
  new : ∀ x ∈ blksI R, wb.heap.size ≤ x
  old : n < wb.heap.size
  kp : Kp [n] wb w
section
variable {P : Program} {T kt et : TypeId} {z : Value} {wb w : World} {n : Nat} {R : List IE}
theorem IMap.keep {w' : World} (h : IMap wb w n R) (hk : Kp [] w w') : IMap wb w' n R :=
  ⟨h.map.keep hk (by simp), fun e he => (h.rows e he).keep hk (by simp), h.nd, h.new, h.old, h.kp.trans hk (by simp)⟩
theorem blks_mem {j : Nat} (hj : j < R.length) {x : Nat} (hx : x ∈ R[j].S) : x ∈ blksI R := by
  unfold blksI
  exact List.mem_flatten.2 ⟨R[j].S, List.mem_map.2 ⟨R[j], List.getElem_mem hj, rfl⟩, hx⟩
theorem blks_apart : ∀ {R : List IE} {i j : Nat} (hi : i < R.length) (hj : j < R.length), (blksI R).Nodup → i ≠ j → ∀ x ∈ R[i].S, x ∉ R[j].S := by
  intro R
  induction R with
  | nil => intro i j hi; simp at hi
  | cons e r ih =>
    intro i j hi hj hnd hne x hx hx'
    simp only [blksI, List.map_cons, List.flatten_cons, List.nodup_append] at hnd
    cases i with
    | zero =>
      cases j with
      | zero => exact hne rfl
      | succ j => exact hnd.2.2 x hx x (blks_mem (R := r) (by simpa using hj) hx') rfl
    | succ i =>
      cases j with
      | zero => exact hnd.2.2 x hx' x (blks_mem (R := r) (by simpa using hi) hx) rfl
      | succ j => exact ih (by simpa using hi) (by simpa using hj) hnd.2.1 (by omega) x (by simpa using hx) (by simpa using hx')
theorem blks_set : ∀ {R : List IE} {j : Nat} (hj : j < R.length) (e : IE) {x : Nat}, x ∈ blksI (R.set j e) → x ∈ e.S ∨ ∃ i, ∃ h : i < R.length, i ≠ j ∧ x ∈ R[i].S := by
  intro R j hj e x hx
  obtain ⟨S, hS, hxS⟩ := List.mem_flatten.1 hx
  obtain ⟨e', he', rfl⟩ := List.mem_map.1 hS
  obtain ⟨i, hi, rfl⟩ := List.getElem_of_mem he'
  simp only [List.length_set] at hi
  by_cases h : j = i
  · subst h; simp at hxS; exact .inl hxS
  · rw [List.getElem_set_ne h] at hxS
    exact .inr ⟨i, hi, Ne.symm h, hxS⟩
theorem blks_set_nd : ∀ {R : List IE} {j : Nat} (hj : j < R.length) (e : IE), (blksI R).Nodup → e.S.Nodup → (∀ i (hi : i < R.length), i ≠ j → ∀ x ∈ R[i].S, x ∉ e.S) → (blksI (R.set j e)).Nodup := by
  intro R
  induction R with
  | nil => intro j hj; simp at hj
  | cons y r ih =>
    intro j hj e hnd he hap
    simp only [blksI, List.map_cons, List.flatten_cons, List.nodup_append] at hnd
    cases j with
    | zero =>
      simp only [List.set_cons_zero, blksI, List.map_cons, List.flatten_cons, List.nodup_append]
      refine ⟨he, hnd.2.1, fun a ha b hb hab => ?_⟩
      subst hab
      obtain ⟨S, hS, hxS⟩ := List.mem_flatten.1 hb
      obtain ⟨e', he', rfl⟩ := List.mem_map.1 hS
      obtain ⟨i, hi, rfl⟩ := List.getElem_of_mem he'
      exact hap (i + 1) (by simpa using hi) (by omega) a (by simpa using hxS) ha
    | succ j =>
      simp only [List.set_cons_succ, blksI, List.map_cons, List.flatten_cons, List.nodup_append]
      refine ⟨hnd.1, ih (by simpa using hj) e hnd.2.1 he (fun i hi hne x hx => hap (i + 1) (by simpa using hi) (by omega) x (by simpa using hx)), fun a ha b hb hab => ?_⟩
      subst hab
      rcases blks_set (R := r) (by simpa using hj) e hb with h | ⟨i, hi, hne, h⟩
      · exact hap 0 (by simp) (by omega) a (by simpa using ha) h
      · exact hnd.2.2 a ha a (blks_mem (R := r) hi h) rfl
theorem rows_S_nd {v : Value} {rows : List (List Value)} {S : List Nat} (h : RowsAt w v 1 rows S) : S.Nodup := by
  rcases h with ⟨_, _, h⟩ | ⟨bl, F, T, _, h, _⟩ <;> rw [h] <;> simp
theorem im_add (ht : MapT P T kt et z) (h : IMap wb w n R) {j : Nat} (hj : j < R.length) (hu : ∀ i (hi : i < R.length), i ≠ j → ¬(R[i].a = R[j].a ∧ R[i].b = R[j].b)) (hl : R[j].ks.length < 2 ^ 30) (q : Int) {K : World → Prop}
    (hK : ∀ w' v' S', IMap wb w' n (R.set j { R[j] with ks := R[j].ks ++ [q], v := v', S := S' }) → K w') {e : TypeId} {zz : Array Value} (hzz : zz = #[.int .i64 0]) :
    bsl e 1 1 zz #[(0, .int .i64 q)] w fun t137 w => eG P (Instr.mapEntry T (.map (some n)) (keyV R[j].a R[j].b)) w fun t138 w => qG P (Instr.extract t138 0) w fun t134 => app e 1 8 zz t134 t137 w fun t139 w => qG P (Instr.extract t138 1) w fun t140 => uG P (Instr.entryStore T (.map (some n)) t140 t139) w K := by
  subst hzz
  refine bsl_rows (n := 1) (len := 1) (xs := [.int .i64 q]) (rows := [q].map intV) (by omega) rfl rfl (by simp [intV]) (by omega) fun v1 w1 f1 => ?_
  have h1 := h.keep f1.kp
  have hjm : j < (R.map IE.me).length := by simpa using hj
  have hme : (R.map IE.me)[j] = R[j].me := by simp
  have hf := findE_at (m := R.map IE.me) (k := 0) hjm (fun i hi hne => by
    have hi' : i < R.length := by simpa using hi
    have := hu i hi' hne
    simpa [IE.me] using this)
  have hent := map_entry_old (P := P) ht h1.map hjm (by simpa using hf) (K := fun t138 w => qG P (Instr.extract t138 0) w fun t134 => app e 1 8 #[.int .i64 0] t134 v1 w fun t139 w => qG P (Instr.extract t138 1) w fun t140 => uG P (Instr.entryStore T (.map (some n)) t140 t139) w K) ?_
  · simpa [IE.me] using hent
  intro w2 hm2 hk2
  have hRn : ∀ x ∈ blksI R, x ≠ n := fun x hx hn => by have := h.new x hx; have := h.old; omega
  have r2 : ∀ e' ∈ R, RowsAt w2 e'.v 1 (e'.ks.map intV) e'.S := fun e' he' => (h1.rows e' he').keep hk2 (fun x hx => by
    obtain ⟨i, hi, rfl⟩ := List.getElem_of_mem he'
    simpa using hRn x (blks_mem hi hx))
  have kb2 : Kp [n] wb w2 := h1.kp.trans' hk2
  have hf1 : Rd w1 v1 1 ([q].map intV) := f1.rd
  obtain ⟨S1, hS1⟩ := f1.ex
  have hS1n : ∀ x ∈ S1, x ∉ [n] := fun x hx => by have := hS1.2 x hx; have := h.old; have := h.kp.size; simp; omega
  have hg2 := hS1.1.keep hk2 hS1n
  have hv0 : (R.map IE.me)[j].v = R[j].v := by rw [hme]; rfl
  rw [ex0, hv0]
  refine rows_app (k := 1) (z := [.int .i64 0]) (G := [q].map intV) (r2 R[j] (List.getElem_mem hj)) (by omega) rfl (by simp [intV]) (by simp [intV]) (fun K' hK' => hg2.rd.src K' hK') (by simp; omega) (by simp; omega) fun v3 w3 S3 h3 hk3 hS3 => ?_
  rw [ex1]
  have hsz2 := kb2.size
  have hRnS : n ∉ R[j].S := fun hm => hRn n (blks_mem hj hm) rfl
  have hm3 := hm2.keep hk3 hRnS
  refine map_store (P := P) hm3 hjm fun w4 hm4 hk4 => ?_
  have hlt2 : ∀ x ∈ blksI R, x < w2.heap.size := fun x hx => by
    obtain ⟨S, hS, hxS⟩ := List.mem_flatten.1 hx
    obtain ⟨e', he', rfl⟩ := List.mem_map.1 hS
    exact (r2 e' he').lt x hxS
  have hS3n : ∀ x ∈ S3, wb.heap.size ≤ x := fun x hx => by
    rcases hS3 x hx with hh | hh
    · exact h.new x (blks_mem hj hh)
    · omega
  have hapS : ∀ i (hi : i < R.length), i ≠ j → ∀ x ∈ R[i].S, x ∉ S3 := fun i hi hne x hx hx3 => by
    rcases hS3 x hx3 with hh | hh
    · exact blks_apart hi hj h.nd hne x hx hh
    · have := hlt2 x (blks_mem hi hx); omega
  refine hK w4 v3 S3 ⟨?_, fun e' he' => ?_, ?_, fun x hx => ?_, h.old, ?_⟩
  · have e1 : (R.set j { R[j] with ks := R[j].ks ++ [q], v := v3, S := S3 }).map IE.me = (R.map IE.me).set j { (R.map IE.me)[j] with v := v3 } := by
      rw [List.map_set]
      congr 1
      simp [IE.me]
    rw [e1]
    exact hm4
  · have hk4n : ∀ x, wb.heap.size ≤ x → x ∉ [n] := fun x hx => by have := h.old; simp; omega
    obtain ⟨i, hi, rfl⟩ := List.getElem_of_mem he'
    simp only [List.length_set] at hi
    by_cases hij : j = i
    · subst hij
      simp only [List.getElem_set_self]
      have h3' : RowsAt w3 v3 1 ((R[j].ks ++ [q]).map intV) S3 := by rw [List.map_append]; exact h3
      exact h3'.keep hk4 fun x hx => hk4n x (hS3n x hx)
    · rw [List.getElem_set_ne hij]
      exact ((r2 R[i] (List.getElem_mem hi)).keep hk3 (blks_apart hi hj h.nd (Ne.symm hij))).keep hk4 fun x hx => hk4n x (h.new x (blks_mem hi hx))
  · exact blks_set_nd hj _ h.nd (rows_S_nd h3) hapS
  · rcases blks_set hj _ hx with hh | ⟨i, hi, _, hh⟩
    · exact hS3n x hh
    · exact h.new x (blks_mem hi hh)
  · exact (kb2.trans hk3 fun x hx hlt => by have := h.new x (blks_mem hj hx); omega).trans' hk4
end
theorem equal_run {P : Program} {T : TypeId} {xs ys : List Value} {w : World} (h : aggEq P T xs ys = true) : (Op.equal T (.agg xs.toArray) (.agg ys.toArray)).run P w = .ok (eqC xs ys) w := by
  unfold aggEq at h
  split at h
  · rename_i fs hu
    simp only [Bool.and_eq_true, Bool.not_eq_true'] at h
    obtain ⟨⟨⟨⟨h1, h2⟩, h3⟩, h4⟩, h5⟩ := h
    have h4 := Nat.eq_of_beq_eq_true h4
    have h5 := Nat.eq_of_beq_eq_true h5
    have hf : P.fieldsOf T = fs := by simp [Program.fieldsOf, hu]
    have hr := flat_run (d := 9998) (xs := xs.toArray) (ys := ys.toArray) (w := w) fs.toList xs ys 0 h3 rfl rfl (by simpa using h4.symm) (by simpa using h5.symm)
    show (Op.equalIn 10000 T (.agg xs.toArray) (.agg ys.toArray)).run P w = _
    rw [run_equalIn_agg w 9999 T xs.toArray ys.toArray (by rw [hf]; exact hu) h1, hf]
    exact hr
  · cases h
def Shape (R : List IE) (st : List SV) (f : List UInt8 → List UInt8 → List Int) : Prop := R.map (fun e => (e.a, e.b, e.ks)) = st.map fun s => (s.sku, s.loc, f s.sku s.loc)
theorem Shape.len {R : List IE} {st : List SV} {f : List UInt8 → List UInt8 → List Int} (h : Shape R st f) : R.length = st.length := by
  have := congrArg List.length h
  simpa using this
theorem Shape.at {R : List IE} {st : List SV} {f : List UInt8 → List UInt8 → List Int} (h : Shape R st f) {i : Nat} (hi : i < R.length) (hs : i < st.length) : R[i].a = st[i].sku ∧ R[i].b = st[i].loc ∧ R[i].ks = f st[i].sku st[i].loc := by
  have := congrArg (fun l => l[i]?) h
  simp only [List.getElem?_map, List.getElem?_eq_getElem hi, List.getElem?_eq_getElem hs, Option.map_some, Option.some.injEq, Prod.mk.injEq] at this
  exact this
theorem sorted_get {st : List SV} (h : Sorted st) {i j : Nat} (hi : i < st.length) (hj : j < st.length) (hne : i ≠ j) : ¬(st[i].sku = st[j].sku ∧ st[i].loc = st[j].loc) := by
  intro hk
  rcases Nat.lt_or_gt_of_ne hne with hlt | hlt
  · have := List.pairwise_iff_getElem.1 h i j hi hj hlt
    rw [ahead_key (a' := st[j]) (b' := st[j]) hk.1 hk.2 rfl rfl, ahead_irrefl] at this
    cases this
  · have := List.pairwise_iff_getElem.1 h j i hj hi hlt
    rw [ahead_key (a' := st[i]) (b' := st[i]) hk.1.symm hk.2.symm rfl rfl, ahead_irrefl] at this
    cases this
theorem Shape.uniq {R : List IE} {st : List SV} {f : List UInt8 → List UInt8 → List Int} (h : Shape R st f) (hs : Sorted st) {i j : Nat} (hi : i < R.length) (hj : j < R.length) (hne : i ≠ j) : ¬(R[i].a = R[j].a ∧ R[i].b = R[j].b) := by
  have hl := h.len
  obtain ⟨a1, b1, _⟩ := h.at hi (by omega)
  obtain ⟨a2, b2, _⟩ := h.at hj (by omega)
  rw [a1, b1, a2, b2]
  exact sorted_get hs _ _ hne
theorem Shape.add {R : List IE} {st : List SV} {f : List UInt8 → List UInt8 → List Int} (h : Shape R st f) (hs : Sorted st) {j : Nat} (hj : j < R.length) (q : Int) (v : Value) (S : List Nat) :
    Shape (R.set j { R[j] with ks := R[j].ks ++ [q], v := v, S := S }) st (fun x y => f x y ++ if R[j].a = x ∧ R[j].b = y then [q] else []) := by
  have hl := h.len
  unfold Shape
  apply List.ext_getElem?
  intro i
  simp only [List.getElem?_map]
  by_cases hi : i < st.length
  · have hiR : i < R.length := by omega
    obtain ⟨a1, b1, k1⟩ := h.at hiR hi
    rw [List.getElem?_eq_getElem hi, List.getElem?_eq_getElem (by simpa using hiR)]
    simp only [Option.map_some, Option.some.injEq, Prod.mk.injEq]
    by_cases hij : j = i
    · subst hij
      simp only [List.getElem_set_self]
      exact ⟨a1, b1, by rw [k1, if_pos ⟨a1, b1⟩]⟩
    · simp only [List.getElem_set_ne hij]
      refine ⟨a1, b1, ?_⟩
      rw [k1, if_neg]
      · simp
      · rintro ⟨e1, e2⟩
        exact h.uniq hs hj hiR hij ⟨e1.trans a1.symm, e2.trans b1.symm⟩
  · rw [List.getElem?_eq_none (by rw [List.length_set]; omega), List.getElem?_eq_none (by omega)]
    rfl
theorem known_at {st : List SV} {a b : List UInt8} (h : ∃ s ∈ st, s.sku = a ∧ s.loc = b) : ∃ i, ∃ hi : i < st.length, st[i].sku = a ∧ st[i].loc = b := by
  obtain ⟨s, hs, h1, h2⟩ := h
  obtain ⟨i, hi, rfl⟩ := List.getElem_of_mem hs
  exact ⟨i, hi, h1, h2⟩
def actL (ho : List HV) (a b : List UInt8) : List Int := (ho.filter fun h => decide (h.sku = a ∧ h.loc = b ∧ h.st = 0)).map (·.q)
def movL (mo : List HV) (a b : List UInt8) : List Int := (mo.filter fun h => decide (h.sku = a ∧ h.loc = b)).map (·.q)
theorem actL_sum (ho : List HV) (a b : List UInt8) : (actL ho a b).sum = activeQ ho a b := by
  induction ho with
  | nil => rfl
  | cons h r ih =>
    simp only [actL, activeQ, List.filter_cons, List.map_cons, List.sum_cons] at ih ⊢
    by_cases hc : h.sku = a ∧ h.loc = b ∧ h.st = 0
    · rw [if_pos (by simpa using hc), if_pos hc]; simp only [List.map_cons, List.sum_cons, ih]
    · rw [if_neg (by simpa using hc), if_neg hc, ih]; omega
theorem movL_sum (mo : List HV) (a b : List UInt8) : (movL mo a b).sum = movedQ mo a b := by
  induction mo with
  | nil => rfl
  | cons h r ih =>
    simp only [movL, movedQ, List.filter_cons, List.map_cons, List.sum_cons] at ih ⊢
    by_cases hc : h.sku = a ∧ h.loc = b
    · rw [if_pos (by simpa using hc), if_pos hc]; simp only [List.map_cons, List.sum_cons, ih]
    · rw [if_neg (by simpa using hc), if_neg hc, ih]; omega
theorem actL_snoc (ho : List HV) (h : HV) (a b : List UInt8) : actL (ho ++ [h]) a b = actL ho a b ++ if h.sku = a ∧ h.loc = b ∧ h.st = 0 then [h.q] else [] := by
  simp only [actL, List.filter_append, List.map_append, List.filter_cons, List.filter_nil]
  by_cases hc : h.sku = a ∧ h.loc = b ∧ h.st = 0
  · rw [if_pos (by simpa using hc), if_pos hc]; rfl
  · rw [if_neg (by simpa using hc), if_neg hc]; rfl
theorem movL_snoc (mo : List HV) (h : HV) (a b : List UInt8) : movL (mo ++ [h]) a b = movL mo a b ++ if h.sku = a ∧ h.loc = b then [h.q] else [] := by
  simp only [movL, List.filter_append, List.map_append, List.filter_cons, List.filter_nil]
  by_cases hc : h.sku = a ∧ h.loc = b
  · rw [if_pos (by simpa using hc), if_pos hc]; rfl
  · rw [if_neg (by simpa using hc), if_neg hc]; rfl
theorem actL_len (ho : List HV) (a b : List UInt8) : (actL ho a b).length ≤ ho.length := by
  unfold actL; rw [List.length_map]; exact List.length_filter_le _ _
theorem movL_len (mo : List HV) (a b : List UInt8) : (movL mo a b).length ≤ mo.length := by
  unfold movL; rw [List.length_map]; exact List.length_filter_le _ _
end Go.Q

set_option linter.unusedVariables false
set_option linter.unusedSimpArgs false
namespace Go.Proofs
open Go Go.Q
theorem mapT : MapT Tryz.prog 97 101 33 (.slice none 0 0) where
  hm := Tryz.underlying97
  wide := by rw [Tryz.underlying101]
  ck := fun e a b w => by kernel_rfl
  eq := fun a b c d w => by
    have h : aggEq Tryz.prog 101 [.string (str a), .string (str b)] [.string (str c), .string (str d)] = true := by kernel_rfl
    have := equal_run (w := w) h
    simp only [eqC_cons, eqC_nil, eqV_str, str_eq, Bool.and_true] at this
    rw [Bool.decide_and]
    exact this
  zv := fun w => by kernel_rfl
def LedAt (w : World) (v : Value) (l : LV) : Prop := ∃ a b c, v = .agg #[a, b, c, .int .i64 l.ops] ∧ Rd w a 4 (l.st.map sC) ∧ Rd w b 6 (l.ho.map hC) ∧ Rd w c 6 (l.mo.map hC)
theorem LedAt.keep {w w' : World} {v : Value} {l : LV} (h : LedAt w v l) (hk : Kp [] w w') : LedAt w' v l := by
  obtain ⟨a, b, c, e, h1, h2, h3⟩ := h
  exact ⟨a, b, c, e, h1.keep hk, h2.keep hk, h3.keep hk⟩
section
variable {w0 : World} {l : LV} {R : Value → World → Prop} {x n3 n4 : Nat} {sv hv mv : Value}
structure CkAt (w0 w : World) (l : LV) (x : Nat) (sv hv mv : Value) : Prop where
  hx : w.heap[x]? = some (.cells #[sv, hv, mv, .int .i64 l.ops] 26)
  s0 : Rd w0 sv 4 (l.st.map sC)
  h0 : Rd w0 hv 6 (l.ho.map hC)
  m0 : Rd w0 mv 6 (l.mo.map hC)
  kp : Kp [] w0 w
  x0 : w0.heap.size ≤ x
theorem CkAt.s {w : World} (c : CkAt w0 w l x sv hv mv) : Rd w sv 4 (l.st.map sC) := c.s0.keep c.kp
theorem CkAt.h {w : World} (c : CkAt w0 w l x sv hv mv) : Rd w hv 6 (l.ho.map hC) := c.h0.keep c.kp
theorem CkAt.m {w : World} (c : CkAt w0 w l x sv hv mv) : Rd w mv 6 (l.mo.map hC) := c.m0.keep c.kp
theorem CkAt.keep {w w' : World} (c : CkAt w0 w l x sv hv mv) (hk : Kp [] w w') : CkAt w0 w' l x sv hv mv :=
  ⟨hk.get c.hx (by simp), c.s0, c.h0, c.m0, c.kp.trans' hk, c.x0⟩
theorem CkAt.keepN {w w' : World} (c : CkAt w0 w l x sv hv mv) {n : Nat} (hk : Kp [n] w w') (hn : w0.heap.size ≤ n) (hx : x ≠ n) : CkAt w0 w' l x sv hv mv :=
  ⟨hk.get c.hx (by simpa using hx), c.s0, c.h0, c.m0, c.kp.trans hk (fun y hy hlt => by simp at hy; omega), c.x0⟩
structure IRead (w : World) (n : Nat) (R : List IE) : Prop where
  map : MapIs w n (R.map IE.me)
  rows : ∀ e ∈ R, RowsAt w e.v 1 (e.ks.map intV) e.S
theorem IRead.keepS {w w' : World} {n : Nat} {R : List IE} {S : List Nat} (h : IRead w n R) (hk : Kp S w w') (hn : n ∉ S) (hb : ∀ y ∈ blksI R, y ∉ S) : IRead w' n R :=
  ⟨h.map.keep hk hn, fun e he => (h.rows e he).keep hk (fun y hy => by
    obtain ⟨i, hi, rfl⟩ := List.getElem_of_mem he
    exact hb y (blks_mem hi hy))⟩
theorem IRead.keep {w w' : World} {n : Nat} {R : List IE} (h : IRead w n R) (hk : Kp [] w w') : IRead w' n R := h.keepS hk (by simp) (by simp)
theorem _root_.Go.Q.IMap.read {wb w : World} {n : Nat} {R : List IE} (h : IMap wb w n R) : IRead w n R := ⟨h.map, h.rows⟩
theorem boxPl {z : Array Value} {a b : List UInt8} {w : World} {K : Value → World → Prop} (hz : z.size = 2)
    (h : ∀ p w1, w.heap.size ≤ p → w1.heap[p]? = some (.cells #[.string (str a), .string (str b)] 101) → Kp [] w w1 → K (.pointer (some ⟨p, 0, none⟩)) w1) : newG z 101 w fun p w => stn 2 p (keyV a b) w fun w => K p w :=
  boxG hz rfl (by simp [one]) h
theorem ldPl {b : Nat} {x y : List UInt8} {w : World} {T : TypeId} (h : w.heap[b]? = some (.cells #[.string (str x), .string (str y)] T)) {K : Value → Prop} : ldn 2 (.pointer (some ⟨b, 0, none⟩)) w K = K (keyV x y) := ldAll h rfl
theorem rd_stock {w : World} {v : Value} {st : List SV} (h : Rd w v 4 (st.map sC)) {i : Nat} (hi : i < st.length) : ∃ p, (∀ K : Value → Prop, ia 4 v (.int .i64 i) K = K p) ∧ ∀ K : Value → Prop, ldn 4 p w K = K (sA st[i]) := by
  obtain ⟨p, h1, h2, _⟩ := h.get (i := i) (by simpa using hi)
  refine ⟨p, fun K => h1 .i64 K, fun K => ?_⟩
  rw [h2 K]
  simp [sC, sA]
theorem rd_hold {w : World} {v : Value} {ho : List HV} (h : Rd w v 6 (ho.map hC)) {i : Nat} (hi : i < ho.length) : ∃ p, (∀ K : Value → Prop, ia 6 v (.int .i64 i) K = K p) ∧ ∀ K : Value → Prop, ldn 6 p w K = K (hA ho[i]) := by
  obtain ⟨p, h1, h2, _⟩ := h.get (i := i) (by simpa using hi)
  refine ⟨p, fun K => h1 .i64 K, fun K => ?_⟩
  rw [h2 K]
  simp [hC, hA]
theorem rngI_fits {x : Int} (h : fits x = true) : rngI x := fits_rng.1 h
theorem act_rng (hm : May l) (a b : List UInt8) : ∀ x ∈ actL l.ho a b, rngI x := by
  intro x hx
  unfold actL at hx
  simp only [List.mem_map, List.mem_filter, decide_eq_true_eq] at hx
  obtain ⟨h, ⟨hh, _, _, h0⟩, rfl⟩ := hx
  obtain ⟨k, hk, rfl⟩ := List.getElem_of_mem hh
  obtain ⟨_, _, f3, f4, f5, f6, _, _⟩ := act_facts hm.m hk h0
  have := fits_iff.1 f6
  unfold rngI
  omega
theorem mov_rng (hm : May l) (a b : List UInt8) : ∀ x ∈ movL l.mo a b, rngI x := by
  intro x hx
  unfold movL at hx
  simp only [List.mem_map, List.mem_filter] at hx
  obtain ⟨h, ⟨hh, _⟩, rfl⟩ := hx
  obtain ⟨k, hk, rfl⟩ := List.getElem_of_mem hh
  have := hm.moves k hk
  simp only [moveOk, Bool.and_eq_true] at this
  exact rngI_fits this.1.1.1.1.1.2
theorem check_fin {w : World} (hm : May l) (c : CkAt w0 w l x sv hv mv) {R3 R4 : List IE} (i3 : IRead w n3 R3) (i4 : IRead w n4 R4) (s3 : Shape R3 l.st (actL l.ho)) (s4 : Shape R4 l.st (movL l.mo))
    (hR : ∀ w', Kp [] w w' → R (.int .i64 0) w') : ledger_Check_L2 R (.map (some n3)) (.map (some n4)) sv (.int .i64 l.st.length) (.int .i64 0) w := by
  have hfew := hm.few
  simp only [fullL, decide_eq_false_iff_not, not_or] at hfew
  unfold ledger_Check_L2
  refine loop_inv (fun m xs wi => ∃ i, i ≤ l.st.length ∧ m = l.st.length - i ∧ xs = [.map (some n3), .map (some n4), sv, .int .i64 l.st.length, .int .i64 (i : Nat)] ∧ Kp [] w wi) ?_ (m := l.st.length) ⟨0, by omega, rfl, rfl, Kp.refl _ _⟩
  rintro m N xs wi ⟨i, hi, rfl, rfl, hk⟩ hN
  have hiw : IntKind.i64.wrap ((i : Int) + 1) = ((i + 1 : Nat) : Int) := by rw [w64 (by omega) (by omega)]; simp
  unfold ledger_Check_L2F ledger_Check_b1
  simp [-getElem?_pos, -Array.all_eq_true, -Array.getElem?_eq_getElem, -List.length_flatten, List.getElem?_cons_zero, List.getElem?_cons_succ, -ldn_p, -stn_p, -newG_k]
  refine ⟨fun hlt => ?_, fun hge => by unfold ledger_Check_s0; exact hR wi hk⟩
  obtain ⟨p, hp1, hp2⟩ := rd_stock ((c.keep hk).s) hlt
  rw [hp1, hp2]
  refine boxStock (o := l.st[i]) (by kernel_rfl) fun b1 w1 hb1 hh1 hk1 => ?_
  rw [ldStock hh1]
  refine of_spec7 l.st[i] fun w2 hk2 => ?_
  have kk2 := (hk.trans' hk1).trans' hk2
  have j3 := i3.keep kk2
  have j4 := i4.keep kk2
  have hl3 := s3.len
  have hl4 := s4.len
  obtain ⟨a3, b3, c3⟩ := s3.at (i := i) (by omega) hlt
  obtain ⟨a4, b4, c4⟩ := s4.at (i := i) (by omega) hlt
  have f3 := findE_at (m := R3.map IE.me) (k := 0) (i := i) (by simpa using (by omega : i < R3.length)) (fun j hj hne => by
    have := s3.uniq hm.sorted (i := j) (j := i) (by simpa using hj) (by omega) hne
    simpa [IE.me] using this)
  have f4 := findE_at (m := R4.map IE.me) (k := 0) (i := i) (by simpa using (by omega : i < R4.length)) (fun j hj hne => by
    have := s4.uniq hm.sorted (i := j) (j := i) (by simpa using hj) (by omega) hne
    simpa [IE.me] using this)
  simp only [List.getElem_map, IE.me, a3, b3, Nat.zero_add] at f3
  simp only [List.getElem_map, IE.me, a4, b4, Nat.zero_add] at f4
  refine map_get mapT j3.map ?_
  rw [show findE l.st[i].sku l.st[i].loc (R3.map IE.me) 0 = _ from f3]
  simp only [Option.map_some, Option.getD_some]
  have r3 := j3.rows R3[i] (List.getElem_mem (by omega))
  refine numSum_spec (ks := R3[i].ks) ⟨_, .inr r3.rd⟩ (by rw [c3]; exact act_rng hm _ _) (by rw [c3]; have := actL_len l.ho l.st[i].sku l.st[i].loc; omega) ?_
  rw [c3, actL_sum]
  simp [-getElem?_pos, -Array.all_eq_true, -Array.getElem?_eq_getElem, -List.length_flatten, List.getElem?_cons_zero, List.getElem?_cons_succ, -ldn_p, -stn_p, -newG_k]
  rw [ldStock (hk2.get hh1 (by simp))]
  refine of_spec7 l.st[i] fun w3 hk3 => ?_
  refine map_get mapT (j4.keep hk3).map ?_
  rw [show findE l.st[i].sku l.st[i].loc (R4.map IE.me) 0 = _ from f4]
  simp only [Option.map_some, Option.getD_some]
  have r4 := (j4.keep hk3).rows R4[i] (List.getElem_mem (by omega))
  refine numSum_spec (ks := R4[i].ks) ⟨_, .inr r4.rd⟩ (by rw [c4]; exact mov_rng hm _ _) (by rw [c4]; have := movL_len l.mo l.st[i].sku l.st[i].loc; omega) ?_
  rw [c4, movL_sum]
  obtain ⟨_, _, g3, g4, g5, g6, g7⟩ := hm.f.ok l.st[i] (List.getElem_mem hlt)
  have gf := fits_iff.1 g3
  rw [← g6, ← g7, numO_fit g3, numO_fit (fits_iff.2 (by omega))]
  have hh3 := (hk2.trans' hk3).get hh1 (by simp)
  unfold sC at hh3
  simp [-getElem?_pos, -Array.all_eq_true, -Array.getElem?_eq_getElem, -List.length_flatten, List.getElem?_cons_zero, List.getElem?_cons_succ, hh3, hiw]
  exact hN (l.st.length - (i + 1)) _ w3 (by omega) ⟨i + 1, by omega, rfl, by simp, kk2.trans' hk3⟩
theorem check_moves {w : World} (hm : May l) (c : CkAt w0 w l x sv hv mv) {R3 R4 : List IE} (i3 : IRead w n3 R3) (i4 : IMap w w n4 R4) (s3 : Shape R3 l.st (actL l.ho)) (s4 : Shape R4 l.st (fun _ _ => [])) (h34 : n3 ≠ n4) (hb : ∀ y ∈ blksI R3, y ≠ n4) (h4 : w0.heap.size ≤ n4) (hx4 : x ≠ n4)
    (hR : ∀ w', Kp [] w0 w' → R (.int .i64 0) w') : ledger_Check_L8 R (.pointer (some ⟨x, 0, none⟩)) (.map (some n3)) (.map (some n4)) mv (.int .i64 l.mo.length) (.int .i64 0) w := by
  have hfew := hm.few
  simp only [fullL, decide_eq_false_iff_not, not_or] at hfew
  unfold ledger_Check_L8
  refine loop_inv (fun m xs wi => ∃ i R4i, i ≤ l.mo.length ∧ m = l.mo.length - i ∧ xs = [.pointer (some ⟨x, 0, none⟩), .map (some n3), .map (some n4), mv, .int .i64 l.mo.length, .int .i64 (i : Nat)] ∧ IMap w wi n4 R4i ∧ Shape R4i l.st (movL (l.mo.take i))) ?_ (m := l.mo.length) ⟨0, R4, by omega, rfl, rfl, i4, s4⟩
  rintro m N xs wi ⟨i, R4i, hi, rfl, rfl, j4, t4⟩ hN
  have hiw : IntKind.i64.wrap ((i : Int) + 1) = ((i + 1 : Nat) : Int) := by rw [w64 (by omega) (by omega)]; simp
  have ci := c.keepN j4.kp h4 hx4
  have j3 : IRead wi n3 R3 := i3.keepS j4.kp (by simpa using h34) (fun y hy => by simpa using hb y hy)
  have hl4 := t4.len
  unfold ledger_Check_L8F ledger_Check_s7
  simp [-getElem?_pos, -Array.all_eq_true, -Array.getElem?_eq_getElem, -List.length_flatten, List.getElem?_cons_zero, List.getElem?_cons_succ, -ldn_p, -stn_p, -newG_k]
  refine ⟨fun hlt => ?_, fun hge => ?_⟩
  · have hmv := hm.moves i hlt
    simp only [moveOk, Bool.and_eq_true, decide_eq_true_eq, beq_iff_eq] at hmv
    obtain ⟨⟨⟨⟨⟨⟨⟨⟨m1, m2⟩, m3⟩, m4⟩, m5⟩, m6⟩, m7⟩, m8⟩, m9⟩ := hmv
    obtain ⟨j, hj, k1, k2⟩ := known_at (known_find.1 m9)
    have hjR : j < R4i.length := by omega
    obtain ⟨a4, b4, c4⟩ := t4.at hjR hj
    have hu : ∀ i' (hi' : i' < R4i.length), i' ≠ j → ¬(R4i[i'].a = R4i[j].a ∧ R4i[i'].b = R4i[j].b) := fun i' hi' hne => t4.uniq hm.sorted hi' hjR hne
    have f4 := findE_at (m := R4i.map IE.me) (k := 0) (i := j) (by simpa using hjR) (fun i' hi' hne => by
      have := hu i' (by simpa using hi') hne
      simpa [IE.me] using this)
    simp only [List.getElem_map, IE.me, a4, b4, k1, k2, Nat.zero_add] at f4
    obtain ⟨p, hp1, hp2⟩ := rd_hold ci.m hlt
    unfold ledger_Check_s6
    rw [hp1, hp2]
    refine boxMove (o := l.mo[i]) (by kernel_rfl) fun b1 w1 hb1 hh1 hk1 => ?_
    have hh1' := hh1
    unfold hC at hh1'
    simp [-getElem?_pos, -Array.all_eq_true, -Array.getElem?_eq_getElem, -List.length_flatten, List.getElem?_cons_zero, List.getElem?_cons_succ, hh1', zcPl, bld_done, bld_if, offAt, putAt, -ldn_p, -stn_p, -newG_k]
    refine boxPl (a := l.mo[i].sku) (b := l.mo[i].loc) rfl fun b2 w2 hb2 hh2 hk2 => ?_
    rw [ldPl hh2]
    have kk2 := hk1.trans' hk2
    refine map_get2 mapT (j4.keep kk2).map ?_
    rw [show findE l.mo[i].sku l.mo[i].loc (R4i.map IE.me) 0 = _ from f4]
    simp [-getElem?_pos, -Array.all_eq_true, -Array.getElem?_eq_getElem, -List.length_flatten, List.getElem?_cons_zero, List.getElem?_cons_succ, -ldn_p, -stn_p, -newG_k]
    rw [ldHold (hk2.get hh1 (by simp))]
    refine move_true (by omega) m1 m2 m3 m5 m6 m7 (by by_cases h1 : l.mo[i].due = 0 <;> by_cases h2 : l.mo[i].st = 3 <;> simp [h1, h2] at m8 ⊢) fun w3 hk3 => ?_
    have kk3 := kk2.trans' hk3
    simp [-getElem?_pos, -Array.all_eq_true, -Array.getElem?_eq_getElem, -List.length_flatten, List.getElem?_cons_zero, List.getElem?_cons_succ, -ldn_p, -stn_p, -newG_k]
    unfold ledger_Check_s5
    rw [ldPl (hk3.get hh2 (by simp))]
    have hh13 := (hk2.trans' hk3).get hh1' (by simp)
    simp [-getElem?_pos, -Array.all_eq_true, -Array.getElem?_eq_getElem, -List.length_flatten, List.getElem?_cons_zero, List.getElem?_cons_succ, hh13, -ldn_p, -stn_p, -newG_k]
    have hadd := im_add (P := Tryz.prog) mapT (j4.keep kk3) hjR hu (by rw [c4]; have := movL_len (l.mo.take i) l.st[j].sku l.st[j].loc; have := List.length_take_le i l.mo; omega) l.mo[i].q (e := 3) (zz := zc Tryz.prog 3) (K := fun w => ledger_Check_s4 R N (.pointer (some ⟨x, 0, none⟩)) (.map (some n3)) (.map (some n4)) mv (.int .i64 l.mo.length) (.int .i64 i) w)
      (fun w' v' S' hw' => ?_) (by kernel_rfl)
    · rw [a4, b4, k1, k2] at hadd
      exact hadd
    · unfold ledger_Check_s4
      simp [-getElem?_pos, -Array.all_eq_true, -Array.getElem?_eq_getElem, -List.length_flatten, List.getElem?_cons_zero, List.getElem?_cons_succ, hiw]
      have t5 := t4.add hm.sorted hjR l.mo[i].q v' S'
      refine hN (l.mo.length - (i + 1)) _ w' (by omega) ⟨i + 1, _, by omega, rfl, by simp, hw', ?_⟩
      have e : (fun x y => movL (l.mo.take i) x y ++ if R4i[j].a = x ∧ R4i[j].b = y then [l.mo[i].q] else []) = movL (l.mo.take (i + 1)) := by
        funext x y
        rw [List.take_succ_eq_append_getElem hlt, movL_snoc, a4, b4, k1, k2]
      rw [e] at t5
      exact t5
  · have hie : i = l.mo.length := by omega
    subst hie
    rw [List.take_length] at t4
    unfold ledger_Check_s3
    have hx := ci.hx
    simp [-getElem?_pos, -Array.all_eq_true, -Array.getElem?_eq_getElem, -List.length_flatten, List.getElem?_cons_zero, List.getElem?_cons_succ, hx, ci.s.lenL]
    exact check_fin hm ci j3 j4.read s3 t4 fun w' hk => hR w' (ci.kp.trans' hk)
theorem check_holds {w : World} (hm : May l) (c : CkAt w0 w l x sv hv mv) {R3 R4 : List IE} (i3 : IMap w w n3 R3) (i4 : IRead w n4 R4) (s3 : Shape R3 l.st (fun _ _ => [])) (s4 : Shape R4 l.st (fun _ _ => [])) (h34 : n3 ≠ n4) (hb : blksI R4 = []) (h3 : w0.heap.size ≤ n3) (h4 : w0.heap.size ≤ n4) (hx3 : x ≠ n3) (hx4 : x ≠ n4) (h4w : n4 < w.heap.size)
    (hR : ∀ w', Kp [] w0 w' → R (.int .i64 0) w') : ledger_Check_L14 R (.pointer (some ⟨x, 0, none⟩)) (.map (some n3)) (.map (some n4)) hv (.int .i64 l.ho.length) (.int .i64 0) w := by
  have hfew := hm.few
  simp only [fullL, decide_eq_false_iff_not, not_or] at hfew
  unfold ledger_Check_L14
  refine loop_inv (fun m xs wi => ∃ i R3i, i ≤ l.ho.length ∧ m = l.ho.length - i ∧ xs = [.pointer (some ⟨x, 0, none⟩), .map (some n3), .map (some n4), hv, .int .i64 l.ho.length, .int .i64 (i : Nat)] ∧ IMap w wi n3 R3i ∧ Shape R3i l.st (actL (l.ho.take i))) ?_ (m := l.ho.length) ⟨0, R3, by omega, rfl, rfl, i3, s3⟩
  rintro m N xs wi ⟨i, R3i, hi, rfl, rfl, j3, t3⟩ hN
  have hiw : IntKind.i64.wrap ((i : Int) + 1) = ((i + 1 : Nat) : Int) := by rw [w64 (by omega) (by omega)]; simp
  have ci := c.keepN j3.kp h3 hx3
  have j4 : IRead wi n4 R4 := i4.keepS j3.kp (by simpa using Ne.symm h34) (by rw [hb]; simp)
  have hl3 := t3.len
  unfold ledger_Check_L14F ledger_Check_s13
  simp [-getElem?_pos, -Array.all_eq_true, -Array.getElem?_eq_getElem, -List.length_flatten, List.getElem?_cons_zero, List.getElem?_cons_succ, -ldn_p, -stn_p, -newG_k]
  refine ⟨fun hlt => ?_, fun hge => ?_⟩
  · have hho := hm.holds i hlt
    simp only [holdOk, Bool.and_eq_true, Bool.or_eq_true, decide_eq_true_eq] at hho
    obtain ⟨⟨⟨⟨m1, m2⟩, m3⟩, m4, m5, m6, m7⟩, m8⟩ := hho
    obtain ⟨p, hp1, hp2⟩ := rd_hold ci.h hlt
    unfold ledger_Check_s12
    rw [hp1, hp2]
    refine boxHold (o := l.ho[i]) (by kernel_rfl) fun b1 w1 hb1 hh1 hk1 => ?_
    have hh1' := hh1
    unfold hC at hh1'
    simp [-getElem?_pos, -Array.all_eq_true, -Array.getElem?_eq_getElem, -List.length_flatten, List.getElem?_cons_zero, List.getElem?_cons_succ, hh1', zcPl, bld_done, bld_if, offAt, putAt, -ldn_p, -stn_p, -newG_k]
    refine boxPl (a := l.ho[i].sku) (b := l.ho[i].loc) rfl fun b2 w2 hb2 hh2 hk2 => ?_
    rw [ldPl hh2]
    have kk2 := hk1.trans' hk2
    refine map_get2 mapT (j3.keep kk2).map ?_
    simp [-getElem?_pos, -Array.all_eq_true, -Array.getElem?_eq_getElem, -List.length_flatten, List.getElem?_cons_zero, List.getElem?_cons_succ, -ldn_p, -stn_p, -newG_k]
    rw [ldHold (hk2.get hh1 (by simp))]
    refine hold_true (by omega) m1 m2 m3 m4 m5 m6 m7 fun w3 hk3 => ?_
    have kk3 := kk2.trans' hk3
    have hh13 := (hk2.trans' hk3).get hh1' (by simp)
    have hsnoc : ∀ x y, actL (l.ho.take (i + 1)) x y = actL (l.ho.take i) x y ++ if l.ho[i].sku = x ∧ l.ho[i].loc = y ∧ l.ho[i].st = 0 then [l.ho[i].q] else [] := fun x y => by
      rw [List.take_succ_eq_append_getElem hlt, actL_snoc]
    simp [-getElem?_pos, -Array.all_eq_true, -Array.getElem?_eq_getElem, -List.length_flatten, List.getElem?_cons_zero, List.getElem?_cons_succ, hh13, -ldn_p, -stn_p, -newG_k]
    refine ⟨fun h0 => ?_, fun h0 => ?_⟩
    · have hkn := m8.resolve_left (fun h => h h0)
      obtain ⟨j, hj, k1, k2⟩ := known_at (known_find.1 hkn)
      have hjR : j < R3i.length := by omega
      obtain ⟨a4, b4, c4⟩ := t3.at hjR hj
      have hu : ∀ i' (hi' : i' < R3i.length), i' ≠ j → ¬(R3i[i'].a = R3i[j].a ∧ R3i[i'].b = R3i[j].b) := fun i' hi' hne => t3.uniq hm.sorted hi' hjR hne
      have f4 := findE_at (m := R3i.map IE.me) (k := 0) (i := j) (by simpa using hjR) (fun i' hi' hne => by
        have := hu i' (by simpa using hi') hne
        simpa [IE.me] using this)
      simp only [List.getElem_map, IE.me, a4, b4, k1, k2, Nat.zero_add] at f4
      have f4' : findE l.ho[i].sku l.ho[i].loc (R3i.map IE.me) 0 = _ := f4
      rw [f4']
      simp [-getElem?_pos, -Array.all_eq_true, -Array.getElem?_eq_getElem, -List.length_flatten, List.getElem?_cons_zero, List.getElem?_cons_succ, -ldn_p, -stn_p, -newG_k]
      unfold ledger_Check_s11
      simp [-getElem?_pos, -Array.all_eq_true, -Array.getElem?_eq_getElem, -List.length_flatten, List.getElem?_cons_zero, List.getElem?_cons_succ, hh13, h0, -ldn_p, -stn_p, -newG_k]
      rw [ldPl (hk3.get hh2 (by simp))]
      have hadd := im_add (P := Tryz.prog) mapT (j3.keep kk3) hjR hu (by rw [c4]; have := actL_len (l.ho.take i) l.st[j].sku l.st[j].loc; have := List.length_take_le i l.ho; omega) l.ho[i].q (e := 3) (zz := zc Tryz.prog 3) (K := fun w => ledger_Check_s10 R N (.pointer (some ⟨x, 0, none⟩)) (.map (some n3)) (.map (some n4)) hv (.int .i64 l.ho.length) (.int .i64 i) w)
        (fun w' v' S' hw' => ?_) (by kernel_rfl)
      · rw [a4, b4, k1, k2] at hadd
        exact hadd
      · unfold ledger_Check_s10
        simp [-getElem?_pos, -Array.all_eq_true, -Array.getElem?_eq_getElem, -List.length_flatten, List.getElem?_cons_zero, List.getElem?_cons_succ, hiw]
        have t5 := t3.add hm.sorted hjR l.ho[i].q v' S'
        refine hN (l.ho.length - (i + 1)) _ w' (by omega) ⟨i + 1, _, by omega, rfl, by simp, hw', ?_⟩
        have e : (fun x y => actL (l.ho.take i) x y ++ if R3i[j].a = x ∧ R3i[j].b = y then [l.ho[i].q] else []) = actL (l.ho.take (i + 1)) := by
          funext x y
          rw [hsnoc, a4, b4, k1, k2]
          simp only [h0, and_true]
        rw [e] at t5
        exact t5
    · unfold ledger_Check_s11
      simp [-getElem?_pos, -Array.all_eq_true, -Array.getElem?_eq_getElem, -List.length_flatten, List.getElem?_cons_zero, List.getElem?_cons_succ, hh13, h0, -ldn_p, -stn_p, -newG_k]
      unfold ledger_Check_s10
      simp [-getElem?_pos, -Array.all_eq_true, -Array.getElem?_eq_getElem, -List.length_flatten, List.getElem?_cons_zero, List.getElem?_cons_succ, hiw]
      refine hN (l.ho.length - (i + 1)) _ w3 (by omega) ⟨i + 1, R3i, by omega, rfl, by simp, j3.keep kk3, ?_⟩
      have e : actL (l.ho.take i) = actL (l.ho.take (i + 1)) := by
        funext x y
        rw [hsnoc, if_neg (fun hh => h0 hh.2.2), List.append_nil]
      rw [← e]
      exact t3
  · have hie : i = l.ho.length := by omega
    subst hie
    rw [List.take_length] at t3
    unfold ledger_Check_s9
    have hx := ci.hx
    simp [-getElem?_pos, -Array.all_eq_true, -Array.getElem?_eq_getElem, -List.length_flatten, List.getElem?_cons_zero, List.getElem?_cons_succ, hx, ci.m.lenL]
    have hsz := j3.kp.size
    refine check_moves hm ci j3.read ⟨j4.map, j4.rows, by rw [hb]; simp, by rw [hb]; simp, by omega, Kp.refl _ _⟩ t3 s4 h34 (fun y hy => ?_) h4 hx4 hR
    have := j3.new y hy
    omega
def nilI (s : SV) : IE := ⟨s.sku, s.loc, [], .slice none 0 0, []⟩
theorem nil_shape (st : List SV) : Shape (st.map nilI) st (fun _ _ => []) := by simp [Shape, nilI]
theorem nil_blks (st : List SV) : blksI (st.map nilI) = [] := by
  induction st with
  | nil => rfl
  | cons s r ih => simp only [blksI, List.map_cons, List.flatten_cons] at ih ⊢; rw [ih]; rfl
theorem nil_read {w : World} {n : Nat} {st : List SV} (h : MapIs w n ((st.map nilI).map IE.me)) : IRead w n (st.map nilI) :=
  ⟨h, fun e he => by
    obtain ⟨s, _, rfl⟩ := List.mem_map.1 he
    exact .inl ⟨rfl, rfl, rfl⟩⟩
theorem nil_snoc {st : List SV} {i : Nat} (h : i < st.length) : ((st.take i).map nilI).map IE.me ++ [⟨st[i].sku, st[i].loc, .slice none 0 0⟩] = ((st.take (i + 1)).map nilI).map IE.me := by
  rw [List.take_succ_eq_append_getElem h, List.map_append, List.map_append]
  rfl
theorem nil_none {st : List SV} (hs : Sorted st) {i : Nat} (h : i < st.length) : findE st[i].sku st[i].loc (((st.take i).map nilI).map IE.me) 0 = none := by
  rw [findE_none]
  intro e he hk
  simp only [List.map_map, List.mem_map, Function.comp] at he
  obtain ⟨s, hs', rfl⟩ := he
  obtain ⟨j, hj, rfl⟩ := List.getElem_of_mem hs'
  simp only [List.length_take] at hj
  simp only [List.getElem_take, nilI, IE.me] at hk
  exact sorted_get hs (by omega) h (by omega) ⟨hk.1.symm, hk.2.symm⟩
theorem check_stocks {w : World} (hm : May l) (c : CkAt w0 w l x sv hv mv) (i3 : MapIs w n3 []) (i4 : MapIs w n4 []) (h34 : n3 ≠ n4) (h3 : w0.heap.size ≤ n3) (h4 : w0.heap.size ≤ n4) (hx3 : x ≠ n3) (hx4 : x ≠ n4)
    (hR : ∀ w', Kp [] w0 w' → R (.int .i64 0) w') : ledger_Check_L20 R (.pointer (some ⟨x, 0, none⟩)) (.map (some n3)) (.map (some n4)) sv (.int .i64 l.st.length) (.int .i64 0) w := by
  have hfew := hm.few
  simp only [fullL, decide_eq_false_iff_not, not_or] at hfew
  unfold ledger_Check_L20
  refine loop_inv (fun m xs wi => ∃ i, i ≤ l.st.length ∧ m = l.st.length - i ∧ xs = [.pointer (some ⟨x, 0, none⟩), .map (some n3), .map (some n4), sv, .int .i64 l.st.length, .int .i64 (i : Nat)] ∧
      MapIs wi n3 (((l.st.take i).map nilI).map IE.me) ∧ MapIs wi n4 (((l.st.take i).map nilI).map IE.me) ∧ CkAt w0 wi l x sv hv mv) ?_ (m := l.st.length) ⟨0, by omega, rfl, rfl, i3, i4, c⟩
  rintro m N xs wi ⟨i, hi, rfl, rfl, j3, j4, ci⟩ hN
  have hiw : IntKind.i64.wrap ((i : Int) + 1) = ((i + 1 : Nat) : Int) := by rw [w64 (by omega) (by omega)]; simp
  unfold ledger_Check_L20F ledger_Check_s19
  simp [-getElem?_pos, -Array.all_eq_true, -Array.getElem?_eq_getElem, -List.length_flatten, List.getElem?_cons_zero, List.getElem?_cons_succ, -ldn_p, -stn_p, -newG_k]
  refine ⟨fun hlt => ?_, fun hge => ?_⟩
  · obtain ⟨m1, m2, m3, m4, m5, _, _⟩ := hm.f.ok l.st[i] (List.getElem_mem hlt)
    obtain ⟨p, hp1, hp2⟩ := rd_stock ci.s hlt
    unfold ledger_Check_s18
    rw [hp1, hp2]
    refine boxStock (o := l.st[i]) (by kernel_rfl) fun b1 w1 hb1 hh1 hk1 => ?_
    have hh1' := hh1
    unfold sC at hh1'
    simp [-getElem?_pos, -Array.all_eq_true, -Array.getElem?_eq_getElem, -List.length_flatten, List.getElem?_cons_zero, List.getElem?_cons_succ, hh1', -ldn_p, -stn_p, -newG_k]
    refine lname_spec l.st[i].sku ?_
    simp [-getElem?_pos, -Array.all_eq_true, -Array.getElem?_eq_getElem, -List.length_flatten, List.getElem?_cons_zero, List.getElem?_cons_succ, m1, hh1', -ldn_p, -stn_p, -newG_k]
    refine lname_spec l.st[i].loc ?_
    have hxx := (ci.keep (hk1.trans' kp_drew)).hx
    simp [-getElem?_pos, -Array.all_eq_true, -Array.getElem?_eq_getElem, -List.length_flatten, List.getElem?_cons_zero, List.getElem?_cons_succ, m2, hh1', hxx, -ldn_p, -stn_p, -newG_k]
    have hs17 : ∀ w2, Kp [] w1 w2 → ledger_Check_s17 R N (.pointer (some ⟨x, 0, none⟩)) (.map (some n3)) (.map (some n4)) (.pointer (some ⟨b1, 0, none⟩)) sv (.int .i64 l.st.length) (.int .i64 i) w2 := by
      intro w2 hk2
      unfold ledger_Check_s17
      have hh2 := hk2.get hh1 (by simp)
      have hh2d := kp_drew.get hh2 (by simp)
      rw [ldStock hh2d, ldStock hh2d]
      refine of_spec7 l.st[i] fun w3 hk3 => ?_
      rw [ldStock (hk3.get hh2d (by simp))]
      refine ⟨rfl, of_spec7 l.st[i] fun w4 hk4 => ?_⟩
      have kk : Kp [] wi w4 := ((hk1.trans' hk2).trans' (kp_drew.trans' hk3)).trans' hk4
      have c4 := ci.keep kk
      have q3 := j3.keep kk (by simp)
      have q4 := j4.keep kk (by simp)
      have hne := nil_none hm.sorted hlt
      refine map_entry_new mapT q3 hne fun w5 q5 hk5 => ?_
      simp [-getElem?_pos, -Array.all_eq_true, -Array.getElem?_eq_getElem, -List.length_flatten, List.getElem?_cons_zero, List.getElem?_cons_succ, -ldn_p, -stn_p, -newG_k]
      have hlen : (((l.st.take i).map nilI).map IE.me).length = i := by simp; omega
      obtain ⟨X, hX⟩ : ∃ X, X = (((l.st.take i).map nilI).map IE.me) ++ [(⟨l.st[i].sku, l.st[i].loc, .slice none 0 0⟩ : ME)] := ⟨_, rfl⟩
      rw [← hX] at q5
      have q5l : i < X.length := by rw [hX, List.length_append, hlen]; simp
      have hst := map_store (P := Tryz.prog) (T := 97) q5 q5l (v := .slice none 0 0) (K := fun w => uG Tryz.prog (Instr.mapUpdate 97 (.map (some n4)) (keyV l.st[i].sku l.st[i].loc) (.slice none 0 0)) w fun w => ledger_Check_s16 R N (.pointer (some ⟨x, 0, none⟩)) (.map (some n3)) (.map (some n4)) sv (.int .i64 l.st.length) (.int .i64 i) w) ?_
      · simpa [hlen, Nat.min_eq_left (Nat.le_of_lt hlt)] using hst
      intro w6 q6 hk6
      have hgi : X[i] = (⟨l.st[i].sku, l.st[i].loc, .slice none 0 0⟩ : ME) := by
        simp only [hX]
        rw [List.getElem_append_right (by omega)]
        simp [hlen]
      have e6 : X.set i { X[i] with v := .slice none 0 0 } = ((l.st.take (i + 1)).map nilI).map IE.me := by
        have hv : ({ X[i] with v := .slice none 0 0 } : ME) = X[i] := by rw [hgi]
        rw [hv, List.set_getElem_self, hX, nil_snoc hlt]
      rw [e6] at q6
      have q46 := (q4.keep hk5 (by simpa using Ne.symm h34)).keep hk6 (by simpa using Ne.symm h34)
      refine map_update_new mapT q46 hne fun w7 q7 hk7 => ?_
      rw [nil_snoc hlt] at q7
      unfold ledger_Check_s16
      simp [-getElem?_pos, -Array.all_eq_true, -Array.getElem?_eq_getElem, -List.length_flatten, List.getElem?_cons_zero, List.getElem?_cons_succ, hiw]
      have c7 := ((c4.keepN hk5 h3 hx3).keepN hk6 h3 hx3).keepN hk7 h4 hx4
      exact hN (l.st.length - (i + 1)) _ w7 (by omega) ⟨i + 1, by omega, rfl, by simp, q6.keep hk7 (by simpa using h34), q7, c7⟩
    have c1 := ci.keep hk1
    have hx1 := c1.hx
    refine ⟨fun h => by exfalso; omega, fun _ => ⟨fun h => by exfalso; omega, fun _ => ⟨fun h0 => ?_, fun _ => hs17 _ kp_drew⟩⟩⟩
    have hiw' : IntKind.i64.wrap ((i : Int) - 1) = ((i - 1 : Nat) : Int) := by rw [w64 (by omega) (by omega)]; omega
    have hh1d := kp_drew.get hh1 (by simp)
    obtain ⟨p', hp1', hp2'⟩ := rd_stock (ci.keep (hk1.trans' kp_drew)).s (i := i - 1) (by omega)
    rw [hiw']
    simp [-getElem?_pos, -Array.all_eq_true, -Array.getElem?_eq_getElem, -List.length_flatten, List.getElem?_cons_zero, List.getElem?_cons_succ, hx1, -ldn_p, -stn_p, -newG_k]
    rw [hp1', hp2', ldStock hh1d]
    refine of_spec7 l.st[i - 1] fun w2 hk2 => ?_
    rw [ldStock (hk2.get hh1d (by simp))]
    refine ⟨rfl, of_spec7 l.st[i] fun w3 hk3 => ?_⟩
    refine order_spec _ _ _ _ fun w4 hk4 => ?_
    have hneg : ordL l.st[i - 1].sku l.st[i - 1].loc l.st[i].sku l.st[i].loc < 0 := by
      rw [ordL_neg]
      exact List.pairwise_iff_getElem.1 hm.sorted (i - 1) i (by omega) hlt (by omega)
    have hnn : ¬ (0 ≤ ordL l.st[i - 1].sku l.st[i - 1].loc l.st[i].sku l.st[i].loc) := by omega
    simp [-getElem?_pos, -Array.all_eq_true, -Array.getElem?_eq_getElem, -List.length_flatten, List.getElem?_cons_zero, List.getElem?_cons_succ, hnn, -ldn_p, -stn_p, -newG_k]
    exact hs17 w4 (((kp_drew.trans' hk2).trans' hk3).trans' hk4)
  · have hie : i = l.st.length := by omega
    subst hie
    rw [List.take_length] at j3 j4
    unfold ledger_Check_s15
    have hx := ci.hx
    simp [-getElem?_pos, -Array.all_eq_true, -Array.getElem?_eq_getElem, -List.length_flatten, List.getElem?_cons_zero, List.getElem?_cons_succ, hx, ci.h.lenL]
    refine check_holds hm ci ⟨j3, (nil_read j3).rows, by rw [nil_blks]; simp, by rw [nil_blks]; simp, lt_of_blk j3, Kp.refl _ _⟩ (nil_read j4) (nil_shape _) (nil_shape _) h34 (nil_blks _) h3 h4 hx3 hx4 (lt_of_blk j4) hR
theorem max3 {ts : Array TypeId} {t : TypeId} {a b c : Int} {w : World} {K : Value → Prop} : qG Tryz.prog (Builtin.max_ ts t #[.int .i64 a, .int .i64 b, .int .i64 c]) w K = K (.int .i64 (max (max a b) c)) := by
  refine qG_of ?_
  simp only [Builtin.max_, List.foldlM_cons, List.foldlM_nil, Builtin.max2, pure_bind]
  show Result.ok _ _ = _
  congr 2
  omega
theorem Check_spec7 {w : World} {v : Value} (hm : May l) (hv : LedAt w v l) {K : Value → World → Prop} (hK : ∀ w', Kp [] w w' → K (.int .i64 0) w') : callG Tryz.prog 22 #[v] w K := by
  refine ledger_Check_call ?_
  obtain ⟨a, b, c, rfl, h1, h2, h3⟩ := hv
  have hfew := hm.few
  simp only [fullL, decide_eq_false_iff_not, not_or] at hfew
  have hops := hm.ops
  unfold ledger_Check ledger_Check_s23
  refine argBox (cs := [a, b, c, .int .i64 l.ops]) fun x w1 hx1 hh1 hk1 => ?_
  have r1 := h1.keep hk1
  have r2 := h2.keep hk1
  have r3 := h3.keep hk1
  have hmx : ¬ (4096 < max (max (l.st.length : Int) l.ho.length) l.mo.length) := by omega
  have hno : ¬ (l.ops < 0) := by omega
  simp [-getElem?_pos, -Array.all_eq_true, -Array.getElem?_eq_getElem, -List.length_flatten, List.getElem?_cons_zero, List.getElem?_cons_succ, hh1, r1.lenL, r2.lenL, r3.lenL, max3, hmx, hno]
  refine ⟨fun h => by exfalso; omega, fun _ => ?_⟩
  unfold ledger_Check_s22
  refine map_new fun q3 => ?_
  obtain ⟨w2, hw2⟩ := ex_w (w' := w1.alloc (.map #[] 0))
  obtain ⟨n3, hn3⟩ : ∃ n3, n3 = w1.heap.size := ⟨_, rfl⟩
  rw [← hw2, ← hn3] at q3 ⊢
  have k2 : Kp [] w1 w2 := by rw [hw2]; exact kp_alloc
  refine map_new fun q4 => ?_
  obtain ⟨w3, hw3⟩ := ex_w (w' := w2.alloc (.map #[] 0))
  obtain ⟨n4, hn4⟩ : ∃ n4, n4 = w2.heap.size := ⟨_, rfl⟩
  rw [← hw3, ← hn4] at q4 ⊢
  have k3 : Kp [] w2 w3 := by rw [hw3]; exact kp_alloc
  unfold ledger_Check_s21
  have hxx := (k2.trans' k3).get hh1 (by simp)
  have hxl := lt_of_blk hh1
  have h3l := lt_of_blk q3
  have hs1 := hk1.size
  have ck : CkAt w w3 l x a b c := ⟨hxx, h1, h2, h3, (hk1.trans' k2).trans' k3, hx1⟩
  simp [-getElem?_pos, -Array.all_eq_true, -Array.getElem?_eq_getElem, -List.length_flatten, List.getElem?_cons_zero, List.getElem?_cons_succ, hxx, ck.s.lenL]
  exact check_stocks hm ck (q3.keep k3 (by simp)) q4 (by omega) (by omega) (by omega) (by omega) (by omega) hK
end
end Go.Proofs

set_option linter.unusedVariables false
set_option linter.unusedSimpArgs false
namespace Go.Proofs
open Go Go.Q
theorem find1_spec {w : World} {p q : Nat} {sku loc : List UInt8} (s : SV) (hp : w.heap[p]? = some (.cells #[.string (str sku)] 9)) (hq : w.heap[q]? = some (.cells #[.string (str loc)] 9)) {K : Value → World → Prop} (hK : ∀ w', Kp [] w w' → K (.bool (atP s sku loc)) w') :
    callG Tryz.prog 145 #[sA s, .pointer (some ⟨p, 0, none⟩), .pointer (some ⟨q, 0, none⟩)] w K := by
  refine ledger_Find_1_call ?_
  unfold ledger_Find_1 ledger_Find_1_s0
  refine argBox (cs := sC s) fun b w1 hb hh hk => ?_
  have h1 := hk.get hp (by simp)
  have h2 := hk.get hq (by simp)
  have hK := hK w1 hk
  unfold atP at hK
  simp [-getElem?_pos, -Array.all_eq_true, -Array.getElem?_eq_getElem, -List.length_flatten, List.getElem?_cons_zero, List.getElem?_cons_succ, hh, sC, h1, h2]
  refine ⟨fun e => ?_, fun e => ?_⟩
  · rw [e] at hK; simpa using hK
  · rw [decide_eq_false (fun hh => e hh.1)] at hK; exact hK
theorem has77 : hasBody Tryz.prog 145 = true := by kernel_rfl
theorem idxS {st : List SV} {sku loc : List UInt8} : (∀ i, ∀ h : i < st.length, atP st[i] sku loc = true → (∀ j (hj : j < st.length), j < i → atP st[j] sku loc = false) → findS st sku loc = st[i]) ∧ ((∀ j (hj : j < st.length), atP st[j] sku loc = false) → findS st sku loc = ⟨sku, loc, 0, 0⟩) := by
  refine ⟨fun i h h1 h2 => ?_, fun h => ?_⟩
  · unfold findS
    have : st.find? (fun s => atP s sku loc) = some st[i] := by
      rw [List.find?_eq_some_iff_getElem]
      exact ⟨h1, i, h, rfl, fun j hj => by simpa using h2 j (by omega) hj⟩
    rw [this]; rfl
  · refine findS_none fun s hs hk => ?_
    obtain ⟨j, hj, rfl⟩ := List.getElem_of_mem hs
    have := h j hj
    simp [atP] at this
    exact this hk.1 hk.2
theorem indexFunc_spec {w : World} {v : Value} {st : List SV} {p q : Nat} {sku loc : List UInt8} (hr : Rd w v 4 (st.map sC)) (hp : w.heap[p]? = some (.cells #[.string (str sku)] 9)) (hq : w.heap[q]? = some (.cells #[.string (str loc)] 9)) (hl : st.length < 2 ^ 40) {K : Value → World → Prop}
    (hK1 : ∀ i w', Kp [] w w' → ∀ h : i < st.length, findS st sku loc = st[i] → K (.int .i64 (i : Nat)) w') (hK2 : ∀ w', Kp [] w w' → findS st sku loc = ⟨sku, loc, 0, 0⟩ → K (.int .i64 (-1)) w') :
    callG Tryz.prog 144 #[v, .func (.func 145) #[] #[.pointer (some ⟨p, 0, none⟩), .pointer (some ⟨q, 0, none⟩)]] w K := by
  refine slices_IndexFunc_api_Stock_api_Stock_call ?_
  unfold slices_IndexFunc_api_Stock_api_Stock slices_IndexFunc_api_Stock_api_Stock_s4 slices_IndexFunc_api_Stock_api_Stock_s3 slices_IndexFunc_api_Stock_api_Stock_L2
  rw [hr.lenL, List.length_map]
  refine loop_inv (fun m xs wi => ∃ i, i ≤ st.length ∧ m = st.length - i ∧ xs = [v, .func (.func 145) #[] #[.pointer (some ⟨p, 0, none⟩), .pointer (some ⟨q, 0, none⟩)], .int .i64 st.length, .int .i64 (i : Nat)] ∧ Kp [] w wi ∧ ∀ j (hj : j < st.length), j < i → atP st[j] sku loc = false) ?_ (m := st.length) ⟨0, by omega, rfl, rfl, Kp.refl _ _, fun j _ h => by omega⟩
  rintro m N xs wi ⟨i, hi, rfl, rfl, hk, hno⟩ hN
  have hiw : IntKind.i64.wrap ((i : Int) + 1) = ((i + 1 : Nat) : Int) := by rw [w64 (by omega) (by omega)]; simp
  unfold slices_IndexFunc_api_Stock_api_Stock_L2F slices_IndexFunc_api_Stock_api_Stock_b1
  simp [-getElem?_pos, -Array.all_eq_true, -Array.getElem?_eq_getElem, -List.length_flatten, List.getElem?_cons_zero, List.getElem?_cons_succ, -ldn_p]
  refine ⟨fun hlt => ?_, fun hge => ?_⟩
  · obtain ⟨pp, h1, h2⟩ := rd_stock (hr.keep hk) hlt
    rw [h1, h2]
    refine ⟨has77, ?_⟩
    have harr : (#[] ++ #[sA st[i]] ++ #[.pointer (some ⟨p, 0, none⟩), .pointer (some ⟨q, 0, none⟩)] : Array Value) = #[sA st[i], .pointer (some ⟨p, 0, none⟩), .pointer (some ⟨q, 0, none⟩)] := rfl
    rw [harr]
    refine find1_spec st[i] (hk.get hp (by simp)) (hk.get hq (by simp)) fun w1 hk1 => ?_
    cases hc : atP st[i] sku loc with
      | true =>
        simp [-getElem?_pos, -Array.all_eq_true, -Array.getElem?_eq_getElem, -List.length_flatten, List.getElem?_cons_zero, List.getElem?_cons_succ, ]
        exact hK1 i w1 (hk.trans' hk1) hlt (idxS.1 i hlt hc hno)
      | false =>
        simp [-getElem?_pos, -Array.all_eq_true, -Array.getElem?_eq_getElem, -List.length_flatten, List.getElem?_cons_zero, List.getElem?_cons_succ, hiw]
        refine hN (st.length - (i + 1)) _ w1 (by omega) ⟨i + 1, by omega, rfl, by simp, hk.trans' hk1, fun j hj hji => ?_⟩
        by_cases he : j = i
        · subst he; exact hc
        · exact hno j hj (by omega)
  · unfold slices_IndexFunc_api_Stock_api_Stock_s0
    exact hK2 wi hk (idxS.2 fun j hj => hno j hj (by omega))
theorem zc44s : zc Tryz.prog 48 = [.string (str []), .string (str []), .int .i64 0, .int .i64 0].toArray := zcStock
theorem Find_spec7 {w : World} {v : Value} {l : LV} (hv : LedAt w v l) (hl : l.st.length < 2 ^ 40) (sku loc : List UInt8) {K : Value → World → Prop} (hK : ∀ w', Kp [] w w' → K (sA (findS l.st sku loc)) w') : callG Tryz.prog 133 #[v, .string (str sku), .string (str loc)] w K := by
  refine ledger_Find_call ?_
  obtain ⟨a, b, c, rfl, h1, h2, h3⟩ := hv
  unfold ledger_Find ledger_Find_s0
  refine argBox (cs := [a, b, c, .int .i64 l.ops]) fun x w1 hx1 hh1 hk1 => ?_
  simp only [newG_k, cells_str, zc44s]
  obtain ⟨p, hp⟩ : ∃ p, p = w1.heap.size := ⟨_, rfl⟩
  obtain ⟨w2, hw2⟩ := ex_w (w' := w1.alloc (.cells #[.string (str sku)] 9))
  have hk2 : Kp [] w1 w2 := by rw [hw2]; exact kp_alloc
  have hb2 : w2.heap[p]? = some (.cells #[.string (str sku)] 9) := by rw [hw2, hp]; exact heap_new
  rw [← hw2, ← hp]
  obtain ⟨q, hq⟩ : ∃ q, q = w2.heap.size := ⟨_, rfl⟩
  obtain ⟨w3, hw3⟩ := ex_w (w' := w2.alloc (.cells #[.string (str loc)] 9))
  have hk3 : Kp [] w2 w3 := by rw [hw3]; exact kp_alloc
  have hb3 : w3.heap[q]? = some (.cells #[.string (str loc)] 9) := by rw [hw3, hq]; exact heap_new
  rw [← hw3, ← hq]
  obtain ⟨r, hr⟩ : ∃ r, r = w3.heap.size := ⟨_, rfl⟩
  obtain ⟨w4, hw4⟩ := ex_w (w' := w3.alloc (.cells [.string (str []), .string (str []), .int .i64 0, .int .i64 0].toArray 48))
  have hk4 : Kp [] w3 w4 := by rw [hw4]; exact kp_alloc
  have hb4 : w4.heap[r]? = some (.cells [.string (str []), .string (str []), .int .i64 0, .int .i64 0].toArray 48) := by rw [hw4, hr]; exact heap_new
  rw [← hw4, ← hr]
  have g1 := ((hk2.trans' hk3).trans' hk4).get hh1 (by simp)
  have g2 := (hk3.trans' hk4).get hb2 (by simp)
  have g3 := hk4.get hb3 (by simp)
  have kk := ((hk1.trans' hk2).trans' hk3).trans' hk4
  have hrs : w.heap.size ≤ r := by have := (hk1.trans' hk2).size; have := hk3.size; omega
  have mk77 : ∀ {K : Value → Prop}, qG Tryz.prog (Instr.makeFunc (.func 145) #[] #[.pointer (some ⟨p, 0, none⟩), .pointer (some ⟨q, 0, none⟩)]) w4 K = K (.func (.func 145) #[] #[.pointer (some ⟨p, 0, none⟩), .pointer (some ⟨q, 0, none⟩)]) := qG_of rfl
  simp [-getElem?_pos, -Array.all_eq_true, -Array.getElem?_eq_getElem, -List.length_flatten, List.getElem?_cons_zero, List.getElem?_cons_succ, g1, mk77, -ldn_p, -stn_p]
  refine indexFunc_spec (h1.keep kk) g2 g3 hl (fun i w5 hk5 hi hf => ?_) (fun w5 hk5 hf => ?_)
  · have e1 := hk5.get g1 (by simp)
    have e4 := hk5.get hb4 (by simp)
    have l4 := live_of e4
    obtain ⟨pp, i1, i2⟩ := rd_stock (h1.keep (kk.trans' hk5)) hi
    have hneg : ¬ ((i : Int) < 0) := by omega
    simp [-getElem?_pos, -Array.all_eq_true, -Array.getElem?_eq_getElem, -List.length_flatten, List.getElem?_cons_zero, List.getElem?_cons_succ, e1, hneg, -ldn_p, -stn_p]
    rw [i1, i2]
    have := hK (setBlk w5 r (.cells (sC l.st[i]).toArray 48)) ((kk.trans' hk5).setBlk (.inr hrs) _)
    rw [hf] at this
    unfold sA at this ⊢
    unfold sC at this
    simp [-getElem?_pos, -Array.all_eq_true, -Array.getElem?_eq_getElem, -List.length_flatten, List.getElem?_cons_zero, List.getElem?_cons_succ, e4, lvStock, l4]
    exact this
  · have e2 := hk5.get g2 (by simp)
    have e3 := hk5.get g3 (by simp)
    have e4 := hk5.get hb4 (by simp)
    have l4 := live_of e4
    have := hK (setBlk w5 r (.cells (sC ⟨sku, loc, 0, 0⟩).toArray 48)) ((kk.trans' hk5).setBlk (.inr hrs) _)
    rw [hf] at this
    unfold sA sC at this
    simp [-getElem?_pos, -Array.all_eq_true, -Array.getElem?_eq_getElem, -List.length_flatten, List.getElem?_cons_zero, List.getElem?_cons_succ, e2, e3, e4, zcStock, str_nil, bld_done, bld_if, offAt, putAt, lvStock, l4]
    exact this
end Go.Proofs

set_option linter.unusedVariables false
set_option linter.unusedSimpArgs false
namespace Go.Proofs
open Go Go.Q
theorem Free_spec7 {w : World} {v : Value} {l : LV} (hm : May l) (hv : LedAt w v l) (sku loc : List UInt8) {K : Value → World → Prop} (hK : ∀ w', Kp [] w w' → K (.int .i64 (freeL l sku loc)) w') : callG Tryz.prog 131 #[v, .string (str sku), .string (str loc)] w K := by
  refine ledger_Free_call ?_
  obtain ⟨a, b, c, hve, h1, h2, h3⟩ := hv
  have hfew := hm.few
  simp only [fullL, decide_eq_false_iff_not, not_or] at hfew
  obtain ⟨g1, g2, g3, g4, g5⟩ := hm.f.find sku loc
  have gf := fits_iff.1 g5
  unfold ledger_Free ledger_Free_s0
  subst hve
  refine argBox (cs := [a, b, c, .int .i64 l.ops]) fun x w1 hx1 hh1 hk1 => ?_
  have hld : ldn 4 (.pointer (some ⟨x, 0, none⟩)) w1 = fun K => K (.agg #[a, b, c, .int .i64 l.ops]) := by
    funext K
    exact ldAll hh1 rfl
  rw [hld]
  refine Find_spec7 (l := l) ⟨a, b, c, rfl, h1.keep hk1, h2.keep hk1, h3.keep hk1⟩ (by omega) sku loc fun w2 hk2 => ?_
  refine boxStock (o := findS l.st sku loc) (by kernel_rfl) fun p w3 hp hh3 hk3 => ?_
  unfold sC at hh3
  simp [-getElem?_pos, -Array.all_eq_true, -Array.getElem?_eq_getElem, -List.length_flatten, List.getElem?_cons_zero, List.getElem?_cons_succ, hh3]
  refine numSub_spec (by unfold rngI; omega) (by unfold rngI; omega) ?_
  simp [-getElem?_pos, -Array.all_eq_true, -Array.getElem?_eq_getElem, -List.length_flatten, List.getElem?_cons_zero, List.getElem?_cons_succ, ]
  exact hK w3 ((hk1.trans' hk2).trans' hk3)
theorem rd_none {w : World} {k l c : Nat} {rows : List (List Value)} (h : Rd w (.slice none l c) k rows) : rows = [] := by
  obtain ⟨S, ⟨a, cap, h1, h2⟩ | h⟩ := h
  · exact h2
  · rcases h with ⟨_, h2⟩ | ⟨bl, o, cap, c, T, fr, h1, _⟩
    · exact h2
    · cases h1
theorem cloneStock_spec {w : World} {v : Value} {l : List SV} (h : Rd w v 4 (l.map sC)) (hl : l.length < 2 ^ 30) {K : Value → World → Prop} (hK : ∀ v' w', Fr w w' v' 4 (l.map sC) → K v' w') :
    callG Tryz.prog 45 #[v] w K := by
  refine slices_Clone_api_Stock_api_Stock_call ?_
  simp only [slices_Clone_api_Stock_api_Stock, slices_Clone_api_Stock_api_Stock_s0]
  obtain ⟨sa, sc, hv⟩ := h.slice
  have hnil : sa = none → l = [] := by
    intro h0
    subst h0
    rw [hv] at h
    simpa using rd_none h
  rw [hv, bq_sleql _ _ _ _ _ (by kernel_rfl)]
  simp only [bV_b]
  refine ⟨fun h0 => ?_, fun h0 => ?_⟩
  · have : l = [] := hnil (by simpa using h0)
    subst this
    exact hK _ w (fr_nil (Kp.refl _ _))
  · have hb : ∀ K : Value → World → Prop, bsl 48 4 0 (zc Tryz.prog 48) #[] w K = K (.slice (some ⟨w.heap.size, 0, none⟩) 0 0) (w.alloc (.cells #[] 48)) := by
      intro K
      have hr : rep (zc Tryz.prog 48) (0 * 4) = #[] := by simp [rep]
      unfold bsl
      rw [hr]
      rfl
    rw [hb]
    obtain ⟨w1, hw1⟩ : ∃ w1, w1 = w.alloc (.cells #[] 48) := ⟨_, rfl⟩
    have hk1 : Kp [] w w1 := by rw [hw1]; exact (Kp.refl [] w).alloc _
    have hb1 : w1.heap[w.heap.size]? = some (.cells #[] 48) := by rw [hw1]; exact heap_new
    rw [← hw1, ← hv]
    have h1 : Fr w w1 (.slice (some ⟨w.heap.size, 0, none⟩) 0 0) 4 [] := ⟨⟨[w.heap.size], .inr ⟨_, [], _, rfl, rfl, hb1, by simp, rfl, by simp⟩, by simp⟩, hk1⟩
    have hs := h.keep hk1
    rw [show zc Tryz.prog 48 = [.string (str []), .string (str []), .int .i64 0, .int .i64 0].toArray by kernel_rfl]
    refine fr_app (z := [.string (str []), .string (str []), .int .i64 0, .int .i64 0]) (G := l.map sC) h1 (by omega) rfl (fun y hy => hs.row hy) ?_ (fun K' hK' => hs.src K' hK') (by simp; omega) (by simp; omega) fun v2 w2 h2 => hK v2 w2 (by simpa using h2)
    rw [List.all_eq_true]
    intro x hx
    obtain ⟨r, hr, hxr⟩ := List.mem_flatten.1 hx
    obtain ⟨y, _, rfl⟩ := List.mem_map.1 hr
    simp only [sC, List.mem_cons, List.not_mem_nil, or_false] at hxr
    rcases hxr with rfl | rfl | rfl | rfl <;> rfl
theorem cloneHold_spec {w : World} {v : Value} {l : List HV} (h : Rd w v 6 (l.map hC)) (hl : l.length < 2 ^ 30) {K : Value → World → Prop} (hK : ∀ v' w', Fr w w' v' 6 (l.map hC) → K v' w') :
    callG Tryz.prog 46 #[v] w K := by
  refine slices_Clone_api_Hold_api_Hold_call ?_
  simp only [slices_Clone_api_Hold_api_Hold, slices_Clone_api_Hold_api_Hold_s0]
  obtain ⟨sa, sc, hv⟩ := h.slice
  have hnil : sa = none → l = [] := by
    intro h0
    subst h0
    rw [hv] at h
    simpa using rd_none h
  rw [hv, bq_sleql _ _ _ _ _ (by kernel_rfl)]
  simp only [bV_b]
  refine ⟨fun h0 => ?_, fun h0 => ?_⟩
  · have : l = [] := hnil (by simpa using h0)
    subst this
    exact hK _ w (fr_nil (Kp.refl _ _))
  · have hb : ∀ K : Value → World → Prop, bsl 70 6 0 (zc Tryz.prog 70) #[] w K = K (.slice (some ⟨w.heap.size, 0, none⟩) 0 0) (w.alloc (.cells #[] 70)) := by
      intro K
      have hr : rep (zc Tryz.prog 70) (0 * 6) = #[] := by simp [rep]
      unfold bsl
      rw [hr]
      rfl
    rw [hb]
    obtain ⟨w1, hw1⟩ : ∃ w1, w1 = w.alloc (.cells #[] 70) := ⟨_, rfl⟩
    have hk1 : Kp [] w w1 := by rw [hw1]; exact (Kp.refl [] w).alloc _
    have hb1 : w1.heap[w.heap.size]? = some (.cells #[] 70) := by rw [hw1]; exact heap_new
    rw [← hw1, ← hv]
    have h1 : Fr w w1 (.slice (some ⟨w.heap.size, 0, none⟩) 0 0) 6 [] := ⟨⟨[w.heap.size], .inr ⟨_, [], _, rfl, rfl, hb1, by simp, rfl, by simp⟩, by simp⟩, hk1⟩
    have hs := h.keep hk1
    rw [show zc Tryz.prog 70 = [.int .i64 0, .string (str []), .string (str []), .int .i64 0, .int .i64 0, .int .i64 0].toArray by kernel_rfl]
    refine fr_app (z := [.int .i64 0, .string (str []), .string (str []), .int .i64 0, .int .i64 0, .int .i64 0]) (G := l.map hC) h1 (by omega) rfl (fun y hy => hs.row hy) ?_ (fun K' hK' => hs.src K' hK') (by simp; omega) (by simp; omega) fun v2 w2 h2 => hK v2 w2 (by simpa using h2)
    rw [List.all_eq_true]
    intro x hx
    obtain ⟨r, hr, hxr⟩ := List.mem_flatten.1 hx
    obtain ⟨y, _, rfl⟩ := List.mem_map.1 hr
    simp only [hC, List.mem_cons, List.not_mem_nil, or_false] at hxr
    rcases hxr with rfl | rfl | rfl | rfl | rfl | rfl <;> rfl
theorem cloneMove_spec {w : World} {v : Value} {l : List HV} (h : Rd w v 6 (l.map hC)) (hl : l.length < 2 ^ 30) {K : Value → World → Prop} (hK : ∀ v' w', Fr w w' v' 6 (l.map hC) → K v' w') :
    callG Tryz.prog 47 #[v] w K := by
  refine slices_Clone_api_Move_api_Move_call ?_
  simp only [slices_Clone_api_Move_api_Move, slices_Clone_api_Move_api_Move_s0]
  obtain ⟨sa, sc, hv⟩ := h.slice
  have hnil : sa = none → l = [] := by
    intro h0
    subst h0
    rw [hv] at h
    simpa using rd_none h
  rw [hv, bq_sleql _ _ _ _ _ (by kernel_rfl)]
  simp only [bV_b]
  refine ⟨fun h0 => ?_, fun h0 => ?_⟩
  · have : l = [] := hnil (by simpa using h0)
    subst this
    exact hK _ w (fr_nil (Kp.refl _ _))
  · have hb : ∀ K : Value → World → Prop, bsl 73 6 0 (zc Tryz.prog 73) #[] w K = K (.slice (some ⟨w.heap.size, 0, none⟩) 0 0) (w.alloc (.cells #[] 73)) := by
      intro K
      have hr : rep (zc Tryz.prog 73) (0 * 6) = #[] := by simp [rep]
      unfold bsl
      rw [hr]
      rfl
    rw [hb]
    obtain ⟨w1, hw1⟩ : ∃ w1, w1 = w.alloc (.cells #[] 73) := ⟨_, rfl⟩
    have hk1 : Kp [] w w1 := by rw [hw1]; exact (Kp.refl [] w).alloc _
    have hb1 : w1.heap[w.heap.size]? = some (.cells #[] 73) := by rw [hw1]; exact heap_new
    rw [← hw1, ← hv]
    have h1 : Fr w w1 (.slice (some ⟨w.heap.size, 0, none⟩) 0 0) 6 [] := ⟨⟨[w.heap.size], .inr ⟨_, [], _, rfl, rfl, hb1, by simp, rfl, by simp⟩, by simp⟩, hk1⟩
    have hs := h.keep hk1
    rw [show zc Tryz.prog 73 = [.int .i64 0, .string (str []), .string (str []), .int .i64 0, .int .i64 0, .int .i64 0].toArray by kernel_rfl]
    refine fr_app (z := [.int .i64 0, .string (str []), .string (str []), .int .i64 0, .int .i64 0, .int .i64 0]) (G := l.map hC) h1 (by omega) rfl (fun y hy => hs.row hy) ?_ (fun K' hK' => hs.src K' hK') (by simp; omega) (by simp; omega) fun v2 w2 h2 => hK v2 w2 (by simpa using h2)
    rw [List.all_eq_true]
    intro x hx
    obtain ⟨r, hr, hxr⟩ := List.mem_flatten.1 hx
    obtain ⟨y, _, rfl⟩ := List.mem_map.1 hr
    simp only [hC, List.mem_cons, List.not_mem_nil, or_false] at hxr
    rcases hxr with rfl | rfl | rfl | rfl | rfl | rfl <;> rfl
end Go.Proofs

set_option linter.unusedVariables false
set_option linter.unusedSimpArgs false
namespace Go.Proofs
open Go Go.Q
theorem index1_spec {w : World} (s : SV) (sku loc : List UInt8) {K : Value → World → Prop} (hK : ∀ w', Kp [] w w' → K (.int .i64 (ordL s.sku s.loc sku loc)) w') : callG Tryz.prog 150 #[sA s, keyV sku loc] w K := by
  refine ledger_index_1_call ?_
  unfold ledger_index_1 ledger_index_1_s0
  refine argBox (cs := sC s) fun b w1 hb hh hk => ?_
  refine argBox (cs := [.string (str sku), .string (str loc)]) fun b2 w2 hb2 hh2 hk2 => ?_
  have h1 := (hk2.trans' kp_drew).get hh (by simp)
  have h2 := kp_drew.get hh2 (by simp)
  rw [ldStock h1, ldPl h2]
  refine of_spec7 s fun w3 hk3 => ?_
  rw [ldPl (hk3.get h2 (by simp))]
  refine ⟨rfl, order_spec _ _ _ _ fun w4 hk4 => ?_⟩
  exact hK w4 (((hk.trans' (hk2.trans' kp_drew)).trans' hk3).trans' hk4)
theorem has129 : hasBody Tryz.prog 150 = true := by kernel_rfl
theorem index_spec {w : World} {v : Value} {st : List SV} (hs : Sorted st) (hr : Rd w v 4 (st.map sC)) (hl : st.length < 2 ^ 40) (sku loc : List UInt8) {K : Value → World → Prop}
    (hK : ∀ k w', Kp [] w w' → k ≤ st.length → (∀ j (hj : j < st.length), j < k → Q.ahead st[j] ⟨sku, loc, 0, 0⟩ = true) → (∀ j (hj : j < st.length), k ≤ j → Q.ahead st[j] ⟨sku, loc, 0, 0⟩ = false) →
      K (.tuple #[.int .i64 (k : Nat), .bool (st.any fun s => atP s sku loc)]) w') : callG Tryz.prog 146 #[v, keyV sku loc] w K := by
  refine ledger_index_call ?_
  unfold ledger_index ledger_index_s0
  refine argBox (cs := [.string (str sku), .string (str loc)]) fun b w1 hb hh hk => ?_
  rw [ldPl hh]
  refine slices_BinarySearchFunc_api_Stock_api_Stock_ledger_place_call ?_
  unfold slices_BinarySearchFunc_api_Stock_api_Stock_ledger_place slices_BinarySearchFunc_api_Stock_api_Stock_ledger_place_s3
  refine argBox (cs := [.string (str sku), .string (str loc)]) fun p w2 hp hh2 hk2 => ?_
  rw [(hr.keep (hk.trans' hk2)).lenL, List.length_map]
  unfold slices_BinarySearchFunc_api_Stock_api_Stock_ledger_place_L2
  refine loop_inv (fun m xs wi => ∃ i j : Nat, i ≤ j ∧ j ≤ st.length ∧ m = j - i ∧ xs = [v, .func (.func 150) #[] #[], .pointer (some ⟨p, 0, none⟩), .int .i64 st.length, .int .i64 (i : Nat), .int .i64 (j : Nat)] ∧ Kp [] w2 wi ∧
      (∀ t (ht : t < st.length), t < i → Q.ahead st[t] ⟨sku, loc, 0, 0⟩ = true) ∧ (∀ t (ht : t < st.length), j ≤ t → Q.ahead st[t] ⟨sku, loc, 0, 0⟩ = false)) ?_ (m := st.length)
    ⟨0, st.length, by omega, by omega, by omega, rfl, Kp.refl _ _, fun t _ h => by omega, fun t ht h => by omega⟩
  rintro m N xs wi ⟨i, j, hij, hj, rfl, rfl, hki, hlow, hhigh⟩ hN
  have hpl := hki.get hh2 (by simp)
  have hpld := kp_drew.get hpl (by simp)
  have kk := (hk.trans' hk2).trans' hki
  have harr : ∀ a b : Value, (#[] ++ #[a, b] ++ #[] : Array Value) = #[a, b] := fun _ _ => rfl
  unfold slices_BinarySearchFunc_api_Stock_api_Stock_ledger_place_L2F slices_BinarySearchFunc_api_Stock_api_Stock_ledger_place_b1
  have e1 : IntKind.i64.wrap ((i : Int) + j) = (i : Int) + j := w64 (by omega) (by omega)
  have e2 : IntKind.u64.wrap ((i : Int) + j) = (i : Int) + j := by rw [wrapU]; omega
  simp [-getElem?_pos, -Array.all_eq_true, -Array.getElem?_eq_getElem, -List.length_flatten, List.getElem?_cons_zero, List.getElem?_cons_succ, e1, e2, -ldn_p]
  refine ⟨fun hlt => ?_, fun hge => ?_⟩
  · rw [shr_of (by omega) (by decide)]
    obtain ⟨h, hh'⟩ : ∃ h : Nat, h = (i + j) / 2 := ⟨_, rfl⟩
    have e3 : ((i : Int) + j) / 2 ^ (1 : Int).toNat = (h : Int) := by
      rw [show (2 : Int) ^ (1 : Int).toNat = 2 by decide]; omega
    have e4 : IntKind.i64.wrap (h : Int) = (h : Int) := w64 (by omega) (by omega)
    have e5 : IntKind.i64.wrap ((h : Int) + 1) = ((h + 1 : Nat) : Int) := by rw [w64 (by omega) (by omega)]; simp
    obtain ⟨q, q1, q2⟩ := rd_stock (hr.keep (kk.trans' kp_drew)) (i := h) (by omega)
    rw [e3]
    simp [-getElem?_pos, -Array.all_eq_true, -Array.getElem?_eq_getElem, -List.length_flatten, List.getElem?_cons_zero, List.getElem?_cons_succ, e4, -ldn_p]
    rw [q1, q2, ldPl hpld]
    refine ⟨has129, ?_⟩
    rw [harr]
    refine index1_spec st[h] sku loc fun w3 hk3 => ?_
    have hk23 : Kp [] w2 w3 := hki.trans' (kp_drew.trans' hk3)
    have hneg := ordL_neg (a := st[h]) (b := ⟨sku, loc, 0, 0⟩)
    simp only at hneg
    cases ha : Q.ahead st[h] ⟨sku, loc, 0, 0⟩ with
    | true =>
      have hn := hneg.2 ha
      simp [-getElem?_pos, -Array.all_eq_true, -Array.getElem?_eq_getElem, -List.length_flatten, List.getElem?_cons_zero, List.getElem?_cons_succ, hn, e5]
      refine hN (j - (h + 1)) _ w3 (by omega) ⟨h + 1, j, by omega, hj, rfl, by simp, hk23, fun t ht hti => ?_, hhigh⟩
      by_cases he : t = h
      · subst he; exact ha
      · have := List.pairwise_iff_getElem.1 hs t h ht (by omega) (by omega)
        exact ahead_trans this ha
    | false =>
      have hn : ¬ (ordL st[h].sku st[h].loc sku loc < 0) := fun hh => by rw [hneg.1 hh] at ha; cases ha
      simp [-getElem?_pos, -Array.all_eq_true, -Array.getElem?_eq_getElem, -List.length_flatten, List.getElem?_cons_zero, List.getElem?_cons_succ, hn]
      refine hN (h - i) _ w3 (by omega) ⟨i, h, by omega, by omega, rfl, rfl, hk23, hlow, fun t ht hti => ?_⟩
      by_cases he : t = h
      · subst he; exact ha
      · cases hc : Q.ahead st[t] ⟨sku, loc, 0, 0⟩ with
        | false => rfl
        | true =>
          have := List.pairwise_iff_getElem.1 hs h t (by omega) ht (by omega)
          rw [ahead_trans this hc] at ha
          cases ha
  · have hie : i = j := by omega
    subst hie
    unfold slices_BinarySearchFunc_api_Stock_api_Stock_ledger_place_s0
    simp [-getElem?_pos, -Array.all_eq_true, -Array.getElem?_eq_getElem, -List.length_flatten, List.getElem?_cons_zero, List.getElem?_cons_succ, -ldn_p]
    refine ⟨fun hlt => ?_, fun hge => ?_⟩
    · obtain ⟨q, q1, q2⟩ := rd_stock (hr.keep (kk.trans' kp_drew)) (i := i) hlt
      rw [q1, q2, ldPl hpld]
      refine ⟨has129, ?_⟩
      rw [harr]
      refine index1_spec st[i] sku loc fun w3 hk3 => ?_
      simp [-getElem?_pos, -Array.all_eq_true, -Array.getElem?_eq_getElem, -List.length_flatten, List.getElem?_cons_zero, List.getElem?_cons_succ, ]
      have hK := hK i w3 ((kk.trans' kp_drew).trans' hk3) hj hlow hhigh
      have e : (st.any fun s => atP s sku loc) = decide (ordL st[i].sku st[i].loc sku loc = 0) := by
        rw [Bool.eq_iff_iff]
        simp only [List.any_eq_true, decide_eq_true_eq, atP]
        constructor
        · rintro ⟨s, hs', h1, h2⟩
          obtain ⟨t, ht, rfl⟩ := List.getElem_of_mem hs'
          have hnot : Q.ahead st[t] ⟨sku, loc, 0, 0⟩ = false := by rw [ahead_key (a' := ⟨sku, loc, 0, 0⟩) (b' := ⟨sku, loc, 0, 0⟩) h1 h2 rfl rfl, ahead_irrefl]
          have hti : i ≤ t := by
            rcases Nat.lt_or_ge t i with h | h
            · rw [hlow t ht h] at hnot; cases hnot
            · exact h
          by_cases he : t = i
          · subst he; exact ordL_zero.2 ⟨h1, h2⟩
          · exfalso
            have hp' := List.pairwise_iff_getElem.1 hs i t hlt ht (by omega)
            rw [ahead_key (b' := ⟨sku, loc, 0, 0⟩) rfl rfl h1 h2] at hp'
            have := hhigh i hlt (Nat.le_refl _)
            rw [hp'] at this
            cases this
        · intro h0
          obtain ⟨h1, h2⟩ := ordL_zero.1 h0
          exact ⟨st[i], List.getElem_mem hlt, h1, h2⟩
      rw [e] at hK
      exact hK
    · have hin : i = st.length := by omega
      have hK := hK i wi.drew (kk.trans' kp_drew) hj hlow hhigh
      have e : (st.any fun s => atP s sku loc) = false := by
        rw [Bool.eq_false_iff]
        intro h
        simp only [List.any_eq_true, decide_eq_true_eq, atP] at h
        obtain ⟨s, hs', h1, h2⟩ := h
        obtain ⟨t, ht, rfl⟩ := List.getElem_of_mem hs'
        have := hlow t ht (by omega)
        rw [ahead_key (a' := ⟨sku, loc, 0, 0⟩) (b' := ⟨sku, loc, 0, 0⟩) h1 h2 rfl rfl, ahead_irrefl] at this
        cases this
      rw [e] at hK
      exact hK
end Go.Proofs

set_option linter.unusedVariables false
set_option linter.unusedSimpArgs false
namespace Go.Proofs
open Go Go.Q
theorem refIndex_spec {w : World} {v : Value} {l : LV} (hv : LedAt w v l) (hl : l.st.length < 2 ^ 40) (sku loc : List UInt8) {K : Value → World → Prop}
    (hK1 : ∀ i w', Kp [] w w' → ∀ h : i < l.st.length, findS l.st sku loc = l.st[i] → atP l.st[i] sku loc = true → K (.int .i64 (i : Nat)) w') (hK2 : ∀ w', Kp [] w w' → findS l.st sku loc = ⟨sku, loc, 0, 0⟩ → knownL l sku loc = false → K (.int .i64 (-1)) w') :
    callG Tryz.prog 48 #[v, .string (str sku), .string (str loc)] w K := by
  refine ref07_index_call ?_
  obtain ⟨a, b, c, rfl, h1, h2, h3⟩ := hv
  unfold ref07_index ref07_index_s4
  refine argBox (cs := [a, b, c, .int .i64 l.ops]) fun x w1 hx1 hh1 hk1 => ?_
  have r1 := h1.keep hk1
  unfold ref07_index_s3 ref07_index_L2
  refine loop_inv (fun m xs wi => ∃ i, i ≤ l.st.length ∧ m = l.st.length - i ∧ xs = [.string (str sku), .string (str loc), .pointer (some ⟨x, 0, none⟩), .int .i64 (i : Nat)] ∧ wi = w1 ∧ ∀ j (hj : j < l.st.length), j < i → atP l.st[j] sku loc = false) ?_ (m := l.st.length) ⟨0, by omega, rfl, rfl, rfl, fun j _ h => by omega⟩
  rintro m N xs wi ⟨i, hi, rfl, rfl, rfl, hno⟩ hN
  have hiw : IntKind.i64.wrap ((i : Int) + 1) = ((i + 1 : Nat) : Int) := by rw [w64 (by omega) (by omega)]; simp
  unfold ref07_index_L2F ref07_index_b1
  simp [-getElem?_pos, -Array.all_eq_true, -Array.getElem?_eq_getElem, -List.length_flatten, List.getElem?_cons_zero, List.getElem?_cons_succ, hh1, r1.lenL]
  refine ⟨fun hlt => ?_, fun hge => ?_⟩
  · obtain ⟨p, q1, _, q3⟩ := r1.get (i := i) (by simpa using hlt)
    have q1' : ∀ K : Value → Prop, ia 4 a (.int .i64 i) K = K p := fun K => q1 .i64 K
    have f0 : ∀ K : Value → Prop, fa 0 p (fun q => ld1 q wi K) = K (.string (str l.st[i].sku)) := fun K => by have := q3 0 (by simp [sC]) K; simpa [sC] using this
    have f1 : ∀ K : Value → Prop, fa 1 p (fun q => ld1 q wi K) = K (.string (str l.st[i].loc)) := fun K => by have := q3 1 (by simp [sC]) K; simpa [sC] using this
    have hnext : atP l.st[i] sku loc = false → N [.string (str sku), .string (str loc), .pointer (some ⟨x, 0, none⟩), .int .i64 ((i + 1 : Nat) : Int)] wi := fun hc => hN (l.st.length - (i + 1)) _ wi (by omega) ⟨i + 1, by omega, rfl, rfl, rfl, fun j hj hji => by
      by_cases he : j = i
      · subst he; exact hc
      · exact hno j hj (by omega)⟩
    rw [q1', f0]
    simp [-getElem?_pos, -Array.all_eq_true, -Array.getElem?_eq_getElem, -List.length_flatten, List.getElem?_cons_zero, List.getElem?_cons_succ, hh1]
    rw [hiw]
    refine ⟨fun e1 => ?_, fun e1 => hnext (by simp [atP, e1])⟩
    rw [q1', f1]
    simp [-getElem?_pos, -Array.all_eq_true, -Array.getElem?_eq_getElem, -List.length_flatten, List.getElem?_cons_zero, List.getElem?_cons_succ, ]
    refine ⟨fun e2 => ?_, fun e2 => ?_⟩
    · have hat : atP l.st[i] sku loc = true := by simp [atP, e1, e2]
      exact hK1 i wi hk1 hlt (idxS.1 i hlt hat hno) hat
    · have := hnext (by simp [atP, e2])
      first | exact this | simpa using this
  · unfold ref07_index_s0
    refine hK2 wi hk1 (idxS.2 fun j hj => hno j hj (by omega)) ?_
    rw [Bool.eq_false_iff]
    intro hk
    obtain ⟨s, hs, e1, e2⟩ := known_find.1 hk
    obtain ⟨j, hj, rfl⟩ := List.getElem_of_mem hs
    have := hno j hj (by omega)
    simp [atP, e1, e2] at this
theorem refFind_spec {w : World} {v : Value} {l : LV} (hv : LedAt w v l) (hl : l.st.length < 2 ^ 40) (sku loc : List UInt8) {K : Value → World → Prop} (hK : ∀ w', Kp [] w w' → K (sA (findS l.st sku loc)) w') : callG Tryz.prog 17 #[v, .string (str sku), .string (str loc)] w K := by
  refine ref07_Find_call ?_
  obtain ⟨a, b, c, rfl, h1, h2, h3⟩ := hv
  unfold ref07_Find ref07_Find_s0
  refine argBox (cs := [a, b, c, .int .i64 l.ops]) fun x w1 hx1 hh1 hk1 => ?_
  simp only [newG_k, zc44s]
  obtain ⟨r, hr⟩ : ∃ r, r = w1.heap.size := ⟨_, rfl⟩
  obtain ⟨w4, hw4⟩ := ex_w (w' := w1.alloc (.cells [.string (str []), .string (str []), .int .i64 0, .int .i64 0].toArray 48))
  have hk4 : Kp [] w1 w4 := by rw [hw4]; exact kp_alloc
  have hb4 : w4.heap[r]? = some (.cells [.string (str []), .string (str []), .int .i64 0, .int .i64 0].toArray 48) := by rw [hw4, hr]; exact heap_new
  rw [← hw4, ← hr]
  have g1 := hk4.get hh1 (by simp)
  have kk := hk1.trans' hk4
  have hrs : w.heap.size ≤ r := by have := hk1.size; omega
  rw [ldAll (k := 4) g1 rfl]
  refine refIndex_spec (l := l) ⟨a, b, c, rfl, h1.keep kk, h2.keep kk, h3.keep kk⟩ hl sku loc (fun i w5 hk5 hi hf _ => ?_) (fun w5 hk5 hf _ => ?_)
  · have e1 := hk5.get g1 (by simp)
    have e4 := hk5.get hb4 (by simp)
    have l4 := live_of e4
    obtain ⟨pp, i1, i2⟩ := rd_stock (h1.keep (kk.trans' hk5)) hi
    have hpos : (0 : Int) ≤ (i : Int) := by omega
    simp [-getElem?_pos, -Array.all_eq_true, -Array.getElem?_eq_getElem, -List.length_flatten, List.getElem?_cons_zero, List.getElem?_cons_succ, e1, hpos, -ldn_p, -stn_p]
    rw [i1, i2]
    have := hK (setBlk w5 r (.cells (sC l.st[i]).toArray 48)) ((kk.trans' hk5).setBlk (.inr hrs) _)
    rw [hf] at this
    unfold sA at this ⊢
    unfold sC at this
    simp [-getElem?_pos, -Array.all_eq_true, -Array.getElem?_eq_getElem, -List.length_flatten, List.getElem?_cons_zero, List.getElem?_cons_succ, e4, lvStock, l4]
    exact this
  · have e4 := hk5.get hb4 (by simp)
    have l4 := live_of e4
    have := hK (setBlk w5 r (.cells (sC ⟨sku, loc, 0, 0⟩).toArray 48)) ((kk.trans' hk5).setBlk (.inr hrs) _)
    rw [hf] at this
    unfold sA sC at this
    simp [-getElem?_pos, -Array.all_eq_true, -Array.getElem?_eq_getElem, -List.length_flatten, List.getElem?_cons_zero, List.getElem?_cons_succ, e4, zcStock, str_nil, bld_done, bld_if, offAt, putAt, lvStock, l4]
    exact this
end Go.Proofs

set_option linter.unusedVariables false
set_option linter.unusedSimpArgs false
namespace Go.Q
end Go.Q

set_option linter.unusedVariables false
set_option linter.unusedSimpArgs false
namespace Go.Proofs
open Go Go.Q
theorem zcLed : zc Tryz.prog 26 = [.slice none 0 0, .slice none 0 0, .slice none 0 0, .int .i64 0].toArray := by kernel_rfl
theorem aggLed : aggO Tryz.prog 26 = some true := by kernel_rfl
theorem szLed : szO Tryz.prog 26 = some 4 := by kernel_rfl
theorem sC_one (s : SV) : (sC s).all Q.one = true := rfl
theorem stAll {b k : Nat} {old c : Array Value} {T : TypeId} {w : World} (h : w.heap[b]? = some (.cells old T)) (ho : old.size = k) (hc : c.size = k) (hone : c.all one = true) {K : World → Prop} :
    stn k (.pointer (some ⟨b, 0, none⟩)) (.agg c) w K = K (setBlk w b (.cells c T)) := by
  rw [stn_p, wrN_mk, h]
  have hsp : splice old 0 c = c := splice_all (by rw [ho, hc])
  apply propext
  constructor
  · rintro ⟨_, _, hk⟩
    rw [hsp] at hk
    exact hk
  · intro hk
    refine ⟨hc, ⟨by omega, by rw [okFr0]; trivial, hone⟩, ?_⟩
    rw [hsp]; exact hk
structure LedS (w : World) (v : Value) (l : LV) (S : List Nat) : Prop where
  ex : ∃ a b c SA SB SC, v = .agg #[a, b, c, .int .i64 l.ops] ∧ ArgAt w a 4 (l.st.map sC) SA ∧ ArgAt w b 6 (l.ho.map hC) SB ∧ ArgAt w c 6 (l.mo.map hC) SC ∧ S = SA ++ (SB ++ SC)
  lt : ∀ x ∈ S, x < w.heap.size
theorem LedS.at {w : World} {v : Value} {l : LV} {S : List Nat} (h : LedS w v l S) : LedAt w v l := by
  obtain ⟨a, b, c, SA, SB, SC, e, h1, h2, h3, _⟩ := h.ex
  exact ⟨a, b, c, e, ⟨_, h1⟩, ⟨_, h2⟩, ⟨_, h3⟩⟩
theorem LedS.keep {w w' : World} {v : Value} {l : LV} {S S' : List Nat} (h : LedS w v l S) (hk : Kp S' w w') (hd : ∀ x ∈ S, x ∉ S') : LedS w' v l S := by
  have hsz := hk.size
  refine ⟨?_, fun x hx => by have := h.lt x hx; omega⟩
  obtain ⟨a, b, c, SA, SB, SC, e, h1, h2, h3, rfl⟩ := h.ex
  exact ⟨a, b, c, SA, SB, SC, e, h1.keep hk (fun x hx => hd x (by simp [hx])), h2.keep hk (fun x hx => hd x (by simp [hx])), h3.keep hk (fun x hx => hd x (by simp [hx])), rfl⟩
end Go.Proofs

set_option linter.unusedVariables false
set_option linter.unusedSimpArgs false
namespace Go.Proofs
open Go Go.Q
theorem LedAt.ones {w : World} {a b c : Value} {l : LV} (h1 : Rd w a 4 (l.st.map sC)) (h2 : Rd w b 6 (l.ho.map hC)) (h3 : Rd w c 6 (l.mo.map hC)) : ([a, b, c, .int .i64 l.ops].toArray).all one = true := by
  obtain ⟨_, _, e1⟩ := h1.slice
  obtain ⟨_, _, e2⟩ := h2.slice
  obtain ⟨_, _, e3⟩ := h3.slice
  rw [e1, e2, e3]
  simp only [all_cons1, all_nil1]
  rfl
theorem lvLedw {b : Nat} {w : World} {c : Array Value} {T : TypeId} {fr : Nat × Nat} (hh : w.heap[b]? = some (.cells c T fr)) (hs : c.size = 4) {K : Value → Prop} :
    qG Tryz.prog (do loadVar 26 (← asAddr (.pointer (some ⟨b, 0, none⟩)))) w K = K (.agg c) := loadVar_of aggLed szLed hh hs
end Go.Proofs

set_option linter.unusedVariables false
set_option linter.unusedSimpArgs false
namespace Go.Proofs
open Go Go.Q
theorem hold_zc : zc Tryz.prog 70 = [.int .i64 0, .string (str []), .string (str []), .int .i64 0, .int .i64 0, .int .i64 0].toArray := by kernel_rfl
theorem led_ret {wj : World} {x z : Nat} {a b c : Value} {l : LV} {S : List Nat} (hx : wj.heap[x]? = some (.cells #[a, b, c, .int .i64 l.ops] 26)) (hz : wj.heap[z]? = some (.cells [.slice none 0 0, .slice none 0 0, .slice none 0 0, .int .i64 0].toArray 26))
    (hv : LedS wj (.agg #[a, b, c, .int .i64 l.ops]) l S) (hzS : z ∉ S) {K : Value → World → Prop} (hK : ∀ w', Kp [z] wj w' → LedS w' (.agg #[a, b, c, .int .i64 l.ops]) l S → K (.agg #[a, b, c, .int .i64 l.ops]) w') :
    ldn 4 (.pointer (some ⟨x, 0, none⟩)) wj fun t67 => stn 4 (.pointer (some ⟨z, 0, none⟩)) t67 wj fun w => qG Tryz.prog (do loadVar 26 (← asAddr (.pointer (some ⟨z, 0, none⟩)))) w fun r4 => K r4 w := by
  obtain ⟨a', b', c', SA, SB, SC, e, h1, h2, h3, _⟩ := hv.ex
  have e' : a = a' ∧ b = b' ∧ c = c' := by
    simp only [Value.agg.injEq, Array.mk.injEq, List.cons.injEq] at e
    exact ⟨e.1, e.2.1, e.2.2.1⟩
  obtain ⟨rfl, rfl, rfl⟩ := e'
  have hone := LedAt.ones (l := l) ⟨_, h1⟩ ⟨_, h2⟩ ⟨_, h3⟩
  rw [ldAll (k := 4) hx rfl, stAll (k := 4) hz rfl rfl hone, lvLedw (heap_self (live_of hz)) rfl]
  have hk : Kp [z] wj (setBlk wj z (.cells #[a, b, c, .int .i64 l.ops] 26)) := (Kp.refl _ wj).setBlk (.inl (by simp)) _
  exact hK _ hk (hv.keep hk fun q hq => by simp; intro h; exact hzS (h ▸ hq))
end Go.Proofs

set_option linter.unusedVariables false
set_option linter.unusedSimpArgs false
namespace Go.Proofs
open Go Go.Q
theorem move_zc : zc Tryz.prog 73 = [.int .i64 0, .string (str []), .string (str []), .int .i64 0, .int .i64 0, .int .i64 0].toArray := by kernel_rfl
end Go.Proofs

set_option linter.unusedVariables false
set_option linter.unusedSimpArgs false
namespace Go.Q
variable {P : Program}
section
variable {w : World} {k : Nat} {F G : List (List Value)} {T : Nat}
theorem wr_rows {b i : Nat} (h : w.heap[b]? = some (.cells F.flatten.toArray T (0, 0))) (hF : ∀ x ∈ F, x.length = k) (hG : ∀ x ∈ G, x.length = k) (hi : i + G.length ≤ F.length) (hone : G.flatten.all one = true) {K : World → Prop} :
    wrN w ⟨b, i * k, none⟩ G.flatten.toArray K = K (setBlk w b (.cells (F.take i ++ G ++ F.drop (i + G.length)).flatten.toArray T)) := by
  rw [wrN_mk, h]
  simp only
  have h1 := flat_len hF
  have h2 := flat_len hG
  have h3 : i * k + G.flatten.length ≤ F.flatten.length := by rw [h1, h2, ← Nat.add_mul]; exact Nat.mul_le_mul_right _ hi
  rw [splice_list, flat_splice_many hF hG hi]
  apply propext
  constructor
  · rintro ⟨_, h⟩; exact h
  · intro hk
    refine ⟨⟨by simpa [-List.length_flatten] using h3, by rw [okFr0]; trivial, by rw [List.all_toArray]; exact hone⟩, hk⟩
theorem rd_rows {b i m : Nat} (h : w.heap[b]? = some (.cells F.flatten.toArray T (0, 0))) (hF : ∀ x ∈ F, x.length = k) (hi : i + m ≤ F.length) {K : Array Value → Prop} :
    rdN w ⟨b, i * k, none⟩ (m * k) K = K ((F.drop i).take m).flatten.toArray := by
  rw [rdN_mk, h]
  simp only
  have h1 := flat_len hF
  have h3 : i * k + m * k ≤ F.flatten.length := by rw [h1, ← Nat.add_mul]; exact Nat.mul_le_mul_right _ hi
  rw [extract_list, flat_drop i hF, flat_take m (fun x hx => hF x (List.mem_of_mem_drop hx))]
  apply propext
  constructor
  · rintro ⟨_, h⟩; exact h
  · intro hk
    exact ⟨by simpa [-List.length_flatten] using h3, hk⟩
theorem cp_rows {b b' i j dl dc sl sc T' : Nat} {F' : List (List Value)} (h : w.heap[b]? = some (.cells F.flatten.toArray T (0, 0))) (hF : ∀ x ∈ F, x.length = k) (h' : w.heap[b']? = some (.cells F'.flatten.toArray T' (0, 0))) (hF' : ∀ x ∈ F', x.length = k)
    (hi : i + Nat.min sl dl ≤ F.length) (hj : j + Nat.min sl dl ≤ F'.length) (hone : ((F'.drop j).take (Nat.min sl dl)).flatten.all one = true) {K : Value → World → Prop} :
    cp k (.slice (some ⟨b, i * k, none⟩) dl dc) (.slice (some ⟨b', j * k, none⟩) sl sc) w K = K (.int .i64 (Nat.min sl dl : Nat)) (setBlk w b (.cells (F.take i ++ (F'.drop j).take (Nat.min sl dl) ++ F.drop (i + Nat.min sl dl)).flatten.toArray T)) := by
  unfold cp
  simp only [src]
  rw [rd_rows h' hF' hj]
  simp only [wrO, add_mk, Nat.add_zero]
  have hl : ((F'.drop j).take (Nat.min sl dl)).length = Nat.min sl dl := by rw [List.length_take, List.length_drop]; exact Nat.min_eq_left (by omega)
  rw [wr_rows h hF (fun x hx => hF' x (List.mem_of_mem_drop (List.mem_of_mem_take hx))) (by rw [hl]; exact hi) hone, hl]
end
theorem set_flat {k : Nat} : ∀ {F : List (List Value)} {i j : Nat} {v : Value}, (∀ x ∈ F, x.length = k) → (hi : i < F.length) → j < k → F.flatten.set (i * k + j) v = (F.set i (F[i].set j v)).flatten := by
  intro F
  induction F with
  | nil => intro i j v _ h; simp at h
  | cons x r ih =>
    intro i j v h hi hj
    have hx := h x (by simp)
    cases i with
    | zero =>
      simp only [List.flatten_cons, Nat.zero_mul, Nat.zero_add, List.set_cons_zero, List.getElem_cons_zero]
      rw [List.set_append_left _ _ (by omega)]
    | succ i =>
      simp only [List.flatten_cons, List.set_cons_succ, List.getElem_cons_succ]
      rw [List.set_append_right _ _ (by rw [hx, Nat.succ_mul]; omega)]
      rw [show (i + 1) * k + j - x.length = i * k + j by rw [hx, Nat.succ_mul]; omega]
      rw [ih (fun y hy => h y (by simp [hy])) (by simpa using hi) hj]
theorem RowsAt.upd {w : World} {v : Value} {k : Nat} {rows : List (List Value)} {S : List Nat} (h : RowsAt w v k rows S) {i : Nat} (hi : i < rows.length) :
    ∃ bl, S = [bl] ∧ (∀ kd K, ia k v (.int kd i) K = K (.pointer (some ⟨bl, i * k, none⟩))) ∧ (∀ j (hj : j < rows[i].length) K, rd1 w ⟨bl, i * k + j, none⟩ K = K rows[i][j]) ∧
      ∀ j, j < k → ∀ y, one y = true → ∀ K : World → Prop, (∀ w', Kp S w w' → RowsAt w' v k (rows.set i (rows[i].set j y)) S → K w') → wr1 w ⟨bl, i * k + j, none⟩ y K := by
  have hrow := h.row (List.getElem_mem hi)
  obtain ⟨bl', T', c', hb', hh', hia', _, _, hat'⟩ := h.at hi
  rcases h with ⟨h1, h2, h3⟩ | ⟨bl, F, T, h1, h2, h3, h4, h5, h6⟩
  · rw [h2] at hi; cases hi
  · rw [h2] at hb'
    simp only [List.mem_singleton] at hb'
    subst hb'
    refine ⟨bl', h2, hia', fun j hj K => ?_, fun j hj y hy K hK => ?_⟩
    · have := hat' j (by omega)
      rw [List.getElem?_eq_getElem hj] at this
      rw [rd1_mk, hh']
      simp only [this]
    · have hiF : i < F.length := by omega
      have hfl := flat_len h4
      have hlt : i * k + j < F.flatten.length := by
        have : (i + 1) * k ≤ F.length * k := Nat.mul_le_mul_right _ hiF
        rw [Nat.succ_mul] at this
        omega
      have hrowF : F[i] = rows[i] := by
        have e : rows[i]? = F[i]? := by rw [← h5, List.getElem?_take_of_lt (by omega)]
        rw [List.getElem?_eq_getElem hi, List.getElem?_eq_getElem hiF] at e
        injection e with e
        exact e.symm
      rw [wr1_mk, h3]
      refine ⟨⟨by simpa [-List.length_flatten] using hlt, by rw [okFr0]; trivial⟩, ?_⟩
      have e : F.flatten.toArray.setIfInBounds (i * k + j) y = (F.set i (F[i].set j y)).flatten.toArray := by
        rw [← set_flat h4 hiF hj]; simp
      rw [e]
      refine hK _ ((Kp.refl _ _).setBlk (.inl (by rw [h2]; simp)) _) (.inr ⟨bl', F.set i (F[i].set j y), T, by rw [h1]; simp, h2, heap_self (live_of h3), fun x hx => ?_, ?_, by simpa using h6⟩)
      · rcases List.mem_or_eq_of_mem_set hx with hx | hx
        · exact h4 x hx
        · rw [hx, List.length_set]; exact h4 _ (List.getElem_mem hiF)
      · rw [List.length_set, List.take_set, h5, hrowF]
theorem RowsAt.updM {α : Type} {f : α → List Value} {L : List α} {w : World} {v : Value} {k : Nat} {S : List Nat} (h : RowsAt w v k (L.map f) S) {i : Nat} (hi : i < L.length) :
    ∃ bl, S = [bl] ∧ (∀ K, ia k v (.int .i64 i) K = K (.pointer (some ⟨bl, i * k, none⟩))) ∧ (∀ j x, (f L[i])[j]? = some x → ∀ K, ld1 (.pointer (some ⟨bl, i * k + j, none⟩)) w K = K x) ∧
      ∀ j, j < k → ∀ y a, one y = true → f a = (f L[i]).set j y → ∀ K : World → Prop, (∀ w', Kp S w w' → RowsAt w' v k ((L.set i a).map f) S → K w') → st1 (.pointer (some ⟨bl, i * k + j, none⟩)) y w K := by
  have hi' : i < (L.map f).length := by simpa using hi
  obtain ⟨bl, h1, h2, h3, h4⟩ := h.upd hi'
  have e : (L.map f)[i] = f L[i] := by simp
  refine ⟨bl, h1, fun K => h2 .i64 K, fun j x hx K => ?_, fun j hj y a hy hf K hK => ?_⟩
  · obtain ⟨hj, hx⟩ := List.getElem?_eq_some_iff.1 hx
    rw [ld1_p, h3 j (by rw [e]; exact hj)]
    have : (L.map f)[i][j]'(by rw [e]; exact hj) = x := by rw [← hx]; congr 1
    rw [this]
  · rw [st1_p]
    refine ⟨hy, h4 j hj y hy K fun w' hk hr => hK w' hk ?_⟩
    rw [List.map_set, hf, ← e]
    exact hr
theorem RowsAt.updK {α : Type} {f : α → List Value} {L : List α} {w : World} {v : Value} {k : Nat} {S : List Nat} (h : RowsAt w v k (L.map f) S) {i : Nat} (hi : i < L.length) :
    ∃ bl, S = [bl] ∧ (∀ K, ia k v (.int .i64 i) K = K (.pointer (some ⟨bl, i * k, none⟩))) ∧ (∀ w1, Kp [] w w1 → ∀ j x, (f L[i])[j]? = some x → ∀ K, ld1 (.pointer (some ⟨bl, i * k + j, none⟩)) w1 K = K x) ∧
      ∀ w1, Kp [] w w1 → ∀ j, j < k → ∀ y a, one y = true → f a = (f L[i]).set j y → ∀ K : World → Prop, (∀ w', Kp S w1 w' → RowsAt w' v k ((L.set i a).map f) S → K w') → st1 (.pointer (some ⟨bl, i * k + j, none⟩)) y w1 K := by
  obtain ⟨bl, h1, h2, _, _⟩ := h.updM hi
  refine ⟨bl, h1, h2, fun w1 hk j x hx K => ?_, fun w1 hk j hj y a hy hf K hK => ?_⟩
  · obtain ⟨bl', g1, _, g3, _⟩ := (h.keep hk (by simp)).updM hi
    have : bl' = bl := by rw [h1] at g1; simpa using g1.symm
    subst this
    exact g3 j x hx K
  · obtain ⟨bl', g1, _, _, g4⟩ := (h.keep hk (by simp)).updM hi
    have : bl' = bl := by rw [h1] at g1; simpa using g1.symm
    subst this
    exact g4 j hj y a hy hf K hK
theorem rep_rows {k : Nat} {z : List Value} (hk : 0 < k) (hz : z.length = k) (n : Nat) : rep z.toArray (n * k) = (List.replicate n z).flatten.toArray := by
  apply Array.ext
  · simp [rep, hz]
  · intro i h1 h2
    have hi : i < n * k := by simpa [rep] using h1
    simp only [rep, Array.getElem_map, Array.getElem_range, List.size_toArray, hz]
    have hm : i % k < k := Nat.mod_lt _ hk
    have hd : i / k < n := (Nat.div_lt_iff_lt_mul hk).2 hi
    have hfl : ((List.replicate n z).flatten.drop ((i / k) * k)).take k = z := by
      rw [flat_get (k := k) (by intro x hx; rw [List.mem_replicate] at hx; rw [hx.2, hz]) (by simpa using hd)]
      simp
    have hidx : i / k * k + i % k = i := by rw [Nat.mul_comm]; exact Nat.div_add_mod i k
    have e2 := congrArg (fun l => l[i % k]?) hfl
    simp only [List.getElem?_take_of_lt hm, List.getElem?_drop, hidx] at e2
    have h2' : i < (List.replicate n z).flatten.length := by simpa using h2
    rw [List.getElem?_eq_getElem h2', List.getElem?_eq_getElem (by omega)] at e2
    injection e2 with e2
    rw [List.getElem_toArray, e2]
    simp [hz, hm]
theorem appZ {ts : Array TypeId} {t t1 e ty : TypeId} {k1 : IntKind} {i : TypeInfo} {bl o sl sc n : Nat} {w : World} {c : Array Value} {T : TypeId} {fr : Nat × Nat} (ht : ts[0]? = some t) (hu : P.underlying t = some (.slice e))
    (ht1 : ts[1]? = some t1) (hu1 : P.underlying t1 = some (.int k1)) (hi : P.info? e = some i) (hz : hasZ P e i.size = true) (hb : 0 < i.bytes) (hn : n < 2 ^ 40) (hsl : sl < 2 ^ 40) (hbn : i.bytes < 2 ^ 6) (hlt : sc < sl + n) (hsz : 0 < i.size)
    (hh : w.heap[bl]? = some (.cells c T fr)) (hc : o + sl * i.size ≤ c.size) (hpos : 0 < n) {K : Value → World → Prop} (hsc : (sl + n) < 2 ^ 40)
    (hK : ∀ cap, sl + n ≤ cap → cap < 2 ^ 63 → K (.slice (some ⟨w.heap.size, 0, none⟩) (sl + n) cap) (w.drew.alloc (.cells (c.extract o (o + sl * i.size) ++ rep (zc P e) (n * i.size) ++ rep (zc P e) ((cap - (sl + n)) * i.size)) e))) :
    eG P (Builtin.append_ ts ty #[.slice (some ⟨bl, o, none⟩) sl sc, .int .i64 n]) w K := by
  obtain ⟨z, hzr, hzc, hzs⟩ := hasZ_run hz w.drew
  have hns : szO P e = some i.size := by simp [szO, hi]
  let cap := (sl + n) + w.tape w.drawn (.appendCap (sl + n) sc e) % (2 ^ 63 - (sl + n))
  have hlt2 : w.tape w.drawn (.appendCap (sl + n) sc e) % (2 ^ 63 - (sl + n)) < 2 ^ 63 - (sl + n) := Nat.mod_lt _ (by omega)
  refine ⟨_, _, ?_, hK cap (Nat.le_add_right _ _) (by omega)⟩
  have hch : (choose (.appendCap (sl + n) sc e)).run P w = .ok cap w.drew := rfl
  have hrd : rdN w ⟨bl, o, none⟩ (sl * i.size) (fun cs => cs = c.extract o (o + sl * i.size)) := by rw [rdN_mk, hh]; exact ⟨hc, rfl⟩
  obtain ⟨old, hold, hoe, _⟩ := rdN_run (P := P) hrd
  subst hoe
  have hnx := nextslicecap_le hlt
  have hgt : ¬ Builtin.nextslicecap (sl + n) sc * i.bytes > 2 ^ 48 := by
    have : Builtin.nextslicecap (sl + n) sc * i.bytes ≤ (2 * (sl + n)) * 2 ^ 6 := Nat.mul_le_mul hnx (by omega)
    omega
  have hbz : ¬ i.bytes = 0 := by omega
  have hask : ∀ (b : Nat) (w : World), (askRoom b).run P w = .ok () w := by
    intro b w; unfold askRoom; split <;> simp [mark, Sem.run, pure]
  have hwn : IntKind.i64.wrap (n : Int) = n := wrap64 _ (by omega) (by omega)
  have hn0 : ¬ ((n : Int) < 0) := by omega
  have hnb : ¬ ((n : Int) * (i.bytes : Int) > 2 ^ 48) := by
    have : n * i.bytes ≤ 2 ^ 40 * 2 ^ 6 := Nat.mul_le_mul (by omega) (by omega)
    have h2 : ((n * i.bytes : Nat) : Int) ≤ ((2 ^ 40 * 2 ^ 6 : Nat) : Int) := by exact_mod_cast this
    rw [Int.natCast_mul] at h2
    omega
  have hnz : ¬ (n * i.size = 0) := by rw [Nat.mul_eq_zero]; omega
  have hmax : ¬ (((sl + n : Nat) : Int) > IntKind.i64.max) := by
    have : IntKind.i64.max = 9223372036854775807 := by decide
    rw [this]; omega
  have holdD : (loadCells ⟨bl, o, none⟩ (sl * i.size)).run P w.drew = .ok (c.extract o (o + sl * i.size)) w.drew := hold w.drew rfl
  have has : ∀ w : World, (asInt (.int .i64 (n : Int))).run P w = .ok (n : Int) w := fun _ => rfl
  unfold Builtin.append_
  simp only [ht, ht1, has, List.getElem?_toArray, List.getElem?_cons_zero, List.getElem?_cons_succ, Sem.run_bind, run_underlying hu, run_underlying hu1, Result.andThen_ok, szO_some hns, pure, Sem.run, Int.toNat_natCast,
    if_true, hwn, hn0, if_false, hnb, run_typeInfo w hi, show ¬ (sl + n ≤ sc) from by omega, hmax, false_and, hgt, run_typeInfo w.drew hi, hch, hask, Builtin.firstCells, holdD, Bool.not_true, Bool.false_eq_true, hnz, hzr, hzc, zeroCells_eq hzs, newRow_run]
  rfl
theorem nG_over {f : FuncId} {fn : Func} {tS tR e : TypeId} {n : Nat} (hf : P.funcs[f]? = some fn) (hname : (fn.name == "runtime.NumGoroutine") = false) (hb : fn.body.isNone = true) (hn : Extern.findNext fn = none) (he : Extern.find fn = some (Extern.SlicesOverlaps.overlaps #[tS, tS] #[tR]))
    (hu : P.underlying tS = some (.slice e)) (hz : szO P e = some n) {w : World} {ba oa la ca bb ob lb cb TA TB : Nat} {cA cB : Array Value} (hne : ba ≠ bb) (hA : w.heap[ba]? = some (.cells cA TA (0, 0))) (hB : w.heap[bb]? = some (.cells cB TB (0, 0))) (hcB : cB.size ≠ 0)
    {K : Value → World → Prop} (hK : K (.bool false) w) : nG P (callFunc f #[.slice (some ⟨ba, oa, none⟩) la ca, .slice (some ⟨bb, ob, none⟩) lb cb]) w K := by
  refine ⟨_, w, ?_, hK⟩
  rw [run_callFunc_extern hf hname hb hn he]
  rw [Lib.run_overlaps_apart w tS tR e hu n (fun w => szO_some hz w) ⟨ba, oa, none⟩ ⟨bb, ob, none⟩ la ca lb cb hne TA TB cA.size cB.size (by simp [World.shape?, hA]) (by simp [World.shape?, hB]) hcB (by simp [World.frozen?, hA]) (by simp [World.frozen?, hA])]
  rfl
def insG (P : Program) (I T k bytes ST : Nat) (fO fR : FuncId) (R : Value → World → Prop) (x0 x1 x2 : Value) (w : World) : Prop :=
  slL k x0 (some x1) none fun t12 =>
  lenL x2 fun t14 =>
  qG P (bq .eql I (.tmp 15) (.const (.int .i64 0)) t14 (.int .i64 0)) w fun t16 =>
  bV t16
  (R x0 w)
  (lenL x0 fun t19 =>
  qG P (bq .eql I (.tmp 20) (.tmp 21) x1 t19) w fun t22 =>
  bV t22
  (app T k bytes (zc P T) x0 x2 w fun t25 w =>
  R t25 w)
  (qG P (bq .add I (.tmp 26) (.tmp 27) t19 t14) w fun t28 =>
  qG P (Builtin.cap_ #[ST] I #[x0]) w fun t30 =>
  qG P (bq .gtr I (.tmp 28) (.tmp 30) t28 t30) w fun t31 =>
  bV t31
  (slL k x0 none (some x1) fun t34 =>
  qG P (bq .add I (.tmp 35) (.tmp 36) t19 t14) w fun t37 =>
  qG P (bq .sub I (.tmp 37) (.tmp 38) t37 x1) w fun t39 =>
  eG P (Builtin.append_ #[ST, I] ST #[t34, t39]) w fun t40 w =>
  slL k t40 (some x1) none fun t43 =>
  cp k t43 x2 w fun t45 w =>
  qG P (bq .add I (.tmp 47) (.tmp 48) x1 t14) (World.drew w) fun t49 =>
  slL k t40 (some t49) none fun t50 =>
  slL k x0 (some x1) none fun t53 =>
  cp k t50 t53 (World.drew w) fun t54 w =>
  R t40 w)
  (qG P (bq .add I (.tmp 57) (.tmp 58) t19 t14) w fun t59 =>
  slL k x0 none (some t59) fun t60 =>
  qG P (bq .add I (.tmp 63) (.tmp 64) x1 t14) w fun t65 =>
  slL k t60 (some t65) none fun t66 =>
  nG P (callFunc fO #[x2, t66]) w fun t67 w =>
  qG P (Op.unary .not t67) w fun t68 =>
  bV t68
  (qG P (bq .add I (.tmp 70) (.tmp 71) x1 t14) (World.drew w) fun t72 =>
  slL k t60 (some t72) none fun t73 =>
  slL k t60 (some x1) none fun t76 =>
  cp k t73 t76 (World.drew w) fun t77 w =>
  slL k t60 (some x1) none fun t80 =>
  cp k t80 x2 w fun t82 w =>
  R t60 w)
  (slL k t60 (some t19) none fun t86 =>
  cp k t86 x2 w fun t88 w =>
  slL k t60 (some x1) none fun t91 =>
  callG P fR #[t91, t14] w fun t93 w =>
  R t60 w))))
theorem run_cap {ts : Array TypeId} {t e ty : TypeId} {a : Option Addr} {n c : Nat} {w : World} (ht : ts[0]? = some t) (hu : P.underlying t = some (.slice e)) : (Builtin.cap_ ts ty #[.slice a n c]).run P w = .ok (.int .i64 c) w := by
  unfold Builtin.cap_
  simp only [ht, List.getElem?_toArray, List.getElem?_cons_zero, Sem.run_bind, run_underlying hu, Result.andThen_ok]
  rfl
theorem ins_spec {I T k bytes ST : Nat} {fO fR : FuncId} {i : TypeInfo} {z : List Value} {kd : IntKind} (hI : P.underlying I = some (.int kd)) (hST : P.underlying ST = some (.slice T)) (hi : P.info? T = some i) (hik : i.size = k) (hib : i.bytes = bytes) (hz : hasZ P T k = true) (hzc : zc P T = z.toArray) (hk : 0 < k) (hb : 0 < bytes) (hb6 : bytes < 2 ^ 6)
    (hov : ∀ (w : World) (ba oa la ca bb ob lb cb TA TB : Nat) (cA cB : Array Value), ba ≠ bb → w.heap[ba]? = some (.cells cA TA (0, 0)) → w.heap[bb]? = some (.cells cB TB (0, 0)) → cB.size ≠ 0 → ∀ K : Value → World → Prop, K (.bool false) w → nG P (callFunc fO #[.slice (some ⟨ba, oa, none⟩) la ca, .slice (some ⟨bb, ob, none⟩) lb cb]) w K)
    {w : World} {v x : Value} {rows : List (List Value)} {row : List Value} {S SX : List Nat} (h : RowsAt w v k rows S) (hx : RowsAt w x k [row] SX) (hd : ∀ q ∈ SX, q ∉ S) (hone : rows.flatten.all one = true) (hone1 : row.all one = true) (hl : rows.length < 2 ^ 30) {p : Nat} (hp : p ≤ rows.length)
    {R : Value → World → Prop} (hR : ∀ v' w' S', RowsAt w' v' k (rows.take p ++ [row] ++ rows.drop p) S' → Kp S w w' → (∀ y ∈ S', y ∈ S ∨ w.heap.size ≤ y) → R v' w') : insG P I T k bytes ST fO fR R v (.int .i64 p) x w := by
  have hzk : z.length = k := by
    obtain ⟨_, _, _, h3⟩ := hasZ_run hz w
    rw [hzc] at h3; simpa using h3
  have hrowk : row.length = k := hx.row (by simp)
  obtain ⟨vx, cx, hvx, _⟩ := hx.len
  obtain ⟨va, vc, hva, hvc⟩ := h.len
  have hxs := hx.rd.src
  unfold insG
  by_cases hpe : p = rows.length
  · subst hpe
    have happ : app T k bytes (zc P T) v x w fun t25 w => R t25 w := by
      rw [hzc]
      refine rows_app h hk hzk (G := [row]) (by simpa using hrowk) (by simpa using hone1) hxs ?_ (by simp; omega) fun v' w' S' h' hk' hS' => hR v' w' S' (by simpa using h') hk' hS'
      have : 2 * (rows.length + 1) * bytes ≤ 2 ^ 32 * 2 ^ 6 := Nat.mul_le_mul (by omega) (by omega)
      simpa using Nat.le_trans this (by decide)
    rw [hva, hvx] at happ ⊢
    have h1 : (rows.length : Int) ≤ vc := by omega
    simp [h1]
    exact happ
  · have hplt : p < rows.length := by omega
    rcases h with ⟨h1, h2, h3⟩ | ⟨bl, F, TT, h1, h2, h3, h4, h5, h6⟩
    · rw [h2] at hplt; simp at hplt
    · rcases hx with ⟨_, g2, _⟩ | ⟨xb, FX, TX, g1, g2, g3, g4, g5, g6⟩
      · simp at g2
      · simp only [List.length_cons, List.length_nil] at g1 g5 g6
        have hxbl : xb ≠ bl := by
          have := hd xb (by rw [g2]; simp)
          rw [h2] at this
          simpa using this
        have e1 : IntKind.i64.wrap ((rows.length : Int) + 1) = ((rows.length + 1 : Nat) : Int) := by rw [w64 (by omega) (by omega)]; simp
        have e2 : IntKind.i64.wrap ((p : Int) + 1) = ((p + 1 : Nat) : Int) := by rw [w64 (by omega) (by omega)]; simp
        have e3 : IntKind.i64.wrap (((rows.length + 1 : Nat) : Int) - p) = ((rows.length + 1 - p : Nat) : Int) := by rw [w64 (by omega) (by omega)]; omega
        have hrk : ∀ y ∈ rows, y.length = k := fun y hy => by rw [← h5] at hy; exact h4 y (List.mem_of_mem_take hy)
        have hFp : (F.drop p).take (rows.length - p) = rows.drop p := by rw [← h5, List.drop_take, h5]; 
        have hFt : F.take p = rows.take p := by
          have e := congrArg (List.take p) h5
          rw [List.take_take, Nat.min_eq_left (by omega)] at e
          exact e
        have hXr : (FX.drop 0).take 1 = [row] := by simpa using g5
        have honed : (rows.drop p).flatten.all one = true := by
          rw [List.all_eq_true] at hone ⊢
          intro y hy
          obtain ⟨r, hr, hyr⟩ := List.mem_flatten.1 hy
          exact hone y (List.mem_flatten.2 ⟨r, List.mem_of_mem_drop hr, hyr⟩)
        have nn : Nat.min 1 (rows.length + 1 - p) = 1 := Nat.min_eq_left (by omega)
        have nm : Nat.min (rows.length - p) (rows.length - p) = rows.length - p := Nat.min_self _
        have nm2 : Nat.min (rows.length + 1 - p) (rows.length - p) = rows.length - p := Nat.min_eq_right (by omega)
        subst h1; subst g1
        have hpF : p < F.length := by omega
        have c1 : (p : Int) ≤ F.length := by omega
        have c2 : ¬ ((p : Int) = rows.length) := by omega
        have c3 : (p : Int) ≤ rows.length := by omega
        have c4 : ¬ (F.length = p) := by omega
        have hpn : rows.length + 1 - p = rows.length - p + 1 := by omega
        by_cases hroom : rows.length + 1 ≤ F.length
        · have c5 : ¬ ((F.length : Int) < ((rows.length + 1 : Nat) : Int)) := by omega
          have c6 : ((rows.length + 1 : Nat) : Int) ≤ F.length := by omega
          have c7 : ¬ (F.length = p + 1) := by omega
          have c8 : ((p + 1 : Nat) : Int) ≤ ((rows.length + 1 : Nat) : Int) := by omega
          have hne : F.flatten.toArray.size ≠ 0 := by
            have := flat_len h4
            have h0 : 0 < F.length * k := Nat.mul_pos (by omega) hk
            simp only [List.size_toArray]
            omega
          simp [c1, c2, c3, c4, e1, e2, e3, c5, c6, c7, c8, qG_of (run_cap (ts := #[ST]) (ty := I) rfl hST), -List.length_flatten]
          refine ⟨by omega, fun hh => by omega, fun _ => ⟨⟨by omega, by omega⟩, by omega, ?_⟩⟩
          refine hov w xb 0 1 FX.length bl ((p + 1) * k) _ _ _ _ _ _ hxbl g3 h3 hne _ ?_
          simp
          refine ⟨by omega, by omega, ?_⟩
          have k1 : (F.drop p).take (Nat.min (rows.length + 1 - p) (rows.length - p)) = rows.drop p := by rw [nm2, hFp]
          rw [cp_rows (w := w.drew) h3 h4 h3 h4 (by rw [nm2]; omega) (by rw [nm2]; omega) (by rw [k1]; exact honed), k1]
          have k2 : p + 1 + Nat.min (rows.length + 1 - p) (rows.length - p) = rows.length + 1 := by rw [nm2]; omega
          rw [k2]
          obtain ⟨F2, hF2⟩ : ∃ F2, F2 = F.take (p + 1) ++ rows.drop p ++ F.drop (rows.length + 1) := ⟨_, rfl⟩
          rw [← hF2]
          obtain ⟨w2, hw2⟩ : ∃ w2, w2 = setBlk w.drew bl (.cells F2.flatten.toArray TT) := ⟨_, rfl⟩
          have q1 : w2.heap[bl]? = some (.cells F2.flatten.toArray TT (0, 0)) := by rw [hw2]; exact heap_self (live_of h3)
          have q2 : w2.heap[xb]? = some (.cells FX.flatten.toArray TX (0, 0)) := by rw [hw2, heap_ne (by omega)]; exact g3
          have k21 : Kp S w w2 := by rw [hw2]; exact (Kp.refl _ w).drew.setBlk (.inl (by rw [h2]; simp)) _
          have hF2k : ∀ y ∈ F2, y.length = k := by
            intro y hy
            rw [hF2, List.mem_append, List.mem_append] at hy
            rcases hy with (hy | hy) | hy
            · exact h4 y (List.mem_of_mem_take hy)
            · exact hrk y (List.mem_of_mem_drop hy)
            · exact h4 y (List.mem_of_mem_drop hy)
          have hF2l : F2.length = F.length := by rw [hF2]; simp; omega
          have hF2t : F2.take p = rows.take p := by
            rw [hF2, List.append_assoc, List.take_append_of_le_length (by simp; omega), List.take_take, Nat.min_eq_left (by omega), hFt]
          have hF2d : F2.drop (p + 1) = rows.drop p ++ F.drop (rows.length + 1) := by
            rw [hF2, List.append_assoc]
            exact List.drop_left' (by simp; omega)
          rw [← hw2]
          refine ⟨by omega, ?_⟩
          have z0 : (⟨xb, 0, none⟩ : Addr) = ⟨xb, 0 * k, none⟩ := by simp
          have k3 : (FX.drop 0).take (Nat.min 1 (rows.length + 1 - p)) = [row] := by rw [nn]; exact hXr
          rw [z0, cp_rows (w := w2) q1 hF2k q2 g4 (by rw [nn]; omega) (by rw [nn]; omega) (by rw [k3]; simpa using hone1), k3, nn, hF2t, hF2d]
          refine hR _ _ [bl] (.inr ⟨bl, rows.take p ++ [row] ++ (rows.drop p ++ F.drop (rows.length + 1)), TT, ?_, rfl, heap_self (live_of q1), ?_, ?_, ?_⟩) (k21.setBlk (.inl (by rw [h2]; simp)) _) (fun y hy => .inl (by rw [h2]; exact hy))
          · congr 1
            · simp; omega
            · simp; omega
          · intro y hy
            rw [List.mem_append, List.mem_append, List.mem_append] at hy
            rcases hy with (hy | hy) | hy | hy
            · exact hrk y (List.mem_of_mem_take hy)
            · rw [List.mem_singleton] at hy; rw [hy]; exact hrowk
            · exact hrk y (List.mem_of_mem_drop hy)
            · exact h4 y (List.mem_of_mem_drop hy)
          · rw [← List.append_assoc]
            exact List.take_left' rfl
          · simp
        · have c5 : ((F.length : Int) < ((rows.length + 1 : Nat) : Int)) := by omega
          have c8 : ((p + 1 : Nat) : Int) ≤ ((rows.length + 1 : Nat) : Int) := by omega
          have e3' : IntKind.i64.wrap ((rows.length : Int) + 1 - p) = ((rows.length + 1 - p : Nat) : Int) := by rw [w64 (by omega) (by omega)]; omega
          simp [c1, c2, c3, c4, e1, e2, e3, e3', c5, qG_of (run_cap (ts := #[ST]) (ty := I) rfl hST), -List.length_flatten]
          refine ⟨by omega, fun _ => ?_, fun hh => by omega⟩
          subst hik; subst hib
          refine appZ (t := ST) (e := T) (t1 := I) rfl hST rfl hI hi hz hb (by omega) (by omega) hb6 (by omega) hk h3 ?_ (by omega) (by omega) fun cap hcap hcap2 => ?_
          · have := flat_len h4
            have h0 : p * i.size ≤ F.length * i.size := Nat.mul_le_mul_right _ (by omega)
            simp only [List.size_toArray]
            omega
          have hpn2 : p + (rows.length + 1 - p) = rows.length + 1 := by omega
          rw [hpn2] at hcap ⊢
          have c9 : ¬ (cap = p) := by omega
          have c10 : ¬ (cap = p + 1) := by omega
          have hzl : ∀ m, rep (zc P T) (m * i.size) = (List.replicate m z).flatten.toArray := fun m => by rw [hzc]; exact rep_rows hk hzk m
          have hfe : F.flatten.toArray.extract 0 (0 + p * i.size) = (rows.take p).flatten.toArray := by
            rw [extract_list, List.drop_zero, flat_take p h4, hFt]
          rw [hzl, hzl, hfe]
          obtain ⟨F1, hF1⟩ : ∃ F1, F1 = rows.take p ++ List.replicate (rows.length + 1 - p) z ++ List.replicate (cap - (rows.length + 1)) z := ⟨_, rfl⟩
          have hfl : (rows.take p).flatten.toArray ++ (List.replicate (rows.length + 1 - p) z).flatten.toArray ++ (List.replicate (cap - (rows.length + 1)) z).flatten.toArray = F1.flatten.toArray := by
            rw [hF1]; apply Array.toList_inj.1; simp only [Array.toList_append, List.flatten_append]
          rw [hfl]
          obtain ⟨nb, hnb⟩ : ∃ nb, nb = w.heap.size := ⟨_, rfl⟩
          obtain ⟨w1, hw1⟩ : ∃ w1, w1 = w.drew.alloc (.cells F1.flatten.toArray T) := ⟨_, rfl⟩
          have q1 : w1.heap[nb]? = some (.cells F1.flatten.toArray T (0, 0)) := by rw [hw1, hnb]; exact heap_new
          have q2 : w1.heap[xb]? = some (.cells FX.flatten.toArray TX (0, 0)) := by rw [hw1, heap_old (by exact live_of g3)]; exact g3
          have q3 : w1.heap[bl]? = some (.cells F.flatten.toArray TT (0, 0)) := by rw [hw1, heap_old (by exact live_of h3)]; exact h3
          have k1 : Kp S w w1 := by rw [hw1]; exact (Kp.refl _ w).drew.alloc _
          rw [← hw1, ← hnb]
          have hxl := lt_of_blk g3
          have hbll := lt_of_blk h3
          have hF1k : ∀ y ∈ F1, y.length = i.size := by
            intro y hy
            rw [hF1, List.mem_append, List.mem_append] at hy
            rcases hy with (hy | hy) | hy
            · exact hrk y (List.mem_of_mem_take hy)
            · rw [List.mem_replicate] at hy; rw [hy.2, hzk]
            · rw [List.mem_replicate] at hy; rw [hy.2, hzk]
          have hF1l : F1.length = cap := by rw [hF1]; simp; omega
          have hF1t : F1.take p = rows.take p := by
            rw [hF1, List.append_assoc]; exact List.take_left' (by simp; omega)
          simp [c9, c10]
          refine ⟨by omega, ?_⟩
          have z0 : (⟨xb, 0, none⟩ : Addr) = ⟨xb, 0 * i.size, none⟩ := by simp
          have k3 : (FX.drop 0).take (Nat.min 1 (rows.length + 1 - p)) = [row] := by rw [nn]; exact hXr
          rw [z0, cp_rows (w := w1) q1 hF1k q2 g4 (by rw [nn]; omega) (by rw [nn]; omega) (by rw [k3]; simpa using hone1), k3, nn, hF1t]
          obtain ⟨F2, hF2⟩ : ∃ F2, F2 = rows.take p ++ [row] ++ F1.drop (p + 1) := ⟨_, rfl⟩
          obtain ⟨w2, hw2⟩ : ∃ w2, w2 = setBlk w1 nb (.cells F2.flatten.toArray T) := ⟨_, rfl⟩
          have r1 : w2.heap[nb]? = some (.cells F2.flatten.toArray T (0, 0)) := by rw [hw2]; exact heap_self (live_of q1)
          have r3 : w2.heap[bl]? = some (.cells F.flatten.toArray TT (0, 0)) := by rw [hw2, heap_ne (by omega)]; exact q3
          have k2 : Kp S w w2 := by rw [hw2]; exact k1.setBlk (.inr (by omega)) _
          rw [← hF2, ← hw2]
          have hF2k : ∀ y ∈ F2, y.length = i.size := by
            intro y hy
            rw [hF2, List.mem_append, List.mem_append] at hy
            rcases hy with (hy | hy) | hy
            · exact hrk y (List.mem_of_mem_take hy)
            · rw [List.mem_singleton] at hy; rw [hy]; exact hrowk
            · exact hF1k y (List.mem_of_mem_drop hy)
          have hF2l : F2.length = cap := by rw [hF2]; simp; omega
          have hF2t : F2.take (p + 1) = rows.take p ++ [row] := by
            rw [hF2]; exact List.take_left' (by simp; omega)
          have c11 : (p : Int) + 1 ≤ (rows.length : Int) + 1 := by omega
          refine ⟨by omega, by omega, ?_⟩
          have k4 : (F.drop p).take (Nat.min (rows.length - p) (rows.length - p)) = rows.drop p := by rw [nm, hFp]
          rw [cp_rows (w := w2.drew) r1 hF2k r3 h4 (by rw [nm]; omega) (by rw [nm]; omega) (by rw [k4]; exact honed), k4, hF2t, nm]
          refine hR _ _ [nb] (.inr ⟨nb, rows.take p ++ [row] ++ rows.drop p ++ F2.drop (p + 1 + (rows.length - p)), T, ?_, rfl, heap_self (live_of r1), ?_, ?_, ?_⟩) (k2.drew.setBlk (.inr (by omega)) _) (fun y hy => by simp at hy; omega)
          · congr 1
            · simp; omega
            · simp; omega
          · intro y hy
            rw [List.mem_append, List.mem_append, List.mem_append] at hy
            rcases hy with ((hy | hy) | hy) | hy
            · exact hrk y (List.mem_of_mem_take hy)
            · rw [List.mem_singleton] at hy; rw [hy]; exact hrowk
            · exact hrk y (List.mem_of_mem_drop hy)
            · exact hF2k y (List.mem_of_mem_drop hy)
          · exact List.take_left' rfl
          · simp
end Go.Q

set_option linter.unusedVariables false
set_option linter.unusedSimpArgs false
namespace Go.Q
theorem ldF {w : World} {b j : Nat} {c : Array Value} {T : TypeId} {fr : Nat × Nat} {x : Value} (h : w.heap[b]? = some (.cells c T fr)) (hx : c[j]? = some x) {K : Value → Prop} : ld1 (.pointer (some ⟨b, j, none⟩)) w K = K x := by
  rw [ld1_p, rd1_mk, h]
  simp only [hx]
theorem stF {w : World} {b j : Nat} {c : Array Value} {T : TypeId} {x : Value} (h : w.heap[b]? = some (.cells c T (0, 0))) (hj : j < c.size) (hx : one x = true) {K : World → Prop} : st1 (.pointer (some ⟨b, j, none⟩)) x w K = K (setBlk w b (.cells (c.setIfInBounds j x) T)) := by
  rw [st1_p, wr1_mk, h]
  apply propext
  constructor
  · rintro ⟨_, _, hk⟩; exact hk
  · intro hk
    exact ⟨hx, ⟨hj, by rw [okFr0]; trivial⟩, hk⟩
structure Cmp where
  v : Value
  k : Nat
  rows : List (List Value)
  S : List Nat
def blksC (cs : List Cmp) : List Nat := (cs.map (·.S)).flatten
structure BoxAt (w : World) (x : Nat) (T : Nat) (cs : List Cmp) (tl : List Value) : Prop where
  cell : w.heap[x]? = some (.cells (cs.map (·.v) ++ tl).toArray T)
  rows : ∀ i (h : i < cs.length), RowsAt w cs[i].v cs[i].k cs[i].rows cs[i].S
  nd : (x :: blksC cs).Nodup
section
variable {w w' : World} {x T : Nat} {cs : List Cmp} {tl : List Value}
theorem blksC_mem {i : Nat} (hi : i < cs.length) {q : Nat} (hq : q ∈ cs[i].S) : q ∈ blksC cs := List.mem_flatten.2 ⟨_, List.mem_map.2 ⟨_, List.getElem_mem hi, rfl⟩, hq⟩
theorem blksC_set {i : Nat} {c : Cmp} {q : Nat} (h : q ∈ blksC (cs.set i c)) : q ∈ c.S ∨ ∃ j, ∃ hj : j < cs.length, j ≠ i ∧ q ∈ cs[j].S := by
  obtain ⟨r, hr, hq⟩ := List.mem_flatten.1 h
  obtain ⟨d, hd, rfl⟩ := List.mem_map.1 hr
  obtain ⟨j, hj, rfl⟩ := List.getElem_of_mem hd
  simp only [List.length_set] at hj
  by_cases he : i = j
  · subst he
    rw [List.getElem_set_self] at hq
    exact .inl hq
  · rw [List.getElem_set_ne he] at hq
    exact .inr ⟨j, hj, fun h => he h.symm, hq⟩
theorem nodup_flat {L : List (List Nat)} : L.flatten.Nodup ↔ (∀ l ∈ L, l.Nodup) ∧ L.Pairwise fun a b => ∀ x ∈ a, ∀ y ∈ b, x ≠ y := List.pairwise_flatten
theorem BoxAt.apart (h : BoxAt w x T cs tl) {i j : Nat} (hi : i < cs.length) (hj : j < cs.length) (hne : i ≠ j) {q : Nat} (hq : q ∈ cs[i].S) : q ∉ cs[j].S := by
  have h1 := (List.nodup_cons.1 h.nd).2
  have h2 := (nodup_flat.1 h1).2
  rw [List.pairwise_map] at h2
  intro hq'
  rcases Nat.lt_or_gt_of_ne hne with hlt | hlt
  · exact (List.pairwise_iff_getElem.1 h2 i j hi hj hlt) q hq q hq' rfl
  · exact (List.pairwise_iff_getElem.1 h2 j i hj hi hlt) q hq' q hq rfl
theorem BoxAt.x_not (h : BoxAt w x T cs tl) {i : Nat} (hi : i < cs.length) : x ∉ cs[i].S := fun hq => (List.nodup_cons.1 h.nd).1 (blksC_mem hi hq)
theorem BoxAt.lt (h : BoxAt w x T cs tl) : ∀ q ∈ x :: blksC cs, q < w.heap.size := by
  intro q hq
  rcases List.mem_cons.1 hq with rfl | hq
  · exact lt_of_blk h.cell
  · obtain ⟨r, hr, hq⟩ := List.mem_flatten.1 hq
    obtain ⟨d, hd, rfl⟩ := List.mem_map.1 hr
    obtain ⟨j, hj, rfl⟩ := List.getElem_of_mem hd
    exact (h.rows j hj).lt q hq
theorem BoxAt.keepS {S : List Nat} (h : BoxAt w x T cs tl) (hk : Kp S w w') (hS : ∀ q ∈ x :: blksC cs, q ∉ S) : BoxAt w' x T cs tl :=
  ⟨hk.get h.cell (hS x (by simp)), fun i hi => (h.rows i hi).keep hk fun q hq => hS q (by simp [blksC_mem hi hq]), h.nd⟩
theorem BoxAt.keep (h : BoxAt w x T cs tl) (hk : Kp [] w w') : BoxAt w' x T cs tl := h.keepS hk (by simp)
theorem BoxAt.ld (h : BoxAt w x T cs tl) {n : Nat} (hn : n = cs.length + tl.length) {K : Value → Prop} : ldn n (.pointer (some ⟨x, 0, none⟩)) w K = K (.agg (cs.map (·.v) ++ tl).toArray) := by
  have hs : ((cs.map (·.v) ++ tl).toArray).size = n := by simp [hn]
  rw [ldn_p, rdN_mk, h.cell]
  subst hs
  simp only [Nat.zero_add, Nat.le_refl, true_and, Array.extract_size]
theorem BoxAt.rd (h : BoxAt w x T cs tl) {i : Nat} (hi : i < cs.length) {w1 : World} (hk : Kp cs[i].S w w1) {K : Value → Prop} : ld1 (.pointer (some ⟨x, i, none⟩)) w1 K = K cs[i].v := by
  have hc : ((cs.map (·.v) ++ tl).toArray)[i]? = some cs[i].v := by
    rw [List.getElem?_toArray, List.getElem?_append_left (by simpa using hi)]; simp [hi]
  rw [ld1_p, rd1_mk, hk.get h.cell (h.x_not hi)]
  simp only [hc]
theorem blksC_same {i : Nat} (hi : i < cs.length) {c : Cmp} (hS : c.S = cs[i].S) : blksC (cs.set i c) = blksC cs := by
  unfold blksC
  congr 1
  rw [List.map_set, hS]
  apply List.ext_getElem
  · simp
  · intro j h1 h2
    by_cases he : i = j
    · subst he; simp
    · simp [List.getElem_set_ne he]
theorem map_v_same {i : Nat} (hi : i < cs.length) {c : Cmp} (hv : c.v = cs[i].v) : (cs.set i c).map (·.v) = cs.map (·.v) := by
  rw [List.map_set, hv]
  apply List.ext_getElem
  · simp
  · intro j h1 h2
    by_cases he : i = j
    · subst he; simp
    · simp [List.getElem_set_ne he]
theorem BoxAt.inplace (h : BoxAt w x T cs tl) {i : Nat} (hi : i < cs.length) {w1 : World} (hk : Kp cs[i].S w w1) {rows' : List (List Value)} (hr : RowsAt w1 cs[i].v cs[i].k rows' cs[i].S) :
    BoxAt w1 x T (cs.set i ⟨cs[i].v, cs[i].k, rows', cs[i].S⟩) tl ∧ blksC (cs.set i ⟨cs[i].v, cs[i].k, rows', cs[i].S⟩) = blksC cs := by
  have e1 := blksC_same hi (c := ⟨cs[i].v, cs[i].k, rows', cs[i].S⟩) rfl
  refine ⟨⟨?_, fun j hj => ?_, by rw [e1]; exact h.nd⟩, e1⟩
  · rw [map_v_same hi (c := ⟨cs[i].v, cs[i].k, rows', cs[i].S⟩) rfl]
    exact hk.get h.cell (h.x_not hi)
  · simp only [List.length_set] at hj
    by_cases he : i = j
    · subst he; rw [List.getElem_set_self]; exact hr
    · rw [List.getElem_set_ne he]
      exact (h.rows j hj).keep hk fun q hq => h.apart hj hi (fun e => he e.symm) hq
theorem BoxAt.store (h : BoxAt w x T cs tl) {i : Nat} (hi : i < cs.length) {w1 : World} (hk : Kp cs[i].S w w1) {v' : Value} {rows' : List (List Value)} {S' : List Nat} (hr : RowsAt w1 v' cs[i].k rows' S') (hS : ∀ q ∈ S', q ∈ cs[i].S ∨ w.heap.size ≤ q) {K : World → Prop}
    (hK : ∀ w2, BoxAt w2 x T (cs.set i ⟨v', cs[i].k, rows', S'⟩) tl → Kp (x :: cs[i].S) w w2 → Kp [x] w1 w2 → (∀ q ∈ blksC (cs.set i ⟨v', cs[i].k, rows', S'⟩), q ∈ blksC cs ∨ w.heap.size ≤ q) → K w2) : st1 (.pointer (some ⟨x, i, none⟩)) v' w1 K := by
  have hlt := h.lt
  have g1 := hk.get h.cell (h.x_not hi)
  have l1 := live_of g1
  have hone : one v' = true := by obtain ⟨a, c, hv, _⟩ := hr.len; rw [hv]; rfl
  have k1 : ∀ o, Kp [x] w1 (setBlk w1 x o) := fun o => (Kp.refl _ _).setBlk (.inl (by simp)) o
  have k2 : ∀ o, Kp (x :: cs[i].S) w (setBlk w1 x o) := fun o => (hk.mono (fun q hq _ => by simp [hq])).setBlk (.inl (by simp)) o
  have hx' : x ∉ S' := fun hh => by
    rcases hS x hh with hh | hh
    · exact h.x_not hi hh
    · have := hlt x (by simp); omega
  have hnot : ∀ j (hj : j < cs.length), j ≠ i → ∀ q ∈ cs[j].S, q ∉ x :: cs[i].S := fun j hj hne q hq hh => by
    rcases List.mem_cons.1 hh with rfl | hh
    · exact h.x_not hj hq
    · exact h.apart hj hi hne hq hh
  have hdis : ∀ j (hj : j < cs.length), j ≠ i → ∀ q ∈ cs[j].S, q ∉ S' := fun j hj hne q hq hh => by
    rcases hS q hh with hh | hh
    · exact h.apart hj hi hne hq hh
    · have := hlt q (by simp [blksC_mem hj hq]); omega
  have hin : ∀ q ∈ blksC (cs.set i ⟨v', cs[i].k, rows', S'⟩), q ∈ S' ∨ q ∈ blksC cs := fun q hq => by
    rcases blksC_set hq with hq | ⟨j, hj, _, hq⟩
    · exact .inl hq
    · exact .inr (blksC_mem hj hq)
  rw [st1_p, wr1_mk, g1]
  refine ⟨hone, ⟨by simp; omega, by rw [okFr0]; trivial⟩, ?_⟩
  have hc : (cs.map (·.v) ++ tl).toArray.setIfInBounds i v' = ((cs.set i ⟨v', cs[i].k, rows', S'⟩).map (·.v) ++ tl).toArray := by
    rw [List.map_set]
    simp [List.set_append_left, hi]
  rw [hc]
  refine hK _ ⟨heap_self l1, fun j hj => ?_, ?_⟩ (k2 _) (k1 _) fun q hq => ?_
  · simp only [List.length_set] at hj
    by_cases he : i = j
    · subst he; rw [List.getElem_set_self]; exact hr.keep (k1 _) fun q hq => by simp; intro e; exact hx' (e ▸ hq)
    · rw [List.getElem_set_ne he]
      exact (h.rows j hj).keep (k2 _) fun q hq => hnot j hj (fun e => he e.symm) q hq
  · refine List.nodup_cons.2 ⟨fun hq => ?_, ?_⟩
    · rcases hin x hq with hq | hq
      · exact hx' hq
      · exact (List.nodup_cons.1 h.nd).1 hq
    · have h1 := (List.nodup_cons.1 h.nd).2
      obtain ⟨h2, h3⟩ := nodup_flat.1 h1
      refine nodup_flat.2 ⟨fun r hr' => ?_, ?_⟩
      · obtain ⟨d, hd, rfl⟩ := List.mem_map.1 hr'
        rcases List.mem_or_eq_of_mem_set hd with hd | rfl
        · exact h2 _ (List.mem_map.2 ⟨d, hd, rfl⟩)
        · exact hr.nodup
      · rw [List.pairwise_map] at h3 ⊢
        rw [List.pairwise_iff_getElem] at h3 ⊢
        intro a b ha hb hab
        simp only [List.length_set] at ha hb
        by_cases ea : i = a
        · subst ea
          rw [List.getElem_set_self, List.getElem_set_ne (by omega)]
          exact fun q hq q' hq' he => hdis b hb (by omega) q (he ▸ hq') hq
        · by_cases eb : i = b
          · subst eb
            rw [List.getElem_set_self, List.getElem_set_ne ea]
            exact fun q hq q' hq' he => hdis a ha (by omega) q hq (he ▸ hq')
          · rw [List.getElem_set_ne ea, List.getElem_set_ne eb]
            exact h3 a b ha hb hab
  · rcases hin q hq with hq | hq
    · rcases hS q hq with hq | hq
      · exact .inl (blksC_mem hi hq)
      · exact .inr hq
    · exact .inl hq
end
end Go.Q

set_option linter.unusedVariables false
set_option linter.unusedSimpArgs false
namespace Go.Q
open Go
end Go.Q

set_option linter.unusedVariables false
set_option linter.unusedSimpArgs false
namespace Go.Q
open Go
def turnS (st : List SV) (sku loc : List UInt8) (n m : Int) : List SV := putS st { findS st sku loc with hand := w64i ((findS st sku loc).hand + n), held := w64i ((findS st sku loc).held + m) }
def turnL (l : LV) (sku loc : List UInt8) (n m : Int) : LV := { l with st := turnS l.st sku loc n m }
def moveW (l : LV) (sku loc : List UInt8) (n m kind hold : Int) : LV := { turnL l sku loc n m with mo := l.mo ++ [⟨(l.mo.length + 1 : Nat), sku, loc, n, kind, hold⟩] }
def overW (l : LV) (o : OpV) : LV × Int :=
  if o.id > l.ho.length ∨ (holdAt l o.id).st ≠ 0 then (l, 71)
  else
    let h := holdAt l o.id
    if o.k = 4 then (turnL (stateL l (o.id - 1).toNat 2) h.sku h.loc 0 (w64i (-h.q)), 0) else (moveW (stateL l (o.id - 1).toNat 1) h.sku h.loc (w64i (-h.q)) (w64i (-h.q)) o.k h.id, 0)
theorem put_idx {st : List SV} (hs : Sorted st) {sku loc : List UInt8} {k : Nat} (hk : k ≤ st.length) (h1 : ∀ j (hj : j < st.length), j < k → ahead st[j] ⟨sku, loc, 0, 0⟩ = true) (h2 : ∀ j (hj : j < st.length), k ≤ j → ahead st[j] ⟨sku, loc, 0, 0⟩ = false) :
    ((st.any fun s => atP s sku loc) = true → ∃ h : k < st.length, findS st sku loc = st[k] ∧ ∀ s : SV, s.sku = sku → s.loc = loc → putS st s = st.set k s) ∧
    ((st.any fun s => atP s sku loc) = false → findS st sku loc = ⟨sku, loc, 0, 0⟩ ∧ ∀ s : SV, s.sku = sku → s.loc = loc → putS st s = st.take k ++ [s] ++ st.drop k) := by
  induction st generalizing k with
  | nil =>
    refine ⟨fun h => by simp at h, fun _ => ⟨rfl, fun s _ _ => by simp [putS]⟩⟩
  | cons y r ih =>
    have hr := List.pairwise_cons.1 hs
    cases k with
    | zero =>
      have hy := h2 0 (by simp) (Nat.le_refl _)
      simp only [List.getElem_cons_zero] at hy
      have hno : ∀ x ∈ r, ¬ (x.sku = sku ∧ x.loc = loc) := fun x hx hk => by
        have := hr.1 x hx
        rw [ahead_key (b' := ⟨sku, loc, 0, 0⟩) rfl rfl hk.1 hk.2, hy] at this
        cases this
      by_cases hk : y.sku = sku ∧ y.loc = loc
      · refine ⟨fun _ => ⟨by simp, ?_, fun s e1 e2 => ?_⟩, fun h => ?_⟩
        · simp [findS, atP, hk]
        · have : ahead y s = false := by rw [ahead_key (b' := ⟨sku, loc, 0, 0⟩) rfl rfl e1 e2]; exact hy
          simp [putS, this, hk, e1, e2]
        · simp [atP, hk] at h
      · refine ⟨fun h => ?_, fun _ => ⟨?_, fun s e1 e2 => ?_⟩⟩
        · simp only [List.any_cons, Bool.or_eq_true, atP, decide_eq_true_eq, List.any_eq_true] at h
          rcases h with h | ⟨x, hx, h⟩
          · exact absurd h hk
          · exact absurd h (hno x hx)
        · exact findS_none fun x hx => by
            rcases List.mem_cons.1 hx with rfl | hx
            · exact hk
            · exact hno x hx
        · have : ahead y s = false := by rw [ahead_key (b' := ⟨sku, loc, 0, 0⟩) rfl rfl e1 e2]; exact hy
          have hk' : ¬ (y.sku = s.sku ∧ y.loc = s.loc) := by rw [e1, e2]; exact hk
          simp [putS, this, hk']
    | succ k =>
      have hy := h1 0 (by simp) (by omega)
      simp only [List.getElem_cons_zero] at hy
      have hk' : ¬ (y.sku = sku ∧ y.loc = loc) := fun hk => by
        rw [ahead_key (a' := ⟨sku, loc, 0, 0⟩) (b' := ⟨sku, loc, 0, 0⟩) hk.1 hk.2 rfl rfl, ahead_irrefl] at hy
        cases hy
      obtain ⟨g1, g2⟩ := ih hr.2 (k := k) (by simpa using hk) (fun j hj hjk => by have := h1 (j + 1) (by simpa using hj) (by omega); simpa using this) (fun j hj hjk => by have := h2 (j + 1) (by simpa using hj) (by omega); simpa using this)
      have ea : atP y sku loc = false := by unfold atP; exact decide_eq_false hk'
      have ef : findS (y :: r) sku loc = findS r sku loc := by unfold findS; rw [List.find?_cons_of_neg (by simp [ea])]
      have ey : ∀ s : SV, s.sku = sku → s.loc = loc → ahead y s = true := fun s e1 e2 => by rw [ahead_key (b' := ⟨sku, loc, 0, 0⟩) rfl rfl e1 e2]; exact hy
      simp only [List.any_cons, ea, Bool.false_or]
      refine ⟨fun h => ?_, fun h => ?_⟩
      · obtain ⟨hl, e1, e2⟩ := g1 h
        refine ⟨by simpa using hl, by rw [ef, e1]; rfl, fun s a b => ?_⟩
        unfold putS
        rw [if_pos (ey s a b), e2 s a b]; rfl
      · obtain ⟨e1, e2⟩ := g2 h
        refine ⟨by rw [ef, e1], fun s a b => ?_⟩
        unfold putS
        rw [if_pos (ey s a b), e2 s a b]; simp
def FitS (st : List SV) : Prop := ∀ sku loc, fits (findS st sku loc).hand = true ∧ fits (findS st sku loc).held = true
theorem fits_w (x : Int) : fits (w64i x) = true := by
  rw [fits_iff]
  unfold w64i
  simp [IntKind.wrap, IntKind.bits, IntKind.signed]
  omega
theorem w64_self {x : Int} (h : fits x = true) : w64i (x + 0) = x := by rw [Int.add_zero]; exact w64i_eq h
theorem fitS_put {st : List SV} (hs : Sorted st) (h : FitS st) {s : SV} (h1 : fits s.hand = true) (h2 : fits s.held = true) : FitS (putS st s) := by
  intro sku loc
  rw [findS_put hs]
  split
  · exact ⟨h1, h2⟩
  · exact h sku loc
theorem turn_fit {st : List SV} (hs : Sorted st) (h : FitS st) (sku loc : List UInt8) (n m : Int) : FitS (turnS st sku loc n m) ∧ Sorted (turnS st sku loc n m) := ⟨fitS_put hs h (fits_w _) (fits_w _), putS_sorted hs⟩
theorem Good.fitS {l : LV} (h : Good l) : FitS l.st := by
  intro sku loc
  obtain ⟨g1, g2, g3, g4, g5⟩ := h.f.find sku loc
  have := fits_iff.1 g5
  exact ⟨g5, fits_iff.2 (by omega)⟩
theorem held_turn {l : LV} (h : FitS l.st) (sku loc : List UInt8) (m : Int) : turnL l sku loc 0 m = heldL l sku loc m := by
  unfold turnL turnS heldL
  rw [w64_self (h sku loc).1]
theorem moved_turn {l : LV} (h : FitS l.st) (sku loc : List UInt8) (n kind hold : Int) : moveW l sku loc n 0 kind hold = movedL l sku loc n kind hold := by
  unfold moveW turnL turnS movedL
  rw [w64_self (h sku loc).2]
theorem overW_eq {l : LV} (hs : Sorted l.st) (h : FitS l.st) (o : OpV) : overW l o = overL l o := by
  unfold overW overL
  split
  · rfl
  · simp only
    split
    · have : turnL (stateL l (o.id - 1).toNat 2) (holdAt l o.id).sku (holdAt l o.id).loc 0 (w64i (-(holdAt l o.id).q)) = heldL (stateL l (o.id - 1).toNat 2) (holdAt l o.id).sku (holdAt l o.id).loc (w64i (-(holdAt l o.id).q)) := held_turn (l := stateL l (o.id - 1).toNat 2) h _ _ _
      rw [this]; rfl
    · have hf : ∀ s : SV, (findS l.st s.sku s.loc).sku = s.sku ∧ (findS l.st s.sku s.loc).loc = s.loc := fun s => findS_key _ _ _
      obtain ⟨k1, k2⟩ := findS_key l.st (holdAt l o.id).sku (holdAt l o.id).loc
      have e1 : (heldL l (holdAt l o.id).sku (holdAt l o.id).loc (w64i (-(holdAt l o.id).q))).st = putS l.st { findS l.st (holdAt l o.id).sku (holdAt l o.id).loc with held := w64i ((findS l.st (holdAt l o.id).sku (holdAt l o.id).loc).held + w64i (-(holdAt l o.id).q)) } := rfl
      unfold movedL
      simp only [stateL, e1, findS_put hs, k1, k2, and_self, if_true]
      rw [putS_put (by exact ⟨rfl, rfl⟩)]
      simp only [moveW, turnL, turnS, k1, k2, heldL]
def doesW (l : LV) (o : OpV) : LV × Int :=
  if o.k = 1 ∨ o.k = 7 then
    (if (moreL l o.sku o.loc o.q).2 ≠ 0 then (l, (moreL l o.sku o.loc o.q).2)
     else if (moreL l o.sku o.loc o.q).1 < (findS l.st o.sku o.loc).held then (l, 70) else (moveW l o.sku o.loc o.q 0 o.k 0, 0))
  else if o.k = 2 then
    (if freeL l o.sku o.loc < o.q then (l, 70)
     else
      let l1 := turnL l o.sku o.loc 0 o.q
      ({ l1 with ho := l1.ho ++ [⟨(l1.ho.length + 1 : Nat), o.sku, o.loc, o.q, 0, o.due⟩] }, 0))
  else if o.k = 5 then (expireL l o.due 0 l.ho.length, 0)
  else if o.k = 6 then
    (if freeL l o.sku o.loc < o.q then (l, 70)
     else if (moreL l o.sku o.to o.q).2 ≠ 0 then (l, (moreL l o.sku o.to o.q).2)
     else (moveW (moveW l o.sku o.loc (w64i (-o.q)) 0 o.k 0) o.sku o.to o.q 0 o.k 0, 0))
  else overW l o
theorem doesW_eq {l : LV} (hs : Sorted l.st) (h : FitS l.st) (o : OpV) : doesW l o = doesL l o := by
  unfold doesW doesL
  rw [overW_eq hs h, moved_turn h, held_turn h, moved_turn h]
  have h2 : FitS (movedL l o.sku o.loc (w64i (-o.q)) o.k 0).st := fitS_put hs h (fits_w _) (h _ _).2
  rw [moved_turn h2]
theorem expireL_ops (due : Int) : ∀ (m : Nat) (l : LV) (i : Nat), (expireL l due i m).ops = l.ops := by
  intro m
  induction m with
  | zero => intro l i; rfl
  | succ m ih =>
    intro l i
    unfold expireL
    rw [ih]
    split <;> rfl
theorem doesL_ops (l : LV) (o : OpV) : (doesL l o).1.ops = l.ops := by
  unfold doesL
  repeat' (first | rfl | split)
  · exact expireL_ops _ _ _ _
  · unfold overL
    repeat' (first | rfl | split)
end Go.Q

set_option linter.unusedVariables false
set_option linter.unusedSimpArgs false
namespace Go.Proofs
open Go Go.Q
structure WorkAt (w0 w : World) (x : Nat) (l : LV) (S : List Nat) : Prop where
  ex : ∃ a b c SA SB SC, BoxAt w x 169 [⟨a, 4, l.st.map sC, SA⟩, ⟨b, 6, l.ho.map hC, SB⟩, ⟨c, 6, l.mo.map hC, SC⟩] [.int .i64 l.ops] ∧ S = x :: blksC [⟨a, 4, l.st.map sC, SA⟩, ⟨b, 6, l.ho.map hC, SB⟩, ⟨c, 6, l.mo.map hC, SC⟩]
  new : ∀ q ∈ S, w0.heap.size ≤ q
  kp : Kp [] w0 w
section
variable {w0 w : World} {x : Nat} {l : LV} {S : List Nat}
theorem WorkAt.keep {w' : World} (h : WorkAt w0 w x l S) (hk : Kp [] w w') : WorkAt w0 w' x l S := by
  obtain ⟨a, b, c, SA, SB, SC, h1, h2⟩ := h.ex
  exact ⟨⟨a, b, c, SA, SB, SC, h1.keep hk, h2⟩, h.new, h.kp.trans' hk⟩
theorem WorkAt.lt (h : WorkAt w0 w x l S) : ∀ q ∈ S, q < w.heap.size := by
  obtain ⟨a, b, c, SA, SB, SC, h1, rfl⟩ := h.ex
  exact h1.lt
theorem WorkAt.ld (h : WorkAt w0 w x l S) : ∃ v, (∀ K : Value → Prop, ldn 4 (.pointer (some ⟨x, 0, none⟩)) w K = K v) ∧ LedAt w v l := by
  obtain ⟨a, b, c, SA, SB, SC, h1, rfl⟩ := h.ex
  exact ⟨_, fun K => h1.ld rfl, a, b, c, rfl, ⟨SA, .inr (h1.rows 0 (by simp)).rd⟩, ⟨SB, .inr (h1.rows 1 (by simp)).rd⟩, ⟨SC, .inr (h1.rows 2 (by simp)).rd⟩⟩
theorem WorkAt.focusA (h : WorkAt w0 w x l S) : ∃ v T, RowsAt w v 4 (l.st.map sC) T ∧ (∀ q ∈ T, q ∈ S) ∧ x ∉ T ∧ (∀ w1, Kp T w w1 → ∀ K : Value → Prop, ld1 (.pointer (some ⟨x, 0, none⟩)) w1 K = K v) ∧
    (∀ w1 (L : List SV), Kp T w w1 → RowsAt w1 v 4 (L.map sC) T → WorkAt w0 w1 x { l with st := L } S) ∧
    ∀ w1 v' T' (L : List SV), Kp T w w1 → RowsAt w1 v' 4 (L.map sC) T' → (∀ q ∈ T', q ∈ T ∨ w.heap.size ≤ q) → ∀ K : World → Prop, (∀ w2 S', WorkAt w0 w2 x { l with st := L } S' → Kp S w w2 → Kp [x] w1 w2 → (∀ q ∈ S', q ∈ S ∨ w.heap.size ≤ q) → K w2) → st1 (.pointer (some ⟨x, 0, none⟩)) v' w1 K := by
  have hnew := h.new
  obtain ⟨a, b, c, SA, SB, SC, h1, rfl⟩ := h.ex
  have hi : 0 < [(⟨a, 4, l.st.map sC, SA⟩ : Cmp), ⟨b, 6, l.ho.map hC, SB⟩, ⟨c, 6, l.mo.map hC, SC⟩].length := by simp
  have hA : ∀ q ∈ SA, q ∈ x :: blksC [⟨a, 4, l.st.map sC, SA⟩, ⟨b, 6, l.ho.map hC, SB⟩, ⟨c, 6, l.mo.map hC, SC⟩] := fun q hq => List.mem_cons_of_mem _ (blksC_mem hi hq)
  refine ⟨a, SA, h1.rows 0 hi, hA, h1.x_not hi, fun w1 hk K => h1.rd hi hk, fun w1 L hk hr => ?_, fun w1 v' T' L hk hr hS K hK => ?_⟩
  · obtain ⟨g1, g2⟩ := h1.inplace hi hk hr
    refine ⟨⟨a, b, c, SA, SB, SC, g1, congrArg (x :: ·) g2.symm⟩, hnew, h.kp.trans hk fun q hq hlt => ?_⟩
    have := hnew q (hA q hq)
    omega
  · have hsz := h.kp.size
    refine h1.store hi hk hr hS fun w2 g1 g2 g3 g4 => hK w2 _ ⟨⟨v', b, c, T', SB, SC, g1, rfl⟩, fun q hq => ?_, h.kp.trans g2 fun q hq hlt => ?_⟩ (g2.mono fun q hq _ => ?_) g3 fun q hq => ?_
    · rcases List.mem_cons.1 hq with rfl | hq
      · exact hnew q (by simp)
      · rcases g4 q hq with hq | hq
        · exact hnew q (List.mem_cons_of_mem _ hq)
        · omega
    · rcases List.mem_cons.1 hq with rfl | hq
      · have := hnew q (by simp); omega
      · have := hnew q (hA q hq); omega
    · rcases List.mem_cons.1 hq with rfl | hq
      · simp
      · exact hA q hq
    · rcases List.mem_cons.1 hq with rfl | hq
      · exact .inl (by simp)
      · exact (g4 q hq).imp (fun hq => List.mem_cons_of_mem _ hq) id
theorem WorkAt.focusB (h : WorkAt w0 w x l S) : ∃ v T, RowsAt w v 6 (l.ho.map hC) T ∧ (∀ q ∈ T, q ∈ S) ∧ x ∉ T ∧ (∀ w1, Kp T w w1 → ∀ K : Value → Prop, ld1 (.pointer (some ⟨x, 1, none⟩)) w1 K = K v) ∧
    (∀ w1 (L : List HV), Kp T w w1 → RowsAt w1 v 6 (L.map hC) T → WorkAt w0 w1 x { l with ho := L } S) ∧
    ∀ w1 v' T' (L : List HV), Kp T w w1 → RowsAt w1 v' 6 (L.map hC) T' → (∀ q ∈ T', q ∈ T ∨ w.heap.size ≤ q) → ∀ K : World → Prop, (∀ w2 S', WorkAt w0 w2 x { l with ho := L } S' → Kp S w w2 → Kp [x] w1 w2 → (∀ q ∈ S', q ∈ S ∨ w.heap.size ≤ q) → K w2) → st1 (.pointer (some ⟨x, 1, none⟩)) v' w1 K := by
  have hnew := h.new
  obtain ⟨a, b, c, SA, SB, SC, h1, rfl⟩ := h.ex
  have hi : 1 < [(⟨a, 4, l.st.map sC, SA⟩ : Cmp), ⟨b, 6, l.ho.map hC, SB⟩, ⟨c, 6, l.mo.map hC, SC⟩].length := by simp
  have hA : ∀ q ∈ SB, q ∈ x :: blksC [⟨a, 4, l.st.map sC, SA⟩, ⟨b, 6, l.ho.map hC, SB⟩, ⟨c, 6, l.mo.map hC, SC⟩] := fun q hq => List.mem_cons_of_mem _ (blksC_mem hi hq)
  refine ⟨b, SB, h1.rows 1 hi, hA, h1.x_not hi, fun w1 hk K => h1.rd hi hk, fun w1 L hk hr => ?_, fun w1 v' T' L hk hr hS K hK => ?_⟩
  · obtain ⟨g1, g2⟩ := h1.inplace hi hk hr
    refine ⟨⟨a, b, c, SA, SB, SC, g1, congrArg (x :: ·) g2.symm⟩, hnew, h.kp.trans hk fun q hq hlt => ?_⟩
    have := hnew q (hA q hq)
    omega
  · have hsz := h.kp.size
    refine h1.store hi hk hr hS fun w2 g1 g2 g3 g4 => hK w2 _ ⟨⟨a, v', c, SA, T', SC, g1, rfl⟩, fun q hq => ?_, h.kp.trans g2 fun q hq hlt => ?_⟩ (g2.mono fun q hq _ => ?_) g3 fun q hq => ?_
    · rcases List.mem_cons.1 hq with rfl | hq
      · exact hnew q (by simp)
      · rcases g4 q hq with hq | hq
        · exact hnew q (List.mem_cons_of_mem _ hq)
        · omega
    · rcases List.mem_cons.1 hq with rfl | hq
      · have := hnew q (by simp); omega
      · have := hnew q (hA q hq); omega
    · rcases List.mem_cons.1 hq with rfl | hq
      · simp
      · exact hA q hq
    · rcases List.mem_cons.1 hq with rfl | hq
      · exact .inl (by simp)
      · exact (g4 q hq).imp (fun hq => List.mem_cons_of_mem _ hq) id
theorem WorkAt.focusC (h : WorkAt w0 w x l S) : ∃ v T, RowsAt w v 6 (l.mo.map hC) T ∧ (∀ q ∈ T, q ∈ S) ∧ x ∉ T ∧ (∀ w1, Kp T w w1 → ∀ K : Value → Prop, ld1 (.pointer (some ⟨x, 2, none⟩)) w1 K = K v) ∧
    (∀ w1 (L : List HV), Kp T w w1 → RowsAt w1 v 6 (L.map hC) T → WorkAt w0 w1 x { l with mo := L } S) ∧
    ∀ w1 v' T' (L : List HV), Kp T w w1 → RowsAt w1 v' 6 (L.map hC) T' → (∀ q ∈ T', q ∈ T ∨ w.heap.size ≤ q) → ∀ K : World → Prop, (∀ w2 S', WorkAt w0 w2 x { l with mo := L } S' → Kp S w w2 → Kp [x] w1 w2 → (∀ q ∈ S', q ∈ S ∨ w.heap.size ≤ q) → K w2) → st1 (.pointer (some ⟨x, 2, none⟩)) v' w1 K := by
  have hnew := h.new
  obtain ⟨a, b, c, SA, SB, SC, h1, rfl⟩ := h.ex
  have hi : 2 < [(⟨a, 4, l.st.map sC, SA⟩ : Cmp), ⟨b, 6, l.ho.map hC, SB⟩, ⟨c, 6, l.mo.map hC, SC⟩].length := by simp
  have hA : ∀ q ∈ SC, q ∈ x :: blksC [⟨a, 4, l.st.map sC, SA⟩, ⟨b, 6, l.ho.map hC, SB⟩, ⟨c, 6, l.mo.map hC, SC⟩] := fun q hq => List.mem_cons_of_mem _ (blksC_mem hi hq)
  refine ⟨c, SC, h1.rows 2 hi, hA, h1.x_not hi, fun w1 hk K => h1.rd hi hk, fun w1 L hk hr => ?_, fun w1 v' T' L hk hr hS K hK => ?_⟩
  · obtain ⟨g1, g2⟩ := h1.inplace hi hk hr
    refine ⟨⟨a, b, c, SA, SB, SC, g1, congrArg (x :: ·) g2.symm⟩, hnew, h.kp.trans hk fun q hq hlt => ?_⟩
    have := hnew q (hA q hq)
    omega
  · have hsz := h.kp.size
    refine h1.store hi hk hr hS fun w2 g1 g2 g3 g4 => hK w2 _ ⟨⟨a, b, v', SA, SB, T', g1, rfl⟩, fun q hq => ?_, h.kp.trans g2 fun q hq hlt => ?_⟩ (g2.mono fun q hq _ => ?_) g3 fun q hq => ?_
    · rcases List.mem_cons.1 hq with rfl | hq
      · exact hnew q (by simp)
      · rcases g4 q hq with hq | hq
        · exact hnew q (List.mem_cons_of_mem _ hq)
        · omega
    · rcases List.mem_cons.1 hq with rfl | hq
      · have := hnew q (by simp); omega
      · have := hnew q (hA q hq); omega
    · rcases List.mem_cons.1 hq with rfl | hq
      · simp
      · exact hA q hq
    · rcases List.mem_cons.1 hq with rfl | hq
      · exact .inl (by simp)
      · exact (g4 q hq).imp (fun hq => List.mem_cons_of_mem _ hq) id
end
end Go.Proofs

set_option linter.unusedVariables false
set_option linter.unusedSimpArgs false
namespace Go.Proofs
open Go Go.Q
theorem overl_stock (w : World) (ba oa la ca bb ob lb cb TA TB : Nat) (cA cB : Array Value) (hne : ba ≠ bb) (hA : w.heap[ba]? = some (.cells cA TA (0, 0))) (hB : w.heap[bb]? = some (.cells cB TB (0, 0))) (hcB : cB.size ≠ 0) (K : Value → World → Prop) (hK : K (.bool false) w) :
    nG Tryz.prog (callFunc 151 #[.slice (some ⟨ba, oa, none⟩) la ca, .slice (some ⟨bb, ob, none⟩) lb cb]) w K :=
  nG_over Tryz.func151 (by kernel_rfl) (by kernel_rfl) (by kernel_rfl) (tS := 22) (tR := 4) (by kernel_rfl) (e := 48) (by kernel_rfl) (n := 4) (by kernel_rfl) hne hA hB hcB hK
theorem Insert_stock {w : World} {v x : Value} {st : List SV} {s : SV} {S SX : List Nat} (h : RowsAt w v 4 (st.map sC) S) (hx : RowsAt w x 4 [sC s] SX) (hd : ∀ q ∈ SX, q ∉ S) (hl : st.length < 2 ^ 30) {p : Nat} (hp : p ≤ st.length)
    {R : Value → World → Prop} (hR : ∀ v' w' S', RowsAt w' v' 4 ((st.take p ++ [s] ++ st.drop p).map sC) S' → Kp S w w' → (∀ y ∈ S', y ∈ S ∨ w.heap.size ≤ y) → R v' w') : callG Tryz.prog 147 #[v, .int .i64 p, x] w R := by
  refine slices_Insert_api_Stock_api_Stock_call ?_
  have hone : (st.map sC).flatten.all one = true := by
    rw [List.all_eq_true]
    intro y hy
    obtain ⟨r, hr, hyr⟩ := List.mem_flatten.1 hy
    obtain ⟨s, _, rfl⟩ := List.mem_map.1 hr
    exact List.all_eq_true.1 (sC_one s) y hyr
  have := ins_spec (P := Tryz.prog) (I := 3) (T := 48) (k := 4) (bytes := 48) (ST := 22) (fO := 151) (fR := 152) (z := [.string (str []), .string (str []), .int .i64 0, .int .i64 0]) (i := (Tryz.prog.info? 48).getD default)
    (kd := .i64) (by kernel_rfl) (by kernel_rfl) (by kernel_rfl) (by kernel_rfl) (by kernel_rfl) (by kernel_rfl) (by kernel_rfl) (by omega) (by omega) (by omega) overl_stock h hx hd hone (sC_one s) (by simpa using hl) (p := p) (by simpa using hp) (R := R)
    (fun v' w' S' h' hk hS => hR v' w' S' (by simpa [List.map_take, List.map_drop] using h') hk hS)
  exact this
section
variable {w0 w : World} {x : Nat} {l : LV} {S : List Nat}
theorem turned_s0 (h : WorkAt w0 w x l S) {k : Nat} (hk : k < l.st.length) (n m : Int) {R : Value → World → Prop}
    (hR : ∀ w', Kp S w w' → WorkAt w0 w' x { l with st := l.st.set k { l.st[k] with hand := w64i (l.st[k].hand + n), held := w64i (l.st[k].held + m) } } S → R (.tuple #[]) w') :
    ledger_work_turned_s0 R (.pointer (some ⟨x, 0, none⟩)) (.int .i64 n) (.int .i64 m) (.int .i64 k) w := by
  obtain ⟨a, T, r1, hT, hxT, hld, hin, _⟩ := h.focusA
  obtain ⟨bl, hbl, hia, hrd, hwr⟩ := r1.updM hk
  unfold ledger_work_turned_s0
  simp only [nk_p, fa_p, Nat.add_zero]
  rw [hld w (Kp.refl _ _), hia]
  simp only [fa_p]
  rw [hrd 2 (.int .i64 l.st[k].hand) rfl]
  simp only [bq_add]
  rw [hia]
  simp only [fa_p]
  refine hwr 2 (by omega) _ { l.st[k] with hand := w64i (l.st[k].hand + n) } rfl rfl _ fun w1 k1 r2 => ?_
  rw [hld w1 k1]
  have hk2 : k < (l.st.set k { l.st[k] with hand := w64i (l.st[k].hand + n) }).length := by simpa using hk
  obtain ⟨bl2, hbl2, hia2, hrd2, hwr2⟩ := r2.updM hk2
  have ebl : bl2 = bl := by rw [hbl] at hbl2; simpa using hbl2.symm
  subst ebl
  simp only [List.getElem_set_self] at hrd2 hwr2
  rw [hia]
  simp only [fa_p]
  rw [hrd2 3 (.int .i64 l.st[k].held) rfl]
  simp only [bq_add]
  rw [hia]
  simp only [fa_p]
  refine hwr2 3 (by omega) _ { l.st[k] with hand := w64i (l.st[k].hand + n), held := w64i (l.st[k].held + m) } rfl rfl _ fun w2 k2 r3 => ?_
  rw [List.set_set] at r3
  have k02 := k1.trans' k2
  exact hR w2 (k02.mono fun q hq _ => hT q hq) (hin w2 _ k02 r3)
theorem turned_spec (h : WorkAt w0 w x l S) (hs : Sorted l.st) (hl : l.st.length < 2 ^ 20) (sku loc : List UInt8) (n m : Int) {K : Value → World → Prop}
    (hK : ∀ w' S', WorkAt w0 w' x (turnL l sku loc n m) S' → Kp S w w' → (∀ q ∈ S', q ∈ S ∨ w.heap.size ≤ q) → K (.tuple #[]) w') :
    callG Tryz.prog 135 #[.pointer (some ⟨x, 0, none⟩), keyV sku loc, .int .i64 n, .int .i64 m] w K := by
  refine ledger_work_turned_call ?_
  unfold ledger_work_turned ledger_work_turned_s1
  refine argBox (cs := [.string (str sku), .string (str loc)]) fun p w1 hp hh1 hk1 => ?_
  have hlt := h.lt
  have h1 := (h.keep hk1).keep kp_drew
  have hpS : p ∉ S := fun hm => by have := hlt p hm; omega
  obtain ⟨a, T, r1, hT, hxT, hld, hin, hst⟩ := h1.focusA
  simp only [nk_p, fa_p, Nat.add_zero]
  rw [hld _ (Kp.refl _ _), ldPl (kp_drew.get hh1 (by simp))]
  refine index_spec hs ⟨T, .inr r1.rd⟩ (by omega) sku loc fun k w2 hk2 hkl hlow hhigh => ?_
  obtain ⟨hyes, hno⟩ := put_idx hs hkl hlow hhigh
  have h2 := h1.keep hk2
  have hh2 := hk2.get (kp_drew.get hh1 (by simp)) (by simp)
  have k02 := (hk1.trans' kp_drew).trans' hk2
  cases hc : (l.st.any fun s => atP s sku loc) with
  | true =>
    obtain ⟨hlt', e1, e2⟩ := hyes hc
    obtain ⟨q1, q2⟩ := findS_key l.st sku loc
    simp [-getElem?_pos, -Array.all_eq_true, -Array.getElem?_eq_getElem, -List.length_flatten, List.getElem?_cons_zero, List.getElem?_cons_succ, ]
    refine turned_s0 h2 hlt' n m fun w3 k3 h3 => hK w3 S ?_ ((k02.mono (by simp)).trans' k3) fun q hq => .inl hq
    have e : turnL l sku loc n m = { l with st := l.st.set k { l.st[k] with hand := w64i (l.st[k].hand + n), held := w64i (l.st[k].held + m) } } := by
      unfold turnL turnS
      rw [e2 { findS l.st sku loc with hand := w64i ((findS l.st sku loc).hand + n), held := w64i ((findS l.st sku loc).held + m) } q1 q2, e1]
    rw [e]
    exact h3
  | false =>
    obtain ⟨e1, e2⟩ := hno hc
    have h2d := h2.keep kp_drew
    have hh2d := kp_drew.get hh2 (by simp)
    obtain ⟨a, T, r1, hT, hxT, hld, hin, hst⟩ := h2d.focusA
    simp only [ex0, ex1, un_not, bV_b, Bool.not_false, true_implies, Bool.true_eq_false, false_implies, and_true, nk_p, fa_p, Nat.add_zero]
    rw [hld _ (Kp.refl _ _)]
    rw [ldF hh2d (j := 0) rfl, ldF hh2d (j := 1) rfl]
    simp [-getElem?_pos, -Array.all_eq_true, -Array.getElem?_eq_getElem, -List.length_flatten, List.getElem?_cons_zero, List.getElem?_cons_succ, zcStock, str_nil, bld_done, bld_if, offAt, putAt, -ld1_p, -st1_p]
    refine bsl_rowN (n := 4) (cs := sC ⟨sku, loc, 0, 0⟩) (by omega) (by rfl) rfl fun v3 w3 f3 => ?_
    rw [hld w3 (f3.kp.mono (by simp))]
    obtain ⟨SX, rx, hnx⟩ := f3.ex
    have r1' := r1.keep f3.kp (by simp)
    have hlT := r1.lt
    refine ⟨rfl, Insert_stock r1' rx (fun q hq hq' => ?_) (by omega) hkl fun v4 w4 T4 r4 k4 hT4 => ?_⟩
    · have := hnx q hq
      have := hlT q hq'
      omega
    have k24 : Kp T w2.drew w4 := (f3.kp.mono (by simp)).trans' k4
    have hs3 := f3.kp.size
    refine hst w4 v4 T4 _ k24 r4 (fun q hq => (hT4 q hq).imp id fun hh => by omega) _ fun w5 S5 h5 k5 k5x hS5 => ?_
    have hk' : k < (l.st.take k ++ [(⟨sku, loc, 0, 0⟩ : SV)] ++ l.st.drop k).length := by simp; omega
    have eg : (l.st.take k ++ [(⟨sku, loc, 0, 0⟩ : SV)] ++ l.st.drop k)[k] = ⟨sku, loc, 0, 0⟩ := by
      rw [List.getElem_append_left (by simp; omega), List.getElem_append_right (by simp; omega)]
      simp
    refine turned_s0 h5 hk' n m fun w6 k6 h6 => ?_
    have k05 : Kp S w w5 := (((k02.trans' kp_drew)).mono (by simp)).trans' k5
    have hsz := k02.size
    refine hK w6 S5 ?_ (k05.trans k6 fun q hq hlt' => ?_) fun q hq => (hS5 q hq).imp id fun hh => ?_
    · have e : turnL l sku loc n m = { l with st := (l.st.take k ++ [(⟨sku, loc, 0, 0⟩ : SV)] ++ l.st.drop k).set k ⟨sku, loc, w64i (0 + n), w64i (0 + m)⟩ } := by
        unfold turnL turnS
        rw [e1, e2 _ rfl rfl]
        congr 1
        rw [List.append_assoc, List.append_assoc, List.set_append_right _ _ (by simp; omega)]
        have : k - (List.take k l.st).length = 0 := by simp; omega
        rw [this]; rfl
      rw [e]
      have h6' := h6
      simp only [eg] at h6'
      exact h6'
    · rcases hS5 q hq with hh | hh
      · exact hh
      · have : w2.drew.heap.size = w2.heap.size := rfl
        omega
    · have : w2.drew.heap.size = w2.heap.size := rfl
      omega
end
end Go.Proofs

set_option linter.unusedVariables false
set_option linter.unusedSimpArgs false
namespace Go.Proofs
open Go Go.Q
theorem rows_push {e k bytes : Nat} {z : List Value} {v y : Value} {w : World} {rows : List (List Value)} {r : List Value} {S : List Nat} (h : RowsAt w v k rows S) (hk : 0 < k) (hz : z.length = k) (hx : Rd w y k [r]) (hone : r.all one = true)
    (hb : bytes ≤ 2 ^ 10) (hl : rows.length < 2 ^ 30) {K : Value → World → Prop}
    (hK : ∀ v' w' S', RowsAt w' v' k (rows ++ [r]) S' → Kp S w w' → (∀ q ∈ S', q ∈ S ∨ w.heap.size ≤ q) → K v' w') : app e k bytes z.toArray v y w K := by
  have hr : r.length = k := hx.row (by simp)
  refine rows_app h hk hz (G := [r]) (by simpa using hr) (by simpa using hone) (fun K' hK' => hx.src K' hK') ?_ (by simp; omega) hK
  have : 2 * (rows.length + 1) * bytes ≤ 2 ^ 32 * 2 ^ 10 := Nat.mul_le_mul (by omega) hb
  simpa using Nat.le_trans this (by decide)
section
variable {w0 w : World} {x : Nat} {l : LV} {S : List Nat}
theorem moved_spec (h : WorkAt w0 w x l S) (hs : Sorted l.st) (hl : l.st.length < 2 ^ 20) (hlm : l.mo.length < 2 ^ 20) (sku loc : List UInt8) (n m : Int) (mv : HV) {K : Value → World → Prop}
    (hK : ∀ w' S', WorkAt w0 w' x (moveW l sku loc n m mv.st mv.due) S' → Kp S w w' → (∀ q ∈ S', q ∈ S ∨ w.heap.size ≤ q) → K (.tuple #[]) w') :
    callG Tryz.prog 134 #[.pointer (some ⟨x, 0, none⟩), keyV sku loc, .int .i64 n, .int .i64 m, hA mv] w K := by
  refine ledger_work_moved_call ?_
  unfold ledger_work_moved ledger_work_moved_s0
  have hlt := h.lt
  refine argBox (cs := [.string (str sku), .string (str loc)]) fun p w1 hp hh1 hk1 => ?_
  refine argBox (cs := hC mv) fun y w2 hy hh2 hk2 => ?_
  have hp2 := hk2.get hh1 (by simp)
  have h2 := (h.keep hk1).keep hk2
  have k02 := hk1.trans' hk2
  have hs1 := hk1.size
  have hs2 := hk2.size
  have hpl := lt_of_blk hh1
  have hpS : p ∉ S := fun hm => by have := hlt p hm; omega
  have hyS : y ∉ S := fun hm => by have := hlt y hm; omega
  have hpy : y ≠ p := by omega
  rw [ldPl hp2]
  refine turned_spec h2 hs hl sku loc n m fun w3 S3 h3 k3 hS3 => ?_
  have hlm3 : (turnL l sku loc n m).mo.length < 2 ^ 20 := hlm
  have hp3 := (k3.get hp2 hpS)
  have hy3 := (k3.get hh2 hyS)
  have h3d := h3.keep kp_drew
  have hp3d := kp_drew.get hp3 (by simp)
  have hy3d := kp_drew.get hy3 (by simp)
  have hpl2 := lt_of_blk hp2
  have hyl2 := lt_of_blk hh2
  have hp3S : p ∉ S3 := fun hm => by
    rcases hS3 p hm with e | e
    · exact hpS e
    · omega
  have hy3S : y ∉ S3 := fun hm => by
    rcases hS3 y hm with e | e
    · exact hyS e
    · omega
  obtain ⟨W, hW⟩ : ∃ W, W = w3.drew := ⟨_, rfl⟩
  have hWs : W.heap.size = w3.heap.size := by rw [hW]; rfl
  have hk3W : Kp [] w3 W := by rw [hW]; exact kp_drew
  rw [← hW] at h3d hp3d hy3d
  rw [← hW]
  obtain ⟨c, T, r1, hT, hxT, hld, hin, hst⟩ := h3d.focusC
  have hlr := r1.len
  obtain ⟨ca, cc, hcv, _⟩ := hlr
  have hlw : IntKind.i64.wrap ((l.mo.length : Int) + 1) = ((l.mo.length + 1 : Nat) : Int) := by rw [w64 (by omega) (by omega)]; simp
  simp only [nk_p, fa_p, Nat.add_zero, Nat.zero_add]
  rw [hld _ (Kp.refl _ _)]
  have hlen : ∀ K : Value → Prop, lenL c K = K (.int .i64 l.mo.length) := fun K => by rw [hcv, lenL_s]; simp [turnL]
  rw [hlen]
  simp only [bq_add, hlw]
  rw [ldF hp3d (j := 0) (x := .string (str sku)) rfl, ldF hp3d (j := 1) (x := .string (str loc)) rfl]
  have rp : ∀ o K, ∀ j v, ([.string (str sku), .string (str loc)] : List Value)[j]? = some v → ld1 (.pointer (some ⟨p, j, none⟩)) (setBlk W y o) K = K v := fun o K j v hj => ldF (c := [.string (str sku), .string (str loc)].toArray) (by rw [heap_ne hpy]; exact hp3d) (by simpa using hj)
  have ly := live_of hy3d
  rw [stF hy3d (by simp [hC]) rfl]
  rw [rp _ _ 1 (.string (str loc)) rfl, rp _ _ 0 (.string (str sku)) rfl]
  refine ⟨rfl, rfl, ?_⟩
  rw [stF (heap_self ly) (by simp [hC]) rfl, setBlk2, rp _ _ 1 (.string (str loc)) rfl]
  refine ⟨rfl, ?_⟩
  rw [stF (heap_self ly) (by simp [hC]) rfl, setBlk2, stF (heap_self ly) (by simp [hC]) rfl, setBlk2]
  obtain ⟨nv, hnv⟩ : ∃ nv : HV, nv = ⟨(l.mo.length + 1 : Nat), sku, loc, n, mv.st, mv.due⟩ := ⟨_, rfl⟩
  have hcells : (((((hC mv).toArray.setIfInBounds 0 (.int .i64 ((l.mo.length + 1 : Nat) : Int))).setIfInBounds 1 (.string (str sku))).setIfInBounds 2 (.string (str loc))).setIfInBounds 3 (.int .i64 n)) = (hC nv).toArray := by rw [hnv]; rfl
  rw [hcells]
  have kW : Kp [y] W (setBlk W y (.cells (hC nv).toArray 73)) := (Kp.refl _ _).setBlk (.inl (by simp)) _
  obtain ⟨W2, hW2⟩ : ∃ W2, W2 = (setBlk W y (.cells (hC nv).toArray 73)).drew := ⟨_, rfl⟩
  have kW2 : Kp [y] W W2 := by rw [hW2]; exact kW.drew
  have hyW2 : W2.heap[y]? = some (.cells (hC nv).toArray 73) := by rw [hW2]; exact heap_self ly
  rw [← hW2]
  have hyT : y ∉ T := fun hm => hy3S (hT y hm)
  have hWl := h3d.lt
  -- the ledger lies as it was
  have h4 : WorkAt w0 W2 x (turnL l sku loc n m) S3 := by
    obtain ⟨a', b', c', SA, SB, SC, g1, g2⟩ := h3d.ex
    have hs0 := h3d.kp.size
    refine ⟨⟨a', b', c', SA, SB, SC, g1.keepS kW2 (fun q hq => by rw [← g2] at hq; simp; intro e; exact hy3S (e ▸ hq)), g2⟩, h3d.new, h3d.kp.trans kW2 fun q hq hlt' => ?_⟩
    simp at hq
    have := h.kp.size
    omega
  obtain ⟨c2, T2, r2, hT2, hxT2, hld2, hin2, hst2⟩ := h4.focusC
  rw [hld2 _ (Kp.refl _ _), ldHold hyW2]
  refine bsl_rowN (n := 6) (cs := hC nv) (by omega) (by rfl) rfl fun v5 w5 f5 => ?_
  have k25 := f5.kp
  rw [hld2 _ (k25.mono (by simp))]
  refine ⟨rfl, ?_⟩
  rw [move_zc]
  refine rows_push (r2.keep k25 (by simp)) (by omega) rfl f5.rd rfl (by omega) (by simp; omega) fun v6 w6 T6 r6 k6 hT6 => ?_
  have k26 : Kp T2 W2 w6 := (k25.mono (by simp)).trans' k6
  have hs5 := k25.size
  refine hst2 w6 v6 T6 ((turnL l sku loc n m).mo ++ [nv]) k26 (by rw [List.map_append]; exact r6) (fun q hq => (hT6 q hq).imp id fun e => by omega) _ fun w7 S7 h7 k7 _ hS7 => ?_
  have hsW2 : W2.heap.size = w3.heap.size := by rw [hW2]; simp [hWs]
  have hs3 := k3.size
  refine hK w7 S7 (by rw [hnv] at h7; exact h7) ?_ fun q hq => ?_
  · have k3' : Kp S w w3 := (k02.mono (by simp)).trans' k3
    refine ((k3'.trans' (hk3W.mono (by simp))).trans kW2 fun q hq hlt' => ?_).trans k7 fun q hq hlt' => ?_
    · simp at hq; omega
    · rcases hS3 q hq with e | e
      · exact e
      · omega
  · rcases hS7 q hq with e | e
    · rcases hS3 q e with e | e
      · exact .inl e
      · exact .inr (by omega)
    · exact .inr (by omega)
end
end Go.Proofs

set_option linter.unusedVariables false
set_option linter.unusedSimpArgs false
namespace Go.Proofs
open Go Go.Q
section
variable {w0 w : World} {x : Nat} {l : LV} {S : List Nat}
theorem more_spec (h : WorkAt w0 w x l S) (hf : FitS l.st) (hl : l.st.length < 2 ^ 20) (sku loc : List UInt8) {n : Int} (hn : rngI n) {K : Value → World → Prop}
    (hK : ∀ w', Kp [] w w' → K (.tuple #[.int .i64 (moreL l sku loc n).1, .int .i64 (moreL l sku loc n).2]) w') :
    callG Tryz.prog 132 #[.pointer (some ⟨x, 0, none⟩), keyV sku loc, .int .i64 n] w K := by
  refine ledger_work_more_call ?_
  unfold ledger_work_more ledger_work_more_s0
  refine argBox (cs := [.string (str sku), .string (str loc)]) fun p w1 hp hh1 hk1 => ?_
  have h1 := (h.keep hk1).keep kp_drew
  obtain ⟨v, hld, hv⟩ := h1.ld
  have hp1 := kp_drew.get hh1 (by simp)
  simp only [nk_p, fa_p, Nat.add_zero, Nat.zero_add]
  rw [hld, ldF hp1 (j := 0) (x := .string (str sku)) rfl, ldF hp1 (j := 1) (x := .string (str loc)) rfl]
  refine Find_spec7 hv (by omega) sku loc fun w2 hk2 => ?_
  have hr := fits_rng.1 (hf sku loc).1
  unfold sA
  simp [-getElem?_pos, -Array.all_eq_true, -Array.getElem?_eq_getElem, -List.length_flatten, List.getElem?_cons_zero, List.getElem?_cons_succ, ]
  refine numAdd_spec hr hn ?_
  simp [-getElem?_pos, -Array.all_eq_true, -Array.getElem?_eq_getElem, -List.length_flatten, List.getElem?_cons_zero, List.getElem?_cons_succ, ]
  exact hK w2 ((hk1.trans' kp_drew).trans' hk2)
theorem over_spec (h : WorkAt w0 w x l S) (hs : Sorted l.st) (hl : l.st.length < 2 ^ 20) (hlh : l.ho.length < 2 ^ 20) (hlm : l.mo.length < 2 ^ 20) (o : OpV) (hid : 1 ≤ o.id) {K : Value → World → Prop}
    (hK : ∀ w' S', WorkAt w0 w' x (overW l o).1 S' → Kp S w w' → (∀ q ∈ S', q ∈ S ∨ w.heap.size ≤ q) → K (.int .i64 (overW l o).2) w') :
    callG Tryz.prog 136 #[.pointer (some ⟨x, 0, none⟩), .agg (opC o).toArray] w K := by
  refine ledger_work_over_call ?_
  unfold ledger_work_over ledger_work_over_s1
  have hlt := h.lt
  refine argBox (cs := opC o) fun y w1 hy hh1 hk1 => ?_
  have hyS : y ∉ S := fun hm => by have := hlt y hm; omega
  have h1 := (h.keep hk1).keep kp_drew
  have hy1 := kp_drew.get hh1 (by simp)
  have k01 : Kp [] w w1.drew := hk1.trans' kp_drew
  obtain ⟨W, hW⟩ : ∃ W, W = w1.drew := ⟨_, rfl⟩
  rw [← hW] at h1 hy1 k01 ⊢
  obtain ⟨b, T, r1, hT, hxT, hld, hin, hst⟩ := h1.focusB
  obtain ⟨ba, bc, hbv, _⟩ := r1.len
  have hlen : ∀ K : Value → Prop, lenL b K = K (.int .i64 l.ho.length) := fun K => by rw [hbv, lenL_s]; simp
  have h71 : (o.id > l.ho.length ∨ (holdAt l o.id).st ≠ 0) → K (.int .i64 71) W := by
    intro e
    have e2 : overW l o = (l, 71) := by unfold overW; rw [if_pos e]
    rw [e2] at hK
    exact hK W S h1 (k01.mono (by simp)) fun q hq => .inl hq
  simp only [nk_p, fa_p, Nat.add_zero, Nat.zero_add]
  rw [ldF hy1 (j := 5) (x := .int .i64 o.id) rfl, hld _ (Kp.refl _ _), hlen]
  simp only [bq_gtr, bV_b, decide_eq_true_eq, decide_eq_false_iff_not]
  refine ⟨fun e => h71 (.inl (by omega)), fun e1 => ?_⟩
  obtain ⟨k, hk⟩ : ∃ k, k = (o.id - 1).toNat := ⟨_, rfl⟩
  have hiw : IntKind.i64.wrap (o.id - 1) = (k : Nat) := by rw [w64 (by omega) (by omega)]; omega
  have hkl : k < l.ho.length := by omega
  have hg : holdAt l o.id = l.ho[k] := by simp only [holdAt, ← hk, List.getD, List.getElem?_eq_getElem hkl, Option.getD_some]
  obtain ⟨bl, hbl, hia, hrd, hwr⟩ := r1.updK hkl
  obtain ⟨hh, hhd⟩ : ∃ hh, hh = l.ho[k] := ⟨_, rfl⟩
  rw [← hhd] at hrd hwr hg
  rw [hld _ (Kp.refl _ _), ldF hy1 (j := 5) (x := .int .i64 o.id) rfl]
  simp only [bq_sub, hiw]
  rw [hia]
  simp only [fa_p]
  rw [hrd _ (Kp.refl _ _) 4 (.int .i64 hh.st) rfl]
  simp only [bq_neq, bV_b, decide_eq_true_eq, decide_eq_false_iff_not]
  refine ⟨fun e => h71 (.inr (by rw [hg]; exact e)), fun e2 => ?_⟩
  unfold ledger_work_over_s0
  have kd1 : Kp [] W W.drew := kp_drew
  have kd2 : Kp [] W W.drew.drew := kp_drew.trans' kp_drew
  simp only [nk_p, fa_p, Nat.add_zero, Nat.zero_add]
  rw [hld _ (kd1.mono (by simp)), ldF (kd1.get hy1 (by simp)) (j := 5) (x := .int .i64 o.id) rfl]
  simp only [bq_sub, hiw]
  rw [hia]
  simp only [nk_p, fa_p]
  rw [hrd _ kd2 1 (.string (str hh.sku)) rfl, hrd _ kd2 2 (.string (str hh.loc)) rfl]
  simp [-getElem?_pos, -Array.all_eq_true, -Array.getElem?_eq_getElem, -List.length_flatten, List.getElem?_cons_zero, List.getElem?_cons_succ, zcPl, bld_done, bld_if, offAt, putAt, -ld1_p, -st1_p, -ldn_p, -stn_p, -newG_k]
  rw [newG_k]
  obtain ⟨p, hp⟩ : ∃ p, p = W.drew.drew.heap.size := ⟨_, rfl⟩
  obtain ⟨W3, hW3⟩ : ∃ W3, W3 = W.drew.drew.alloc (.cells [.string (str []), .string (str [])].toArray 101) := ⟨_, rfl⟩
  have k3 : Kp [] W W3 := by rw [hW3]; exact kd2.alloc _
  have hp3 : W3.heap[p]? = some (.cells [.string (str []), .string (str [])].toArray 101) := by rw [hW3, hp]; exact heap_new
  rw [← hW3, ← hp]
  rw [hrd _ k3 2 (.string (str hh.loc)) rfl, hrd _ k3 1 (.string (str hh.sku)) rfl]
  refine ⟨rfl, rfl, ?_⟩
  rw [stAll (k := 2) hp3 rfl rfl (by simp [one])]
  have hWl : W.heap.size ≤ p := by rw [hp]; exact Nat.le_refl _
  obtain ⟨W4, hW4⟩ : ∃ W4, W4 = setBlk W3 p (.cells #[.string (str hh.sku), .string (str hh.loc)] 101) := ⟨_, rfl⟩
  have hp4 : W4.heap[p]? = some (.cells #[.string (str hh.sku), .string (str hh.loc)] 101) := by rw [hW4]; exact heap_self (live_of hp3)
  have k4 : Kp [] W W4 := by rw [hW4]; exact k3.setBlk (.inr hWl) _
  rw [← hW4]
  have hy4 := k4.get hy1 (by simp)
  rw [ldF hy4 (j := 0) (x := .int .i64 o.k) rfl]
  have hS1 := h1.lt
  have hpS : p ∉ S := fun hm => by have := hS1 p hm; omega
  have hset : ∀ n : Int, l.ho.set k { hh with st := n } = (stateL l k n).ho := fun n => by simp [stateL, List.getD, hkl, hhd]
  have eO : overW l o = if o.k = 4 then (turnL (stateL l k 2) hh.sku hh.loc 0 (w64i (-hh.q)), 0) else (moveW (stateL l k 1) hh.sku hh.loc (w64i (-hh.q)) (w64i (-hh.q)) o.k hh.id, 0) := by
    unfold overW
    rw [if_neg (by rw [hg]; omega), hg, ← hk]
  have hst : ∀ n w5, Kp T W4 w5 → RowsAt w5 b 6 ((l.ho.set k { hh with st := n }).map hC) T → WorkAt w0 w5 x (stateL l k n) S ∧ Kp S w w5 := by
    intro n w5 k5 r5
    have := hin w5 _ ((k4.mono (by simp)).trans' k5) r5
    rw [hset n] at this
    exact ⟨this, (k01.mono (by simp)).trans' (((k4.mono (by simp)).trans' k5).mono fun q hq _ => hT q hq)⟩
  have hsz := k01.size
  have hsz4 := k4.size
  simp only [bq_eql, bV_b, decide_eq_true_eq, decide_eq_false_iff_not]
  refine ⟨fun e4 => ?_, fun e4 => ?_⟩
  · rw [eO, if_pos e4] at hK
    refine hwr _ k4 4 (by omega) _ { hh with st := 2 } rfl rfl _ fun w5 k5 r5 => ?_
    obtain ⟨h5, k05⟩ := hst 2 w5 k5 r5
    have h5d := h5.keep kp_drew
    have hp5 := kp_drew.get (k5.get hp4 fun hm => hpS (hT p hm)) (by simp)
    have hsz5 := k5.size
    have r5d := r5.keep (S' := []) (w' := w5.drew) kp_drew (by simp)
    obtain ⟨bl', g1, g2, g3, _⟩ := r5d.updK (i := k) (by simpa using hkl)
    have : bl' = bl := by rw [hbl] at g1; simpa using g1.symm
    subst this
    simp only [List.getElem_set_self] at g3
    rw [ldPl hp5, g3 _ (Kp.refl _ _) 3 (.int .i64 hh.q) rfl, neg_of]
    refine turned_spec h5d hs hl hh.sku hh.loc 0 (w64i (-hh.q)) fun w6 S6 h6 k6 hS6 => ?_
    exact hK w6 S6 h6 ((k05.trans' (kp_drew.mono (by simp))).trans' k6) fun q hq => (hS6 q hq).imp id fun e => by have : w5.drew.heap.size = w5.heap.size := rfl; omega
  · rw [eO, if_neg e4] at hK
    refine hwr _ k4 4 (by omega) _ { hh with st := 1 } rfl rfl _ fun w5 k5 r5 => ?_
    obtain ⟨h5, k05⟩ := hst 1 w5 k5 r5
    have h5d := h5.keep kp_drew
    have hp5 := kp_drew.get (k5.get hp4 fun hm => hpS (hT p hm)) (by simp)
    have hyW := lt_of_blk hy1
    have hy5 := kp_drew.get (k5.get hy4 fun hm => hyS (hT y hm)) (by simp)
    have hsz5 := k5.size
    have r5d := r5.keep (S' := []) (w' := w5.drew) kp_drew (by simp)
    obtain ⟨bl', g1, g2, g3, _⟩ := r5d.updK (i := k) (by simpa using hkl)
    have : bl' = bl := by rw [hbl] at g1; simpa using g1.symm
    subst this
    simp only [List.getElem_set_self] at g3
    have g30 := g3 _ (Kp.refl _ _) 0 (.int .i64 hh.id) rfl
    rw [Nat.add_zero] at g30
    rw [ldPl hp5, g3 _ (Kp.refl _ _) 3 (.int .i64 hh.q) rfl, neg_of, g3 _ (Kp.refl _ _) 3 (.int .i64 hh.q) rfl, neg_of, ldF hy5 (j := 0) (x := .int .i64 o.k) rfl, g30]
    simp [-getElem?_pos, -Array.all_eq_true, -Array.getElem?_eq_getElem, -List.length_flatten, List.getElem?_cons_zero, List.getElem?_cons_succ, move_zc, str_nil, bld_done, bld_if, offAt, putAt, -ld1_p, -st1_p, -ldn_p, -stn_p, -newG_k]
    refine moved_spec h5d hs hl hlm hh.sku hh.loc (w64i (-hh.q)) (w64i (-hh.q)) ⟨0, [], [], 0, o.k, hh.id⟩ fun w6 S6 h6 k6 hS6 => ?_
    exact hK w6 S6 h6 ((k05.trans' (kp_drew.mono (by simp))).trans' k6) fun q hq => (hS6 q hq).imp id fun e => by have : w5.drew.heap.size = w5.heap.size := rfl; omega
end
end Go.Proofs

set_option linter.unusedVariables false
set_option linter.unusedSimpArgs false
namespace Go.Proofs
open Go Go.Q
theorem putS_len (l : List SV) (s : SV) : (putS l s).length ≤ l.length + 1 := by
  induction l with
  | nil => simp [putS]
  | cons x r ih =>
    unfold putS
    split
    · simp; omega
    · split <;> simp
theorem held_sorted {l : LV} (h : Sorted l.st) (sku loc : List UInt8) (n : Int) : Sorted (heldL l sku loc n).st := putS_sorted h
structure LVar (w0 w : World) (x : Nat) (l : LV) (S0 S : List Nat) : Prop where
  ex : ∃ a b c, w.heap[x]? = some (.cells #[a, b, c, .int .i64 l.ops] 26) ∧ LedS w (.agg #[a, b, c, .int .i64 l.ops]) l S
  x0 : w0.heap.size ≤ x
  xS : x ∉ S
  new : ∀ q ∈ S, q ∈ S0 ∨ w0.heap.size ≤ q
  kp : Kp [] w0 w
section
variable {w0 w : World} {x : Nat} {l : LV} {S0 S : List Nat}
theorem LVar.keep {w' : World} (h : LVar w0 w x l S0 S) (hk : Kp [] w w') : LVar w0 w' x l S0 S := by
  obtain ⟨a, b, c, h1, h2⟩ := h.ex
  exact ⟨⟨a, b, c, hk.get h1 (by simp), h2.keep hk (by simp)⟩, h.x0, h.xS, h.new, h.kp.trans' hk⟩
theorem LVar.ld (h : LVar w0 w x l S0 S) : ∃ v, (∀ K : Value → Prop, ldn 4 (.pointer (some ⟨x, 0, none⟩)) w K = K v) ∧ LedS w v l S := by
  obtain ⟨a, b, c, h1, h2⟩ := h.ex
  exact ⟨_, fun K => ldAll h1 rfl, h2⟩
theorem LVar.st (h : LVar w0 w x l S0 S) {w1 : World} {v : Value} {l' : LV} {S' : List Nat} (hk : Kp [] w w1) (hv : LedS w1 v l' S') (hS : ∀ q ∈ S', q ∈ S ∨ w.heap.size ≤ q) {K : World → Prop}
    (hK : ∀ w2, Kp [x] w1 w2 → LVar w0 w2 x l' S0 S' → K w2) : stn 4 (.pointer (some ⟨x, 0, none⟩)) v w1 K := by
  obtain ⟨a, b, c, h1, h2⟩ := h.ex
  obtain ⟨a', b', c', SA, SB, SC, rfl, r1, r2, r3, e⟩ := hv.ex
  have hx1 := hk.get h1 (by simp)
  have hxl := lt_of_blk h1
  have hone := LedAt.ones (l := l') ⟨_, r1⟩ ⟨_, r2⟩ ⟨_, r3⟩
  rw [stAll (k := 4) hx1 rfl rfl hone]
  have hkx : Kp [x] w1 (setBlk w1 x (.cells #[a', b', c', .int .i64 l'.ops] 26)) := (Kp.refl _ w1).setBlk (.inl (by simp)) _
  have hxS' : x ∉ S' := fun hm => by
    rcases hS x hm with hh | hh
    · exact h.xS hh
    · omega
  have hsz := h.kp.size
  have x0 := h.x0
  refine hK _ hkx ⟨⟨a', b', c', heap_self (live_of hx1), hv.keep hkx fun q hq => by simp; intro hh; exact hxS' (hh ▸ hq)⟩, h.x0, hxS', fun q hq => ?_, (h.kp.trans' hk).trans hkx fun q hq hlt => by simp at hq; omega⟩
  rcases hS q hq with hh | hh
  · exact h.new q hh
  · exact .inr (by omega)
theorem LVar.rd (h : LVar w0 w x l S0 S) : ∃ a b c, w.heap[x]? = some (.cells #[a, b, c, .int .i64 l.ops] 26) ∧ Rd w a 4 (l.st.map sC) ∧ Rd w b 6 (l.ho.map hC) ∧ Rd w c 6 (l.mo.map hC) := by
  obtain ⟨a, b, c, h1, h2⟩ := h.ex
  obtain ⟨a', b', c', e, r1, r2, r3⟩ := h2.at
  simp only [Value.agg.injEq, Array.mk.injEq, List.cons.injEq] at e
  obtain ⟨rfl, rfl, rfl, _⟩ := e
  exact ⟨a, b, c, h1, r1, r2, r3⟩
end
theorem argVar {w : World} {v : Value} {l : LV} {S : List Nat} (hv : LedS w v l S) {K : Value → World → Prop} (hK : ∀ x w1, LVar w w1 x l S S → K (.pointer (some ⟨x, 0, none⟩)) w1) : newG (Value.cells v) 26 w K := by
  have hlt := hv.lt
  obtain ⟨a, b, c, SA, SB, SC, e, h1, h2, h3, _⟩ := hv.ex
  subst e
  refine argBox (cs := [a, b, c, .int .i64 l.ops]) fun x w1 hx hh hk => hK x w1 ⟨⟨a, b, c, hh, hv.keep hk (by simp)⟩, hx, fun hm => by have := hlt x hm; omega, fun q hq => .inl hq, hk⟩
end Go.Proofs

set_option linter.unusedVariables false
set_option linter.unusedSimpArgs false
namespace Go.Proofs
open Go Go.Q
structure DoAt (w0 w : World) (x y p5 p6 : Nat) (l : LV) (S : List Nat) (o : OpV) : Prop where
  at_ : WorkAt w0 w x l S
  hy : w.heap[y]? = some (.cells (opC o).toArray 42)
  h5 : w.heap[p5]? = some (.cells #[.string (str o.sku), .string (str o.loc)] 101)
  h6 : w.heap[p6]? = some (.cells #[.string (str o.sku), .string (str o.to)] 101)
  yS : y ∉ S
  s5 : p5 ∉ S
  s6 : p6 ∉ S
section
variable {w0 w : World} {x y p5 p6 : Nat} {l : LV} {S : List Nat} {o : OpV}
theorem op_zc : zc Tryz.prog 42 = [.int .i64 0, .string (str []), .string (str []), .string (str []), .int .i64 0, .int .i64 0, .int .i64 0].toArray := zcOp
theorem DoAt.keep {w' : World} (h : DoAt w0 w x y p5 p6 l S o) (hk : Kp [] w w') : DoAt w0 w' x y p5 p6 l S o :=
  ⟨h.at_.keep hk, hk.get h.hy (by simp), hk.get h.h5 (by simp), hk.get h.h6 (by simp), h.yS, h.s5, h.s6⟩
theorem DoAt.next {w' : World} {l' : LV} {S' : List Nat} (h : DoAt w0 w x y p5 p6 l S o) (ha : WorkAt w0 w' x l' S') (hk : Kp S w w') (hS : ∀ q ∈ S', q ∈ S ∨ w.heap.size ≤ q) : DoAt w0 w' x y p5 p6 l' S' o := by
  have a1 := lt_of_blk h.hy
  have a2 := lt_of_blk h.h5
  have a3 := lt_of_blk h.h6
  have b1 := h.yS
  have b2 := h.s5
  have b3 := h.s6
  refine ⟨ha, hk.get h.hy h.yS, hk.get h.h5 h.s5, hk.get h.h6 h.s6, fun hm => ?_, fun hm => ?_, fun hm => ?_⟩
  · rcases hS _ hm with e | e
    · exact b1 e
    · omega
  · rcases hS _ hm with e | e
    · exact b2 e
    · omega
  · rcases hS _ hm with e | e
    · exact b3 e
    · omega
theorem DoAt.op (h : DoAt w0 w x y p5 p6 l S o) (j : Nat) (v : Value) (hj : (opC o)[j]? = some v) (K : Value → Prop) : ld1 (.pointer (some ⟨y, j, none⟩)) w K = K v := ldF h.hy (by simpa using hj)
theorem does_s1 (h : DoAt w0 w x y p5 p6 l S o) (hs : Sorted l.st) (hl : l.st.length < 2 ^ 20) (hlm : l.mo.length < 2 ^ 20) {K : Value → World → Prop}
    (hK : ∀ w' S', WorkAt w0 w' x (moveW l o.sku o.loc o.q 0 o.k 0) S' → Kp S w w' → (∀ q ∈ S', q ∈ S ∨ w.heap.size ≤ q) → K (.int .i64 0) w') :
    ledger_work_does_s1 K (.pointer (some ⟨x, 0, none⟩)) (.pointer (some ⟨y, 0, none⟩)) (.pointer (some ⟨p5, 0, none⟩)) w := by
  unfold ledger_work_does_s1 ledger_work_does_s0
  simp only [fa_p, Nat.add_zero, Nat.zero_add]
  rw [ldPl h.h5, h.op 4 (.int .i64 o.q) rfl, h.op 0 (.int .i64 o.k) rfl]
  simp [-getElem?_pos, -Array.all_eq_true, -Array.getElem?_eq_getElem, -List.length_flatten, List.getElem?_cons_zero, List.getElem?_cons_succ, move_zc, str_nil, bld_done, bld_if, offAt, putAt, -ld1_p, -st1_p, -ldn_p, -stn_p, -newG_k]
  exact moved_spec h.at_ hs hl hlm o.sku o.loc o.q 0 ⟨0, [], [], 0, o.k, 0⟩ hK
theorem does_s7 (h : DoAt w0 w x y p5 p6 l S o) (hs : Sorted l.st) (hl : l.st.length < 2 ^ 20) (hlh : l.ho.length < 2 ^ 20) (hlm : l.mo.length < 2 ^ 20) (hid : 1 ≤ o.id) {K : Value → World → Prop}
    (hK : ∀ w' S', WorkAt w0 w' x (overW l o).1 S' → Kp S w w' → (∀ q ∈ S', q ∈ S ∨ w.heap.size ≤ q) → K (.int .i64 (overW l o).2) w') :
    ledger_work_does_s7 K (.pointer (some ⟨x, 0, none⟩)) (.pointer (some ⟨y, 0, none⟩)) w := by
  unfold ledger_work_does_s7
  rw [ldAll (k := 7) h.hy rfl]
  exact over_spec h.at_ hs hl hlh hlm o hid hK
theorem does_s2 (h : DoAt w0 w x y p5 p6 l S o) (hs : Sorted l.st) (hl : l.st.length < 2 ^ 20) (hlh : l.ho.length < 2 ^ 20) {K : Value → World → Prop}
    (hK : ∀ w' S', WorkAt w0 w' x { turnL l o.sku o.loc 0 o.q with ho := l.ho ++ [⟨(l.ho.length + 1 : Nat), o.sku, o.loc, o.q, 0, o.due⟩] } S' → Kp S w w' → (∀ q ∈ S', q ∈ S ∨ w.heap.size ≤ q) → K (.int .i64 0) w') :
    ledger_work_does_s2 K (.pointer (some ⟨x, 0, none⟩)) (.pointer (some ⟨y, 0, none⟩)) (.pointer (some ⟨p5, 0, none⟩)) w := by
  unfold ledger_work_does_s2 ledger_work_does_s0
  simp only [fa_p, nk_p, Nat.add_zero, Nat.zero_add]
  rw [ldPl h.h5, h.op 4 (.int .i64 o.q) rfl]
  refine turned_spec h.at_ hs hl o.sku o.loc 0 o.q fun w1 S1 h1 k1 hS1 => ?_
  have d1 := (h.next h1 k1 hS1).keep kp_drew
  obtain ⟨W, hW⟩ : ∃ W, W = w1.drew := ⟨_, rfl⟩
  have hWs : W.heap.size = w1.heap.size := by rw [hW]; rfl
  have k1W : Kp S w W := by rw [hW]; exact k1.drew
  rw [← hW] at d1 ⊢
  obtain ⟨b, T, r1, hT, hxT, hld, hin, hst⟩ := d1.at_.focusB
  obtain ⟨ba, bc, hbv, _⟩ := r1.len
  have hlen : ∀ K : Value → Prop, lenL b K = K (.int .i64 l.ho.length) := fun K => by rw [hbv, lenL_s]; simp [turnL]
  have hiw : IntKind.i64.wrap ((l.ho.length : Int) + 1) = ((l.ho.length + 1 : Nat) : Int) := by rw [w64 (by omega) (by omega)]; simp
  rw [hld _ (Kp.refl _ _), hld _ (Kp.refl _ _), hlen]
  simp only [bq_add, hiw]
  rw [d1.op 1 (.string (str o.sku)) rfl, d1.op 2 (.string (str o.loc)) rfl, d1.op 4 (.int .i64 o.q) rfl, d1.op 6 (.int .i64 o.due) rfl]
  have ⟨nv, hnv⟩ : ∃ nv : HV, nv = HV.mk ((l.ho.length + 1 : Nat) : Int) o.sku o.loc o.q 0 o.due := Exists.intro (HV.mk ((l.ho.length + 1 : Nat) : Int) o.sku o.loc o.q 0 o.due) (Eq.refl _)
  simp [-getElem?_pos, -Array.all_eq_true, -Array.getElem?_eq_getElem, -List.length_flatten, List.getElem?_cons_zero, List.getElem?_cons_succ, hold_zc, str_nil, bld_done, bld_if, offAt, putAt, -ld1_p, -st1_p, -ldn_p, -stn_p, -newG_k]
  rw [← hold_zc]
  refine bsl_rowN (n := 6) (cs := hC nv) (by omega) (by rw [hnv]; simp [hC]) rfl fun v5 w5 f5 => ?_
  have k25 := f5.kp
  rw [hld _ (k25.mono (by simp))]
  refine ⟨rfl, ?_⟩
  rw [hold_zc]
  refine rows_push (r1.keep k25 (by simp)) (by omega) rfl f5.rd rfl (by omega) (by simp [turnL]; omega) fun v6 w6 T6 r6 k6 hT6 => ?_
  have k26 : Kp T W w6 := (k25.mono (by simp)).trans' k6
  have hs5 := k25.size
  refine hst w6 v6 T6 ((turnL l o.sku o.loc 0 o.q).ho ++ [nv]) k26 (by rw [List.map_append]; exact r6) (fun q hq => (hT6 q hq).imp id fun e => by omega) _ fun w7 S7 h7 k7 _ hS7 => ?_
  have hs1 := k1.size
  refine hK w7 S7 (by rw [hnv] at h7; exact h7) (k1W.trans k7 fun q hq hlt => ?_) fun q hq => ?_
  · rcases hS1 q hq with e | e
    · exact e
    · omega
  · rcases hS7 q hq with e | e
    · exact hS1 q e
    · exact .inr (by omega)
theorem does_s3 (h : DoAt w0 w x y p5 p6 l S o) (hs : Sorted l.st) (hf : FitS l.st) (hl : l.st.length < 2 ^ 18) (hlm : l.mo.length < 2 ^ 18) (hq : rngI o.q) {K : Value → World → Prop}
    (hK1 : ∀ w', Kp [] w w' → (moreL l o.sku o.to o.q).2 ≠ 0 → K (.int .i64 (moreL l o.sku o.to o.q).2) w')
    (hK : ∀ w' S', WorkAt w0 w' x (moveW (moveW l o.sku o.loc (w64i (-o.q)) 0 o.k 0) o.sku o.to o.q 0 o.k 0) S' → Kp S w w' → (∀ q ∈ S', q ∈ S ∨ w.heap.size ≤ q) → (moreL l o.sku o.to o.q).2 = 0 → K (.int .i64 0) w') :
    ledger_work_does_s3 K (.pointer (some ⟨x, 0, none⟩)) (.pointer (some ⟨y, 0, none⟩)) (.pointer (some ⟨p5, 0, none⟩)) (.pointer (some ⟨p6, 0, none⟩)) w := by
  unfold ledger_work_does_s3 ledger_work_does_s0
  simp only [fa_p, nk_p, Nat.add_zero, Nat.zero_add]
  rw [ldPl h.h6, h.op 4 (.int .i64 o.q) rfl]
  refine more_spec h.at_ hf (by omega) o.sku o.to hq fun w1 k1 => ?_
  have d1 := h.keep k1
  simp only [ex0, ex1, bq_neq, bV_b, decide_eq_true_eq, decide_eq_false_iff_not]
  refine ⟨fun e => hK1 w1 k1 e, fun e => ?_⟩
  rw [ldPl d1.h5, d1.op 4 (.int .i64 o.q) rfl, neg_of, d1.op 0 (.int .i64 o.k) rfl]
  simp [-getElem?_pos, -Array.all_eq_true, -Array.getElem?_eq_getElem, -List.length_flatten, List.getElem?_cons_zero, List.getElem?_cons_succ, move_zc, str_nil, bld_done, bld_if, offAt, putAt, -ld1_p, -st1_p, -ldn_p, -stn_p, -newG_k]
  refine moved_spec d1.at_ hs (by omega) (by omega) o.sku o.loc (w64i (-o.q)) 0 ⟨0, [], [], 0, o.k, 0⟩ fun w2 S2 h2 k2 hS2 => ?_
  have d2 := d1.next h2 k2 hS2
  rw [ldPl d2.h6, d2.op 4 (.int .i64 o.q) rfl, d2.op 0 (.int .i64 o.k) rfl]
  simp [-getElem?_pos, -Array.all_eq_true, -Array.getElem?_eq_getElem, -List.length_flatten, List.getElem?_cons_zero, List.getElem?_cons_succ, move_zc, str_nil, bld_done, bld_if, offAt, putAt, -ld1_p, -st1_p, -ldn_p, -stn_p, -newG_k]
  have hln := putS_len l.st { findS l.st o.sku o.loc with hand := w64i ((findS l.st o.sku o.loc).hand + w64i (-o.q)), held := w64i ((findS l.st o.sku o.loc).held + 0) }
  refine moved_spec h2 (turn_fit hs hf _ _ _ _).2 (by show (putS l.st _).length < _; omega) (by show (l.mo ++ [_]).length < _; simp; omega) o.sku o.to o.q 0 ⟨0, [], [], 0, o.k, 0⟩ fun w3 S3 h3 k3 hS3 => ?_
  have hs1 := k1.size
  have hs2 := k2.size
  refine hK w3 S3 h3 (((k1.mono (by simp)).trans' k2).trans k3 fun q hq hlt => ?_) (fun q hq => ?_) (Decidable.not_not.1 e)
  · rcases hS2 q hq with e | e
    · exact e
    · omega
  · rcases hS3 q hq with e | e
    · exact (hS2 q e).imp id fun e => by omega
    · exact .inr (by omega)
def Ids (l : LV) : Prop := ∀ k (h : k < l.ho.length), l.ho[k].id = (k + 1 : Nat)
theorem ids_state {l : LV} (h : Ids l) (k : Nat) (n : Int) : Ids (stateL l k n) := by
  intro j hj
  have hj' : j < l.ho.length := by simpa [stateL] using hj
  by_cases he : k = j
  · subst he
    simp only [stateL, List.getElem_set_self]
    have := h k hj'
    simpa [List.getD, hj'] using this
  · simp only [stateL]
    rw [List.getElem_set_ne he]
    exact h j hj'
theorem does_s6 (h : DoAt w0 w x y p5 p6 l S o) (hs : Sorted l.st) (hf : FitS l.st) (hid : Ids l) (hl : l.st.length + l.ho.length < 2 ^ 18) (hlm : l.mo.length < 2 ^ 18) {K : Value → World → Prop}
    (hK : ∀ w' S', WorkAt w0 w' x (expireL l o.due 0 l.ho.length) S' → Kp S w w' → (∀ q ∈ S', q ∈ S ∨ w.heap.size ≤ q) → K (.int .i64 0) w') :
    ledger_work_does_s6 K (.pointer (some ⟨x, 0, none⟩)) (.pointer (some ⟨y, 0, none⟩)) w := by
  unfold ledger_work_does_s6
  simp only [fa_p, nk_p, Nat.add_zero, Nat.zero_add]
  obtain ⟨b, T, r1, hT, hxT, hld, hin, hst⟩ := h.at_.focusB
  obtain ⟨ba, bc, hbv, _⟩ := r1.len
  have hlen : ∀ K : Value → Prop, lenL b K = K (.int .i64 l.ho.length) := fun K => by rw [hbv, lenL_s]; simp
  rw [hld _ (Kp.refl _ _), hlen]
  obtain ⟨E, hE⟩ : ∃ E, E = expireL l o.due 0 l.ho.length := ⟨_, rfl⟩
  rw [← hE] at hK
  unfold ledger_work_does_L5
  refine loop_inv (fun m xs wi => ∃ (i : Nat) (li : LV) (Si : List Nat), i ≤ l.ho.length ∧ m = l.ho.length - i ∧ xs = [.pointer (some ⟨x, 0, none⟩), .pointer (some ⟨y, 0, none⟩), .int .i64 l.ho.length, .int .i64 (i : Nat)] ∧ E = expireL li o.due i (l.ho.length - i) ∧
      Sorted li.st ∧ FitS li.st ∧ Ids li ∧ li.st.length ≤ l.st.length + i ∧ li.ho.length = l.ho.length ∧ li.mo.length = l.mo.length ∧ DoAt w0 wi x y p5 p6 li Si o ∧ Kp S w wi ∧ (∀ q ∈ Si, q ∈ S ∨ w.heap.size ≤ q)) ?_ (m := l.ho.length)
    ⟨0, l, S, by omega, rfl, rfl, hE, hs, hf, hid, by omega, rfl, rfl, h, Kp.refl _ _, fun q hq => .inl hq⟩
  rintro m N xs wi ⟨i, li, Si, hi, rfl, rfl, he, hsi, hfi, hidi, hsl, hho, hmo, di, ki, hSi⟩ hN
  have hiw : IntKind.i64.wrap ((i : Int) + 1) = ((i + 1 : Nat) : Int) := by rw [w64 (by omega) (by omega)]; simp
  unfold ledger_work_does_L5F ledger_work_does_b4
  simp only [bq_lss, bV_b, decide_eq_true_eq, decide_eq_false_iff_not]
  refine ⟨fun hlt => ?_, fun hge => ?_⟩
  · have hlti : i < li.ho.length := by omega
    rw [show l.ho.length - i = (l.ho.length - (i + 1)) + 1 by omega] at he
    unfold expireL at he
    have hg : li.ho.getD i hZ = li.ho[i] := by simp only [List.getD, List.getElem?_eq_getElem hlti, Option.getD_some]
    simp only [hg] at he
    obtain ⟨b, T, r1, hT, hxT, hld, hin, hst⟩ := di.at_.focusB
    obtain ⟨pp, i1, i2⟩ := rd_hold ⟨T, .inr r1.rd⟩ hlti
    simp only [fa_p, nk_p, Nat.add_zero, Nat.zero_add]
    rw [hld _ (Kp.refl _ _), i1, i2]
    refine boxHold (o := li.ho[i]) (by kernel_rfl) fun p w5 hp hh5 hk5 => ?_
    have d5 := di.keep hk5
    have hs5 := hk5.size
    have kw5 : Kp S w w5 := ki.trans' (hk5.mono (by simp))
    have hsz := ki.size
    have hno : dueL li.ho[i] o.due = false → N [.pointer (some ⟨x, 0, none⟩), .pointer (some ⟨y, 0, none⟩), .int .i64 l.ho.length, .int .i64 (i + 1 : Nat)] w5 := by
      intro hd
      rw [if_neg (by simp [hd])] at he
      exact hN (l.ho.length - (i + 1)) _ w5 (by omega) ⟨i + 1, li, Si, by omega, rfl, rfl, he, hsi, hfi, hidi, by omega, hho, hmo, d5, kw5, hSi⟩
    have hl' : (li.ho[i].id : Int) = ((i + 1 : Nat) : Int) := hidi i hlti
    have hyes : dueL li.ho[i] o.due = true → callG Tryz.prog 136 #[.pointer (some ⟨x, 0, none⟩), .agg (opC ⟨4, [], [], [], 0, li.ho[i].id, 0⟩).toArray] w5 fun t184 w => N [.pointer (some ⟨x, 0, none⟩), .pointer (some ⟨y, 0, none⟩), .int .i64 l.ho.length, .int .i64 (i + 1 : Nat)] w := by
      intro hd
      rw [if_pos hd] at he
      have hst0 : li.ho[i].st = 0 := by simp only [dueL, decide_eq_true_eq] at hd; exact hd.1
      have hov : overW li ⟨4, [], [], [], 0, li.ho[i].id, 0⟩ = (stateL (heldL li li.ho[i].sku li.ho[i].loc (w64i (-li.ho[i].q))) i 2, 0) := by
        rw [overW_eq hsi hfi]
        have ei : (li.ho[i].id - 1).toNat = i := by omega
        have ha : holdAt li li.ho[i].id = li.ho[i] := by unfold holdAt; rw [ei]; exact hg
        unfold overL
        simp only [ha, ei]
        rw [if_neg (by omega)]
        simp only [if_true]
      refine over_spec d5.at_ hsi (by omega) (by omega) (by omega) ⟨4, [], [], [], 0, li.ho[i].id, 0⟩ (by show 1 ≤ li.ho[i].id; omega) fun w6 S6 h6 k6 hS6 => ?_
      rw [hov] at h6
      have d6 := d5.next h6 k6 hS6
      have hln := putS_len li.st { findS li.st li.ho[i].sku li.ho[i].loc with held := w64i ((findS li.st li.ho[i].sku li.ho[i].loc).held + w64i (-li.ho[i].q)) }
      refine hN (l.ho.length - (i + 1)) _ w6 (by omega) ⟨i + 1, _, S6, by omega, rfl, rfl, he, held_sorted hsi _ _ _, ?_, ?_, ?_, ?_, ?_, d6, kw5.trans k6 fun q hq hlt => ?_, fun q hq => ?_⟩
      · exact fitS_put hsi hfi (hfi _ _).1 (fits_w _)
      · exact ids_state (l := heldL li _ _ _) hidi i 2
      · show (putS li.st _).length ≤ _; omega
      · simp [stateL, heldL, hho]
      · exact hmo
      · rcases hSi q hq with e | e
        · exact e
        · omega
      · rcases hS6 q hq with e | e
        · exact hSi q e
        · exact .inr (by omega)
    simp only [fa_p, Nat.add_zero, Nat.zero_add]
    rw [ldF hh5 (j := 4) (x := .int .i64 li.ho[i].st) rfl]
    simp only [bq_eql, bq_add, hiw, bV_b, decide_eq_true_eq, decide_eq_false_iff_not]
    refine ⟨fun e0 => ?_, fun e0 => hno (by simp [dueL, e0])⟩
    rw [ldF hh5 (j := 5) (x := .int .i64 li.ho[i].due) rfl]
    simp only [bq_gtr, bV_b, decide_eq_true_eq, decide_eq_false_iff_not]
    refine ⟨fun e1 => ?_, fun e1 => hno (by simp [dueL]; omega)⟩
    rw [ldF hh5 (j := 5) (x := .int .i64 li.ho[i].due) rfl, d5.op 6 (.int .i64 o.due) rfl]
    simp only [bq_leq, bV_b, decide_eq_true_eq, decide_eq_false_iff_not]
    refine ⟨fun e2 => ?_, fun e2 => hno (by simp [dueL, e2])⟩
    rw [ldF hh5 (j := 0) (x := .int .i64 li.ho[i].id) rfl]
    simp [-getElem?_pos, -Array.all_eq_true, -Array.getElem?_eq_getElem, -List.length_flatten, List.getElem?_cons_zero, List.getElem?_cons_succ, op_zc, str_nil, bld_done, bld_if, offAt, putAt, -ld1_p, -st1_p, -ldn_p, -stn_p, -newG_k]
    exact hyes (by simp [dueL, e0, e2]; omega)
  · have hie : i = l.ho.length := by omega
    subst hie
    rw [Nat.sub_self] at he
    unfold ledger_work_does_s0
    have he' : E = li := by rw [he]; rfl
    rw [he'] at hK
    exact hK wi Si di.at_ ki hSi
end
end Go.Proofs

set_option linter.unusedVariables false
set_option linter.unusedSimpArgs false
namespace Go.Proofs
open Go Go.Q
section
variable {w0 w : World} {x y p5 p6 : Nat} {l : LV} {S : List Nat} {o : OpV}
structure DoH (l : LV) (o : OpV) : Prop where
  may : May l
  q : rngI o.q
  k0 : 1 ≤ o.k
  k1 : o.k ≤ 7
  id : o.k = 3 ∨ o.k = 4 → 1 ≤ o.id
theorem DoH.few (h : DoH l o) : l.st.length ≤ 4096 ∧ l.ho.length ≤ 4096 ∧ l.mo.length ≤ 4096 := by
  have hfew := h.may.few
  simp only [fullL, decide_eq_false_iff_not, not_or] at hfew
  omega
theorem DoH.ids (h : DoH l o) : Ids l := fun k hk => by
  have := h.may.holds k hk
  simp only [holdOk, Bool.and_eq_true, decide_eq_true_eq] at this
  exact this.1.1.1.1
theorem DoH.fitS (h : DoH l o) : FitS l.st := by
  have hg : Good l := h.may.m
  exact hg.fitS
theorem does_s16 (hh : DoH l o) (h : DoAt w0 w x y p5 p6 l S o) (hf : o.k = 2 ∨ o.k = 6 → ¬ freeL l o.sku o.loc < o.q) (hm : o.k = 1 ∨ o.k = 7 → (moreL l o.sku o.loc o.q).2 = 0 ∧ ¬ (moreL l o.sku o.loc o.q).1 < (findS l.st o.sku o.loc).held) {K : Value → World → Prop}
    (hK : ∀ w' S', WorkAt w0 w' x (doesL l o).1 S' → Kp S w w' → (∀ q ∈ S', q ∈ S ∨ w.heap.size ≤ q) → K (.int .i64 (doesL l o).2) w') :
    ledger_work_does_s16 K (.pointer (some ⟨x, 0, none⟩)) (.pointer (some ⟨y, 0, none⟩)) (.pointer (some ⟨p5, 0, none⟩)) (.pointer (some ⟨p6, 0, none⟩)) w := by
  obtain ⟨f1, f2, f3⟩ := hh.few
  have hs := hh.may.sorted
  have hfs := hh.fitS
  have k0 := hh.k0
  have k1 := hh.k1
  rw [← doesW_eq hs hfs o] at hK
  unfold ledger_work_does_s16
  simp only [fa_p, Nat.add_zero, Nat.zero_add]
  rw [h.op 0 (.int .i64 o.k) rfl]
  have go1 : o.k = 1 ∨ o.k = 7 → ledger_work_does_s14 K (.pointer (some ⟨x, 0, none⟩)) (.pointer (some ⟨y, 0, none⟩)) (.pointer (some ⟨p5, 0, none⟩)) (.pointer (some ⟨p6, 0, none⟩)) (.int .i64 o.k) (.bool true) w := by
    intro e
    have ed : doesW l o = (moveW l o.sku o.loc o.q 0 o.k 0, 0) := by
      unfold doesW
      rw [if_pos e, if_neg (by rw [(hm e).1]; simp), if_neg (hm e).2]
    rw [ed] at hK
    unfold ledger_work_does_s14
    simp only [bV_b, true_implies, Bool.true_eq_false, false_implies, and_true]
    exact does_s1 h hs (by omega) (by omega) hK
  unfold ledger_work_does_s15
  simp only [bq_eql, bV_b, decide_eq_true_eq, decide_eq_false_iff_not]
  refine ⟨fun e1 => go1 (.inl e1), fun e1 => ?_⟩
  by_cases e7 : o.k = 7
  · rw [decide_eq_true e7]; exact go1 (.inr e7)
  rw [decide_eq_false e7]
  unfold ledger_work_does_s14 ledger_work_does_s13
  simp only [bq_eql, bV_b, true_implies, Bool.false_eq_true, false_implies, true_and]
  unfold ledger_work_does_s12
  simp only [bV_b, decide_eq_true_eq, decide_eq_false_iff_not]
  refine ⟨fun e2 => ?_, fun e2 => ?_⟩
  · have ed : doesW l o = ({ turnL l o.sku o.loc 0 o.q with ho := l.ho ++ [⟨(l.ho.length + 1 : Nat), o.sku, o.loc, o.q, 0, o.due⟩] }, 0) := by
      unfold doesW
      rw [if_neg (by omega), if_pos e2, if_neg (hf (.inl e2))]; rfl
    rw [ed] at hK
    exact does_s2 h hs (by omega) (by omega) hK
  unfold ledger_work_does_s11
  simp only [bq_eql]
  unfold ledger_work_does_s10
  simp only [bV_b, decide_eq_true_eq, decide_eq_false_iff_not]
  refine ⟨fun e6 => ?_, fun e6 => ?_⟩
  · have ed : doesW l o = if (moreL l o.sku o.to o.q).2 ≠ 0 then (l, (moreL l o.sku o.to o.q).2) else (moveW (moveW l o.sku o.loc (w64i (-o.q)) 0 o.k 0) o.sku o.to o.q 0 o.k 0, 0) := by
      unfold doesW
      rw [if_neg (by omega), if_neg e2, if_neg (by omega), if_pos e6, if_neg (hf (.inr e6))]
    rw [ed] at hK
    refine does_s3 h hs hfs (by omega) (by omega) hh.q (fun w1 k1 e => ?_) fun w1 S1 h1 k1 hS e => ?_
    · rw [if_pos e] at hK
      exact hK w1 S (h.keep k1).at_ (k1.mono (by simp)) fun q hq => .inl hq
    · rw [if_neg (by rw [e]; simp)] at hK
      exact hK w1 S1 h1 k1 hS
  unfold ledger_work_does_s9
  simp only [bq_eql]
  unfold ledger_work_does_s8
  simp only [bV_b, decide_eq_true_eq, decide_eq_false_iff_not]
  refine ⟨fun e5 => ?_, fun e5 => ?_⟩
  · have ed : doesW l o = (expireL l o.due 0 l.ho.length, 0) := by
      unfold doesW
      rw [if_neg (by omega), if_neg e2, if_pos e5]
    rw [ed] at hK
    exact does_s6 h hs hfs hh.ids (by omega) (by omega) hK
  · have ed : doesW l o = overW l o := by
      unfold doesW
      rw [if_neg (by omega), if_neg e2, if_neg e5, if_neg e6]
    rw [ed] at hK
    exact does_s7 h hs (by omega) (by omega) (by omega) (hh.id (by omega)) hK
theorem does_s17 (hh : DoH l o) (h : DoAt w0 w x y p5 p6 l S o) (hk : o.k = 2 ∨ o.k = 6) {K : Value → World → Prop}
    (hK : ∀ w' S', WorkAt w0 w' x (doesL l o).1 S' → Kp S w w' → (∀ q ∈ S', q ∈ S ∨ w.heap.size ≤ q) → K (.int .i64 (doesL l o).2) w') :
    ledger_work_does_s17 K (.pointer (some ⟨x, 0, none⟩)) (.pointer (some ⟨y, 0, none⟩)) (.pointer (some ⟨p5, 0, none⟩)) (.pointer (some ⟨p6, 0, none⟩)) w := by
  unfold ledger_work_does_s17
  have hd := h.keep kp_drew
  obtain ⟨v, hld, hv⟩ := hd.at_.ld
  simp only [nk_p, fa_p, Nat.add_zero, Nat.zero_add]
  rw [hld, hd.op 1 (.string (str o.sku)) rfl, hd.op 2 (.string (str o.loc)) rfl, hd.op 4 (.int .i64 o.q) rfl]
  refine Free_spec7 hh.may hv o.sku o.loc fun w1 k1 => ?_
  have d1 := hd.keep k1
  have k01 : Kp [] w w1 := kp_drew.trans' k1
  have hsz := k01.size
  rw [d1.op 4 (.int .i64 o.q) rfl]
  simp only [bq_lss, bV_b, decide_eq_true_eq, decide_eq_false_iff_not]
  refine ⟨trivial, fun e => ?_, fun e => ?_⟩
  · have ed : doesL l o = (l, 70) := by
      unfold doesL
      rcases hk with hk | hk
      · rw [if_neg (by omega), if_pos hk, if_pos e]
      · rw [if_neg (by omega), if_neg (by omega), if_neg (by omega), if_pos hk, if_pos e]
    rw [ed] at hK
    exact hK w1 S d1.at_ (k01.mono (by simp)) fun q hq => .inl hq
  · exact does_s16 hh d1 (fun _ => e) (fun hx => by omega) fun w' S' a b c => hK w' S' a ((k01.mono (by simp)).trans' b) fun q hq => (c q hq).imp id fun e => by omega
theorem does_s18 (hh : DoH l o) (h : DoAt w0 w x y p5 p6 l S o) (hk : o.k = 1 ∨ o.k = 7) {K : Value → World → Prop}
    (hK : ∀ w' S', WorkAt w0 w' x (doesL l o).1 S' → Kp S w w' → (∀ q ∈ S', q ∈ S ∨ w.heap.size ≤ q) → K (.int .i64 (doesL l o).2) w') :
    ledger_work_does_s18 K (.pointer (some ⟨x, 0, none⟩)) (.pointer (some ⟨y, 0, none⟩)) (.pointer (some ⟨p5, 0, none⟩)) (.pointer (some ⟨p6, 0, none⟩)) (.bool true) w := by
  obtain ⟨f1, f2, f3⟩ := hh.few
  unfold ledger_work_does_s18
  simp only [nk_p, fa_p, Nat.add_zero, Nat.zero_add, bV_b, true_implies, Bool.true_eq_false, false_implies, and_true]
  rw [ldPl h.h5, h.op 4 (.int .i64 o.q) rfl]
  refine more_spec h.at_ hh.fitS (by omega) o.sku o.loc hh.q fun w1 k1 => ?_
  have d1 := h.keep k1
  simp only [ex0, ex1, bq_neq, bV_b, decide_eq_true_eq, decide_eq_false_iff_not]
  refine ⟨fun e => ?_, fun e => ?_⟩
  · have ed : doesL l o = (l, (moreL l o.sku o.loc o.q).2) := by
      unfold doesL
      rw [if_pos hk, if_pos e]
    rw [ed] at hK
    exact hK w1 S d1.at_ (k1.mono (by simp)) fun q hq => .inl hq
  · have d2 := d1.keep kp_drew
    obtain ⟨v, hld, hv⟩ := d2.at_.ld
    rw [hld, d2.op 1 (.string (str o.sku)) rfl, d2.op 2 (.string (str o.loc)) rfl]
    refine Find_spec7 hv (by omega) o.sku o.loc fun w3 k3 => ?_
    have d3 := d2.keep k3
    have k03 : Kp [] w w3 := (k1.trans' kp_drew).trans' k3
    have hsz := k03.size
    unfold sA
    simp [-getElem?_pos, -Array.all_eq_true, -Array.getElem?_eq_getElem, -List.length_flatten, List.getElem?_cons_zero, List.getElem?_cons_succ, -ldn_p, -stn_p, -newG_k, -ld1_p, -st1_p]
    refine ⟨fun e2 => ?_, fun e2 => ?_⟩
    · have ed : doesL l o = (l, 70) := by
        unfold doesL
        rw [if_pos hk, if_neg e, if_pos e2]
      rw [ed] at hK
      exact hK w3 S d3.at_ (k03.mono (by simp)) fun q hq => .inl hq
    · refine does_s16 hh d3 (fun hx => by omega) (fun _ => ⟨by omega, by omega⟩) fun w' S' a b c => hK w' S' a ((k03.mono (by simp)).trans' b) fun q hq => (c q hq).imp id fun e => by omega
theorem does_s22 (hh : DoH l o) (h : DoAt w0 w x y p5 p6 l S o) {K : Value → World → Prop}
    (hK : ∀ w' S', WorkAt w0 w' x (doesL l o).1 S' → Kp S w w' → (∀ q ∈ S', q ∈ S ∨ w.heap.size ≤ q) → K (.int .i64 (doesL l o).2) w') :
    ledger_work_does_s22 K (.pointer (some ⟨x, 0, none⟩)) (.pointer (some ⟨y, 0, none⟩)) (.pointer (some ⟨p5, 0, none⟩)) (.pointer (some ⟨p6, 0, none⟩)) w := by
  unfold ledger_work_does_s22
  simp only [fa_p, Nat.add_zero, Nat.zero_add]
  rw [h.op 0 (.int .i64 o.k) rfl]
  unfold ledger_work_does_s21
  simp only [bq_eql, bV_b, decide_eq_true_eq, decide_eq_false_iff_not]
  have go : o.k = 2 ∨ o.k = 6 → ledger_work_does_s20 K (.pointer (some ⟨x, 0, none⟩)) (.pointer (some ⟨y, 0, none⟩)) (.pointer (some ⟨p5, 0, none⟩)) (.pointer (some ⟨p6, 0, none⟩)) (.int .i64 o.k) (.bool true) w := by
    intro e
    unfold ledger_work_does_s20
    simp only [bV_b, true_implies, Bool.true_eq_false, false_implies, and_true]
    exact does_s17 hh h e hK
  refine ⟨fun e2 => go (.inl e2), fun e2 => ?_⟩
  by_cases e6 : o.k = 6
  · rw [decide_eq_true e6]; exact go (.inr e6)
  rw [decide_eq_false e6]
  unfold ledger_work_does_s20 ledger_work_does_s19
  simp only [bq_eql, bV_b, true_implies, Bool.false_eq_true, false_implies, true_and, decide_eq_true_eq, decide_eq_false_iff_not]
  refine ⟨fun e1 => does_s18 hh h (.inl e1) hK, fun e1 => ?_⟩
  by_cases e7 : o.k = 7
  · rw [decide_eq_true e7]; exact does_s18 hh h (.inr e7) hK
  rw [decide_eq_false e7]
  unfold ledger_work_does_s18
  simp only [bV_b, true_implies, Bool.false_eq_true, false_implies, true_and]
  exact does_s16 hh h (fun e => by omega) (fun e => by omega) hK
theorem does_spec (hh : DoH l o) (h : WorkAt w0 w x l S) {K : Value → World → Prop}
    (hK : ∀ w' S', WorkAt w0 w' x (doesL l o).1 S' → Kp S w w' → (∀ q ∈ S', q ∈ S ∨ w.heap.size ≤ q) → K (.int .i64 (doesL l o).2) w') :
    callG Tryz.prog 118 #[.pointer (some ⟨x, 0, none⟩), .agg (opC o).toArray] w K := by
  refine ledger_work_does_call ?_
  unfold ledger_work_does ledger_work_does_s23
  have hlt := h.lt
  refine argBox (cs := opC o) fun y w1 hy hh1 hk1 => ?_
  have h1 := h.keep hk1
  have k1d : Kp [] w1 w1.drew := kp_drew
  have op : ∀ w2, Kp [] w1 w2 → ∀ j v, (opC o)[j]? = some v → ∀ K : Value → Prop, ld1 (.pointer (some ⟨y, j, none⟩)) w2 K = K v := fun w2 k2 j v hj K => ldF (k2.get hh1 (by simp)) (by simpa using hj)
  simp only [fa_p, Nat.add_zero, Nat.zero_add]
  rw [op _ k1d 1 (.string (str o.sku)) rfl, op _ k1d 2 (.string (str o.loc)) rfl]
  have hyl := lt_of_blk hh1
  have hbl : ∀ (a b : List UInt8) (K : Value → Prop), bld [(0, 1), (1, 1)] (zc Tryz.prog 101) #[(0, .string (str a)), (1, .string (str b))] K = K (.agg #[.string (str a), .string (str b)]) := fun a b K => by
    simp [-getElem?_pos, -Array.all_eq_true, -Array.getElem?_eq_getElem, -List.length_flatten, List.getElem?_cons_zero, List.getElem?_cons_succ, zcPl, bld_done, bld_if, offAt, putAt]
  rw [hbl, op _ k1d 1 (.string (str o.sku)) rfl, op _ k1d 3 (.string (str o.to)) rfl, hbl]
  simp only [newG_k, zcPl]
  obtain ⟨pa, hpa⟩ : ∃ pa, pa = w1.drew.heap.size := ⟨_, rfl⟩
  obtain ⟨w2, hw2⟩ : ∃ w2, w2 = w1.drew.alloc (.cells [.string (str []), .string (str [])].toArray 101) := ⟨_, rfl⟩
  have k2 : Kp [] w1 w2 := by rw [hw2]; exact k1d.alloc _
  have ha2 : w2.heap[pa]? = some (.cells [.string (str []), .string (str [])].toArray 101) := by rw [hw2, hpa]; exact heap_new
  rw [← hw2, ← hpa]
  obtain ⟨pb, hpb⟩ : ∃ pb, pb = w2.heap.size := ⟨_, rfl⟩
  obtain ⟨w3, hw3⟩ : ∃ w3, w3 = w2.alloc (.cells [.string (str []), .string (str [])].toArray 101) := ⟨_, rfl⟩
  have k23 : Kp [] w2 w3 := by rw [hw3]; exact kp_alloc
  have k3 : Kp [] w1 w3 := k2.trans' k23
  have hb3 : w3.heap[pb]? = some (.cells [.string (str []), .string (str [])].toArray 101) := by rw [hw3, hpb]; exact heap_new
  have ha3 := k23.get ha2 (by simp)
  rw [← hw3, ← hpb]
  have hal := lt_of_blk ha2
  have hda : w1.drew.heap.size = w1.heap.size := rfl
  have hs1 := hk1.size
  have hab : pa ≠ pb := by omega
  have rest : ∀ p q : Nat, p ≠ q → w1.heap.size ≤ p → w1.heap.size ≤ q → w3.heap[p]? = some (.cells [.string (str []), .string (str [])].toArray 101) → w3.heap[q]? = some (.cells [.string (str []), .string (str [])].toArray 101) →
      stn 2 (.pointer (some ⟨p, 0, none⟩)) (.agg #[.string (str o.sku), .string (str o.loc)]) w3 fun w =>
        ld1 (.pointer (some ⟨y, 3, none⟩)) w (fun u => u = .string (str o.to)) ∧ ld1 (.pointer (some ⟨y, 1, none⟩)) w (fun u => u = .string (str o.sku)) ∧
        stn 2 (.pointer (some ⟨q, 0, none⟩)) (.agg #[.string (str o.sku), .string (str o.to)]) w fun w =>
        ledger_work_does_s22 K (.pointer (some ⟨x, 0, none⟩)) (.pointer (some ⟨y, 0, none⟩)) (.pointer (some ⟨p, 0, none⟩)) (.pointer (some ⟨q, 0, none⟩)) w := by
    intro p q hpq hp hq hp3 hq3
    rw [stAll (k := 2) hp3 rfl rfl (by simp [one])]
    obtain ⟨w4, hw4⟩ : ∃ w4, w4 = setBlk w3 p (.cells #[.string (str o.sku), .string (str o.loc)] 101) := ⟨_, rfl⟩
    have k4 : Kp [] w1 w4 := by rw [hw4]; exact k3.setBlk (.inr hp) _
    have hp4 : w4.heap[p]? = some (.cells #[.string (str o.sku), .string (str o.loc)] 101) := by rw [hw4]; exact heap_self (live_of hp3)
    have hq4 : w4.heap[q]? = some (.cells [.string (str []), .string (str [])].toArray 101) := by rw [hw4, heap_ne hpq]; exact hq3
    rw [← hw4]
    rw [op _ k4 3 (.string (str o.to)) rfl, op _ k4 1 (.string (str o.sku)) rfl]
    refine ⟨rfl, rfl, ?_⟩
    rw [stAll (k := 2) hq4 rfl rfl (by simp [one])]
    obtain ⟨w5, hw5⟩ : ∃ w5, w5 = setBlk w4 q (.cells #[.string (str o.sku), .string (str o.to)] 101) := ⟨_, rfl⟩
    have k5 : Kp [] w1 w5 := by rw [hw5]; exact k4.setBlk (.inr hq) _
    have hp5 : w5.heap[p]? = some (.cells #[.string (str o.sku), .string (str o.loc)] 101) := by rw [hw5, heap_ne (Ne.symm hpq)]; exact hp4
    have hq5 : w5.heap[q]? = some (.cells #[.string (str o.sku), .string (str o.to)] 101) := by rw [hw5]; exact heap_self (live_of hq4)
    rw [← hw5]
    have hs5 := k5.size
    refine does_s22 hh ⟨h1.keep k5, k5.get hh1 (by simp), hp5, hq5, fun hm => by have := hlt _ hm; omega, fun hm => by have := hlt _ hm; omega, fun hm => by have := hlt _ hm; omega⟩ fun w' S' a b c => hK w' S' a (((hk1.trans' k5).mono (by simp)).trans' b) fun q hq => (c q hq).imp id fun e => by omega
  have r2 := fun j v hj K => op _ k2 j v hj K
  have r3 := fun j v hj K => op _ k3 j v hj K
  simp only [r2 3 (.string (str o.to)) rfl, r2 1 (.string (str o.sku)) rfl, r2 2 (.string (str o.loc)) rfl, r3 3 (.string (str o.to)) rfl, r3 1 (.string (str o.sku)) rfl, r3 2 (.string (str o.loc)) rfl, true_and]
  exact ⟨rest pa pb hab (by omega) (by omega) ha3 hb3, rest pb pa (Ne.symm hab) (by omega) (by omega) hb3 ha3⟩
end
end Go.Proofs

set_option linter.unusedVariables false
set_option linter.unusedSimpArgs false
namespace Go.Proofs
open Go Go.Q
theorem led_give {w0 wj : World} {x z : Nat} {l : LV} {S0 S : List Nat} (h : LVar w0 wj x l S0 S) (hz : wj.heap[z]? = some (.cells [.slice none 0 0, .slice none 0 0, .slice none 0 0, .int .i64 0].toArray 26)) (hz0 : w0.heap.size ≤ z) (hzS : z ∉ S)
    {K : Value → World → Prop} (hK : ∀ v' w', Kp [] w0 w' → LedS w' v' l S → K v' w') :
    ldn 4 (.pointer (some ⟨x, 0, none⟩)) wj fun t67 => stn 4 (.pointer (some ⟨z, 0, none⟩)) t67 wj fun w => qG Tryz.prog (do loadVar 26 (← asAddr (.pointer (some ⟨z, 0, none⟩)))) w fun r4 => K r4 w := by
  obtain ⟨a, b, c, h1, h2⟩ := h.ex
  exact led_ret h1 hz h2 hzS fun w' hk hv => hK _ w' (h.kp.trans hk fun q hq hlt => by simp at hq; omega) hv
end Go.Proofs

set_option linter.unusedVariables false
set_option linter.unusedSimpArgs false
namespace Go.Proofs
open Go Go.Q
theorem led_put {wj : World} {z : Nat} {v : Value} {l : LV} {S : List Nat} (hz : wj.heap[z]? = some (.cells [.slice none 0 0, .slice none 0 0, .slice none 0 0, .int .i64 0].toArray 26))
    (hv : LedS wj v l S) (hzS : z ∉ S) {K : Value → World → Prop} (hK : ∀ w', Kp [z] wj w' → LedS w' v l S → K v w') :
    stn 4 (.pointer (some ⟨z, 0, none⟩)) v wj fun w => qG Tryz.prog (do loadVar 26 (← asAddr (.pointer (some ⟨z, 0, none⟩)))) w fun r4 => K r4 w := by
  obtain ⟨a, b, c, SA, SB, SC, rfl, h1, h2, h3, _⟩ := hv.ex
  have hone := LedAt.ones (l := l) ⟨_, h1⟩ ⟨_, h2⟩ ⟨_, h3⟩
  rw [stAll (k := 4) hz rfl rfl hone, lvLedw (heap_self (live_of hz)) rfl]
  have hk : Kp [z] wj (setBlk wj z (.cells #[a, b, c, .int .i64 l.ops] 26)) := (Kp.refl _ wj).setBlk (.inl (by simp)) _
  exact hK _ hk (hv.keep hk fun q hq => by simp; intro h; exact hzS (h ▸ hq))
end Go.Proofs

set_option linter.unusedVariables false
set_option linter.unusedSimpArgs false
namespace Go.Proofs
open Go Go.Q
theorem run_max3 {P : Program} {ts : Array TypeId} {t : TypeId} {k : IntKind} {a b c : Int} {w : World} : (Builtin.max_ ts t #[.int k a, .int k b, .int k c]).run P w = .ok (.int k (max (max a b) c)) w := by
  simp only [Builtin.max_, List.foldlM_cons, List.foldlM_nil, Builtin.max2, pure_bind]
  show Result.ok _ _ = _
  congr 2; omega
theorem ok_doH {l : LV} {o : OpV} (hm : May l) (hq : rngI o.q) (ho : o.ok = true) : DoH l o := by
  refine ⟨hm, hq, ?_, ?_, fun h => ?_⟩
  all_goals
    unfold OpV.ok at ho
    simp only at ho
  · by_cases h1 : o.k = 1
    · omega
    by_cases h2 : o.k = 2
    · omega
    by_cases h3 : o.k = 3 ∨ o.k = 4
    · omega
    by_cases h5 : o.k = 5
    · omega
    by_cases h6 : o.k = 6
    · omega
    by_cases h7 : o.k = 7
    · omega
    simp [h1, h2, h3, h5, h6, h7] at ho
  · by_cases h1 : o.k = 1
    · omega
    by_cases h2 : o.k = 2
    · omega
    by_cases h3 : o.k = 3 ∨ o.k = 4
    · omega
    by_cases h5 : o.k = 5
    · omega
    by_cases h6 : o.k = 6
    · omega
    by_cases h7 : o.k = 7
    · omega
    simp [h1, h2, h3, h5, h6, h7] at ho
  · have h1 : ¬ o.k = 1 := by omega
    have h2 : ¬ o.k = 2 := by omega
    simp [h1, h2, h] at ho
    exact ho.2.2.2.1
theorem bld_whole {n : Nat} {z cs : Array Value} (hz : z.size = n) (hc : cs.size = n) {K : Value → Prop} : bld [(0, n)] z #[(0, .agg cs)] K = K (.agg cs) := by
  unfold bld
  show (match Instr.fill _ z [(0, Value.agg cs)] with | some cs => K (.agg cs) | none => False) = _
  have hc' : (Value.cells (.agg cs)).size = n := hc
  rw [fill_step (off := 0) (size := n) rfl hc' (by omega)]
  have : splice z 0 (Value.cells (.agg cs)) = cs := splice_all (by rw [hz]; exact hc.symm)
  rw [this]
  rfl
theorem step_spec {w : World} {v : Value} {l : LV} {S0 : List Nat} (hm : May l) (hv : LedS w v l S0) (o : OpV) (hq : rngI o.q) {K : Value → World → Prop}
    (hK : ∀ v' w' S', Kp [] w w' → LedS w' v' (stepL l o).1 S' → (∀ q ∈ S', q ∈ S0 ∨ w.heap.size ≤ q) → K (.tuple #[v', .int .i64 (stepL l o).2]) w') : callG Tryz.prog 92 #[v, .agg (opC o).toArray] w K := by
  refine ledger_step_call ?_
  have hlt0 := hv.lt
  have hfew := hm.few
  simp only [fullL, decide_eq_false_iff_not, not_or] at hfew
  unfold ledger_step ledger_step_s1
  refine argVar hv fun x2 w1 c1 => ?_
  refine argBox (cs := opC o) fun y w2 hy hh2 hk2 => ?_
  rw [newG_k, zcLed]
  obtain ⟨z, hz⟩ : ∃ z, z = w2.heap.size := ⟨_, rfl⟩
  obtain ⟨w3, hw3⟩ := ex_w (w' := w2.alloc (.cells [.slice none 0 0, .slice none 0 0, .slice none 0 0, .int .i64 0].toArray 26))
  have hk3 : Kp [] w2 w3 := by rw [hw3]; exact kp_alloc
  have hz3 : w3.heap[z]? = some (.cells [.slice none 0 0, .slice none 0 0, .slice none 0 0, .int .i64 0].toArray 26) := by rw [hw3, hz]; exact heap_new
  rw [← hw3, ← hz]
  have c3 := (c1.keep hk2).keep hk3
  have hs1 := c1.kp.size
  have hs2 := hk2.size
  have hzl := lt_of_blk hz3
  have hzS : z ∉ S0 := fun hm => by have := hlt0 z hm; omega
  have hy3 := hk3.get hh2 (by simp)
  have hx2l : x2 < w1.heap.size := by
    obtain ⟨_, _, _, h1, _⟩ := c1.ex
    exact lt_of_blk h1
  have hx20 := c1.x0
  have give : ∀ (e : Int) w', LVar w w' x2 l S0 S0 → w'.heap[z]? = some (.cells [.slice none 0 0, .slice none 0 0, .slice none 0 0, .int .i64 0].toArray 26) → stepL l o = (l, e) →
      ldn 4 (.pointer (some ⟨x2, 0, none⟩)) w' fun t67 => stn 4 (.pointer (some ⟨z, 0, none⟩)) t67 w' fun w => qG Tryz.prog (do loadVar 26 (← asAddr (.pointer (some ⟨z, 0, none⟩)))) w fun r4 => K (.tuple #[r4, .int .i64 e]) w := by
    intro e w' cx hzx he
    rw [he] at hK
    exact led_give (K := fun v w => K (.tuple #[v, .int .i64 e]) w) cx hzx (by omega) hzS fun v' w' hk hv' => hK v' w' S0 hk hv' fun q hq => .inl hq
  rw [ldAll (k := 7) hy3 rfl]
  refine CheckOp_spec o fun w4 hk4 => ?_
  have c4 := c3.keep hk4
  have hz4 := hk4.get hz3 (by simp)
  have hy4 := hk4.get hy3 (by simp)
  cases hok : o.ok with
  | false =>
    simp only [Bool.false_eq_true, if_false, bq_neq, bV_b, decide_eq_true_eq, decide_eq_false_iff_not]
    refine ⟨fun _ => ?_, fun h => absurd (by decide) h⟩
    exact give 1 w4 c4 hz4 (by unfold stepL; rw [if_pos hok])
  | true =>
    have hdo := ok_doH hm hq hok
    simp only [if_true, bq_neq, bV_b, decide_eq_true_eq, decide_eq_false_iff_not]
    refine ⟨fun h => absurd rfl h, fun _ => ?_⟩
    obtain ⟨a, b, c, hx4, hl4⟩ := c4.ex
    obtain ⟨a', b', c', SA0, SB0, SC0, e4, ra0, rb0, rc0, _⟩ := hl4.ex
    simp only [Value.agg.injEq, Array.mk.injEq, List.cons.injEq] at e4
    obtain ⟨rfl, rfl, rfl, _⟩ := e4
    rw [ldAll (k := 4) hx4 rfl, bld_whole (n := 4) (by kernel_rfl) rfl]
    rw [newG_k]
    obtain ⟨x, hx⟩ : ∃ x, x = w4.heap.size := ⟨_, rfl⟩
    obtain ⟨w5, hw5⟩ : ∃ w5, w5 = w4.alloc (.cells #[a, b, c, .int .i64 l.ops] 169) := ⟨_, rfl⟩
    have hk5 : Kp [] w4 w5 := by rw [hw5]; exact kp_alloc
    have hx5 : w5.heap[x]? = some (.cells #[a, b, c, .int .i64 l.ops] 169) := by rw [hw5, hx]; exact heap_new
    have hw5' : w4.alloc (.cells (Value.cells (.agg #[a, b, c, .int .i64 l.ops])) 169) = w5 := hw5.symm
    rw [hw5', ← hx]
    obtain ⟨W, hW⟩ : ∃ W, W = w5.drew := ⟨_, rfl⟩
    have kW : Kp [] w4 W := by rw [hW]; exact hk5.drew
    have hxW : W.heap[x]? = some (.cells #[a, b, c, .int .i64 l.ops] 169) := by rw [hW]; exact hx5
    rw [← hW]
    have r2 : ∀ w6, Kp [] W w6 → ∀ j v, (#[a, b, c, .int .i64 l.ops] : Array Value)[j]? = some v → ∀ K : Value → Prop, ld1 (.pointer (some ⟨x2, j, none⟩)) w6 K = K v := fun w6 k6 j v hj K => ldF ((kW.trans' k6).get hx4 (by simp)) hj
    simp only [fa_p, nk_p, Nat.add_zero, Nat.zero_add]
    rw [r2 W (Kp.refl _ _) 0 a rfl, r2 W (Kp.refl _ _) 1 b rfl, r2 W (Kp.refl _ _) 2 c rfl]
    have kw0 : Kp [] w W := c4.kp.trans' kW
    refine cloneStock_spec (l := l.st) (Rd.keep ⟨_, ra0⟩ kW) (by omega) fun va w6 fa => ?_
    rw [r2 w6 fa.kp 2 c rfl, r2 w6 fa.kp 1 b rfl]
    refine ⟨rfl, rfl, cloneHold_spec (l := l.ho) (Rd.keep ⟨_, rb0⟩ (kW.trans' fa.kp)) (by omega) fun vb w7 fb => ?_⟩
    have k67 := fa.kp.trans' fb.kp
    rw [r2 w7 k67 2 c rfl]
    refine ⟨rfl, cloneMove_spec (l := l.mo) (Rd.keep ⟨_, rc0⟩ (kW.trans' k67)) (by omega) fun vc w8 fc => ?_⟩
    have kW8 := k67.trans' fc.kp
    obtain ⟨SA, ra, na⟩ := fa.ex
    obtain ⟨SB, rb, nb⟩ := fb.ex
    obtain ⟨SC, rc, nc⟩ := fc.ex
    have ra8 := ra.keep (fb.kp.trans' fc.kp) (by simp)
    have rb8 := rb.keep fc.kp (by simp)
    have hxW8 := kW8.get hxW (by simp)
    have hWx := lt_of_blk hxW
    have s6 := fa.kp.size
    have s7 := fb.kp.size
    have la := ra.lt
    have lb := rb.lt
    have lx := live_of hxW8
    have o1 : one va = true := fa.one
    have o2 : one vb = true := fb.one
    have o3 : one vc = true := fc.one
    rw [stF hxW8 (by simp) o1]
    rw [stF (heap_self lx) (by simp) o2, setBlk2]
    rw [stF (heap_self lx) (by simp) o3, setBlk2]
    obtain ⟨w9, hw9⟩ : ∃ w9, w9 = setBlk w8 x (.cells #[va, vb, vc, .int .i64 l.ops] 169) := ⟨_, rfl⟩
    have hw9' : setBlk w8 x (.cells (((#[a, b, c, .int .i64 l.ops].setIfInBounds 0 va).setIfInBounds 1 vb).setIfInBounds 2 vc) 169) = w9 := by rw [hw9]; rfl
    have k89 : Kp [x] w8 w9 := by rw [hw9]; exact (Kp.refl _ _).setBlk (.inl (by simp)) _
    have hx9 : w9.heap[x]? = some (.cells #[va, vb, vc, .int .i64 l.ops] 169) := by rw [hw9]; exact heap_self lx
    rw [hw9']
    have xA : ∀ q ∈ SA, q ≠ x := fun q hq => by have := na q hq; omega
    have xB : ∀ q ∈ SB, q ≠ x := fun q hq => by have := nb q hq; omega
    have xC : ∀ q ∈ SC, q ≠ x := fun q hq => by have := nc q hq; omega
    have sk := c4.kp.size
    have hx0 : w.heap.size ≤ x := by omega
    have kw9 : Kp [] w w9 := (kw0.trans' kW8).trans k89 fun q hq hlt => by simp at hq; omega
    have swW := kw0.size
    have s5 := hk5.size
    have hW9 : WorkAt w w9 x l (x :: blksC [⟨va, 4, l.st.map sC, SA⟩, ⟨vb, 6, l.ho.map hC, SB⟩, ⟨vc, 6, l.mo.map hC, SC⟩]) := by
      refine ⟨⟨va, vb, vc, SA, SB, SC, ⟨hx9, fun i hi => ?_, ?_⟩, rfl⟩, fun q hq => ?_, kw9⟩
      · rcases (by simp at hi; omega : i = 0 ∨ i = 1 ∨ i = 2) with rfl | rfl | rfl
        · exact ra8.keep k89 fun q hq => by simpa using xA q hq
        · exact rb8.keep k89 fun q hq => by simpa using xB q hq
        · exact rc.keep k89 fun q hq => by simpa using xC q hq
      · simp only [blksC, List.map_cons, List.map_nil, List.flatten_cons, List.flatten_nil, List.append_nil]
        refine List.nodup_cons.2 ⟨fun hm => ?_, List.nodup_append.2 ⟨ra.nodup, List.nodup_append.2 ⟨rb.nodup, rc.nodup, fun q hq r hr he => ?_⟩, fun q hq r hr he => ?_⟩⟩
        · simp only [List.mem_append] at hm
          rcases hm with h | h | h
          · exact xA x h rfl
          · exact xB x h rfl
          · exact xC x h rfl
        · subst he
          have := lb q hq
          have := nc q hr
          omega
        · subst he
          have := la q hq
          simp only [List.mem_append] at hr
          rcases hr with h | h
          · have := nb q h; omega
          · have := nc q h; omega
      · simp only [blksC, List.map_cons, List.map_nil, List.flatten_cons, List.flatten_nil, List.append_nil, List.mem_cons, List.mem_append] at hq
        rcases hq with rfl | h | h | h
        · omega
        · have := na q h; omega
        · have := nb q h; omega
        · have := nc q h; omega
    obtain ⟨SW, hSW⟩ : ∃ SW, SW = x :: blksC [⟨va, 4, l.st.map sC, SA⟩, ⟨vb, 6, l.ho.map hC, SB⟩, ⟨vc, 6, l.mo.map hC, SC⟩] := ⟨_, rfl⟩
    rw [← hSW] at hW9
    have hnW : ∀ q ∈ SW, w4.heap.size ≤ q := fun q hq => by
      rw [hSW] at hq
      simp only [blksC, List.map_cons, List.map_nil, List.flatten_cons, List.flatten_nil, List.append_nil, List.mem_cons, List.mem_append] at hq
      rcases hq with rfl | h | h | h
      · omega
      · have := na q h; omega
      · have := nb q h; omega
      · have := nc q h; omega
    have k49 : Kp [] w4 w9 := (kW.trans' kW8).trans k89 fun q hq hlt => by simp at hq; omega
    rw [ldAll (k := 7) (k49.get hy4 (by simp)) rfl]
    refine does_spec hdo hW9 fun w10 S10 h10 k10 hS10 => ?_
    have s4l := k49.size
    have k410 : Kp [] w4 w10 := k49.trans k10 fun q hq hlt => by have := hnW q hq; omega
    have c10 := c4.keep k410
    have hz10 := k410.get hz4 (by simp)
    simp only [bq_neq, bV_b, decide_eq_true_eq, decide_eq_false_iff_not]
    refine ⟨fun e => give _ w10 c10 hz10 (by unfold stepL; rw [if_neg (by simp [hok]), if_pos e]), fun e => ?_⟩
    obtain ⟨l', hl'⟩ : ∃ l', l' = (doesL l o).1 := ⟨_, rfl⟩
    rw [← hl'] at h10
    have h10d := h10.keep kp_drew
    obtain ⟨va', vb', vc', SA', SB', SC', hbx, hSx⟩ := h10d.ex
    have hlx : ∀ i (hi : i < 3) v' (hv' : ([(⟨va', 4, l'.st.map sC, SA'⟩ : Cmp), ⟨vb', 6, l'.ho.map hC, SB'⟩, ⟨vc', 6, l'.mo.map hC, SC'⟩].map (fun x : Cmp => x.v) ++ [Value.int .i64 l'.ops])[i]? = some v') (K : Value → Prop), ld1 (.pointer (some ⟨x, i, none⟩)) w10.drew K = K v' := fun i hi v' hv' K => ldF hbx.cell (by simpa using hv')
    obtain ⟨aa, ac, ha', _⟩ := (hbx.rows 0 (by simp)).len
    obtain ⟨ba, bc, hb', _⟩ := (hbx.rows 1 (by simp)).len
    obtain ⟨ca, cc, hc', _⟩ := (hbx.rows 2 (by simp)).len
    simp only [List.getElem_cons_zero, List.getElem_cons_succ, List.length_map] at ha' hb' hc'
    have la' : ∀ K : Value → Prop, lenL va' K = K (.int .i64 l'.st.length) := fun K => by rw [ha']; rfl
    have lb' : ∀ K : Value → Prop, lenL vb' K = K (.int .i64 l'.ho.length) := fun K => by rw [hb']; rfl
    have lc' : ∀ K : Value → Prop, lenL vc' K = K (.int .i64 l'.mo.length) := fun K => by rw [hc']; rfl
    rw [hlx 0 (by omega) va' rfl, la', hlx 1 (by omega) vb' rfl, lb', hlx 2 (by omega) vc' rfl, lc']
    rw [qG_of run_max3]
    have c10d := c10.keep kp_drew
    have hz10d := kp_drew.get hz10 (by simp)
    have e0 : (doesL l o).2 = 0 := Decidable.not_not.1 e
    simp only [bq_gtr, bV_b, decide_eq_true_eq, decide_eq_false_iff_not]
    refine ⟨fun e2 => ?_, fun e2 => ?_⟩
    · exact give 2 w10.drew c10d hz10d (by
        unfold stepL
        rw [if_neg (by simp [hok]), if_neg e, if_pos (.inl (by unfold fullL; rw [← hl']; exact decide_eq_true (by omega)))])
    · obtain ⟨xa, xb, xc, hxx, _⟩ := c10d.ex
      rw [ldF hxx (j := 3) (x := .int .i64 l.ops) rfl]
      simp only [bq_geq, bV_b, decide_eq_true_eq, decide_eq_false_iff_not]
      refine ⟨fun e3 => give 2 w10.drew c10d hz10d (by unfold stepL; rw [if_neg (by simp [hok]), if_neg e, if_pos (.inr (by omega))]), fun e3 => ?_⟩
      have hstep : stepL l o = ({ l' with ops := l.ops + 1 }, 0) := by
        unfold stepL
        rw [if_neg (by simp [hok]), if_neg e, if_neg, hl']
        rw [not_or]
        refine ⟨?_, by omega⟩
        unfold fullL
        rw [← hl', decide_eq_true_eq]
        omega
      have hops : l'.ops = l.ops := by
        rw [hl']
        exact (doesL_ops l o)
      unfold ledger_step_s0
      simp only [fa_p, nk_p, Nat.add_zero, Nat.zero_add]
      have hcell := hbx.cell
      have hops0 := hm.ops
      have hiw : IntKind.i64.wrap (l'.ops + 1) = l.ops + 1 := by rw [hops, w64 (by omega) (by omega)]
      rw [ldF hcell (j := 3) (x := .int .i64 l'.ops) rfl]
      simp only [bq_add, hiw]
      rw [stF hcell (by simp) rfl]
      obtain ⟨wA, hwA⟩ : ∃ wA, wA = setBlk w10.drew x (.cells #[va', vb', vc', .int .i64 (l.ops + 1)] 169) := ⟨_, rfl⟩
      have hwA' : setBlk w10.drew x (.cells ((([(⟨va', 4, l'.st.map sC, SA'⟩ : Cmp), ⟨vb', 6, l'.ho.map hC, SB'⟩, ⟨vc', 6, l'.mo.map hC, SC'⟩].map (fun x : Cmp => x.v) ++ [Value.int .i64 l'.ops]).toArray).setIfInBounds 3 (.int .i64 (l.ops + 1))) 169) = wA := by rw [hwA]; rfl
      rw [hwA']
      have kA : Kp [x] w10.drew wA := by rw [hwA]; exact (Kp.refl _ _).setBlk (.inl (by simp)) _
      have hxA : wA.heap[x]? = some (.cells #[va', vb', vc', .int .i64 (l.ops + 1)] 169) := by rw [hwA]; exact heap_self (live_of hcell)
      have hn10 : ∀ q ∈ S10, w4.heap.size ≤ q := fun q hq => by
        rcases hS10 q hq with h | h
        · exact hnW q h
        · have := k49.size; omega
      have hzx : z ≠ x := by have := hk4.size; omega
      have hzA : wA.heap[z]? = some (.cells [.slice none 0 0, .slice none 0 0, .slice none 0 0, .int .i64 0].toArray 26) := kA.get hz10d (by simpa using hzx)
      have hx0' : ∀ i (hi : i < 3), x ∉ [SA', SB', SC'][i] := by
        intro i hi
        rcases (by omega : i = 0 ∨ i = 1 ∨ i = 2) with rfl | rfl | rfl
        · exact hbx.x_not (i := 0) (by simp)
        · exact hbx.x_not (i := 1) (by simp)
        · exact hbx.x_not (i := 2) (by simp)
      have rA := (hbx.rows 0 (by simp)).keep kA fun q hq => by simp; intro e; exact hx0' 0 (by omega) (e ▸ hq)
      have rB := (hbx.rows 1 (by simp)).keep kA fun q hq => by simp; intro e; exact hx0' 1 (by omega) (e ▸ hq)
      have rC := (hbx.rows 2 (by simp)).keep kA fun q hq => by simp; intro e; exact hx0' 2 (by omega) (e ▸ hq)
      simp only [List.getElem_cons_zero, List.getElem_cons_succ] at rA rB rC
      have hin : ∀ q ∈ SA' ++ (SB' ++ SC'), q ∈ S10 := fun q hq => by
        rw [hSx]
        simp only [blksC, List.map_cons, List.map_nil, List.flatten_cons, List.flatten_nil, List.append_nil, List.mem_cons]
        exact .inr hq
      have hltA := kA.size
      have hlt10 := h10d.lt
      have hvA : LedS wA (.agg #[va', vb', vc', .int .i64 (l.ops + 1)]) { l' with ops := l.ops + 1 } (SA' ++ (SB' ++ SC')) :=
        ⟨⟨va', vb', vc', SA', SB', SC', rfl, .inr rA.rd, .inr rB.rd, .inr rC.rd, rfl⟩, fun q hq => by have := hlt10 q (hin q hq); omega⟩
      rw [hstep] at hK
      have kfin : Kp [] w wA := by
        refine ((c10d.kp).mono (by simp)).trans kA fun q hq hlt => ?_
        simp at hq; omega
      rw [ldAll (k := 4) hxA rfl]
      refine led_put (K := fun v w => K (.tuple #[v, .int .i64 0]) w) hzA hvA (fun hm => by have := hn10 z (hin z hm); have := hk4.size; omega) fun w' hk' hv' => hK _ w' _ (kfin.trans hk' fun q hq hlt => by simp at hq; omega) hv' fun q hq => .inr (by have := hn10 q (hin q hq); omega)
end Go.Proofs

set_option linter.unusedVariables false
set_option linter.unusedSimpArgs false
namespace Go.Proofs
open Go Go.Q
structure LBox (w : World) (x : Nat) (a b c : Value) (l : LV) : Prop where
  h : w.heap[x]? = some (.cells #[a, b, c, .int .i64 l.ops] 26)
  a : Rd w a 4 (l.st.map sC)
  b : Rd w b 6 (l.ho.map hC)
  c : Rd w c 6 (l.mo.map hC)
section
variable {w0 w : World} {x : Nat} {a b c : Value} {l : LV}
theorem LBox.keep {w' : World} (h : LBox w x a b c l) (hk : Kp [] w w') : LBox w' x a b c l := ⟨hk.get h.h (by simp), h.a.keep hk, h.b.keep hk, h.c.keep hk⟩
theorem LBox.at (h : LBox w x a b c l) : LedAt w (.agg #[a, b, c, .int .i64 l.ops]) l := ⟨a, b, c, rfl, h.a, h.b, h.c⟩
theorem LBox.l0 (h : LBox w x a b c l) {K : Value → Prop} : ld1 (.pointer (some ⟨x, 0, none⟩)) w K = K a := ldF h.h rfl
theorem LBox.l1 (h : LBox w x a b c l) {K : Value → Prop} : ld1 (.pointer (some ⟨x, 1, none⟩)) w K = K b := ldF h.h rfl
theorem LBox.l2 (h : LBox w x a b c l) {K : Value → Prop} : ld1 (.pointer (some ⟨x, 2, none⟩)) w K = K c := ldF h.h rfl
theorem LBox.l3 (h : LBox w x a b c l) {K : Value → Prop} : ld1 (.pointer (some ⟨x, 3, none⟩)) w K = K (.int .i64 l.ops) := ldF h.h rfl
theorem LBox.ld (h : LBox w x a b c l) {K : Value → Prop} : ldn 4 (.pointer (some ⟨x, 0, none⟩)) w K = K (.agg #[a, b, c, .int .i64 l.ops]) := ldAll h.h rfl
theorem boxLed {v : Value} (hv : LedAt w v l) {K : Value → World → Prop} (hK : ∀ x a b c w1, w.heap.size ≤ x → Kp [] w w1 → LBox w1 x a b c l → v = .agg #[a, b, c, .int .i64 l.ops] → K (.pointer (some ⟨x, 0, none⟩)) w1) : newG (Value.cells v) 26 w K := by
  obtain ⟨a, b, c, rfl, h1, h2, h3⟩ := hv
  exact argBox (cs := [a, b, c, .int .i64 l.ops]) fun x w1 hx1 hh1 hk1 => hK x a b c w1 hx1 hk1 ⟨hh1, h1.keep hk1, h2.keep hk1, h3.keep hk1⟩ rfl
theorem rd_parts {α : Type} {f : α → List Value} {w : World} {v : Value} {k : Nat} {L : List α} (h : Rd w v k (L.map f)) {i : Nat} (hi : i < L.length) : ∃ p, (∀ K : Value → Prop, ia k v (.int .i64 i) K = K p) ∧ (∀ K : Value → Prop, ldn k p w K = K (.agg (f L[i]).toArray)) ∧ ∀ j x, (f L[i])[j]? = some x → ∀ K : Value → Prop, fa j p (fun q => ld1 q w K) = K x := by
  obtain ⟨p, h1, h2, h3⟩ := h.get (i := i) (by simpa using hi)
  have e : (L.map f)[i]'(by simpa using hi) = f L[i] := by simp
  refine ⟨p, fun K => h1 .i64 K, fun K => by rw [h2 K, e], fun j x hx K => ?_⟩
  obtain ⟨hj, hx⟩ := List.getElem?_eq_some_iff.1 hx
  rw [h3 j (by rw [e]; exact hj)]
  have : ((L.map f)[i]'(by simpa using hi))[j]'(by rw [e]; exact hj) = x := by rw [← hx]; congr 1
  rw [this]
end
end Go.Proofs

