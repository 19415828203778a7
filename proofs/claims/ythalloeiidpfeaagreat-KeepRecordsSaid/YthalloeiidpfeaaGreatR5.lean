/- Part of the proof (R5): an engine, rules or contracts of the functions; it states nothing of the claim by itself. -/
import Derived.Test.YthalloeiidpfeaaGreatR4
import Derived.Test.YthalloeiidpfeaaGreatR2
import Derived.Test.YthalloeiidpfeaaGreatR3
import Derived.Test.YthalloeiidpfeaaGreatR1

set_option linter.unusedVariables false
set_option linter.unusedSimpArgs false
namespace Go.Proofs
open Go Go.Q
open Tryz (prog)
theorem find1_spec {w : World} {p q : Nat} {sku loc : List UInt8} (s : SV) (hp : w.heap[p]? = some (.cells #[.string (str sku)] 9)) (hq : w.heap[q]? = some (.cells #[.string (str loc)] 9)) {K : KW} (hK : ∀ w', Kp [] w w' → K (.bool (atP s sku loc)) w') :
    callG prog 145 #[sA s, .pointer (some ⟨p, 0, none⟩), .pointer (some ⟨q, 0, none⟩)] w K := by
  refine Fn51_call ?_
  unfold Fn51 Fn51_s0
  refine argBox (cs := sC s) fun b w1 hb hh hk => ?_
  have h1 := hk.get hp (by simp)
  have h2 := hk.get hq (by simp)
  have hK := hK w1 hk
  unfold atP at hK
  simp [-getElem?_pos, -Array.all_eq_true, -Array.getElem?_eq_getElem, -List.length_flatten, gz0, gz1, hh, sC, h1, h2]
  refine ⟨fun e => ?_, fun e => ?_⟩
  · rw [e] at hK; simpa using hK
  · rw [decide_eq_false (fun hh => e hh.1)] at hK; exact hK
theorem has77 : hasBody prog 145 = true := by kernel_rfl
theorem idxS {st : List SV} {sku loc : List UInt8} : (∀ i, ∀ h : i < st.length, atP st[i] sku loc = true → (∀ j (hj : j < st.length), j < i → atP st[j] sku loc = false) → findS st sku loc = st[i]) ∧ ((∀ j (hj : j < st.length), atP st[j] sku loc = false) → findS st sku loc = ⟨sku, loc, 0, 0⟩) := by
  refine ⟨fun i h h1 h2 => ?_, fun h => ?_⟩
  · unfold findS
    have : st.find? (fun s => atP s sku loc) = some st[i] := by
      rw [List.find?_eq_some_iff_getElem]
      exact ⟨h1, i, h, rfl, fun j hj => by simpa using h2 j (by omega) hj⟩
    rw [this]; rfl
  · refine findS_none fun s hs hk => ?_
    obtain ⟨j, hj, rfl⟩ := List.getElem_of_mem hs
    have := h j hj
    simp [atP] at this
    exact this hk.1 hk.2
theorem indexFunc_spec {w : World} {v : Value} {st : List SV} {p q : Nat} {sku loc : List UInt8} (hr : Rd w v 4 (st.map sC)) (hp : w.heap[p]? = some (.cells #[.string (str sku)] 9)) (hq : w.heap[q]? = some (.cells #[.string (str loc)] 9)) (hl : st.length < 2 ^ 40) {K : KW}
    (hK1 : ∀ i w', Kp [] w w' → ∀ h : i < st.length, findS st sku loc = st[i] → K (.int .i64 (i : Nat)) w') (hK2 : ∀ w', Kp [] w w' → findS st sku loc = ⟨sku, loc, 0, 0⟩ → K (.int .i64 (-1)) w') :
    callG prog 144 #[v, .func (.func 145) #[] #[.pointer (some ⟨p, 0, none⟩), .pointer (some ⟨q, 0, none⟩)]] w K := by
  refine Fn104_call ?_
  unfold Fn104 Fn104_s4 Fn104_s3 Fn104_L2
  rw [hr.lenL, List.length_map]
  refine loop_inv (fun m xs wi => ∃ i, i ≤ st.length ∧ m = st.length - i ∧ xs = [v, .func (.func 145) #[] #[.pointer (some ⟨p, 0, none⟩), .pointer (some ⟨q, 0, none⟩)], .int .i64 st.length, .int .i64 (i : Nat)] ∧ Kp [] w wi ∧ ∀ j (hj : j < st.length), j < i → atP st[j] sku loc = false) ?_ (m := st.length) ⟨0, by omega, rfl, rfl, Kp.refl _ _, fun j _ h => by omega⟩
  rintro m N xs wi ⟨i, hi, rfl, rfl, hk, hno⟩ hN
  have hiw : IntKind.i64.wrap ((i : Int) + 1) = ((i + 1 : Nat) : Int) := by rw [w64 (by omega) (by omega)]; simp
  unfold Fn104_L2F Fn104_b1
  simp [-getElem?_pos, -Array.all_eq_true, -Array.getElem?_eq_getElem, -List.length_flatten, gz0, gz1, -ldn_p]
  refine ⟨fun hlt => ?_, fun hge => ?_⟩
  · obtain ⟨pp, h1, h2⟩ := rd_stock (hr.keep hk) hlt
    rw [h1, h2]
    refine ⟨has77, ?_⟩
    have harr : (#[] ++ #[sA st[i]] ++ #[.pointer (some ⟨p, 0, none⟩), .pointer (some ⟨q, 0, none⟩)] : Array Value) = #[sA st[i], .pointer (some ⟨p, 0, none⟩), .pointer (some ⟨q, 0, none⟩)] := rfl
    rw [harr]
    refine find1_spec st[i] (hk.get hp (by simp)) (hk.get hq (by simp)) fun w1 hk1 => ?_
    cases hc : atP st[i] sku loc with
      | true =>
        simp [-getElem?_pos, -Array.all_eq_true, -Array.getElem?_eq_getElem, -List.length_flatten, gz0, gz1]
        exact hK1 i w1 (hk.trans' hk1) hlt (idxS.1 i hlt hc hno)
      | false =>
        simp [-getElem?_pos, -Array.all_eq_true, -Array.getElem?_eq_getElem, -List.length_flatten, gz0, gz1, hiw]
        refine hN (st.length - (i + 1)) _ w1 (by omega) ⟨i + 1, by omega, rfl, by simp, hk.trans' hk1, fun j hj hji => ?_⟩
        by_cases he : j = i
        · subst he; exact hc
        · exact hno j hj (by omega)
  · unfold Fn104_s0
    exact hK2 wi hk (idxS.2 fun j hj => hno j hj (by omega))
theorem zc44s : zc prog 48 = [.string (str []), .string (str []), .int .i64 0, .int .i64 0].toArray := zcStock
theorem Find_spec7 {w : World} {v : Value} {l : LV} (hv : LedAt w v l) (hl : l.st.length < 2 ^ 40) (sku loc : List UInt8) {K : KW} (hK : ∀ w', Kp [] w w' → K (sA (findS l.st sku loc)) w') : callG prog 133 #[v, .string (str sku), .string (str loc)] w K := by
  refine Fn50_call ?_
  obtain ⟨a, b, c, rfl, h1, h2, h3⟩ := hv
  unfold Fn50 Fn50_s0
  refine argBox (cs := [a, b, c, .int .i64 l.ops]) fun x w1 hx1 hh1 hk1 => ?_
  simp only [newG_k, cells_str, zc44s]
  obtain ⟨p, hp⟩ : ∃ p, p = w1.heap.size := ⟨_, rfl⟩
  obtain ⟨w2, hw2⟩ := ex_w (w' := w1.alloc (.cells #[.string (str sku)] 9))
  have hk2 : Kp [] w1 w2 := by rw [hw2]; exact kp_alloc
  have hb2 : w2.heap[p]? = some (.cells #[.string (str sku)] 9) := by rw [hw2, hp]; exact heap_new
  rw [← hw2, ← hp]
  obtain ⟨q, hq⟩ : ∃ q, q = w2.heap.size := ⟨_, rfl⟩
  obtain ⟨w3, hw3⟩ := ex_w (w' := w2.alloc (.cells #[.string (str loc)] 9))
  have hk3 : Kp [] w2 w3 := by rw [hw3]; exact kp_alloc
  have hb3 : w3.heap[q]? = some (.cells #[.string (str loc)] 9) := by rw [hw3, hq]; exact heap_new
  rw [← hw3, ← hq]
  obtain ⟨r, hr⟩ : ∃ r, r = w3.heap.size := ⟨_, rfl⟩
  obtain ⟨w4, hw4⟩ := ex_w (w' := w3.alloc (.cells [.string (str []), .string (str []), .int .i64 0, .int .i64 0].toArray 48))
  have hk4 : Kp [] w3 w4 := by rw [hw4]; exact kp_alloc
  have hb4 : w4.heap[r]? = some (.cells [.string (str []), .string (str []), .int .i64 0, .int .i64 0].toArray 48) := by rw [hw4, hr]; exact heap_new
  rw [← hw4, ← hr]
  have g1 := ((hk2.trans' hk3).trans' hk4).get hh1 (by simp)
  have g2 := (hk3.trans' hk4).get hb2 (by simp)
  have g3 := hk4.get hb3 (by simp)
  have kk := ((hk1.trans' hk2).trans' hk3).trans' hk4
  have hrs : w.heap.size ≤ r := by have := (hk1.trans' hk2).size; have := hk3.size; omega
  have mk77 : ∀ {K : Value → Prop}, qG prog (Instr.makeFunc (.func 145) #[] #[.pointer (some ⟨p, 0, none⟩), .pointer (some ⟨q, 0, none⟩)]) w4 K = K (.func (.func 145) #[] #[.pointer (some ⟨p, 0, none⟩), .pointer (some ⟨q, 0, none⟩)]) := qG_of rfl
  simp [-getElem?_pos, -Array.all_eq_true, -Array.getElem?_eq_getElem, -List.length_flatten, gz0, gz1, g1, mk77, -ldn_p, -stn_p]
  refine indexFunc_spec (h1.keep kk) g2 g3 hl (fun i w5 hk5 hi hf => ?_) (fun w5 hk5 hf => ?_)
  · have e1 := hk5.get g1 (by simp)
    have e4 := hk5.get hb4 (by simp)
    have l4 := live_of e4
    obtain ⟨pp, i1, i2⟩ := rd_stock (h1.keep (kk.trans' hk5)) hi
    have hneg : ¬ ((i : Int) < 0) := by omega
    simp [-getElem?_pos, -Array.all_eq_true, -Array.getElem?_eq_getElem, -List.length_flatten, gz0, gz1, e1, hneg, -ldn_p, -stn_p]
    rw [i1, i2]
    have := hK (setBlk w5 r (.cells (sC l.st[i]).toArray 48)) ((kk.trans' hk5).setBlk (.inr hrs) _)
    rw [hf] at this
    unfold sA at this ⊢
    unfold sC at this
    simp [-getElem?_pos, -Array.all_eq_true, -Array.getElem?_eq_getElem, -List.length_flatten, gz0, gz1, e4, lvStock, l4]
    exact this
  · have e2 := hk5.get g2 (by simp)
    have e3 := hk5.get g3 (by simp)
    have e4 := hk5.get hb4 (by simp)
    have l4 := live_of e4
    have := hK (setBlk w5 r (.cells (sC ⟨sku, loc, 0, 0⟩).toArray 48)) ((kk.trans' hk5).setBlk (.inr hrs) _)
    rw [hf] at this
    unfold sA sC at this
    simp [-getElem?_pos, -Array.all_eq_true, -Array.getElem?_eq_getElem, -List.length_flatten, gz0, gz1, e2, e3, e4, zcStock, str_nil, bld_done, bld_if, offAt, putAt, lvStock, l4]
    exact this
end Go.Proofs

set_option linter.unusedVariables false
set_option linter.unusedSimpArgs false
namespace Go.Proofs
open Go Go.Q
open Tryz (prog)
theorem Free_spec7 {w : World} {v : Value} {l : LV} (hm : May l) (hv : LedAt w v l) (sku loc : List UInt8) {K : KW} (hK : ∀ w', Kp [] w w' → K (.int .i64 (freeL l sku loc)) w') : callG prog 131 #[v, .string (str sku), .string (str loc)] w K := by
  refine Fn52_call ?_
  obtain ⟨a, b, c, hve, h1, h2, h3⟩ := hv
  have hfew := hm.few
  simp only [fullL, decide_eq_false_iff_not, not_or] at hfew
  obtain ⟨g1, g2, g3, g4, g5⟩ := hm.f.find sku loc
  have gf := fits_iff.1 g5
  unfold Fn52 Fn52_s0
  subst hve
  refine argBox (cs := [a, b, c, .int .i64 l.ops]) fun x w1 hx1 hh1 hk1 => ?_
  have hld : ldn 4 (.pointer (some ⟨x, 0, none⟩)) w1 = fun K => K (.agg #[a, b, c, .int .i64 l.ops]) := by
    funext K
    exact ldAll hh1 rfl
  rw [hld]
  refine Find_spec7 (l := l) ⟨a, b, c, rfl, h1.keep hk1, h2.keep hk1, h3.keep hk1⟩ (by omega) sku loc fun w2 hk2 => ?_
  refine boxStock (o := findS l.st sku loc) (by kernel_rfl) fun p w3 hp hh3 hk3 => ?_
  unfold sC at hh3
  simp [-getElem?_pos, -Array.all_eq_true, -Array.getElem?_eq_getElem, -List.length_flatten, gz0, gz1, hh3]
  refine numSub_spec (by unfold rngI; omega) (by unfold rngI; omega) ?_
  simp [-getElem?_pos, -Array.all_eq_true, -Array.getElem?_eq_getElem, -List.length_flatten, gz0, gz1]
  exact hK w3 ((hk1.trans' hk2).trans' hk3)
theorem rd_none {w : World} {k l c : Nat} {rows : List (List Value)} (h : Rd w (.slice none l c) k rows) : rows = [] := by
  obtain ⟨S, ⟨a, cap, h1, h2⟩ | h⟩ := h
  · exact h2
  · rcases h with ⟨_, h2⟩ | ⟨bl, o, cap, c, T, fr, h1, _⟩
    · exact h2
    · cases h1
theorem cloneStock_spec {w : World} {v : Value} {l : List SV} (h : Rd w v 4 (l.map sC)) (hl : l.length < 2 ^ 30) {K : KW} (hK : ∀ v' w', Fr w w' v' 4 (l.map sC) → K v' w') :
    callG prog 45 #[v] w K := by
  refine Fn101_call ?_
  simp only [Fn101, Fn101_s0]
  obtain ⟨sa, sc, hv⟩ := h.slice
  have hnil : sa = none → l = [] := by
    intro h0
    subst h0
    rw [hv] at h
    simpa using rd_none h
  rw [hv, bq_sleql _ _ _ _ _ (by kernel_rfl)]
  simp only [bV_b]
  refine ⟨fun h0 => ?_, fun h0 => ?_⟩
  · have : l = [] := hnil (by simpa using h0)
    subst this
    exact hK _ w (fr_nil (Kp.refl _ _))
  · have hb : ∀ K : KW, bsl 48 4 0 (zc prog 48) #[] w K = K (.slice (some ⟨w.heap.size, 0, none⟩) 0 0) (w.alloc (.cells #[] 48)) := by
      intro K
      have hr : rep (zc prog 48) (0 * 4) = #[] := by simp [rep]
      unfold bsl
      rw [hr]
      rfl
    rw [hb]
    obtain ⟨w1, hw1⟩ : ∃ w1, w1 = w.alloc (.cells #[] 48) := ⟨_, rfl⟩
    have hk1 : Kp [] w w1 := by rw [hw1]; exact (Kp.refl [] w).alloc _
    have hb1 : w1.heap[w.heap.size]? = some (.cells #[] 48) := by rw [hw1]; exact heap_new
    rw [← hw1, ← hv]
    have h1 : Fr w w1 (.slice (some ⟨w.heap.size, 0, none⟩) 0 0) 4 [] := ⟨⟨[w.heap.size], .inr ⟨_, [], _, rfl, rfl, hb1, by simp, rfl, by simp⟩, by simp⟩, hk1⟩
    have hs := h.keep hk1
    rw [show zc prog 48 = [.string (str []), .string (str []), .int .i64 0, .int .i64 0].toArray by kernel_rfl]
    refine fr_app (z := [.string (str []), .string (str []), .int .i64 0, .int .i64 0]) (G := l.map sC) h1 (by omega) rfl (fun y hy => hs.row hy) ?_ (fun K' hK' => hs.src K' hK') (by simp; omega) (by simp; omega) fun v2 w2 h2 => hK v2 w2 (by simpa using h2)
    rw [List.all_eq_true]
    intro x hx
    obtain ⟨r, hr, hxr⟩ := List.mem_flatten.1 hx
    obtain ⟨y, _, rfl⟩ := List.mem_map.1 hr
    simp only [sC, List.mem_cons, List.not_mem_nil, or_false] at hxr
    rcases hxr with rfl | rfl | rfl | rfl <;> rfl
theorem cloneHold_spec {w : World} {v : Value} {l : List HV} (h : Rd w v 6 (l.map hC)) (hl : l.length < 2 ^ 30) {K : KW} (hK : ∀ v' w', Fr w w' v' 6 (l.map hC) → K v' w') :
    callG prog 46 #[v] w K := by
  refine Fn99_call ?_
  simp only [Fn99, Fn99_s0]
  obtain ⟨sa, sc, hv⟩ := h.slice
  have hnil : sa = none → l = [] := by
    intro h0
    subst h0
    rw [hv] at h
    simpa using rd_none h
  rw [hv, bq_sleql _ _ _ _ _ (by kernel_rfl)]
  simp only [bV_b]
  refine ⟨fun h0 => ?_, fun h0 => ?_⟩
  · have : l = [] := hnil (by simpa using h0)
    subst this
    exact hK _ w (fr_nil (Kp.refl _ _))
  · have hb : ∀ K : KW, bsl 70 6 0 (zc prog 70) #[] w K = K (.slice (some ⟨w.heap.size, 0, none⟩) 0 0) (w.alloc (.cells #[] 70)) := by
      intro K
      have hr : rep (zc prog 70) (0 * 6) = #[] := by simp [rep]
      unfold bsl
      rw [hr]
      rfl
    rw [hb]
    obtain ⟨w1, hw1⟩ : ∃ w1, w1 = w.alloc (.cells #[] 70) := ⟨_, rfl⟩
    have hk1 : Kp [] w w1 := by rw [hw1]; exact (Kp.refl [] w).alloc _
    have hb1 : w1.heap[w.heap.size]? = some (.cells #[] 70) := by rw [hw1]; exact heap_new
    rw [← hw1, ← hv]
    have h1 : Fr w w1 (.slice (some ⟨w.heap.size, 0, none⟩) 0 0) 6 [] := ⟨⟨[w.heap.size], .inr ⟨_, [], _, rfl, rfl, hb1, by simp, rfl, by simp⟩, by simp⟩, hk1⟩
    have hs := h.keep hk1
    rw [show zc prog 70 = [.int .i64 0, .string (str []), .string (str []), .int .i64 0, .int .i64 0, .int .i64 0].toArray by kernel_rfl]
    refine fr_app (z := [.int .i64 0, .string (str []), .string (str []), .int .i64 0, .int .i64 0, .int .i64 0]) (G := l.map hC) h1 (by omega) rfl (fun y hy => hs.row hy) ?_ (fun K' hK' => hs.src K' hK') (by simp; omega) (by simp; omega) fun v2 w2 h2 => hK v2 w2 (by simpa using h2)
    rw [List.all_eq_true]
    intro x hx
    obtain ⟨r, hr, hxr⟩ := List.mem_flatten.1 hx
    obtain ⟨y, _, rfl⟩ := List.mem_map.1 hr
    simp only [hC, List.mem_cons, List.not_mem_nil, or_false] at hxr
    rcases hxr with rfl | rfl | rfl | rfl | rfl | rfl <;> rfl
theorem cloneMove_spec {w : World} {v : Value} {l : List HV} (h : Rd w v 6 (l.map hC)) (hl : l.length < 2 ^ 30) {K : KW} (hK : ∀ v' w', Fr w w' v' 6 (l.map hC) → K v' w') :
    callG prog 47 #[v] w K := by
  refine Fn100_call ?_
  simp only [Fn100, Fn100_s0]
  obtain ⟨sa, sc, hv⟩ := h.slice
  have hnil : sa = none → l = [] := by
    intro h0
    subst h0
    rw [hv] at h
    simpa using rd_none h
  rw [hv, bq_sleql _ _ _ _ _ (by kernel_rfl)]
  simp only [bV_b]
  refine ⟨fun h0 => ?_, fun h0 => ?_⟩
  · have : l = [] := hnil (by simpa using h0)
    subst this
    exact hK _ w (fr_nil (Kp.refl _ _))
  · have hb : ∀ K : KW, bsl 73 6 0 (zc prog 73) #[] w K = K (.slice (some ⟨w.heap.size, 0, none⟩) 0 0) (w.alloc (.cells #[] 73)) := by
      intro K
      have hr : rep (zc prog 73) (0 * 6) = #[] := by simp [rep]
      unfold bsl
      rw [hr]
      rfl
    rw [hb]
    obtain ⟨w1, hw1⟩ : ∃ w1, w1 = w.alloc (.cells #[] 73) := ⟨_, rfl⟩
    have hk1 : Kp [] w w1 := by rw [hw1]; exact (Kp.refl [] w).alloc _
    have hb1 : w1.heap[w.heap.size]? = some (.cells #[] 73) := by rw [hw1]; exact heap_new
    rw [← hw1, ← hv]
    have h1 : Fr w w1 (.slice (some ⟨w.heap.size, 0, none⟩) 0 0) 6 [] := ⟨⟨[w.heap.size], .inr ⟨_, [], _, rfl, rfl, hb1, by simp, rfl, by simp⟩, by simp⟩, hk1⟩
    have hs := h.keep hk1
    rw [show zc prog 73 = [.int .i64 0, .string (str []), .string (str []), .int .i64 0, .int .i64 0, .int .i64 0].toArray by kernel_rfl]
    refine fr_app (z := [.int .i64 0, .string (str []), .string (str []), .int .i64 0, .int .i64 0, .int .i64 0]) (G := l.map hC) h1 (by omega) rfl (fun y hy => hs.row hy) ?_ (fun K' hK' => hs.src K' hK') (by simp; omega) (by simp; omega) fun v2 w2 h2 => hK v2 w2 (by simpa using h2)
    rw [List.all_eq_true]
    intro x hx
    obtain ⟨r, hr, hxr⟩ := List.mem_flatten.1 hx
    obtain ⟨y, _, rfl⟩ := List.mem_map.1 hr
    simp only [hC, List.mem_cons, List.not_mem_nil, or_false] at hxr
    rcases hxr with rfl | rfl | rfl | rfl | rfl | rfl <;> rfl
end Go.Proofs

set_option linter.unusedVariables false
set_option linter.unusedSimpArgs false
namespace Go.Proofs
open Go Go.Q
open Tryz (prog)
theorem index1_spec {w : World} (s : SV) (sku loc : List UInt8) {K : KW} (hK : ∀ w', Kp [] w w' → K (.int .i64 (ordL s.sku s.loc sku loc)) w') : callG prog 150 #[sA s, keyV sku loc] w K := by
  refine Fn56_call ?_
  unfold Fn56 Fn56_s0
  refine argBox (cs := sC s) fun b w1 hb hh hk => ?_
  refine argBox (cs := [.string (str sku), .string (str loc)]) fun b2 w2 hb2 hh2 hk2 => ?_
  have h1 := (hk2.trans' kp_drew).get hh (by simp)
  have h2 := kp_drew.get hh2 (by simp)
  rw [ldStock h1, ldPl h2]
  refine of_spec7 s fun w3 hk3 => ?_
  rw [ldPl (hk3.get h2 (by simp))]
  refine ⟨rfl, order_spec _ _ _ _ fun w4 hk4 => ?_⟩
  exact hK w4 (((hk.trans' (hk2.trans' kp_drew)).trans' hk3).trans' hk4)
theorem has129 : hasBody prog 150 = true := by kernel_rfl
theorem index_spec {w : World} {v : Value} {st : List SV} (hs : Sorted st) (hr : Rd w v 4 (st.map sC)) (hl : st.length < 2 ^ 40) (sku loc : List UInt8) {K : KW}
    (hK : ∀ k w', Kp [] w w' → k ≤ st.length → (∀ j (hj : j < st.length), j < k → Q.ahead st[j] ⟨sku, loc, 0, 0⟩ = true) → (∀ j (hj : j < st.length), k ≤ j → Q.ahead st[j] ⟨sku, loc, 0, 0⟩ = false) →
      K (.tuple #[.int .i64 (k : Nat), .bool (st.any fun s => atP s sku loc)]) w') : callG prog 146 #[v, keyV sku loc] w K := by
  refine Fn55_call ?_
  unfold Fn55 Fn55_s0
  refine argBox (cs := [.string (str sku), .string (str loc)]) fun b w1 hb hh hk => ?_
  rw [ldPl hh]
  refine Fn98_call ?_
  unfold Fn98 Fn98_s3
  refine argBox (cs := [.string (str sku), .string (str loc)]) fun p w2 hp hh2 hk2 => ?_
  rw [(hr.keep (hk.trans' hk2)).lenL, List.length_map]
  unfold Fn98_L2
  refine loop_inv (fun m xs wi => ∃ i j : Nat, i ≤ j ∧ j ≤ st.length ∧ m = j - i ∧ xs = [v, .func (.func 150) #[] #[], .pointer (some ⟨p, 0, none⟩), .int .i64 st.length, .int .i64 (i : Nat), .int .i64 (j : Nat)] ∧ Kp [] w2 wi ∧
      (∀ t (ht : t < st.length), t < i → Q.ahead st[t] ⟨sku, loc, 0, 0⟩ = true) ∧ (∀ t (ht : t < st.length), j ≤ t → Q.ahead st[t] ⟨sku, loc, 0, 0⟩ = false)) ?_ (m := st.length)
    ⟨0, st.length, by omega, by omega, by omega, rfl, Kp.refl _ _, fun t _ h => by omega, fun t ht h => by omega⟩
  rintro m N xs wi ⟨i, j, hij, hj, rfl, rfl, hki, hlow, hhigh⟩ hN
  have hpl := hki.get hh2 (by simp)
  have hpld := kp_drew.get hpl (by simp)
  have kk := (hk.trans' hk2).trans' hki
  have harr : ∀ a b : Value, (#[] ++ #[a, b] ++ #[] : Array Value) = #[a, b] := fun _ _ => rfl
  unfold Fn98_L2F Fn98_b1
  have e1 : IntKind.i64.wrap ((i : Int) + j) = (i : Int) + j := w64 (by omega) (by omega)
  have e2 : IntKind.u64.wrap ((i : Int) + j) = (i : Int) + j := by rw [wrapU]; omega
  simp [-getElem?_pos, -Array.all_eq_true, -Array.getElem?_eq_getElem, -List.length_flatten, gz0, gz1, e1, e2, -ldn_p]
  refine ⟨fun hlt => ?_, fun hge => ?_⟩
  · rw [shr_of (by omega) (by decide)]
    obtain ⟨h, hh'⟩ : ∃ h : Nat, h = (i + j) / 2 := ⟨_, rfl⟩
    have e3 : ((i : Int) + j) / 2 ^ (1 : Int).toNat = (h : Int) := by
      rw [show (2 : Int) ^ (1 : Int).toNat = 2 by decide]; omega
    have e4 : IntKind.i64.wrap (h : Int) = (h : Int) := w64 (by omega) (by omega)
    have e5 : IntKind.i64.wrap ((h : Int) + 1) = ((h + 1 : Nat) : Int) := by rw [w64 (by omega) (by omega)]; simp
    obtain ⟨q, q1, q2⟩ := rd_stock (hr.keep (kk.trans' kp_drew)) (i := h) (by omega)
    rw [e3]
    simp [-getElem?_pos, -Array.all_eq_true, -Array.getElem?_eq_getElem, -List.length_flatten, gz0, gz1, e4, -ldn_p]
    rw [q1, q2, ldPl hpld]
    refine ⟨has129, ?_⟩
    rw [harr]
    refine index1_spec st[h] sku loc fun w3 hk3 => ?_
    have hk23 : Kp [] w2 w3 := hki.trans' (kp_drew.trans' hk3)
    have hneg := ordL_neg (a := st[h]) (b := ⟨sku, loc, 0, 0⟩)
    simp only at hneg
    cases ha : Q.ahead st[h] ⟨sku, loc, 0, 0⟩ with
    | true =>
      have hn := hneg.2 ha
      simp [-getElem?_pos, -Array.all_eq_true, -Array.getElem?_eq_getElem, -List.length_flatten, gz0, gz1, hn, e5]
      refine hN (j - (h + 1)) _ w3 (by omega) ⟨h + 1, j, by omega, hj, rfl, by simp, hk23, fun t ht hti => ?_, hhigh⟩
      by_cases he : t = h
      · subst he; exact ha
      · have := List.pairwise_iff_getElem.1 hs t h ht (by omega) (by omega)
        exact ahead_trans this ha
    | false =>
      have hn : ¬ (ordL st[h].sku st[h].loc sku loc < 0) := fun hh => by rw [hneg.1 hh] at ha; cases ha
      simp [-getElem?_pos, -Array.all_eq_true, -Array.getElem?_eq_getElem, -List.length_flatten, gz0, gz1, hn]
      refine hN (h - i) _ w3 (by omega) ⟨i, h, by omega, by omega, rfl, rfl, hk23, hlow, fun t ht hti => ?_⟩
      by_cases he : t = h
      · subst he; exact ha
      · cases hc : Q.ahead st[t] ⟨sku, loc, 0, 0⟩ with
        | false => rfl
        | true =>
          have := List.pairwise_iff_getElem.1 hs h t (by omega) ht (by omega)
          rw [ahead_trans this hc] at ha
          cases ha
  · have hie : i = j := by omega
    subst hie
    unfold Fn98_s0
    simp [-getElem?_pos, -Array.all_eq_true, -Array.getElem?_eq_getElem, -List.length_flatten, gz0, gz1, -ldn_p]
    refine ⟨fun hlt => ?_, fun hge => ?_⟩
    · obtain ⟨q, q1, q2⟩ := rd_stock (hr.keep (kk.trans' kp_drew)) (i := i) hlt
      rw [q1, q2, ldPl hpld]
      refine ⟨has129, ?_⟩
      rw [harr]
      refine index1_spec st[i] sku loc fun w3 hk3 => ?_
      simp [-getElem?_pos, -Array.all_eq_true, -Array.getElem?_eq_getElem, -List.length_flatten, gz0, gz1]
      have hK := hK i w3 ((kk.trans' kp_drew).trans' hk3) hj hlow hhigh
      have e : (st.any fun s => atP s sku loc) = decide (ordL st[i].sku st[i].loc sku loc = 0) := by
        rw [Bool.eq_iff_iff]
        simp only [List.any_eq_true, decide_eq_true_eq, atP]
        constructor
        · rintro ⟨s, hs', h1, h2⟩
          obtain ⟨t, ht, rfl⟩ := List.getElem_of_mem hs'
          have hnot : Q.ahead st[t] ⟨sku, loc, 0, 0⟩ = false := by rw [ahead_key (a' := ⟨sku, loc, 0, 0⟩) (b' := ⟨sku, loc, 0, 0⟩) h1 h2 rfl rfl, ahead_irrefl]
          have hti : i ≤ t := by
            rcases Nat.lt_or_ge t i with h | h
            · rw [hlow t ht h] at hnot; cases hnot
            · exact h
          by_cases he : t = i
          · subst he; exact ordL_zero.2 ⟨h1, h2⟩
          · exfalso
            have hp' := List.pairwise_iff_getElem.1 hs i t hlt ht (by omega)
            rw [ahead_key (b' := ⟨sku, loc, 0, 0⟩) rfl rfl h1 h2] at hp'
            have := hhigh i hlt (Nat.le_refl _)
            rw [hp'] at this
            cases this
        · intro h0
          obtain ⟨h1, h2⟩ := ordL_zero.1 h0
          exact ⟨st[i], List.getElem_mem hlt, h1, h2⟩
      rw [e] at hK
      exact hK
    · have hin : i = st.length := by omega
      have hK := hK i wi.drew (kk.trans' kp_drew) hj hlow hhigh
      have e : (st.any fun s => atP s sku loc) = false := by
        rw [Bool.eq_false_iff]
        intro h
        simp only [List.any_eq_true, decide_eq_true_eq, atP] at h
        obtain ⟨s, hs', h1, h2⟩ := h
        obtain ⟨t, ht, rfl⟩ := List.getElem_of_mem hs'
        have := hlow t ht (by omega)
        rw [ahead_key (a' := ⟨sku, loc, 0, 0⟩) (b' := ⟨sku, loc, 0, 0⟩) h1 h2 rfl rfl, ahead_irrefl] at this
        cases this
      rw [e] at hK
      exact hK
end Go.Proofs

set_option linter.unusedVariables false
set_option linter.unusedSimpArgs false
namespace Go.Proofs
open Go Go.Q
open Tryz (prog)
theorem sLt_str (a b : List UInt8) : sLt (str a) (str b) = lexL a b := by
  unfold sLt lexL
  rw [ByteArray.toList_eq, ByteArray.toList_eq]
  rfl
theorem refAhead_spec {w : World} (a b : SV) {K : KW} (hK : ∀ w', Kp [] w w' → K (.bool (Q.ahead a b)) w') : callG prog 69 #[sA a, sA b] w K := by
  refine Fn91_call ?_
  unfold Fn91 Fn91_s0
  refine argBox (cs := sC a) fun p w1 hp hh hk => ?_
  refine argBox (cs := sC b) fun q w2 hq hh2 hk2 => ?_
  have h1 := hk2.get hh (by simp)
  have hK := hK w2 (hk.trans' hk2)
  unfold Q.ahead at hK
  unfold sC at h1 hh2
  simp [-getElem?_pos, -Array.all_eq_true, -Array.getElem?_eq_getElem, -List.length_flatten, gz0, gz1, h1, hh2, sLt_str]
  refine ⟨fun e => by simpa [e] using hK, fun e => ⟨fun e2 => ?_, fun e2 => ?_⟩⟩
  · simpa [e, e2, lexL_irrefl] using hK
  · simpa [e, e2] using hK
theorem refIndex_spec {w : World} {v : Value} {l : LV} (hv : LedAt w v l) (hl : l.st.length < 2 ^ 40) (sku loc : List UInt8) {K : KW}
    (hK1 : ∀ i w', Kp [] w w' → ∀ h : i < l.st.length, findS l.st sku loc = l.st[i] → atP l.st[i] sku loc = true → K (.int .i64 (i : Nat)) w') (hK2 : ∀ w', Kp [] w w' → findS l.st sku loc = ⟨sku, loc, 0, 0⟩ → knownL l sku loc = false → K (.int .i64 (-1)) w') :
    callG prog 48 #[v, .string (str sku), .string (str loc)] w K := by
  refine Fn93_call ?_
  obtain ⟨a, b, c, rfl, h1, h2, h3⟩ := hv
  unfold Fn93 Fn93_s4
  refine argBox (cs := [a, b, c, .int .i64 l.ops]) fun x w1 hx1 hh1 hk1 => ?_
  have r1 := h1.keep hk1
  unfold Fn93_s3 Fn93_L2
  refine loop_inv (fun m xs wi => ∃ i, i ≤ l.st.length ∧ m = l.st.length - i ∧ xs = [.string (str sku), .string (str loc), .pointer (some ⟨x, 0, none⟩), .int .i64 (i : Nat)] ∧ wi = w1 ∧ ∀ j (hj : j < l.st.length), j < i → atP l.st[j] sku loc = false) ?_ (m := l.st.length) ⟨0, by omega, rfl, rfl, rfl, fun j _ h => by omega⟩
  rintro m N xs wi ⟨i, hi, rfl, rfl, rfl, hno⟩ hN
  have hiw : IntKind.i64.wrap ((i : Int) + 1) = ((i + 1 : Nat) : Int) := by rw [w64 (by omega) (by omega)]; simp
  unfold Fn93_L2F Fn93_b1
  simp [-getElem?_pos, -Array.all_eq_true, -Array.getElem?_eq_getElem, -List.length_flatten, gz0, gz1, hh1, r1.lenL]
  refine ⟨fun hlt => ?_, fun hge => ?_⟩
  · obtain ⟨p, q1, _, q3⟩ := r1.get (i := i) (by simpa using hlt)
    have q1' : ∀ K : Value → Prop, ia 4 a (.int .i64 i) K = K p := fun K => q1 .i64 K
    have f0 : ∀ K : Value → Prop, fa 0 p (fun q => ld1 q wi K) = K (.string (str l.st[i].sku)) := fun K => by have := q3 0 (by simp [sC]) K; simpa [sC] using this
    have f1 : ∀ K : Value → Prop, fa 1 p (fun q => ld1 q wi K) = K (.string (str l.st[i].loc)) := fun K => by have := q3 1 (by simp [sC]) K; simpa [sC] using this
    have hnext : atP l.st[i] sku loc = false → N [.string (str sku), .string (str loc), .pointer (some ⟨x, 0, none⟩), .int .i64 ((i + 1 : Nat) : Int)] wi := fun hc => hN (l.st.length - (i + 1)) _ wi (by omega) ⟨i + 1, by omega, rfl, rfl, rfl, fun j hj hji => by
      by_cases he : j = i
      · subst he; exact hc
      · exact hno j hj (by omega)⟩
    rw [q1', f0]
    simp [-getElem?_pos, -Array.all_eq_true, -Array.getElem?_eq_getElem, -List.length_flatten, gz0, gz1, hh1]
    rw [hiw]
    refine ⟨fun e1 => ?_, fun e1 => hnext (by simp [atP, e1])⟩
    rw [q1', f1]
    simp [-getElem?_pos, -Array.all_eq_true, -Array.getElem?_eq_getElem, -List.length_flatten, gz0, gz1]
    refine ⟨fun e2 => ?_, fun e2 => ?_⟩
    · have hat : atP l.st[i] sku loc = true := by simp [atP, e1, e2]
      exact hK1 i wi hk1 hlt (idxS.1 i hlt hat hno) hat
    · have := hnext (by simp [atP, e2])
      first | exact this | simpa using this
  · unfold Fn93_s0
    refine hK2 wi hk1 (idxS.2 fun j hj => hno j hj (by omega)) ?_
    rw [Bool.eq_false_iff]
    intro hk
    obtain ⟨s, hs, e1, e2⟩ := known_find.1 hk
    obtain ⟨j, hj, rfl⟩ := List.getElem_of_mem hs
    have := hno j hj (by omega)
    simp [atP, e1, e2] at this
theorem refFind_spec {w : World} {v : Value} {l : LV} (hv : LedAt w v l) (hl : l.st.length < 2 ^ 40) (sku loc : List UInt8) {K : KW} (hK : ∀ w', Kp [] w w' → K (sA (findS l.st sku loc)) w') : callG prog 17 #[v, .string (str sku), .string (str loc)] w K := by
  refine Fn88_call ?_
  obtain ⟨a, b, c, rfl, h1, h2, h3⟩ := hv
  unfold Fn88 Fn88_s0
  refine argBox (cs := [a, b, c, .int .i64 l.ops]) fun x w1 hx1 hh1 hk1 => ?_
  simp only [newG_k, zc44s]
  obtain ⟨r, hr⟩ : ∃ r, r = w1.heap.size := ⟨_, rfl⟩
  obtain ⟨w4, hw4⟩ := ex_w (w' := w1.alloc (.cells [.string (str []), .string (str []), .int .i64 0, .int .i64 0].toArray 48))
  have hk4 : Kp [] w1 w4 := by rw [hw4]; exact kp_alloc
  have hb4 : w4.heap[r]? = some (.cells [.string (str []), .string (str []), .int .i64 0, .int .i64 0].toArray 48) := by rw [hw4, hr]; exact heap_new
  rw [← hw4, ← hr]
  have g1 := hk4.get hh1 (by simp)
  have kk := hk1.trans' hk4
  have hrs : w.heap.size ≤ r := by have := hk1.size; omega
  rw [ldAll (k := 4) g1 rfl]
  refine refIndex_spec (l := l) ⟨a, b, c, rfl, h1.keep kk, h2.keep kk, h3.keep kk⟩ hl sku loc (fun i w5 hk5 hi hf _ => ?_) (fun w5 hk5 hf _ => ?_)
  · have e1 := hk5.get g1 (by simp)
    have e4 := hk5.get hb4 (by simp)
    have l4 := live_of e4
    obtain ⟨pp, i1, i2⟩ := rd_stock (h1.keep (kk.trans' hk5)) hi
    have hpos : (0 : Int) ≤ (i : Int) := by omega
    simp [-getElem?_pos, -Array.all_eq_true, -Array.getElem?_eq_getElem, -List.length_flatten, gz0, gz1, e1, hpos, -ldn_p, -stn_p]
    rw [i1, i2]
    have := hK (setBlk w5 r (.cells (sC l.st[i]).toArray 48)) ((kk.trans' hk5).setBlk (.inr hrs) _)
    rw [hf] at this
    unfold sA at this ⊢
    unfold sC at this
    simp [-getElem?_pos, -Array.all_eq_true, -Array.getElem?_eq_getElem, -List.length_flatten, gz0, gz1, e4, lvStock, l4]
    exact this
  · have e4 := hk5.get hb4 (by simp)
    have l4 := live_of e4
    have := hK (setBlk w5 r (.cells (sC ⟨sku, loc, 0, 0⟩).toArray 48)) ((kk.trans' hk5).setBlk (.inr hrs) _)
    rw [hf] at this
    unfold sA sC at this
    simp [-getElem?_pos, -Array.all_eq_true, -Array.getElem?_eq_getElem, -List.length_flatten, gz0, gz1, e4, zcStock, str_nil, bld_done, bld_if, offAt, putAt, lvStock, l4]
    exact this
end Go.Proofs

set_option linter.unusedVariables false
set_option linter.unusedSimpArgs false
namespace Go.Proofs
open Go Go.Q
open Tryz (prog)
theorem zcLed : zc prog 26 = [.slice none 0 0, .slice none 0 0, .slice none 0 0, .int .i64 0].toArray := by kernel_rfl
theorem aggLed : aggO prog 26 = some true := by kernel_rfl
theorem szLed : szO prog 26 = some 4 := by kernel_rfl
theorem sC_one (s : SV) : (sC s).all Q.one = true := rfl
theorem stAll {b k : Nat} {old c : Array Value} {T : TypeId} {w : World} (h : w.heap[b]? = some (.cells old T)) (ho : old.size = k) (hc : c.size = k) (hone : c.all one = true) {K : World → Prop} :
    stn k (.pointer (some ⟨b, 0, none⟩)) (.agg c) w K = K (setBlk w b (.cells c T)) := by
  rw [stn_p, wrN_mk, h]
  have hsp : splice old 0 c = c := splice_all (by rw [ho, hc])
  apply propext
  constructor
  · rintro ⟨_, _, hk⟩
    rw [hsp] at hk
    exact hk
  · intro hk
    refine ⟨hc, ⟨by omega, by rw [okFr0]; trivial, hone⟩, ?_⟩
    rw [hsp]; exact hk
structure LedS (w : World) (v : Value) (l : LV) (S : List Nat) : Prop where
  ex : ∃ a b c SA SB SC, v = .agg #[a, b, c, .int .i64 l.ops] ∧ ArgAt w a 4 (l.st.map sC) SA ∧ ArgAt w b 6 (l.ho.map hC) SB ∧ ArgAt w c 6 (l.mo.map hC) SC ∧ S = SA ++ (SB ++ SC)
  lt : ∀ x ∈ S, x < w.heap.size
theorem LedS.at {w : World} {v : Value} {l : LV} {S : List Nat} (h : LedS w v l S) : LedAt w v l := by
  obtain ⟨a, b, c, SA, SB, SC, e, h1, h2, h3, _⟩ := h.ex
  exact ⟨a, b, c, e, ⟨_, h1⟩, ⟨_, h2⟩, ⟨_, h3⟩⟩
theorem LedS.keep {w w' : World} {v : Value} {l : LV} {S S' : List Nat} (h : LedS w v l S) (hk : Kp S' w w') (hd : ∀ x ∈ S, x ∉ S') : LedS w' v l S := by
  have hsz := hk.size
  refine ⟨?_, fun x hx => by have := h.lt x hx; omega⟩
  obtain ⟨a, b, c, SA, SB, SC, e, h1, h2, h3, rfl⟩ := h.ex
  exact ⟨a, b, c, SA, SB, SC, e, h1.keep hk (fun x hx => hd x (by simp [hx])), h2.keep hk (fun x hx => hd x (by simp [hx])), h3.keep hk (fun x hx => hd x (by simp [hx])), rfl⟩
end Go.Proofs

set_option linter.unusedVariables false
set_option linter.unusedSimpArgs false
namespace Go.Proofs
open Go Go.Q
open Tryz (prog)
theorem LedAt.ones {w : World} {a b c : Value} {l : LV} (h1 : Rd w a 4 (l.st.map sC)) (h2 : Rd w b 6 (l.ho.map hC)) (h3 : Rd w c 6 (l.mo.map hC)) : ([a, b, c, .int .i64 l.ops].toArray).all one = true := by
  obtain ⟨_, _, e1⟩ := h1.slice
  obtain ⟨_, _, e2⟩ := h2.slice
  obtain ⟨_, _, e3⟩ := h3.slice
  rw [e1, e2, e3]
  simp only [all_cons1, all_nil1]
  rfl
theorem lvLedw {b : Nat} {w : World} {c : Array Value} {T : TypeId} {fr : Nat × Nat} (hh : w.heap[b]? = some (.cells c T fr)) (hs : c.size = 4) {K : Value → Prop} :
    qG prog (do loadVar 26 (← asAddr (.pointer (some ⟨b, 0, none⟩)))) w K = K (.agg c) := loadVar_of aggLed szLed hh hs
end Go.Proofs

set_option linter.unusedVariables false
set_option linter.unusedSimpArgs false
namespace Go.Proofs
open Go Go.Q
open Tryz (prog)
theorem hold_zc : zc prog 70 = [.int .i64 0, .string (str []), .string (str []), .int .i64 0, .int .i64 0, .int .i64 0].toArray := by kernel_rfl
theorem led_ret {wj : World} {x z : Nat} {a b c : Value} {l : LV} {S : List Nat} (hx : wj.heap[x]? = some (.cells #[a, b, c, .int .i64 l.ops] 26)) (hz : wj.heap[z]? = some (.cells [.slice none 0 0, .slice none 0 0, .slice none 0 0, .int .i64 0].toArray 26))
    (hv : LedS wj (.agg #[a, b, c, .int .i64 l.ops]) l S) (hzS : z ∉ S) {K : KW} (hK : ∀ w', Kp [z] wj w' → LedS w' (.agg #[a, b, c, .int .i64 l.ops]) l S → K (.agg #[a, b, c, .int .i64 l.ops]) w') :
    ldn 4 (.pointer (some ⟨x, 0, none⟩)) wj fun t67 => stn 4 (.pointer (some ⟨z, 0, none⟩)) t67 wj fun w => qG prog (do loadVar 26 (← asAddr (.pointer (some ⟨z, 0, none⟩)))) w fun r4 => K r4 w := by
  obtain ⟨a', b', c', SA, SB, SC, e, h1, h2, h3, _⟩ := hv.ex
  have e' : a = a' ∧ b = b' ∧ c = c' := by
    simp only [Value.agg.injEq, Array.mk.injEq, List.cons.injEq] at e
    exact ⟨e.1, e.2.1, e.2.2.1⟩
  obtain ⟨rfl, rfl, rfl⟩ := e'
  have hone := LedAt.ones (l := l) ⟨_, h1⟩ ⟨_, h2⟩ ⟨_, h3⟩
  rw [ldAll (k := 4) hx rfl, stAll (k := 4) hz rfl rfl hone, lvLedw (heap_self (live_of hz)) rfl]
  have hk : Kp [z] wj (setBlk wj z (.cells #[a, b, c, .int .i64 l.ops] 26)) := (Kp.refl _ wj).setBlk (.inl (by simp)) _
  exact hK _ hk (hv.keep hk fun q hq => by simp; intro h; exact hzS (h ▸ hq))
end Go.Proofs

set_option linter.unusedVariables false
set_option linter.unusedSimpArgs false
namespace Go.Proofs
open Go Go.Q
open Tryz (prog)
theorem move_zc : zc prog 73 = [.int .i64 0, .string (str []), .string (str []), .int .i64 0, .int .i64 0, .int .i64 0].toArray := by kernel_rfl
end Go.Proofs

set_option linter.unusedVariables false
set_option linter.unusedSimpArgs false
namespace Go.Q
open Go
def turnS (st : List SV) (sku loc : List UInt8) (n m : Int) : List SV := putS st { findS st sku loc with hand := w64i ((findS st sku loc).hand + n), held := w64i ((findS st sku loc).held + m) }
def turnL (l : LV) (sku loc : List UInt8) (n m : Int) : LV := { l with st := turnS l.st sku loc n m }
def moveW (l : LV) (sku loc : List UInt8) (n m kind hold : Int) : LV := { turnL l sku loc n m with mo := l.mo ++ [⟨(l.mo.length + 1 : Nat), sku, loc, n, kind, hold⟩] }
def overW (l : LV) (o : OpV) : LV × Int :=
  if o.id > l.ho.length ∨ (holdAt l o.id).st ≠ 0 then (l, 71)
  else
    let h := holdAt l o.id
    if o.k = 4 then (turnL (stateL l (o.id - 1).toNat 2) h.sku h.loc 0 (w64i (-h.q)), 0) else (moveW (stateL l (o.id - 1).toNat 1) h.sku h.loc (w64i (-h.q)) (w64i (-h.q)) o.k h.id, 0)
theorem put_idx {st : List SV} (hs : Sorted st) {sku loc : List UInt8} {k : Nat} (hk : k ≤ st.length) (h1 : ∀ j (hj : j < st.length), j < k → ahead st[j] ⟨sku, loc, 0, 0⟩ = true) (h2 : ∀ j (hj : j < st.length), k ≤ j → ahead st[j] ⟨sku, loc, 0, 0⟩ = false) :
    ((st.any fun s => atP s sku loc) = true → ∃ h : k < st.length, findS st sku loc = st[k] ∧ ∀ s : SV, s.sku = sku → s.loc = loc → putS st s = st.set k s) ∧
    ((st.any fun s => atP s sku loc) = false → findS st sku loc = ⟨sku, loc, 0, 0⟩ ∧ ∀ s : SV, s.sku = sku → s.loc = loc → putS st s = st.take k ++ [s] ++ st.drop k) := by
  induction st generalizing k with
  | nil =>
    refine ⟨fun h => by simp at h, fun _ => ⟨rfl, fun s _ _ => by simp [putS]⟩⟩
  | cons y r ih =>
    have hr := List.pairwise_cons.1 hs
    cases k with
    | zero =>
      have hy := h2 0 (by simp) (Nat.le_refl _)
      simp only [List.getElem_cons_zero] at hy
      have hno : ∀ x ∈ r, ¬ (x.sku = sku ∧ x.loc = loc) := fun x hx hk => by
        have := hr.1 x hx
        rw [ahead_key (b' := ⟨sku, loc, 0, 0⟩) rfl rfl hk.1 hk.2, hy] at this
        cases this
      by_cases hk : y.sku = sku ∧ y.loc = loc
      · refine ⟨fun _ => ⟨by simp, ?_, fun s e1 e2 => ?_⟩, fun h => ?_⟩
        · simp [findS, atP, hk]
        · have : ahead y s = false := by rw [ahead_key (b' := ⟨sku, loc, 0, 0⟩) rfl rfl e1 e2]; exact hy
          simp [putS, this, hk, e1, e2]
        · simp [atP, hk] at h
      · refine ⟨fun h => ?_, fun _ => ⟨?_, fun s e1 e2 => ?_⟩⟩
        · simp only [List.any_cons, Bool.or_eq_true, atP, decide_eq_true_eq, List.any_eq_true] at h
          rcases h with h | ⟨x, hx, h⟩
          · exact absurd h hk
          · exact absurd h (hno x hx)
        · exact findS_none fun x hx => by
            rcases List.mem_cons.1 hx with rfl | hx
            · exact hk
            · exact hno x hx
        · have : ahead y s = false := by rw [ahead_key (b' := ⟨sku, loc, 0, 0⟩) rfl rfl e1 e2]; exact hy
          have hk' : ¬ (y.sku = s.sku ∧ y.loc = s.loc) := by rw [e1, e2]; exact hk
          simp [putS, this, hk']
    | succ k =>
      have hy := h1 0 (by simp) (by omega)
      simp only [List.getElem_cons_zero] at hy
      have hk' : ¬ (y.sku = sku ∧ y.loc = loc) := fun hk => by
        rw [ahead_key (a' := ⟨sku, loc, 0, 0⟩) (b' := ⟨sku, loc, 0, 0⟩) hk.1 hk.2 rfl rfl, ahead_irrefl] at hy
        cases hy
      obtain ⟨g1, g2⟩ := ih hr.2 (k := k) (by simpa using hk) (fun j hj hjk => by have := h1 (j + 1) (by simpa using hj) (by omega); simpa using this) (fun j hj hjk => by have := h2 (j + 1) (by simpa using hj) (by omega); simpa using this)
      have ea : atP y sku loc = false := by unfold atP; exact decide_eq_false hk'
      have ef : findS (y :: r) sku loc = findS r sku loc := by unfold findS; rw [List.find?_cons_of_neg (by simp [ea])]
      have ey : ∀ s : SV, s.sku = sku → s.loc = loc → ahead y s = true := fun s e1 e2 => by rw [ahead_key (b' := ⟨sku, loc, 0, 0⟩) rfl rfl e1 e2]; exact hy
      simp only [List.any_cons, ea, Bool.false_or]
      refine ⟨fun h => ?_, fun h => ?_⟩
      · obtain ⟨hl, e1, e2⟩ := g1 h
        refine ⟨by simpa using hl, by rw [ef, e1]; rfl, fun s a b => ?_⟩
        unfold putS
        rw [if_pos (ey s a b), e2 s a b]; rfl
      · obtain ⟨e1, e2⟩ := g2 h
        refine ⟨by rw [ef, e1], fun s a b => ?_⟩
        unfold putS
        rw [if_pos (ey s a b), e2 s a b]; simp
def FitS (st : List SV) : Prop := ∀ sku loc, fits (findS st sku loc).hand = true ∧ fits (findS st sku loc).held = true
theorem fits_w (x : Int) : fits (w64i x) = true := by
  rw [fits_iff]
  unfold w64i
  simp [IntKind.wrap, IntKind.bits, IntKind.signed]
  omega
theorem w64_self {x : Int} (h : fits x = true) : w64i (x + 0) = x := by rw [Int.add_zero]; exact w64i_eq h
theorem fitS_put {st : List SV} (hs : Sorted st) (h : FitS st) {s : SV} (h1 : fits s.hand = true) (h2 : fits s.held = true) : FitS (putS st s) := by
  intro sku loc
  rw [findS_put hs]
  split
  · exact ⟨h1, h2⟩
  · exact h sku loc
theorem turn_fit {st : List SV} (hs : Sorted st) (h : FitS st) (sku loc : List UInt8) (n m : Int) : FitS (turnS st sku loc n m) ∧ Sorted (turnS st sku loc n m) := ⟨fitS_put hs h (fits_w _) (fits_w _), putS_sorted hs⟩
theorem Good.fitS {l : LV} (h : Good l) : FitS l.st := by
  intro sku loc
  obtain ⟨g1, g2, g3, g4, g5⟩ := h.f.find sku loc
  have := fits_iff.1 g5
  exact ⟨g5, fits_iff.2 (by omega)⟩
theorem held_turn {l : LV} (h : FitS l.st) (sku loc : List UInt8) (m : Int) : turnL l sku loc 0 m = heldL l sku loc m := by
  unfold turnL turnS heldL
  rw [w64_self (h sku loc).1]
theorem moved_turn {l : LV} (h : FitS l.st) (sku loc : List UInt8) (n kind hold : Int) : moveW l sku loc n 0 kind hold = movedL l sku loc n kind hold := by
  unfold moveW turnL turnS movedL
  rw [w64_self (h sku loc).2]
theorem overW_eq {l : LV} (hs : Sorted l.st) (h : FitS l.st) (o : OpV) : overW l o = overL l o := by
  unfold overW overL
  split
  · rfl
  · simp only
    split
    · have : turnL (stateL l (o.id - 1).toNat 2) (holdAt l o.id).sku (holdAt l o.id).loc 0 (w64i (-(holdAt l o.id).q)) = heldL (stateL l (o.id - 1).toNat 2) (holdAt l o.id).sku (holdAt l o.id).loc (w64i (-(holdAt l o.id).q)) := held_turn (l := stateL l (o.id - 1).toNat 2) h _ _ _
      rw [this]; rfl
    · have hf : ∀ s : SV, (findS l.st s.sku s.loc).sku = s.sku ∧ (findS l.st s.sku s.loc).loc = s.loc := fun s => findS_key _ _ _
      obtain ⟨k1, k2⟩ := findS_key l.st (holdAt l o.id).sku (holdAt l o.id).loc
      have e1 : (heldL l (holdAt l o.id).sku (holdAt l o.id).loc (w64i (-(holdAt l o.id).q))).st = putS l.st { findS l.st (holdAt l o.id).sku (holdAt l o.id).loc with held := w64i ((findS l.st (holdAt l o.id).sku (holdAt l o.id).loc).held + w64i (-(holdAt l o.id).q)) } := rfl
      unfold movedL
      simp only [stateL, e1, findS_put hs, k1, k2, and_self, if_true]
      rw [putS_put (by exact ⟨rfl, rfl⟩)]
      simp only [moveW, turnL, turnS, k1, k2, heldL]
def doesW (l : LV) (o : OpV) : LV × Int :=
  if o.k = 1 ∨ o.k = 7 then
    (if (moreL l o.sku o.loc o.q).2 ≠ 0 then (l, (moreL l o.sku o.loc o.q).2)
     else if (moreL l o.sku o.loc o.q).1 < (findS l.st o.sku o.loc).held then (l, 70) else (moveW l o.sku o.loc o.q 0 o.k 0, 0))
  else if o.k = 2 then
    (if freeL l o.sku o.loc < o.q then (l, 70)
     else
      let l1 := turnL l o.sku o.loc 0 o.q
      ({ l1 with ho := l1.ho ++ [⟨(l1.ho.length + 1 : Nat), o.sku, o.loc, o.q, 0, o.due⟩] }, 0))
  else if o.k = 5 then (expireL l o.due 0 l.ho.length, 0)
  else if o.k = 6 then
    (if freeL l o.sku o.loc < o.q then (l, 70)
     else if (moreL l o.sku o.to o.q).2 ≠ 0 then (l, (moreL l o.sku o.to o.q).2)
     else (moveW (moveW l o.sku o.loc (w64i (-o.q)) 0 o.k 0) o.sku o.to o.q 0 o.k 0, 0))
  else overW l o
theorem doesW_eq {l : LV} (hs : Sorted l.st) (h : FitS l.st) (o : OpV) : doesW l o = doesL l o := by
  unfold doesW doesL
  rw [overW_eq hs h, moved_turn h, held_turn h, moved_turn h]
  have h2 : FitS (movedL l o.sku o.loc (w64i (-o.q)) o.k 0).st := fitS_put hs h (fits_w _) (h _ _).2
  rw [moved_turn h2]
theorem expireL_ops (due : Int) : ∀ (m : Nat) (l : LV) (i : Nat), (expireL l due i m).ops = l.ops := by
  intro m
  induction m with
  | zero => intro l i; rfl
  | succ m ih =>
    intro l i
    unfold expireL
    rw [ih]
    split <;> rfl
theorem doesL_ops (l : LV) (o : OpV) : (doesL l o).1.ops = l.ops := by
  unfold doesL
  repeat' (first | rfl | split)
  · exact expireL_ops _ _ _ _
  · unfold overL
    repeat' (first | rfl | split)
end Go.Q

set_option linter.unusedVariables false
set_option linter.unusedSimpArgs false
namespace Go.Proofs
open Go Go.Q
open Tryz (prog)
structure WorkAt (w0 w : World) (x : Nat) (l : LV) (S : List Nat) : Prop where
  ex : ∃ a b c SA SB SC, BoxAt w x 169 [⟨a, 4, l.st.map sC, SA⟩, ⟨b, 6, l.ho.map hC, SB⟩, ⟨c, 6, l.mo.map hC, SC⟩] [.int .i64 l.ops] ∧ S = x :: blksC [⟨a, 4, l.st.map sC, SA⟩, ⟨b, 6, l.ho.map hC, SB⟩, ⟨c, 6, l.mo.map hC, SC⟩]
  new : ∀ q ∈ S, w0.heap.size ≤ q
  kp : Kp [] w0 w
section
variable {w0 w : World} {x : Nat} {l : LV} {S : List Nat}
theorem WorkAt.keep {w' : World} (h : WorkAt w0 w x l S) (hk : Kp [] w w') : WorkAt w0 w' x l S := by
  obtain ⟨a, b, c, SA, SB, SC, h1, h2⟩ := h.ex
  exact ⟨⟨a, b, c, SA, SB, SC, h1.keep hk, h2⟩, h.new, h.kp.trans' hk⟩
theorem WorkAt.lt (h : WorkAt w0 w x l S) : ∀ q ∈ S, q < w.heap.size := by
  obtain ⟨a, b, c, SA, SB, SC, h1, rfl⟩ := h.ex
  exact h1.lt
theorem WorkAt.ld (h : WorkAt w0 w x l S) : ∃ v, (∀ K : Value → Prop, ldn 4 (.pointer (some ⟨x, 0, none⟩)) w K = K v) ∧ LedAt w v l := by
  obtain ⟨a, b, c, SA, SB, SC, h1, rfl⟩ := h.ex
  exact ⟨_, fun K => h1.ld rfl, a, b, c, rfl, ⟨SA, .inr (h1.rows 0 (by simp)).rd⟩, ⟨SB, .inr (h1.rows 1 (by simp)).rd⟩, ⟨SC, .inr (h1.rows 2 (by simp)).rd⟩⟩
theorem WorkAt.focusA (h : WorkAt w0 w x l S) : ∃ v T, RowsAt w v 4 (l.st.map sC) T ∧ (∀ q ∈ T, q ∈ S) ∧ x ∉ T ∧ (∀ w1, Kp T w w1 → ∀ K : Value → Prop, ld1 (.pointer (some ⟨x, 0, none⟩)) w1 K = K v) ∧
    (∀ w1 (L : List SV), Kp T w w1 → RowsAt w1 v 4 (L.map sC) T → WorkAt w0 w1 x { l with st := L } S) ∧
    ∀ w1 v' T' (L : List SV), Kp T w w1 → RowsAt w1 v' 4 (L.map sC) T' → (∀ q ∈ T', q ∈ T ∨ w.heap.size ≤ q) → ∀ K : World → Prop, (∀ w2 S', WorkAt w0 w2 x { l with st := L } S' → Kp S w w2 → Kp [x] w1 w2 → (∀ q ∈ S', q ∈ S ∨ w.heap.size ≤ q) → K w2) → st1 (.pointer (some ⟨x, 0, none⟩)) v' w1 K := by
  have hnew := h.new
  obtain ⟨a, b, c, SA, SB, SC, h1, rfl⟩ := h.ex
  have hi : 0 < [(⟨a, 4, l.st.map sC, SA⟩ : Cmp), ⟨b, 6, l.ho.map hC, SB⟩, ⟨c, 6, l.mo.map hC, SC⟩].length := by simp
  have hA : ∀ q ∈ SA, q ∈ x :: blksC [⟨a, 4, l.st.map sC, SA⟩, ⟨b, 6, l.ho.map hC, SB⟩, ⟨c, 6, l.mo.map hC, SC⟩] := fun q hq => List.mem_cons_of_mem _ (blksC_mem hi hq)
  refine ⟨a, SA, h1.rows 0 hi, hA, h1.x_not hi, fun w1 hk K => h1.rd hi hk, fun w1 L hk hr => ?_, fun w1 v' T' L hk hr hS K hK => ?_⟩
  · obtain ⟨g1, g2⟩ := h1.inplace hi hk hr
    refine ⟨⟨a, b, c, SA, SB, SC, g1, congrArg (x :: ·) g2.symm⟩, hnew, h.kp.trans hk fun q hq hlt => ?_⟩
    have := hnew q (hA q hq)
    omega
  · have hsz := h.kp.size
    refine h1.store hi hk hr hS fun w2 g1 g2 g3 g4 => hK w2 _ ⟨⟨v', b, c, T', SB, SC, g1, rfl⟩, fun q hq => ?_, h.kp.trans g2 fun q hq hlt => ?_⟩ (g2.mono fun q hq _ => ?_) g3 fun q hq => ?_
    · rcases List.mem_cons.1 hq with rfl | hq
      · exact hnew q (by simp)
      · rcases g4 q hq with hq | hq
        · exact hnew q (List.mem_cons_of_mem _ hq)
        · omega
    · rcases List.mem_cons.1 hq with rfl | hq
      · have := hnew q (by simp); omega
      · have := hnew q (hA q hq); omega
    · rcases List.mem_cons.1 hq with rfl | hq
      · simp
      · exact hA q hq
    · rcases List.mem_cons.1 hq with rfl | hq
      · exact .inl (by simp)
      · exact (g4 q hq).imp (fun hq => List.mem_cons_of_mem _ hq) id
theorem WorkAt.focusB (h : WorkAt w0 w x l S) : ∃ v T, RowsAt w v 6 (l.ho.map hC) T ∧ (∀ q ∈ T, q ∈ S) ∧ x ∉ T ∧ (∀ w1, Kp T w w1 → ∀ K : Value → Prop, ld1 (.pointer (some ⟨x, 1, none⟩)) w1 K = K v) ∧
    (∀ w1 (L : List HV), Kp T w w1 → RowsAt w1 v 6 (L.map hC) T → WorkAt w0 w1 x { l with ho := L } S) ∧
    ∀ w1 v' T' (L : List HV), Kp T w w1 → RowsAt w1 v' 6 (L.map hC) T' → (∀ q ∈ T', q ∈ T ∨ w.heap.size ≤ q) → ∀ K : World → Prop, (∀ w2 S', WorkAt w0 w2 x { l with ho := L } S' → Kp S w w2 → Kp [x] w1 w2 → (∀ q ∈ S', q ∈ S ∨ w.heap.size ≤ q) → K w2) → st1 (.pointer (some ⟨x, 1, none⟩)) v' w1 K := by
  have hnew := h.new
  obtain ⟨a, b, c, SA, SB, SC, h1, rfl⟩ := h.ex
  have hi : 1 < [(⟨a, 4, l.st.map sC, SA⟩ : Cmp), ⟨b, 6, l.ho.map hC, SB⟩, ⟨c, 6, l.mo.map hC, SC⟩].length := by simp
  have hA : ∀ q ∈ SB, q ∈ x :: blksC [⟨a, 4, l.st.map sC, SA⟩, ⟨b, 6, l.ho.map hC, SB⟩, ⟨c, 6, l.mo.map hC, SC⟩] := fun q hq => List.mem_cons_of_mem _ (blksC_mem hi hq)
  refine ⟨b, SB, h1.rows 1 hi, hA, h1.x_not hi, fun w1 hk K => h1.rd hi hk, fun w1 L hk hr => ?_, fun w1 v' T' L hk hr hS K hK => ?_⟩
  · obtain ⟨g1, g2⟩ := h1.inplace hi hk hr
    refine ⟨⟨a, b, c, SA, SB, SC, g1, congrArg (x :: ·) g2.symm⟩, hnew, h.kp.trans hk fun q hq hlt => ?_⟩
    have := hnew q (hA q hq)
    omega
  · have hsz := h.kp.size
    refine h1.store hi hk hr hS fun w2 g1 g2 g3 g4 => hK w2 _ ⟨⟨a, v', c, SA, T', SC, g1, rfl⟩, fun q hq => ?_, h.kp.trans g2 fun q hq hlt => ?_⟩ (g2.mono fun q hq _ => ?_) g3 fun q hq => ?_
    · rcases List.mem_cons.1 hq with rfl | hq
      · exact hnew q (by simp)
      · rcases g4 q hq with hq | hq
        · exact hnew q (List.mem_cons_of_mem _ hq)
        · omega
    · rcases List.mem_cons.1 hq with rfl | hq
      · have := hnew q (by simp); omega
      · have := hnew q (hA q hq); omega
    · rcases List.mem_cons.1 hq with rfl | hq
      · simp
      · exact hA q hq
    · rcases List.mem_cons.1 hq with rfl | hq
      · exact .inl (by simp)
      · exact (g4 q hq).imp (fun hq => List.mem_cons_of_mem _ hq) id
theorem WorkAt.focusC (h : WorkAt w0 w x l S) : ∃ v T, RowsAt w v 6 (l.mo.map hC) T ∧ (∀ q ∈ T, q ∈ S) ∧ x ∉ T ∧ (∀ w1, Kp T w w1 → ∀ K : Value → Prop, ld1 (.pointer (some ⟨x, 2, none⟩)) w1 K = K v) ∧
    (∀ w1 (L : List HV), Kp T w w1 → RowsAt w1 v 6 (L.map hC) T → WorkAt w0 w1 x { l with mo := L } S) ∧
    ∀ w1 v' T' (L : List HV), Kp T w w1 → RowsAt w1 v' 6 (L.map hC) T' → (∀ q ∈ T', q ∈ T ∨ w.heap.size ≤ q) → ∀ K : World → Prop, (∀ w2 S', WorkAt w0 w2 x { l with mo := L } S' → Kp S w w2 → Kp [x] w1 w2 → (∀ q ∈ S', q ∈ S ∨ w.heap.size ≤ q) → K w2) → st1 (.pointer (some ⟨x, 2, none⟩)) v' w1 K := by
  have hnew := h.new
  obtain ⟨a, b, c, SA, SB, SC, h1, rfl⟩ := h.ex
  have hi : 2 < [(⟨a, 4, l.st.map sC, SA⟩ : Cmp), ⟨b, 6, l.ho.map hC, SB⟩, ⟨c, 6, l.mo.map hC, SC⟩].length := by simp
  have hA : ∀ q ∈ SC, q ∈ x :: blksC [⟨a, 4, l.st.map sC, SA⟩, ⟨b, 6, l.ho.map hC, SB⟩, ⟨c, 6, l.mo.map hC, SC⟩] := fun q hq => List.mem_cons_of_mem _ (blksC_mem hi hq)
  refine ⟨c, SC, h1.rows 2 hi, hA, h1.x_not hi, fun w1 hk K => h1.rd hi hk, fun w1 L hk hr => ?_, fun w1 v' T' L hk hr hS K hK => ?_⟩
  · obtain ⟨g1, g2⟩ := h1.inplace hi hk hr
    refine ⟨⟨a, b, c, SA, SB, SC, g1, congrArg (x :: ·) g2.symm⟩, hnew, h.kp.trans hk fun q hq hlt => ?_⟩
    have := hnew q (hA q hq)
    omega
  · have hsz := h.kp.size
    refine h1.store hi hk hr hS fun w2 g1 g2 g3 g4 => hK w2 _ ⟨⟨a, b, v', SA, SB, T', g1, rfl⟩, fun q hq => ?_, h.kp.trans g2 fun q hq hlt => ?_⟩ (g2.mono fun q hq _ => ?_) g3 fun q hq => ?_
    · rcases List.mem_cons.1 hq with rfl | hq
      · exact hnew q (by simp)
      · rcases g4 q hq with hq | hq
        · exact hnew q (List.mem_cons_of_mem _ hq)
        · omega
    · rcases List.mem_cons.1 hq with rfl | hq
      · have := hnew q (by simp); omega
      · have := hnew q (hA q hq); omega
    · rcases List.mem_cons.1 hq with rfl | hq
      · simp
      · exact hA q hq
    · rcases List.mem_cons.1 hq with rfl | hq
      · exact .inl (by simp)
      · exact (g4 q hq).imp (fun hq => List.mem_cons_of_mem _ hq) id
end
end Go.Proofs

set_option linter.unusedVariables false
set_option linter.unusedSimpArgs false
namespace Go.Proofs
open Go Go.Q
open Tryz (prog)
theorem overl_stock (w : World) (ba oa la ca bb ob lb cb TA TB : Nat) (cA cB : Array Value) (hne : ba ≠ bb) (hA : w.heap[ba]? = some (.cells cA TA (0, 0))) (hB : w.heap[bb]? = some (.cells cB TB (0, 0))) (hcB : cB.size ≠ 0) (K : KW) (hK : K (.bool false) w) :
    nG prog (callFunc 151 #[.slice (some ⟨ba, oa, none⟩) la ca, .slice (some ⟨bb, ob, none⟩) lb cb]) w K :=
  nG_over Tryz.func151 (by kernel_rfl) (by kernel_rfl) (by kernel_rfl) (tS := 22) (tR := 4) (by kernel_rfl) (e := 48) (by kernel_rfl) (n := 4) (by kernel_rfl) hne hA hB hcB hK
theorem Insert_stock {w : World} {v x : Value} {st : List SV} {s : SV} {S SX : List Nat} (h : RowsAt w v 4 (st.map sC) S) (hx : RowsAt w x 4 [sC s] SX) (hd : ∀ q ∈ SX, q ∉ S) (hl : st.length < 2 ^ 30) {p : Nat} (hp : p ≤ st.length)
    {R : KW} (hR : ∀ v' w' S', RowsAt w' v' 4 ((st.take p ++ [s] ++ st.drop p).map sC) S' → Kp S w w' → (∀ y ∈ S', y ∈ S ∨ w.heap.size ≤ y) → R v' w') : callG prog 147 #[v, .int .i64 p, x] w R := by
  refine Fn105_call ?_
  have hone : (st.map sC).flatten.all one = true := by
    rw [List.all_eq_true]
    intro y hy
    obtain ⟨r, hr, hyr⟩ := List.mem_flatten.1 hy
    obtain ⟨s, _, rfl⟩ := List.mem_map.1 hr
    exact List.all_eq_true.1 (sC_one s) y hyr
  have := ins_spec (P := prog) (I := 3) (T := 48) (k := 4) (bytes := 48) (ST := 22) (fO := 151) (fR := 152) (z := [.string (str []), .string (str []), .int .i64 0, .int .i64 0]) (i := (prog.info? 48).getD default)
    (kd := .i64) (by kernel_rfl) (by kernel_rfl) (by kernel_rfl) (by kernel_rfl) (by kernel_rfl) (by kernel_rfl) (by kernel_rfl) (by omega) (by omega) (by omega) overl_stock h hx hd hone (sC_one s) (by simpa using hl) (p := p) (by simpa using hp) (R := R)
    (fun v' w' S' h' hk hS => hR v' w' S' (by simpa [List.map_take, List.map_drop] using h') hk hS)
  exact this
section
variable {w0 w : World} {x : Nat} {l : LV} {S : List Nat}
theorem turned_s0 (h : WorkAt w0 w x l S) {k : Nat} (hk : k < l.st.length) (n m : Int) {R : KW}
    (hR : ∀ w', Kp S w w' → WorkAt w0 w' x { l with st := l.st.set k { l.st[k] with hand := w64i (l.st[k].hand + n), held := w64i (l.st[k].held + m) } } S → R (.tuple #[]) w') :
    Fn66_s0 R (.pointer (some ⟨x, 0, none⟩)) (.int .i64 n) (.int .i64 m) (.int .i64 k) w := by
  obtain ⟨a, T, r1, hT, hxT, hld, hin, _⟩ := h.focusA
  obtain ⟨bl, hbl, hia, hrd, hwr⟩ := r1.updM hk
  unfold Fn66_s0
  simp only [nk_p, fa_p, Nat.add_zero]
  rw [hld w (Kp.refl _ _), hia]
  simp only [fa_p]
  rw [hrd 2 (.int .i64 l.st[k].hand) rfl]
  simp only [bq_add]
  rw [hia]
  simp only [fa_p]
  refine hwr 2 (by omega) _ { l.st[k] with hand := w64i (l.st[k].hand + n) } rfl rfl _ fun w1 k1 r2 => ?_
  rw [hld w1 k1]
  have hk2 : k < (l.st.set k { l.st[k] with hand := w64i (l.st[k].hand + n) }).length := by simpa using hk
  obtain ⟨bl2, hbl2, hia2, hrd2, hwr2⟩ := r2.updM hk2
  have ebl : bl2 = bl := by rw [hbl] at hbl2; simpa using hbl2.symm
  subst ebl
  simp only [List.getElem_set_self] at hrd2 hwr2
  rw [hia]
  simp only [fa_p]
  rw [hrd2 3 (.int .i64 l.st[k].held) rfl]
  simp only [bq_add]
  rw [hia]
  simp only [fa_p]
  refine hwr2 3 (by omega) _ { l.st[k] with hand := w64i (l.st[k].hand + n), held := w64i (l.st[k].held + m) } rfl rfl _ fun w2 k2 r3 => ?_
  rw [List.set_set] at r3
  have k02 := k1.trans' k2
  exact hR w2 (k02.mono fun q hq _ => hT q hq) (hin w2 _ k02 r3)
theorem turned_spec (h : WorkAt w0 w x l S) (hs : Sorted l.st) (hl : l.st.length < 2 ^ 20) (sku loc : List UInt8) (n m : Int) {K : KW}
    (hK : ∀ w' S', WorkAt w0 w' x (turnL l sku loc n m) S' → Kp S w w' → (∀ q ∈ S', q ∈ S ∨ w.heap.size ≤ q) → K (.tuple #[]) w') :
    callG prog 135 #[.pointer (some ⟨x, 0, none⟩), keyV sku loc, .int .i64 n, .int .i64 m] w K := by
  refine Fn66_call ?_
  unfold Fn66 Fn66_s1
  refine argBox (cs := [.string (str sku), .string (str loc)]) fun p w1 hp hh1 hk1 => ?_
  have hlt := h.lt
  have h1 := (h.keep hk1).keep kp_drew
  have hpS : p ∉ S := fun hm => by have := hlt p hm; omega
  obtain ⟨a, T, r1, hT, hxT, hld, hin, hst⟩ := h1.focusA
  simp only [nk_p, fa_p, Nat.add_zero]
  rw [hld _ (Kp.refl _ _), ldPl (kp_drew.get hh1 (by simp))]
  refine index_spec hs ⟨T, .inr r1.rd⟩ (by omega) sku loc fun k w2 hk2 hkl hlow hhigh => ?_
  obtain ⟨hyes, hno⟩ := put_idx hs hkl hlow hhigh
  have h2 := h1.keep hk2
  have hh2 := hk2.get (kp_drew.get hh1 (by simp)) (by simp)
  have k02 := (hk1.trans' kp_drew).trans' hk2
  cases hc : (l.st.any fun s => atP s sku loc) with
  | true =>
    obtain ⟨hlt', e1, e2⟩ := hyes hc
    obtain ⟨q1, q2⟩ := findS_key l.st sku loc
    simp [-getElem?_pos, -Array.all_eq_true, -Array.getElem?_eq_getElem, -List.length_flatten, gz0, gz1]
    refine turned_s0 h2 hlt' n m fun w3 k3 h3 => hK w3 S ?_ ((k02.mono (by simp)).trans' k3) fun q hq => .inl hq
    have e : turnL l sku loc n m = { l with st := l.st.set k { l.st[k] with hand := w64i (l.st[k].hand + n), held := w64i (l.st[k].held + m) } } := by
      unfold turnL turnS
      rw [e2 { findS l.st sku loc with hand := w64i ((findS l.st sku loc).hand + n), held := w64i ((findS l.st sku loc).held + m) } q1 q2, e1]
    rw [e]
    exact h3
  | false =>
    obtain ⟨e1, e2⟩ := hno hc
    have h2d := h2.keep kp_drew
    have hh2d := kp_drew.get hh2 (by simp)
    obtain ⟨a, T, r1, hT, hxT, hld, hin, hst⟩ := h2d.focusA
    simp only [ex0, ex1, un_not, bV_b, Bool.not_false, true_implies, Bool.true_eq_false, false_implies, and_true, nk_p, fa_p, Nat.add_zero]
    rw [hld _ (Kp.refl _ _)]
    rw [ldF hh2d (j := 0) rfl, ldF hh2d (j := 1) rfl]
    simp [-getElem?_pos, -Array.all_eq_true, -Array.getElem?_eq_getElem, -List.length_flatten, gz0, gz1, zcStock, str_nil, bld_done, bld_if, offAt, putAt, -ld1_p, -st1_p]
    refine bsl_rowN (n := 4) (cs := sC ⟨sku, loc, 0, 0⟩) (by omega) (by rfl) rfl fun v3 w3 f3 => ?_
    rw [hld w3 (f3.kp.mono (by simp))]
    obtain ⟨SX, rx, hnx⟩ := f3.ex
    have r1' := r1.keep f3.kp (by simp)
    have hlT := r1.lt
    refine ⟨rfl, Insert_stock r1' rx (fun q hq hq' => ?_) (by omega) hkl fun v4 w4 T4 r4 k4 hT4 => ?_⟩
    · have := hnx q hq
      have := hlT q hq'
      omega
    have k24 : Kp T w2.drew w4 := (f3.kp.mono (by simp)).trans' k4
    have hs3 := f3.kp.size
    refine hst w4 v4 T4 _ k24 r4 (fun q hq => (hT4 q hq).imp id fun hh => by omega) _ fun w5 S5 h5 k5 k5x hS5 => ?_
    have hk' : k < (l.st.take k ++ [(⟨sku, loc, 0, 0⟩ : SV)] ++ l.st.drop k).length := by simp; omega
    have eg : (l.st.take k ++ [(⟨sku, loc, 0, 0⟩ : SV)] ++ l.st.drop k)[k] = ⟨sku, loc, 0, 0⟩ := by
      rw [List.getElem_append_left (by simp; omega), List.getElem_append_right (by simp; omega)]
      simp
    refine turned_s0 h5 hk' n m fun w6 k6 h6 => ?_
    have k05 : Kp S w w5 := (((k02.trans' kp_drew)).mono (by simp)).trans' k5
    have hsz := k02.size
    refine hK w6 S5 ?_ (k05.trans k6 fun q hq hlt' => ?_) fun q hq => (hS5 q hq).imp id fun hh => ?_
    · have e : turnL l sku loc n m = { l with st := (l.st.take k ++ [(⟨sku, loc, 0, 0⟩ : SV)] ++ l.st.drop k).set k ⟨sku, loc, w64i (0 + n), w64i (0 + m)⟩ } := by
        unfold turnL turnS
        rw [e1, e2 _ rfl rfl]
        congr 1
        rw [List.append_assoc, List.append_assoc, List.set_append_right _ _ (by simp; omega)]
        have : k - (List.take k l.st).length = 0 := by simp; omega
        rw [this]; rfl
      rw [e]
      have h6' := h6
      simp only [eg] at h6'
      exact h6'
    · rcases hS5 q hq with hh | hh
      · exact hh
      · have : w2.drew.heap.size = w2.heap.size := rfl
        omega
    · have : w2.drew.heap.size = w2.heap.size := rfl
      omega
end
end Go.Proofs

set_option linter.unusedVariables false
set_option linter.unusedSimpArgs false
namespace Go.Proofs
open Go Go.Q
open Tryz (prog)
theorem rows_push {e k bytes : Nat} {z : List Value} {v y : Value} {w : World} {rows : List (List Value)} {r : List Value} {S : List Nat} (h : RowsAt w v k rows S) (hk : 0 < k) (hz : z.length = k) (hx : Rd w y k [r]) (hone : r.all one = true)
    (hb : bytes ≤ 2 ^ 10) (hl : rows.length < 2 ^ 30) {K : KW}
    (hK : ∀ v' w' S', RowsAt w' v' k (rows ++ [r]) S' → Kp S w w' → (∀ q ∈ S', q ∈ S ∨ w.heap.size ≤ q) → K v' w') : app e k bytes z.toArray v y w K := by
  have hr : r.length = k := hx.row (by simp)
  refine rows_app h hk hz (G := [r]) (by simpa using hr) (by simpa using hone) (fun K' hK' => hx.src K' hK') ?_ (by simp; omega) hK
  have : 2 * (rows.length + 1) * bytes ≤ 2 ^ 32 * 2 ^ 10 := Nat.mul_le_mul (by omega) hb
  simpa using Nat.le_trans this (by decide)
section
variable {w0 w : World} {x : Nat} {l : LV} {S : List Nat}
theorem moved_spec (h : WorkAt w0 w x l S) (hs : Sorted l.st) (hl : l.st.length < 2 ^ 20) (hlm : l.mo.length < 2 ^ 20) (sku loc : List UInt8) (n m : Int) (mv : HV) {K : KW}
    (hK : ∀ w' S', WorkAt w0 w' x (moveW l sku loc n m mv.st mv.due) S' → Kp S w w' → (∀ q ∈ S', q ∈ S ∨ w.heap.size ≤ q) → K (.tuple #[]) w') :
    callG prog 134 #[.pointer (some ⟨x, 0, none⟩), keyV sku loc, .int .i64 n, .int .i64 m, hA mv] w K := by
  refine Fn64_call ?_
  unfold Fn64 Fn64_s0
  have hlt := h.lt
  refine argBox (cs := [.string (str sku), .string (str loc)]) fun p w1 hp hh1 hk1 => ?_
  refine argBox (cs := hC mv) fun y w2 hy hh2 hk2 => ?_
  have hp2 := hk2.get hh1 (by simp)
  have h2 := (h.keep hk1).keep hk2
  have k02 := hk1.trans' hk2
  have hs1 := hk1.size
  have hs2 := hk2.size
  have hpl := lt_of_blk hh1
  have hpS : p ∉ S := fun hm => by have := hlt p hm; omega
  have hyS : y ∉ S := fun hm => by have := hlt y hm; omega
  have hpy : y ≠ p := by omega
  rw [ldPl hp2]
  refine turned_spec h2 hs hl sku loc n m fun w3 S3 h3 k3 hS3 => ?_
  have hlm3 : (turnL l sku loc n m).mo.length < 2 ^ 20 := hlm
  have hp3 := (k3.get hp2 hpS)
  have hy3 := (k3.get hh2 hyS)
  have h3d := h3.keep kp_drew
  have hp3d := kp_drew.get hp3 (by simp)
  have hy3d := kp_drew.get hy3 (by simp)
  have hpl2 := lt_of_blk hp2
  have hyl2 := lt_of_blk hh2
  have hp3S : p ∉ S3 := fun hm => by
    rcases hS3 p hm with e | e
    · exact hpS e
    · omega
  have hy3S : y ∉ S3 := fun hm => by
    rcases hS3 y hm with e | e
    · exact hyS e
    · omega
  obtain ⟨W, hW⟩ : ∃ W, W = w3.drew := ⟨_, rfl⟩
  have hWs : W.heap.size = w3.heap.size := by rw [hW]; rfl
  have hk3W : Kp [] w3 W := by rw [hW]; exact kp_drew
  rw [← hW] at h3d hp3d hy3d
  rw [← hW]
  obtain ⟨c, T, r1, hT, hxT, hld, hin, hst⟩ := h3d.focusC
  have hlr := r1.len
  obtain ⟨ca, cc, hcv, _⟩ := hlr
  have hlw : IntKind.i64.wrap ((l.mo.length : Int) + 1) = ((l.mo.length + 1 : Nat) : Int) := by rw [w64 (by omega) (by omega)]; simp
  simp only [nk_p, fa_p, Nat.add_zero, Nat.zero_add]
  rw [hld _ (Kp.refl _ _)]
  have hlen : ∀ K : Value → Prop, lenL c K = K (.int .i64 l.mo.length) := fun K => by rw [hcv, lenL_s]; simp [turnL]
  rw [hlen]
  simp only [bq_add, hlw]
  rw [ldF hp3d (j := 0) (x := .string (str sku)) rfl, ldF hp3d (j := 1) (x := .string (str loc)) rfl]
  have rp : ∀ o K, ∀ j v, ([.string (str sku), .string (str loc)] : List Value)[j]? = some v → ld1 (.pointer (some ⟨p, j, none⟩)) (setBlk W y o) K = K v := fun o K j v hj => ldF (c := [.string (str sku), .string (str loc)].toArray) (by rw [heap_ne hpy]; exact hp3d) (by simpa using hj)
  have ly := live_of hy3d
  rw [stF hy3d (by simp [hC]) rfl]
  rw [rp _ _ 1 (.string (str loc)) rfl, rp _ _ 0 (.string (str sku)) rfl]
  refine ⟨rfl, rfl, ?_⟩
  rw [stF (heap_self ly) (by simp [hC]) rfl, setBlk2, rp _ _ 1 (.string (str loc)) rfl]
  refine ⟨rfl, ?_⟩
  rw [stF (heap_self ly) (by simp [hC]) rfl, setBlk2, stF (heap_self ly) (by simp [hC]) rfl, setBlk2]
  obtain ⟨nv, hnv⟩ : ∃ nv : HV, nv = ⟨(l.mo.length + 1 : Nat), sku, loc, n, mv.st, mv.due⟩ := ⟨_, rfl⟩
  have hcells : (((((hC mv).toArray.setIfInBounds 0 (.int .i64 ((l.mo.length + 1 : Nat) : Int))).setIfInBounds 1 (.string (str sku))).setIfInBounds 2 (.string (str loc))).setIfInBounds 3 (.int .i64 n)) = (hC nv).toArray := by rw [hnv]; rfl
  rw [hcells]
  have kW : Kp [y] W (setBlk W y (.cells (hC nv).toArray 73)) := (Kp.refl _ _).setBlk (.inl (by simp)) _
  obtain ⟨W2, hW2⟩ : ∃ W2, W2 = (setBlk W y (.cells (hC nv).toArray 73)).drew := ⟨_, rfl⟩
  have kW2 : Kp [y] W W2 := by rw [hW2]; exact kW.drew
  have hyW2 : W2.heap[y]? = some (.cells (hC nv).toArray 73) := by rw [hW2]; exact heap_self ly
  rw [← hW2]
  have hyT : y ∉ T := fun hm => hy3S (hT y hm)
  have hWl := h3d.lt
  -- the ledger lies as it was
  have h4 : WorkAt w0 W2 x (turnL l sku loc n m) S3 := by
    obtain ⟨a', b', c', SA, SB, SC, g1, g2⟩ := h3d.ex
    have hs0 := h3d.kp.size
    refine ⟨⟨a', b', c', SA, SB, SC, g1.keepS kW2 (fun q hq => by rw [← g2] at hq; simp; intro e; exact hy3S (e ▸ hq)), g2⟩, h3d.new, h3d.kp.trans kW2 fun q hq hlt' => ?_⟩
    simp at hq
    have := h.kp.size
    omega
  obtain ⟨c2, T2, r2, hT2, hxT2, hld2, hin2, hst2⟩ := h4.focusC
  rw [hld2 _ (Kp.refl _ _), ldHold hyW2]
  refine bsl_rowN (n := 6) (cs := hC nv) (by omega) (by rfl) rfl fun v5 w5 f5 => ?_
  have k25 := f5.kp
  rw [hld2 _ (k25.mono (by simp))]
  refine ⟨rfl, ?_⟩
  rw [move_zc]
  refine rows_push (r2.keep k25 (by simp)) (by omega) rfl f5.rd rfl (by omega) (by simp; omega) fun v6 w6 T6 r6 k6 hT6 => ?_
  have k26 : Kp T2 W2 w6 := (k25.mono (by simp)).trans' k6
  have hs5 := k25.size
  refine hst2 w6 v6 T6 ((turnL l sku loc n m).mo ++ [nv]) k26 (by rw [List.map_append]; exact r6) (fun q hq => (hT6 q hq).imp id fun e => by omega) _ fun w7 S7 h7 k7 _ hS7 => ?_
  have hsW2 : W2.heap.size = w3.heap.size := by rw [hW2]; simp [hWs]
  have hs3 := k3.size
  refine hK w7 S7 (by rw [hnv] at h7; exact h7) ?_ fun q hq => ?_
  · have k3' : Kp S w w3 := (k02.mono (by simp)).trans' k3
    refine ((k3'.trans' (hk3W.mono (by simp))).trans kW2 fun q hq hlt' => ?_).trans k7 fun q hq hlt' => ?_
    · simp at hq; omega
    · rcases hS3 q hq with e | e
      · exact e
      · omega
  · rcases hS7 q hq with e | e
    · rcases hS3 q e with e | e
      · exact .inl e
      · exact .inr (by omega)
    · exact .inr (by omega)
end
end Go.Proofs

set_option linter.unusedVariables false
set_option linter.unusedSimpArgs false
namespace Go.Proofs
open Go Go.Q
open Tryz (prog)
section
variable {w0 w : World} {x : Nat} {l : LV} {S : List Nat}
theorem more_spec (h : WorkAt w0 w x l S) (hf : FitS l.st) (hl : l.st.length < 2 ^ 20) (sku loc : List UInt8) {n : Int} (hn : rngI n) {K : KW}
    (hK : ∀ w', Kp [] w w' → K (.tuple #[.int .i64 (moreL l sku loc n).1, .int .i64 (moreL l sku loc n).2]) w') :
    callG prog 132 #[.pointer (some ⟨x, 0, none⟩), keyV sku loc, .int .i64 n] w K := by
  refine Fn63_call ?_
  unfold Fn63 Fn63_s0
  refine argBox (cs := [.string (str sku), .string (str loc)]) fun p w1 hp hh1 hk1 => ?_
  have h1 := (h.keep hk1).keep kp_drew
  obtain ⟨v, hld, hv⟩ := h1.ld
  have hp1 := kp_drew.get hh1 (by simp)
  simp only [nk_p, fa_p, Nat.add_zero, Nat.zero_add]
  rw [hld, ldF hp1 (j := 0) (x := .string (str sku)) rfl, ldF hp1 (j := 1) (x := .string (str loc)) rfl]
  refine Find_spec7 hv (by omega) sku loc fun w2 hk2 => ?_
  have hr := fits_rng.1 (hf sku loc).1
  unfold sA
  simp [-getElem?_pos, -Array.all_eq_true, -Array.getElem?_eq_getElem, -List.length_flatten, gz0, gz1]
  refine numAdd_spec hr hn ?_
  simp [-getElem?_pos, -Array.all_eq_true, -Array.getElem?_eq_getElem, -List.length_flatten, gz0, gz1]
  exact hK w2 ((hk1.trans' kp_drew).trans' hk2)
theorem over_spec (h : WorkAt w0 w x l S) (hs : Sorted l.st) (hl : l.st.length < 2 ^ 20) (hlh : l.ho.length < 2 ^ 20) (hlm : l.mo.length < 2 ^ 20) (o : OpV) (hid : 1 ≤ o.id) {K : KW}
    (hK : ∀ w' S', WorkAt w0 w' x (overW l o).1 S' → Kp S w w' → (∀ q ∈ S', q ∈ S ∨ w.heap.size ≤ q) → K (.int .i64 (overW l o).2) w') :
    callG prog 136 #[.pointer (some ⟨x, 0, none⟩), .agg (opC o).toArray] w K := by
  refine Fn65_call ?_
  unfold Fn65 Fn65_s1
  have hlt := h.lt
  refine argBox (cs := opC o) fun y w1 hy hh1 hk1 => ?_
  have hyS : y ∉ S := fun hm => by have := hlt y hm; omega
  have h1 := (h.keep hk1).keep kp_drew
  have hy1 := kp_drew.get hh1 (by simp)
  have k01 : Kp [] w w1.drew := hk1.trans' kp_drew
  obtain ⟨W, hW⟩ : ∃ W, W = w1.drew := ⟨_, rfl⟩
  rw [← hW] at h1 hy1 k01 ⊢
  obtain ⟨b, T, r1, hT, hxT, hld, hin, hst⟩ := h1.focusB
  obtain ⟨ba, bc, hbv, _⟩ := r1.len
  have hlen : ∀ K : Value → Prop, lenL b K = K (.int .i64 l.ho.length) := fun K => by rw [hbv, lenL_s]; simp
  have h71 : (o.id > l.ho.length ∨ (holdAt l o.id).st ≠ 0) → K (.int .i64 71) W := by
    intro e
    have e2 : overW l o = (l, 71) := by unfold overW; rw [if_pos e]
    rw [e2] at hK
    exact hK W S h1 (k01.mono (by simp)) fun q hq => .inl hq
  simp only [nk_p, fa_p, Nat.add_zero, Nat.zero_add]
  rw [ldF hy1 (j := 5) (x := .int .i64 o.id) rfl, hld _ (Kp.refl _ _), hlen]
  simp only [bq_gtr, bV_b, decide_eq_true_eq, decide_eq_false_iff_not]
  refine ⟨fun e => h71 (.inl (by omega)), fun e1 => ?_⟩
  obtain ⟨k, hk⟩ : ∃ k, k = (o.id - 1).toNat := ⟨_, rfl⟩
  have hiw : IntKind.i64.wrap (o.id - 1) = (k : Nat) := by rw [w64 (by omega) (by omega)]; omega
  have hkl : k < l.ho.length := by omega
  have hg : holdAt l o.id = l.ho[k] := by simp only [holdAt, ← hk, List.getD, List.getElem?_eq_getElem hkl, Option.getD_some]
  obtain ⟨bl, hbl, hia, hrd, hwr⟩ := r1.updK hkl
  obtain ⟨hh, hhd⟩ : ∃ hh, hh = l.ho[k] := ⟨_, rfl⟩
  rw [← hhd] at hrd hwr hg
  rw [hld _ (Kp.refl _ _), ldF hy1 (j := 5) (x := .int .i64 o.id) rfl]
  simp only [bq_sub, hiw]
  rw [hia]
  simp only [fa_p]
  rw [hrd _ (Kp.refl _ _) 4 (.int .i64 hh.st) rfl]
  simp only [bq_neq, bV_b, decide_eq_true_eq, decide_eq_false_iff_not]
  refine ⟨fun e => h71 (.inr (by rw [hg]; exact e)), fun e2 => ?_⟩
  unfold Fn65_s0
  have kd1 : Kp [] W W.drew := kp_drew
  have kd2 : Kp [] W W.drew.drew := kp_drew.trans' kp_drew
  simp only [nk_p, fa_p, Nat.add_zero, Nat.zero_add]
  rw [hld _ (kd1.mono (by simp)), ldF (kd1.get hy1 (by simp)) (j := 5) (x := .int .i64 o.id) rfl]
  simp only [bq_sub, hiw]
  rw [hia]
  simp only [nk_p, fa_p]
  rw [hrd _ kd2 1 (.string (str hh.sku)) rfl, hrd _ kd2 2 (.string (str hh.loc)) rfl]
  simp [-getElem?_pos, -Array.all_eq_true, -Array.getElem?_eq_getElem, -List.length_flatten, gz0, gz1, zcPl, bld_done, bld_if, offAt, putAt, -ld1_p, -st1_p, -ldn_p, -stn_p, -newG_k]
  rw [newG_k]
  obtain ⟨p, hp⟩ : ∃ p, p = W.drew.drew.heap.size := ⟨_, rfl⟩
  obtain ⟨W3, hW3⟩ : ∃ W3, W3 = W.drew.drew.alloc (.cells [.string (str []), .string (str [])].toArray 101) := ⟨_, rfl⟩
  have k3 : Kp [] W W3 := by rw [hW3]; exact kd2.alloc _
  have hp3 : W3.heap[p]? = some (.cells [.string (str []), .string (str [])].toArray 101) := by rw [hW3, hp]; exact heap_new
  rw [← hW3, ← hp]
  rw [hrd _ k3 2 (.string (str hh.loc)) rfl, hrd _ k3 1 (.string (str hh.sku)) rfl]
  refine ⟨rfl, rfl, ?_⟩
  rw [stAll (k := 2) hp3 rfl rfl (by simp [one])]
  have hWl : W.heap.size ≤ p := by rw [hp]; exact Nat.le_refl _
  obtain ⟨W4, hW4⟩ : ∃ W4, W4 = setBlk W3 p (.cells #[.string (str hh.sku), .string (str hh.loc)] 101) := ⟨_, rfl⟩
  have hp4 : W4.heap[p]? = some (.cells #[.string (str hh.sku), .string (str hh.loc)] 101) := by rw [hW4]; exact heap_self (live_of hp3)
  have k4 : Kp [] W W4 := by rw [hW4]; exact k3.setBlk (.inr hWl) _
  rw [← hW4]
  have hy4 := k4.get hy1 (by simp)
  rw [ldF hy4 (j := 0) (x := .int .i64 o.k) rfl]
  have hS1 := h1.lt
  have hpS : p ∉ S := fun hm => by have := hS1 p hm; omega
  have hset : ∀ n : Int, l.ho.set k { hh with st := n } = (stateL l k n).ho := fun n => by simp [stateL, List.getD, hkl, hhd]
  have eO : overW l o = if o.k = 4 then (turnL (stateL l k 2) hh.sku hh.loc 0 (w64i (-hh.q)), 0) else (moveW (stateL l k 1) hh.sku hh.loc (w64i (-hh.q)) (w64i (-hh.q)) o.k hh.id, 0) := by
    unfold overW
    rw [if_neg (by rw [hg]; omega), hg, ← hk]
  have hst : ∀ n w5, Kp T W4 w5 → RowsAt w5 b 6 ((l.ho.set k { hh with st := n }).map hC) T → WorkAt w0 w5 x (stateL l k n) S ∧ Kp S w w5 := by
    intro n w5 k5 r5
    have := hin w5 _ ((k4.mono (by simp)).trans' k5) r5
    rw [hset n] at this
    exact ⟨this, (k01.mono (by simp)).trans' (((k4.mono (by simp)).trans' k5).mono fun q hq _ => hT q hq)⟩
  have hsz := k01.size
  have hsz4 := k4.size
  simp only [bq_eql, bV_b, decide_eq_true_eq, decide_eq_false_iff_not]
  refine ⟨fun e4 => ?_, fun e4 => ?_⟩
  · rw [eO, if_pos e4] at hK
    refine hwr _ k4 4 (by omega) _ { hh with st := 2 } rfl rfl _ fun w5 k5 r5 => ?_
    obtain ⟨h5, k05⟩ := hst 2 w5 k5 r5
    have h5d := h5.keep kp_drew
    have hp5 := kp_drew.get (k5.get hp4 fun hm => hpS (hT p hm)) (by simp)
    have hsz5 := k5.size
    have r5d := r5.keep (S' := []) (w' := w5.drew) kp_drew (by simp)
    obtain ⟨bl', g1, g2, g3, _⟩ := r5d.updK (i := k) (by simpa using hkl)
    have : bl' = bl := by rw [hbl] at g1; simpa using g1.symm
    subst this
    simp only [List.getElem_set_self] at g3
    rw [ldPl hp5, g3 _ (Kp.refl _ _) 3 (.int .i64 hh.q) rfl, neg_of]
    refine turned_spec h5d hs hl hh.sku hh.loc 0 (w64i (-hh.q)) fun w6 S6 h6 k6 hS6 => ?_
    exact hK w6 S6 h6 ((k05.trans' (kp_drew.mono (by simp))).trans' k6) fun q hq => (hS6 q hq).imp id fun e => by have : w5.drew.heap.size = w5.heap.size := rfl; omega
  · rw [eO, if_neg e4] at hK
    refine hwr _ k4 4 (by omega) _ { hh with st := 1 } rfl rfl _ fun w5 k5 r5 => ?_
    obtain ⟨h5, k05⟩ := hst 1 w5 k5 r5
    have h5d := h5.keep kp_drew
    have hp5 := kp_drew.get (k5.get hp4 fun hm => hpS (hT p hm)) (by simp)
    have hyW := lt_of_blk hy1
    have hy5 := kp_drew.get (k5.get hy4 fun hm => hyS (hT y hm)) (by simp)
    have hsz5 := k5.size
    have r5d := r5.keep (S' := []) (w' := w5.drew) kp_drew (by simp)
    obtain ⟨bl', g1, g2, g3, _⟩ := r5d.updK (i := k) (by simpa using hkl)
    have : bl' = bl := by rw [hbl] at g1; simpa using g1.symm
    subst this
    simp only [List.getElem_set_self] at g3
    have g30 := g3 _ (Kp.refl _ _) 0 (.int .i64 hh.id) rfl
    rw [Nat.add_zero] at g30
    rw [ldPl hp5, g3 _ (Kp.refl _ _) 3 (.int .i64 hh.q) rfl, neg_of, g3 _ (Kp.refl _ _) 3 (.int .i64 hh.q) rfl, neg_of, ldF hy5 (j := 0) (x := .int .i64 o.k) rfl, g30]
    simp [-getElem?_pos, -Array.all_eq_true, -Array.getElem?_eq_getElem, -List.length_flatten, gz0, gz1, move_zc, str_nil, bld_done, bld_if, offAt, putAt, -ld1_p, -st1_p, -ldn_p, -stn_p, -newG_k]
    refine moved_spec h5d hs hl hlm hh.sku hh.loc (w64i (-hh.q)) (w64i (-hh.q)) ⟨0, [], [], 0, o.k, hh.id⟩ fun w6 S6 h6 k6 hS6 => ?_
    exact hK w6 S6 h6 ((k05.trans' (kp_drew.mono (by simp))).trans' k6) fun q hq => (hS6 q hq).imp id fun e => by have : w5.drew.heap.size = w5.heap.size := rfl; omega
end
end Go.Proofs

set_option linter.unusedVariables false
set_option linter.unusedSimpArgs false
namespace Go.Proofs
open Go Go.Q
open Tryz (prog)
theorem putS_len (l : List SV) (s : SV) : (putS l s).length ≤ l.length + 1 := by
  induction l with
  | nil => simp [putS]
  | cons x r ih =>
    unfold putS
    split
    · simp; omega
    · split <;> simp
theorem held_sorted {l : LV} (h : Sorted l.st) (sku loc : List UInt8) (n : Int) : Sorted (heldL l sku loc n).st := putS_sorted h
structure LVar (w0 w : World) (x : Nat) (l : LV) (S0 S : List Nat) : Prop where
  ex : ∃ a b c, w.heap[x]? = some (.cells #[a, b, c, .int .i64 l.ops] 26) ∧ LedS w (.agg #[a, b, c, .int .i64 l.ops]) l S
  x0 : w0.heap.size ≤ x
  xS : x ∉ S
  new : ∀ q ∈ S, q ∈ S0 ∨ w0.heap.size ≤ q
  kp : Kp [] w0 w
section
variable {w0 w : World} {x : Nat} {l : LV} {S0 S : List Nat}
theorem LVar.keep {w' : World} (h : LVar w0 w x l S0 S) (hk : Kp [] w w') : LVar w0 w' x l S0 S := by
  obtain ⟨a, b, c, h1, h2⟩ := h.ex
  exact ⟨⟨a, b, c, hk.get h1 (by simp), h2.keep hk (by simp)⟩, h.x0, h.xS, h.new, h.kp.trans' hk⟩
end
theorem argVar {w : World} {v : Value} {l : LV} {S : List Nat} (hv : LedS w v l S) {K : KW} (hK : ∀ x w1, LVar w w1 x l S S → K (.pointer (some ⟨x, 0, none⟩)) w1) : newG (Value.cells v) 26 w K := by
  have hlt := hv.lt
  obtain ⟨a, b, c, SA, SB, SC, e, h1, h2, h3, _⟩ := hv.ex
  subst e
  refine argBox (cs := [a, b, c, .int .i64 l.ops]) fun x w1 hx hh hk => hK x w1 ⟨⟨a, b, c, hh, hv.keep hk (by simp)⟩, hx, fun hm => by have := hlt x hm; omega, fun q hq => .inl hq, hk⟩
end Go.Proofs

set_option linter.unusedVariables false
set_option linter.unusedSimpArgs false
namespace Go.Proofs
open Go Go.Q
open Tryz (prog)
structure DoAt (w0 w : World) (x y p5 p6 : Nat) (l : LV) (S : List Nat) (o : OpV) : Prop where
  at_ : WorkAt w0 w x l S
  hy : w.heap[y]? = some (.cells (opC o).toArray 42)
  h5 : w.heap[p5]? = some (.cells #[.string (str o.sku), .string (str o.loc)] 101)
  h6 : w.heap[p6]? = some (.cells #[.string (str o.sku), .string (str o.to)] 101)
  yS : y ∉ S
  s5 : p5 ∉ S
  s6 : p6 ∉ S
section
variable {w0 w : World} {x y p5 p6 : Nat} {l : LV} {S : List Nat} {o : OpV}
theorem op_zc : zc prog 42 = [.int .i64 0, .string (str []), .string (str []), .string (str []), .int .i64 0, .int .i64 0, .int .i64 0].toArray := zcOp
theorem DoAt.keep {w' : World} (h : DoAt w0 w x y p5 p6 l S o) (hk : Kp [] w w') : DoAt w0 w' x y p5 p6 l S o :=
  ⟨h.at_.keep hk, hk.get h.hy (by simp), hk.get h.h5 (by simp), hk.get h.h6 (by simp), h.yS, h.s5, h.s6⟩
theorem DoAt.next {w' : World} {l' : LV} {S' : List Nat} (h : DoAt w0 w x y p5 p6 l S o) (ha : WorkAt w0 w' x l' S') (hk : Kp S w w') (hS : ∀ q ∈ S', q ∈ S ∨ w.heap.size ≤ q) : DoAt w0 w' x y p5 p6 l' S' o := by
  have a1 := lt_of_blk h.hy
  have a2 := lt_of_blk h.h5
  have a3 := lt_of_blk h.h6
  have b1 := h.yS
  have b2 := h.s5
  have b3 := h.s6
  refine ⟨ha, hk.get h.hy h.yS, hk.get h.h5 h.s5, hk.get h.h6 h.s6, fun hm => ?_, fun hm => ?_, fun hm => ?_⟩
  · rcases hS _ hm with e | e
    · exact b1 e
    · omega
  · rcases hS _ hm with e | e
    · exact b2 e
    · omega
  · rcases hS _ hm with e | e
    · exact b3 e
    · omega
theorem DoAt.op (h : DoAt w0 w x y p5 p6 l S o) (j : Nat) (v : Value) (hj : (opC o)[j]? = some v) (K : Value → Prop) : ld1 (.pointer (some ⟨y, j, none⟩)) w K = K v := ldF h.hy (by simpa using hj)
theorem does_s1 (h : DoAt w0 w x y p5 p6 l S o) (hs : Sorted l.st) (hl : l.st.length < 2 ^ 20) (hlm : l.mo.length < 2 ^ 20) {K : KW}
    (hK : ∀ w' S', WorkAt w0 w' x (moveW l o.sku o.loc o.q 0 o.k 0) S' → Kp S w w' → (∀ q ∈ S', q ∈ S ∨ w.heap.size ≤ q) → K (.int .i64 0) w') :
    Fn62_s1 K (.pointer (some ⟨x, 0, none⟩)) (.pointer (some ⟨y, 0, none⟩)) (.pointer (some ⟨p5, 0, none⟩)) w := by
  unfold Fn62_s1 Fn62_s0
  simp only [fa_p, Nat.add_zero, Nat.zero_add]
  rw [ldPl h.h5, h.op 4 (.int .i64 o.q) rfl, h.op 0 (.int .i64 o.k) rfl]
  simp [-getElem?_pos, -Array.all_eq_true, -Array.getElem?_eq_getElem, -List.length_flatten, gz0, gz1, move_zc, str_nil, bld_done, bld_if, offAt, putAt, -ld1_p, -st1_p, -ldn_p, -stn_p, -newG_k]
  exact moved_spec h.at_ hs hl hlm o.sku o.loc o.q 0 ⟨0, [], [], 0, o.k, 0⟩ hK
theorem does_s7 (h : DoAt w0 w x y p5 p6 l S o) (hs : Sorted l.st) (hl : l.st.length < 2 ^ 20) (hlh : l.ho.length < 2 ^ 20) (hlm : l.mo.length < 2 ^ 20) (hid : 1 ≤ o.id) {K : KW}
    (hK : ∀ w' S', WorkAt w0 w' x (overW l o).1 S' → Kp S w w' → (∀ q ∈ S', q ∈ S ∨ w.heap.size ≤ q) → K (.int .i64 (overW l o).2) w') :
    Fn62_s7 K (.pointer (some ⟨x, 0, none⟩)) (.pointer (some ⟨y, 0, none⟩)) w := by
  unfold Fn62_s7
  rw [ldAll (k := 7) h.hy rfl]
  exact over_spec h.at_ hs hl hlh hlm o hid hK
theorem does_s2 (h : DoAt w0 w x y p5 p6 l S o) (hs : Sorted l.st) (hl : l.st.length < 2 ^ 20) (hlh : l.ho.length < 2 ^ 20) {K : KW}
    (hK : ∀ w' S', WorkAt w0 w' x { turnL l o.sku o.loc 0 o.q with ho := l.ho ++ [⟨(l.ho.length + 1 : Nat), o.sku, o.loc, o.q, 0, o.due⟩] } S' → Kp S w w' → (∀ q ∈ S', q ∈ S ∨ w.heap.size ≤ q) → K (.int .i64 0) w') :
    Fn62_s2 K (.pointer (some ⟨x, 0, none⟩)) (.pointer (some ⟨y, 0, none⟩)) (.pointer (some ⟨p5, 0, none⟩)) w := by
  unfold Fn62_s2 Fn62_s0
  simp only [fa_p, nk_p, Nat.add_zero, Nat.zero_add]
  rw [ldPl h.h5, h.op 4 (.int .i64 o.q) rfl]
  refine turned_spec h.at_ hs hl o.sku o.loc 0 o.q fun w1 S1 h1 k1 hS1 => ?_
  have d1 := (h.next h1 k1 hS1).keep kp_drew
  obtain ⟨W, hW⟩ : ∃ W, W = w1.drew := ⟨_, rfl⟩
  have hWs : W.heap.size = w1.heap.size := by rw [hW]; rfl
  have k1W : Kp S w W := by rw [hW]; exact k1.drew
  rw [← hW] at d1 ⊢
  obtain ⟨b, T, r1, hT, hxT, hld, hin, hst⟩ := d1.at_.focusB
  obtain ⟨ba, bc, hbv, _⟩ := r1.len
  have hlen : ∀ K : Value → Prop, lenL b K = K (.int .i64 l.ho.length) := fun K => by rw [hbv, lenL_s]; simp [turnL]
  have hiw : IntKind.i64.wrap ((l.ho.length : Int) + 1) = ((l.ho.length + 1 : Nat) : Int) := by rw [w64 (by omega) (by omega)]; simp
  rw [hld _ (Kp.refl _ _), hld _ (Kp.refl _ _), hlen]
  simp only [bq_add, hiw]
  rw [d1.op 1 (.string (str o.sku)) rfl, d1.op 2 (.string (str o.loc)) rfl, d1.op 4 (.int .i64 o.q) rfl, d1.op 6 (.int .i64 o.due) rfl]
  have ⟨nv, hnv⟩ : ∃ nv : HV, nv = HV.mk ((l.ho.length + 1 : Nat) : Int) o.sku o.loc o.q 0 o.due := Exists.intro (HV.mk ((l.ho.length + 1 : Nat) : Int) o.sku o.loc o.q 0 o.due) (Eq.refl _)
  simp [-getElem?_pos, -Array.all_eq_true, -Array.getElem?_eq_getElem, -List.length_flatten, gz0, gz1, hold_zc, str_nil, bld_done, bld_if, offAt, putAt, -ld1_p, -st1_p, -ldn_p, -stn_p, -newG_k]
  rw [← hold_zc]
  refine bsl_rowN (n := 6) (cs := hC nv) (by omega) (by rw [hnv]; simp [hC]) rfl fun v5 w5 f5 => ?_
  have k25 := f5.kp
  rw [hld _ (k25.mono (by simp))]
  refine ⟨rfl, ?_⟩
  rw [hold_zc]
  refine rows_push (r1.keep k25 (by simp)) (by omega) rfl f5.rd rfl (by omega) (by simp [turnL]; omega) fun v6 w6 T6 r6 k6 hT6 => ?_
  have k26 : Kp T W w6 := (k25.mono (by simp)).trans' k6
  have hs5 := k25.size
  refine hst w6 v6 T6 ((turnL l o.sku o.loc 0 o.q).ho ++ [nv]) k26 (by rw [List.map_append]; exact r6) (fun q hq => (hT6 q hq).imp id fun e => by omega) _ fun w7 S7 h7 k7 _ hS7 => ?_
  have hs1 := k1.size
  refine hK w7 S7 (by rw [hnv] at h7; exact h7) (k1W.trans k7 fun q hq hlt => ?_) fun q hq => ?_
  · rcases hS1 q hq with e | e
    · exact e
    · omega
  · rcases hS7 q hq with e | e
    · exact hS1 q e
    · exact .inr (by omega)
theorem does_s3 (h : DoAt w0 w x y p5 p6 l S o) (hs : Sorted l.st) (hf : FitS l.st) (hl : l.st.length < 2 ^ 18) (hlm : l.mo.length < 2 ^ 18) (hq : rngI o.q) {K : KW}
    (hK1 : ∀ w', Kp [] w w' → (moreL l o.sku o.to o.q).2 ≠ 0 → K (.int .i64 (moreL l o.sku o.to o.q).2) w')
    (hK : ∀ w' S', WorkAt w0 w' x (moveW (moveW l o.sku o.loc (w64i (-o.q)) 0 o.k 0) o.sku o.to o.q 0 o.k 0) S' → Kp S w w' → (∀ q ∈ S', q ∈ S ∨ w.heap.size ≤ q) → (moreL l o.sku o.to o.q).2 = 0 → K (.int .i64 0) w') :
    Fn62_s3 K (.pointer (some ⟨x, 0, none⟩)) (.pointer (some ⟨y, 0, none⟩)) (.pointer (some ⟨p5, 0, none⟩)) (.pointer (some ⟨p6, 0, none⟩)) w := by
  unfold Fn62_s3 Fn62_s0
  simp only [fa_p, nk_p, Nat.add_zero, Nat.zero_add]
  rw [ldPl h.h6, h.op 4 (.int .i64 o.q) rfl]
  refine more_spec h.at_ hf (by omega) o.sku o.to hq fun w1 k1 => ?_
  have d1 := h.keep k1
  simp only [ex0, ex1, bq_neq, bV_b, decide_eq_true_eq, decide_eq_false_iff_not]
  refine ⟨fun e => hK1 w1 k1 e, fun e => ?_⟩
  rw [ldPl d1.h5, d1.op 4 (.int .i64 o.q) rfl, neg_of, d1.op 0 (.int .i64 o.k) rfl]
  simp [-getElem?_pos, -Array.all_eq_true, -Array.getElem?_eq_getElem, -List.length_flatten, gz0, gz1, move_zc, str_nil, bld_done, bld_if, offAt, putAt, -ld1_p, -st1_p, -ldn_p, -stn_p, -newG_k]
  refine moved_spec d1.at_ hs (by omega) (by omega) o.sku o.loc (w64i (-o.q)) 0 ⟨0, [], [], 0, o.k, 0⟩ fun w2 S2 h2 k2 hS2 => ?_
  have d2 := d1.next h2 k2 hS2
  rw [ldPl d2.h6, d2.op 4 (.int .i64 o.q) rfl, d2.op 0 (.int .i64 o.k) rfl]
  simp [-getElem?_pos, -Array.all_eq_true, -Array.getElem?_eq_getElem, -List.length_flatten, gz0, gz1, move_zc, str_nil, bld_done, bld_if, offAt, putAt, -ld1_p, -st1_p, -ldn_p, -stn_p, -newG_k]
  have hln := putS_len l.st { findS l.st o.sku o.loc with hand := w64i ((findS l.st o.sku o.loc).hand + w64i (-o.q)), held := w64i ((findS l.st o.sku o.loc).held + 0) }
  refine moved_spec h2 (turn_fit hs hf _ _ _ _).2 (by show (putS l.st _).length < _; omega) (by show (l.mo ++ [_]).length < _; simp; omega) o.sku o.to o.q 0 ⟨0, [], [], 0, o.k, 0⟩ fun w3 S3 h3 k3 hS3 => ?_
  have hs1 := k1.size
  have hs2 := k2.size
  refine hK w3 S3 h3 (((k1.mono (by simp)).trans' k2).trans k3 fun q hq hlt => ?_) (fun q hq => ?_) (Decidable.not_not.1 e)
  · rcases hS2 q hq with e | e
    · exact e
    · omega
  · rcases hS3 q hq with e | e
    · exact (hS2 q e).imp id fun e => by omega
    · exact .inr (by omega)
def Ids (l : LV) : Prop := ∀ k (h : k < l.ho.length), l.ho[k].id = (k + 1 : Nat)
theorem ids_state {l : LV} (h : Ids l) (k : Nat) (n : Int) : Ids (stateL l k n) := by
  intro j hj
  have hj' : j < l.ho.length := by simpa [stateL] using hj
  by_cases he : k = j
  · subst he
    simp only [stateL, List.getElem_set_self]
    have := h k hj'
    simpa [List.getD, hj'] using this
  · simp only [stateL]
    rw [List.getElem_set_ne he]
    exact h j hj'
theorem does_s6 (h : DoAt w0 w x y p5 p6 l S o) (hs : Sorted l.st) (hf : FitS l.st) (hid : Ids l) (hl : l.st.length + l.ho.length < 2 ^ 18) (hlm : l.mo.length < 2 ^ 18) {K : KW}
    (hK : ∀ w' S', WorkAt w0 w' x (expireL l o.due 0 l.ho.length) S' → Kp S w w' → (∀ q ∈ S', q ∈ S ∨ w.heap.size ≤ q) → K (.int .i64 0) w') :
    Fn62_s6 K (.pointer (some ⟨x, 0, none⟩)) (.pointer (some ⟨y, 0, none⟩)) w := by
  unfold Fn62_s6
  simp only [fa_p, nk_p, Nat.add_zero, Nat.zero_add]
  obtain ⟨b, T, r1, hT, hxT, hld, hin, hst⟩ := h.at_.focusB
  obtain ⟨ba, bc, hbv, _⟩ := r1.len
  have hlen : ∀ K : Value → Prop, lenL b K = K (.int .i64 l.ho.length) := fun K => by rw [hbv, lenL_s]; simp
  rw [hld _ (Kp.refl _ _), hlen]
  obtain ⟨E, hE⟩ : ∃ E, E = expireL l o.due 0 l.ho.length := ⟨_, rfl⟩
  rw [← hE] at hK
  unfold Fn62_L5
  refine loop_inv (fun m xs wi => ∃ (i : Nat) (li : LV) (Si : List Nat), i ≤ l.ho.length ∧ m = l.ho.length - i ∧ xs = [.pointer (some ⟨x, 0, none⟩), .pointer (some ⟨y, 0, none⟩), .int .i64 l.ho.length, .int .i64 (i : Nat)] ∧ E = expireL li o.due i (l.ho.length - i) ∧
      Sorted li.st ∧ FitS li.st ∧ Ids li ∧ li.st.length ≤ l.st.length + i ∧ li.ho.length = l.ho.length ∧ li.mo.length = l.mo.length ∧ DoAt w0 wi x y p5 p6 li Si o ∧ Kp S w wi ∧ (∀ q ∈ Si, q ∈ S ∨ w.heap.size ≤ q)) ?_ (m := l.ho.length)
    ⟨0, l, S, by omega, rfl, rfl, hE, hs, hf, hid, by omega, rfl, rfl, h, Kp.refl _ _, fun q hq => .inl hq⟩
  rintro m N xs wi ⟨i, li, Si, hi, rfl, rfl, he, hsi, hfi, hidi, hsl, hho, hmo, di, ki, hSi⟩ hN
  have hiw : IntKind.i64.wrap ((i : Int) + 1) = ((i + 1 : Nat) : Int) := by rw [w64 (by omega) (by omega)]; simp
  unfold Fn62_L5F Fn62_b4
  simp only [bq_lss, bV_b, decide_eq_true_eq, decide_eq_false_iff_not]
  refine ⟨fun hlt => ?_, fun hge => ?_⟩
  · have hlti : i < li.ho.length := by omega
    rw [show l.ho.length - i = (l.ho.length - (i + 1)) + 1 by omega] at he
    unfold expireL at he
    have hg : li.ho.getD i hZ = li.ho[i] := by simp only [List.getD, List.getElem?_eq_getElem hlti, Option.getD_some]
    simp only [hg] at he
    obtain ⟨b, T, r1, hT, hxT, hld, hin, hst⟩ := di.at_.focusB
    obtain ⟨pp, i1, i2⟩ := rd_hold ⟨T, .inr r1.rd⟩ hlti
    simp only [fa_p, nk_p, Nat.add_zero, Nat.zero_add]
    rw [hld _ (Kp.refl _ _), i1, i2]
    refine boxHold (o := li.ho[i]) (by kernel_rfl) fun p w5 hp hh5 hk5 => ?_
    have d5 := di.keep hk5
    have hs5 := hk5.size
    have kw5 : Kp S w w5 := ki.trans' (hk5.mono (by simp))
    have hsz := ki.size
    have hno : dueL li.ho[i] o.due = false → N [.pointer (some ⟨x, 0, none⟩), .pointer (some ⟨y, 0, none⟩), .int .i64 l.ho.length, .int .i64 (i + 1 : Nat)] w5 := by
      intro hd
      rw [if_neg (by simp [hd])] at he
      exact hN (l.ho.length - (i + 1)) _ w5 (by omega) ⟨i + 1, li, Si, by omega, rfl, rfl, he, hsi, hfi, hidi, by omega, hho, hmo, d5, kw5, hSi⟩
    have hl' : (li.ho[i].id : Int) = ((i + 1 : Nat) : Int) := hidi i hlti
    have hyes : dueL li.ho[i] o.due = true → callG prog 136 #[.pointer (some ⟨x, 0, none⟩), .agg (opC ⟨4, [], [], [], 0, li.ho[i].id, 0⟩).toArray] w5 fun t184 w => N [.pointer (some ⟨x, 0, none⟩), .pointer (some ⟨y, 0, none⟩), .int .i64 l.ho.length, .int .i64 (i + 1 : Nat)] w := by
      intro hd
      rw [if_pos hd] at he
      have hst0 : li.ho[i].st = 0 := by simp only [dueL, decide_eq_true_eq] at hd; exact hd.1
      have hov : overW li ⟨4, [], [], [], 0, li.ho[i].id, 0⟩ = (stateL (heldL li li.ho[i].sku li.ho[i].loc (w64i (-li.ho[i].q))) i 2, 0) := by
        rw [overW_eq hsi hfi]
        have ei : (li.ho[i].id - 1).toNat = i := by omega
        have ha : holdAt li li.ho[i].id = li.ho[i] := by unfold holdAt; rw [ei]; exact hg
        unfold overL
        simp only [ha, ei]
        rw [if_neg (by omega)]
        simp only [if_true]
      refine over_spec d5.at_ hsi (by omega) (by omega) (by omega) ⟨4, [], [], [], 0, li.ho[i].id, 0⟩ (by show 1 ≤ li.ho[i].id; omega) fun w6 S6 h6 k6 hS6 => ?_
      rw [hov] at h6
      have d6 := d5.next h6 k6 hS6
      have hln := putS_len li.st { findS li.st li.ho[i].sku li.ho[i].loc with held := w64i ((findS li.st li.ho[i].sku li.ho[i].loc).held + w64i (-li.ho[i].q)) }
      refine hN (l.ho.length - (i + 1)) _ w6 (by omega) ⟨i + 1, _, S6, by omega, rfl, rfl, he, held_sorted hsi _ _ _, ?_, ?_, ?_, ?_, ?_, d6, kw5.trans k6 fun q hq hlt => ?_, fun q hq => ?_⟩
      · exact fitS_put hsi hfi (hfi _ _).1 (fits_w _)
      · exact ids_state (l := heldL li _ _ _) hidi i 2
      · show (putS li.st _).length ≤ _; omega
      · simp [stateL, heldL, hho]
      · exact hmo
      · rcases hSi q hq with e | e
        · exact e
        · omega
      · rcases hS6 q hq with e | e
        · exact hSi q e
        · exact .inr (by omega)
    simp only [fa_p, Nat.add_zero, Nat.zero_add]
    rw [ldF hh5 (j := 4) (x := .int .i64 li.ho[i].st) rfl]
    simp only [bq_eql, bq_add, hiw, bV_b, decide_eq_true_eq, decide_eq_false_iff_not]
    refine ⟨fun e0 => ?_, fun e0 => hno (by simp [dueL, e0])⟩
    rw [ldF hh5 (j := 5) (x := .int .i64 li.ho[i].due) rfl]
    simp only [bq_gtr, bV_b, decide_eq_true_eq, decide_eq_false_iff_not]
    refine ⟨fun e1 => ?_, fun e1 => hno (by simp [dueL]; omega)⟩
    rw [ldF hh5 (j := 5) (x := .int .i64 li.ho[i].due) rfl, d5.op 6 (.int .i64 o.due) rfl]
    simp only [bq_leq, bV_b, decide_eq_true_eq, decide_eq_false_iff_not]
    refine ⟨fun e2 => ?_, fun e2 => hno (by simp [dueL, e2])⟩
    rw [ldF hh5 (j := 0) (x := .int .i64 li.ho[i].id) rfl]
    simp [-getElem?_pos, -Array.all_eq_true, -Array.getElem?_eq_getElem, -List.length_flatten, gz0, gz1, op_zc, str_nil, bld_done, bld_if, offAt, putAt, -ld1_p, -st1_p, -ldn_p, -stn_p, -newG_k]
    exact hyes (by simp [dueL, e0, e2]; omega)
  · have hie : i = l.ho.length := by omega
    subst hie
    rw [Nat.sub_self] at he
    unfold Fn62_s0
    have he' : E = li := by rw [he]; rfl
    rw [he'] at hK
    exact hK wi Si di.at_ ki hSi
end
end Go.Proofs

set_option linter.unusedVariables false
set_option linter.unusedSimpArgs false
namespace Go.Proofs
open Go Go.Q
open Tryz (prog)
section
variable {w0 w : World} {x y p5 p6 : Nat} {l : LV} {S : List Nat} {o : OpV}
structure DoH (l : LV) (o : OpV) : Prop where
  may : May l
  q : rngI o.q
  k0 : 1 ≤ o.k
  k1 : o.k ≤ 7
  id : o.k = 3 ∨ o.k = 4 → 1 ≤ o.id
theorem DoH.few (h : DoH l o) : l.st.length ≤ 4096 ∧ l.ho.length ≤ 4096 ∧ l.mo.length ≤ 4096 := by
  have hfew := h.may.few
  simp only [fullL, decide_eq_false_iff_not, not_or] at hfew
  omega
theorem DoH.ids (h : DoH l o) : Ids l := fun k hk => by
  have := h.may.holds k hk
  simp only [holdOk, Bool.and_eq_true, decide_eq_true_eq] at this
  exact this.1.1.1.1
theorem DoH.fitS (h : DoH l o) : FitS l.st := by
  have hg : Good l := h.may.m
  exact hg.fitS
theorem does_s16 (hh : DoH l o) (h : DoAt w0 w x y p5 p6 l S o) (hf : o.k = 2 ∨ o.k = 6 → ¬ freeL l o.sku o.loc < o.q) (hm : o.k = 1 ∨ o.k = 7 → (moreL l o.sku o.loc o.q).2 = 0 ∧ ¬ (moreL l o.sku o.loc o.q).1 < (findS l.st o.sku o.loc).held) {K : KW}
    (hK : ∀ w' S', WorkAt w0 w' x (doesL l o).1 S' → Kp S w w' → (∀ q ∈ S', q ∈ S ∨ w.heap.size ≤ q) → K (.int .i64 (doesL l o).2) w') :
    Fn62_s16 K (.pointer (some ⟨x, 0, none⟩)) (.pointer (some ⟨y, 0, none⟩)) (.pointer (some ⟨p5, 0, none⟩)) (.pointer (some ⟨p6, 0, none⟩)) w := by
  obtain ⟨f1, f2, f3⟩ := hh.few
  have hs := hh.may.sorted
  have hfs := hh.fitS
  have k0 := hh.k0
  have k1 := hh.k1
  rw [← doesW_eq hs hfs o] at hK
  unfold Fn62_s16
  simp only [fa_p, Nat.add_zero, Nat.zero_add]
  rw [h.op 0 (.int .i64 o.k) rfl]
  have go1 : o.k = 1 ∨ o.k = 7 → Fn62_s14 K (.pointer (some ⟨x, 0, none⟩)) (.pointer (some ⟨y, 0, none⟩)) (.pointer (some ⟨p5, 0, none⟩)) (.pointer (some ⟨p6, 0, none⟩)) (.int .i64 o.k) (.bool true) w := by
    intro e
    have ed : doesW l o = (moveW l o.sku o.loc o.q 0 o.k 0, 0) := by
      unfold doesW
      rw [if_pos e, if_neg (by rw [(hm e).1]; simp), if_neg (hm e).2]
    rw [ed] at hK
    unfold Fn62_s14
    simp only [bV_b, true_implies, Bool.true_eq_false, false_implies, and_true]
    exact does_s1 h hs (by omega) (by omega) hK
  unfold Fn62_s15
  simp only [bq_eql, bV_b, decide_eq_true_eq, decide_eq_false_iff_not]
  refine ⟨fun e1 => go1 (.inl e1), fun e1 => ?_⟩
  by_cases e7 : o.k = 7
  · rw [decide_eq_true e7]; exact go1 (.inr e7)
  rw [decide_eq_false e7]
  unfold Fn62_s14 Fn62_s13
  simp only [bq_eql, bV_b, true_implies, Bool.false_eq_true, false_implies, true_and]
  unfold Fn62_s12
  simp only [bV_b, decide_eq_true_eq, decide_eq_false_iff_not]
  refine ⟨fun e2 => ?_, fun e2 => ?_⟩
  · have ed : doesW l o = ({ turnL l o.sku o.loc 0 o.q with ho := l.ho ++ [⟨(l.ho.length + 1 : Nat), o.sku, o.loc, o.q, 0, o.due⟩] }, 0) := by
      unfold doesW
      rw [if_neg (by omega), if_pos e2, if_neg (hf (.inl e2))]; rfl
    rw [ed] at hK
    exact does_s2 h hs (by omega) (by omega) hK
  unfold Fn62_s11
  simp only [bq_eql]
  unfold Fn62_s10
  simp only [bV_b, decide_eq_true_eq, decide_eq_false_iff_not]
  refine ⟨fun e6 => ?_, fun e6 => ?_⟩
  · have ed : doesW l o = if (moreL l o.sku o.to o.q).2 ≠ 0 then (l, (moreL l o.sku o.to o.q).2) else (moveW (moveW l o.sku o.loc (w64i (-o.q)) 0 o.k 0) o.sku o.to o.q 0 o.k 0, 0) := by
      unfold doesW
      rw [if_neg (by omega), if_neg e2, if_neg (by omega), if_pos e6, if_neg (hf (.inr e6))]
    rw [ed] at hK
    refine does_s3 h hs hfs (by omega) (by omega) hh.q (fun w1 k1 e => ?_) fun w1 S1 h1 k1 hS e => ?_
    · rw [if_pos e] at hK
      exact hK w1 S (h.keep k1).at_ (k1.mono (by simp)) fun q hq => .inl hq
    · rw [if_neg (by rw [e]; simp)] at hK
      exact hK w1 S1 h1 k1 hS
  unfold Fn62_s9
  simp only [bq_eql]
  unfold Fn62_s8
  simp only [bV_b, decide_eq_true_eq, decide_eq_false_iff_not]
  refine ⟨fun e5 => ?_, fun e5 => ?_⟩
  · have ed : doesW l o = (expireL l o.due 0 l.ho.length, 0) := by
      unfold doesW
      rw [if_neg (by omega), if_neg e2, if_pos e5]
    rw [ed] at hK
    exact does_s6 h hs hfs hh.ids (by omega) (by omega) hK
  · have ed : doesW l o = overW l o := by
      unfold doesW
      rw [if_neg (by omega), if_neg e2, if_neg e5, if_neg e6]
    rw [ed] at hK
    exact does_s7 h hs (by omega) (by omega) (by omega) (hh.id (by omega)) hK
theorem does_s17 (hh : DoH l o) (h : DoAt w0 w x y p5 p6 l S o) (hk : o.k = 2 ∨ o.k = 6) {K : KW}
    (hK : ∀ w' S', WorkAt w0 w' x (doesL l o).1 S' → Kp S w w' → (∀ q ∈ S', q ∈ S ∨ w.heap.size ≤ q) → K (.int .i64 (doesL l o).2) w') :
    Fn62_s17 K (.pointer (some ⟨x, 0, none⟩)) (.pointer (some ⟨y, 0, none⟩)) (.pointer (some ⟨p5, 0, none⟩)) (.pointer (some ⟨p6, 0, none⟩)) w := by
  unfold Fn62_s17
  have hd := h.keep kp_drew
  obtain ⟨v, hld, hv⟩ := hd.at_.ld
  simp only [nk_p, fa_p, Nat.add_zero, Nat.zero_add]
  rw [hld, hd.op 1 (.string (str o.sku)) rfl, hd.op 2 (.string (str o.loc)) rfl, hd.op 4 (.int .i64 o.q) rfl]
  refine Free_spec7 hh.may hv o.sku o.loc fun w1 k1 => ?_
  have d1 := hd.keep k1
  have k01 : Kp [] w w1 := kp_drew.trans' k1
  have hsz := k01.size
  rw [d1.op 4 (.int .i64 o.q) rfl]
  simp only [bq_lss, bV_b, decide_eq_true_eq, decide_eq_false_iff_not]
  refine ⟨trivial, fun e => ?_, fun e => ?_⟩
  · have ed : doesL l o = (l, 70) := by
      unfold doesL
      rcases hk with hk | hk
      · rw [if_neg (by omega), if_pos hk, if_pos e]
      · rw [if_neg (by omega), if_neg (by omega), if_neg (by omega), if_pos hk, if_pos e]
    rw [ed] at hK
    exact hK w1 S d1.at_ (k01.mono (by simp)) fun q hq => .inl hq
  · exact does_s16 hh d1 (fun _ => e) (fun hx => by omega) fun w' S' a b c => hK w' S' a ((k01.mono (by simp)).trans' b) fun q hq => (c q hq).imp id fun e => by omega
theorem does_s18 (hh : DoH l o) (h : DoAt w0 w x y p5 p6 l S o) (hk : o.k = 1 ∨ o.k = 7) {K : KW}
    (hK : ∀ w' S', WorkAt w0 w' x (doesL l o).1 S' → Kp S w w' → (∀ q ∈ S', q ∈ S ∨ w.heap.size ≤ q) → K (.int .i64 (doesL l o).2) w') :
    Fn62_s18 K (.pointer (some ⟨x, 0, none⟩)) (.pointer (some ⟨y, 0, none⟩)) (.pointer (some ⟨p5, 0, none⟩)) (.pointer (some ⟨p6, 0, none⟩)) (.bool true) w := by
  obtain ⟨f1, f2, f3⟩ := hh.few
  unfold Fn62_s18
  simp only [nk_p, fa_p, Nat.add_zero, Nat.zero_add, bV_b, true_implies, Bool.true_eq_false, false_implies, and_true]
  rw [ldPl h.h5, h.op 4 (.int .i64 o.q) rfl]
  refine more_spec h.at_ hh.fitS (by omega) o.sku o.loc hh.q fun w1 k1 => ?_
  have d1 := h.keep k1
  simp only [ex0, ex1, bq_neq, bV_b, decide_eq_true_eq, decide_eq_false_iff_not]
  refine ⟨fun e => ?_, fun e => ?_⟩
  · have ed : doesL l o = (l, (moreL l o.sku o.loc o.q).2) := by
      unfold doesL
      rw [if_pos hk, if_pos e]
    rw [ed] at hK
    exact hK w1 S d1.at_ (k1.mono (by simp)) fun q hq => .inl hq
  · have d2 := d1.keep kp_drew
    obtain ⟨v, hld, hv⟩ := d2.at_.ld
    rw [hld, d2.op 1 (.string (str o.sku)) rfl, d2.op 2 (.string (str o.loc)) rfl]
    refine Find_spec7 hv (by omega) o.sku o.loc fun w3 k3 => ?_
    have d3 := d2.keep k3
    have k03 : Kp [] w w3 := (k1.trans' kp_drew).trans' k3
    have hsz := k03.size
    unfold sA
    simp [-getElem?_pos, -Array.all_eq_true, -Array.getElem?_eq_getElem, -List.length_flatten, gz0, gz1, -ldn_p, -stn_p, -newG_k, -ld1_p, -st1_p]
    refine ⟨fun e2 => ?_, fun e2 => ?_⟩
    · have ed : doesL l o = (l, 70) := by
        unfold doesL
        rw [if_pos hk, if_neg e, if_pos e2]
      rw [ed] at hK
      exact hK w3 S d3.at_ (k03.mono (by simp)) fun q hq => .inl hq
    · refine does_s16 hh d3 (fun hx => by omega) (fun _ => ⟨by omega, by omega⟩) fun w' S' a b c => hK w' S' a ((k03.mono (by simp)).trans' b) fun q hq => (c q hq).imp id fun e => by omega
theorem does_s22 (hh : DoH l o) (h : DoAt w0 w x y p5 p6 l S o) {K : KW}
    (hK : ∀ w' S', WorkAt w0 w' x (doesL l o).1 S' → Kp S w w' → (∀ q ∈ S', q ∈ S ∨ w.heap.size ≤ q) → K (.int .i64 (doesL l o).2) w') :
    Fn62_s22 K (.pointer (some ⟨x, 0, none⟩)) (.pointer (some ⟨y, 0, none⟩)) (.pointer (some ⟨p5, 0, none⟩)) (.pointer (some ⟨p6, 0, none⟩)) w := by
  unfold Fn62_s22
  simp only [fa_p, Nat.add_zero, Nat.zero_add]
  rw [h.op 0 (.int .i64 o.k) rfl]
  unfold Fn62_s21
  simp only [bq_eql, bV_b, decide_eq_true_eq, decide_eq_false_iff_not]
  have go : o.k = 2 ∨ o.k = 6 → Fn62_s20 K (.pointer (some ⟨x, 0, none⟩)) (.pointer (some ⟨y, 0, none⟩)) (.pointer (some ⟨p5, 0, none⟩)) (.pointer (some ⟨p6, 0, none⟩)) (.int .i64 o.k) (.bool true) w := by
    intro e
    unfold Fn62_s20
    simp only [bV_b, true_implies, Bool.true_eq_false, false_implies, and_true]
    exact does_s17 hh h e hK
  refine ⟨fun e2 => go (.inl e2), fun e2 => ?_⟩
  by_cases e6 : o.k = 6
  · rw [decide_eq_true e6]; exact go (.inr e6)
  rw [decide_eq_false e6]
  unfold Fn62_s20 Fn62_s19
  simp only [bq_eql, bV_b, true_implies, Bool.false_eq_true, false_implies, true_and, decide_eq_true_eq, decide_eq_false_iff_not]
  refine ⟨fun e1 => does_s18 hh h (.inl e1) hK, fun e1 => ?_⟩
  by_cases e7 : o.k = 7
  · rw [decide_eq_true e7]; exact does_s18 hh h (.inr e7) hK
  rw [decide_eq_false e7]
  unfold Fn62_s18
  simp only [bV_b, true_implies, Bool.false_eq_true, false_implies, true_and]
  exact does_s16 hh h (fun e => by omega) (fun e => by omega) hK
theorem does_spec (hh : DoH l o) (h : WorkAt w0 w x l S) {K : KW}
    (hK : ∀ w' S', WorkAt w0 w' x (doesL l o).1 S' → Kp S w w' → (∀ q ∈ S', q ∈ S ∨ w.heap.size ≤ q) → K (.int .i64 (doesL l o).2) w') :
    callG prog 118 #[.pointer (some ⟨x, 0, none⟩), .agg (opC o).toArray] w K := by
  refine Fn62_call ?_
  unfold Fn62 Fn62_s23
  have hlt := h.lt
  refine argBox (cs := opC o) fun y w1 hy hh1 hk1 => ?_
  have h1 := h.keep hk1
  have k1d : Kp [] w1 w1.drew := kp_drew
  have op : ∀ w2, Kp [] w1 w2 → ∀ j v, (opC o)[j]? = some v → ∀ K : Value → Prop, ld1 (.pointer (some ⟨y, j, none⟩)) w2 K = K v := fun w2 k2 j v hj K => ldF (k2.get hh1 (by simp)) (by simpa using hj)
  simp only [fa_p, Nat.add_zero, Nat.zero_add]
  rw [op _ k1d 1 (.string (str o.sku)) rfl, op _ k1d 2 (.string (str o.loc)) rfl]
  have hyl := lt_of_blk hh1
  have hbl : ∀ (a b : List UInt8) (K : Value → Prop), bld [(0, 1), (1, 1)] (zc prog 101) #[(0, .string (str a)), (1, .string (str b))] K = K (.agg #[.string (str a), .string (str b)]) := fun a b K => by
    simp [-getElem?_pos, -Array.all_eq_true, -Array.getElem?_eq_getElem, -List.length_flatten, gz0, gz1, zcPl, bld_done, bld_if, offAt, putAt]
  rw [hbl, op _ k1d 1 (.string (str o.sku)) rfl, op _ k1d 3 (.string (str o.to)) rfl, hbl]
  simp only [newG_k, zcPl]
  obtain ⟨pa, hpa⟩ : ∃ pa, pa = w1.drew.heap.size := ⟨_, rfl⟩
  obtain ⟨w2, hw2⟩ : ∃ w2, w2 = w1.drew.alloc (.cells [.string (str []), .string (str [])].toArray 101) := ⟨_, rfl⟩
  have k2 : Kp [] w1 w2 := by rw [hw2]; exact k1d.alloc _
  have ha2 : w2.heap[pa]? = some (.cells [.string (str []), .string (str [])].toArray 101) := by rw [hw2, hpa]; exact heap_new
  rw [← hw2, ← hpa]
  obtain ⟨pb, hpb⟩ : ∃ pb, pb = w2.heap.size := ⟨_, rfl⟩
  obtain ⟨w3, hw3⟩ : ∃ w3, w3 = w2.alloc (.cells [.string (str []), .string (str [])].toArray 101) := ⟨_, rfl⟩
  have k23 : Kp [] w2 w3 := by rw [hw3]; exact kp_alloc
  have k3 : Kp [] w1 w3 := k2.trans' k23
  have hb3 : w3.heap[pb]? = some (.cells [.string (str []), .string (str [])].toArray 101) := by rw [hw3, hpb]; exact heap_new
  have ha3 := k23.get ha2 (by simp)
  rw [← hw3, ← hpb]
  have hal := lt_of_blk ha2
  have hda : w1.drew.heap.size = w1.heap.size := rfl
  have hs1 := hk1.size
  have hab : pa ≠ pb := by omega
  have rest : ∀ p q : Nat, p ≠ q → w1.heap.size ≤ p → w1.heap.size ≤ q → w3.heap[p]? = some (.cells [.string (str []), .string (str [])].toArray 101) → w3.heap[q]? = some (.cells [.string (str []), .string (str [])].toArray 101) →
      stn 2 (.pointer (some ⟨p, 0, none⟩)) (.agg #[.string (str o.sku), .string (str o.loc)]) w3 fun w =>
        ld1 (.pointer (some ⟨y, 3, none⟩)) w (fun u => u = .string (str o.to)) ∧ ld1 (.pointer (some ⟨y, 1, none⟩)) w (fun u => u = .string (str o.sku)) ∧
        stn 2 (.pointer (some ⟨q, 0, none⟩)) (.agg #[.string (str o.sku), .string (str o.to)]) w fun w =>
        Fn62_s22 K (.pointer (some ⟨x, 0, none⟩)) (.pointer (some ⟨y, 0, none⟩)) (.pointer (some ⟨p, 0, none⟩)) (.pointer (some ⟨q, 0, none⟩)) w := by
    intro p q hpq hp hq hp3 hq3
    rw [stAll (k := 2) hp3 rfl rfl (by simp [one])]
    obtain ⟨w4, hw4⟩ : ∃ w4, w4 = setBlk w3 p (.cells #[.string (str o.sku), .string (str o.loc)] 101) := ⟨_, rfl⟩
    have k4 : Kp [] w1 w4 := by rw [hw4]; exact k3.setBlk (.inr hp) _
    have hp4 : w4.heap[p]? = some (.cells #[.string (str o.sku), .string (str o.loc)] 101) := by rw [hw4]; exact heap_self (live_of hp3)
    have hq4 : w4.heap[q]? = some (.cells [.string (str []), .string (str [])].toArray 101) := by rw [hw4, heap_ne hpq]; exact hq3
    rw [← hw4]
    rw [op _ k4 3 (.string (str o.to)) rfl, op _ k4 1 (.string (str o.sku)) rfl]
    refine ⟨rfl, rfl, ?_⟩
    rw [stAll (k := 2) hq4 rfl rfl (by simp [one])]
    obtain ⟨w5, hw5⟩ : ∃ w5, w5 = setBlk w4 q (.cells #[.string (str o.sku), .string (str o.to)] 101) := ⟨_, rfl⟩
    have k5 : Kp [] w1 w5 := by rw [hw5]; exact k4.setBlk (.inr hq) _
    have hp5 : w5.heap[p]? = some (.cells #[.string (str o.sku), .string (str o.loc)] 101) := by rw [hw5, heap_ne (Ne.symm hpq)]; exact hp4
    have hq5 : w5.heap[q]? = some (.cells #[.string (str o.sku), .string (str o.to)] 101) := by rw [hw5]; exact heap_self (live_of hq4)
    rw [← hw5]
    have hs5 := k5.size
    refine does_s22 hh ⟨h1.keep k5, k5.get hh1 (by simp), hp5, hq5, fun hm => by have := hlt _ hm; omega, fun hm => by have := hlt _ hm; omega, fun hm => by have := hlt _ hm; omega⟩ fun w' S' a b c => hK w' S' a (((hk1.trans' k5).mono (by simp)).trans' b) fun q hq => (c q hq).imp id fun e => by omega
  have r2 := fun j v hj K => op _ k2 j v hj K
  have r3 := fun j v hj K => op _ k3 j v hj K
  simp only [r2 3 (.string (str o.to)) rfl, r2 1 (.string (str o.sku)) rfl, r2 2 (.string (str o.loc)) rfl, r3 3 (.string (str o.to)) rfl, r3 1 (.string (str o.sku)) rfl, r3 2 (.string (str o.loc)) rfl, true_and]
  exact ⟨rest pa pb hab (by omega) (by omega) ha3 hb3, rest pb pa (Ne.symm hab) (by omega) (by omega) hb3 ha3⟩
end
end Go.Proofs

set_option linter.unusedVariables false
set_option linter.unusedSimpArgs false
namespace Go.Proofs
open Go Go.Q
open Tryz (prog)
theorem led_give {w0 wj : World} {x z : Nat} {l : LV} {S0 S : List Nat} (h : LVar w0 wj x l S0 S) (hz : wj.heap[z]? = some (.cells [.slice none 0 0, .slice none 0 0, .slice none 0 0, .int .i64 0].toArray 26)) (hz0 : w0.heap.size ≤ z) (hzS : z ∉ S)
    {K : KW} (hK : ∀ v' w', Kp [] w0 w' → LedS w' v' l S → K v' w') :
    ldn 4 (.pointer (some ⟨x, 0, none⟩)) wj fun t67 => stn 4 (.pointer (some ⟨z, 0, none⟩)) t67 wj fun w => qG prog (do loadVar 26 (← asAddr (.pointer (some ⟨z, 0, none⟩)))) w fun r4 => K r4 w := by
  obtain ⟨a, b, c, h1, h2⟩ := h.ex
  exact led_ret h1 hz h2 hzS fun w' hk hv => hK _ w' (h.kp.trans hk fun q hq hlt => by simp at hq; omega) hv
end Go.Proofs

set_option linter.unusedVariables false
set_option linter.unusedSimpArgs false
namespace Go.Proofs
open Go Go.Q
open Tryz (prog)
theorem led_put {wj : World} {z : Nat} {v : Value} {l : LV} {S : List Nat} (hz : wj.heap[z]? = some (.cells [.slice none 0 0, .slice none 0 0, .slice none 0 0, .int .i64 0].toArray 26))
    (hv : LedS wj v l S) (hzS : z ∉ S) {K : KW} (hK : ∀ w', Kp [z] wj w' → LedS w' v l S → K v w') :
    stn 4 (.pointer (some ⟨z, 0, none⟩)) v wj fun w => qG prog (do loadVar 26 (← asAddr (.pointer (some ⟨z, 0, none⟩)))) w fun r4 => K r4 w := by
  obtain ⟨a, b, c, SA, SB, SC, rfl, h1, h2, h3, _⟩ := hv.ex
  have hone := LedAt.ones (l := l) ⟨_, h1⟩ ⟨_, h2⟩ ⟨_, h3⟩
  rw [stAll (k := 4) hz rfl rfl hone, lvLedw (heap_self (live_of hz)) rfl]
  have hk : Kp [z] wj (setBlk wj z (.cells #[a, b, c, .int .i64 l.ops] 26)) := (Kp.refl _ wj).setBlk (.inl (by simp)) _
  exact hK _ hk (hv.keep hk fun q hq => by simp; intro h; exact hzS (h ▸ hq))
end Go.Proofs

set_option linter.unusedVariables false
set_option linter.unusedSimpArgs false
namespace Go.Proofs
open Go Go.Q
open Tryz (prog)
theorem run_max3 {P : Program} {ts : Array TypeId} {t : TypeId} {k : IntKind} {a b c : Int} {w : World} : (Builtin.max_ ts t #[.int k a, .int k b, .int k c]).run P w = .ok (.int k (max (max a b) c)) w := by
  simp only [Builtin.max_, List.foldlM_cons, List.foldlM_nil, Builtin.max2, pure_bind]
  show Result.ok _ _ = _
  congr 2; omega
theorem ok_doH {l : LV} {o : OpV} (hm : May l) (hq : rngI o.q) (ho : o.ok = true) : DoH l o := by
  refine ⟨hm, hq, ?_, ?_, fun h => ?_⟩
  all_goals
    unfold OpV.ok at ho
    simp only at ho
  · by_cases h1 : o.k = 1
    · omega
    by_cases h2 : o.k = 2
    · omega
    by_cases h3 : o.k = 3 ∨ o.k = 4
    · omega
    by_cases h5 : o.k = 5
    · omega
    by_cases h6 : o.k = 6
    · omega
    by_cases h7 : o.k = 7
    · omega
    simp [h1, h2, h3, h5, h6, h7] at ho
  · by_cases h1 : o.k = 1
    · omega
    by_cases h2 : o.k = 2
    · omega
    by_cases h3 : o.k = 3 ∨ o.k = 4
    · omega
    by_cases h5 : o.k = 5
    · omega
    by_cases h6 : o.k = 6
    · omega
    by_cases h7 : o.k = 7
    · omega
    simp [h1, h2, h3, h5, h6, h7] at ho
  · have h1 : ¬ o.k = 1 := by omega
    have h2 : ¬ o.k = 2 := by omega
    simp [h1, h2, h] at ho
    exact ho.2.2.2.1
theorem bld_whole {n : Nat} {z cs : Array Value} (hz : z.size = n) (hc : cs.size = n) {K : Value → Prop} : bld [(0, n)] z #[(0, .agg cs)] K = K (.agg cs) := by
  unfold bld
  show (match Instr.fill _ z [(0, Value.agg cs)] with | some cs => K (.agg cs) | none => False) = _
  have hc' : (Value.cells (.agg cs)).size = n := hc
  rw [fill_step (off := 0) (size := n) rfl hc' (by omega)]
  have : splice z 0 (Value.cells (.agg cs)) = cs := splice_all (by rw [hz]; exact hc.symm)
  rw [this]
  rfl
theorem step_spec {w : World} {v : Value} {l : LV} {S0 : List Nat} (hm : May l) (hv : LedS w v l S0) (o : OpV) (hq : rngI o.q) {K : KW}
    (hK : ∀ v' w' S', Kp [] w w' → LedS w' v' (stepL l o).1 S' → (∀ q ∈ S', q ∈ S0 ∨ w.heap.size ≤ q) → K (.tuple #[v', .int .i64 (stepL l o).2]) w') : callG prog 92 #[v, .agg (opC o).toArray] w K := by
  refine Fn61_call ?_
  have hlt0 := hv.lt
  have hfew := hm.few
  simp only [fullL, decide_eq_false_iff_not, not_or] at hfew
  unfold Fn61 Fn61_s1
  refine argVar hv fun x2 w1 c1 => ?_
  refine argBox (cs := opC o) fun y w2 hy hh2 hk2 => ?_
  rw [newG_k, zcLed]
  obtain ⟨z, hz⟩ : ∃ z, z = w2.heap.size := ⟨_, rfl⟩
  obtain ⟨w3, hw3⟩ := ex_w (w' := w2.alloc (.cells [.slice none 0 0, .slice none 0 0, .slice none 0 0, .int .i64 0].toArray 26))
  have hk3 : Kp [] w2 w3 := by rw [hw3]; exact kp_alloc
  have hz3 : w3.heap[z]? = some (.cells [.slice none 0 0, .slice none 0 0, .slice none 0 0, .int .i64 0].toArray 26) := by rw [hw3, hz]; exact heap_new
  rw [← hw3, ← hz]
  have c3 := (c1.keep hk2).keep hk3
  have hs1 := c1.kp.size
  have hs2 := hk2.size
  have hzl := lt_of_blk hz3
  have hzS : z ∉ S0 := fun hm => by have := hlt0 z hm; omega
  have hy3 := hk3.get hh2 (by simp)
  have hx2l : x2 < w1.heap.size := by
    obtain ⟨_, _, _, h1, _⟩ := c1.ex
    exact lt_of_blk h1
  have hx20 := c1.x0
  have give : ∀ (e : Int) w', LVar w w' x2 l S0 S0 → w'.heap[z]? = some (.cells [.slice none 0 0, .slice none 0 0, .slice none 0 0, .int .i64 0].toArray 26) → stepL l o = (l, e) →
      ldn 4 (.pointer (some ⟨x2, 0, none⟩)) w' fun t67 => stn 4 (.pointer (some ⟨z, 0, none⟩)) t67 w' fun w => qG prog (do loadVar 26 (← asAddr (.pointer (some ⟨z, 0, none⟩)))) w fun r4 => K (.tuple #[r4, .int .i64 e]) w := by
    intro e w' cx hzx he
    rw [he] at hK
    exact led_give (K := fun v w => K (.tuple #[v, .int .i64 e]) w) cx hzx (by omega) hzS fun v' w' hk hv' => hK v' w' S0 hk hv' fun q hq => .inl hq
  rw [ldAll (k := 7) hy3 rfl]
  refine CheckOp_spec o fun w4 hk4 => ?_
  have c4 := c3.keep hk4
  have hz4 := hk4.get hz3 (by simp)
  have hy4 := hk4.get hy3 (by simp)
  cases hok : o.ok with
  | false =>
    simp only [Bool.false_eq_true, if_false, bq_neq, bV_b, decide_eq_true_eq, decide_eq_false_iff_not]
    refine ⟨fun _ => ?_, fun h => absurd (by decide) h⟩
    exact give 1 w4 c4 hz4 (by unfold stepL; rw [if_pos hok])
  | true =>
    have hdo := ok_doH hm hq hok
    simp only [if_true, bq_neq, bV_b, decide_eq_true_eq, decide_eq_false_iff_not]
    refine ⟨fun h => absurd rfl h, fun _ => ?_⟩
    obtain ⟨a, b, c, hx4, hl4⟩ := c4.ex
    obtain ⟨a', b', c', SA0, SB0, SC0, e4, ra0, rb0, rc0, _⟩ := hl4.ex
    simp only [Value.agg.injEq, Array.mk.injEq, List.cons.injEq] at e4
    obtain ⟨rfl, rfl, rfl, _⟩ := e4
    rw [ldAll (k := 4) hx4 rfl, bld_whole (n := 4) (by kernel_rfl) rfl]
    rw [newG_k]
    obtain ⟨x, hx⟩ : ∃ x, x = w4.heap.size := ⟨_, rfl⟩
    obtain ⟨w5, hw5⟩ : ∃ w5, w5 = w4.alloc (.cells #[a, b, c, .int .i64 l.ops] 169) := ⟨_, rfl⟩
    have hk5 : Kp [] w4 w5 := by rw [hw5]; exact kp_alloc
    have hx5 : w5.heap[x]? = some (.cells #[a, b, c, .int .i64 l.ops] 169) := by rw [hw5, hx]; exact heap_new
    have hw5' : w4.alloc (.cells (Value.cells (.agg #[a, b, c, .int .i64 l.ops])) 169) = w5 := hw5.symm
    rw [hw5', ← hx]
    obtain ⟨W, hW⟩ : ∃ W, W = w5.drew := ⟨_, rfl⟩
    have kW : Kp [] w4 W := by rw [hW]; exact hk5.drew
    have hxW : W.heap[x]? = some (.cells #[a, b, c, .int .i64 l.ops] 169) := by rw [hW]; exact hx5
    rw [← hW]
    have r2 : ∀ w6, Kp [] W w6 → ∀ j v, (#[a, b, c, .int .i64 l.ops] : Array Value)[j]? = some v → ∀ K : Value → Prop, ld1 (.pointer (some ⟨x2, j, none⟩)) w6 K = K v := fun w6 k6 j v hj K => ldF ((kW.trans' k6).get hx4 (by simp)) hj
    simp only [fa_p, nk_p, Nat.add_zero, Nat.zero_add]
    rw [r2 W (Kp.refl _ _) 0 a rfl, r2 W (Kp.refl _ _) 1 b rfl, r2 W (Kp.refl _ _) 2 c rfl]
    have kw0 : Kp [] w W := c4.kp.trans' kW
    refine cloneStock_spec (l := l.st) (Rd.keep ⟨_, ra0⟩ kW) (by omega) fun va w6 fa => ?_
    rw [r2 w6 fa.kp 2 c rfl, r2 w6 fa.kp 1 b rfl]
    refine ⟨rfl, rfl, cloneHold_spec (l := l.ho) (Rd.keep ⟨_, rb0⟩ (kW.trans' fa.kp)) (by omega) fun vb w7 fb => ?_⟩
    have k67 := fa.kp.trans' fb.kp
    rw [r2 w7 k67 2 c rfl]
    refine ⟨rfl, cloneMove_spec (l := l.mo) (Rd.keep ⟨_, rc0⟩ (kW.trans' k67)) (by omega) fun vc w8 fc => ?_⟩
    have kW8 := k67.trans' fc.kp
    obtain ⟨SA, ra, na⟩ := fa.ex
    obtain ⟨SB, rb, nb⟩ := fb.ex
    obtain ⟨SC, rc, nc⟩ := fc.ex
    have ra8 := ra.keep (fb.kp.trans' fc.kp) (by simp)
    have rb8 := rb.keep fc.kp (by simp)
    have hxW8 := kW8.get hxW (by simp)
    have hWx := lt_of_blk hxW
    have s6 := fa.kp.size
    have s7 := fb.kp.size
    have la := ra.lt
    have lb := rb.lt
    have lx := live_of hxW8
    have o1 : one va = true := fa.one
    have o2 : one vb = true := fb.one
    have o3 : one vc = true := fc.one
    rw [stF hxW8 (by simp) o1]
    rw [stF (heap_self lx) (by simp) o2, setBlk2]
    rw [stF (heap_self lx) (by simp) o3, setBlk2]
    obtain ⟨w9, hw9⟩ : ∃ w9, w9 = setBlk w8 x (.cells #[va, vb, vc, .int .i64 l.ops] 169) := ⟨_, rfl⟩
    have hw9' : setBlk w8 x (.cells (((#[a, b, c, .int .i64 l.ops].setIfInBounds 0 va).setIfInBounds 1 vb).setIfInBounds 2 vc) 169) = w9 := by rw [hw9]; rfl
    have k89 : Kp [x] w8 w9 := by rw [hw9]; exact (Kp.refl _ _).setBlk (.inl (by simp)) _
    have hx9 : w9.heap[x]? = some (.cells #[va, vb, vc, .int .i64 l.ops] 169) := by rw [hw9]; exact heap_self lx
    rw [hw9']
    have xA : ∀ q ∈ SA, q ≠ x := fun q hq => by have := na q hq; omega
    have xB : ∀ q ∈ SB, q ≠ x := fun q hq => by have := nb q hq; omega
    have xC : ∀ q ∈ SC, q ≠ x := fun q hq => by have := nc q hq; omega
    have sk := c4.kp.size
    have hx0 : w.heap.size ≤ x := by omega
    have kw9 : Kp [] w w9 := (kw0.trans' kW8).trans k89 fun q hq hlt => by simp at hq; omega
    have swW := kw0.size
    have s5 := hk5.size
    have hW9 : WorkAt w w9 x l (x :: blksC [⟨va, 4, l.st.map sC, SA⟩, ⟨vb, 6, l.ho.map hC, SB⟩, ⟨vc, 6, l.mo.map hC, SC⟩]) := by
      refine ⟨⟨va, vb, vc, SA, SB, SC, ⟨hx9, fun i hi => ?_, ?_⟩, rfl⟩, fun q hq => ?_, kw9⟩
      · rcases (by simp at hi; omega : i = 0 ∨ i = 1 ∨ i = 2) with rfl | rfl | rfl
        · exact ra8.keep k89 fun q hq => by simpa using xA q hq
        · exact rb8.keep k89 fun q hq => by simpa using xB q hq
        · exact rc.keep k89 fun q hq => by simpa using xC q hq
      · simp only [blksC, List.map_cons, List.map_nil, List.flatten_cons, List.flatten_nil, List.append_nil]
        refine List.nodup_cons.2 ⟨fun hm => ?_, List.nodup_append.2 ⟨ra.nodup, List.nodup_append.2 ⟨rb.nodup, rc.nodup, fun q hq r hr he => ?_⟩, fun q hq r hr he => ?_⟩⟩
        · simp only [List.mem_append] at hm
          rcases hm with h | h | h
          · exact xA x h rfl
          · exact xB x h rfl
          · exact xC x h rfl
        · subst he
          have := lb q hq
          have := nc q hr
          omega
        · subst he
          have := la q hq
          simp only [List.mem_append] at hr
          rcases hr with h | h
          · have := nb q h; omega
          · have := nc q h; omega
      · simp only [blksC, List.map_cons, List.map_nil, List.flatten_cons, List.flatten_nil, List.append_nil, List.mem_cons, List.mem_append] at hq
        rcases hq with rfl | h | h | h
        · omega
        · have := na q h; omega
        · have := nb q h; omega
        · have := nc q h; omega
    obtain ⟨SW, hSW⟩ : ∃ SW, SW = x :: blksC [⟨va, 4, l.st.map sC, SA⟩, ⟨vb, 6, l.ho.map hC, SB⟩, ⟨vc, 6, l.mo.map hC, SC⟩] := ⟨_, rfl⟩
    rw [← hSW] at hW9
    have hnW : ∀ q ∈ SW, w4.heap.size ≤ q := fun q hq => by
      rw [hSW] at hq
      simp only [blksC, List.map_cons, List.map_nil, List.flatten_cons, List.flatten_nil, List.append_nil, List.mem_cons, List.mem_append] at hq
      rcases hq with rfl | h | h | h
      · omega
      · have := na q h; omega
      · have := nb q h; omega
      · have := nc q h; omega
    have k49 : Kp [] w4 w9 := (kW.trans' kW8).trans k89 fun q hq hlt => by simp at hq; omega
    rw [ldAll (k := 7) (k49.get hy4 (by simp)) rfl]
    refine does_spec hdo hW9 fun w10 S10 h10 k10 hS10 => ?_
    have s4l := k49.size
    have k410 : Kp [] w4 w10 := k49.trans k10 fun q hq hlt => by have := hnW q hq; omega
    have c10 := c4.keep k410
    have hz10 := k410.get hz4 (by simp)
    simp only [bq_neq, bV_b, decide_eq_true_eq, decide_eq_false_iff_not]
    refine ⟨fun e => give _ w10 c10 hz10 (by unfold stepL; rw [if_neg (by simp [hok]), if_pos e]), fun e => ?_⟩
    obtain ⟨l', hl'⟩ : ∃ l', l' = (doesL l o).1 := ⟨_, rfl⟩
    rw [← hl'] at h10
    have h10d := h10.keep kp_drew
    obtain ⟨va', vb', vc', SA', SB', SC', hbx, hSx⟩ := h10d.ex
    have hlx : ∀ i (hi : i < 3) v' (hv' : ([(⟨va', 4, l'.st.map sC, SA'⟩ : Cmp), ⟨vb', 6, l'.ho.map hC, SB'⟩, ⟨vc', 6, l'.mo.map hC, SC'⟩].map (fun x : Cmp => x.v) ++ [Value.int .i64 l'.ops])[i]? = some v') (K : Value → Prop), ld1 (.pointer (some ⟨x, i, none⟩)) w10.drew K = K v' := fun i hi v' hv' K => ldF hbx.cell (by simpa using hv')
    obtain ⟨aa, ac, ha', _⟩ := (hbx.rows 0 (by simp)).len
    obtain ⟨ba, bc, hb', _⟩ := (hbx.rows 1 (by simp)).len
    obtain ⟨ca, cc, hc', _⟩ := (hbx.rows 2 (by simp)).len
    simp only [List.getElem_cons_zero, List.getElem_cons_succ, List.length_map] at ha' hb' hc'
    have la' : ∀ K : Value → Prop, lenL va' K = K (.int .i64 l'.st.length) := fun K => by rw [ha']; rfl
    have lb' : ∀ K : Value → Prop, lenL vb' K = K (.int .i64 l'.ho.length) := fun K => by rw [hb']; rfl
    have lc' : ∀ K : Value → Prop, lenL vc' K = K (.int .i64 l'.mo.length) := fun K => by rw [hc']; rfl
    rw [hlx 0 (by omega) va' rfl, la', hlx 1 (by omega) vb' rfl, lb', hlx 2 (by omega) vc' rfl, lc']
    rw [qG_of run_max3]
    have c10d := c10.keep kp_drew
    have hz10d := kp_drew.get hz10 (by simp)
    have e0 : (doesL l o).2 = 0 := Decidable.not_not.1 e
    simp only [bq_gtr, bV_b, decide_eq_true_eq, decide_eq_false_iff_not]
    refine ⟨fun e2 => ?_, fun e2 => ?_⟩
    · exact give 2 w10.drew c10d hz10d (by
        unfold stepL
        rw [if_neg (by simp [hok]), if_neg e, if_pos (.inl (by unfold fullL; rw [← hl']; exact decide_eq_true (by omega)))])
    · obtain ⟨xa, xb, xc, hxx, _⟩ := c10d.ex
      rw [ldF hxx (j := 3) (x := .int .i64 l.ops) rfl]
      simp only [bq_geq, bV_b, decide_eq_true_eq, decide_eq_false_iff_not]
      refine ⟨fun e3 => give 2 w10.drew c10d hz10d (by unfold stepL; rw [if_neg (by simp [hok]), if_neg e, if_pos (.inr (by omega))]), fun e3 => ?_⟩
      have hstep : stepL l o = ({ l' with ops := l.ops + 1 }, 0) := by
        unfold stepL
        rw [if_neg (by simp [hok]), if_neg e, if_neg, hl']
        rw [not_or]
        refine ⟨?_, by omega⟩
        unfold fullL
        rw [← hl', decide_eq_true_eq]
        omega
      have hops : l'.ops = l.ops := by
        rw [hl']
        exact (doesL_ops l o)
      unfold Fn61_s0
      simp only [fa_p, nk_p, Nat.add_zero, Nat.zero_add]
      have hcell := hbx.cell
      have hops0 := hm.ops
      have hiw : IntKind.i64.wrap (l'.ops + 1) = l.ops + 1 := by rw [hops, w64 (by omega) (by omega)]
      rw [ldF hcell (j := 3) (x := .int .i64 l'.ops) rfl]
      simp only [bq_add, hiw]
      rw [stF hcell (by simp) rfl]
      obtain ⟨wA, hwA⟩ : ∃ wA, wA = setBlk w10.drew x (.cells #[va', vb', vc', .int .i64 (l.ops + 1)] 169) := ⟨_, rfl⟩
      have hwA' : setBlk w10.drew x (.cells ((([(⟨va', 4, l'.st.map sC, SA'⟩ : Cmp), ⟨vb', 6, l'.ho.map hC, SB'⟩, ⟨vc', 6, l'.mo.map hC, SC'⟩].map (fun x : Cmp => x.v) ++ [Value.int .i64 l'.ops]).toArray).setIfInBounds 3 (.int .i64 (l.ops + 1))) 169) = wA := by rw [hwA]; rfl
      rw [hwA']
      have kA : Kp [x] w10.drew wA := by rw [hwA]; exact (Kp.refl _ _).setBlk (.inl (by simp)) _
      have hxA : wA.heap[x]? = some (.cells #[va', vb', vc', .int .i64 (l.ops + 1)] 169) := by rw [hwA]; exact heap_self (live_of hcell)
      have hn10 : ∀ q ∈ S10, w4.heap.size ≤ q := fun q hq => by
        rcases hS10 q hq with h | h
        · exact hnW q h
        · have := k49.size; omega
      have hzx : z ≠ x := by have := hk4.size; omega
      have hzA : wA.heap[z]? = some (.cells [.slice none 0 0, .slice none 0 0, .slice none 0 0, .int .i64 0].toArray 26) := kA.get hz10d (by simpa using hzx)
      have hx0' : ∀ i (hi : i < 3), x ∉ [SA', SB', SC'][i] := by
        intro i hi
        rcases (by omega : i = 0 ∨ i = 1 ∨ i = 2) with rfl | rfl | rfl
        · exact hbx.x_not (i := 0) (by simp)
        · exact hbx.x_not (i := 1) (by simp)
        · exact hbx.x_not (i := 2) (by simp)
      have rA := (hbx.rows 0 (by simp)).keep kA fun q hq => by simp; intro e; exact hx0' 0 (by omega) (e ▸ hq)
      have rB := (hbx.rows 1 (by simp)).keep kA fun q hq => by simp; intro e; exact hx0' 1 (by omega) (e ▸ hq)
      have rC := (hbx.rows 2 (by simp)).keep kA fun q hq => by simp; intro e; exact hx0' 2 (by omega) (e ▸ hq)
      simp only [List.getElem_cons_zero, List.getElem_cons_succ] at rA rB rC
      have hin : ∀ q ∈ SA' ++ (SB' ++ SC'), q ∈ S10 := fun q hq => by
        rw [hSx]
        simp only [blksC, List.map_cons, List.map_nil, List.flatten_cons, List.flatten_nil, List.append_nil, List.mem_cons]
        exact .inr hq
      have hltA := kA.size
      have hlt10 := h10d.lt
      have hvA : LedS wA (.agg #[va', vb', vc', .int .i64 (l.ops + 1)]) { l' with ops := l.ops + 1 } (SA' ++ (SB' ++ SC')) :=
        ⟨⟨va', vb', vc', SA', SB', SC', rfl, .inr rA.rd, .inr rB.rd, .inr rC.rd, rfl⟩, fun q hq => by have := hlt10 q (hin q hq); omega⟩
      rw [hstep] at hK
      have kfin : Kp [] w wA := by
        refine ((c10d.kp).mono (by simp)).trans kA fun q hq hlt => ?_
        simp at hq; omega
      rw [ldAll (k := 4) hxA rfl]
      refine led_put (K := fun v w => K (.tuple #[v, .int .i64 0]) w) hzA hvA (fun hm => by have := hn10 z (hin z hm); have := hk4.size; omega) fun w' hk' hv' => hK _ w' _ (kfin.trans hk' fun q hq hlt => by simp at hq; omega) hv' fun q hq => .inr (by have := hn10 q (hin q hq); omega)
end Go.Proofs

set_option linter.unusedVariables false
set_option linter.unusedSimpArgs false
namespace Go.Proofs
open Go Go.Q
open Tryz (prog)
theorem zcInt : zc prog 3 = [.int .i64 0].toArray := by kernel_rfl
theorem push_int {w0 w : World} {v : Value} {ks : List Int} (h : Fr w0 w v 1 (ks.map intV)) (hl : ks.length < 2 ^ 30) (q : Int) {K : KW} (hK : ∀ v' w', Fr w0 w' v' 1 ((ks ++ [q]).map intV) → K v' w') :
    bsl 3 1 1 (zc prog 3) #[(0, .int .i64 q)] w fun t w => app 3 1 8 (zc prog 3) v t w K := by
  refine bsl_rowN (n := 1) (cs := intV q) (by omega) rfl rfl fun v1 w1 f1 => ?_
  rw [zcInt]
  refine fr_push (wx := w1) (h.keep f1.kp) f1.rd (by omega) rfl (by rfl) (by simp; omega) (by simp; omega) fun v' w' h' => hK v' w' (by rw [List.map_append]; exact h')
structure LBox (w : World) (x : Nat) (a b c : Value) (l : LV) : Prop where
  h : w.heap[x]? = some (.cells #[a, b, c, .int .i64 l.ops] 26)
  a : Rd w a 4 (l.st.map sC)
  b : Rd w b 6 (l.ho.map hC)
  c : Rd w c 6 (l.mo.map hC)
section
variable {w0 w : World} {x : Nat} {a b c : Value} {l : LV}
theorem LBox.keep {w' : World} (h : LBox w x a b c l) (hk : Kp [] w w') : LBox w' x a b c l := ⟨hk.get h.h (by simp), h.a.keep hk, h.b.keep hk, h.c.keep hk⟩
theorem LBox.at (h : LBox w x a b c l) : LedAt w (.agg #[a, b, c, .int .i64 l.ops]) l := ⟨a, b, c, rfl, h.a, h.b, h.c⟩
theorem LBox.l0 (h : LBox w x a b c l) {K : Value → Prop} : ld1 (.pointer (some ⟨x, 0, none⟩)) w K = K a := ldF h.h rfl
theorem LBox.l1 (h : LBox w x a b c l) {K : Value → Prop} : ld1 (.pointer (some ⟨x, 1, none⟩)) w K = K b := ldF h.h rfl
theorem LBox.l2 (h : LBox w x a b c l) {K : Value → Prop} : ld1 (.pointer (some ⟨x, 2, none⟩)) w K = K c := ldF h.h rfl
theorem LBox.l3 (h : LBox w x a b c l) {K : Value → Prop} : ld1 (.pointer (some ⟨x, 3, none⟩)) w K = K (.int .i64 l.ops) := ldF h.h rfl
theorem LBox.ld (h : LBox w x a b c l) {K : Value → Prop} : ldn 4 (.pointer (some ⟨x, 0, none⟩)) w K = K (.agg #[a, b, c, .int .i64 l.ops]) := ldAll h.h rfl
theorem boxLed {v : Value} (hv : LedAt w v l) {K : KW} (hK : ∀ x a b c w1, w.heap.size ≤ x → Kp [] w w1 → LBox w1 x a b c l → v = .agg #[a, b, c, .int .i64 l.ops] → K (.pointer (some ⟨x, 0, none⟩)) w1) : newG (Value.cells v) 26 w K := by
  obtain ⟨a, b, c, rfl, h1, h2, h3⟩ := hv
  exact argBox (cs := [a, b, c, .int .i64 l.ops]) fun x w1 hx1 hh1 hk1 => hK x a b c w1 hx1 hk1 ⟨hh1, h1.keep hk1, h2.keep hk1, h3.keep hk1⟩ rfl
theorem rd_parts {α : Type} {f : α → List Value} {w : World} {v : Value} {k : Nat} {L : List α} (h : Rd w v k (L.map f)) {i : Nat} (hi : i < L.length) : ∃ p, (∀ K : Value → Prop, ia k v (.int .i64 i) K = K p) ∧ (∀ K : Value → Prop, ldn k p w K = K (.agg (f L[i]).toArray)) ∧ ∀ j x, (f L[i])[j]? = some x → ∀ K : Value → Prop, fa j p (fun q => ld1 q w K) = K x := by
  obtain ⟨p, h1, h2, h3⟩ := h.get (i := i) (by simpa using hi)
  have e : (L.map f)[i]'(by simpa using hi) = f L[i] := by simp
  refine ⟨p, fun K => h1 .i64 K, fun K => by rw [h2 K, e], fun j x hx K => ?_⟩
  obtain ⟨hj, hx⟩ := List.getElem?_eq_some_iff.1 hx
  rw [h3 j (by rw [e]; exact hj)]
  have : ((L.map f)[i]'(by simpa using hi))[j]'(by rw [e]; exact hj) = x := by rw [← hx]; congr 1
  rw [this]
theorem actL_take {ho : List HV} {i : Nat} (h : i < ho.length) (x y : List UInt8) : actL (ho.take (i + 1)) x y = actL (ho.take i) x y ++ if ho[i].sku = x ∧ ho[i].loc = y ∧ ho[i].st = 0 then [ho[i].q] else [] := by
  rw [List.take_succ_eq_append_getElem h, actL_snoc]
theorem movL_take {ho : List HV} {i : Nat} (h : i < ho.length) (x y : List UInt8) : movL (ho.take (i + 1)) x y = movL (ho.take i) x y ++ if ho[i].sku = x ∧ ho[i].loc = y then [ho[i].q] else [] := by
  rw [List.take_succ_eq_append_getElem h, movL_snoc]
theorem refSums_any {v : Value} (hgL : LRg l) (hfew : fullL l = false) (hv : LedAt w v l) {s : SV} {K : KW} (hK : ∀ w' b, Kp [] w w' → (b = true ↔ okS l s) → K (.bool b) w') : callG prog 70 #[v, sA s] w K := by
  refine Fn95_call ?_
  simp only [fullL, decide_eq_false_iff_not, not_or] at hfew
  unfold Fn95 Fn95_s10
  refine boxLed hv fun x a b c w1 hx1 hk1 hB _ => ?_
  refine argBox (cs := sC s) fun y w2 hy hh2 hk2 => ?_
  have hB2 := hB.keep hk2
  have hk02 := hk1.trans' hk2
  have ys : ∀ w', Kp [] w2 w' → ∀ j v, (sC s)[j]? = some v → ∀ K : Value → Prop, ld1 (.pointer (some ⟨y, j, none⟩)) w' K = K v := fun w' k j v hj K => ldF (k.get hh2 (by simp)) (by simpa using hj)
  unfold Fn95_s9 Fn95_L8
  refine loop_inv (fun m xs wi => ∃ i av, i ≤ l.ho.length ∧ m = l.ho.length - i ∧ xs = [.pointer (some ⟨x, 0, none⟩), .pointer (some ⟨y, 0, none⟩), av, .slice none 0 0, .int .i64 (i : Nat)] ∧ Fr w2 wi av 1 ((actL (l.ho.take i) s.sku s.loc).map intV)) ?_ (m := l.ho.length) ⟨0, .slice none 0 0, by omega, rfl, rfl, by simpa [actL] using fr_nil (Kp.refl [] w2)⟩
  rintro m N xs wi ⟨i, av, hi, rfl, rfl, hf⟩ hN
  have hiw : IntKind.i64.wrap ((i : Int) + 1) = ((i + 1 : Nat) : Int) := by rw [w64 (by omega) (by omega)]; simp
  have hBi := hB2.keep hf.kp
  unfold Fn95_L8F Fn95_b7
  simp only [fa_p, Nat.add_zero, Nat.zero_add]
  rw [hBi.l1, hBi.b.lenL, List.length_map]
  simp only [bq_lss, bq_add, hiw, bV_b, decide_eq_true_eq, decide_eq_false_iff_not]
  refine ⟨fun hlt => ?_, fun hge => ?_⟩
  · have hlt : i < l.ho.length := by omega
    obtain ⟨p, i1, i2⟩ := rd_hold hBi.b hlt
    rw [hBi.l1, i1, i2]
    refine boxHold (o := l.ho[i]) (by kernel_rfl) fun q w5 hq hh5 hk5 => ?_
    have kq : Kp [] w2 w5 := hf.kp.trans' hk5
    have hact := actL_take hlt s.sku s.loc
    have hnext : ¬ (l.ho[i].sku = s.sku ∧ l.ho[i].loc = s.loc ∧ l.ho[i].st = 0) → N [.pointer (some ⟨x, 0, none⟩), .pointer (some ⟨y, 0, none⟩), av, .slice none 0 0, .int .i64 (i + 1 : Nat)] w5 := fun hc => hN (l.ho.length - (i + 1)) _ w5 (by omega) ⟨i + 1, av, by omega, rfl, rfl, by
      rw [hact, if_neg hc, List.append_nil]; exact hf.keep hk5⟩
    simp only [fa_p, Nat.add_zero, Nat.zero_add]
    rw [ldF hh5 (j := 1) (x := .string (str l.ho[i].sku)) rfl, ys _ kq 0 (.string (str s.sku)) rfl]
    simp only [bq_seql, bV_b, decide_eq_true_eq, decide_eq_false_iff_not, str_eq]
    refine ⟨fun e1 => ?_, fun e1 => hnext (fun h => e1 h.1)⟩
    rw [ldF hh5 (j := 2) (x := .string (str l.ho[i].loc)) rfl, ys _ kq 1 (.string (str s.loc)) rfl]
    simp only [bq_seql, bV_b, decide_eq_true_eq, decide_eq_false_iff_not, str_eq]
    refine ⟨fun e2 => ?_, fun e2 => hnext (fun h => e2 h.2.1)⟩
    rw [ldF hh5 (j := 4) (x := .int .i64 l.ho[i].st) rfl]
    simp only [bq_eql, bV_b, decide_eq_true_eq, decide_eq_false_iff_not]
    refine ⟨fun e3 => ?_, fun e3 => hnext (fun h => e3 h.2.2)⟩
    rw [ldF hh5 (j := 3) (x := .int .i64 l.ho[i].q) rfl]
    have hln : (actL (l.ho.take i) s.sku s.loc).length ≤ 4096 := by have := actL_len (l.ho.take i) s.sku s.loc; have := List.length_take_le i l.ho; omega
    refine push_int (hf.keep hk5) (by omega) l.ho[i].q fun v6 w6 f6 => ?_
    exact hN (l.ho.length - (i + 1)) _ w6 (by omega) ⟨i + 1, v6, by omega, rfl, rfl, by rw [hact, if_pos ⟨e1, e2, e3⟩]; exact f6⟩
  · have hie : i = l.ho.length := by omega
    subst hie
    rw [List.take_length] at hf
    unfold Fn95_s6 Fn95_L5
    obtain ⟨A, hA⟩ : ∃ A, A = actL l.ho s.sku s.loc := ⟨_, rfl⟩
    rw [← hA] at hf
    refine loop_inv (fun m xs wj => ∃ i bv, i ≤ l.mo.length ∧ m = l.mo.length - i ∧ xs = [.pointer (some ⟨x, 0, none⟩), .pointer (some ⟨y, 0, none⟩), av, bv, .int .i64 (i : Nat)] ∧ Fr wi wj bv 1 ((movL (l.mo.take i) s.sku s.loc).map intV)) ?_ (m := l.mo.length) ⟨0, .slice none 0 0, by omega, rfl, rfl, by simpa [movL] using fr_nil (Kp.refl [] wi)⟩
    rintro m N xs wj ⟨i, bv, hi, rfl, rfl, hg⟩ hN
    have hiw : IntKind.i64.wrap ((i : Int) + 1) = ((i + 1 : Nat) : Int) := by rw [w64 (by omega) (by omega)]; simp
    have k2j : Kp [] w2 wj := hf.kp.trans' hg.kp
    have hBj := hB2.keep k2j
    unfold Fn95_L5F Fn95_s4
    simp only [fa_p, Nat.add_zero, Nat.zero_add]
    rw [hBj.l2, hBj.c.lenL, List.length_map]
    simp only [bq_lss, bV_b, decide_eq_true_eq, decide_eq_false_iff_not]
    refine ⟨fun hlt => ?_, fun hge => ?_⟩
    · have hlt : i < l.mo.length := by omega
      have hmov := movL_take hlt s.sku s.loc
      have kd : Kp [] wj wj.drew := kp_drew
      have hBd := hBj.keep kd
      obtain ⟨p, i1, _, i3⟩ := rd_parts hBd.c hlt
      have hno : ¬ (l.mo[i].sku = s.sku ∧ l.mo[i].loc = s.loc) → Fn95_s2 K N (.pointer (some ⟨x, 0, none⟩)) (.pointer (some ⟨y, 0, none⟩)) av bv (.int .i64 i) (.bool false) wj.drew := fun hc => by
        unfold Fn95_s2 Fn95_s1
        simp only [bV_b, bq_add, hiw, Bool.false_eq_true, false_implies, true_and, true_implies]
        exact hN (l.mo.length - (i + 1)) _ _ (by omega) ⟨i + 1, bv, by omega, rfl, rfl, by rw [hmov, if_neg hc, List.append_nil]; exact hg.keep kd⟩
      unfold Fn95_s3
      simp only [fa_p, Nat.add_zero, Nat.zero_add]
      rw [hBd.l2, i1, i3 1 (.string (str l.mo[i].sku)) rfl, ys _ (k2j.trans' kd) 0 (.string (str s.sku)) rfl]
      simp only [bq_seql, bV_b, decide_eq_true_eq, decide_eq_false_iff_not, str_eq]
      refine ⟨fun e1 => ?_, fun e1 => hno (fun h => e1 h.1)⟩
      rw [hBd.l2, i1, i3 2 (.string (str l.mo[i].loc)) rfl, ys _ (k2j.trans' kd) 1 (.string (str s.loc)) rfl]
      simp only [bq_seql, str_eq]
      by_cases e2 : l.mo[i].loc = s.loc
      · rw [decide_eq_true e2]
        unfold Fn95_s2
        simp only [bV_b, fa_p, Nat.add_zero, Nat.zero_add, true_implies, Bool.true_eq_false, false_implies, and_true]
        rw [hBd.l2, i1, i3 3 (.int .i64 l.mo[i].q) rfl]
        have hln : (movL (l.mo.take i) s.sku s.loc).length ≤ 4096 := by have := movL_len (l.mo.take i) s.sku s.loc; have := List.length_take_le i l.mo; omega
        refine push_int (hg.keep kd) (by omega) l.mo[i].q fun v6 w6 f6 => ?_
        unfold Fn95_s1
        simp only [bq_add, hiw]
        exact hN (l.mo.length - (i + 1)) _ w6 (by omega) ⟨i + 1, v6, by omega, rfl, rfl, by rw [hmov, if_pos ⟨e1, e2⟩]; exact f6⟩
      · rw [decide_eq_false e2]
        exact hno (fun h => e2 h.2)
    · have hie : i = l.mo.length := by omega
      subst hie
      rw [List.take_length] at hg
      unfold Fn95_s0
      have l1 := actL_len l.ho s.sku s.loc
      have l2 := movL_len l.mo s.sku s.loc
      refine refSum1_spec ((hf.rd).keep hg.kp) (by rw [hA]; exact actR hgL _ _) (by rw [hA]; omega) fun w6 k6 => ?_
      simp only [ex0, ex1]
      refine refSum1_spec ((hg.rd).keep k6) (movR hgL _ _) (by omega) fun w7 k7 => ?_
      rw [hA, actL_sum, movL_sum]
      have k27 := (k2j.trans' k6).trans' k7
      have kk := hk02.trans' k27
      simp only [ex0, ex1, bq_eql, bV_b, fa_p, Nat.add_zero, Nat.zero_add, decide_eq_true_eq, decide_eq_false_iff_not]
      refine ⟨fun e1 => ⟨fun e2 => ?_, fun e => hK w7 false kk (nbF fun hh => e hh.2.1)⟩, fun e => hK w7 false kk (nbF fun hh => e hh.1)⟩
      rw [ys _ k27 3 (.int .i64 s.held) rfl]
      simp only [bq_eql, bV_b, decide_eq_true_eq, decide_eq_false_iff_not]
      refine ⟨fun e3 => ?_, fun e => hK w7 false kk (nbF fun hh => e hh.2.2.1)⟩
      rw [ys _ k27 2 (.int .i64 s.hand) rfl]
      simp only [bq_eql]
      refine hK w7 _ kk ?_
      simp only [decide_eq_true_eq]
      exact ⟨fun e4 => ⟨e1, e2, e3, e4⟩, fun hh => hh.2.2.2⟩
end
end Go.Proofs

set_option linter.unusedVariables false
set_option linter.unusedSimpArgs false
namespace Go.Proofs
open Go Go.Q
open Tryz (prog)
theorem wrap_pred {n : Int} {i : Nat} (h : rngI n) (hi : i < 1000000) : IntKind.i64.wrap (n - 1) = (i : Int) ↔ n = (i + 1 : Nat) := by
  unfold rngI at h
  by_cases hm : n = -9223372036854775808
  · subst hm
    have : IntKind.i64.wrap (-9223372036854775808 - 1) = 9223372036854775807 := by decide
    rw [this]
    omega
  · rw [w64 (by omega) (by omega)]
    omega
section
variable {w0 w : World} {x : Nat} {a b c : Value} {l : LV}
theorem may_hold (hm : May l) {k : Nat} (h : k < l.ho.length) : holdK l k l.ho[k] := by
  have hho := hm.holds k h
  simp only [holdOk, Bool.and_eq_true, Bool.or_eq_true, decide_eq_true_eq] at hho
  obtain ⟨⟨⟨⟨m1, m2⟩, m3⟩, m4, m5, m6, m7⟩, m8⟩ := hho
  exact ⟨⟨m1, m2, m3, m4, m5, m6, m7⟩, fun h => m8.resolve_left fun hh => hh h⟩
theorem may_move (hm : May l) {k : Nat} (h : k < l.mo.length) : moveK l k l.mo[k] := by
  have hmv := hm.moves k h
  simp only [moveOk, Bool.and_eq_true, decide_eq_true_eq, beq_iff_eq] at hmv
  obtain ⟨⟨⟨⟨⟨⟨⟨⟨m1, m2⟩, m3⟩, m4⟩, m5⟩, m6⟩, m7⟩, m8⟩, m9⟩ := hmv
  exact ⟨⟨m1, m2, m3, m5, m6, m7, by by_cases q1 : l.mo[k].due = 0 <;> by_cases q2 : l.mo[k].st = 3 <;> simp [q1, q2] at m8 ⊢⟩, m9⟩
theorem refHolds_any {v : Value} (hg : LRg l) (hfew : fullL l = false) (hv : LedAt w v l) {K : KW} (hK : ∀ w' b, Kp [] w w' → (b = true ↔ ∀ k (h : k < l.ho.length), holdK l k l.ho[k]) → K (.bool b) w') : callG prog 71 #[v] w K := by
  refine Fn92_call ?_
  simp only [fullL, decide_eq_false_iff_not, not_or] at hfew
  unfold Fn92 Fn92_s7
  refine boxLed hv fun x a b c w1 hx1 hk1 hB _ => ?_
  unfold Fn92_s6 Fn92_L5
  refine loop_inv (fun m xs wi => ∃ i, i ≤ l.ho.length ∧ m = l.ho.length - i ∧ xs = [.pointer (some ⟨x, 0, none⟩), .int .i64 (i : Nat)] ∧ Kp [] w1 wi ∧ ∀ k (h : k < l.ho.length), k < i → holdK l k l.ho[k]) ?_ (m := l.ho.length) ⟨0, by omega, rfl, rfl, Kp.refl _ _, fun k h hk => by omega⟩
  rintro m N xs wi ⟨i, hi, rfl, rfl, hf, hok⟩ hN
  have hiw : IntKind.i64.wrap ((i : Int) + 1) = ((i + 1 : Nat) : Int) := by rw [w64 (by omega) (by omega)]; simp
  have hBi := hB.keep hf
  unfold Fn92_L5F Fn92_s4
  simp only [fa_p, Nat.add_zero, Nat.zero_add]
  rw [hBi.l1, hBi.b.lenL, List.length_map]
  simp only [bq_lss, bV_b, decide_eq_true_eq, decide_eq_false_iff_not]
  refine ⟨fun hlt => ?_, fun hge => ?_⟩
  · have hlt : i < l.ho.length := by omega
    unfold Fn92_s3
    simp only [fa_p, Nat.add_zero, Nat.zero_add]
    obtain ⟨p, i1, i2⟩ := rd_hold hBi.b hlt
    rw [hBi.l1, i1, i2]
    refine boxHold (o := l.ho[i]) (by kernel_rfl) fun q w5 hq hh5 hk5 => ?_
    have k5 := hf.trans' hk5
    have e1 : IntKind.i64.wrap (l.ho[i].id - 1) = (i : Int) ↔ l.ho[i].id = (i + 1 : Nat) := wrap_pred (hg.ho _ (List.getElem_mem hlt)).2 (by omega)
    have bad : ∀ w', Kp [] w1 w' → ¬ holdK l i l.ho[i] → K (.bool false) w' := fun w' k' hn => hK w' false (hk1.trans' k') (nbF fun hh => hn (hh i hlt))
    simp only [fa_p, Nat.add_zero, Nat.zero_add]
    rw [ldF hh5 (j := 0) (x := .int .i64 l.ho[i].id) rfl]
    simp only [bq_sub, bq_neq, bV_b, e1, ne_eq, decide_eq_true_eq, decide_eq_false_iff_not, Decidable.not_not]
    refine ⟨fun h => bad _ k5 fun hh => h hh.1.1, fun m1 => ?_⟩
    rw [ldF hh5 (j := 1) (x := .string (str l.ho[i].sku)) rfl]
    refine Name_spec l.ho[i].sku ?_
    simp only [un_not, bV_b]
    refine ⟨fun e => bad _ k5 fun hh => (by rw [hh.1.2.1] at e; cases e), fun m2 => ?_⟩
    replace m2 : nameOk l.ho[i].sku = true := by simpa using m2
    rw [ldF hh5 (j := 2) (x := .string (str l.ho[i].loc)) rfl]
    refine Name_spec l.ho[i].loc ?_
    simp only [un_not, bV_b]
    refine ⟨fun e => bad _ k5 fun hh => (by rw [hh.1.2.2.1] at e; cases e), fun m3 => ?_⟩
    replace m3 : nameOk l.ho[i].loc = true := by simpa using m3
    rw [ldF hh5 (j := 3) (x := .int .i64 l.ho[i].q) rfl]
    simp only [bq_lss, bV_b, decide_eq_true_eq, decide_eq_false_iff_not]
    refine ⟨fun h => bad _ k5 fun hh => by have := hh.1.2.2.2.1; omega, fun m4 => ?_⟩
    rw [ldF hh5 (j := 4) (x := .int .i64 l.ho[i].st) rfl]
    simp only [bq_lss, bV_b, decide_eq_true_eq, decide_eq_false_iff_not]
    refine ⟨fun h => bad _ k5 fun hh => by have := hh.1.2.2.2.2.1; omega, fun m5 => ?_⟩
    rw [ldF hh5 (j := 4) (x := .int .i64 l.ho[i].st) rfl]
    simp only [bq_gtr, bV_b, decide_eq_true_eq, decide_eq_false_iff_not]
    refine ⟨fun h => bad _ k5 fun hh => by have := hh.1.2.2.2.2.2.1; omega, fun m6 => ?_⟩
    rw [ldF hh5 (j := 5) (x := .int .i64 l.ho[i].due) rfl]
    simp only [bq_lss, bV_b, decide_eq_true_eq, decide_eq_false_iff_not]
    refine ⟨fun h => bad _ k5 fun hh => by have := hh.1.2.2.2.2.2.2; omega, fun m7 => ?_⟩
    have hBo : holdB i l.ho[i] := ⟨m1, m2, m3, by omega, by omega, by omega, by omega⟩
    have hnext : (l.ho[i].st = 0 → knownL l l.ho[i].sku l.ho[i].loc = true) → ∀ w', Kp [] w1 w' → Fn92_s1 K N (.pointer (some ⟨x, 0, none⟩)) (.int .i64 i) w' := fun hkn w' k' => by
      unfold Fn92_s1
      simp only [bq_add, hiw]
      exact hN (l.ho.length - (i + 1)) _ w' (by omega) ⟨i + 1, by omega, rfl, rfl, k', fun k h hk => by
        by_cases hke : k = i
        · subst hke; exact ⟨hBo, hkn⟩
        · exact hok k h (by omega)⟩
    unfold Fn92_s2
    simp only [fa_p, Nat.add_zero, Nat.zero_add]
    rw [ldF hh5 (j := 4) (x := .int .i64 l.ho[i].st) rfl]
    simp only [bq_eql, bV_b, decide_eq_true_eq, decide_eq_false_iff_not]
    refine ⟨fun h0 => ?_, fun h0 => hnext (fun h => absurd h h0) w5 k5⟩
    have hB5 := hB.keep k5
    rw [hB5.ld, ldF hh5 (j := 1) (x := .string (str l.ho[i].sku)) rfl, ldF hh5 (j := 2) (x := .string (str l.ho[i].loc)) rfl]
    refine refIndex_spec hB5.at (by omega) l.ho[i].sku l.ho[i].loc (fun j w6 k6 hj _ hat => ?_) (fun w6 k6 _ hno => ?_)
    · have hj0 : ¬ ((j : Int) < 0) := by omega
      simp only [bq_lss, bV_b, hj0, decide_false, Bool.false_eq_true, false_implies, true_and, true_implies]
      exact hnext (fun _ => known_find.2 ⟨l.st[j], List.getElem_mem hj, by simpa [atP] using hat⟩) w6 (k5.trans' k6)
    · have hj0 : ((-1 : Int) < 0) := by omega
      simp only [bq_lss, bV_b, hj0, decide_true, true_implies, Bool.true_eq_false, false_implies, and_true]
      exact bad _ (k5.trans' k6) fun hh => by rw [hh.2 h0] at hno; cases hno
  · unfold Fn92_s0
    exact hK wi true (hk1.trans' hf) ⟨fun _ k h => hok k h (by omega), fun _ => rfl⟩
theorem refMoves_any {v : Value} (hg : LRg l) (hfew : fullL l = false) (hv : LedAt w v l) {K : KW} (hK : ∀ w' b, Kp [] w w' → (b = true ↔ ∀ k (h : k < l.mo.length), moveK l k l.mo[k]) → K (.bool b) w') : callG prog 72 #[v] w K := by
  refine Fn94_call ?_
  simp only [fullL, decide_eq_false_iff_not, not_or] at hfew
  unfold Fn94 Fn94_s7
  refine boxLed hv fun x a b c w1 hx1 hk1 hB _ => ?_
  unfold Fn94_s6 Fn94_L5
  refine loop_inv (fun m xs wi => ∃ i, i ≤ l.mo.length ∧ m = l.mo.length - i ∧ xs = [.pointer (some ⟨x, 0, none⟩), .int .i64 (i : Nat)] ∧ Kp [] w1 wi ∧ ∀ k (h : k < l.mo.length), k < i → moveK l k l.mo[k]) ?_ (m := l.mo.length) ⟨0, by omega, rfl, rfl, Kp.refl _ _, fun k h hk => by omega⟩
  rintro m N xs wi ⟨i, hi, rfl, rfl, hf, hok⟩ hN
  have hiw : IntKind.i64.wrap ((i : Int) + 1) = ((i + 1 : Nat) : Int) := by rw [w64 (by omega) (by omega)]; simp
  have hBi := hB.keep hf
  unfold Fn94_L5F Fn94_s4
  simp only [fa_p, Nat.add_zero, Nat.zero_add]
  rw [hBi.l2, hBi.c.lenL, List.length_map]
  simp only [bq_lss, bV_b, decide_eq_true_eq, decide_eq_false_iff_not]
  refine ⟨fun hlt => ?_, fun hge => ?_⟩
  · have hlt : i < l.mo.length := by omega
    unfold Fn94_s3
    simp only [fa_p, Nat.add_zero, Nat.zero_add]
    obtain ⟨p, i1, i2⟩ := rd_hold hBi.c hlt
    rw [hBi.l2, i1, i2]
    refine boxMove (o := l.mo[i]) (by kernel_rfl) fun q w5 hq hh5 hk5 => ?_
    have k5 := hf.trans' hk5
    have e1 : IntKind.i64.wrap (l.mo[i].id - 1) = (i : Int) ↔ l.mo[i].id = (i + 1 : Nat) := wrap_pred (hg.mo _ (List.getElem_mem hlt)).2 (by omega)
    have bad : ∀ w', Kp [] w1 w' → ¬ moveK l i l.mo[i] → K (.bool false) w' := fun w' k' hn => hK w' false (hk1.trans' k') (nbF fun hh => hn (hh i hlt))
    have hs2 : ∀ bk, (bk = true ↔ (l.mo[i].st = 1 ∨ l.mo[i].st = 3 ∨ l.mo[i].st = 6 ∨ l.mo[i].st = 7)) → Fn94_s2 K N (.pointer (some ⟨x, 0, none⟩)) (.int .i64 i) (.pointer (some ⟨q, 0, none⟩)) (.bool bk) w5 := by
      intro bk hbk
      unfold Fn94_s2
      simp only [fa_p, Nat.add_zero, Nat.zero_add]
      rw [ldF hh5 (j := 0) (x := .int .i64 l.mo[i].id) rfl]
      simp only [bq_sub, bq_neq, bV_b, e1, ne_eq, decide_eq_true_eq, decide_eq_false_iff_not, Decidable.not_not]
      refine ⟨fun h => bad _ k5 fun hh => h hh.1.1, fun m1 => ?_⟩
      rw [ldF hh5 (j := 1) (x := .string (str l.mo[i].sku)) rfl]
      refine Name_spec l.mo[i].sku ?_
      simp only [un_not, bV_b]
      refine ⟨fun e => bad _ k5 fun hh => (by rw [hh.1.2.1] at e; cases e), fun m2 => ?_⟩
      replace m2 : nameOk l.mo[i].sku = true := by simpa using m2
      rw [ldF hh5 (j := 2) (x := .string (str l.mo[i].loc)) rfl]
      refine Name_spec l.mo[i].loc ?_
      simp only [un_not, bV_b]
      refine ⟨fun e => bad _ k5 fun hh => (by rw [hh.1.2.2.1] at e; cases e), fun m3 => ?_⟩
      replace m3 : nameOk l.mo[i].loc = true := by simpa using m3
      rw [ldF hh5 (j := 3) (x := .int .i64 l.mo[i].q) rfl]
      simp only [bq_eql, bV_b, decide_eq_true_eq, decide_eq_false_iff_not]
      refine ⟨fun h => bad _ k5 fun hh => hh.1.2.2.2.1 h, fun m5 => ?_⟩
      refine ⟨fun h => bad _ k5 fun hh => (by rw [hbk.2 hh.1.2.2.2.2.1] at h; cases h), fun h6 => ?_⟩
      have m6 := hbk.1 (by simpa using h6)
      rw [ldF hh5 (j := 5) (x := .int .i64 l.mo[i].due) rfl]
      simp only [bq_lss, bV_b, decide_eq_true_eq, decide_eq_false_iff_not]
      refine ⟨fun h => bad _ k5 fun hh => (by have := hh.1.2.2.2.2.2.1; omega), fun m7 => ?_⟩
      rw [ldF hh5 (j := 5) (x := .int .i64 l.mo[i].due) rfl]
      simp only [bq_neq]
      rw [ldF hh5 (j := 4) (x := .int .i64 l.mo[i].st) rfl]
      simp only [bq_eql]
      rw [bq_bneq _ _ (by kernel_rfl)]
      simp only [bV_b]
      refine ⟨fun h => bad _ k5 fun hh => ?_, fun h8 => ?_⟩
      · have := hh.1.2.2.2.2.2.2
        by_cases q1 : l.mo[i].due = 0 <;> by_cases q2 : l.mo[i].st = 3 <;> simp [q1, q2] at this h
      have m8 : l.mo[i].due ≠ 0 ↔ l.mo[i].st = 3 := by
        by_cases q1 : l.mo[i].due = 0 <;> by_cases q2 : l.mo[i].st = 3 <;> simp [q1, q2] at h8 ⊢
      have hB' : moveB i l.mo[i] := ⟨m1, m2, m3, m5, m6, by omega, m8⟩
      have hB5 := hB.keep k5
      rw [hB5.ld, ldF hh5 (j := 1) (x := .string (str l.mo[i].sku)) rfl, ldF hh5 (j := 2) (x := .string (str l.mo[i].loc)) rfl]
      refine refIndex_spec hB5.at (by omega) l.mo[i].sku l.mo[i].loc (fun j w6 k6 hj _ hat => ?_) (fun w6 k6 _ hno => ?_)
      · have hj0 : ¬ ((j : Int) < 0) := by omega
        simp only [bq_lss, bV_b, hj0, decide_false, Bool.false_eq_true, false_implies, true_and, true_implies]
        unfold Fn94_s1
        simp only [bq_add, hiw]
        refine hN (l.mo.length - (i + 1)) _ w6 (by omega) ⟨i + 1, by omega, rfl, rfl, k5.trans' k6, fun k h hk => ?_⟩
        by_cases hke : k = i
        · subst hke; exact ⟨hB', known_find.2 ⟨l.st[j], List.getElem_mem hj, by simpa [atP] using hat⟩⟩
        · exact hok k h (by omega)
      · have hj0 : ((-1 : Int) < 0) := by omega
        simp only [bq_lss, bV_b, hj0, decide_true, true_implies, Bool.true_eq_false, false_implies, and_true]
        exact bad _ (k5.trans' k6) fun hh => by rw [hh.2] at hno; cases hno
    simp only [fa_p, Nat.add_zero, Nat.zero_add]
    rw [ldF hh5 (j := 4) (x := .int .i64 l.mo[i].st) rfl]
    simp only [bq_eql, bV_b, decide_eq_true_eq, decide_eq_false_iff_not]
    refine ⟨fun e => hs2 true ⟨fun _ => (by omega), fun _ => rfl⟩, fun n1 => ?_⟩
    rw [ldF hh5 (j := 4) (x := .int .i64 l.mo[i].st) rfl]
    simp only [bq_eql, bV_b, decide_eq_true_eq, decide_eq_false_iff_not]
    refine ⟨fun e => hs2 true ⟨fun _ => (by omega), fun _ => rfl⟩, fun n3 => ?_⟩
    rw [ldF hh5 (j := 4) (x := .int .i64 l.mo[i].st) rfl]
    simp only [bq_eql, bV_b, decide_eq_true_eq, decide_eq_false_iff_not]
    refine ⟨fun e => hs2 true ⟨fun _ => (by omega), fun _ => rfl⟩, fun n6 => ?_⟩
    rw [ldF hh5 (j := 4) (x := .int .i64 l.mo[i].st) rfl]
    simp only [bq_eql]
    exact hs2 _ (by simp only [decide_eq_true_eq]; omega)
  · unfold Fn94_s0
    exact hK wi true (hk1.trans' hf) ⟨fun _ k h => hok k h (by omega), fun _ => rfl⟩
theorem refMay_any {v : Value} (hg : LRg l) (hfew : fullL l = false) (hv : LedAt w v l) {K : KW} (hK : ∀ w' b, Kp [] w w' → (b = true ↔ May l) → K (.bool b) w') : callG prog 28 #[v] w K := by
  refine Fn90_call ?_
  have hfew' := hfew
  simp only [fullL, decide_eq_false_iff_not, not_or] at hfew
  unfold Fn90 Fn90_s4
  refine boxLed hv fun x a b c w1 hx1 hk1 hB _ => ?_
  simp only [fa_p, Nat.add_zero, Nat.zero_add]
  rw [hB.l3]
  simp only [bq_lss, bV_b, decide_eq_true_eq, decide_eq_false_iff_not]
  refine ⟨fun h => hK w1 false hk1 (nbF fun hm => by have := hm.ops; omega), fun hops => ?_⟩
  rw [hB.l0, hB.a.lenL, List.length_map]
  simp only [bq_gtr, bV_b, decide_eq_true_eq, decide_eq_false_iff_not]
  refine ⟨fun h => by omega, fun _ => ?_⟩
  rw [hB.l1, hB.b.lenL, List.length_map]
  simp only [bq_gtr, bV_b, decide_eq_true_eq, decide_eq_false_iff_not]
  refine ⟨fun h => by omega, fun _ => ?_⟩
  rw [hB.l2, hB.c.lenL, List.length_map]
  simp only [bq_gtr, bV_b, decide_eq_true_eq, decide_eq_false_iff_not]
  refine ⟨fun h => by omega, fun _ => ?_⟩
  unfold Fn90_s3 Fn90_L2
  refine loop_inv (fun m xs wi => ∃ i, i ≤ l.st.length ∧ m = l.st.length - i ∧ xs = [.pointer (some ⟨x, 0, none⟩), .int .i64 (i : Nat)] ∧ Kp [] w1 wi ∧ Sorted (l.st.take i) ∧ ∀ k (h : k < l.st.length), k < i → stockB l.st[k] ∧ okS l l.st[k]) ?_ (m := l.st.length) ⟨0, by omega, rfl, rfl, Kp.refl _ _, List.Pairwise.nil, fun k h hk => by omega⟩
  rintro m N xs wi ⟨i, hi, rfl, rfl, hf, hso, hok⟩ hN
  have hiw : IntKind.i64.wrap ((i : Int) + 1) = ((i + 1 : Nat) : Int) := by rw [w64 (by omega) (by omega)]; simp
  have hBi := hB.keep hf
  unfold Fn90_L2F Fn90_b1
  simp only [fa_p, Nat.add_zero, Nat.zero_add]
  rw [hBi.l0, hBi.a.lenL, List.length_map]
  simp only [bq_lss, bV_b, decide_eq_true_eq, decide_eq_false_iff_not]
  refine ⟨fun hlt => ?_, fun hge => ?_⟩
  · have hlt : i < l.st.length := by omega
    obtain ⟨p, i1, i2⟩ := rd_stock hBi.a hlt
    rw [hBi.l0, i1, i2]
    refine boxStock (o := l.st[i]) (by kernel_rfl) fun q w5 hq hh5 hk5 => ?_
    have kd : Kp [] w5 w5.drew := kp_drew
    have hh5d := kd.get hh5 (by simp)
    have k5 := (hf.trans' hk5).trans' kd
    have bad : ∀ w', Kp [] w1 w' → ¬ May l → K (.bool false) w' := fun w' k' hn => hK w' false (hk1.trans' k') (nbF hn)
    have badS : ∀ w', Kp [] w1 w' → ¬ stockB l.st[i] → K (.bool false) w' := fun w' k' hn => bad w' k' fun hm => hn (by
      obtain ⟨m1, m2, m3, m4, m5, _, _⟩ := hm.f.ok l.st[i] (List.getElem_mem hlt)
      exact ⟨m1, m2, m4, m5⟩)
    simp only [fa_p, Nat.add_zero, Nat.zero_add]
    rw [ldF hh5d (j := 0) (x := .string (str l.st[i].sku)) rfl]
    refine Name_spec l.st[i].sku ?_
    simp only [un_not, bV_b]
    refine ⟨fun e => badS _ k5 fun hh => (by rw [hh.1] at e; cases e), fun m1 => ?_⟩
    replace m1 : nameOk l.st[i].sku = true := by simpa using m1
    rw [ldF hh5d (j := 1) (x := .string (str l.st[i].loc)) rfl]
    refine Name_spec l.st[i].loc ?_
    simp only [un_not, bV_b]
    refine ⟨fun e => badS _ k5 fun hh => (by rw [hh.2.1] at e; cases e), fun m2 => ?_⟩
    replace m2 : nameOk l.st[i].loc = true := by simpa using m2
    rw [ldF hh5d (j := 3) (x := .int .i64 l.st[i].held) rfl]
    simp only [bq_lss, bV_b, decide_eq_true_eq, decide_eq_false_iff_not]
    refine ⟨fun h => badS _ k5 fun hh => (by have := hh.2.2.1; omega), fun m4 => ?_⟩
    rw [ldF hh5d (j := 3) (x := .int .i64 l.st[i].held) rfl, ldF hh5d (j := 2) (x := .int .i64 l.st[i].hand) rfl]
    simp only [bq_gtr, bV_b, decide_eq_true_eq, decide_eq_false_iff_not]
    refine ⟨fun h => badS _ k5 fun hh => (by have := hh.2.2.2; omega), fun m5 => ?_⟩
    have hB' : stockB l.st[i] := ⟨m1, m2, by omega, by omega⟩
    have hB5 := hB.keep k5
    have fin : Sorted (l.st.take (i + 1)) → ∀ w', Kp [] w1 w' → w'.heap[q]? = some (.cells (sC l.st[i]).toArray 48) → ldn 4 (.pointer (some ⟨x, 0, none⟩)) w' fun t76 => ldn 4 (.pointer (some ⟨q, 0, none⟩)) w' fun t77 =>
        callG prog 70 #[t76, t77] w' fun t78 w => qG prog (Op.unary .not t78) w fun t79 => bV t79 (K (.bool false) w) (N [.pointer (some ⟨x, 0, none⟩), .int .i64 (i + 1 : Nat)] w)     := fun hso1 w' k' hq' => by
      rw [(hB.keep k').ld, ldStock hq']
      refine refSums_any hg hfew' (hB.keep k').at fun w6 b6 k6 h6 => ?_
      simp only [un_not, bV_b]
      refine ⟨fun e => bad _ (k'.trans' k6) fun hm => (by rw [h6.2 (okS_may hm (List.getElem_mem hlt))] at e; cases e), fun e => ?_⟩
      refine hN (l.st.length - (i + 1)) _ w6 (by omega) ⟨i + 1, by omega, rfl, rfl, k'.trans' k6, hso1, fun k h hk => ?_⟩
      by_cases hke : k = i
      · subst hke; exact ⟨hB', h6.1 (by simpa using e)⟩
      · exact hok k h (by omega)
    simp only [bq_add, hiw]
    refine ⟨fun hpos => ?_, fun h0 => fin (sorted_step hlt hso fun hp => by omega) _ k5 hh5d⟩
    have e1 : IntKind.i64.wrap ((i : Int) - 1) = ((i - 1 : Nat) : Int) := by rw [w64 (by omega) (by omega)]; omega
    have hlt1 : i - 1 < l.st.length := by omega
    obtain ⟨p1, j1, j2⟩ := rd_stock hB5.a hlt1
    rw [hB5.l0]
    simp only [bq_sub, e1]
    rw [j1, j2, ldStock hh5d]
    refine refAhead_spec l.st[i - 1] l.st[i] fun w6 k6 => ?_
    simp only [un_not, bV_b]
    refine ⟨fun e => bad _ (k5.trans' k6) fun hm => ?_, fun e => fin (sorted_step hlt hso fun _ => by simpa using e) w6 (k5.trans' k6) (k6.get hh5d (by simp))⟩
    have : Q.ahead l.st[i - 1] l.st[i] = true := List.pairwise_iff_getElem.1 hm.sorted (i - 1) i hlt1 hlt (by omega)
    rw [this] at e
    cases e
  · have hie : i = l.st.length := by omega
    subst hie
    rw [List.take_length] at hso
    unfold Fn90_s0
    rw [hBi.ld]
    refine refHolds_any hg hfew' hBi.at fun w2 b2 k2 h2 => ?_
    simp only [bV_b]
    have kk2 := (hk1.trans' hf).trans' k2
    refine ⟨fun e2 => ?_, fun e2 => hK w2 false kk2 (nbF fun hm => ?_)⟩
    · have hB2 := hBi.keep k2
      rw [hB2.ld]
      refine refMoves_any hg hfew' hB2.at fun w3 b3 k3 h3 => hK w3 b3 (kk2.trans' k3) ⟨fun e3 => ?_, fun hm => h3.2 fun k h => ?_⟩
      · exact may_of hg (by omega) hfew' hso (fun s hs => by
          obtain ⟨k, hk, rfl⟩ := List.getElem_of_mem hs
          exact (hok k hk hk).1) (h2.1 e2) (h3.1 e3) fun s hs => by
          obtain ⟨k, hk, rfl⟩ := List.getElem_of_mem hs
          exact (hok k hk hk).2
      · exact may_move hm h
    · have : b2 = true := h2.2 fun k h => may_hold hm h
      rw [this] at e2
      cases e2
theorem refMay_true {v : Value} (hm : May l) (hv : LedAt w v l) {K : KW} (hK : ∀ w', Kp [] w w' → K (.bool true) w') : callG prog 28 #[v] w K :=
  refMay_any (may_rg hm) hm.few hv fun w' b hk hb => by rw [hb.2 hm]; exact hK w' hk
end
end Go.Proofs

set_option linter.unusedVariables false
set_option linter.unusedSimpArgs false
namespace Go.Proofs
open Go Go.Q
open Tryz (prog)
theorem varLed {w : World} {v : Value} {l : LV} {S : List Nat} (hv : LedS w v l S) {K : KW}
    (hK : ∀ p w1 a b c, w.heap.size ≤ p → p < w1.heap.size → w1.heap[p]? = some (.cells #[a, b, c, .int .i64 l.ops] 26) → v = .agg #[a, b, c, .int .i64 l.ops] → Kp [] w w1 → LedS w1 v l S → K (.pointer (some ⟨p, 0, none⟩)) w1) :
    newG (zc prog 26) 26 w fun p w => stn 4 p v w fun w => K p w := by
  obtain ⟨a, b, c, SA, SB, SC, rfl, h1, h2, h3, _⟩ := hv.ex
  have hone := LedAt.ones (l := l) ⟨_, h1⟩ ⟨_, h2⟩ ⟨_, h3⟩
  refine boxG (c := #[a, b, c, .int .i64 l.ops]) (by kernel_rfl) rfl (by simpa using hone) fun p w1 hp hh hk => ?_
  exact hK p w1 a b c hp (lt_of_blk hh) hh rfl hk (hv.keep hk (by simp))
set_option maxRecDepth 100000 in
def LX (X : List Nat) (w : World) (v : Value) (l : LV) : Prop := ∃ S, LedS w v l S ∧ ∀ q ∈ S, q ∉ X
structure VX (X : List Nat) (w : World) (x : Nat) (l : LV) : Prop where
  m : x ∈ X
  ex : ∃ v a b c, w.heap[x]? = some (.cells #[a, b, c, .int .i64 l.ops] 26) ∧ v = .agg #[a, b, c, .int .i64 l.ops] ∧ LX X w v l
section
variable {X : List Nat} {w w' : World} {v : Value} {l l' : LV} {x y : Nat}
theorem LX.keepS {S : List Nat} (h : LX X w v l) (hk : Kp S w w') (hS : ∀ q ∈ S, q ∈ X) : LX X w' v l := by
  obtain ⟨T, h1, h2⟩ := h
  exact ⟨T, h1.keep hk (fun q hq hm => h2 q hq (hS q hm)), h2⟩
theorem LX.keep (h : LX X w v l) (hk : Kp [] w w') : LX X w' v l := h.keepS hk (by simp)
theorem LX.more {p : Nat} (h : LX X w v l) (hp : w.heap.size ≤ p) : LX (p :: X) w v l := by
  obtain ⟨T, h1, h2⟩ := h
  refine ⟨T, h1, fun q hq hm => ?_⟩
  rcases List.mem_cons.1 hm with rfl | hm
  · have := h1.lt q hq; omega
  · exact h2 q hq hm
theorem LX.at (h : LX X w v l) : LedAt w v l := by
  obtain ⟨T, h1, h2⟩ := h
  exact h1.at
theorem VX.keepS {S : List Nat} (h : VX X w x l) (hk : Kp S w w') (hS : ∀ q ∈ S, q ∈ X) (hx : x ∉ S) : VX X w' x l := by
  obtain ⟨v, a, b, c, h1, h2, h3⟩ := h.ex
  exact ⟨h.m, v, a, b, c, hk.get h1 hx, h2, h3.keepS hk hS⟩
theorem VX.keep (h : VX X w x l) (hk : Kp [] w w') : VX X w' x l := h.keepS hk (by simp) (by simp)
theorem VX.more {p : Nat} (h : VX X w x l) (hp : w.heap.size ≤ p) : VX (p :: X) w x l := by
  obtain ⟨v, a, b, c, h1, h2, h3⟩ := h.ex
  exact ⟨List.mem_cons_of_mem _ h.m, v, a, b, c, h1, h2, h3.more hp⟩
theorem VX.ld (h : VX X w x l) : ∃ v, (∀ K : Value → Prop, ldn 4 (.pointer (some ⟨x, 0, none⟩)) w K = K v) ∧ LX X w v l := by
  obtain ⟨v, a, b, c, h1, h2, h3⟩ := h.ex
  exact ⟨v, fun K => by rw [h2]; exact ldAll h1 rfl, h3⟩
theorem VX.box (h : VX X w x l) : ∃ a b c, LBox w x a b c l := by
  obtain ⟨v, a, b, c, h1, h2, h3⟩ := h.ex
  obtain ⟨a', b', c', e, r1, r2, r3⟩ := h3.at
  rw [h2] at e
  simp only [Value.agg.injEq, Array.mk.injEq, List.cons.injEq] at e
  obtain ⟨rfl, rfl, rfl, _⟩ := e
  exact ⟨_, _, _, h1, r1, r2, r3⟩
theorem VX.lt (h : VX X w x l) : x < w.heap.size := by
  obtain ⟨v, a, b, c, h1, h2, h3⟩ := h.ex
  exact lt_of_blk h1
theorem VX.st (h : VX X w x l) (hv : LX X w v l') {K : World → Prop} (hK : ∀ w2, Kp [x] w w2 → VX X w2 x l' → K w2) : stn 4 (.pointer (some ⟨x, 0, none⟩)) v w K := by
  obtain ⟨_, a, b, c, h1, h2, h3⟩ := h.ex
  obtain ⟨T, hv1, hv2⟩ := hv
  obtain ⟨a', b', c', SA, SB, SC, rfl, r1, r2, r3, _⟩ := hv1.ex
  have hone := LedAt.ones (l := l') ⟨_, r1⟩ ⟨_, r2⟩ ⟨_, r3⟩
  rw [stAll (k := 4) h1 rfl rfl hone]
  have hkx : Kp [x] w (setBlk w x (.cells #[a', b', c', .int .i64 l'.ops] 26)) := (Kp.refl _ w).setBlk (.inl (by simp)) _
  have hm := h.m
  exact hK _ hkx ⟨hm, _, a', b', c', heap_self (live_of h1), rfl, T, hv1.keep hkx (fun q hq => by simp; intro e; exact hv2 q hq (e ▸ hm)), hv2⟩
theorem lz_led (w : World) : LedS w (.agg #[.slice none 0 0, .slice none 0 0, .slice none 0 0, .int .i64 0]) lZ [] :=
  ⟨⟨_, _, _, [], [], [], rfl, .inr (.inl ⟨rfl, rfl⟩), .inr (.inl ⟨rfl, rfl⟩), .inr (.inl ⟨rfl, rfl⟩), rfl⟩, by simp⟩
theorem lz_x (w : World) : LX X w (.agg #[.slice none 0 0, .slice none 0 0, .slice none 0 0, .int .i64 0]) lZ := ⟨[], lz_led w, by simp⟩
theorem newVX (hv : LX X w v l) {K : KW} (hK : ∀ p w1, w.heap.size ≤ p → Kp [] w w1 → VX (p :: X) w1 p l → K (.pointer (some ⟨p, 0, none⟩)) w1) :
    newG (zc prog 26) 26 w fun p w => stn 4 p v w fun w => K p w := by
  obtain ⟨T, hv1, hv2⟩ := hv
  refine varLed hv1 fun p w1 a b c hp hpl hh hve hk hv' => hK p w1 hp hk ⟨by simp, v, a, b, c, hh, hve, T, hv', fun q hq hm => ?_⟩
  rcases List.mem_cons.1 hm with rfl | hm
  · have := hv1.lt q hq; omega
  · exact hv2 q hq hm
theorem zeroVX {K : KW} (hK : ∀ p w1, w.heap.size ≤ p → Kp [] w w1 → VX (p :: X) w1 p lZ → K (.pointer (some ⟨p, 0, none⟩)) w1) : newG (zc prog 26) 26 w K := by
  rw [newG_k, zcLed]
  exact hK _ _ (Nat.le_refl _) kp_alloc ⟨by simp, _, _, _, _, heap_new, rfl, [], lz_led _, by simp⟩
theorem argVX (hv : LX X w v l) {K : KW} (hK : ∀ p w1, w.heap.size ≤ p → Kp [] w w1 → VX (p :: X) w1 p l → K (.pointer (some ⟨p, 0, none⟩)) w1) : newG (Value.cells v) 26 w K := by
  obtain ⟨T, hv1, hv2⟩ := hv
  obtain ⟨a, b, c, SA, SB, SC, e, h1, h2, h3, _⟩ := hv1.ex
  subst e
  refine argBox (cs := [a, b, c, .int .i64 l.ops]) fun p w1 hp hh hk => ?_
  refine hK p w1 hp hk ⟨by simp, _, a, b, c, hh, rfl, T, hv1.keep hk (by simp), fun q hq hm => ?_⟩
  rcases List.mem_cons.1 hm with rfl | hm
  · have := hv1.lt q hq; omega
  · exact hv2 q hq hm
end
end Go.Proofs

set_option maxRecDepth 100000
set_option linter.unusedVariables false
set_option linter.unusedSimpArgs false
namespace Go.Proofs
open Go Go.Q
open Tryz (prog)
def applyL (l : LV) (o : OpV) : LV × Int := if (stepL l o).2 = 0 then ((stepL l o).1, 0) else (lZ, (stepL l o).2)
def replayL : LV → List OpV → Nat → LV × Nat × Int
  | l, [], k => (l, k, 0)
  | l, o :: r, k => if (stepL l o).2 = 0 then replayL (stepL l o).1 r (k + 1) else (l, k, (stepL l o).2)
section
variable {X : List Nat} {w w' : World} {v : Value} {l l' : LV} {x y : Nat}
theorem LX.less {Y : List Nat} (h : LX X w v l) (hY : ∀ q ∈ Y, q ∈ X) : LX Y w v l := by
  obtain ⟨T, h1, h2⟩ := h
  exact ⟨T, h1, fun q hq hm => h2 q hq (hY q hm)⟩
theorem retVX {z : Nat} {l0 : LV} (h : VX X w z l0) (hv : LX X w v l') {K : KW} (hK : ∀ w', Kp [z] w w' → LX X w' v l' → K v w') :
    stn 4 (.pointer (some ⟨z, 0, none⟩)) v w fun w => qG prog (do loadVar 26 (← asAddr (.pointer (some ⟨z, 0, none⟩)))) w fun r4 => K r4 w := by
  obtain ⟨_, a, b, c, h1, h2, h3⟩ := h.ex
  have hm := h.m
  have hv' := hv
  obtain ⟨T, hv1, hv2⟩ := hv
  obtain ⟨a', b', c', SA, SB, SC, e, r1, r2, r3, _⟩ := hv1.ex
  subst e
  have hone := LedAt.ones (l := l') ⟨_, r1⟩ ⟨_, r2⟩ ⟨_, r3⟩
  rw [stAll (k := 4) h1 rfl rfl hone, lvLedw (heap_self (live_of h1)) rfl]
  have hkx : Kp [z] w (setBlk w z (.cells #[a', b', c', .int .i64 l'.ops] 26)) := (Kp.refl _ w).setBlk (.inl (by simp)) _
  exact hK _ hkx (hv'.keepS hkx fun q hq => by simp at hq; exact hq ▸ hm)
theorem step_X (hm : May l) (hv : LX X w v l) (hX : ∀ q ∈ X, q < w.heap.size) (o : OpV) (hq : rngI o.q) {K : KW}
    (hK : ∀ v' w', Kp [] w w' → LX X w' v' (stepL l o).1 → K (.tuple #[v', .int .i64 (stepL l o).2]) w') : callG prog 92 #[v, .agg (opC o).toArray] w K := by
  obtain ⟨T, h1, h2⟩ := hv
  refine step_spec hm h1 o hq fun v' w' S' hk hv' hS => hK v' w' hk ⟨S', hv', fun q hq hm => ?_⟩
  rcases hS q hq with h | h
  · exact h2 q h hm
  · have := hX q hm; omega
theorem zLed_bld {K : Value → Prop} : bld [(0, 1), (1, 1), (2, 1), (3, 1)] (zc prog 26) #[] K = K (.agg #[.slice none 0 0, .slice none 0 0, .slice none 0 0, .int .i64 0]) := by rw [zcLed, bld_done]
theorem Apply_X (hm : May l) (hv : LX X w v l) (hX : ∀ q ∈ X, q < w.heap.size) (o : OpV) (hq : rngI o.q) {K : KW}
    (hK : ∀ v' w', Kp [] w w' → LX X w' v' (applyL l o).1 → K (.tuple #[v', .int .i64 (applyL l o).2]) w') : callG prog 41 #[v, .agg (opC o).toArray] w K := by
  refine Fn48_call ?_
  unfold Fn48 Fn48_s0
  refine argVX hv fun p2 w1 hp2 k1 c1 => ?_
  refine argBox (cs := opC o) fun y w2 hy hh2 k2 => ?_
  have c2 := c1.keep k2
  refine zeroVX (X := p2 :: X) fun p4 w3 hp4 k3 c4 => ?_
  have c3 := (c2.more hp4).keep k3
  have s1 := k1.size
  have s2 := k2.size
  have s3 := k3.size
  have hy3 := k3.get hh2 (by simp)
  have k03 := (k1.trans' k2).trans' k3
  have hX3 : ∀ q ∈ p4 :: p2 :: X, q < w3.heap.size := fun q hq => by
    rcases List.mem_cons.1 hq with rfl | hq
    · exact c4.lt
    · rcases List.mem_cons.1 hq with rfl | hq
      · exact c3.lt
      · have := hX q hq; omega
  have hsub : ∀ q ∈ X, q ∈ p4 :: p2 :: X := fun q hq => by simp [hq]
  obtain ⟨v3, hld3, hv3⟩ := c3.ld
  rw [hld3]
  refine Check_spec7 hm hv3.at fun w4 k4 => ?_
  simp only [bq_neq, bV_b, decide_eq_true_eq, decide_eq_false_iff_not]
  refine ⟨fun h => absurd rfl h, fun _ => ?_⟩
  have d3 := c3.keep k4
  have d4 := c4.keep k4
  have hy4 := k4.get hy3 (by simp)
  have s4 := k4.size
  obtain ⟨v4, hld4, hv4⟩ := d3.ld
  rw [hld4, ldAll (k := 7) hy4 rfl]
  refine step_X hm hv4 (fun q hq => by have := hX3 q hq; omega) o hq fun v5 w5 k5 hv5 => ?_
  have e4 := d4.keep k5
  have s5 := k5.size
  simp only [ex0, ex1]
  refine newVX hv5 fun p7 w6 hp7 k6 c7 => ?_
  have f4 := (e4.more hp7).keep k6
  have k06 := ((k03.trans' k4).trans' k5).trans' k6
  have hsub' : ∀ q ∈ X, q ∈ p7 :: p4 :: p2 :: X := fun q hq => by simp [hq]
  have hpw : w.heap.size ≤ p4 := by omega
  have fin : ∀ w', Kp [p4] w6 w' → Kp [] w w' := fun w' k => k06.trans k fun q hq hlt => by simp at hq; omega
  simp only [bq_neq, bV_b, decide_eq_true_eq, decide_eq_false_iff_not]
  refine ⟨fun e => ?_, fun e => ?_⟩
  · have ea : applyL l o = (lZ, (stepL l o).2) := by unfold applyL; rw [if_neg e]
    rw [ea] at hK
    rw [zLed_bld]
    exact retVX (K := fun v w => K (.tuple #[v, .int .i64 (stepL l o).2]) w) f4 (lz_x _) fun w' kz hz => hK _ w' (fin w' kz) (hz.less hsub')
  · have e0 : (stepL l o).2 = 0 := Decidable.not_not.1 e
    have ea : applyL l o = ((stepL l o).1, 0) := by unfold applyL; rw [if_pos e0]
    rw [ea] at hK
    obtain ⟨v7, hld7, hv7⟩ := c7.ld
    rw [hld7]
    exact retVX (K := fun v w => K (.tuple #[v, .int .i64 0]) w) f4 hv7 fun w' kz hz => hK _ w' (fin w' kz) (hz.less hsub')
structure OpsAt (w : World) (v : Value) (ops : List OpV) : Prop where
  rd : Rd w v 7 (ops.map opC)
  wf : ∀ o ∈ ops, o.Wf
theorem OpsAt.keep {ops : List OpV} (h : OpsAt w v ops) (hk : Kp [] w w') : OpsAt w' v ops := ⟨h.rd.keep hk, h.wf⟩
theorem wf_rng {o : OpV} (h : o.Wf) : rngI o.q := ⟨h.q0, h.q1⟩
theorem replayL_drop {ops : List OpV} {i : Nat} (h : i < ops.length) (l : LV) (k : Nat) : replayL l (ops.drop i) k = if (stepL l ops[i]).2 = 0 then replayL (stepL l ops[i]).1 (ops.drop (i + 1)) (k + 1) else (l, k, (stepL l ops[i]).2) := by
  rw [List.drop_eq_getElem_cons h]; rfl
theorem Replay_X (hm : May l) (hv : LX X w v l) (hX : ∀ q ∈ X, q < w.heap.size) {vo : Value} {ops : List OpV} (ho : OpsAt w vo ops) (hl : ops.length < 2 ^ 40) {K : KW}
    (hK : ∀ v' w', Kp [] w w' → LX X w' v' (replayL l ops 0).1 → K (.tuple #[v', .int .i64 (replayL l ops 0).2.1, .int .i64 (replayL l ops 0).2.2]) w') : callG prog 88 #[v, vo] w K := by
  refine Fn53_call ?_
  unfold Fn53 Fn53_s4
  refine argVX hv fun p2 w1 hp2 k1 c1 => ?_
  refine zeroVX (X := p2 :: X) fun p4 w3 hp4 k3 c4 => ?_
  have c3 := (c1.more hp4).keep k3
  have s1 := k1.size
  have s3 := k3.size
  have k03 := k1.trans' k3
  have hX3 : ∀ q ∈ p4 :: p2 :: X, q < w3.heap.size := fun q hq => by
    rcases List.mem_cons.1 hq with rfl | hq
    · exact c4.lt
    · rcases List.mem_cons.1 hq with rfl | hq
      · exact c3.lt
      · have := hX q hq; omega
  have hsub : ∀ q ∈ X, q ∈ p4 :: p2 :: X := fun q hq => by simp [hq]
  have hp24 : p2 ≠ p4 := by have := c1.lt; omega
  obtain ⟨v3, hld3, hv3⟩ := c3.ld
  rw [hld3]
  refine Check_spec7 hm hv3.at fun w4 k4 => ?_
  simp only [bq_neq, bV_b, decide_eq_true_eq, decide_eq_false_iff_not]
  refine ⟨fun h => absurd rfl h, fun _ => ?_⟩
  obtain ⟨E, hE⟩ : ∃ E, E = replayL l ops 0 := ⟨_, rfl⟩
  rw [← hE] at hK
  have o4 := (ho.keep k03).keep k4
  have k04 := k03.trans' k4
  have s4 := k4.size
  unfold Fn53_s3 Fn53_L2
  rw [o4.rd.lenL, List.length_map]
  refine loop_inv (fun m xs wi => ∃ (i : Nat) (li : LV) (Y : List Nat), i ≤ ops.length ∧ m = ops.length - i ∧ xs = [vo, .pointer (some ⟨p2, 0, none⟩), .pointer (some ⟨p4, 0, none⟩), vo, .int .i64 ops.length, .int .i64 (i : Nat)] ∧ E = replayL li (ops.drop i) i ∧ May li ∧ Kp [] w wi ∧ w4.heap.size ≤ wi.heap.size ∧
      (∀ q ∈ X, q ∈ Y) ∧ (∀ q ∈ Y, q < wi.heap.size) ∧ VX Y wi p2 li ∧ VX Y wi p4 lZ) ?_ (m := ops.length)
    ⟨0, l, p4 :: p2 :: X, by omega, rfl, rfl, hE, hm, k04, Nat.le_refl _, hsub, fun q hq => by have := hX3 q hq; omega, c3.keep k4, c4.keep k4⟩
  rintro m N xs wi ⟨i, li, Y, hi, rfl, rfl, he, hmi, ki, hsi, hXY, hY, ci, zi⟩ hN
  have hiw : IntKind.i64.wrap ((i : Int) + 1) = ((i + 1 : Nat) : Int) := by rw [w64 (by omega) (by omega)]; simp
  have oi := ho.keep ki
  unfold Fn53_L2F Fn53_b1
  simp only [bq_lss, bV_b, decide_eq_true_eq, decide_eq_false_iff_not]
  refine ⟨fun hlt => ?_, fun hge => ?_⟩
  · have hlt : i < ops.length := by omega
    rw [replayL_drop hlt] at he
    obtain ⟨p, i1, i2, _⟩ := rd_parts oi.rd hlt
    rw [i1, i2]
    refine boxG (c := (opC ops[i]).toArray) (by kernel_rfl) rfl (by simp [opC, one]) fun y w5 hy hh5 k5 => ?_
    have c5 := ci.keep k5
    have z5 := zi.keep k5
    have s5 := k5.size
    obtain ⟨v5, hld5, hv5⟩ := c5.ld
    rw [hld5, ldAll (k := 7) hh5 rfl]
    have hwf := ho.wf ops[i] (List.getElem_mem hlt)
    refine step_X hmi hv5 (fun q hq => by have := hY q hq; omega) ops[i] (wf_rng hwf) fun v6 w6 k6 hv6 => ?_
    have s6 := k6.size
    simp only [ex0, ex1]
    refine newVX hv6 fun p7 w7 hp7 k7 c7 => ?_
    have s7 := k7.size
    have c8 := ((c5.keep k6).more hp7).keep k7
    have z8 := ((z5.keep k6).more hp7).keep k7
    have k57 := (k5.trans' k6).trans' k7
    simp only [bq_neq, bV_b, decide_eq_true_eq, decide_eq_false_iff_not]
    refine ⟨fun e => ?_, fun e => ?_⟩
    · rw [if_neg e] at he
      rw [he] at hK
      obtain ⟨v8, hld8, hv8⟩ := c8.ld
      rw [hld8]
      refine retVX (K := fun v w => K (.tuple #[v, .int .i64 i, .int .i64 (stepL li ops[i]).2]) w) z8 hv8 fun w' kz hz => hK _ w' ((ki.trans' k57).trans kz fun q hq hlt => by simp at hq; omega) (hz.less fun q hq => by simp [hXY q hq])
    · have e0 : (stepL li ops[i]).2 = 0 := Decidable.not_not.1 e
      rw [if_pos e0] at he
      obtain ⟨v8, hld8, hv8⟩ := c7.ld
      rw [hld8]
      refine c8.st hv8 fun w9 k9 c9 => ?_
      simp only [bq_add, hiw]
      have hm9 := c9.m
      have s9 := k9.size
      refine hN (ops.length - (i + 1)) _ w9 (by omega) ⟨i + 1, _, p7 :: Y, by omega, rfl, rfl, he, stepL_may hmi hwf, (ki.trans' k57).trans k9 fun q hq hlt => by simp at hq; omega, by omega, fun q hq => by simp [hXY q hq], fun q hq => ?_, c9, z8.keepS k9 (fun q hq => by simp at hq; exact hq ▸ hm9) (by simpa using Ne.symm hp24)⟩
      rcases List.mem_cons.1 hq with rfl | hq
      · have := c7.lt; omega
      · have := hY q hq; omega
  · have hie : i = ops.length := by omega
    subst hie
    rw [List.drop_length] at he
    have he' : E = (li, ops.length, 0) := he
    rw [he'] at hK
    unfold Fn53_s0
    obtain ⟨v8, hld8, hv8⟩ := ci.ld
    rw [hld8, oi.rd.lenL, List.length_map]
    exact retVX (K := fun v w => K (.tuple #[v, .int .i64 ops.length, .int .i64 0]) w) zi hv8 fun w' kz hz => hK _ w' (ki.trans kz fun q hq hlt => by simp at hq; omega) (hz.less hXY)
end
end Go.Proofs

set_option linter.unusedVariables false
set_option linter.unusedSimpArgs false
namespace Go.Q
def crcBit (c : Nat) : Nat := if c % 2 = 1 then (c / 2) ^^^ 3988292384 else c / 2
def crcBits : Nat → Nat → Nat
  | 0, c => c
  | n + 1, c => crcBit (crcBits n c)
def crcByte (c : Nat) (b : UInt8) : Nat := crcBits 8 (c ^^^ b.toNat)
def crcRun (c : Nat) (s : List UInt8) : Nat := s.foldl crcByte c
def crcMore (sum : Int) (s : List UInt8) : Nat := 4294967295 ^^^ crcRun (4294967295 ^^^ (sum % 4294967296).toNat) s
theorem crcBit_lt {c : Nat} (h : c < 2 ^ 32) : crcBit c < 2 ^ 32 := by
  unfold crcBit
  split
  · exact Nat.xor_lt_two_pow (by omega) (by omega)
  · omega
theorem crcBits_lt {c : Nat} (h : c < 2 ^ 32) : ∀ n, crcBits n c < 2 ^ 32 := by
  intro n
  induction n with
  | zero => exact h
  | succ n ih => exact crcBit_lt ih
theorem crcByte_lt {c : Nat} (h : c < 2 ^ 32) (b : UInt8) : crcByte c b < 2 ^ 32 := crcBits_lt (Nat.xor_lt_two_pow h (by have := b.toNat_lt; omega)) 8
theorem crcRun_lt {s : List UInt8} : ∀ {c : Nat}, c < 2 ^ 32 → crcRun c s < 2 ^ 32 := by
  induction s with
  | nil => intro c h; exact h
  | cons b s ih => intro c h; exact ih (crcByte_lt h b)
theorem crcRun_take {c : Nat} {s : List UInt8} {i : Nat} (hi : i < s.length) : crcRun c (s.take (i + 1)) = crcByte (crcRun c (s.take i)) s[i] := by
  rw [List.take_succ_eq_append_getElem hi]
  unfold crcRun
  rw [List.foldl_append]; rfl
theorem crc_step {c : Nat} (h : c < 2 ^ 32) : (c / 2) ^^^ (3988292384 &&& ((2 ^ 32 - c % 2) % 2 ^ 32)) = crcBit c := by
  unfold crcBit
  rcases Nat.mod_two_eq_zero_or_one c with h0 | h0
  · rw [h0, if_neg (by omega)]; simp
  · rw [h0, if_pos rfl]
    have : (2 ^ 32 - 1) % 2 ^ 32 = 4294967295 := by decide
    rw [this]
    rfl
theorem crcMore_lt (sum : Int) (s : List UInt8) : crcMore sum s < 2 ^ 32 := by
  unfold crcMore
  have h0 : (sum % 4294967296).toNat < 2 ^ 32 := by omega
  exact Nat.xor_lt_two_pow (by omega) (crcRun_lt (Nat.xor_lt_two_pow (by omega) h0))
end Go.Q

set_option linter.unusedVariables false
set_option linter.unusedSimpArgs false
namespace Go.Proofs
open Go Go.Q
open Tryz (prog)
theorem ixS_str {s : List UInt8} {kd : IntKind} {i : Nat} (hi : i < s.length) {K : Value → Prop} : ixS (.string (str s)) (.int kd i) K = K (.int .u8 s[i].toNat) := by
  have : (str s)[i]? = some s[i] := by
    have h : i < (str s).size := by simpa using hi
    rw [getElem?_pos (str s) i h]
    rfl
  unfold ixS
  simp only [Int.toNat_natCast, this]
  simp
theorem More_spec {w : World} (sum : Int) (s : List UInt8) (hs : s.length < 2 ^ 62) {K : KW} (hK : K (.int .i64 (crcMore sum s)) w) : callG prog 106 #[.int .i64 sum, .string (str s)] w K := by
  refine Fn1_call ?_
  simp only [Fn1, Fn1_s8]
  obtain ⟨c0, hc0⟩ : ∃ c0, c0 = (sum % 4294967296).toNat := ⟨_, rfl⟩
  have hlt0 : c0 < 2 ^ 32 := by omega
  have hw : IntKind.u32.wrap sum = (c0 : Int) := by
    simp [IntKind.wrap, IntKind.bits, IntKind.signed]; omega
  simp only [cvI_i, hw]
  rw [not32_of hlt0]
  obtain ⟨c, hc⟩ : ∃ c, c = 4294967295 ^^^ c0 := ⟨_, rfl⟩
  have hlt : c < 2 ^ 32 := by rw [hc]; exact Nat.xor_lt_two_pow (by omega) hlt0
  have hcm : crcMore sum s = 4294967295 ^^^ crcRun c s := by unfold crcMore; rw [hc, hc0]
  have hc2 : (2 ^ 32 - 1) ^^^ c0 = c := by rw [hc]
  rw [hc2]
  rw [hcm] at hK
  unfold Fn1_s7 Fn1_L6
  simp only [lenS_s, str_size]
  refine loop_inv (fun m xs w' => ∃ i, i ≤ s.length ∧ m = s.length - i ∧ xs = [.string (str s), .int .u32 (crcRun c (s.take i)), .int .i64 s.length, .int .i64 (i : Nat)] ∧ w' = w)
    ?_ (m := s.length) ⟨0, by omega, rfl, rfl, rfl⟩
  rintro m N xs w' ⟨i, hi, rfl, rfl, rfl⟩ hN
  simp only [Fn1_L6F, Fn1_s5, bq_lss, bV_b]
  have hri := crcRun_lt (s := s.take i) hlt
  refine ⟨fun h => ?_, fun h => ?_⟩
  · have hi : i < s.length := by simpa using h
    have hN' := hN (s.length - (i + 1)) _ w' (by omega) ⟨i + 1, by omega, rfl, rfl, rfl⟩
    have hiw : IntKind.i64.wrap ((i : Int) + 1) = ((i + 1 : Nat) : Int) := by rw [w64 (by omega) (by omega)]; simp
    rw [crcRun_take hi] at hN'
    obtain ⟨r, hr⟩ : ∃ r, r = crcRun c (s.take i) := ⟨_, rfl⟩
    rw [← hr] at hri hN' ⊢
    unfold Fn1_s4
    rw [ixS_str hi]
    have hb := s[i].toNat_lt
    simp only [cvI_i, wrap_nat32 (show s[i].toNat < 2 ^ 32 by omega)]
    rw [xor32_of hri (by omega)]
    unfold Fn1_L3
    have hx : r ^^^ s[i].toNat < 2 ^ 32 := Nat.xor_lt_two_pow hri (by omega)
    obtain ⟨x, hxe⟩ : ∃ x, x = r ^^^ s[i].toNat := ⟨_, rfl⟩
    have hby : crcByte r s[i] = crcBits 8 x := by rw [hxe]; rfl
    rw [hby] at hN'
    rw [← hxe] at hx ⊢
    refine loop_inv (fun m xs w'' => ∃ j, j ≤ 8 ∧ m = 8 - j ∧ xs = [.string (str s), .int .u32 (crcBits j x), .int .i64 s.length, .int .i64 (i : Nat), .int .i64 (j : Nat)] ∧ w'' = w')
      ?_ (m := 8) ⟨0, by omega, rfl, rfl, rfl⟩
    rintro m N2 xs w'' ⟨j, hj, rfl, rfl, rfl⟩ hN2
    simp only [Fn1_L3F, Fn1_b2, bq_lss, bV_b]
    have hbl := crcBits_lt hx j
    refine ⟨fun h => ?_, fun h => ?_⟩
    · have hj : j < 8 := by simp at h; omega
      have hN2' := hN2 (8 - (j + 1)) _ w'' (by omega) ⟨j + 1, by omega, rfl, rfl, rfl⟩
      have hjw : IntKind.i64.wrap ((j : Int) + 1) = ((j + 1 : Nat) : Int) := by rw [w64 (by omega) (by omega)]; simp
      have hst := crc_step hbl
      have hcj : crcBits (j + 1) x = crcBit (crcBits j x) := rfl
      rw [hcj, ← hst] at hN2'
      obtain ⟨y, hy⟩ : ∃ y, y = crcBits j x := ⟨_, rfl⟩
      rw [← hy] at hbl hN2' ⊢
      rw [shr_of (by omega) (by decide)]
      have h1 : ((y : Int) / 2 ^ (1 : Int).toNat) = ((y / 2 : Nat) : Int) := by simp
      rw [h1]
      rw [show ((1 : Int)) = ((1 : Nat) : Int) from rfl, and32_of hbl (by omega), Nat.and_one_is_mod, neg32_of (by omega)]
      rw [show ((3988292384 : Int)) = ((3988292384 : Nat) : Int) from rfl, and32_of (by omega) (by omega)]
      have ha : 3988292384 &&& ((2 ^ 32 - y % 2) % 2 ^ 32) < 2 ^ 32 := Nat.and_lt_two_pow _ (by omega)
      rw [xor32_of (by omega) ha]
      simp only [bq_add]
      rw [show ((1 : Nat) : Int) = 1 from rfl, hjw]
      exact hN2'
    · have hje : j = 8 := by simp at h; omega
      subst hje
      unfold Fn1_s1
      simp only [bq_add, hiw]
      exact hN'
  · have hie : i = s.length := by simp at h; omega
    subst hie
    rw [List.take_length] at hri ⊢
    unfold Fn1_s0
    rw [not32_of hri]
    simp only [cvI_i]
    have hx : (2 ^ 32 - 1) ^^^ crcRun c s < 2 ^ 32 := Nat.xor_lt_two_pow (by omega) hri
    rw [wrap_nat64 (by omega)]
    exact hK
theorem Sum_spec {w : World} (s : List UInt8) (hs : s.length < 2 ^ 62) {K : KW} (hK : K (.int .i64 (crcMore 0 s)) w) : callG prog 82 #[.string (str s)] w K := by
  refine Fn3_call ?_
  simp only [Fn3, Fn3_s0]
  exact More_spec 0 s hs hK
end Go.Proofs

set_option linter.unusedVariables false
set_option linter.unusedSimpArgs false
namespace Go.Proofs
open Go Go.Q
open Tryz (prog)
theorem cvBS_str {w : World} {b cap T : Nat} {fr : Nat × Nat} {l : List UInt8} (h : w.heap[b]? = some (.cells (u8c l).toArray T fr)) {n : Nat} (hn : n = l.length) {K : Value → Prop} :
    cvBS (.slice (some ⟨b, 0, none⟩) n cap) w K = K (.string (str l)) := by
  subst hn
  have ht : List.take l.length (u8c l) = u8c l := List.take_of_length_le (by simp)
  have hb := bytesOf_u8c l
  have hl : (u8c l).length = l.length := by simp
  obtain ⟨C, hC⟩ : ∃ C, C = u8c l := ⟨_, rfl⟩
  rw [← hC] at h ht hb hl
  simp [-getElem?_pos, -Array.getElem?_eq_getElem, cvBS, h, hl, ht, hb]
  rfl
def putB (x : Int) (k : Nat) : UInt8 := UInt8.ofNat ((x / 2 ^ (8 * k)) % 256).toNat
def put4 (x : Int) : List UInt8 := [putB x 0, putB x 1, putB x 2, putB x 3]
theorem zc119 : zc prog 152 = (u8c [0, 0, 0, 0]).toArray := by kernel_rfl
theorem putB_wrap (x : Int) (k : Nat) : IntKind.u8.wrap (x / 2 ^ (8 * k)) = ((putB x k).toNat : Int) := by
  obtain ⟨y, hy⟩ : ∃ y, y = x / 2 ^ (8 * k) := ⟨_, rfl⟩
  have : putB x k = UInt8.ofNat (y % 256).toNat := by rw [hy]; rfl
  rw [this, ← hy]
  simp [IntKind.wrap, IntKind.bits, IntKind.signed]
  omega
theorem crcPut_spec {w : World} (x : Int) {K : KW} (hK : ∀ w', Kp [] w w' → K (.string (str (put4 x))) w') : callG prog 80 #[.int .i64 x] w K := by
  refine Fn2_call ?_
  simp only [Fn2, Fn2_s4, Fn2_s3, newG_k, zc119]
  obtain ⟨a, ha⟩ : ∃ a, a = w.heap.size := ⟨_, rfl⟩
  obtain ⟨w1, hw1⟩ : ∃ w1, w1 = w.alloc (.cells (u8c [0, 0, 0, 0]).toArray 152) := ⟨_, rfl⟩
  have hk1 : Kp [] w w1 := by rw [hw1]; exact (Kp.refl [] w).alloc _
  have hA : w1.heap[a]? = some (.cells (u8c [0, 0, 0, 0]).toArray 152) := by rw [hw1, ha]; exact heap_new
  rw [← ha, ← hw1]
  unfold Fn2_L2
  refine loop_inv (fun m xs w' => ∃ i, i ≤ 4 ∧ m = 4 - i ∧ xs = [.int .i64 x, .pointer (some ⟨a, 0, none⟩), .int .i64 (i : Nat)] ∧ Kp [] w w' ∧ w'.heap[a]? = some (.cells (u8c ((put4 x).take i ++ List.replicate (4 - i) 0)).toArray 152))
    ?_ (m := 4) ⟨0, by omega, rfl, rfl, hk1, hA⟩
  rintro m N xs w' ⟨i, hi, rfl, rfl, hk, hA⟩ hN
  simp only [Fn2_L2F, Fn2_b1, bq_lss, bV_b]
  refine ⟨fun h => ?_, fun h => ?_⟩
  · have hi : i < 4 := by simp at h; omega
    have hiw : IntKind.i64.wrap ((i : Int) + 1) = ((i + 1 : Nat) : Int) := by rw [w64 (by omega) (by omega)]; simp
    have h8 : IntKind.i64.wrap (8 * (i : Int)) = ((8 * i : Nat) : Int) := by rw [w64 (by omega) (by omega)]; simp
    simp only [bq_mul, h8]
    rw [shr_of (by omega) (by simp [IntKind.bits]; omega), Int.toNat_natCast]
    simp only [cvI_i, putB_wrap]
    have hset : (u8c ((put4 x).take i ++ List.replicate (4 - i) 0)).set i (.int .u8 (putB x i).toNat) = u8c ((put4 x).take (i + 1) ++ List.replicate (4 - (i + 1)) 0) := by
      match i, hi with
      | 0, _ => rfl
      | 1, _ => rfl
      | 2, _ => rfl
      | 3, _ => rfl
    have hlen : (u8c ((put4 x).take i ++ List.replicate (4 - i) 0)).length = 4 := by simp [put4]; omega
    obtain ⟨C, hC⟩ : ∃ C, C = u8c ((put4 x).take i ++ List.replicate (4 - i) 0) := ⟨_, rfl⟩
    obtain ⟨C', hC'⟩ : ∃ C', C' = u8c ((put4 x).take (i + 1) ++ List.replicate (4 - (i + 1)) 0) := ⟨_, rfl⟩
    rw [← hC] at hA hset hlen
    rw [← hC'] at hset
    have hi4 : (i : Int) < 4 := by omega
    simp [-getElem?_pos, -Array.getElem?_eq_getElem, -List.length_flatten, gz0, gz1, hA, hlen, hi, hi4, hset, hiw]
    exact hN (4 - (i + 1)) _ _ (by omega) ⟨i + 1, by omega, rfl, rfl, hk.setBlk (.inr (by omega)) _, by rw [← hC']; exact heap_self (live_of hA)⟩
  · have hie : i = 4 := by simp at h; omega
    subst hie
    have hp : (put4 x).take 4 ++ List.replicate (4 - 4) 0 = put4 x := rfl
    rw [hp] at hA
    unfold Fn2_s0
    simp only [slA_p, bnd_none]
    have e : (if 4 = 0 then 0 else 0 + 0 * 1) = 0 := rfl
    simp only [e]
    rw [cvBS_str (n := 4 - 0) hA rfl]
    exact hK _ hk
theorem take4_get {s : List UInt8} (h : ¬ s.length < 4) : ∃ a b c d r, s = a :: b :: c :: d :: r := by
  match s, h with
  | a :: b :: c :: d :: r, _ => exact ⟨a, b, c, d, r, rfl⟩
  | [], h => simp at h
  | [_], h => simp at h
  | [_, _], h => simp at h
  | [_, _, _], h => simp at h
theorem or_add {x y k : Nat} (hx : x < 2 ^ k) : x ||| (y * 2 ^ k) = x + y * 2 ^ k := by
  rw [Nat.or_comm, Nat.add_comm, Nat.mul_comm]
  exact (Nat.two_pow_add_eq_or_of_lt hx y).symm
def takeN (s : List UInt8) : Nat → Nat
  | 0 => 0
  | i + 1 => takeN s i + (s.getD i 0).toNat * 2 ^ (8 * i)
theorem takeN_lt (s : List UInt8) : ∀ i, takeN s i < 2 ^ (8 * i) := by
  intro i
  induction i with
  | zero => simp [takeN]
  | succ i ih =>
    have hb := (s.getD i 0).toNat_lt
    have : (s.getD i 0).toNat * 2 ^ (8 * i) ≤ 255 * 2 ^ (8 * i) := Nat.mul_le_mul_right _ (by omega)
    have h2 : 2 ^ (8 * (i + 1)) = 256 * 2 ^ (8 * i) := by rw [Nat.mul_succ, Nat.pow_add]; omega
    simp only [takeN]
    omega
theorem crcTake_spec {w : World} (s : List UInt8) (hs : s.length < 2 ^ 62) {K : KW} (hK : K (.int .i64 (if s.length < 4 then -1 else (takeN s 4 : Nat))) w) : callG prog 36 #[.string (str s)] w K := by
  refine Fn4_call ?_
  simp only [Fn4, Fn4_s4, lenS_s, str_size, bq_lss, bV_b]
  refine ⟨fun h => ?_, fun h => ?_⟩
  · have h : s.length < 4 := by simp at h; omega
    rw [if_pos h] at hK; exact hK
  · have h : ¬ s.length < 4 := by simp at h; omega
    rw [if_neg h] at hK
    unfold Fn4_s3 Fn4_L2
    refine loop_inv (fun m xs w' => ∃ i, i ≤ 4 ∧ m = 4 - i ∧ xs = [.string (str s), .int .i64 (takeN s i : Nat), .int .i64 (i : Nat)] ∧ w' = w)
      ?_ (m := 4) ⟨0, by omega, rfl, rfl, rfl⟩
    rintro m N xs w' ⟨i, hi, rfl, rfl, rfl⟩ hN
    simp only [Fn4_L2F, Fn4_b1, bq_lss, bV_b]
    refine ⟨fun h4 => ?_, fun h4 => ?_⟩
    · have hi : i < 4 := by simp at h4; omega
      have hi' : i < s.length := by omega
      have hiw : IntKind.i64.wrap ((i : Int) + 1) = ((i + 1 : Nat) : Int) := by rw [w64 (by omega) (by omega)]; simp
      have h8 : IntKind.i64.wrap (8 * (i : Int)) = ((8 * i : Nat) : Int) := by rw [w64 (by omega) (by omega)]; simp
      have hin := hN (4 - (i + 1)) _ w' (by omega) ⟨i + 1, by omega, rfl, rfl, rfl⟩
      have hg : s.getD i 0 = s[i] := by simp [List.getD, hi']
      have ht : takeN s (i + 1) = takeN s i + s[i].toNat * 2 ^ (8 * i) := by rw [← hg]; rfl
      have hlt := takeN_lt s i
      have hlt' := takeN_lt s (i + 1)
      rw [ht] at hin hlt'
      have hb := s[i].toNat_lt
      have hp : 2 ^ (8 * (i + 1)) ≤ 2 ^ 32 := Nat.pow_le_pow_right (by omega) (by omega)
      have hp' : 2 ^ (8 * i) ≤ 2 ^ 32 := Nat.pow_le_pow_right (by omega) (by omega)
      rw [ixS_str hi']
      simp only [cvI_i, wrap_nat64 (show s[i].toNat < 2 ^ 63 by omega), bq_mul, h8]
      rw [shl_of (by omega) (by simp [IntKind.bits]; omega), Int.toNat_natCast]
      have hc : ((s[i].toNat : Int) * 2 ^ (8 * i)) = ((s[i].toNat * 2 ^ (8 * i) : Nat) : Int) := by simp
      rw [hc, wrap_nat64 (by omega), or64_of (by omega) (by omega), or_add hlt]
      simp only [bq_add, hiw]
      exact hin
    · have hie : i = 4 := by simp at h4; omega
      subst hie
      exact hK
end Go.Proofs

set_option linter.unusedVariables false
set_option linter.unusedSimpArgs false
namespace Go.Proofs
open Go Go.Q
open Tryz (prog)
theorem strV_one (L : List (List UInt8)) : (L.map strV).flatten.all Q.one = true := by
  induction L with
  | nil => rfl
  | cons x r ih => simp [strV, Q.one] at ih ⊢
theorem zc9 : zc prog 9 = [Value.string ⟨#[]⟩].toArray := by kernel_rfl
def turnOk (t : Int) : Bool := decide (1 ≤ t ∧ t ≤ 2147483647)
def headOf (t : Int) (s : List UInt8) : List UInt8 := put4 t ++ (put4 s.length).take 2
def frameB (t : Int) (s : List UInt8) : List UInt8 := headOf t s ++ put4 (crcMore 0 (headOf t s ++ s)) ++ s
def frame (t : Int) (s : List UInt8) : List UInt8 × Int := if turnOk t = true ∧ s ≠ [] ∧ s.length ≤ 1024 then (frameB t s, 0) else ([], 1)
theorem put4_len (x : Int) : (put4 x).length = 4 := rfl
theorem headOf_len (t : Int) (s : List UInt8) : (headOf t s).length = 6 := by simp [headOf, put4_len]
theorem frameB_len (t : Int) (s : List UInt8) : (frameB t s).length = 10 + s.length := by simp [frameB, headOf_len, put4_len]; omega
theorem crcMore_more (a b : List UInt8) : crcMore (crcMore 0 a) b = crcMore 0 (a ++ b) := by
  have hlt := crcMore_lt 0 a
  have h1 : ((crcMore 0 a : Nat) : Int) % 4294967296 = (crcMore 0 a : Nat) := Int.emod_eq_of_lt (by omega) (by omega)
  unfold crcMore at h1 ⊢
  rw [h1, Int.toNat_natCast, ← Nat.xor_assoc, Nat.xor_self, Nat.zero_xor]
  unfold crcRun
  rw [List.foldl_append]
theorem right_spec {w : World} (t : Int) {K : KW} (hK : K (.bool (turnOk t)) w) : callG prog 107 #[.int .i64 t] w K := by
  refine Fn131_call ?_
  simp only [Fn131, Fn131_s0, bq_geq, bq_leq, bV_b]
  unfold turnOk at hK
  refine ⟨fun h => ?_, fun h => ?_⟩
  · have : 1 ≤ t := by simpa using h
    simpa [this] using hK
  · have : ¬ 1 ≤ t := by simpa using h
    simpa [this] using hK
theorem put2 (t : List UInt8) : (put4 t.length).take 2 = [putB t.length 0, putB t.length 1] := rfl
theorem Frame_spec {w : World} (t : Int) (s : List UInt8) {K : KW} (hs : s.length < 2 ^ 62) (hK : ∀ w', Kp [] w w' → K (.tuple #[.string (str (frame t s).1), .int .i64 (frame t s).2]) w') :
    callG prog 89 #[.int .i64 t, .string (str s)] w K := by
  refine Fn120_call ?_
  simp only [Fn120, Fn120_s1]
  refine right_spec t ?_
  unfold frame at hK
  have hnil : (⟨#[]⟩ : ByteArray) = str [] := rfl
  have hbad : ¬ (turnOk t = true ∧ s ≠ [] ∧ s.length ≤ 1024) → K (.tuple #[.string (str []), .int .i64 1]) w := by
    intro h; have := hK w (Kp.refl _ _); rw [if_neg h] at this; exact this
  simp only [hnil]
  simp [-getElem?_pos, -Array.getElem?_eq_getElem, -List.length_flatten, gz0, gz1]
  refine ⟨fun h => hbad (by simp [h]), fun h => ⟨fun h1 => hbad (by simp [h1]), fun h1 => ⟨fun h2 => hbad (by omega), fun h2 => ?_⟩⟩⟩
  rw [if_pos ⟨h, h1, by omega⟩] at hK
  unfold Fn120_s0
  refine crcPut_spec t fun w1 hk1 => ?_
  simp only [lenS_s, str_size]
  refine crcPut_spec s.length fun w2 hk2 => ?_
  have hl := put4_len t
  have hl2 := put4_len s.length
  simp [-getElem?_pos, -Array.getElem?_eq_getElem, -List.length_flatten, gz0, gz1, str_extract, hl, hl2, bq_sadd]
  have hh : put4 t ++ (put4 s.length).take 2 = headOf t s := rfl
  rw [hh]
  refine Sum_spec _ (by rw [headOf_len]; omega) ?_
  refine More_spec _ _ hs ?_
  rw [crcMore_more]
  refine crcPut_spec _ fun w3 hk3 => ?_
  have hl3 := put4_len (crcMore 0 (headOf t s ++ s))
  have hl4 := headOf_len t s
  have b1 : (str (headOf t s)).size + (str (put4 (crcMore 0 (headOf t s ++ s)))).size < 9223372036854775808 := by simp [hl3, hl4]
  have b2 : (str (headOf t s ++ put4 (crcMore 0 (headOf t s ++ s)))).size + (str s).size < 9223372036854775808 := by simp [hl3, hl4]; omega
  rw [bq_sadd b1, str_append, bq_sadd b2, str_append]
  exact hK w3 ((hk1.trans' hk2).trans' hk3)
end Go.Proofs

set_option linter.unusedVariables false
set_option linter.unusedSimpArgs false
namespace Go.Proofs
open Go Go.Q
open Tryz (prog)
def lenAt (s : List UInt8) : Nat := (s.getD 4 0).toNat + (s.getD 5 0).toNat * 2 ^ 8
def recOf (s : List UInt8) : List UInt8 := (s.drop 10).take (lenAt s)
def nextOk (t : Int) (s : List UInt8) : Bool :=
  decide (10 < s.length) && turnOk t && decide (((takeN s 4 : Nat) : Int) = t) && decide (1 ≤ lenAt s) && decide (lenAt s ≤ 1024) && decide (lenAt s + 10 ≤ s.length) && decide (takeN (s.drop 6) 4 = crcMore 0 (s.take 6 ++ recOf s))
theorem lenAt_lt (s : List UInt8) : lenAt s < 65536 := by
  have h1 := (s.getD 4 0).toNat_lt
  have h2 := (s.getD 5 0).toNat_lt
  unfold lenAt; omega
theorem next_spec {w : World} (t : Int) (s : List UInt8) (hs : s.length < 2 ^ 62) {K : KW}
    (hK : ∀ w' r, Kp [] w w' → (nextOk t s = true → r = str (recOf s)) → K (.tuple #[.string r, .bool (nextOk t s)]) w') : callG prog 128 #[.int .i64 t, .string (str s)] w K := by
  refine Fn130_call ?_
  simp only [Fn130, Fn130_s2, lenS_s, str_size, bq_leq, bV_b]
  have no : ∀ w', Kp [] w w' → nextOk t s = false → K (.tuple #[.string ⟨#[]⟩, .bool false]) w' := by
    intro w' hk h
    have := hK w' ⟨#[]⟩ hk (by rw [h]; intro h; cases h)
    rw [h] at this; exact this
  have hk0 : Kp [] w w := Kp.refl _ _
  refine ⟨fun h => no w hk0 ?_, fun h => ?_⟩
  · have : ¬ 10 < s.length := by simp at h; omega
    simp [nextOk, this]
  have h10 : 10 < s.length := by simp at h; omega
  refine right_spec t ?_
  simp [-getElem?_pos, -Array.getElem?_eq_getElem, -List.length_flatten, gz0, gz1]
  refine ⟨fun h => no w hk0 (by simp [nextOk, h]), fun hto => ?_⟩
  refine crcTake_spec s hs ?_
  rw [if_neg (by omega)]
  simp [-getElem?_pos, -Array.getElem?_eq_getElem, -List.length_flatten, gz0, gz1]
  refine ⟨fun h => no w hk0 (by simp [nextOk, h]), fun htk => ?_⟩
  unfold Fn130_s1
  have e4 : s.getD 4 0 = s[4] := by simp [List.getD, show 4 < s.length by omega]
  have e5 : s.getD 5 0 = s[5] := by simp [List.getD, show 5 < s.length by omega]
  have b4 := s[4].toNat_lt
  have b5 := s[5].toNat_lt
  have hn : lenAt s = s[4].toNat + s[5].toNat * 2 ^ 8 := by unfold lenAt; rw [e4, e5]
  have i4 : ∀ K : Value → Prop, ixS (.string (str s)) (.int .i64 4) K = K (.int .u8 s[4].toNat) := fun K => ixS_str (i := 4) (by omega)
  have i5 : ∀ K : Value → Prop, ixS (.string (str s)) (.int .i64 5) K = K (.int .u8 s[5].toNat) := fun K => ixS_str (i := 5) (by omega)
  simp only [i4, i5, cvI_i, wrap_nat64 (show s[4].toNat < 2 ^ 63 by omega), wrap_nat64 (show s[5].toNat < 2 ^ 63 by omega)]
  rw [shl_of (by omega) (by decide)]
  have hc : ((s[5].toNat : Int) * (2 : Int) ^ (8 : Int).toNat) = ((s[5].toNat * 2 ^ 8 : Nat) : Int) := by simp
  rw [hc, wrap_nat64 (by omega), or64_of (by omega) (by omega), or_add (by omega), ← hn]
  have hkd : Kp [] w w.drew := (Kp.refl _ _).drew
  have hlt := lenAt_lt s
  simp only [bq_lss, bq_gtr, bV_b]
  refine ⟨fun h => no _ hkd ?_, fun h1 => ⟨fun h => no _ hkd ?_, fun h2 => ?_⟩⟩
  · have : ¬ 1 ≤ lenAt s := by simp at h; omega
    simp [nextOk, this]
  · have : ¬ lenAt s ≤ 1024 := by simp at h; omega
    simp [nextOk, this]
  have h1 : 1 ≤ lenAt s := by simp at h1; omega
  have h2 : lenAt s ≤ 1024 := by simp at h2; omega
  have hsub : IntKind.i64.wrap ((s.length : Int) - 10) = (s.length : Int) - 10 := w64 (by omega) (by omega)
  simp only [lenS_s, str_size, bq_sub, hsub, bq_gtr, bV_b]
  refine ⟨fun h => no _ hkd ?_, fun h3 => ?_⟩
  · have : ¬ lenAt s + 10 ≤ s.length := by simp at h; omega
    simp [nextOk, this]
  have h3 : lenAt s + 10 ≤ s.length := by simp at h3; omega
  unfold Fn130_s0
  have hadd : IntKind.i64.wrap (10 + (lenAt s : Int)) = ((10 + lenAt s : Nat) : Int) := by rw [w64 (by omega) (by omega)]; simp
  have hext : (str s).extract 10 (10 + lenAt s) = str (recOf s) := by
    rw [str_extract]; unfold recOf; rw [List.drop_take]; congr 2; omega
  have hle1 : ((10 + lenAt s : Nat) : Int) ≤ s.length := by omega
  have hle2 : (10 : Int) ≤ ((10 + lenAt s : Nat) : Int) := by omega
  have h6 : (6 : Int) ≤ s.length := by omega
  have hext2 : (str s).extract 6 s.length = str (s.drop 6) := by rw [str_extract, List.take_length]
  have hext3 : (str s).extract 0 6 = str (s.take 6) := by rw [str_extract]; rfl
  simp only [bq_add, hadd, slS_p, bnd_some, bnd_none, str_size, Int.toNat_natCast]
  refine ⟨⟨by omega, hle1⟩, ⟨by omega, hle2⟩, ⟨by omega, h6⟩, ⟨by omega, h6⟩, ?_⟩
  have t10 : (10 : Int).toNat = 10 := rfl
  have t6 : (6 : Int).toNat = 6 := rfl
  rw [t10, t6, hext, hext2, hext3]
  refine crcTake_spec (s.drop 6) (by simp; omega) ?_
  rw [if_neg (by simp; omega)]
  refine Sum_spec (s.take 6) (by simp; omega) ?_
  have hrl : (recOf s).length = lenAt s := by unfold recOf; simp; omega
  refine More_spec _ (recOf s) (by omega) ?_
  rw [crcMore_more]
  simp only [bq_eql]
  have hok : nextOk t s = decide (((takeN (s.drop 6) 4 : Nat) : Int) = (crcMore 0 (s.take 6 ++ recOf s) : Nat)) := by
    have hi : (((takeN (s.drop 6) 4 : Nat) : Int) = (crcMore 0 (s.take 6 ++ recOf s) : Nat)) = (takeN (s.drop 6) 4 = crcMore 0 (s.take 6 ++ recOf s)) := by apply propext; omega
    simp only [hi]
    simp [nextOk, h10, hto, htk, h1, h2, h3]
  rw [← hok]
  exact hK _ _ hkd.drew fun _ => rfl
theorem put_take {s : List UInt8} (h : 4 ≤ s.length) : put4 (takeN s 4 : Nat) = s.take 4 := by
  obtain ⟨a, b, c, d, r, rfl⟩ := take4_get (s := s) (by omega)
  have ha := a.toNat_lt
  have hb := b.toNat_lt
  have hc := c.toNat_lt
  have hd := d.toNat_lt
  have hN : takeN (a :: b :: c :: d :: r) 4 = a.toNat + b.toNat * 256 + c.toNat * 65536 + d.toNat * 16777216 := by
    simp [takeN, List.getD]
  rw [hN]
  have p : ∀ (k : Nat) (x : UInt8), ((((a.toNat + b.toNat * 256 + c.toNat * 65536 + d.toNat * 16777216 : Nat) : Int) / 2 ^ (8 * k)) % 256).toNat = x.toNat → putB ((a.toNat + b.toNat * 256 + c.toNat * 65536 + d.toNat * 16777216 : Nat) : Int) k = x := by
    intro k x h
    unfold putB
    rw [h]; simp
  have q0 := p 0 a (by simp; omega)
  have q1 := p 1 b (by simp; omega)
  have q2 := p 2 c (by simp; omega)
  have q3 := p 3 d (by simp; omega)
  unfold put4
  rw [q0, q1, q2, q3]
  rfl
theorem take_put (x : Nat) (h : x < 4294967296) (r : List UInt8) : takeN (put4 x ++ r) 4 = x := by
  have p : ∀ k, (putB x k).toNat = (x / 2 ^ (8 * k)) % 256 := by
    intro k
    unfold putB
    have : (((x : Int) / 2 ^ (8 * k)) % 256).toNat = (x / 2 ^ (8 * k)) % 256 := by
      have : ((x : Int) / 2 ^ (8 * k)) = ((x / 2 ^ (8 * k) : Nat) : Int) := by simp
      rw [this]; omega
    rw [this]
    simp
  have hN : takeN (put4 x ++ r) 4 = (putB x 0).toNat + (putB x 1).toNat * 256 + (putB x 2).toNat * 65536 + (putB x 3).toNat * 16777216 := by
    simp [takeN, List.getD, put4]
  rw [hN, p, p, p, p]
  simp
  omega
end Go.Proofs

set_option linter.unusedVariables false
set_option linter.unusedSimpArgs false
namespace Go.Proofs
open Go Go.Q
open Tryz (prog)
theorem recOf_len {s : List UInt8} (h : lenAt s + 10 ≤ s.length) : (recOf s).length = lenAt s := by unfold recOf; simp; omega
theorem head_take {s : List UInt8} {t : Int} (h : lenAt s + 10 ≤ s.length) (h4 : put4 t = s.take 4) : headOf t (recOf s) = s.take 6 := by
  have h6 : 6 ≤ s.length := by omega
  obtain ⟨a, b, c, d, r, rfl⟩ := take4_get (s := s) (by omega)
  match r, h6 with
  | e :: f :: r, _ =>
    have he := e.toNat_lt
    have hf := f.toNat_lt
    have hl : lenAt (a :: b :: c :: d :: e :: f :: r) = e.toNat + f.toNat * 256 := by simp [lenAt, List.getD]
    have p0 : putB (lenAt (a :: b :: c :: d :: e :: f :: r) : Nat) 0 = e := by
      rw [hl]
      unfold putB
      have : ((((e.toNat + f.toNat * 256 : Nat) : Int) / 2 ^ (8 * 0)) % 256).toNat = e.toNat := by simp; omega
      rw [this]; simp
    have p1 : putB (lenAt (a :: b :: c :: d :: e :: f :: r) : Nat) 1 = f := by
      rw [hl]
      unfold putB
      have : ((((e.toNat + f.toNat * 256 : Nat) : Int) / 2 ^ (8 * 1)) % 256).toNat = f.toNat := by simp; omega
      rw [this]; simp
    unfold headOf
    rw [put2, h4, recOf_len h, p0, p1]
    rfl
theorem next_frame (t : Int) (s : List UInt8) : nextOk t s = true ↔ (10 < s.length ∧ 1 ≤ lenAt s ∧ lenAt s ≤ 1024 ∧ lenAt s + 10 ≤ s.length ∧ frame t (recOf s) = (s.take (10 + lenAt s), 0)) := by
  have hsum : ∀ {h : List UInt8}, lenAt s + 10 ≤ s.length → s.take 6 ++ (s.drop 6).take 4 ++ recOf s = s.take (10 + lenAt s) := by
    intro _ h
    unfold recOf
    rw [List.take_add (l := s) (i := 10), show (10 : Nat) = 6 + 4 from rfl, List.take_add (l := s) (i := 6)]
  constructor
  · intro h
    simp only [nextOk, Bool.and_eq_true, decide_eq_true_eq] at h
    obtain ⟨⟨⟨⟨⟨⟨h1, h2⟩, h3⟩, h4⟩, h5⟩, h6⟩, h7⟩ := h
    refine ⟨h1, h4, h5, h6, ?_⟩
    have hl := recOf_len h6
    have hp : put4 t = s.take 4 := by rw [← h3]; exact put_take (by omega)
    have hh := head_take h6 hp
    unfold frame
    rw [if_pos ⟨h2, by intro h0; rw [h0] at hl; simp at hl; omega, by omega⟩]
    unfold frameB
    rw [hh, ← h7, put_take (by simp; omega), hsum (h := []) h6]
  · rintro ⟨h1, h4, h5, h6, h⟩
    have hl := recOf_len h6
    unfold frame at h
    split at h
    · rename_i hc
      injection h with h _
      have hto := hc.1
      have ht : 1 ≤ t ∧ t ≤ 2147483647 := by simpa [turnOk] using hto
      unfold frameB at h
      have e4 : put4 t = s.take 4 := by
        have := congrArg (List.take 4) h
        rw [List.take_take, Nat.min_eq_left (by omega)] at this
        rw [← this]
        simp [headOf, put4]
      have hh := head_take h6 e4
      have hts : ((takeN s 4 : Nat) : Int) = t := by
        have hs : s = put4 t ++ s.drop 4 := by rw [e4, List.take_append_drop]
        obtain ⟨n, rfl⟩ : ∃ n : Nat, t = n := ⟨t.toNat, by omega⟩
        rw [hs, take_put n (by omega)]
      have e6 : put4 (crcMore 0 (s.take 6 ++ recOf s)) = (s.drop 6).take 4 := by
        rw [hh] at h
        have := congrArg (fun l => (l.drop 6).take 4) h
        simp only [List.append_assoc] at this
        rw [List.drop_left' (by simp; omega), List.take_left' (put4_len _), List.drop_take, List.take_take, Nat.min_eq_left (by omega)] at this
        exact this
      have h7 : takeN (s.drop 6) 4 = crcMore 0 (s.take 6 ++ recOf s) := by
        have hs : s.drop 6 = put4 (crcMore 0 (s.take 6 ++ recOf s)) ++ (s.drop 6).drop 4 := by rw [e6, List.take_append_drop]
        have := take_put (crcMore 0 (s.take 6 ++ recOf s)) (crcMore_lt _ _) ((s.drop 6).drop 4)
        rw [← hs] at this
        exact this
      simp [nextOk, h1, hto, hts, h4, h5, h6, h7]
    · injection h with _ h
      cases h
def scanL (t : Int) : Nat → List UInt8 → List (List UInt8)
  | 0, _ => []
  | n + 1, s => if nextOk t s = true then recOf s :: scanL t n (s.drop (10 + lenAt s)) else []
def usedOf (l : List (List UInt8)) : Nat := (l.map fun r => 10 + r.length).sum
theorem usedOf_snoc (l : List (List UInt8)) (r : List UInt8) : usedOf (l ++ [r]) = usedOf l + (10 + r.length) := by simp [usedOf]
theorem usedOf_len (l : List (List UInt8)) : l.length ≤ usedOf l := by
  induction l with
  | nil => simp
  | cons x l ih => simp [usedOf] at ih ⊢; omega
def scan (t : Int) (s : List UInt8) : List (List UInt8) := scanL t s.length s
theorem Scan_spec {w : World} (t : Int) (s : List UInt8) (hs : s.length < 2 ^ 40) {K : KW}
    (hK : ∀ w' v S, RowsAt w' v 1 ((scan t s).map strV) S → Kp [] w w' → (∀ y ∈ S, w.heap.size ≤ y) → K (.tuple #[v, .int .i64 (usedOf (scan t s))]) w') : callG prog 109 #[.int .i64 t, .string (str s)] w K := by
  refine Fn129_call ?_
  simp only [Fn129, Fn129_s2]
  unfold Fn129_L1
  refine loop_inv (fun m xs wi => ∃ out f v S, scan t s = out ++ scanL t f (s.drop (usedOf out)) ∧ usedOf out ≤ s.length ∧ s.length - usedOf out ≤ f ∧ m = s.length - usedOf out ∧ xs = [.int .i64 t, .string (str s), v, .int .i64 (usedOf out)] ∧
      RowsAt wi v 1 (out.map strV) S ∧ Kp [] w wi ∧ ∀ y ∈ S, w.heap.size ≤ y)
    ?_ (m := s.length) ⟨[], s.length, .slice none 0 0, [], rfl, by simp [usedOf], by simp [usedOf], by simp [usedOf], rfl, .inl ⟨rfl, rfl, rfl⟩, Kp.refl _ _, by simp⟩
  rintro m N xs wi ⟨out, f, v, S, hsc, hu, hf, rfl, rfl, hr, hk, hS⟩ hN
  simp only [Fn129_L1F, Fn129_b0, slS_p, bnd_some, bnd_none, str_size, Int.toNat_natCast]
  refine ⟨⟨by omega, by omega⟩, ?_⟩
  rw [str_extract, List.take_length]
  refine next_spec t (s.drop (usedOf out)) (by simp; omega) fun w1 r hk1 hr1 => ?_
  cases hok : nextOk t (s.drop (usedOf out)) with
  | false =>
    simp [-getElem?_pos, -Array.getElem?_eq_getElem, -List.length_flatten, gz0, gz1]
    have he : scanL t f (s.drop (usedOf out)) = [] := by
      cases f with
      | zero => rfl
      | succ f => unfold scanL; rw [if_neg (by rw [hok]; simp)]
    rw [he, List.append_nil] at hsc
    rw [hsc] at hK
    exact hK w1 v S (hr.keep hk1 (by simp)) (hk.trans' hk1) hS
  | true =>
    have hrr := hr1 hok
    subst hrr
    obtain ⟨n1, n2, n3, n4, n5⟩ := (next_frame t _).1 hok
    have hrl := recOf_len n4
    rw [List.length_drop] at n1 n4
    obtain ⟨f, rfl⟩ : ∃ f', f = f' + 1 := ⟨f - 1, by omega⟩
    have he : scanL t (f + 1) (s.drop (usedOf out)) = recOf (s.drop (usedOf out)) :: scanL t f ((s.drop (usedOf out)).drop (10 + lenAt (s.drop (usedOf out)))) := by
      conv => lhs; unfold scanL
      rw [if_pos hok]
    rw [he] at hsc
    obtain ⟨rc, hrc⟩ : ∃ rc, rc = recOf (s.drop (usedOf out)) := ⟨_, rfl⟩
    obtain ⟨n, hn⟩ : ∃ n, n = lenAt (s.drop (usedOf out)) := ⟨_, rfl⟩
    rw [← hrc, ← hn] at hsc hrl
    rw [← hn] at n2 n3 n4
    rw [← hrc]
    have hlen := usedOf_len out
    simp only [ex0, ex1]
    simp [-getElem?_pos, -Array.getElem?_eq_getElem, -List.length_flatten, gz0, gz1]
    rw [bsl_one rfl]
    obtain ⟨w3, hw3⟩ : ∃ w3, w3 = w1.alloc (.cells #[.string (str rc)] 9) := ⟨_, rfl⟩
    have hk3 : Kp [] w1 w3 := by rw [hw3]; exact (Kp.refl [] w1).alloc _
    have hb3 : w3.heap[w1.heap.size]? = some (.cells #[.string (str rc)] 9) := by rw [hw3]; exact heap_new
    rw [← hw3, zc9]
    have hs3 : RdAt w3 (.slice (some ⟨w1.heap.size, 0, none⟩) 1 1) 1 [strV rc] [w1.heap.size] :=
      .inr ⟨_, 0, 1, _, _, _, rfl, rfl, hb3, by simp [strV], by simp, by simp [strV], by simp⟩
    have hk13 := hk1.trans' hk3
    refine rows_app (k := 1) (z := [.string ⟨#[]⟩]) (G := [strV rc]) (hr.keep hk13 (by simp)) (by omega) rfl (by simp [strV]) (by simp [strV, Q.one]) (fun K' hK' => hs3.src K' hK') (by simp; omega) (by simp; omega) fun v4 w4 S4 h4 hk4 hS4 => ?_
    have hw3s := (hk.trans' hk13).size
    have ha1 : IntKind.i64.wrap (10 + (rc.length : Int)) = ((10 + rc.length : Nat) : Int) := by rw [w64 (by omega) (by omega)]; simp
    have hus := usedOf_snoc out rc
    have ha2 : IntKind.i64.wrap ((usedOf out : Int) + ((10 + rc.length : Nat) : Int)) = ((usedOf (out ++ [rc]) : Nat) : Int) := by rw [w64 (by omega) (by omega), hus]; simp
    simp only [lenS_s, str_size, bq_add, ha1, ha2]
    refine hN (s.length - usedOf (out ++ [rc])) _ _ (by omega) ⟨out ++ [rc], f, v4, S4, ?_, by omega, by omega, rfl, rfl, by simpa using h4, (hk.trans' hk13).trans hk4 fun y hy hlt => by have := hS y hy; omega, fun y hy => ?_⟩
    · rw [hsc, List.drop_drop, hus, hrl]; simp
    · rcases hS4 y hy with h | h
      · exact hS y h
      · omega
end Go.Proofs

set_option linter.unusedVariables false
set_option linter.unusedSimpArgs false
namespace Go.Proofs
open Go Go.Q
open Tryz (prog)
structure DK where
  sure : List (List UInt8)
  now : List (List UInt8)
  l : List (Nat × List UInt8)
  fuse : Int
  off : Bool
structure DK.Ok (d : DK) : Prop where
  len : d.sure.length = d.now.length
  pos : 0 < d.now.length
  most : d.now.length ≤ 4096
  sz1 : ∀ x ∈ d.sure, x.length = 32
  sz2 : ∀ x ∈ d.now, x.length = 32
  szl : ∀ x ∈ d.l, x.1 < d.now.length ∧ x.2.length = 32
  f0 : -1 ≤ d.fuse
  f1 : d.fuse < 9223372036854775808
def encW (x : Nat × List UInt8) : List Value := .int .i64 x.1 :: u8c x.2
def LogAt (w : World) (lv : Value) (l : List (Nat × List UInt8)) (S : List Nat) : Prop := RowsAt w lv 33 (l.map encW) S
structure DiskIs (w : World) (b : Nat) (d : DK) (bs bn : Nat) (lv : Value) (SL : List Nat) (T Ts Tn : Nat) : Prop where
  hb : w.heap[b]? = some (.cells #[.slice (some ⟨bs, 0, none⟩) d.now.length d.now.length, .slice (some ⟨bn, 0, none⟩) d.now.length d.now.length, lv, .int .i64 d.fuse, .bool d.off] T (0, 0))
  hs : w.heap[bs]? = some (.cells (d.sure.map u8c).flatten.toArray Ts (0, 0))
  hn : w.heap[bn]? = some (.cells (d.now.map u8c).flatten.toArray Tn (0, 0))
  hl : LogAt w lv d.l SL
  nd : (b :: bs :: bn :: SL).Nodup
  ok : d.Ok
def DiskAt (w : World) (b : Nat) (d : DK) (S : List Nat) : Prop := ∃ bs bn lv SL T Ts Tn, S = b :: bs :: bn :: SL ∧ DiskIs w b d bs bn lv SL T Ts Tn
theorem DiskAt.keep {w w' : World} {b : Nat} {d : DK} {S S' : List Nat} (h : DiskAt w b d S) (hk : Kp S' w w') (hd : ∀ x ∈ S, x ∉ S') : DiskAt w' b d S := by
  obtain ⟨bs, bn, lv, SL, T, Ts, Tn, rfl, h⟩ := h
  exact ⟨bs, bn, lv, SL, T, Ts, Tn, rfl, hk.get h.hb (hd _ (by simp)), hk.get h.hs (hd _ (by simp)), hk.get h.hn (hd _ (by simp)), RowsAt.keep h.hl hk (fun x hx => hd x (by simp [hx])), h.nd, h.ok⟩
def DK.burns (d : DK) : DK × Bool :=
  if d.off = true ∨ d.fuse = 0 then ({ d with off := true, fuse := -1 }, false) else ({ d with fuse := if d.fuse > 0 then d.fuse - 1 else d.fuse }, true)
theorem Size_spec {w : World} {b : Nat} {d : DK} {S : List Nat} (h : DiskAt w b d S) {K : KW} (hK : K (.int .i64 d.now.length) w) : callG prog 33 #[.pointer (some ⟨b, 0, none⟩)] w K := by
  obtain ⟨bs, bn, lv, SL, T, Ts, Tn, rfl, h⟩ := h
  refine Fn9_call ?_
  simpa [Fn9, Fn9_s0, h.hb] using hK
theorem has_spec {w : World} {b : Nat} {d : DK} {S : List Nat} (h : DiskAt w b d S) (at_ : Int) {K : KW} (hK : K (.bool (decide (0 ≤ at_ ∧ at_ < d.now.length))) w) :
    callG prog 79 #[.pointer (some ⟨b, 0, none⟩), .int .i64 at_] w K := by
  refine Fn12_call ?_
  simp only [Fn12, Fn12_s0, bq_geq, bV_b]
  refine ⟨fun h0 => Size_spec h ?_, fun h0 => ?_⟩
  · simp at h0
    simpa [h0] using hK
  · simp at h0
    have : ¬ 0 ≤ at_ := by omega
    simpa [this, h0] using hK
theorem DiskIs.ne {w : World} {b : Nat} {d : DK} {bs bn : Nat} {lv : Value} {SL : List Nat} {T Ts Tn : Nat} (h : DiskIs w b d bs bn lv SL T Ts Tn) :
    ¬ b = bs ∧ ¬ b = bn ∧ b ∉ SL ∧ ¬ bs = bn ∧ bs ∉ SL ∧ bn ∉ SL ∧ SL.Nodup ∧ ¬ bs = b ∧ ¬ bn = b ∧ ¬ bn = bs := by
  have hnd := h.nd
  simp only [List.nodup_cons, List.mem_cons, not_or] at hnd
  obtain ⟨⟨n1, n2, n3⟩, ⟨n4, n5⟩, n6, n7⟩ := hnd
  exact ⟨n1, n2, n3, n4, n5, n6, n7, fun h => n1 h.symm, fun h => n2 h.symm, fun h => n4 h.symm⟩
theorem DiskIs.head {w : World} {b : Nat} {d : DK} {bs bn : Nat} {lv : Value} {SL : List Nat} {T Ts Tn : Nat} (h : DiskIs w b d bs bn lv SL T Ts Tn) (f : Int) (o : Bool) (hf : -1 ≤ f) (hf' : f < 9223372036854775808) :
    let w' := setBlk w b (.cells #[.slice (some ⟨bs, 0, none⟩) d.now.length d.now.length, .slice (some ⟨bn, 0, none⟩) d.now.length d.now.length, lv, .int .i64 f, .bool o] T (0, 0))
    DiskIs w' b { d with fuse := f, off := o } bs bn lv SL T Ts Tn ∧ Kp [b] w w' := by
  obtain ⟨n1, n2, n3, n4, n5, n6, n7, n8, n9, n10⟩ := h.ne
  have hk : Kp [b] w (setBlk w b (.cells #[.slice (some ⟨bs, 0, none⟩) d.now.length d.now.length, .slice (some ⟨bn, 0, none⟩) d.now.length d.now.length, lv, .int .i64 f, .bool o] T (0, 0))) := (Kp.refl _ _).setBlk (.inl (by simp)) _
  exact ⟨⟨heap_self (live_of h.hb), hk.get h.hs (by simp [n8]), hk.get h.hn (by simp [n9]), RowsAt.keep h.hl hk (fun x hx => by simp; intro hh; subst hh; exact n3 hx), h.nd,
    ⟨h.ok.len, h.ok.pos, h.ok.most, h.ok.sz1, h.ok.sz2, h.ok.szl, hf, hf'⟩⟩, hk⟩
theorem burns_spec {w : World} {b : Nat} {d : DK} {S : List Nat} (h : DiskAt w b d S) {K : KW} (hK : ∀ w', DiskAt w' b d.burns.1 S → Kp [b] w w' → K (.bool d.burns.2) w') :
    callG prog 117 #[.pointer (some ⟨b, 0, none⟩)] w K := by
  obtain ⟨bs, bn, lv, SL, T, Ts, Tn, rfl, h⟩ := h
  have hlv := live_of h.hb
  have f0 := h.ok.f0
  have f1 := h.ok.f1
  refine Fn11_call ?_
  have put : ∀ f o, d.burns.1 = { d with fuse := f, off := o } → -1 ≤ f → f < 9223372036854775808 → K (.bool d.burns.2) (setBlk w b (.cells #[.slice (some ⟨bs, 0, none⟩) d.now.length d.now.length, .slice (some ⟨bn, 0, none⟩) d.now.length d.now.length, lv, .int .i64 f, .bool o] T (0, 0))) := by
    intro f o hb h0 h1
    obtain ⟨g1, g2⟩ := h.head f o h0 h1
    exact hK _ (by rw [hb]; exact ⟨bs, bn, lv, SL, T, Ts, Tn, rfl, g1⟩) g2
  have hw : IntKind.i64.wrap (d.fuse - 1) = d.fuse - 1 := w64 (by omega) (by omega)
  cases ho : d.off with
  | true =>
    have hbb : d.burns = ({ d with fuse := -1, off := true }, false) := by simp [DK.burns, ho]
    have := put (-1) true (by rw [hbb]) (by omega) (by omega)
    rw [hbb] at this
    simpa [Fn11, Fn11_s0, Fn11_s1, Fn11_s2, Fn11_s3, h.hb, heap_self, hlv, ho] using this
  | false =>
    by_cases hz : d.fuse = 0
    · have hbb : d.burns = ({ d with fuse := -1, off := true }, false) := by simp [DK.burns, hz]
      have := put (-1) true (by rw [hbb]) (by omega) (by omega)
      rw [hbb] at this
      simpa [Fn11, Fn11_s0, Fn11_s1, Fn11_s2, Fn11_s3, h.hb, heap_self, hlv, ho, hz] using this
    · by_cases hp : 0 < d.fuse
      · have hbb : d.burns = ({ d with fuse := d.fuse - 1, off := false }, true) := by simp [DK.burns, ho, hz, hp]
        have := put (d.fuse - 1) false (by rw [hbb]) (by omega) (by omega)
        rw [hbb] at this
        have hle : ¬ d.fuse ≤ 0 := by omega
        simpa [Fn11, Fn11_s0, Fn11_s1, Fn11_s2, Fn11_s3, h.hb, heap_self, hlv, ho, hz, hp, hw, hle] using this
      · have hbb : d.burns = ({ d with fuse := d.fuse, off := false }, true) := by simp [DK.burns, ho, hz, hp]
        have := put d.fuse false (by rw [hbb]) (by omega) (by omega)
        rw [hbb] at this
        have hle : d.fuse ≤ 0 := by omega
        simpa [Fn11, Fn11_s0, Fn11_s1, Fn11_s2, Fn11_s3, h.hb, heap_self, hlv, ho, hz, hp, hle] using this
theorem Off_spec {w : World} {b : Nat} {d : DK} {S : List Nat} (h : DiskAt w b d S) {K : KW} (hK : K (.bool d.off) w) : callG prog 34 #[.pointer (some ⟨b, 0, none⟩)] w K := by
  obtain ⟨bs, bn, lv, SL, T, Ts, Tn, rfl, h⟩ := h
  refine Fn7_call ?_
  simpa [Fn7, Fn7_s0, h.hb] using hK
theorem LogAt.len {w : World} {lv : Value} {l : List (Nat × List UInt8)} {S : List Nat} (h : LogAt w lv l S) : ∃ a c, lv = .slice a l.length c := by
  obtain ⟨a, c, h, _⟩ := RowsAt.len h
  exact ⟨a, c, by simpa using h⟩
def DK.read (d : DK) (at_ : Int) : List UInt8 × Int :=
  if 0 ≤ at_ ∧ at_ < d.now.length then (if d.off = true then ([], 30) else (d.now.getD at_.toNat [], 0)) else ([], 1)
theorem rows_get {L : List (List UInt8)} (h : ∀ x ∈ L, x.length = 32) {i : Nat} (hi : i < L.length) : ((L.map u8c).flatten.drop (i * 32)).take 32 = u8c (L.getD i []) := by
  rw [flat_get (k := 32) (by intro x hx; rw [List.mem_map] at hx; obtain ⟨y, hy, rfl⟩ := hx; simp [h y hy]) (by simpa using hi)]
  simp [List.getD, hi]
theorem rows_len {L : List (List UInt8)} (h : ∀ x ∈ L, x.length = 32) : (L.map u8c).flatten.length = L.length * 32 := by
  rw [flat_len (k := 32) (by intro x hx; rw [List.mem_map] at hx; obtain ⟨y, hy, rfl⟩ := hx; simp [h y hy])]
  simp
theorem Read_spec {w : World} {b : Nat} {d : DK} {S : List Nat} (h : DiskAt w b d S) (at_ : Int) {K : KW} (hK : K (.tuple #[.string (str (d.read at_).1), .int .i64 (d.read at_).2]) w) :
    callG prog 35 #[.pointer (some ⟨b, 0, none⟩), .int .i64 at_] w K := by
  refine Fn8_call ?_
  simp only [Fn8, Fn8_s0]
  refine has_spec h at_ ?_
  obtain ⟨bs, bn, lv, SL, T, Ts, Tn, rfl, h⟩ := h
  unfold DK.read at hK
  by_cases hat : 0 ≤ at_ ∧ at_ < d.now.length
  · rw [if_pos hat] at hK
    cases ho : d.off with
    | true => rw [ho, if_pos rfl] at hK; simpa [hat, h.hb, ho, str] using hK
    | false =>
      rw [ho, if_neg (by simp)] at hK
      have hi : at_.toNat < d.now.length := by omega
      have hlen := rows_len h.ok.sz2
      have hget := rows_get h.ok.sz2 hi
      have hle : at_.toNat * 32 + 32 ≤ (d.now.map u8c).flatten.length := by rw [hlen]; omega
      simpa [-List.length_flatten, hat, h.hb, ho, cvBS, h.hn, hle, hget, bytesOf_u8c, str] using hK
  · rw [if_neg hat] at hK
    simpa [hat, str] using hK
def DK.settled (d : DK) : DK := { d with l := [] }
theorem rep_rows {k : Nat} {v : List Value} (hv : v.length = k) (hk : 0 < k) (n : Nat) : rep v.toArray (n * k) = (List.replicate n v).flatten.toArray := by
  apply Array.ext
  · simp [rep, hv]
  · intro i h1 h2
    have hi : i < n * k := by simpa [rep] using h1
    simp only [rep, Array.getElem_map, Array.getElem_range, List.size_toArray, hv]
    have hm : i % k < k := Nat.mod_lt _ hk
    have hd : i / k < n := (Nat.div_lt_iff_lt_mul hk).2 hi
    have hfl : ((List.replicate n v).flatten.drop ((i / k) * k)).take k = v := by
      rw [flat_get (k := k) (by intro x hx; rw [List.mem_replicate] at hx; rw [hx.2, hv]) (by simpa using hd)]
      simp
    have hidx : i / k * k + i % k = i := by rw [Nat.mul_comm]; exact Nat.div_add_mod i k
    have e2 := congrArg (fun l => l[i % k]?) hfl
    simp only [List.getElem?_take_of_lt hm, List.getElem?_drop, hidx] at e2
    have h2' : i < (List.replicate n v).flatten.length := by simpa using h2
    rw [List.getElem?_eq_getElem h2', List.getElem?_eq_getElem (by omega)] at e2
    injection e2 with e2
    rw [List.getElem_toArray, e2]
    simp [hv, hm]
theorem zc93 : zc prog 95 = (Value.int .i64 0 :: List.replicate 32 (Value.int .u8 0)).toArray := by kernel_rfl
theorem zc91 : zc prog 93 = (List.replicate 32 (Value.int .u8 0)).toArray := by kernel_rfl
theorem one_all_replicate (n : Nat) (v : List Value) (hv : v.all one = true) : (List.replicate n v).flatten.toArray.all one = true := by
  rw [List.all_toArray, List.all_eq_true]
  intro x hx
  rw [List.mem_flatten] at hx
  obtain ⟨y, hy, hxy⟩ := hx
  rw [List.mem_replicate] at hy
  rw [hy.2] at hxy
  exact List.all_eq_true.1 hv x hxy
theorem settles_spec {w : World} {b : Nat} {d : DK} {S : List Nat} (h : DiskAt w b d S) {K : KW} (hK : ∀ w', DiskAt w' b d.settled S → Kp S w w' → K (.tuple #[]) w') :
    callG prog 50 #[.pointer (some ⟨b, 0, none⟩)] w K := by
  refine Fn13_call ?_
  obtain ⟨bs, bn, lv, SL, T, Ts, Tn, rfl, h⟩ := h
  obtain ⟨n1, n2, n3, n4, n5, n6, n7, n8, n9, n10⟩ := h.ne
  have hlv := live_of h.hb
  rcases h.hl with ⟨h1, h2, h3⟩ | ⟨bl, F, TF, h1, h2, h3, h4, h5, h6⟩
  · subst h1; subst h3
    have g := h.head d.fuse d.off h.ok.f0 h.ok.f1
    have hl0 : d.l = [] := by simpa using h2
    have hd : d.settled = { d with fuse := d.fuse, off := d.off } := by simp [DK.settled, ← hl0]
    have := hK _ (by rw [hd]; exact ⟨bs, bn, _, [], T, Ts, Tn, rfl, g.1⟩) (g.2.mono (by simp))
    simpa [Fn13, Fn13_s0, h.hb, clr] using this
  · simp only [List.length_map] at h1 h5 h6
    subst h1; subst h2
    simp only [List.mem_singleton] at n3 n5 n6
    have nl : ¬ bl = b := fun hh => n3 hh.symm
    have nl2 : ¬ bl = bs := fun hh => n5 hh.symm
    have nl3 : ¬ bl = bn := fun hh => n6 hh.symm
    have hlvl := live_of h3
    -- the head behind it
    have fin : ∀ F' : List (List Value), F'.length = F.length → (∀ x ∈ F', x.length = 33) →
        K (.tuple #[]) (setBlk (setBlk w bl (.cells F'.flatten.toArray TF (0, 0))) b (.cells #[.slice (some ⟨bs, 0, none⟩) d.now.length d.now.length, .slice (some ⟨bn, 0, none⟩) d.now.length d.now.length, .slice (some ⟨bl, 0, none⟩) 0 F.length, .int .i64 d.fuse, .bool d.off] T (0, 0))) := by
      intro F' hF' hF'r
      have hk : Kp [b, bl] w (setBlk (setBlk w bl (.cells F'.flatten.toArray TF (0, 0))) b (.cells #[.slice (some ⟨bs, 0, none⟩) d.now.length d.now.length, .slice (some ⟨bn, 0, none⟩) d.now.length d.now.length, .slice (some ⟨bl, 0, none⟩) 0 F.length, .int .i64 d.fuse, .bool d.off] T (0, 0))) :=
        ((Kp.refl _ _).setBlk (.inl (by simp)) _).setBlk (.inl (by simp)) _
      refine hK _ ⟨bs, bn, .slice (some ⟨bl, 0, none⟩) 0 F.length, [bl], T, Ts, Tn, rfl, heap_self (by simpa using hlv), hk.get h.hs (by simp [n8]; exact fun hh => nl2 hh.symm), hk.get h.hn (by simp [n9]; exact fun hh => nl3 hh.symm), ?_, h.nd, ?_⟩ (hk.mono (by simp))
      · refine .inr ⟨bl, F', TF, by simp [DK.settled, hF'], rfl, ?_, hF'r, by simp [DK.settled], by simp [DK.settled]⟩
        rw [heap_ne n3, heap_self hlvl]
      · exact ⟨h.ok.len, h.ok.pos, h.ok.most, h.ok.sz1, h.ok.sz2, by simp [DK.settled], h.ok.f0, h.ok.f1⟩
    cases hm : d.l.length with
    | zero =>
      have := fin F rfl h4
      have hself : setBlk w bl (.cells F.flatten.toArray TF (0, 0)) = w := setBlk_self h3
      rw [hself] at this
      have hite : (if F.length = 0 then some (⟨bl, 0, none⟩ : Addr) else some ⟨bl, 0, none⟩) = some ⟨bl, 0, none⟩ := by split <;> rfl
      simpa [Fn13, Fn13_s0, h.hb, clr, hm, hite] using this
    | succ m =>
      have hle : m + 1 ≤ F.length := by omega
      have hfl := flat_len h4
      have := fin (List.replicate (m + 1) (Value.int .i64 0 :: List.replicate 32 (Value.int .u8 0)) ++ F.drop (m + 1)) (by simp; omega) (by
        intro x hx
        rw [List.mem_append] at hx
        rcases hx with hx | hx
        · rw [List.mem_replicate] at hx; rw [hx.2]; simp
        · exact h4 x (List.mem_of_mem_drop hx))
      have hsp := flat_splice_many (i := 0) h4 (G := List.replicate (m + 1) (Value.int .i64 0 :: List.replicate 32 (Value.int .u8 0))) (by intro x hx; rw [List.mem_replicate] at hx; rw [hx.2]; simp) (by simp; omega)
      have hrep := rep_rows (k := 33) (v := Value.int .i64 0 :: List.replicate 32 (Value.int .u8 0)) (by simp) (by omega) (m + 1)
      have hite : (if F.length = 0 then some (⟨bl, 0, none⟩ : Addr) else some ⟨bl, 0, none⟩) = some ⟨bl, 0, none⟩ := by split <;> rfl
      have hcells : splice F.flatten.toArray 0 (rep (zc prog 95) ((m + 1) * 33)) = (List.replicate (m + 1) (Value.int .i64 0 :: List.replicate 32 (Value.int .u8 0)) ++ F.drop (m + 1)).flatten.toArray := by
        rw [zc93, hrep, splice_list]
        congr 1
        simpa [-List.length_flatten, -List.flatten_append] using hsp
      have hone : (rep (zc prog 95) ((m + 1) * 33)).all one = true := by rw [zc93, hrep]; exact one_all_replicate _ _ (by simp)
      have hsz : (rep (zc prog 95) ((m + 1) * 33)).size ≤ F.flatten.length := by
        rw [hfl]; simp [rep]; omega
      simpa [-List.length_flatten, Fn13, Fn13_s0, h.hb, clr, hm, hite, h3, hcells, hone, hsz, heap_ne nl] using this
end Go.Proofs

