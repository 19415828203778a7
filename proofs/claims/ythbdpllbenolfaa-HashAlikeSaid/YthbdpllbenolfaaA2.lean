/- Part of the proof (A2): an engine, rules or contracts of the functions; it states nothing of the claim by itself. -/
import Derived.Test.YthbdpllbenolfaaA1
import Derived.Laws.Slices
import Derived.Shelf.SlSortCmp.NoneTotal
import Derived.Sort.OwnSortedInts
import Derived.ChangeSlices

/- Plain, layer 10: numbers by values, in buckets. -/
set_option linter.unusedVariables false
set_option linter.unusedSimpArgs false
namespace Go.Q
structure E where
  v : V3
  n : Int
  deriving DecidableEq
def eC (e : E) : List Value := valV e.v ++ [.int .i64 e.n]
/-- each number stands in the bucket of its value -/
def Placed (bs : List (List E)) : Prop := ∀ k (h : k < bs.length), ∀ e ∈ bs[k], hashV e.v % bs.length = k
/-- buckets that have just these -/
structure HInv (bs : List (List E)) (m : List E) : Prop where
  placed : Placed bs
  perm : bs.flatten.Perm m
  nodup : m.Nodup
  ok : ∀ e ∈ m, e.v.ok = true
  room : m.length ≤ 4 * bs.length
def bktOf (bs : List (List E)) (v : V3) : List E := bs.getD (hashV v % bs.length) []
theorem bkt_mem {bs : List (List E)} {m : List E} (h : HInv bs m) {e : E} (hm : e ∈ m) : e ∈ bktOf bs e.v := by
  have h1 := h.perm.mem_iff.2 hm
  obtain ⟨b, hb, he⟩ := List.mem_flatten.1 h1
  obtain ⟨k, hk, rfl⟩ := List.getElem_of_mem hb
  have := h.placed k hk e he
  unfold bktOf
  rw [this]
  simpa [List.getD, hk] using he
theorem mem_bkt {bs : List (List E)} {m : List E} (h : HInv bs m) {e : E} {v : V3} (hb : e ∈ bktOf bs v) : e ∈ m := by
  unfold bktOf at hb
  by_cases hk : hashV v % bs.length < bs.length
  · simp only [List.getD, List.getElem?_eq_getElem hk, Option.getD_some] at hb
    exact h.perm.mem_iff.1 (List.mem_flatten.2 ⟨_, List.getElem_mem hk, hb⟩)
  · simp [List.getD, List.getElem?_eq_none (Nat.le_of_not_lt hk)] at hb
/-- the numbers by a value, whatever their order -/
def numsOf (m : List E) (v : V3) : List Int := (m.filter fun e => decide (e.v = v)).map (·.n)
theorem filter_other : ∀ (bs : List (List E)) (p : E → Bool), (∀ b ∈ bs, ∀ e ∈ b, p e = false) → bs.flatten.filter p = [] := by
  intro bs p h
  rw [List.filter_eq_nil_iff]
  intro e he
  obtain ⟨b, hb, heb⟩ := List.mem_flatten.1 he
  simp [h b hb e heb]
theorem flatten_filter_at : ∀ (bs : List (List E)) (p : E → Bool) (k : Nat) (hk : k < bs.length), (∀ j (hj : j < bs.length), j ≠ k → ∀ e ∈ bs[j], p e = false) → bs.flatten.filter p = bs[k].filter p := by
  intro bs
  induction bs with
  | nil => intro p k hk; simp at hk
  | cons b r ih =>
    intro p k hk h
    rw [List.flatten_cons, List.filter_append]
    cases k with
    | zero =>
      rw [filter_other r p, List.append_nil]
      · rfl
      · intro c hc e he
        obtain ⟨j, hj, rfl⟩ := List.getElem_of_mem hc
        exact h (j + 1) (by simpa using hj) (by omega) e (by simpa using he)
    | succ k =>
      have h0 : b.filter p = [] := by
        rw [List.filter_eq_nil_iff]
        intro e he
        simp [h 0 (by simp) (by omega) e (by simpa using he)]
      rw [h0, List.nil_append, ih p k (by simpa using hk) fun j hj hne e he => h (j + 1) (by simpa using hj) (by omega) e (by simpa using he)]
      rfl
theorem nums_perm {bs : List (List E)} {m : List E} (h : HInv bs m) (v : V3) : (numsOf (bktOf bs v) v).Perm (numsOf m v) := by
  unfold numsOf
  refine List.Perm.map _ ?_
  refine List.Perm.trans ?_ (h.perm.filter _)
  unfold bktOf
  by_cases hk : hashV v % bs.length < bs.length
  · simp only [List.getD, List.getElem?_eq_getElem hk, Option.getD_some]
    rw [flatten_filter_at bs _ _ hk]
    intro j hj hne e he
    rw [decide_eq_false_iff_not]
    rintro rfl
    exact hne (h.placed j hj e he).symm
  · have h0 : bs = [] := by
      refine List.eq_nil_iff_length_eq_zero.2 (Nat.eq_zero_of_not_pos fun hp => hk (Nat.mod_lt _ hp))
    subst h0
    simp
/-! ### put, taken out, put anew -/
def pushB (bs : List (List E)) (k : Nat) (e : E) : List (List E) := bs.set k (bs.getD k [] ++ [e])
theorem pushB_len (bs : List (List E)) (k : Nat) (e : E) : (pushB bs k e).length = bs.length := by simp [pushB]
theorem pushB_perm : ∀ {bs : List (List E)} {k : Nat} (e : E), k < bs.length → (pushB bs k e).flatten.Perm (bs.flatten ++ [e]) := by
  intro bs
  induction bs with
  | nil => intro k e h; simp at h
  | cons b r ih =>
    intro k e h
    cases k with
    | zero =>
      simp only [pushB, List.set_cons_zero, List.getD_cons_zero, List.flatten_cons, List.append_assoc]
      exact List.Perm.append_left b (List.perm_append_comm)
    | succ k =>
      have := ih (k := k) e (by simpa using h)
      simp only [pushB, List.set_cons_succ, List.getD_cons_succ, List.flatten_cons, List.append_assoc] at this ⊢
      exact List.Perm.append_left b this
theorem pushB_placed {bs : List (List E)} (h : Placed bs) {e : E} (hk : hashV e.v % bs.length < bs.length) : Placed (pushB bs (hashV e.v % bs.length) e) := by
  intro j hj x hx
  rw [pushB_len] at hj ⊢
  by_cases he : hashV e.v % bs.length = j
  · have : (pushB bs (hashV e.v % bs.length) e)[j]'(by rw [pushB_len]; exact hj) = bs[j] ++ [e] := by
      simp [pushB, he, List.getD, hj]
    rw [this] at hx
    rcases List.mem_append.1 hx with hx | hx
    · exact h j hj x hx
    · simp at hx; subst hx; exact he
  · have : (pushB bs (hashV e.v % bs.length) e)[j]'(by rw [pushB_len]; exact hj) = bs[j] := by
      simp [pushB, List.getElem_set_ne he]
    rw [this] at hx
    exact h j hj x hx
/-- all numbers in so many buckets -/
def growL (bs : List (List E)) (B : Nat) : List (List E) := bs.flatten.foldl (fun acc e => pushB acc (hashV e.v % B) e) (List.replicate B [])
theorem fold_push (B : Nat) (hB : 0 < B) : ∀ (l : List E) (acc : List (List E)), acc.length = B → Placed acc → (l.foldl (fun acc e => pushB acc (hashV e.v % B) e) acc).length = B ∧ Placed (l.foldl (fun acc e => pushB acc (hashV e.v % B) e) acc) ∧ (l.foldl (fun acc e => pushB acc (hashV e.v % B) e) acc).flatten.Perm (acc.flatten ++ l) := by
  intro l
  induction l with
  | nil => intro acc h1 h2; exact ⟨h1, h2, by simp⟩
  | cons e r ih =>
    intro acc h1 h2
    have hk : hashV e.v % B < B := Nat.mod_lt _ hB
    have hp : Placed (pushB acc (hashV e.v % B) e) := by
      have := pushB_placed h2 (e := e) (by rw [h1]; exact hk)
      rw [h1] at this; exact this
    obtain ⟨g1, g2, g3⟩ := ih (pushB acc (hashV e.v % B) e) (by rw [pushB_len, h1]) hp
    refine ⟨g1, g2, g3.trans ?_⟩
    have := pushB_perm (bs := acc) (k := hashV e.v % B) e (by rw [h1]; exact hk)
    have h3 := this.append_right r
    simpa [List.append_assoc] using h3
theorem grow_ok (bs : List (List E)) {B : Nat} (hB : 0 < B) : (growL bs B).length = B ∧ Placed (growL bs B) ∧ (growL bs B).flatten.Perm bs.flatten := by
  have h0 : (List.replicate B ([] : List E)).flatten = [] := by simp
  obtain ⟨g1, g2, g3⟩ := fold_push B hB bs.flatten (List.replicate B []) (by simp) (by
    intro k hk e he
    simp at he)
  rw [h0, List.nil_append] at g3
  exact ⟨g1, g2, g3⟩
theorem hinv_grow {bs : List (List E)} {m : List E} (h : HInv bs m) {B : Nat} (hB : 0 < B) (hr : m.length ≤ 4 * B) : HInv (growL bs B) m := by
  obtain ⟨g1, g2, g3⟩ := grow_ok bs hB
  exact ⟨g2, g3.trans h.perm, h.nodup, h.ok, by rw [g1]; exact hr⟩
theorem hinv_push {bs : List (List E)} {m : List E} (h : HInv bs m) {e : E} (he : e ∉ m) (hok : e.v.ok = true) (hr : m.length + 1 ≤ 4 * bs.length) : HInv (pushB bs (hashV e.v % bs.length) e) (m ++ [e]) := by
  have hk : hashV e.v % bs.length < bs.length := Nat.mod_lt _ (by omega)
  refine ⟨pushB_placed h.placed hk, (pushB_perm e hk).trans (h.perm.append_right _), ?_, fun x hx => ?_, by rw [pushB_len]; simp; omega⟩
  · rw [List.nodup_append]
    refine ⟨h.nodup, by simp, fun a ha b hb => ?_⟩
    simp at hb; subst hb
    exact fun hab => he (hab ▸ ha)
  · rcases List.mem_append.1 hx with hx | hx
    · exact h.ok x hx
    · simp at hx; subst hx; exact hok
def dropB (bs : List (List E)) (k i : Nat) : List (List E) := bs.set k ((bs.getD k []).eraseIdx i)
theorem perm_eraseIdx {α : Type} : ∀ {b : List α} {i : Nat} (hi : i < b.length), b.Perm (b[i] :: b.eraseIdx i) := by
  intro b
  induction b with
  | nil => intro i h; simp at h
  | cons x r ih =>
    intro i h
    cases i with
    | zero => exact List.Perm.refl _
    | succ i =>
      have := ih (i := i) (by simpa using h)
      simp only [List.getElem_cons_succ, List.eraseIdx_cons_succ]
      exact (List.Perm.cons x this).trans (List.Perm.swap _ _ _)
theorem dropB_perm : ∀ {bs : List (List E)} {k i : Nat} (hk : k < bs.length) (hi : i < bs[k].length), bs.flatten.Perm (bs[k][i] :: (dropB bs k i).flatten) := by
  intro bs
  induction bs with
  | nil => intro k i h; simp at h
  | cons b r ih =>
    intro k i hk hi
    cases k with
    | zero =>
      simp only [dropB, List.set_cons_zero, List.getD_cons_zero, List.flatten_cons, List.getElem_cons_zero] at hi ⊢
      have : b.Perm (b[i] :: b.eraseIdx i) := perm_eraseIdx hi
      exact this.append_right r.flatten
    | succ k =>
      have := ih (k := k) (i := i) (by simpa using hk) (by simpa using hi)
      simp only [dropB, List.set_cons_succ, List.getD_cons_succ, List.flatten_cons, List.getElem_cons_succ] at this ⊢
      refine (List.Perm.append_left b this).trans ?_
      exact List.perm_middle
theorem hinv_drop {bs : List (List E)} {m : List E} (h : HInv bs m) {k i : Nat} (hk : k < bs.length) (hi : i < bs[k].length) : HInv (dropB bs k i) (m.filter fun e => decide (e ≠ bs[k][i])) ∧ (m.filter fun e => decide (e ≠ bs[k][i])).length + 1 = m.length := by
  have hp := dropB_perm hk hi
  have hlen : (dropB bs k i).length = bs.length := by simp [dropB]
  have hpm : m.Perm (bs[k][i] :: (dropB bs k i).flatten) := h.perm.symm.trans hp
  have hnd : (bs[k][i] :: (dropB bs k i).flatten).Nodup := hpm.nodup h.nodup
  have hno : bs[k][i] ∉ (dropB bs k i).flatten := (List.nodup_cons.1 hnd).1
  have hf : (m.filter fun e => decide (e ≠ bs[k][i])).Perm (dropB bs k i).flatten := by
    have h1 := hpm.filter fun e => decide (e ≠ bs[k][i])
    have h2 : (bs[k][i] :: (dropB bs k i).flatten).filter (fun e => decide (e ≠ bs[k][i])) = (dropB bs k i).flatten := by
      rw [List.filter_cons_of_neg (by simp), List.filter_eq_self]
      intro e he
      rw [decide_eq_true_eq]
      rintro rfl
      exact hno he
    rw [h2] at h1
    exact h1
  have hl := hf.length_eq
  have hl2 := hpm.length_eq
  simp only [List.length_cons] at hl2
  refine ⟨⟨?_, hf.symm, h.nodup.filter _, fun e he => h.ok e (List.mem_filter.1 he).1, by rw [hlen]; have := h.room; omega⟩, by omega⟩
  intro j hj x hx
  rw [hlen] at hj ⊢
  have hx' : x ∈ bs[j] := by
    by_cases he : k = j
    · subst he
      have : (dropB bs k i)[k]'(by rw [hlen]; exact hj) = bs[k].eraseIdx i := by simp [dropB, List.getD, hj]
      rw [this] at hx
      exact List.mem_of_mem_eraseIdx hx
    · have : (dropB bs k i)[j]'(by rw [hlen]; exact hj) = bs[j] := by simp [dropB, List.getElem_set_ne he]
      rw [this] at hx
      exact hx
  exact h.placed j hj x hx'
theorem hinv_nil : HInv [] [] := ⟨fun k h => by simp at h, List.Perm.refl _, List.nodup_nil, by simp, by simp⟩
/-! ### rising -/
def insI (l : List Int) (x : Int) : List Int := l.takeWhile (fun y => decide (y < x)) ++ [x] ++ l.dropWhile (fun y => decide (y < x))
def Rising (l : List Int) : Prop := l.Pairwise (· ≤ ·)
theorem insI_perm (l : List Int) (x : Int) : (insI l x).Perm (x :: l) := by
  unfold insI
  have h : l.takeWhile (fun y => decide (y < x)) ++ l.dropWhile (fun y => decide (y < x)) = l := List.takeWhile_append_dropWhile
  rw [List.append_assoc]
  have h2 : (l.takeWhile (fun y => decide (y < x)) ++ ([x] ++ l.dropWhile (fun y => decide (y < x)))).Perm (x :: (l.takeWhile (fun y => decide (y < x)) ++ l.dropWhile (fun y => decide (y < x)))) := List.perm_middle
  rw [h] at h2
  exact h2
theorem insI_rising {l : List Int} (h : Rising l) (x : Int) : Rising (insI l x) := by
  induction l with
  | nil => simp [insI, Rising]
  | cons y r ih =>
    have hr := List.pairwise_cons.1 h
    unfold insI
    by_cases hy : y < x
    · rw [List.takeWhile_cons_of_pos (by simpa using hy), List.dropWhile_cons_of_pos (by simpa using hy)]
      have := ih hr.2
      unfold insI at this
      simp only [List.cons_append]
      refine List.pairwise_cons.2 ⟨fun z hz => ?_, this⟩
      have hz' := (insI_perm r x).mem_iff.1 hz
      rcases List.mem_cons.1 hz' with rfl | hz'
      · omega
      · exact hr.1 z hz'
    · rw [List.takeWhile_cons_of_neg (by simpa using hy), List.dropWhile_cons_of_neg (by simpa using hy)]
      refine List.pairwise_cons.2 ⟨fun z hz => ?_, h⟩
      rcases List.mem_cons.1 hz with rfl | hz
      · omega
      · have := hr.1 z hz; omega
def sortI (l : List Int) : List Int := l.foldl insI []
theorem fold_ins : ∀ (l acc : List Int), Rising acc → Rising (l.foldl insI acc) ∧ (l.foldl insI acc).Perm (acc ++ l) := by
  intro l
  induction l with
  | nil => intro acc h; exact ⟨h, by simp⟩
  | cons x r ih =>
    intro acc h
    obtain ⟨g1, g2⟩ := ih (insI acc x) (insI_rising h x)
    refine ⟨g1, g2.trans ?_⟩
    refine ((insI_perm acc x).append_right r).trans ?_
    rw [List.cons_append]
    exact List.perm_middle.symm
theorem sortI_ok (l : List Int) : Rising (sortI l) ∧ (sortI l).Perm l := by
  have := fold_ins l [] List.Pairwise.nil
  simpa [sortI] using this
theorem rising_eq {a b : List Int} (ha : Rising a) (hb : Rising b) (h : a.Perm b) : a = b :=
  List.Perm.eq_of_pairwise (le := (· ≤ ·)) (fun x y _ _ h1 h2 => Int.le_antisymm h1 h2) ha hb h
end Go.Q

/- Variables that hold a struct; copies; one row taken out; indexes as values. -/
set_option linter.unusedVariables false
set_option linter.unusedSimpArgs false
namespace Go.Q
variable {P : Program}
theorem argB {cs : Array Value} {T : TypeId} {w : World} {K : Value → World → Prop} (h : ∀ b w1, w.heap.size ≤ b → w1.heap[b]? = some (.cells cs T) → Kp [] w w1 → K (.pointer (some ⟨b, 0, none⟩)) w1) :
    newG (Value.cells (.agg cs)) T w K := h _ _ (Nat.le_refl _) heap_new kp_alloc
theorem newB {cs : Array Value} {T : TypeId} {w : World} {K : Value → World → Prop} (h : ∀ b w1, w.heap.size ≤ b → w1.heap[b]? = some (.cells cs T) → Kp [] w w1 → K (.pointer (some ⟨b, 0, none⟩)) w1) :
    newG cs T w K := h _ _ (Nat.le_refl _) heap_new kp_alloc
theorem ldA {b k : Nat} {c : Array Value} {T : TypeId} {fr : Nat × Nat} {w : World} (h : w.heap[b]? = some (.cells c T fr)) (hc : c.size = k) {K : Value → Prop} : ldn k (.pointer (some ⟨b, 0, none⟩)) w K = K (.agg c) := by
  rw [ldn_p, rdN_mk, h]
  subst hc
  simp
/-- a part that is a struct is read -/
theorem ldP {b o k : Nat} {c : Array Value} {T : TypeId} {fr : Nat × Nat} {w : World} (h : w.heap[b]? = some (.cells c T fr)) {p : Array Value} (hp : c.extract o (o + k) = p) (hs : o + k ≤ c.size) {K : Value → Prop} : ldn k (.pointer (some ⟨b, o, none⟩)) w K = K (.agg p) := by
  rw [ldn_p, rdN_mk, h]
  simp only [hp, hs, true_and]
theorem stA {b k : Nat} {old c : Array Value} {T : TypeId} {w : World} (h : w.heap[b]? = some (.cells old T)) (ho : old.size = k) (hc : c.size = k) (hone : c.all one = true) {K : World → Prop} :
    stn k (.pointer (some ⟨b, 0, none⟩)) (.agg c) w K = K (setBlk w b (.cells c T)) := by
  rw [stn_p, wrN_mk, h]
  have hsp : splice old 0 c = c := splice_all (by rw [ho, hc])
  apply propext
  constructor
  · rintro ⟨_, _, hk⟩
    rw [hsp] at hk
    exact hk
  · intro hk
    refine ⟨hc, ⟨by omega, by rw [okFr0]; trivial, hone⟩, ?_⟩
    rw [hsp]; exact hk
/-- a result's variable is written and read -/
theorem retB {T T' : TypeId} {n z : Nat} {old c : Array Value} {w : World} (ha : aggO P T = some true) (hn : szO P T = some n) (h : w.heap[z]? = some (.cells old T')) (ho : old.size = n) (hc : c.size = n) (hone : c.all one = true) {R : Value → World → Prop}
    (hR : ∀ w', Kp [z] w w' → R (.agg c) w') : stn n (.pointer (some ⟨z, 0, none⟩)) (.agg c) w fun w => qG P (do loadVar T (← asAddr (.pointer (some ⟨z, 0, none⟩)))) w fun r => R r w := by
  rw [stA h ho hc hone, loadVar_of ha hn (heap_self (live_of h)) hc]
  exact hR _ ((Kp.refl _ w).setBlk (.inl (by simp)) _)
theorem rd_none2 {w : World} {k l c : Nat} {rows : List (List Value)} (h : Rd w (.slice none l c) k rows) : rows = [] := by
  obtain ⟨S, ⟨a, cap, h1, h2⟩ | h⟩ := h
  · exact h2
  · rcases h with ⟨_, h2⟩ | ⟨bl, o, cap, c, T, fr, h1, _⟩
    · exact h2
    · cases h1
/-- slices.Clone -/
theorem clone_gen {T e k bytes : Nat} {z : List Value} {xo yo : Operand} {w : World} {v : Value} {rows : List (List Value)} (hT : isSl P T = true) (hz : zc P e = z.toArray) (hzk : z.length = k) (hk : 0 < k) (h : Rd w v k rows) (hone : rows.flatten.all one = true)
    (hb : 2 * rows.length * bytes ≤ 2 ^ 48) (hl : rows.length < 2 ^ 62) {K : Value → World → Prop} (hK : ∀ v' w', Fr w w' v' k rows → K v' w') :
    qG P (bq .eql T xo yo v (.slice none 0 0)) w fun t4 => bV t4 (K (.slice none 0 0) w) (bsl e k 0 (zc P e) #[] w fun t5 w => app e k bytes (zc P e) t5 v w fun t7 w => K t7 w) := by
  obtain ⟨sa, sc, hv⟩ := h.slice
  have hnil : sa = none → rows = [] := by
    intro h0
    subst h0
    rw [hv] at h
    exact rd_none2 h
  rw [hv, bq_sleql _ _ _ _ _ hT]
  simp only [bV_b]
  refine ⟨fun h0 => ?_, fun h0 => ?_⟩
  · have : rows = [] := hnil (by simpa using h0)
    subst this
    exact hK _ w (fr_nil (Kp.refl _ _))
  · have hb : ∀ K : Value → World → Prop, bsl e k 0 (zc P e) #[] w K = K (.slice (some ⟨w.heap.size, 0, none⟩) 0 0) (w.alloc (.cells #[] e)) := by
      intro K
      have hr : rep (zc P e) (0 * k) = #[] := by simp [rep]
      unfold bsl
      rw [hr]
      rfl
    rw [hb]
    obtain ⟨w1, hw1⟩ : ∃ w1, w1 = w.alloc (.cells #[] e) := ⟨_, rfl⟩
    have hk1 : Kp [] w w1 := by rw [hw1]; exact (Kp.refl [] w).alloc _
    have hb1 : w1.heap[w.heap.size]? = some (.cells #[] e) := by rw [hw1]; exact heap_new
    rw [← hw1, ← hv]
    have h1 : Fr w w1 (.slice (some ⟨w.heap.size, 0, none⟩) 0 0) k [] := ⟨⟨[w.heap.size], .inr ⟨_, [], _, rfl, rfl, hb1, by simp, rfl, by simp⟩, by simp⟩, hk1⟩
    have hs := h.keep hk1
    rw [hz]
    exact fr_app (G := rows) h1 hk hzk (fun y hy => hs.row hy) hone (fun K' hK' => hs.src K' hK') (by simpa using ‹2 * rows.length * bytes ≤ 2 ^ 48›) (by simpa using hl) fun v2 w2 h2 => hK v2 w2 (by simpa using h2)
theorem all_take {rows : List (List Value)} (h : rows.flatten.all one = true) (n : Nat) : (rows.drop n).flatten.all one = true := by
  rw [List.all_eq_true] at h ⊢
  intro x hx
  obtain ⟨r, hr, hxr⟩ := List.mem_flatten.1 hx
  exact h x (List.mem_flatten.2 ⟨r, List.mem_of_mem_drop hr, hxr⟩)
/-- slices.Delete of one row -/
theorem del_gen {T e k bytes : Nat} {z : List Value} {w0 w : World} {v : Value} {rows : List (List Value)} {xo yo : Operand} {I : TypeId} (hT : P.underlying T = some (.slice (P.elem T))) (hTs : szO P (P.elem T) = some k) (hz : zc P e = z.toArray) (hzk : z.length = k) (hk : 0 < k) (hzone : z.all one = true) (h : Fr w0 w v k rows) (hone : rows.flatten.all one = true)
    {i : Nat} (hi : i < rows.length) {K : Value → World → Prop} (hK : ∀ v' w', Fr w0 w' v' k (rows.eraseIdx i) → K v' w') :
    lenL v fun t12 =>
    qG P (Instr.sliceAt T v (some (.int .i64 i)) (some (.int .i64 ((i + 1 : Nat) : Int))) (some t12)) w fun t13 =>
    qG P (bq .eql I xo yo (.int .i64 i) (.int .i64 ((i + 1 : Nat) : Int))) w fun t16 =>
    bV t16 (K v w)
    (lenL v fun t19 =>
    slL k v none (some (.int .i64 i)) fun t22 =>
    slL k v (some (.int .i64 ((i + 1 : Nat) : Int))) none fun t25 =>
    app e k bytes (zc P e) t22 t25 (World.drew w) fun t26 w =>
    lenL t26 fun t29 =>
    slL k t26 (some t29) (some t19) fun t31 =>
    clr k (zc P e) t31 w fun _ w =>
    K t26 w) := by
  have hrd := h.rd
  obtain ⟨S, hS, hSl⟩ := h.ex
  rcases hS with ⟨h1, h2, h3⟩ | ⟨bl, F, TT, h1, h2, h3, h4, h5, h6⟩
  · subst h2; simp at hi
  · have hbl : w0.heap.size ≤ bl := hSl bl (by rw [h2]; simp)
    obtain ⟨v2, hv2, hv2e⟩ := (hrd.keep kp_drew).drop (p := i + 1) (by omega) (kd := .i64)
    have hrk : ∀ y ∈ rows, y.length = k := fun y hy => hrd.row hy
    rw [hrd.lenL]
    have hsl : (Instr.sliceAt T v (some (.int .i64 i)) (some (.int .i64 ((i + 1 : Nat) : Int))) (some (.int .i64 rows.length))).run P w = .ok (sliced (some ⟨bl, 0, none⟩) i (i + 1) rows.length k) w := by
      rw [run_sliceAt_slice w T v _ _ _ hT, h1, run_slice_lhm w T (some ⟨bl, 0, none⟩) rows.length F.length hT .i64 .i64 .i64 i ((i + 1 : Nat) : Int) rows.length (by omega) (by omega) (by omega) (by omega), szO_some hTs w]
      simp only [Result.andThen_ok, Int.toNat_natCast]
    rw [qG_of hsl]
    simp only [bq_eql, bV_b]
    refine ⟨fun hh => by simp at hh; omega, fun _ => ?_⟩
    have e1 : ∀ K : Value → Prop, slL k v none (some (.int .i64 i)) K = K (.slice (some ⟨bl, 0, none⟩) i F.length) := by
      intro K
      have : (i : Int) ≤ F.length := by omega
      rw [h1]
      simp [this]
    rw [hrd.lenL, e1, hv2e]
    unfold app
    refine hv2.src _ ⟨fun hle => ?_, fun hlt => ?_⟩
    · have hG : ∀ x ∈ rows.drop (i + 1), x.length = k := fun x hx => hrk x (List.mem_of_mem_drop hx)
      simp only [List.length_drop] at hle ⊢
      have hwr : ∀ K : World → Prop, wrN w.drew ⟨bl, i * k, none⟩ (rows.drop (i + 1)).flatten.toArray K = _ := fun K => wr_rows (w := w.drew) (i := i) (G := rows.drop (i + 1)) (by rw [heap_drew]; exact h3) h4 hG (by simp; omega) (all_take hone _)
      simp only [wrO, add_mk, Nat.zero_add]
      rw [hwr]
      obtain ⟨F1, hF1⟩ : ∃ F1, F1 = F.take i ++ rows.drop (i + 1) ++ F.drop (i + (rows.drop (i + 1)).length) := ⟨_, rfl⟩
      rw [← hF1]
      obtain ⟨w1, hw1⟩ : ∃ w1, w1 = setBlk w.drew bl (.cells F1.flatten.toArray TT) := ⟨_, rfl⟩
      have q1 : w1.heap[bl]? = some (.cells F1.flatten.toArray TT (0, 0)) := by rw [hw1]; exact heap_self (live_of h3)
      have k1 : Kp [] w0 w1 := by rw [hw1]; exact (h.kp.drew).setBlk (.inr hbl) _
      rw [← hw1]
      have hF1k : ∀ y ∈ F1, y.length = k := by
        intro y hy
        rw [hF1, List.mem_append, List.mem_append] at hy
        rcases hy with (hy | hy) | hy
        · exact h4 y (List.mem_of_mem_take hy)
        · exact hG y hy
        · exact h4 y (List.mem_of_mem_drop hy)
      have hF1l : F1.length = F.length := by rw [hF1]; simp; omega
      have hFt : F.take i = rows.take i := by
        have e := congrArg (List.take i) h5
        rw [List.take_take, Nat.min_eq_left (by omega)] at e
        exact e
      have hF1t : F1.take (rows.length - 1) = rows.eraseIdx i := by
        rw [hF1, hFt, List.eraseIdx_eq_take_drop_succ]
        exact List.take_left' (by simp; omega)
      have en : i + (rows.length - (i + 1)) = rows.length - 1 := by omega
      rw [en]
      have e2 : ∀ K : Value → Prop, (lenL (.slice (some ⟨bl, 0, none⟩) (rows.length - 1) F.length) fun t29 => slL k (.slice (some ⟨bl, 0, none⟩) (rows.length - 1) F.length) (some t29) (some (.int .i64 rows.length)) K) = K (.slice (some ⟨bl, (rows.length - 1) * k, none⟩) 1 (F.length - (rows.length - 1))) := by
        intro K
        have g1 : (rows.length : Int) ≤ F.length := by omega
        have g2 : ((rows.length - 1 : Nat) : Int) ≤ rows.length := by omega
        have g3 : ¬ F.length = rows.length - 1 := by omega
        have g4 : rows.length - (rows.length - 1) = 1 := by omega
        simp [g1, g2, g3, g4]
      rw [e2]
      have hzr : rep (zc P e) ((0 + 1) * k) = [z].flatten.toArray := by
        have := rep_rows (k := k) (z := z) hk hzk 1
        rw [hz, this]; rfl
      simp only [clr, hzr]
      rw [wr_rows (G := [z]) q1 hF1k (by simpa using hzk) (by simp; omega) (by simpa using hzone)]
      refine hK _ _ ⟨⟨[bl], .inr ⟨bl, F1.take (rows.length - 1) ++ [z] ++ F1.drop (rows.length - 1 + 1), TT, ?_, rfl, heap_self (live_of q1), ?_, ?_, ?_⟩, by simpa using hbl⟩, k1.setBlk (.inr hbl) _⟩
      · congr 1
        · rw [List.length_eraseIdx]; simp [hi]
        · simp; omega
      · intro y hy
        rw [List.mem_append, List.mem_append] at hy
        rcases hy with (hy | hy) | hy
        · exact hF1k y (List.mem_of_mem_take hy)
        · rw [List.mem_singleton] at hy; rw [hy]; exact hzk
        · exact hF1k y (List.mem_of_mem_drop hy)
      · have el : (rows.eraseIdx i).length = rows.length - 1 := by rw [List.length_eraseIdx]; simp [hi]
        rw [List.append_assoc, hF1t, el]
        exact List.take_left' el
      · have el : (rows.eraseIdx i).length = rows.length - 1 := by rw [List.length_eraseIdx]; simp [hi]
        rw [el]; simp; omega
    · exfalso
      simp only [List.length_drop] at hlt
      omega
end Go.Q

/- Indexes as values: buckets that can be read; buckets in a slice of one's own; buckets that are filled. -/
set_option linter.unusedVariables false
set_option linter.unusedSimpArgs false
namespace Go.Q
/-- a value whose numbers are numbers of 64 bits -/
structure V3.Rg (v : V3) : Prop where
  k0 : -9223372036854775808 ≤ v.k
  k1 : v.k < 9223372036854775808
  n0 : -9223372036854775808 ≤ v.n
  n1 : v.n < 9223372036854775808
theorem V3.Rg.wf {v : V3} (h : v.Rg) (hok : v.ok = true) : v.Wf := by
  refine ⟨h.k0, h.k1, h.n0, h.n1, ?_⟩
  unfold V3.ok at hok
  split at hok
  · simp at hok; rw [hok.2]; decide
  · split at hok
    · simp at hok; rw [hok]; decide
    · split at hok
      · simp at hok; omega
      · split at hok
        · simp at hok; rw [hok.2]; decide
        · cases hok
def cel (v : Value) : List Value := [v]
theorem hash_lt {bs : List (List E)} (h : 0 < bs.length) (v : V3) : hashV v % bs.length < bs.length := Nat.mod_lt _ h
theorem bktOf_eq {bs : List (List E)} (v : V3) (h : hashV v % bs.length < bs.length) : bktOf bs v = bs[hashV v % bs.length] := by
  unfold bktOf
  simp [List.getD, h]
def Ix (w : World) (o : Value) (bs : List (List E)) : Prop :=
  ∃ vs : List Value, Rd w o 1 (vs.map cel) ∧ vs.length = bs.length ∧ ∀ k (h : k < bs.length) v, vs[k]? = some v → Rd w v 4 (bs[k].map eC)
def IxO (w : World) (o : Value) (bs : List (List E)) (So X : List Nat) : Prop :=
  (∃ vs : List Value, RowsAt w o 1 (vs.map cel) So ∧ vs.length = bs.length ∧ ∀ k (h : k < bs.length) v, vs[k]? = some v → ∃ S, ArgAt w v 4 (bs[k].map eC) S ∧ ∀ x ∈ S, x ∉ So ∧ x ∉ X) ∧ ∀ x ∈ So, x ∉ X
section
variable {w0 w w' : World} {o : Value} {bs : List (List E)}
theorem Ix.keep (h : Ix w o bs) (hk : Kp [] w w') : Ix w' o bs := by
  obtain ⟨vs, h1, h2, h3⟩ := h
  exact ⟨vs, h1.keep hk, h2, fun k hlt v hv => (h3 k hlt v hv).keep hk⟩
theorem Ix.lenL (h : Ix w o bs) {K : Value → Prop} : lenL o K = K (.int .i64 bs.length) := by
  obtain ⟨vs, h1, h2, h3⟩ := h
  rw [h1.lenL, List.length_map, h2]
theorem Ix.one (h : Ix w o bs) : Q.one o = true := by
  obtain ⟨vs, h1, h2, h3⟩ := h
  obtain ⟨a, c, hv⟩ := h1.slice
  rw [hv]; rfl
/-- a row of one cell is read, now or later -/
theorem Rd.oneK {v : Value} {rows : List (List Value)} (h : Rd w v 1 rows) {i : Nat} (hi : i < rows.length) {x : Value} (hx : rows[i] = [x]) : ∃ p, (∀ kd K, ia 1 v (.int kd i) K = K p) ∧ ∀ w', Kp [] w w' → ∀ K : Value → Prop, ld1 p w' K = K x := by
  obtain ⟨bl, o, T, c, fr, h1, h2, h3, h4, h5⟩ := h.at hi
  refine ⟨_, h2, fun w' hk K => ?_⟩
  have := h5 0 (by omega)
  rw [hx, Nat.add_zero, List.getElem?_cons_zero] at this
  exact ldF (hk.get h1 (by simp)) this
theorem Ix.at (h : Ix w o bs) {k : Nat} (hk : k < bs.length) : ∃ p v, (∀ K, ia 1 o (.int .i64 k) K = K p) ∧ (∀ w', Kp [] w w' → ∀ K : Value → Prop, ld1 p w' K = K v) ∧ Rd w v 4 (bs[k].map eC) := by
  obtain ⟨vs, h1, h2, h3⟩ := h
  have hkv : k < (vs.map cel).length := by simpa [h2] using hk
  obtain ⟨p, g1, g2⟩ := h1.oneK (i := k) hkv (x := vs[k]) (by simp [cel])
  exact ⟨p, vs[k], fun K => g1 .i64 K, g2, h3 k hk _ (by simp [h2, hk])⟩
theorem IxO.ix {So X : List Nat} (h : IxO w o bs So X) : Ix w o bs := by
  obtain ⟨⟨vs, h1, h2, h3⟩, _⟩ := h
  refine ⟨vs, ⟨So, .inr h1.rd⟩, h2, fun k hlt v hv => ?_⟩
  obtain ⟨S, h4, _⟩ := h3 k hlt v hv
  exact ⟨S, h4⟩
theorem IxO.keepS {So X S : List Nat} (h : IxO w o bs So X) (hk : Kp S w w') (hS : ∀ x ∈ S, x ∈ X) : IxO w' o bs So X := by
  obtain ⟨⟨vs, h1, h2, h3⟩, h0⟩ := h
  refine ⟨⟨vs, h1.keep hk fun x hx hm => h0 x hx (hS x hm), h2, fun k hlt v hv => ?_⟩, h0⟩
  obtain ⟨S, h4, h5⟩ := h3 k hlt v hv
  exact ⟨S, h4.keep hk fun x hx hm => (h5 x hx).2 (hS x hm), h5⟩
theorem IxO.keep {So X : List Nat} (h : IxO w o bs So X) (hk : Kp [] w w') : IxO w' o bs So X := h.keepS hk (by simp)
theorem IxO.less {So X Y : List Nat} (h : IxO w o bs So X) (hY : ∀ y ∈ Y, y ∈ X) : IxO w o bs So Y := by
  obtain ⟨⟨vs, h1, h2, h3⟩, h0⟩ := h
  refine ⟨⟨vs, h1, h2, fun k hlt v hv => ?_⟩, fun x hx hm => h0 x hx (hY x hm)⟩
  obtain ⟨S, h4, h5⟩ := h3 k hlt v hv
  exact ⟨S, h4, fun x hx => ⟨(h5 x hx).1, fun hm => (h5 x hx).2 (hY x hm)⟩⟩
theorem cel_one {vs : List Value} (h : ∀ x ∈ vs, Q.one x = true) : ((vs.map cel).flatten).all Q.one = true := by
  rw [List.all_eq_true]
  intro x hx
  obtain ⟨r, hr, hxr⟩ := List.mem_flatten.1 hx
  obtain ⟨y, hy, rfl⟩ := List.mem_map.1 hr
  simp only [cel, List.mem_singleton] at hxr
  rw [hxr]; exact h y hy
theorem eC_one (b : List E) : ((b.map eC).flatten).all Q.one = true := by
  rw [List.all_eq_true]
  intro x hx
  obtain ⟨r, hr, hxr⟩ := List.mem_flatten.1 hx
  obtain ⟨y, _, rfl⟩ := List.mem_map.1 hr
  simp only [eC, valV, List.cons_append, List.nil_append, List.mem_cons, List.not_mem_nil, or_false] at hxr
  rcases hxr with rfl | rfl | rfl | rfl <;> rfl
theorem argLt {v : Value} {k : Nat} {rows : List (List Value)} {S : List Nat} (h : ArgAt w v k rows S) : ∃ S', ArgAt w v k rows S' ∧ ∀ x ∈ S', x ∈ S ∧ x < w.heap.size := by
  rcases h with h | h
  · exact ⟨[], .inl h, by simp⟩
  · rcases h with h | ⟨bl, o, cap, c, T, fr, h1, h2, h3, h4⟩
    · exact ⟨[], .inr (.inl h), by simp⟩
    · exact ⟨S, .inr (.inr ⟨bl, o, cap, c, T, fr, h1, h2, h3, h4⟩), fun x hx => ⟨hx, by rw [h2] at hx; simp at hx; rw [hx]; exact lt_of_blk h3⟩⟩
/-- an index whose blocks are none of these -/
def IxX (X : List Nat) (w : World) (o : Value) (bs : List (List E)) : Prop :=
  ∃ vs : List Value, (∃ So, ArgAt w o 1 (vs.map cel) So ∧ ∀ x ∈ So, x ∉ X) ∧ vs.length = bs.length ∧ ∀ k (h : k < bs.length) v, vs[k]? = some v → ∃ S, ArgAt w v 4 (bs[k].map eC) S ∧ ∀ x ∈ S, x ∉ X
theorem IxX.ix {X : List Nat} (h : IxX X w o bs) : Ix w o bs := by
  obtain ⟨vs, ⟨So, h1, _⟩, h2, h3⟩ := h
  refine ⟨vs, ⟨So, h1⟩, h2, fun k hlt v hv => ?_⟩
  obtain ⟨S, h4, _⟩ := h3 k hlt v hv
  exact ⟨S, h4⟩
theorem IxX.keepS {X S : List Nat} (h : IxX X w o bs) (hk : Kp S w w') (hS : ∀ x ∈ S, x ∈ X) : IxX X w' o bs := by
  obtain ⟨vs, ⟨So, h1, h0⟩, h2, h3⟩ := h
  refine ⟨vs, ⟨So, h1.keep hk fun x hx hm => h0 x hx (hS x hm), h0⟩, h2, fun k hlt v hv => ?_⟩
  obtain ⟨S, h4, h5⟩ := h3 k hlt v hv
  exact ⟨S, h4.keep hk fun x hx hm => h5 x hx (hS x hm), h5⟩
theorem IxX.keep {X : List Nat} (h : IxX X w o bs) (hk : Kp [] w w') : IxX X w' o bs := h.keepS hk (by simp)
theorem IxX.more {X Y : List Nat} (h : IxX X w o bs) (hY : ∀ y ∈ Y, y ∈ X ∨ w.heap.size ≤ y) : IxX Y w o bs := by
  obtain ⟨vs, ⟨So, h1, h0⟩, h2, h3⟩ := h
  obtain ⟨So', g1, g2⟩ := argLt h1
  refine ⟨vs, ⟨So', g1, fun x hx hm => ?_⟩, h2, fun k hlt v hv => ?_⟩
  · rcases hY x hm with hm | hm
    · exact h0 x (g2 x hx).1 hm
    · have := (g2 x hx).2; omega
  · obtain ⟨S, h4, h5⟩ := h3 k hlt v hv
    obtain ⟨S', g3, g4⟩ := argLt h4
    refine ⟨S', g3, fun x hx hm => ?_⟩
    rcases hY x hm with hm | hm
    · exact h5 x (g4 x hx).1 hm
    · have := (g4 x hx).2; omega
theorem IxO.ixX {So X : List Nat} (h : IxO w o bs So X) : IxX X w o bs := by
  obtain ⟨⟨vs, h1, h2, h3⟩, h0⟩ := h
  refine ⟨vs, ⟨So, .inr h1.rd, h0⟩, h2, fun k hlt v hv => ?_⟩
  obtain ⟨S, h4, h5⟩ := h3 k hlt v hv
  exact ⟨S, h4, fun x hx => (h5 x hx).2⟩
/-- a bucket of one's own is turned -/
theorem IxO.upd {So X : List Nat} (h : IxO w o bs So X) {k : Nat} (hk : k < bs.length) : ∃ p v, (∀ K, ia 1 o (.int .i64 k) K = K p) ∧ (∀ w1, Kp [] w w1 → ∀ K : Value → Prop, ld1 p w1 K = K v) ∧ Rd w v 4 (bs[k].map eC) ∧
    ∀ w2, Kp [] w w2 → ∀ v' b' S', ArgAt w2 v' 4 (b'.map eC) S' → Q.one v' = true → (∀ x ∈ S', x ∉ So ∧ x ∉ X) → ∀ K : World → Prop, (∀ w3, Kp So w2 w3 → IxO w3 o (bs.set k b') So X → K w3) → st1 p v' w2 K := by
  obtain ⟨⟨vs, h1, h2, h3⟩, h0⟩ := h
  have hkv : k < vs.length := by omega
  obtain ⟨bl, g1, g2, g3, g4⟩ := h1.updK (f := cel) hkv
  obtain ⟨S, g5, g6⟩ := h3 k hk vs[k] (by simp [hkv])
  refine ⟨_, vs[k], g2, fun w1 hk1 K => g3 w1 hk1 0 vs[k] rfl K, ⟨S, g5⟩, fun w2 hk2 v' b' S' hv' hone hS' K hK => ?_⟩
  refine g4 w2 hk2 0 (by omega) v' v' hone rfl K fun w3 hk3 hr => hK w3 hk3 ⟨⟨vs.set k v', hr, by simp [h2], fun j hj v hv => ?_⟩, h0⟩
  simp only [List.length_set] at hj
  by_cases he : k = j
  · subst he
    rw [List.getElem?_set_self hkv] at hv
    injection hv with hv
    subst hv
    refine ⟨S', ?_, hS'⟩
    rw [List.getElem_set_self]
    exact hv'.keep hk3 fun x hx => (hS' x hx).1
  · rw [List.getElem?_set_ne he] at hv
    obtain ⟨S2, q1, q2⟩ := h3 j hj v hv
    refine ⟨S2, ?_, q2⟩
    rw [List.getElem_set_ne he]
    exact (q1.keep hk2 (by simp)).keep hk3 fun x hx => (q2 x hx).1
/-! ### buckets that are filled -/
structure Gro (w0 w : World) (y : Nat) (o : Value) (bs : List (List E)) (So : List Nat) (B : Nat → List Nat) : Prop where
  ex : ∃ vs : List Value, RowsAt w o 1 (vs.map cel) So ∧ vs.length = bs.length ∧ ∀ k (h : k < bs.length) v, vs[k]? = some v → RowsAt w v 4 (bs[k].map eC) (B k)
  so : ∀ x ∈ So, w0.heap.size ≤ x ∧ x ≠ y
  b : ∀ k x, x ∈ B k → w0.heap.size ≤ x ∧ x < w.heap.size ∧ x ∉ So ∧ x ≠ y
  nd : ∀ j k x, j ≠ k → x ∈ B j → x ∉ B k
theorem Gro.keep {y : Nat} {So : List Nat} {B : Nat → List Nat} (h : Gro w0 w y o bs So B) (hk : Kp [] w w') : Gro w0 w' y o bs So B := by
  obtain ⟨⟨vs, h1, h2, h3⟩, h4, h5, h6⟩ := h
  exact ⟨⟨vs, h1.keep hk (by simp), h2, fun k hlt v hv => (h3 k hlt v hv).keep hk (by simp)⟩, h4, fun k x hx => by
    obtain ⟨a, b, c⟩ := h5 k x hx
    exact ⟨a, Nat.lt_of_lt_of_le b hk.size, c⟩, h6⟩
theorem Gro.keepS {y : Nat} {So S : List Nat} {B : Nat → List Nat} (h : Gro w0 w y o bs So B) (hk : Kp S w w') (hS : ∀ x ∈ S, x < w0.heap.size ∨ x = y) : Gro w0 w' y o bs So B := by
  obtain ⟨⟨vs, h1, h2, h3⟩, h4, h5, h6⟩ := h
  exact ⟨⟨vs, h1.keep hk fun x hx hm => by have := h4 x hx; have := hS x hm; omega, h2, fun k hlt v hv => (h3 k hlt v hv).keep hk fun x hx hm => by have := h5 k x hx; have := hS x hm; omega⟩, h4, fun k x hx => by
    obtain ⟨a, b, c⟩ := h5 k x hx
    exact ⟨a, Nat.lt_of_lt_of_le b hk.size, c⟩, h6⟩
theorem Gro.ixO {y : Nat} {So X : List Nat} {B : Nat → List Nat} (h : Gro w0 w y o bs So B) (hX : ∀ x ∈ X, x < w0.heap.size) : IxO w o bs So X := by
  obtain ⟨⟨vs, h1, h2, h3⟩, h4, h5, h6⟩ := h
  exact ⟨⟨vs, h1, h2, fun k hlt v hv => ⟨B k, .inr (h3 k hlt v hv).rd, fun x hx => ⟨(h5 k x hx).2.2.1, fun hm => by have := (h5 k x hx).1; have := hX x hm; omega⟩⟩⟩, fun x hx hm => by have := (h4 x hx).1; have := hX x hm; omega⟩
theorem Gro.push {e bytes : Nat} {z : List Value} {y : Nat} {So : List Nat} {B : Nat → List Nat} (h : Gro w0 w y o bs So B) (hy : y < w.heap.size) (hz : z.length = 4) (hb : bytes ≤ 64) {k : Nat} (hk : k < bs.length) : ∃ p v, (∀ K, ia 1 o (.int .i64 k) K = K p) ∧ (∀ w1, Kp [] w w1 → ∀ K : Value → Prop, ld1 p w1 K = K v) ∧
    ∀ w1, Kp [] w w1 → ∀ x a, Rd w1 x 4 [eC a] → bs[k].length < 2 ^ 30 → ∀ K : Value → World → Prop, (∀ v' w2 B', Kp (B k) w1 w2 → (∀ K2 : World → Prop, (∀ w3, Kp So w2 w3 → Gro w0 w3 y o (bs.set k (bs[k] ++ [a])) So B' → K2 w3) → st1 p v' w2 K2) → K v' w2) → app e 4 bytes z.toArray v x w1 K := by
  obtain ⟨⟨vs, h1, h2, h3⟩, h4, h5, h6⟩ := h
  have hkv : k < vs.length := by omega
  obtain ⟨bl, g1, g2, g3, g4⟩ := h1.updK (f := cel) hkv
  have g5 := h3 k hk vs[k] (by simp [hkv])
  refine ⟨_, vs[k], g2, fun w1 hk1 K => g3 w1 hk1 0 vs[k] rfl K, fun w1 hk1 x a hx hl K hK => ?_⟩
  have hs1 := hk1.size
  have hm : 2 * (bs[k].length + 1) * bytes ≤ 2 ^ 32 * 64 := Nat.mul_le_mul (by omega) hb
  refine rows_app (g5.keep hk1 (by simp)) (by omega) hz (G := [eC a]) (by simp [eC, valV]) (by simpa using eC_one [a]) (fun K' hK' => hx.src K' hK') (by simp; omega) (by simp; omega) fun v' w2 S' hr hk2 hS' => ?_
  have hs2 := hk2.size
  obtain ⟨va, vc, hva, _⟩ := hr.len
  have hone : Q.one v' = true := by rw [hva]; rfl
  have hS2 : ∀ q ∈ S', w0.heap.size ≤ q ∧ q ∉ So ∧ q ≠ y ∧ ∀ j, j ≠ k → q ∉ B j := by
    intro q hq
    rcases hS' q hq with hq | hq
    · obtain ⟨a1, a2, a3, a4⟩ := h5 k q hq
      exact ⟨a1, a3, a4, fun j hj => h6 k j q (fun h => hj h.symm) hq⟩
    · have hso := h1.lt
      refine ⟨?_, fun hm => by have := hso q hm; omega, by omega, fun j hj hm => by have := (h5 j q hm).2.1; omega⟩
      have := (h4 bl (by rw [g1]; simp)).1
      have := hso bl (by rw [g1]; simp)
      omega
  have hnS : ∀ q ∈ So, q ∉ B k := fun q hq hm => (h5 k q hm).2.2.1 hq
  have hso2 := (h1.keep hk1 (by simp)).keep hk2 hnS
  obtain ⟨bl', g1', g2', g3', g4'⟩ := hso2.updK (f := cel) hkv
  have hbl : bl' = bl := by rw [g1] at g1'; simpa using g1'.symm
  subst hbl
  refine hK v' w2 (fun j => if j = k then S' else B j) hk2 fun K2 hK2 => ?_
  refine g4' w2 (Kp.refl _ _) 0 (by omega) v' v' hone rfl K2 fun w3 hk3 hr3 => hK2 w3 hk3 ⟨⟨vs.set k v', hr3, by simp [h2], fun j hj v hv => ?_⟩, h4, fun j q hq => ?_, fun i j q hij hq => ?_⟩
  · simp only [List.length_set] at hj
    by_cases he : k = j
    · subst he
      rw [List.getElem?_set_self hkv] at hv
      injection hv with hv
      subst hv
      simp only [if_true]
      rw [List.getElem_set_self, List.map_append]
      exact hr.keep hk3 fun q hq => (hS2 q hq).2.1
    · rw [List.getElem?_set_ne he] at hv
      rw [List.getElem_set_ne he]
      have hjk : ¬ j = k := fun h => he h.symm
      simp only [if_neg hjk]
      exact (((h3 j hj v hv).keep hk1 (by simp)).keep hk2 fun q hq => h6 j k q hjk hq).keep hk3 fun q hq => (h5 j q hq).2.2.1
  · have hs3 := hk3.size
    by_cases hj : j = k
    · simp only [if_pos hj] at hq
      obtain ⟨a1, a2, a3, a4⟩ := hS2 q hq
      have := hr.lt q hq
      exact ⟨a1, by omega, a2, a3⟩
    · simp only [if_neg hj] at hq
      obtain ⟨a1, a2, a3, a4⟩ := h5 j q hq
      exact ⟨a1, by omega, a3, a4⟩
  · by_cases hi : i = k
    · have hj : ¬ j = k := fun h => hij (hi.trans h.symm)
      simp only [if_pos hi] at hq
      simp only [if_neg hj]
      exact (hS2 q hq).2.2.2 j hj
    · simp only [if_neg hi] at hq
      by_cases hj : j = k
      · simp only [if_pos hj]
        intro hm
        exact (hS2 q hm).2.2.2 i hi hq
      · simp only [if_neg hj]
        exact h6 i j q hij hq
/-- new buckets -/
theorem gro_new {e n : Nat} {y : Nat} {z : Array Value} (hz : z = #[.slice none 0 0]) (hy : y ≠ w.heap.size) : Gro w (w.alloc (.cells (rep z (n * 1)) e)) y (.slice (some ⟨w.heap.size, 0, none⟩) n n) (List.replicate n []) [w.heap.size] fun _ => [] := by
  subst hz
  refine ⟨⟨List.replicate n (.slice none 0 0), .inr ⟨w.heap.size, List.replicate n [.slice none 0 0], e, by simp, rfl, ?_, ?_, ?_, by simp⟩, by simp, fun k h v hv => ?_⟩, by simp [Ne.symm hy], by simp, by simp⟩
  · rw [heap_new, ← rep_rows (k := 1) (z := [.slice none 0 0]) (by omega) rfl n]
  · intro x hx
    rw [List.mem_replicate] at hx
    rw [hx.2]; rfl
  · simp [cel]
  · refine .inl ⟨?_, by simp, rfl⟩
    simp only [List.getElem?_replicate] at hv
    split at hv
    · injection hv with hv; exact hv.symm
    · cases hv
end
end Go.Q

/- Layer 10: a value's number, its bucket, where a number stands; copies; one taken out. -/
set_option maxRecDepth 100000
set_option linter.unusedVariables false
set_option linter.unusedSimpArgs false
namespace Go.Proofs
open Go Go.Q
def valA (v : V3) : Value := .agg (valV v).toArray
theorem bytes_len (v : V3) : v.bytes.length ≤ 10 + v.s.length := by
  unfold V3.bytes
  split
  · simp [be8_len]; omega
  · split
    · simp; omega
    · split <;> simp <;> omega
theorem Hash_spec {w : World} (v : V3) (hw : v.Rg) {K : Value → World → Prop} (hK : ∀ w', Kp [] w w' → K (.int .i64 (hashV v)) w') : callG Try.prog 28 #[valA v] w K := by
  refine value_Hash_call ?_
  unfold value_Hash value_Hash_s0 valA
  refine argB fun b w1 hb hh hk => ?_
  rw [ldA (k := 3) hh rfl]
  refine Check_spec v fun w2 hk2 => ?_
  simp only [bq_neq, bV_b]
  have h2 := hk2.get hh (by simp)
  by_cases hok : v.ok = true
  · refine ⟨fun h => by simp [hok] at h, fun _ => ?_⟩
    rw [ldA (k := 3) h2 rfl]
    refine bytes_spec v (hw.wf hok) fun w3 hk3 => ?_
    have := bytes_len v
    have := (hw.wf hok).s
    refine Sum_spec v.bytes (by omega) ?_
    have := hK w3 ((hk.trans' hk2).trans' hk3)
    unfold hashV at this
    rw [if_pos hok] at this
    exact this
  · refine ⟨fun _ => ?_, fun h => by simp [hok] at h⟩
    have := hK w2 (hk.trans' hk2)
    unfold hashV at this
    rw [if_neg hok] at this
    exact this
theorem bucket_spec {w : World} {o : Value} {n : Int} {B : Nat} (hl : ∀ K : Value → Prop, lenL o K = K (.int .i64 B)) (hB : 0 < B) (v : V3) (hw : v.Rg) {K : Value → World → Prop} (hK : ∀ w', Kp [] w w' → K (.int .i64 (hashV v % B : Nat)) w') :
    callG Try.prog 18 #[.agg #[o, .int .i64 n], valA v] w K := by
  refine hash_Index_bucket_call ?_
  unfold hash_Index_bucket hash_Index_bucket_s0 valA
  refine argB fun x w1 hx1 hh1 hk1 => ?_
  refine argB fun y w2 hx2 hh2 hk2 => ?_
  have h1 := hk2.get hh1 (by simp)
  have h2d : w2.drew.heap[y]? = some (.cells (valV v).toArray 24) := hh2
  have h1d : w2.drew.heap[x]? = some (.cells #[o, .int .i64 n] 27) := h1
  rw [ldA (k := 3) h2d rfl, fa_p, ldF (x := o) h1d rfl, hl]
  refine Hash_spec v hw fun w3 hk3 => ?_
  have h3 := hk3.get h1d (by simp)
  rw [ldF (x := o) h3 rfl]
  refine ⟨rfl, ?_⟩
  rw [rem_of (by omega) (by omega)]
  exact hK w3 (((hk1.trans' hk2).trans' kp_drew).trans' hk3)
theorem eqEnt {a b n a' b' n' : Int} {s s' : ByteArray} : nestEq Try.prog 52 [.int .i64 a, .int .i64 b, .string s, .int .i64 n] [.int .i64 a', .int .i64 b', .string s', .int .i64 n'] = true := by kernel_rfl
theorem eC_inj (a b : E) : eqC (eC a) (eC b) = decide (a = b) := by
  obtain ⟨⟨k, n, s⟩, m⟩ := a
  obtain ⟨⟨k', n', s'⟩, m'⟩ := b
  simp only [eC, valV, List.cons_append, List.nil_append, eqC_cons, eqC_nil, eqV_int, eqV_str, str_eq, E.mk.injEq, V3.mk.injEq]
  simp [Bool.decide_and, Bool.and_assoc]
theorem bq_ent {xo yo : Operand} {w : World} (a b : E) {K : Value → Prop} : qG Try.prog (bq .eql 52 xo yo (.agg (eC a).toArray) (.agg (eC b).toArray)) w K = K (.bool (decide (a = b))) := by
  rw [bq_nesteql (by exact eqEnt), eC_inj]
theorem Index_spec {w : World} {v : Value} {b : List E} (hr : Rd w v 4 (b.map eC)) (hl : b.length < 2 ^ 40) (e : E) {K : Value → World → Prop}
    (hK1 : ∀ i w', Kp [] w w' → ∀ h : i < b.length, b[i] = e → K (.int .i64 (i : Nat)) w') (hK2 : ∀ w', Kp [] w w' → e ∉ b → K (.int .i64 (-1)) w') :
    callG Try.prog 32 #[v, .agg (eC e).toArray] w K := by
  refine slices_Index_hash_entry_hash_entry_call ?_
  unfold slices_Index_hash_entry_hash_entry slices_Index_hash_entry_hash_entry_s4
  refine argB fun p w1 hp hh hk1 => ?_
  unfold slices_Index_hash_entry_hash_entry_s3 slices_Index_hash_entry_hash_entry_L2
  rw [hr.lenL, List.length_map]
  refine loop_inv (fun m xs wi => ∃ i, i ≤ b.length ∧ m = b.length - i ∧ xs = [v, .pointer (some ⟨p, 0, none⟩), .int .i64 b.length, .int .i64 (i : Nat)] ∧ Kp [] w1 wi ∧ ∀ j (hj : j < b.length), j < i → b[j] ≠ e) ?_ (m := b.length) ⟨0, by omega, rfl, rfl, Kp.refl _ _, fun j _ h => by omega⟩
  rintro m N xs wi ⟨i, hi, rfl, rfl, hk, hno⟩ hN
  have hiw : IntKind.i64.wrap ((i : Int) + 1) = ((i + 1 : Nat) : Int) := by rw [w64 (by omega) (by omega)]; simp
  unfold slices_Index_hash_entry_hash_entry_L2F slices_Index_hash_entry_hash_entry_b1
  dsimp only
  simp only [bq_lss, bV_b, decide_eq_true_eq, decide_eq_false_iff_not]
  refine ⟨fun hlt => ?_, fun hge => ?_⟩
  · have hlt : i < b.length := by omega
    have hkd : Kp [] w1 wi.drew := hk.drew
    obtain ⟨q, q1, q2, q3⟩ := ((hr.keep hk1).keep hkd).get (i := i) (by simpa using hlt)
    have hb : (b.map eC)[i]'(by simpa using hlt) = eC b[i] := by simp
    rw [hb] at q2
    rw [ldA (k := 4) (hkd.get hh (by simp)) rfl, q1, q2, bq_ent]
    simp only [bV_b, decide_eq_true_eq, decide_eq_false_iff_not, bq_add, hiw]
    refine ⟨fun he => hK1 i _ (hk1.trans' hkd) hlt he.symm, fun hne => ?_⟩
    refine hN (b.length - (i + 1)) _ _ (by omega) ⟨i + 1, by omega, rfl, rfl, hkd, fun j hj hji => ?_⟩
    by_cases hj2 : j = i
    · subst hj2; exact fun h => hne h.symm
    · exact hno j hj (by omega)
  · unfold slices_Index_hash_entry_hash_entry_s0
    have hie : i = b.length := by omega
    refine hK2 _ (hk1.trans' hk) fun hm => ?_
    obtain ⟨j, hj, he⟩ := List.getElem_of_mem hm
    exact hno j hj (by omega) he
theorem zcEnt : zc Try.prog 52 = [.int .i64 0, .int .i64 0, .string (str []), .int .i64 0].toArray := by kernel_rfl
theorem bld_ent (v : V3) (n : Int) {K : Value → Prop} : bld [(0, 3), (3, 1)] (zc Try.prog 52) #[(0, valA v), (1, .int .i64 n)] K = K (.agg (eC ⟨v, n⟩).toArray) := by
  rw [zcEnt]
  rfl
theorem where_spec {w : World} {o : Value} {n0 : Int} {bs : List (List E)} (h : Ix w o bs) (hl : ∀ b ∈ bs, b.length < 2 ^ 40) (v : V3) (hw : v.Rg) (n : Int) {K : Value → World → Prop}
    (hK1 : ∀ i w', Kp [] w w' → ∀ hi : i < (bktOf bs v).length, (bktOf bs v)[i] = ⟨v, n⟩ → K (.int .i64 (i : Nat)) w') (hK2 : ∀ w', Kp [] w w' → (⟨v, n⟩ : E) ∉ bktOf bs v → K (.int .i64 (-1)) w') :
    callG Try.prog 23 #[.agg #[o, .int .i64 n0], valA v, .int .i64 n] w K := by
  refine hash_Index_where_call ?_
  unfold hash_Index_where hash_Index_where_s0
  refine argB fun x w1 hx1 hh1 hk1 => ?_
  have e0 : ∀ (k : Value → World → Prop), newG (Value.cells (valA v)) 24 w1 k = newG (Value.cells (.agg (valV v).toArray)) 24 w1 k := fun _ => rfl
  rw [e0]
  refine argB fun y w2 hx2 hh2 hk2 => ?_
  have h1 := hk2.get hh1 (by simp)
  have hk02 := hk1.trans' hk2
  rw [fa_p, ldF (x := o) h1 rfl, h.lenL]
  simp only [bq_eql, bV_b, decide_eq_true_eq, decide_eq_false_iff_not]
  refine ⟨fun h0 => ?_, fun h0 => ?_⟩
  · refine hK2 w2 hk02 ?_
    have : bs = [] := List.length_eq_zero_iff.1 (by omega)
    subst this
    simp [bktOf]
  · have hpos : 0 < bs.length := by omega
    have hlt := hash_lt hpos v
    have h2d : w2.drew.heap[y]? = some (.cells (valV v).toArray 24) := hh2
    have h1d : w2.drew.heap[x]? = some (.cells #[o, .int .i64 n0] 27) := h1
    have e1 : ∀ K : Value → Prop, ldn 3 (.pointer (some ⟨y, 0, none⟩)) w2.drew K = K (valA v) := fun K => ldA h2d rfl
    rw [fa_p, ldF (x := o) h1d rfl, ldA (k := 2) h1d rfl, e1, e1, bld_ent]
    refine bucket_spec (fun K => h.lenL) hpos v hw fun w3 hk3 => ?_
    have hk03 : Kp [] w w3 := (hk02.trans' kp_drew).trans' hk3
    have e3 : ∀ K : Value → Prop, ldn 3 (.pointer (some ⟨y, 0, none⟩)) w3 K = K (valA v) := fun K => ldA (hk3.get h2d (by simp)) rfl
    rw [e3, ldF (x := o) (hk3.get h1d (by simp)) rfl]
    refine ⟨rfl, rfl, ?_⟩
    obtain ⟨p, bv, q1, q2, q3⟩ := (h.keep hk03).at hlt
    rw [q1, q2 _ (Kp.refl _ _)]
    rw [← bktOf_eq v hlt] at q3
    refine Index_spec q3 (by rw [bktOf_eq v hlt]; exact hl _ (List.getElem_mem hlt)) ⟨v, n⟩ (fun i w' hk' hi he => hK1 i w' (hk03.trans' hk') hi he) (fun w' hk' hne => hK2 w' (hk03.trans' hk') hne)
theorem cloneO_spec {w0 w : World} {o : Value} {bs : List (List E)} {Xg X : List Nat} (h : IxX Xg w0 o bs) (hk0 : Kp [] w0 w) (hX : ∀ x ∈ X, (x ∈ Xg ∨ w0.heap.size ≤ x) ∧ x < w.heap.size) (hl : bs.length < 2 ^ 30) {K : Value → World → Prop} (hK : ∀ o' w' So, Kp [] w w' → IxO w' o' bs So X → (∀ x ∈ So, w.heap.size ≤ x) → K o' w') :
    callG Try.prog 24 #[o] w K := by
  refine slices_Clone_hash_entry_hash_entry_call ?_
  unfold slices_Clone_hash_entry_hash_entry slices_Clone_hash_entry_hash_entry_s0
  obtain ⟨vs, ⟨S0, h1, _⟩, h2, h3⟩ := h.more (Y := X) fun x hx => (hX x hx).1
  have hone : ∀ x ∈ vs, Q.one x = true := by
    intro x hx
    obtain ⟨k, hk, rfl⟩ := List.getElem_of_mem hx
    obtain ⟨S, hS, _⟩ := h3 k (by omega) vs[k] (by simp [hk])
    obtain ⟨a, c, hv⟩ := Rd.slice ⟨S, hS⟩
    rw [hv]; rfl
  refine clone_gen (k := 1) (bytes := 24) (z := [.slice none 0 0]) (by kernel_rfl) (by kernel_rfl) rfl (by omega) (Rd.keep ⟨S0, h1⟩ hk0) (cel_one hone) (by simp [h2]; omega) (by simp [h2]; omega) fun o' w' hf => ?_
  obtain ⟨So, g1, g2⟩ := hf.ex
  have hs0 := hk0.size
  refine hK o' w' So hf.kp ⟨⟨vs, g1, h2, fun k hlt v hv => ?_⟩, fun x hx hm => by have := g2 x hx; have := hX x hm; omega⟩ g2
  obtain ⟨S, q1, q2⟩ := h3 k hlt v hv
  obtain ⟨S', q3, q4⟩ := argLt q1
  exact ⟨S', (q3.keep hk0 (by simp)).keep hf.kp (by simp), fun x hx => ⟨fun hm => by have := q4 x hx; have := g2 x hm; omega, q2 x (q4 x hx).1⟩⟩
theorem cloneE_spec {w : World} {v : Value} {b : List E} (h : Rd w v 4 (b.map eC)) (hl : b.length < 2 ^ 30) {K : Value → World → Prop} (hK : ∀ v' w', Fr w w' v' 4 (b.map eC) → K v' w') :
    callG Try.prog 26 #[v] w K := by
  refine slices_Clone_hash_entry_hash_entry_26_call ?_
  unfold slices_Clone_hash_entry_hash_entry_26 slices_Clone_hash_entry_hash_entry_26_s0
  exact clone_gen (k := 4) (bytes := 40) (by kernel_rfl) zcEnt rfl (by omega) h (eC_one b) (by simp; omega) (by simp; omega) hK
theorem map_erase {α β : Type} (f : α → β) : ∀ (l : List α) (i : Nat), (l.map f).eraseIdx i = (l.eraseIdx i).map f := by
  intro l
  induction l with
  | nil => intro i; rfl
  | cons x l ih => intro i; cases i with
    | zero => rfl
    | succ i => simp only [List.map_cons, List.eraseIdx_cons_succ, ih]
theorem Delete_spec {w0 w : World} {v : Value} {b : List E} (h : Fr w0 w v 4 (b.map eC)) {i : Nat} (hi : i < b.length) {K : Value → World → Prop} (hK : ∀ v' w', Fr w0 w' v' 4 ((b.eraseIdx i).map eC) → K v' w') :
    callG Try.prog 27 #[v, .int .i64 (i : Nat), .int .i64 ((i + 1 : Nat) : Int)] w K := by
  refine slices_Delete_hash_entry_hash_entry_call ?_
  unfold slices_Delete_hash_entry_hash_entry slices_Delete_hash_entry_hash_entry_s0
  refine del_gen (k := 4) (by kernel_rfl) (by kernel_rfl) zcEnt rfl (by omega) (by rfl) h (eC_one b) (by simpa using hi) fun v' w' hf => hK v' w' ?_
  rw [map_erase] at hf
  exact hf
end Go.Proofs

/- Layer 10: as many buckets as are asked for. -/
set_option maxRecDepth 100000
set_option linter.unusedVariables false
set_option linter.unusedSimpArgs false
namespace Go.Proofs
open Go Go.Q
def pushAll (B : Nat) (l : List E) : List (List E) := l.foldl (fun acc e => pushB acc (hashV e.v % B) e) (List.replicate B [])
theorem pushAll_len (B : Nat) (l : List E) : (pushAll B l).length = B := by
  unfold pushAll
  have : ∀ (l : List E) (acc : List (List E)), (l.foldl (fun acc e => pushB acc (hashV e.v % B) e) acc).length = acc.length := by
    intro l
    induction l with
    | nil => intro acc; rfl
    | cons e r ih => intro acc; rw [List.foldl_cons, ih, pushB_len]
  rw [this]; simp
theorem pushAll_snoc (B : Nat) (l : List E) (e : E) : pushAll B (l ++ [e]) = pushB (pushAll B l) (hashV e.v % B) e := by
  unfold pushAll; rw [List.foldl_append]; rfl
theorem mem_flat_len : ∀ {bs : List (List E)} {b : List E}, b ∈ bs → b.length ≤ bs.flatten.length := by
  intro bs
  induction bs with
  | nil => intro b h; cases h
  | cons c r ih =>
    intro b h
    rw [List.flatten_cons, List.length_append]
    rcases List.mem_cons.1 h with rfl | h
    · omega
    · have := ih h; omega
theorem pushAll_small {B : Nat} (hB : 0 < B) (l : List E) {k : Nat} (hk : k < (pushAll B l).length) : (pushAll B l)[k].length ≤ l.length := by
  obtain ⟨_, _, h3⟩ := fold_push B hB l (List.replicate B []) (by simp) (by intro k hk e he; simp at he)
  have h4 := h3.length_eq
  have := mem_flat_len (List.getElem_mem hk)
  have e : pushAll B l = l.foldl (fun acc e => pushB acc (hashV e.v % B) e) (List.replicate B []) := rfl
  rw [← e] at h4
  simp at h4
  simp at this
  omega
structure GSt (wb w0 : World) (x4 x5 : Nat) (oo : Value) (n : Int) (B : Nat) (So : List Nat) (l : List E) (w : World) : Prop where
  kp : Kp [] wb w
  gro : ∃ Bf, Gro w0 w x5 oo (pushAll B l) So Bf
  box : w.heap[x5]? = some (.cells #[oo, .int .i64 n] 27)
  res : ∃ c, c.size = 2 ∧ w.heap[x4]? = some (.cells c 27)
structure GFix (wb w0 : World) (x4 x5 : Nat) : Prop where
  a : wb.heap.size ≤ w0.heap.size
  b : x4 < w0.heap.size
  c : wb.heap.size ≤ x4
  d : wb.heap.size ≤ x5
theorem GSt.keep {wb w0 w w' : World} {x4 x5 : Nat} {oo : Value} {n : Int} {B : Nat} {So : List Nat} {l : List E} (h : GSt wb w0 x4 x5 oo n B So l w) (hk : Kp [] w w') : GSt wb w0 x4 x5 oo n B So l w' := by
  obtain ⟨h1, ⟨Bf, h2⟩, h3, c, h4, h5⟩ := h
  exact ⟨h1.trans' hk, ⟨Bf, h2.keep hk⟩, hk.get h3 (by simp), c, h4, hk.get h5 (by simp)⟩
theorem zcIx : zc Try.prog 27 = #[.slice none 0 0, .int .i64 0] := by kernel_rfl
theorem ent_val (e : E) : (eC e).toArray.extract 0 (0 + 3) = (valV e.v).toArray := rfl
section
variable {wb w0 w : World} {x4 x5 : Nat} {oo o : Value} {n : Int} {B : Nat} {So : List Nat} {l : List E} {bs : List (List E)} {R : Value → World → Prop} {N1 : List Value → World → Prop} {N2 : List Value → World → Prop}
theorem grown_one (hf : GFix wb w0 x4 x5) (h : GSt wb w0 x4 x5 oo n B So l w) (hB : 0 < B) (e : E) (he : e.v.Rg) (hl : l.length < 2 ^ 30) {x17 x18 x19 xb : Value} {len j : Nat} (hj : j < len) (hlen : len < 2 ^ 40) (hp : ∃ p, (∀ K, ia 4 xb (.int .i64 j) K = K p) ∧ (∀ K : Value → Prop, ldn 4 p w K = K (.agg (eC e).toArray)))
    (hN : ∀ w', GSt wb w0 x4 x5 oo n B So (l ++ [e]) w' → N2 [.pointer (some ⟨x4, 0, none⟩), .pointer (some ⟨x5, 0, none⟩), x17, x18, x19, xb, .int .i64 len, .int .i64 ((j + 1 : Nat) : Int)] w') :
    hash_Index_grown_b2 R N1 N2 (.pointer (some ⟨x4, 0, none⟩)) (.pointer (some ⟨x5, 0, none⟩)) x17 x18 x19 xb (.int .i64 len) (.int .i64 j) w := by
  obtain ⟨p, hp1, hp2⟩ := hp
  have hjw : IntKind.i64.wrap ((j : Int) + 1) = ((j + 1 : Nat) : Int) := by rw [w64 (by omega) (by omega)]; simp
  unfold hash_Index_grown_b2
  simp only [bq_lss, bV_b]
  refine ⟨fun _ => ?_, fun hh => by simp at hh; omega⟩
  rw [hp1, hp2]
  refine newB fun x9 w1 hx9 hh9 hk1 => ?_
  rw [stA (k := 4) hh9 (by rw [zcEnt]; rfl) rfl (by simp [eC, valV])]
  obtain ⟨w2, hw2⟩ : ∃ w2, w2 = setBlk w1 x9 (.cells (eC e).toArray 52) := ⟨_, rfl⟩
  have h9 : w2.heap[x9]? = some (.cells (eC e).toArray 52) := by rw [hw2]; exact heap_self (live_of hh9)
  have hk02 : Kp [] w w2 := by rw [hw2]; exact hk1.setBlk (.inr hx9) _
  rw [← hw2]
  have g2 := h.keep hk02
  rw [ldA (k := 2) g2.box rfl, fa_p, ldP (k := 3) h9 (ent_val e) (by simp [eC, valV])]
  have hlB : ∀ K : Value → Prop, lenL oo K = K (.int .i64 B) := by
    intro K
    obtain ⟨Bf, hg⟩ := g2.gro
    rw [(hg.ixO (X := []) (by simp)).ix.lenL, pushAll_len]
  refine bucket_spec hlB hB e.v he fun w3 hk3 => ?_
  have g3 := g2.keep hk3
  have h93 := hk3.get h9 (by simp)
  have g3d := g3.keep (kp_drew (w := w3))
  have h93d := (kp_drew (w := w3)).get h93 (by simp)
  obtain ⟨Bf, hg⟩ := g3d.gro
  have hkB : hashV e.v % B < (pushAll B l).length := by rw [pushAll_len]; exact Nat.mod_lt _ hB
  have hx5 : x5 < w3.drew.heap.size := lt_of_blk g3d.box
  obtain ⟨q, v, q1, q2, q3⟩ := hg.push (e := 52) (bytes := 40) (z := [.int .i64 0, .int .i64 0, .string (str []), .int .i64 0]) hx5 rfl (by omega) hkB
  have b3 : ∀ K : Value → Prop, ld1 (.pointer (some ⟨x5, 0 + 0, none⟩)) w3.drew K = K oo := fun K => ldF (x := oo) g3d.box rfl
  rw [fa_p, b3, fa_p, b3, q1, q2 _ (Kp.refl _ _), ldA (k := 4) h93d rfl]
  refine bsl_rowN (n := 4) (cs := eC e) (by omega) rfl rfl fun xv w4 hfr => ?_
  have hk4 := hfr.kp
  have g4 := g3d.keep hk4
  have b4 : ∀ K : Value → Prop, ld1 (.pointer (some ⟨x5, 0 + 0, none⟩)) w4 K = K oo := fun K => ldF (x := oo) g4.box rfl
  rw [q2 _ hk4, b4]
  refine ⟨rfl, rfl, rfl, ?_⟩
  rw [zcEnt]
  have hsm := pushAll_small hB l hkB
  refine q3 w4 hk4 xv e hfr.rd (by omega) _ fun v' w5 B' hk5 hst => ?_
  have hx5n : x5 ∉ Bf (hashV e.v % B) := fun hm => (hg.b _ _ hm).2.2.2 rfl
  have b5 : w5.heap[x5]? = some (.cells #[oo, .int .i64 n] 27) := hk5.get g4.box hx5n
  rw [ldF (x := oo) b5 rfl, q1]
  refine ⟨rfl, ?_⟩
  refine hst _ fun w6 hk6 hgr => ?_
  simp only [bq_add, hjw]
  have hkb5 : Kp [] wb w5 := g4.kp.trans hk5 fun b hb hlt => by
    have := (hg.b _ _ hb).1
    have := hf.a
    omega
  have hkb6 : Kp [] wb w6 := hkb5.trans hk6 fun b hb hlt => by
    have := (hg.so _ hb).1
    have := hf.a
    omega
  obtain ⟨c, hc1, hc2⟩ := g4.res
  refine hN w6 ⟨hkb6, ⟨B', ?_⟩, hk6.get b5 fun hm => (hg.so _ hm).2 rfl, c, hc1, hk6.get (hk5.get hc2 fun hm => by have := (hg.b _ _ hm).1; have := hf.b; omega) fun hm => by have := (hg.so _ hm).1; have := hf.b; omega⟩
  rw [pushAll_snoc]
  have hpb : pushB (pushAll B l) (hashV e.v % B) e = (pushAll B l).set (hashV e.v % B) ((pushAll B l)[hashV e.v % B] ++ [e]) := by
    unfold pushB
    simp [List.getD, hkB]
  rw [hpb]
  exact hgr
theorem grown_loop (hf : GFix wb w0 x4 x5) (h : GSt wb w0 x4 x5 oo n B So [] w) (hB : 0 < B) (hx : Ix wb o bs) (hwf : ∀ b ∈ bs, ∀ e ∈ b, e.v.Rg) (hl : bs.flatten.length < 2 ^ 30) (hbl : bs.length < 2 ^ 30)
    {X : List Nat} (hX : ∀ x ∈ X, x < w0.heap.size) (hR : ∀ w', Kp [] wb w' → IxO w' oo (growL bs B) So X → R (.agg #[oo, .int .i64 n]) w') :
    hash_Index_grown_L6 R (.pointer (some ⟨x4, 0, none⟩)) (.pointer (some ⟨x5, 0, none⟩)) o (.int .i64 bs.length) (.int .i64 0) w := by
  unfold hash_Index_grown_L6
  refine loop_inv (fun m xs wi => ∃ i, i ≤ bs.length ∧ m = bs.length - i ∧ xs = [.pointer (some ⟨x4, 0, none⟩), .pointer (some ⟨x5, 0, none⟩), o, .int .i64 bs.length, .int .i64 (i : Nat)] ∧ GSt wb w0 x4 x5 oo n B So (bs.take i).flatten wi) ?_ (m := bs.length) ⟨0, by omega, rfl, rfl, by simpa using h⟩
  rintro m N xs wi ⟨i, hi, rfl, rfl, hg⟩ hN
  have hiw : IntKind.i64.wrap ((i : Int) + 1) = ((i + 1 : Nat) : Int) := by rw [w64 (by omega) (by omega)]; simp
  unfold hash_Index_grown_L6F hash_Index_grown_s5
  dsimp only
  simp only [bq_lss, bV_b, decide_eq_true_eq, decide_eq_false_iff_not]
  refine ⟨fun hlt => ?_, fun hge => ?_⟩
  · have hlt : i < bs.length := by omega
    unfold hash_Index_grown_s4
    obtain ⟨p, v, p1, p2, p3⟩ := hx.at hlt
    rw [p1, p2 _ hg.kp, p3.lenL, List.length_map]
    have hfl : (bs.take (i + 1)).flatten = (bs.take i).flatten ++ bs[i] := by
      rw [List.take_succ_eq_append_getElem hlt, List.flatten_append]; simp
    have hle : (bs.take i).flatten.length + bs[i].length ≤ bs.flatten.length := by
      have : bs.flatten = (bs.take (i + 1)).flatten ++ (bs.drop (i + 1)).flatten := by rw [← List.flatten_append, List.take_append_drop]
      rw [this, hfl]; simp
    unfold hash_Index_grown_L3
    refine loop_inv (fun m xs wj => ∃ j, j ≤ bs[i].length ∧ m = bs[i].length - j ∧ xs = [.pointer (some ⟨x4, 0, none⟩), .pointer (some ⟨x5, 0, none⟩), o, .int .i64 bs.length, .int .i64 (i : Nat), v, .int .i64 bs[i].length, .int .i64 (j : Nat)] ∧ GSt wb w0 x4 x5 oo n B So ((bs.take i).flatten ++ bs[i].take j) wj) ?_ (m := bs[i].length) ⟨0, by omega, rfl, rfl, by simpa using hg⟩
    rintro m N2 xs wj ⟨j, hj, rfl, rfl, hgj⟩ hN2
    unfold hash_Index_grown_L3F
    dsimp only
    by_cases hjl : j < bs[i].length
    · obtain ⟨q, q1, q2, _⟩ := (p3.keep hgj.kp).get (i := j) (by simpa using hjl)
      have hb : (bs[i].map eC)[j]'(by simpa using hjl) = eC bs[i][j] := by simp
      rw [hb] at q2
      refine grown_one hf hgj hB bs[i][j] (hwf _ (List.getElem_mem hlt) _ (List.getElem_mem hjl)) (by rw [List.length_append, List.length_take]; omega) hjl (by omega) ⟨q, fun K => q1 .i64 K, q2⟩ fun w' hg' => ?_
      refine hN2 (bs[i].length - (j + 1)) _ _ (by omega) ⟨j + 1, by omega, rfl, rfl, ?_⟩
      rw [List.take_succ_eq_append_getElem hjl, ← List.append_assoc]; exact hg'
    · have hje : j = bs[i].length := by omega
      subst hje
      unfold hash_Index_grown_b2 hash_Index_grown_s1
      simp only [bq_lss, bV_b]
      refine ⟨fun hh => by simp at hh, fun _ => ?_⟩
      simp only [bq_add, hiw]
      refine hN (bs.length - (i + 1)) _ _ (by omega) ⟨i + 1, by omega, rfl, rfl, ?_⟩
      rw [hfl]
      simpa using hgj
  · have hie : i = bs.length := by omega
    subst hie
    unfold hash_Index_grown_s0
    rw [List.take_length] at hg
    obtain ⟨c, hc1, hc2⟩ := hg.res
    obtain ⟨Bf, hgr⟩ := hg.gro
    have hix := hgr.ixO (X := []) (by simp)
    rw [ldA (k := 2) hg.box rfl]
    refine retB (by kernel_rfl) (by kernel_rfl) hc2 hc1 rfl (by simp [hix.ix.one]) fun w' hk' => ?_
    refine hR w' (hg.kp.trans hk' fun b hb hlt => by simp at hb; have := hf.c; omega) ?_
    exact (hgr.keepS hk' fun x hx => by simp at hx; exact .inl (by rw [hx]; exact hf.b)).ixO hX
theorem bld_ix {o : Value} {n : Int} (ho : Q.one o = true) {K : Value → Prop} : bld [(0, 1), (1, 1)] (zc Try.prog 27) #[(0, o), (1, .int .i64 n)] K = K (.agg #[o, .int .i64 n]) := by
  rw [show zc Try.prog 27 = [.slice none 0 0, .int .i64 0].toArray by kernel_rfl]
  have e : (#[(0, o), (1, .int .i64 n)] : Array (Nat × Value)) = ((0, o) :: [(1, .int .i64 n)]).toArray := rfl
  rw [e, bld_at ho rfl, bld_at rfl rfl, bld_done]
  rfl
theorem grown_spec {w : World} (hx : Ix w o bs) (hB : 0 < B) (hB2 : B < 2 ^ 30) (hwf : ∀ b ∈ bs, ∀ e ∈ b, e.v.Rg) (hl : bs.flatten.length < 2 ^ 30) (hbl : bs.length < 2 ^ 30)
    {X : List Nat} (hX : ∀ x ∈ X, x < w.heap.size) (hR : ∀ oo w' So, Kp [] w w' → IxO w' oo (growL bs B) So X → (∀ x ∈ So, w.heap.size ≤ x) → R (.agg #[oo, .int .i64 n]) w') :
    callG Try.prog 25 #[.agg #[o, .int .i64 n], .int .i64 B] w R := by
  refine hash_Index_grown_call ?_
  unfold hash_Index_grown hash_Index_grown_s8
  refine argB fun x2 w1 hx2 hh2 hk1 => ?_
  refine newB fun x4 w2 hx4 hh4 hk2 => ?_
  have hk02 := hk1.trans' hk2
  have h2 := hk2.get hh2 (by simp)
  have hs1 := hk1.size
  have hs2 := hk2.size
  have h2d : w2.drew.heap[x2]? = some (.cells #[o, .int .i64 n] 27) := h2
  have hh4d : w2.drew.heap[x4]? = some (.cells (zc Try.prog 27) 27) := hh4
  have hk02d : Kp [] w w2.drew := hk02.drew
  rw [fa_p, ldF (x := .int .i64 n) h2d rfl]
  have hmk : ∀ (W : World) (K : Value → World → Prop), mkG 49 1 24 (zc Try.prog 49) (.int .i64 B) (.int .i64 B) W K = ((0 ≤ (B : Int) ∧ (B : Int) ≤ B ∧ 24 * (B : Int) ≤ 2 ^ 48 ∧ (B : Int) < 2 ^ 63) ∧ K (.slice (some ⟨W.heap.size, 0, none⟩) B B) (W.alloc (.cells (rep (zc Try.prog 49) (B * 1)) 49))) := fun W K => rfl
  have hbd : 0 ≤ (B : Int) ∧ (B : Int) ≤ B ∧ 24 * (B : Int) ≤ 2 ^ 48 ∧ (B : Int) < 2 ^ 63 := by omega
  have hzs : zc Try.prog 49 = #[.slice none 0 0] := by kernel_rfl
  have hs7 : ∀ (w0 w3 : World) (x5 : Nat) (oo : Value) (So : List Nat), GFix w w0 x4 x5 → GSt w w0 x4 x5 oo n B So [] w3 → w3.heap[x2]? = some (.cells #[o, .int .i64 n] 27) → (∀ x ∈ So, w.heap.size ≤ x) → hash_Index_grown_s7 R (.pointer (some ⟨x2, 0, none⟩)) (.pointer (some ⟨x4, 0, none⟩)) (.pointer (some ⟨x5, 0, none⟩)) w3 := by
    intro w0 w3 x5 oo So hf hg hb hso
    unfold hash_Index_grown_s7
    rw [fa_p, ldF (x := o) hb rfl, hx.lenL]
    exact grown_loop hf hg hB hx hwf hl hbl (fun x hx => by have := hX x hx; have := hf.a; omega) fun w' hk' hio => hR oo w' So hk' hio hso
  have fin : ∀ (w0 w4 : World) (x5 : Nat) (oo : Value) (So : List Nat), GFix w w0 x4 x5 → Kp [] w w4 → Gro w0 w4 x5 oo (List.replicate B []) So (fun _ => []) → w4.heap[x5]? = some (.cells (zc Try.prog 27) 27) → w4.heap[x2]? = some (.cells #[o, .int .i64 n] 27) →
      w4.heap[x4]? = some (.cells (zc Try.prog 27) 27) → x5 ≠ x2 → x5 ≠ x4 → Q.one oo = true → (∀ x ∈ So, w.heap.size ≤ x) → stn 2 (.pointer (some ⟨x5, 0, none⟩)) (.agg #[oo, .int .i64 n]) w4 fun w => hash_Index_grown_s7 R (.pointer (some ⟨x2, 0, none⟩)) (.pointer (some ⟨x4, 0, none⟩)) (.pointer (some ⟨x5, 0, none⟩)) w := by
    intro w0 w4 x5 oo So hf hk hg h5 h2 h4 n2 n4 ho hso
    rw [stA (k := 2) h5 (by rw [zcIx]; rfl) rfl (by simp [ho])]
    have hkx : Kp [x5] w4 (setBlk w4 x5 (.cells #[oo, .int .i64 n] 27)) := (Kp.refl _ _).setBlk (.inl (by simp)) _
    refine hs7 w0 _ x5 oo So hf ⟨hk.setBlk (.inr hf.d) _, ⟨_, hg.keepS hkx fun x hx => .inr (by simpa using hx)⟩, heap_self (live_of h5), zc Try.prog 27, by rw [zcIx]; rfl, ?_⟩ ?_ hso
    · rw [heap_ne n4]; exact h4
    · rw [heap_ne n2]; exact h2
  refine ⟨?_, ?_⟩
  · rw [hmk]
    refine ⟨hbd, ?_⟩
    obtain ⟨w3, hw3⟩ : ∃ w3, w3 = w2.drew.alloc (.cells (rep (zc Try.prog 49) (B * 1)) 49) := ⟨_, rfl⟩
    have hk3 : Kp [] w2.drew w3 := by rw [hw3]; exact kp_alloc
    rw [← hw3, ldF (x := .int .i64 n) (hk3.get h2d (by simp)) rfl, bld_ix rfl]
    refine ⟨rfl, ?_⟩
    refine newB fun x5 w4 hx5 hh5 hk4 => ?_
    have hs3 := hk3.size
    have h24 := hk4.get (hk3.get h2d (by simp)) (by simp)
    have h44 := hk4.get (hk3.get hh4d (by simp)) (by simp)
    have hs3b : w3.heap.size = w2.heap.size + 1 := by rw [hw3]; simp
    rw [ldF (x := .int .i64 n) h24 rfl]
    refine ⟨rfl, ?_⟩
    have hg0 := gro_new (w := w2.drew) (e := 49) (n := B) (y := x5) hzs (by simp; omega)
    rw [← hw3] at hg0
    have l4 := lt_of_blk hh4
    have l2 := lt_of_blk h2
    exact fin w2.drew w4 x5 _ [w2.drew.heap.size] ⟨by simp; omega, by simp; omega, by omega, by omega⟩ ((hk02d.trans' hk3).trans' hk4) (hg0.keep hk4) hh5 h24 h44 (by omega) (by omega) rfl (by simp; omega)
  · refine newB fun x5 w3 hx5 hh5 hk3 => ?_
    have h23 := hk3.get h2d (by simp)
    rw [ldF (x := .int .i64 n) h23 rfl, hmk]
    refine ⟨rfl, hbd, ?_⟩
    obtain ⟨w4, hw4⟩ : ∃ w4, w4 = w3.alloc (.cells (rep (zc Try.prog 49) (B * 1)) 49) := ⟨_, rfl⟩
    have hk4 : Kp [] w3 w4 := by rw [hw4]; exact kp_alloc
    have h24 := hk4.get h23 (by simp)
    have h44 := hk4.get (hk3.get hh4d (by simp)) (by simp)
    have l4 := lt_of_blk hh4
    have l2 := lt_of_blk h2
    have l5 := lt_of_blk hh5
    have hs3 := hk3.size
    simp at hs3
    simp at hx5
    rw [← hw4, ldF (x := .int .i64 n) h24 rfl, bld_ix rfl]
    refine ⟨rfl, ?_⟩
    have hg0 := gro_new (w := w3) (e := 49) (n := B) (y := x5) hzs (by omega)
    rw [← hw4] at hg0
    exact fin w3 w4 x5 _ [w3.heap.size] ⟨by omega, by omega, by omega, by omega⟩ ((hk02d.trans' hk3).trans' hk4) hg0 (hk4.get hh5 (by simp)) h24 h44 (by omega) (by omega) rfl (by simp; omega)
end
end Go.Proofs

/- Layer 10: an index with a number. -/
set_option maxRecDepth 100000
set_option linter.unusedVariables false
set_option linter.unusedSimpArgs false
namespace Go.Proofs
open Go Go.Q
section
variable {wb w : World} {x4 x6 x7 : Nat} {o : Value} {n' : Int} {So : List Nat} {bs : List (List E)} {R : Value → World → Prop} {v : V3} {Xg : List Nat}
/-- a bucket is written, and the index given -/
theorem ix_tail {w2 : World} {k : Nat} {p t : Value} {b' : List E} (hk : Kp [] wb w2) (h7 : w2.heap[x7]? = some (.cells #[o, .int .i64 n'] 27)) (h6 : ∃ c, c.size = 2 ∧ w2.heap[x6]? = some (.cells c 27)) (hone : Q.one o = true)
    (hso : ∀ x ∈ So, wb.heap.size ≤ x ∧ x ≠ x7 ∧ x ≠ x6) (hx6 : wb.heap.size ≤ x6) (hia : ∀ K, ia 1 o (.int .i64 k) K = K p)
    (hst : ∀ K : World → Prop, (∀ w3, Kp So w2 w3 → IxO w3 o (bs.set k b') So (x6 :: Xg) → K w3) → st1 p t w2 K)
    (hR : ∀ w', Kp [] wb w' → IxX Xg w' o (bs.set k b') → R (.agg #[o, .int .i64 n']) w') :
    ld1 (.pointer (some ⟨x7, 0 + 0, none⟩)) w2 (fun u => u = o) ∧
    ia 1 o (.int .i64 k) fun t58 =>
    st1 t58 t w2 fun w =>
    ldn 2 (.pointer (some ⟨x7, 0, none⟩)) w fun t59 =>
    stn 2 (.pointer (some ⟨x6, 0, none⟩)) t59 w fun w =>
    qG Try.prog (do loadVar 27 (← asAddr (.pointer (some ⟨x6, 0, none⟩)))) w fun r6 =>
    R r6 w := by
  rw [ldF (x := o) h7 rfl, hia]
  refine ⟨rfl, ?_⟩
  refine hst _ fun w3 hk3 hio => ?_
  obtain ⟨c, hc1, hc2⟩ := h6
  rw [ldA (k := 2) (hk3.get h7 fun hm => (hso _ hm).2.1 rfl) rfl]
  refine retB (by kernel_rfl) (by kernel_rfl) (hk3.get hc2 fun hm => (hso _ hm).2.2 rfl) hc1 rfl (by simp [hone]) fun w' hk' => ?_
  refine hR w' ((hk.trans hk3 fun b hb hlt => by have := (hso _ hb).1; omega).trans hk' fun b hb hlt => by simp at hb; omega) ((hio.keepS hk' (by simp)).ixX.more fun y hy => .inl (by simp [hy]))
theorem with_s0 (hk : Kp [] wb w) (h7 : w.heap[x7]? = some (.cells #[o, .int .i64 n'] 27)) (h4 : w.heap[x4]? = some (.cells (valV v).toArray 24)) (h6 : ∃ c, c.size = 2 ∧ w.heap[x6]? = some (.cells c 27))
    (hix : IxO w o bs So (x6 :: Xg)) (hXg : ∀ x ∈ Xg, x < w.heap.size) (hso : ∀ x ∈ So, wb.heap.size ≤ x ∧ x ≠ x7) (hx6 : wb.heap.size ≤ x6) (hpos : 0 < bs.length) (hv : v.Rg) (hl : ∀ b ∈ bs, b.length < 2 ^ 29) (n : Int)
    (hR : ∀ w', Kp [] wb w' → IxX Xg w' o (pushB bs (hashV v % bs.length) ⟨v, n⟩) → R (.agg #[o, .int .i64 n']) w') :
    hash_Index_With_s0 R (.int .i64 n) (.pointer (some ⟨x4, 0, none⟩)) (.pointer (some ⟨x6, 0, none⟩)) (.pointer (some ⟨x7, 0, none⟩)) w := by
  unfold hash_Index_With_s0
  have hlt := hash_lt hpos v
  have hbk := bktOf_eq v hlt
  have e4 : ∀ w', Kp [] w w' → ∀ K : Value → Prop, ldn 3 (.pointer (some ⟨x4, 0, none⟩)) w' K = K (valA v) := fun w' hk' K => ldA (hk'.get h4 (by simp)) rfl
  have e7 : ∀ w', Kp [] w w' → ∀ K : Value → Prop, ld1 (.pointer (some ⟨x7, 0 + 0, none⟩)) w' K = K o := fun w' hk' K => ldF (x := o) (hk'.get h7 (by simp)) rfl
  obtain ⟨c6, hc6, h6⟩ := h6
  have lx6 := lt_of_blk h6
  rw [ldA (k := 2) h7 rfl, e4 _ (Kp.refl _ _)]
  refine bucket_spec (fun K => hix.ix.lenL) hpos v hv fun w1 hk1 => ?_
  have hkd : Kp [] w w1.drew := hk1.drew
  obtain ⟨p, bv, p1, p2, p3, p4⟩ := (hix.keep hkd).upd hlt
  rw [fa_p, e7 _ hkd, fa_p, e7 _ hkd, p1, p2 _ (Kp.refl _ _), e4 _ hkd, bld_ent]
  have hs1 := hkd.size
  have hone := hix.ix.one
  have hblen : bs[hashV v % bs.length].length < 2 ^ 29 := hl _ (List.getElem_mem hlt)
  have hso6 : ∀ x ∈ So, wb.heap.size ≤ x ∧ x ≠ x7 ∧ x ≠ x6 := fun x hx => ⟨(hso x hx).1, (hso x hx).2, fun h => hix.2 x hx (by simp [h])⟩
  have hsolt : ∀ x ∈ So, x < w.heap.size := by
    obtain ⟨⟨vs, hvs, _⟩, _⟩ := hix
    exact hvs.lt
  have hpb : pushB bs (hashV v % bs.length) ⟨v, n⟩ = bs.set (hashV v % bs.length) (bs[hashV v % bs.length] ++ [(⟨v, n⟩ : E)]) := by
    unfold pushB
    simp [List.getD, hlt]
  rw [hpb] at hR
  have fin : ∀ w3 t57, Kp [] w1.drew w3 → Fr w1.drew w3 t57 4 ((bs[hashV v % bs.length] ++ [(⟨v, n⟩ : E)]).map eC) → ld1 (.pointer (some ⟨x7, 0 + 0, none⟩)) w3 (fun u => u = o) ∧
      ia 1 o (.int .i64 (hashV v % bs.length : Nat)) fun t58 =>
      st1 t58 t57 w3 fun w =>
      ldn 2 (.pointer (some ⟨x7, 0, none⟩)) w fun t59 =>
      stn 2 (.pointer (some ⟨x6, 0, none⟩)) t59 w fun w =>
      qG Try.prog (do loadVar 27 (← asAddr (.pointer (some ⟨x6, 0, none⟩)))) w fun r6 =>
      R r6 w := by
    intro w3 t57 hk3 hf
    have hw3 : Kp [] w w3 := hkd.trans' hk3
    obtain ⟨S', hr, hS'⟩ := hf.ex
    have hsn : ∀ x ∈ S', x ∉ So ∧ x ∉ x6 :: Xg := by
      intro x hx
      have := hS' x hx
      refine ⟨fun hm => by have := hsolt x hm; omega, fun hm => ?_⟩
      rcases List.mem_cons.1 hm with rfl | hm
      · omega
      · have := hXg x hm; omega
    exact ix_tail (hk.trans' hw3) (hw3.get h7 (by simp)) ⟨c6, hc6, hw3.get h6 (by simp)⟩ hone hso6 hx6 p1 (fun K hK => p4 w3 hk3 t57 _ S' (.inr hr.rd) hf.one hsn K hK) hR
  have happ : ∀ w3 t52 t56, Kp [] w1.drew w3 → Fr w1.drew w3 t52 4 (bs[hashV v % bs.length].map eC) → Rd w3 t56 4 [eC ⟨v, n⟩] → app 52 4 40 (zc Try.prog 52) t52 t56 w3 fun t57 w => ld1 (.pointer (some ⟨x7, 0 + 0, none⟩)) w (fun u => u = o) ∧
      ia 1 o (.int .i64 (hashV v % bs.length : Nat)) fun t58 =>
      st1 t58 t57 w fun w =>
      ldn 2 (.pointer (some ⟨x7, 0, none⟩)) w fun t59 =>
      stn 2 (.pointer (some ⟨x6, 0, none⟩)) t59 w fun w =>
      qG Try.prog (do loadVar 27 (← asAddr (.pointer (some ⟨x6, 0, none⟩)))) w fun r6 =>
      R r6 w := by
    intro w3 t52 t56 hk3 hf hr
    rw [zcEnt]
    refine fr_push (wx := w3) hf hr (by omega) rfl (by simp [eC, valV]) (by simp; omega) (by simp; omega) fun t57 w4 hf4 => ?_
    refine fin w4 t57 hf4.kp (by rw [List.map_append]; exact hf4)
  refine ⟨?_, ?_⟩
  · refine cloneE_spec p3 (by omega) fun t52 w2 hf2 => ?_
    have hk2 := hf2.kp
    have hw2 : Kp [] w w2 := hkd.trans' hk2
    rw [e4 _ hw2, e7 _ hw2]
    refine ⟨rfl, rfl, ?_⟩
    refine bsl_rowN (n := 4) (cs := eC ⟨v, n⟩) (by omega) rfl rfl fun t56 w3 hf3 => ?_
    have hk3 := hk2.trans' hf3.kp
    have hw3 : Kp [] w w3 := hkd.trans' hk3
    rw [p2 _ hk3, e7 _ hw3]
    refine ⟨rfl, rfl, rfl, ?_⟩
    exact happ w3 t52 t56 hk3 (hf2.keep hf3.kp) hf3.rd
  · refine bsl_rowN (n := 4) (cs := eC ⟨v, n⟩) (by omega) rfl rfl fun t56 w2 hf2 => ?_
    have hk2 := hf2.kp
    have hw2 : Kp [] w w2 := hkd.trans' hk2
    rw [p2 _ hk2, e7 _ hw2]
    refine ⟨rfl, rfl, rfl, ?_⟩
    refine cloneE_spec (p3.keep hk2) (by omega) fun t52 w3 hf3 => ?_
    have hk3 := hk2.trans' hf3.kp
    have hw3 : Kp [] w w3 := hkd.trans' hk3
    rw [e4 _ hw3, e7 _ hw3]
    refine ⟨rfl, rfl, ?_⟩
    exact happ w3 t52 t56 hk3 (hf3.base hk2) (hf2.rd.keep hf3.kp)
def growB (B n : Nat) : Nat := if 4 * B < n then max 8 (2 * B) else B
theorem with_loop {m : List E} {n : Int} (hk : Kp [] wb w) (h7 : w.heap[x7]? = some (.cells #[o, .int .i64 n'] 27)) (h4 : w.heap[x4]? = some (.cells (valV v).toArray 24)) (h6 : ∃ c, c.size = 2 ∧ w.heap[x6]? = some (.cells c 27))
    (hix : IxO w o bs So (x6 :: Xg)) (hXg : ∀ x ∈ Xg, x < w.heap.size) (hso : ∀ x ∈ So, wb.heap.size ≤ x ∧ x ≠ x7) (hx6 : wb.heap.size ≤ x6) (hx7 : wb.heap.size ≤ x7) (h67 : x6 ≠ x7) (h47 : x4 ≠ x7) (hh : HInv bs m) (hn : n' = (m.length + 1 : Nat)) (hm : m.length < 2 ^ 20) (hB : bs.length < 2 ^ 20)
    (hwf : ∀ e ∈ m, e.v.Rg) (hv : v.Rg) (hok : v.ok = true) (hne : (⟨v, n⟩ : E) ∉ m)
    (hR : ∀ w' o2 bs2, Kp [] wb w' → IxX Xg w' o2 bs2 → HInv bs2 (m ++ [⟨v, n⟩]) → bs2.length = growB bs.length (m.length + 1) → R (.agg #[o2, .int .i64 n']) w') :
    hash_Index_With_L2 R (.int .i64 n) (.pointer (some ⟨x4, 0, none⟩)) (.pointer (some ⟨x6, 0, none⟩)) (.pointer (some ⟨x7, 0, none⟩)) w := by
  unfold hash_Index_With_L2
  have hfl : ∀ {bs2 : List (List E)}, HInv bs2 m → bs2.flatten.length = m.length := fun h => h.perm.length_eq
  refine loop_inv (fun mm xs wi => xs = [.int .i64 n, .pointer (some ⟨x4, 0, none⟩), .pointer (some ⟨x6, 0, none⟩), .pointer (some ⟨x7, 0, none⟩)] ∧ ∃ o2 bs2 So2, Kp [] wb wi ∧ wi.heap[x7]? = some (.cells #[o2, .int .i64 n'] 27) ∧ wi.heap[x4]? = some (.cells (valV v).toArray 24) ∧ (∃ c, c.size = 2 ∧ wi.heap[x6]? = some (.cells c 27)) ∧
    IxO wi o2 bs2 So2 (x6 :: Xg) ∧ (∀ x ∈ Xg, x < wi.heap.size) ∧ (∀ x ∈ So2, wb.heap.size ≤ x ∧ x ≠ x7) ∧ HInv bs2 m ∧ ((mm = 1 ∧ bs2.length = bs.length) ∨ (mm = 0 ∧ bs2.length = growB bs.length (m.length + 1) ∧ m.length + 1 ≤ 4 * bs2.length))) ?_ (m := 1) ⟨rfl, o, bs, So, hk, h7, h4, h6, hix, hXg, hso, hh, .inl ⟨rfl, rfl⟩⟩
  rintro mm N xs wi ⟨rfl, o2, bs2, So2, hk, h7, h4, h6, hix, hXg, hso, hh2, hst⟩ hN
  have hroom := hh.room
  have hroom2 := hh2.room
  have hB2 : bs2.length < 2 ^ 22 := by
    rcases hst with ⟨_, h⟩ | ⟨_, h, _⟩
    · omega
    · rw [h]; unfold growB; split <;> omega
  have e1 : IntKind.i64.wrap ((bs2.length : Int) * 4) = (bs2.length : Int) * 4 := w64 (by omega) (by omega)
  have e2 : IntKind.i64.wrap (2 * (bs2.length : Int)) = 2 * (bs2.length : Int) := w64 (by omega) (by omega)
  have e3 : max (8 : Int) (2 * (bs2.length : Int)) = ((max 8 (2 * bs2.length) : Nat) : Int) := by omega
  have r7 : ∀ K : Value → Prop, ld1 (.pointer (some ⟨x7, 0 + 0, none⟩)) wi K = K o2 := fun K => ldF (x := o2) h7 rfl
  have r71 : ∀ K : Value → Prop, ld1 (.pointer (some ⟨x7, 0 + 1, none⟩)) wi K = K (.int .i64 n') := fun K => ldF (x := .int .i64 n') h7 rfl
  unfold hash_Index_With_L2F hash_Index_With_b1
  dsimp only
  rw [fa_p, r7, hix.ix.lenL]
  simp only [bq_mul, e1]
  rw [fa_p, r71]
  simp only [bq_lss, bV_b, decide_eq_true_eq, decide_eq_false_iff_not]
  refine ⟨fun hlt => ?_, fun hge => ?_⟩
  · rcases hst with ⟨rfl, hl2⟩ | ⟨_, _, h⟩
    · rw [ldA (k := 2) h7 rfl, fa_p, r7, hix.ix.lenL]
      simp only [bq_mul, e2, q_max, e3]
      have l6 : x6 < wi.heap.size := by obtain ⟨c, _, h⟩ := h6; exact lt_of_blk h
      have l7 := lt_of_blk h7
      refine grown_spec (n := n') (X := x6 :: x7 :: Xg) hix.ix (by omega) (by omega) (fun b hb e he => hwf e (hh2.perm.mem_iff.1 (List.mem_flatten.2 ⟨b, hb, he⟩))) (by rw [hfl hh2]; omega) (by omega) (by simp only [List.mem_cons, forall_eq_or_imp]; exact ⟨l6, l7, hXg⟩) fun oo w' So' hk' hio hso' => ?_
      have h7' := hk'.get h7 (by simp)
      obtain ⟨c, hc1, hc2⟩ := h6
      rw [stA (k := 2) h7' rfl rfl (by simp [hio.ix.one])]
      obtain ⟨w2, hw2⟩ : ∃ w2, w2 = setBlk w' x7 (.cells #[oo, .int .i64 n'] 27) := ⟨_, rfl⟩
      have hk2 : Kp [x7] w' w2 := by rw [hw2]; exact (Kp.refl _ _).setBlk (.inl (by simp)) _
      rw [← hw2]
      have hg := hinv_grow hh2 (B := max 8 (2 * bs2.length)) (by omega) (by omega)
      have hgl := (grow_ok bs2 (B := max 8 (2 * bs2.length)) (by omega)).1
      refine hN 0 _ w2 (by omega) ⟨rfl, oo, growL bs2 (max 8 (2 * bs2.length)), So', (hk.trans' hk').trans hk2 fun b hb hlt => by simp at hb; omega, by rw [hw2]; exact heap_self (live_of h7'), hk2.get (hk'.get h4 (by simp)) (by simp [h47]), ⟨c, hc1, hk2.get (hk'.get hc2 (by simp)) (by simp [h67])⟩,
        (hio.keepS hk2 (by simp)).less (by intro y hy; rcases List.mem_cons.1 hy with rfl | hy <;> simp [*]), fun x hx => by have := hXg x hx; have := hk'.size; have := hk2.size; omega, fun x hx => ⟨by have := hso' x hx; have := hk.size; omega, by have := hso' x hx; omega⟩, hg, .inr ⟨rfl, ?_, ?_⟩⟩
      · rw [hgl, hl2]; unfold growB; rw [if_pos (by omega)]
      · rw [hgl]; omega
    · omega
  · have hpos : 0 < bs2.length := by omega
    refine with_s0 hk h7 h4 h6 hix hXg hso hx6 hpos hv (fun b hb => by have := mem_flat_len hb; have := hfl hh2; omega) n fun w' hk' hix' => ?_
    refine hR w' o2 _ hk' hix' (hinv_push hh2 hne hok (by omega)) ?_
    rw [pushB_len]
    rcases hst with ⟨_, h⟩ | ⟨_, h, _⟩
    · rw [h]; unfold growB; rw [if_neg (by omega)]
    · exact h
end
/-- an index that has just these numbers -/
def IxM (X : List Nat) (w : World) (val : Value) (m : List E) (B : Nat) : Prop := ∃ o bs, val = .agg #[o, .int .i64 m.length] ∧ IxX X w o bs ∧ HInv bs m ∧ bs.length = B
theorem IxM.keep {X : List Nat} {w w' : World} {val : Value} {m : List E} {B : Nat} (h : IxM X w val m B) (hk : Kp [] w w') : IxM X w' val m B := by
  obtain ⟨o, bs, h1, h2, h3, h4⟩ := h
  exact ⟨o, bs, h1, h2.keep hk, h3, h4⟩
theorem IxM.keepS {X S : List Nat} {w w' : World} {val : Value} {m : List E} {B : Nat} (h : IxM X w val m B) (hk : Kp S w w') (hS : ∀ x ∈ S, x ∈ X) : IxM X w' val m B := by
  obtain ⟨o, bs, h1, h2, h3, h4⟩ := h
  exact ⟨o, bs, h1, h2.keepS hk hS, h3, h4⟩
theorem IxM.more {X Y : List Nat} {w : World} {val : Value} {m : List E} {B : Nat} (h : IxM X w val m B) (hY : ∀ y ∈ Y, y ∈ X ∨ w.heap.size ≤ y) : IxM Y w val m B := by
  obtain ⟨o, bs, h1, h2, h3, h4⟩ := h
  exact ⟨o, bs, h1, h2.more hY, h3, h4⟩
def putM (m : List E) (e : E) : List E := if e.v.ok = true ∧ e ∉ m then m ++ [e] else m
def putB (B : Nat) (m : List E) (e : E) : Nat := if e.v.ok = true ∧ e ∉ m then growB B (m.length + 1) else B
theorem With_spec {Xg : List Nat} {w : World} {val : Value} {m : List E} {B : Nat} (hx : IxM Xg w val m B) (hXg : ∀ x ∈ Xg, x < w.heap.size) (hm : m.length < 2 ^ 20) (hB : B < 2 ^ 20) (hwf : ∀ e ∈ m, e.v.Rg) (v : V3) (hv : v.Rg) (n : Int) {K : Value → World → Prop}
    (hK : ∀ val' w', Kp [] w w' → IxM Xg w' val' (putM m ⟨v, n⟩) (putB B m ⟨v, n⟩) → K val' w') : callG Try.prog 15 #[val, valA v, .int .i64 n] w K := by
  obtain ⟨o, bs, rfl, hix, hh, rfl⟩ := hx
  refine hash_Index_With_call ?_
  unfold hash_Index_With hash_Index_With_s4
  refine argB fun x3 w1 hx3 hh3 hk1 => ?_
  have e0 : ∀ (k : Value → World → Prop), newG (Value.cells (valA v)) 24 w1 k = newG (Value.cells (.agg (valV v).toArray)) 24 w1 k := fun _ => rfl
  rw [e0]
  refine argB fun x4 w2 hx4 hh4 hk2 => ?_
  refine newB fun x6 w3 hx6 hh6 hk3 => ?_
  have l3 := lt_of_blk hh3
  have l4 := lt_of_blk hh4
  have l6 := lt_of_blk hh6
  have hs1 := hk1.size
  have hs2 := hk2.size
  have hs3 := hk3.size
  have hk03 := (hk1.trans' hk2).trans' hk3
  have h3 := hk3.get (hk2.get hh3 (by simp)) (by simp)
  have h4 := hk3.get hh4 (by simp)
  have same : ∀ w5, Kp [] w3 w5 → ¬ ((⟨v, n⟩ : E).v.ok = true ∧ (⟨v, n⟩ : E) ∉ m) → ldn 2 (.pointer (some ⟨x3, 0, none⟩)) w5 fun t19 => stn 2 (.pointer (some ⟨x6, 0, none⟩)) t19 w5 fun w => qG Try.prog (do loadVar 27 (← asAddr (.pointer (some ⟨x6, 0, none⟩)))) w fun r6 => K r6 w := by
    intro w5 hk5 hno
    rw [ldA (k := 2) (hk5.get h3 (by simp)) rfl]
    refine retB (by kernel_rfl) (by kernel_rfl) (hk5.get hh6 (by simp)) (by rw [zcIx]; rfl) rfl (by simp [hix.ix.one]) fun w6 hk6 => ?_
    have hk06 : Kp [] w w6 := (hk03.trans' hk5).trans hk6 fun b hb hlt => by simp at hb; omega
    refine hK _ w6 hk06 ⟨o, bs, ?_, hix.keep hk06, ?_, ?_⟩
    · unfold putM; rw [if_neg hno]
    · unfold putM; rw [if_neg hno]; exact hh
    · unfold putB; rw [if_neg hno]
  have r4 : ∀ w5, Kp [] w3 w5 → ∀ K : Value → Prop, ldn 3 (.pointer (some ⟨x4, 0, none⟩)) w5 K = K (valA v) := fun w5 hk5 K => ldA (hk5.get h4 (by simp)) rfl
  rw [r4 _ (Kp.refl _ _)]
  refine Check_spec v fun w4 hk4 => ?_
  simp only [bq_neq, bV_b]
  refine ⟨fun hc => same w4 hk4 fun hh => by simp [hh.1] at hc, fun hc => ?_⟩
  have hok : v.ok = true := by
    cases h : v.ok
    · simp [h] at hc
    · rfl
  rw [ldA (k := 2) (hk4.get h3 (by simp)) rfl, r4 _ hk4]
  have hfl : bs.flatten.length = m.length := hh.perm.length_eq
  have hbl : ∀ b ∈ bs, b.length ≤ m.length := fun b hb => by have := mem_flat_len hb; omega
  have hk04 := hk03.trans' hk4
  refine where_spec (hix.ix.keep hk04) (fun b hb => by have := hbl b hb; omega) v hv n (fun i w5 hk5 hi he => ?_) fun w5 hk5 hno => ?_
  · simp only [bq_geq, bV_b]
    refine ⟨fun _ => same w5 (hk4.trans' hk5) fun hh2 => hh2.2 (mem_bkt hh (he ▸ List.getElem_mem hi)), fun hf => by simp at hf⟩
  · simp only [bq_geq, bV_b]
    refine ⟨fun hf => by simp at hf, fun _ => ?_⟩
    have hne : (⟨v, n⟩ : E) ∉ m := fun hm => hno (bkt_mem hh hm)
    have hyes : ((⟨v, n⟩ : E).v.ok = true ∧ (⟨v, n⟩ : E) ∉ m) := ⟨hok, hne⟩
    unfold hash_Index_With_s3
    have hk5d : Kp [] w3 w5.drew := (hk4.trans' hk5).drew
    have hk05 : Kp [] w w5.drew := hk03.trans' hk5d
    have h3d := hk5d.get h3 (by simp)
    have h4d := hk5d.get h4 (by simp)
    have h6d := hk5d.get hh6 (by simp)
    have hs5 := hk5d.size
    have hds : w5.drew.heap.size = w5.heap.size := rfl
    have ew : IntKind.i64.wrap ((m.length : Int) + 1) = ((m.length + 1 : Nat) : Int) := by rw [w64 (by omega) (by omega)]; simp
    have a0 : ∀ w6, Kp [] w5.drew w6 → ∀ K : Value → Prop, ld1 (.pointer (some ⟨x3, 0 + 0, none⟩)) w6 K = K o := fun w6 hk6 K => ldF (x := o) (hk6.get h3d (by simp)) rfl
    have a1 : ∀ w6, Kp [] w5.drew w6 → ∀ K : Value → Prop, ld1 (.pointer (some ⟨x3, 0 + 1, none⟩)) w6 K = K (.int .i64 m.length) := fun w6 hk6 K => ldF (x := .int .i64 m.length) (hk6.get h3d (by simp)) rfl
    rw [fa_p, a0 _ (Kp.refl _ _), fa_p, a1 _ (Kp.refl _ _)]
    simp only [bq_add, ew, stb_add]
    have fin : ∀ w7 x7 o7 So, Kp [] w5.drew w7 → (∃ c, c.size = 2 ∧ w7.heap[x7]? = some (.cells c 27)) → x3 ≠ x7 → x4 ≠ x7 → x6 ≠ x7 → w.heap.size ≤ x7 → IxO w7 o7 bs So (x6 :: Xg) → IxO (setBlk w7 x7 (.cells #[o7, .int .i64 ((m.length + 1 : Nat) : Int)] 27)) o7 bs So (x6 :: Xg) → (∀ x ∈ So, w.heap.size ≤ x ∧ x ≠ x7) →
        stn 2 (.pointer (some ⟨x7, 0, none⟩)) (.agg #[o7, .int .i64 ((m.length + 1 : Nat) : Int)]) w7 fun w => hash_Index_With_L2 K (.int .i64 n) (.pointer (some ⟨x4, 0, none⟩)) (.pointer (some ⟨x6, 0, none⟩)) (.pointer (some ⟨x7, 0, none⟩)) w := by
      intro w7 x7 o7 So hk7 hx7 n3 n4 n6 hg7 hio hio' hso
      obtain ⟨c7, hc7, hx7⟩ := hx7
      rw [stA (k := 2) hx7 hc7 rfl (by simp [hio.ix.one])]
      have hkx : Kp [x7] w7 (setBlk w7 x7 (.cells #[o7, .int .i64 ((m.length + 1 : Nat) : Int)] 27)) := (Kp.refl _ _).setBlk (.inl (by simp)) _
      refine with_loop (m := m) ((hk05.trans' hk7).setBlk (.inr hg7) _) (heap_self (live_of hx7)) (hkx.get (hk7.get h4d (by simp)) (by simp [n4])) ⟨_, by rw [zcIx]; rfl, hkx.get (hk7.get h6d (by simp)) (by simp [n6])⟩ hio' (fun x hx => by have := hXg x hx; have := hk7.size; simp; omega) hso (by omega) hg7 n6 n4 hh rfl hm hB hwf hv hok hne fun w' o2 bs2 hk' hix' hh' hl' => ?_
      refine hK _ w' hk' ⟨o2, bs2, ?_, hix', ?_, ?_⟩
      · unfold putM; rw [if_pos hyes]; simp
      · unfold putM; rw [if_pos hyes]; exact hh'
      · unfold putB; rw [if_pos hyes]; exact hl'
    refine ⟨?_, ?_⟩
    · refine cloneO_spec (X := x6 :: Xg) hix hk05 (fun x hx => by
          rcases List.mem_cons.1 hx with rfl | hx
          · exact ⟨.inr (by omega), by omega⟩
          · exact ⟨.inl hx, by have := hXg x hx; omega⟩) (by omega) fun o7 w6 So hk6 hio hso => ?_
      rw [a1 _ hk6, bld_ix hio.ix.one]
      refine ⟨trivial, rfl, ?_⟩
      refine newB fun x7 w7 hx7 hh7 hk7 => ?_
      have hk67 := hk6.trans' hk7
      have hs6 := hk6.size
      rw [a1 _ hk67, a0 _ hk67]
      refine ⟨trivial, rfl, rfl, ?_⟩
      have hsolt : ∀ x ∈ So, x < w6.heap.size := by
        obtain ⟨⟨vs, hvs, _⟩, _⟩ := hio
        exact hvs.lt
      refine fin w7 x7 o7 So hk67 ⟨_, by rw [zcIx]; rfl, hh7⟩ (by omega) (by omega) (by omega) (by omega) (hio.keep hk7) (hio.keep (hk7.setBlk (.inr hx7) _)) fun x hx => ⟨by have := hso x hx; omega, by have := hsolt x hx; omega⟩
    · refine newB fun x7 w6 hx7 hh7 hk6 => ?_
      rw [a1 _ hk6, a0 _ hk6]
      refine ⟨trivial, rfl, rfl, ?_⟩
      have l7 := lt_of_blk hh7
      have hs6 := hk6.size
      refine cloneO_spec (X := x6 :: x7 :: Xg) hix (hk05.trans' hk6) (fun x hx => by
          rcases List.mem_cons.1 hx with rfl | hx
          · exact ⟨.inr (by omega), by omega⟩
          · rcases List.mem_cons.1 hx with rfl | hx
            · exact ⟨.inr (by omega), by omega⟩
            · exact ⟨.inl hx, by have := hXg x hx; omega⟩) (by omega) fun o7 w7 So hk7 hio hso => ?_
      have hk67 := hk6.trans' hk7
      rw [a1 _ hk67, bld_ix hio.ix.one]
      refine ⟨trivial, rfl, ?_⟩
      have hh77 := hk7.get hh7 (by simp)
      refine fin w7 x7 o7 So hk67 ⟨_, by rw [zcIx]; rfl, hh77⟩ (by omega) (by omega) (by omega) (by omega) (hio.less fun y hy => by rcases List.mem_cons.1 hy with rfl | hy <;> simp [*]) ((hio.keepS ((Kp.refl [x7] _).setBlk (.inl (by simp)) _) (by simp)).less fun y hy => by rcases List.mem_cons.1 hy with rfl | hy <;> simp [*]) fun x hx => ⟨by have := hso x hx; omega, by have := hso x hx; omega⟩
end Go.Proofs

/- Layer 10: an index without a number; how many there are. -/
set_option maxRecDepth 100000
set_option linter.unusedVariables false
set_option linter.unusedSimpArgs false
namespace Go.Proofs
open Go Go.Q
theorem wout_tail {wb w : World} {x4 x6 x7 : Nat} {o : Value} {n' : Int} {So : List Nat} {bs : List (List E)} {R : Value → World → Prop} {v : V3} {Xg : List Nat} (hk : Kp [] wb w) (h7 : w.heap[x7]? = some (.cells #[o, .int .i64 n'] 27)) (h4 : w.heap[x4]? = some (.cells (valV v).toArray 24)) (h6 : ∃ c, c.size = 2 ∧ w.heap[x6]? = some (.cells c 27))
    (hix : IxO w o bs So (x6 :: Xg)) (hXg : ∀ x ∈ Xg, x < w.heap.size) (hso : ∀ x ∈ So, wb.heap.size ≤ x ∧ x ≠ x7) (hx6 : wb.heap.size ≤ x6) (hpos : 0 < bs.length) (hv : v.Rg) (hl : ∀ b ∈ bs, b.length < 2 ^ 29) {i : Nat} (hi : i < (bktOf bs v).length) {xo yo : Operand}
    (hR : ∀ w', Kp [] wb w' → IxX Xg w' o (dropB bs (hashV v % bs.length) i) → R (.agg #[o, .int .i64 n']) w') :
    ldn 2 (.pointer (some ⟨x7, 0, none⟩)) w fun t24 =>
    ldn 3 (.pointer (some ⟨x4, 0, none⟩)) w fun t25 =>
    callG Try.prog 18 #[t24, t25] w fun t26 w =>
    fa 0 (.pointer (some ⟨x7, 0, none⟩)) fun t27 =>
    ld1 t27 (World.drew w) fun t28 =>
    fa 0 (.pointer (some ⟨x7, 0, none⟩)) fun t30 =>
    ld1 t30 (World.drew w) fun t31 =>
    ia 1 t31 t26 fun t33 =>
    ld1 t33 (World.drew w) fun t34 =>
    qG Try.prog (bq .add 3 xo yo (.int .i64 i) (.int .i64 1)) (World.drew w) fun t38 =>
    callG Try.prog 26 #[t34] (World.drew w) fun t35 w =>
    stb Try.prog (bq .add 3 xo yo (.int .i64 i) (.int .i64 1)) t38 w ∧
    ld1 t27 w (fun u => u = t28) ∧
    callG Try.prog 27 #[t35, .int .i64 i, t38] w fun t39 w =>
    ld1 t27 w (fun u => u = t28) ∧
    ia 1 t28 t26 fun t40 =>
    st1 t40 t39 w fun w =>
    ldn 2 (.pointer (some ⟨x7, 0, none⟩)) w fun t41 =>
    stn 2 (.pointer (some ⟨x6, 0, none⟩)) t41 w fun w =>
    qG Try.prog (do loadVar 27 (← asAddr (.pointer (some ⟨x6, 0, none⟩)))) w fun r6 =>
    R r6 w := by
  have hlt := hash_lt hpos v
  have hbk := bktOf_eq v hlt
  have e4 : ∀ w', Kp [] w w' → ∀ K : Value → Prop, ldn 3 (.pointer (some ⟨x4, 0, none⟩)) w' K = K (valA v) := fun w' hk' K => ldA (hk'.get h4 (by simp)) rfl
  have e7 : ∀ w', Kp [] w w' → ∀ K : Value → Prop, ld1 (.pointer (some ⟨x7, 0 + 0, none⟩)) w' K = K o := fun w' hk' K => ldF (x := o) (hk'.get h7 (by simp)) rfl
  obtain ⟨c6, hc6, h6⟩ := h6
  have lx6 := lt_of_blk h6
  rw [ldA (k := 2) h7 rfl, e4 _ (Kp.refl _ _)]
  refine bucket_spec (fun K => hix.ix.lenL) hpos v hv fun w1 hk1 => ?_
  have hkd : Kp [] w w1.drew := hk1.drew
  obtain ⟨p, bv, p1, p2, p3, p4⟩ := (hix.keep hkd).upd hlt
  have hblen : bs[hashV v % bs.length].length < 2 ^ 29 := hl _ (List.getElem_mem hlt)
  rw [hbk] at hi
  have ew : IntKind.i64.wrap ((i : Int) + 1) = ((i + 1 : Nat) : Int) := by rw [w64 (by omega) (by omega)]; simp
  rw [fa_p, e7 _ hkd, fa_p, e7 _ hkd, p1, p2 _ (Kp.refl _ _)]
  simp only [bq_add, ew, stb_add]
  have hs1 := hkd.size
  have hone := hix.ix.one
  have hso6 : ∀ x ∈ So, wb.heap.size ≤ x ∧ x ≠ x7 ∧ x ≠ x6 := fun x hx => ⟨(hso x hx).1, (hso x hx).2, fun h => hix.2 x hx (by simp [h])⟩
  have hsolt : ∀ x ∈ So, x < w.heap.size := by
    obtain ⟨⟨vs, hvs, _⟩, _⟩ := hix
    exact hvs.lt
  have hpb : dropB bs (hashV v % bs.length) i = bs.set (hashV v % bs.length) (bs[hashV v % bs.length].eraseIdx i) := by
    unfold dropB
    simp [List.getD, hlt]
  rw [hpb] at hR
  refine cloneE_spec p3 (by omega) fun t35 w2 hf2 => ?_
  have hw2 : Kp [] w w2 := hkd.trans' hf2.kp
  rw [e7 _ hw2]
  refine ⟨trivial, rfl, ?_⟩
  refine Delete_spec hf2 hi fun t39 w3 hf3 => ?_
  have hk3 := hf3.kp
  have hw3 : Kp [] w w3 := hkd.trans' hk3
  obtain ⟨S', hr, hS'⟩ := hf3.ex
  have hsn : ∀ x ∈ S', x ∉ So ∧ x ∉ x6 :: Xg := by
    intro x hx
    have := hS' x hx
    refine ⟨fun hm => by have := hsolt x hm; omega, fun hm => ?_⟩
    rcases List.mem_cons.1 hm with rfl | hm
    · omega
    · have := hXg x hm; omega
  exact ix_tail (hk.trans' hw3) (hw3.get h7 (by simp)) ⟨c6, hc6, hw3.get h6 (by simp)⟩ hone hso6 hx6 p1 (fun K hK => p4 w3 hk3 t39 _ S' (.inr hr.rd) hf3.one hsn K hK) hR
def dropM (m : List E) (e : E) : List E := m.filter fun x => decide (x ≠ e)
theorem Without_spec {Xg : List Nat} {w : World} {val : Value} {m : List E} {B : Nat} (hx : IxM Xg w val m B) (hXg : ∀ x ∈ Xg, x < w.heap.size) (hm : m.length < 2 ^ 20) (hB : B < 2 ^ 20) (v : V3) (hv : v.Rg) (n : Int) {K : Value → World → Prop}
    (hK : ∀ val' w', Kp [] w w' → IxM Xg w' val' (dropM m ⟨v, n⟩) B → K val' w') : callG Try.prog 16 #[val, valA v, .int .i64 n] w K := by
  obtain ⟨o, bs, rfl, hix, hh, rfl⟩ := hx
  refine hash_Index_Without_call ?_
  unfold hash_Index_Without hash_Index_Without_s0
  refine argB fun x3 w1 hx3 hh3 hk1 => ?_
  have e0 : ∀ (k : Value → World → Prop), newG (Value.cells (valA v)) 24 w1 k = newG (Value.cells (.agg (valV v).toArray)) 24 w1 k := fun _ => rfl
  rw [e0]
  refine argB fun x4 w2 hx4 hh4 hk2 => ?_
  refine newB fun x6 w3 hx6 hh6 hk3 => ?_
  have l3 := lt_of_blk hh3
  have l4 := lt_of_blk hh4
  have l6 := lt_of_blk hh6
  have hs1 := hk1.size
  have hs2 := hk2.size
  have hs3 := hk3.size
  have hk03 := (hk1.trans' hk2).trans' hk3
  have h3 := hk3.get (hk2.get hh3 (by simp)) (by simp)
  have h4 := hk3.get hh4 (by simp)
  have hfl : bs.flatten.length = m.length := hh.perm.length_eq
  have hbl : ∀ b ∈ bs, b.length ≤ m.length := fun b hb => by have := mem_flat_len hb; omega
  rw [ldA (k := 2) h3 rfl, show ∀ K : Value → Prop, ldn 3 (.pointer (some ⟨x4, 0, none⟩)) w3 K = K (valA v) from fun K => ldA h4 rfl]
  refine where_spec (hix.ix.keep hk03) (fun b hb => by have := hbl b hb; omega) v hv n (fun i w5 hk5 hi he => ?_) fun w5 hk5 hno => ?_
  · simp only [bq_lss, bV_b]
    refine ⟨fun hf => by simp at hf; omega, fun _ => ?_⟩
    have hpos : 0 < bs.length := by
      by_cases h0 : bs = []
      · subst h0; simp [bktOf] at hi
      · exact List.length_pos_iff.2 h0
    have hlt := hash_lt hpos v
    have hbk := bktOf_eq v hlt
    have hi2 : i < bs[hashV v % bs.length].length := by rw [← hbk]; exact hi
    have he2 : bs[hashV v % bs.length][i] = ⟨v, n⟩ := by
      rw [← he]; congr 1; exact hbk.symm
    obtain ⟨hd1, hd2⟩ := hinv_drop hh hlt hi2
    rw [he2] at hd1 hd2
    have hk5d : Kp [] w3 w5.drew := hk5.drew
    have hk05 : Kp [] w w5.drew := hk03.trans' hk5d
    have h3d := hk5d.get h3 (by simp)
    have h4d := hk5d.get h4 (by simp)
    have h6d := hk5d.get hh6 (by simp)
    have hs5 := hk5d.size
    have hds : w5.drew.heap.size = w5.heap.size := rfl
    have ew : IntKind.i64.wrap ((m.length : Int) - 1) = ((dropM m ⟨v, n⟩).length : Int) := by
      unfold dropM
      rw [w64 (by omega) (by omega)]
      omega
    have a0 : ∀ w6, Kp [] w5.drew w6 → ∀ K : Value → Prop, ld1 (.pointer (some ⟨x3, 0 + 0, none⟩)) w6 K = K o := fun w6 hk6 K => ldF (x := o) (hk6.get h3d (by simp)) rfl
    have a1 : ∀ w6, Kp [] w5.drew w6 → ∀ K : Value → Prop, ld1 (.pointer (some ⟨x3, 0 + 1, none⟩)) w6 K = K (.int .i64 m.length) := fun w6 hk6 K => ldF (x := .int .i64 m.length) (hk6.get h3d (by simp)) rfl
    rw [fa_p, a0 _ (Kp.refl _ _), fa_p, a1 _ (Kp.refl _ _)]
    simp only [bq_sub, ew, stb_sub]
    have hR : ∀ o7 w', Kp [] w w' → IxX Xg w' o7 (dropB bs (hashV v % bs.length) i) → K (.agg #[o7, .int .i64 ((dropM m ⟨v, n⟩).length : Int)]) w' := fun o7 w' hk' hix' => hK _ w' hk' ⟨o7, _, rfl, hix', hd1, by simp [dropB]⟩
    refine ⟨?_, ?_⟩
    · refine cloneO_spec (X := x6 :: Xg) hix hk05 (fun x hx => by
          rcases List.mem_cons.1 hx with rfl | hx
          · exact ⟨.inr (by omega), by omega⟩
          · exact ⟨.inl hx, by have := hXg x hx; omega⟩) (by omega) fun o7 w6 So hk6 hio hso => ?_
      rw [a1 _ hk6, bld_ix hio.ix.one]
      refine ⟨trivial, rfl, ?_⟩
      refine newB fun x7 w7 hx7 hh7 hk7 => ?_
      have hk67 := hk6.trans' hk7
      have hs6 := hk6.size
      rw [a1 _ hk67, a0 _ hk67]
      refine ⟨trivial, rfl, rfl, ?_⟩
      have hsolt : ∀ x ∈ So, x < w6.heap.size := by
        obtain ⟨⟨vs, hvs, _⟩, _⟩ := hio
        exact hvs.lt
      rw [stA (k := 2) hh7 (by rw [zcIx]; rfl) rfl (by simp [hio.ix.one])]
      have hkx : Kp [x7] w7 (setBlk w7 x7 (.cells #[o7, .int .i64 ((dropM m ⟨v, n⟩).length : Int)] 27)) := (Kp.refl _ _).setBlk (.inl (by simp)) _
      refine wout_tail (bs := bs) (So := So) ((hk05.trans' hk67).setBlk (.inr (by omega)) _) (heap_self (live_of hh7)) (hkx.get (hk67.get h4d (by simp)) (by simp; omega)) ⟨_, by rw [zcIx]; rfl, hkx.get (hk67.get h6d (by simp)) (by simp; omega)⟩ (hio.keep (hk7.setBlk (.inr hx7) _)) (fun x hx => by have := hXg x hx; have := hk67.size; simp; omega) (fun x hx => ⟨by have := hso x hx; omega, by have := hsolt x hx; omega⟩) (by omega) hpos hv (fun b hb => by have := hbl b hb; omega) hi fun w' hk' hix' => hR _ w' hk' hix'
    · refine newB fun x7 w6 hx7 hh7 hk6 => ?_
      rw [a1 _ hk6, a0 _ hk6]
      refine ⟨trivial, rfl, rfl, ?_⟩
      have l7 := lt_of_blk hh7
      have hs6 := hk6.size
      refine cloneO_spec (X := x6 :: x7 :: Xg) hix (hk05.trans' hk6) (fun x hx => by
          rcases List.mem_cons.1 hx with rfl | hx
          · exact ⟨.inr (by omega), by omega⟩
          · rcases List.mem_cons.1 hx with rfl | hx
            · exact ⟨.inr (by omega), by omega⟩
            · exact ⟨.inl hx, by have := hXg x hx; omega⟩) (by omega) fun o7 w7 So hk7 hio hso => ?_
      have hk67 := hk6.trans' hk7
      rw [a1 _ hk67, bld_ix hio.ix.one]
      refine ⟨trivial, rfl, ?_⟩
      have hh77 := hk7.get hh7 (by simp)
      rw [stA (k := 2) hh77 (by rw [zcIx]; rfl) rfl (by simp [hio.ix.one])]
      have hkx : Kp [x7] w7 (setBlk w7 x7 (.cells #[o7, .int .i64 ((dropM m ⟨v, n⟩).length : Int)] 27)) := (Kp.refl _ _).setBlk (.inl (by simp)) _
      refine wout_tail (bs := bs) (So := So) ((hk05.trans' hk67).setBlk (.inr (by omega)) _) (heap_self (live_of hh77)) (hkx.get (hk67.get h4d (by simp)) (by simp; omega)) ⟨_, by rw [zcIx]; rfl, hkx.get (hk67.get h6d (by simp)) (by simp; omega)⟩ ((hio.keepS ((Kp.refl [x7] _).setBlk (.inl (by simp)) _) (by simp)).less fun y hy => by rcases List.mem_cons.1 hy with rfl | hy <;> simp [*]) (fun x hx => by have := hXg x hx; have := hk67.size; simp; omega) (fun x hx => ⟨by have := hso x hx; omega, by have := hso x hx; omega⟩) (by omega) hpos hv (fun b hb => by have := hbl b hb; omega) hi fun w' hk' hix' => hR _ w' hk' hix'
  · simp only [bq_lss, bV_b]
    refine ⟨fun _ => ?_, fun hf => by simp at hf⟩
    have hne : (⟨v, n⟩ : E) ∉ m := fun hm => hno (bkt_mem hh hm)
    have hsame : dropM m ⟨v, n⟩ = m := by
      unfold dropM
      rw [List.filter_eq_self]
      intro x hx
      rw [decide_eq_true_eq]
      rintro rfl
      exact hne hx
    rw [ldA (k := 2) (hk5.get h3 (by simp)) rfl]
    refine retB (by kernel_rfl) (by kernel_rfl) (hk5.get hh6 (by simp)) (by rw [zcIx]; rfl) rfl (by simp [hix.ix.one]) fun w6 hk6 => ?_
    have hk06 : Kp [] w w6 := (hk03.trans' hk5).trans hk6 fun b hb hlt => by simp at hb; omega
    exact hK _ w6 hk06 ⟨o, bs, by rw [hsame], hix.keep hk06, by rw [hsame]; exact hh, rfl⟩
theorem Len_spec {X : List Nat} {w : World} {val : Value} {m : List E} {B : Nat} (hx : IxM X w val m B) {K : Value → World → Prop} (hK : ∀ w', Kp [] w w' → K (.int .i64 m.length) w') : callG Try.prog 10 #[val] w K := by
  obtain ⟨o, bs, rfl, hix, hh, rfl⟩ := hx
  refine hash_Index_Len_call ?_
  unfold hash_Index_Len hash_Index_Len_s0
  refine argB fun x3 w1 hx3 hh3 hk1 => ?_
  rw [fa_p, ldF (x := .int .i64 m.length) hh3 rfl]
  exact hK w1 hk1
theorem Buckets_spec {X : List Nat} {w : World} {val : Value} {m : List E} {B : Nat} (hx : IxM X w val m B) {K : Value → World → Prop} (hK : ∀ w', Kp [] w w' → K (.int .i64 B) w') : callG Try.prog 11 #[val] w K := by
  obtain ⟨o, bs, rfl, hix, hh, rfl⟩ := hx
  refine hash_Index_Buckets_call ?_
  unfold hash_Index_Buckets hash_Index_Buckets_s0
  refine argB fun x3 w1 hx3 hh3 hk1 => ?_
  rw [fa_p, ldF (x := o) hh3 rfl, hix.ix.lenL]
  exact hK w1 hk1
end Go.Proofs

/- Layer 10: numbers are sorted; the numbers by a value. -/
set_option maxRecDepth 100000
set_option linter.unusedVariables false
set_option linter.unusedSimpArgs false
namespace Go.Proofs
open Go Go.Q
def Try.sortInt_ren : Go.Shelf.Ren := ⟨fun | 6 => 19 | 15 => 30 | 14 => 29 | 28 => 43 | 29 => 44 | 20 => 35 | 21 => 36 | 22 => 37 | 23 => 38 | 24 => 39 | 25 => 40 | 26 => 41 | 27 => 42 | 46 => 46 | 47 => 47 | 48 => 48 | 49 => 49 | 50 => 50 | 57 => 51 | n => n, fun | 22 => 36 | 24 => 3 | 25 => 54 | 3 => 3 | 39 => 64 | 0 => 0 | 53 => 78 | 55 => 80 | 4 => 4 | 46 => 71 | 45 => 70 | 50 => 75 | 5 => 5 | 9 => 9 | 66 => 83 | 70 => 87 | 76 => 89 | 77 => 90 | n => n, fun | n => n⟩
theorem Try.sortInt : Go.Proofs.SlLaysF.n6 Try.prog Try.sortInt_ren where
  mixed := by kernel_rfl
  f6 := ⟨Try.f19.name, by decide, Try.func19.trans (congrArg some (by kernel_rfl))⟩
  f14 := ⟨Try.f29.name, by decide, Try.func29.trans (congrArg some (by kernel_rfl))⟩
  f15 := Try.func30.trans (congrArg some (by kernel_rfl))
  f20 := ⟨Try.f35.name, by decide, Try.func35.trans (congrArg some (by kernel_rfl))⟩
  f21 := ⟨Try.f36.name, by decide, Try.func36.trans (congrArg some (by kernel_rfl))⟩
  f22 := ⟨Try.f37.name, by decide, Try.func37.trans (congrArg some (by kernel_rfl))⟩
  f23 := ⟨Try.f38.name, by decide, Try.func38.trans (congrArg some (by kernel_rfl))⟩
  f24 := ⟨Try.f39.name, by decide, Try.func39.trans (congrArg some (by kernel_rfl))⟩
  f25 := ⟨Try.f40.name, by decide, Try.func40.trans (congrArg some (by kernel_rfl))⟩
  f26 := ⟨Try.f41.name, by decide, Try.func41.trans (congrArg some (by kernel_rfl))⟩
  f27 := ⟨Try.f42.name, by decide, Try.func42.trans (congrArg some (by kernel_rfl))⟩
  f28 := Try.func43.trans (congrArg some (by kernel_rfl))
  f29 := Try.func44.trans (congrArg some (by kernel_rfl))
  f46 := ⟨Try.f46.name, by decide, Try.func46.trans (congrArg some (by kernel_rfl))⟩
  f47 := Try.func47.trans (congrArg some (by kernel_rfl))
  f48 := Try.func48.trans (congrArg some (by kernel_rfl))
  f49 := ⟨Try.f49.name, by decide, Try.func49.trans (congrArg some (by kernel_rfl))⟩
  f50 := ⟨Try.f50.name, by decide, Try.func50.trans (congrArg some (by kernel_rfl))⟩
  f57 := ⟨Try.f51.name, by decide, Try.func51.trans (congrArg some (by kernel_rfl))⟩
  t0 := Try.underlying0
  a0 := Try.isAgg0
  z0 := Try.sizeOf0
  v0 := Try.zeroValue0
  t3 := Try.underlying3
  a3 := Try.isAgg3
  z3 := Try.sizeOf3
  v3 := Try.zeroValue3
  t4 := Try.underlying4
  a4 := Try.isAgg4
  z4 := Try.sizeOf4
  v4 := Try.zeroValue4
  t5 := Try.underlying5
  a5 := Try.isAgg5
  z5 := Try.sizeOf5
  v5 := Try.zeroValue5
  t9 := Try.underlying9
  a9 := Try.isAgg9
  z9 := Try.sizeOf9
  v9 := Try.zeroValue9
  t22 := Try.underlying36
  a22 := Try.isAgg36
  z22 := Try.sizeOf36
  v22 := Try.zeroValue36
  a24 := Try.isAgg3
  z24 := Try.sizeOf3
  t25 := Try.underlying54
  a25 := Try.isAgg54
  z25 := Try.sizeOf54
  v25 := Try.zeroValue54
  t39 := Try.underlying64
  a39 := Try.isAgg64
  z39 := Try.sizeOf64
  v39 := Try.zeroValue64
  t45 := Try.underlying70
  a45 := Try.isAgg70
  z45 := Try.sizeOf70
  v45 := Try.zeroValue70
  t46 := Try.underlying71
  a46 := Try.isAgg71
  z46 := Try.sizeOf71
  v46 := Try.zeroValue71
  t50 := Try.underlying75
  a50 := Try.isAgg75
  z50 := Try.sizeOf75
  v50 := Try.zeroValue75
  t53 := Try.underlying78
  a53 := Try.isAgg78
  z53 := Try.sizeOf78
  v53 := Try.zeroValue78
  t55 := Try.underlying80
  a55 := Try.isAgg80
  z55 := Try.sizeOf80
  v55 := Try.zeroValue80
  t66 := Try.underlying83
  a66 := Try.isAgg83
  z66 := Try.sizeOf83
  v66 := Try.zeroValue83
  t70 := Try.underlying87
  a70 := Try.isAgg87
  z70 := Try.sizeOf87
  v70 := Try.zeroValue87
  t76 := Try.underlying89
  a76 := Try.isAgg89
  z76 := Try.sizeOf89
  v76 := Try.zeroValue89
  t77 := Try.underlying90
  a77 := Try.isAgg90
  z77 := Try.sizeOf90
  v77 := Try.zeroValue90
theorem isNaN_spec {w : World} (x : Int) {K : Value → World → Prop} (hK : K (.bool false) w) : callG Try.prog 31 #[.int .i64 x] w K := by
  refine cmp_isNaN_int_call ?_
  unfold cmp_isNaN_int cmp_isNaN_int_s0
  simpa using hK
theorem cmpInt_spec {w : World} (x y : Int) {K : Value → World → Prop} (hK : K (.int .i64 (Go.Lib.compareInt x y)) w) : callG Try.prog 21 #[.int .i64 x, .int .i64 y] w K := by
  refine cmp_Compare_int_call ?_
  unfold cmp_Compare_int cmp_Compare_int_s0
  refine isNaN_spec x ?_
  refine isNaN_spec y ?_
  unfold Go.Lib.compareInt at hK
  simp only [bV_b, bq_lss, bq_gtr, decide_eq_true_eq, decide_eq_false_iff_not]
  refine ⟨fun h => (by cases h), fun _ => ⟨fun h => (by cases h), fun _ => ⟨fun h => ?_, fun h => ⟨fun h2 => ?_, fun h2 => ?_⟩⟩⟩⟩
  · rw [if_pos h] at hK; exact hK
  · rw [if_neg h, if_pos h2] at hK; exact hK
  · rw [if_neg h, if_neg h2] at hK; exact hK
theorem closure_spec {w : World} (x y : Int) {K : Value → World → Prop} (hK : K (.int .i64 (Go.Lib.compareInt x y)) w) : callG Try.prog 20 #[.int .i64 x, .int .i64 y] w K := by
  refine hash_Index_Find_1_call ?_
  unfold hash_Index_Find_1 hash_Index_Find_1_s0
  exact cmpInt_spec x y hK
theorem ltInt (x y : Int) : ltOf Go.Lib.compareInt x y = decide (x < y) := by
  unfold ltOf Go.Lib.compareInt
  by_cases h1 : x < y
  · simp [h1]
  · by_cases h2 : y < x <;> simp [h1, h2]
theorem swoInt : Go.Sort.SWO (ltOf Go.Lib.compareInt) where
  irrefl x := by rw [ltInt]; simp
  trans x y z h1 h2 := by rw [ltInt] at *; simp at *; omega
  ntrans x y z h1 h2 := by rw [ltInt] at *; simp at *; omega
theorem cmpReadsInt (blk off size : Nat) (w : World) : CmpReads Try.prog 20 #[] (Value.int .i64) Go.Lib.compareInt blk off size w := by
  intro m os dk hs x y
  have := closure_spec (w := sortWorld (Value.int .i64) w blk off m dk os) x y (K := fun v w' => v = .int .i64 (Go.Lib.compareInt x y) ∧ w' = sortWorld (Value.int .i64) w blk off m dk os) ⟨rfl, rfl⟩
  refine Calls.mono (show Calls _ _ _ _ _ from this) ?_
  rintro e w' ⟨v, rfl, rfl, rfl⟩
  exact ⟨rfl, 0, rfl⟩
theorem ints_flat (l : List Int) : (l.map intV).flatten = l.map (Value.int .i64) := by
  induction l with
  | nil => rfl
  | cons x l ih => simp only [List.map_cons, List.flatten_cons, ih]; rfl
theorem single_flat : ∀ (l : List Value), (l.map fun x => [x]).flatten = l := by
  intro l
  induction l with
  | nil => rfl
  | cons x l ih => simp only [List.map_cons, List.flatten_cons, ih]; rfl
theorem Sort_spec {w0 w : World} {v : Value} {l : List Int} (h : Fr w0 w v 1 (l.map intV)) (hl : l.length < 2 ^ 60) {K : Value → World → Prop} (hK : ∀ w', Fr w0 w' v 1 ((sortI l).map intV) → K (.tuple #[]) w') :
    callG Try.prog 19 #[v, .func (.func 20) #[] #[]] w K := by
  have hkp := h.kp
  obtain ⟨S, hr, hS⟩ := h.ex
  rcases hr with ⟨h1, h2, h3⟩ | ⟨bl, F, T, h1, h2, h3, h4, h5, h6⟩
  · have hl0 : l = [] := by simpa using h2
    subst hl0; subst h1
    have hcon := AnyF.slices_SortFunc_none { Try.sortInt with } none 0 (.func (.func 20) #[] #[]) w
    refine hcon.mono ?_
    rintro e w' ⟨rfl, rfl⟩
    exact ⟨_, rfl, hK _ h⟩
  · have hbl : w0.heap.size ≤ bl := hS bl (by rw [h2]; simp)
    have hlt := lt_of_blk h3
    simp only [List.length_map] at h1 h5 h6
    have hfl := flat_len h4
    have hpre : F.flatten.take l.length = l.map (Value.int .i64) := by
      have := flat_take l.length h4
      rw [Nat.mul_one] at this
      rw [this, h5, ints_flat]
    have hH : Go.Sort.Holds (Value.int .i64) w bl 0 l.toArray := by
      intro j hj
      simp only [List.size_toArray] at hj
      have hg : F.flatten[j]? = some (.int .i64 l[j]) := by
        rw [← List.getElem?_take_of_lt hj, hpre]
        simp [hj]
      constructor
      · unfold World.cell?
        simp only [h3, Nat.zero_add]
        simpa [hj] using hg
      · unfold World.frozen?
        simp only [h3]
        simp
    have hcon := Any.slices_SortFunc_total Try.sortInt (Value.int .i64) (fun _ => rfl) Go.Lib.compareInt swoInt 20 #[] bl 0 F.length l.toArray w (enters_of Try.func20 (by kernel_rfl) rfl) (cmpReadsInt bl 0 l.toArray.size w).lays hH hlt (by simp; omega)
      (fun x y hx hy => by rw [ltInt] at hx hy; simp at hx hy; omega)
    simp only [List.size_toArray] at hcon
    rw [h1]
    refine hcon.mono ?_
    rintro e w' ⟨rfl, n, os, rfl⟩
    refine ⟨_, rfl, ?_⟩
    have hso : (l.toArray.toList.mergeSort fun x y => !(ltOf Go.Lib.compareInt) y x) = sortI l := by
      obtain ⟨g1, g2⟩ := sortI_ok l
      have hle : (fun x y : Int => !(ltOf Go.Lib.compareInt) y x) = fun x y => decide (x ≤ y) := by
        funext x y
        rw [ltInt]
        by_cases hxy : x ≤ y
        · simp [hxy]
        · simp [hxy]; omega
      have p1 := List.mergeSort_perm l (fun x y => decide (x ≤ y))
      have p2 : (l.mergeSort fun x y => decide (x ≤ y)).Pairwise fun a b => decide (a ≤ b) = true := List.pairwise_mergeSort (by intro a b c h1 h2; simp at *; omega) (by intro a b; simp; omega) l
      rw [hle]
      refine rising_eq ?_ g1 (p1.trans g2.symm)
      exact p2.imp fun h => by simpa using h
    rw [hso]
    have hlen : (sortI l).length = l.length := (sortI_ok l).2.length_eq
    have hb := Go.heap_sortedI (n := n) (os := os) (sortI l).toArray h3
    have hgb := Go.grownBy_sortedI (w := w) (g := bl) (n := n) (os := os) (sortI l).toArray
    obtain ⟨c0, hc0⟩ : ∃ c0, c0 = Go.Sort.putCells (Value.int .i64) 0 (sortI l).toArray F.flatten.toArray := ⟨_, rfl⟩
    have hcs : c0.size = F.length := by rw [hc0]; simp [Go.Sort.putCells, -List.length_flatten]; omega
    have htk : c0.toList.take l.length = (sortI l).map (Value.int .i64) := by
      rw [hc0, ← hlen]
      exact Go.take_putCellsI _ _ (by simp [-List.length_flatten]; omega)
    rw [← hc0] at hb
    obtain ⟨q1, q2, q3, q4, q5⟩ := hgb
    have hkw : Kp [] w0 (sortWorld (Value.int .i64) w bl 0 n (sortI l).toArray os) := by
      refine ⟨q1.trans hkp.os, q2.trans hkp.tape, q3.trans hkp.output, Nat.le_trans hkp.size q4, fun b hb hn => ?_⟩
      have hbw := hkp.size
      exact (q5 b (by omega) (by simp; omega)).trans (hkp.keep b hb hn)
    refine hK _ ⟨⟨[bl], .inr ⟨bl, c0.toList.map fun x => [x], T, ?_, rfl, ?_, ?_, ?_, ?_⟩, by simpa using hbl⟩, hkw⟩
    · rw [h1]; simp [hcs, hlen]
    · rw [single_flat]; exact hb
    · intro x hx
      obtain ⟨y, _, rfl⟩ := List.mem_map.1 hx
      rfl
    · rw [List.length_map, hlen, ← List.map_take, htk, List.map_map]
      rfl
    · simp [hcs, hlen, h6]
end Go.Proofs

/- Layer 10: the numbers by a value. -/
set_option maxRecDepth 100000
set_option linter.unusedVariables false
set_option linter.unusedSimpArgs false
namespace Go.Proofs
open Go Go.Q
theorem val_inj (a b : V3) : eqC (valV a) (valV b) = decide (a = b) := by
  obtain ⟨k, n, s⟩ := a
  obtain ⟨k', n', s'⟩ := b
  simp only [valV, eqC_cons, eqC_nil, eqV_int, eqV_str, str_eq, V3.mk.injEq]
  simp [Bool.decide_and]
theorem bq_val {xo yo : Operand} {w : World} (a b : V3) {K : Value → Prop} : qG Try.prog (bq .eql 24 xo yo (.agg (valV a).toArray) (.agg (valV b).toArray)) w K = K (.bool (decide (a = b))) := by
  rw [bq_aggeql (by exact eqVal), val_inj]
theorem nums_snoc (l : List E) (e : E) (v : V3) : numsOf (l ++ [e]) v = if e.v = v then numsOf l v ++ [e.n] else numsOf l v := by
  unfold numsOf
  rw [List.filter_append, List.map_append]
  by_cases h : e.v = v
  · simp [h]
  · simp [h]
theorem numsOf_len (l : List E) (v : V3) : (numsOf l v).length ≤ l.length := by
  unfold numsOf
  rw [List.length_map]
  exact List.length_filter_le _ _
theorem sort_perm {a b : List Int} (h : a.Perm b) : sortI a = sortI b := by
  obtain ⟨g1, g2⟩ := sortI_ok a
  obtain ⟨g3, g4⟩ := sortI_ok b
  exact rising_eq g1 g3 ((g2.trans h).trans g4.symm)
theorem find_loop {w0 w : World} {x3 : Nat} {bv : Value} {b : List E} {v : V3} {R : Value → World → Prop} (hk : Kp [] w0 w) (h3 : w.heap[x3]? = some (.cells (valV v).toArray 24)) (hr : Rd w bv 4 (b.map eC)) (hl : b.length < 2 ^ 30)
    (hR : ∀ out w', Fr w0 w' out 1 ((sortI (numsOf b v)).map intV) → R out w') :
    hash_Index_Find_L2 R (.pointer (some ⟨x3, 0, none⟩)) (.slice none 0 0) bv (.int .i64 b.length) (.int .i64 0) w := by
  unfold hash_Index_Find_L2
  refine loop_inv (fun m xs wi => ∃ i out, i ≤ b.length ∧ m = b.length - i ∧ xs = [.pointer (some ⟨x3, 0, none⟩), out, bv, .int .i64 b.length, .int .i64 (i : Nat)] ∧ Fr w wi out 1 ((numsOf (b.take i) v).map intV)) ?_ (m := b.length) ⟨0, _, by omega, rfl, rfl, by simpa [numsOf] using fr_nil (Kp.refl [] w)⟩
  rintro m N xs wi ⟨i, out, hi, rfl, rfl, hf⟩ hN
  have hki := hf.kp
  have hiw : IntKind.i64.wrap ((i : Int) + 1) = ((i + 1 : Nat) : Int) := by rw [w64 (by omega) (by omega)]; simp
  have hnl := numsOf_len (b.take i) v
  rw [List.length_take] at hnl
  unfold hash_Index_Find_L2F hash_Index_Find_b1
  dsimp only
  simp only [bq_lss, bV_b, decide_eq_true_eq, decide_eq_false_iff_not]
  refine ⟨fun hlt => ?_, fun hge => ?_⟩
  · have hlt : i < b.length := by omega
    obtain ⟨q, q1, q2, _⟩ := (hr.keep hki).get (i := i) (by simpa using hlt)
    have hb : (b.map eC)[i]'(by simpa using hlt) = eC b[i] := by simp
    rw [hb] at q2
    rw [q1, q2]
    refine newB fun x7 w1 hx7 hh7 hk1 => ?_
    rw [stA (k := 4) hh7 (by rw [zcEnt]; rfl) rfl (by simp [eC, valV])]
    obtain ⟨w2, hw2⟩ : ∃ w2, w2 = setBlk w1 x7 (.cells (eC b[i]).toArray 52) := ⟨_, rfl⟩
    have h7 : w2.heap[x7]? = some (.cells (eC b[i]).toArray 52) := by rw [hw2]; exact heap_self (live_of hh7)
    have hk12 : Kp [] wi w2 := by rw [hw2]; exact hk1.setBlk (.inr hx7) _
    rw [← hw2]
    have hk2 := hki.trans' hk12
    have hf2 := hf.keep hk12
    rw [fa_p, ldP (k := 3) h7 (ent_val b[i]) (by simp [eC, valV]), ldA (k := 3) (hk2.get h3 (by simp)) rfl, bq_val]
    simp only [bV_b, decide_eq_true_eq, decide_eq_false_iff_not, bq_add, hiw]
    have htk : b.take (i + 1) = b.take i ++ [b[i]] := List.take_succ_eq_append_getElem hlt
    refine ⟨fun he => ?_, fun hne => ?_⟩
    · rw [fa_p, ldF (x := .int .i64 b[i].n) h7 (by simp [eC, valV])]
      refine bsl_rowN (n := 1) (cs := intV b[i].n) (by omega) rfl rfl fun t31 w3 hf3 => ?_
      have hk3 := hf3.kp
      rw [show zc Try.prog 3 = [Value.int .i64 0].toArray by kernel_rfl]
      refine fr_push (wx := w3) (hf2.keep hk3) hf3.rd (by omega) rfl rfl (by simp; omega) (by simp; omega) fun out' w4 hf4 => ?_
      refine hN (b.length - (i + 1)) _ _ (by omega) ⟨i + 1, out', by omega, rfl, rfl, ?_⟩
      rw [htk, nums_snoc, if_pos he, List.map_append]
      exact hf4
    · refine hN (b.length - (i + 1)) _ _ (by omega) ⟨i + 1, out, by omega, rfl, rfl, ?_⟩
      rw [htk, nums_snoc, if_neg hne]
      exact hf2
  · have hie : i = b.length := by omega
    subst hie
    rw [List.take_length] at hf
    unfold hash_Index_Find_s0
    refine Sort_spec hf (by rw [List.take_length] at hnl; omega) fun w' hf' => ?_
    exact hR out w' (hf'.base hk)
theorem Find_spec {X : List Nat} {w : World} {val : Value} {m : List E} {B : Nat} (hx : IxM X w val m B) (hm : m.length < 2 ^ 20) (v : V3) (hv : v.Rg) {K : Value → World → Prop} (hK : ∀ out w', Fr w w' out 1 ((sortI (numsOf m v)).map intV) → K out w') :
    callG Try.prog 13 #[val, valA v] w K := by
  obtain ⟨o, bs, rfl, hix, hh, rfl⟩ := hx
  replace hix := hix.ix
  refine hash_Index_Find_call ?_
  unfold hash_Index_Find hash_Index_Find_s4
  refine argB fun x2 w1 hx2 hh2 hk1 => ?_
  have e0 : ∀ (k : Value → World → Prop), newG (Value.cells (valA v)) 24 w1 k = newG (Value.cells (.agg (valV v).toArray)) 24 w1 k := fun _ => rfl
  rw [e0]
  refine argB fun x3 w2 hx3 hh3 hk2 => ?_
  have h2 := hk2.get hh2 (by simp)
  have hk02 := hk1.trans' hk2
  rw [fa_p, ldF (x := o) h2 rfl, hix.lenL]
  simp only [bq_eql, bV_b, decide_eq_true_eq, decide_eq_false_iff_not]
  refine ⟨fun h0 => ?_, fun h0 => ?_⟩
  · have hb : bs = [] := List.length_eq_zero_iff.1 (by omega)
    have hm0 : m = [] := by
      have := hh.perm.length_eq
      rw [hb] at this
      exact List.length_eq_zero_iff.1 (by simpa using this.symm)
    subst hm0
    exact hK _ _ (by simpa [numsOf, sortI] using fr_nil hk02)
  · have hpos : 0 < bs.length := by omega
    have hlt := hash_lt hpos v
    have hbk := bktOf_eq v hlt
    unfold hash_Index_Find_s3
    have h3d : w2.drew.heap[x3]? = some (.cells (valV v).toArray 24) := hh3
    have h2d : w2.drew.heap[x2]? = some (.cells #[o, .int .i64 m.length] 27) := h2
    rw [fa_p, ldF (x := o) h2d rfl, ldA (k := 2) h2d rfl, show ∀ K : Value → Prop, ldn 3 (.pointer (some ⟨x3, 0, none⟩)) w2.drew K = K (valA v) from fun K => ldA h3d rfl]
    refine bucket_spec (fun K => hix.lenL) hpos v hv fun w3 hk3 => ?_
    have hk03 : Kp [] w w3 := (hk02.trans' kp_drew).trans' hk3
    rw [ldF (x := o) (hk3.get h2d (by simp)) rfl]
    refine ⟨rfl, ?_⟩
    obtain ⟨p, bv, q1, q2, q3⟩ := hix.at hlt
    rw [q1, q2 _ hk03, (q3.keep hk03).lenL, List.length_map]
    have hfl : bs.flatten.length = m.length := hh.perm.length_eq
    have := mem_flat_len (List.getElem_mem hlt)
    refine find_loop hk03 (hk3.get h3d (by simp)) (q3.keep hk03) (by omega) fun out w' hf => hK out w' ?_
    rw [← hbk, sort_perm (nums_perm hh v)] at hf
    exact hf
end Go.Proofs

set_option linter.unusedVariables false
set_option linter.unusedSimpArgs false
namespace Go.Proofs
open Go Go.Q
set_option maxRecDepth 100000
/-! quayside/quaysideref01.SameInts -/
def ref01_SameInts_s0 (R : Value → World → Prop) (w : World) : Prop :=
  R (.bool true) w
theorem ref01_SameInts_s0_eq (R : Value → World → Prop) : ∀ e w, lift Try.prog 26 (sub (bodyOf Try.f12) [1, 1, 1]) (finK Try.prog Try.f12.results.toList R) e w = ref01_SameInts_s0 R w := fun e w => by kernel_rfl
def ref01_SameInts_b1 (R : Value → World → Prop) (N1 : List Value → World → Prop) (x0 x1 x5 : Value) (w : World) : Prop :=
  lenL x0 fun t13 =>
  qG Try.prog (bq .lss 3 (.tmp 11) (.tmp 13) x5 t13) w fun t14 =>
  bV t14
  (ia 1 x0 x5 fun t19 =>
  ld1 t19 (World.drew w) fun t20 =>
  ia 1 x1 x5 fun t23 =>
  ld1 t23 (World.drew w) fun t24 =>
  qG Try.prog (bq .neq 3 (.tmp 20) (.tmp 24) t20 t24) (World.drew w) fun t25 =>
  bV t25
  (R (.bool false) (World.drew w))
  (qG Try.prog (bq .add 3 (.tmp 15) (.const (.int .i64 1)) x5 (.int .i64 1)) (World.drew w) fun t16 =>
  N1 [x0, x1, t16] (World.drew w)))
  (ref01_SameInts_s0 R  w)
theorem ref01_SameInts_b1_eq (R : Value → World → Prop) (N1 : List Value → World → Prop) : ∀ e w, lift Try.prog 26 (sub (bodyOf Try.f12) [1, 1, 0, 1, 0, 0]) (seqK (fun e w => N1 [e 0, e 1, e 5] w) (blockK 0 (seqK (fun e w => ref01_SameInts_s0 R  w) (finK Try.prog Try.f12.results.toList R)))) e w = ref01_SameInts_b1 R N1 (e 0) (e 1) (e 5) w := fun e w => by kernel_rfl
def ref01_SameInts_L2F (R : Value → World → Prop) (N1 : List Value → World → Prop) (xs : List Value) (w : World) : Prop :=
  match xs with
  | [x0, x1, x5] => ref01_SameInts_b1 R N1 x0 x1 x5 w
  | _ => False
def ref01_SameInts_L2 (R : Value → World → Prop) (x0 x1 x5 : Value) (w : World) : Prop :=
  ∃ m, loopV (ref01_SameInts_L2F R) m [x0, x1, x5] w
theorem ref01_SameInts_L2_eq (R : Value → World → Prop) : ∀ e w, lift Try.prog 26 (sub (bodyOf Try.f12) [1, 1, 0, 1, 0]) (blockK 0 (seqK (fun e w => ref01_SameInts_s0 R  w) (finK Try.prog Try.f12.results.toList R))) e w = ref01_SameInts_L2 R (e 0) (e 1) (e 5) w := loop_seg (F := ref01_SameInts_L2F R) (sel := fun e => [e 0, e 1, e 5]) fun N1 => (ref01_SameInts_b1_eq R N1)
def ref01_SameInts_s3 (R : Value → World → Prop) (x0 x1 : Value) (w : World) : Prop :=
  ref01_SameInts_L2 R x0 x1 (.int .i64 0) w
theorem ref01_SameInts_s3_eq (R : Value → World → Prop) : ∀ e w, lift Try.prog 26 (sub (bodyOf Try.f12) [1, 1, 0]) (seqK (fun e w => ref01_SameInts_s0 R  w) (finK Try.prog Try.f12.results.toList R)) e w = ref01_SameInts_s3 R (e 0) (e 1) w :=
  segs_eq (l := [(sub (bodyOf Try.f12) [1, 1, 0, 0])]) (y := (sub (bodyOf Try.f12) [1, 1, 0, 1])) (Y := (fun e w => ref01_SameInts_L2 R (e 0) (e 1) (e 5) w)) (ref01_SameInts_L2_eq R) (fun e w => by kernel_rfl)
def ref01_SameInts_s4 (R : Value → World → Prop) (x0 x1 : Value) (w : World) : Prop :=
  lenL x0 fun t7 =>
  lenL x1 fun t9 =>
  qG Try.prog (bq .neq 3 (.tmp 7) (.tmp 9) t7 t9) w fun t10 =>
  bV t10
  (R (.bool false) w)
  (ref01_SameInts_s3 R x0 x1 w)
theorem ref01_SameInts_s4_eq (R : Value → World → Prop) : ∀ e w, lift Try.prog 26 (bodyOf Try.f12) (finK Try.prog Try.f12.results.toList R) e w = ref01_SameInts_s4 R (e 0) (e 1) w :=
  segs_eq (l := [(sub (bodyOf Try.f12) [0]), (sub (bodyOf Try.f12) [1, 0])]) (y := (sub (bodyOf Try.f12) [1, 1])) (Y := (fun e w => ref01_SameInts_s3 R (e 0) (e 1) w)) (seq_seg (x := (sub (bodyOf Try.f12) [1, 1, 0])) (y := (sub (bodyOf Try.f12) [1, 1, 1])) (ref01_SameInts_s0_eq R) (ref01_SameInts_s3_eq R)) (fun e w => by kernel_rfl)
def ref01_SameInts (R : Value → World → Prop) (x0 x1 : Value) (w : World) : Prop := ref01_SameInts_s4 R x0 x1 w
theorem ref01_SameInts_call {R : Value → World → Prop} {x0 x1 : Value} {w : World} (h : ref01_SameInts R x0 x1 w) : callG Try.prog 12 #[x0, x1] w R :=
  calls_lift_eq Try.mixed Try.func12 (args := [x0, x1]) rfl rfl rfl rfl ((ref01_SameInts_s4_eq R) (envOf [x0, x1]) w) (by kernel_rfl) h
/-! quayside/quaysidelaw10.done -/
/-! quayside/quaysidelaw10.does -/
/-! quayside/quaysidelaw10.find -/
/-! quayside/quaysidelaw10.awake -/
def law10_awake_s0 (R : Value → World → Prop) (w : World) : Prop :=
  bld [(0, 1), (1, 1), (2, 1)] (zc Try.prog 24) #[(0, (.int .i64 2)), (2, (.string ⟨#[97]⟩))] fun t4 =>
  newG (zc Try.prog 24) 24 w fun t1 w =>
  stn 3 t1 t4 w fun w =>
  bld [(0, 1), (1, 1)] (zc Try.prog 27) #[] fun t5 =>
  newG (zc Try.prog 27) 27 w fun t2 w =>
  stn 2 t2 t5 w fun w =>
  ldn 2 t2 (World.drew w) fun t6 =>
  ldn 3 t1 (World.drew w) fun t7 =>
  ldn 3 t1 (World.drew w) fun t9 =>
  ldn 3 t1 (World.drew w) fun t11 =>
  (callG Try.prog 15 #[t6, t7, (.int .i64 3)] (World.drew w) fun t8 w =>
  ldn 3 t1 w (fun u => u = t11) ∧
  ldn 3 t1 w (fun u => u = t9) ∧
  (callG Try.prog 15 #[t8, t9, (.int .i64 1)] w fun t10 w =>
  ldn 3 t1 w (fun u => u = t11) ∧
  (callG Try.prog 15 #[t10, t11, (.int .i64 3)] w fun t12 w =>
  newG (zc Try.prog 27) 27 w fun t3 w =>
  ldn 3 t1 w (fun u => u = t11) ∧
  ldn 3 t1 w (fun u => u = t9) ∧
  ldn 3 t1 w (fun u => u = t7) ∧
  ldn 2 t2 w (fun u => u = t6) ∧
  stn 2 t3 t12 w fun w =>
  ldn 2 t3 (World.drew w) fun t13 =>
  ldn 3 t1 (World.drew w) fun t14 =>
  (callG Try.prog 13 #[t13, t14] (World.drew w) fun t15 w =>
  bsl 3 1 2 (zc Try.prog 3) #[(0, (.int .i64 1)), (1, (.int .i64 3))] w fun t16 w =>
  ldn 3 t1 w (fun u => u = t14) ∧
  ldn 2 t3 w (fun u => u = t13) ∧
  callG Try.prog 12 #[t15, t16] w fun t17 w =>
  bV t17
  (ldn 2 t3 w fun t19 =>
  callG Try.prog 10 #[t19] w fun t20 w =>
  qG Try.prog (bq .eql 3 (.tmp 20) (.const (.int .i64 2)) t20 (.int .i64 2)) w fun t21 =>
  bV t21
  (ldn 2 t2 w fun t24 =>
  callG Try.prog 10 #[t24] w fun t25 w =>
  qG Try.prog (bq .eql 3 (.tmp 25) (.const (.int .i64 0)) t25 (.int .i64 0)) w fun t26 =>
  bV t26
  (ldn 2 t3 w fun t29 =>
  callG Try.prog 11 #[t29] w fun t30 w =>
  qG Try.prog (bq .eql 3 (.tmp 30) (.const (.int .i64 8)) t30 (.int .i64 8)) w fun t31 =>
  bV t31
  (ldn 2 t3 w fun t34 =>
  ldn 3 t1 w fun t35 =>
  ldn 3 t1 w fun t37 =>
  (callG Try.prog 16 #[t34, t35, (.int .i64 3)] w fun t36 w =>
  ldn 3 t1 w (fun u => u = t37) ∧
  (callG Try.prog 13 #[t36, t37] w fun t38 w =>
  bsl 3 1 1 (zc Try.prog 3) #[(0, (.int .i64 1))] w fun t39 w =>
  ldn 3 t1 w (fun u => u = t37) ∧
  ldn 3 t1 w (fun u => u = t35) ∧
  ldn 2 t3 w (fun u => u = t34) ∧
  callG Try.prog 12 #[t38, t39] w fun t40 w =>
  bV t40
  (ldn 2 t3 w fun t43 =>
  bld [(0, 1), (1, 1), (2, 1)] (zc Try.prog 24) #[] fun t44 =>
  callG Try.prog 13 #[t43, t44] w fun t45 w =>
  lenL t45 fun t46 =>
  qG Try.prog (bq .eql 3 (.tmp 46) (.const (.int .i64 0)) t46 (.int .i64 0)) w fun t47 =>
  R t47 w)
  (R (.bool false) w)) ∧
  (bsl 3 1 1 (zc Try.prog 3) #[(0, (.int .i64 1))] w fun t39_1 w =>
  ldn 3 t1 w (fun u => u = t37) ∧
  ldn 3 t1 w (fun u => u = t35) ∧
  ldn 2 t3 w (fun u => u = t34) ∧
  callG Try.prog 13 #[t36, t37] w fun t38_1 w =>
  callG Try.prog 12 #[t38_1, t39_1] w fun t40_1 w =>
  bV t40_1
  (ldn 2 t3 w fun t43_1 =>
  bld [(0, 1), (1, 1), (2, 1)] (zc Try.prog 24) #[] fun t44_1 =>
  callG Try.prog 13 #[t43_1, t44_1] w fun t45_1 w =>
  lenL t45_1 fun t46_1 =>
  qG Try.prog (bq .eql 3 (.tmp 46) (.const (.int .i64 0)) t46_1 (.int .i64 0)) w fun t47_1 =>
  R t47_1 w)
  (R (.bool false) w))) ∧
  (bsl 3 1 1 (zc Try.prog 3) #[(0, (.int .i64 1))] w fun t39_2 w =>
  ldn 3 t1 w (fun u => u = t37) ∧
  ldn 3 t1 w (fun u => u = t35) ∧
  ldn 2 t3 w (fun u => u = t34) ∧
  callG Try.prog 16 #[t34, t35, (.int .i64 3)] w fun t36_1 w =>
  ldn 3 t1 w (fun u => u = t37) ∧
  callG Try.prog 13 #[t36_1, t37] w fun t38_2 w =>
  callG Try.prog 12 #[t38_2, t39_2] w fun t40_2 w =>
  bV t40_2
  (ldn 2 t3 w fun t43_2 =>
  bld [(0, 1), (1, 1), (2, 1)] (zc Try.prog 24) #[] fun t44_2 =>
  callG Try.prog 13 #[t43_2, t44_2] w fun t45_2 w =>
  lenL t45_2 fun t46_2 =>
  qG Try.prog (bq .eql 3 (.tmp 46) (.const (.int .i64 0)) t46_2 (.int .i64 0)) w fun t47_2 =>
  R t47_2 w)
  (R (.bool false) w)))
  (((R (.bool false) w) ∧
  (R (.bool false) w)) ∧
  (R (.bool false) w)))
  (((R (.bool false) w) ∧
  (R (.bool false) w)) ∧
  (R (.bool false) w)))
  (((R (.bool false) w) ∧
  (R (.bool false) w)) ∧
  (R (.bool false) w)))
  (((R (.bool false) w) ∧
  (R (.bool false) w)) ∧
  (R (.bool false) w))) ∧
  (bsl 3 1 2 (zc Try.prog 3) #[(0, (.int .i64 1)), (1, (.int .i64 3))] (World.drew w) fun t16_1 w =>
  ldn 3 t1 w (fun u => u = t14) ∧
  ldn 2 t3 w (fun u => u = t13) ∧
  callG Try.prog 13 #[t13, t14] w fun t15_1 w =>
  callG Try.prog 12 #[t15_1, t16_1] w fun t17_1 w =>
  bV t17_1
  (ldn 2 t3 w fun t19_1 =>
  callG Try.prog 10 #[t19_1] w fun t20_1 w =>
  qG Try.prog (bq .eql 3 (.tmp 20) (.const (.int .i64 2)) t20_1 (.int .i64 2)) w fun t21_1 =>
  bV t21_1
  (ldn 2 t2 w fun t24_1 =>
  callG Try.prog 10 #[t24_1] w fun t25_1 w =>
  qG Try.prog (bq .eql 3 (.tmp 25) (.const (.int .i64 0)) t25_1 (.int .i64 0)) w fun t26_1 =>
  bV t26_1
  (ldn 2 t3 w fun t29_1 =>
  callG Try.prog 11 #[t29_1] w fun t30_1 w =>
  qG Try.prog (bq .eql 3 (.tmp 30) (.const (.int .i64 8)) t30_1 (.int .i64 8)) w fun t31_1 =>
  bV t31_1
  (ldn 2 t3 w fun t34_1 =>
  ldn 3 t1 w fun t35_1 =>
  ldn 3 t1 w fun t37_1 =>
  (callG Try.prog 16 #[t34_1, t35_1, (.int .i64 3)] w fun t36_2 w =>
  ldn 3 t1 w (fun u => u = t37_1) ∧
  (callG Try.prog 13 #[t36_2, t37_1] w fun t38_3 w =>
  bsl 3 1 1 (zc Try.prog 3) #[(0, (.int .i64 1))] w fun t39_3 w =>
  ldn 3 t1 w (fun u => u = t37_1) ∧
  ldn 3 t1 w (fun u => u = t35_1) ∧
  ldn 2 t3 w (fun u => u = t34_1) ∧
  callG Try.prog 12 #[t38_3, t39_3] w fun t40_3 w =>
  bV t40_3
  (ldn 2 t3 w fun t43_3 =>
  bld [(0, 1), (1, 1), (2, 1)] (zc Try.prog 24) #[] fun t44_3 =>
  callG Try.prog 13 #[t43_3, t44_3] w fun t45_3 w =>
  lenL t45_3 fun t46_3 =>
  qG Try.prog (bq .eql 3 (.tmp 46) (.const (.int .i64 0)) t46_3 (.int .i64 0)) w fun t47_3 =>
  R t47_3 w)
  (R (.bool false) w)) ∧
  (bsl 3 1 1 (zc Try.prog 3) #[(0, (.int .i64 1))] w fun t39_4 w =>
  ldn 3 t1 w (fun u => u = t37_1) ∧
  ldn 3 t1 w (fun u => u = t35_1) ∧
  ldn 2 t3 w (fun u => u = t34_1) ∧
  callG Try.prog 13 #[t36_2, t37_1] w fun t38_4 w =>
  callG Try.prog 12 #[t38_4, t39_4] w fun t40_4 w =>
  bV t40_4
  (ldn 2 t3 w fun t43_4 =>
  bld [(0, 1), (1, 1), (2, 1)] (zc Try.prog 24) #[] fun t44_4 =>
  callG Try.prog 13 #[t43_4, t44_4] w fun t45_4 w =>
  lenL t45_4 fun t46_4 =>
  qG Try.prog (bq .eql 3 (.tmp 46) (.const (.int .i64 0)) t46_4 (.int .i64 0)) w fun t47_4 =>
  R t47_4 w)
  (R (.bool false) w))) ∧
  (bsl 3 1 1 (zc Try.prog 3) #[(0, (.int .i64 1))] w fun t39_5 w =>
  ldn 3 t1 w (fun u => u = t37_1) ∧
  ldn 3 t1 w (fun u => u = t35_1) ∧
  ldn 2 t3 w (fun u => u = t34_1) ∧
  callG Try.prog 16 #[t34_1, t35_1, (.int .i64 3)] w fun t36_3 w =>
  ldn 3 t1 w (fun u => u = t37_1) ∧
  callG Try.prog 13 #[t36_3, t37_1] w fun t38_5 w =>
  callG Try.prog 12 #[t38_5, t39_5] w fun t40_5 w =>
  bV t40_5
  (ldn 2 t3 w fun t43_5 =>
  bld [(0, 1), (1, 1), (2, 1)] (zc Try.prog 24) #[] fun t44_5 =>
  callG Try.prog 13 #[t43_5, t44_5] w fun t45_5 w =>
  lenL t45_5 fun t46_5 =>
  qG Try.prog (bq .eql 3 (.tmp 46) (.const (.int .i64 0)) t46_5 (.int .i64 0)) w fun t47_5 =>
  R t47_5 w)
  (R (.bool false) w)))
  (((R (.bool false) w) ∧
  (R (.bool false) w)) ∧
  (R (.bool false) w)))
  (((R (.bool false) w) ∧
  (R (.bool false) w)) ∧
  (R (.bool false) w)))
  (((R (.bool false) w) ∧
  (R (.bool false) w)) ∧
  (R (.bool false) w)))
  (((R (.bool false) w) ∧
  (R (.bool false) w)) ∧
  (R (.bool false) w)))) ∧
  (newG (zc Try.prog 27) 27 w fun t3_1 w =>
  ldn 3 t1 w (fun u => u = t11) ∧
  ldn 3 t1 w (fun u => u = t9) ∧
  ldn 3 t1 w (fun u => u = t7) ∧
  ldn 2 t2 w (fun u => u = t6) ∧
  callG Try.prog 15 #[t10, t11, (.int .i64 3)] w fun t12_1 w =>
  stn 2 t3_1 t12_1 w fun w =>
  ldn 2 t3_1 (World.drew w) fun t13_1 =>
  ldn 3 t1 (World.drew w) fun t14_1 =>
  (callG Try.prog 13 #[t13_1, t14_1] (World.drew w) fun t15_2 w =>
  bsl 3 1 2 (zc Try.prog 3) #[(0, (.int .i64 1)), (1, (.int .i64 3))] w fun t16_2 w =>
  ldn 3 t1 w (fun u => u = t14_1) ∧
  ldn 2 t3_1 w (fun u => u = t13_1) ∧
  callG Try.prog 12 #[t15_2, t16_2] w fun t17_2 w =>
  bV t17_2
  (ldn 2 t3_1 w fun t19_2 =>
  callG Try.prog 10 #[t19_2] w fun t20_2 w =>
  qG Try.prog (bq .eql 3 (.tmp 20) (.const (.int .i64 2)) t20_2 (.int .i64 2)) w fun t21_2 =>
  bV t21_2
  (ldn 2 t2 w fun t24_2 =>
  callG Try.prog 10 #[t24_2] w fun t25_2 w =>
  qG Try.prog (bq .eql 3 (.tmp 25) (.const (.int .i64 0)) t25_2 (.int .i64 0)) w fun t26_2 =>
  bV t26_2
  (ldn 2 t3_1 w fun t29_2 =>
  callG Try.prog 11 #[t29_2] w fun t30_2 w =>
  qG Try.prog (bq .eql 3 (.tmp 30) (.const (.int .i64 8)) t30_2 (.int .i64 8)) w fun t31_2 =>
  bV t31_2
  (ldn 2 t3_1 w fun t34_2 =>
  ldn 3 t1 w fun t35_2 =>
  ldn 3 t1 w fun t37_2 =>
  (callG Try.prog 16 #[t34_2, t35_2, (.int .i64 3)] w fun t36_4 w =>
  ldn 3 t1 w (fun u => u = t37_2) ∧
  (callG Try.prog 13 #[t36_4, t37_2] w fun t38_6 w =>
  bsl 3 1 1 (zc Try.prog 3) #[(0, (.int .i64 1))] w fun t39_6 w =>
  ldn 3 t1 w (fun u => u = t37_2) ∧
  ldn 3 t1 w (fun u => u = t35_2) ∧
  ldn 2 t3_1 w (fun u => u = t34_2) ∧
  callG Try.prog 12 #[t38_6, t39_6] w fun t40_6 w =>
  bV t40_6
  (ldn 2 t3_1 w fun t43_6 =>
  bld [(0, 1), (1, 1), (2, 1)] (zc Try.prog 24) #[] fun t44_6 =>
  callG Try.prog 13 #[t43_6, t44_6] w fun t45_6 w =>
  lenL t45_6 fun t46_6 =>
  qG Try.prog (bq .eql 3 (.tmp 46) (.const (.int .i64 0)) t46_6 (.int .i64 0)) w fun t47_6 =>
  R t47_6 w)
  (R (.bool false) w)) ∧
  (bsl 3 1 1 (zc Try.prog 3) #[(0, (.int .i64 1))] w fun t39_7 w =>
  ldn 3 t1 w (fun u => u = t37_2) ∧
  ldn 3 t1 w (fun u => u = t35_2) ∧
  ldn 2 t3_1 w (fun u => u = t34_2) ∧
  callG Try.prog 13 #[t36_4, t37_2] w fun t38_7 w =>
  callG Try.prog 12 #[t38_7, t39_7] w fun t40_7 w =>
  bV t40_7
  (ldn 2 t3_1 w fun t43_7 =>
  bld [(0, 1), (1, 1), (2, 1)] (zc Try.prog 24) #[] fun t44_7 =>
  callG Try.prog 13 #[t43_7, t44_7] w fun t45_7 w =>
  lenL t45_7 fun t46_7 =>
  qG Try.prog (bq .eql 3 (.tmp 46) (.const (.int .i64 0)) t46_7 (.int .i64 0)) w fun t47_7 =>
  R t47_7 w)
  (R (.bool false) w))) ∧
  (bsl 3 1 1 (zc Try.prog 3) #[(0, (.int .i64 1))] w fun t39_8 w =>
  ldn 3 t1 w (fun u => u = t37_2) ∧
  ldn 3 t1 w (fun u => u = t35_2) ∧
  ldn 2 t3_1 w (fun u => u = t34_2) ∧
  callG Try.prog 16 #[t34_2, t35_2, (.int .i64 3)] w fun t36_5 w =>
  ldn 3 t1 w (fun u => u = t37_2) ∧
  callG Try.prog 13 #[t36_5, t37_2] w fun t38_8 w =>
  callG Try.prog 12 #[t38_8, t39_8] w fun t40_8 w =>
  bV t40_8
  (ldn 2 t3_1 w fun t43_8 =>
  bld [(0, 1), (1, 1), (2, 1)] (zc Try.prog 24) #[] fun t44_8 =>
  callG Try.prog 13 #[t43_8, t44_8] w fun t45_8 w =>
  lenL t45_8 fun t46_8 =>
  qG Try.prog (bq .eql 3 (.tmp 46) (.const (.int .i64 0)) t46_8 (.int .i64 0)) w fun t47_8 =>
  R t47_8 w)
  (R (.bool false) w)))
  (((R (.bool false) w) ∧
  (R (.bool false) w)) ∧
  (R (.bool false) w)))
  (((R (.bool false) w) ∧
  (R (.bool false) w)) ∧
  (R (.bool false) w)))
  (((R (.bool false) w) ∧
  (R (.bool false) w)) ∧
  (R (.bool false) w)))
  (((R (.bool false) w) ∧
  (R (.bool false) w)) ∧
  (R (.bool false) w))) ∧
  (bsl 3 1 2 (zc Try.prog 3) #[(0, (.int .i64 1)), (1, (.int .i64 3))] (World.drew w) fun t16_3 w =>
  ldn 3 t1 w (fun u => u = t14_1) ∧
  ldn 2 t3_1 w (fun u => u = t13_1) ∧
  callG Try.prog 13 #[t13_1, t14_1] w fun t15_3 w =>
  callG Try.prog 12 #[t15_3, t16_3] w fun t17_3 w =>
  bV t17_3
  (ldn 2 t3_1 w fun t19_3 =>
  callG Try.prog 10 #[t19_3] w fun t20_3 w =>
  qG Try.prog (bq .eql 3 (.tmp 20) (.const (.int .i64 2)) t20_3 (.int .i64 2)) w fun t21_3 =>
  bV t21_3
  (ldn 2 t2 w fun t24_3 =>
  callG Try.prog 10 #[t24_3] w fun t25_3 w =>
  qG Try.prog (bq .eql 3 (.tmp 25) (.const (.int .i64 0)) t25_3 (.int .i64 0)) w fun t26_3 =>
  bV t26_3
  (ldn 2 t3_1 w fun t29_3 =>
  callG Try.prog 11 #[t29_3] w fun t30_3 w =>
  qG Try.prog (bq .eql 3 (.tmp 30) (.const (.int .i64 8)) t30_3 (.int .i64 8)) w fun t31_3 =>
  bV t31_3
  (ldn 2 t3_1 w fun t34_3 =>
  ldn 3 t1 w fun t35_3 =>
  ldn 3 t1 w fun t37_3 =>
  (callG Try.prog 16 #[t34_3, t35_3, (.int .i64 3)] w fun t36_6 w =>
  ldn 3 t1 w (fun u => u = t37_3) ∧
  (callG Try.prog 13 #[t36_6, t37_3] w fun t38_9 w =>
  bsl 3 1 1 (zc Try.prog 3) #[(0, (.int .i64 1))] w fun t39_9 w =>
  ldn 3 t1 w (fun u => u = t37_3) ∧
  ldn 3 t1 w (fun u => u = t35_3) ∧
  ldn 2 t3_1 w (fun u => u = t34_3) ∧
  callG Try.prog 12 #[t38_9, t39_9] w fun t40_9 w =>
  bV t40_9
  (ldn 2 t3_1 w fun t43_9 =>
  bld [(0, 1), (1, 1), (2, 1)] (zc Try.prog 24) #[] fun t44_9 =>
  callG Try.prog 13 #[t43_9, t44_9] w fun t45_9 w =>
  lenL t45_9 fun t46_9 =>
  qG Try.prog (bq .eql 3 (.tmp 46) (.const (.int .i64 0)) t46_9 (.int .i64 0)) w fun t47_9 =>
  R t47_9 w)
  (R (.bool false) w)) ∧
  (bsl 3 1 1 (zc Try.prog 3) #[(0, (.int .i64 1))] w fun t39_10 w =>
  ldn 3 t1 w (fun u => u = t37_3) ∧
  ldn 3 t1 w (fun u => u = t35_3) ∧
  ldn 2 t3_1 w (fun u => u = t34_3) ∧
  callG Try.prog 13 #[t36_6, t37_3] w fun t38_10 w =>
  callG Try.prog 12 #[t38_10, t39_10] w fun t40_10 w =>
  bV t40_10
  (ldn 2 t3_1 w fun t43_10 =>
  bld [(0, 1), (1, 1), (2, 1)] (zc Try.prog 24) #[] fun t44_10 =>
  callG Try.prog 13 #[t43_10, t44_10] w fun t45_10 w =>
  lenL t45_10 fun t46_10 =>
  qG Try.prog (bq .eql 3 (.tmp 46) (.const (.int .i64 0)) t46_10 (.int .i64 0)) w fun t47_10 =>
  R t47_10 w)
  (R (.bool false) w))) ∧
  (bsl 3 1 1 (zc Try.prog 3) #[(0, (.int .i64 1))] w fun t39_11 w =>
  ldn 3 t1 w (fun u => u = t37_3) ∧
  ldn 3 t1 w (fun u => u = t35_3) ∧
  ldn 2 t3_1 w (fun u => u = t34_3) ∧
  callG Try.prog 16 #[t34_3, t35_3, (.int .i64 3)] w fun t36_7 w =>
  ldn 3 t1 w (fun u => u = t37_3) ∧
  callG Try.prog 13 #[t36_7, t37_3] w fun t38_11 w =>
  callG Try.prog 12 #[t38_11, t39_11] w fun t40_11 w =>
  bV t40_11
  (ldn 2 t3_1 w fun t43_11 =>
  bld [(0, 1), (1, 1), (2, 1)] (zc Try.prog 24) #[] fun t44_11 =>
  callG Try.prog 13 #[t43_11, t44_11] w fun t45_11 w =>
  lenL t45_11 fun t46_11 =>
  qG Try.prog (bq .eql 3 (.tmp 46) (.const (.int .i64 0)) t46_11 (.int .i64 0)) w fun t47_11 =>
  R t47_11 w)
  (R (.bool false) w)))
  (((R (.bool false) w) ∧
  (R (.bool false) w)) ∧
  (R (.bool false) w)))
  (((R (.bool false) w) ∧
  (R (.bool false) w)) ∧
  (R (.bool false) w)))
  (((R (.bool false) w) ∧
  (R (.bool false) w)) ∧
  (R (.bool false) w)))
  (((R (.bool false) w) ∧
  (R (.bool false) w)) ∧
  (R (.bool false) w))))) ∧
  (newG (zc Try.prog 27) 27 w fun t3_2 w =>
  ldn 3 t1 w (fun u => u = t11) ∧
  ldn 3 t1 w (fun u => u = t9) ∧
  ldn 3 t1 w (fun u => u = t7) ∧
  ldn 2 t2 w (fun u => u = t6) ∧
  callG Try.prog 15 #[t8, t9, (.int .i64 1)] w fun t10_1 w =>
  ldn 3 t1 w (fun u => u = t11) ∧
  callG Try.prog 15 #[t10_1, t11, (.int .i64 3)] w fun t12_2 w =>
  stn 2 t3_2 t12_2 w fun w =>
  ldn 2 t3_2 (World.drew w) fun t13_2 =>
  ldn 3 t1 (World.drew w) fun t14_2 =>
  (callG Try.prog 13 #[t13_2, t14_2] (World.drew w) fun t15_4 w =>
  bsl 3 1 2 (zc Try.prog 3) #[(0, (.int .i64 1)), (1, (.int .i64 3))] w fun t16_4 w =>
  ldn 3 t1 w (fun u => u = t14_2) ∧
  ldn 2 t3_2 w (fun u => u = t13_2) ∧
  callG Try.prog 12 #[t15_4, t16_4] w fun t17_4 w =>
  bV t17_4
  (ldn 2 t3_2 w fun t19_4 =>
  callG Try.prog 10 #[t19_4] w fun t20_4 w =>
  qG Try.prog (bq .eql 3 (.tmp 20) (.const (.int .i64 2)) t20_4 (.int .i64 2)) w fun t21_4 =>
  bV t21_4
  (ldn 2 t2 w fun t24_4 =>
  callG Try.prog 10 #[t24_4] w fun t25_4 w =>
  qG Try.prog (bq .eql 3 (.tmp 25) (.const (.int .i64 0)) t25_4 (.int .i64 0)) w fun t26_4 =>
  bV t26_4
  (ldn 2 t3_2 w fun t29_4 =>
  callG Try.prog 11 #[t29_4] w fun t30_4 w =>
  qG Try.prog (bq .eql 3 (.tmp 30) (.const (.int .i64 8)) t30_4 (.int .i64 8)) w fun t31_4 =>
  bV t31_4
  (ldn 2 t3_2 w fun t34_4 =>
  ldn 3 t1 w fun t35_4 =>
  ldn 3 t1 w fun t37_4 =>
  (callG Try.prog 16 #[t34_4, t35_4, (.int .i64 3)] w fun t36_8 w =>
  ldn 3 t1 w (fun u => u = t37_4) ∧
  (callG Try.prog 13 #[t36_8, t37_4] w fun t38_12 w =>
  bsl 3 1 1 (zc Try.prog 3) #[(0, (.int .i64 1))] w fun t39_12 w =>
  ldn 3 t1 w (fun u => u = t37_4) ∧
  ldn 3 t1 w (fun u => u = t35_4) ∧
  ldn 2 t3_2 w (fun u => u = t34_4) ∧
  callG Try.prog 12 #[t38_12, t39_12] w fun t40_12 w =>
  bV t40_12
  (ldn 2 t3_2 w fun t43_12 =>
  bld [(0, 1), (1, 1), (2, 1)] (zc Try.prog 24) #[] fun t44_12 =>
  callG Try.prog 13 #[t43_12, t44_12] w fun t45_12 w =>
  lenL t45_12 fun t46_12 =>
  qG Try.prog (bq .eql 3 (.tmp 46) (.const (.int .i64 0)) t46_12 (.int .i64 0)) w fun t47_12 =>
  R t47_12 w)
  (R (.bool false) w)) ∧
  (bsl 3 1 1 (zc Try.prog 3) #[(0, (.int .i64 1))] w fun t39_13 w =>
  ldn 3 t1 w (fun u => u = t37_4) ∧
  ldn 3 t1 w (fun u => u = t35_4) ∧
  ldn 2 t3_2 w (fun u => u = t34_4) ∧
  callG Try.prog 13 #[t36_8, t37_4] w fun t38_13 w =>
  callG Try.prog 12 #[t38_13, t39_13] w fun t40_13 w =>
  bV t40_13
  (ldn 2 t3_2 w fun t43_13 =>
  bld [(0, 1), (1, 1), (2, 1)] (zc Try.prog 24) #[] fun t44_13 =>
  callG Try.prog 13 #[t43_13, t44_13] w fun t45_13 w =>
  lenL t45_13 fun t46_13 =>
  qG Try.prog (bq .eql 3 (.tmp 46) (.const (.int .i64 0)) t46_13 (.int .i64 0)) w fun t47_13 =>
  R t47_13 w)
  (R (.bool false) w))) ∧
  (bsl 3 1 1 (zc Try.prog 3) #[(0, (.int .i64 1))] w fun t39_14 w =>
  ldn 3 t1 w (fun u => u = t37_4) ∧
  ldn 3 t1 w (fun u => u = t35_4) ∧
  ldn 2 t3_2 w (fun u => u = t34_4) ∧
  callG Try.prog 16 #[t34_4, t35_4, (.int .i64 3)] w fun t36_9 w =>
  ldn 3 t1 w (fun u => u = t37_4) ∧
  callG Try.prog 13 #[t36_9, t37_4] w fun t38_14 w =>
  callG Try.prog 12 #[t38_14, t39_14] w fun t40_14 w =>
  bV t40_14
  (ldn 2 t3_2 w fun t43_14 =>
  bld [(0, 1), (1, 1), (2, 1)] (zc Try.prog 24) #[] fun t44_14 =>
  callG Try.prog 13 #[t43_14, t44_14] w fun t45_14 w =>
  lenL t45_14 fun t46_14 =>
  qG Try.prog (bq .eql 3 (.tmp 46) (.const (.int .i64 0)) t46_14 (.int .i64 0)) w fun t47_14 =>
  R t47_14 w)
  (R (.bool false) w)))
  (((R (.bool false) w) ∧
  (R (.bool false) w)) ∧
  (R (.bool false) w)))
  (((R (.bool false) w) ∧
  (R (.bool false) w)) ∧
  (R (.bool false) w)))
  (((R (.bool false) w) ∧
  (R (.bool false) w)) ∧
  (R (.bool false) w)))
  (((R (.bool false) w) ∧
  (R (.bool false) w)) ∧
  (R (.bool false) w))) ∧
  (bsl 3 1 2 (zc Try.prog 3) #[(0, (.int .i64 1)), (1, (.int .i64 3))] (World.drew w) fun t16_5 w =>
  ldn 3 t1 w (fun u => u = t14_2) ∧
  ldn 2 t3_2 w (fun u => u = t13_2) ∧
  callG Try.prog 13 #[t13_2, t14_2] w fun t15_5 w =>
  callG Try.prog 12 #[t15_5, t16_5] w fun t17_5 w =>
  bV t17_5
  (ldn 2 t3_2 w fun t19_5 =>
  callG Try.prog 10 #[t19_5] w fun t20_5 w =>
  qG Try.prog (bq .eql 3 (.tmp 20) (.const (.int .i64 2)) t20_5 (.int .i64 2)) w fun t21_5 =>
  bV t21_5
  (ldn 2 t2 w fun t24_5 =>
  callG Try.prog 10 #[t24_5] w fun t25_5 w =>
  qG Try.prog (bq .eql 3 (.tmp 25) (.const (.int .i64 0)) t25_5 (.int .i64 0)) w fun t26_5 =>
  bV t26_5
  (ldn 2 t3_2 w fun t29_5 =>
  callG Try.prog 11 #[t29_5] w fun t30_5 w =>
  qG Try.prog (bq .eql 3 (.tmp 30) (.const (.int .i64 8)) t30_5 (.int .i64 8)) w fun t31_5 =>
  bV t31_5
  (ldn 2 t3_2 w fun t34_5 =>
  ldn 3 t1 w fun t35_5 =>
  ldn 3 t1 w fun t37_5 =>
  (callG Try.prog 16 #[t34_5, t35_5, (.int .i64 3)] w fun t36_10 w =>
  ldn 3 t1 w (fun u => u = t37_5) ∧
  (callG Try.prog 13 #[t36_10, t37_5] w fun t38_15 w =>
  bsl 3 1 1 (zc Try.prog 3) #[(0, (.int .i64 1))] w fun t39_15 w =>
  ldn 3 t1 w (fun u => u = t37_5) ∧
  ldn 3 t1 w (fun u => u = t35_5) ∧
  ldn 2 t3_2 w (fun u => u = t34_5) ∧
  callG Try.prog 12 #[t38_15, t39_15] w fun t40_15 w =>
  bV t40_15
  (ldn 2 t3_2 w fun t43_15 =>
  bld [(0, 1), (1, 1), (2, 1)] (zc Try.prog 24) #[] fun t44_15 =>
  callG Try.prog 13 #[t43_15, t44_15] w fun t45_15 w =>
  lenL t45_15 fun t46_15 =>
  qG Try.prog (bq .eql 3 (.tmp 46) (.const (.int .i64 0)) t46_15 (.int .i64 0)) w fun t47_15 =>
  R t47_15 w)
  (R (.bool false) w)) ∧
  (bsl 3 1 1 (zc Try.prog 3) #[(0, (.int .i64 1))] w fun t39_16 w =>
  ldn 3 t1 w (fun u => u = t37_5) ∧
  ldn 3 t1 w (fun u => u = t35_5) ∧
  ldn 2 t3_2 w (fun u => u = t34_5) ∧
  callG Try.prog 13 #[t36_10, t37_5] w fun t38_16 w =>
  callG Try.prog 12 #[t38_16, t39_16] w fun t40_16 w =>
  bV t40_16
  (ldn 2 t3_2 w fun t43_16 =>
  bld [(0, 1), (1, 1), (2, 1)] (zc Try.prog 24) #[] fun t44_16 =>
  callG Try.prog 13 #[t43_16, t44_16] w fun t45_16 w =>
  lenL t45_16 fun t46_16 =>
  qG Try.prog (bq .eql 3 (.tmp 46) (.const (.int .i64 0)) t46_16 (.int .i64 0)) w fun t47_16 =>
  R t47_16 w)
  (R (.bool false) w))) ∧
  (bsl 3 1 1 (zc Try.prog 3) #[(0, (.int .i64 1))] w fun t39_17 w =>
  ldn 3 t1 w (fun u => u = t37_5) ∧
  ldn 3 t1 w (fun u => u = t35_5) ∧
  ldn 2 t3_2 w (fun u => u = t34_5) ∧
  callG Try.prog 16 #[t34_5, t35_5, (.int .i64 3)] w fun t36_11 w =>
  ldn 3 t1 w (fun u => u = t37_5) ∧
  callG Try.prog 13 #[t36_11, t37_5] w fun t38_17 w =>
  callG Try.prog 12 #[t38_17, t39_17] w fun t40_17 w =>
  bV t40_17
  (ldn 2 t3_2 w fun t43_17 =>
  bld [(0, 1), (1, 1), (2, 1)] (zc Try.prog 24) #[] fun t44_17 =>
  callG Try.prog 13 #[t43_17, t44_17] w fun t45_17 w =>
  lenL t45_17 fun t46_17 =>
  qG Try.prog (bq .eql 3 (.tmp 46) (.const (.int .i64 0)) t46_17 (.int .i64 0)) w fun t47_17 =>
  R t47_17 w)
  (R (.bool false) w)))
  (((R (.bool false) w) ∧
  (R (.bool false) w)) ∧
  (R (.bool false) w)))
  (((R (.bool false) w) ∧
  (R (.bool false) w)) ∧
  (R (.bool false) w)))
  (((R (.bool false) w) ∧
  (R (.bool false) w)) ∧
  (R (.bool false) w)))
  (((R (.bool false) w) ∧
  (R (.bool false) w)) ∧
  (R (.bool false) w))))) ∧
  (newG (zc Try.prog 27) 27 (World.drew w) fun t3_3 w =>
  ldn 3 t1 w (fun u => u = t11) ∧
  ldn 3 t1 w (fun u => u = t9) ∧
  ldn 3 t1 w (fun u => u = t7) ∧
  ldn 2 t2 w (fun u => u = t6) ∧
  callG Try.prog 15 #[t6, t7, (.int .i64 3)] w fun t8_1 w =>
  ldn 3 t1 w (fun u => u = t11) ∧
  ldn 3 t1 w (fun u => u = t9) ∧
  callG Try.prog 15 #[t8_1, t9, (.int .i64 1)] w fun t10_2 w =>
  ldn 3 t1 w (fun u => u = t11) ∧
  callG Try.prog 15 #[t10_2, t11, (.int .i64 3)] w fun t12_3 w =>
  stn 2 t3_3 t12_3 w fun w =>
  ldn 2 t3_3 (World.drew w) fun t13_3 =>
  ldn 3 t1 (World.drew w) fun t14_3 =>
  (callG Try.prog 13 #[t13_3, t14_3] (World.drew w) fun t15_6 w =>
  bsl 3 1 2 (zc Try.prog 3) #[(0, (.int .i64 1)), (1, (.int .i64 3))] w fun t16_6 w =>
  ldn 3 t1 w (fun u => u = t14_3) ∧
  ldn 2 t3_3 w (fun u => u = t13_3) ∧
  callG Try.prog 12 #[t15_6, t16_6] w fun t17_6 w =>
  bV t17_6
  (ldn 2 t3_3 w fun t19_6 =>
  callG Try.prog 10 #[t19_6] w fun t20_6 w =>
  qG Try.prog (bq .eql 3 (.tmp 20) (.const (.int .i64 2)) t20_6 (.int .i64 2)) w fun t21_6 =>
  bV t21_6
  (ldn 2 t2 w fun t24_6 =>
  callG Try.prog 10 #[t24_6] w fun t25_6 w =>
  qG Try.prog (bq .eql 3 (.tmp 25) (.const (.int .i64 0)) t25_6 (.int .i64 0)) w fun t26_6 =>
  bV t26_6
  (ldn 2 t3_3 w fun t29_6 =>
  callG Try.prog 11 #[t29_6] w fun t30_6 w =>
  qG Try.prog (bq .eql 3 (.tmp 30) (.const (.int .i64 8)) t30_6 (.int .i64 8)) w fun t31_6 =>
  bV t31_6
  (ldn 2 t3_3 w fun t34_6 =>
  ldn 3 t1 w fun t35_6 =>
  ldn 3 t1 w fun t37_6 =>
  (callG Try.prog 16 #[t34_6, t35_6, (.int .i64 3)] w fun t36_12 w =>
  ldn 3 t1 w (fun u => u = t37_6) ∧
  (callG Try.prog 13 #[t36_12, t37_6] w fun t38_18 w =>
  bsl 3 1 1 (zc Try.prog 3) #[(0, (.int .i64 1))] w fun t39_18 w =>
  ldn 3 t1 w (fun u => u = t37_6) ∧
  ldn 3 t1 w (fun u => u = t35_6) ∧
  ldn 2 t3_3 w (fun u => u = t34_6) ∧
  callG Try.prog 12 #[t38_18, t39_18] w fun t40_18 w =>
  bV t40_18
  (ldn 2 t3_3 w fun t43_18 =>
  bld [(0, 1), (1, 1), (2, 1)] (zc Try.prog 24) #[] fun t44_18 =>
  callG Try.prog 13 #[t43_18, t44_18] w fun t45_18 w =>
  lenL t45_18 fun t46_18 =>
  qG Try.prog (bq .eql 3 (.tmp 46) (.const (.int .i64 0)) t46_18 (.int .i64 0)) w fun t47_18 =>
  R t47_18 w)
  (R (.bool false) w)) ∧
  (bsl 3 1 1 (zc Try.prog 3) #[(0, (.int .i64 1))] w fun t39_19 w =>
  ldn 3 t1 w (fun u => u = t37_6) ∧
  ldn 3 t1 w (fun u => u = t35_6) ∧
  ldn 2 t3_3 w (fun u => u = t34_6) ∧
  callG Try.prog 13 #[t36_12, t37_6] w fun t38_19 w =>
  callG Try.prog 12 #[t38_19, t39_19] w fun t40_19 w =>
  bV t40_19
  (ldn 2 t3_3 w fun t43_19 =>
  bld [(0, 1), (1, 1), (2, 1)] (zc Try.prog 24) #[] fun t44_19 =>
  callG Try.prog 13 #[t43_19, t44_19] w fun t45_19 w =>
  lenL t45_19 fun t46_19 =>
  qG Try.prog (bq .eql 3 (.tmp 46) (.const (.int .i64 0)) t46_19 (.int .i64 0)) w fun t47_19 =>
  R t47_19 w)
  (R (.bool false) w))) ∧
  (bsl 3 1 1 (zc Try.prog 3) #[(0, (.int .i64 1))] w fun t39_20 w =>
  ldn 3 t1 w (fun u => u = t37_6) ∧
  ldn 3 t1 w (fun u => u = t35_6) ∧
  ldn 2 t3_3 w (fun u => u = t34_6) ∧
  callG Try.prog 16 #[t34_6, t35_6, (.int .i64 3)] w fun t36_13 w =>
  ldn 3 t1 w (fun u => u = t37_6) ∧
  callG Try.prog 13 #[t36_13, t37_6] w fun t38_20 w =>
  callG Try.prog 12 #[t38_20, t39_20] w fun t40_20 w =>
  bV t40_20
  (ldn 2 t3_3 w fun t43_20 =>
  bld [(0, 1), (1, 1), (2, 1)] (zc Try.prog 24) #[] fun t44_20 =>
  callG Try.prog 13 #[t43_20, t44_20] w fun t45_20 w =>
  lenL t45_20 fun t46_20 =>
  qG Try.prog (bq .eql 3 (.tmp 46) (.const (.int .i64 0)) t46_20 (.int .i64 0)) w fun t47_20 =>
  R t47_20 w)
  (R (.bool false) w)))
  (((R (.bool false) w) ∧
  (R (.bool false) w)) ∧
  (R (.bool false) w)))
  (((R (.bool false) w) ∧
  (R (.bool false) w)) ∧
  (R (.bool false) w)))
  (((R (.bool false) w) ∧
  (R (.bool false) w)) ∧
  (R (.bool false) w)))
  (((R (.bool false) w) ∧
  (R (.bool false) w)) ∧
  (R (.bool false) w))) ∧
  (bsl 3 1 2 (zc Try.prog 3) #[(0, (.int .i64 1)), (1, (.int .i64 3))] (World.drew w) fun t16_7 w =>
  ldn 3 t1 w (fun u => u = t14_3) ∧
  ldn 2 t3_3 w (fun u => u = t13_3) ∧
  callG Try.prog 13 #[t13_3, t14_3] w fun t15_7 w =>
  callG Try.prog 12 #[t15_7, t16_7] w fun t17_7 w =>
  bV t17_7
  (ldn 2 t3_3 w fun t19_7 =>
  callG Try.prog 10 #[t19_7] w fun t20_7 w =>
  qG Try.prog (bq .eql 3 (.tmp 20) (.const (.int .i64 2)) t20_7 (.int .i64 2)) w fun t21_7 =>
  bV t21_7
  (ldn 2 t2 w fun t24_7 =>
  callG Try.prog 10 #[t24_7] w fun t25_7 w =>
  qG Try.prog (bq .eql 3 (.tmp 25) (.const (.int .i64 0)) t25_7 (.int .i64 0)) w fun t26_7 =>
  bV t26_7
  (ldn 2 t3_3 w fun t29_7 =>
  callG Try.prog 11 #[t29_7] w fun t30_7 w =>
  qG Try.prog (bq .eql 3 (.tmp 30) (.const (.int .i64 8)) t30_7 (.int .i64 8)) w fun t31_7 =>
  bV t31_7
  (ldn 2 t3_3 w fun t34_7 =>
  ldn 3 t1 w fun t35_7 =>
  ldn 3 t1 w fun t37_7 =>
  (callG Try.prog 16 #[t34_7, t35_7, (.int .i64 3)] w fun t36_14 w =>
  ldn 3 t1 w (fun u => u = t37_7) ∧
  (callG Try.prog 13 #[t36_14, t37_7] w fun t38_21 w =>
  bsl 3 1 1 (zc Try.prog 3) #[(0, (.int .i64 1))] w fun t39_21 w =>
  ldn 3 t1 w (fun u => u = t37_7) ∧
  ldn 3 t1 w (fun u => u = t35_7) ∧
  ldn 2 t3_3 w (fun u => u = t34_7) ∧
  callG Try.prog 12 #[t38_21, t39_21] w fun t40_21 w =>
  bV t40_21
  (ldn 2 t3_3 w fun t43_21 =>
  bld [(0, 1), (1, 1), (2, 1)] (zc Try.prog 24) #[] fun t44_21 =>
  callG Try.prog 13 #[t43_21, t44_21] w fun t45_21 w =>
  lenL t45_21 fun t46_21 =>
  qG Try.prog (bq .eql 3 (.tmp 46) (.const (.int .i64 0)) t46_21 (.int .i64 0)) w fun t47_21 =>
  R t47_21 w)
  (R (.bool false) w)) ∧
  (bsl 3 1 1 (zc Try.prog 3) #[(0, (.int .i64 1))] w fun t39_22 w =>
  ldn 3 t1 w (fun u => u = t37_7) ∧
  ldn 3 t1 w (fun u => u = t35_7) ∧
  ldn 2 t3_3 w (fun u => u = t34_7) ∧
  callG Try.prog 13 #[t36_14, t37_7] w fun t38_22 w =>
  callG Try.prog 12 #[t38_22, t39_22] w fun t40_22 w =>
  bV t40_22
  (ldn 2 t3_3 w fun t43_22 =>
  bld [(0, 1), (1, 1), (2, 1)] (zc Try.prog 24) #[] fun t44_22 =>
  callG Try.prog 13 #[t43_22, t44_22] w fun t45_22 w =>
  lenL t45_22 fun t46_22 =>
  qG Try.prog (bq .eql 3 (.tmp 46) (.const (.int .i64 0)) t46_22 (.int .i64 0)) w fun t47_22 =>
  R t47_22 w)
  (R (.bool false) w))) ∧
  (bsl 3 1 1 (zc Try.prog 3) #[(0, (.int .i64 1))] w fun t39_23 w =>
  ldn 3 t1 w (fun u => u = t37_7) ∧
  ldn 3 t1 w (fun u => u = t35_7) ∧
  ldn 2 t3_3 w (fun u => u = t34_7) ∧
  callG Try.prog 16 #[t34_7, t35_7, (.int .i64 3)] w fun t36_15 w =>
  ldn 3 t1 w (fun u => u = t37_7) ∧
  callG Try.prog 13 #[t36_15, t37_7] w fun t38_23 w =>
  callG Try.prog 12 #[t38_23, t39_23] w fun t40_23 w =>
  bV t40_23
  (ldn 2 t3_3 w fun t43_23 =>
  bld [(0, 1), (1, 1), (2, 1)] (zc Try.prog 24) #[] fun t44_23 =>
  callG Try.prog 13 #[t43_23, t44_23] w fun t45_23 w =>
  lenL t45_23 fun t46_23 =>
  qG Try.prog (bq .eql 3 (.tmp 46) (.const (.int .i64 0)) t46_23 (.int .i64 0)) w fun t47_23 =>
  R t47_23 w)
  (R (.bool false) w)))
  (((R (.bool false) w) ∧
  (R (.bool false) w)) ∧
  (R (.bool false) w)))
  (((R (.bool false) w) ∧
  (R (.bool false) w)) ∧
  (R (.bool false) w)))
  (((R (.bool false) w) ∧
  (R (.bool false) w)) ∧
  (R (.bool false) w)))
  (((R (.bool false) w) ∧
  (R (.bool false) w)) ∧
  (R (.bool false) w))))
theorem law10_awake_s0_eq (R : Value → World → Prop) : ∀ e w, lift Try.prog 49 (bodyOf Try.f7) (finK Try.prog Try.f7.results.toList R) e w = law10_awake_s0 R w := fun e w => by kernel_rfl
def law10_awake (R : Value → World → Prop) (w : World) : Prop := law10_awake_s0 R  w
theorem law10_awake_call {R : Value → World → Prop} {w : World} (h : law10_awake R w) : callG Try.prog 7 #[] w R :=
  calls_lift_eq Try.mixed Try.func7 (args := []) rfl rfl rfl rfl ((law10_awake_s0_eq R) (envOf []) w) (by kernel_rfl) h
/-! quayside/quaysidelaw10.HashPlays -/
/-! quayside/quaysidelaw10.HashStays -/
/-! quayside/quaysidelaw10.HashGrows -/
/-! quayside/quaysidelaw10.HashAlike -/
def law10_HashAlike_s0 (R : Value → World → Prop) (x1 x2 x5 x7 : Value) (w : World) : Prop :=
  bld [(0, 1), (1, 1), (2, 1)] (zc Try.prog 24) #[(0, (.int .i64 2)), (2, (.string ⟨#[111, 116, 104, 101, 114]⟩))] fun t60 =>
  newG (zc Try.prog 24) 24 w fun t8 w =>
  stn 3 t8 t60 w fun w =>
  ldn 3 x2 w fun t61 =>
  ldn 3 t8 w fun t62 =>
  qG Try.prog (bq .eql 24 (.tmp 61) (.tmp 62) t61 t62) w fun t63 =>
  bV t63
  (callG Try.prog 7 #[] w fun t74 w =>
  R t74 w)
  (ldn 2 x5 w fun t65 =>
  ldn 3 t8 w fun t66 =>
  callG Try.prog 16 #[t65, t66, x1] w fun t68 w =>
  callG Try.prog 10 #[t68] w fun t69 w =>
  qG Try.prog (bq .eql 3 (.tmp 69) (.tmp 70) t69 x7) w fun t71 =>
  bV t71
  (callG Try.prog 7 #[] w fun t74_1 w =>
  R t74_1 w)
  (R (.bool false) w))
theorem law10_HashAlike_s0_eq (R : Value → World → Prop) : ∀ e w, lift Try.prog 76 (sub (bodyOf Try.f6) [1, 1, 1, 1, 1, 1, 1]) (finK Try.prog Try.f6.results.toList R) e w = law10_HashAlike_s0 R (e 1) (e 2) (e 5) (e 7) w := fun e w => by kernel_rfl
def law10_HashAlike_s1 (R : Value → World → Prop) (x1 x2 x5 x6 x7 : Value) (w : World) : Prop :=
  ldn 2 x5 w fun t24 =>
  callG Try.prog 10 #[t24] w fun t25 w =>
  qG Try.prog (bq .neq 3 (.tmp 25) (.tmp 26) t25 x7) w fun t27 =>
  bV t27
  (R (.bool false) w)
  (ldn 2 x6 w fun t29 =>
  callG Try.prog 10 #[t29] w fun t30 w =>
  qG Try.prog (bq .neq 3 (.tmp 30) (.tmp 31) t30 x7) w fun t32 =>
  bV t32
  (R (.bool false) w)
  (ldn 2 x6 w fun t35 =>
  ldn 3 x2 w fun t36 =>
  callG Try.prog 13 #[t35, t36] w fun t37 w =>
  lenL t37 fun t38 =>
  qG Try.prog (bq .neq 3 (.tmp 38) (.tmp 39) t38 x7) w fun t40 =>
  bV t40
  (R (.bool false) w)
  (ldn 2 x5 w fun t43 =>
  ldn 3 x2 w fun t44 =>
  qG Try.prog (bq .xor 3 (.tmp 45) (.const (.int .i64 1)) x1 (.int .i64 1)) w fun t46 =>
  callG Try.prog 16 #[t43, t44, t46] w fun t47 w =>
  callG Try.prog 10 #[t47] w fun t48 w =>
  qG Try.prog (bq .neq 3 (.tmp 48) (.tmp 49) t48 x7) w fun t50 =>
  bV t50
  (R (.bool false) w)
  (ldn 2 x5 w fun t53 =>
  ldn 3 x2 w fun t54 =>
  callG Try.prog 16 #[t53, t54, x1] w fun t56 w =>
  callG Try.prog 10 #[t56] w fun t57 w =>
  qG Try.prog (bq .neq 3 (.tmp 57) (.const (.int .i64 0)) t57 (.int .i64 0)) w fun t58 =>
  bV t58
  (R (.bool false) w)
  (law10_HashAlike_s0 R x1 x2 x5 x7 w)))))
theorem law10_HashAlike_s1_eq (R : Value → World → Prop) : ∀ e w, lift Try.prog 76 (sub (bodyOf Try.f6) [1, 1, 1, 1, 1, 1]) (finK Try.prog Try.f6.results.toList R) e w = law10_HashAlike_s1 R (e 1) (e 2) (e 5) (e 6) (e 7) w :=
  segs_eq (l := [(sub (bodyOf Try.f6) [1, 1, 1, 1, 1, 1, 0])]) (y := (sub (bodyOf Try.f6) [1, 1, 1, 1, 1, 1, 1])) (Y := (fun e w => law10_HashAlike_s0 R (e 1) (e 2) (e 5) (e 7) w)) (law10_HashAlike_s0_eq R) (fun e w => by kernel_rfl)
def law10_HashAlike_s2 (R : Value → World → Prop) (x0 x1 : Value) (w : World) : Prop :=
  newG (Value.cells x0) 24 w fun t2 w =>
  fa 2 t2 fun t9 =>
  ld1 t9 w fun t10 =>
  lenS t10 fun t11 =>
  qG Try.prog (bq .gtr 3 (.tmp 11) (.const (.int .i64 200)) t11 (.int .i64 200)) w fun t12 =>
  bV t12
  (callG Try.prog 7 #[] w fun t13 w =>
  R t13 w)
  (bld [(0, 1), (1, 1)] (zc Try.prog 27) #[] fun t14 =>
  ldn 3 t2 w fun t15 =>
  callG Try.prog 15 #[t14, t15, x1] w fun t17 w =>
  newG (zc Try.prog 27) 27 w fun t5 w =>
  stn 2 t5 t17 w fun w =>
  ldn 2 t5 w fun t18 =>
  ldn 3 t2 w fun t19 =>
  callG Try.prog 15 #[t18, t19, x1] w fun t21 w =>
  newG (zc Try.prog 27) 27 w fun t6 w =>
  stn 2 t6 t21 w fun w =>
  ldn 3 t2 w fun t22 =>
  callG Try.prog 17 #[t22] w fun t23 w =>
  bV t23
  (law10_HashAlike_s1 R x1 t2 t5 t6 (.int .i64 1) w)
  (law10_HashAlike_s1 R x1 t2 t5 t6 (.int .i64 0) w))
theorem law10_HashAlike_s2_eq (R : Value → World → Prop) : ∀ e w, lift Try.prog 76 (bodyOf Try.f6) (finK Try.prog Try.f6.results.toList R) e w = law10_HashAlike_s2 R (e 0) (e 1) w :=
  segs_eq (l := [(sub (bodyOf Try.f6) [0]), (sub (bodyOf Try.f6) [1, 0]), (sub (bodyOf Try.f6) [1, 1, 0]), (sub (bodyOf Try.f6) [1, 1, 1, 0]), (sub (bodyOf Try.f6) [1, 1, 1, 1, 0]), (sub (bodyOf Try.f6) [1, 1, 1, 1, 1, 0])]) (y := (sub (bodyOf Try.f6) [1, 1, 1, 1, 1, 1])) (Y := (fun e w => law10_HashAlike_s1 R (e 1) (e 2) (e 5) (e 6) (e 7) w)) (law10_HashAlike_s1_eq R) (fun e w => by kernel_rfl)
def law10_HashAlike (R : Value → World → Prop) (x0 x1 : Value) (w : World) : Prop := law10_HashAlike_s2 R x0 x1 w
theorem law10_HashAlike_call {R : Value → World → Prop} {x0 x1 : Value} {w : World} (h : law10_HashAlike R x0 x1 w) : callG Try.prog 6 #[x0, x1] w R :=
  calls_lift_eq Try.mixed Try.func6 (args := [x0, x1]) rfl rfl rfl rfl ((law10_HashAlike_s2_eq R) (envOf [x0, x1]) w) (by kernel_rfl) h
end Go.Proofs

/- Layer 10: what the law's own functions do. -/
set_option maxRecDepth 100000
set_option linter.unusedVariables false
set_option linter.unusedSimpArgs false
namespace Go.Proofs
open Go Go.Q
theorem Same_spec {w : World} {x y : Value} {a b : List Int} (ha : Rd w x 1 (a.map intV)) (hb : Rd w y 1 (b.map intV)) (hl : a.length < 2 ^ 40) {K : Value → World → Prop} (hK : ∀ w', Kp [] w w' → K (.bool (decide (a = b))) w') : callG Try.prog 12 #[x, y] w K := by
  refine ref01_SameInts_call ?_
  unfold ref01_SameInts ref01_SameInts_s4
  rw [ha.lenL, hb.lenL]
  simp only [List.length_map, bq_neq, bV_b]
  refine ⟨fun h => ?_, fun h => ?_⟩
  · have hne : ¬ a = b := by rintro rfl; simp at h
    have := hK w (Kp.refl _ _)
    rw [decide_eq_false hne] at this
    exact this
  · have hlen : a.length = b.length := by simp at h; omega
    unfold ref01_SameInts_s3 ref01_SameInts_L2
    refine loop_inv (fun m xs wi => ∃ i, i ≤ a.length ∧ m = a.length - i ∧ xs = [x, y, .int .i64 (i : Nat)] ∧ Kp [] w wi ∧ a.take i = b.take i) ?_ (m := a.length) ⟨0, by omega, rfl, rfl, Kp.refl _ _, rfl⟩
    rintro m N xs wi ⟨i, hi, rfl, rfl, hk, he⟩ hN
    have hiw : IntKind.i64.wrap ((i : Int) + 1) = ((i + 1 : Nat) : Int) := by rw [w64 (by omega) (by omega)]; simp
    unfold ref01_SameInts_L2F ref01_SameInts_b1
    dsimp only
    rw [(ha.keep hk).lenL, List.length_map]
    simp only [bq_lss, bV_b, decide_eq_true_eq, decide_eq_false_iff_not]
    refine ⟨fun hlt => ?_, fun hge => ?_⟩
    · have hlt : i < a.length := by omega
      have hkd : Kp [] w wi.drew := hk.drew
      obtain ⟨p, p1, p2⟩ := (ha.keep hkd).one (i := i) (by simpa using hlt) (x := .int .i64 a[i]) (by simp [intV])
      obtain ⟨q, q1, q2⟩ := (hb.keep hkd).one (i := i) (by simpa using (by omega : i < b.length)) (x := .int .i64 (b[i]'(by omega))) (by simp [intV])
      rw [p1, p2, q1, q2]
      simp only [bq_neq, bV_b, decide_eq_true_eq, decide_eq_false_iff_not, bq_add, hiw]
      refine ⟨fun hne => ?_, fun heq => ?_⟩
      · have hne2 : ¬ a = b := by
          rintro rfl
          exact hne rfl
        have := hK _ hkd
        rw [decide_eq_false hne2] at this
        exact this
      · refine hN (a.length - (i + 1)) _ _ (by omega) ⟨i + 1, by omega, rfl, rfl, hkd, ?_⟩
        rw [List.take_succ_eq_append_getElem hlt, List.take_succ_eq_append_getElem (by omega : i < b.length), he]
        simp only [ne_eq, Decidable.not_not] at heq
        rw [heq]
    · have hie : i = a.length := by omega
      subst hie
      rw [List.take_length, hlen, List.take_length] at he
      unfold ref01_SameInts_s0
      have := hK _ hk
      rw [decide_eq_true he] at this
      exact this
end Go.Proofs

/- Layer 10: the law's pairs behind a call; its numbers by a value. -/
set_option maxRecDepth 100000
set_option linter.unusedVariables false
set_option linter.unusedSimpArgs false
namespace Go.Proofs
open Go Go.Q
end Go.Proofs

/- Layer 10: the law's numbers by a value, rising. -/
set_option maxRecDepth 100000
set_option linter.unusedVariables false
set_option linter.unusedSimpArgs false
namespace Go.Proofs
open Go Go.Q
theorem sortI_len (l : List Int) : (sortI l).length = l.length := (sortI_ok l).2.length_eq
end Go.Proofs

/- Layer 10: the parts of awake that are printed more than once. (Written by gen_aw10.py.) -/
set_option linter.unusedVariables false
set_option linter.unusedSimpArgs false
namespace Go.Proofs
open Go Go.Q
def awT (R : Value → World → Prop) (t3 t38 t39 : Value) (w : World) : Prop :=
  callG Try.prog 12 #[t38, t39] w fun t40 w =>
  bV t40
  (ldn 2 t3 w fun t43 =>
  bld [(0, 1), (1, 1), (2, 1)] (zc Try.prog 24) #[] fun t44 =>
  callG Try.prog 13 #[t43, t44] w fun t45 w =>
  lenL t45 fun t46 =>
  qG Try.prog (bq .eql 3 (.tmp 46) (.const (.int .i64 0)) t46 (.int .i64 0)) w fun t47 =>
  R t47 w)
  (R (.bool false) w)
def awC (R : Value → World → Prop) (t1 t3 : Value) (w : World) : Prop :=
ldn 2 t3 w fun t34 =>
  ldn 3 t1 w fun t35 =>
  ldn 3 t1 w fun t37 =>
  (callG Try.prog 16 #[t34, t35, (.int .i64 3)] w fun t36 w =>
  ldn 3 t1 w (fun u => u = t37) ∧
  (callG Try.prog 13 #[t36, t37] w fun t38 w =>
  bsl 3 1 1 (zc Try.prog 3) #[(0, (.int .i64 1))] w fun t39 w =>
  ldn 3 t1 w (fun u => u = t37) ∧
  ldn 3 t1 w (fun u => u = t35) ∧
  ldn 2 t3 w (fun u => u = t34) ∧
  callG Try.prog 12 #[t38, t39] w fun t40 w =>
  bV t40
  (ldn 2 t3 w fun t43 =>
  bld [(0, 1), (1, 1), (2, 1)] (zc Try.prog 24) #[] fun t44 =>
  callG Try.prog 13 #[t43, t44] w fun t45 w =>
  lenL t45 fun t46 =>
  qG Try.prog (bq .eql 3 (.tmp 46) (.const (.int .i64 0)) t46 (.int .i64 0)) w fun t47 =>
  R t47 w)
  (R (.bool false) w)) ∧
  (bsl 3 1 1 (zc Try.prog 3) #[(0, (.int .i64 1))] w fun t39_1 w =>
  ldn 3 t1 w (fun u => u = t37) ∧
  ldn 3 t1 w (fun u => u = t35) ∧
  ldn 2 t3 w (fun u => u = t34) ∧
  callG Try.prog 13 #[t36, t37] w fun t38_1 w =>
  callG Try.prog 12 #[t38_1, t39_1] w fun t40_1 w =>
  bV t40_1
  (ldn 2 t3 w fun t43_1 =>
  bld [(0, 1), (1, 1), (2, 1)] (zc Try.prog 24) #[] fun t44_1 =>
  callG Try.prog 13 #[t43_1, t44_1] w fun t45_1 w =>
  lenL t45_1 fun t46_1 =>
  qG Try.prog (bq .eql 3 (.tmp 46) (.const (.int .i64 0)) t46_1 (.int .i64 0)) w fun t47_1 =>
  R t47_1 w)
  (R (.bool false) w))) ∧
  (bsl 3 1 1 (zc Try.prog 3) #[(0, (.int .i64 1))] w fun t39_2 w =>
  ldn 3 t1 w (fun u => u = t37) ∧
  ldn 3 t1 w (fun u => u = t35) ∧
  ldn 2 t3 w (fun u => u = t34) ∧
  callG Try.prog 16 #[t34, t35, (.int .i64 3)] w fun t36_1 w =>
  ldn 3 t1 w (fun u => u = t37) ∧
  callG Try.prog 13 #[t36_1, t37] w fun t38_2 w =>
  callG Try.prog 12 #[t38_2, t39_2] w fun t40_2 w =>
  bV t40_2
  (ldn 2 t3 w fun t43_2 =>
  bld [(0, 1), (1, 1), (2, 1)] (zc Try.prog 24) #[] fun t44_2 =>
  callG Try.prog 13 #[t43_2, t44_2] w fun t45_2 w =>
  lenL t45_2 fun t46_2 =>
  qG Try.prog (bq .eql 3 (.tmp 46) (.const (.int .i64 0)) t46_2 (.int .i64 0)) w fun t47_2 =>
  R t47_2 w)
  (R (.bool false) w))
def awB (R : Value → World → Prop) (t1 t2 t3 : Value) (w : World) : Prop :=
  ldn 2 t3 (World.drew w) fun t13 =>
  ldn 3 t1 (World.drew w) fun t14 =>
  (callG Try.prog 13 #[t13, t14] (World.drew w) fun t15 w =>
  bsl 3 1 2 (zc Try.prog 3) #[(0, (.int .i64 1)), (1, (.int .i64 3))] w fun t16 w =>
  ldn 3 t1 w (fun u => u = t14) ∧
  ldn 2 t3 w (fun u => u = t13) ∧
  callG Try.prog 12 #[t15, t16] w fun t17 w =>
  bV t17
  (ldn 2 t3 w fun t19 =>
  callG Try.prog 10 #[t19] w fun t20 w =>
  qG Try.prog (bq .eql 3 (.tmp 20) (.const (.int .i64 2)) t20 (.int .i64 2)) w fun t21 =>
  bV t21
  (ldn 2 t2 w fun t24 =>
  callG Try.prog 10 #[t24] w fun t25 w =>
  qG Try.prog (bq .eql 3 (.tmp 25) (.const (.int .i64 0)) t25 (.int .i64 0)) w fun t26 =>
  bV t26
  (ldn 2 t3 w fun t29 =>
  callG Try.prog 11 #[t29] w fun t30 w =>
  qG Try.prog (bq .eql 3 (.tmp 30) (.const (.int .i64 8)) t30 (.int .i64 8)) w fun t31 =>
  bV t31
  (ldn 2 t3 w fun t34 =>
  ldn 3 t1 w fun t35 =>
  ldn 3 t1 w fun t37 =>
  (callG Try.prog 16 #[t34, t35, (.int .i64 3)] w fun t36 w =>
  ldn 3 t1 w (fun u => u = t37) ∧
  (callG Try.prog 13 #[t36, t37] w fun t38 w =>
  bsl 3 1 1 (zc Try.prog 3) #[(0, (.int .i64 1))] w fun t39 w =>
  ldn 3 t1 w (fun u => u = t37) ∧
  ldn 3 t1 w (fun u => u = t35) ∧
  ldn 2 t3 w (fun u => u = t34) ∧
  callG Try.prog 12 #[t38, t39] w fun t40 w =>
  bV t40
  (ldn 2 t3 w fun t43 =>
  bld [(0, 1), (1, 1), (2, 1)] (zc Try.prog 24) #[] fun t44 =>
  callG Try.prog 13 #[t43, t44] w fun t45 w =>
  lenL t45 fun t46 =>
  qG Try.prog (bq .eql 3 (.tmp 46) (.const (.int .i64 0)) t46 (.int .i64 0)) w fun t47 =>
  R t47 w)
  (R (.bool false) w)) ∧
  (bsl 3 1 1 (zc Try.prog 3) #[(0, (.int .i64 1))] w fun t39_1 w =>
  ldn 3 t1 w (fun u => u = t37) ∧
  ldn 3 t1 w (fun u => u = t35) ∧
  ldn 2 t3 w (fun u => u = t34) ∧
  callG Try.prog 13 #[t36, t37] w fun t38_1 w =>
  callG Try.prog 12 #[t38_1, t39_1] w fun t40_1 w =>
  bV t40_1
  (ldn 2 t3 w fun t43_1 =>
  bld [(0, 1), (1, 1), (2, 1)] (zc Try.prog 24) #[] fun t44_1 =>
  callG Try.prog 13 #[t43_1, t44_1] w fun t45_1 w =>
  lenL t45_1 fun t46_1 =>
  qG Try.prog (bq .eql 3 (.tmp 46) (.const (.int .i64 0)) t46_1 (.int .i64 0)) w fun t47_1 =>
  R t47_1 w)
  (R (.bool false) w))) ∧
  (bsl 3 1 1 (zc Try.prog 3) #[(0, (.int .i64 1))] w fun t39_2 w =>
  ldn 3 t1 w (fun u => u = t37) ∧
  ldn 3 t1 w (fun u => u = t35) ∧
  ldn 2 t3 w (fun u => u = t34) ∧
  callG Try.prog 16 #[t34, t35, (.int .i64 3)] w fun t36_1 w =>
  ldn 3 t1 w (fun u => u = t37) ∧
  callG Try.prog 13 #[t36_1, t37] w fun t38_2 w =>
  callG Try.prog 12 #[t38_2, t39_2] w fun t40_2 w =>
  bV t40_2
  (ldn 2 t3 w fun t43_2 =>
  bld [(0, 1), (1, 1), (2, 1)] (zc Try.prog 24) #[] fun t44_2 =>
  callG Try.prog 13 #[t43_2, t44_2] w fun t45_2 w =>
  lenL t45_2 fun t46_2 =>
  qG Try.prog (bq .eql 3 (.tmp 46) (.const (.int .i64 0)) t46_2 (.int .i64 0)) w fun t47_2 =>
  R t47_2 w)
  (R (.bool false) w)))
  (((R (.bool false) w) ∧
  (R (.bool false) w)) ∧
  (R (.bool false) w)))
  (((R (.bool false) w) ∧
  (R (.bool false) w)) ∧
  (R (.bool false) w)))
  (((R (.bool false) w) ∧
  (R (.bool false) w)) ∧
  (R (.bool false) w)))
  (((R (.bool false) w) ∧
  (R (.bool false) w)) ∧
  (R (.bool false) w))) ∧
  (bsl 3 1 2 (zc Try.prog 3) #[(0, (.int .i64 1)), (1, (.int .i64 3))] (World.drew w) fun t16_1 w =>
  ldn 3 t1 w (fun u => u = t14) ∧
  ldn 2 t3 w (fun u => u = t13) ∧
  callG Try.prog 13 #[t13, t14] w fun t15_1 w =>
  callG Try.prog 12 #[t15_1, t16_1] w fun t17_1 w =>
  bV t17_1
  (ldn 2 t3 w fun t19_1 =>
  callG Try.prog 10 #[t19_1] w fun t20_1 w =>
  qG Try.prog (bq .eql 3 (.tmp 20) (.const (.int .i64 2)) t20_1 (.int .i64 2)) w fun t21_1 =>
  bV t21_1
  (ldn 2 t2 w fun t24_1 =>
  callG Try.prog 10 #[t24_1] w fun t25_1 w =>
  qG Try.prog (bq .eql 3 (.tmp 25) (.const (.int .i64 0)) t25_1 (.int .i64 0)) w fun t26_1 =>
  bV t26_1
  (ldn 2 t3 w fun t29_1 =>
  callG Try.prog 11 #[t29_1] w fun t30_1 w =>
  qG Try.prog (bq .eql 3 (.tmp 30) (.const (.int .i64 8)) t30_1 (.int .i64 8)) w fun t31_1 =>
  bV t31_1
  (ldn 2 t3 w fun t34_1 =>
  ldn 3 t1 w fun t35_1 =>
  ldn 3 t1 w fun t37_1 =>
  (callG Try.prog 16 #[t34_1, t35_1, (.int .i64 3)] w fun t36_2 w =>
  ldn 3 t1 w (fun u => u = t37_1) ∧
  (callG Try.prog 13 #[t36_2, t37_1] w fun t38_3 w =>
  bsl 3 1 1 (zc Try.prog 3) #[(0, (.int .i64 1))] w fun t39_3 w =>
  ldn 3 t1 w (fun u => u = t37_1) ∧
  ldn 3 t1 w (fun u => u = t35_1) ∧
  ldn 2 t3 w (fun u => u = t34_1) ∧
  callG Try.prog 12 #[t38_3, t39_3] w fun t40_3 w =>
  bV t40_3
  (ldn 2 t3 w fun t43_3 =>
  bld [(0, 1), (1, 1), (2, 1)] (zc Try.prog 24) #[] fun t44_3 =>
  callG Try.prog 13 #[t43_3, t44_3] w fun t45_3 w =>
  lenL t45_3 fun t46_3 =>
  qG Try.prog (bq .eql 3 (.tmp 46) (.const (.int .i64 0)) t46_3 (.int .i64 0)) w fun t47_3 =>
  R t47_3 w)
  (R (.bool false) w)) ∧
  (bsl 3 1 1 (zc Try.prog 3) #[(0, (.int .i64 1))] w fun t39_4 w =>
  ldn 3 t1 w (fun u => u = t37_1) ∧
  ldn 3 t1 w (fun u => u = t35_1) ∧
  ldn 2 t3 w (fun u => u = t34_1) ∧
  callG Try.prog 13 #[t36_2, t37_1] w fun t38_4 w =>
  callG Try.prog 12 #[t38_4, t39_4] w fun t40_4 w =>
  bV t40_4
  (ldn 2 t3 w fun t43_4 =>
  bld [(0, 1), (1, 1), (2, 1)] (zc Try.prog 24) #[] fun t44_4 =>
  callG Try.prog 13 #[t43_4, t44_4] w fun t45_4 w =>
  lenL t45_4 fun t46_4 =>
  qG Try.prog (bq .eql 3 (.tmp 46) (.const (.int .i64 0)) t46_4 (.int .i64 0)) w fun t47_4 =>
  R t47_4 w)
  (R (.bool false) w))) ∧
  (bsl 3 1 1 (zc Try.prog 3) #[(0, (.int .i64 1))] w fun t39_5 w =>
  ldn 3 t1 w (fun u => u = t37_1) ∧
  ldn 3 t1 w (fun u => u = t35_1) ∧
  ldn 2 t3 w (fun u => u = t34_1) ∧
  callG Try.prog 16 #[t34_1, t35_1, (.int .i64 3)] w fun t36_3 w =>
  ldn 3 t1 w (fun u => u = t37_1) ∧
  callG Try.prog 13 #[t36_3, t37_1] w fun t38_5 w =>
  callG Try.prog 12 #[t38_5, t39_5] w fun t40_5 w =>
  bV t40_5
  (ldn 2 t3 w fun t43_5 =>
  bld [(0, 1), (1, 1), (2, 1)] (zc Try.prog 24) #[] fun t44_5 =>
  callG Try.prog 13 #[t43_5, t44_5] w fun t45_5 w =>
  lenL t45_5 fun t46_5 =>
  qG Try.prog (bq .eql 3 (.tmp 46) (.const (.int .i64 0)) t46_5 (.int .i64 0)) w fun t47_5 =>
  R t47_5 w)
  (R (.bool false) w)))
  (((R (.bool false) w) ∧
  (R (.bool false) w)) ∧
  (R (.bool false) w)))
  (((R (.bool false) w) ∧
  (R (.bool false) w)) ∧
  (R (.bool false) w)))
  (((R (.bool false) w) ∧
  (R (.bool false) w)) ∧
  (R (.bool false) w)))
  (((R (.bool false) w) ∧
  (R (.bool false) w)) ∧
  (R (.bool false) w)))
end Go.Proofs

/- Layer 10: the law is awake. -/
set_option maxRecDepth 100000
set_option linter.unusedVariables false
set_option linter.unusedSimpArgs false
namespace Go.Proofs
open Go Go.Q
def vA : V3 := ⟨2, 0, [97]⟩
def mA : List E := [⟨vA, 3⟩, ⟨vA, 1⟩]
theorem vA_wf : vA.Rg := ⟨by decide, by decide, by decide, by decide⟩
theorem v0_wf : (⟨0, 0, []⟩ : V3).Rg := ⟨by decide, by decide, by decide, by decide⟩
theorem bld_val0 {K : Value → Prop} : bld [(0, 1), (1, 1), (2, 1)] (zc Try.prog 24) #[] K = K (valA ⟨0, 0, []⟩) := by rw [zcVl, bld_done]; rfl
theorem bld_valA {K : Value → Prop} : bld [(0, 1), (1, 1), (2, 1)] (zc Try.prog 24) #[(0, (.int .i64 2)), (2, (.string ⟨#[97]⟩))] K = K (valA vA) := by
  rw [zcVl]; rfl
theorem bld_ix0 {K : Value → Prop} : bld [(0, 1), (1, 1)] (zc Try.prog 27) #[] K = K (.agg #[.slice none 0 0, .int .i64 0]) := by rw [zcIx, bld_done]
theorem ixm0 {X : List Nat} {w : World} : IxM X w (.agg #[.slice none 0 0, .int .i64 0]) [] 0 := ⟨.slice none 0 0, [], rfl, ⟨[], ⟨[], .inl ⟨none, 0, rfl, rfl⟩, by simp⟩, rfl, fun k h => by simp at h⟩, hinv_nil, rfl⟩
theorem wf_all {m : List E} (h : m = [] ∨ m = [⟨vA, 3⟩] ∨ m = mA) : ∀ e ∈ m, e.v.Rg := by
  intro e he
  have : e.v = vA := by
    rcases h with rfl | rfl | rfl
    · simp at he
    · simp at he; rw [he]
    · simp [mA] at he; rcases he with rfl | rfl <;> rfl
  rw [this]; exact vA_wf
section
variable {wb w : World} {x1 x2 x3 : Nat} {c3 : Array Value} {R : Value → World → Prop}
theorem awT_ok {t38 t39 : Value} (hk : Kp [] wb w) (h3 : w.heap[x3]? = some (.cells c3 27)) (hc : c3.size = 2) (hx : IxM [] w (.agg c3) mA 8) (ha : Rd w t38 1 ([1].map intV)) (hb : Rd w t39 1 ([1].map intV)) (hR : ∀ w', Kp [] wb w' → R (.bool true) w') : awT R (.pointer (some ⟨x3, 0, none⟩)) t38 t39 w := by
  unfold awT
  refine Same_spec ha hb (by simp) fun w1 k1 => ?_
  rw [decide_eq_true rfl]
  simp only [bV_b]
  refine ⟨fun _ => ?_, fun h => (by cases h)⟩
  rw [ldA (k := 2) (k1.get h3 (by simp)) hc, bld_val0]
  refine Find_spec (hx.keep k1) (by decide) ⟨0, 0, []⟩ v0_wf fun out w2 hf => ?_
  have hn : sortI (numsOf mA ⟨0, 0, []⟩) = [] := by decide
  rw [hf.rd.lenL, hn]
  simp only [bq_eql]
  exact hR w2 ((hk.trans' k1).trans' hf.kp)
theorem aw1 {w : World} {K : Value → World → Prop} (hK : ∀ v' w', Fr w w' v' 1 ([1].map intV) → K v' w') : bsl 3 1 1 (zc Try.prog 3) #[(0, (.int .i64 1))] w K := bsl_rowN (n := 1) (cs := intV 1) (by omega) rfl rfl fun v' w' h => hK v' w' h
theorem aw13 {w : World} {K : Value → World → Prop} (hK : ∀ v' w', Fr w w' v' 1 ([1, 3].map intV) → K v' w') : bsl 3 1 2 (zc Try.prog 3) #[(0, (.int .i64 1)), (1, (.int .i64 3))] w K :=
  bsl_rows (n := 1) (len := 2) (xs := [.int .i64 1, .int .i64 3]) (rows := [1, 3].map intV) (by omega) rfl rfl (by simp [intV]) (by omega) hK
theorem awC_ok (hk : Kp [] wb w) (h1 : w.heap[x1]? = some (.cells (valV vA).toArray 24)) (h3 : w.heap[x3]? = some (.cells c3 27)) (hc : c3.size = 2) (hx : IxM [] w (.agg c3) mA 8) (hR : ∀ w', Kp [] wb w' → R (.bool true) w') :
    awC R (.pointer (some ⟨x1, 0, none⟩)) (.pointer (some ⟨x3, 0, none⟩)) w := by
  unfold awC
  have r1 : ∀ w', Kp [] w w' → ∀ K : Value → Prop, ldn 3 (.pointer (some ⟨x1, 0, none⟩)) w' K = K (valA vA) := fun w' hk' K => ldA (hk'.get h1 (by simp)) rfl
  have r3 : ∀ w', Kp [] w w' → ∀ K : Value → Prop, ldn 2 (.pointer (some ⟨x3, 0, none⟩)) w' K = K (.agg c3) := fun w' hk' K => ldA (hk'.get h3 (by simp)) hc
  have hn : sortI (numsOf (dropM mA ⟨vA, 3⟩) vA) = [1] := by decide
  have hdl : (dropM mA ⟨vA, 3⟩).length < 2 ^ 20 := by decide
  have k0 := Kp.refl [] w
  rw [r3 _ k0, r1 _ k0, r1 _ k0]
  have tail : ∀ w' t38 t39, Kp [] w w' → Rd w' t38 1 ([1].map intV) → Rd w' t39 1 ([1].map intV) → awT R (.pointer (some ⟨x3, 0, none⟩)) t38 t39 w' := fun w' t38 t39 hk' ha hb => awT_ok (hk.trans' hk') (hk'.get h3 (by simp)) hc (hx.keep hk') ha hb hR
  refine ⟨?_, ?_⟩
  · refine Without_spec hx (by simp) (by decide) (by decide) vA vA_wf 3 fun t36 w1 k1 hx1 => ?_
    rw [r1 _ k1]
    refine ⟨rfl, ?_, ?_⟩
    · refine Find_spec hx1 hdl vA vA_wf fun t38 w2 hf2 => ?_
      rw [hn] at hf2
      refine aw1 fun t39 w3 hf3 => ?_
      have k3 := (k1.trans' hf2.kp).trans' hf3.kp
      rw [r1 _ k3, r3 _ k3]
      refine ⟨rfl, rfl, rfl, ?_⟩
      exact tail w3 t38 t39 k3 (hf2.rd.keep hf3.kp) hf3.rd
    · refine aw1 fun t39 w2 hf2 => ?_
      have k2 := k1.trans' hf2.kp
      rw [r1 _ k2, r3 _ k2]
      refine ⟨rfl, rfl, rfl, ?_⟩
      refine Find_spec (hx1.keep hf2.kp) hdl vA vA_wf fun t38 w3 hf3 => ?_
      rw [hn] at hf3
      exact tail w3 t38 t39 (k2.trans' hf3.kp) hf3.rd (hf2.rd.keep hf3.kp)
  · refine aw1 fun t39 w1 hf1 => ?_
    have k1 := hf1.kp
    rw [r1 _ k1, r3 _ k1]
    refine ⟨rfl, rfl, rfl, ?_⟩
    refine Without_spec (hx.keep k1) (by simp) (by decide) (by decide) vA vA_wf 3 fun t36 w2 k2 hx2 => ?_
    rw [r1 _ (k1.trans' k2)]
    refine ⟨rfl, ?_⟩
    refine Find_spec hx2 hdl vA vA_wf fun t38 w3 hf3 => ?_
    rw [hn] at hf3
    exact tail w3 t38 t39 ((k1.trans' k2).trans' hf3.kp) hf3.rd ((hf1.rd.keep k2).keep hf3.kp)
theorem awB_ok (hk : Kp [] wb w) (h1 : w.heap[x1]? = some (.cells (valV vA).toArray 24)) (h2 : w.heap[x2]? = some (.cells #[.slice none 0 0, .int .i64 0] 27)) (h3 : w.heap[x3]? = some (.cells c3 27)) (hc : c3.size = 2) (hx : IxM [] w (.agg c3) mA 8) (hR : ∀ w', Kp [] wb w' → R (.bool true) w') :
    awB R (.pointer (some ⟨x1, 0, none⟩)) (.pointer (some ⟨x2, 0, none⟩)) (.pointer (some ⟨x3, 0, none⟩)) w := by
  unfold awB
  have r1 : ∀ w', Kp [] w w' → ∀ K : Value → Prop, ldn 3 (.pointer (some ⟨x1, 0, none⟩)) w' K = K (valA vA) := fun w' hk' K => ldA (hk'.get h1 (by simp)) rfl
  have r2 : ∀ w', Kp [] w w' → ∀ K : Value → Prop, ldn 2 (.pointer (some ⟨x2, 0, none⟩)) w' K = K (.agg #[.slice none 0 0, .int .i64 0]) := fun w' hk' K => ldA (hk'.get h2 (by simp)) rfl
  have r3 : ∀ w', Kp [] w w' → ∀ K : Value → Prop, ldn 2 (.pointer (some ⟨x3, 0, none⟩)) w' K = K (.agg c3) := fun w' hk' K => ldA (hk'.get h3 (by simp)) hc
  have hn : sortI (numsOf mA vA) = [1, 3] := by decide
  have kd : Kp [] w w.drew := kp_drew
  have rest : ∀ w' t15 t16, Kp [] w w' → Rd w' t15 1 ([1, 3].map intV) → Rd w' t16 1 ([1, 3].map intV) → callG Try.prog 12 #[t15, t16] w' fun t17 w =>
      bV t17
      (ldn 2 (.pointer (some ⟨x3, 0, none⟩)) w fun t19 =>
      callG Try.prog 10 #[t19] w fun t20 w =>
      qG Try.prog (bq .eql 3 (.tmp 20) (.const (.int .i64 2)) t20 (.int .i64 2)) w fun t21 =>
      bV t21
      (ldn 2 (.pointer (some ⟨x2, 0, none⟩)) w fun t24 =>
      callG Try.prog 10 #[t24] w fun t25 w =>
      qG Try.prog (bq .eql 3 (.tmp 25) (.const (.int .i64 0)) t25 (.int .i64 0)) w fun t26 =>
      bV t26
      (ldn 2 (.pointer (some ⟨x3, 0, none⟩)) w fun t29 =>
      callG Try.prog 11 #[t29] w fun t30 w =>
      qG Try.prog (bq .eql 3 (.tmp 30) (.const (.int .i64 8)) t30 (.int .i64 8)) w fun t31 =>
      bV t31
      (awC R (.pointer (some ⟨x1, 0, none⟩)) (.pointer (some ⟨x3, 0, none⟩)) w)
      (((R (.bool false) w) ∧ (R (.bool false) w)) ∧ (R (.bool false) w)))
      (((R (.bool false) w) ∧ (R (.bool false) w)) ∧ (R (.bool false) w)))
      (((R (.bool false) w) ∧ (R (.bool false) w)) ∧ (R (.bool false) w)))
      (((R (.bool false) w) ∧ (R (.bool false) w)) ∧ (R (.bool false) w)) := by
    intro w' t15 t16 hk' ha hb
    refine Same_spec ha hb (by simp) fun w1 k1 => ?_
    have g1 := hk'.trans' k1
    rw [decide_eq_true rfl]
    simp only [bV_b]
    refine ⟨fun _ => ?_, fun h => (by cases h)⟩
    rw [r3 _ g1]
    refine Len_spec (hx.keep g1) fun w2 k2 => ?_
    have g2 := g1.trans' k2
    simp only [bq_eql, bV_b]
    refine ⟨fun _ => ?_, fun h => (by simp [mA] at h)⟩
    rw [r2 _ g2]
    refine Len_spec (X := []) ixm0 fun w3 k3 => ?_
    have g3 := g2.trans' k3
    simp only [bq_eql, bV_b]
    refine ⟨fun _ => ?_, fun h => (by simp at h)⟩
    rw [r3 _ g3]
    refine Buckets_spec (hx.keep g3) fun w4 k4 => ?_
    have g4 := g3.trans' k4
    simp only [bq_eql, bV_b]
    refine ⟨fun _ => ?_, fun h => (by simp at h)⟩
    exact awC_ok (hk.trans' g4) (g4.get h1 (by simp)) (g4.get h3 (by simp)) hc (hx.keep g4) hR
  rw [r3 _ kd, r1 _ kd]
  refine ⟨?_, ?_⟩
  · refine Find_spec (hx.keep kd) (by decide) vA vA_wf fun t15 w1 hf1 => ?_
    rw [hn] at hf1
    refine aw13 fun t16 w2 hf2 => ?_
    have k2 := (kd.trans' hf1.kp).trans' hf2.kp
    rw [r1 _ k2, r3 _ k2]
    refine ⟨rfl, rfl, ?_⟩
    exact rest w2 t15 t16 k2 (hf1.rd.keep hf2.kp) hf2.rd
  · refine aw13 fun t16 w1 hf1 => ?_
    have k1 := kd.trans' hf1.kp
    rw [r1 _ k1, r3 _ k1]
    refine ⟨rfl, rfl, ?_⟩
    refine Find_spec (hx.keep k1) (by decide) vA vA_wf fun t15 w2 hf2 => ?_
    rw [hn] at hf2
    exact rest w2 t15 t16 (k1.trans' hf2.kp) hf2.rd (hf1.rd.keep hf2.kp)
end
theorem awake10 {w : World} {R : Value → World → Prop} (hR : ∀ w', Kp [] w w' → R (.bool true) w') : callG Try.prog 7 #[] w R := by
  refine law10_awake_call ?_
  unfold law10_awake law10_awake_s0
  rw [bld_valA]
  refine newB fun x1 w1 hx1 hh1 hk1 => ?_
  unfold valA
  rw [stA (k := 3) hh1 (by rw [zcV]; rfl) rfl (by simp [valV, vA]), bld_ix0]
  obtain ⟨w2, hw2⟩ : ∃ w2, w2 = setBlk w1 x1 (.cells (valV vA).toArray 24) := ⟨_, rfl⟩
  have h12 : w2.heap[x1]? = some (.cells (valV vA).toArray 24) := by rw [hw2]; exact heap_self (live_of hh1)
  have hk02 : Kp [] w w2 := by rw [hw2]; exact hk1.setBlk (.inr hx1) _
  rw [← hw2]
  refine newB fun x2 w3 hx2 hh2 hk3 => ?_
  rw [stA (k := 2) hh2 (by rw [zcIx]; rfl) rfl (by simp)]
  obtain ⟨w4, hw4⟩ : ∃ w4, w4 = setBlk w3 x2 (.cells #[.slice none 0 0, .int .i64 0] 27) := ⟨_, rfl⟩
  have h24 : w4.heap[x2]? = some (.cells #[.slice none 0 0, .int .i64 0] 27) := by rw [hw4]; exact heap_self (live_of hh2)
  have hk24 : Kp [] w2 w4 := by rw [hw4]; exact hk3.setBlk (.inr hx2) _
  have h14 := hk24.get h12 (by simp)
  have hk04 := hk02.trans' hk24
  rw [← hw4]
  have kd : Kp [] w4 w4.drew := kp_drew
  have l1 := lt_of_blk h14
  have l2 := lt_of_blk h24
  have s04 := hk04.size
  have r1 : ∀ w', Kp [] w4 w' → ∀ K : Value → Prop, ldn 3 (.pointer (some ⟨x1, 0, none⟩)) w' K = K (valA vA) := fun w' hk' K => ldA (hk'.get h14 (by simp)) rfl
  have r2 : ∀ w', Kp [] w4 w' → ∀ K : Value → Prop, ldn 2 (.pointer (some ⟨x2, 0, none⟩)) w' K = K (.agg #[.slice none 0 0, .int .i64 0]) := fun w' hk' K => ldA (hk'.get h24 (by simp)) rfl
  rw [r2 _ kd, r1 _ kd, r1 _ kd, r1 _ kd]
  have e1 : putM [] ⟨vA, 3⟩ = [⟨vA, 3⟩] ∧ putB 0 [] ⟨vA, 3⟩ = 8 := by decide
  have e2 : putM [⟨vA, 3⟩] ⟨vA, 1⟩ = mA ∧ putB 8 [⟨vA, 3⟩] ⟨vA, 1⟩ = 8 := by decide
  have e3 : putM mA ⟨vA, 3⟩ = mA ∧ putB 8 mA ⟨vA, 3⟩ = 8 := by decide
  have W1 : ∀ {w' : World} {X : List Nat} {K : Value → World → Prop}, (∀ x ∈ X, x < w'.heap.size) → (∀ v w'', Kp [] w' w'' → IxM X w'' v [⟨vA, 3⟩] 8 → K v w'') → callG Try.prog 15 #[.agg #[.slice none 0 0, .int .i64 0], valA vA, .int .i64 3] w' K := by
    intro w' X K hX hK
    refine With_spec (ixm0 (X := X)) hX (by decide) (by decide) (by simp) vA vA_wf 3 fun v w'' k h => hK v w'' k ?_
    rw [e1.1, e1.2] at h; exact h
  have W2 : ∀ {w' : World} {v : Value} {X : List Nat} {K : Value → World → Prop}, IxM X w' v [⟨vA, 3⟩] 8 → (∀ x ∈ X, x < w'.heap.size) → (∀ v w'', Kp [] w' w'' → IxM X w'' v mA 8 → K v w'') → callG Try.prog 15 #[v, valA vA, .int .i64 1] w' K := by
    intro w' v X K hx hX hK
    refine With_spec hx hX (by decide) (by decide) (wf_all (.inr (.inl rfl))) vA vA_wf 1 fun v w'' k h => hK v w'' k ?_
    rw [e2.1, e2.2] at h; exact h
  have W3 : ∀ {w' : World} {v : Value} {X : List Nat} {K : Value → World → Prop}, IxM X w' v mA 8 → (∀ x ∈ X, x < w'.heap.size) → (∀ v w'', Kp [] w' w'' → IxM X w'' v mA 8 → K v w'') → callG Try.prog 15 #[v, valA vA, .int .i64 3] w' K := by
    intro w' v X K hx hX hK
    refine With_spec hx hX (by decide) (by decide) (wf_all (.inr (.inr rfl))) vA vA_wf 3 fun v w'' k h => hK v w'' k ?_
    rw [e3.1, e3.2] at h; exact h
  have fin : ∀ w' x3 t, Kp [] w4 w' → w4.heap.size ≤ x3 → w'.heap[x3]? = some (.cells (zc Try.prog 27) 27) → IxM [x3] w' t mA 8 → stn 2 (.pointer (some ⟨x3, 0, none⟩)) t w' fun w => awB R (.pointer (some ⟨x1, 0, none⟩)) (.pointer (some ⟨x2, 0, none⟩)) (.pointer (some ⟨x3, 0, none⟩)) w := by
    intro w' x3 t hk' hx3 hh3 hx
    have hx0 := hx
    obtain ⟨o, bs, rfl, hix, _, _⟩ := hx0
    rw [stA (k := 2) hh3 (by rw [zcIx]; rfl) rfl (by simp [hix.ix.one])]
    have hkx : Kp [x3] w' (setBlk w' x3 (.cells #[o, .int .i64 mA.length] 27)) := (Kp.refl _ _).setBlk (.inl (by simp)) _
    refine awB_ok ((hk04.trans' hk').trans hkx fun b hb hlt => by simp at hb; omega) (hkx.get (hk'.get h14 (by simp)) (by simp; omega)) (hkx.get (hk'.get h24 (by simp)) (by simp; omega)) (heap_self (live_of hh3)) rfl ((hx.keepS hkx (by simp)).more (by simp)) hR
  have sd : w4.drew.heap.size = w4.heap.size := rfl
  refine ⟨?_, ?_⟩
  · refine W1 (X := []) (by simp) fun t8 w5 k5 hx5 => ?_
    have g5 := kd.trans' k5
    rw [r1 _ g5]
    refine ⟨rfl, rfl, ?_, ?_⟩
    · refine W2 hx5 (by simp) fun t10 w6 k6 hx6 => ?_
      have g6 := g5.trans' k6
      rw [r1 _ g6]
      refine ⟨rfl, ?_, ?_⟩
      · refine W3 hx6 (by simp) fun t12 w7 k7 hx7 => ?_
        have g7 := g6.trans' k7
        refine newB fun x3 w8 hx3 hh3 k8 => ?_
        have g8 := g7.trans' k8
        rw [r1 _ g8, r2 _ g8]
        refine ⟨rfl, rfl, rfl, rfl, ?_⟩
        have s7 := g7.size
        exact fin w8 x3 t12 g8 (by omega) hh3 ((hx7.more (by simpa using hx3)).keep k8)
      · refine newB fun x3 w7 hx3 hh3 k7 => ?_
        have g7 := g6.trans' k7
        rw [r1 _ g7, r2 _ g7]
        refine ⟨rfl, rfl, rfl, rfl, ?_⟩
        have s6 := g6.size
        have l3 := lt_of_blk hh3
        refine W3 ((hx6.more (Y := [x3]) (by simpa using hx3)).keep k7) (by simpa using l3) fun t12 w8 k8 hx8 => ?_
        exact fin w8 x3 t12 (g7.trans' k8) (by omega) (k8.get hh3 (by simp)) hx8
    · refine newB fun x3 w6 hx3 hh3 k6 => ?_
      have g6 := g5.trans' k6
      rw [r1 _ g6, r2 _ g6]
      refine ⟨rfl, rfl, rfl, rfl, ?_⟩
      have s5 := g5.size
      have l3 := lt_of_blk hh3
      refine W2 ((hx5.more (Y := [x3]) (by simpa using hx3)).keep k6) (by simpa using l3) fun t10 w7 k7 hx7 => ?_
      have g7 := g6.trans' k7
      rw [r1 _ g7]
      refine ⟨rfl, ?_⟩
      have s7 := k7.size
      refine W3 hx7 (by simp; omega) fun t12 w8 k8 hx8 => ?_
      exact fin w8 x3 t12 (g7.trans' k8) (by omega) (k8.get (k7.get hh3 (by simp)) (by simp)) hx8
  · refine newB fun x3 w5 hx3 hh3 k5 => ?_
    have g5 := kd.trans' k5
    rw [r1 _ g5, r2 _ g5]
    refine ⟨rfl, rfl, rfl, rfl, ?_⟩
    have l3 := lt_of_blk hh3
    refine W1 (X := [x3]) (by simpa using l3) fun t8 w6 k6 hx6 => ?_
    have g6 := g5.trans' k6
    have s6 := k6.size
    rw [r1 _ g6]
    refine ⟨rfl, rfl, ?_⟩
    refine W2 hx6 (by simp; omega) fun t10 w7 k7 hx7 => ?_
    have g7 := g6.trans' k7
    have s7 := k7.size
    rw [r1 _ g7]
    refine ⟨rfl, ?_⟩
    refine W3 hx7 (by simp; omega) fun t12 w8 k8 hx8 => ?_
    exact fin w8 x3 t12 (g7.trans' k8) (by omega) (k8.get (k7.get (k6.get hh3 (by simp)) (by simp)) (by simp)) hx8
end Go.Proofs

/- Layer 10: what is put twice is there once. -/
set_option maxRecDepth 100000
set_option linter.unusedVariables false
set_option linter.unusedSimpArgs false
namespace Go.Proofs
open Go Go.Q
theorem wrap_back (n : Nat) : BitVec.ofInt 64 (IntKind.i64.wrap (n : Int)) = BitVec.ofNat 64 n := by
  apply BitVec.eq_of_toNat_eq
  simp only [IntKind.wrap, IntKind.bits, IntKind.signed, BitVec.toNat_ofInt, BitVec.toNat_ofNat]
  simp
  omega
theorem xor1_of {xo yo : Operand} {w : World} {T : TypeId} {x : Int} {K : Value → Prop} (hK : ∀ y : Int, y ≠ x → K (.int .i64 y)) : qG Try.prog (bq .xor T xo yo (.int .i64 x) (.int .i64 1)) w K := by
  have h : (bq .xor T xo yo (.int .i64 x) (.int .i64 1)).run Try.prog w = .ok (.int .i64 (IntKind.i64.wrap ((BitVec.ofInt 64 x ^^^ BitVec.ofInt 64 1).toNat : Int))) w := run_bq_int (s := .pure _) fun w => by
    simp only [binOp, ne_eq, not_true_eq_false, if_false, Op.intBits]
    rfl
  rw [qG_of h]
  refine hK _ fun he => ?_
  have h2 := wrap_back (BitVec.ofInt 64 x ^^^ BitVec.ofInt 64 1).toNat
  rw [he, BitVec.ofNat_toNat] at h2
  simp only [BitVec.setWidth_eq] at h2
  have h3 : BitVec.ofInt 64 1 = 0#64 := by
    have h4 := congrArg (BitVec.ofInt 64 x ^^^ ·) h2
    simp only [← BitVec.xor_assoc, BitVec.xor_self, BitVec.zero_xor] at h4
    exact h4.symm
  revert h3
  decide
def want (v : V3) : Nat := if v.ok = true then 1 else 0
theorem put1_len (v : V3) (n : Int) : (putM [] ⟨v, n⟩).length = want v := by
  unfold putM want
  by_cases h : v.ok = true
  · rw [if_pos ⟨h, by simp⟩, if_pos h]; rfl
  · rw [if_neg (fun hh => h hh.1), if_neg h]; rfl
theorem put1_mem {v : V3} {n : Int} {e : E} (h : e ∈ putM [] ⟨v, n⟩) : e = ⟨v, n⟩ := by
  unfold putM at h
  split at h
  · simpa using h
  · simp at h
theorem put2 (v : V3) (n : Int) : putM (putM [] ⟨v, n⟩) ⟨v, n⟩ = putM [] ⟨v, n⟩ := by
  unfold putM
  by_cases h : v.ok = true
  · simp [h]
  · simp [h]
theorem drop_none {m : List E} {e : E} (h : e ∉ m) : dropM m e = m := by
  unfold dropM
  rw [List.filter_eq_self]
  intro x hx
  rw [decide_eq_true_eq]
  rintro rfl
  exact h hx
theorem drop1 (v : V3) (n : Int) : dropM (putM [] ⟨v, n⟩) ⟨v, n⟩ = [] := by
  unfold dropM
  rw [List.filter_eq_nil_iff]
  intro x hx
  simp [put1_mem hx]
theorem nums1_len (v : V3) (n : Int) : (sortI (numsOf (putM [] ⟨v, n⟩) v)).length = want v := by
  rw [sortI_len, ← put1_len v n]
  unfold numsOf
  rw [List.length_map, List.filter_eq_self.2]
  intro x hx
  simp [put1_mem hx]
theorem wf1 {v : V3} (hv : v.Rg) (n : Int) : ∀ e ∈ putM [] ⟨v, n⟩, e.v.Rg := fun e he => by rw [put1_mem he]; exact hv
theorem want_le (v : V3) : want v ≤ 1 := by unfold want; split <;> omega
def vO : V3 := ⟨2, 0, [111, 116, 104, 101, 114]⟩
theorem vO_wf : vO.Rg := ⟨by decide, by decide, by decide, by decide⟩
theorem bld_valO {K : Value → Prop} : bld [(0, 1), (1, 1), (2, 1)] (zc Try.prog 24) #[(0, (.int .i64 2)), (2, (.string ⟨#[111, 116, 104, 101, 114]⟩))] K = K (valA vO) := by
  rw [zcVl]; rfl
section
variable {wb w : World} {x2 x5 x6 : Nat} {v5 v6 : Array Value} {R : Value → World → Prop} {v : V3} {n : Int} {B5 B6 : Nat}
theorem alike_s1 (hk : Kp [] wb w) (hv : v.Rg) (h2 : w.heap[x2]? = some (.cells (valV v).toArray 24)) (h5 : w.heap[x5]? = some (.cells v5 27)) (h6 : w.heap[x6]? = some (.cells v6 27)) (c5 : v5.size = 2) (c6 : v6.size = 2)
    (hx5 : IxM [] w (.agg v5) (putM [] ⟨v, n⟩) B5) (hx6 : IxM [] w (.agg v6) (putM [] ⟨v, n⟩) B6) (hB5 : B5 < 2 ^ 20) (hB6 : B6 < 2 ^ 20) (hR : ∀ w', Kp [] wb w' → R (.bool true) w') :
    law10_HashAlike_s1 R (.int .i64 n) (.pointer (some ⟨x2, 0, none⟩)) (.pointer (some ⟨x5, 0, none⟩)) (.pointer (some ⟨x6, 0, none⟩)) (.int .i64 (want v)) w := by
  have r2 : ∀ w', Kp [] w w' → ∀ K : Value → Prop, ldn 3 (.pointer (some ⟨x2, 0, none⟩)) w' K = K (valA v) := fun w' hk' K => ldA (hk'.get h2 (by simp)) rfl
  have r5 : ∀ w', Kp [] w w' → ∀ K : Value → Prop, ldn 2 (.pointer (some ⟨x5, 0, none⟩)) w' K = K (.agg v5) := fun w' hk' K => ldA (hk'.get h5 (by simp)) c5
  have r6 : ∀ w', Kp [] w w' → ∀ K : Value → Prop, ldn 2 (.pointer (some ⟨x6, 0, none⟩)) w' K = K (.agg v6) := fun w' hk' K => ldA (hk'.get h6 (by simp)) c6
  have hl := put1_len v n
  have hw := want_le v
  have hsm : (putM [] ⟨v, n⟩).length < 2 ^ 20 := by omega
  unfold law10_HashAlike_s1
  rw [r5 _ (Kp.refl _ _)]
  refine Len_spec hx5 fun w1 k1 => ?_
  simp only [bq_neq, bV_b, hl]
  refine ⟨fun h => (by simp at h), fun _ => ?_⟩
  rw [r6 _ k1]
  refine Len_spec (hx6.keep k1) fun w2 k2 => ?_
  have g2 := k1.trans' k2
  simp only [bq_neq, bV_b, hl]
  refine ⟨fun h => (by simp at h), fun _ => ?_⟩
  rw [r6 _ g2, r2 _ g2]
  refine Find_spec (hx6.keep g2) hsm v hv fun out w3 hf3 => ?_
  have g3 := g2.trans' hf3.kp
  rw [hf3.rd.lenL, List.length_map, nums1_len]
  simp only [bq_neq, bV_b]
  refine ⟨fun h => (by simp at h), fun _ => ?_⟩
  rw [r5 _ g3, r2 _ g3]
  refine xor1_of fun y hy => ?_
  refine Without_spec (hx5.keep g3) (by simp) hsm hB5 v hv y fun val w4 k4 hx4 => ?_
  have g4 := g3.trans' k4
  rw [drop_none (fun hm => hy (by have := put1_mem hm; injection this))] at hx4
  refine Len_spec hx4 fun w5 k5 => ?_
  have g5 := g4.trans' k5
  simp only [bq_neq, bV_b, hl]
  refine ⟨fun h => (by simp at h), fun _ => ?_⟩
  rw [r5 _ g5, r2 _ g5]
  refine Without_spec (hx5.keep g5) (by simp) hsm hB5 v hv n fun val w6 k6 hx6' => ?_
  have g6 := g5.trans' k6
  rw [drop1] at hx6'
  refine Len_spec hx6' fun w7 k7 => ?_
  have g7 := g6.trans' k7
  simp only [bq_neq, bV_b]
  refine ⟨fun h => (by simp at h), fun _ => ?_⟩
  unfold law10_HashAlike_s0
  rw [bld_valO]
  refine newB fun x8 w8 hx8 hh8 k8 => ?_
  unfold valA
  rw [stA (k := 3) hh8 (by rw [zcV]; rfl) rfl (by simp [valV, vO])]
  obtain ⟨w9, hw9⟩ : ∃ w9, w9 = setBlk w8 x8 (.cells (valV vO).toArray 24) := ⟨_, rfl⟩
  have h8 : w9.heap[x8]? = some (.cells (valV vO).toArray 24) := by rw [hw9]; exact heap_self (live_of hh8)
  have k79 : Kp [] w7 w9 := by rw [hw9]; exact k8.setBlk (.inr hx8) _
  have g9 := g7.trans' k79
  rw [← hw9, ldA (k := 3) (g9.get h2 (by simp)) rfl, ldA (k := 3) h8 rfl, bq_val]
  simp only [bV_b, decide_eq_true_eq, decide_eq_false_iff_not]
  have aw : ∀ w', Kp [] w w' → callG Try.prog 7 #[] w' fun t74 w => R t74 w := fun w' hk' => awake10 fun w'' hk'' => hR w'' ((hk.trans' hk').trans' hk'')
  refine ⟨fun _ => aw w9 g9, fun hne => ?_⟩
  rw [r5 _ g9, show ∀ K : Value → Prop, ldn 3 (.pointer (some ⟨x8, 0, none⟩)) w9 K = K (valA vO) from fun K => ldA h8 rfl]
  refine Without_spec (hx5.keep g9) (by simp) hsm hB5 vO vO_wf n fun val w10 k10 hx10 => ?_
  have g10 := g9.trans' k10
  rw [drop_none (fun hm => hne (by have := put1_mem hm; injection this with h _; exact h.symm))] at hx10
  refine Len_spec hx10 fun w11 k11 => ?_
  have g11 := g10.trans' k11
  simp only [bq_eql, bV_b, hl]
  refine ⟨fun _ => aw w11 g11, fun h => (by simp at h)⟩
end
theorem putB1 (v : V3) (n : Int) : putB 0 [] ⟨v, n⟩ ≤ 8 := by
  unfold putB
  split
  · unfold growB; decide
  · omega
theorem putB2 (v : V3) (n : Int) : putB (putB 0 [] ⟨v, n⟩) (putM [] ⟨v, n⟩) ⟨v, n⟩ ≤ 16 := by
  have h1 := putB1 v n
  have h2 := put1_len v n
  have h3 := want_le v
  generalize putB 0 [] ⟨v, n⟩ = b at h1 ⊢
  unfold putB
  split
  · unfold growB; split <;> omega
  · omega
theorem hashAlike_spec {w : World} (v : V3) (hv : v.Rg) (n : Int) {R : Value → World → Prop} (hR : ∀ w', Kp [] w w' → R (.bool true) w') : callG Try.prog 6 #[valA v, .int .i64 n] w R := by
  refine law10_HashAlike_call ?_
  unfold law10_HashAlike law10_HashAlike_s2
  have e0 : ∀ (k : Value → World → Prop), newG (Value.cells (valA v)) 24 w k = newG (Value.cells (.agg (valV v).toArray)) 24 w k := fun _ => rfl
  rw [e0]
  refine argB fun x2 w1 hx2 hh2 hk1 => ?_
  rw [fa_p, ldF (x := .string (str v.s)) hh2 rfl]
  simp only [lenS_s, bq_gtr, bV_b, decide_eq_true_eq, decide_eq_false_iff_not]
  refine ⟨fun _ => awake10 fun w' hk' => hR w' (hk1.trans' hk'), fun hs => ?_⟩
  have r2 : ∀ w', Kp [] w1 w' → ∀ K : Value → Prop, ldn 3 (.pointer (some ⟨x2, 0, none⟩)) w' K = K (valA v) := fun w' hk' K => ldA (hk'.get hh2 (by simp)) rfl
  rw [bld_ix0, r2 _ (Kp.refl _ _)]
  refine With_spec (ixm0 (X := [])) (by simp) (by decide) (by decide) (by simp) v hv n fun t17 w2 k2 hx5 => ?_
  have hx50 := hx5
  obtain ⟨o5, b5, rfl, hix5, _, _⟩ := hx50
  refine newB fun x5 w3 hx5l hh5 k3 => ?_
  have hl := put1_len v n
  have hw := want_le v
  have hB1 := putB1 v n
  have hB2 := putB2 v n
  rw [stA (k := 2) hh5 (by rw [zcIx]; rfl) rfl (by simp [hix5.ix.one])]
  obtain ⟨w4, hw4⟩ : ∃ w4, w4 = setBlk w3 x5 (.cells #[o5, .int .i64 (putM [] ⟨v, n⟩).length] 27) := ⟨_, rfl⟩
  have h5 : w4.heap[x5]? = some (.cells #[o5, .int .i64 (putM [] ⟨v, n⟩).length] 27) := by rw [hw4]; exact heap_self (live_of hh5)
  have k24 : Kp [] w2 w4 := by rw [hw4]; exact k3.setBlk (.inr hx5l) _
  have g4 := k2.trans' k24
  have hx54 := hx5.keep k24
  rw [← hw4, ldA (k := 2) h5 rfl, r2 _ g4]
  refine With_spec hx54 (by simp) (by omega) (by omega) (wf1 hv n) v hv n fun t21 w5 k5 hx6 => ?_
  rw [put2] at hx6
  have hx60 := hx6
  obtain ⟨o6, b6, rfl, hix6, _, _⟩ := hx60
  refine newB fun x6 w6 hx6l hh6 k6 => ?_
  rw [stA (k := 2) hh6 (by rw [zcIx]; rfl) rfl (by simp [hix6.ix.one])]
  obtain ⟨w7, hw7⟩ : ∃ w7, w7 = setBlk w6 x6 (.cells #[o6, .int .i64 (putM [] ⟨v, n⟩).length] 27) := ⟨_, rfl⟩
  have h6 : w7.heap[x6]? = some (.cells #[o6, .int .i64 (putM [] ⟨v, n⟩).length] 27) := by rw [hw7]; exact heap_self (live_of hh6)
  have k57 : Kp [] w5 w7 := by rw [hw7]; exact k6.setBlk (.inr hx6l) _
  have g7 := (g4.trans' k5).trans' k57
  rw [← hw7, r2 _ g7]
  refine May_spec v fun w8 k8 => ?_
  have g8 := g7.trans' k8
  have main := alike_s1 (B5 := putB 0 [] ⟨v, n⟩) (B6 := putB (putB 0 [] ⟨v, n⟩) (putM [] ⟨v, n⟩) ⟨v, n⟩) (R := R) (hk1.trans' g8) hv (g8.get hh2 (by simp)) (k8.get (k57.get (k5.get h5 (by simp)) (by simp)) (by simp)) (k8.get h6 (by simp)) rfl rfl (((hx54.keep k5).keep k57).keep k8) ((hx6.keep k57).keep k8) (by omega) (by omega) hR
  simp only [bV_b]
  refine ⟨fun h => ?_, fun h => ?_⟩
  · have e : want v = 1 := by unfold want; rw [if_pos h]
    rw [e] at main
    exact main
  · have e : want v = 0 := by unfold want; rw [if_neg (by simp [h])]
    rw [e] at main
    exact main
end Go.Proofs

/- What the statement's own reading says of the arguments that came in: values, calls, numbers. -/
set_option linter.unusedVariables false
set_option linter.unusedSimpArgs false
namespace Go.Proofs
open Go Go.Q
/-- an argument that the statement's own reading took -/
def Taken (w : World) (t : TypeId) (v : Value) : Prop :=
  ∃ (H : Type) (enc : TypeId × Value → H) (fuel : Nat) (x : DataW H × List MemPlace), DataW.trod enc Try.prog w 0 (fun _ => true) true fuel t v.cells.toList = some x
section
variable {H : Type} {enc : TypeId × Value → H} {w : World} {fuel n : Nat} {cs : List Value} {x : DataW H × List MemPlace}
theorem str_all (s : ByteArray) : s = str s.data.toList := by cases s; simp [str]
theorem one_celA {i : Nat} (hi : i < cs.length) : (cs.drop i).take 1 = [cs[i]] := by rw [List.drop_eq_getElem_cons hi]; rfl
theorem fld_int {i : Nat} {q : Option (DataW H × List MemPlace)} (h : DataW.trod enc Try.prog w 0 (fun _ => true) true n 3 ((cs.drop i).take (Try.prog.cellsOf 3)) = q) (hq : q.isSome = true) (hi : i < cs.length) : ∃ z : Int, cs[i] = .int .i64 z ∧ -9223372036854775808 ≤ z ∧ z < 9223372036854775808 := by
  obtain ⟨y, rfl⟩ := Option.isSome_iff_exists.1 hq
  rw [show Try.prog.cellsOf 3 = 1 by kernel_rfl, one_celA hi] at h
  obtain ⟨z, e, _, hw⟩ := DataW.trod_int Try.underlying3 h
  injection e with e _
  exact ⟨z, e, wf64 hw⟩
theorem fld_str {i : Nat} {q : Option (DataW H × List MemPlace)} (h : DataW.trod enc Try.prog w 0 (fun _ => true) true n 9 ((cs.drop i).take (Try.prog.cellsOf 9)) = q) (hq : q.isSome = true) (hi : i < cs.length) : ∃ s : List UInt8, cs[i] = .string (str s) ∧ s.length ≤ maxLen := by
  obtain ⟨y, rfl⟩ := Option.isSome_iff_exists.1 hq
  rw [show Try.prog.cellsOf 9 = 1 by kernel_rfl, one_celA hi] at h
  obtain ⟨s, e, _, hw⟩ := DataW.trod_string Try.underlying9 h
  injection e with e _
  exact ⟨s.data.toList, by rw [e]; exact congrArg Value.string (str_all s), hw⟩
theorem list3 {α : Type} {r : List α} (h : r.length = 3) : ∃ a b c, r = [a, b, c] := by
  match r, h with
  | [a, b, c], _ => exact ⟨a, b, c, rfl⟩
theorem val_in (h : DataW.trod enc Try.prog w 0 (fun _ => true) true fuel 24 cs = some x) : ∃ v : V3, cs = valV v ∧ v.Rg := by
  obtain ⟨xs, n, rfl, _, hl, hx, hf⟩ := DataW.trod_struct Try.underlying24 h
  rw [show Try.prog.cellsOf 24 = 3 by kernel_rfl] at hl
  have hx3 : xs.length = 3 := hx
  have g0 : DataW.trod enc Try.prog w 0 (fun _ => true) true n 3 ((cs.drop 0).take (Try.prog.cellsOf 3)) = xs[0]? := hf 0 _ rfl
  obtain ⟨z0, e0, p0⟩ := fld_int g0 (by simp; omega) (by omega)
  have g1 : DataW.trod enc Try.prog w 0 (fun _ => true) true n 3 ((cs.drop 1).take (Try.prog.cellsOf 3)) = xs[1]? := hf 1 _ rfl
  obtain ⟨z1, e1, p1⟩ := fld_int g1 (by simp; omega) (by omega)
  have g2 : DataW.trod enc Try.prog w 0 (fun _ => true) true n 9 ((cs.drop 2).take (Try.prog.cellsOf 9)) = xs[2]? := hf 2 _ rfl
  obtain ⟨z2, e2, p2⟩ := fld_str g2 (by simp; omega) (by omega)
  obtain ⟨c0, c1, c2, rfl⟩ := list3 hl
  simp only [List.getElem_cons_zero, List.getElem_cons_succ] at e0 e1 e2
  subst e0 e1 e2
  exact ⟨⟨z0, z1, z2⟩, rfl, ⟨p0.1, p0.2, p1.1, p1.2⟩⟩
end
theorem val_taken {w : World} {c : Array Value} (h : Taken w 24 (.agg c)) : ∃ v : V3, Value.agg c = valA v ∧ v.Rg := by
  obtain ⟨H, enc, fuel, x, h⟩ := h
  obtain ⟨v, h1, h2⟩ := val_in h
  refine ⟨v, ?_, h2⟩
  unfold valA
  congr 1
  apply Array.toList_inj.1
  exact h1
end Go.Proofs

