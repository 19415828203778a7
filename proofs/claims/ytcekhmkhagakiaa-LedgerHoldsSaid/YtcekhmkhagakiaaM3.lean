/- Part of the proof (M3): an engine, rules or contracts of the functions; it states nothing of the claim by itself. -/
import Derived.Test.YtcekhmkhagakiaaM2
import Derived.Test.YtcekhmkhagakiaaM1

/- Plain, layer 7: what the program's steps make of a ledger is what the document's make. -/
set_option linter.unusedVariables false
set_option linter.unusedSimpArgs false
namespace Go.Q
open Go
def turnS (st : List SV) (sku loc : List UInt8) (n m : Int) : List SV := putS st { findS st sku loc with hand := w64i ((findS st sku loc).hand + n), held := w64i ((findS st sku loc).held + m) }
def turnL (l : LV) (sku loc : List UInt8) (n m : Int) : LV := { l with st := turnS l.st sku loc n m }
def moveW (l : LV) (sku loc : List UInt8) (n m kind hold : Int) : LV := { turnL l sku loc n m with mo := l.mo ++ [⟨(l.mo.length + 1 : Nat), sku, loc, n, kind, hold⟩] }
def overW (l : LV) (o : OpV) : LV × Int :=
  if o.id > l.ho.length ∨ (holdAt l o.id).st ≠ 0 then (l, 71)
  else
    let h := holdAt l o.id
    if o.k = 4 then (turnL (stateL l (o.id - 1).toNat 2) h.sku h.loc 0 (w64i (-h.q)), 0) else (moveW (stateL l (o.id - 1).toNat 1) h.sku h.loc (w64i (-h.q)) (w64i (-h.q)) o.k h.id, 0)
/-- where a place stands, or would -/
theorem put_idx {st : List SV} (hs : Sorted st) {sku loc : List UInt8} {k : Nat} (hk : k ≤ st.length) (h1 : ∀ j (hj : j < st.length), j < k → ahead st[j] ⟨sku, loc, 0, 0⟩ = true) (h2 : ∀ j (hj : j < st.length), k ≤ j → ahead st[j] ⟨sku, loc, 0, 0⟩ = false) :
    ((st.any fun s => atP s sku loc) = true → ∃ h : k < st.length, findS st sku loc = st[k] ∧ ∀ s : SV, s.sku = sku → s.loc = loc → putS st s = st.set k s) ∧
    ((st.any fun s => atP s sku loc) = false → findS st sku loc = ⟨sku, loc, 0, 0⟩ ∧ ∀ s : SV, s.sku = sku → s.loc = loc → putS st s = st.take k ++ [s] ++ st.drop k) := by
  induction st generalizing k with
  | nil =>
    refine ⟨fun h => by simp at h, fun _ => ⟨rfl, fun s _ _ => by simp [putS]⟩⟩
  | cons y r ih =>
    have hr := List.pairwise_cons.1 hs
    cases k with
    | zero =>
      have hy := h2 0 (by simp) (Nat.le_refl _)
      simp only [List.getElem_cons_zero] at hy
      have hno : ∀ x ∈ r, ¬ (x.sku = sku ∧ x.loc = loc) := fun x hx hk => by
        have := hr.1 x hx
        rw [ahead_key (b' := ⟨sku, loc, 0, 0⟩) rfl rfl hk.1 hk.2, hy] at this
        cases this
      by_cases hk : y.sku = sku ∧ y.loc = loc
      · refine ⟨fun _ => ⟨by simp, ?_, fun s e1 e2 => ?_⟩, fun h => ?_⟩
        · simp [findS, atP, hk]
        · have : ahead y s = false := by rw [ahead_key (b' := ⟨sku, loc, 0, 0⟩) rfl rfl e1 e2]; exact hy
          simp [putS, this, hk, e1, e2]
        · simp [atP, hk] at h
      · refine ⟨fun h => ?_, fun _ => ⟨?_, fun s e1 e2 => ?_⟩⟩
        · simp only [List.any_cons, Bool.or_eq_true, atP, decide_eq_true_eq, List.any_eq_true] at h
          rcases h with h | ⟨x, hx, h⟩
          · exact absurd h hk
          · exact absurd h (hno x hx)
        · exact findS_none fun x hx => by
            rcases List.mem_cons.1 hx with rfl | hx
            · exact hk
            · exact hno x hx
        · have : ahead y s = false := by rw [ahead_key (b' := ⟨sku, loc, 0, 0⟩) rfl rfl e1 e2]; exact hy
          have hk' : ¬ (y.sku = s.sku ∧ y.loc = s.loc) := by rw [e1, e2]; exact hk
          simp [putS, this, hk']
    | succ k =>
      have hy := h1 0 (by simp) (by omega)
      simp only [List.getElem_cons_zero] at hy
      have hk' : ¬ (y.sku = sku ∧ y.loc = loc) := fun hk => by
        rw [ahead_key (a' := ⟨sku, loc, 0, 0⟩) (b' := ⟨sku, loc, 0, 0⟩) hk.1 hk.2 rfl rfl, ahead_irrefl] at hy
        cases hy
      obtain ⟨g1, g2⟩ := ih hr.2 (k := k) (by simpa using hk) (fun j hj hjk => by have := h1 (j + 1) (by simpa using hj) (by omega); simpa using this) (fun j hj hjk => by have := h2 (j + 1) (by simpa using hj) (by omega); simpa using this)
      have ea : atP y sku loc = false := by unfold atP; exact decide_eq_false hk'
      have ef : findS (y :: r) sku loc = findS r sku loc := by unfold findS; rw [List.find?_cons_of_neg (by simp [ea])]
      have ey : ∀ s : SV, s.sku = sku → s.loc = loc → ahead y s = true := fun s e1 e2 => by rw [ahead_key (b' := ⟨sku, loc, 0, 0⟩) rfl rfl e1 e2]; exact hy
      simp only [List.any_cons, ea, Bool.false_or]
      refine ⟨fun h => ?_, fun h => ?_⟩
      · obtain ⟨hl, e1, e2⟩ := g1 h
        refine ⟨by simpa using hl, by rw [ef, e1]; rfl, fun s a b => ?_⟩
        unfold putS
        rw [if_pos (ey s a b), e2 s a b]; rfl
      · obtain ⟨e1, e2⟩ := g2 h
        refine ⟨by rw [ef, e1], fun s a b => ?_⟩
        unfold putS
        rw [if_pos (ey s a b), e2 s a b]; simp
def FitS (st : List SV) : Prop := ∀ sku loc, fits (findS st sku loc).hand = true ∧ fits (findS st sku loc).held = true
theorem fits_w (x : Int) : fits (w64i x) = true := by
  rw [fits_iff]
  unfold w64i
  simp [IntKind.wrap, IntKind.bits, IntKind.signed]
  omega
theorem w64_self {x : Int} (h : fits x = true) : w64i (x + 0) = x := by rw [Int.add_zero]; exact w64i_eq h
theorem fitS_put {st : List SV} (hs : Sorted st) (h : FitS st) {s : SV} (h1 : fits s.hand = true) (h2 : fits s.held = true) : FitS (putS st s) := by
  intro sku loc
  rw [findS_put hs]
  split
  · exact ⟨h1, h2⟩
  · exact h sku loc
theorem turn_fit {st : List SV} (hs : Sorted st) (h : FitS st) (sku loc : List UInt8) (n m : Int) : FitS (turnS st sku loc n m) ∧ Sorted (turnS st sku loc n m) := ⟨fitS_put hs h (fits_w _) (fits_w _), putS_sorted hs⟩
theorem Good.fitS {l : LV} (h : Good l) : FitS l.st := by
  intro sku loc
  obtain ⟨g1, g2, g3, g4, g5⟩ := h.f.find sku loc
  have := fits_iff.1 g5
  exact ⟨g5, fits_iff.2 (by omega)⟩
theorem held_turn {l : LV} (h : FitS l.st) (sku loc : List UInt8) (m : Int) : turnL l sku loc 0 m = heldL l sku loc m := by
  unfold turnL turnS heldL
  rw [w64_self (h sku loc).1]
theorem moved_turn {l : LV} (h : FitS l.st) (sku loc : List UInt8) (n kind hold : Int) : moveW l sku loc n 0 kind hold = movedL l sku loc n kind hold := by
  unfold moveW turnL turnS movedL
  rw [w64_self (h sku loc).2]
theorem overW_eq {l : LV} (hs : Sorted l.st) (h : FitS l.st) (o : OpV) : overW l o = overL l o := by
  unfold overW overL
  split
  · rfl
  · simp only
    split
    · have : turnL (stateL l (o.id - 1).toNat 2) (holdAt l o.id).sku (holdAt l o.id).loc 0 (w64i (-(holdAt l o.id).q)) = heldL (stateL l (o.id - 1).toNat 2) (holdAt l o.id).sku (holdAt l o.id).loc (w64i (-(holdAt l o.id).q)) := held_turn (l := stateL l (o.id - 1).toNat 2) h _ _ _
      rw [this]; rfl
    · have hf : ∀ s : SV, (findS l.st s.sku s.loc).sku = s.sku ∧ (findS l.st s.sku s.loc).loc = s.loc := fun s => findS_key _ _ _
      obtain ⟨k1, k2⟩ := findS_key l.st (holdAt l o.id).sku (holdAt l o.id).loc
      have e1 : (heldL l (holdAt l o.id).sku (holdAt l o.id).loc (w64i (-(holdAt l o.id).q))).st = putS l.st { findS l.st (holdAt l o.id).sku (holdAt l o.id).loc with held := w64i ((findS l.st (holdAt l o.id).sku (holdAt l o.id).loc).held + w64i (-(holdAt l o.id).q)) } := rfl
      unfold movedL
      simp only [stateL, e1, findS_put hs, k1, k2, and_self, if_true]
      rw [putS_put (by exact ⟨rfl, rfl⟩)]
      simp only [moveW, turnL, turnS, k1, k2, heldL]
def doesW (l : LV) (o : OpV) : LV × Int :=
  if o.k = 1 ∨ o.k = 7 then
    (if (moreL l o.sku o.loc o.q).2 ≠ 0 then (l, (moreL l o.sku o.loc o.q).2)
     else if (moreL l o.sku o.loc o.q).1 < (findS l.st o.sku o.loc).held then (l, 70) else (moveW l o.sku o.loc o.q 0 o.k 0, 0))
  else if o.k = 2 then
    (if freeL l o.sku o.loc < o.q then (l, 70)
     else
      let l1 := turnL l o.sku o.loc 0 o.q
      ({ l1 with ho := l1.ho ++ [⟨(l1.ho.length + 1 : Nat), o.sku, o.loc, o.q, 0, o.due⟩] }, 0))
  else if o.k = 5 then (expireL l o.due 0 l.ho.length, 0)
  else if o.k = 6 then
    (if freeL l o.sku o.loc < o.q then (l, 70)
     else if (moreL l o.sku o.to o.q).2 ≠ 0 then (l, (moreL l o.sku o.to o.q).2)
     else (moveW (moveW l o.sku o.loc (w64i (-o.q)) 0 o.k 0) o.sku o.to o.q 0 o.k 0, 0))
  else overW l o
theorem doesW_eq {l : LV} (hs : Sorted l.st) (h : FitS l.st) (o : OpV) : doesW l o = doesL l o := by
  unfold doesW doesL
  rw [overW_eq hs h, moved_turn h, held_turn h, moved_turn h]
  have h2 : FitS (movedL l o.sku o.loc (w64i (-o.q)) o.k 0).st := fitS_put hs h (fits_w _) (h _ _).2
  rw [moved_turn h2]
theorem expireL_ops (due : Int) : ∀ (m : Nat) (l : LV) (i : Nat), (expireL l due i m).ops = l.ops := by
  intro m
  induction m with
  | zero => intro l i; rfl
  | succ m ih =>
    intro l i
    unfold expireL
    rw [ih]
    split <;> rfl
theorem doesL_ops (l : LV) (o : OpV) : (doesL l o).1.ops = l.ops := by
  unfold doesL
  repeat' (first | rfl | split)
  · exact expireL_ops _ _ _ _
  · unfold overL
    repeat' (first | rfl | split)
end Go.Q

/- Layer 7: a ledger that is changed: its lists are its own. -/
set_option linter.unusedVariables false
set_option linter.unusedSimpArgs false
namespace Go.Proofs
open Go Go.Q
/-- a ledger that is changed, and the blocks that are its own -/
structure WorkAt (w0 w : World) (x : Nat) (l : LV) (S : List Nat) : Prop where
  ex : ∃ a b c SA SB SC, BoxAt w x 126 [⟨a, 4, l.st.map sC, SA⟩, ⟨b, 6, l.ho.map hC, SB⟩, ⟨c, 6, l.mo.map hC, SC⟩] [.int .i64 l.ops] ∧ S = x :: blksC [⟨a, 4, l.st.map sC, SA⟩, ⟨b, 6, l.ho.map hC, SB⟩, ⟨c, 6, l.mo.map hC, SC⟩]
  new : ∀ q ∈ S, w0.heap.size ≤ q
  kp : Kp [] w0 w
section
variable {w0 w : World} {x : Nat} {l : LV} {S : List Nat}
theorem WorkAt.keep {w' : World} (h : WorkAt w0 w x l S) (hk : Kp [] w w') : WorkAt w0 w' x l S := by
  obtain ⟨a, b, c, SA, SB, SC, h1, h2⟩ := h.ex
  exact ⟨⟨a, b, c, SA, SB, SC, h1.keep hk, h2⟩, h.new, h.kp.trans' hk⟩
theorem WorkAt.lt (h : WorkAt w0 w x l S) : ∀ q ∈ S, q < w.heap.size := by
  obtain ⟨a, b, c, SA, SB, SC, h1, rfl⟩ := h.ex
  exact h1.lt
theorem WorkAt.ld (h : WorkAt w0 w x l S) : ∃ v, (∀ K : Value → Prop, ldn 4 (.pointer (some ⟨x, 0, none⟩)) w K = K v) ∧ LedAt w v l := by
  obtain ⟨a, b, c, SA, SB, SC, h1, rfl⟩ := h.ex
  exact ⟨_, fun K => h1.ld rfl, a, b, c, rfl, ⟨SA, .inr (h1.rows 0 (by simp)).rd⟩, ⟨SB, .inr (h1.rows 1 (by simp)).rd⟩, ⟨SC, .inr (h1.rows 2 (by simp)).rd⟩⟩
theorem WorkAt.focusA (h : WorkAt w0 w x l S) : ∃ v T, RowsAt w v 4 (l.st.map sC) T ∧ (∀ q ∈ T, q ∈ S) ∧ x ∉ T ∧ (∀ w1, Kp T w w1 → ∀ K : Value → Prop, ld1 (.pointer (some ⟨x, 0, none⟩)) w1 K = K v) ∧
    (∀ w1 (L : List SV), Kp T w w1 → RowsAt w1 v 4 (L.map sC) T → WorkAt w0 w1 x { l with st := L } S) ∧
    ∀ w1 v' T' (L : List SV), Kp T w w1 → RowsAt w1 v' 4 (L.map sC) T' → (∀ q ∈ T', q ∈ T ∨ w.heap.size ≤ q) → ∀ K : World → Prop, (∀ w2 S', WorkAt w0 w2 x { l with st := L } S' → Kp S w w2 → Kp [x] w1 w2 → (∀ q ∈ S', q ∈ S ∨ w.heap.size ≤ q) → K w2) → st1 (.pointer (some ⟨x, 0, none⟩)) v' w1 K := by
  have hnew := h.new
  obtain ⟨a, b, c, SA, SB, SC, h1, rfl⟩ := h.ex
  have hi : 0 < [(⟨a, 4, l.st.map sC, SA⟩ : Cmp), ⟨b, 6, l.ho.map hC, SB⟩, ⟨c, 6, l.mo.map hC, SC⟩].length := by simp
  have hA : ∀ q ∈ SA, q ∈ x :: blksC [⟨a, 4, l.st.map sC, SA⟩, ⟨b, 6, l.ho.map hC, SB⟩, ⟨c, 6, l.mo.map hC, SC⟩] := fun q hq => List.mem_cons_of_mem _ (blksC_mem hi hq)
  refine ⟨a, SA, h1.rows 0 hi, hA, h1.x_not hi, fun w1 hk K => h1.rd hi hk, fun w1 L hk hr => ?_, fun w1 v' T' L hk hr hS K hK => ?_⟩
  · obtain ⟨g1, g2⟩ := h1.inplace hi hk hr
    refine ⟨⟨a, b, c, SA, SB, SC, g1, congrArg (x :: ·) g2.symm⟩, hnew, h.kp.trans hk fun q hq hlt => ?_⟩
    have := hnew q (hA q hq)
    omega
  · have hsz := h.kp.size
    refine h1.store hi hk hr hS fun w2 g1 g2 g3 g4 => hK w2 _ ⟨⟨v', b, c, T', SB, SC, g1, rfl⟩, fun q hq => ?_, h.kp.trans g2 fun q hq hlt => ?_⟩ (g2.mono fun q hq _ => ?_) g3 fun q hq => ?_
    · rcases List.mem_cons.1 hq with rfl | hq
      · exact hnew q (by simp)
      · rcases g4 q hq with hq | hq
        · exact hnew q (List.mem_cons_of_mem _ hq)
        · omega
    · rcases List.mem_cons.1 hq with rfl | hq
      · have := hnew q (by simp); omega
      · have := hnew q (hA q hq); omega
    · rcases List.mem_cons.1 hq with rfl | hq
      · simp
      · exact hA q hq
    · rcases List.mem_cons.1 hq with rfl | hq
      · exact .inl (by simp)
      · exact (g4 q hq).imp (fun hq => List.mem_cons_of_mem _ hq) id
theorem WorkAt.focusB (h : WorkAt w0 w x l S) : ∃ v T, RowsAt w v 6 (l.ho.map hC) T ∧ (∀ q ∈ T, q ∈ S) ∧ x ∉ T ∧ (∀ w1, Kp T w w1 → ∀ K : Value → Prop, ld1 (.pointer (some ⟨x, 1, none⟩)) w1 K = K v) ∧
    (∀ w1 (L : List HV), Kp T w w1 → RowsAt w1 v 6 (L.map hC) T → WorkAt w0 w1 x { l with ho := L } S) ∧
    ∀ w1 v' T' (L : List HV), Kp T w w1 → RowsAt w1 v' 6 (L.map hC) T' → (∀ q ∈ T', q ∈ T ∨ w.heap.size ≤ q) → ∀ K : World → Prop, (∀ w2 S', WorkAt w0 w2 x { l with ho := L } S' → Kp S w w2 → Kp [x] w1 w2 → (∀ q ∈ S', q ∈ S ∨ w.heap.size ≤ q) → K w2) → st1 (.pointer (some ⟨x, 1, none⟩)) v' w1 K := by
  have hnew := h.new
  obtain ⟨a, b, c, SA, SB, SC, h1, rfl⟩ := h.ex
  have hi : 1 < [(⟨a, 4, l.st.map sC, SA⟩ : Cmp), ⟨b, 6, l.ho.map hC, SB⟩, ⟨c, 6, l.mo.map hC, SC⟩].length := by simp
  have hA : ∀ q ∈ SB, q ∈ x :: blksC [⟨a, 4, l.st.map sC, SA⟩, ⟨b, 6, l.ho.map hC, SB⟩, ⟨c, 6, l.mo.map hC, SC⟩] := fun q hq => List.mem_cons_of_mem _ (blksC_mem hi hq)
  refine ⟨b, SB, h1.rows 1 hi, hA, h1.x_not hi, fun w1 hk K => h1.rd hi hk, fun w1 L hk hr => ?_, fun w1 v' T' L hk hr hS K hK => ?_⟩
  · obtain ⟨g1, g2⟩ := h1.inplace hi hk hr
    refine ⟨⟨a, b, c, SA, SB, SC, g1, congrArg (x :: ·) g2.symm⟩, hnew, h.kp.trans hk fun q hq hlt => ?_⟩
    have := hnew q (hA q hq)
    omega
  · have hsz := h.kp.size
    refine h1.store hi hk hr hS fun w2 g1 g2 g3 g4 => hK w2 _ ⟨⟨a, v', c, SA, T', SC, g1, rfl⟩, fun q hq => ?_, h.kp.trans g2 fun q hq hlt => ?_⟩ (g2.mono fun q hq _ => ?_) g3 fun q hq => ?_
    · rcases List.mem_cons.1 hq with rfl | hq
      · exact hnew q (by simp)
      · rcases g4 q hq with hq | hq
        · exact hnew q (List.mem_cons_of_mem _ hq)
        · omega
    · rcases List.mem_cons.1 hq with rfl | hq
      · have := hnew q (by simp); omega
      · have := hnew q (hA q hq); omega
    · rcases List.mem_cons.1 hq with rfl | hq
      · simp
      · exact hA q hq
    · rcases List.mem_cons.1 hq with rfl | hq
      · exact .inl (by simp)
      · exact (g4 q hq).imp (fun hq => List.mem_cons_of_mem _ hq) id
theorem WorkAt.focusC (h : WorkAt w0 w x l S) : ∃ v T, RowsAt w v 6 (l.mo.map hC) T ∧ (∀ q ∈ T, q ∈ S) ∧ x ∉ T ∧ (∀ w1, Kp T w w1 → ∀ K : Value → Prop, ld1 (.pointer (some ⟨x, 2, none⟩)) w1 K = K v) ∧
    (∀ w1 (L : List HV), Kp T w w1 → RowsAt w1 v 6 (L.map hC) T → WorkAt w0 w1 x { l with mo := L } S) ∧
    ∀ w1 v' T' (L : List HV), Kp T w w1 → RowsAt w1 v' 6 (L.map hC) T' → (∀ q ∈ T', q ∈ T ∨ w.heap.size ≤ q) → ∀ K : World → Prop, (∀ w2 S', WorkAt w0 w2 x { l with mo := L } S' → Kp S w w2 → Kp [x] w1 w2 → (∀ q ∈ S', q ∈ S ∨ w.heap.size ≤ q) → K w2) → st1 (.pointer (some ⟨x, 2, none⟩)) v' w1 K := by
  have hnew := h.new
  obtain ⟨a, b, c, SA, SB, SC, h1, rfl⟩ := h.ex
  have hi : 2 < [(⟨a, 4, l.st.map sC, SA⟩ : Cmp), ⟨b, 6, l.ho.map hC, SB⟩, ⟨c, 6, l.mo.map hC, SC⟩].length := by simp
  have hA : ∀ q ∈ SC, q ∈ x :: blksC [⟨a, 4, l.st.map sC, SA⟩, ⟨b, 6, l.ho.map hC, SB⟩, ⟨c, 6, l.mo.map hC, SC⟩] := fun q hq => List.mem_cons_of_mem _ (blksC_mem hi hq)
  refine ⟨c, SC, h1.rows 2 hi, hA, h1.x_not hi, fun w1 hk K => h1.rd hi hk, fun w1 L hk hr => ?_, fun w1 v' T' L hk hr hS K hK => ?_⟩
  · obtain ⟨g1, g2⟩ := h1.inplace hi hk hr
    refine ⟨⟨a, b, c, SA, SB, SC, g1, congrArg (x :: ·) g2.symm⟩, hnew, h.kp.trans hk fun q hq hlt => ?_⟩
    have := hnew q (hA q hq)
    omega
  · have hsz := h.kp.size
    refine h1.store hi hk hr hS fun w2 g1 g2 g3 g4 => hK w2 _ ⟨⟨a, b, v', SA, SB, T', g1, rfl⟩, fun q hq => ?_, h.kp.trans g2 fun q hq hlt => ?_⟩ (g2.mono fun q hq _ => ?_) g3 fun q hq => ?_
    · rcases List.mem_cons.1 hq with rfl | hq
      · exact hnew q (by simp)
      · rcases g4 q hq with hq | hq
        · exact hnew q (List.mem_cons_of_mem _ hq)
        · omega
    · rcases List.mem_cons.1 hq with rfl | hq
      · have := hnew q (by simp); omega
      · have := hnew q (hA q hq); omega
    · rcases List.mem_cons.1 hq with rfl | hq
      · simp
      · exact hA q hq
    · rcases List.mem_cons.1 hq with rfl | hq
      · exact .inl (by simp)
      · exact (g4 q hq).imp (fun hq => List.mem_cons_of_mem _ hq) id
end
end Go.Proofs

/- Layer 7: so many more at a place: turned, moved, more. -/
set_option linter.unusedVariables false
set_option linter.unusedSimpArgs false
namespace Go.Proofs
open Go Go.Q
theorem overl_stock (w : World) (ba oa la ca bb ob lb cb TA TB : Nat) (cA cB : Array Value) (hne : ba ≠ bb) (hA : w.heap[ba]? = some (.cells cA TA (0, 0))) (hB : w.heap[bb]? = some (.cells cB TB (0, 0))) (hcB : cB.size ≠ 0) (K : Value → World → Prop) (hK : K (.bool false) w) :
    nG Try.prog (callFunc 130 #[.slice (some ⟨ba, oa, none⟩) la ca, .slice (some ⟨bb, ob, none⟩) lb cb]) w K :=
  nG_over Try.func130 (by kernel_rfl) (by kernel_rfl) (by kernel_rfl) (tS := 56) (tR := 4) (by kernel_rfl) (e := 44) (by kernel_rfl) (n := 4) (by kernel_rfl) hne hA hB hcB hK
theorem Insert_stock {w : World} {v x : Value} {st : List SV} {s : SV} {S SX : List Nat} (h : RowsAt w v 4 (st.map sC) S) (hx : RowsAt w x 4 [sC s] SX) (hd : ∀ q ∈ SX, q ∉ S) (hl : st.length < 2 ^ 30) {p : Nat} (hp : p ≤ st.length)
    {R : Value → World → Prop} (hR : ∀ v' w' S', RowsAt w' v' 4 ((st.take p ++ [s] ++ st.drop p).map sC) S' → Kp S w w' → (∀ y ∈ S', y ∈ S ∨ w.heap.size ≤ y) → R v' w') : callG Try.prog 122 #[v, .int .i64 p, x] w R := by
  refine slices_Insert_api_Stock_api_Stock_call ?_
  have hone : (st.map sC).flatten.all one = true := by
    rw [List.all_eq_true]
    intro y hy
    obtain ⟨r, hr, hyr⟩ := List.mem_flatten.1 hy
    obtain ⟨s, _, rfl⟩ := List.mem_map.1 hr
    exact List.all_eq_true.1 (sC_one s) y hyr
  have := ins_spec (P := Try.prog) (I := 3) (T := 44) (k := 4) (bytes := 48) (ST := 56) (fO := 130) (fR := 131) (z := [.string (str []), .string (str []), .int .i64 0, .int .i64 0]) (i := (Try.prog.info? 44).getD default)
    (kd := .i64) (by kernel_rfl) (by kernel_rfl) (by kernel_rfl) (by kernel_rfl) (by kernel_rfl) (by kernel_rfl) (by kernel_rfl) (by omega) (by omega) (by omega) overl_stock h hx hd hone (sC_one s) (by simpa using hl) (p := p) (by simpa using hp) (R := R)
    (fun v' w' S' h' hk hS => hR v' w' S' (by simpa [List.map_take, List.map_drop] using h') hk hS)
  exact this
section
variable {w0 w : World} {x : Nat} {l : LV} {S : List Nat}
/-- the numbers of a stock that is there -/
theorem turned_s0 (h : WorkAt w0 w x l S) {k : Nat} (hk : k < l.st.length) (n m : Int) {R : Value → World → Prop}
    (hR : ∀ w', Kp S w w' → WorkAt w0 w' x { l with st := l.st.set k { l.st[k] with hand := w64i (l.st[k].hand + n), held := w64i (l.st[k].held + m) } } S → R (.tuple #[]) w') :
    ledger_work_turned_s0 R (.pointer (some ⟨x, 0, none⟩)) (.int .i64 n) (.int .i64 m) (.int .i64 k) w := by
  obtain ⟨a, T, r1, hT, hxT, hld, hin, _⟩ := h.focusA
  obtain ⟨bl, hbl, hia, hrd, hwr⟩ := r1.updM hk
  unfold ledger_work_turned_s0
  simp only [nk_p, fa_p, Nat.add_zero]
  rw [hld w (Kp.refl _ _), hia]
  simp only [fa_p]
  rw [hrd 2 (.int .i64 l.st[k].hand) rfl]
  simp only [bq_add]
  rw [hia]
  simp only [fa_p]
  refine hwr 2 (by omega) _ { l.st[k] with hand := w64i (l.st[k].hand + n) } rfl rfl _ fun w1 k1 r2 => ?_
  rw [hld w1 k1]
  have hk2 : k < (l.st.set k { l.st[k] with hand := w64i (l.st[k].hand + n) }).length := by simpa using hk
  obtain ⟨bl2, hbl2, hia2, hrd2, hwr2⟩ := r2.updM hk2
  have ebl : bl2 = bl := by rw [hbl] at hbl2; simpa using hbl2.symm
  subst ebl
  simp only [List.getElem_set_self] at hrd2 hwr2
  rw [hia]
  simp only [fa_p]
  rw [hrd2 3 (.int .i64 l.st[k].held) rfl]
  simp only [bq_add]
  rw [hia]
  simp only [fa_p]
  refine hwr2 3 (by omega) _ { l.st[k] with hand := w64i (l.st[k].hand + n), held := w64i (l.st[k].held + m) } rfl rfl _ fun w2 k2 r3 => ?_
  rw [List.set_set] at r3
  have k02 := k1.trans' k2
  exact hR w2 (k02.mono fun q hq _ => hT q hq) (hin w2 _ k02 r3)
theorem turned_spec (h : WorkAt w0 w x l S) (hs : Sorted l.st) (hl : l.st.length < 2 ^ 20) (sku loc : List UInt8) (n m : Int) {K : Value → World → Prop}
    (hK : ∀ w' S', WorkAt w0 w' x (turnL l sku loc n m) S' → Kp S w w' → (∀ q ∈ S', q ∈ S ∨ w.heap.size ≤ q) → K (.tuple #[]) w') :
    callG Try.prog 109 #[.pointer (some ⟨x, 0, none⟩), keyV sku loc, .int .i64 n, .int .i64 m] w K := by
  refine ledger_work_turned_call ?_
  unfold ledger_work_turned ledger_work_turned_s1
  refine argBox (cs := [.string (str sku), .string (str loc)]) fun p w1 hp hh1 hk1 => ?_
  have hlt := h.lt
  have h1 := (h.keep hk1).keep kp_drew
  have hpS : p ∉ S := fun hm => by have := hlt p hm; omega
  obtain ⟨a, T, r1, hT, hxT, hld, hin, hst⟩ := h1.focusA
  simp only [nk_p, fa_p, Nat.add_zero]
  rw [hld _ (Kp.refl _ _), ldPl (kp_drew.get hh1 (by simp))]
  refine index_spec hs ⟨T, .inr r1.rd⟩ (by omega) sku loc fun k w2 hk2 hkl hlow hhigh => ?_
  obtain ⟨hyes, hno⟩ := put_idx hs hkl hlow hhigh
  have h2 := h1.keep hk2
  have hh2 := hk2.get (kp_drew.get hh1 (by simp)) (by simp)
  have k02 := (hk1.trans' kp_drew).trans' hk2
  cases hc : (l.st.any fun s => atP s sku loc) with
  | true =>
    obtain ⟨hlt', e1, e2⟩ := hyes hc
    obtain ⟨q1, q2⟩ := findS_key l.st sku loc
    simp [-getElem?_pos, -Array.all_eq_true, -Array.getElem?_eq_getElem, -List.length_flatten, List.getElem?_cons_zero, List.getElem?_cons_succ, ]
    refine turned_s0 h2 hlt' n m fun w3 k3 h3 => hK w3 S ?_ ((k02.mono (by simp)).trans' k3) fun q hq => .inl hq
    have e : turnL l sku loc n m = { l with st := l.st.set k { l.st[k] with hand := w64i (l.st[k].hand + n), held := w64i (l.st[k].held + m) } } := by
      unfold turnL turnS
      rw [e2 { findS l.st sku loc with hand := w64i ((findS l.st sku loc).hand + n), held := w64i ((findS l.st sku loc).held + m) } q1 q2, e1]
    rw [e]
    exact h3
  | false =>
    obtain ⟨e1, e2⟩ := hno hc
    have h2d := h2.keep kp_drew
    have hh2d := kp_drew.get hh2 (by simp)
    obtain ⟨a, T, r1, hT, hxT, hld, hin, hst⟩ := h2d.focusA
    simp only [ex0, ex1, un_not, bV_b, Bool.not_false, true_implies, Bool.true_eq_false, false_implies, and_true, nk_p, fa_p, Nat.add_zero]
    rw [hld _ (Kp.refl _ _)]
    rw [ldF hh2d (j := 0) rfl, ldF hh2d (j := 1) rfl]
    simp [-getElem?_pos, -Array.all_eq_true, -Array.getElem?_eq_getElem, -List.length_flatten, List.getElem?_cons_zero, List.getElem?_cons_succ, zcStock, str_nil, bld_done, bld_if, offAt, putAt, -ld1_p, -st1_p]
    refine bsl_rowN (n := 4) (cs := sC ⟨sku, loc, 0, 0⟩) (by omega) (by rfl) rfl fun v3 w3 f3 => ?_
    rw [hld w3 (f3.kp.mono (by simp))]
    obtain ⟨SX, rx, hnx⟩ := f3.ex
    have r1' := r1.keep f3.kp (by simp)
    have hlT := r1.lt
    refine ⟨rfl, Insert_stock r1' rx (fun q hq hq' => ?_) (by omega) hkl fun v4 w4 T4 r4 k4 hT4 => ?_⟩
    · have := hnx q hq
      have := hlT q hq'
      omega
    have k24 : Kp T w2.drew w4 := (f3.kp.mono (by simp)).trans' k4
    have hs3 := f3.kp.size
    refine hst w4 v4 T4 _ k24 r4 (fun q hq => (hT4 q hq).imp id fun hh => by omega) _ fun w5 S5 h5 k5 k5x hS5 => ?_
    have hk' : k < (l.st.take k ++ [(⟨sku, loc, 0, 0⟩ : SV)] ++ l.st.drop k).length := by simp; omega
    have eg : (l.st.take k ++ [(⟨sku, loc, 0, 0⟩ : SV)] ++ l.st.drop k)[k] = ⟨sku, loc, 0, 0⟩ := by
      rw [List.getElem_append_left (by simp; omega), List.getElem_append_right (by simp; omega)]
      simp
    refine turned_s0 h5 hk' n m fun w6 k6 h6 => ?_
    have k05 : Kp S w w5 := (((k02.trans' kp_drew)).mono (by simp)).trans' k5
    have hsz := k02.size
    refine hK w6 S5 ?_ (k05.trans k6 fun q hq hlt' => ?_) fun q hq => (hS5 q hq).imp id fun hh => ?_
    · have e : turnL l sku loc n m = { l with st := (l.st.take k ++ [(⟨sku, loc, 0, 0⟩ : SV)] ++ l.st.drop k).set k ⟨sku, loc, w64i (0 + n), w64i (0 + m)⟩ } := by
        unfold turnL turnS
        rw [e1, e2 _ rfl rfl]
        congr 1
        rw [List.append_assoc, List.append_assoc, List.set_append_right _ _ (by simp; omega)]
        have : k - (List.take k l.st).length = 0 := by simp; omega
        rw [this]; rfl
      rw [e]
      have h6' := h6
      simp only [eg] at h6'
      exact h6'
    · rcases hS5 q hq with hh | hh
      · exact hh
      · have : w2.drew.heap.size = w2.heap.size := rfl
        omega
    · have : w2.drew.heap.size = w2.heap.size := rfl
      omega
end
end Go.Proofs

/- Layer 7: so many more at a place, and the movement; how many there would be. -/
set_option linter.unusedVariables false
set_option linter.unusedSimpArgs false
namespace Go.Proofs
open Go Go.Q
/-- one row more, of a call's own, behind rows -/
theorem rows_push {e k bytes : Nat} {z : List Value} {v y : Value} {w : World} {rows : List (List Value)} {r : List Value} {S : List Nat} (h : RowsAt w v k rows S) (hk : 0 < k) (hz : z.length = k) (hx : Rd w y k [r]) (hone : r.all one = true)
    (hb : bytes ≤ 2 ^ 10) (hl : rows.length < 2 ^ 30) {K : Value → World → Prop}
    (hK : ∀ v' w' S', RowsAt w' v' k (rows ++ [r]) S' → Kp S w w' → (∀ q ∈ S', q ∈ S ∨ w.heap.size ≤ q) → K v' w') : app e k bytes z.toArray v y w K := by
  have hr : r.length = k := hx.row (by simp)
  refine rows_app h hk hz (G := [r]) (by simpa using hr) (by simpa using hone) (fun K' hK' => hx.src K' hK') ?_ (by simp; omega) hK
  have : 2 * (rows.length + 1) * bytes ≤ 2 ^ 32 * 2 ^ 10 := Nat.mul_le_mul (by omega) hb
  simpa using Nat.le_trans this (by decide)
section
variable {w0 w : World} {x : Nat} {l : LV} {S : List Nat}
theorem moved_spec (h : WorkAt w0 w x l S) (hs : Sorted l.st) (hl : l.st.length < 2 ^ 20) (hlm : l.mo.length < 2 ^ 20) (sku loc : List UInt8) (n m : Int) (mv : HV) {K : Value → World → Prop}
    (hK : ∀ w' S', WorkAt w0 w' x (moveW l sku loc n m mv.st mv.due) S' → Kp S w w' → (∀ q ∈ S', q ∈ S ∨ w.heap.size ≤ q) → K (.tuple #[]) w') :
    callG Try.prog 108 #[.pointer (some ⟨x, 0, none⟩), keyV sku loc, .int .i64 n, .int .i64 m, hA mv] w K := by
  refine ledger_work_moved_call ?_
  unfold ledger_work_moved ledger_work_moved_s0
  have hlt := h.lt
  refine argBox (cs := [.string (str sku), .string (str loc)]) fun p w1 hp hh1 hk1 => ?_
  refine argBox (cs := hC mv) fun y w2 hy hh2 hk2 => ?_
  have hp2 := hk2.get hh1 (by simp)
  have h2 := (h.keep hk1).keep hk2
  have k02 := hk1.trans' hk2
  have hs1 := hk1.size
  have hs2 := hk2.size
  have hpl := lt_of_blk hh1
  have hpS : p ∉ S := fun hm => by have := hlt p hm; omega
  have hyS : y ∉ S := fun hm => by have := hlt y hm; omega
  have hpy : y ≠ p := by omega
  rw [ldPl hp2]
  refine turned_spec h2 hs hl sku loc n m fun w3 S3 h3 k3 hS3 => ?_
  have hlm3 : (turnL l sku loc n m).mo.length < 2 ^ 20 := hlm
  have hp3 := (k3.get hp2 hpS)
  have hy3 := (k3.get hh2 hyS)
  have h3d := h3.keep kp_drew
  have hp3d := kp_drew.get hp3 (by simp)
  have hy3d := kp_drew.get hy3 (by simp)
  have hpl2 := lt_of_blk hp2
  have hyl2 := lt_of_blk hh2
  have hp3S : p ∉ S3 := fun hm => by
    rcases hS3 p hm with e | e
    · exact hpS e
    · omega
  have hy3S : y ∉ S3 := fun hm => by
    rcases hS3 y hm with e | e
    · exact hyS e
    · omega
  obtain ⟨W, hW⟩ : ∃ W, W = w3.drew := ⟨_, rfl⟩
  have hWs : W.heap.size = w3.heap.size := by rw [hW]; rfl
  have hk3W : Kp [] w3 W := by rw [hW]; exact kp_drew
  rw [← hW] at h3d hp3d hy3d
  rw [← hW]
  obtain ⟨c, T, r1, hT, hxT, hld, hin, hst⟩ := h3d.focusC
  have hlr := r1.len
  obtain ⟨ca, cc, hcv, _⟩ := hlr
  have hlw : IntKind.i64.wrap ((l.mo.length : Int) + 1) = ((l.mo.length + 1 : Nat) : Int) := by rw [w64 (by omega) (by omega)]; simp
  simp only [nk_p, fa_p, Nat.add_zero, Nat.zero_add]
  rw [hld _ (Kp.refl _ _)]
  have hlen : ∀ K : Value → Prop, lenL c K = K (.int .i64 l.mo.length) := fun K => by rw [hcv, lenL_s]; simp [turnL]
  rw [hlen]
  simp only [bq_add, hlw]
  rw [ldF hp3d (j := 0) (x := .string (str sku)) rfl, ldF hp3d (j := 1) (x := .string (str loc)) rfl]
  have rp : ∀ o K, ∀ j v, ([.string (str sku), .string (str loc)] : List Value)[j]? = some v → ld1 (.pointer (some ⟨p, j, none⟩)) (setBlk W y o) K = K v := fun o K j v hj => ldF (c := [.string (str sku), .string (str loc)].toArray) (by rw [heap_ne hpy]; exact hp3d) (by simpa using hj)
  have ly := live_of hy3d
  rw [stF hy3d (by simp [hC]) rfl]
  rw [rp _ _ 1 (.string (str loc)) rfl, rp _ _ 0 (.string (str sku)) rfl]
  refine ⟨rfl, rfl, ?_⟩
  rw [stF (heap_self ly) (by simp [hC]) rfl, setBlk2, rp _ _ 1 (.string (str loc)) rfl]
  refine ⟨rfl, ?_⟩
  rw [stF (heap_self ly) (by simp [hC]) rfl, setBlk2, stF (heap_self ly) (by simp [hC]) rfl, setBlk2]
  obtain ⟨nv, hnv⟩ : ∃ nv : HV, nv = ⟨(l.mo.length + 1 : Nat), sku, loc, n, mv.st, mv.due⟩ := ⟨_, rfl⟩
  have hcells : (((((hC mv).toArray.setIfInBounds 0 (.int .i64 ((l.mo.length + 1 : Nat) : Int))).setIfInBounds 1 (.string (str sku))).setIfInBounds 2 (.string (str loc))).setIfInBounds 3 (.int .i64 n)) = (hC nv).toArray := by rw [hnv]; rfl
  rw [hcells]
  have kW : Kp [y] W (setBlk W y (.cells (hC nv).toArray 50)) := (Kp.refl _ _).setBlk (.inl (by simp)) _
  obtain ⟨W2, hW2⟩ : ∃ W2, W2 = (setBlk W y (.cells (hC nv).toArray 50)).drew := ⟨_, rfl⟩
  have kW2 : Kp [y] W W2 := by rw [hW2]; exact kW.drew
  have hyW2 : W2.heap[y]? = some (.cells (hC nv).toArray 50) := by rw [hW2]; exact heap_self ly
  rw [← hW2]
  have hyT : y ∉ T := fun hm => hy3S (hT y hm)
  have hWl := h3d.lt
  -- the ledger lies as it was
  have h4 : WorkAt w0 W2 x (turnL l sku loc n m) S3 := by
    obtain ⟨a', b', c', SA, SB, SC, g1, g2⟩ := h3d.ex
    have hs0 := h3d.kp.size
    refine ⟨⟨a', b', c', SA, SB, SC, g1.keepS kW2 (fun q hq => by rw [← g2] at hq; simp; intro e; exact hy3S (e ▸ hq)), g2⟩, h3d.new, h3d.kp.trans kW2 fun q hq hlt' => ?_⟩
    simp at hq
    have := h.kp.size
    omega
  obtain ⟨c2, T2, r2, hT2, hxT2, hld2, hin2, hst2⟩ := h4.focusC
  rw [hld2 _ (Kp.refl _ _), ldHold hyW2]
  refine bsl_rowN (n := 6) (cs := hC nv) (by omega) (by rfl) rfl fun v5 w5 f5 => ?_
  have k25 := f5.kp
  rw [hld2 _ (k25.mono (by simp))]
  refine ⟨rfl, ?_⟩
  rw [move_zc]
  refine rows_push (r2.keep k25 (by simp)) (by omega) rfl f5.rd rfl (by omega) (by simp; omega) fun v6 w6 T6 r6 k6 hT6 => ?_
  have k26 : Kp T2 W2 w6 := (k25.mono (by simp)).trans' k6
  have hs5 := k25.size
  refine hst2 w6 v6 T6 ((turnL l sku loc n m).mo ++ [nv]) k26 (by rw [List.map_append]; exact r6) (fun q hq => (hT6 q hq).imp id fun e => by omega) _ fun w7 S7 h7 k7 _ hS7 => ?_
  have hsW2 : W2.heap.size = w3.heap.size := by rw [hW2]; simp [hWs]
  have hs3 := k3.size
  refine hK w7 S7 (by rw [hnv] at h7; exact h7) ?_ fun q hq => ?_
  · have k3' : Kp S w w3 := (k02.mono (by simp)).trans' k3
    refine ((k3'.trans' (hk3W.mono (by simp))).trans kW2 fun q hq hlt' => ?_).trans k7 fun q hq hlt' => ?_
    · simp at hq; omega
    · rcases hS3 q hq with e | e
      · exact e
      · omega
  · rcases hS7 q hq with e | e
    · rcases hS3 q e with e | e
      · exact .inl e
      · exact .inr (by omega)
    · exact .inr (by omega)
end
end Go.Proofs

/- Layer 7: how many there would be; a hold is over. -/
set_option linter.unusedVariables false
set_option linter.unusedSimpArgs false
namespace Go.Proofs
open Go Go.Q
section
variable {w0 w : World} {x : Nat} {l : LV} {S : List Nat}
theorem more_spec (h : WorkAt w0 w x l S) (hf : FitS l.st) (hl : l.st.length < 2 ^ 20) (sku loc : List UInt8) {n : Int} (hn : rngI n) {K : Value → World → Prop}
    (hK : ∀ w', Kp [] w w' → K (.tuple #[.int .i64 (moreL l sku loc n).1, .int .i64 (moreL l sku loc n).2]) w') :
    callG Try.prog 107 #[.pointer (some ⟨x, 0, none⟩), keyV sku loc, .int .i64 n] w K := by
  refine ledger_work_more_call ?_
  unfold ledger_work_more ledger_work_more_s0
  refine argBox (cs := [.string (str sku), .string (str loc)]) fun p w1 hp hh1 hk1 => ?_
  have h1 := (h.keep hk1).keep kp_drew
  obtain ⟨v, hld, hv⟩ := h1.ld
  have hp1 := kp_drew.get hh1 (by simp)
  simp only [nk_p, fa_p, Nat.add_zero, Nat.zero_add]
  rw [hld, ldF hp1 (j := 0) (x := .string (str sku)) rfl, ldF hp1 (j := 1) (x := .string (str loc)) rfl]
  refine Find_spec7 hv (by omega) sku loc fun w2 hk2 => ?_
  have hr := fits_rng.1 (hf sku loc).1
  unfold sA
  simp [-getElem?_pos, -Array.all_eq_true, -Array.getElem?_eq_getElem, -List.length_flatten, List.getElem?_cons_zero, List.getElem?_cons_succ, ]
  refine numAdd_spec hr hn ?_
  simp [-getElem?_pos, -Array.all_eq_true, -Array.getElem?_eq_getElem, -List.length_flatten, List.getElem?_cons_zero, List.getElem?_cons_succ, ]
  exact hK w2 ((hk1.trans' kp_drew).trans' hk2)
theorem over_spec (h : WorkAt w0 w x l S) (hs : Sorted l.st) (hl : l.st.length < 2 ^ 20) (hlh : l.ho.length < 2 ^ 20) (hlm : l.mo.length < 2 ^ 20) (o : OpV) (hid : 1 ≤ o.id) {K : Value → World → Prop}
    (hK : ∀ w' S', WorkAt w0 w' x (overW l o).1 S' → Kp S w w' → (∀ q ∈ S', q ∈ S ∨ w.heap.size ≤ q) → K (.int .i64 (overW l o).2) w') :
    callG Try.prog 110 #[.pointer (some ⟨x, 0, none⟩), .agg (opC o).toArray] w K := by
  refine ledger_work_over_call ?_
  unfold ledger_work_over ledger_work_over_s1
  have hlt := h.lt
  refine argBox (cs := opC o) fun y w1 hy hh1 hk1 => ?_
  have hyS : y ∉ S := fun hm => by have := hlt y hm; omega
  have h1 := (h.keep hk1).keep kp_drew
  have hy1 := kp_drew.get hh1 (by simp)
  have k01 : Kp [] w w1.drew := hk1.trans' kp_drew
  obtain ⟨W, hW⟩ : ∃ W, W = w1.drew := ⟨_, rfl⟩
  rw [← hW] at h1 hy1 k01 ⊢
  obtain ⟨b, T, r1, hT, hxT, hld, hin, hst⟩ := h1.focusB
  obtain ⟨ba, bc, hbv, _⟩ := r1.len
  have hlen : ∀ K : Value → Prop, lenL b K = K (.int .i64 l.ho.length) := fun K => by rw [hbv, lenL_s]; simp
  have h71 : (o.id > l.ho.length ∨ (holdAt l o.id).st ≠ 0) → K (.int .i64 71) W := by
    intro e
    have e2 : overW l o = (l, 71) := by unfold overW; rw [if_pos e]
    rw [e2] at hK
    exact hK W S h1 (k01.mono (by simp)) fun q hq => .inl hq
  simp only [nk_p, fa_p, Nat.add_zero, Nat.zero_add]
  rw [ldF hy1 (j := 5) (x := .int .i64 o.id) rfl, hld _ (Kp.refl _ _), hlen]
  simp only [bq_gtr, bV_b, decide_eq_true_eq, decide_eq_false_iff_not]
  refine ⟨fun e => h71 (.inl (by omega)), fun e1 => ?_⟩
  obtain ⟨k, hk⟩ : ∃ k, k = (o.id - 1).toNat := ⟨_, rfl⟩
  have hiw : IntKind.i64.wrap (o.id - 1) = (k : Nat) := by rw [w64 (by omega) (by omega)]; omega
  have hkl : k < l.ho.length := by omega
  have hg : holdAt l o.id = l.ho[k] := by simp only [holdAt, ← hk, List.getD, List.getElem?_eq_getElem hkl, Option.getD_some]
  obtain ⟨bl, hbl, hia, hrd, hwr⟩ := r1.updK hkl
  obtain ⟨hh, hhd⟩ : ∃ hh, hh = l.ho[k] := ⟨_, rfl⟩
  rw [← hhd] at hrd hwr hg
  rw [hld _ (Kp.refl _ _), ldF hy1 (j := 5) (x := .int .i64 o.id) rfl]
  simp only [bq_sub, hiw]
  rw [hia]
  simp only [fa_p]
  rw [hrd _ (Kp.refl _ _) 4 (.int .i64 hh.st) rfl]
  simp only [bq_neq, bV_b, decide_eq_true_eq, decide_eq_false_iff_not]
  refine ⟨fun e => h71 (.inr (by rw [hg]; exact e)), fun e2 => ?_⟩
  unfold ledger_work_over_s0
  have kd1 : Kp [] W W.drew := kp_drew
  have kd2 : Kp [] W W.drew.drew := kp_drew.trans' kp_drew
  simp only [nk_p, fa_p, Nat.add_zero, Nat.zero_add]
  rw [hld _ (kd1.mono (by simp)), ldF (kd1.get hy1 (by simp)) (j := 5) (x := .int .i64 o.id) rfl]
  simp only [bq_sub, hiw]
  rw [hia]
  simp only [nk_p, fa_p]
  rw [hrd _ kd2 1 (.string (str hh.sku)) rfl, hrd _ kd2 2 (.string (str hh.loc)) rfl]
  simp [-getElem?_pos, -Array.all_eq_true, -Array.getElem?_eq_getElem, -List.length_flatten, List.getElem?_cons_zero, List.getElem?_cons_succ, zcPl, bld_done, bld_if, offAt, putAt, -ld1_p, -st1_p, -ldn_p, -stn_p, -newG_k]
  rw [newG_k]
  obtain ⟨p, hp⟩ : ∃ p, p = W.drew.drew.heap.size := ⟨_, rfl⟩
  obtain ⟨W3, hW3⟩ : ∃ W3, W3 = W.drew.drew.alloc (.cells [.string (str []), .string (str [])].toArray 119) := ⟨_, rfl⟩
  have k3 : Kp [] W W3 := by rw [hW3]; exact kd2.alloc _
  have hp3 : W3.heap[p]? = some (.cells [.string (str []), .string (str [])].toArray 119) := by rw [hW3, hp]; exact heap_new
  rw [← hW3, ← hp]
  rw [hrd _ k3 2 (.string (str hh.loc)) rfl, hrd _ k3 1 (.string (str hh.sku)) rfl]
  refine ⟨rfl, rfl, ?_⟩
  rw [stAll (k := 2) hp3 rfl rfl (by simp [one])]
  have hWl : W.heap.size ≤ p := by rw [hp]; exact Nat.le_refl _
  obtain ⟨W4, hW4⟩ : ∃ W4, W4 = setBlk W3 p (.cells #[.string (str hh.sku), .string (str hh.loc)] 119) := ⟨_, rfl⟩
  have hp4 : W4.heap[p]? = some (.cells #[.string (str hh.sku), .string (str hh.loc)] 119) := by rw [hW4]; exact heap_self (live_of hp3)
  have k4 : Kp [] W W4 := by rw [hW4]; exact k3.setBlk (.inr hWl) _
  rw [← hW4]
  have hy4 := k4.get hy1 (by simp)
  rw [ldF hy4 (j := 0) (x := .int .i64 o.k) rfl]
  have hS1 := h1.lt
  have hpS : p ∉ S := fun hm => by have := hS1 p hm; omega
  have hset : ∀ n : Int, l.ho.set k { hh with st := n } = (stateL l k n).ho := fun n => by simp [stateL, List.getD, hkl, hhd]
  have eO : overW l o = if o.k = 4 then (turnL (stateL l k 2) hh.sku hh.loc 0 (w64i (-hh.q)), 0) else (moveW (stateL l k 1) hh.sku hh.loc (w64i (-hh.q)) (w64i (-hh.q)) o.k hh.id, 0) := by
    unfold overW
    rw [if_neg (by rw [hg]; omega), hg, ← hk]
  have hst : ∀ n w5, Kp T W4 w5 → RowsAt w5 b 6 ((l.ho.set k { hh with st := n }).map hC) T → WorkAt w0 w5 x (stateL l k n) S ∧ Kp S w w5 := by
    intro n w5 k5 r5
    have := hin w5 _ ((k4.mono (by simp)).trans' k5) r5
    rw [hset n] at this
    exact ⟨this, (k01.mono (by simp)).trans' (((k4.mono (by simp)).trans' k5).mono fun q hq _ => hT q hq)⟩
  have hsz := k01.size
  have hsz4 := k4.size
  simp only [bq_eql, bV_b, decide_eq_true_eq, decide_eq_false_iff_not]
  refine ⟨fun e4 => ?_, fun e4 => ?_⟩
  · rw [eO, if_pos e4] at hK
    refine hwr _ k4 4 (by omega) _ { hh with st := 2 } rfl rfl _ fun w5 k5 r5 => ?_
    obtain ⟨h5, k05⟩ := hst 2 w5 k5 r5
    have h5d := h5.keep kp_drew
    have hp5 := kp_drew.get (k5.get hp4 fun hm => hpS (hT p hm)) (by simp)
    have hsz5 := k5.size
    have r5d := r5.keep (S' := []) (w' := w5.drew) kp_drew (by simp)
    obtain ⟨bl', g1, g2, g3, _⟩ := r5d.updK (i := k) (by simpa using hkl)
    have : bl' = bl := by rw [hbl] at g1; simpa using g1.symm
    subst this
    simp only [List.getElem_set_self] at g3
    rw [ldPl hp5, g3 _ (Kp.refl _ _) 3 (.int .i64 hh.q) rfl, neg_of]
    refine turned_spec h5d hs hl hh.sku hh.loc 0 (w64i (-hh.q)) fun w6 S6 h6 k6 hS6 => ?_
    exact hK w6 S6 h6 ((k05.trans' (kp_drew.mono (by simp))).trans' k6) fun q hq => (hS6 q hq).imp id fun e => by have : w5.drew.heap.size = w5.heap.size := rfl; omega
  · rw [eO, if_neg e4] at hK
    refine hwr _ k4 4 (by omega) _ { hh with st := 1 } rfl rfl _ fun w5 k5 r5 => ?_
    obtain ⟨h5, k05⟩ := hst 1 w5 k5 r5
    have h5d := h5.keep kp_drew
    have hp5 := kp_drew.get (k5.get hp4 fun hm => hpS (hT p hm)) (by simp)
    have hyW := lt_of_blk hy1
    have hy5 := kp_drew.get (k5.get hy4 fun hm => hyS (hT y hm)) (by simp)
    have hsz5 := k5.size
    have r5d := r5.keep (S' := []) (w' := w5.drew) kp_drew (by simp)
    obtain ⟨bl', g1, g2, g3, _⟩ := r5d.updK (i := k) (by simpa using hkl)
    have : bl' = bl := by rw [hbl] at g1; simpa using g1.symm
    subst this
    simp only [List.getElem_set_self] at g3
    have g30 := g3 _ (Kp.refl _ _) 0 (.int .i64 hh.id) rfl
    rw [Nat.add_zero] at g30
    rw [ldPl hp5, g3 _ (Kp.refl _ _) 3 (.int .i64 hh.q) rfl, neg_of, g3 _ (Kp.refl _ _) 3 (.int .i64 hh.q) rfl, neg_of, ldF hy5 (j := 0) (x := .int .i64 o.k) rfl, g30]
    simp [-getElem?_pos, -Array.all_eq_true, -Array.getElem?_eq_getElem, -List.length_flatten, List.getElem?_cons_zero, List.getElem?_cons_succ, move_zc, str_nil, bld_done, bld_if, offAt, putAt, -ld1_p, -st1_p, -ldn_p, -stn_p, -newG_k]
    refine moved_spec h5d hs hl hlm hh.sku hh.loc (w64i (-hh.q)) (w64i (-hh.q)) ⟨0, [], [], 0, o.k, hh.id⟩ fun w6 S6 h6 k6 hS6 => ?_
    exact hK w6 S6 h6 ((k05.trans' (kp_drew.mono (by simp))).trans' k6) fun q hq => (hS6 q hq).imp id fun e => by have : w5.drew.heap.size = w5.heap.size := rfl; omega
end
end Go.Proofs

/- Layer 7: the document's ledger: holds that are due. -/
set_option linter.unusedVariables false
set_option linter.unusedSimpArgs false
namespace Go.Proofs
open Go Go.Q
theorem putS_len (l : List SV) (s : SV) : (putS l s).length ≤ l.length + 1 := by
  induction l with
  | nil => simp [putS]
  | cons x r ih =>
    unfold putS
    split
    · simp; omega
    · split <;> simp
theorem held_sorted {l : LV} (h : Sorted l.st) (sku loc : List UInt8) (n : Int) : Sorted (heldL l sku loc n).st := putS_sorted h
/-- a ledger in a variable -/
structure LVar (w0 w : World) (x : Nat) (l : LV) (S0 S : List Nat) : Prop where
  ex : ∃ a b c, w.heap[x]? = some (.cells #[a, b, c, .int .i64 l.ops] 60) ∧ LedS w (.agg #[a, b, c, .int .i64 l.ops]) l S
  x0 : w0.heap.size ≤ x
  xS : x ∉ S
  new : ∀ q ∈ S, q ∈ S0 ∨ w0.heap.size ≤ q
  kp : Kp [] w0 w
section
variable {w0 w : World} {x : Nat} {l : LV} {S0 S : List Nat}
theorem LVar.keep {w' : World} (h : LVar w0 w x l S0 S) (hk : Kp [] w w') : LVar w0 w' x l S0 S := by
  obtain ⟨a, b, c, h1, h2⟩ := h.ex
  exact ⟨⟨a, b, c, hk.get h1 (by simp), h2.keep hk (by simp)⟩, h.x0, h.xS, h.new, h.kp.trans' hk⟩
theorem LVar.ld (h : LVar w0 w x l S0 S) : ∃ v, (∀ K : Value → Prop, ldn 4 (.pointer (some ⟨x, 0, none⟩)) w K = K v) ∧ LedS w v l S := by
  obtain ⟨a, b, c, h1, h2⟩ := h.ex
  exact ⟨_, fun K => ldAll h1 rfl, h2⟩
/-- another ledger is put there -/
theorem LVar.st (h : LVar w0 w x l S0 S) {w1 : World} {v : Value} {l' : LV} {S' : List Nat} (hk : Kp [] w w1) (hv : LedS w1 v l' S') (hS : ∀ q ∈ S', q ∈ S ∨ w.heap.size ≤ q) {K : World → Prop}
    (hK : ∀ w2, Kp [x] w1 w2 → LVar w0 w2 x l' S0 S' → K w2) : stn 4 (.pointer (some ⟨x, 0, none⟩)) v w1 K := by
  obtain ⟨a, b, c, h1, h2⟩ := h.ex
  obtain ⟨a', b', c', SA, SB, SC, rfl, r1, r2, r3, e⟩ := hv.ex
  have hx1 := hk.get h1 (by simp)
  have hxl := lt_of_blk h1
  have hone := LedAt.ones (l := l') ⟨_, r1⟩ ⟨_, r2⟩ ⟨_, r3⟩
  rw [stAll (k := 4) hx1 rfl rfl hone]
  have hkx : Kp [x] w1 (setBlk w1 x (.cells #[a', b', c', .int .i64 l'.ops] 60)) := (Kp.refl _ w1).setBlk (.inl (by simp)) _
  have hxS' : x ∉ S' := fun hm => by
    rcases hS x hm with hh | hh
    · exact h.xS hh
    · omega
  have hsz := h.kp.size
  have x0 := h.x0
  refine hK _ hkx ⟨⟨a', b', c', heap_self (live_of hx1), hv.keep hkx fun q hq => by simp; intro hh; exact hxS' (hh ▸ hq)⟩, h.x0, hxS', fun q hq => ?_, (h.kp.trans' hk).trans hkx fun q hq hlt => by simp at hq; omega⟩
  rcases hS q hq with hh | hh
  · exact h.new q hh
  · exact .inr (by omega)
theorem LVar.rd (h : LVar w0 w x l S0 S) : ∃ a b c, w.heap[x]? = some (.cells #[a, b, c, .int .i64 l.ops] 60) ∧ Rd w a 4 (l.st.map sC) ∧ Rd w b 6 (l.ho.map hC) ∧ Rd w c 6 (l.mo.map hC) := by
  obtain ⟨a, b, c, h1, h2⟩ := h.ex
  obtain ⟨a', b', c', e, r1, r2, r3⟩ := h2.at
  simp only [Value.agg.injEq, Array.mk.injEq, List.cons.injEq] at e
  obtain ⟨rfl, rfl, rfl, _⟩ := e
  exact ⟨a, b, c, h1, r1, r2, r3⟩
end
/-- an argument in a variable -/
theorem argVar {w : World} {v : Value} {l : LV} {S : List Nat} (hv : LedS w v l S) {K : Value → World → Prop} (hK : ∀ x w1, LVar w w1 x l S S → K (.pointer (some ⟨x, 0, none⟩)) w1) : newG (Value.cells v) 60 w K := by
  have hlt := hv.lt
  obtain ⟨a, b, c, SA, SB, SC, e, h1, h2, h3, _⟩ := hv.ex
  subst e
  refine argBox (cs := [a, b, c, .int .i64 l.ops]) fun x w1 hx hh hk => hK x w1 ⟨⟨a, b, c, hh, hv.keep hk (by simp)⟩, hx, fun hm => by have := hlt x hm; omega, fun q hq => .inl hq, hk⟩
end Go.Proofs

/- Layer 7: an operation is done (the branches). -/
set_option linter.unusedVariables false
set_option linter.unusedSimpArgs false
namespace Go.Proofs
open Go Go.Q
/-- how things stand in does -/
structure DoAt (w0 w : World) (x y p5 p6 : Nat) (l : LV) (S : List Nat) (o : OpV) : Prop where
  at_ : WorkAt w0 w x l S
  hy : w.heap[y]? = some (.cells (opC o).toArray 23)
  h5 : w.heap[p5]? = some (.cells #[.string (str o.sku), .string (str o.loc)] 119)
  h6 : w.heap[p6]? = some (.cells #[.string (str o.sku), .string (str o.to)] 119)
  yS : y ∉ S
  s5 : p5 ∉ S
  s6 : p6 ∉ S
section
variable {w0 w : World} {x y p5 p6 : Nat} {l : LV} {S : List Nat} {o : OpV}
theorem op_zc : zc Try.prog 23 = [.int .i64 0, .string (str []), .string (str []), .string (str []), .int .i64 0, .int .i64 0, .int .i64 0].toArray := zcOp
theorem DoAt.keep {w' : World} (h : DoAt w0 w x y p5 p6 l S o) (hk : Kp [] w w') : DoAt w0 w' x y p5 p6 l S o :=
  ⟨h.at_.keep hk, hk.get h.hy (by simp), hk.get h.h5 (by simp), hk.get h.h6 (by simp), h.yS, h.s5, h.s6⟩
theorem DoAt.next {w' : World} {l' : LV} {S' : List Nat} (h : DoAt w0 w x y p5 p6 l S o) (ha : WorkAt w0 w' x l' S') (hk : Kp S w w') (hS : ∀ q ∈ S', q ∈ S ∨ w.heap.size ≤ q) : DoAt w0 w' x y p5 p6 l' S' o := by
  have a1 := lt_of_blk h.hy
  have a2 := lt_of_blk h.h5
  have a3 := lt_of_blk h.h6
  have b1 := h.yS
  have b2 := h.s5
  have b3 := h.s6
  refine ⟨ha, hk.get h.hy h.yS, hk.get h.h5 h.s5, hk.get h.h6 h.s6, fun hm => ?_, fun hm => ?_, fun hm => ?_⟩
  · rcases hS _ hm with e | e
    · exact b1 e
    · omega
  · rcases hS _ hm with e | e
    · exact b2 e
    · omega
  · rcases hS _ hm with e | e
    · exact b3 e
    · omega
theorem DoAt.op (h : DoAt w0 w x y p5 p6 l S o) (j : Nat) (v : Value) (hj : (opC o)[j]? = some v) (K : Value → Prop) : ld1 (.pointer (some ⟨y, j, none⟩)) w K = K v := ldF h.hy (by simpa using hj)
theorem does_s1 (h : DoAt w0 w x y p5 p6 l S o) (hs : Sorted l.st) (hl : l.st.length < 2 ^ 20) (hlm : l.mo.length < 2 ^ 20) {K : Value → World → Prop}
    (hK : ∀ w' S', WorkAt w0 w' x (moveW l o.sku o.loc o.q 0 o.k 0) S' → Kp S w w' → (∀ q ∈ S', q ∈ S ∨ w.heap.size ≤ q) → K (.int .i64 0) w') :
    ledger_work_does_s1 K (.pointer (some ⟨x, 0, none⟩)) (.pointer (some ⟨y, 0, none⟩)) (.pointer (some ⟨p5, 0, none⟩)) w := by
  unfold ledger_work_does_s1 ledger_work_does_s0
  simp only [fa_p, Nat.add_zero, Nat.zero_add]
  rw [ldPl h.h5, h.op 4 (.int .i64 o.q) rfl, h.op 0 (.int .i64 o.k) rfl]
  simp [-getElem?_pos, -Array.all_eq_true, -Array.getElem?_eq_getElem, -List.length_flatten, List.getElem?_cons_zero, List.getElem?_cons_succ, move_zc, str_nil, bld_done, bld_if, offAt, putAt, -ld1_p, -st1_p, -ldn_p, -stn_p, -newG_k]
  exact moved_spec h.at_ hs hl hlm o.sku o.loc o.q 0 ⟨0, [], [], 0, o.k, 0⟩ hK
theorem does_s7 (h : DoAt w0 w x y p5 p6 l S o) (hs : Sorted l.st) (hl : l.st.length < 2 ^ 20) (hlh : l.ho.length < 2 ^ 20) (hlm : l.mo.length < 2 ^ 20) (hid : 1 ≤ o.id) {K : Value → World → Prop}
    (hK : ∀ w' S', WorkAt w0 w' x (overW l o).1 S' → Kp S w w' → (∀ q ∈ S', q ∈ S ∨ w.heap.size ≤ q) → K (.int .i64 (overW l o).2) w') :
    ledger_work_does_s7 K (.pointer (some ⟨x, 0, none⟩)) (.pointer (some ⟨y, 0, none⟩)) w := by
  unfold ledger_work_does_s7
  rw [ldAll (k := 7) h.hy rfl]
  exact over_spec h.at_ hs hl hlh hlm o hid hK
theorem does_s2 (h : DoAt w0 w x y p5 p6 l S o) (hs : Sorted l.st) (hl : l.st.length < 2 ^ 20) (hlh : l.ho.length < 2 ^ 20) {K : Value → World → Prop}
    (hK : ∀ w' S', WorkAt w0 w' x { turnL l o.sku o.loc 0 o.q with ho := l.ho ++ [⟨(l.ho.length + 1 : Nat), o.sku, o.loc, o.q, 0, o.due⟩] } S' → Kp S w w' → (∀ q ∈ S', q ∈ S ∨ w.heap.size ≤ q) → K (.int .i64 0) w') :
    ledger_work_does_s2 K (.pointer (some ⟨x, 0, none⟩)) (.pointer (some ⟨y, 0, none⟩)) (.pointer (some ⟨p5, 0, none⟩)) w := by
  unfold ledger_work_does_s2 ledger_work_does_s0
  simp only [fa_p, nk_p, Nat.add_zero, Nat.zero_add]
  rw [ldPl h.h5, h.op 4 (.int .i64 o.q) rfl]
  refine turned_spec h.at_ hs hl o.sku o.loc 0 o.q fun w1 S1 h1 k1 hS1 => ?_
  have d1 := (h.next h1 k1 hS1).keep kp_drew
  obtain ⟨W, hW⟩ : ∃ W, W = w1.drew := ⟨_, rfl⟩
  have hWs : W.heap.size = w1.heap.size := by rw [hW]; rfl
  have k1W : Kp S w W := by rw [hW]; exact k1.drew
  rw [← hW] at d1 ⊢
  obtain ⟨b, T, r1, hT, hxT, hld, hin, hst⟩ := d1.at_.focusB
  obtain ⟨ba, bc, hbv, _⟩ := r1.len
  have hlen : ∀ K : Value → Prop, lenL b K = K (.int .i64 l.ho.length) := fun K => by rw [hbv, lenL_s]; simp [turnL]
  have hiw : IntKind.i64.wrap ((l.ho.length : Int) + 1) = ((l.ho.length + 1 : Nat) : Int) := by rw [w64 (by omega) (by omega)]; simp
  rw [hld _ (Kp.refl _ _), hld _ (Kp.refl _ _), hlen]
  simp only [bq_add, hiw]
  rw [d1.op 1 (.string (str o.sku)) rfl, d1.op 2 (.string (str o.loc)) rfl, d1.op 4 (.int .i64 o.q) rfl, d1.op 6 (.int .i64 o.due) rfl]
  have ⟨nv, hnv⟩ : ∃ nv : HV, nv = HV.mk ((l.ho.length + 1 : Nat) : Int) o.sku o.loc o.q 0 o.due := Exists.intro (HV.mk ((l.ho.length + 1 : Nat) : Int) o.sku o.loc o.q 0 o.due) (Eq.refl _)
  simp [-getElem?_pos, -Array.all_eq_true, -Array.getElem?_eq_getElem, -List.length_flatten, List.getElem?_cons_zero, List.getElem?_cons_succ, hold_zc, str_nil, bld_done, bld_if, offAt, putAt, -ld1_p, -st1_p, -ldn_p, -stn_p, -newG_k]
  rw [← hold_zc]
  refine bsl_rowN (n := 6) (cs := hC nv) (by omega) (by rw [hnv]; simp [hC]) rfl fun v5 w5 f5 => ?_
  have k25 := f5.kp
  rw [hld _ (k25.mono (by simp))]
  refine ⟨rfl, ?_⟩
  rw [hold_zc]
  refine rows_push (r1.keep k25 (by simp)) (by omega) rfl f5.rd rfl (by omega) (by simp [turnL]; omega) fun v6 w6 T6 r6 k6 hT6 => ?_
  have k26 : Kp T W w6 := (k25.mono (by simp)).trans' k6
  have hs5 := k25.size
  refine hst w6 v6 T6 ((turnL l o.sku o.loc 0 o.q).ho ++ [nv]) k26 (by rw [List.map_append]; exact r6) (fun q hq => (hT6 q hq).imp id fun e => by omega) _ fun w7 S7 h7 k7 _ hS7 => ?_
  have hs1 := k1.size
  refine hK w7 S7 (by rw [hnv] at h7; exact h7) (k1W.trans k7 fun q hq hlt => ?_) fun q hq => ?_
  · rcases hS1 q hq with e | e
    · exact e
    · omega
  · rcases hS7 q hq with e | e
    · exact hS1 q e
    · exact .inr (by omega)
theorem does_s3 (h : DoAt w0 w x y p5 p6 l S o) (hs : Sorted l.st) (hf : FitS l.st) (hl : l.st.length < 2 ^ 18) (hlm : l.mo.length < 2 ^ 18) (hq : rngI o.q) {K : Value → World → Prop}
    (hK1 : ∀ w', Kp [] w w' → (moreL l o.sku o.to o.q).2 ≠ 0 → K (.int .i64 (moreL l o.sku o.to o.q).2) w')
    (hK : ∀ w' S', WorkAt w0 w' x (moveW (moveW l o.sku o.loc (w64i (-o.q)) 0 o.k 0) o.sku o.to o.q 0 o.k 0) S' → Kp S w w' → (∀ q ∈ S', q ∈ S ∨ w.heap.size ≤ q) → (moreL l o.sku o.to o.q).2 = 0 → K (.int .i64 0) w') :
    ledger_work_does_s3 K (.pointer (some ⟨x, 0, none⟩)) (.pointer (some ⟨y, 0, none⟩)) (.pointer (some ⟨p5, 0, none⟩)) (.pointer (some ⟨p6, 0, none⟩)) w := by
  unfold ledger_work_does_s3 ledger_work_does_s0
  simp only [fa_p, nk_p, Nat.add_zero, Nat.zero_add]
  rw [ldPl h.h6, h.op 4 (.int .i64 o.q) rfl]
  refine more_spec h.at_ hf (by omega) o.sku o.to hq fun w1 k1 => ?_
  have d1 := h.keep k1
  simp only [ex0, ex1, bq_neq, bV_b, decide_eq_true_eq, decide_eq_false_iff_not]
  refine ⟨fun e => hK1 w1 k1 e, fun e => ?_⟩
  rw [ldPl d1.h5, d1.op 4 (.int .i64 o.q) rfl, neg_of, d1.op 0 (.int .i64 o.k) rfl]
  simp [-getElem?_pos, -Array.all_eq_true, -Array.getElem?_eq_getElem, -List.length_flatten, List.getElem?_cons_zero, List.getElem?_cons_succ, move_zc, str_nil, bld_done, bld_if, offAt, putAt, -ld1_p, -st1_p, -ldn_p, -stn_p, -newG_k]
  refine moved_spec d1.at_ hs (by omega) (by omega) o.sku o.loc (w64i (-o.q)) 0 ⟨0, [], [], 0, o.k, 0⟩ fun w2 S2 h2 k2 hS2 => ?_
  have d2 := d1.next h2 k2 hS2
  rw [ldPl d2.h6, d2.op 4 (.int .i64 o.q) rfl, d2.op 0 (.int .i64 o.k) rfl]
  simp [-getElem?_pos, -Array.all_eq_true, -Array.getElem?_eq_getElem, -List.length_flatten, List.getElem?_cons_zero, List.getElem?_cons_succ, move_zc, str_nil, bld_done, bld_if, offAt, putAt, -ld1_p, -st1_p, -ldn_p, -stn_p, -newG_k]
  have hln := putS_len l.st { findS l.st o.sku o.loc with hand := w64i ((findS l.st o.sku o.loc).hand + w64i (-o.q)), held := w64i ((findS l.st o.sku o.loc).held + 0) }
  refine moved_spec h2 (turn_fit hs hf _ _ _ _).2 (by show (putS l.st _).length < _; omega) (by show (l.mo ++ [_]).length < _; simp; omega) o.sku o.to o.q 0 ⟨0, [], [], 0, o.k, 0⟩ fun w3 S3 h3 k3 hS3 => ?_
  have hs1 := k1.size
  have hs2 := k2.size
  refine hK w3 S3 h3 (((k1.mono (by simp)).trans' k2).trans k3 fun q hq hlt => ?_) (fun q hq => ?_) (Decidable.not_not.1 e)
  · rcases hS2 q hq with e | e
    · exact e
    · omega
  · rcases hS3 q hq with e | e
    · exact (hS2 q e).imp id fun e => by omega
    · exact .inr (by omega)
def Ids (l : LV) : Prop := ∀ k (h : k < l.ho.length), l.ho[k].id = (k + 1 : Nat)
theorem ids_state {l : LV} (h : Ids l) (k : Nat) (n : Int) : Ids (stateL l k n) := by
  intro j hj
  have hj' : j < l.ho.length := by simpa [stateL] using hj
  by_cases he : k = j
  · subst he
    simp only [stateL, List.getElem_set_self]
    have := h k hj'
    simpa [List.getD, hj'] using this
  · simp only [stateL]
    rw [List.getElem_set_ne he]
    exact h j hj'
theorem does_s6 (h : DoAt w0 w x y p5 p6 l S o) (hs : Sorted l.st) (hf : FitS l.st) (hid : Ids l) (hl : l.st.length + l.ho.length < 2 ^ 18) (hlm : l.mo.length < 2 ^ 18) {K : Value → World → Prop}
    (hK : ∀ w' S', WorkAt w0 w' x (expireL l o.due 0 l.ho.length) S' → Kp S w w' → (∀ q ∈ S', q ∈ S ∨ w.heap.size ≤ q) → K (.int .i64 0) w') :
    ledger_work_does_s6 K (.pointer (some ⟨x, 0, none⟩)) (.pointer (some ⟨y, 0, none⟩)) w := by
  unfold ledger_work_does_s6
  simp only [fa_p, nk_p, Nat.add_zero, Nat.zero_add]
  obtain ⟨b, T, r1, hT, hxT, hld, hin, hst⟩ := h.at_.focusB
  obtain ⟨ba, bc, hbv, _⟩ := r1.len
  have hlen : ∀ K : Value → Prop, lenL b K = K (.int .i64 l.ho.length) := fun K => by rw [hbv, lenL_s]; simp
  rw [hld _ (Kp.refl _ _), hlen]
  obtain ⟨E, hE⟩ : ∃ E, E = expireL l o.due 0 l.ho.length := ⟨_, rfl⟩
  rw [← hE] at hK
  unfold ledger_work_does_L5
  refine loop_inv (fun m xs wi => ∃ (i : Nat) (li : LV) (Si : List Nat), i ≤ l.ho.length ∧ m = l.ho.length - i ∧ xs = [.pointer (some ⟨x, 0, none⟩), .pointer (some ⟨y, 0, none⟩), .int .i64 l.ho.length, .int .i64 (i : Nat)] ∧ E = expireL li o.due i (l.ho.length - i) ∧
      Sorted li.st ∧ FitS li.st ∧ Ids li ∧ li.st.length ≤ l.st.length + i ∧ li.ho.length = l.ho.length ∧ li.mo.length = l.mo.length ∧ DoAt w0 wi x y p5 p6 li Si o ∧ Kp S w wi ∧ (∀ q ∈ Si, q ∈ S ∨ w.heap.size ≤ q)) ?_ (m := l.ho.length)
    ⟨0, l, S, by omega, rfl, rfl, hE, hs, hf, hid, by omega, rfl, rfl, h, Kp.refl _ _, fun q hq => .inl hq⟩
  rintro m N xs wi ⟨i, li, Si, hi, rfl, rfl, he, hsi, hfi, hidi, hsl, hho, hmo, di, ki, hSi⟩ hN
  have hiw : IntKind.i64.wrap ((i : Int) + 1) = ((i + 1 : Nat) : Int) := by rw [w64 (by omega) (by omega)]; simp
  unfold ledger_work_does_L5F ledger_work_does_b4
  simp only [bq_lss, bV_b, decide_eq_true_eq, decide_eq_false_iff_not]
  refine ⟨fun hlt => ?_, fun hge => ?_⟩
  · have hlti : i < li.ho.length := by omega
    rw [show l.ho.length - i = (l.ho.length - (i + 1)) + 1 by omega] at he
    unfold expireL at he
    have hg : li.ho.getD i hZ = li.ho[i] := by simp only [List.getD, List.getElem?_eq_getElem hlti, Option.getD_some]
    simp only [hg] at he
    obtain ⟨b, T, r1, hT, hxT, hld, hin, hst⟩ := di.at_.focusB
    obtain ⟨pp, i1, i2⟩ := rd_hold ⟨T, .inr r1.rd⟩ hlti
    simp only [fa_p, nk_p, Nat.add_zero, Nat.zero_add]
    rw [hld _ (Kp.refl _ _), i1, i2]
    refine boxHold (o := li.ho[i]) (by kernel_rfl) fun p w5 hp hh5 hk5 => ?_
    have d5 := di.keep hk5
    have hs5 := hk5.size
    have kw5 : Kp S w w5 := ki.trans' (hk5.mono (by simp))
    have hsz := ki.size
    have hno : dueL li.ho[i] o.due = false → N [.pointer (some ⟨x, 0, none⟩), .pointer (some ⟨y, 0, none⟩), .int .i64 l.ho.length, .int .i64 (i + 1 : Nat)] w5 := by
      intro hd
      rw [if_neg (by simp [hd])] at he
      exact hN (l.ho.length - (i + 1)) _ w5 (by omega) ⟨i + 1, li, Si, by omega, rfl, rfl, he, hsi, hfi, hidi, by omega, hho, hmo, d5, kw5, hSi⟩
    have hl' : (li.ho[i].id : Int) = ((i + 1 : Nat) : Int) := hidi i hlti
    have hyes : dueL li.ho[i] o.due = true → callG Try.prog 110 #[.pointer (some ⟨x, 0, none⟩), .agg (opC ⟨4, [], [], [], 0, li.ho[i].id, 0⟩).toArray] w5 fun t184 w => N [.pointer (some ⟨x, 0, none⟩), .pointer (some ⟨y, 0, none⟩), .int .i64 l.ho.length, .int .i64 (i + 1 : Nat)] w := by
      intro hd
      rw [if_pos hd] at he
      have hst0 : li.ho[i].st = 0 := by simp only [dueL, decide_eq_true_eq] at hd; exact hd.1
      have hov : overW li ⟨4, [], [], [], 0, li.ho[i].id, 0⟩ = (stateL (heldL li li.ho[i].sku li.ho[i].loc (w64i (-li.ho[i].q))) i 2, 0) := by
        rw [overW_eq hsi hfi]
        have ei : (li.ho[i].id - 1).toNat = i := by omega
        have ha : holdAt li li.ho[i].id = li.ho[i] := by unfold holdAt; rw [ei]; exact hg
        unfold overL
        simp only [ha, ei]
        rw [if_neg (by omega)]
        simp only [if_true]
      refine over_spec d5.at_ hsi (by omega) (by omega) (by omega) ⟨4, [], [], [], 0, li.ho[i].id, 0⟩ (by show 1 ≤ li.ho[i].id; omega) fun w6 S6 h6 k6 hS6 => ?_
      rw [hov] at h6
      have d6 := d5.next h6 k6 hS6
      have hln := putS_len li.st { findS li.st li.ho[i].sku li.ho[i].loc with held := w64i ((findS li.st li.ho[i].sku li.ho[i].loc).held + w64i (-li.ho[i].q)) }
      refine hN (l.ho.length - (i + 1)) _ w6 (by omega) ⟨i + 1, _, S6, by omega, rfl, rfl, he, held_sorted hsi _ _ _, ?_, ?_, ?_, ?_, ?_, d6, kw5.trans k6 fun q hq hlt => ?_, fun q hq => ?_⟩
      · exact fitS_put hsi hfi (hfi _ _).1 (fits_w _)
      · exact ids_state (l := heldL li _ _ _) hidi i 2
      · show (putS li.st _).length ≤ _; omega
      · simp [stateL, heldL, hho]
      · exact hmo
      · rcases hSi q hq with e | e
        · exact e
        · omega
      · rcases hS6 q hq with e | e
        · exact hSi q e
        · exact .inr (by omega)
    simp only [fa_p, Nat.add_zero, Nat.zero_add]
    rw [ldF hh5 (j := 4) (x := .int .i64 li.ho[i].st) rfl]
    simp only [bq_eql, bq_add, hiw, bV_b, decide_eq_true_eq, decide_eq_false_iff_not]
    refine ⟨fun e0 => ?_, fun e0 => hno (by simp [dueL, e0])⟩
    rw [ldF hh5 (j := 5) (x := .int .i64 li.ho[i].due) rfl]
    simp only [bq_gtr, bV_b, decide_eq_true_eq, decide_eq_false_iff_not]
    refine ⟨fun e1 => ?_, fun e1 => hno (by simp [dueL]; omega)⟩
    rw [ldF hh5 (j := 5) (x := .int .i64 li.ho[i].due) rfl, d5.op 6 (.int .i64 o.due) rfl]
    simp only [bq_leq, bV_b, decide_eq_true_eq, decide_eq_false_iff_not]
    refine ⟨fun e2 => ?_, fun e2 => hno (by simp [dueL, e2])⟩
    rw [ldF hh5 (j := 0) (x := .int .i64 li.ho[i].id) rfl]
    simp [-getElem?_pos, -Array.all_eq_true, -Array.getElem?_eq_getElem, -List.length_flatten, List.getElem?_cons_zero, List.getElem?_cons_succ, op_zc, str_nil, bld_done, bld_if, offAt, putAt, -ld1_p, -st1_p, -ldn_p, -stn_p, -newG_k]
    exact hyes (by simp [dueL, e0, e2]; omega)
  · have hie : i = l.ho.length := by omega
    subst hie
    rw [Nat.sub_self] at he
    unfold ledger_work_does_s0
    have he' : E = li := by rw [he]; rfl
    rw [he'] at hK
    exact hK wi Si di.at_ ki hSi
end
end Go.Proofs

/- Layer 7: an operation is done. -/
set_option linter.unusedVariables false
set_option linter.unusedSimpArgs false
namespace Go.Proofs
open Go Go.Q
section
variable {w0 w : World} {x y p5 p6 : Nat} {l : LV} {S : List Nat} {o : OpV}
/-- what is asked of a ledger and an operation -/
structure DoH (l : LV) (o : OpV) : Prop where
  may : May l
  q : rngI o.q
  k0 : 1 ≤ o.k
  k1 : o.k ≤ 7
  id : o.k = 3 ∨ o.k = 4 → 1 ≤ o.id
theorem DoH.few (h : DoH l o) : l.st.length ≤ 4096 ∧ l.ho.length ≤ 4096 ∧ l.mo.length ≤ 4096 := by
  have hfew := h.may.few
  simp only [fullL, decide_eq_false_iff_not, not_or] at hfew
  omega
theorem DoH.ids (h : DoH l o) : Ids l := fun k hk => by
  have := h.may.holds k hk
  simp only [holdOk, Bool.and_eq_true, decide_eq_true_eq] at this
  exact this.1.1.1.1
theorem DoH.fitS (h : DoH l o) : FitS l.st := by
  have hg : Good l := h.may.m
  exact hg.fitS
theorem does_s16 (hh : DoH l o) (h : DoAt w0 w x y p5 p6 l S o) (hf : o.k = 2 ∨ o.k = 6 → ¬ freeL l o.sku o.loc < o.q) (hm : o.k = 1 ∨ o.k = 7 → (moreL l o.sku o.loc o.q).2 = 0 ∧ ¬ (moreL l o.sku o.loc o.q).1 < (findS l.st o.sku o.loc).held) {K : Value → World → Prop}
    (hK : ∀ w' S', WorkAt w0 w' x (doesL l o).1 S' → Kp S w w' → (∀ q ∈ S', q ∈ S ∨ w.heap.size ≤ q) → K (.int .i64 (doesL l o).2) w') :
    ledger_work_does_s16 K (.pointer (some ⟨x, 0, none⟩)) (.pointer (some ⟨y, 0, none⟩)) (.pointer (some ⟨p5, 0, none⟩)) (.pointer (some ⟨p6, 0, none⟩)) w := by
  obtain ⟨f1, f2, f3⟩ := hh.few
  have hs := hh.may.sorted
  have hfs := hh.fitS
  have k0 := hh.k0
  have k1 := hh.k1
  rw [← doesW_eq hs hfs o] at hK
  unfold ledger_work_does_s16
  simp only [fa_p, Nat.add_zero, Nat.zero_add]
  rw [h.op 0 (.int .i64 o.k) rfl]
  have go1 : o.k = 1 ∨ o.k = 7 → ledger_work_does_s14 K (.pointer (some ⟨x, 0, none⟩)) (.pointer (some ⟨y, 0, none⟩)) (.pointer (some ⟨p5, 0, none⟩)) (.pointer (some ⟨p6, 0, none⟩)) (.int .i64 o.k) (.bool true) w := by
    intro e
    have ed : doesW l o = (moveW l o.sku o.loc o.q 0 o.k 0, 0) := by
      unfold doesW
      rw [if_pos e, if_neg (by rw [(hm e).1]; simp), if_neg (hm e).2]
    rw [ed] at hK
    unfold ledger_work_does_s14
    simp only [bV_b, true_implies, Bool.true_eq_false, false_implies, and_true]
    exact does_s1 h hs (by omega) (by omega) hK
  unfold ledger_work_does_s15
  simp only [bq_eql, bV_b, decide_eq_true_eq, decide_eq_false_iff_not]
  refine ⟨fun e1 => go1 (.inl e1), fun e1 => ?_⟩
  by_cases e7 : o.k = 7
  · rw [decide_eq_true e7]; exact go1 (.inr e7)
  rw [decide_eq_false e7]
  unfold ledger_work_does_s14 ledger_work_does_s13
  simp only [bq_eql, bV_b, true_implies, Bool.false_eq_true, false_implies, true_and]
  unfold ledger_work_does_s12
  simp only [bV_b, decide_eq_true_eq, decide_eq_false_iff_not]
  refine ⟨fun e2 => ?_, fun e2 => ?_⟩
  · have ed : doesW l o = ({ turnL l o.sku o.loc 0 o.q with ho := l.ho ++ [⟨(l.ho.length + 1 : Nat), o.sku, o.loc, o.q, 0, o.due⟩] }, 0) := by
      unfold doesW
      rw [if_neg (by omega), if_pos e2, if_neg (hf (.inl e2))]; rfl
    rw [ed] at hK
    exact does_s2 h hs (by omega) (by omega) hK
  unfold ledger_work_does_s11
  simp only [bq_eql]
  unfold ledger_work_does_s10
  simp only [bV_b, decide_eq_true_eq, decide_eq_false_iff_not]
  refine ⟨fun e6 => ?_, fun e6 => ?_⟩
  · have ed : doesW l o = if (moreL l o.sku o.to o.q).2 ≠ 0 then (l, (moreL l o.sku o.to o.q).2) else (moveW (moveW l o.sku o.loc (w64i (-o.q)) 0 o.k 0) o.sku o.to o.q 0 o.k 0, 0) := by
      unfold doesW
      rw [if_neg (by omega), if_neg e2, if_neg (by omega), if_pos e6, if_neg (hf (.inr e6))]
    rw [ed] at hK
    refine does_s3 h hs hfs (by omega) (by omega) hh.q (fun w1 k1 e => ?_) fun w1 S1 h1 k1 hS e => ?_
    · rw [if_pos e] at hK
      exact hK w1 S (h.keep k1).at_ (k1.mono (by simp)) fun q hq => .inl hq
    · rw [if_neg (by rw [e]; simp)] at hK
      exact hK w1 S1 h1 k1 hS
  unfold ledger_work_does_s9
  simp only [bq_eql]
  unfold ledger_work_does_s8
  simp only [bV_b, decide_eq_true_eq, decide_eq_false_iff_not]
  refine ⟨fun e5 => ?_, fun e5 => ?_⟩
  · have ed : doesW l o = (expireL l o.due 0 l.ho.length, 0) := by
      unfold doesW
      rw [if_neg (by omega), if_neg e2, if_pos e5]
    rw [ed] at hK
    exact does_s6 h hs hfs hh.ids (by omega) (by omega) hK
  · have ed : doesW l o = overW l o := by
      unfold doesW
      rw [if_neg (by omega), if_neg e2, if_neg e5, if_neg e6]
    rw [ed] at hK
    exact does_s7 h hs (by omega) (by omega) (by omega) (hh.id (by omega)) hK
theorem does_s17 (hh : DoH l o) (h : DoAt w0 w x y p5 p6 l S o) (hk : o.k = 2 ∨ o.k = 6) {K : Value → World → Prop}
    (hK : ∀ w' S', WorkAt w0 w' x (doesL l o).1 S' → Kp S w w' → (∀ q ∈ S', q ∈ S ∨ w.heap.size ≤ q) → K (.int .i64 (doesL l o).2) w') :
    ledger_work_does_s17 K (.pointer (some ⟨x, 0, none⟩)) (.pointer (some ⟨y, 0, none⟩)) (.pointer (some ⟨p5, 0, none⟩)) (.pointer (some ⟨p6, 0, none⟩)) w := by
  unfold ledger_work_does_s17
  have hd := h.keep kp_drew
  obtain ⟨v, hld, hv⟩ := hd.at_.ld
  simp only [nk_p, fa_p, Nat.add_zero, Nat.zero_add]
  rw [hld, hd.op 1 (.string (str o.sku)) rfl, hd.op 2 (.string (str o.loc)) rfl, hd.op 4 (.int .i64 o.q) rfl]
  refine Free_spec7 hh.may hv o.sku o.loc fun w1 k1 => ?_
  have d1 := hd.keep k1
  have k01 : Kp [] w w1 := kp_drew.trans' k1
  have hsz := k01.size
  rw [d1.op 4 (.int .i64 o.q) rfl]
  simp only [bq_lss, bV_b, decide_eq_true_eq, decide_eq_false_iff_not]
  refine ⟨trivial, fun e => ?_, fun e => ?_⟩
  · have ed : doesL l o = (l, 70) := by
      unfold doesL
      rcases hk with hk | hk
      · rw [if_neg (by omega), if_pos hk, if_pos e]
      · rw [if_neg (by omega), if_neg (by omega), if_neg (by omega), if_pos hk, if_pos e]
    rw [ed] at hK
    exact hK w1 S d1.at_ (k01.mono (by simp)) fun q hq => .inl hq
  · exact does_s16 hh d1 (fun _ => e) (fun hx => by omega) fun w' S' a b c => hK w' S' a ((k01.mono (by simp)).trans' b) fun q hq => (c q hq).imp id fun e => by omega
theorem does_s18 (hh : DoH l o) (h : DoAt w0 w x y p5 p6 l S o) (hk : o.k = 1 ∨ o.k = 7) {K : Value → World → Prop}
    (hK : ∀ w' S', WorkAt w0 w' x (doesL l o).1 S' → Kp S w w' → (∀ q ∈ S', q ∈ S ∨ w.heap.size ≤ q) → K (.int .i64 (doesL l o).2) w') :
    ledger_work_does_s18 K (.pointer (some ⟨x, 0, none⟩)) (.pointer (some ⟨y, 0, none⟩)) (.pointer (some ⟨p5, 0, none⟩)) (.pointer (some ⟨p6, 0, none⟩)) (.bool true) w := by
  obtain ⟨f1, f2, f3⟩ := hh.few
  unfold ledger_work_does_s18
  simp only [nk_p, fa_p, Nat.add_zero, Nat.zero_add, bV_b, true_implies, Bool.true_eq_false, false_implies, and_true]
  rw [ldPl h.h5, h.op 4 (.int .i64 o.q) rfl]
  refine more_spec h.at_ hh.fitS (by omega) o.sku o.loc hh.q fun w1 k1 => ?_
  have d1 := h.keep k1
  simp only [ex0, ex1, bq_neq, bV_b, decide_eq_true_eq, decide_eq_false_iff_not]
  refine ⟨fun e => ?_, fun e => ?_⟩
  · have ed : doesL l o = (l, (moreL l o.sku o.loc o.q).2) := by
      unfold doesL
      rw [if_pos hk, if_pos e]
    rw [ed] at hK
    exact hK w1 S d1.at_ (k1.mono (by simp)) fun q hq => .inl hq
  · have d2 := d1.keep kp_drew
    obtain ⟨v, hld, hv⟩ := d2.at_.ld
    rw [hld, d2.op 1 (.string (str o.sku)) rfl, d2.op 2 (.string (str o.loc)) rfl]
    refine Find_spec7 hv (by omega) o.sku o.loc fun w3 k3 => ?_
    have d3 := d2.keep k3
    have k03 : Kp [] w w3 := (k1.trans' kp_drew).trans' k3
    have hsz := k03.size
    unfold sA
    simp [-getElem?_pos, -Array.all_eq_true, -Array.getElem?_eq_getElem, -List.length_flatten, List.getElem?_cons_zero, List.getElem?_cons_succ, -ldn_p, -stn_p, -newG_k, -ld1_p, -st1_p]
    refine ⟨fun e2 => ?_, fun e2 => ?_⟩
    · have ed : doesL l o = (l, 70) := by
        unfold doesL
        rw [if_pos hk, if_neg e, if_pos e2]
      rw [ed] at hK
      exact hK w3 S d3.at_ (k03.mono (by simp)) fun q hq => .inl hq
    · refine does_s16 hh d3 (fun hx => by omega) (fun _ => ⟨by omega, by omega⟩) fun w' S' a b c => hK w' S' a ((k03.mono (by simp)).trans' b) fun q hq => (c q hq).imp id fun e => by omega
theorem does_s22 (hh : DoH l o) (h : DoAt w0 w x y p5 p6 l S o) {K : Value → World → Prop}
    (hK : ∀ w' S', WorkAt w0 w' x (doesL l o).1 S' → Kp S w w' → (∀ q ∈ S', q ∈ S ∨ w.heap.size ≤ q) → K (.int .i64 (doesL l o).2) w') :
    ledger_work_does_s22 K (.pointer (some ⟨x, 0, none⟩)) (.pointer (some ⟨y, 0, none⟩)) (.pointer (some ⟨p5, 0, none⟩)) (.pointer (some ⟨p6, 0, none⟩)) w := by
  unfold ledger_work_does_s22
  simp only [fa_p, Nat.add_zero, Nat.zero_add]
  rw [h.op 0 (.int .i64 o.k) rfl]
  unfold ledger_work_does_s21
  simp only [bq_eql, bV_b, decide_eq_true_eq, decide_eq_false_iff_not]
  have go : o.k = 2 ∨ o.k = 6 → ledger_work_does_s20 K (.pointer (some ⟨x, 0, none⟩)) (.pointer (some ⟨y, 0, none⟩)) (.pointer (some ⟨p5, 0, none⟩)) (.pointer (some ⟨p6, 0, none⟩)) (.int .i64 o.k) (.bool true) w := by
    intro e
    unfold ledger_work_does_s20
    simp only [bV_b, true_implies, Bool.true_eq_false, false_implies, and_true]
    exact does_s17 hh h e hK
  refine ⟨fun e2 => go (.inl e2), fun e2 => ?_⟩
  by_cases e6 : o.k = 6
  · rw [decide_eq_true e6]; exact go (.inr e6)
  rw [decide_eq_false e6]
  unfold ledger_work_does_s20 ledger_work_does_s19
  simp only [bq_eql, bV_b, true_implies, Bool.false_eq_true, false_implies, true_and, decide_eq_true_eq, decide_eq_false_iff_not]
  refine ⟨fun e1 => does_s18 hh h (.inl e1) hK, fun e1 => ?_⟩
  by_cases e7 : o.k = 7
  · rw [decide_eq_true e7]; exact does_s18 hh h (.inr e7) hK
  rw [decide_eq_false e7]
  unfold ledger_work_does_s18
  simp only [bV_b, true_implies, Bool.false_eq_true, false_implies, true_and]
  exact does_s16 hh h (fun e => by omega) (fun e => by omega) hK
theorem does_spec (hh : DoH l o) (h : WorkAt w0 w x l S) {K : Value → World → Prop}
    (hK : ∀ w' S', WorkAt w0 w' x (doesL l o).1 S' → Kp S w w' → (∀ q ∈ S', q ∈ S ∨ w.heap.size ≤ q) → K (.int .i64 (doesL l o).2) w') :
    callG Try.prog 96 #[.pointer (some ⟨x, 0, none⟩), .agg (opC o).toArray] w K := by
  refine ledger_work_does_call ?_
  unfold ledger_work_does ledger_work_does_s23
  have hlt := h.lt
  refine argBox (cs := opC o) fun y w1 hy hh1 hk1 => ?_
  have h1 := h.keep hk1
  have k1d : Kp [] w1 w1.drew := kp_drew
  have op : ∀ w2, Kp [] w1 w2 → ∀ j v, (opC o)[j]? = some v → ∀ K : Value → Prop, ld1 (.pointer (some ⟨y, j, none⟩)) w2 K = K v := fun w2 k2 j v hj K => ldF (k2.get hh1 (by simp)) (by simpa using hj)
  simp only [fa_p, Nat.add_zero, Nat.zero_add]
  rw [op _ k1d 1 (.string (str o.sku)) rfl, op _ k1d 2 (.string (str o.loc)) rfl]
  have hyl := lt_of_blk hh1
  have hbl : ∀ (a b : List UInt8) (K : Value → Prop), bld [(0, 1), (1, 1)] (zc Try.prog 119) #[(0, .string (str a)), (1, .string (str b))] K = K (.agg #[.string (str a), .string (str b)]) := fun a b K => by
    simp [-getElem?_pos, -Array.all_eq_true, -Array.getElem?_eq_getElem, -List.length_flatten, List.getElem?_cons_zero, List.getElem?_cons_succ, zcPl, bld_done, bld_if, offAt, putAt]
  rw [hbl, op _ k1d 1 (.string (str o.sku)) rfl, op _ k1d 3 (.string (str o.to)) rfl, hbl]
  simp only [newG_k, zcPl]
  obtain ⟨pa, hpa⟩ : ∃ pa, pa = w1.drew.heap.size := ⟨_, rfl⟩
  obtain ⟨w2, hw2⟩ : ∃ w2, w2 = w1.drew.alloc (.cells [.string (str []), .string (str [])].toArray 119) := ⟨_, rfl⟩
  have k2 : Kp [] w1 w2 := by rw [hw2]; exact k1d.alloc _
  have ha2 : w2.heap[pa]? = some (.cells [.string (str []), .string (str [])].toArray 119) := by rw [hw2, hpa]; exact heap_new
  rw [← hw2, ← hpa]
  obtain ⟨pb, hpb⟩ : ∃ pb, pb = w2.heap.size := ⟨_, rfl⟩
  obtain ⟨w3, hw3⟩ : ∃ w3, w3 = w2.alloc (.cells [.string (str []), .string (str [])].toArray 119) := ⟨_, rfl⟩
  have k23 : Kp [] w2 w3 := by rw [hw3]; exact kp_alloc
  have k3 : Kp [] w1 w3 := k2.trans' k23
  have hb3 : w3.heap[pb]? = some (.cells [.string (str []), .string (str [])].toArray 119) := by rw [hw3, hpb]; exact heap_new
  have ha3 := k23.get ha2 (by simp)
  rw [← hw3, ← hpb]
  have hal := lt_of_blk ha2
  have hda : w1.drew.heap.size = w1.heap.size := rfl
  have hs1 := hk1.size
  have hab : pa ≠ pb := by omega
  have rest : ∀ p q : Nat, p ≠ q → w1.heap.size ≤ p → w1.heap.size ≤ q → w3.heap[p]? = some (.cells [.string (str []), .string (str [])].toArray 119) → w3.heap[q]? = some (.cells [.string (str []), .string (str [])].toArray 119) →
      stn 2 (.pointer (some ⟨p, 0, none⟩)) (.agg #[.string (str o.sku), .string (str o.loc)]) w3 fun w =>
        ld1 (.pointer (some ⟨y, 3, none⟩)) w (fun u => u = .string (str o.to)) ∧ ld1 (.pointer (some ⟨y, 1, none⟩)) w (fun u => u = .string (str o.sku)) ∧
        stn 2 (.pointer (some ⟨q, 0, none⟩)) (.agg #[.string (str o.sku), .string (str o.to)]) w fun w =>
        ledger_work_does_s22 K (.pointer (some ⟨x, 0, none⟩)) (.pointer (some ⟨y, 0, none⟩)) (.pointer (some ⟨p, 0, none⟩)) (.pointer (some ⟨q, 0, none⟩)) w := by
    intro p q hpq hp hq hp3 hq3
    rw [stAll (k := 2) hp3 rfl rfl (by simp [one])]
    obtain ⟨w4, hw4⟩ : ∃ w4, w4 = setBlk w3 p (.cells #[.string (str o.sku), .string (str o.loc)] 119) := ⟨_, rfl⟩
    have k4 : Kp [] w1 w4 := by rw [hw4]; exact k3.setBlk (.inr hp) _
    have hp4 : w4.heap[p]? = some (.cells #[.string (str o.sku), .string (str o.loc)] 119) := by rw [hw4]; exact heap_self (live_of hp3)
    have hq4 : w4.heap[q]? = some (.cells [.string (str []), .string (str [])].toArray 119) := by rw [hw4, heap_ne hpq]; exact hq3
    rw [← hw4]
    rw [op _ k4 3 (.string (str o.to)) rfl, op _ k4 1 (.string (str o.sku)) rfl]
    refine ⟨rfl, rfl, ?_⟩
    rw [stAll (k := 2) hq4 rfl rfl (by simp [one])]
    obtain ⟨w5, hw5⟩ : ∃ w5, w5 = setBlk w4 q (.cells #[.string (str o.sku), .string (str o.to)] 119) := ⟨_, rfl⟩
    have k5 : Kp [] w1 w5 := by rw [hw5]; exact k4.setBlk (.inr hq) _
    have hp5 : w5.heap[p]? = some (.cells #[.string (str o.sku), .string (str o.loc)] 119) := by rw [hw5, heap_ne (Ne.symm hpq)]; exact hp4
    have hq5 : w5.heap[q]? = some (.cells #[.string (str o.sku), .string (str o.to)] 119) := by rw [hw5]; exact heap_self (live_of hq4)
    rw [← hw5]
    have hs5 := k5.size
    refine does_s22 hh ⟨h1.keep k5, k5.get hh1 (by simp), hp5, hq5, fun hm => by have := hlt _ hm; omega, fun hm => by have := hlt _ hm; omega, fun hm => by have := hlt _ hm; omega⟩ fun w' S' a b c => hK w' S' a (((hk1.trans' k5).mono (by simp)).trans' b) fun q hq => (c q hq).imp id fun e => by omega
  have r2 := fun j v hj K => op _ k2 j v hj K
  have r3 := fun j v hj K => op _ k3 j v hj K
  simp only [r2 3 (.string (str o.to)) rfl, r2 1 (.string (str o.sku)) rfl, r2 2 (.string (str o.loc)) rfl, r3 3 (.string (str o.to)) rfl, r3 1 (.string (str o.sku)) rfl, r3 2 (.string (str o.loc)) rfl, true_and]
  exact ⟨rest pa pb hab (by omega) (by omega) ha3 hb3, rest pb pa (Ne.symm hab) (by omega) (by omega) hb3 ha3⟩
end
end Go.Proofs

/- Layer 7: the document's ledger: expire. -/
set_option linter.unusedVariables false
set_option linter.unusedSimpArgs false
namespace Go.Proofs
open Go Go.Q
/-- a zero ledger in a variable takes one that is given back -/
theorem led_give {w0 wj : World} {x z : Nat} {l : LV} {S0 S : List Nat} (h : LVar w0 wj x l S0 S) (hz : wj.heap[z]? = some (.cells [.slice none 0 0, .slice none 0 0, .slice none 0 0, .int .i64 0].toArray 60)) (hz0 : w0.heap.size ≤ z) (hzS : z ∉ S)
    {K : Value → World → Prop} (hK : ∀ v' w', Kp [] w0 w' → LedS w' v' l S → K v' w') :
    ldn 4 (.pointer (some ⟨x, 0, none⟩)) wj fun t67 => stn 4 (.pointer (some ⟨z, 0, none⟩)) t67 wj fun w => qG Try.prog (do loadVar 60 (← asAddr (.pointer (some ⟨z, 0, none⟩)))) w fun r4 => K r4 w := by
  obtain ⟨a, b, c, h1, h2⟩ := h.ex
  exact led_ret h1 hz h2 hzS fun w' hk hv => hK _ w' (h.kp.trans hk fun q hq hlt => by simp at hq; omega) hv
end Go.Proofs

/- Layer 7: the document's ledger: over. -/
set_option linter.unusedVariables false
set_option linter.unusedSimpArgs false
namespace Go.Proofs
open Go Go.Q
/-- a ledger that a call gave is given back by the variable z -/
theorem led_put {wj : World} {z : Nat} {v : Value} {l : LV} {S : List Nat} (hz : wj.heap[z]? = some (.cells [.slice none 0 0, .slice none 0 0, .slice none 0 0, .int .i64 0].toArray 60))
    (hv : LedS wj v l S) (hzS : z ∉ S) {K : Value → World → Prop} (hK : ∀ w', Kp [z] wj w' → LedS w' v l S → K v w') :
    stn 4 (.pointer (some ⟨z, 0, none⟩)) v wj fun w => qG Try.prog (do loadVar 60 (← asAddr (.pointer (some ⟨z, 0, none⟩)))) w fun r4 => K r4 w := by
  obtain ⟨a, b, c, SA, SB, SC, rfl, h1, h2, h3, _⟩ := hv.ex
  have hone := LedAt.ones (l := l) ⟨_, h1⟩ ⟨_, h2⟩ ⟨_, h3⟩
  rw [stAll (k := 4) hz rfl rfl hone, lvLedw (heap_self (live_of hz)) rfl]
  have hk : Kp [z] wj (setBlk wj z (.cells #[a, b, c, .int .i64 l.ops] 60)) := (Kp.refl _ wj).setBlk (.inl (by simp)) _
  exact hK _ hk (hv.keep hk fun q hq => by simp; intro h; exact hzS (h ▸ hq))
end Go.Proofs

/- Layer 7: a ledger behind an operation. -/
set_option linter.unusedVariables false
set_option linter.unusedSimpArgs false
namespace Go.Proofs
open Go Go.Q
theorem run_max3 {P : Program} {ts : Array TypeId} {t : TypeId} {k : IntKind} {a b c : Int} {w : World} : (Builtin.max_ ts t #[.int k a, .int k b, .int k c]).run P w = .ok (.int k (max (max a b) c)) w := by
  simp only [Builtin.max_, List.foldlM_cons, List.foldlM_nil, Builtin.max2, pure_bind]
  show Result.ok _ _ = _
  congr 2; omega
theorem ok_doH {l : LV} {o : OpV} (hm : May l) (hq : rngI o.q) (ho : o.ok = true) : DoH l o := by
  refine ⟨hm, hq, ?_, ?_, fun h => ?_⟩
  all_goals
    unfold OpV.ok at ho
    simp only at ho
  · by_cases h1 : o.k = 1
    · omega
    by_cases h2 : o.k = 2
    · omega
    by_cases h3 : o.k = 3 ∨ o.k = 4
    · omega
    by_cases h5 : o.k = 5
    · omega
    by_cases h6 : o.k = 6
    · omega
    by_cases h7 : o.k = 7
    · omega
    simp [h1, h2, h3, h5, h6, h7] at ho
  · by_cases h1 : o.k = 1
    · omega
    by_cases h2 : o.k = 2
    · omega
    by_cases h3 : o.k = 3 ∨ o.k = 4
    · omega
    by_cases h5 : o.k = 5
    · omega
    by_cases h6 : o.k = 6
    · omega
    by_cases h7 : o.k = 7
    · omega
    simp [h1, h2, h3, h5, h6, h7] at ho
  · have h1 : ¬ o.k = 1 := by omega
    have h2 : ¬ o.k = 2 := by omega
    simp [h1, h2, h] at ho
    exact ho.2.2.2.1
theorem bld_whole {n : Nat} {z cs : Array Value} (hz : z.size = n) (hc : cs.size = n) {K : Value → Prop} : bld [(0, n)] z #[(0, .agg cs)] K = K (.agg cs) := by
  unfold bld
  show (match Instr.fill _ z [(0, Value.agg cs)] with | some cs => K (.agg cs) | none => False) = _
  have hc' : (Value.cells (.agg cs)).size = n := hc
  rw [fill_step (off := 0) (size := n) rfl hc' (by omega)]
  have : splice z 0 (Value.cells (.agg cs)) = cs := splice_all (by rw [hz]; exact hc.symm)
  rw [this]
  rfl
theorem step_spec {w : World} {v : Value} {l : LV} {S0 : List Nat} (hm : May l) (hv : LedS w v l S0) (o : OpV) (hq : rngI o.q) {K : Value → World → Prop}
    (hK : ∀ v' w' S', Kp [] w w' → LedS w' v' (stepL l o).1 S' → (∀ q ∈ S', q ∈ S0 ∨ w.heap.size ≤ q) → K (.tuple #[v', .int .i64 (stepL l o).2]) w') : callG Try.prog 67 #[v, .agg (opC o).toArray] w K := by
  refine ledger_step_call ?_
  have hlt0 := hv.lt
  have hfew := hm.few
  simp only [fullL, decide_eq_false_iff_not, not_or] at hfew
  unfold ledger_step ledger_step_s1
  refine argVar hv fun x2 w1 c1 => ?_
  refine argBox (cs := opC o) fun y w2 hy hh2 hk2 => ?_
  rw [newG_k, zcLed]
  obtain ⟨z, hz⟩ : ∃ z, z = w2.heap.size := ⟨_, rfl⟩
  obtain ⟨w3, hw3⟩ := ex_w (w' := w2.alloc (.cells [.slice none 0 0, .slice none 0 0, .slice none 0 0, .int .i64 0].toArray 60))
  have hk3 : Kp [] w2 w3 := by rw [hw3]; exact kp_alloc
  have hz3 : w3.heap[z]? = some (.cells [.slice none 0 0, .slice none 0 0, .slice none 0 0, .int .i64 0].toArray 60) := by rw [hw3, hz]; exact heap_new
  rw [← hw3, ← hz]
  have c3 := (c1.keep hk2).keep hk3
  have hs1 := c1.kp.size
  have hs2 := hk2.size
  have hzl := lt_of_blk hz3
  have hzS : z ∉ S0 := fun hm => by have := hlt0 z hm; omega
  have hy3 := hk3.get hh2 (by simp)
  have hx2l : x2 < w1.heap.size := by
    obtain ⟨_, _, _, h1, _⟩ := c1.ex
    exact lt_of_blk h1
  have hx20 := c1.x0
  have give : ∀ (e : Int) w', LVar w w' x2 l S0 S0 → w'.heap[z]? = some (.cells [.slice none 0 0, .slice none 0 0, .slice none 0 0, .int .i64 0].toArray 60) → stepL l o = (l, e) →
      ldn 4 (.pointer (some ⟨x2, 0, none⟩)) w' fun t67 => stn 4 (.pointer (some ⟨z, 0, none⟩)) t67 w' fun w => qG Try.prog (do loadVar 60 (← asAddr (.pointer (some ⟨z, 0, none⟩)))) w fun r4 => K (.tuple #[r4, .int .i64 e]) w := by
    intro e w' cx hzx he
    rw [he] at hK
    exact led_give (K := fun v w => K (.tuple #[v, .int .i64 e]) w) cx hzx (by omega) hzS fun v' w' hk hv' => hK v' w' S0 hk hv' fun q hq => .inl hq
  rw [ldAll (k := 7) hy3 rfl]
  refine CheckOp_spec o fun w4 hk4 => ?_
  have c4 := c3.keep hk4
  have hz4 := hk4.get hz3 (by simp)
  have hy4 := hk4.get hy3 (by simp)
  cases hok : o.ok with
  | false =>
    simp only [Bool.false_eq_true, if_false, bq_neq, bV_b, decide_eq_true_eq, decide_eq_false_iff_not]
    refine ⟨fun _ => ?_, fun h => absurd (by decide) h⟩
    exact give 1 w4 c4 hz4 (by unfold stepL; rw [if_pos hok])
  | true =>
    have hdo := ok_doH hm hq hok
    simp only [if_true, bq_neq, bV_b, decide_eq_true_eq, decide_eq_false_iff_not]
    refine ⟨fun h => absurd rfl h, fun _ => ?_⟩
    obtain ⟨a, b, c, hx4, hl4⟩ := c4.ex
    obtain ⟨a', b', c', SA0, SB0, SC0, e4, ra0, rb0, rc0, _⟩ := hl4.ex
    simp only [Value.agg.injEq, Array.mk.injEq, List.cons.injEq] at e4
    obtain ⟨rfl, rfl, rfl, _⟩ := e4
    rw [ldAll (k := 4) hx4 rfl, bld_whole (n := 4) (by kernel_rfl) rfl]
    rw [newG_k]
    obtain ⟨x, hx⟩ : ∃ x, x = w4.heap.size := ⟨_, rfl⟩
    obtain ⟨w5, hw5⟩ : ∃ w5, w5 = w4.alloc (.cells #[a, b, c, .int .i64 l.ops] 126) := ⟨_, rfl⟩
    have hk5 : Kp [] w4 w5 := by rw [hw5]; exact kp_alloc
    have hx5 : w5.heap[x]? = some (.cells #[a, b, c, .int .i64 l.ops] 126) := by rw [hw5, hx]; exact heap_new
    have hw5' : w4.alloc (.cells (Value.cells (.agg #[a, b, c, .int .i64 l.ops])) 126) = w5 := hw5.symm
    rw [hw5', ← hx]
    obtain ⟨W, hW⟩ : ∃ W, W = w5.drew := ⟨_, rfl⟩
    have kW : Kp [] w4 W := by rw [hW]; exact hk5.drew
    have hxW : W.heap[x]? = some (.cells #[a, b, c, .int .i64 l.ops] 126) := by rw [hW]; exact hx5
    rw [← hW]
    have r2 : ∀ w6, Kp [] W w6 → ∀ j v, (#[a, b, c, .int .i64 l.ops] : Array Value)[j]? = some v → ∀ K : Value → Prop, ld1 (.pointer (some ⟨x2, j, none⟩)) w6 K = K v := fun w6 k6 j v hj K => ldF ((kW.trans' k6).get hx4 (by simp)) hj
    simp only [fa_p, nk_p, Nat.add_zero, Nat.zero_add]
    rw [r2 W (Kp.refl _ _) 0 a rfl, r2 W (Kp.refl _ _) 1 b rfl, r2 W (Kp.refl _ _) 2 c rfl]
    have kw0 : Kp [] w W := c4.kp.trans' kW
    refine cloneStock_spec (l := l.st) (Rd.keep ⟨_, ra0⟩ kW) (by omega) fun va w6 fa => ?_
    rw [r2 w6 fa.kp 2 c rfl, r2 w6 fa.kp 1 b rfl]
    refine ⟨rfl, rfl, cloneHold_spec (l := l.ho) (Rd.keep ⟨_, rb0⟩ (kW.trans' fa.kp)) (by omega) fun vb w7 fb => ?_⟩
    have k67 := fa.kp.trans' fb.kp
    rw [r2 w7 k67 2 c rfl]
    refine ⟨rfl, cloneMove_spec (l := l.mo) (Rd.keep ⟨_, rc0⟩ (kW.trans' k67)) (by omega) fun vc w8 fc => ?_⟩
    have kW8 := k67.trans' fc.kp
    obtain ⟨SA, ra, na⟩ := fa.ex
    obtain ⟨SB, rb, nb⟩ := fb.ex
    obtain ⟨SC, rc, nc⟩ := fc.ex
    have ra8 := ra.keep (fb.kp.trans' fc.kp) (by simp)
    have rb8 := rb.keep fc.kp (by simp)
    have hxW8 := kW8.get hxW (by simp)
    have hWx := lt_of_blk hxW
    have s6 := fa.kp.size
    have s7 := fb.kp.size
    have la := ra.lt
    have lb := rb.lt
    have lx := live_of hxW8
    have o1 : one va = true := fa.one
    have o2 : one vb = true := fb.one
    have o3 : one vc = true := fc.one
    rw [stF hxW8 (by simp) o1]
    rw [stF (heap_self lx) (by simp) o2, setBlk2]
    rw [stF (heap_self lx) (by simp) o3, setBlk2]
    obtain ⟨w9, hw9⟩ : ∃ w9, w9 = setBlk w8 x (.cells #[va, vb, vc, .int .i64 l.ops] 126) := ⟨_, rfl⟩
    have hw9' : setBlk w8 x (.cells (((#[a, b, c, .int .i64 l.ops].setIfInBounds 0 va).setIfInBounds 1 vb).setIfInBounds 2 vc) 126) = w9 := by rw [hw9]; rfl
    have k89 : Kp [x] w8 w9 := by rw [hw9]; exact (Kp.refl _ _).setBlk (.inl (by simp)) _
    have hx9 : w9.heap[x]? = some (.cells #[va, vb, vc, .int .i64 l.ops] 126) := by rw [hw9]; exact heap_self lx
    rw [hw9']
    have xA : ∀ q ∈ SA, q ≠ x := fun q hq => by have := na q hq; omega
    have xB : ∀ q ∈ SB, q ≠ x := fun q hq => by have := nb q hq; omega
    have xC : ∀ q ∈ SC, q ≠ x := fun q hq => by have := nc q hq; omega
    have sk := c4.kp.size
    have hx0 : w.heap.size ≤ x := by omega
    have kw9 : Kp [] w w9 := (kw0.trans' kW8).trans k89 fun q hq hlt => by simp at hq; omega
    have swW := kw0.size
    have s5 := hk5.size
    have hW9 : WorkAt w w9 x l (x :: blksC [⟨va, 4, l.st.map sC, SA⟩, ⟨vb, 6, l.ho.map hC, SB⟩, ⟨vc, 6, l.mo.map hC, SC⟩]) := by
      refine ⟨⟨va, vb, vc, SA, SB, SC, ⟨hx9, fun i hi => ?_, ?_⟩, rfl⟩, fun q hq => ?_, kw9⟩
      · rcases (by simp at hi; omega : i = 0 ∨ i = 1 ∨ i = 2) with rfl | rfl | rfl
        · exact ra8.keep k89 fun q hq => by simpa using xA q hq
        · exact rb8.keep k89 fun q hq => by simpa using xB q hq
        · exact rc.keep k89 fun q hq => by simpa using xC q hq
      · simp only [blksC, List.map_cons, List.map_nil, List.flatten_cons, List.flatten_nil, List.append_nil]
        refine List.nodup_cons.2 ⟨fun hm => ?_, List.nodup_append.2 ⟨ra.nodup, List.nodup_append.2 ⟨rb.nodup, rc.nodup, fun q hq r hr he => ?_⟩, fun q hq r hr he => ?_⟩⟩
        · simp only [List.mem_append] at hm
          rcases hm with h | h | h
          · exact xA x h rfl
          · exact xB x h rfl
          · exact xC x h rfl
        · subst he
          have := lb q hq
          have := nc q hr
          omega
        · subst he
          have := la q hq
          simp only [List.mem_append] at hr
          rcases hr with h | h
          · have := nb q h; omega
          · have := nc q h; omega
      · simp only [blksC, List.map_cons, List.map_nil, List.flatten_cons, List.flatten_nil, List.append_nil, List.mem_cons, List.mem_append] at hq
        rcases hq with rfl | h | h | h
        · omega
        · have := na q h; omega
        · have := nb q h; omega
        · have := nc q h; omega
    obtain ⟨SW, hSW⟩ : ∃ SW, SW = x :: blksC [⟨va, 4, l.st.map sC, SA⟩, ⟨vb, 6, l.ho.map hC, SB⟩, ⟨vc, 6, l.mo.map hC, SC⟩] := ⟨_, rfl⟩
    rw [← hSW] at hW9
    have hnW : ∀ q ∈ SW, w4.heap.size ≤ q := fun q hq => by
      rw [hSW] at hq
      simp only [blksC, List.map_cons, List.map_nil, List.flatten_cons, List.flatten_nil, List.append_nil, List.mem_cons, List.mem_append] at hq
      rcases hq with rfl | h | h | h
      · omega
      · have := na q h; omega
      · have := nb q h; omega
      · have := nc q h; omega
    have k49 : Kp [] w4 w9 := (kW.trans' kW8).trans k89 fun q hq hlt => by simp at hq; omega
    rw [ldAll (k := 7) (k49.get hy4 (by simp)) rfl]
    refine does_spec hdo hW9 fun w10 S10 h10 k10 hS10 => ?_
    have s4l := k49.size
    have k410 : Kp [] w4 w10 := k49.trans k10 fun q hq hlt => by have := hnW q hq; omega
    have c10 := c4.keep k410
    have hz10 := k410.get hz4 (by simp)
    simp only [bq_neq, bV_b, decide_eq_true_eq, decide_eq_false_iff_not]
    refine ⟨fun e => give _ w10 c10 hz10 (by unfold stepL; rw [if_neg (by simp [hok]), if_pos e]), fun e => ?_⟩
    obtain ⟨l', hl'⟩ : ∃ l', l' = (doesL l o).1 := ⟨_, rfl⟩
    rw [← hl'] at h10
    have h10d := h10.keep kp_drew
    obtain ⟨va', vb', vc', SA', SB', SC', hbx, hSx⟩ := h10d.ex
    have hlx : ∀ i (hi : i < 3) v' (hv' : ([(⟨va', 4, l'.st.map sC, SA'⟩ : Cmp), ⟨vb', 6, l'.ho.map hC, SB'⟩, ⟨vc', 6, l'.mo.map hC, SC'⟩].map (fun x : Cmp => x.v) ++ [Value.int .i64 l'.ops])[i]? = some v') (K : Value → Prop), ld1 (.pointer (some ⟨x, i, none⟩)) w10.drew K = K v' := fun i hi v' hv' K => ldF hbx.cell (by simpa using hv')
    obtain ⟨aa, ac, ha', _⟩ := (hbx.rows 0 (by simp)).len
    obtain ⟨ba, bc, hb', _⟩ := (hbx.rows 1 (by simp)).len
    obtain ⟨ca, cc, hc', _⟩ := (hbx.rows 2 (by simp)).len
    simp only [List.getElem_cons_zero, List.getElem_cons_succ, List.length_map] at ha' hb' hc'
    have la' : ∀ K : Value → Prop, lenL va' K = K (.int .i64 l'.st.length) := fun K => by rw [ha']; rfl
    have lb' : ∀ K : Value → Prop, lenL vb' K = K (.int .i64 l'.ho.length) := fun K => by rw [hb']; rfl
    have lc' : ∀ K : Value → Prop, lenL vc' K = K (.int .i64 l'.mo.length) := fun K => by rw [hc']; rfl
    rw [hlx 0 (by omega) va' rfl, la', hlx 1 (by omega) vb' rfl, lb', hlx 2 (by omega) vc' rfl, lc']
    rw [qG_of run_max3]
    have c10d := c10.keep kp_drew
    have hz10d := kp_drew.get hz10 (by simp)
    have e0 : (doesL l o).2 = 0 := Decidable.not_not.1 e
    simp only [bq_gtr, bV_b, decide_eq_true_eq, decide_eq_false_iff_not]
    refine ⟨fun e2 => ?_, fun e2 => ?_⟩
    · exact give 2 w10.drew c10d hz10d (by
        unfold stepL
        rw [if_neg (by simp [hok]), if_neg e, if_pos (.inl (by unfold fullL; rw [← hl']; exact decide_eq_true (by omega)))])
    · obtain ⟨xa, xb, xc, hxx, _⟩ := c10d.ex
      rw [ldF hxx (j := 3) (x := .int .i64 l.ops) rfl]
      simp only [bq_geq, bV_b, decide_eq_true_eq, decide_eq_false_iff_not]
      refine ⟨fun e3 => give 2 w10.drew c10d hz10d (by unfold stepL; rw [if_neg (by simp [hok]), if_neg e, if_pos (.inr (by omega))]), fun e3 => ?_⟩
      have hstep : stepL l o = ({ l' with ops := l.ops + 1 }, 0) := by
        unfold stepL
        rw [if_neg (by simp [hok]), if_neg e, if_neg, hl']
        rw [not_or]
        refine ⟨?_, by omega⟩
        unfold fullL
        rw [← hl', decide_eq_true_eq]
        omega
      have hops : l'.ops = l.ops := by
        rw [hl']
        exact (doesL_ops l o)
      unfold ledger_step_s0
      simp only [fa_p, nk_p, Nat.add_zero, Nat.zero_add]
      have hcell := hbx.cell
      have hops0 := hm.ops
      have hiw : IntKind.i64.wrap (l'.ops + 1) = l.ops + 1 := by rw [hops, w64 (by omega) (by omega)]
      rw [ldF hcell (j := 3) (x := .int .i64 l'.ops) rfl]
      simp only [bq_add, hiw]
      rw [stF hcell (by simp) rfl]
      obtain ⟨wA, hwA⟩ : ∃ wA, wA = setBlk w10.drew x (.cells #[va', vb', vc', .int .i64 (l.ops + 1)] 126) := ⟨_, rfl⟩
      have hwA' : setBlk w10.drew x (.cells ((([(⟨va', 4, l'.st.map sC, SA'⟩ : Cmp), ⟨vb', 6, l'.ho.map hC, SB'⟩, ⟨vc', 6, l'.mo.map hC, SC'⟩].map (fun x : Cmp => x.v) ++ [Value.int .i64 l'.ops]).toArray).setIfInBounds 3 (.int .i64 (l.ops + 1))) 126) = wA := by rw [hwA]; rfl
      rw [hwA']
      have kA : Kp [x] w10.drew wA := by rw [hwA]; exact (Kp.refl _ _).setBlk (.inl (by simp)) _
      have hxA : wA.heap[x]? = some (.cells #[va', vb', vc', .int .i64 (l.ops + 1)] 126) := by rw [hwA]; exact heap_self (live_of hcell)
      have hn10 : ∀ q ∈ S10, w4.heap.size ≤ q := fun q hq => by
        rcases hS10 q hq with h | h
        · exact hnW q h
        · have := k49.size; omega
      have hzx : z ≠ x := by have := hk4.size; omega
      have hzA : wA.heap[z]? = some (.cells [.slice none 0 0, .slice none 0 0, .slice none 0 0, .int .i64 0].toArray 60) := kA.get hz10d (by simpa using hzx)
      have hx0' : ∀ i (hi : i < 3), x ∉ [SA', SB', SC'][i] := by
        intro i hi
        rcases (by omega : i = 0 ∨ i = 1 ∨ i = 2) with rfl | rfl | rfl
        · exact hbx.x_not (i := 0) (by simp)
        · exact hbx.x_not (i := 1) (by simp)
        · exact hbx.x_not (i := 2) (by simp)
      have rA := (hbx.rows 0 (by simp)).keep kA fun q hq => by simp; intro e; exact hx0' 0 (by omega) (e ▸ hq)
      have rB := (hbx.rows 1 (by simp)).keep kA fun q hq => by simp; intro e; exact hx0' 1 (by omega) (e ▸ hq)
      have rC := (hbx.rows 2 (by simp)).keep kA fun q hq => by simp; intro e; exact hx0' 2 (by omega) (e ▸ hq)
      simp only [List.getElem_cons_zero, List.getElem_cons_succ] at rA rB rC
      have hin : ∀ q ∈ SA' ++ (SB' ++ SC'), q ∈ S10 := fun q hq => by
        rw [hSx]
        simp only [blksC, List.map_cons, List.map_nil, List.flatten_cons, List.flatten_nil, List.append_nil, List.mem_cons]
        exact .inr hq
      have hltA := kA.size
      have hlt10 := h10d.lt
      have hvA : LedS wA (.agg #[va', vb', vc', .int .i64 (l.ops + 1)]) { l' with ops := l.ops + 1 } (SA' ++ (SB' ++ SC')) :=
        ⟨⟨va', vb', vc', SA', SB', SC', rfl, .inr rA.rd, .inr rB.rd, .inr rC.rd, rfl⟩, fun q hq => by have := hlt10 q (hin q hq); omega⟩
      rw [hstep] at hK
      have kfin : Kp [] w wA := by
        refine ((c10d.kp).mono (by simp)).trans kA fun q hq hlt => ?_
        simp at hq; omega
      rw [ldAll (k := 4) hxA rfl]
      refine led_put (K := fun v w => K (.tuple #[v, .int .i64 0]) w) hzA hvA (fun hm => by have := hn10 z (hin z hm); have := hk4.size; omega) fun w' hk' hv' => hK _ w' _ (kfin.trans hk' fun q hq hlt => by simp at hq; omega) hv' fun q hq => .inr (by have := hn10 q (hin q hq); omega)
end Go.Proofs

/- Layer 7: the document tells a ledger that may be so. -/
set_option linter.unusedVariables false
set_option linter.unusedSimpArgs false
namespace Go.Proofs
open Go Go.Q
/-- a ledger that is read, in a variable -/
structure LBox (w : World) (x : Nat) (a b c : Value) (l : LV) : Prop where
  h : w.heap[x]? = some (.cells #[a, b, c, .int .i64 l.ops] 60)
  a : Rd w a 4 (l.st.map sC)
  b : Rd w b 6 (l.ho.map hC)
  c : Rd w c 6 (l.mo.map hC)
section
variable {w0 w : World} {x : Nat} {a b c : Value} {l : LV}
theorem LBox.keep {w' : World} (h : LBox w x a b c l) (hk : Kp [] w w') : LBox w' x a b c l := ⟨hk.get h.h (by simp), h.a.keep hk, h.b.keep hk, h.c.keep hk⟩
theorem LBox.at (h : LBox w x a b c l) : LedAt w (.agg #[a, b, c, .int .i64 l.ops]) l := ⟨a, b, c, rfl, h.a, h.b, h.c⟩
theorem LBox.l0 (h : LBox w x a b c l) {K : Value → Prop} : ld1 (.pointer (some ⟨x, 0, none⟩)) w K = K a := ldF h.h rfl
theorem LBox.l1 (h : LBox w x a b c l) {K : Value → Prop} : ld1 (.pointer (some ⟨x, 1, none⟩)) w K = K b := ldF h.h rfl
theorem LBox.l2 (h : LBox w x a b c l) {K : Value → Prop} : ld1 (.pointer (some ⟨x, 2, none⟩)) w K = K c := ldF h.h rfl
theorem LBox.l3 (h : LBox w x a b c l) {K : Value → Prop} : ld1 (.pointer (some ⟨x, 3, none⟩)) w K = K (.int .i64 l.ops) := ldF h.h rfl
theorem LBox.ld (h : LBox w x a b c l) {K : Value → Prop} : ldn 4 (.pointer (some ⟨x, 0, none⟩)) w K = K (.agg #[a, b, c, .int .i64 l.ops]) := ldAll h.h rfl
theorem boxLed {v : Value} (hv : LedAt w v l) {K : Value → World → Prop} (hK : ∀ x a b c w1, w.heap.size ≤ x → Kp [] w w1 → LBox w1 x a b c l → v = .agg #[a, b, c, .int .i64 l.ops] → K (.pointer (some ⟨x, 0, none⟩)) w1) : newG (Value.cells v) 60 w K := by
  obtain ⟨a, b, c, rfl, h1, h2, h3⟩ := hv
  exact argBox (cs := [a, b, c, .int .i64 l.ops]) fun x w1 hx1 hh1 hk1 => hK x a b c w1 hx1 hk1 ⟨hh1, h1.keep hk1, h2.keep hk1, h3.keep hk1⟩ rfl
/-- a row's parts are read -/
theorem rd_parts {α : Type} {f : α → List Value} {w : World} {v : Value} {k : Nat} {L : List α} (h : Rd w v k (L.map f)) {i : Nat} (hi : i < L.length) : ∃ p, (∀ K : Value → Prop, ia k v (.int .i64 i) K = K p) ∧ (∀ K : Value → Prop, ldn k p w K = K (.agg (f L[i]).toArray)) ∧ ∀ j x, (f L[i])[j]? = some x → ∀ K : Value → Prop, fa j p (fun q => ld1 q w K) = K x := by
  obtain ⟨p, h1, h2, h3⟩ := h.get (i := i) (by simpa using hi)
  have e : (L.map f)[i]'(by simpa using hi) = f L[i] := by simp
  refine ⟨p, fun K => h1 .i64 K, fun K => by rw [h2 K, e], fun j x hx K => ?_⟩
  obtain ⟨hj, hx⟩ := List.getElem?_eq_some_iff.1 hx
  rw [h3 j (by rw [e]; exact hj)]
  have : ((L.map f)[i]'(by simpa using hi))[j]'(by rw [e]; exact hj) = x := by rw [← hx]; congr 1
  rw [this]
end
end Go.Proofs

/- Layer 7: the document tells a ledger that may be so. -/
set_option linter.unusedVariables false
set_option linter.unusedSimpArgs false
namespace Go.Proofs
open Go Go.Q
section
variable {w0 w : World} {x : Nat} {a b c : Value} {l : LV}
end
end Go.Proofs

/- Layer 7: the document's ledger: does (a put or a take). -/
set_option linter.unusedVariables false
set_option linter.unusedSimpArgs false
namespace Go.Proofs
open Go Go.Q
end Go.Proofs

/- Layer 7: the document's ledger: does (an end of a hold, holds that are due). -/
set_option linter.unusedVariables false
set_option linter.unusedSimpArgs false
namespace Go.Proofs
open Go Go.Q
end Go.Proofs

/- Layer 7: the document's ledger: does (a transfer). -/
set_option linter.unusedVariables false
set_option linter.unusedSimpArgs false
namespace Go.Proofs
open Go Go.Q
end Go.Proofs

/- Layer 7: the document's ledger: does (a hold). -/
set_option linter.unusedVariables false
set_option linter.unusedSimpArgs false
namespace Go.Proofs
open Go Go.Q
end Go.Proofs

/- Layer 7: the document's ledger: does, joined. -/
set_option linter.unusedVariables false
set_option linter.unusedSimpArgs false
namespace Go.Proofs
open Go Go.Q
end Go.Proofs

/- Layer 7: the document's step; ledgers in variables. -/
set_option linter.unusedVariables false
set_option linter.unusedSimpArgs false
namespace Go.Proofs
open Go Go.Q
/-- a ledger that a call gave, in a variable of its own -/
theorem varLed {w : World} {v : Value} {l : LV} {S : List Nat} (hv : LedS w v l S) {K : Value → World → Prop}
    (hK : ∀ p w1 a b c, w.heap.size ≤ p → p < w1.heap.size → w1.heap[p]? = some (.cells #[a, b, c, .int .i64 l.ops] 60) → v = .agg #[a, b, c, .int .i64 l.ops] → Kp [] w w1 → LedS w1 v l S → K (.pointer (some ⟨p, 0, none⟩)) w1) :
    newG (zc Try.prog 60) 60 w fun p w => stn 4 p v w fun w => K p w := by
  obtain ⟨a, b, c, SA, SB, SC, rfl, h1, h2, h3, _⟩ := hv.ex
  have hone := LedAt.ones (l := l) ⟨_, h1⟩ ⟨_, h2⟩ ⟨_, h3⟩
  refine boxG (c := #[a, b, c, .int .i64 l.ops]) (by kernel_rfl) rfl (by simpa using hone) fun p w1 hp hh hk => ?_
  exact hK p w1 a b c hp (lt_of_blk hh) hh rfl hk (hv.keep hk (by simp))
/-! ### ledgers in variables -/
/-- a ledger of which no list lies in the variables X -/
def LX (X : List Nat) (w : World) (v : Value) (l : LV) : Prop := ∃ S, LedS w v l S ∧ ∀ q ∈ S, q ∉ X
/-- a ledger in the variable x -/
structure VX (X : List Nat) (w : World) (x : Nat) (l : LV) : Prop where
  m : x ∈ X
  ex : ∃ v a b c, w.heap[x]? = some (.cells #[a, b, c, .int .i64 l.ops] 60) ∧ v = .agg #[a, b, c, .int .i64 l.ops] ∧ LX X w v l
section
variable {X : List Nat} {w w' : World} {v : Value} {l l' : LV} {x y : Nat}
theorem LX.keepS {S : List Nat} (h : LX X w v l) (hk : Kp S w w') (hS : ∀ q ∈ S, q ∈ X) : LX X w' v l := by
  obtain ⟨T, h1, h2⟩ := h
  exact ⟨T, h1.keep hk (fun q hq hm => h2 q hq (hS q hm)), h2⟩
theorem LX.keep (h : LX X w v l) (hk : Kp [] w w') : LX X w' v l := h.keepS hk (by simp)
theorem LX.more {p : Nat} (h : LX X w v l) (hp : w.heap.size ≤ p) : LX (p :: X) w v l := by
  obtain ⟨T, h1, h2⟩ := h
  refine ⟨T, h1, fun q hq hm => ?_⟩
  rcases List.mem_cons.1 hm with rfl | hm
  · have := h1.lt q hq; omega
  · exact h2 q hq hm
theorem LX.at (h : LX X w v l) : LedAt w v l := by
  obtain ⟨T, h1, h2⟩ := h
  exact h1.at
theorem VX.keepS {S : List Nat} (h : VX X w x l) (hk : Kp S w w') (hS : ∀ q ∈ S, q ∈ X) (hx : x ∉ S) : VX X w' x l := by
  obtain ⟨v, a, b, c, h1, h2, h3⟩ := h.ex
  exact ⟨h.m, v, a, b, c, hk.get h1 hx, h2, h3.keepS hk hS⟩
theorem VX.keep (h : VX X w x l) (hk : Kp [] w w') : VX X w' x l := h.keepS hk (by simp) (by simp)
theorem VX.more {p : Nat} (h : VX X w x l) (hp : w.heap.size ≤ p) : VX (p :: X) w x l := by
  obtain ⟨v, a, b, c, h1, h2, h3⟩ := h.ex
  exact ⟨List.mem_cons_of_mem _ h.m, v, a, b, c, h1, h2, h3.more hp⟩
theorem VX.ld (h : VX X w x l) : ∃ v, (∀ K : Value → Prop, ldn 4 (.pointer (some ⟨x, 0, none⟩)) w K = K v) ∧ LX X w v l := by
  obtain ⟨v, a, b, c, h1, h2, h3⟩ := h.ex
  exact ⟨v, fun K => by rw [h2]; exact ldAll h1 rfl, h3⟩
theorem VX.box (h : VX X w x l) : ∃ a b c, LBox w x a b c l := by
  obtain ⟨v, a, b, c, h1, h2, h3⟩ := h.ex
  obtain ⟨a', b', c', e, r1, r2, r3⟩ := h3.at
  rw [h2] at e
  simp only [Value.agg.injEq, Array.mk.injEq, List.cons.injEq] at e
  obtain ⟨rfl, rfl, rfl, _⟩ := e
  exact ⟨_, _, _, h1, r1, r2, r3⟩
theorem VX.lt (h : VX X w x l) : x < w.heap.size := by
  obtain ⟨v, a, b, c, h1, h2, h3⟩ := h.ex
  exact lt_of_blk h1
/-- another ledger is put there -/
theorem VX.st (h : VX X w x l) (hv : LX X w v l') {K : World → Prop} (hK : ∀ w2, Kp [x] w w2 → VX X w2 x l' → K w2) : stn 4 (.pointer (some ⟨x, 0, none⟩)) v w K := by
  obtain ⟨_, a, b, c, h1, h2, h3⟩ := h.ex
  obtain ⟨T, hv1, hv2⟩ := hv
  obtain ⟨a', b', c', SA, SB, SC, rfl, r1, r2, r3, _⟩ := hv1.ex
  have hone := LedAt.ones (l := l') ⟨_, r1⟩ ⟨_, r2⟩ ⟨_, r3⟩
  rw [stAll (k := 4) h1 rfl rfl hone]
  have hkx : Kp [x] w (setBlk w x (.cells #[a', b', c', .int .i64 l'.ops] 60)) := (Kp.refl _ w).setBlk (.inl (by simp)) _
  have hm := h.m
  exact hK _ hkx ⟨hm, _, a', b', c', heap_self (live_of h1), rfl, T, hv1.keep hkx (fun q hq => by simp; intro e; exact hv2 q hq (e ▸ hm)), hv2⟩
theorem lz_led (w : World) : LedS w (.agg #[.slice none 0 0, .slice none 0 0, .slice none 0 0, .int .i64 0]) lZ [] :=
  ⟨⟨_, _, _, [], [], [], rfl, .inr (.inl ⟨rfl, rfl⟩), .inr (.inl ⟨rfl, rfl⟩), .inr (.inl ⟨rfl, rfl⟩), rfl⟩, by simp⟩
theorem lz_x (w : World) : LX X w (.agg #[.slice none 0 0, .slice none 0 0, .slice none 0 0, .int .i64 0]) lZ := ⟨[], lz_led w, by simp⟩
/-- a variable more -/
theorem newVX (hv : LX X w v l) {K : Value → World → Prop} (hK : ∀ p w1, w.heap.size ≤ p → Kp [] w w1 → VX (p :: X) w1 p l → K (.pointer (some ⟨p, 0, none⟩)) w1) :
    newG (zc Try.prog 60) 60 w fun p w => stn 4 p v w fun w => K p w := by
  obtain ⟨T, hv1, hv2⟩ := hv
  refine varLed hv1 fun p w1 a b c hp hpl hh hve hk hv' => hK p w1 hp hk ⟨by simp, v, a, b, c, hh, hve, T, hv', fun q hq hm => ?_⟩
  rcases List.mem_cons.1 hm with rfl | hm
  · have := hv1.lt q hq; omega
  · exact hv2 q hq hm
/-- an empty one -/
theorem zeroVX {K : Value → World → Prop} (hK : ∀ p w1, w.heap.size ≤ p → Kp [] w w1 → VX (p :: X) w1 p lZ → K (.pointer (some ⟨p, 0, none⟩)) w1) : newG (zc Try.prog 60) 60 w K := by
  rw [newG_k, zcLed]
  exact hK _ _ (Nat.le_refl _) kp_alloc ⟨by simp, _, _, _, _, heap_new, rfl, [], lz_led _, by simp⟩
/-- an argument's -/
theorem argVX (hv : LX X w v l) {K : Value → World → Prop} (hK : ∀ p w1, w.heap.size ≤ p → Kp [] w w1 → VX (p :: X) w1 p l → K (.pointer (some ⟨p, 0, none⟩)) w1) : newG (Value.cells v) 60 w K := by
  obtain ⟨T, hv1, hv2⟩ := hv
  obtain ⟨a, b, c, SA, SB, SC, e, h1, h2, h3, _⟩ := hv1.ex
  subst e
  refine argBox (cs := [a, b, c, .int .i64 l.ops]) fun p w1 hp hh hk => ?_
  refine hK p w1 hp hk ⟨by simp, _, a, b, c, hh, rfl, T, hv1.keep hk (by simp), fun q hq hm => ?_⟩
  rcases List.mem_cons.1 hm with rfl | hm
  · have := hv1.lt q hq; omega
  · exact hv2 q hq hm
end
end Go.Proofs

/- Layer 7: Apply and Replay, of the program and of the document. -/
set_option maxRecDepth 100000
set_option linter.unusedVariables false
set_option linter.unusedSimpArgs false
namespace Go.Proofs
open Go Go.Q
def applyL (l : LV) (o : OpV) : LV × Int := if (stepL l o).2 = 0 then ((stepL l o).1, 0) else (lZ, (stepL l o).2)
def replayL : LV → List OpV → Nat → LV × Nat × Int
  | l, [], k => (l, k, 0)
  | l, o :: r, k => if (stepL l o).2 = 0 then replayL (stepL l o).1 r (k + 1) else (l, k, (stepL l o).2)
section
variable {X : List Nat} {w w' : World} {v : Value} {l l' : LV} {x y : Nat}
theorem LX.less {Y : List Nat} (h : LX X w v l) (hY : ∀ q ∈ Y, q ∈ X) : LX Y w v l := by
  obtain ⟨T, h1, h2⟩ := h
  exact ⟨T, h1, fun q hq hm => h2 q hq (hY q hm)⟩
theorem retVX {z : Nat} {l0 : LV} (h : VX X w z l0) (hv : LX X w v l') {K : Value → World → Prop} (hK : ∀ w', Kp [z] w w' → LX X w' v l' → K v w') :
    stn 4 (.pointer (some ⟨z, 0, none⟩)) v w fun w => qG Try.prog (do loadVar 60 (← asAddr (.pointer (some ⟨z, 0, none⟩)))) w fun r4 => K r4 w := by
  obtain ⟨_, a, b, c, h1, h2, h3⟩ := h.ex
  have hm := h.m
  have hv' := hv
  obtain ⟨T, hv1, hv2⟩ := hv
  obtain ⟨a', b', c', SA, SB, SC, e, r1, r2, r3, _⟩ := hv1.ex
  subst e
  have hone := LedAt.ones (l := l') ⟨_, r1⟩ ⟨_, r2⟩ ⟨_, r3⟩
  rw [stAll (k := 4) h1 rfl rfl hone, lvLedw (heap_self (live_of h1)) rfl]
  have hkx : Kp [z] w (setBlk w z (.cells #[a', b', c', .int .i64 l'.ops] 60)) := (Kp.refl _ w).setBlk (.inl (by simp)) _
  exact hK _ hkx (hv'.keepS hkx fun q hq => by simp at hq; exact hq ▸ hm)
theorem step_X (hm : May l) (hv : LX X w v l) (hX : ∀ q ∈ X, q < w.heap.size) (o : OpV) (hq : rngI o.q) {K : Value → World → Prop}
    (hK : ∀ v' w', Kp [] w w' → LX X w' v' (stepL l o).1 → K (.tuple #[v', .int .i64 (stepL l o).2]) w') : callG Try.prog 67 #[v, .agg (opC o).toArray] w K := by
  obtain ⟨T, h1, h2⟩ := hv
  refine step_spec hm h1 o hq fun v' w' S' hk hv' hS => hK v' w' hk ⟨S', hv', fun q hq hm => ?_⟩
  rcases hS q hq with h | h
  · exact h2 q h hm
  · have := hX q hm; omega
theorem zLed_bld {K : Value → Prop} : bld [(0, 1), (1, 1), (2, 1), (3, 1)] (zc Try.prog 60) #[] K = K (.agg #[.slice none 0 0, .slice none 0 0, .slice none 0 0, .int .i64 0]) := by rw [zcLed, bld_done]
theorem Apply_X (hm : May l) (hv : LX X w v l) (hX : ∀ q ∈ X, q < w.heap.size) (o : OpV) (hq : rngI o.q) {K : Value → World → Prop}
    (hK : ∀ v' w', Kp [] w w' → LX X w' v' (applyL l o).1 → K (.tuple #[v', .int .i64 (applyL l o).2]) w') : callG Try.prog 39 #[v, .agg (opC o).toArray] w K := by
  refine ledger_Apply_call ?_
  unfold ledger_Apply ledger_Apply_s0
  refine argVX hv fun p2 w1 hp2 k1 c1 => ?_
  refine argBox (cs := opC o) fun y w2 hy hh2 k2 => ?_
  have c2 := c1.keep k2
  refine zeroVX (X := p2 :: X) fun p4 w3 hp4 k3 c4 => ?_
  have c3 := (c2.more hp4).keep k3
  have s1 := k1.size
  have s2 := k2.size
  have s3 := k3.size
  have hy3 := k3.get hh2 (by simp)
  have k03 := (k1.trans' k2).trans' k3
  have hX3 : ∀ q ∈ p4 :: p2 :: X, q < w3.heap.size := fun q hq => by
    rcases List.mem_cons.1 hq with rfl | hq
    · exact c4.lt
    · rcases List.mem_cons.1 hq with rfl | hq
      · exact c3.lt
      · have := hX q hq; omega
  have hsub : ∀ q ∈ X, q ∈ p4 :: p2 :: X := fun q hq => by simp [hq]
  obtain ⟨v3, hld3, hv3⟩ := c3.ld
  rw [hld3]
  refine Check_spec7 hm hv3.at fun w4 k4 => ?_
  simp only [bq_neq, bV_b, decide_eq_true_eq, decide_eq_false_iff_not]
  refine ⟨fun h => absurd rfl h, fun _ => ?_⟩
  have d3 := c3.keep k4
  have d4 := c4.keep k4
  have hy4 := k4.get hy3 (by simp)
  have s4 := k4.size
  obtain ⟨v4, hld4, hv4⟩ := d3.ld
  rw [hld4, ldAll (k := 7) hy4 rfl]
  refine step_X hm hv4 (fun q hq => by have := hX3 q hq; omega) o hq fun v5 w5 k5 hv5 => ?_
  have e4 := d4.keep k5
  have s5 := k5.size
  simp only [ex0, ex1]
  refine newVX hv5 fun p7 w6 hp7 k6 c7 => ?_
  have f4 := (e4.more hp7).keep k6
  have k06 := ((k03.trans' k4).trans' k5).trans' k6
  have hsub' : ∀ q ∈ X, q ∈ p7 :: p4 :: p2 :: X := fun q hq => by simp [hq]
  have hpw : w.heap.size ≤ p4 := by omega
  have fin : ∀ w', Kp [p4] w6 w' → Kp [] w w' := fun w' k => k06.trans k fun q hq hlt => by simp at hq; omega
  simp only [bq_neq, bV_b, decide_eq_true_eq, decide_eq_false_iff_not]
  refine ⟨fun e => ?_, fun e => ?_⟩
  · have ea : applyL l o = (lZ, (stepL l o).2) := by unfold applyL; rw [if_neg e]
    rw [ea] at hK
    rw [zLed_bld]
    exact retVX (K := fun v w => K (.tuple #[v, .int .i64 (stepL l o).2]) w) f4 (lz_x _) fun w' kz hz => hK _ w' (fin w' kz) (hz.less hsub')
  · have e0 : (stepL l o).2 = 0 := Decidable.not_not.1 e
    have ea : applyL l o = ((stepL l o).1, 0) := by unfold applyL; rw [if_pos e0]
    rw [ea] at hK
    obtain ⟨v7, hld7, hv7⟩ := c7.ld
    rw [hld7]
    exact retVX (K := fun v w => K (.tuple #[v, .int .i64 0]) w) f4 hv7 fun w' kz hz => hK _ w' (fin w' kz) (hz.less hsub')
/-- operations that were given -/
structure OpsAt (w : World) (v : Value) (ops : List OpV) : Prop where
  rd : Rd w v 7 (ops.map opC)
  wf : ∀ o ∈ ops, o.Wf
theorem OpsAt.keep {ops : List OpV} (h : OpsAt w v ops) (hk : Kp [] w w') : OpsAt w' v ops := ⟨h.rd.keep hk, h.wf⟩
theorem wf_rng {o : OpV} (h : o.Wf) : rngI o.q := ⟨h.q0, h.q1⟩
theorem replayL_drop {ops : List OpV} {i : Nat} (h : i < ops.length) (l : LV) (k : Nat) : replayL l (ops.drop i) k = if (stepL l ops[i]).2 = 0 then replayL (stepL l ops[i]).1 (ops.drop (i + 1)) (k + 1) else (l, k, (stepL l ops[i]).2) := by
  rw [List.drop_eq_getElem_cons h]; rfl
theorem Replay_X (hm : May l) (hv : LX X w v l) (hX : ∀ q ∈ X, q < w.heap.size) {vo : Value} {ops : List OpV} (ho : OpsAt w vo ops) (hl : ops.length < 2 ^ 40) {K : Value → World → Prop}
    (hK : ∀ v' w', Kp [] w w' → LX X w' v' (replayL l ops 0).1 → K (.tuple #[v', .int .i64 (replayL l ops 0).2.1, .int .i64 (replayL l ops 0).2.2]) w') : callG Try.prog 36 #[v, vo] w K := by
  refine ledger_Replay_call ?_
  unfold ledger_Replay ledger_Replay_s4
  refine argVX hv fun p2 w1 hp2 k1 c1 => ?_
  refine zeroVX (X := p2 :: X) fun p4 w3 hp4 k3 c4 => ?_
  have c3 := (c1.more hp4).keep k3
  have s1 := k1.size
  have s3 := k3.size
  have k03 := k1.trans' k3
  have hX3 : ∀ q ∈ p4 :: p2 :: X, q < w3.heap.size := fun q hq => by
    rcases List.mem_cons.1 hq with rfl | hq
    · exact c4.lt
    · rcases List.mem_cons.1 hq with rfl | hq
      · exact c3.lt
      · have := hX q hq; omega
  have hsub : ∀ q ∈ X, q ∈ p4 :: p2 :: X := fun q hq => by simp [hq]
  have hp24 : p2 ≠ p4 := by have := c1.lt; omega
  obtain ⟨v3, hld3, hv3⟩ := c3.ld
  rw [hld3]
  refine Check_spec7 hm hv3.at fun w4 k4 => ?_
  simp only [bq_neq, bV_b, decide_eq_true_eq, decide_eq_false_iff_not]
  refine ⟨fun h => absurd rfl h, fun _ => ?_⟩
  obtain ⟨E, hE⟩ : ∃ E, E = replayL l ops 0 := ⟨_, rfl⟩
  rw [← hE] at hK
  have o4 := (ho.keep k03).keep k4
  have k04 := k03.trans' k4
  have s4 := k4.size
  unfold ledger_Replay_s3 ledger_Replay_L2
  rw [o4.rd.lenL, List.length_map]
  refine loop_inv (fun m xs wi => ∃ (i : Nat) (li : LV) (Y : List Nat), i ≤ ops.length ∧ m = ops.length - i ∧ xs = [vo, .pointer (some ⟨p2, 0, none⟩), .pointer (some ⟨p4, 0, none⟩), vo, .int .i64 ops.length, .int .i64 (i : Nat)] ∧ E = replayL li (ops.drop i) i ∧ May li ∧ Kp [] w wi ∧ w4.heap.size ≤ wi.heap.size ∧
      (∀ q ∈ X, q ∈ Y) ∧ (∀ q ∈ Y, q < wi.heap.size) ∧ VX Y wi p2 li ∧ VX Y wi p4 lZ) ?_ (m := ops.length)
    ⟨0, l, p4 :: p2 :: X, by omega, rfl, rfl, hE, hm, k04, Nat.le_refl _, hsub, fun q hq => by have := hX3 q hq; omega, c3.keep k4, c4.keep k4⟩
  rintro m N xs wi ⟨i, li, Y, hi, rfl, rfl, he, hmi, ki, hsi, hXY, hY, ci, zi⟩ hN
  have hiw : IntKind.i64.wrap ((i : Int) + 1) = ((i + 1 : Nat) : Int) := by rw [w64 (by omega) (by omega)]; simp
  have oi := ho.keep ki
  unfold ledger_Replay_L2F ledger_Replay_b1
  simp only [bq_lss, bV_b, decide_eq_true_eq, decide_eq_false_iff_not]
  refine ⟨fun hlt => ?_, fun hge => ?_⟩
  · have hlt : i < ops.length := by omega
    rw [replayL_drop hlt] at he
    obtain ⟨p, i1, i2, _⟩ := rd_parts oi.rd hlt
    rw [i1, i2]
    refine boxG (c := (opC ops[i]).toArray) (by kernel_rfl) rfl (by simp [opC, one]) fun y w5 hy hh5 k5 => ?_
    have c5 := ci.keep k5
    have z5 := zi.keep k5
    have s5 := k5.size
    obtain ⟨v5, hld5, hv5⟩ := c5.ld
    rw [hld5, ldAll (k := 7) hh5 rfl]
    have hwf := ho.wf ops[i] (List.getElem_mem hlt)
    refine step_X hmi hv5 (fun q hq => by have := hY q hq; omega) ops[i] (wf_rng hwf) fun v6 w6 k6 hv6 => ?_
    have s6 := k6.size
    simp only [ex0, ex1]
    refine newVX hv6 fun p7 w7 hp7 k7 c7 => ?_
    have s7 := k7.size
    have c8 := ((c5.keep k6).more hp7).keep k7
    have z8 := ((z5.keep k6).more hp7).keep k7
    have k57 := (k5.trans' k6).trans' k7
    simp only [bq_neq, bV_b, decide_eq_true_eq, decide_eq_false_iff_not]
    refine ⟨fun e => ?_, fun e => ?_⟩
    · rw [if_neg e] at he
      rw [he] at hK
      obtain ⟨v8, hld8, hv8⟩ := c8.ld
      rw [hld8]
      refine retVX (K := fun v w => K (.tuple #[v, .int .i64 i, .int .i64 (stepL li ops[i]).2]) w) z8 hv8 fun w' kz hz => hK _ w' ((ki.trans' k57).trans kz fun q hq hlt => by simp at hq; omega) (hz.less fun q hq => by simp [hXY q hq])
    · have e0 : (stepL li ops[i]).2 = 0 := Decidable.not_not.1 e
      rw [if_pos e0] at he
      obtain ⟨v8, hld8, hv8⟩ := c7.ld
      rw [hld8]
      refine c8.st hv8 fun w9 k9 c9 => ?_
      simp only [bq_add, hiw]
      have hm9 := c9.m
      have s9 := k9.size
      refine hN (ops.length - (i + 1)) _ w9 (by omega) ⟨i + 1, _, p7 :: Y, by omega, rfl, rfl, he, stepL_may hmi hwf, (ki.trans' k57).trans k9 fun q hq hlt => by simp at hq; omega, by omega, fun q hq => by simp [hXY q hq], fun q hq => ?_, c9, z8.keepS k9 (fun q hq => by simp at hq; exact hq ▸ hm9) (by simpa using Ne.symm hp24)⟩
      rcases List.mem_cons.1 hq with rfl | hq
      · have := c7.lt; omega
      · have := hY q hq; omega
  · have hie : i = ops.length := by omega
    subst hie
    rw [List.drop_length] at he
    have he' : E = (li, ops.length, 0) := he
    rw [he'] at hK
    unfold ledger_Replay_s0
    obtain ⟨v8, hld8, hv8⟩ := ci.ld
    rw [hld8, oi.rd.lenL, List.length_map]
    exact retVX (K := fun v w => K (.tuple #[v, .int .i64 ops.length, .int .i64 0]) w) zi hv8 fun w' kz hz => hK _ w' (ki.trans kz fun q hq hlt => by simp at hq; omega) (hz.less hXY)
end
end Go.Proofs

/- Layer 7: the document's Replay; are ledgers the same? -/
set_option maxRecDepth 100000
set_option linter.unusedVariables false
set_option linter.unusedSimpArgs false
namespace Go.Proofs
open Go Go.Q
section
variable {X : List Nat} {w w' : World} {v : Value} {l l' : LV} {x y : Nat}
/-! ### are ledgers the same? -/
theorem sC_inj {a b : SV} : eqC (sC a) (sC b) = decide (a = b) := by
  obtain ⟨a1, a2, a3, a4⟩ := a
  obtain ⟨b1, b2, b3, b4⟩ := b
  rw [Bool.eq_iff_iff]
  simp [sC]
theorem hC_inj {a b : HV} : eqC (hC a) (hC b) = decide (a = b) := by
  obtain ⟨a1, a2, a3, a4, a5, a6⟩ := a
  obtain ⟨b1, b2, b3, b4, b5, b6⟩ := b
  rw [Bool.eq_iff_iff]
  simp [hC]
theorem Same7_spec {w : World} {v v' : Value} {l l' : LV} (h : LedAt w v l) (h' : LedAt w v' l') (hs : l.st.length < 2 ^ 40) (hh : l.ho.length < 2 ^ 40) (hm : l.mo.length < 2 ^ 40) {K : Value → World → Prop} (hK : ∀ w', Kp [] w w' → K (.bool (decide (l = l'))) w') : callG Try.prog 38 #[v, v'] w K := by
  refine ref07_Same_call ?_
  unfold ref07_Same ref07_Same_s10
  refine boxLed h fun x a b c w1 hx k1 hB _ => ?_
  refine boxLed (h'.keep k1) fun y a' b' c' w2 hy k2 hB' _ => ?_
  have hB2 := hB.keep k2
  have k02 := k1.trans' k2
  have hno : ∀ w', Kp [] w2 w' → ¬ (l = l') → K (.bool false) w' := fun w' k e => by have := hK w' (k02.trans' k); rw [decide_eq_false e] at this; exact this
  simp only [fa_p, Nat.add_zero, Nat.zero_add]
  rw [hB2.l0, hB2.a.lenL, hB'.l0, hB'.a.lenL, List.length_map, List.length_map]
  simp only [bq_neq, bV_b, decide_eq_true_eq, decide_eq_false_iff_not]
  refine ⟨fun e => hno w2 (Kp.refl _ _) (fun h => e (by rw [h])), fun e1 => ?_⟩
  rw [hB2.l1, hB2.b.lenL, hB'.l1, hB'.b.lenL, List.length_map, List.length_map]
  simp only [bq_neq, bV_b, decide_eq_true_eq, decide_eq_false_iff_not]
  refine ⟨fun e => hno w2 (Kp.refl _ _) (fun h => e (by rw [h])), fun e2 => ?_⟩
  rw [hB2.l2, hB2.c.lenL, hB'.l2, hB'.c.lenL, List.length_map, List.length_map]
  simp only [bq_neq, bV_b, decide_eq_true_eq, decide_eq_false_iff_not]
  refine ⟨fun e => hno w2 (Kp.refl _ _) (fun h => e (by rw [h])), fun e3 => ?_⟩
  rw [hB2.l3, hB'.l3]
  simp only [bq_neq, bV_b, decide_eq_true_eq, decide_eq_false_iff_not]
  refine ⟨fun e => hno w2 (Kp.refl _ _) (fun h => e (by rw [h])), fun e4 => ?_⟩
  have e1 : l.st.length = l'.st.length := by omega
  have e2 : l.ho.length = l'.ho.length := by omega
  have e3 : l.mo.length = l'.mo.length := by omega
  have e4 : l.ops = l'.ops := Decidable.not_not.1 e4
  unfold ref07_Same_s9 ref07_Same_L8
  refine loop_inv (fun m xs wi => ∃ i, i ≤ l.st.length ∧ m = l.st.length - i ∧ xs = [.pointer (some ⟨x, 0, none⟩), .pointer (some ⟨y, 0, none⟩), .int .i64 (i : Nat)] ∧ Kp [] w2 wi ∧ ∀ j (h1 : j < l.st.length) (h2 : j < l'.st.length), j < i → l.st[j] = l'.st[j]) ?_ (m := l.st.length) ⟨0, by omega, rfl, rfl, Kp.refl _ _, fun j _ _ h => by omega⟩
  rintro m N xs wi ⟨i, hi, rfl, rfl, ki, hall⟩ hN
  have hiw : IntKind.i64.wrap ((i : Int) + 1) = ((i + 1 : Nat) : Int) := by rw [w64 (by omega) (by omega)]; simp
  have bi := hB2.keep ki
  unfold ref07_Same_L8F ref07_Same_b7
  simp only [fa_p, Nat.add_zero, Nat.zero_add]
  rw [bi.l0, bi.a.lenL, List.length_map]
  simp only [bq_lss, bV_b, decide_eq_true_eq, decide_eq_false_iff_not]
  refine ⟨fun hlt => ?_, fun hge => ?_⟩
  · have hlt : i < l.st.length := by omega
    have kd : Kp [] w2 wi.drew := ki.trans' kp_drew
    have bd := hB2.keep kd
    have bd' := hB'.keep kd
    obtain ⟨p, p1, p2, _⟩ := rd_parts bd.a hlt
    obtain ⟨q, q1, q2, _⟩ := rd_parts bd'.a (show i < l'.st.length by omega)
    rw [bd.l0, p1, p2, bd'.l0, q1, q2]
    rw [bq_aggneq (by kernel_rfl), sC_inj]
    simp only [bV_b, bq_add, hiw]
    refine ⟨fun e => hno _ kd (fun h => ?_), fun e => ?_⟩
    · subst h; simp at e
    · have e : l.st[i] = l'.st[i]'(by omega) := by simpa using e
      refine hN (l.st.length - (i + 1)) _ _ (by omega) ⟨i + 1, by omega, rfl, rfl, kd, fun j h1 h2 hj => ?_⟩
      by_cases hji : j = i
      · subst hji; exact e
      · exact hall j h1 h2 (by omega)
  have est : l.st = l'.st := List.ext_getElem e1 fun j h1 h2 => hall j h1 h2 (by omega)
  unfold ref07_Same_s6 ref07_Same_L5
  refine loop_inv (fun m xs wj => ∃ i, i ≤ l.ho.length ∧ m = l.ho.length - i ∧ xs = [.pointer (some ⟨x, 0, none⟩), .pointer (some ⟨y, 0, none⟩), .int .i64 (i : Nat)] ∧ Kp [] w2 wj ∧ ∀ j (h1 : j < l.ho.length) (h2 : j < l'.ho.length), j < i → l.ho[j] = l'.ho[j]) ?_ (m := l.ho.length) ⟨0, by omega, rfl, rfl, ki, fun j _ _ h => by omega⟩
  clear hN hall hiw bi
  rintro m N xs wj ⟨i, hi, rfl, rfl, kj, hall⟩ hN
  have hiw : IntKind.i64.wrap ((i : Int) + 1) = ((i + 1 : Nat) : Int) := by rw [w64 (by omega) (by omega)]; simp
  have bi := hB2.keep kj
  unfold ref07_Same_L5F ref07_Same_b4
  simp only [fa_p, Nat.add_zero, Nat.zero_add]
  rw [bi.l1, bi.b.lenL, List.length_map]
  simp only [bq_lss, bV_b, decide_eq_true_eq, decide_eq_false_iff_not]
  refine ⟨fun hlt => ?_, fun hge => ?_⟩
  · have hlt : i < l.ho.length := by omega
    have kd : Kp [] w2 wj.drew := kj.trans' kp_drew
    have bd := hB2.keep kd
    have bd' := hB'.keep kd
    obtain ⟨p, p1, p2, _⟩ := rd_parts bd.b hlt
    obtain ⟨q, q1, q2, _⟩ := rd_parts bd'.b (show i < l'.ho.length by omega)
    rw [bd.l1, p1, p2, bd'.l1, q1, q2]
    rw [bq_aggneq (by kernel_rfl), hC_inj]
    simp only [bV_b, bq_add, hiw]
    refine ⟨fun e => hno _ kd (fun h => ?_), fun e => ?_⟩
    · subst h; simp at e
    · have e : l.ho[i] = l'.ho[i]'(by omega) := by simpa using e
      refine hN (l.ho.length - (i + 1)) _ _ (by omega) ⟨i + 1, by omega, rfl, rfl, kd, fun j h1 h2 hj => ?_⟩
      by_cases hji : j = i
      · subst hji; exact e
      · exact hall j h1 h2 (by omega)
  have eho : l.ho = l'.ho := List.ext_getElem e2 fun j h1 h2 => hall j h1 h2 (by omega)
  unfold ref07_Same_s3 ref07_Same_L2
  refine loop_inv (fun m xs wj => ∃ i, i ≤ l.mo.length ∧ m = l.mo.length - i ∧ xs = [.pointer (some ⟨x, 0, none⟩), .pointer (some ⟨y, 0, none⟩), .int .i64 (i : Nat)] ∧ Kp [] w2 wj ∧ ∀ j (h1 : j < l.mo.length) (h2 : j < l'.mo.length), j < i → l.mo[j] = l'.mo[j]) ?_ (m := l.mo.length) ⟨0, by omega, rfl, rfl, kj, fun j _ _ h => by omega⟩
  clear hN hall hiw bi
  rintro m N xs wk ⟨i, hi, rfl, rfl, kk, hall⟩ hN
  have hiw : IntKind.i64.wrap ((i : Int) + 1) = ((i + 1 : Nat) : Int) := by rw [w64 (by omega) (by omega)]; simp
  have bi := hB2.keep kk
  unfold ref07_Same_L2F ref07_Same_b1
  simp only [fa_p, Nat.add_zero, Nat.zero_add]
  rw [bi.l2, bi.c.lenL, List.length_map]
  simp only [bq_lss, bV_b, decide_eq_true_eq, decide_eq_false_iff_not]
  refine ⟨fun hlt => ?_, fun hge => ?_⟩
  · have hlt : i < l.mo.length := by omega
    have kd : Kp [] w2 wk.drew := kk.trans' kp_drew
    have bd := hB2.keep kd
    have bd' := hB'.keep kd
    obtain ⟨p, p1, p2, _⟩ := rd_parts bd.c hlt
    obtain ⟨q, q1, q2, _⟩ := rd_parts bd'.c (show i < l'.mo.length by omega)
    rw [bd.l2, p1, p2, bd'.l2, q1, q2]
    rw [bq_aggneq (by kernel_rfl), hC_inj]
    simp only [bV_b, bq_add, hiw]
    refine ⟨fun e => hno _ kd (fun h => ?_), fun e => ?_⟩
    · subst h; simp at e
    · have e : l.mo[i] = l'.mo[i]'(by omega) := by simpa using e
      refine hN (l.mo.length - (i + 1)) _ _ (by omega) ⟨i + 1, by omega, rfl, rfl, kd, fun j h1 h2 hj => ?_⟩
      by_cases hji : j = i
      · subst hji; exact e
      · exact hall j h1 h2 (by omega)
  have emo : l.mo = l'.mo := List.ext_getElem e3 fun j h1 h2 => hall j h1 h2 (by omega)
  unfold ref07_Same_s0
  have := hK wk (k02.trans' kk)
  have e : l = l' := by
    cases l; cases l'
    simp only [LV.mk.injEq]
    exact ⟨est, eho, emo, e4⟩
  rw [decide_eq_true e] at this
  exact this
end
end Go.Proofs

set_option linter.unusedVariables false
set_option linter.unusedSimpArgs false
namespace Go.Proofs
open Go Go.Q
set_option maxRecDepth 100000
/-! quayside/quaysidelaw07.receive -/
def law07_receive_s0 (R : Value → World → Prop) (x0 x1 x2 : Value) (w : World) : Prop :=
  newG (zc Try.prog 23) 23 w fun t6 w =>
  bld [(0, 1), (1, 1), (2, 1), (3, 1), (4, 1), (5, 1), (6, 1)] (zc Try.prog 23) #[(0, (.int .i64 1)), (1, x0), (2, x1), (4, x2)] fun t10 =>
  stn 7 t6 t10 w fun w =>
  qG Try.prog (do loadVar 23 (← asAddr t6)) w fun r6 =>
  R r6 w
theorem law07_receive_s0_eq (R : Value → World → Prop) : ∀ e w, lift Try.prog 11 (bodyOf Try.f45) (finK Try.prog Try.f45.results.toList R) e w = law07_receive_s0 R (e 0) (e 1) (e 2) w := fun e w => by kernel_rfl
def law07_receive (R : Value → World → Prop) (x0 x1 x2 : Value) (w : World) : Prop := law07_receive_s0 R x0 x1 x2 w
theorem law07_receive_call {R : Value → World → Prop} {x0 x1 x2 : Value} {w : World} (h : law07_receive R x0 x1 x2 w) : callG Try.prog 45 #[x0, x1, x2] w R :=
  calls_lift_eq Try.mixed Try.func45 (args := [x0, x1, x2]) rfl rfl rfl rfl ((law07_receive_s0_eq R) (envOf [x0, x1, x2]) w) (by kernel_rfl) h
/-! quayside/quaysidelaw07.awake -/
def law07_awake_s0 (R : Value → World → Prop) (w : World) : Prop :=
  bld [(0, 1), (1, 1), (2, 1), (3, 1)] (zc Try.prog 60) #[] fun t7 =>
  callG Try.prog 45 #[(.string ⟨#[115]⟩), (.string ⟨#[120]⟩), (.int .i64 5)] w fun t8 w =>
  bld [(0, 1), (1, 1), (2, 1), (3, 1), (4, 1), (5, 1), (6, 1)] (zc Try.prog 23) #[(0, (.int .i64 2)), (1, (.string ⟨#[115]⟩)), (2, (.string ⟨#[120]⟩)), (4, (.int .i64 3))] fun t9 =>
  bld [(0, 1), (1, 1), (2, 1), (3, 1), (4, 1), (5, 1), (6, 1)] (zc Try.prog 23) #[(0, (.int .i64 3)), (5, (.int .i64 1))] fun t10 =>
  bld [(0, 1), (1, 1), (2, 1), (3, 1), (4, 1), (5, 1), (6, 1)] (zc Try.prog 23) #[(0, (.int .i64 6)), (1, (.string ⟨#[115]⟩)), (2, (.string ⟨#[120]⟩)), (3, (.string ⟨#[121]⟩)), (4, (.int .i64 1))] fun t11 =>
  bsl 23 7 4 (zc Try.prog 23) #[(0, t8), (1, t9), (2, t10), (3, t11)] w fun t12 w =>
  callG Try.prog 36 #[t7, t12] w fun t13 w =>
  qG Try.prog (Instr.extract t13 0) w fun t14 =>
  qG Try.prog (Instr.extract t13 1) w fun t15 =>
  qG Try.prog (Instr.extract t13 2) w fun t16 =>
  newG (zc Try.prog 60) 60 w fun t1 w =>
  stn 4 t1 t14 w fun w =>
  ldn 4 t1 w fun t18 =>
  bld [(0, 1), (1, 1), (2, 1), (3, 1), (4, 1), (5, 1), (6, 1)] (zc Try.prog 23) #[(0, (.int .i64 4)), (5, (.int .i64 1))] fun t19 =>
  callG Try.prog 39 #[t18, t19] w fun t20 w =>
  qG Try.prog (Instr.extract t20 0) w fun t21 =>
  qG Try.prog (Instr.extract t20 1) w fun t22 =>
  newG (zc Try.prog 60) 60 w fun t4 w =>
  stn 4 t4 t21 w fun w =>
  qG Try.prog (bq .eql 3 (.tmp 23) (.const (.int .i64 4)) t15 (.int .i64 4)) w fun t24 =>
  bV t24
  (qG Try.prog (bq .eql 26 (.tmp 26) (.const (.int .i64 0)) t16 (.int .i64 0)) w fun t27 =>
  bV t27
  (qG Try.prog (bq .eql 26 (.tmp 30) (.const (.int .i64 71)) t22 (.int .i64 71)) w fun t31 =>
  bV t31
  (ldn 4 t1 w fun t34 =>
  callG Try.prog 43 #[t34, (.string ⟨#[115]⟩), (.string ⟨#[120]⟩)] w fun t35 w =>
  qG Try.prog (bq .eql 3 (.tmp 35) (.const (.int .i64 1)) t35 (.int .i64 1)) w fun t36 =>
  bV t36
  (ldn 4 t1 w fun t39 =>
  callG Try.prog 44 #[t39, (.string ⟨#[115]⟩), (.string ⟨#[121]⟩)] w fun t40 w =>
  fld false 2 1 t40 fun t41 =>
  qG Try.prog (bq .eql 3 (.tmp 41) (.const (.int .i64 1)) t41 (.int .i64 1)) w fun t42 =>
  bV t42
  (fa 2 t1 fun t45 =>
  ld1 t45 w fun t46 =>
  lenL t46 fun t47 =>
  qG Try.prog (bq .eql 3 (.tmp 47) (.const (.int .i64 4)) t47 (.int .i64 4)) w fun t48 =>
  bV t48
  (ldn 4 t1 w fun t51 =>
  callG Try.prog 66 #[t51] w fun t52 w =>
  qG Try.prog (bq .eql 26 (.tmp 52) (.const (.int .i64 0)) t52 (.int .i64 0)) w fun t53 =>
  R t53 w)
  (R (.bool false) w))
  (R (.bool false) w))
  (R (.bool false) w))
  (R (.bool false) w))
  (R (.bool false) w))
  (R (.bool false) w)
theorem law07_awake_s0_eq (R : Value → World → Prop) : ∀ e w, lift Try.prog 55 (bodyOf Try.f35) (finK Try.prog Try.f35.results.toList R) e w = law07_awake_s0 R w := fun e w => by kernel_rfl
def law07_awake (R : Value → World → Prop) (w : World) : Prop := law07_awake_s0 R  w
theorem law07_awake_call {R : Value → World → Prop} {w : World} (h : law07_awake R w) : callG Try.prog 35 #[] w R :=
  calls_lift_eq Try.mixed Try.func35 (args := []) rfl rfl rfl rfl ((law07_awake_s0_eq R) (envOf []) w) (by kernel_rfl) h
/-! quayside/quaysidelaw07.play -/
def law07_play_s0 (R : Value → World → Prop) (x4 x6 : Value) (w : World) : Prop :=
  ldn 4 x6 w fun t39 =>
  stn 4 x4 t39 w fun w =>
  qG Try.prog (do loadVar 60 (← asAddr x4)) w fun r4 =>
  R (.tuple #[r4, (.bool true)]) w
theorem law07_play_s0_eq (R : Value → World → Prop) : ∀ e w, lift Try.prog 40 (sub (bodyOf Try.f41) [1, 1, 1]) (finK Try.prog Try.f41.results.toList R) e w = law07_play_s0 R (e 4) (e 6) w := fun e w => by kernel_rfl
def law07_play_s1 (R : Value → World → Prop) (N1 : List Value → World → Prop) (x0 x1 x4 x6 x7 : Value) (w : World) : Prop :=
  ldn 4 x6 (World.drew w) fun t23 =>
  ia 7 x0 x7 fun t26 =>
  ldn 7 t26 (World.drew w) fun t27 =>
  (callG Try.prog 39 #[t23, t27] (World.drew w) fun t28 w =>
  qG Try.prog (Instr.extract t28 0) w fun t29 =>
  qG Try.prog (Instr.extract t28 1) w fun t30 =>
  newG (zc Try.prog 60) 60 w fun t8 w =>
  stb Try.prog (Instr.extract t28 1) t30 w ∧
  stb Try.prog (Instr.extract t28 0) t29 w ∧
  ldn 7 t26 w (fun u => u = t27) ∧
  ldn 4 x6 w (fun u => u = t23) ∧
  stn 4 t8 t29 w fun w =>
  stb Try.prog (Instr.extract t28 1) t30 w ∧
  qG Try.prog (bq .eql 26 (.tmp 31) (.const (.int .i64 0)) t30 (.int .i64 0)) w fun t32 =>
  bV t32
  (ldn 4 t8 w fun t33 =>
  stn 4 x6 t33 w fun w =>
  qG Try.prog (bq .add 3 (.tmp 20) (.const (.int .i64 1)) x7 (.int .i64 1)) w fun t21 =>
  N1 [x0, x1, x4, x6, t21] w)
  (ldn 4 t8 w fun t34 =>
  bld [(0, 1), (1, 1), (2, 1), (3, 1)] (zc Try.prog 60) #[] fun t35 =>
  callG Try.prog 38 #[t34, t35] w fun t36 w =>
  qG Try.prog (Op.unary .not t36) w fun t37 =>
  bV t37
  (ldn 4 x6 w fun t38 =>
  stn 4 x4 t38 w fun w =>
  qG Try.prog (do loadVar 60 (← asAddr x4)) w fun r4 =>
  R (.tuple #[r4, (.bool false)]) w)
  (qG Try.prog (bq .add 3 (.tmp 20) (.const (.int .i64 1)) x7 (.int .i64 1)) w fun t21_1 =>
  N1 [x0, x1, x4, x6, t21_1] w))) ∧
  (newG (zc Try.prog 60) 60 (World.drew w) fun t8_1 w =>
  ldn 7 t26 w (fun u => u = t27) ∧
  ldn 4 x6 w (fun u => u = t23) ∧
  callG Try.prog 39 #[t23, t27] w fun t28_1 w =>
  qG Try.prog (Instr.extract t28_1 0) w fun t29_1 =>
  qG Try.prog (Instr.extract t28_1 1) w fun t30_1 =>
  stn 4 t8_1 t29_1 w fun w =>
  stb Try.prog (Instr.extract t28_1 1) t30_1 w ∧
  qG Try.prog (bq .eql 26 (.tmp 31) (.const (.int .i64 0)) t30_1 (.int .i64 0)) w fun t32_1 =>
  bV t32_1
  (ldn 4 t8_1 w fun t33_1 =>
  stn 4 x6 t33_1 w fun w =>
  qG Try.prog (bq .add 3 (.tmp 20) (.const (.int .i64 1)) x7 (.int .i64 1)) w fun t21_2 =>
  N1 [x0, x1, x4, x6, t21_2] w)
  (ldn 4 t8_1 w fun t34_1 =>
  bld [(0, 1), (1, 1), (2, 1), (3, 1)] (zc Try.prog 60) #[] fun t35_1 =>
  callG Try.prog 38 #[t34_1, t35_1] w fun t36_1 w =>
  qG Try.prog (Op.unary .not t36_1) w fun t37_1 =>
  bV t37_1
  (ldn 4 x6 w fun t38_1 =>
  stn 4 x4 t38_1 w fun w =>
  qG Try.prog (do loadVar 60 (← asAddr x4)) w fun r4_1 =>
  R (.tuple #[r4_1, (.bool false)]) w)
  (qG Try.prog (bq .add 3 (.tmp 20) (.const (.int .i64 1)) x7 (.int .i64 1)) w fun t21_3 =>
  N1 [x0, x1, x4, x6, t21_3] w)))
theorem law07_play_s1_eq (R : Value → World → Prop) (N1 : List Value → World → Prop) : ∀ e w, lift Try.prog 40 (sub (bodyOf Try.f41) [1, 1, 0, 1, 0, 0, 1]) (seqK (fun e w => N1 [e 0, e 1, e 4, e 6, e 7] w) (blockK 0 (seqK (fun e w => law07_play_s0 R (e 4) (e 6) w) (finK Try.prog Try.f41.results.toList R)))) e w = law07_play_s1 R N1 (e 0) (e 1) (e 4) (e 6) (e 7) w := fun e w => by kernel_rfl
def law07_play_s2 (R : Value → World → Prop) (N1 : List Value → World → Prop) (x0 x1 x4 x6 x7 : Value) (w : World) : Prop :=
  lenL x0 fun t13 =>
  qG Try.prog (bq .lss 3 (.tmp 11) (.tmp 13) x7 t13) w fun t14 =>
  bV t14
  (qG Try.prog (bq .lss 3 (.tmp 16) (.tmp 17) x7 x1) w fun t18 =>
  bV t18
  (law07_play_s1 R N1 x0 x1 x4 x6 x7 w)
  (law07_play_s0 R x4 x6 w))
  (law07_play_s0 R x4 x6 w)
theorem law07_play_s2_eq (R : Value → World → Prop) (N1 : List Value → World → Prop) : ∀ e w, lift Try.prog 40 (sub (bodyOf Try.f41) [1, 1, 0, 1, 0, 0]) (seqK (fun e w => N1 [e 0, e 1, e 4, e 6, e 7] w) (blockK 0 (seqK (fun e w => law07_play_s0 R (e 4) (e 6) w) (finK Try.prog Try.f41.results.toList R)))) e w = law07_play_s2 R N1 (e 0) (e 1) (e 4) (e 6) (e 7) w :=
  segs_eq (l := [(sub (bodyOf Try.f41) [1, 1, 0, 1, 0, 0, 0])]) (y := (sub (bodyOf Try.f41) [1, 1, 0, 1, 0, 0, 1])) (Y := (fun e w => law07_play_s1 R N1 (e 0) (e 1) (e 4) (e 6) (e 7) w)) (law07_play_s1_eq R N1) (fun e w => by kernel_rfl)
def law07_play_L3F (R : Value → World → Prop) (N1 : List Value → World → Prop) (xs : List Value) (w : World) : Prop :=
  match xs with
  | [x0, x1, x4, x6, x7] => law07_play_s2 R N1 x0 x1 x4 x6 x7 w
  | _ => False
def law07_play_L3 (R : Value → World → Prop) (x0 x1 x4 x6 x7 : Value) (w : World) : Prop :=
  ∃ m, loopV (law07_play_L3F R) m [x0, x1, x4, x6, x7] w
theorem law07_play_L3_eq (R : Value → World → Prop) : ∀ e w, lift Try.prog 40 (sub (bodyOf Try.f41) [1, 1, 0, 1, 0]) (blockK 0 (seqK (fun e w => law07_play_s0 R (e 4) (e 6) w) (finK Try.prog Try.f41.results.toList R))) e w = law07_play_L3 R (e 0) (e 1) (e 4) (e 6) (e 7) w := loop_seg (F := law07_play_L3F R) (sel := fun e => [e 0, e 1, e 4, e 6, e 7]) fun N1 => (law07_play_s2_eq R N1)
def law07_play_s4 (R : Value → World → Prop) (x0 x1 x4 x6 : Value) (w : World) : Prop :=
  law07_play_L3 R x0 x1 x4 x6 (.int .i64 0) w
theorem law07_play_s4_eq (R : Value → World → Prop) : ∀ e w, lift Try.prog 40 (sub (bodyOf Try.f41) [1, 1, 0]) (seqK (fun e w => law07_play_s0 R (e 4) (e 6) w) (finK Try.prog Try.f41.results.toList R)) e w = law07_play_s4 R (e 0) (e 1) (e 4) (e 6) w :=
  segs_eq (l := [(sub (bodyOf Try.f41) [1, 1, 0, 0])]) (y := (sub (bodyOf Try.f41) [1, 1, 0, 1])) (Y := (fun e w => law07_play_L3 R (e 0) (e 1) (e 4) (e 6) (e 7) w)) (law07_play_L3_eq R) (fun e w => by kernel_rfl)
def law07_play_s5 (R : Value → World → Prop) (x0 x1 : Value) (w : World) : Prop :=
  newG (zc Try.prog 60) 60 w fun t4 w =>
  bld [(0, 1), (1, 1), (2, 1), (3, 1)] (zc Try.prog 60) #[] fun t10 =>
  newG (zc Try.prog 60) 60 w fun t6 w =>
  stn 4 t6 t10 w fun w =>
  law07_play_s4 R x0 x1 t4 t6 w
theorem law07_play_s5_eq (R : Value → World → Prop) : ∀ e w, lift Try.prog 40 (bodyOf Try.f41) (finK Try.prog Try.f41.results.toList R) e w = law07_play_s5 R (e 0) (e 1) w :=
  segs_eq (l := [(sub (bodyOf Try.f41) [0]), (sub (bodyOf Try.f41) [1, 0])]) (y := (sub (bodyOf Try.f41) [1, 1])) (Y := (fun e w => law07_play_s4 R (e 0) (e 1) (e 4) (e 6) w)) (seq_seg (x := (sub (bodyOf Try.f41) [1, 1, 0])) (y := (sub (bodyOf Try.f41) [1, 1, 1])) (law07_play_s0_eq R) (law07_play_s4_eq R)) (fun e w => by kernel_rfl)
def law07_play (R : Value → World → Prop) (x0 x1 : Value) (w : World) : Prop := law07_play_s5 R x0 x1 w
theorem law07_play_call {R : Value → World → Prop} {x0 x1 : Value} {w : World} (h : law07_play R x0 x1 w) : callG Try.prog 41 #[x0, x1] w R :=
  calls_lift_eq Try.mixed Try.func41 (args := [x0, x1]) rfl rfl rfl rfl ((law07_play_s5_eq R) (envOf [x0, x1]) w) (by kernel_rfl) h
/-! quayside/quaysidelaw07.total -/
/-! quayside/quaysidelaw07.LedgerReplays -/
/-! quayside/quaysidelaw07.LedgerKeeps -/
/-! quayside/quaysidelaw07.LedgerMoves -/
/-! quayside/quaysidelaw07.LedgerHolds -/
def law07_LedgerHolds_s0 (R : Value → World → Prop) (w : World) : Prop :=
  callG Try.prog 35 #[] w fun t163 w =>
  R t163 w
theorem law07_LedgerHolds_s0_eq (R : Value → World → Prop) : ∀ e w, lift Try.prog 164 (sub (bodyOf Try.f11) [1, 1, 1, 1]) (finK Try.prog Try.f11.results.toList R) e w = law07_LedgerHolds_s0 R w := fun e w => by kernel_rfl
def law07_LedgerHolds_s1 (R : Value → World → Prop) (N1 : List Value → World → Prop) (x1 x2 x7 x9 : Value) (w : World) : Prop :=
  qG Try.prog (bq .add 3 (.tmp 34) (.const (.int .i64 1)) x9 (.int .i64 1)) w fun t35 =>
  N1 [x1, x2, x7, t35] w
theorem law07_LedgerHolds_s1_eq (R : Value → World → Prop) (N1 : List Value → World → Prop) : ∀ e w, lift Try.prog 164 (sub (bodyOf Try.f11) [1, 1, 1, 0, 1, 0, 0, 1, 1]) (seqK (fun e w => N1 [e 1, e 2, e 7, e 9] w) (blockK 0 (seqK (fun e w => law07_LedgerHolds_s0 R  w) (finK Try.prog Try.f11.results.toList R)))) e w = law07_LedgerHolds_s1 R N1 (e 1) (e 2) (e 7) (e 9) w := fun e w => by kernel_rfl
def law07_LedgerHolds_s2 (R : Value → World → Prop) (N1 : List Value → World → Prop) (x1 x2 x7 x9 x10 x13 x15 x16 x17 : Value) (w : World) : Prop :=
  ldn 4 x13 w fun t120 =>
  bld [(0, 1), (1, 1), (2, 1), (3, 1), (4, 1), (5, 1), (6, 1)] (zc Try.prog 23) #[(0, x16), (5, x15)] fun t123 =>
  callG Try.prog 39 #[t120, t123] w fun t124 w =>
  qG Try.prog (Instr.extract t124 0) w fun t125 =>
  qG Try.prog (Instr.extract t124 1) w fun t126 =>
  newG (zc Try.prog 60) 60 w fun t18 w =>
  stn 4 t18 t125 w fun w =>
  ldn 4 t18 w fun t128 =>
  bld [(0, 1), (1, 1), (2, 1), (3, 1), (4, 1), (5, 1), (6, 1)] (zc Try.prog 23) #[(0, x16), (5, x15)] fun t131 =>
  callG Try.prog 39 #[t128, t131] w fun t132 w =>
  qG Try.prog (Instr.extract t132 0) w fun t133 =>
  qG Try.prog (Instr.extract t132 1) w fun t134 =>
  newG (zc Try.prog 60) 60 w fun t20 w =>
  stn 4 t20 t133 w fun w =>
  qG Try.prog (bq .neq 26 (.tmp 135) (.const (.int .i64 0)) t126 (.int .i64 0)) (World.drew w) fun t136 =>
  bV t136
  (R (.bool false) (World.drew w))
  (qG Try.prog (bq .neq 26 (.tmp 138) (.const (.int .i64 71)) t134 (.int .i64 71)) (World.drew w) fun t139 =>
  bV t139
  (R (.bool false) (World.drew w))
  (ldn 4 t18 (World.drew w) fun t142 =>
  fa 0 x10 fun t143 =>
  ld1 t143 (World.drew w) fun t144 =>
  fa 1 x10 fun t145 =>
  ld1 t145 (World.drew w) fun t146 =>
  callG Try.prog 43 #[t142, t144, t146] (World.drew w) fun t147 w =>
  qG Try.prog (bq .neq 3 (.tmp 147) (.tmp 148) t147 x17) w fun t149 =>
  bV t149
  (R (.bool false) w)
  (ldn 4 t18 w fun t152 =>
  fa 0 x10 fun t153 =>
  ld1 t153 w fun t154 =>
  fa 1 x10 fun t155 =>
  ld1 t155 w fun t156 =>
  fa 3 x10 fun t159 =>
  ld1 t159 w fun t160 =>
  callG Try.prog 44 #[t152, t154, t156] w fun t157 w =>
  ld1 t159 w (fun u => u = t160) ∧
  fld false 3 1 t157 fun t158 =>
  qG Try.prog (bq .neq 3 (.tmp 158) (.tmp 160) t158 t160) w fun t161 =>
  bV t161
  (R (.bool false) w)
  (law07_LedgerHolds_s1 R N1 x1 x2 x7 x9 w))))
theorem law07_LedgerHolds_s2_eq (R : Value → World → Prop) (N1 : List Value → World → Prop) : ∀ e w, lift Try.prog 164 (sub (bodyOf Try.f11) [1, 1, 1, 0, 1, 0, 0, 1, 0, 0, 1, 1, 1, 1, 1, 1, 1, 1, 1, 1]) (blockK 1 (seqK (fun e w => law07_LedgerHolds_s1 R N1 (e 1) (e 2) (e 7) (e 9) w) (seqK (fun e w => N1 [e 1, e 2, e 7, e 9] w) (blockK 0 (seqK (fun e w => law07_LedgerHolds_s0 R  w) (finK Try.prog Try.f11.results.toList R)))))) e w = law07_LedgerHolds_s2 R N1 (e 1) (e 2) (e 7) (e 9) (e 10) (e 13) (e 15) (e 16) (e 17) w := fun e w => by kernel_rfl
def law07_LedgerHolds_s3 (R : Value → World → Prop) (N1 : List Value → World → Prop) (x1 x2 x7 x9 x10 x11 x12 x13 x15 : Value) (w : World) : Prop :=
  bV x2
  (qG Try.prog (bq .sub 3 (.tmp 116) (.tmp 117) x11 x12) w fun t118 =>
  law07_LedgerHolds_s2 R N1 x1 x2 x7 x9 x10 x13 x15 (.int .i64 3) t118 w)
  (law07_LedgerHolds_s2 R N1 x1 x2 x7 x9 x10 x13 x15 (.int .i64 4) x11 w)
theorem law07_LedgerHolds_s3_eq (R : Value → World → Prop) (N1 : List Value → World → Prop) : ∀ e w, lift Try.prog 164 (sub (bodyOf Try.f11) [1, 1, 1, 0, 1, 0, 0, 1, 0, 0, 1, 1, 1, 1, 1, 1, 1, 1]) (blockK 1 (seqK (fun e w => law07_LedgerHolds_s1 R N1 (e 1) (e 2) (e 7) (e 9) w) (seqK (fun e w => N1 [e 1, e 2, e 7, e 9] w) (blockK 0 (seqK (fun e w => law07_LedgerHolds_s0 R  w) (finK Try.prog Try.f11.results.toList R)))))) e w = law07_LedgerHolds_s3 R N1 (e 1) (e 2) (e 7) (e 9) (e 10) (e 11) (e 12) (e 13) (e 15) w :=
  segs_eq (l := [(sub (bodyOf Try.f11) [1, 1, 1, 0, 1, 0, 0, 1, 0, 0, 1, 1, 1, 1, 1, 1, 1, 1, 0]), (sub (bodyOf Try.f11) [1, 1, 1, 0, 1, 0, 0, 1, 0, 0, 1, 1, 1, 1, 1, 1, 1, 1, 1, 0])]) (y := (sub (bodyOf Try.f11) [1, 1, 1, 0, 1, 0, 0, 1, 0, 0, 1, 1, 1, 1, 1, 1, 1, 1, 1, 1])) (Y := (fun e w => law07_LedgerHolds_s2 R N1 (e 1) (e 2) (e 7) (e 9) (e 10) (e 13) (e 15) (e 16) (e 17) w)) (law07_LedgerHolds_s2_eq R N1) (fun e w => by kernel_rfl)
def law07_LedgerHolds_s4 (R : Value → World → Prop) (N1 : List Value → World → Prop) (x1 x2 x7 x9 x10 x11 x12 x13 x14 : Value) (w : World) : Prop :=
  qG Try.prog (bq .neq 26 (.tmp 75) (.const (.int .i64 0)) x14 (.int .i64 0)) w fun t76 =>
  bV t76
  (law07_LedgerHolds_s1 R N1 x1 x2 x7 x9 w)
  (fa 1 x7 fun t77 =>
  ld1 t77 w fun t78 =>
  lenL t78 fun t79 =>
  qG Try.prog (bq .add 3 (.tmp 79) (.const (.int .i64 1)) t79 (.int .i64 1)) w fun t80 =>
  fa 1 x13 fun t81 =>
  ld1 t81 (World.drew w) fun t82 =>
  lenL t82 fun t83 =>
  qG Try.prog (bq .neq 3 (.tmp 83) (.tmp 84) t83 t80) (World.drew w) fun t85 =>
  bV t85
  (R (.bool false) (World.drew w))
  (fa 1 x13 fun t87 =>
  ld1 t87 (World.drew w) fun t88 =>
  qG Try.prog (bq .sub 3 (.tmp 89) (.const (.int .i64 1)) t80 (.int .i64 1)) (World.drew w) fun t90 =>
  ia 6 t88 t90 fun t91 =>
  ldn 6 t91 (World.drew w) fun t92 =>
  fa 0 x10 fun t94 =>
  ld1 t94 (World.drew w) fun t95 =>
  fa 1 x10 fun t96 =>
  ld1 t96 (World.drew w) fun t97 =>
  bld [(0, 1), (1, 1), (2, 1), (3, 1), (4, 1), (5, 1)] (zc Try.prog 34) #[(0, t80), (1, t95), (2, t97), (3, x12)] fun t99 =>
  qG Try.prog (bq .neq 34 (.tmp 92) (.tmp 99) t92 t99) (World.drew w) fun t100 =>
  bV t100
  (R (.bool false) (World.drew w))
  (ldn 4 x13 (World.drew w) fun t103 =>
  fa 0 x10 fun t104 =>
  ld1 t104 (World.drew w) fun t105 =>
  fa 1 x10 fun t106 =>
  ld1 t106 (World.drew w) fun t107 =>
  qG Try.prog (bq .sub 3 (.tmp 109) (.tmp 110) x11 x12) (World.drew w) fun t111 =>
  callG Try.prog 43 #[t103, t105, t107] (World.drew w) fun t108 w =>
  stb Try.prog (bq .sub 3 (.tmp 109) (.tmp 110) x11 x12) t111 w ∧
  qG Try.prog (bq .neq 3 (.tmp 108) (.tmp 111) t108 t111) w fun t112 =>
  bV t112
  (R (.bool false) w)
  (law07_LedgerHolds_s3 R N1 x1 x2 x7 x9 x10 x11 x12 x13 t80 w))))
theorem law07_LedgerHolds_s4_eq (R : Value → World → Prop) (N1 : List Value → World → Prop) : ∀ e w, lift Try.prog 164 (sub (bodyOf Try.f11) [1, 1, 1, 0, 1, 0, 0, 1, 0, 0, 1, 1, 1, 1, 1]) (blockK 1 (seqK (fun e w => law07_LedgerHolds_s1 R N1 (e 1) (e 2) (e 7) (e 9) w) (seqK (fun e w => N1 [e 1, e 2, e 7, e 9] w) (blockK 0 (seqK (fun e w => law07_LedgerHolds_s0 R  w) (finK Try.prog Try.f11.results.toList R)))))) e w = law07_LedgerHolds_s4 R N1 (e 1) (e 2) (e 7) (e 9) (e 10) (e 11) (e 12) (e 13) (e 14) w :=
  segs_eq (l := [(sub (bodyOf Try.f11) [1, 1, 1, 0, 1, 0, 0, 1, 0, 0, 1, 1, 1, 1, 1, 0]), (sub (bodyOf Try.f11) [1, 1, 1, 0, 1, 0, 0, 1, 0, 0, 1, 1, 1, 1, 1, 1, 0]), (sub (bodyOf Try.f11) [1, 1, 1, 0, 1, 0, 0, 1, 0, 0, 1, 1, 1, 1, 1, 1, 1, 0])]) (y := (sub (bodyOf Try.f11) [1, 1, 1, 0, 1, 0, 0, 1, 0, 0, 1, 1, 1, 1, 1, 1, 1, 1])) (Y := (fun e w => law07_LedgerHolds_s3 R N1 (e 1) (e 2) (e 7) (e 9) (e 10) (e 11) (e 12) (e 13) (e 15) w)) (law07_LedgerHolds_s3_eq R N1) (fun e w => by kernel_rfl)
def law07_LedgerHolds_s5 (R : Value → World → Prop) (N1 : List Value → World → Prop) (x1 x2 x7 x9 : Value) (w : World) : Prop :=
  fa 0 x7 fun t36 =>
  ld1 t36 w fun t37 =>
  ia 4 t37 x9 fun t39 =>
  ldn 4 t39 w fun t40 =>
  newG (zc Try.prog 44) 44 w fun t10 w =>
  stn 4 t10 t40 w fun w =>
  ldn 4 x7 w fun t41 =>
  fa 0 t10 fun t42 =>
  ld1 t42 w fun t43 =>
  fa 1 t10 fun t44 =>
  ld1 t44 w fun t45 =>
  callG Try.prog 43 #[t41, t43, t45] w fun t46 w =>
  qG Try.prog (bq .and 3 (.tmp 47) (.const (.int .i64 7)) x1 (.int .i64 7)) w fun t48 =>
  qG Try.prog (bq .add 3 (.const (.int .i64 1)) (.tmp 48) (.int .i64 1) t48) w fun t49 =>
  ldn 4 x7 w fun t51 =>
  fa 0 t10 fun t52 =>
  ld1 t52 w fun t53 =>
  fa 1 t10 fun t54 =>
  ld1 t54 w fun t55 =>
  bld [(0, 1), (1, 1), (2, 1), (3, 1), (4, 1), (5, 1), (6, 1)] (zc Try.prog 23) #[(0, (.int .i64 2)), (1, t53), (2, t55), (4, t49)] fun t57 =>
  callG Try.prog 39 #[t51, t57] w fun t58 w =>
  qG Try.prog (Instr.extract t58 0) w fun t59 =>
  qG Try.prog (Instr.extract t58 1) w fun t60 =>
  newG (zc Try.prog 60) 60 w fun t13 w =>
  stn 4 t13 t59 w fun w =>
  qG Try.prog (bq .eql 26 (.tmp 61) (.const (.int .i64 0)) t60 (.int .i64 0)) w fun t62 =>
  qG Try.prog (bq .leq 3 (.tmp 63) (.tmp 64) t49 t46) w fun t65 =>
  qG Try.prog (bq .neq 4 (.tmp 62) (.tmp 65) t62 t65) w fun t66 =>
  bV t66
  (R (.bool false) w)
  (qG Try.prog (bq .neq 26 (.tmp 68) (.const (.int .i64 0)) t60 (.int .i64 0)) w fun t69 =>
  bV t69
  (qG Try.prog (bq .neq 26 (.tmp 71) (.const (.int .i64 70)) t60 (.int .i64 70)) w fun t72 =>
  bV t72
  (R (.bool false) w)
  (law07_LedgerHolds_s4 R N1 x1 x2 x7 x9 t10 t46 t49 t13 t60 w))
  (law07_LedgerHolds_s4 R N1 x1 x2 x7 x9 t10 t46 t49 t13 t60 w))
theorem law07_LedgerHolds_s5_eq (R : Value → World → Prop) (N1 : List Value → World → Prop) : ∀ e w, lift Try.prog 164 (sub (bodyOf Try.f11) [1, 1, 1, 0, 1, 0, 0, 1, 0, 0]) (blockK 1 (seqK (fun e w => law07_LedgerHolds_s1 R N1 (e 1) (e 2) (e 7) (e 9) w) (seqK (fun e w => N1 [e 1, e 2, e 7, e 9] w) (blockK 0 (seqK (fun e w => law07_LedgerHolds_s0 R  w) (finK Try.prog Try.f11.results.toList R)))))) e w = law07_LedgerHolds_s5 R N1 (e 1) (e 2) (e 7) (e 9) w :=
  segs_eq (l := [(sub (bodyOf Try.f11) [1, 1, 1, 0, 1, 0, 0, 1, 0, 0, 0]), (sub (bodyOf Try.f11) [1, 1, 1, 0, 1, 0, 0, 1, 0, 0, 1, 0]), (sub (bodyOf Try.f11) [1, 1, 1, 0, 1, 0, 0, 1, 0, 0, 1, 1, 0]), (sub (bodyOf Try.f11) [1, 1, 1, 0, 1, 0, 0, 1, 0, 0, 1, 1, 1, 0]), (sub (bodyOf Try.f11) [1, 1, 1, 0, 1, 0, 0, 1, 0, 0, 1, 1, 1, 1, 0])]) (y := (sub (bodyOf Try.f11) [1, 1, 1, 0, 1, 0, 0, 1, 0, 0, 1, 1, 1, 1, 1])) (Y := (fun e w => law07_LedgerHolds_s4 R N1 (e 1) (e 2) (e 7) (e 9) (e 10) (e 11) (e 12) (e 13) (e 14) w)) (law07_LedgerHolds_s4_eq R N1) (fun e w => by kernel_rfl)
def law07_LedgerHolds_s6 (R : Value → World → Prop) (N1 : List Value → World → Prop) (x1 x2 x7 x9 : Value) (w : World) : Prop :=
  fa 0 x7 fun t30 =>
  ld1 t30 w fun t31 =>
  lenL t31 fun t32 =>
  qG Try.prog (bq .lss 3 (.tmp 29) (.tmp 32) x9 t32) w fun t33 =>
  bV t33
  (law07_LedgerHolds_s5 R N1 x1 x2 x7 x9 w)
  (law07_LedgerHolds_s0 R  w)
theorem law07_LedgerHolds_s6_eq (R : Value → World → Prop) (N1 : List Value → World → Prop) : ∀ e w, lift Try.prog 164 (sub (bodyOf Try.f11) [1, 1, 1, 0, 1, 0, 0]) (seqK (fun e w => N1 [e 1, e 2, e 7, e 9] w) (blockK 0 (seqK (fun e w => law07_LedgerHolds_s0 R  w) (finK Try.prog Try.f11.results.toList R)))) e w = law07_LedgerHolds_s6 R N1 (e 1) (e 2) (e 7) (e 9) w :=
  segs_eq (l := [(sub (bodyOf Try.f11) [1, 1, 1, 0, 1, 0, 0, 0])]) (y := (sub (bodyOf Try.f11) [1, 1, 1, 0, 1, 0, 0, 1])) (Y := (fun e w => law07_LedgerHolds_s5 R N1 (e 1) (e 2) (e 7) (e 9) w)) (seq_seg (x := (sub (bodyOf Try.f11) [1, 1, 1, 0, 1, 0, 0, 1, 0])) (y := (sub (bodyOf Try.f11) [1, 1, 1, 0, 1, 0, 0, 1, 1])) (law07_LedgerHolds_s1_eq R N1) (law07_LedgerHolds_s5_eq R N1)) (fun e w => by kernel_rfl)
def law07_LedgerHolds_L7F (R : Value → World → Prop) (N1 : List Value → World → Prop) (xs : List Value) (w : World) : Prop :=
  match xs with
  | [x1, x2, x7, x9] => law07_LedgerHolds_s6 R N1 x1 x2 x7 x9 w
  | _ => False
def law07_LedgerHolds_L7 (R : Value → World → Prop) (x1 x2 x7 x9 : Value) (w : World) : Prop :=
  ∃ m, loopV (law07_LedgerHolds_L7F R) m [x1, x2, x7, x9] w
theorem law07_LedgerHolds_L7_eq (R : Value → World → Prop) : ∀ e w, lift Try.prog 164 (sub (bodyOf Try.f11) [1, 1, 1, 0, 1, 0]) (blockK 0 (seqK (fun e w => law07_LedgerHolds_s0 R  w) (finK Try.prog Try.f11.results.toList R))) e w = law07_LedgerHolds_L7 R (e 1) (e 2) (e 7) (e 9) w := loop_seg (F := law07_LedgerHolds_L7F R) (sel := fun e => [e 1, e 2, e 7, e 9]) fun N1 => (law07_LedgerHolds_s6_eq R N1)
def law07_LedgerHolds_s8 (R : Value → World → Prop) (x1 x2 x7 : Value) (w : World) : Prop :=
  law07_LedgerHolds_L7 R x1 x2 x7 (.int .i64 0) w
theorem law07_LedgerHolds_s8_eq (R : Value → World → Prop) : ∀ e w, lift Try.prog 164 (sub (bodyOf Try.f11) [1, 1, 1, 0]) (seqK (fun e w => law07_LedgerHolds_s0 R  w) (finK Try.prog Try.f11.results.toList R)) e w = law07_LedgerHolds_s8 R (e 1) (e 2) (e 7) w :=
  segs_eq (l := [(sub (bodyOf Try.f11) [1, 1, 1, 0, 0])]) (y := (sub (bodyOf Try.f11) [1, 1, 1, 0, 1])) (Y := (fun e w => law07_LedgerHolds_L7 R (e 1) (e 2) (e 7) (e 9) w)) (law07_LedgerHolds_L7_eq R) (fun e w => by kernel_rfl)
def law07_LedgerHolds_s9 (R : Value → World → Prop) (x0 x1 x2 : Value) (w : World) : Prop :=
  callG Try.prog 41 #[x0, (.int .i64 20)] w fun t24 w =>
  qG Try.prog (Instr.extract t24 0) w fun t25 =>
  qG Try.prog (Instr.extract t24 1) w fun t26 =>
  newG (zc Try.prog 60) 60 w fun t7 w =>
  stn 4 t7 t25 w fun w =>
  qG Try.prog (Op.unary .not t26) w fun t28 =>
  bV t28
  (R (.bool false) w)
  (law07_LedgerHolds_s8 R x1 x2 t7 w)
theorem law07_LedgerHolds_s9_eq (R : Value → World → Prop) : ∀ e w, lift Try.prog 164 (bodyOf Try.f11) (finK Try.prog Try.f11.results.toList R) e w = law07_LedgerHolds_s9 R (e 0) (e 1) (e 2) w :=
  segs_eq (l := [(sub (bodyOf Try.f11) [0]), (sub (bodyOf Try.f11) [1, 0]), (sub (bodyOf Try.f11) [1, 1, 0])]) (y := (sub (bodyOf Try.f11) [1, 1, 1])) (Y := (fun e w => law07_LedgerHolds_s8 R (e 1) (e 2) (e 7) w)) (seq_seg (x := (sub (bodyOf Try.f11) [1, 1, 1, 0])) (y := (sub (bodyOf Try.f11) [1, 1, 1, 1])) (law07_LedgerHolds_s0_eq R) (law07_LedgerHolds_s8_eq R)) (fun e w => by kernel_rfl)
def law07_LedgerHolds (R : Value → World → Prop) (x0 x1 x2 : Value) (w : World) : Prop := law07_LedgerHolds_s9 R x0 x1 x2 w
theorem law07_LedgerHolds_call {R : Value → World → Prop} {x0 x1 x2 : Value} {w : World} (h : law07_LedgerHolds R x0 x1 x2 w) : callG Try.prog 11 #[x0, x1, x2] w R :=
  calls_lift_eq Try.mixed Try.func11 (args := [x0, x1, x2]) rfl rfl rfl rfl ((law07_LedgerHolds_s9_eq R) (envOf [x0, x1, x2]) w) (by kernel_rfl) h
/-! quayside/quaysidelaw07.LedgerEdges -/
end Go.Proofs

/- Layer 7: the law's awake; LedgerReplays. -/
set_option maxRecDepth 100000
set_option linter.unusedVariables false
set_option linter.unusedSimpArgs false
namespace Go.Proofs
open Go Go.Q
theorem aggOp : aggO Try.prog 23 = some true := by kernel_rfl
theorem szOp : szO Try.prog 23 = some 7 := by kernel_rfl
theorem receive_spec {w : World} (sku loc : List UInt8) (n : Int) {K : Value → World → Prop} (hK : ∀ w', Kp [] w w' → K (opA ⟨1, sku, loc, [], n, 0, 0⟩) w') : callG Try.prog 45 #[.string (str sku), .string (str loc), .int .i64 n] w K := by
  refine law07_receive_call ?_
  unfold law07_receive law07_receive_s0
  simp [-getElem?_pos, -Array.all_eq_true, -Array.getElem?_eq_getElem, -List.length_flatten, List.getElem?_cons_zero, List.getElem?_cons_succ, op_zc, str_nil, bld_done, bld_if, offAt, putAt, -ldn_p, -stn_p, -newG_k]
  refine boxG (c := (opC ⟨1, sku, loc, [], n, 0, 0⟩).toArray) (K := fun p w => qG Try.prog (do loadVar 23 (← asAddr p)) w fun r6 => K r6 w) rfl rfl (by simp [opC, one]) fun p w1 hp hh k1 => ?_
  rw [loadVar_of aggOp szOp hh rfl]
  exact hK w1 k1
def awOps : List OpV := [⟨1, [115], [120], [], 5, 0, 0⟩, ⟨2, [115], [120], [], 3, 0, 0⟩, ⟨3, [], [], [], 0, 1, 0⟩, ⟨6, [115], [120], [121], 1, 0, 0⟩]
def awL : LV := (replayL lZ awOps 0).1
theorem awE : replayL lZ awOps 0 = (awL, 4, 0) := by decide
theorem replay_may : ∀ (ops : List OpV) (l : LV) (k : Nat), May l → (∀ o ∈ ops, o.Wf) → May (replayL l ops k).1 := by
  intro ops
  induction ops with
  | nil => intro l k h _; exact h
  | cons o r ih =>
    intro l k h hw
    unfold replayL
    split
    · exact ih _ _ (stepL_may h (hw o (by simp))) fun x hx => hw x (by simp [hx])
    · exact h
theorem awWf : ∀ o ∈ awOps, o.Wf := by
  intro o ho
  simp only [awOps, List.mem_cons, List.not_mem_nil, or_false] at ho
  rcases ho with rfl | rfl | rfl | rfl <;> exact ⟨by decide, by decide, by decide, by decide, by decide, by decide, by decide, by decide⟩
theorem awMay : May awL := replay_may awOps lZ 0 may_z awWf
theorem awake7 {w : World} {K : Value → World → Prop} (hK : ∀ w', Kp [] w w' → K (.bool true) w') : callG Try.prog 35 #[] w K := by
  refine law07_awake_call ?_
  unfold law07_awake law07_awake_s0
  rw [zLed_bld]
  refine receive_spec [115] [120] 5 fun w1 k1 => ?_
  have hb : ∀ (ps : List (Nat × Value)) (o : OpV), True := fun _ _ => trivial
  simp [-getElem?_pos, -Array.all_eq_true, -Array.getElem?_eq_getElem, -List.length_flatten, List.getElem?_cons_zero, List.getElem?_cons_succ, op_zc, str_nil, bld_done, bld_if, offAt, putAt, -ldn_p, -stn_p, -newG_k, -ld1_p, -st1_p]
  rw [← op_zc]
  refine bsl_rows (n := 7) (len := 4) (xs := awOps.map opA) (rows := awOps.map opC) (by omega) rfl rfl (by simp [awOps, opC]) (by omega) fun v2 w2 f2 => ?_
  have ho : OpsAt w2 v2 awOps := ⟨f2.rd, awWf⟩
  refine Replay_X (X := []) may_z (lz_x _) (by simp) ho (by decide) fun v3 w3 k3 hv3 => ?_
  rw [awE] at hv3
  rw [awE]
  simp only [ex30, ex31, ex32]
  have k03 := (k1.trans' f2.kp).trans' k3
  refine newVX hv3 fun p1 w4 hp1 k4 c1 => ?_
  obtain ⟨v4, hld4, hv4⟩ := c1.ld
  rw [hld4]
  have hX : ∀ q ∈ [p1], q < w4.heap.size := fun q hq => by
    simp at hq; rw [hq]; exact c1.lt
  refine Apply_X (X := [p1]) awMay hv4 hX ⟨4, [], [], [], 0, 1, 0⟩ (by unfold rngI; decide) fun v5 w5 k5 hv5 => ?_
  have e5 : applyL awL ⟨4, [], [], [], 0, 1, 0⟩ = (lZ, 71) := by decide
  rw [e5] at hv5
  rw [e5]
  simp only [ex0, ex1]
  refine newVX hv5 fun p4 w6 hp4 k6 c4 => ?_
  have d1 := ((c1.keep k5).more hp4).keep k6
  have k46 := k5.trans' k6
  simp only [bq_eql, bV_b, decide_eq_true_eq, decide_eq_false_iff_not]
  refine ⟨fun _ => ?_, fun h => absurd (by decide) h⟩
  refine ⟨fun _ => ?_, fun h => absurd (by decide) h⟩
  refine ⟨fun _ => ?_, fun h => absurd (by decide) h⟩
  obtain ⟨v6, hld6, hv6⟩ := d1.ld
  rw [hld6]
  refine Free_spec7 awMay hv6.at [115] [120] fun w7 k7 => ?_
  have e7 : freeL awL [115] [120] = 1 := by decide
  rw [e7]
  simp only [bq_eql, bV_b, decide_eq_true_eq, decide_eq_false_iff_not]
  refine ⟨fun _ => ?_, fun h => absurd (by decide) h⟩
  have d7 := d1.keep k7
  obtain ⟨v7, hld7, hv7⟩ := d7.ld
  rw [hld7]
  refine Find_spec7 hv7.at (by decide) [115] [121] fun w8 k8 => ?_
  have e8 : findS awL.st [115] [121] = ⟨[115], [121], 1, 0⟩ := by decide
  rw [e8]
  unfold sA
  simp [-getElem?_pos, -Array.all_eq_true, -Array.getElem?_eq_getElem, -List.length_flatten, List.getElem?_cons_zero, List.getElem?_cons_succ, -ldn_p, -stn_p, -newG_k, -ld1_p, -st1_p]
  have d8 := d7.keep k8
  obtain ⟨a, b, c, hB⟩ := d8.box
  rw [hB.l2, hB.c.lenL, List.length_map]
  have e9 : awL.mo.length = 4 := by decide
  rw [e9]
  simp only [bq_eql, bV_b, decide_eq_true_eq, decide_eq_false_iff_not]
  refine ⟨fun _ => ?_, fun h => absurd (by decide) h⟩
  rw [hB.ld]
  refine Check_spec7 awMay hB.at fun w9 k9 => ?_
  simp only [bq_eql]
  have := hK w9 (((((k03.trans' k4).trans' k46).trans' k7).trans' k8).trans' k9)
  exact this
end Go.Proofs

/- Layer 7: play, total. -/
set_option maxRecDepth 100000
set_option linter.unusedVariables false
set_option linter.unusedSimpArgs false
namespace Go.Proofs
open Go Go.Q
def playL (l : LV) (ops : List OpV) : LV := ops.foldl (fun l o => (stepL l o).1) l
theorem playL_take {ops : List OpV} {i : Nat} (h : i < ops.length) (l : LV) : playL l (ops.take (i + 1)) = (stepL (playL l (ops.take i)) ops[i]).1 := by
  unfold playL
  rw [List.take_succ_eq_append_getElem h, List.foldl_append]
  rfl
theorem stepL_bad {l : LV} {o : OpV} (h : (stepL l o).2 ≠ 0) : (stepL l o).1 = l := by
  unfold stepL at h ⊢
  split
  · rfl
  · rename_i h1
    rw [if_neg h1] at h
    split
    · rfl
    · rename_i h2
      rw [if_neg h2] at h
      split
      · rfl
      · rename_i h3
        rw [if_neg h3] at h
        simp at h
theorem play_may : ∀ (ops : List OpV) (l : LV), May l → (∀ o ∈ ops, o.Wf) → May (playL l ops) := by
  intro ops
  induction ops with
  | nil => intro l h _; exact h
  | cons o r ih =>
    intro l h hw
    exact ih _ (stepL_may h (hw o (by simp))) fun x hx => hw x (by simp [hx])
/-- variables that are there -/
def YB (Y : List Nat) (w : World) : Prop := ∀ q ∈ Y, q < w.heap.size
theorem YB.keep {Y S : List Nat} {w w' : World} (h : YB Y w) (hk : Kp S w w') : YB Y w' := fun q hq => by have := h q hq; have := hk.size; omega
theorem YB.cons {Y : List Nat} {p : Nat} {w : World} {l : LV} {X : List Nat} (h : YB Y w) (hp : VX X w p l) : YB (p :: Y) w := fun q hq => by
  rcases List.mem_cons.1 hq with rfl | hq
  · exact hp.lt
  · exact h q hq
section
variable {X : List Nat} {w w' : World} {v : Value} {l l' : LV} {x y : Nat}
/-- one variable is written: another one stays -/
theorem VX.keep1 {S : Nat} (h : VX X w x l) (hk : Kp [S] w w') (hS : S ∈ X) (hx : x ≠ S) : VX X w' x l := h.keepS hk (fun q hq => by simp at hq; exact hq ▸ hS) (by simpa using hx)
theorem Kp.one {w0 w w' : World} {S : Nat} (h : Kp [] w0 w) (hk : Kp [S] w w') (hS : w0.heap.size ≤ S) : Kp [] w0 w' := h.trans hk fun q hq hlt => by simp at hq; omega
/-- reading it again -/
theorem VX.same (h : VX X w x l) (hv : ∀ K : Value → Prop, ldn 4 (.pointer (some ⟨x, 0, none⟩)) w K = K v) (hk : Kp [] w w') {K : Value → Prop} : ldn 4 (.pointer (some ⟨x, 0, none⟩)) w' K = K v := by
  obtain ⟨u, a, b, c, g1, g2, g3⟩ := h.ex
  have e1 := hv fun v => v = u
  rw [ldAll (k := 4) g1 rfl, ← g2] at e1
  have : v = u := by simpa using e1.symm
  rw [this, ldAll (k := 4) (hk.get g1 (by simp)) rfl, ← g2]
theorem OpsAt.row {vo : Value} {ops : List OpV} (h : OpsAt w vo ops) {i : Nat} (hi : i < ops.length) : ∃ p, (∀ K : Value → Prop, ia 7 vo (.int .i64 i) K = K p) ∧ ∀ w', Kp [] w w' → ∀ K : Value → Prop, ldn 7 p w' K = K (opA ops[i]) := by
  obtain ⟨p, i1, i2, _⟩ := rd_parts h.rd hi
  refine ⟨p, i1, fun w' k' K => ?_⟩
  obtain ⟨p', j1, j2, _⟩ := rd_parts (h.keep k').rd hi
  have e1 := i1 fun v => v = p'
  rw [j1] at e1
  have : p = p' := by simpa using e1.symm
  rw [this]; exact j2 K
theorem play_X {vo : Value} {ops : List OpV} (ho : OpsAt w vo ops) {n : Nat} (hn : n < 2 ^ 20) {K : Value → World → Prop}
    (hK : ∀ v' w', Kp [] w w' → LX [] w' v' (playL lZ (ops.take n)) → K (.tuple #[v', .bool true]) w') : callG Try.prog 41 #[vo, .int .i64 n] w K := by
  refine law07_play_call ?_
  unfold law07_play law07_play_s5
  refine zeroVX (X := []) fun p4 w1 hp4 k1 c4 => ?_
  rw [zLed_bld]
  refine newVX (X := [p4]) (lz_x _) fun p6 w2 hp6 k2 c6 => ?_
  have d4 := (c4.more hp6).keep k2
  have k02 := k1.trans' k2
  have h46 : p4 ≠ p6 := by have := c4.lt; omega
  have s1 := k1.size
  have s2 := k2.size
  unfold law07_play_s4 law07_play_L3
  refine loop_inv (fun m xs wi => ∃ (i : Nat) (Y : List Nat), i ≤ ops.length ∧ i ≤ n ∧ m = ops.length - i ∧ xs = [vo, .int .i64 n, .pointer (some ⟨p4, 0, none⟩), .pointer (some ⟨p6, 0, none⟩), .int .i64 (i : Nat)] ∧ Kp [] w wi ∧ w2.heap.size ≤ wi.heap.size ∧ YB Y wi ∧ VX Y wi p6 (playL lZ (ops.take i)) ∧ VX Y wi p4 lZ) ?_ (m := ops.length)
    ⟨0, [p6, p4], by omega, by omega, rfl, rfl, k02, Nat.le_refl _, fun q hq => by simp at hq; rcases hq with rfl | rfl; exact c6.lt; exact d4.lt, c6, d4⟩
  rintro m N xs wi ⟨i, Y, hi, hin, rfl, rfl, ki, hsi, hY, ci, zi⟩ hN
  have hiw : IntKind.i64.wrap ((i : Int) + 1) = ((i + 1 : Nat) : Int) := by rw [w64 (by omega) (by omega)]; simp
  have oi := ho.keep ki
  have hfin : playL lZ (ops.take i) = playL lZ (ops.take n) → law07_play_s0 K (.pointer (some ⟨p4, 0, none⟩)) (.pointer (some ⟨p6, 0, none⟩)) wi := fun e => by
    unfold law07_play_s0
    obtain ⟨v8, hld8, hv8⟩ := ci.ld
    rw [hld8]
    rw [e] at hv8
    exact retVX (K := fun v w => K (.tuple #[v, .bool true]) w) zi hv8 fun w' kz hz => hK _ w' (Kp.one ki kz (by omega)) (hz.less (by simp))
  unfold law07_play_L3F law07_play_s2
  dsimp only
  rw [oi.rd.lenL, List.length_map]
  simp only [bq_lss, bV_b, decide_eq_true_eq, decide_eq_false_iff_not]
  refine ⟨fun hlt => ⟨fun hlt2 => ?_, fun hge2 => hfin (by rw [show i = n by omega])⟩, fun hge => hfin (by rw [List.take_of_length_le (by omega), List.take_of_length_le (by omega)])⟩
  have hlt : i < ops.length := by omega
  have kd : Kp [] wi wi.drew := kp_drew
  have od := oi.keep kd
  have hwf := ho.wf ops[i] (List.getElem_mem hlt)
  have cd := ci.keep kd
  have zd := zi.keep kd
  have hsd : wi.drew.heap.size = wi.heap.size := rfl
  obtain ⟨li, hli⟩ : ∃ li, li = playL lZ (ops.take i) := ⟨_, rfl⟩
  have hmi : May li := by rw [hli]; exact play_may _ _ may_z fun o h => ho.wf o (List.mem_of_mem_take h)
  have hnext : playL lZ (ops.take (i + 1)) = (stepL li ops[i]).1 := by rw [hli]; exact playL_take hlt lZ
  rw [← hli] at ci cd
  have tail : ∀ (w7 : World) (p7 : Nat) (N1 : World → Prop), Kp [] wi w7 → wi.heap.size ≤ p7 → VX (p7 :: Y) w7 p6 li → VX (p7 :: Y) w7 p4 lZ → VX (p7 :: Y) w7 p7 (applyL li ops[i]).1 →
      qG Try.prog (bq .eql 26 (.tmp 31) (.const (.int .i64 0)) (.int .i64 (applyL li ops[i]).2) (.int .i64 0)) w7 fun t32 =>
      bV t32
      (ldn 4 (.pointer (some ⟨p7, 0, none⟩)) w7 fun t33 =>
      stn 4 (.pointer (some ⟨p6, 0, none⟩)) t33 w7 fun w =>
      qG Try.prog (bq .add 3 (.tmp 20) (.const (.int .i64 1)) (.int .i64 i) (.int .i64 1)) w fun t21 =>
      N [vo, .int .i64 n, .pointer (some ⟨p4, 0, none⟩), .pointer (some ⟨p6, 0, none⟩), t21] w)
      (ldn 4 (.pointer (some ⟨p7, 0, none⟩)) w7 fun t34 =>
      bld [(0, 1), (1, 1), (2, 1), (3, 1)] (zc Try.prog 60) #[] fun t35 =>
      callG Try.prog 38 #[t34, t35] w7 fun t36 w =>
      qG Try.prog (Op.unary .not t36) w fun t37 =>
      bV t37
      (ldn 4 (.pointer (some ⟨p6, 0, none⟩)) w fun t38 =>
      stn 4 (.pointer (some ⟨p4, 0, none⟩)) t38 w fun w =>
      qG Try.prog (do loadVar 60 (← asAddr (.pointer (some ⟨p4, 0, none⟩)))) w fun r4 =>
      K (.tuple #[r4, (.bool false)]) w)
      (qG Try.prog (bq .add 3 (.tmp 20) (.const (.int .i64 1)) (.int .i64 i) (.int .i64 1)) w fun t21_1 =>
      N [vo, .int .i64 n, .pointer (some ⟨p4, 0, none⟩), .pointer (some ⟨p6, 0, none⟩), t21_1] w)) := by
    intro w7 p7 _ k7 hp7 c8 z8 c7
    have s7 := k7.size
    have hY7 : YB (p7 :: Y) w7 := (hY.keep k7).cons c7
    simp only [bq_eql, bV_b, decide_eq_true_eq, decide_eq_false_iff_not]
    refine ⟨fun e => ?_, fun e => ?_⟩
    · have e0 : (stepL li ops[i]).2 = 0 := by
        unfold applyL at e
        split at e
        · assumption
        · exact e
      have ea : (applyL li ops[i]).1 = (stepL li ops[i]).1 := by unfold applyL; rw [if_pos e0]
      rw [ea] at c7
      obtain ⟨v8, hld8, hv8⟩ := c7.ld
      rw [hld8]
      refine c8.st hv8 fun w9 k9 c9 => ?_
      simp only [bq_add, hiw]
      have hm9 := c9.m
      have s9 := k9.size
      exact hN (ops.length - (i + 1)) _ w9 (by omega) ⟨i + 1, p7 :: Y, by omega, by omega, rfl, rfl, Kp.one (ki.trans' k7) k9 (by omega), by omega, hY7.keep k9, by rw [hnext]; exact c9, z8.keep1 k9 hm9 h46⟩
    · have e0 : (stepL li ops[i]).2 ≠ 0 := fun h => e (by unfold applyL; rw [if_pos h])
      have ea : (applyL li ops[i]).1 = lZ := by unfold applyL; rw [if_neg e0]
      rw [ea] at c7
      obtain ⟨v8, hld8, hv8⟩ := c7.ld
      rw [hld8, zLed_bld]
      refine Same7_spec hv8.at (lz_x (X := []) w7).at (by decide) (by decide) (by decide) fun w9 k9 => ?_
      have s9 := k9.size
      simp only [un_not, bV_b, decide_true, Bool.not_true, Bool.false_eq_true, false_implies, true_and, true_implies, bq_add, hiw]
      refine hN (ops.length - (i + 1)) _ w9 (by omega) ⟨i + 1, p7 :: Y, by omega, by omega, rfl, rfl, (ki.trans' k7).trans' k9, by omega, hY7.keep k9, ?_, z8.keep k9⟩
      rw [hnext, stepL_bad e0]
      exact c8.keep k9
  unfold law07_play_s1
  obtain ⟨v5, hld5, hv5⟩ := cd.ld
  obtain ⟨p, i1, rp⟩ := od.row hlt
  have rl : ∀ w', Kp [] wi.drew w' → ∀ K : Value → Prop, ldn 4 (.pointer (some ⟨p6, 0, none⟩)) w' K = K v5 := fun w' k' K => cd.same hld5 k'
  rw [hld5, i1, rp _ (Kp.refl _ _)]
  refine ⟨?_, ?_⟩
  · refine Apply_X hmi hv5 (fun q hq => by have := hY q hq; omega) ops[i] (wf_rng hwf) fun v6 w6 k6 hv6 => ?_
    simp only [ex0, ex1]
    have s6 := k6.size
    refine zeroVX (X := Y) fun p7 w7 hp7 k7 c7 => ?_
    have k67 := k6.trans' k7
    rw [rp _ k67, rl _ k67]
    simp only [stb_ex0, stb_ex1, true_and]
    refine c7.st ((hv6.more hp7).keep k7) fun w9 k9 c9 => ?_
    have n2 : p6 ≠ p7 := by have := (cd.keep k6).lt; omega
    have n4 : p4 ≠ p7 := by have := (zd.keep k6).lt; omega
    exact tail w9 p7 (fun _ => True) (Kp.one (kd.trans' k67) k9 (by omega)) (by omega) ((((cd.keep k6).more hp7).keep k7).keep1 k9 c9.m n2) ((((zd.keep k6).more hp7).keep k7).keep1 k9 c9.m n4) c9
  · refine zeroVX (X := Y) fun p7 w6 hp7 k6 c7 => ?_
    have s6 := k6.size
    rw [rp _ k6, rl _ k6]
    simp only [true_and]
    refine Apply_X hmi ((hv5.more hp7).keep k6) (((hY.keep kd).keep k6).cons c7) ops[i] (wf_rng hwf) fun v7 w7 k7 hv7 => ?_
    simp only [ex0, ex1]
    refine (c7.keep k7).st hv7 fun w9 k9 c9 => ?_
    have n2 : p6 ≠ p7 := by have := cd.lt; omega
    have n4 : p4 ≠ p7 := by have := zd.lt; omega
    simp only [stb_ex0, stb_ex1, true_and]
    exact tail w9 p7 (fun _ => True) (Kp.one (kd.trans' (k6.trans' k7)) k9 (by omega)) (by omega) ((((cd).more hp7).keep k6).keep k7 |>.keep1 k9 c9.m n2) ((((zd).more hp7).keep k6).keep k7 |>.keep1 k9 c9.m n4) c9
end
end Go.Proofs

/- Plain, layer 7: as many as a number lets be there. -/
set_option linter.unusedVariables false
set_option linter.unusedSimpArgs false
namespace Go.Q
open Go
theorem numO_in {x : Int} (h0 : -9223372036854775808 ≤ x) (h1 : x ≤ 9223372036854775807) : numO x = (x, 0) := by unfold numO; rw [if_pos (fits_iff.2 ⟨h0, h1⟩)]
end Go.Q

/- Layer 7: LedgerEdges. -/
set_option maxRecDepth 100000
set_option linter.unusedVariables false
set_option linter.unusedSimpArgs false
namespace Go.Proofs
open Go Go.Q
section
variable {X : List Nat} {w w' : World} {v : Value} {l l' : LV} {x y : Nat}
end
theorem bldOp4 {k n : Int} {a b : List UInt8} {K : Value → Prop} : bld [(0, 1), (1, 1), (2, 1), (3, 1), (4, 1), (5, 1), (6, 1)] (zc Try.prog 23) #[(0, .int .i64 k), (1, .string (str a)), (2, .string (str b)), (4, .int .i64 n)] K = K (opA ⟨k, a, b, [], n, 0, 0⟩) := by
  simp [-getElem?_pos, -Array.all_eq_true, -Array.getElem?_eq_getElem, -List.length_flatten, List.getElem?_cons_zero, List.getElem?_cons_succ, op_zc, str_nil, bld_done, bld_if, offAt, putAt]
  rfl
theorem bldOp2 {k n : Int} {K : Value → Prop} : bld [(0, 1), (1, 1), (2, 1), (3, 1), (4, 1), (5, 1), (6, 1)] (zc Try.prog 23) #[(0, .int .i64 k), (5, .int .i64 n)] K = K (opA ⟨k, [], [], [], 0, n, 0⟩) := by
  simp [-getElem?_pos, -Array.all_eq_true, -Array.getElem?_eq_getElem, -List.length_flatten, List.getElem?_cons_zero, List.getElem?_cons_succ, op_zc, str_nil, bld_done, bld_if, offAt, putAt]
  rfl
theorem wfOp {k n id : Int} {a b c : List UInt8} (hk : -9223372036854775808 ≤ k ∧ k < 9223372036854775808) (hn : rngI n) (hi : rngI id) : OpV.Wf ⟨k, a, b, c, n, id, 0⟩ := ⟨hk.1, hk.2, hn.1, hn.2, hi.1, hi.2, by simp, by simp⟩
theorem applyL_ok {l : LV} {o : OpV} {l' : LV} (h : stepL l o = (l', 0)) : applyL l o = (l', 0) := by unfold applyL; rw [h]; rfl
theorem applyL_bad {l : LV} {o : OpV} {l' : LV} {e : Int} (he : e ≠ 0) (h : stepL l o = (l', e)) : applyL l o = (lZ, e) := by unfold applyL; rw [h]; simp [he]
theorem lit_rng {a : Int} (h : (Lit.int .i64 a).wf = true) : rngI a := by
  unfold rngI
  simp [Lit.wf, IntKind.min, IntKind.max, IntKind.bits, IntKind.signed] at h
  omega
end Go.Proofs

/- Plain, layer 7: what is moved is neither more nor fewer. -/
set_option linter.unusedVariables false
set_option linter.unusedSimpArgs false
namespace Go.Q
open Go
theorem putS_hands : ∀ {st : List SV}, Sorted st → ∀ {s : SV}, (∃ x ∈ st, x.sku = s.sku ∧ x.loc = s.loc) → s.hand = (findS st s.sku s.loc).hand → (putS st s).map (·.hand) = st.map (·.hand) := by
  intro st
  induction st with
  | nil => intro _ s h; obtain ⟨x, hx, _⟩ := h; cases hx
  | cons y r ih =>
    intro hs s hk he
    have hr := List.pairwise_cons.1 hs
    unfold putS
    by_cases hy : y.sku = s.sku ∧ y.loc = s.loc
    · have ha : ahead y s = false := by rw [ahead_key (a' := s) (b' := s) hy.1 hy.2 rfl rfl, ahead_irrefl]
      have hf : findS (y :: r) s.sku s.loc = y := by
        have := findS_of_mem hs (s := y) (by simp)
        rw [← hy.1, ← hy.2]; exact this
      rw [hf] at he
      simp [ha, hy, he]
    · obtain ⟨x, hx, h1, h2⟩ := hk
      have hxr : x ∈ r := by
        rcases List.mem_cons.1 hx with rfl | hx
        · exact absurd ⟨h1, h2⟩ hy
        · exact hx
      have ha : ahead y s = true := by
        have := hr.1 x hxr
        rwa [ahead_key (b' := s) rfl rfl h1 h2] at this
      have hf : findS (y :: r) s.sku s.loc = findS r s.sku s.loc := by
        unfold findS
        rw [List.find?_cons_of_neg (by simp [atP, hy])]
      rw [hf] at he
      simp only [ha, if_true, List.map_cons]
      rw [ih hr.2 ⟨x, hxr, h1, h2⟩ he]
theorem held_hands {l : LV} (hs : Sorted l.st) {sku loc : List UInt8} (hk : ∃ x ∈ l.st, x.sku = sku ∧ x.loc = loc) (n : Int) : (heldL l sku loc n).st.map (·.hand) = l.st.map (·.hand) := by
  obtain ⟨k1, k2⟩ := findS_key l.st sku loc
  refine putS_hands hs ?_ ?_
  · obtain ⟨x, hx, h1, h2⟩ := hk
    exact ⟨x, hx, h1.trans k1.symm, h2.trans k2.symm⟩
  · show _ = (findS l.st (findS l.st sku loc).sku (findS l.st sku loc).loc).hand
    rw [k1, k2]
theorem act_known {l : LV} (h : Good l) {k : Nat} (hk : k < l.ho.length) (h0 : l.ho[k].st = 0) : ∃ x ∈ l.st, x.sku = l.ho[k].sku ∧ x.loc = l.ho[k].loc := by
  have hh := h.holds k hk
  simp only [holdOk, Bool.and_eq_true, Bool.or_eq_true, decide_eq_true_eq] at hh
  exact known_find.1 (hh.2.resolve_left fun e => e h0)
theorem expire_hands (due : Int) : ∀ (m : Nat) (l : LV) (i : Nat), Good l → i + m ≤ l.ho.length → (expireL l due i m).st.map (·.hand) = l.st.map (·.hand) := by
  intro m
  induction m with
  | zero => intro l i h _; rfl
  | succ m ih =>
    intro l i h hi
    unfold expireL
    have hil : i < l.ho.length := by omega
    have hg : l.ho.getD i hZ = l.ho[i] := by simp [List.getD, hil]
    simp only [hg]
    split
    · rename_i hd
      simp only [dueL, decide_eq_true_eq] at hd
      obtain ⟨f1, f2, f3, f4, f5, f6, f7, f8⟩ := act_facts h hil hd.1
      rw [f7]
      obtain ⟨g, e1, e2, e3⟩ := good_over h hil hd.1 (n := 2) (by omega)
      rw [ih _ (i + 1) g (by rw [e1]; simp; omega)]
      exact held_hands h.f.sorted (act_known h hil hd.1) _
    · exact ih l (i + 1) h (by omega)
/-! ### sums of a sku -/
end Go.Q

/- Plain, layer 7: holds and movements stay. -/
set_option linter.unusedVariables false
set_option linter.unusedSimpArgs false
namespace Go.Q
open Go
structure HoKeep (a b : List HV) : Prop where
  len : a.length ≤ b.length
  at_ : ∀ k (h : k < a.length) (h' : k < b.length), b[k] = { a[k] with st := b[k].st } ∧ (a[k].st ≠ 0 → b[k].st = a[k].st)
theorem HoKeep.refl (a : List HV) : HoKeep a a := ⟨Nat.le_refl _, fun k h _ => ⟨rfl, fun _ => rfl⟩⟩
theorem HoKeep.trans {a b c : List HV} (h : HoKeep a b) (h' : HoKeep b c) : HoKeep a c := by
  refine ⟨Nat.le_trans h.len h'.len, fun k h1 h2 => ?_⟩
  have hb : k < b.length := Nat.lt_of_lt_of_le h1 h.len
  obtain ⟨e1, e2⟩ := h.at_ k h1 hb
  obtain ⟨e3, e4⟩ := h'.at_ k hb h2
  refine ⟨by rw [e3, e1], fun h0 => ?_⟩
  have hb0 := e2 h0
  rw [e4 (by rw [hb0]; exact h0), hb0]
theorem HoKeep.set {a : List HV} {k : Nat} (hk : k < a.length) (h0 : a[k].st = 0) (n : Int) : HoKeep a (a.set k { a[k] with st := n }) := by
  refine ⟨by simp, fun j h1 h2 => ?_⟩
  by_cases he : k = j
  · subst he
    simp [h0]
  · simp [List.getElem_set_ne he]
end Go.Q

/- Plain, layer 7: a hold that is made is there, and over. -/
set_option linter.unusedVariables false
set_option linter.unusedSimpArgs false
namespace Go.Q
open Go
theorem putS_len1 (l : List SV) (s : SV) : (putS l s).length ≤ l.length + 1 := by
  induction l with
  | nil => simp [putS]
  | cons x r ih =>
    unfold putS
    split
    · simp; omega
    · split <;> simp
/-- so few parts has a ledger behind so many operations -/
structure Small (l : LV) (k : Nat) : Prop where
  ho : l.ho.length ≤ k
  mo : l.mo.length ≤ 2 * k
  st : l.st.length ≤ 2 * k
  ops : l.ops ≤ k
theorem does_small {l : LV} (hm : May l) (o : OpV) : (doesL l o).1.ho.length ≤ l.ho.length + 1 ∧ (doesL l o).1.mo.length ≤ l.mo.length + 2 ∧ (doesL l o).1.st.length ≤ l.st.length + 2 := by
  have hg : Good l := hm.m
  have r : l.ho.length ≤ l.ho.length + 1 ∧ l.mo.length ≤ l.mo.length + 2 ∧ l.st.length ≤ l.st.length + 2 := by omega
  unfold doesL
  split
  · split
    · exact r
    · split
      · exact r
      · refine ⟨by show l.ho.length ≤ _; omega, by show (l.mo ++ [_]).length ≤ _; simp, ?_⟩
        have := putS_len1 l.st { findS l.st o.sku o.loc with hand := w64i ((findS l.st o.sku o.loc).hand + o.q) }
        show (putS l.st _).length ≤ _; omega
  · split
    · split
      · exact r
      · refine ⟨by show (l.ho ++ [_]).length ≤ _; simp, by show l.mo.length ≤ _; omega, ?_⟩
        have := putS_len1 l.st { findS l.st o.sku o.loc with held := w64i ((findS l.st o.sku o.loc).held + o.q) }
        show (putS l.st _).length ≤ _; omega
    · split
      · obtain ⟨k1, k2, k3, k4⟩ := expireL_good o.due l.ho.length l 0 hg (by omega)
        have hh := expire_hands o.due l.ho.length l 0 hg (by omega)
        have hl := congrArg List.length hh
        simp only [List.length_map] at hl
        refine ⟨?_, ?_, ?_⟩
        · show (expireL l o.due 0 l.ho.length).ho.length ≤ _; omega
        · show (expireL l o.due 0 l.ho.length).mo.length ≤ _; rw [k3]; omega
        · show (expireL l o.due 0 l.ho.length).st.length ≤ _; omega
      · split
        · split
          · exact r
          · split
            · exact r
            · refine ⟨by show l.ho.length ≤ _; omega, by show ((l.mo ++ [_]) ++ [_]).length ≤ _; simp, ?_⟩
              have h1 := putS_len1 l.st { findS l.st o.sku o.loc with hand := w64i ((findS l.st o.sku o.loc).hand + w64i (-o.q)) }
              have h2 := putS_len1 (movedL l o.sku o.loc (w64i (-o.q)) o.k 0).st { findS (movedL l o.sku o.loc (w64i (-o.q)) o.k 0).st o.sku o.to with hand := w64i ((findS (movedL l o.sku o.loc (w64i (-o.q)) o.k 0).st o.sku o.to).hand + o.q) }
              have e1 : (movedL l o.sku o.loc (w64i (-o.q)) o.k 0).st = putS l.st { findS l.st o.sku o.loc with hand := w64i ((findS l.st o.sku o.loc).hand + w64i (-o.q)) } := rfl
              rw [e1] at h2
              show (putS (putS l.st _) _).length ≤ _
              rw [e1]
              omega
        · unfold overL
          split
          · exact r
          · simp only
            have h1 := putS_len1 l.st { findS l.st (holdAt l o.id).sku (holdAt l o.id).loc with held := w64i ((findS l.st (holdAt l o.id).sku (holdAt l o.id).loc).held + w64i (-(holdAt l o.id).q)) }
            split
            · refine ⟨by simp [stateL, heldL], by show l.mo.length ≤ _; omega, ?_⟩
              show (putS l.st _).length ≤ _; omega
            · refine ⟨by simp [movedL, stateL, heldL], by show (l.mo ++ [_]).length ≤ _; simp, ?_⟩
              have h2 := putS_len1 (stateL (heldL l (holdAt l o.id).sku (holdAt l o.id).loc (w64i (-(holdAt l o.id).q))) (o.id - 1).toNat 1).st { findS (stateL (heldL l (holdAt l o.id).sku (holdAt l o.id).loc (w64i (-(holdAt l o.id).q))) (o.id - 1).toNat 1).st (holdAt l o.id).sku (holdAt l o.id).loc with hand := w64i ((findS (stateL (heldL l (holdAt l o.id).sku (holdAt l o.id).loc (w64i (-(holdAt l o.id).q))) (o.id - 1).toNat 1).st (holdAt l o.id).sku (holdAt l o.id).loc).hand + w64i (-(holdAt l o.id).q)) }
              have e1 : (stateL (heldL l (holdAt l o.id).sku (holdAt l o.id).loc (w64i (-(holdAt l o.id).q))) (o.id - 1).toNat 1).st = putS l.st { findS l.st (holdAt l o.id).sku (holdAt l o.id).loc with held := w64i ((findS l.st (holdAt l o.id).sku (holdAt l o.id).loc).held + w64i (-(holdAt l o.id).q)) } := rfl
              rw [e1] at h2
              exact Nat.le_trans h2 (by omega)
theorem step_small {l : LV} (hm : May l) (o : OpV) {k : Nat} (h : Small l k) : Small (stepL l o).1 (k + 1) := by
  have h1 := h.ho
  have h2 := h.mo
  have h3 := h.st
  have h4 := h.ops
  have r : Small l (k + 1) := ⟨by omega, by omega, by omega, by omega⟩
  unfold stepL
  split
  · exact r
  · split
    · exact r
    · split
      · exact r
      · obtain ⟨d1, d2, d3⟩ := does_small hm o
        exact ⟨by show (doesL l o).1.ho.length ≤ _; omega, by show (doesL l o).1.mo.length ≤ _; omega, by show (doesL l o).1.st.length ≤ _; omega, by show l.ops + 1 ≤ _; omega⟩
def opHold (s : SV) (n : Int) : OpV := ⟨2, s.sku, s.loc, [], n, 0, 0⟩
theorem stock_facts {l : LV} (hm : May l) {s : SV} (hs : s ∈ l.st) : nameOk s.sku = true ∧ nameOk s.loc = true ∧ 0 ≤ s.held ∧ s.held ≤ s.hand ∧ s.hand ≤ 9223372036854775807 ∧ findS l.st s.sku s.loc = s ∧ freeL l s.sku s.loc = s.hand - s.held := by
  obtain ⟨h1, h2, h3, h4, h5, _, _⟩ := hm.f.ok s hs
  have hf := findS_of_mem hm.sorted hs
  have := fits_iff.1 h3
  refine ⟨h1, h2, h4, h5, by omega, hf, ?_⟩
  unfold freeL numO
  rw [hf, if_pos (fits_iff.2 (by omega))]
theorem hold_ok {l : LV} (hm : May l) {s : SV} (hs : s ∈ l.st) {n : Int} (h1 : 1 ≤ n) (h2 : n ≤ 8) : (opHold s n).ok = true := by
  obtain ⟨n1, n2, _⟩ := stock_facts hm hs
  simp [OpV.ok, opHold, n1, n2, h1]
theorem hold_err {l : LV} (hm : May l) {s : SV} (hs : s ∈ l.st) {n : Int} (h1 : 1 ≤ n) (h2 : n ≤ 8) (hf : s.hand - s.held < n) : stepL l (opHold s n) = (l, 70) := by
  obtain ⟨n1, n2, f1, f2, f3, f4, f5⟩ := stock_facts hm hs
  have hd : doesL l (opHold s n) = (l, 70) := by
    unfold doesL opHold
    simp only
    rw [if_neg (by decide)]
    simp only [if_true]
    rw [f5, if_pos hf]
  unfold stepL
  rw [if_neg (by rw [hold_ok hm hs h1 h2]; simp), hd, if_pos (by simp)]
theorem hold_done {l : LV} (hm : May l) (hsm : Small l 100) {s : SV} (hs : s ∈ l.st) {n : Int} (h1 : 1 ≤ n) (h2 : n ≤ 8) (hf : ¬ s.hand - s.held < n) :
    ∃ a, stepL l (opHold s n) = (a, 0) ∧ a.ho = l.ho ++ [⟨(l.ho.length + 1 : Nat), s.sku, s.loc, n, 0, 0⟩] ∧ findS a.st s.sku s.loc = ⟨s.sku, s.loc, s.hand, s.held + n⟩ ∧ Small a 101 := by
  obtain ⟨n1, n2, f1, f2, f3, f4, f5⟩ := stock_facts hm hs
  have hw : w64i (s.held + n) = s.held + n := w64i_eq (fits_iff.2 (by omega))
  have hd : doesL l (opHold s n) = ({ heldL l s.sku s.loc n with ho := l.ho ++ [⟨(l.ho.length + 1 : Nat), s.sku, s.loc, n, 0, 0⟩] }, 0) := by
    unfold doesL opHold
    simp only
    rw [if_neg (by decide)]
    simp only [if_true]
    rw [f5, if_neg hf]
    rfl
  have hsmall := step_small hm (opHold s n) hsm
  have d := does_small hm (opHold s n)
  rw [hd] at d
  have g1 := hsm.ho
  have g2 := hsm.mo
  have g3 := hsm.st
  have g4 := hsm.ops
  have hst : stepL l (opHold s n) = ({ heldL l s.sku s.loc n with ho := l.ho ++ [⟨(l.ho.length + 1 : Nat), s.sku, s.loc, n, 0, 0⟩], ops := l.ops + 1 }, 0) := by
    unfold stepL
    rw [if_neg (by rw [hold_ok hm hs h1 h2]; simp), hd, if_neg (by simp), if_neg]
    · simp only [fullL, decide_eq_true_eq]
      simp only at d
      omega
  rw [hst] at hsmall
  refine ⟨_, hst, rfl, ?_, hsmall⟩
  show findS (putS l.st { findS l.st s.sku s.loc with held := w64i ((findS l.st s.sku s.loc).held + n) }) s.sku s.loc = _
  rw [findS_put hm.sorted, f4, if_pos ⟨rfl, rfl⟩, hw]
theorem over_done {a : LV} (hm : May a) (hsm : Small a 101) {sku loc : List UInt8} {hand held n : Int} {L : List HV} (ha : a.ho = L ++ [⟨(L.length + 1 : Nat), sku, loc, n, 0, 0⟩]) (hf : findS a.st sku loc = ⟨sku, loc, hand, held + n⟩) (h1 : 1 ≤ n) (h2 : n ≤ 8) (h3 : 0 ≤ held) (h4 : held + n ≤ hand) (h5 : hand ≤ 9223372036854775807) {k : Int} (hk : k = 3 ∨ k = 4) :
    ∃ b, stepL a ⟨k, [], [], [], 0, (L.length + 1 : Nat), 0⟩ = (b, 0) ∧ findS b.st sku loc = ⟨sku, loc, if k = 4 then hand else hand - n, held⟩ ∧ stepL b ⟨k, [], [], [], 0, (L.length + 1 : Nat), 0⟩ = (b, 71) := by
  have hok : OpV.ok ⟨k, [], [], [], 0, (L.length + 1 : Nat), 0⟩ = true := by
    rcases hk with rfl | rfl <;> simp [OpV.ok] <;> omega
  have hg : Good a := hm.m
  have hlen : a.ho.length = L.length + 1 := by rw [ha]; simp
  have eid : (((L.length + 1 : Nat) : Int) - 1).toNat = L.length := by omega
  have hat : holdAt a (L.length + 1 : Nat) = ⟨(L.length + 1 : Nat), sku, loc, n, 0, 0⟩ := by
    unfold holdAt
    rw [eid, ha]
    simp [List.getD]
  have ew : w64i (-n) = -n := w64i_eq (fits_iff.2 (by omega))
  have ew2 : w64i (held + n + -n) = held := by rw [show held + n + -n = held by omega]; exact w64i_eq (fits_iff.2 (by omega))
  have ew3 : w64i (hand + -n) = hand - n := by rw [show hand + -n = hand - n by omega]; exact w64i_eq (fits_iff.2 (by omega))
  have hs := hm.sorted
  have hgd : a.ho.getD L.length hZ = ⟨(L.length + 1 : Nat), sku, loc, n, 0, 0⟩ := by rw [ha]; simp [List.getD]
  have hov : overL a ⟨k, [], [], [], 0, (L.length + 1 : Nat), 0⟩ = if k = 4 then (stateL (heldL a sku loc (-n)) L.length 2, 0) else (movedL (stateL (heldL a sku loc (-n)) L.length 1) sku loc (-n) k (L.length + 1 : Nat), 0) := by
    unfold overL
    simp only [hat, eid, ew]
    rw [if_neg]
    rw [not_or]
    exact ⟨by rw [hlen]; omega, by simp⟩
  have hd : doesL a ⟨k, [], [], [], 0, (L.length + 1 : Nat), 0⟩ = overL a ⟨k, [], [], [], 0, (L.length + 1 : Nat), 0⟩ := by
    unfold doesL
    simp only
    rw [if_neg (by omega), if_neg (by omega), if_neg (by omega), if_neg (by omega)]
  have d := does_small hm ⟨k, [], [], [], 0, (L.length + 1 : Nat), 0⟩
  have g1 := hsm.ho
  have g2 := hsm.mo
  have g3 := hsm.st
  have g4 := hsm.ops
  obtain ⟨l', hl'⟩ : ∃ l', l' = (doesL a ⟨k, [], [], [], 0, (L.length + 1 : Nat), 0⟩).1 := ⟨_, rfl⟩
  have he : (doesL a ⟨k, [], [], [], 0, (L.length + 1 : Nat), 0⟩).2 = 0 := by rw [hd, hov]; split <;> rfl
  rw [← hl'] at d
  have hst : stepL a ⟨k, [], [], [], 0, (L.length + 1 : Nat), 0⟩ = ({ l' with ops := a.ops + 1 }, 0) := by
    unfold stepL
    rw [if_neg (by rw [hok]; simp), if_neg (by rw [he]; simp), if_neg, hl']
    rw [← hl']
    simp only [fullL, decide_eq_true_eq]
    omega
  have hb : l' = if k = 4 then stateL (heldL a sku loc (-n)) L.length 2 else movedL (stateL (heldL a sku loc (-n)) L.length 1) sku loc (-n) k (L.length + 1 : Nat) := by
    rw [hl', hd, hov]; split <;> rfl
  have ehs : (heldL a sku loc (-n)).st = putS a.st ⟨sku, loc, hand, held⟩ := by
    unfold heldL
    rw [hf]
    simp only [ew2]
  have hhs : Sorted (putS a.st ⟨sku, loc, hand, held⟩) := putS_sorted hs
  have hfh : findS (putS a.st ⟨sku, loc, hand, held⟩) sku loc = ⟨sku, loc, hand, held⟩ := by rw [findS_put hs, if_pos ⟨rfl, rfl⟩]
  have hfind : findS l'.st sku loc = ⟨sku, loc, if k = 4 then hand else hand - n, held⟩ := by
    rw [hb]
    split
    · show findS (heldL a sku loc (-n)).st sku loc = _
      rw [ehs, hfh]
    · have e1 : (stateL (heldL a sku loc (-n)) L.length 1).st = putS a.st ⟨sku, loc, hand, held⟩ := ehs
      unfold movedL
      simp only [e1, hfh, ew3]
      rw [findS_put hhs, if_pos ⟨rfl, rfl⟩]
  have hho : l'.ho.length = L.length + 1 ∧ (l'.ho.getD L.length hZ).st ≠ 0 := by
    have e0 : (heldL a sku loc (-n)).ho = a.ho := rfl
    rw [hb]
    split
    · simp only [stateL, e0, List.length_set, hlen, true_and]
      simp [List.getD, hlen]
    · simp only [movedL, stateL, e0, List.length_set, hlen, true_and]
      simp [List.getD, hlen]
  refine ⟨_, hst, hfind, ?_⟩
  have hov2 : overL { l' with ops := a.ops + 1 } ⟨k, [], [], [], 0, (L.length + 1 : Nat), 0⟩ = ({ l' with ops := a.ops + 1 }, 71) := by
    unfold overL
    rw [if_pos]
    right
    unfold holdAt
    simp only [eid]
    exact hho.2
  have hd2 : doesL { l' with ops := a.ops + 1 } ⟨k, [], [], [], 0, (L.length + 1 : Nat), 0⟩ = ({ l' with ops := a.ops + 1 }, 71) := by
    rw [← hov2]
    unfold doesL
    simp only
    rw [if_neg (by omega), if_neg (by omega), if_neg (by omega), if_neg (by omega)]
  unfold stepL
  rw [if_neg (by rw [hok]; simp), hd2, if_pos (by simp)]
end Go.Q

/- Layer 7: LedgerHolds. -/
set_option maxRecDepth 100000
set_option linter.unusedVariables false
set_option linter.unusedSimpArgs false
namespace Go.Proofs
open Go Go.Q
theorem play_small : ∀ (ops : List OpV) (l : LV) (k : Nat), May l → Small l k → (∀ o ∈ ops, o.Wf) → Small (playL l ops) (k + ops.length) := by
  intro ops
  induction ops with
  | nil => intro l k _ h _; exact h
  | cons o r ih =>
    intro l k hm h hw
    have := ih (stepL l o).1 (k + 1) (stepL_may hm (hw o (by simp))) (step_small hm o h) fun x hx => hw x (by simp [hx])
    rw [show k + (o :: r).length = k + 1 + r.length by simp; omega]
    exact this
theorem small_mono {l : LV} {k j : Nat} (h : Small l k) (hj : k ≤ j) : Small l j := ⟨by have := h.ho; omega, by have := h.mo; omega, by have := h.st; omega, by have := h.ops; omega⟩
theorem free_of {l : LV} {sku loc : List UInt8} {hand held : Int} (h : findS l.st sku loc = ⟨sku, loc, hand, held⟩) (h1 : -9223372036854775808 ≤ hand - held) (h2 : hand - held ≤ 9223372036854775807) : freeL l sku loc = hand - held := by
  unfold freeL
  rw [h, numO_in h1 h2]
theorem ledgerHolds_spec {w : World} {vo : Value} {ops : List OpV} (ho : OpsAt w vo ops) {qty : Int} (hq : rngI qty) (out : Bool) {K : Value → World → Prop} (hK : ∀ w', Kp [] w w' → K (.bool true) w') : callG Try.prog 11 #[vo, .int .i64 qty, .bool out] w K := by
  refine law07_LedgerHolds_call ?_
  unfold law07_LedgerHolds law07_LedgerHolds_s9
  refine play_X ho (n := 20) (by omega) fun v2 w2 k2 hv2 => ?_
  simp only [ex0, ex1]
  obtain ⟨l, hld⟩ : ∃ l, l = playL lZ (ops.take 20) := ⟨_, rfl⟩
  rw [← hld] at hv2
  have hm : May l := by rw [hld]; exact play_may _ _ may_z fun o h => ho.wf o (List.mem_of_mem_take h)
  have hsm : Small l 100 := by
    rw [hld]
    have := play_small (ops.take 20) lZ 0 may_z ⟨by decide, by decide, by decide, by decide⟩ fun o h => ho.wf o (List.mem_of_mem_take h)
    exact small_mono this (by have := List.length_take_le 20 ops; omega)
  refine newVX hv2 fun p7 w3 hp7 k3 c7 => ?_
  simp only [un_not, bV_b, Bool.not_true, Bool.false_eq_true, false_implies, true_and, true_implies]
  have k03 := k2.trans' k3
  have hfew := hm.few
  simp only [fullL, decide_eq_false_iff_not, not_or] at hfew
  have aw : ∀ w', Kp [] w w' → law07_LedgerHolds_s0 K w' := fun w' k' => by
    unfold law07_LedgerHolds_s0
    exact awake7 fun w6 k6 => hK w6 (k'.trans' k6)
  unfold law07_LedgerHolds_s8 law07_LedgerHolds_L7
  refine loop_inv (fun m xs wi => ∃ i, i ≤ l.st.length ∧ m = l.st.length - i ∧ xs = [.int .i64 qty, .bool out, .pointer (some ⟨p7, 0, none⟩), .int .i64 (i : Nat)] ∧ Kp [] w3 wi) ?_ (m := l.st.length) ⟨0, by omega, rfl, rfl, Kp.refl _ _⟩
  rintro m N xs wi ⟨i, hi, rfl, rfl, ki⟩ hN
  have hiw : IntKind.i64.wrap ((i : Int) + 1) = ((i + 1 : Nat) : Int) := by rw [w64 (by omega) (by omega)]; simp
  have ci := c7.keep ki
  obtain ⟨a, b, c, hB⟩ := ci.box
  unfold law07_LedgerHolds_L7F law07_LedgerHolds_s6
  simp only [fa_p, Nat.add_zero, Nat.zero_add]
  rw [hB.l0, hB.a.lenL, List.length_map]
  simp only [bq_lss, bV_b, decide_eq_true_eq, decide_eq_false_iff_not]
  refine ⟨fun hlt => ?_, fun hge => by exact aw wi (k03.trans' ki)⟩
  have hlt : i < l.st.length := by omega
  obtain ⟨s, hsd⟩ : ∃ s, s = l.st[i] := ⟨_, rfl⟩
  have hs : s ∈ l.st := by rw [hsd]; exact List.getElem_mem hlt
  obtain ⟨sf1, sf2, sf3, sf4, sf5, sf6, sf7⟩ := stock_facts hm hs
  have hnext : ∀ w', Kp [] w3 w' → law07_LedgerHolds_s1 K N (.int .i64 qty) (.bool out) (.pointer (some ⟨p7, 0, none⟩)) (.int .i64 i) w' := fun w' k' => by
    unfold law07_LedgerHolds_s1
    simp only [bq_add, hiw]
    exact hN (l.st.length - (i + 1)) _ w' (by omega) ⟨i + 1, by omega, rfl, rfl, k'⟩
  unfold law07_LedgerHolds_s5
  simp only [fa_p, Nat.add_zero, Nat.zero_add]
  obtain ⟨p, i1, i2, _⟩ := rd_parts hB.a hlt
  rw [hB.l0, i1, i2, ← hsd]
  refine boxStock (o := s) (by kernel_rfl) fun p10 w4 hp10 hh10 k4 => ?_
  have fld10 : ∀ w', Kp [] w4 w' → ∀ j v, (sC s)[j]? = some v → ∀ K : Value → Prop, ld1 (.pointer (some ⟨p10, j, none⟩)) w' K = K v := fun w' k' j v hj K => ldF (k'.get hh10 (by simp)) (by simpa using hj)
  have c4 := ci.keep k4
  have kr := Kp.refl [] w4
  obtain ⟨v4, hld4, hv4⟩ := c4.ld
  simp only [fa_p, Nat.add_zero, Nat.zero_add]
  rw [hld4, fld10 _ kr 0 (.string (str s.sku)) rfl, fld10 _ kr 1 (.string (str s.loc)) rfl]
  refine Free_spec7 hm hv4.at s.sku s.loc fun w5 k5 => ?_
  rw [sf7, and7]
  obtain ⟨n, hnd⟩ : ∃ n, n = 1 + qty % 8 := ⟨_, rfl⟩
  have hn1 : 1 ≤ n := by omega
  have hn2 : n ≤ 8 := by omega
  have hnr : rngI n := by unfold rngI; omega
  have e1 : IntKind.i64.wrap (1 + qty % 8) = n := by rw [w64 (by omega) (by omega)]; exact hnd.symm
  simp only [bq_add, e1]
  have c5 := c4.keep k5
  obtain ⟨v5, hld5, hv5⟩ := c5.ld
  rw [hld5, fld10 _ k5 0 (.string (str s.sku)) rfl, fld10 _ k5 1 (.string (str s.loc)) rfl, bldOp4]
  have k35 := (ki.trans' k4).trans' k5
  refine Apply_X hm hv5 (fun q hq => by simp at hq; rw [hq]; exact c5.lt) ⟨2, s.sku, s.loc, [], n, 0, 0⟩ hnr fun v6 w6 k6 hv6 => ?_
  simp only [ex0, ex1]
  refine newVX hv6 fun p13 w7 hp13 k7 c13 => ?_
  have c7' := ((c5.keep k6).more hp13).keep k7
  have k47 := (k5.trans' k6).trans' k7
  have k37 := (ki.trans' k4).trans' k47
  by_cases hf : s.hand - s.held < n
  · have hst := hold_err hm hs hn1 hn2 hf
    have ea : applyL l ⟨2, s.sku, s.loc, [], n, 0, 0⟩ = (lZ, 70) := applyL_bad (by decide) hst
    rw [ea]
    simp only [bq_eql, bq_leq]
    rw [bq_bneq _ _ (by kernel_rfl)]
    have e2 : (decide ((70 : Int) = 0) == decide (n ≤ s.hand - s.held)) = true := by rw [decide_eq_false (by omega), decide_eq_false (by omega)]; rfl
    rw [e2]
    simp only [bV_b, Bool.not_true, Bool.false_eq_true, false_implies, true_and, true_implies, bq_neq, decide_eq_true_eq, decide_eq_false_iff_not]
    refine ⟨fun _ => ⟨fun h => absurd rfl h, fun _ => ?_⟩, fun h => absurd (by decide) h⟩
    unfold law07_LedgerHolds_s4
    simp only [bq_neq, bV_b, decide_eq_true_eq, decide_eq_false_iff_not]
    exact ⟨fun _ => hnext w7 k37, fun h => absurd (by decide) h⟩
  obtain ⟨al, hst, hho, hfa, hsa⟩ := hold_done hm hsm hs hn1 hn2 hf
  have ea : applyL l ⟨2, s.sku, s.loc, [], n, 0, 0⟩ = (al, 0) := applyL_ok hst
  rw [ea] at c13
  rw [ea]
  have hma : May al := by
    have := stepL_may hm (o := opHold s n) (wfOp (by decide) hnr (by unfold rngI; decide))
    rw [hst] at this; exact this
  simp only [bq_eql, bq_leq, decide_true]
  rw [bq_bneq _ _ (by kernel_rfl)]
  have e2 : (true == decide (n ≤ s.hand - s.held)) = true := by rw [decide_eq_true (by omega)]; rfl
  rw [e2]
  simp only [bV_b, Bool.not_true, Bool.false_eq_true, false_implies, true_and, true_implies, bq_neq, decide_eq_true_eq, decide_eq_false_iff_not]
  refine ⟨fun h => absurd rfl h, fun _ => ?_⟩
  unfold law07_LedgerHolds_s4
  simp only [bq_neq, bV_b, decide_eq_true_eq, decide_eq_false_iff_not]
  refine ⟨fun h => absurd rfl h, fun _ => ?_⟩
  obtain ⟨xa, xb, xc, hB7⟩ := c7'.box
  have hlw : IntKind.i64.wrap ((l.ho.length : Int) + 1) = ((l.ho.length + 1 : Nat) : Int) := by rw [w64 (by omega) (by omega)]; simp
  have hlw2 : IntKind.i64.wrap (((l.ho.length + 1 : Nat) : Int) - 1) = ((l.ho.length : Nat) : Int) := by rw [w64 (by omega) (by omega)]; omega
  have kd : Kp [] w7 w7.drew := kp_drew
  have d13 := c13.keep kd
  obtain ⟨ya, yb, yc, hB13⟩ := d13.box
  have hal : al.ho.length = l.ho.length + 1 := by rw [hho]; simp
  simp only [fa_p, Nat.add_zero, Nat.zero_add]
  rw [hB7.l1, hB7.b.lenL, List.length_map]
  simp only [bq_add, hlw]
  rw [hB13.l1, hB13.b.lenL, List.length_map, hal]
  simp only [bq_neq, bV_b, decide_eq_true_eq, decide_eq_false_iff_not]
  refine ⟨fun h => absurd rfl h, fun _ => ?_⟩
  obtain ⟨q, q1, q2, _⟩ := rd_parts hB13.b (show l.ho.length < al.ho.length by omega)
  have k4d := k47.trans' kd
  rw [hB13.l1]
  simp only [bq_sub, hlw2]
  rw [q1, q2, fld10 _ k4d 0 (.string (str s.sku)) rfl, fld10 _ k4d 1 (.string (str s.loc)) rfl]
  have ehl : al.ho[l.ho.length]'(by omega) = ⟨(l.ho.length + 1 : Nat), s.sku, s.loc, n, 0, 0⟩ := by
    have : al.ho[l.ho.length]? = some ⟨(l.ho.length + 1 : Nat), s.sku, s.loc, n, 0, 0⟩ := by rw [hho]; simp
    rw [List.getElem?_eq_getElem (by omega)] at this
    injection this
  rw [ehl]
  have hbh : ∀ (id : Int) (K : Value → Prop), bld [(0, 1), (1, 1), (2, 1), (3, 1), (4, 1), (5, 1)] (zc Try.prog 34) #[(0, .int .i64 id), (1, .string (str s.sku)), (2, .string (str s.loc)), (3, .int .i64 n)] K = K (hA ⟨id, s.sku, s.loc, n, 0, 0⟩) := fun id K => by
    simp [-getElem?_pos, -Array.all_eq_true, -Array.getElem?_eq_getElem, -List.length_flatten, List.getElem?_cons_zero, List.getElem?_cons_succ, hold_zc, str_nil, bld_done, bld_if, offAt, putAt]
    rfl
  rw [hbh, show hA ⟨(l.ho.length + 1 : Nat), s.sku, s.loc, n, 0, 0⟩ = .agg (hC ⟨(l.ho.length + 1 : Nat), s.sku, s.loc, n, 0, 0⟩).toArray from rfl, bq_aggneq (by kernel_rfl), hC_inj]
  simp only [decide_true, Bool.not_true, bV_b, Bool.false_eq_true, false_implies, true_and, true_implies]
  obtain ⟨v13, hld13, hv13⟩ := d13.ld
  rw [hld13, fld10 _ k4d 0 (.string (str s.sku)) rfl, fld10 _ k4d 1 (.string (str s.loc)) rfl]
  have ew : IntKind.i64.wrap (s.hand - s.held - n) = s.hand - s.held - n := w64 (by omega) (by omega)
  simp only [bq_sub, ew]
  refine Free_spec7 hma hv13.at s.sku s.loc fun w8 k8 => ?_
  rw [free_of hfa (by omega) (by omega)]
  have e3 : s.hand - (s.held + n) = s.hand - s.held - n := by omega
  rw [e3]
  simp only [stb_sub, ew, bq_neq, bV_b, decide_eq_true_eq, decide_eq_false_iff_not]
  refine ⟨by trivial, fun h => absurd rfl h, fun _ => ?_⟩
  -- it is over
  have e13 := d13.keep k8
  have k48 := k4d.trans' k8
  have k38 := (ki.trans' k4).trans' k48
  have hY13 : YB [p13, p7] w8 := fun q hq => by
    simp at hq
    have h1 := e13.lt
    have h2 := ((c7'.keep kd).keep k8).lt
    rcases hq with rfl | rfl
    · exact h1
    · exact h2
  have main : ∀ k, (k = 3 ∨ k = 4) → ∀ left, left = (if k = 4 then s.hand - s.held else s.hand - s.held - n) → law07_LedgerHolds_s2 K N (.int .i64 qty) (.bool out) (.pointer (some ⟨p7, 0, none⟩)) (.int .i64 i) (.pointer (some ⟨p10, 0, none⟩)) (.pointer (some ⟨p13, 0, none⟩)) (.int .i64 (l.ho.length + 1 : Nat)) (.int .i64 k) (.int .i64 left) w8 := by
    intro k hk left hleft
    obtain ⟨bl, hst1, hfb, hst2⟩ := over_done hma hsa hho hfa hn1 hn2 sf3 (by omega) sf5 hk
    have hwo : OpV.Wf ⟨k, [], [], [], 0, (l.ho.length + 1 : Nat), 0⟩ := wfOp (by omega) (by unfold rngI; decide) (by unfold rngI; omega)
    have hmb : May bl := by
      have := stepL_may hma hwo
      rw [hst1] at this; exact this
    unfold law07_LedgerHolds_s2
    obtain ⟨v14, hld14, hv14⟩ := e13.ld
    rw [hld14, bldOp2]
    refine Apply_X hma hv14 hY13 ⟨k, [], [], [], 0, (l.ho.length + 1 : Nat), 0⟩ (wf_rng hwo) fun v15 w15 k15 hv15 => ?_
    rw [applyL_ok hst1] at hv15
    rw [applyL_ok hst1]
    simp only [ex0, ex1]
    refine newVX hv15 fun p18 w16 hp18 k16 c18 => ?_
    obtain ⟨v17, hld17, hv17⟩ := c18.ld
    rw [hld17, bldOp2]
    refine Apply_X hmb hv17 (((hY13.keep k15).keep k16).cons c18) ⟨k, [], [], [], 0, (l.ho.length + 1 : Nat), 0⟩ (wf_rng hwo) fun v19 w19 k19 hv19 => ?_
    rw [applyL_bad (by decide) hst2]
    simp only [ex0, ex1]
    refine newVX hv19 fun p20 w20 hp20 k20 c20 => ?_
    have d18 := (((c18.keep k19).more hp20).keep k20).keep kp_drew
    have k820 := (((k15.trans' k16).trans' k19).trans' k20).trans' kp_drew
    have k420 := k48.trans' k820
    simp only [bq_neq, bV_b, decide_eq_true_eq, decide_eq_false_iff_not]
    refine ⟨fun h => absurd rfl h, fun _ => ⟨fun h => absurd rfl h, fun _ => ?_⟩⟩
    obtain ⟨v21, hld21, hv21⟩ := d18.ld
    simp only [fa_p, Nat.add_zero, Nat.zero_add]
    rw [hld21, fld10 _ k420 0 (.string (str s.sku)) rfl, fld10 _ k420 1 (.string (str s.loc)) rfl]
    refine Free_spec7 hmb hv21.at s.sku s.loc fun w22 k22 => ?_
    have efr : freeL bl s.sku s.loc = left := by
      rw [free_of hfb (by split <;> omega) (by split <;> omega), hleft]
      split <;> omega
    rw [efr]
    simp only [bq_neq, bV_b, decide_eq_true_eq, decide_eq_false_iff_not]
    refine ⟨fun h => absurd rfl h, fun _ => ?_⟩
    have k422 := k420.trans' k22
    have d22 := d18.keep k22
    obtain ⟨v23, hld23, hv23⟩ := d22.ld
    rw [hld23, fld10 _ k422 0 (.string (str s.sku)) rfl, fld10 _ k422 1 (.string (str s.loc)) rfl, fld10 _ k422 3 (.int .i64 s.held) rfl]
    have hfb2 := hmb.few
    simp only [fullL, decide_eq_false_iff_not, not_or] at hfb2
    refine Find_spec7 (l := bl) hv23.at (by omega) s.sku s.loc fun w24 k24 => ?_
    rw [fld10 _ (k422.trans' k24) 3 (.int .i64 s.held) rfl, hfb]
    unfold sA
    simp [-getElem?_pos, -Array.all_eq_true, -Array.getElem?_eq_getElem, -List.length_flatten, List.getElem?_cons_zero, List.getElem?_cons_succ, -ldn_p, -stn_p, -newG_k, -ld1_p, -st1_p]
    exact hnext w24 ((ki.trans' k4).trans' (k422.trans' k24))
  unfold law07_LedgerHolds_s3
  simp only [bV_b, bq_sub, ew]
  refine ⟨fun _ => main 3 (.inl rfl) _ (by simp), fun _ => main 4 (.inr rfl) _ (by simp)⟩
end Go.Proofs

/- Layer 7: operations that were given. -/
set_option linter.unusedVariables false
set_option linter.unusedSimpArgs false
namespace Go.Proofs
open Go Go.Q
theorem ops_of {rows : List (List Value)} (h : ∀ r ∈ rows, ∃ o : OpV, r = opC o ∧ o.Wf) : ∃ l : List OpV, rows = l.map opC ∧ ∀ o ∈ l, o.Wf := by
  induction rows with
  | nil => exact ⟨[], rfl, by simp⟩
  | cons r rows ih =>
    obtain ⟨l, h1, h2⟩ := ih fun x hx => h x (by simp [hx])
    obtain ⟨s, h3, h4⟩ := h r (by simp)
    exact ⟨s :: l, by rw [h1, h3]; rfl, fun x hx => by
      rcases List.mem_cons.1 hx with rfl | hx
      · exact h4
      · exact h2 x hx⟩
theorem ops_taken {w : World} {a : Option Addr} {l c : Nat} (h : Taken w 55 (.slice a l c)) : ∃ ops : List OpV, OpsAt w (.slice a l c) ops := by
  obtain ⟨H, enc, fuel, x, h⟩ := h
  obtain ⟨v, rows, SK, hv, harg, hlt, hlen, hr⟩ := arg_slice Try.underlying55 (n := 7) (by kernel_rfl) (by omega) h
  obtain ⟨ops, hl, hs⟩ := ops_of (rows := rows) fun r hm => by
    obtain ⟨f, y, hy⟩ := hr r hm
    exact op_in hy
  subst hl
  injection hv with e _
  subst e
  exact ⟨ops, ⟨SK, harg⟩, hs⟩
end Go.Proofs

