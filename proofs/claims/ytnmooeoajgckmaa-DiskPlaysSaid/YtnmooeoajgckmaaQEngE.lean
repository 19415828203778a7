/- Part of the proof (text QEngE): an engine, rules or contracts of the functions; it states nothing of the claim by itself. -/
import Derived.Test.YtnmooeoajgckmaaQEngD
/- The engine, part E: 'drawK' is sound: the simulation. -/
set_option linter.unusedVariables false
set_option linter.unusedSimpArgs false
namespace Go.Q
variable {P : Program} {n : Nat} {ops : Array Oper} {B : Array Nat}

structure MemoV (ops : Array Oper) (D : List Nat) (V : Nat → Value) (m : List (Nat × Option Bool)) : Prop where
  ok : ∀ j b, look m j = some b → has D j = true ∧ boolOf (V j) = b

theorem boolOf_undef : boolOf undef = none := rfl

theorem guardK_cases (hk : DOk n ops B) {e0 e : Env} {V : Nat → Value} {D : List Nat} {m : List (Nat × Option Bool)} {i : Nat} {o : Oper} (ho : ops[i]? = some o)
    (hm : MemoV ops D V m) (he : EnvIs ops e0 V (has D) e) (hD : ∀ p ∈ predsOf ops i, has D p = true) {run skip : Env → List (Nat × Option Bool) → Prop}
    (h : guardK ops m i o e run skip) :
    (wantV V o = true ∧ ∃ m', MemoV ops D V m' ∧ run e m') ∨ (wantV V o = false ∧ ∃ m', MemoV ops D V m' ∧ skip e ((i, none) :: m')) := by
  unfold guardK at h
  unfold wantV
  cases hg : o.guard with
  | none => rw [hg] at h; exact .inl ⟨rfl, m, hm, h⟩
  | some jt =>
    obtain ⟨j, t⟩ := jt
    obtain ⟨hjp, hjd⟩ := hk.guard i o ho j t hg
    have hDj := hD j hjp
    rw [hg] at h
    simp only at h ⊢
    cases hl : look m j with
    | some b =>
      obtain ⟨_, hb⟩ := hm.ok j b hl
      rw [hl] at h
      cases b with
      | none => exact .inr ⟨by rw [hb]; rfl, m, hm, h⟩
      | some b =>
        simp only at h
        cases hbt : (b == t) with
        | true => rw [hbt] at h; exact .inl ⟨by rw [hb]; simpa using hbt, m, hm, h⟩
        | false => rw [hbt] at h; exact .inr ⟨by rw [hb]; simpa using hbt, m, hm, h⟩
    | none =>
      rw [hl] at h
      simp only [hjd, cond_true] at h
      -- the guard's value
      have hval : e (dstOf ops j) = V j := by
        have hx : (ops[j]?).bind (·.dst) = some (dstOf ops j) := by
          unfold hasDst at hjd
          unfold dstOf
          cases hy : (ops[j]?).bind (·.dst) with
          | none => rw [hy] at hjd; cases hjd
          | some d => rfl
        rw [he (dstOf ops j), writer_of hk.reg hx]
        simp [hDj]
      have hall : ∃ b, V j = .bool b ∧ (if b = true then (bif t then run e ((j, some true) :: m) else skip e ((i, none) :: (j, some true) :: m))
          else (bif t then skip e ((i, none) :: (j, some false) :: m) else run e ((j, some false) :: m))) := by
        rcases bV_cases h with ⟨hc, h⟩ | ⟨hc, h⟩
        · rw [upd_self hc] at h; exact ⟨true, by rw [← hval]; exact hc, h⟩
        · rw [upd_self hc] at h; exact ⟨false, by rw [← hval]; exact hc, h⟩
      · obtain ⟨b, hb, h⟩ := hall
        have hbo : boolOf (V j) = some b := by rw [hb]; rfl
        have hm' : MemoV ops D V ((j, some b) :: m) := ⟨fun j' b' hj' => by
          rw [look_cons] at hj'
          split at hj'
          · rename_i hjj; subst hjj; simp only [Option.some.injEq] at hj'; subst hj'; exact ⟨hDj, hbo⟩
          · exact hm.ok j' b' hj'⟩
        rw [hbo]
        cases b
        · simp only [Bool.false_eq_true, if_false] at h
          cases t
          · exact .inl ⟨rfl, _, hm', h⟩
          · exact .inr ⟨rfl, _, hm', h⟩
        · simp only [if_true] at h
          cases t
          · exact .inr ⟨rfl, _, hm', h⟩
          · exact .inl ⟨rfl, _, hm', h⟩

/-- 'S': what has been carried out; 'D': what has been reckoned ahead -/
structure Inv (P : Program) (n : Nat) (ops : Array Oper) (B : Array Nat) (e0 : Env) (S : Nat → Bool) (D : List Nat) (m : List (Nat × Option Bool))
    (pd : List (Nat × (World → Prop))) (V : Nat → Value) (a : Act) (e : Env) (w : World) : Prop where
  agA : ∃ ea, Ag n a ea ∧ EnvIs ops e0 V S ea
  envC : EnvIs ops e0 V (has D) e
  sub : ∀ i, S i = true → has D i = true
  lt : ∀ i, has D i = true → i < ops.size
  clS : ∀ x, S x = true → ∀ z, z < ops.size → bit B x z = true → S z = true
  clD : ∀ x, has D x = true → ∀ z, z < ops.size → bit B x z = true → has D z = true
  memo : MemoV ops D V m
  pend : ∀ (y : Nat) (o : Oper), ops[y]? = some o → has D y = true → quietOp P o = true → wantV V o = true →
    (∃ c, (y, c) ∈ pd ∧ ∀ w', c w' → RunsAt P ops B e0 V y o w') ∨ ∀ w', RunsAt P ops B e0 V y o w'
  now : ∀ (y : Nat) (o : Oper), ops[y]? = some o → has D y = true → S y = false →
    (wantV V o = true → quietOp P o = true ∧ RunsAt P ops B e0 V y o w) ∧ (wantV V o = false → V y = undef)
  grd : ∀ (y : Nat) (o : Oper), ops[y]? = some o → has D y = true → ∀ p ∈ predsOf ops y, has D p = true

theorem wantV_same (hk : DOk n ops B) {V : Nat → Value} {x : Nat} {D : List Nat} (hx : has D x = false) {y : Nat} {o : Oper} (ho : ops[y]? = some o)
    (hp : ∀ p ∈ predsOf ops y, has D p = true) (v : Value) : wantV (fun i => if i = x then v else V i) o = wantV V o := by
  unfold wantV
  cases hg : o.guard with
  | none => rfl
  | some jt =>
    obtain ⟨j, t⟩ := jt
    have hj := hp j (hk.guard y o ho j t hg).1
    have hjx : j ≠ x := fun h => by subst h; rw [hx] at hj; cases hj
    simp [hjx]

theorem MemoV.val {D : List Nat} {V : Nat → Value} {m : List (Nat × Option Bool)} (hm : MemoV ops D V m) {x : Nat} (hx : has D x = false) (v : Value) :
    MemoV ops (x :: D) (fun i => if i = x then v else V i) m := ⟨fun j b hj => by
  obtain ⟨h1, h2⟩ := hm.ok j b hj
  have hjx : j ≠ x := fun h => by subst h; rw [hx] at h1; cases h1
  exact ⟨by rw [has_cons]; simp [h1], by simp [hjx, h2]⟩⟩

theorem MemoV.skip {D : List Nat} {V : Nat → Value} {m : List (Nat × Option Bool)} (hm : MemoV ops D V m) {x : Nat} (hx : has D x = false) :
    MemoV ops (x :: D) (fun i => if i = x then undef else V i) ((x, none) :: m) := ⟨fun j b hj => by
  rw [look_cons] at hj
  split at hj
  · rename_i h; subst h; simp only [Option.some.injEq] at hj; subst hj
    exact ⟨by rw [has_cons]; simp, by simp [boolOf_undef]⟩
  · exact (hm.val hx undef).ok j b hj⟩

theorem ready_B (hk : DOk n ops B) {S : Nat → Bool} {i : Nat} (hi : i < ops.size) (hp : ∀ p ∈ predsOf ops i, S p = true)
    (cl : ∀ x, S x = true → ∀ z, z < ops.size → bit B x z = true → S z = true) : ∀ z, z < ops.size → bit B i z = true → S z = true := by
  intro z hz hb
  obtain ⟨p, hpm, hpz⟩ := hk.cl i hi z hz hb
  rcases hpz with h | h
  · subst h; exact hp p hpm
  · exact cl p (hp p hpm) z hz h

section quiet
variable {e0 : Env} {S : Nat → Bool} {D : List Nat} {m : List (Nat × Option Bool)} {pd : List (Nat × (World → Prop))} {V : Nat → Value} {a : Act} {e : Env} {w : World}

theorem Inv.not_S (h : Inv P n ops B e0 S D m pd V a e w) {x : Nat} (hx : has D x = false) : S x = false := by
  cases hs : S x with
  | false => rfl
  | true => have := h.sub x hs; rw [hx] at this; cases this

theorem bit_not_D (h : Inv P n ops B e0 S D m pd V a e w) {x y : Nat} (hx : has D x = false) (hxl : x < ops.size) (hy : has D y = true) : bit B y x = false := by
  cases hb : bit B y x with
  | false => rfl
  | true => have := h.clD y hy x hxl hb; rw [hx] at this; cases this

/-- a further quiet operation is reckoned ahead -/
theorem Inv.quiet (hk : DOk n ops B) (h : Inv P n ops B e0 S D m pd V a e w) {x : Nat} {o : Oper} (ho : ops[x]? = some o) (hx : has D x = false) (hp : ∀ p ∈ predsOf ops x, has D p = true)
    (hq : quietOp P o = true) (hw : wantV V o = true) {m' : List (Nat × Option Bool)} (hm : MemoV ops D V m') {v : Value} (hr : Says1 P (execOp (ev e) o) v w)
    (hs : (∃ c, stbO P o (ev e) v = some c ∧ ∀ w', c w' → Says1 P (execOp (ev e) o) v w') ∨ (stbO P o (ev e) v = none ∧ ∀ w', Says1 P (execOp (ev e) o) v w')) :
    Inv P n ops B e0 S (x :: D) m' (pdAdd x (stbO P o (ev e) v) pd) (fun i => if i = x then v else V i) a (updO e o.dst v) w := by
  have hxl := size_of_some ho
  have hxS := h.not_S hx
  have hB := ready_B hk hxl hp h.clD
  have href : execOp (ev e) o = execOp (ev (refE ops B e0 V x)) o := execOp_ref hk ho (h.envC.ref hk ho hB hx h.clD)
  have hrefx : refE ops B e0 (fun i => if i = x then v else V i) x = refE ops B e0 V x := refE_same (hk.irr x hxl) v
  have old : ∀ (y : Nat) (oy : Oper), ops[y]? = some oy → has D y = true → ∀ w', RunsAt P ops B e0 V y oy w' → RunsAt P ops B e0 (fun i => if i = x then v else V i) y oy w' := by
    intro y oy _ hy w' hrun
    have hyx : y ≠ x := fun hh => by subst hh; rw [hx] at hy; cases hy
    unfold RunsAt at *
    rw [refE_same (bit_not_D h hx hxl hy)]
    simpa [hyx] using hrun
  have new : ∀ w', Says1 P (execOp (ev e) o) v w' → RunsAt P ops B e0 (fun i => if i = x then v else V i) x o w' := by
    intro w' hrun
    unfold RunsAt
    rw [hrefx, ← href]
    simpa [Says1] using hrun
  have hwx : wantV (fun i => if i = x then v else V i) o = true := by rw [wantV_same hk hx ho hp v]; exact hw
  obtain ⟨ea, hag, hea⟩ := h.agA
  constructor
  · exact ⟨ea, hag, hea.valsame hxS v⟩
  · have := h.envC.add hk.reg ho hx v
    have hfun : (fun i => decide (x = i) || has D i) = has (x :: D) := by funext i; rw [has_cons]
    rw [hfun] at this
    exact this
  · intro i hi; rw [has_cons]; simp [h.sub i hi]
  · intro i hi; rw [has_cons] at hi
    simp only [Bool.or_eq_true, decide_eq_true_iff] at hi
    rcases hi with hi | hi
    · subst hi; exact hxl
    · exact h.lt i hi
  · exact h.clS
  · intro y hy z hz hb
    rw [has_cons] at hy ⊢
    simp only [Bool.or_eq_true, decide_eq_true_iff] at hy ⊢
    rcases hy with hy | hy
    · subst hy; exact .inr (hB z hz hb)
    · exact .inr (h.clD y hy z hz hb)
  · exact hm.val hx v
  · intro y oy hoy hy hqy hwy
    rw [has_cons] at hy
    simp only [Bool.or_eq_true, decide_eq_true_iff] at hy
    rcases hy with hy | hy
    · subst hy
      rw [ho] at hoy; injection hoy with hoy; subst hoy
      rcases hs with ⟨c, hc, hcw⟩ | ⟨hc, hcw⟩
      · exact .inl ⟨c, by rw [hc]; simp [pdAdd], fun w' hw' => new w' (hcw w' hw')⟩
      · exact .inr fun w' => new w' (hcw w')
    · rw [wantV_same hk hx hoy (h.grd y oy hoy hy) v] at hwy
      rcases h.pend y oy hoy hy hqy hwy with ⟨c, hc, hcw⟩ | hall
      · refine .inl ⟨c, ?_, fun w' hw' => old y oy hoy hy w' (hcw w' hw')⟩
        unfold pdAdd; split
        · exact List.mem_cons_of_mem _ hc
        · exact hc
      · exact .inr fun w' => old y oy hoy hy w' (hall w')
  · intro y oy hoy hy hyS
    rw [has_cons] at hy
    simp only [Bool.or_eq_true, decide_eq_true_iff] at hy
    rcases hy with hy | hy
    · subst hy
      rw [ho] at hoy; injection hoy with hoy; subst hoy
      refine ⟨fun _ => ⟨hq, new w hr⟩, fun hf => ?_⟩
      rw [hwx] at hf; cases hf
    · obtain ⟨h1, h2⟩ := h.now y oy hoy hy hyS
      have hyx : y ≠ x := fun hh => by subst hh; rw [hx] at hy; cases hy
      rw [wantV_same hk hx hoy (h.grd y oy hoy hy) v]
      refine ⟨fun hw' => ⟨(h1 hw').1, old y oy hoy hy w (h1 hw').2⟩, fun hf => ?_⟩
      simp [hyx, h2 hf]
  · intro y oy hoy hy p hpm
    rw [has_cons] at hy ⊢
    simp only [Bool.or_eq_true, decide_eq_true_iff] at hy ⊢
    rcases hy with hy | hy
    · subst hy; exact .inr (hp p hpm)
    · exact .inr (h.grd y oy hoy hy p hpm)

/-- an operation is passed over -/
theorem Inv.skip (hk : DOk n ops B) (h : Inv P n ops B e0 S D m pd V a e w) {x : Nat} {o : Oper} (ho : ops[x]? = some o) (hx : has D x = false) (hp : ∀ p ∈ predsOf ops x, has D p = true)
    (hw : wantV V o = false) {m' : List (Nat × Option Bool)} (hm : MemoV ops D V m') :
    Inv P n ops B e0 S (x :: D) ((x, none) :: m') pd (fun i => if i = x then undef else V i) a (updO e o.dst undef) w := by
  have hxl := size_of_some ho
  have hxS := h.not_S hx
  have hB := ready_B hk hxl hp h.clD
  have old : ∀ (y : Nat) (oy : Oper), ops[y]? = some oy → has D y = true → ∀ w', RunsAt P ops B e0 V y oy w' → RunsAt P ops B e0 (fun i => if i = x then undef else V i) y oy w' := by
    intro y oy _ hy w' hrun
    have hyx : y ≠ x := fun hh => by subst hh; rw [hx] at hy; cases hy
    unfold RunsAt at *
    rw [refE_same (bit_not_D h hx hxl hy)]
    simpa [hyx] using hrun
  have hwx : wantV (fun i => if i = x then undef else V i) o = false := by rw [wantV_same hk hx ho hp undef]; exact hw
  obtain ⟨ea, hag, hea⟩ := h.agA
  constructor
  · exact ⟨ea, hag, hea.valsame hxS undef⟩
  · have := h.envC.add hk.reg ho hx undef
    have hfun : (fun i => decide (x = i) || has D i) = has (x :: D) := by funext i; rw [has_cons]
    rw [hfun] at this
    exact this
  · intro i hi; rw [has_cons]; simp [h.sub i hi]
  · intro i hi; rw [has_cons] at hi
    simp only [Bool.or_eq_true, decide_eq_true_iff] at hi
    rcases hi with hi | hi
    · subst hi; exact hxl
    · exact h.lt i hi
  · exact h.clS
  · intro y hy z hz hb
    rw [has_cons] at hy ⊢
    simp only [Bool.or_eq_true, decide_eq_true_iff] at hy ⊢
    rcases hy with hy | hy
    · subst hy; exact .inr (hB z hz hb)
    · exact .inr (h.clD y hy z hz hb)
  · exact hm.skip hx
  · intro y oy hoy hy hqy hwy
    rw [has_cons] at hy
    simp only [Bool.or_eq_true, decide_eq_true_iff] at hy
    rcases hy with hy | hy
    · subst hy
      rw [ho] at hoy; injection hoy with hoy; subst hoy
      rw [hwx] at hwy; cases hwy
    · rw [wantV_same hk hx hoy (h.grd y oy hoy hy) undef] at hwy
      rcases h.pend y oy hoy hy hqy hwy with ⟨c, hc, hcw⟩ | hall
      · exact .inl ⟨c, hc, fun w' hw' => old y oy hoy hy w' (hcw w' hw')⟩
      · exact .inr fun w' => old y oy hoy hy w' (hall w')
  · intro y oy hoy hy hyS
    rw [has_cons] at hy
    simp only [Bool.or_eq_true, decide_eq_true_iff] at hy
    rcases hy with hy | hy
    · subst hy
      rw [ho] at hoy; injection hoy with hoy; subst hoy
      refine ⟨fun hf => ?_, fun _ => by simp⟩
      rw [hwx] at hf; cases hf
    · obtain ⟨h1, h2⟩ := h.now y oy hoy hy hyS
      have hyx : y ≠ x := fun hh => by subst hh; rw [hx] at hy; cases hy
      rw [wantV_same hk hx hoy (h.grd y oy hoy hy) undef]
      refine ⟨fun hw' => ⟨(h1 hw').1, old y oy hoy hy w (h1 hw').2⟩, fun hf => ?_⟩
      simp [hyx, h2 hf]
  · intro y oy hoy hy p hpm
    rw [has_cons] at hy ⊢
    simp only [Bool.or_eq_true, decide_eq_true_iff] at hy ⊢
    rcases hy with hy | hy
    · subst hy; exact .inr (hp p hpm)
    · exact .inr (h.grd y oy hoy hy p hpm)
end quiet

theorem nextQuiet_some {D : List Nat} {i : Nat} (h : nextQuiet P ops D = some i) : has D i = false ∧ (∀ p ∈ predsOf ops i, has D p = true) ∧ quietAt P ops i = true := by
  have h' := List.find?_some h
  simp only [isReady, Bool.and_eq_true, Bool.not_eq_true', List.all_eq_true] at h'
  exact ⟨h'.1.1, h'.1.2, h'.2⟩

/-- all that is quiet and ready is reckoned ahead -/
theorem sat (hk : DOk n ops B) {e0 : Env} {S : Nat → Bool} {a : Act} {w : World} {k : Env → World → Prop} : ∀ (f : Nat) (D : List Nat) (m : List (Nat × Option Bool)) (pd : List (Nat × (World → Prop))) (V : Nat → Value) (e : Env),
    Inv P n ops B e0 S D m pd V a e w → drawK P ops B f D m pd e w k →
    ∃ f' D' m' pd' V' e', Inv P n ops B e0 S D' m' pd' V' a e' w ∧ drawK P ops B (f' + 1) D' m' pd' e' w k ∧ nextQuiet P ops D' = none := by
  intro f
  induction f with
  | zero => intro D m pd V e _ h; exact h.elim
  | succ f ih =>
    intro D m pd V e hinv h
    cases hn : nextQuiet P ops D with
    | none => exact ⟨f, D, m, pd, V, e, hinv, h, hn⟩
    | some i =>
      obtain ⟨hiD, hip, hiq⟩ := nextQuiet_some hn
      unfold drawK at h
      rw [hn] at h
      simp only at h
      unfold quietAt at hiq
      cases ho : ops[i]? with
      | none => rw [ho] at hiq; cases hiq
      | some o =>
        rw [ho] at h hiq
        simp only at h hiq
        rcases guardK_cases hk ho hinv.memo hinv.envC hip h with ⟨hw, m', hm', hrun⟩ | ⟨hw, m', hm', hskip⟩
        · obtain ⟨v, hr, hk', hs⟩ := quiet_ok (ev_func e) hiq hrun
          exact ih _ _ _ _ _ (hinv.quiet hk ho hiD hip hiq hw hm' hr hs) hk'
        · exact ih _ _ _ _ _ (hinv.skip hk ho hiD hip hw hm') hskip

theorem stab_all {B : Array Nat} {x : Nat} {w : World} {k : Prop} : ∀ {pd : List (Nat × (World → Prop))}, stab B x w k pd → k ∧ ∀ y c, (y, c) ∈ pd → bit B x y = true ∨ c w := by
  intro pd
  induction pd with
  | nil => intro h; exact ⟨h, fun y c hm => by cases hm⟩
  | cons p r ih =>
    obtain ⟨y, c⟩ := p
    intro h
    unfold stab at h
    cases hb : bit B x y with
    | true =>
      rw [hb] at h
      obtain ⟨h1, h2⟩ := ih h
      refine ⟨h1, fun y' c' hm => ?_⟩
      rcases List.mem_cons.1 hm with hm | hm
      · injection hm with h3 h4; subst h3; exact .inl hb
      · exact h2 y' c' hm
    | false =>
      rw [hb] at h
      obtain ⟨h1, h2⟩ := ih h.2
      refine ⟨h1, fun y' c' hm => ?_⟩
      rcases List.mem_cons.1 hm with hm | hm
      · injection hm with h3 h4; subst h3; subst h4; exact .inr h.1
      · exact h2 y' c' hm

theorem conj_mem {f : Nat → Prop} : ∀ {l : List Nat}, conj l f → ∀ x ∈ l, f x := by
  intro l
  induction l with
  | nil => intro _ x hx; cases hx
  | cons y r ih =>
    intro h x hx
    cases r with
    | nil => simp only [List.mem_singleton] at hx; subst hx; exact h
    | cons z r =>
      obtain ⟨h1, h2⟩ := h
      rcases List.mem_cons.1 hx with hx | hx
      · subst hx; exact h1
      · exact ih h2 x hx

end Go.Q
