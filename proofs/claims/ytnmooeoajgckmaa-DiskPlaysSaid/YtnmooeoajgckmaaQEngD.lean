/- Part of the proof (text QEngD): an engine, rules or contracts of the functions; it states nothing of the claim by itself. -/
import Derived.Test.YtnmooeoajgckmaaQEngC
/- The engine, part D: 'drawK' is sound: whatever order is drawn. -/
set_option linter.unusedVariables false
set_option linter.unusedSimpArgs false
namespace Go.Q
variable {P : Program} {n : Nat} {ops : Array Oper} {B : Array Nat}

def writer (ops : Array Oper) (t : Nat) : Option Nat := (List.range ops.size).find? fun z => (ops[z]?).bind (·.dst) == some t
def EnvIs (ops : Array Oper) (e0 : Env) (V : Nat → Value) (S : Nat → Bool) (e : Env) : Prop :=
  ∀ t, e t = match writer ops t with | some z => if S z = true then V z else e0 t | none => e0 t
def refE (ops : Array Oper) (B : Array Nat) (e0 : Env) (V : Nat → Value) (y : Nat) : Env :=
  fun t => match writer ops t with | some z => if bit B y z = true then V z else e0 t | none => e0 t
def boolOf : Value → Option Bool
  | .bool b => some b
  | _ => none
def wantV (V : Nat → Value) (o : Oper) : Bool :=
  match o.guard with
  | none => true
  | some (j, t) => boolOf (V j) == some t

theorem size_of_some {i : Nat} {o : Oper} (h : ops[i]? = some o) : i < ops.size := by
  rcases Nat.lt_or_ge i ops.size with hh | hh
  · exact hh
  · simp [Array.getElem?_eq_none hh] at h

theorem writer_of (h : regOk n ops = true) {z t : Nat} (hz : (ops[z]?).bind (·.dst) = some t) : writer ops t = some z := by
  have hlt : z < ops.size := by
    cases hx : ops[z]? with
    | none => simp [hx] at hz
    | some o => exact size_of_some hx
  unfold writer
  cases hf : (List.range ops.size).find? (fun z => (ops[z]?).bind (·.dst) == some t) with
  | none =>
    have := List.find?_eq_none.1 hf z (List.mem_range.2 hlt)
    rw [hz] at this
    simp at this
  | some z' =>
    have h' := List.find?_some hf
    simp only [beq_iff_eq] at h'
    by_cases hzz : z' = z
    · rw [hzz]
    · exact absurd rfl (regOk_ne h hzz h' hz)

theorem writer_some {z t : Nat} (h : writer ops t = some z) : (ops[z]?).bind (·.dst) = some t ∧ z < ops.size := by
  unfold writer at h
  have h' := List.find?_some h
  have hm := List.mem_of_find?_eq_some h
  exact ⟨by simpa using h', List.mem_range.1 hm⟩

structure DOk (n : Nat) (ops : Array Oper) (B : Array Nat) : Prop where
  reg : regOk n ops = true
  back : ∀ i, ∀ p ∈ predsOf ops i, p < i
  irr : ∀ i, i < ops.size → bit B i i = false
  cl : ∀ i, i < ops.size → ∀ y, y < ops.size → bit B i y = true → ∃ p ∈ predsOf ops i, p = y ∨ bit B p y = true
  nosel : ∀ (i : Nat) (o : Oper), ops[i]? = some o → ∀ cs b, o.op ≠ .select cs b
  guard : ∀ (i : Nat) (o : Oper), ops[i]? = some o → ∀ j t, o.guard = some (j, t) → j ∈ predsOf ops i ∧ hasDst ops j = true
  names : ∀ (i : Nat) (o : Oper), ops[i]? = some o → ∀ t ∈ looks ops o, ∀ z, writer ops t = some z → z = i ∨ (bit B i z = true ∧ bit B z i = false) ∨ (bit B z i = true ∧ bit B i z = false)

theorem mem_has {D : List Nat} {i : Nat} : has D i = true ↔ i ∈ D := by
  induction D with
  | nil => simp [has]
  | cons x r ih =>
    rw [has_cons, Bool.or_eq_true, ih, List.mem_cons, decide_eq_true_iff]
    exact ⟨fun h => h.imp Eq.symm id, fun h => h.imp Eq.symm id⟩

theorem DOk.of (h : drawOk n ops B = true) : DOk n ops B := by
  unfold drawOk at h
  simp only [Bool.and_eq_true, List.all_eq_true, List.mem_range] at h
  obtain ⟨hreg, h⟩ := h
  refine ⟨hreg, ?_, ?_, ?_, ?_, ?_, ?_⟩
  · intro i p hp
    rcases Nat.lt_or_ge i ops.size with hi | hi
    · exact Nat.blt_eq ▸ (h i hi).1.1.1 p hp
    · simp [predsOf, Array.getElem?_eq_none hi] at hp
  · intro i hi
    have := (h i hi).1.1.2
    exact (Bool.not_eq_true' _).mp this
  · intro i hi y hy hb
    have := (h i hi).1.2 y hy
    simp only [hb, Bool.not_true, Bool.false_or, List.any_eq_true, Bool.or_eq_true] at this
    obtain ⟨p, hp, hpy⟩ := this
    refine ⟨p, hp, hpy.imp (fun h => Nat.eq_of_beq_eq_true h) id⟩
  · intro i o ho cs b hsel
    have := (h i (size_of_some ho)).2
    rw [ho] at this
    simp [notSel, hsel] at this
  · intro i o ho j t hg
    have := (h i (size_of_some ho)).2
    rw [ho] at this
    simp only [Bool.and_eq_true, hg] at this
    exact ⟨mem_has.1 this.1.2.1, this.1.2.2⟩
  · intro i o ho t ht z hz
    obtain ⟨hzd, hzl⟩ := writer_some hz
    have := (h i (size_of_some ho)).2
    rw [ho] at this
    simp only [Bool.and_eq_true, List.all_eq_true, List.mem_range] at this
    have := this.2 z hzl
    rw [hzd] at this
    have hc : (looks ops o).contains t = true := by simpa using ht
    simp only [hc, Bool.not_true, Bool.false_or, Bool.or_eq_true, Bool.and_eq_true, Bool.not_eq_true'] at this
    rcases this with (h1 | h1) | h1
    · exact .inl (Nat.eq_of_beq_eq_true h1)
    · exact .inr (.inl h1)
    · exact .inr (.inr h1)

/-- an operation that stands next sees what it sees in any other order -/
theorem EnvIs.ref (hk : DOk n ops B) {e0 e : Env} {V : Nat → Value} {S : Nat → Bool} (he : EnvIs ops e0 V S e) {i : Nat} {o : Oper} (ho : ops[i]? = some o)
    (hB : ∀ z, z < ops.size → bit B i z = true → S z = true) (hi : S i = false) (cl : ∀ x, S x = true → ∀ z, z < ops.size → bit B x z = true → S z = true) :
    ∀ t ∈ looks ops o, e t = refE ops B e0 V i t := by
  intro t ht
  rw [he t]
  unfold refE
  cases hw : writer ops t with
  | none => rfl
  | some z =>
    obtain ⟨_, hzl⟩ := writer_some hw
    have hil := size_of_some ho
    rcases hk.names i o ho t ht z hw with h | h | h
    · subst h; simp [hi, hk.irr z hil]
    · simp [hB z hzl h.1, h.1]
    · have hS : S z = false := by
        cases hs : S z with
        | false => rfl
        | true => have := cl z hs i hil h.1; rw [hi] at this; cases this
      simp [hS, h.2]

theorem execOp_ref (hk : DOk n ops B) {i : Nat} {o : Oper} (ho : ops[i]? = some o) {e e' : Env} (h : ∀ t ∈ looks ops o, e t = e' t) : execOp (ev e) o = execOp (ev e') o := by
  refine execOp_congr o (hk.nosel i o ho) fun x hx => ?_
  cases x with
  | tmp t =>
    refine h t ?_
    unfold looks Oper.looksAt
    refine List.mem_append.2 (.inl (List.mem_filterMap.2 ⟨.tmp t, by simpa using hx, rfl⟩))
  | _ => rfl

theorem EnvIs.add (hreg : regOk n ops = true) {e0 e : Env} {V : Nat → Value} {S : Nat → Bool} (he : EnvIs ops e0 V S e) {x : Nat} {o : Oper} (ho : ops[x]? = some o) (hx : S x = false) (v : Value) :
    EnvIs ops e0 (fun i => if i = x then v else V i) (fun i => decide (x = i) || S i) (updO e o.dst v) := by
  intro t
  have hwr : ∀ d, o.dst = some d → writer ops d = some x := fun d hd => writer_of hreg (by simp [ho, hd])
  cases hw : writer ops t with
  | none =>
    have hne : ∀ d, o.dst = some d → t ≠ d := fun d hd h => by subst h; rw [hwr _ hd] at hw; cases hw
    have : updO e o.dst v t = e t := by
      cases hd : o.dst with
      | none => rfl
      | some d => simp [updO, upd_eq, hne d hd]
    rw [this, he t, hw]
  | some z =>
    obtain ⟨hzd, hzl⟩ := writer_some hw
    by_cases hzx : z = x
    · subst hzx
      have hd : o.dst = some t := by rw [ho] at hzd; exact hzd
      simp [hd, updO, upd_eq]
    · have hne : ∀ d, o.dst = some d → t ≠ d := fun d hd h => by
        subst h; rw [hwr _ hd] at hw; injection hw with hw; exact hzx hw.symm
      have : updO e o.dst v t = e t := by
        cases hd : o.dst with
        | none => rfl
        | some d => simp [updO, upd_eq, hne d hd]
      have hxz : ¬ x = z := fun h => hzx h.symm
      rw [this, he t, hw]
      simp [hzx, hxz]

theorem EnvIs.valsame {e0 e : Env} {V : Nat → Value} {S : Nat → Bool} (he : EnvIs ops e0 V S e) {x : Nat} (hx : S x = false) (v : Value) :
    EnvIs ops e0 (fun i => if i = x then v else V i) S e := by
  intro t
  rw [he t]
  cases hw : writer ops t with
  | none => rfl
  | some z =>
    by_cases hzx : z = x
    · subst hzx; simp [hx]
    · simp [hzx]

theorem EnvIs.add_old (hreg : regOk n ops = true) {e0 e : Env} {V : Nat → Value} {S : Nat → Bool} (he : EnvIs ops e0 V S e) {x : Nat} {o : Oper} (ho : ops[x]? = some o) (hx : S x = false) :
    EnvIs ops e0 V (fun i => decide (x = i) || S i) (updO e o.dst (V x)) := by
  have h := he.add hreg ho hx (V x)
  have hV : (fun i => if i = x then V x else V i) = V := by
    funext i; by_cases hi : i = x
    · subst hi; simp
    · simp [hi]
  rw [hV] at h
  exact h

theorem refE_same {e0 : Env} {V : Nat → Value} {x y : Nat} (h : bit B y x = false) (v : Value) : refE ops B e0 (fun i => if i = x then v else V i) y = refE ops B e0 V y := by
  funext t
  unfold refE
  cases hw : writer ops t with
  | none => rfl
  | some z =>
    by_cases hzx : z = x
    · subst hzx; simp [h]
    · simp [hzx]

def RunsAt (P : Program) (ops : Array Oper) (B : Array Nat) (e0 : Env) (V : Nat → Value) (y : Nat) (o : Oper) (w : World) : Prop :=
  NextOk P (execOp (ev (refE ops B e0 V y)) o) w fun u w2 => u = V y ∧ w2 = w

/-! a form that answers one value -/
def Det (G : (Value → Prop) → Prop) : Prop := ∀ k, G k → ∃ v, k v ∧ G fun u => u = v
theorem det_rd1 (w : World) (a : Addr) : Det (rd1 w a) := by
  intro k h; unfold rd1 at *; split at h
  · obtain ⟨hs, h⟩ := h
    split at h
    · rename_i v hv; exact ⟨v, h, hs, by simp⟩
    · exact h.elim
  · exact h.elim
theorem det_rdN (w : World) (a : Addr) (n : Nat) (F : Array Value → (Value → Prop) → Prop) (hF : ∀ cs, Det (F cs)) : Det (fun k => rdN w a n fun cs => F cs k) := by
  intro k h; unfold rdN at *; split at h
  · obtain ⟨hs, h⟩ := h
    obtain ⟨v, hk, hv⟩ := hF _ k h
    exact ⟨v, hk, hs, hv⟩
  · exact h.elim
theorem det_val (v : Value) : Det fun k => k v := fun _ h => ⟨v, h, rfl⟩
theorem det_and (p : Prop) {G : (Value → Prop) → Prop} (h : Det G) : Det (fun k => p ∧ G k) := fun k ⟨hp, hk⟩ => let ⟨v, h1, h2⟩ := h k hk; ⟨v, h1, hp, h2⟩
theorem det_ld1 (x : Value) (w : World) : Det (ld1 x w) := by
  intro k h; unfold ld1 at *; split at h
  · exact det_rd1 _ _ k h
  · exact h.elim
theorem det_ldn (n : Nat) (x : Value) (w : World) : Det (ldn n x w) := by
  intro k h; unfold ldn at *; split at h
  · exact det_rdN _ _ _ (fun cs k => k (.agg cs)) (fun cs => det_val _) k h
  · exact h.elim
theorem det_cvBS (x : Value) (w : World) : Det (cvBS x w) := by
  intro k h; unfold cvBS at *; split at h
  · exact ⟨_, h, rfl⟩
  · refine det_rdN _ _ _ (fun cs k => match bytesOf cs.toList with | some l => k (.string ⟨l.toArray⟩) | none => False) (fun cs k h => ?_) k h
    split at h
    · rename_i l hl; exact ⟨_, h, by simp⟩
    · exact h.elim
  · exact h.elim
theorem det_fa (off : Nat) (x : Value) : Det (fa off x) := by
  intro k h; unfold fa at *; split at h
  · exact ⟨_, h, rfl⟩
  · exact h.elim
theorem det_ia (n : Nat) (x i : Value) : Det (ia n x i) := by
  intro k h; unfold ia at *; split at h
  · exact ⟨_, h.2, h.1, rfl⟩
  · exact h.elim
theorem det_iaA (len n : Nat) (x i : Value) : Det (iaA len n x i) := by
  intro k h; unfold iaA at *; split at h
  · exact ⟨_, h.2, h.1, rfl⟩
  · exact h.elim
theorem det_ixS (x i : Value) : Det (ixS x i) := by
  intro k h; unfold ixS at *; split at h
  · obtain ⟨h0, h⟩ := h
    split at h
    · exact ⟨_, h, h0, by simp⟩
    · exact h.elim
  · exact h.elim
theorem det_part (agg : Bool) (off n : Nat) (cs : Array Value) : Det (partG agg off n cs) := by
  intro k h; unfold partG at *; split at h
  · exact ⟨_, h, rfl⟩
  · split at h
    · exact ⟨_, h, by simp⟩
    · exact h.elim
theorem det_ixA (len n : Nat) (agg : Bool) (x i : Value) : Det (ixA len n agg x i) := by
  intro k h; unfold ixA at *; split at h
  · exact det_and _ (det_part _ _ _ _) k h
  · exact h.elim
theorem det_fld (agg : Bool) (off n : Nat) (x : Value) : Det (fld agg off n x) := by
  intro k h; unfold fld at *; split at h
  · exact det_part _ _ _ _ k h
  · exact h.elim
theorem det_bnd (x : Option Value) (d y : Nat) (F : Nat → (Value → Prop) → Prop) (hF : ∀ n, Det (F n)) : Det (fun k => bnd x d y fun n => F n k) := by
  intro k h; unfold bnd at *; split at h
  · exact hF _ k h
  · exact det_and _ (hF _) k h
  · exact h.elim
theorem det_slS (x : Value) (lo hi : Option Value) : Det (slS x lo hi) := by
  intro k h; unfold slS at *; split at h
  · exact det_bnd _ _ _ _ (fun h => det_bnd _ _ _ _ fun l => det_val _) k h
  · exact h.elim
theorem det_slL (n : Nat) (x : Value) (lo hi : Option Value) : Det (slL n x lo hi) := by
  intro k h; unfold slL at *; split at h
  · exact det_bnd _ _ _ _ (fun h => det_bnd _ _ _ _ fun l => det_val _) k h
  · exact h.elim
theorem det_slA (len n : Nat) (x : Value) (lo hi : Option Value) : Det (slA len n x lo hi) := by
  intro k h; unfold slA at *; split at h
  · exact det_bnd _ _ _ _ (fun h => det_bnd _ _ _ _ fun l => det_val _) k h
  · exact h.elim
theorem det_bld (l : List (Nat × Nat)) (z : Array Value) (ps : Array (Nat × Value)) : Det (bld l z ps) := by
  intro k h; unfold bld at *; split at h
  · exact ⟨_, h, rfl⟩
  · exact h.elim
theorem det_cvI (kd : IntKind) (x : Value) : Det (cvI kd x) := by
  intro k h; unfold cvI at *; split at h
  · exact ⟨_, h, rfl⟩
  · exact h.elim
theorem det_cvSS (x : Value) : Det (cvSS x) := by
  intro k h; unfold cvSS at *; split at h
  · exact ⟨_, h, rfl⟩
  · exact h.elim
theorem det_lenS (x : Value) : Det (lenS x) := by
  intro k h; unfold lenS at *; split at h
  · exact ⟨_, h, rfl⟩
  · exact h.elim
theorem det_lenL (x : Value) : Det (lenL x) := by
  intro k h; unfold lenL at *; split at h
  · exact ⟨_, h, rfl⟩
  · exact h.elim
theorem det_pk (c a b : Value) : Det (pk c a b) := by
  intro k h; unfold pk at *; split at h
  · exact ⟨_, h, rfl⟩
  · exact h.elim
theorem det_nk (x : Value) : Det (nk x) := by
  intro k h; unfold nk at *; split at h
  · exact ⟨_, h, rfl⟩
  · exact ⟨_, h, rfl⟩
  · exact h.elim
theorem det_qG (s : Sem Value) (w : World) : Det (qG P s w) := fun _ ⟨v, hr, hk⟩ => ⟨v, hk, v, hr, rfl⟩

/-- a pure form's operation answers alike in each world -/
theorem pure_low {o : Oper} {ρ : Operand → Value} {l : LOp} (hl : lower P o = l) (hp : pureL l = true) {w : World} {k : Value → World → Prop} (h : lowK P o l ρ w k) :
    ∃ v, k v w ∧ ∀ w', lowK P o l ρ w' fun u w2 => u = v ∧ w2 = w' := by
  have D : ∀ {G : (Value → Prop) → Prop}, Det G → G (fun v => k v w) → ∃ v, k v w ∧ ∀ w' : World, G fun u => u = v ∧ w' = w' := by
    intro G hG hk
    obtain ⟨v, h1, h2⟩ := hG _ hk
    refine ⟨v, h1, fun w' => ?_⟩
    have : (fun u => u = v ∧ w' = w') = fun u => u = v := by funext u; simp
    rw [this]; exact h2
  cases l with
  | val x => exact ⟨_, h, fun w' => ⟨rfl, rfl⟩⟩
  | lenC n => exact ⟨_, h, fun w' => ⟨rfl, rfl⟩⟩
  | pick c a b => exact D (det_pk _ _ _) h
  | nk x => exact D (det_nk _) h
  | fa off x => exact D (det_fa _ _) h
  | ia n x i => exact D (det_ia _ _ _) h
  | iaA len n x i => exact D (det_iaA _ _ _ _) h
  | ixS x i => exact D (det_ixS _ _) h
  | ixA len n a x i => exact D (det_ixA _ _ _ _ _) h
  | slS x lo hi => exact D (det_slS _ _ _) h
  | slL n x lo hi => exact D (det_slL _ _ _ _) h
  | slA len n x lo hi => exact D (det_slA _ _ _ _ _) h
  | fld a off n x => exact D (det_fld _ _ _ _) h
  | bld ls T ps => exact D (det_bld _ _ _) h
  | cvI kd x => exact D (det_cvI _ _) h
  | cvSS x => exact D (det_cvSS _) h
  | lenS x => exact D (det_lenS _) h
  | lenL x => exact D (det_lenL _) h
  | _ => cases hp

/-- an operation answers 'v', and leaves the world -/
def Says1 (P : Program) (s : Sem Next) (v : Value) (w : World) : Prop := NextOk P s w fun u w2 => u = v ∧ w2 = w
theorem rawQ_some {ρ : Operand → Value} {o : Oper} (h : rawQ o.op = true) : ∃ s, qsem ρ o.type o.op = some s := by
  cases ho : o.op with
  | call c =>
    rw [ho] at h
    simp only [rawQ] at h
    split at h
    · rename_i b hc
      simp only [qsem, hc, h, cond_true]
      cases b <;> first | exact ⟨_, rfl⟩ | cases h
    · cases h
  | _ => rw [ho] at h; first | exact ⟨_, rfl⟩ | cases h
theorem quiet_ok {o : Oper} {ρ : Operand → Value} (hρ : ∀ f, ρ (.func f) = .func (.func f) #[] #[]) {w : World} {k : Value → World → Prop} (hq : quietOp P o = true) (h : opK P o ρ w k) :
    ∃ v, Says1 P (execOp ρ o) v w ∧ k v w ∧
      ((∃ c, stbO P o ρ v = some c ∧ ∀ w', c w' → Says1 P (execOp ρ o) v w') ∨ (stbO P o ρ v = none ∧ ∀ w', Says1 P (execOp ρ o) v w')) := by
  have back : ∀ (l : LOp) (v : Value) (w' : World), lower P o = l → (lowK P o l ρ w' fun u w2 => u = v ∧ w2 = w') → Says1 P (execOp ρ o) v w' := by
    intro l v w' hl hk
    refine opK_ok hρ ?_
    unfold opK
    rw [hl]
    exact hk
  have byPure : ∀ l, lower P o = l → pureL l = true → (stbO P o ρ = fun _ => none) → ∃ v, Says1 P (execOp ρ o) v w ∧ k v w ∧
      ((∃ c, stbO P o ρ v = some c ∧ ∀ w', c w' → Says1 P (execOp ρ o) v w') ∨ (stbO P o ρ v = none ∧ ∀ w', Says1 P (execOp ρ o) v w')) := by
    intro l hl hp hst
    unfold opK at h
    rw [hl] at h
    obtain ⟨v, hk, hall⟩ := pure_low hl hp h
    exact ⟨v, back l v w hl (hall w), hk, .inr ⟨by rw [hst], fun w' => back l v w' hl (hall w')⟩⟩
  have byRead : ∀ (l : LOp) (G : World → (Value → Prop) → Prop), lower P o = l → (∀ w' K, lowK P o l ρ w' K = G w' fun v => K v w') → (∀ w', Det (G w')) → (stbO P o ρ = fun v => some fun w' => G w' fun u => u = v) →
      ∃ v, Says1 P (execOp ρ o) v w ∧ k v w ∧
      ((∃ c, stbO P o ρ v = some c ∧ ∀ w', c w' → Says1 P (execOp ρ o) v w') ∨ (stbO P o ρ v = none ∧ ∀ w', Says1 P (execOp ρ o) v w')) := by
    intro l G hl hG hdet hst
    unfold opK at h
    rw [hl, hG] at h
    obtain ⟨v, hk, hv⟩ := hdet w _ h
    have fin : ∀ w', (G w' fun u => u = v) → Says1 P (execOp ρ o) v w' := by
      intro w' hg
      refine back l v w' hl ?_
      rw [hG]
      have : (fun u => u = v ∧ w' = w') = fun u => u = v := by funext u; simp
      rw [this]; exact hg
    exact ⟨v, fin w hv, hk, .inl ⟨_, by rw [hst], fin⟩⟩
  unfold quietOp at hq
  cases hl : lower P o with
  | ld1 x => exact byRead _ (fun w' => ld1 (ρ x) w') hl (fun _ _ => rfl) (fun w' => det_ld1 _ _) (by funext v; unfold stbO; rw [hl])
  | ldn n x => exact byRead _ (fun w' => ldn n (ρ x) w') hl (fun _ _ => rfl) (fun w' => det_ldn _ _ _) (by funext v; unfold stbO; rw [hl])
  | cvBS x => exact byRead _ (fun w' => cvBS (ρ x) w') hl (fun _ _ => rfl) (fun w' => det_cvBS _ _) (by funext v; unfold stbO; rw [hl])
  | raw =>
    rw [hl] at hq
    obtain ⟨s, hs⟩ := rawQ_some (ρ := ρ) hq
    unfold opK at h
    rw [hl] at h
    simp only [lowK, hs] at h
    obtain ⟨v, hr, hk⟩ := h
    have fin : ∀ w', stb P s v w' → Says1 P (execOp ρ o) v w' := by
      intro w' hw'
      refine back _ v w' hl ?_
      simp only [lowK, hs]
      exact ⟨v, hw', by simp⟩
    exact ⟨v, fin w hr, hk, .inl ⟨stb P s v, by unfold stbO; rw [hl]; simp only [hs], fin⟩⟩
  | _ => rw [hl] at hq; first | exact byPure _ hl hq (by funext v; unfold stbO; rw [hl]) | cases hq
end Go.Q
