/- Part of the proof (text QEngG): an engine, rules or contracts of the functions; it states nothing of the claim by itself. -/
import Derived.Test.YtnmooeoajgckmaaQEngF
import Derived.LoopN
import Derived.Scope
/- The engine, part G: 'lift': a body's weakest precondition, by recursion over the code; and that it is sound. -/
set_option linter.unusedVariables false
set_option linter.unusedSimpArgs false
namespace Go.Q
variable {P : Program}

abbrev Kont := Exit → Env → World → Prop
def seqK (N : Env → World → Prop) (K : Kont) : Kont := fun x e w => match x with | .normal => N e w | x => K x e w
def blockK (id : Nat) (K : Kont) : Kont := fun x e w => match x with | .exit i => bif Nat.beq i id then K .normal e w else K (.exit i) e w | x => K x e w
def loopN (F : Kont → Env → World → Prop) (K : Kont) : Nat → Env → World → Prop
  | 0, _, _ => False
  | m + 1, e, w => F (seqK (loopN F K m) K) e w

def scopeK (K : Kont) : Kont := fun x e w => match x with | .goto _ => False | x => K x e w
/-- what is known of a test's operand in its branches -/
def known (e : Env) (c : Operand) (b : Bool) : Env := match c with | .tmp t => upd e t (.bool b) | _ => e
theorem known_self {e : Env} {c : Operand} {b : Bool} (h : ev e c = .bool b) : known e c b = e := by
  cases c with
  | tmp t => exact upd_self h
  | _ => rfl
def lift (P : Program) (n : Nat) : Code → Kont → Env → World → Prop
  | .skip, K, e, w => K .normal e w
  | .region _ ops false, K, e, w => bif regOk n ops then opsK P ops ops.toList 0 [] e w (K .normal) else False
  | .region _ ops true, K, e, w => bif drawOk n ops (Region.before ops) then drawK P ops (Region.before ops) (2 * ops.size + 2) [] [] [] e w.drew (K .normal) else False
  | .seq x y, K, e, w => lift P n x (seqK (lift P n y K) K) e w
  | .cond c x y, K, e, w => bV (ev e c) (lift P n x K (known e c true) w) (lift P n y K (known e c false) w)
  | .block id c, K, e, w => lift P n c (blockK id K) e w
  | .loop c, K, e, w => ∃ m, loopN (lift P n c) K m e w
  | .exit id, K, e, w => K (.exit id) e w
  | .ret, K, e, w => K .ret e w
  | .scope c, K, e, w => lift P n c (scopeK K) e w
  | .label _, K, e, w => K .normal e w
  | _, _, _, _ => False

def Fits (n : Nat) (K : Kont) (Q : Exit → Act → World → Prop) : Prop := ∀ x a e w, Ag n a e → K x e w → Q x a w

theorem Fits.seq {n : Nat} {K : Kont} {Q : Exit → Act → World → Prop} {N : Env → World → Prop} {R : Act → World → Prop} (h : Fits n K Q) (hn : ∀ a e w, Ag n a e → N e w → R a w) :
    Fits n (seqK N K) (Exit.then R Q) := by
  intro x a e w hag hk
  cases x with
  | normal => exact hn _ _ _ hag hk
  | _ => exact h _ _ _ _ hag hk

theorem Fits.block {n : Nat} {K : Kont} {Q : Exit → Act → World → Prop} {id : Nat} (h : Fits n K Q) : Fits n (blockK id K) (Exit.inBlock id Q) := by
  intro x a e w hag hk
  cases x with
  | exit i =>
    unfold blockK at hk
    unfold Exit.inBlock
    simp only at hk ⊢
    rw [nbeq] at hk
    by_cases hi : i = id
    · simp only [hi, decide_true, cond_true] at hk
      simp only [hi, if_true]
      exact h _ _ _ _ hag hk
    · simp only [hi, decide_false, cond_false] at hk
      simp only [hi, if_false]
      exact h _ _ _ _ hag hk
  | _ => exact h _ _ _ _ hag hk

theorem inv_start {n : Nat} {ops : Array Oper} {B : Array Nat} {a : Act} {e : Env} {w : World} (hag : Ag n a e) :
    Inv P n ops B e (listedS (Array.replicate ops.size false)) [] [] [] (fun _ => undef) a e w := by
  have hS : ∀ i, listedS (Array.replicate ops.size false) i = false := by
    intro i
    unfold listedS
    by_cases h : i < ops.size <;> simp [Array.getD, h]
  have hE : ∀ S : Nat → Bool, (∀ i, S i = false) → EnvIs ops e (fun _ => undef) S e := by
    intro S h t
    cases hw : writer ops t with
    | none => rfl
    | some z => simp [h z]
  exact {
    agA := ⟨e, hag, hE _ hS⟩
    envC := hE _ fun _ => rfl
    sub := fun i hi => by rw [hS i] at hi; cases hi
    lt := fun i hi => by cases hi
    clS := fun x hx => by rw [hS x] at hx; cases hx
    clD := fun x hx => by cases hx
    memo := ⟨fun j b h => by cases h⟩
    pend := fun y o _ hy => by cases hy
    now := fun y o _ hy => by cases hy
    grd := fun y o _ hy => by cases hy }

theorem lift_ok (hm : P.follows .mixedOrders = true) {n : Nat} : ∀ (c : Code) {K : Kont} {Q : Exit → Act → World → Prop} {e : Env} {a : Act} {w : World},
    Fits n K Q → Ag n a e → lift P n c K e w → c.wp P Q a w := by
  intro c
  induction c with
  | skip => intro K Q e a w hf hag h; exact wp_skip (hf _ _ _ _ hag h)
  | region id ops draw =>
    intro K Q e a w hf hag h
    cases draw with
    | false =>
      unfold lift at h
      cases hr : regOk n ops with
      | false => rw [hr] at h; exact h.elim
      | true =>
        rw [hr] at h
        exact wp_region_list (opsK_ok hr (fun a e w hag hk => hf _ _ _ _ hag hk) ops.toList 0 [] e w a (fun j => by simp) (fun j b hj => by cases hj) hag (fun j b hj => by cases hj) h)
    | true =>
      unfold lift at h
      cases hr : drawOk n ops (Region.before ops) with
      | false => rw [hr] at h; exact h.elim
      | true =>
        rw [hr] at h
        have hS : ∀ i, listedS (Array.replicate ops.size false) i = false := by
          intro i
          unfold listedS
          by_cases h : i < ops.size <;> simp [Array.getD, h]
        refine wp_region_any hm (drawK_any (DOk.of hr) (fun a e w hag hk => hf _ _ _ _ hag hk) ops.size _ [] [] [] (fun _ => undef) a e _ _ (by simp) ?_ (inv_start hag) h)
        rw [List.filter_eq_self.2 (fun i _ => by simp [hS i])]
        simp
  | seq x y ihx ihy =>
    intro K Q e a w hf hag h
    exact wp_seq (ihx (hf.seq fun a e w hag hn => ihy hf hag hn) hag h)
  | cond c x y ihx ihy =>
    intro K Q e a w hf hag h
    rcases bV_cases (T := lift P n x K (known e c true) w) (F := lift P n y K (known e c false) w) h with ⟨hc, h⟩ | ⟨hc, h⟩
    · rw [known_self hc] at h
      rw [← hag.eval] at hc
      exact wp_cond_true hc (ihx hf hag h)
    · rw [known_self hc] at h
      rw [← hag.eval] at hc
      exact wp_cond_false hc (ihy hf hag h)
  | block id c ih => intro K Q e a w hf hag h; exact wp_block (ih hf.block hag h)
  | loop c ih =>
    intro K Q e a w hf hag h
    obtain ⟨m, h⟩ := h
    refine wp_loop_rounds m ?_
    induction m generalizing e a w with
    | zero => exact h.elim
    | succ m ihm => exact ih (hf.seq fun a e w hag hn => ihm hag hn) hag h
  | rangeFunc f ps asg body => intro K Q e a w hf hag h; exact h.elim
  | exit id => intro K Q e a w hf hag h; exact wp_exit (hf _ _ _ _ hag h)
  | scope c ih =>
    intro K Q e a w hf hag h
    refine wp_scope_straight (ih (K := scopeK K) ?_ hag h)
    intro x a e w hag hk
    cases x with
    | goto l => exact hk.elim
    | _ => exact hf _ _ _ _ hag hk
  | label l => intro K Q e a w hf hag h; exact wp_label (hf _ _ _ _ hag h)
  | goto l => intro K Q e a w hf hag h; exact h.elim
  | ret => intro K Q e a w hf hag h; exact wp_ret (hf _ _ _ _ hag h)
  | refuse why => intro K Q e a w hf hag h; exact h.elim

/-- what a function hands back -/
def resV (e : Env) : List ResultVar → List Value
  | [] => []
  | .tmp t :: r => e t :: resV e r
  | .cell _ _ :: r => undef :: resV e r
def allTmp : List ResultVar → Bool
  | [] => true
  | .tmp _ :: r => allTmp r
  | .cell _ _ :: _ => false
def oneOr : List Value → Value
  | [v] => v
  | vs => .tuple vs.toArray
/-- the results that lie in memory are read at the end -/
def resG (P : Program) (e : Env) (w : World) : List ResultVar → (List Value → Prop) → Prop
  | [], k => k []
  | .tmp t :: r, k => resG P e w r fun vs => k (e t :: vs)
  | .cell a T :: r, k => qG P (do loadVar T (← asAddr (e a))) w fun v => resG P e w r fun vs => k (v :: vs)
def finK (P : Program) (rs : List ResultVar) (R : Value → World → Prop) : Kont := fun x e w =>
  match x with
  | .normal | .ret => resG P e w rs fun vs => R (oneOr vs) w
  | _ => False

theorem results_run {e : Env} {w : World} {tmps : Array Value} (he : ∀ t, tmps.getD t undef = e t) : ∀ (rs : List ResultVar) {k : List Value → Prop}, resG P e w rs k →
    ∃ vs, (rs.mapM (fun | .tmp t => pure (tmps.getD t undef) | .cell a t => do loadVar t (← asAddr (tmps.getD a undef)) : ResultVar → Sem Value)).run P w = .ok vs w ∧ k vs := by
  intro rs
  induction rs with
  | nil => intro k h; exact ⟨[], rfl, h⟩
  | cons r rs ih =>
    intro k h
    cases r with
    | tmp t =>
      obtain ⟨vs, hr, hk⟩ := ih h
      refine ⟨e t :: vs, ?_, hk⟩
      rw [List.mapM_cons]
      simp only [he] at hr ⊢
      rw [Sem.run_bind, show (pure (e t) : Sem Value).run P w = .ok (e t) w from rfl]
      simp only [Result.andThen_ok, Sem.run_bind, hr]
      rfl
    | cell a T =>
      obtain ⟨v, hv, h⟩ := h
      obtain ⟨vs, hr, hk⟩ := ih h
      refine ⟨v :: vs, ?_, hk⟩
      rw [List.mapM_cons]
      simp only [he] at hr ⊢
      rw [Sem.run_bind, hv]
      simp only [Result.andThen_ok, Sem.run_bind, hr]
      rfl

def envOf (args : List Value) : Env := fun t => args.getD t undef

theorem calls_lift (hm : P.follows .mixedOrders = true) {f : FuncId} {fn : Func} {c : Code} {args : List Value} {w : World} {R : Value → World → Prop}
    (hf : P.funcs[f]? = some fn) (hb : fn.body = some c) (hn : Nat.ble args.length fn.ntmps = true)
    (h : lift P fn.ntmps c (finK P fn.results.toList R) (envOf args) w) : callG P f args.toArray w R := by
  unfold callG
  refine calls_of_wp hf hb ?_
  refine lift_ok hm c (K := finK P fn.results.toList R) ?_ ?_ h
  · intro x a e w hag hk
    have main : (resG P e w fn.results.toList fun vs => R (oneOr vs) w) → a.defers = [] ∧ ∃ v, (results fn a.tmps).run P w = .ok v w ∧ ∃ v', Ending.returned v = Ending.returned v' ∧ R v' w := by
      intro hk
      obtain ⟨vs, hr, hR⟩ := results_run hag.eq fn.results.toList hk
      refine ⟨hag.defers, oneOr vs, ?_, _, rfl, hR⟩
      unfold results
      rw [Array.mapM_eq_mapM_toList]
      simp only [Sem.run_bind, Sem.run_map]
      erw [hr]
      simp only [Result.andThen_ok]
      cases vs with
      | nil => rfl
      | cons v r => cases r with
        | nil => rfl
        | cons u r => simp [oneOr, pure]
    cases x with
    | normal => exact main hk
    | ret => exact main hk
    | _ => exact hk.elim
  · have hn' : args.length ≤ fn.ntmps := Nat.le_of_ble_eq_true hn
    refine ⟨rfl, by simp; omega, fun t => ?_⟩
    unfold envOf
    simp only [Array.getD_eq_getD_getElem?, List.getD_eq_getElem?_getD]
    rw [Array.getElem?_append]
    by_cases ht : t < args.length
    · simp [ht]
    · simp only [List.size_toArray, ht, if_false]
      have : args[t]? = none := by simp; omega
      rw [this]
      by_cases h2 : t - args.length < fn.ntmps - args.length
      · simp [h2]
      · simp [h2]

theorem calls_lift_eq (hm : P.follows .mixedOrders = true) {f : FuncId} {fn : Func} {c : Code} {args : List Value} {w : World} {R : Value → World → Prop} {n : Nat} {rs : List ResultVar} {X X' : Prop}
    (hf : P.funcs[f]? = some fn) (hb : fn.body = some c) (hn : Nat.ble args.length fn.ntmps = true) (hn' : fn.ntmps = n) (hrs : fn.results.toList = rs)
    (heq : lift P n c (finK P rs R) (envOf args) w = X) (hX : X' = X) (h : X') : callG P f args.toArray w R := by
  subst hn' hrs hX
  exact calls_lift hm hf hb hn (heq.mpr h)

/-! for the printed texts -/
def sub : Code → List Nat → Code
  | c, [] => c
  | .seq x _, 0 :: r => sub x r
  | .seq _ y, _ :: r => sub y r
  | .cond _ x _, 0 :: r => sub x r
  | .cond _ _ y, _ :: r => sub y r
  | .block _ c, _ :: r => sub c r
  | .loop c, _ :: r => sub c r
  | .scope c, _ :: r => sub c r
  | c, _ => c
def bodyOf (f : Func) : Code := f.body.getD .skip
def loopV (F : (List Value → World → Prop) → List Value → World → Prop) : Nat → List Value → World → Prop
  | 0, _, _ => False
  | m + 1, xs, w => F (loopV F m) xs w
theorem seq_seg {n : Nat} {x y : Code} {K : Kont} {Y X : Env → World → Prop} (hy : ∀ e w, lift P n y K e w = Y e w) (hx : ∀ e w, lift P n x (seqK Y K) e w = X e w) :
    ∀ e w, lift P n (.seq x y) K e w = X e w := by
  intro e w
  have h : lift P n y K = Y := funext fun e => funext fun w => hy e w
  show lift P n x (seqK (lift P n y K) K) e w = _
  rw [h, hx]
def seqsC : List Code → Code → Code
  | [], y => y
  | c :: r, y => .seq c (seqsC r y)
def liftsC (P : Program) (n : Nat) : List Code → (Env → World → Prop) → Kont → Env → World → Prop
  | [], Y, _ => Y
  | c :: r, Y, K => lift P n c (seqK (liftsC P n r Y K) K)
theorem segs_eq {n : Nat} {l : List Code} {y : Code} {K : Kont} {Y X : Env → World → Prop} (hy : ∀ e w, lift P n y K e w = Y e w) (hx : ∀ e w, liftsC P n l Y K e w = X e w) :
    ∀ e w, lift P n (seqsC l y) K e w = X e w := by
  have key : ∀ l : List Code, lift P n (seqsC l y) K = liftsC P n l Y K := by
    intro l
    induction l with
    | nil => exact funext fun e => funext fun w => hy e w
    | cons c r ih =>
      show lift P n c (seqK (lift P n (seqsC r y) K) K) = _
      rw [ih]
      rfl
  intro e w
  rw [key, hx]
theorem cond_seg {n : Nat} {c : Operand} {x y : Code} {K : Kont} {Y X : Env → World → Prop} (hx : ∀ e w, lift P n x K e w = X e w) (hy : ∀ e w, lift P n y K e w = Y e w) :
    ∀ e w, lift P n (.cond c x y) K e w = bV (ev e c) (X (known e c true) w) (Y (known e c false) w) := by
  intro e w
  show bV (ev e c) (lift P n x K (known e c true) w) (lift P n y K (known e c false) w) = _
  rw [hx, hy]
theorem loop_seg {n : Nat} {c : Code} {K : Kont} {sel : Env → List Value} {F : (List Value → World → Prop) → List Value → World → Prop}
    (h : ∀ N e w, lift P n c (seqK (fun e w => N (sel e) w) K) e w = F N (sel e) w) : ∀ e w, lift P n (.loop c) K e w = ∃ m, loopV F m (sel e) w := by
  have key : ∀ m e w, loopN (lift P n c) K m e w = loopV F m (sel e) w := by
    intro m
    induction m with
    | zero => intro e w; rfl
    | succ m ih =>
      intro e w
      have hm : loopN (lift P n c) K m = fun e w => loopV F m (sel e) w := funext fun e => funext fun w => ih e w
      show lift P n c (seqK (loopN (lift P n c) K m) K) e w = F (loopV F m) (sel e) w
      rw [hm, h]
  intro e w
  show (∃ m, loopN (lift P n c) K m e w) = _
  simp only [key]
end Go.Q
