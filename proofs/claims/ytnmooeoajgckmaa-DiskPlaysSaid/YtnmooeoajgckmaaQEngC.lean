/- Part of the proof (text QEngC): an engine, rules or contracts of the functions; it states nothing of the claim by itself. -/
import Derived.Test.YtnmooeoajgckmaaQEngB
/-
  The engine, part C: a region whose order is drawn. One order is reckoned ('drawK': what is quiet as early as may be, then each operation that may turn the world that can stand next), and of each quiet operation that is free of a later turning one: that its answer stays ('stab').
-/
set_option linter.unusedVariables false
set_option linter.unusedSimpArgs false
namespace Go.Q

def has : List Nat → Nat → Bool
  | [], _ => false
  | x :: r, i => bif Nat.beq x i then true else has r i
theorem nbeq (x i : Nat) : Nat.beq x i = decide (x = i) := by
  by_cases h : x = i
  · subst h; simp
  · have : Nat.beq x i = false := by rw [Bool.eq_false_iff]; exact fun hh => h (Nat.eq_of_beq_eq_true hh)
    simp [h, this]
theorem has_cons (x : Nat) (r : List Nat) (i : Nat) : has (x :: r) i = (decide (x = i) || has r i) := by
  simp only [has, nbeq]
  by_cases h : x = i <;> simp [h]

def predsOf (ops : Array Oper) (i : Nat) : List Nat :=
  match ops[i]? with
  | some o => (o.after.toList.filter (Region.binds .any)).map (·.on)
  | none => []
def isReady (ops : Array Oper) (D : List Nat) (i : Nat) : Bool := !has D i && (predsOf ops i).all (has D)
/-- the world is not looked at -/
def pureL : LOp → Bool
  | .val _ | .pick .. | .nk _ | .fa .. | .ia .. | .iaA .. | .ixS .. | .ixA .. | .slS .. | .slL .. | .slA .. | .fld .. | .bld .. | .cvI .. | .cvSS _ | .lenS _ | .lenL _ | .lenC _ => true
  | _ => false
def rawQ : Op → Bool
  | .binOp .. | .unOp .. | .build .. | .load .. | .fieldAddr .. | .indexAddr .. | .lookup .. | .extract .. | .makeFunc .. | .makeInterface .. | .slice .. => true
  | .call c => match c.callee with | .builtin b => quietB b | _ => false
  | _ => false
def quietOp (P : Program) (o : Oper) : Bool :=
  match lower P o with
  | .ld1 _ | .ldn .. | .cvBS _ => true
  | .raw => rawQ o.op
  | l => pureL l
def quietAt (P : Program) (ops : Array Oper) (i : Nat) : Bool := match ops[i]? with | some o => quietOp P o | none => false
def nextQuiet (P : Program) (ops : Array Oper) (D : List Nat) : Option Nat := (List.range ops.size).find? fun i => isReady ops D i && quietAt P ops i
def readyOps (ops : Array Oper) (D : List Nat) : List Nat := (List.range ops.size).filter (isReady ops D)
def allIn (ops : Array Oper) (D : List Nat) : Bool := (List.range ops.size).all (has D)

def stb (P : Program) (s : Sem Value) (v : Value) (w' : World) : Prop := s.run P w' = .ok v w'
/-- that a quiet operation's answer is the same in another world -/
def stbO (P : Program) (o : Oper) (ρ : Operand → Value) (v : Value) : Option (World → Prop) :=
  match lower P o with
  | .ld1 x => some fun w' => ld1 (ρ x) w' fun u => u = v
  | .ldn n x => some fun w' => ldn n (ρ x) w' fun u => u = v
  | .cvBS x => some fun w' => cvBS (ρ x) w' fun u => u = v
  | .raw => match qsem ρ o.type o.op with
    | some s => some (stb P s v)
    | none => none
  | _ => none
def pdAdd (i : Nat) (c : Option (World → Prop)) (pd : List (Nat × (World → Prop))) : List (Nat × (World → Prop)) :=
  match c with
  | some c => (i, c) :: pd
  | none => pd
def bit (B : Array Nat) (x y : Nat) : Bool := (B.getD x 0).testBit y
def stab (B : Array Nat) (x : Nat) (w : World) (k : Prop) : List (Nat × (World → Prop)) → Prop
  | [] => k
  | (y, c) :: r => bif bit B x y then stab B x w k r else c w ∧ stab B x w k r
def conj : List Nat → (Nat → Prop) → Prop
  | [], _ => True
  | [x], f => f x
  | x :: r, f => f x ∧ conj r f

def guardK (ops : Array Oper) (m : List (Nat × Option Bool)) (i : Nat) (o : Oper) (e : Env) (run skip : Env → List (Nat × Option Bool) → Prop) : Prop :=
  match o.guard with
  | none => run e m
  | some (j, t) =>
    match look m j with
    | some (some b) => bif b == t then run e m else skip e ((i, none) :: m)
    | some none => skip e ((i, none) :: m)
    | none =>
      bif hasDst ops j then bV (e (dstOf ops j))
        (bif t then run (upd e (dstOf ops j) (.bool true)) ((j, some true) :: m) else skip (upd e (dstOf ops j) (.bool true)) ((i, none) :: (j, some true) :: m))
        (bif t then skip (upd e (dstOf ops j) (.bool false)) ((i, none) :: (j, some false) :: m) else run (upd e (dstOf ops j) (.bool false)) ((j, some false) :: m))
      else False

def drawK (P : Program) (ops : Array Oper) (B : Array Nat) : Nat → List Nat → List (Nat × Option Bool) → List (Nat × (World → Prop)) → Env → World → (Env → World → Prop) → Prop
  | 0, _, _, _, _, _, _ => False
  | f + 1, D, m, pd, e, w, k =>
    match nextQuiet P ops D with
    | some i =>
      match ops[i]? with
      | none => False
      | some o =>
        guardK ops m i o e
          (fun e m' => opK P o (ev e) w fun v _ => drawK P ops B f (i :: D) m' (pdAdd i (stbO P o (ev e) v) pd) (updO e o.dst v) w k)
          (fun e m' => drawK P ops B f (i :: D) m' pd (updO e o.dst undef) w k)
    | none =>
      match readyOps ops D with
      | [] => bif allIn ops D then k e w else False
      | es => conj es fun x =>
        match ops[x]? with
        | none => False
        | some o =>
          guardK ops m x o e
            (fun e m' => opK P o (ev e) w fun v w' => stab B x w' (drawK P ops B f (x :: D) m' pd (updO e o.dst v) w' k) pd)
            (fun e m' => drawK P ops B f (x :: D) m' pd (updO e o.dst undef) w k)

def looks (ops : Array Oper) (o : Oper) : List Nat := Oper.looksAt ops o
def notSel (o : Oper) : Bool := match o.op with | .select .. => false | _ => true
/-- static: the edges lead back; 'B' is closed; each slot that an operation names is written ahead of it, or behind it, or by it -/
def drawOk (n : Nat) (ops : Array Oper) (B : Array Nat) : Bool :=
  regOk n ops &&
  (List.range ops.size).all fun i =>
    (predsOf ops i).all (fun p => Nat.blt p i) &&
    !bit B i i &&
    (List.range ops.size).all (fun y => !bit B i y || (predsOf ops i).any fun p => Nat.beq p y || bit B p y) &&
    (match ops[i]? with
    | none => true
    | some o =>
      notSel o && (match o.guard with | none => true | some (j, _) => has (predsOf ops i) j && hasDst ops j) &&
      (List.range ops.size).all fun z =>
        match (ops[z]?).bind (·.dst) with
        | none => true
        | some d => !(looks ops o).contains d || Nat.beq z i || (bit B i z && !bit B z i) || (bit B z i && !bit B i z))
end Go.Q
