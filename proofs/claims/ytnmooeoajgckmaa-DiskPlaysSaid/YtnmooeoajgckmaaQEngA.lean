/- Part of the proof (text QEngA): an engine, rules or contracts of the functions; it states nothing of the claim by itself. -/
import Derived.Orders
import Derived.Tactics
import Derived.Laws.World
/-
  The engine, part A: a weakest precondition of a function's code, reckoned by recursion over the code ('lift'), whose environment is a function of slots. Each operation is brought to a form of its own ('lower'), in which types are numbers of cells.
-/
set_option linter.unusedVariables false
set_option linter.unusedSimpArgs false
namespace Go.Q

abbrev Env := Nat → Value
def upd (e : Env) (d : Nat) (v : Value) : Env := fun t => bif Nat.beq t d then v else e t
def updO (e : Env) : Option Nat → Value → Env
  | none, _ => e
  | some d, v => upd e d v
def ev (e : Env) : Operand → Value
  | .tmp t => e t
  | .const v => v
  | .global g => .pointer (some ⟨g, 0, none⟩)
  | .func f => .func (.func f) #[] #[]

/-! ### memory -/
/-- a block is another one -/
def setBlk (w : World) (b : Nat) (o : Obj) : World := { w with heap := w.heap.setIfInBounds b o }
def splice (c : Array Value) (o : Nat) (vs : Array Value) : Array Value := (c.toList.take o ++ vs.toList ++ c.toList.drop (o + vs.size)).toArray
def okFr (fr : Nat × Nat) (o n : Nat) : Prop := fr.2 ≤ o ∨ o + n ≤ fr.1 ∨ fr.2 ≤ fr.1
def rep (zero : Array Value) (n : Nat) : Array Value := (Array.range n).map fun i => zero[i % zero.size]!
def one (v : Value) : Bool := match v with | .agg _ | .tuple _ => false | _ => true
/-- a cell is read -/
def rd1 (w : World) (a : Addr) (k : Value → Prop) : Prop :=
  match w.heap[a.block]? with
  | some (.cells c _ _) => a.spot = none ∧ match c[a.off]? with | some v => k v | none => False
  | _ => False
/-- so many cells are read -/
def rdN (w : World) (a : Addr) (n : Nat) (k : Array Value → Prop) : Prop :=
  match w.heap[a.block]? with
  | some (.cells c _ _) => (a.spot = none ∧ a.off + n ≤ c.size) ∧ k (c.extract a.off (a.off + n))
  | _ => False
def wr1 (w : World) (a : Addr) (v : Value) (k : World → Prop) : Prop :=
  match w.heap[a.block]? with
  | some (.cells c T fr) => (a.spot = none ∧ a.off < c.size ∧ okFr fr a.off 1) ∧ k (setBlk w a.block (.cells (c.setIfInBounds a.off v) T fr))
  | _ => False
def wrN (w : World) (a : Addr) (vs : Array Value) (k : World → Prop) : Prop :=
  match w.heap[a.block]? with
  | some (.cells c T fr) => (a.spot = none ∧ a.off + vs.size ≤ c.size ∧ okFr fr a.off vs.size ∧ vs.all one = true) ∧ k (setBlk w a.block (.cells (splice c a.off vs) T fr))
  | _ => False

/-! ### the operations' forms -/
inductive LOp where
  | val (x : Operand)
  | pick (c a b : Operand)
  | nk (x : Operand)
  | ld1 (x : Operand)
  | ldn (n : Nat) (x : Operand)
  | st1 (x v : Operand)
  | stn (n : Nat) (x v : Operand)
  | fa (off : Nat) (x : Operand)
  | ia (n : Nat) (x i : Operand)
  | iaA (len n : Nat) (x i : Operand)
  | ixS (x i : Operand)
  | ixA (len n : Nat) (agg : Bool) (x i : Operand)
  | slS (x : Operand) (lo hi : Option Operand)
  | slL (n : Nat) (x : Operand) (lo hi : Option Operand)
  | slA (len n : Nat) (x : Operand) (lo hi : Option Operand)
  | fld (agg : Bool) (off n : Nat) (x : Operand)
  | bld (places : List (Nat × Nat)) (T : TypeId) (ps : Array (Nat × Operand))
  | new (T : TypeId)
  | box (T : TypeId) (x : Operand)
  | bsl (e n len : Nat) (ps : Array (Nat × Operand))
  | mk (e n bytes : Nat) (l c : Operand)
  | cvI (k : IntKind) (x : Operand)
  | cvSS (x : Operand)
  | cvBS (x : Operand)
  | cvSB (e : Nat) (x : Operand)
  | lenS (x : Operand)
  | lenL (x : Operand)
  | lenC (n : Nat)
  | app (e n bytes : Nat) (s x : Operand)
  | cp (n : Nat) (d s : Operand)
  | clr (e n : Nat) (x : Operand)
  | call (f : FuncId) (args : Array Operand)
  | callX (f : FuncId) (args : Array Operand)
  | callV (x : Operand) (args : Array Operand)
  | raw

def szO (P : Program) (t : TypeId) : Option Nat := (P.info? t).map (·.size)
def aggT : TypeDesc → Bool
  | .struct _ | .array _ _ => true
  | _ => false
def aggO (P : Program) (t : TypeId) : Option Bool := (P.underlying t).map aggT
def zc (P : Program) (t : TypeId) : Array Value := (((P.info? t).bind (·.zero)).getD .nilIface).cells
def hasZ (P : Program) (t : TypeId) (n : Nat) : Bool :=
  match (P.info? t).bind (·.zero) with
  | some z => Nat.beq z.cells.size n
  | none => false
def hasBody (P : Program) (f : FuncId) : Bool :=
  match P.funcs[f]? with
  | some fn => !(fn.name == "runtime.NumGoroutine") && fn.body.isSome
  | none => false
def isU8 (P : Program) (t : TypeId) : Bool := match P.underlying t with | some (.int .u8) => true | _ => false
def placesOf (P : Program) : List Field → Option (List (Nat × Nat))
  | [] => some []
  | f :: r =>
    match szO P f.type, placesOf P r with
    | some n, some l => some ((f.offset, n) :: l)
    | _, _ => none

def lower (P : Program) (o : Oper) : LOp :=
  match o.op with
  | .move x | .assign x => .val x
  | .pick c a b => .pick c a b
  | .nilCheck x => .nk x
  | .load t a =>
    match aggO P t, szO P t with
    | some true, some n => .ldn n a
    | some false, _ => .ld1 a
    | _, _ => .raw
  | .store t a x =>
    match aggO P t, szO P t with
    | some true, some n => .stn n a x
    | some false, some 1 => .st1 a x
    | _, _ => .raw
  | .fieldAddr s x f =>
    match P.underlying s with
    | some (.struct fs) =>
      match fs[f]? with
      | some fd =>
        match szO P fd.type with
        | some (_ + 1) => .fa fd.offset x
        | _ => .raw
      | none => .raw
    | _ => .raw
  | .indexAddr t x i =>
    match P.underlying t with
    | some (.slice e) => match szO P e with | some n => .ia n x i | none => .raw
    | some (.array len e) => match szO P e with | some n => .iaA len n x i | none => .raw
    | _ => .raw
  | .index t x i =>
    match P.underlying t with
    | some .string => .ixS x i
    | some (.array len e) => match szO P e, aggO P e with | some n, some a => .ixA len n a x i | _, _ => .raw
    | _ => .raw
  | .slice t x lo hi none =>
    match P.underlying t with
    | some .string => .slS x lo hi
    | some (.slice e) => match szO P e with | some n => .slL n x lo hi | none => .raw
    | some (.array len e) => match szO P e with | some n => .slA len n x lo hi | none => .raw
    | _ => .raw
  | .field t x f =>
    match P.underlying t with
    | some (.struct fs) =>
      match fs[f]? with
      | some fd => match szO P fd.type, aggO P fd.type with | some n, some a => .fld a fd.offset n x | _, _ => .raw
      | none => .raw
    | _ => .raw
  | .build t ps =>
    match P.underlying t, szO P t with
    | some (.struct fs), some n => match placesOf P fs.toList with | some l => bif hasZ P t n then .bld l t ps else .raw | none => .raw
    | _, _ => .raw
  | .alloc t => match szO P t with | some n => bif hasZ P t n then .new t else .raw | none => .raw
  | .box t x => .box t x
  | .buildSlice t len ps =>
    match P.underlying t with
    | some (.slice e) => match szO P e with | some n => bif hasZ P e n && Nat.ble (len * n) (2 ^ 24) then .bsl e n len ps else .raw | none => .raw
    | _ => .raw
  | .makeSlice t l c =>
    match P.underlying t with
    | some (.slice e) => match P.info? e with | some i => bif hasZ P e i.size then .mk e i.size i.bytes l c else .raw | none => .raw
    | _ => .raw
  | .convert a b x =>
    match P.underlying a, P.underlying b with
    | some (.int _), some (.int k) => .cvI k x
    | some .string, some .string => .cvSS x
    | some (.slice e), some .string => bif isU8 P e then .cvBS x else .raw
    | some .string, some (.slice e) => bif isU8 P e then .cvSB e x else .raw
    | _, _ => .raw
  | .call c =>
    match c.callee with
    | .value (.func f) => bif hasBody P f then .call f c.args else .callX f c.args
    | .value x => .callV x c.args
    | .builtin .len =>
      match c.args.toList, (c.argTypes[0]?).bind P.underlying with
      | [x], some .string => .lenS x
      | [x], some (.slice _) => .lenL x
      | [_], some (.array n _) => .lenC n
      | _, _ => .raw
    | .builtin .append =>
      match c.args.toList, (c.argTypes[0]?).bind P.underlying, (c.argTypes[1]?).bind P.underlying with
      | [s, x], some (.slice e), some d =>
        match d with
        | .int _ => .raw
        | _ => match P.info? e with | some i => bif hasZ P e i.size && Nat.blt 0 i.bytes then .app e i.size i.bytes s x else .raw | none => .raw
      | _, _, _ => .raw
    | .builtin .copy =>
      match c.args.toList, (c.argTypes[0]?).bind P.underlying with
      | [d, s], some (.slice e) => match szO P e with | some n => .cp n d s | none => .raw
      | _, _ => .raw
    | .builtin .clear =>
      match c.args.toList, (c.argTypes[0]?).bind P.underlying with
      | [x], some (.slice e) => match szO P e with | some n => bif hasZ P e n then .clr e n x else .raw | none => .raw
      | _, _ => .raw
    | _ => .raw
  | _ => .raw

/-! ### what they come to -/
/-- what a quiet operation answers: the world stays -/
def qG (P : Program) (s : Sem Value) (w : World) (k : Value → Prop) : Prop := ∃ v, s.run P w = .ok v w ∧ k v
/-- an operation that may turn the world -/
def eG (P : Program) (s : Sem Value) (w : World) (k : Value → World → Prop) : Prop := ∃ v w', s.run P w = .ok v w' ∧ k v w'
def uG (P : Program) (s : Sem Unit) (w : World) (k : World → Prop) : Prop := ∃ w', s.run P w = .ok () w' ∧ k w'
def nG (P : Program) (s : Sem Next) (w : World) (k : Value → World → Prop) : Prop := ∃ v w', s.run P w = .ok (.value v) w' ∧ k v w'
def callG (P : Program) (f : FuncId) (args : Array Value) (w : World) (k : Value → World → Prop) : Prop :=
  Calls P f args w fun e w' => ∃ v, e = .returned v ∧ k v w'
def callV (P : Program) (x : Value) (args : Array Value) (w : World) (k : Value → World → Prop) : Prop :=
  match x with
  | .func (.func f) first captured => hasBody P f = true ∧ callG P f (first ++ args ++ captured) w k
  | _ => False
def nk (x : Value) (k : Value → Prop) : Prop :=
  match x with
  | .pointer (some a) => k (.pointer (some a))
  | .func (.func f) a b => k (.func (.func f) a b)
  | _ => False
def pk (c a b : Value) (k : Value → Prop) : Prop :=
  match c with
  | .bool t => k (bif t then a else b)
  | _ => False
def bV (c : Value) (T F : Prop) : Prop :=
  match c with
  | .bool true => T
  | .bool false => F
  | _ => False
def ld1 (x : Value) (w : World) (k : Value → Prop) : Prop := match x with | .pointer (some a) => rd1 w a k | _ => False
def ldn (n : Nat) (x : Value) (w : World) (k : Value → Prop) : Prop := match x with | .pointer (some a) => rdN w a n fun cs => k (.agg cs) | _ => False
def st1 (x v : Value) (w : World) (k : World → Prop) : Prop := match x with | .pointer (some a) => one v = true ∧ wr1 w a v k | _ => False
def stn (n : Nat) (x v : Value) (w : World) (k : World → Prop) : Prop := match x, v with | .pointer (some a), .agg cs => cs.size = n ∧ wrN w a cs k | _, _ => False
def fa (off : Nat) (x : Value) (k : Value → Prop) : Prop := match x with | .pointer (some a) => k (.pointer (some (a.add off))) | _ => False
def ia (n : Nat) (x i : Value) (k : Value → Prop) : Prop :=
  match x, i with
  | .slice (some a) len _, .int _ j => (0 ≤ j ∧ j < len) ∧ k (.pointer (some (a.add (j.toNat * n))))
  | _, _ => False
def iaA (len n : Nat) (x i : Value) (k : Value → Prop) : Prop :=
  match x, i with
  | .pointer (some a), .int _ j => (0 ≤ j ∧ j < len) ∧ k (.pointer (some (a.add (j.toNat * n))))
  | _, _ => False
def ixS (x i : Value) (k : Value → Prop) : Prop :=
  match x, i with
  | .string s, .int _ j => 0 ≤ j ∧ match s[j.toNat]? with | some b => k (.int .u8 b.toNat) | none => False
  | _, _ => False
def partG (agg : Bool) (off n : Nat) (cs : Array Value) (k : Value → Prop) : Prop :=
  match agg with
  | true => k (.agg (cs.extract off (off + n)))
  | false => match cs[off]? with | some v => k v | none => False
def ixA (len n : Nat) (agg : Bool) (x i : Value) (k : Value → Prop) : Prop :=
  match x, i with
  | .agg cs, .int _ j => (0 ≤ j ∧ j < len) ∧ partG agg (j.toNat * n) n cs k
  | _, _ => False
def bnd (x : Option Value) (d y : Nat) (k : Nat → Prop) : Prop :=
  match x with
  | none => k d
  | some (.int _ i) => (0 ≤ i ∧ i ≤ y) ∧ k i.toNat
  | _ => False
def slS (x : Value) (lo hi : Option Value) (k : Value → Prop) : Prop :=
  match x with
  | .string s => bnd hi s.size s.size fun h => bnd lo 0 h fun l => k (.string (s.extract l h))
  | _ => False
def slL (n : Nat) (x : Value) (lo hi : Option Value) (k : Value → Prop) : Prop :=
  match x with
  | .slice a len cap => bnd hi len cap fun h => bnd lo 0 h fun l => k (.slice (if cap = l then a else a.map (·.add (l * n))) (h - l) (cap - l))
  | _ => False
def slA (len n : Nat) (x : Value) (lo hi : Option Value) (k : Value → Prop) : Prop :=
  match x with
  | .pointer (some a) => bnd hi len len fun h => bnd lo 0 h fun l => k (.slice (some (if len = l then a else a.add (l * n))) (h - l) (len - l))
  | _ => False
def fld (agg : Bool) (off n : Nat) (x : Value) (k : Value → Prop) : Prop := match x with | .agg cs => partG agg off n cs k | _ => False
def bld (places : List (Nat × Nat)) (zero : Array Value) (ps : Array (Nat × Value)) (k : Value → Prop) : Prop :=
  match Instr.fill (places[·]?) zero ps.toList with
  | some cs => k (.agg cs)
  | none => False
def newP (w : World) : Value := .pointer (some ⟨w.heap.size, 0, none⟩)
def newG (cells : Array Value) (T : TypeId) (w : World) (k : Value → World → Prop) : Prop := k (newP w) (w.alloc (.cells cells T))
def bsl (e n len : Nat) (zero : Array Value) (ps : Array (Nat × Value)) (w : World) (k : Value → World → Prop) : Prop :=
  match Instr.fill (fun i => some (i * n, n)) (rep zero (len * n)) ps.toList with
  | some cs => k (.slice (some ⟨w.heap.size, 0, none⟩) len len) (w.alloc (.cells cs e))
  | none => False
def mkG (e n bytes : Nat) (zero : Array Value) (l c : Value) (w : World) (k : Value → World → Prop) : Prop :=
  match l, c with
  | .int _ l, .int _ c => (0 ≤ l ∧ l ≤ c ∧ bytes * c ≤ 2 ^ 48 ∧ c < 2 ^ 63) ∧ k (.slice (some ⟨w.heap.size, 0, none⟩) l.toNat c.toNat) (w.alloc (.cells (rep zero (c.toNat * n)) e))
  | _, _ => False
def cvI (kd : IntKind) (x : Value) (k : Value → Prop) : Prop := match x with | .int _ n => k (.int kd (kd.wrap n)) | _ => False
def cvSS (x : Value) (k : Value → Prop) : Prop := match x with | .string s => k (.string s) | _ => False
def bytesOf : List Value → Option (List UInt8)
  | [] => some []
  | .int .u8 n :: r => (bytesOf r).map fun l => UInt8.ofNat n.toNat :: l
  | _ => none
def cvBS (x : Value) (w : World) (k : Value → Prop) : Prop :=
  match x with
  | .slice none _ _ => k (.string .empty)
  | .slice (some a) len _ => rdN w a len fun cs => match bytesOf cs.toList with | some l => k (.string ⟨l.toArray⟩) | none => False
  | _ => False
def u8s (s : ByteArray) : Array Value := s.data.map fun b => .int .u8 b.toNat
def cvSB (e : Nat) (x : Value) (w : World) (k : Value → World → Prop) : Prop :=
  match x with
  | .string s => s.size < 2 ^ 63 ∧ ∀ cap, s.size ≤ cap → cap < 2 ^ 63 → k (.slice (some ⟨w.heap.size, 0, none⟩) s.size cap) (w.drew.alloc (.cells (u8s s ++ Array.replicate (cap - s.size) (.int .u8 0)) e (cap, cap + 1)))
  | _ => False
def lenS (x : Value) (k : Value → Prop) : Prop := match x with | .string s => k (.int .i64 s.size) | _ => False
def lenL (x : Value) (k : Value → Prop) : Prop := match x with | .slice _ n _ => k (.int .i64 n) | _ => False
/-- the elements that are appended, or copied: how many, their cells -/
def src (n : Nat) (x : Value) (most : Nat → Nat) (w : World) (k : Nat → Array Value → Prop) : Prop :=
  match x with
  | .slice none m _ => k (most m) #[]
  | .slice (some a) m _ => rdN w a (most m * n) fun cs => k (most m) cs
  | .string s => k (most s.size) (u8s (s.extract 0 (most s.size)))
  | _ => False
def base (n : Nat) (a : Option Addr) (m : Nat) (w : World) (k : Array Value → Prop) : Prop :=
  match a with
  | none => k #[]
  | some a => rdN w a (m * n) k
def wrO (w : World) (a : Option Addr) (off : Nat) (vs : Array Value) (k : World → Prop) : Prop :=
  match a with
  | none => k w
  | some a => wrN w (a.add off) vs k
def app (e n bytes : Nat) (zero : Array Value) (s x : Value) (w : World) (k : Value → World → Prop) : Prop :=
  match s with
  | .slice a sl sc =>
    src n x (fun m => m) w fun m cs =>
      (sl + m ≤ sc → wrO w a (sl * n) cs fun w' => k (.slice a (sl + m) sc) w') ∧
      (sc < sl + m → (Builtin.nextslicecap (sl + m) sc * bytes ≤ 2 ^ 48 ∧ sl + m < 2 ^ 63) ∧
        base n a sl w fun old => ∀ cap, sl + m ≤ cap → cap < 2 ^ 63 →
          k (.slice (some ⟨w.heap.size, 0, none⟩) (sl + m) cap) (w.drew.alloc (.cells (old ++ cs ++ rep zero ((cap - (sl + m)) * n)) e)))
  | _ => False
def cp (n : Nat) (d s : Value) (w : World) (k : Value → World → Prop) : Prop :=
  match d with
  | .slice a dl _ => src n s (fun m => Nat.min m dl) w fun m cs => wrO w a 0 cs fun w' => k (.int .i64 m) w'
  | _ => False
def clr (n : Nat) (zero : Array Value) (x : Value) (w : World) (k : Value → World → Prop) : Prop :=
  match x with
  | .slice _ 0 _ | .slice none _ _ => k (.tuple #[]) w
  | .slice (some a) (m + 1) _ => wrN w a (rep zero ((m + 1) * n)) fun w' => k (.tuple #[]) w'
  | _ => False

/-! ### the rest, as the model has it -/
def amap (ρ : Operand → Value) (xs : Array Operand) : Array Value := (xs.toList.map ρ).toArray
def pmap (ρ : Operand → Value) (xs : Array (Nat × Operand)) : Array (Nat × Value) := (xs.toList.map fun p => (p.1, ρ p.2)).toArray
/-- a binary operation -/
def bq (op : BinOp) (T : TypeId) (xo yo : Operand) (x y : Value) : Sem Value := do eqGuard op T xo yo x y; binOp op T x y
def bsem (b : Builtin) (ts : Array TypeId) (t : TypeId) (args : Array Value) : Option (Sem Value) :=
  match b with
  | .append => some (Builtin.append_ ts t args)
  | .cap => some (Builtin.cap_ ts t args)
  | .clear => some (Builtin.clear_ ts t args)
  | .copy => some (Builtin.copy_ ts t args)
  | .delete => some (Builtin.delete_ ts t args)
  | .len => some (Builtin.len_ ts t args)
  | .max => some (Builtin.max_ ts t args)
  | .min => some (Builtin.min_ ts t args)
  | .unsafeString => some (Builtin.unsafeString_ ts t args)
  | .unsafeSliceData => some (Builtin.unsafeSliceData_ ts t args)
  | _ => none
def quietB : Builtin → Bool
  | .len | .cap | .max | .min => true
  | _ => false
def qsem (ρ : Operand → Value) (ty : TypeId) : Op → Option (Sem Value)
  | .binOp op xT x y _ => some (bq op xT x y (ρ x) (ρ y))
  | .unOp op _ x => some (Op.unary op (ρ x))
  | .build t parts => some (Instr.build t (pmap ρ parts))
  | .load t a => some (Instr.loadAt t (ρ a))
  | .fieldAddr s x f => some (Instr.fieldAt s (ρ x) f)
  | .indexAddr t x ix => some (Instr.indexAt t (ρ x) (ρ ix))
  | .lookup xT x ix ok => some (Instr.lookup xT (ρ x) (ρ ix) ok)
  | .extract t ix => some (Instr.extract (ρ t) ix)
  | .makeFunc fn first captured => some (Instr.makeFunc fn (amap ρ first) (amap ρ captured))
  | .makeInterface xT x => some (Instr.makeInterface xT (ρ x))
  | .slice t x lo hi mx => some (Instr.sliceAt t (ρ x) (lo.map ρ) (hi.map ρ) (mx.map ρ))
  | .call c => match c.callee with
    | .builtin b => bif quietB b then bsem b c.argTypes ty (amap ρ c.args) else none
    | _ => none
  | _ => none
def esem (ρ : Operand → Value) (ty : TypeId) : Op → Option (Sem Value)
  | .makeMap t r => some (Instr.makeMap t (r.map ρ))
  | .mapEntry t m k => some (Instr.mapEntry t (ρ m) (ρ k))
  | .convert src dst x => some (convert src dst (ρ x))
  | .range xT x => some (Instr.range xT (ρ x))
  | .next it isString => some (Instr.next (ρ it) isString ty)
  | .entry it => some (Instr.entry (ρ it))
  | .call c => match c.callee with
    | .builtin b => bsem b c.argTypes ty (amap ρ c.args)
    | _ => none
  | _ => none
def usem (ρ : Operand → Value) : Op → Option (Sem Unit)
  | .store t a x => some (Instr.storeAt t (ρ a) (ρ x))
  | .mapUpdate t m k x | .insert t m k x => some (Instr.mapUpdate t (ρ m) (ρ k) (ρ x))
  | .entryStore t m s x => some (Instr.entryStore t (ρ m) (ρ s) (ρ x))
  | _ => none

/-- one operation -/
def lowK (P : Program) (o : Oper) (l : LOp) (ρ : Operand → Value) (w : World) (k : Value → World → Prop) : Prop :=
  match l with
  | .val x => k (ρ x) w
  | .pick c a b => pk (ρ c) (ρ a) (ρ b) fun v => k v w
  | .nk x => nk (ρ x) fun v => k v w
  | .ld1 x => ld1 (ρ x) w fun v => k v w
  | .ldn n x => ldn n (ρ x) w fun v => k v w
  | .st1 x v => st1 (ρ x) (ρ v) w fun w => k undef w
  | .stn n x v => stn n (ρ x) (ρ v) w fun w => k undef w
  | .fa off x => fa off (ρ x) fun v => k v w
  | .ia n x i => ia n (ρ x) (ρ i) fun v => k v w
  | .iaA len n x i => iaA len n (ρ x) (ρ i) fun v => k v w
  | .ixS x i => ixS (ρ x) (ρ i) fun v => k v w
  | .ixA len n a x i => ixA len n a (ρ x) (ρ i) fun v => k v w
  | .slS x lo hi => slS (ρ x) (lo.map ρ) (hi.map ρ) fun v => k v w
  | .slL n x lo hi => slL n (ρ x) (lo.map ρ) (hi.map ρ) fun v => k v w
  | .slA len n x lo hi => slA len n (ρ x) (lo.map ρ) (hi.map ρ) fun v => k v w
  | .fld a off n x => fld a off n (ρ x) fun v => k v w
  | .bld l T ps => bld l (zc P T) (pmap ρ ps) fun v => k v w
  | .new T => newG (zc P T) T w k
  | .box T x => newG (ρ x).cells T w k
  | .bsl e n len ps => bsl e n len (zc P e) (pmap ρ ps) w k
  | .mk e n b l c => mkG e n b (zc P e) (ρ l) (ρ c) w k
  | .cvI kd x => cvI kd (ρ x) fun v => k v w
  | .cvSS x => cvSS (ρ x) fun v => k v w
  | .cvBS x => cvBS (ρ x) w fun v => k v w
  | .cvSB e x => cvSB e (ρ x) w k
  | .lenS x => lenS (ρ x) fun v => k v w
  | .lenL x => lenL (ρ x) fun v => k v w
  | .lenC n => k (.int .i64 n) w
  | .app e n b s x => app e n b (zc P e) (ρ s) (ρ x) w k
  | .cp n d s => cp n (ρ d) (ρ s) w k
  | .clr e n x => clr n (zc P e) (ρ x) w k
  | .call f args => callG P f (amap ρ args) w k
  | .callX f args => nG P (callFunc f (amap ρ args)) w k
  | .callV x args => callV P (ρ x) (amap ρ args) w k
  | .raw =>
    match qsem ρ o.type o.op with
    | some s => qG P s w fun v => k v w
    | none =>
      match usem ρ o.op with
      | some s => uG P s w fun w => k undef w
      | none =>
        match esem ρ o.type o.op with
        | some s => eG P s w k
        | none => False
def opK (P : Program) (o : Oper) (ρ : Operand → Value) (w : World) (k : Value → World → Prop) : Prop := lowK P o (lower P o) ρ w k

/-- the operations of a region in the text's order; 'm': what is known of the guards (of an operation that was passed over: none) -/
def look (m : List (Nat × Option Bool)) (j : Nat) : Option (Option Bool) :=
  match m with
  | [] => none
  | (i, b) :: r => bif Nat.beq i j then some b else look r j
def dstOf (ops : Array Oper) (j : Nat) : Nat := ((ops[j]?).bind (·.dst)).getD 0
def hasDst (ops : Array Oper) (j : Nat) : Bool := ((ops[j]?).bind (·.dst)).isSome

def opsK (P : Program) (ops : Array Oper) : List Oper → Nat → List (Nat × Option Bool) → Env → World → (Env → World → Prop) → Prop
  | [], _, _, e, w, k => k e w
  | o :: rest, i, m, e, w, k =>
    match o.guard with
    | none => opK P o (ev e) w fun v w => opsK P ops rest (i + 1) m (updO e o.dst v) w k
    | some (j, t) =>
      match look m j with
      | some (some b) =>
        bif b == t then opK P o (ev e) w fun v w => opsK P ops rest (i + 1) m (updO e o.dst v) w k
        else opsK P ops rest (i + 1) ((i, none) :: m) (updO e o.dst undef) w k
      | some none => opsK P ops rest (i + 1) ((i, none) :: m) (updO e o.dst undef) w k
      | none =>
        bif (hasDst ops j && Nat.blt j i) then bV (e (dstOf ops j))
          (bif t then opK P o (ev (upd e (dstOf ops j) (.bool true))) w fun v w => opsK P ops rest (i + 1) ((j, some true) :: m) (updO (upd e (dstOf ops j) (.bool true)) o.dst v) w k
           else opsK P ops rest (i + 1) ((i, none) :: (j, some true) :: m) (updO (upd e (dstOf ops j) (.bool true)) o.dst undef) w k)
          (bif t then opsK P ops rest (i + 1) ((i, none) :: (j, some false) :: m) (updO (upd e (dstOf ops j) (.bool false)) o.dst undef) w k
           else opK P o (ev (upd e (dstOf ops j) (.bool false))) w fun v w => opsK P ops rest (i + 1) ((j, some false) :: m) (updO (upd e (dstOf ops j) (.bool false)) o.dst v) w k)
        else False

/-- static: every slot that is written lies in the frame; what is known of the guards of one region stays so (each operation's slot is written once) -/
def regOk (n : Nat) (ops : Array Oper) : Bool :=
  ops.toList.all (fun o => match o.dst with | none => true | some d => Nat.blt d n) &&
  (List.range ops.size).all fun i => (List.range i).all fun j =>
    match (ops[i]?).bind (·.dst), (ops[j]?).bind (·.dst) with
    | some d, some d' => !Nat.beq d d'
    | _, _ => true

end Go.Q
