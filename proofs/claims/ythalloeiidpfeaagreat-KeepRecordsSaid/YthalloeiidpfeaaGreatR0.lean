/- Part of the proof (R0): an engine, rules or contracts of the functions; it states nothing of the claim by itself. -/
import Derived.Orders
import Derived.Tactics
import Derived.Laws.World
import Derived.Laws.Sem
import Derived.Laws.CopyRow
import Derived.Laws.Append
import Derived.ChangeKeysEq
import Derived.Laws.Entries
import Derived.Lib.ConvBytes
import Derived.Laws.BytesArg
import Derived.LoopN
import Derived.Scope

set_option linter.unusedVariables false
set_option linter.unusedSimpArgs false
namespace Go.Q
abbrev KW := Value → World → Prop
abbrev KL := List Value → World → Prop
theorem gz0 {α : Type _} {a : α} {l : List α} : (a :: l)[0]? = some a := rfl
theorem gz1 {α : Type _} {a : α} {i : Nat} {l : List α} : (a :: l)[i + 1]? = l[i]? := rfl
abbrev Env := Nat → Value
def upd (e : Env) (d : Nat) (v : Value) : Env := fun t => bif Nat.beq t d then v else e t
def updO (e : Env) : Option Nat → Value → Env
  | none, _ => e
  | some d, v => upd e d v
def ev (e : Env) : Operand → Value
  | .tmp t => e t
  | .const v => v
  | .global g => .pointer (some ⟨g, 0, none⟩)
  | .func f => .func (.func f) #[] #[]
def setBlk (w : World) (b : Nat) (o : Obj) : World := { w with heap := w.heap.setIfInBounds b o }
def splice (c : Array Value) (o : Nat) (vs : Array Value) : Array Value := (c.toList.take o ++ vs.toList ++ c.toList.drop (o + vs.size)).toArray
def okFr (fr : Nat × Nat) (o n : Nat) : Prop := fr.2 ≤ o ∨ o + n ≤ fr.1 ∨ fr.2 ≤ fr.1
def rep (zero : Array Value) (n : Nat) : Array Value := (Array.range n).map fun i => zero[i % zero.size]!
def one (v : Value) : Bool := match v with | .agg _ | .tuple _ => false | _ => true
def rd1 (w : World) (a : Addr) (k : Value → Prop) : Prop :=
  match w.heap[a.block]? with
  | some (.cells c _ _) => a.spot = none ∧ match c[a.off]? with | some v => k v | none => False
  | _ => False
def rdN (w : World) (a : Addr) (n : Nat) (k : Array Value → Prop) : Prop :=
  match w.heap[a.block]? with
  | some (.cells c _ _) => (a.spot = none ∧ a.off + n ≤ c.size) ∧ k (c.extract a.off (a.off + n))
  | _ => False
def wr1 (w : World) (a : Addr) (v : Value) (k : World → Prop) : Prop :=
  match w.heap[a.block]? with
  | some (.cells c T fr) => (a.spot = none ∧ a.off < c.size ∧ okFr fr a.off 1) ∧ k (setBlk w a.block (.cells (c.setIfInBounds a.off v) T fr))
  | _ => False
def wrN (w : World) (a : Addr) (vs : Array Value) (k : World → Prop) : Prop :=
  match w.heap[a.block]? with
  | some (.cells c T fr) => (a.spot = none ∧ a.off + vs.size ≤ c.size ∧ okFr fr a.off vs.size ∧ vs.all one = true) ∧ k (setBlk w a.block (.cells (splice c a.off vs) T fr))
  | _ => False
inductive LOp where
  | val (x : Operand)
  | pick (c a b : Operand)
  | nk (x : Operand)
  | ld1 (x : Operand)
  | ldn (n : Nat) (x : Operand)
  | st1 (x v : Operand)
  | stn (n : Nat) (x v : Operand)
  | fa (off : Nat) (x : Operand)
  | ia (n : Nat) (x i : Operand)
  | iaA (len n : Nat) (x i : Operand)
  | ixS (x i : Operand)
  | ixA (len n : Nat) (agg : Bool) (x i : Operand)
  | slS (x : Operand) (lo hi : Option Operand)
  | slL (n : Nat) (x : Operand) (lo hi : Option Operand)
  | slA (len n : Nat) (x : Operand) (lo hi : Option Operand)
  | fld (agg : Bool) (off n : Nat) (x : Operand)
  | bld (places : List (Nat × Nat)) (T : TypeId) (ps : Array (Nat × Operand))
  | new (T : TypeId)
  | box (T : TypeId) (x : Operand)
  | bsl (e n len : Nat) (ps : Array (Nat × Operand))
  | mk (e n bytes : Nat) (l c : Operand)
  | cvI (k : IntKind) (x : Operand)
  | cvSS (x : Operand)
  | cvBS (x : Operand)
  | cvSB (e : Nat) (x : Operand)
  | lenS (x : Operand)
  | lenL (x : Operand)
  | lenC (n : Nat)
  | app (e n bytes : Nat) (s x : Operand)
  | cp (n : Nat) (d s : Operand)
  | clr (e n : Nat) (x : Operand)
  | call (f : FuncId) (args : Array Operand)
  | callX (f : FuncId) (args : Array Operand)
  | callV (x : Operand) (args : Array Operand)
  | raw
def szO (P : Program) (t : TypeId) : Option Nat := (P.info? t).map (·.size)
def aggT : TypeDesc → Bool
  | .struct _ | .array _ _ => true
  | _ => false
def aggO (P : Program) (t : TypeId) : Option Bool := (P.underlying t).map aggT
def zc (P : Program) (t : TypeId) : Array Value := (((P.info? t).bind (·.zero)).getD .nilIface).cells
def hasZ (P : Program) (t : TypeId) (n : Nat) : Bool :=
  match (P.info? t).bind (·.zero) with
  | some z => Nat.beq z.cells.size n
  | none => false
def hasBody (P : Program) (f : FuncId) : Bool :=
  match P.funcs[f]? with
  | some fn => !(fn.name == "runtime.NumGoroutine") && fn.body.isSome
  | none => false
def isU8 (P : Program) (t : TypeId) : Bool := match P.underlying t with | some (.int .u8) => true | _ => false
def placesOf (P : Program) : List Field → Option (List (Nat × Nat))
  | [] => some []
  | f :: r =>
    match szO P f.type, placesOf P r with
    | some n, some l => some ((f.offset, n) :: l)
    | _, _ => none
def lower (P : Program) (o : Oper) : LOp :=
  match o.op with
  | .move x | .assign x => .val x
  | .pick c a b => .pick c a b
  | .nilCheck x => .nk x
  | .load t a =>
    match aggO P t, szO P t with
    | some true, some n => .ldn n a
    | some false, _ => .ld1 a
    | _, _ => .raw
  | .store t a x =>
    match aggO P t, szO P t with
    | some true, some n => .stn n a x
    | some false, some 1 => .st1 a x
    | _, _ => .raw
  | .fieldAddr s x f =>
    match P.underlying s with
    | some (.struct fs) =>
      match fs[f]? with
      | some fd =>
        match szO P fd.type with
        | some (_ + 1) => .fa fd.offset x
        | _ => .raw
      | none => .raw
    | _ => .raw
  | .indexAddr t x i =>
    match P.underlying t with
    | some (.slice e) => match szO P e with | some n => .ia n x i | none => .raw
    | some (.array len e) => match szO P e with | some n => .iaA len n x i | none => .raw
    | _ => .raw
  | .index t x i =>
    match P.underlying t with
    | some .string => .ixS x i
    | some (.array len e) => match szO P e, aggO P e with | some n, some a => .ixA len n a x i | _, _ => .raw
    | _ => .raw
  | .slice t x lo hi none =>
    match P.underlying t with
    | some .string => .slS x lo hi
    | some (.slice e) => match szO P e with | some n => .slL n x lo hi | none => .raw
    | some (.array len e) => match szO P e with | some n => .slA len n x lo hi | none => .raw
    | _ => .raw
  | .field t x f =>
    match P.underlying t with
    | some (.struct fs) =>
      match fs[f]? with
      | some fd => match szO P fd.type, aggO P fd.type with | some n, some a => .fld a fd.offset n x | _, _ => .raw
      | none => .raw
    | _ => .raw
  | .build t ps =>
    match P.underlying t, szO P t with
    | some (.struct fs), some n => match placesOf P fs.toList with | some l => bif hasZ P t n then .bld l t ps else .raw | none => .raw
    | _, _ => .raw
  | .alloc t => match szO P t with | some n => bif hasZ P t n then .new t else .raw | none => .raw
  | .box t x => .box t x
  | .buildSlice t len ps =>
    match P.underlying t with
    | some (.slice e) => match szO P e with | some n => bif hasZ P e n && Nat.ble (len * n) (2 ^ 24) then .bsl e n len ps else .raw | none => .raw
    | _ => .raw
  | .makeSlice t l c =>
    match P.underlying t with
    | some (.slice e) => match P.info? e with | some i => bif hasZ P e i.size then .mk e i.size i.bytes l c else .raw | none => .raw
    | _ => .raw
  | .convert a b x =>
    match P.underlying a, P.underlying b with
    | some (.int _), some (.int k) => .cvI k x
    | some .string, some .string => .cvSS x
    | some (.slice e), some .string => bif isU8 P e then .cvBS x else .raw
    | some .string, some (.slice e) => bif isU8 P e then .cvSB e x else .raw
    | _, _ => .raw
  | .call c =>
    match c.callee with
    | .value (.func f) => bif hasBody P f then .call f c.args else .callX f c.args
    | .value x => .callV x c.args
    | .builtin .len =>
      match c.args.toList, (c.argTypes[0]?).bind P.underlying with
      | [x], some .string => .lenS x
      | [x], some (.slice _) => .lenL x
      | [_], some (.array n _) => .lenC n
      | _, _ => .raw
    | .builtin .append =>
      match c.args.toList, (c.argTypes[0]?).bind P.underlying, (c.argTypes[1]?).bind P.underlying with
      | [s, x], some (.slice e), some d =>
        match d with
        | .int _ => .raw
        | _ => match P.info? e with | some i => bif hasZ P e i.size && Nat.blt 0 i.bytes then .app e i.size i.bytes s x else .raw | none => .raw
      | _, _, _ => .raw
    | .builtin .copy =>
      match c.args.toList, (c.argTypes[0]?).bind P.underlying with
      | [d, s], some (.slice e) => match szO P e with | some n => .cp n d s | none => .raw
      | _, _ => .raw
    | .builtin .clear =>
      match c.args.toList, (c.argTypes[0]?).bind P.underlying with
      | [x], some (.slice e) => match szO P e with | some n => bif hasZ P e n then .clr e n x else .raw | none => .raw
      | _, _ => .raw
    | _ => .raw
  | _ => .raw
def qG (P : Program) (s : Sem Value) (w : World) (k : Value → Prop) : Prop := ∃ v, s.run P w = .ok v w ∧ k v
def eG (P : Program) (s : Sem Value) (w : World) (k : KW) : Prop := ∃ v w', s.run P w = .ok v w' ∧ k v w'
def uG (P : Program) (s : Sem Unit) (w : World) (k : World → Prop) : Prop := ∃ w', s.run P w = .ok () w' ∧ k w'
def nG (P : Program) (s : Sem Next) (w : World) (k : KW) : Prop := ∃ v w', s.run P w = .ok (.value v) w' ∧ k v w'
def callG (P : Program) (f : FuncId) (args : Array Value) (w : World) (k : KW) : Prop :=
  Calls P f args w fun e w' => ∃ v, e = .returned v ∧ k v w'
def callV (P : Program) (x : Value) (args : Array Value) (w : World) (k : KW) : Prop :=
  match x with
  | .func (.func f) first captured => hasBody P f = true ∧ callG P f (first ++ args ++ captured) w k
  | _ => False
def nk (x : Value) (k : Value → Prop) : Prop :=
  match x with
  | .pointer (some a) => k (.pointer (some a))
  | .func (.func f) a b => k (.func (.func f) a b)
  | _ => False
def pk (c a b : Value) (k : Value → Prop) : Prop :=
  match c with
  | .bool t => k (bif t then a else b)
  | _ => False
def bV (c : Value) (T F : Prop) : Prop :=
  match c with
  | .bool true => T
  | .bool false => F
  | _ => False
def ld1 (x : Value) (w : World) (k : Value → Prop) : Prop := match x with | .pointer (some a) => rd1 w a k | _ => False
def ldn (n : Nat) (x : Value) (w : World) (k : Value → Prop) : Prop := match x with | .pointer (some a) => rdN w a n fun cs => k (.agg cs) | _ => False
def st1 (x v : Value) (w : World) (k : World → Prop) : Prop := match x with | .pointer (some a) => one v = true ∧ wr1 w a v k | _ => False
def stn (n : Nat) (x v : Value) (w : World) (k : World → Prop) : Prop := match x, v with | .pointer (some a), .agg cs => cs.size = n ∧ wrN w a cs k | _, _ => False
def fa (off : Nat) (x : Value) (k : Value → Prop) : Prop := match x with | .pointer (some a) => k (.pointer (some (a.add off))) | _ => False
def ia (n : Nat) (x i : Value) (k : Value → Prop) : Prop :=
  match x, i with
  | .slice (some a) len _, .int _ j => (0 ≤ j ∧ j < len) ∧ k (.pointer (some (a.add (j.toNat * n))))
  | _, _ => False
def iaA (len n : Nat) (x i : Value) (k : Value → Prop) : Prop :=
  match x, i with
  | .pointer (some a), .int _ j => (0 ≤ j ∧ j < len) ∧ k (.pointer (some (a.add (j.toNat * n))))
  | _, _ => False
def ixS (x i : Value) (k : Value → Prop) : Prop :=
  match x, i with
  | .string s, .int _ j => 0 ≤ j ∧ match s[j.toNat]? with | some b => k (.int .u8 b.toNat) | none => False
  | _, _ => False
def partG (agg : Bool) (off n : Nat) (cs : Array Value) (k : Value → Prop) : Prop :=
  match agg with
  | true => k (.agg (cs.extract off (off + n)))
  | false => match cs[off]? with | some v => k v | none => False
def ixA (len n : Nat) (agg : Bool) (x i : Value) (k : Value → Prop) : Prop :=
  match x, i with
  | .agg cs, .int _ j => (0 ≤ j ∧ j < len) ∧ partG agg (j.toNat * n) n cs k
  | _, _ => False
def bnd (x : Option Value) (d y : Nat) (k : Nat → Prop) : Prop :=
  match x with
  | none => k d
  | some (.int _ i) => (0 ≤ i ∧ i ≤ y) ∧ k i.toNat
  | _ => False
def slS (x : Value) (lo hi : Option Value) (k : Value → Prop) : Prop :=
  match x with
  | .string s => bnd hi s.size s.size fun h => bnd lo 0 h fun l => k (.string (s.extract l h))
  | _ => False
def slL (n : Nat) (x : Value) (lo hi : Option Value) (k : Value → Prop) : Prop :=
  match x with
  | .slice a len cap => bnd hi len cap fun h => bnd lo 0 h fun l => k (.slice (if cap = l then a else a.map (·.add (l * n))) (h - l) (cap - l))
  | _ => False
def slA (len n : Nat) (x : Value) (lo hi : Option Value) (k : Value → Prop) : Prop :=
  match x with
  | .pointer (some a) => bnd hi len len fun h => bnd lo 0 h fun l => k (.slice (some (if len = l then a else a.add (l * n))) (h - l) (len - l))
  | _ => False
def fld (agg : Bool) (off n : Nat) (x : Value) (k : Value → Prop) : Prop := match x with | .agg cs => partG agg off n cs k | _ => False
def bld (places : List (Nat × Nat)) (zero : Array Value) (ps : Array (Nat × Value)) (k : Value → Prop) : Prop :=
  match Instr.fill (places[·]?) zero ps.toList with
  | some cs => k (.agg cs)
  | none => False
def newP (w : World) : Value := .pointer (some ⟨w.heap.size, 0, none⟩)
def newG (cells : Array Value) (T : TypeId) (w : World) (k : KW) : Prop := k (newP w) (w.alloc (.cells cells T))
def bsl (e n len : Nat) (zero : Array Value) (ps : Array (Nat × Value)) (w : World) (k : KW) : Prop :=
  match Instr.fill (fun i => some (i * n, n)) (rep zero (len * n)) ps.toList with
  | some cs => k (.slice (some ⟨w.heap.size, 0, none⟩) len len) (w.alloc (.cells cs e))
  | none => False
def mkG (e n bytes : Nat) (zero : Array Value) (l c : Value) (w : World) (k : KW) : Prop :=
  match l, c with
  | .int _ l, .int _ c => (0 ≤ l ∧ l ≤ c ∧ bytes * c ≤ 2 ^ 48 ∧ c < 2 ^ 63) ∧ k (.slice (some ⟨w.heap.size, 0, none⟩) l.toNat c.toNat) (w.alloc (.cells (rep zero (c.toNat * n)) e))
  | _, _ => False
def cvI (kd : IntKind) (x : Value) (k : Value → Prop) : Prop := match x with | .int _ n => k (.int kd (kd.wrap n)) | _ => False
def cvSS (x : Value) (k : Value → Prop) : Prop := match x with | .string s => k (.string s) | _ => False
def bytesOf : List Value → Option (List UInt8)
  | [] => some []
  | .int .u8 n :: r => (bytesOf r).map fun l => UInt8.ofNat n.toNat :: l
  | _ => none
def cvBS (x : Value) (w : World) (k : Value → Prop) : Prop :=
  match x with
  | .slice none _ _ => k (.string .empty)
  | .slice (some a) len _ => rdN w a len fun cs => match bytesOf cs.toList with | some l => k (.string ⟨l.toArray⟩) | none => False
  | _ => False
def u8s (s : ByteArray) : Array Value := s.data.map fun b => .int .u8 b.toNat
def cvSB (e : Nat) (x : Value) (w : World) (k : KW) : Prop :=
  match x with
  | .string s => s.size < 2 ^ 63 ∧ ∀ cap, s.size ≤ cap → cap < 2 ^ 63 → k (.slice (some ⟨w.heap.size, 0, none⟩) s.size cap) (w.drew.alloc (.cells (u8s s ++ Array.replicate (cap - s.size) (.int .u8 0)) e (cap, cap + 1)))
  | _ => False
def lenS (x : Value) (k : Value → Prop) : Prop := match x with | .string s => k (.int .i64 s.size) | _ => False
def lenL (x : Value) (k : Value → Prop) : Prop := match x with | .slice _ n _ => k (.int .i64 n) | _ => False
def src (n : Nat) (x : Value) (most : Nat → Nat) (w : World) (k : Nat → Array Value → Prop) : Prop :=
  match x with
  | .slice none m _ => k (most m) #[]
  | .slice (some a) m _ => rdN w a (most m * n) fun cs => k (most m) cs
  | .string s => k (most s.size) (u8s (s.extract 0 (most s.size)))
  | _ => False
def srcA (n : Nat) (x : Value) (w : World) (k : Nat → Array Value → Prop) : Prop :=
  match x with
  | .slice none m _ => k m #[]
  | .slice (some a) m _ => if m * n = 0 then k m #[] else rdN w a (m * n) fun cs => k m cs
  | .string s => k s.size (u8s (s.extract 0 s.size))
  | _ => False
def base (n : Nat) (a : Option Addr) (m : Nat) (w : World) (k : Array Value → Prop) : Prop :=
  match a with
  | none => k #[]
  | some a => rdN w a (m * n) k
def wrO (w : World) (a : Option Addr) (off : Nat) (vs : Array Value) (k : World → Prop) : Prop :=
  match a with
  | none => k w
  | some a => wrN w (a.add off) vs k
def app (e n bytes : Nat) (zero : Array Value) (s x : Value) (w : World) (k : KW) : Prop :=
  match s with
  | .slice a sl sc =>
    srcA n x w fun m cs =>
      (sl + m ≤ sc → wrO w a (sl * n) cs fun w' => k (.slice a (sl + m) sc) w') ∧
      (sc < sl + m → (Builtin.nextslicecap (sl + m) sc * bytes ≤ 2 ^ 48 ∧ sl + m < 2 ^ 63) ∧
        base n a sl w fun old => ∀ cap, sl + m ≤ cap → cap < 2 ^ 63 →
          k (.slice (some ⟨w.heap.size, 0, none⟩) (sl + m) cap) (w.drew.alloc (.cells (old ++ cs ++ rep zero ((cap - (sl + m)) * n)) e)))
  | _ => False
def cp (n : Nat) (d s : Value) (w : World) (k : KW) : Prop :=
  match d with
  | .slice a dl _ => src n s (fun m => Nat.min m dl) w fun m cs => wrO w a 0 cs fun w' => k (.int .i64 m) w'
  | _ => False
def clr (n : Nat) (zero : Array Value) (x : Value) (w : World) (k : KW) : Prop :=
  match x with
  | .slice _ 0 _ | .slice none _ _ => k (.tuple #[]) w
  | .slice (some a) (m + 1) _ => wrN w a (rep zero ((m + 1) * n)) fun w' => k (.tuple #[]) w'
  | _ => False
def amap (ρ : Operand → Value) (xs : Array Operand) : Array Value := (xs.toList.map ρ).toArray
def pmap (ρ : Operand → Value) (xs : Array (Nat × Operand)) : Array (Nat × Value) := (xs.toList.map fun p => (p.1, ρ p.2)).toArray
def bq (op : BinOp) (T : TypeId) (xo yo : Operand) (x y : Value) : Sem Value := do eqGuard op T xo yo x y; binOp op T x y
def bsem (b : Builtin) (ts : Array TypeId) (t : TypeId) (args : Array Value) : Option (Sem Value) :=
  match b with
  | .append => some (Builtin.append_ ts t args)
  | .cap => some (Builtin.cap_ ts t args)
  | .clear => some (Builtin.clear_ ts t args)
  | .copy => some (Builtin.copy_ ts t args)
  | .delete => some (Builtin.delete_ ts t args)
  | .len => some (Builtin.len_ ts t args)
  | .max => some (Builtin.max_ ts t args)
  | .min => some (Builtin.min_ ts t args)
  | .unsafeString => some (Builtin.unsafeString_ ts t args)
  | .unsafeSliceData => some (Builtin.unsafeSliceData_ ts t args)
  | _ => none
def quietB : Builtin → Bool
  | .len | .cap | .max | .min => true
  | _ => false
def qsem (ρ : Operand → Value) (ty : TypeId) : Op → Option (Sem Value)
  | .binOp op xT x y _ => some (bq op xT x y (ρ x) (ρ y))
  | .unOp op _ x => some (Op.unary op (ρ x))
  | .build t parts => some (Instr.build t (pmap ρ parts))
  | .load t a => some (Instr.loadAt t (ρ a))
  | .fieldAddr s x f => some (Instr.fieldAt s (ρ x) f)
  | .indexAddr t x ix => some (Instr.indexAt t (ρ x) (ρ ix))
  | .lookup xT x ix ok => some (Instr.lookup xT (ρ x) (ρ ix) ok)
  | .extract t ix => some (Instr.extract (ρ t) ix)
  | .makeFunc fn first captured => some (Instr.makeFunc fn (amap ρ first) (amap ρ captured))
  | .makeInterface xT x => some (Instr.makeInterface xT (ρ x))
  | .slice t x lo hi mx => some (Instr.sliceAt t (ρ x) (lo.map ρ) (hi.map ρ) (mx.map ρ))
  | .call c => match c.callee with
    | .builtin b => bif quietB b then bsem b c.argTypes ty (amap ρ c.args) else none
    | _ => none
  | _ => none
def esem (ρ : Operand → Value) (ty : TypeId) : Op → Option (Sem Value)
  | .makeMap t r => some (Instr.makeMap t (r.map ρ))
  | .mapEntry t m k => some (Instr.mapEntry t (ρ m) (ρ k))
  | .convert src dst x => some (convert src dst (ρ x))
  | .range xT x => some (Instr.range xT (ρ x))
  | .next it isString => some (Instr.next (ρ it) isString ty)
  | .entry it => some (Instr.entry (ρ it))
  | .call c => match c.callee with
    | .builtin b => bsem b c.argTypes ty (amap ρ c.args)
    | _ => none
  | _ => none
def usem (ρ : Operand → Value) : Op → Option (Sem Unit)
  | .store t a x => some (Instr.storeAt t (ρ a) (ρ x))
  | .mapUpdate t m k x | .insert t m k x => some (Instr.mapUpdate t (ρ m) (ρ k) (ρ x))
  | .entryStore t m s x => some (Instr.entryStore t (ρ m) (ρ s) (ρ x))
  | _ => none
def lowK (P : Program) (o : Oper) (l : LOp) (ρ : Operand → Value) (w : World) (k : KW) : Prop :=
  match l with
  | .val x => k (ρ x) w
  | .pick c a b => pk (ρ c) (ρ a) (ρ b) fun v => k v w
  | .nk x => nk (ρ x) fun v => k v w
  | .ld1 x => ld1 (ρ x) w fun v => k v w
  | .ldn n x => ldn n (ρ x) w fun v => k v w
  | .st1 x v => st1 (ρ x) (ρ v) w fun w => k undef w
  | .stn n x v => stn n (ρ x) (ρ v) w fun w => k undef w
  | .fa off x => fa off (ρ x) fun v => k v w
  | .ia n x i => ia n (ρ x) (ρ i) fun v => k v w
  | .iaA len n x i => iaA len n (ρ x) (ρ i) fun v => k v w
  | .ixS x i => ixS (ρ x) (ρ i) fun v => k v w
  | .ixA len n a x i => ixA len n a (ρ x) (ρ i) fun v => k v w
  | .slS x lo hi => slS (ρ x) (lo.map ρ) (hi.map ρ) fun v => k v w
  | .slL n x lo hi => slL n (ρ x) (lo.map ρ) (hi.map ρ) fun v => k v w
  | .slA len n x lo hi => slA len n (ρ x) (lo.map ρ) (hi.map ρ) fun v => k v w
  | .fld a off n x => fld a off n (ρ x) fun v => k v w
  | .bld l T ps => bld l (zc P T) (pmap ρ ps) fun v => k v w
  | .new T => newG (zc P T) T w k
  | .box T x => newG (ρ x).cells T w k
  | .bsl e n len ps => bsl e n len (zc P e) (pmap ρ ps) w k
  | .mk e n b l c => mkG e n b (zc P e) (ρ l) (ρ c) w k
  | .cvI kd x => cvI kd (ρ x) fun v => k v w
  | .cvSS x => cvSS (ρ x) fun v => k v w
  | .cvBS x => cvBS (ρ x) w fun v => k v w
  | .cvSB e x => cvSB e (ρ x) w k
  | .lenS x => lenS (ρ x) fun v => k v w
  | .lenL x => lenL (ρ x) fun v => k v w
  | .lenC n => k (.int .i64 n) w
  | .app e n b s x => app e n b (zc P e) (ρ s) (ρ x) w k
  | .cp n d s => cp n (ρ d) (ρ s) w k
  | .clr e n x => clr n (zc P e) (ρ x) w k
  | .call f args => callG P f (amap ρ args) w k
  | .callX f args => nG P (callFunc f (amap ρ args)) w k
  | .callV x args => callV P (ρ x) (amap ρ args) w k
  | .raw =>
    match qsem ρ o.type o.op with
    | some s => qG P s w fun v => k v w
    | none =>
      match usem ρ o.op with
      | some s => uG P s w fun w => k undef w
      | none =>
        match esem ρ o.type o.op with
        | some s => eG P s w k
        | none => False
def opK (P : Program) (o : Oper) (ρ : Operand → Value) (w : World) (k : KW) : Prop := lowK P o (lower P o) ρ w k
def look (m : List (Nat × Option Bool)) (j : Nat) : Option (Option Bool) :=
  match m with
  | [] => none
  | (i, b) :: r => bif Nat.beq i j then some b else look r j
def dstOf (ops : Array Oper) (j : Nat) : Nat := ((ops[j]?).bind (·.dst)).getD 0
def hasDst (ops : Array Oper) (j : Nat) : Bool := ((ops[j]?).bind (·.dst)).isSome
def opsK (P : Program) (ops : Array Oper) : List Oper → Nat → List (Nat × Option Bool) → Env → World → (Env → World → Prop) → Prop
  | [], _, _, e, w, k => k e w
  | o :: rest, i, m, e, w, k =>
    match o.guard with
    | none => opK P o (ev e) w fun v w => opsK P ops rest (i + 1) m (updO e o.dst v) w k
    | some (j, t) =>
      match look m j with
      | some (some b) =>
        bif b == t then opK P o (ev e) w fun v w => opsK P ops rest (i + 1) m (updO e o.dst v) w k
        else opsK P ops rest (i + 1) ((i, none) :: m) (updO e o.dst undef) w k
      | some none => opsK P ops rest (i + 1) ((i, none) :: m) (updO e o.dst undef) w k
      | none =>
        bif (hasDst ops j && Nat.blt j i) then bV (e (dstOf ops j))
          (bif t then opK P o (ev (upd e (dstOf ops j) (.bool true))) w fun v w => opsK P ops rest (i + 1) ((j, some true) :: m) (updO (upd e (dstOf ops j) (.bool true)) o.dst v) w k
           else opsK P ops rest (i + 1) ((i, none) :: (j, some true) :: m) (updO (upd e (dstOf ops j) (.bool true)) o.dst undef) w k)
          (bif t then opsK P ops rest (i + 1) ((i, none) :: (j, some false) :: m) (updO (upd e (dstOf ops j) (.bool false)) o.dst undef) w k
           else opK P o (ev (upd e (dstOf ops j) (.bool false))) w fun v w => opsK P ops rest (i + 1) ((j, some false) :: m) (updO (upd e (dstOf ops j) (.bool false)) o.dst v) w k)
        else False
def regOk (n : Nat) (ops : Array Oper) : Bool :=
  ops.toList.all (fun o => match o.dst with | none => true | some d => Nat.blt d n) &&
  (List.range ops.size).all fun i => (List.range i).all fun j =>
    match (ops[i]?).bind (·.dst), (ops[j]?).bind (·.dst) with
    | some d, some d' => !Nat.beq d d'
    | _, _ => true
end Go.Q

set_option linter.unusedVariables false
set_option linter.unusedSimpArgs false
namespace Go.Q
variable {P : Program}
theorem addr_eta (a : Addr) (h : a.spot = none) : a = ⟨a.block, a.off, none⟩ := by cases a; simp_all
theorem add_none {a : Addr} (h : a.spot = none) (i : Nat) : a.add i = ⟨a.block, a.off + i, none⟩ := by
  unfold Addr.add
  split
  · rename_i hi; subst hi; exact addr_eta a h
  · cases a; simp_all
theorem cell_of {w : World} {b i : Nat} {c : Array Value} {T : TypeId} {fr : Nat × Nat} (h : w.heap[b]? = some (.cells c T fr)) : w.cell? ⟨b, i, none⟩ = c[i]? := by
  simp [World.cell?, h]
theorem one_eq (v : Value) : one v = v.oneCell' := by cases v <;> rfl
theorem szO_some {t : TypeId} {n : Nat} (h : szO P t = some n) (w : World) : (sizeOf t).run P w = .ok n w := by
  unfold szO at h
  cases hi : P.info? t with
  | none => rw [hi] at h; cases h
  | some i =>
    rw [hi] at h
    simp only [Option.map_some, Option.some.injEq] at h
    simp [sizeOf, run_typeInfo w hi, h, pure, Sem.run]
theorem aggO_run {t : TypeId} {b : Bool} (h : aggO P t = some b) (w : World) : (isAgg t).run P w = .ok b w := by
  unfold aggO at h
  cases hu : P.underlying t with
  | none => rw [hu] at h; cases h
  | some d =>
    rw [hu] at h
    simp only [Option.map_some, Option.some.injEq] at h
    subst h
    simp only [isAgg, Sem.run_bind, run_underlying hu, Result.andThen_ok]
    cases d <;> rfl
theorem hasZ_run {t : TypeId} {n : Nat} (h : hasZ P t n = true) (w : World) : ∃ z, (zeroValue t).run P w = .ok z w ∧ z.cells = zc P t ∧ (zc P t).size = n := by
  unfold hasZ at h
  cases hi : P.info? t with
  | none => rw [hi] at h; cases h
  | some i =>
    rw [hi] at h
    simp only [Option.bind_some] at h
    cases hz : i.zero with
    | none => rw [hz] at h; cases h
    | some z =>
      rw [hz] at h
      refine ⟨z, ?_, ?_, ?_⟩
      · simp [zeroValue, run_typeInfo w hi, hz, pure]
      · simp [zc, hi, hz]
      · simp only [zc, hi, hz, Option.bind_some, Option.getD_some]; exact Nat.eq_of_beq_eq_true h
theorem rd1_run {w : World} {a : Addr} {k : Value → Prop} (h : rd1 w a k) : ∃ v, (load a).run P w = .ok v w ∧ k v := by
  unfold rd1 at h
  split at h
  · rename_i c T fr hh
    obtain ⟨hs, h⟩ := h
    split at h
    · rename_i v hv
      refine ⟨v, ?_, h⟩
      have : w.cell? a = some v := by rw [addr_eta a hs, cell_of hh, hv]
      simp [load, Sem.run, this]
    · exact h.elim
  · exact h.elim
theorem rdN_run {w : World} {a : Addr} {n : Nat} {k : Array Value → Prop} (h : rdN w a n k) : ∃ cs, (∀ w' : World, w'.heap = w.heap → (loadCells a n).run P w' = .ok cs w') ∧ k cs ∧ cs.size = n := by
  unfold rdN at h
  split at h
  · rename_i c T fr hh
    obtain ⟨⟨hs, hn⟩, h⟩ := h
    refine ⟨_, fun w' hw' => ?_, h, by simp; omega⟩
    rw [← hw'] at hh
    have := run_loadCells_list (P := P) (w := w') a (c.extract a.off (a.off + n)).toList (fun j v hj => by
      rw [add_none hs, cell_of hh]
      rw [Array.getElem?_toList] at hj
      rw [Array.getElem?_extract] at hj
      split at hj
      · exact hj
      · cases hj)
    have hl : (c.extract a.off (a.off + n)).toList.length = n := by simp; omega
    rw [hl, Array.toArray_toList] at this
    exact this
  · exact h.elim
theorem frozen_of {w : World} {b i : Nat} {c : Array Value} {T : TypeId} {fr : Nat × Nat} (h : w.heap[b]? = some (.cells c T fr)) (hf : okFr fr i 1) : w.frozen? ⟨b, i, none⟩ = false := by
  obtain ⟨lo, hi⟩ := fr
  simp only [World.frozen?, h, Bool.and_eq_false_iff, decide_eq_false_iff_not]
  rcases hf with h | h | h <;> simp only at h <;> omega
theorem setCell_eq {w : World} {b i : Nat} {c : Array Value} {T : TypeId} {fr : Nat × Nat} (h : w.heap[b]? = some (.cells c T fr)) (v : Value) :
    w.setCell ⟨b, i, none⟩ v = setBlk w b (.cells (c.setIfInBounds i v) T fr) := by
  unfold World.setCell setBlk
  congr 1
  apply Array.ext_getElem?
  intro j
  obtain ⟨hb, h2⟩ := Array.getElem?_eq_some_iff.1 h
  rw [Array.getElem?_modify, Array.getElem?_setIfInBounds]
  by_cases hj : b = j
  · subst hj; simp [h2, hb]
  · simp [hj]
theorem wr1_run {w : World} {a : Addr} {v : Value} {k : World → Prop} (ho : one v = true) (h : wr1 w a v k) : ∃ w', (store a v).run P w = .ok () w' ∧ k w' := by
  unfold wr1 at h
  split at h
  · rename_i c T fr hh
    obtain ⟨⟨hs, hn, hf⟩, h⟩ := h
    refine ⟨_, ?_, h⟩
    rw [addr_eta a hs, run_store P w _ v _ (by rw [← one_eq]; exact ho), cell_of hh]
    simp [hn, frozen_of hh hf, setCell_eq hh]
  · exact h.elim
theorem setBlk_heap {w : World} {b : Nat} {o o' : Obj} (h : w.heap[b]? = some o') : (setBlk w b o).heap[b]? = some o := by
  have hb : b < w.heap.size := (Array.getElem?_eq_some_iff.1 h).1
  simp [setBlk, hb]
theorem setBlk_setBlk (w : World) (b : Nat) (o o' : Obj) : setBlk (setBlk w b o) b o' = setBlk w b o' := by
  unfold setBlk
  simp only [World.mk.injEq, and_true]
  apply Array.ext_getElem?
  intro j
  simp only [Array.getElem?_setIfInBounds]
  by_cases hj : b = j
  · subst hj; simp
  · simp [hj]
theorem setBlk_self {w : World} {b : Nat} {o : Obj} (h : w.heap[b]? = some o) : setBlk w b o = w := by
  unfold setBlk
  have : w.heap.setIfInBounds b o = w.heap := by
    apply Array.ext_getElem?
    intro j
    rw [Array.getElem?_setIfInBounds]
    by_cases hj : b = j
    · subst hj
      obtain ⟨hb, h2⟩ := Array.getElem?_eq_some_iff.1 h
      simp [hb, h2]
    · simp [hj]
  rw [this]
theorem run_storeCells_gen (g o : Nat) (t : TypeId) (fr : Nat × Nat) : ∀ (vs : List Value) (i : Nat) (cur : Array Value) (w : World), w.heap[g]? = some (.cells cur t fr) → o + i + vs.length ≤ cur.size →
    okFr fr (o + i) vs.length → (∀ v ∈ vs, one v = true) →
    (storeCells ⟨g, o, none⟩ vs i).run P w = .ok () (setBlk w g (.cells (splice cur (o + i) vs.toArray) t fr))
  | [], i, cur, w, hg, _, _, _ => by
    simp only [storeCells]
    have : splice cur (o + i) #[] = cur := by simp [splice]
    rw [show (([] : List Value).toArray) = #[] from rfl, this, setBlk_self hg]
    rfl
  | v :: rest, i, cur, w, hg, hl, hf, h1 => by
    have hi : o + i < cur.size := by simp at hl; omega
    have hadd : (⟨g, o, none⟩ : Addr).add i = ⟨g, o + i, none⟩ := add_none rfl i
    have hf1 : okFr fr (o + i) 1 := by
      rcases hf with h | h | h
      · exact .inl h
      · exact .inr (.inl (by simp at h; omega))
      · exact .inr (.inr h)
    have hf2 : okFr fr (o + (i + 1)) rest.length := by
      rcases hf with h | h | h
      · exact .inl (by omega)
      · exact .inr (.inl (by simp at h; omega))
      · exact .inr (.inr h)
    have hst : (store ((⟨g, o, none⟩ : Addr).add i) v).run P w = .ok () (setBlk w g (.cells (cur.setIfInBounds (o + i) v) t fr)) := by
      rw [hadd, run_store P w _ v _ (by rw [← one_eq]; exact h1 v (by simp)), cell_of hg]
      simp [hi, frozen_of hg hf1, setCell_eq hg]
    have ih := run_storeCells_gen g o t fr rest (i + 1) (cur.setIfInBounds (o + i) v) _ (setBlk_heap (o := .cells (cur.setIfInBounds (o + i) v) t fr) hg) (by simp at hl ⊢; omega) hf2 (fun x hx => h1 x (by simp [hx]))
    simp only [storeCells, Sem.run_bind, hst, Result.andThen_ok, ih, setBlk_setBlk]
    congr 3
    have e := list_seg_step cur.toList (o + i) v rest (by simp at hl ⊢; omega)
    unfold splice
    simpa [Array.toList_setIfInBounds, Nat.add_assoc] using e
theorem wrN_run {w : World} {a : Addr} {vs : Array Value} {k : World → Prop} (h : wrN w a vs k) : ∃ w', (storeCells a vs.toList).run P w = .ok () w' ∧ k w' := by
  unfold wrN at h
  split at h
  · rename_i c T fr hh
    obtain ⟨⟨hs, hn, hf, ho⟩, h⟩ := h
    refine ⟨_, ?_, h⟩
    rw [addr_eta a hs]
    have := run_storeCells_gen (P := P) a.block a.off T fr vs.toList 0 c w hh (by simpa using hn) (by simpa using hf) (fun v hv => by
      rw [Array.all_eq_true_iff_forall_mem] at ho
      exact ho v (Array.mem_toList_iff.1 hv))
    simpa using this
  · exact h.elim
theorem ld1_q {t : TypeId} {x : Value} {w : World} {k : Value → Prop} (ht : aggO P t = some false) (h : ld1 x w k) : qG P (Instr.loadAt t x) w k := by
  unfold ld1 at h
  split at h
  · rename_i a
    obtain ⟨v, hr, hk⟩ := rd1_run (P := P) h
    refine ⟨v, ?_, hk⟩
    show (loadVar t a).run P w = _
    unfold loadVar
    rw [Sem.run_bind, aggO_run ht]
    exact hr
  · exact h.elim
theorem ldn_q {t : TypeId} {n : Nat} {x : Value} {w : World} {k : Value → Prop} (ht : aggO P t = some true) (hn : szO P t = some n) (h : ldn n x w k) : qG P (Instr.loadAt t x) w k := by
  unfold ldn at h
  split at h
  · rename_i a
    obtain ⟨cs, hr, hk, _⟩ := rdN_run (P := P) h
    refine ⟨_, ?_, hk⟩
    simp [Instr.loadAt, Instr.sureAddr, loadVar, aggO_run ht, szO_some hn, hr w rfl, pure, Sem.run]
  · exact h.elim
theorem cells_one {v : Value} (h : one v = true) : v.cells = #[v] := by cases v <;> first | rfl | cases h
theorem st1_u {t : TypeId} {x v : Value} {w : World} {k : World → Prop} (hn : szO P t = some 1) (h : st1 x v w k) : uG P (Instr.storeAt t x v) w k := by
  unfold st1 at h
  split at h
  · rename_i a
    obtain ⟨ho, h⟩ := h
    obtain ⟨w', hr, hk⟩ := wr1_run (P := P) ho h
    refine ⟨w', ?_, hk⟩
    have h0 : a.add 0 = a := by simp [Addr.add]
    simp [Instr.storeAt, Instr.sureAddr, storeVar, cells_one ho, szO_some hn, storeCells, h0, hr, pure, Sem.run]
  · exact h.elim
theorem stn_u {t : TypeId} {n : Nat} {x v : Value} {w : World} {k : World → Prop} (hn : szO P t = some n) (h : stn n x v w k) : uG P (Instr.storeAt t x v) w k := by
  unfold stn at h
  split at h
  · rename_i a cs
    obtain ⟨hs, h⟩ := h
    obtain ⟨w', hr, hk⟩ := wrN_run (P := P) h
    refine ⟨w', ?_, hk⟩
    simp [Instr.storeAt, Instr.sureAddr, storeVar, Value.cells, szO_some hn, hs, hr, pure, Sem.run]
  · exact h.elim
theorem fa_q {s : TypeId} {fs : Array Field} {f : Nat} {fd : Field} {n : Nat} {x : Value} {w : World} {k : Value → Prop} (hu : P.underlying s = some (.struct fs)) (hf : fs[f]? = some fd)
    (hn : szO P fd.type = some (n + 1)) (h : fa fd.offset x k) : qG P (Instr.fieldAt s x f) w k := by
  unfold fa at h
  split at h
  · rename_i a
    refine ⟨_, ?_, h⟩
    simp [Instr.fieldAt, run_underlying hu, hf, Instr.sureAddr, fieldPlace, szO_some hn, pure, Sem.run]
  · exact h.elim
theorem ia_q {t e : TypeId} {n : Nat} {x i : Value} {w : World} {k : Value → Prop} (hu : P.underlying t = some (.slice e)) (hn : szO P e = some n) (h : ia n x i k) : qG P (Instr.indexAt t x i) w k := by
  unfold ia at h
  split at h
  · rename_i a len cap kd j
    obtain ⟨hj, h⟩ := h
    refine ⟨_, ?_, h⟩
    simp [Instr.indexAt, asIntOf, run_underlying hu, hj, szO_some hn, pure, Sem.run]
  · exact h.elim
theorem iaA_q {t e : TypeId} {len n : Nat} {x i : Value} {w : World} {k : Value → Prop} (hu : P.underlying t = some (.array len e)) (hn : szO P e = some n) (h : iaA len n x i k) : qG P (Instr.indexAt t x i) w k := by
  unfold iaA at h
  split at h
  · rename_i a kd j
    obtain ⟨hj, h⟩ := h
    refine ⟨_, ?_, h⟩
    simp [Instr.indexAt, asIntOf, run_underlying hu, Instr.sureAddr, hj, szO_some hn, pure, Sem.run]
  · exact h.elim
theorem ixS_q {t : TypeId} {x i : Value} {w : World} {k : Value → Prop} (hu : P.underlying t = some .string) (h : ixS x i k) : qG P (Instr.index t x i) w k := by
  unfold ixS at h
  split at h
  · rename_i s kd j
    obtain ⟨hj, h⟩ := h
    split at h
    · rename_i b hb
      refine ⟨_, ?_, h⟩
      simp [Instr.index, asIntOf, run_underlying hu, hj, hb, pure, Sem.run]
    · exact h.elim
  · exact h.elim
theorem part_run {t : TypeId} {n : Nat} {agg : Bool} {off : Nat} {cs : Array Value} {w : World} {k : Value → Prop} (ha : aggO P t = some agg) (hn : szO P t = some n) (h : partG agg off n cs k) : ∃ v, (part t cs off).run P w = .ok v w ∧ k v := by
  unfold partG at h
  split at h
  · exact ⟨_, by simp [part, aggO_run ha, szO_some hn, pure, Sem.run], h⟩
  · split at h
    · rename_i v hv
      exact ⟨v, by simp [part, aggO_run ha, hv, pure, Sem.run], h⟩
    · exact h.elim
theorem ixA_q {t e : TypeId} {len n : Nat} {agg : Bool} {x i : Value} {w : World} {k : Value → Prop} (hu : P.underlying t = some (.array len e)) (hn : szO P e = some n) (ha : aggO P e = some agg) (h : ixA len n agg x i k) :
    qG P (Instr.index t x i) w k := by
  unfold ixA at h
  split at h
  · rename_i cs kd j
    obtain ⟨hj, h⟩ := h
    obtain ⟨v, hr, hk⟩ := part_run (w := w) ha hn h
    refine ⟨v, ?_, hk⟩
    simp [Instr.index, asIntOf, run_underlying hu, hj, szO_some hn, hr, pure, Sem.run]
  · exact h.elim
theorem fld_q {t : TypeId} {fs : Array Field} {f : Nat} {fd : Field} {n : Nat} {agg : Bool} {x : Value} {w : World} {k : Value → Prop} (hu : P.underlying t = some (.struct fs)) (hf : fs[f]? = some fd)
    (hn : szO P fd.type = some n) (ha : aggO P fd.type = some agg) (h : fld agg fd.offset n x k) : qG P (Instr.field t x f) w k := by
  unfold fld at h
  split at h
  · rename_i cs
    obtain ⟨v, hr, hk⟩ := part_run (w := w) ha hn h
    refine ⟨v, ?_, hk⟩
    simp [Instr.field, run_underlying hu, hf, asAgg, hr, pure, Sem.run]
  · exact h.elim
theorem bnd_run {x : Option Value} {d y : Nat} {code : BoundsCode} {w : World} {k : Nat → Prop} (h : bnd x d y k) : ∃ n, (match x with | some v => Instr.sliceBound v y code | none => pure d : Sem Nat).run P w = .ok n w ∧ k n := by
  unfold bnd at h
  split at h
  · exact ⟨d, rfl, h⟩
  · rename_i kd i
    obtain ⟨hi, h⟩ := h
    exact ⟨_, by simp [Instr.sliceBound, asIntOf, hi, pure, Sem.run], h⟩
  · exact h.elim
theorem sliceBounds_run {isS : Bool} {len cap : Nat} {lo hi : Option Value} {w : World} {k : Nat → Nat → Prop} (h : bnd hi len cap fun h => bnd lo 0 h fun l => k l h) :
    ∃ l h, (Instr.sliceBounds isS len cap lo hi none).run P w = .ok (l, h, cap) w ∧ k l h := by
  obtain ⟨h', hr, h⟩ := bnd_run (P := P) (w := w) (code := if isS then .sliceAcap else .sliceAlen) h
  obtain ⟨l, hr2, hk⟩ := bnd_run (P := P) (w := w) (code := .sliceB) h
  refine ⟨l, h', ?_, hk⟩
  cases hi <;> cases lo <;> simp only at hr hr2 <;> simp [Instr.sliceBounds, hr, hr2, pure, Sem.run] <;> simp_all [pure]
theorem slS_q {t : TypeId} {x : Value} {lo hi : Option Value} {w : World} {k : Value → Prop} (hu : P.underlying t = some .string) (h : slS x lo hi k) : qG P (Instr.sliceAt t x lo hi none) w k := by
  unfold slS at h
  split at h
  · rename_i s
    obtain ⟨l, h', hr, hk⟩ := sliceBounds_run (P := P) (w := w) (isS := false) (k := fun l h => k (.string (s.extract l h))) h
    refine ⟨_, ?_, hk⟩
    simp [Instr.sliceAt, Instr.slice, run_underlying hu, hr, pure, Sem.run]
  · exact h.elim
theorem slL_q {t e : TypeId} {n : Nat} {x : Value} {lo hi : Option Value} {w : World} {k : Value → Prop} (hu : P.underlying t = some (.slice e)) (hn : szO P e = some n) (h : slL n x lo hi k) : qG P (Instr.sliceAt t x lo hi none) w k := by
  unfold slL at h
  split at h
  · rename_i a len cap
    obtain ⟨l, h', hr, hk⟩ := sliceBounds_run (P := P) (w := w) (isS := true) (k := fun l h => k (.slice (if cap = l then a else a.map (·.add (l * n))) (h - l) (cap - l))) h
    refine ⟨_, ?_, hk⟩
    simp [Instr.sliceAt, Instr.slice, run_underlying hu, hr, szO_some hn, pure, Sem.run]
  · exact h.elim
theorem slA_q {t e : TypeId} {len n : Nat} {x : Value} {lo hi : Option Value} {w : World} {k : Value → Prop} (hu : P.underlying t = some (.array len e)) (hn : szO P e = some n) (h : slA len n x lo hi k) : qG P (Instr.sliceAt t x lo hi none) w k := by
  unfold slA at h
  split at h
  · rename_i a
    obtain ⟨l, h', hr, hk⟩ := sliceBounds_run (P := P) (w := w) (isS := false) (k := fun l h => k (.slice (some (if len = l then a else a.add (l * n))) (h - l) (len - l))) h
    refine ⟨_, ?_, hk⟩
    simp [Instr.sliceAt, run_underlying hu, Instr.sureAddr, hr, szO_some hn, pure, Sem.run]
  · exact h.elim
end Go.Q

set_option linter.unusedVariables false
set_option linter.unusedSimpArgs false
namespace Go.Q
variable {P : Program}
theorem placesOf_ok {w : World} : ∀ {fs : List Field} {l : List (Nat × Nat)}, placesOf P fs = some l → (fs.mapM fun f => do pure (f.offset, ← sizeOf f.type) : Sem (List (Nat × Nat))).run P w = .ok l w := by
  intro fs
  induction fs with
  | nil => intro l h; simp only [placesOf, Option.some.injEq] at h; subst h; rfl
  | cons f r ih =>
    intro l h
    unfold placesOf at h
    split at h
    · rename_i n l' hn hl
      simp only [Option.some.injEq] at h; subst h
      rw [List.mapM_cons]
      simp only [Sem.run_bind, szO_some hn, Result.andThen_ok]
      rw [show (pure (f.offset, n) : Sem (Nat × Nat)).run P w = .ok (f.offset, n) w from rfl]
      simp only [Result.andThen_ok, ih hl]
      rfl
    · cases h
theorem bld_q {t : TypeId} {fs : Array Field} {l : List (Nat × Nat)} {n : Nat} {ps : Array (Nat × Value)} {w : World} {k : Value → Prop} (hu : P.underlying t = some (.struct fs)) (hl : placesOf P fs.toList = some l)
    (hz : hasZ P t n = true) (h : bld l (zc P t) ps k) : qG P (Instr.build t ps) w k := by
  unfold bld at h
  split at h
  · rename_i cs hcs
    refine ⟨_, ?_, h⟩
    obtain ⟨z, hr, hzc, _⟩ := hasZ_run hz w
    have hm : (fs.mapM fun f => do pure (f.offset, ← sizeOf f.type) : Sem (Array (Nat × Nat))).run P w = .ok l.toArray w := by
      rw [Array.mapM_eq_mapM_toList]
      simp only [Sem.run_map, placesOf_ok hl, Result.andThen_ok]
    have hf : Instr.fill (l.toArray[·]?) (zc P t) ps.toList = some cs := by
      rw [← hcs]; congr 1; funext i; simp
    simp only [Instr.build, Sem.run_bind, hr, Result.andThen_ok, hzc, run_underlying hu, hm, hf]
    rfl
  · exact h.elim
theorem newVar_run (T : TypeId) (v : Value) (w : World) : (newVar T v).run P w = .ok ⟨w.heap.size, 0, none⟩ (w.alloc (.cells v.cells T)) := by
  rfl
theorem new_e {t : TypeId} {n : Nat} {w : World} {k : KW} (hz : hasZ P t n = true) (h : newG (zc P t) t w k) : eG P (Instr.alloc t true (.tuple #[])) w k := by
  obtain ⟨z, hr, hzc, _⟩ := hasZ_run hz w
  refine ⟨newP w, _, ?_, h⟩
  simp only [Instr.alloc, Sem.run_bind, hr, Result.andThen_ok, newVar_run, hzc]
  rfl
theorem box_e {t : TypeId} {v : Value} {w : World} {k : KW} (h : newG v.cells t w k) : eG P (Instr.box t v) w k := by
  refine ⟨newP w, _, ?_, h⟩
  simp only [Instr.box, Sem.run_bind, Result.andThen_ok, newVar_run]
  rfl
theorem rep_eq (zero : Array Value) (n : Nat) : ((Array.range n).map (zero[· % zero.size]!)) = rep zero n := rfl
theorem newRow_run (T : TypeId) (c : Array Value) (w : World) : (newRow T c).run P w = .ok ⟨w.heap.size, 0, none⟩ (w.alloc (.cells c T)) := by
  rfl
theorem rep_zero (z z' : Array Value) : rep z 0 = rep z' 0 := by simp [rep]
theorem bsl_e {t e : TypeId} {n len : Nat} {ps : Array (Nat × Value)} {w : World} {k : KW} (hu : P.underlying t = some (.slice e)) (hn : szO P e = some n) (hz : hasZ P e n = true) (hle : len * n ≤ 2 ^ 24)
    (h : bsl e n len (zc P e) ps w k) : eG P (Instr.buildSlice t len ps) w k := by
  unfold bsl at h
  split at h
  · rename_i cs hcs
    refine ⟨_, _, ?_, h⟩
    obtain ⟨z, hr, hzc, _⟩ := hasZ_run hz w
    have hgt : ¬ len * n > 2 ^ 24 := by omega
    unfold Instr.buildSlice
    simp only [Sem.run_bind, run_underlying hu, Result.andThen_ok, szO_some hn, hgt, if_false]
    by_cases hm : len * n = 0
    · have hcs' : Instr.fill (fun i => some (i * n, n)) (rep #[] (len * n)) ps.toList = some cs := by
        rw [hm] at hcs ⊢; rw [rep_zero #[] (zc P e)]; exact hcs
      simp only [hm, if_true]
      rw [hm] at hcs'
      simp only [pure, Sem.run, Result.andThen_ok, rep_eq, hcs', Sem.run_bind, newRow_run]
    · simp only [hm, if_false, Sem.run_bind, hr, Result.andThen_ok, hzc, pure, Sem.run, rep_eq, hcs, newRow_run]
  · exact h.elim
theorem wrap64 (x : Int) (h0 : -9223372036854775808 ≤ x) (h1 : x < 9223372036854775808) : IntKind.i64.wrap x = x := by
  unfold IntKind.wrap IntKind.signed IntKind.bits
  simp
  omega
theorem mk_e {t e : TypeId} {i : TypeInfo} {l c : Value} {w : World} {k : KW} (hu : P.underlying t = some (.slice e)) (hi : P.info? e = some i) (hz : hasZ P e i.size = true)
    (h : mkG e i.size i.bytes (zc P e) l c w k) : eG P (Instr.makeSlice t l c) w k := by
  unfold mkG at h
  split at h
  · rename_i kl l kc c
    obtain ⟨⟨h0, h1, h2, h3⟩, h⟩ := h
    refine ⟨_, _, ?_, h⟩
    obtain ⟨z, hr, hzc, _⟩ := hasZ_run hz w
    have hn : szO P e = some i.size := by simp [szO, hi]
    have hwl : IntKind.i64.wrap l = l := wrap64 l (by omega) (by omega)
    have hwc : IntKind.i64.wrap c = c := wrap64 c (by omega) (by omega)
    have hA : ¬ (c < 0) := by omega
    have hB : ¬ ((i.bytes : Int) * c > 2 ^ 48) := by omega
    have hC : ¬ (l < 0) := by omega
    have hD : ¬ (l > c) := by omega
    unfold Instr.makeSlice
    simp only [Sem.run_bind, run_underlying hu, Result.andThen_ok, asInt, asIntOf, pure, Sem.run, run_typeInfo w hi, hwl, hwc]
    simp only [hA, hB, hC, hD, decide_false, Bool.or_self, Bool.false_eq_true, if_false]
    have hask : ∀ b : Nat, (askRoom b).run P w = .ok () w := by
      intro b; unfold askRoom; split <;> simp [mark, Sem.run, pure]
    by_cases hm : c.toNat * i.size = 0
    · simp [hask, szO_some hn, hm, Sem.run, rep_eq, rep_zero #[] (zc P e), newRow_run]
    · simp [hask, szO_some hn, hm, Sem.run, rep_eq, hr, hzc, newRow_run]
  · exact h.elim
theorem cvI_e {a b : TypeId} {ka k : IntKind} {x : Value} {w : World} {K : Value → Prop} (ha : P.underlying a = some (.int ka)) (hb : P.underlying b = some (.int k)) (h : cvI k x K) : qG P (convert a b x) w K := by
  unfold cvI at h
  split at h
  · refine ⟨_, ?_, h⟩
    simp [convert, run_underlying ha, run_underlying hb, Conv.intToInt, pure, Sem.run]
  · exact h.elim
theorem cvSS_e {a b : TypeId} {x : Value} {w : World} {K : Value → Prop} (ha : P.underlying a = some .string) (hb : P.underlying b = some .string) (h : cvSS x K) : qG P (convert a b x) w K := by
  unfold cvSS at h
  split at h
  · refine ⟨_, ?_, h⟩
    simp [convert, run_underlying ha, run_underlying hb, pure, Sem.run]
  · exact h.elim
theorem lenS_q {t : TypeId} {ts : Array TypeId} {ty : TypeId} {x : Value} {w : World} {K : Value → Prop} (ht : ts[0]? = some t) (hu : P.underlying t = some .string) (h : lenS x K) : qG P (Builtin.len_ ts ty #[x]) w K := by
  unfold lenS at h
  split at h
  · refine ⟨_, ?_, h⟩
    simp [Builtin.len_, ht, run_underlying hu, goInt, pure, Sem.run]
  · exact h.elim
theorem lenL_q {t e : TypeId} {ts : Array TypeId} {ty : TypeId} {x : Value} {w : World} {K : Value → Prop} (ht : ts[0]? = some t) (hu : P.underlying t = some (.slice e)) (h : lenL x K) : qG P (Builtin.len_ ts ty #[x]) w K := by
  unfold lenL at h
  split at h
  · refine ⟨_, ?_, h⟩
    simp [Builtin.len_, ht, run_underlying hu, goInt, pure, Sem.run]
  · exact h.elim
theorem lenC_q {t e : TypeId} {n : Nat} {ts : Array TypeId} {ty : TypeId} {x : Value} {w : World} {K : Value → Prop} (ht : ts[0]? = some t) (hu : P.underlying t = some (.array n e)) (h : K (.int .i64 n)) : qG P (Builtin.len_ ts ty #[x]) w K := by
  refine ⟨_, ?_, h⟩
  simp [Builtin.len_, ht, run_underlying hu, goInt, pure, Sem.run]
end Go.Q

set_option linter.unusedVariables false
set_option linter.unusedSimpArgs false
namespace Go.Q
variable {P : Program}
theorem bytesOf_some : ∀ {cs : List Value} {l : List UInt8}, bytesOf cs = some l → ∃ ns : List Int, cs = ns.map (fun n => .int .u8 n) ∧ l = ns.map fun n => UInt8.ofNat n.toNat := by
  intro cs
  induction cs with
  | nil => intro l h; simp only [bytesOf, Option.some.injEq] at h; subst h; exact ⟨[], rfl, rfl⟩
  | cons v r ih =>
    intro l h
    unfold bytesOf at h
    split at h
    · rename_i hh; cases hh
    · rename_i n r' hh
      injection hh with h1 h2; subst h1; subst h2
      cases hb : bytesOf r with
      | none => rw [hb] at h; cases h
      | some l' =>
        rw [hb] at h
        simp only [Option.map_some, Option.some.injEq] at h
        obtain ⟨ns, h1, h2⟩ := ih hb
        exact ⟨n :: ns, by simp [h1], by rw [← h, h2]; simp⟩
    · cases h
theorem foldl_push (ns : List Int) : ∀ acc : ByteArray, ns.foldl (fun r n => r.push (UInt8.ofNat n.toNat)) acc = ⟨(acc.data.toList ++ ns.map fun n => UInt8.ofNat n.toNat).toArray⟩ := by
  induction ns with
  | nil => intro acc; cases acc; simp
  | cons n r ih =>
    intro acc
    rw [List.foldl_cons, ih]
    congr 1
    simp [ByteArray.push]
theorem isU8_run {e : TypeId} (h : isU8 P e = true) (w : World) : (underlying e).run P w = .ok (.int .u8) w := by
  unfold isU8 at h
  split at h
  · rename_i hu; exact run_underlying hu w
  · cases h
theorem cvBS_q {a b e : TypeId} {x : Value} {w : World} {K : Value → Prop} (ha : P.underlying a = some (.slice e)) (hb : P.underlying b = some .string) (he : isU8 P e = true) (h : cvBS x w K) : qG P (convert a b x) w K := by
  have hc : ∀ p l c, (convert a b (.slice p l c)).run P w = (Conv.bytesToString (.slice p l c)).run P w := by
    intro p l c
    simp only [convert, Sem.run_bind, run_underlying ha, run_underlying hb, Result.andThen_ok, isU8_run he]
  unfold cvBS at h
  split at h
  · rename_i l c
    refine ⟨_, ?_, h⟩
    rw [hc]
    rfl
  · rename_i p len cap
    obtain ⟨cs, hr, hk, hsz⟩ := rdN_run (P := P) h
    cases hbo : bytesOf cs.toList with
    | none => rw [hbo] at hk; exact hk.elim
    | some l =>
      rw [hbo] at hk
      refine ⟨_, ?_, hk⟩
      obtain ⟨ns, h1, h2⟩ := bytesOf_some hbo
      rw [hc, run_bytesToString w p len cap ns (by rw [hr w rfl]; congr 1; rw [← h1])]
      rw [foldl_push, h2]
      rfl
  · exact h.elim
theorem cvSB_e {a b e : TypeId} {x : Value} {w : World} {K : KW} (ha : P.underlying a = some .string) (hb : P.underlying b = some (.slice e)) (he : isU8 P e = true) (h : cvSB e x w K) : eG P (convert a b x) w K := by
  unfold cvSB at h
  split at h
  · rename_i s
    obtain ⟨hs, h⟩ := h
    let cap := s.size + w.tape w.drawn (.appendCap s.size 0 e) % (2 ^ 63 - s.size)
    have hlt : w.tape w.drawn (.appendCap s.size 0 e) % (2 ^ 63 - s.size) < 2 ^ 63 - s.size := Nat.mod_lt _ (by omega)
    refine ⟨_, _, ?_, h cap (Nat.le_add_right _ _) (by omega)⟩
    simp only [convert, Sem.run_bind, run_underlying ha, run_underlying hb, Result.andThen_ok, isU8_run he, Conv.stringToBytes]
    have hch : (choose (.appendCap s.size 0 e)).run P w = .ok cap w.drew := rfl
    rw [hch]
    simp only [Result.andThen_ok, newRow_run]
    have hmark : (markStringish ⟨w.drew.heap.size, 0, none⟩).run P (w.drew.alloc (.cells ((s.data.map fun b => .int .u8 b.toNat) ++ Array.replicate (cap - s.size) (.int .u8 0)) e)) =
        .ok () (w.drew.alloc (.cells (u8s s ++ Array.replicate (cap - s.size) (.int .u8 0)) e (cap, cap + 1))) := by
      unfold markStringish
      simp only [Sem.run_bind]
      have hsh : (shape w.drew.heap.size).run P (w.drew.alloc (.cells ((s.data.map fun b => .int .u8 b.toNat) ++ Array.replicate (cap - s.size) (.int .u8 0)) e)) =
          .ok (some (e, cap)) (w.drew.alloc (.cells ((s.data.map fun b => .int .u8 b.toNat) ++ Array.replicate (cap - s.size) (.int .u8 0)) e)) := by
        show Result.ok (World.shape? _ _) _ = _
        congr 1
        simp only [World.shape?, World.alloc, Array.getElem?_push_size, Array.size_append, Array.size_map, Array.size_replicate]
        congr 2
        have : s.data.size = s.size := rfl
        omega
      rw [hsh]
      simp only [Result.andThen_ok]
      show Result.ok () (World.freeze _ _ _) = _
      congr 1
      unfold World.freeze World.alloc
      simp only [Nat.one_ne_zero, if_false, World.mk.injEq, and_true]
      apply Array.ext_getElem?
      intro j
      rw [Array.getElem?_modify]
      simp only [Array.getElem?_push]
      by_cases hj : w.drew.heap.size = j
      · subst hj; simp [u8s]
      · have hj' : ¬ j = w.drew.heap.size := fun h => hj h.symm
        simp only [World.size_drew] at hj hj'
        simp [hj, hj']
    simp only [World.size_drew] at hmark
    simp only [World.size_drew, hmark, Result.andThen_ok]
    rfl
  · exact h.elim
theorem src_run {n : Nat} {x : Value} {most : Nat → Nat} {w : World} {k : Nat → Array Value → Prop} (h : src n x most w k) :
    ∃ m cs, (Builtin.lenOf x).run P w = .ok m w ∧ (∀ w' : World, w'.heap = w.heap → (Builtin.firstCells n (most m) x).run P w' = .ok cs w') ∧ k (most m) cs := by
  unfold src at h
  split at h
  · rename_i m c
    exact ⟨m, #[], rfl, fun _ _ => rfl, h⟩
  · rename_i a m c
    obtain ⟨cs, hr, hk, _⟩ := rdN_run (P := P) h
    exact ⟨m, cs, rfl, hr, hk⟩
  · rename_i s
    exact ⟨s.size, _, rfl, fun _ _ => rfl, h⟩
  · exact h.elim
theorem srcA_run {n : Nat} {x : Value} {w : World} {k : Nat → Array Value → Prop} (h : srcA n x w k) :
    ∃ m cs, (Builtin.lenOf x).run P w = .ok m w ∧ (∀ w' : World, w'.heap = w.heap → (Builtin.firstCells n m x).run P w' = .ok cs w') ∧ k m cs := by
  unfold srcA at h
  split at h
  · rename_i m c
    exact ⟨m, #[], rfl, fun _ _ => rfl, h⟩
  · rename_i a m c
    split at h
    · rename_i h0
      refine ⟨m, #[], rfl, fun w' _ => ?_, h⟩
      unfold Builtin.firstCells
      rw [h0]
      rfl
    · obtain ⟨cs, hr, hk, _⟩ := rdN_run (P := P) h
      exact ⟨m, cs, rfl, hr, hk⟩
  · rename_i s
    exact ⟨s.size, _, rfl, fun _ _ => rfl, h⟩
  · exact h.elim
theorem wrO_run {w : World} {a : Option Addr} {off : Nat} {vs : Array Value} {k : World → Prop} (h : wrO w a off vs k) :
    ∃ w', (do if let some a := a then storeCells (a.add off) vs.toList : Sem Unit).run P w = .ok () w' ∧ k w' := by
  unfold wrO at h
  cases a with
  | none => exact ⟨w, rfl, h⟩
  | some a => exact wrN_run h
theorem base_run {n : Nat} {a : Option Addr} {m c : Nat} {w : World} {k : Array Value → Prop} (h : base n a m w k) : ∃ cs, (∀ w' : World, w'.heap = w.heap → (Builtin.firstCells n m (.slice a m c)).run P w' = .ok cs w') ∧ k cs := by
  unfold base at h
  cases a with
  | none => exact ⟨#[], fun _ _ => rfl, h⟩
  | some a =>
    obtain ⟨cs, hr, hk, _⟩ := rdN_run (P := P) h
    exact ⟨cs, hr, hk⟩
theorem zeroCells_eq {e : TypeId} {n : Nat} (hz : (zc P e).size = n) (m : Nat) : Builtin.zeroCells (zc P e) m = rep (zc P e) (m * n) := by
  unfold Builtin.zeroCells rep; rw [hz]
def notInt : TypeDesc → Bool
  | .int _ => false
  | _ => true
theorem app_e {t e : TypeId} {i : TypeInfo} {ts : Array TypeId} {t1 : TypeId} {d : TypeDesc} {ty : TypeId} {s x : Value} {w : World} {k : KW} (ht : ts[0]? = some t) (hu : P.underlying t = some (.slice e))
    (ht1 : ts[1]? = some t1) (hu1 : P.underlying t1 = some d) (hd : notInt d = true) (hi : P.info? e = some i) (hz : hasZ P e i.size = true) (hb : 0 < i.bytes)
    (h : app e i.size i.bytes (zc P e) s x w k) : eG P (Builtin.append_ ts ty #[s, x]) w k := by
  unfold app at h
  split at h
  · rename_i a sl sc
    obtain ⟨z, hzr, hzc, hzs⟩ := hasZ_run hz w.drew
    have hn : szO P e = some i.size := by simp [szO, hi]
    obtain ⟨m, cs, hlen, hfc, h1, h2⟩ := srcA_run (P := P) h
    by_cases hc : sl + m ≤ sc
    · obtain ⟨w', hw, hk⟩ := wrO_run (P := P) (h1 hc)
      refine ⟨_, _, ?_, hk⟩
      unfold Builtin.append_
      cases d
      case int => exact absurd hd (by simp [notInt])
      all_goals
        simp only [ht, ht1, List.getElem?_toArray, gz0, gz1, Sem.run_bind, run_underlying hu, run_underlying hu1, Result.andThen_ok, szO_some hn, pure, Sem.run,
          Bool.false_eq_true, if_false, hlen, hc, if_true, Bool.not_false, hfc w rfl]
        cases a with
        | none => simp only [pure, Sem.run, Result.ok.injEq, true_and] at hw ⊢; exact hw
        | some a =>
          simp only at hw
          simp only [Sem.run_bind, hw, Result.andThen_ok]
          rfl
    · have hc' : sc < sl + m := by omega
      obtain ⟨⟨hb1, hb2⟩, h2⟩ := h2 hc'
      obtain ⟨old, hold, hk⟩ := base_run (P := P) (c := sc) h2
      let cap := (sl + m) + w.tape w.drawn (.appendCap (sl + m) sc e) % (2 ^ 63 - (sl + m))
      have hlt : w.tape w.drawn (.appendCap (sl + m) sc e) % (2 ^ 63 - (sl + m)) < 2 ^ 63 - (sl + m) := Nat.mod_lt _ (by omega)
      refine ⟨_, _, ?_, hk cap (Nat.le_add_right _ _) (by omega)⟩
      have hch : (choose (.appendCap (sl + m) sc e)).run P w = .ok cap w.drew := rfl
      have holdD : (Builtin.firstCells i.size sl (.slice a sl sc)).run P w.drew = .ok old w.drew := hold w.drew rfl
      have hfcD : (Builtin.firstCells i.size m x).run P w.drew = .ok cs w.drew := hfc w.drew rfl
      have hgt : ¬ Builtin.nextslicecap (sl + m) sc * i.bytes > 2 ^ 48 := by omega
      have hbz : ¬ i.bytes = 0 := by omega
      have hask : ∀ (b : Nat) (w : World), (askRoom b).run P w = .ok () w := by
        intro b w; unfold askRoom; split <;> simp [mark, Sem.run, pure]
      unfold Builtin.append_
      cases d
      case int => exact absurd hd (by simp [notInt])
      all_goals
        simp only [ht, ht1, List.getElem?_toArray, gz0, gz1, Sem.run_bind, run_underlying hu, run_underlying hu1, Result.andThen_ok, szO_some hn, pure, Sem.run,
          Bool.false_eq_true, if_false, hlen, hc, Bool.not_false, if_true, run_typeInfo w hi, run_typeInfo w.drew hi, hbz, or_self, and_false, hgt, hch, hask, holdD, hfcD, hzr, hzc, zeroCells_eq hzs, newRow_run]
        rfl
  · exact h.elim
theorem cp_e {t e : TypeId} {n : Nat} {ts : Array TypeId} {ty : TypeId} {d s : Value} {w : World} {k : KW} (ht : ts[0]? = some t) (hu : P.underlying t = some (.slice e)) (hn : szO P e = some n)
    (h : cp n d s w k) : eG P (Builtin.copy_ ts ty #[d, s]) w k := by
  unfold cp at h
  split at h
  · rename_i a dl dc
    obtain ⟨m, cs, hlen, hfc, h1⟩ := src_run (P := P) h
    obtain ⟨w', hw, hk⟩ := wrO_run (P := P) h1
    refine ⟨_, _, ?_, hk⟩
    unfold Builtin.copy_
    simp only [ht, List.getElem?_toArray, gz0, gz1, Sem.run_bind, run_underlying hu, Result.andThen_ok, szO_some hn, hlen, hfc w rfl]
    cases a with
    | none => simp only [pure, Sem.run, Result.ok.injEq, true_and] at hw ⊢; exact ⟨rfl, hw⟩
    | some a =>
      have h0 : a.add 0 = a := by simp [Addr.add]
      simp only [h0] at hw
      simp only [Sem.run_bind, hw, Result.andThen_ok]
      rfl
  · exact h.elim
theorem clr_e {t e : TypeId} {n : Nat} {ts : Array TypeId} {ty : TypeId} {x : Value} {w : World} {k : KW} (ht : ts[0]? = some t) (hu : P.underlying t = some (.slice e)) (hz : hasZ P e n = true)
    (h : clr n (zc P e) x w k) : eG P (Builtin.clear_ ts ty #[x]) w k := by
  obtain ⟨z, hzr, hzc, hzs⟩ := hasZ_run hz w
  unfold clr at h
  split at h
  · rename_i a c
    refine ⟨_, _, ?_, h⟩
    unfold Builtin.clear_
    simp only [ht, List.getElem?_toArray, List.getElem?_cons_zero, Sem.run_bind, run_underlying hu, Result.andThen_ok]
    cases a <;> rfl
  · rename_i l c _
    refine ⟨_, _, ?_, h⟩
    unfold Builtin.clear_
    simp only [ht, List.getElem?_toArray, List.getElem?_cons_zero, Sem.run_bind, run_underlying hu, Result.andThen_ok]
    rfl
  · rename_i a m c
    obtain ⟨w', hw, hk⟩ := wrN_run (P := P) h
    refine ⟨_, _, ?_, hk⟩
    unfold Builtin.clear_
    simp only [ht, List.getElem?_toArray, List.getElem?_cons_zero, Sem.run_bind, run_underlying hu, Result.andThen_ok, hzr, hzc, zeroCells_eq hzs, hw]
    rfl
  · exact h.elim
end Go.Q

set_option linter.unusedVariables false
set_option linter.unusedSimpArgs false
namespace Go.Q
variable {P : Program}
theorem runv {s : Sem Value} {w w' : World} {v : Value} (h : s.run P w = .ok v w') :
    (do pure (Next.value (← s)) : Sem Next).run P w = .ok (.value v) w' := by
  simp [h, pure, Sem.run]
theorem runu {s : Sem Unit} {w w' : World} (h : s.run P w = .ok () w') :
    (do s; pure Next.skip : Sem Next).run P w = .ok .skip w' := by
  simp [h, pure, Sem.run]
def NextOk (P : Program) (s : Sem Next) (w : World) (k : KW) : Prop :=
  match s.run P w with
  | .ok (.value v) w' => k v w'
  | .ok .skip w' => k undef w'
  | .ok (.enter f args) w' => Calls P f args w' fun e w'' => ∃ v, e = .returned v ∧ k v w''
  | _ => False
theorem NextOk.wp {o : Oper} {a : Act} {w : World} {Q : Exit → Act → World → Prop} {next : Act → World → Prop} {k : KW}
    (h : NextOk P (execOp a.eval o) w k) (hk : ∀ v w', k v w' → next (a.put o.dst v) w') : o.wp P a w next Q := by
  unfold Oper.wp
  unfold NextOk at h
  split at h
  · rename_i v w' hr; rw [hr]; exact hk _ _ h
  · rename_i w' hr; rw [hr]; exact hk _ _ h
  · rename_i f args w' hr; rw [hr]
    exact h.mono fun e w'' ⟨v, he, hv⟩ => by subst he; exact hk _ _ hv
  · exact h.elim
theorem qG_ok {s : Sem Value} {w : World} {k : KW} (h : qG P s w fun v => k v w) : NextOk P (do pure (Next.value (← s))) w k := by
  obtain ⟨v, hr, hk⟩ := h
  unfold NextOk; rw [runv hr]; exact hk
theorem eG_ok {s : Sem Value} {w : World} {k : KW} (h : eG P s w k) : NextOk P (do pure (Next.value (← s))) w k := by
  obtain ⟨v, w', hr, hk⟩ := h
  unfold NextOk; rw [runv hr]; exact hk
theorem uG_ok {s : Sem Unit} {w : World} {k : KW} (h : uG P s w fun w => k undef w) : NextOk P (do s; pure Next.skip) w k := by
  obtain ⟨w', hr, hk⟩ := h
  unfold NextOk; rw [runu hr]; exact hk
theorem callFunc_run {f : FuncId} {args : Array Value} {w : World} (h : hasBody P f = true) : (callFunc f args).run P w = .ok (.enter f args) w := by
  unfold hasBody at h
  split at h
  · rename_i fn hf
    simp only [Bool.and_eq_true, Bool.not_eq_true'] at h
    obtain ⟨hn, hb⟩ := h
    have hb' : fn.body ≠ none := by intro hx; simp [hx] at hb
    have hn' : fn.name ≠ "runtime.NumGoroutine" := by simpa using hn
    simp [callFunc, program, Sem.run, hf, hn', hb', pure]
  · cases h
theorem amap_eq (ρ : Operand → Value) (xs : Array Operand) : amap ρ xs = xs.map ρ := by simp [amap, ← Array.toList_map]
theorem pmap_eq (ρ : Operand → Value) (xs : Array (Nat × Operand)) : pmap ρ xs = xs.map fun (i, x) => (i, ρ x) := by simp [pmap, ← Array.toList_map]
theorem bsem_ok {b : Builtin} {ts : Array TypeId} {t : TypeId} {args : Array Value} {s : Sem Value} (h : bsem b ts t args = some s) (cs : Array Bool) :
    builtin b ts t cs args = (do pure (Next.value (← s))) := by
  cases b <;> simp only [bsem, Option.some.injEq, reduceCtorEq] at h <;> subst h <;> rfl
theorem exec_builtin {ρ : Operand → Value} {o : Oper} {c : Call} {b : Builtin} {s : Sem Value} (ho : o.op = .call c) (hc : c.callee = .builtin b) (hs : bsem b c.argTypes o.type (amap ρ c.args) = some s) :
    execOp ρ o = (do pure (Next.value (← s))) := by
  have hex : execOp ρ o = (do let d ← resolve ρ c o.type; invoke d.target d.args) := by unfold execOp; rw [ho]
  have hr : (do let d ← resolve ρ c o.type; invoke d.target d.args : Sem Next) = builtin b c.argTypes o.type (c.args.map fun | .const _ => true | _ => false) (amap ρ c.args) := by
    simp only [resolve, hc, amap_eq]; rfl
  rw [hex, hr, bsem_ok hs]
theorem qsem_ok {ρ : Operand → Value} {o : Oper} {s : Sem Value} (h : qsem ρ o.type o.op = some s) : execOp ρ o = (do pure (Next.value (← s))) := by
  cases ho : o.op with
  | call c =>
    rw [ho] at h
    simp only [qsem] at h
    split at h
    · rename_i b hc
      cases hq : quietB b with
      | true => rw [hq] at h; exact exec_builtin ho hc h
      | false => rw [hq] at h; cases h
    · cases h
  | _ => rw [ho] at h; unfold execOp; rw [ho]; simp only [qsem, amap_eq, pmap_eq, Option.some.injEq, reduceCtorEq] at h <;> subst h <;> rfl
theorem esem_ok {ρ : Operand → Value} {o : Oper} {s : Sem Value} (h : esem ρ o.type o.op = some s) : execOp ρ o = (do pure (Next.value (← s))) := by
  cases ho : o.op with
  | call c =>
    rw [ho] at h
    simp only [esem] at h
    split at h
    · rename_i b hc; exact exec_builtin ho hc h
    · cases h
  | _ => rw [ho] at h; unfold execOp; rw [ho]; simp only [esem, Option.some.injEq, reduceCtorEq] at h <;> subst h <;> rfl
theorem usem_ok {ρ : Operand → Value} {o : Oper} {s : Sem Unit} (h : usem ρ o.op = some s) : execOp ρ o = (do s; pure Next.skip) := by
  unfold execOp
  cases ho : o.op <;> rw [ho] at h <;> simp only [usem, Option.some.injEq, reduceCtorEq] at h <;> subst h <;> rfl
theorem viaQ {ex : Sem Next} {s : Sem Value} {w : World} {k : KW} (hs : ex = (do pure (Next.value (← s)))) (h : qG P s w fun v => k v w) : NextOk P ex w k := by rw [hs]; exact qG_ok h
theorem viaE {ex : Sem Next} {s : Sem Value} {w : World} {k : KW} (hs : ex = (do pure (Next.value (← s)))) (h : eG P s w k) : NextOk P ex w k := by rw [hs]; exact eG_ok h
theorem viaU {ex : Sem Next} {s : Sem Unit} {w : World} {k : KW} (hs : ex = (do s; pure Next.skip)) (h : uG P s w fun w => k undef w) : NextOk P ex w k := by rw [hs]; exact uG_ok h
theorem raw_ok {o : Oper} {ρ : Operand → Value} {w : World} {k : KW} (h : lowK P o .raw ρ w k) : NextOk P (execOp ρ o) w k := by
  simp only [lowK] at h
  split at h
  · rename_i s hs; rw [qsem_ok hs]; exact qG_ok h
  · split at h
    · rename_i s hs; rw [usem_ok hs]; exact uG_ok h
    · split at h
      · rename_i s hs; rw [esem_ok hs]; exact eG_ok h
      · exact h.elim
theorem toList_one {α : Type} {xs : Array α} {x : α} (h : xs.toList = [x]) : xs = #[x] := by cases xs; simp_all
theorem toList_two {α : Type} {xs : Array α} {x y : α} (h : xs.toList = [x, y]) : xs = #[x, y] := by cases xs; simp_all
theorem bind_some_of {ts : Array TypeId} {d : TypeDesc} (h : (ts[0]?).bind P.underlying = some d) : ∃ t, ts[0]? = some t ∧ P.underlying t = some d := by
  cases ht : ts[0]? with
  | none => rw [ht] at h; cases h
  | some t => rw [ht] at h; exact ⟨t, rfl, h⟩
theorem bind_some_of1 {ts : Array TypeId} {d : TypeDesc} (h : (ts[1]?).bind P.underlying = some d) : ∃ t, ts[1]? = some t ∧ P.underlying t = some d := by
  cases ht : ts[1]? with
  | none => rw [ht] at h; cases h
  | some t => rw [ht] at h; exact ⟨t, rfl, h⟩
theorem calls_ok {o : Oper} {ρ : Operand → Value} {c : Call} {w : World} {k : KW} (hρ : ∀ f, ρ (.func f) = .func (.func f) #[] #[]) (ho : o.op = .call c) (h : opK P o ρ w k) : NextOk P (execOp ρ o) w k := by
  have hex : execOp ρ o = (do let d ← resolve ρ c o.type; invoke d.target d.args) := by unfold execOp; rw [ho]
  unfold opK lower at h
  rw [ho] at h
  simp only at h
  cases hc : c.callee with
  | value x =>
    have hv : ∀ fn first captured, ρ x = .func (.func fn) first captured →
        (do let d ← resolve ρ c o.type; invoke d.target d.args : Sem Next) = callFunc fn (first ++ amap ρ c.args ++ captured) := by
      intro fn first captured hx
      simp only [resolve, hc, Deferred.ofValue, hx, amap_eq]
      rfl
    have hval : callV P (ρ x) (amap ρ c.args) w k → NextOk P (execOp ρ o) w k := by
      intro h
      unfold callV at h
      split at h
      · rename_i f first captured hx
        rw [hex, hv f first captured hx]
        unfold NextOk
        rw [callFunc_run h.1]
        exact h.2
      · exact h.elim
    rw [hc] at h
    cases x with
    | tmp t => exact hval h
    | const t => exact hval h
    | global t => exact hval h
    | func f =>
      have hr := hv f #[] #[] (hρ f)
      simp only [Array.empty_append, Array.append_empty] at hr
      rw [hex, hr]
      simp only at h
      cases hb : hasBody P f <;> rw [hb] at h <;> simp only [cond_true, cond_false, lowK] at h
      · obtain ⟨v, w', hrun, hk⟩ := h
        unfold NextOk; rw [hrun]; exact hk
      · unfold NextOk; rw [callFunc_run hb]; exact h
  | invoke r m => rw [hc] at h; exact raw_ok h
  | builtin b =>
    rw [hc] at h
    cases b with
    | len =>
      simp only at h
      split at h
      · rename_i x ha hu
        obtain ⟨t, ht, hu⟩ := bind_some_of hu
        exact viaQ (exec_builtin ho hc (by rw [toList_one ha]; rfl)) (lenS_q ht hu h)
      · rename_i x e ha hu
        obtain ⟨t, ht, hu⟩ := bind_some_of hu
        exact viaQ (exec_builtin ho hc (by rw [toList_one ha]; rfl)) (lenL_q ht hu h)
      · rename_i x n e ha hu
        obtain ⟨t, ht, hu⟩ := bind_some_of hu
        exact viaQ (exec_builtin ho hc (by rw [toList_one ha]; rfl)) (lenC_q ht hu h)
      · exact raw_ok h
    | append =>
      simp only at h
      split at h
      · rename_i s x e d ha hu hu1
        obtain ⟨t, ht, hu⟩ := bind_some_of hu
        obtain ⟨t1, ht1, hu1⟩ := bind_some_of1 hu1
        split at h
        · exact raw_ok h
        · rename_i hd
          split at h
          · rename_i i hi
            cases hz : hasZ P e i.size && Nat.blt 0 i.bytes with
            | false => rw [hz] at h; exact raw_ok h
            | true =>
              rw [hz] at h
              simp only [Bool.and_eq_true] at hz
              exact viaE (exec_builtin ho hc (by rw [toList_two ha]; rfl)) (app_e ht hu ht1 hu1 (by cases d <;> first | rfl | exact absurd rfl (hd _)) hi hz.1 (Nat.blt_eq ▸ hz.2) h)
          · exact raw_ok h
      · exact raw_ok h
    | copy =>
      simp only at h
      split at h
      · rename_i d s e ha hu
        obtain ⟨t, ht, hu⟩ := bind_some_of hu
        split at h
        · rename_i n hn
          exact viaE (exec_builtin ho hc (by rw [toList_two ha]; rfl)) (cp_e ht hu hn h)
        · exact raw_ok h
      · exact raw_ok h
    | clear =>
      simp only at h
      split at h
      · rename_i x e ha hu
        obtain ⟨t, ht, hu⟩ := bind_some_of hu
        split at h
        · rename_i n hn
          cases hz : hasZ P e n with
          | false => rw [hz] at h; exact raw_ok h
          | true =>
            rw [hz] at h
            exact viaE (exec_builtin ho hc (by rw [toList_one ha]; rfl)) (clr_e ht hu hz h)
        · exact raw_ok h
      · exact raw_ok h
    | _ => exact raw_ok h
theorem opK_ok {o : Oper} {ρ : Operand → Value} {w : World} {k : KW} (hρ : ∀ f, ρ (.func f) = .func (.func f) #[] #[]) (h : opK P o ρ w k) : NextOk P (execOp ρ o) w k := by
  cases ho : o.op with
  | call c => exact calls_ok hρ ho h
  | move x => unfold opK lower at h; rw [ho] at h; unfold execOp NextOk; rw [ho]; exact h
  | assign x => unfold opK lower at h; rw [ho] at h; unfold execOp NextOk; rw [ho]; exact h
  | pick c a b =>
    unfold opK lower at h; rw [ho] at h
    unfold execOp NextOk; rw [ho]
    simp only [lowK, pk] at h
    split at h
    · rename_i t hc
      cases t <;> simpa [hc, asBool, pure, Sem.run] using h
    · exact h.elim
  | nilCheck x =>
    unfold opK lower at h; rw [ho] at h
    unfold execOp NextOk; rw [ho]
    simp only [lowK, nk] at h
    split at h
    · rename_i a hx; simp only [hx]; exact h
    · rename_i f a b hx; simp only [hx]; exact h
    · exact h.elim
  | load t a =>
    unfold opK lower at h; rw [ho] at h; simp only at h
    have hex : execOp ρ o = (do pure (Next.value (← Instr.loadAt t (ρ a)))) := by unfold execOp; rw [ho]
    split at h
    · rename_i n ha hn; exact viaQ hex (ldn_q ha hn h)
    · rename_i ha; exact viaQ hex (ld1_q ha h)
    · exact raw_ok h
  | store t a x =>
    unfold opK lower at h; rw [ho] at h; simp only at h
    have hex : execOp ρ o = (do Instr.storeAt t (ρ a) (ρ x); pure Next.skip) := by unfold execOp; rw [ho]
    split at h
    · rename_i n ha hn; exact viaU hex (stn_u hn h)
    · rename_i ha hn; exact viaU hex (st1_u hn h)
    · exact raw_ok h
  | fieldAddr s x f =>
    unfold opK lower at h; rw [ho] at h; simp only at h
    have hex : execOp ρ o = (do pure (Next.value (← Instr.fieldAt s (ρ x) f))) := by unfold execOp; rw [ho]
    split at h
    · rename_i fs hu
      split at h
      · rename_i fd hf
        split at h
        · rename_i n hn; exact viaQ hex (fa_q hu hf hn h)
        · exact raw_ok h
      · exact raw_ok h
    · exact raw_ok h
  | indexAddr t x i =>
    unfold opK lower at h; rw [ho] at h; simp only at h
    have hex : execOp ρ o = (do pure (Next.value (← Instr.indexAt t (ρ x) (ρ i)))) := by unfold execOp; rw [ho]
    split at h
    · rename_i e hu
      split at h
      · rename_i n hn; exact viaQ hex (ia_q hu hn h)
      · exact raw_ok h
    · rename_i len e hu
      split at h
      · rename_i n hn; exact viaQ hex (iaA_q hu hn h)
      · exact raw_ok h
    · exact raw_ok h
  | index t x i =>
    unfold opK lower at h; rw [ho] at h; simp only at h
    have hex : execOp ρ o = (do pure (Next.value (← Instr.index t (ρ x) (ρ i)))) := by unfold execOp; rw [ho]
    split at h
    · rename_i hu; exact viaQ hex (ixS_q hu h)
    · rename_i len e hu
      split at h
      · rename_i n a hn ha; exact viaQ hex (ixA_q hu hn ha h)
      · exact raw_ok h
    · exact raw_ok h
  | slice t x lo hi mx =>
    unfold opK lower at h; rw [ho] at h
    cases mx with
    | some m => exact raw_ok h
    | none =>
      simp only at h
      have hex : execOp ρ o = (do pure (Next.value (← Instr.sliceAt t (ρ x) (lo.map ρ) (hi.map ρ) none))) := by unfold execOp; rw [ho]; rfl
      split at h
      · rename_i hu; exact viaQ hex (slS_q hu h)
      · rename_i e hu
        split at h
        · rename_i n hn; exact viaQ hex (slL_q hu hn h)
        · exact raw_ok h
      · rename_i len e hu
        split at h
        · rename_i n hn; exact viaQ hex (slA_q hu hn h)
        · exact raw_ok h
      · exact raw_ok h
  | field t x f =>
    unfold opK lower at h; rw [ho] at h; simp only at h
    have hex : execOp ρ o = (do pure (Next.value (← Instr.field t (ρ x) f))) := by unfold execOp; rw [ho]
    split at h
    · rename_i fs hu
      split at h
      · rename_i fd hf
        split at h
        · rename_i n a hn ha; exact viaQ hex (fld_q hu hf hn ha h)
        · exact raw_ok h
      · exact raw_ok h
    · exact raw_ok h
  | build t ps =>
    unfold opK lower at h; rw [ho] at h; simp only at h
    have hex : execOp ρ o = (do pure (Next.value (← Instr.build t (pmap ρ ps)))) := by unfold execOp; rw [ho, pmap_eq]
    split at h
    · rename_i fs n hu hn
      split at h
      · rename_i l hl
        cases hz : hasZ P t n with
        | false => rw [hz] at h; exact raw_ok h
        | true => rw [hz] at h; exact viaQ hex (bld_q hu hl hz h)
      · exact raw_ok h
    · exact raw_ok h
  | alloc t =>
    unfold opK lower at h; rw [ho] at h; simp only at h
    have hex : execOp ρ o = (do pure (Next.value (← Instr.alloc t true (.tuple #[])))) := by unfold execOp; rw [ho]
    split at h
    · rename_i n hn
      cases hz : hasZ P t n with
      | false => rw [hz] at h; exact raw_ok h
      | true => rw [hz] at h; exact viaE hex (new_e hz h)
    · exact raw_ok h
  | box t x =>
    unfold opK lower at h; rw [ho] at h; simp only at h
    have hex : execOp ρ o = (do pure (Next.value (← Instr.box t (ρ x)))) := by unfold execOp; rw [ho]
    exact viaE hex (box_e h)
  | buildSlice t len ps =>
    unfold opK lower at h; rw [ho] at h; simp only at h
    have hex : execOp ρ o = (do pure (Next.value (← Instr.buildSlice t len (pmap ρ ps)))) := by unfold execOp; rw [ho, pmap_eq]
    split at h
    · rename_i e hu
      split at h
      · rename_i n hn
        cases hz : hasZ P e n && Nat.ble (len * n) (2 ^ 24) with
        | false => rw [hz] at h; exact raw_ok h
        | true =>
          rw [hz] at h
          simp only [Bool.and_eq_true] at hz
          exact viaE hex (bsl_e hu hn hz.1 (Nat.le_of_ble_eq_true hz.2) h)
      · exact raw_ok h
    · exact raw_ok h
  | makeSlice t l c =>
    unfold opK lower at h; rw [ho] at h; simp only at h
    have hex : execOp ρ o = (do pure (Next.value (← Instr.makeSlice t (ρ l) (ρ c)))) := by unfold execOp; rw [ho]
    split at h
    · rename_i e hu
      split at h
      · rename_i i hi
        cases hz : hasZ P e i.size with
        | false => rw [hz] at h; exact raw_ok h
        | true => rw [hz] at h; exact viaE hex (mk_e hu hi hz h)
      · exact raw_ok h
    · exact raw_ok h
  | convert a b x =>
    unfold opK lower at h; rw [ho] at h; simp only at h
    have hex : execOp ρ o = (do pure (Next.value (← convert a b (ρ x)))) := by unfold execOp; rw [ho]
    split at h
    · rename_i ka kb ha hb; exact viaQ hex (cvI_e ha hb h)
    · rename_i ha hb; exact viaQ hex (cvSS_e ha hb h)
    · rename_i e ha hb
      cases he : isU8 P e with
      | false => rw [he] at h; exact raw_ok h
      | true => rw [he] at h; exact viaQ hex (cvBS_q ha hb he h)
    · rename_i e ha hb
      cases he : isU8 P e with
      | false => rw [he] at h; exact raw_ok h
      | true => rw [he] at h; exact viaE hex (cvSB_e ha hb he h)
    · exact raw_ok h
  | _ => unfold opK lower at h; rw [ho] at h; exact raw_ok h
structure Ag (n : Nat) (a : Act) (e : Env) : Prop where
  defers : a.defers = []
  size : a.tmps.size = n
  eq : ∀ t, a.tmps.getD t undef = e t
theorem Ag.eval {n : Nat} {a : Act} {e : Env} (h : Ag n a e) : a.eval = ev e := by
  funext x
  cases x with
  | tmp t => exact h.eq t
  | _ => rfl
theorem upd_eq (e : Env) (d : Nat) (v : Value) (t : Nat) : upd e d v t = if t = d then v else e t := by
  unfold upd
  by_cases h : t = d
  · simp [h]
  · have hb : Nat.beq t d = false := by rw [Bool.eq_false_iff]; exact fun hh => h (Nat.eq_of_beq_eq_true hh)
    simp [h, hb]
theorem Ag.put {n : Nat} {a : Act} {e : Env} (h : Ag n a e) {d : Option Nat} (hd : ∀ x, d = some x → x < n) (v : Value) : Ag n (a.put d v) (updO e d v) := by
  cases d with
  | none => exact h
  | some x =>
    have hx := hd x rfl
    refine ⟨h.defers, by simp [Act.put, h.size], fun t => ?_⟩
    have hs := h.size
    have he := h.eq t
    simp only [Act.put, updO, upd_eq]
    by_cases ht : t = x
    · subst ht; simp [hs, hx]
    · simp only [ht, if_false, ← he]
      simp [Array.getD_eq_getD_getElem?, Array.getElem?_setIfInBounds_ne (Ne.symm ht)]
theorem ev_func (e : Env) (f : FuncId) : ev e (.func f) = .func (.func f) #[] #[] := rfl
theorem upd_self {e : Env} {d : Nat} {v : Value} (h : e d = v) : upd e d v = e := by
  funext t
  rw [upd_eq]
  split
  · rename_i ht; rw [ht, h]
  · rfl
theorem bV_cases {c : Value} {T F : Prop} (h : bV c T F) : (c = .bool true ∧ T) ∨ (c = .bool false ∧ F) := by
  unfold bV at h
  split at h
  · exact .inl ⟨rfl, h⟩
  · exact .inr ⟨rfl, h⟩
  · exact h.elim
def MemoOk (ops : Array Oper) (m : List (Nat × Option Bool)) (a : Act) : Prop := ∀ j b, look m j = some b → yielded ops a.tmps j = b
theorem look_cons (m : List (Nat × Option Bool)) (i j : Nat) (b : Option Bool) : look ((i, b) :: m) j = if i = j then some b else look m j := by
  by_cases h : i = j
  · subst h; simp [look]
  · have hb : Nat.beq i j = false := by rw [Bool.eq_false_iff]; exact fun hh => h (Nat.eq_of_beq_eq_true hh)
    simp [look, h, hb]
theorem yielded_put_ne {ops : Array Oper} {a : Act} {d : Option Nat} {v : Value} {j : Nat} (h : ∀ x y, (ops[j]?).bind (·.dst) = some x → d = some y → x ≠ y) :
    yielded ops (a.put d v).tmps j = yielded ops a.tmps j := by
  unfold yielded
  cases hx : (ops[j]?).bind (·.dst) with
  | none => rfl
  | some x =>
    cases d with
    | none => rfl
    | some y =>
      have := h x y hx rfl
      simp only [Option.bind_some, Act.put]
      rw [Array.getElem?_setIfInBounds_ne (Ne.symm this)]
theorem yielded_put_undef {ops : Array Oper} {a : Act} {j : Nat} {o : Oper} (ho : ops[j]? = some o) (h : o.dst = none ∨ ∃ d, o.dst = some d ∧ d < a.tmps.size) :
    yielded ops (a.put o.dst undef).tmps j = none := by
  unfold yielded
  rcases h with h | ⟨d, h, hd⟩
  · simp [ho, h]
  · simp only [ho, h, Option.bind_some, Act.put]
    rw [Array.getElem?_setIfInBounds_self_of_lt hd]
    rfl
theorem yielded_of_env {ops : Array Oper} {n : Nat} {a : Act} {e : Env} (h : Ag n a e) {j : Nat} (hj : hasDst ops j = true) (hn : dstOf ops j < n) {b : Bool} (hb : e (dstOf ops j) = .bool b) :
    yielded ops a.tmps j = some b := by
  unfold hasDst at hj
  unfold dstOf at hn hb
  unfold yielded
  cases hx : (ops[j]?).bind (·.dst) with
  | none => rw [hx] at hj; cases hj
  | some d =>
    rw [hx] at hn hb
    simp only [Option.getD_some] at hn hb
    have he := h.eq d
    have hs := h.size
    rw [hb] at he
    have : a.tmps[d]? = some (.bool b) := by
      have hlt : d < a.tmps.size := by rw [hs]; exact hn
      rw [Array.getElem?_eq_getElem hlt]
      simp [Array.getD, hlt] at he
      rw [he]
    simp [this]
theorem regOk_lt {n : Nat} {ops : Array Oper} (h : regOk n ops = true) {i : Nat} {o : Oper} (ho : ops[i]? = some o) : ∀ d, o.dst = some d → d < n := by
  intro d hd
  unfold regOk at h
  simp only [Bool.and_eq_true, List.all_eq_true] at h
  have hm : o ∈ ops.toList := by
    have := List.mem_of_getElem? (l := ops.toList) (i := i) (a := o) (by simpa using ho)
    exact this
  have := h.1 o hm
  rw [hd] at this
  exact Nat.blt_eq ▸ this
theorem regOk_ne {n : Nat} {ops : Array Oper} (h : regOk n ops = true) {i j : Nat} {x y : Nat} (hij : i ≠ j) (hx : (ops[i]?).bind (·.dst) = some x) (hy : (ops[j]?).bind (·.dst) = some y) : x ≠ y := by
  unfold regOk at h
  simp only [Bool.and_eq_true, List.all_eq_true, List.mem_range] at h
  have key : ∀ (i j x y : Nat), j < i → (ops[i]?).bind (·.dst) = some x → (ops[j]?).bind (·.dst) = some y → x ≠ y := by
    intro i j x y hlt hx hy
    have hi : i < ops.size := by
      rcases Nat.lt_or_ge i ops.size with h | h
      · exact h
      · simp [Array.getElem?_eq_none h] at hx
    have := h.2 i hi j hlt
    rw [hx, hy] at this
    intro hxy
    subst hxy
    simp at this
  rcases Nat.lt_or_gt_of_ne hij with hlt | hlt
  · exact (key j i y x hlt hy hx).symm
  · exact key i j x y hlt hx hy
theorem opsK_ok {n : Nat} {ops : Array Oper} (hreg : regOk n ops = true) {Q : Exit → Act → World → Prop} {k : Env → World → Prop}
    (hk : ∀ a e w, Ag n a e → k e w → Q .normal a w) :
    ∀ (l : List Oper) (i : Nat) (m : List (Nat × Option Bool)) (e : Env) (w : World) (a : Act), (∀ j, l[j]? = ops[i + j]?) → (∀ j b, look m j = some b → j < i) → Ag n a e → MemoOk ops m a →
      opsK P ops l i m e w k → wpList P ops Q l a w := by
  intro l
  induction l with
  | nil => intro i m e w a _ _ hag _ h; exact hk _ _ _ hag h
  | cons o rest ih =>
    intro i m e w a hl hlt hag hm h
    have ho : ops[i]? = some o := by have := hl 0; simpa using this.symm
    have hl' : ∀ j, rest[j]? = ops[i + 1 + j]? := fun j => by
      have := hl (j + 1)
      simp only [List.getElem?_cons_succ] at this
      rw [this]; congr 1; omega
    have hdst := regOk_lt hreg ho
    -- the run of this operation, and what is known behind it
    have hrun : ∀ m', MemoOk ops m' a → (∀ j b, look m' j = some b → j < i) → Region.wanted o (yielded ops a.tmps) = true →
        opK P o (ev e) w (fun v w => opsK P ops rest (i + 1) m' (updO e o.dst v) w k) → wpList P ops Q (o :: rest) a w := by
      intro m' hm' hlt' hw h
      unfold wpList
      rw [if_pos hw]
      refine .inl (NextOk.wp (by rw [hag.eval]; exact opK_ok (ev_func e) h) fun v w' hv => ?_)
      refine ih (i + 1) m' _ w' _ hl' (fun j b hj => Nat.lt_succ_of_lt (hlt' j b hj)) (hag.put hdst v) (fun j b hj => ?_) hv
      rw [yielded_put_ne]
      · exact hm' j b hj
      · intro x y hx hy
        exact regOk_ne hreg (Nat.ne_of_lt (hlt' j b hj)) hx (by simp [ho, hy])
    have hskip : ∀ m', MemoOk ops m' a → (∀ j b, look m' j = some b → j < i) → Region.wanted o (yielded ops a.tmps) = false →
        opsK P ops rest (i + 1) ((i, none) :: m') (updO e o.dst undef) w k → wpList P ops Q (o :: rest) a w := by
      intro m' hm' hlt' hw h
      unfold wpList
      rw [if_neg (by simp [hw])]
      refine ih (i + 1) _ _ w _ hl' (fun j b hj => ?_) (hag.put hdst undef) (fun j b hj => ?_) h
      · rw [look_cons] at hj
        split at hj
        · rename_i hij; omega
        · exact Nat.lt_succ_of_lt (hlt' j b hj)
      · rw [look_cons] at hj
        split at hj
        · rename_i hij; subst hij
          simp only [Option.some.injEq] at hj
          subst hj
          refine yielded_put_undef ho ?_
          cases hd : o.dst with
          | none => exact .inl rfl
          | some d => exact .inr ⟨d, rfl, by rw [hag.size]; exact hdst d hd⟩
        · rw [yielded_put_ne]
          · exact hm' j b hj
          · intro x y hx hy
            exact regOk_ne hreg (Nat.ne_of_lt (hlt' j b hj)) hx (by simp [ho, hy])
    unfold opsK at h
    split at h
    · rename_i hg
      exact hrun m hm hlt (by simp [Region.wanted, hg]) h
    · rename_i j t hg
      have hwant : ∀ b, yielded ops a.tmps j = b → Region.wanted o (yielded ops a.tmps) = (b == some t) := by
        intro b hb; simp [Region.wanted, hg, hb]
      split at h
      · rename_i b hb
        have hy := hm j _ hb
        cases hbt : (b == t) <;> rw [hbt] at h
        · exact hskip m hm hlt (by rw [hwant _ hy]; simpa using hbt) h
        · exact hrun m hm hlt (by rw [hwant _ hy]; simpa using hbt) h
      · rename_i hb
        have hy := hm j _ hb
        exact hskip m hm hlt (by rw [hwant _ hy]; rfl) h
      · rename_i hb
        cases hd : (hasDst ops j && Nat.blt j i) <;> rw [hd] at h
        · exact h.elim
        simp only [Bool.and_eq_true] at hd
        obtain ⟨hd, hji⟩ := hd
        have hji : j < i := Nat.blt_eq ▸ hji
        simp only [cond_true] at h
        have hall : ∃ b, e (dstOf ops j) = .bool b ∧ (if b = true then
            (bif t then opK P o (ev e) w fun v w => opsK P ops rest (i + 1) ((j, some true) :: m) (updO e o.dst v) w k
             else opsK P ops rest (i + 1) ((i, none) :: (j, some true) :: m) (updO e o.dst undef) w k)
            else (bif t then opsK P ops rest (i + 1) ((i, none) :: (j, some false) :: m) (updO e o.dst undef) w k
             else opK P o (ev e) w fun v w => opsK P ops rest (i + 1) ((j, some false) :: m) (updO e o.dst v) w k)) := by
          rcases bV_cases h with ⟨hc, h⟩ | ⟨hc, h⟩
          · rw [upd_self hc] at h; exact ⟨true, hc, h⟩
          · rw [upd_self hc] at h; exact ⟨false, hc, h⟩
        · obtain ⟨b, hval, h⟩ := hall
          have hjn : dstOf ops j < n := by
            unfold hasDst at hd
            unfold dstOf
            cases hx : ops[j]? with
            | none => simp [hx] at hd
            | some oj =>
              simp only [hx, Option.bind_some] at hd ⊢
              cases hdj : oj.dst with
              | none => simp [hdj] at hd
              | some d => exact regOk_lt hreg hx d hdj
          have hy := yielded_of_env hag hd hjn hval
          have hm' : MemoOk ops ((j, some b) :: m) a := fun j' b' hj' => by
            rw [look_cons] at hj'
            split at hj'
            · rename_i hjj; subst hjj; simp only [Option.some.injEq] at hj'; subst hj'; exact hy
            · exact hm j' b' hj'
          have hlt' : ∀ j' b', look ((j, some b) :: m) j' = some b' → j' < i := fun j' b' hj' => by
            rw [look_cons] at hj'
            split at hj'
            · rename_i hjj; subst hjj; exact hji
            · exact hlt j' b' hj'
          have hw := hwant _ hy
          cases b
          · simp only [Bool.false_eq_true, if_false] at h
            cases t
            · exact hrun _ hm' hlt' (by rw [hw]; rfl) h
            · exact hskip _ hm' hlt' (by rw [hw]; rfl) h
          · simp only [if_true] at h
            cases t
            · exact hskip _ hm' hlt' (by rw [hw]; rfl) h
            · exact hrun _ hm' hlt' (by rw [hw]; rfl) h
end Go.Q

set_option linter.unusedVariables false
set_option linter.unusedSimpArgs false
namespace Go.Q
def has : List Nat → Nat → Bool
  | [], _ => false
  | x :: r, i => bif Nat.beq x i then true else has r i
theorem nbeq (x i : Nat) : Nat.beq x i = decide (x = i) := by
  by_cases h : x = i
  · subst h; simp
  · have : Nat.beq x i = false := by rw [Bool.eq_false_iff]; exact fun hh => h (Nat.eq_of_beq_eq_true hh)
    simp [h, this]
theorem has_cons (x : Nat) (r : List Nat) (i : Nat) : has (x :: r) i = (decide (x = i) || has r i) := by
  simp only [has, nbeq]
  by_cases h : x = i <;> simp [h]
def predsOf (ops : Array Oper) (i : Nat) : List Nat :=
  match ops[i]? with
  | some o => (o.after.toList.filter (Region.binds .any)).map (·.on)
  | none => []
def isReady (ops : Array Oper) (D : List Nat) (i : Nat) : Bool := !has D i && (predsOf ops i).all (has D)
def pureL : LOp → Bool
  | .val _ | .pick .. | .nk _ | .fa .. | .ia .. | .iaA .. | .ixS .. | .ixA .. | .slS .. | .slL .. | .slA .. | .fld .. | .bld .. | .cvI .. | .cvSS _ | .lenS _ | .lenL _ | .lenC _ => true
  | _ => false
def rawQ : Op → Bool
  | .binOp .. | .unOp .. | .build .. | .load .. | .fieldAddr .. | .indexAddr .. | .lookup .. | .extract .. | .makeFunc .. | .makeInterface .. | .slice .. => true
  | .call c => match c.callee with | .builtin b => quietB b | _ => false
  | _ => false
def quietOp (P : Program) (o : Oper) : Bool :=
  match lower P o with
  | .ld1 _ | .ldn .. | .cvBS _ => true
  | .raw => rawQ o.op
  | l => pureL l
def quietAt (P : Program) (ops : Array Oper) (i : Nat) : Bool := match ops[i]? with | some o => quietOp P o | none => false
def nextQuiet (P : Program) (ops : Array Oper) (D : List Nat) : Option Nat := (List.range ops.size).find? fun i => isReady ops D i && quietAt P ops i
def readyOps (ops : Array Oper) (D : List Nat) : List Nat := (List.range ops.size).filter (isReady ops D)
def allIn (ops : Array Oper) (D : List Nat) : Bool := (List.range ops.size).all (has D)
def stb (P : Program) (s : Sem Value) (v : Value) (w' : World) : Prop := s.run P w' = .ok v w'
def stbO (P : Program) (o : Oper) (ρ : Operand → Value) (v : Value) : Option (World → Prop) :=
  match lower P o with
  | .ld1 x => some fun w' => ld1 (ρ x) w' fun u => u = v
  | .ldn n x => some fun w' => ldn n (ρ x) w' fun u => u = v
  | .cvBS x => some fun w' => cvBS (ρ x) w' fun u => u = v
  | .raw => match qsem ρ o.type o.op with
    | some s => some (stb P s v)
    | none => none
  | _ => none
def pdAdd (i : Nat) (c : Option (World → Prop)) (pd : List (Nat × (World → Prop))) : List (Nat × (World → Prop)) :=
  match c with
  | some c => (i, c) :: pd
  | none => pd
def bit (B : Array Nat) (x y : Nat) : Bool := (B.getD x 0).testBit y
def stab (B : Array Nat) (x : Nat) (w : World) (k : Prop) : List (Nat × (World → Prop)) → Prop
  | [] => k
  | (y, c) :: r => bif bit B x y then stab B x w k r else c w ∧ stab B x w k r
def conj : List Nat → (Nat → Prop) → Prop
  | [], _ => True
  | [x], f => f x
  | x :: r, f => f x ∧ conj r f
def guardK (ops : Array Oper) (m : List (Nat × Option Bool)) (i : Nat) (o : Oper) (e : Env) (run skip : Env → List (Nat × Option Bool) → Prop) : Prop :=
  match o.guard with
  | none => run e m
  | some (j, t) =>
    match look m j with
    | some (some b) => bif b == t then run e m else skip e ((i, none) :: m)
    | some none => skip e ((i, none) :: m)
    | none =>
      bif hasDst ops j then bV (e (dstOf ops j))
        (bif t then run (upd e (dstOf ops j) (.bool true)) ((j, some true) :: m) else skip (upd e (dstOf ops j) (.bool true)) ((i, none) :: (j, some true) :: m))
        (bif t then skip (upd e (dstOf ops j) (.bool false)) ((i, none) :: (j, some false) :: m) else run (upd e (dstOf ops j) (.bool false)) ((j, some false) :: m))
      else False
def drawK (P : Program) (ops : Array Oper) (B : Array Nat) : Nat → List Nat → List (Nat × Option Bool) → List (Nat × (World → Prop)) → Env → World → (Env → World → Prop) → Prop
  | 0, _, _, _, _, _, _ => False
  | f + 1, D, m, pd, e, w, k =>
    match nextQuiet P ops D with
    | some i =>
      match ops[i]? with
      | none => False
      | some o =>
        guardK ops m i o e
          (fun e m' => opK P o (ev e) w fun v _ => drawK P ops B f (i :: D) m' (pdAdd i (stbO P o (ev e) v) pd) (updO e o.dst v) w k)
          (fun e m' => drawK P ops B f (i :: D) m' pd (updO e o.dst undef) w k)
    | none =>
      match readyOps ops D with
      | [] => bif allIn ops D then k e w else False
      | es => conj es fun x =>
        match ops[x]? with
        | none => False
        | some o =>
          guardK ops m x o e
            (fun e m' => opK P o (ev e) w fun v w' => stab B x w' (drawK P ops B f (x :: D) m' pd (updO e o.dst v) w' k) pd)
            (fun e m' => drawK P ops B f (x :: D) m' pd (updO e o.dst undef) w k)
def looks (ops : Array Oper) (o : Oper) : List Nat := Oper.looksAt ops o
def notSel (o : Oper) : Bool := match o.op with | .select .. => false | _ => true
def drawOk (n : Nat) (ops : Array Oper) (B : Array Nat) : Bool :=
  regOk n ops &&
  (List.range ops.size).all fun i =>
    (predsOf ops i).all (fun p => Nat.blt p i) &&
    !bit B i i &&
    (List.range ops.size).all (fun y => !bit B i y || (predsOf ops i).any fun p => Nat.beq p y || bit B p y) &&
    (match ops[i]? with
    | none => true
    | some o =>
      notSel o && (match o.guard with | none => true | some (j, _) => has (predsOf ops i) j && hasDst ops j) &&
      (List.range ops.size).all fun z =>
        match (ops[z]?).bind (·.dst) with
        | none => true
        | some d => !(looks ops o).contains d || Nat.beq z i || (bit B i z && !bit B z i) || (bit B z i && !bit B i z))
end Go.Q

set_option linter.unusedVariables false
set_option linter.unusedSimpArgs false
namespace Go.Q
variable {P : Program} {n : Nat} {ops : Array Oper} {B : Array Nat}
def writer (ops : Array Oper) (t : Nat) : Option Nat := (List.range ops.size).find? fun z => (ops[z]?).bind (·.dst) == some t
def EnvIs (ops : Array Oper) (e0 : Env) (V : Nat → Value) (S : Nat → Bool) (e : Env) : Prop :=
  ∀ t, e t = match writer ops t with | some z => if S z = true then V z else e0 t | none => e0 t
def refE (ops : Array Oper) (B : Array Nat) (e0 : Env) (V : Nat → Value) (y : Nat) : Env :=
  fun t => match writer ops t with | some z => if bit B y z = true then V z else e0 t | none => e0 t
def boolOf : Value → Option Bool
  | .bool b => some b
  | _ => none
def wantV (V : Nat → Value) (o : Oper) : Bool :=
  match o.guard with
  | none => true
  | some (j, t) => boolOf (V j) == some t
theorem size_of_some {i : Nat} {o : Oper} (h : ops[i]? = some o) : i < ops.size := by
  rcases Nat.lt_or_ge i ops.size with hh | hh
  · exact hh
  · simp [Array.getElem?_eq_none hh] at h
theorem writer_of (h : regOk n ops = true) {z t : Nat} (hz : (ops[z]?).bind (·.dst) = some t) : writer ops t = some z := by
  have hlt : z < ops.size := by
    cases hx : ops[z]? with
    | none => simp [hx] at hz
    | some o => exact size_of_some hx
  unfold writer
  cases hf : (List.range ops.size).find? (fun z => (ops[z]?).bind (·.dst) == some t) with
  | none =>
    have := List.find?_eq_none.1 hf z (List.mem_range.2 hlt)
    rw [hz] at this
    simp at this
  | some z' =>
    have h' := List.find?_some hf
    simp only [beq_iff_eq] at h'
    by_cases hzz : z' = z
    · rw [hzz]
    · exact absurd rfl (regOk_ne h hzz h' hz)
theorem writer_some {z t : Nat} (h : writer ops t = some z) : (ops[z]?).bind (·.dst) = some t ∧ z < ops.size := by
  unfold writer at h
  have h' := List.find?_some h
  have hm := List.mem_of_find?_eq_some h
  exact ⟨by simpa using h', List.mem_range.1 hm⟩
structure DOk (n : Nat) (ops : Array Oper) (B : Array Nat) : Prop where
  reg : regOk n ops = true
  back : ∀ i, ∀ p ∈ predsOf ops i, p < i
  irr : ∀ i, i < ops.size → bit B i i = false
  cl : ∀ i, i < ops.size → ∀ y, y < ops.size → bit B i y = true → ∃ p ∈ predsOf ops i, p = y ∨ bit B p y = true
  nosel : ∀ (i : Nat) (o : Oper), ops[i]? = some o → ∀ cs b, o.op ≠ .select cs b
  guard : ∀ (i : Nat) (o : Oper), ops[i]? = some o → ∀ j t, o.guard = some (j, t) → j ∈ predsOf ops i ∧ hasDst ops j = true
  names : ∀ (i : Nat) (o : Oper), ops[i]? = some o → ∀ t ∈ looks ops o, ∀ z, writer ops t = some z → z = i ∨ (bit B i z = true ∧ bit B z i = false) ∨ (bit B z i = true ∧ bit B i z = false)
theorem mem_has {D : List Nat} {i : Nat} : has D i = true ↔ i ∈ D := by
  induction D with
  | nil => simp [has]
  | cons x r ih =>
    rw [has_cons, Bool.or_eq_true, ih, List.mem_cons, decide_eq_true_iff]
    exact ⟨fun h => h.imp Eq.symm id, fun h => h.imp Eq.symm id⟩
theorem DOk.of (h : drawOk n ops B = true) : DOk n ops B := by
  unfold drawOk at h
  simp only [Bool.and_eq_true, List.all_eq_true, List.mem_range] at h
  obtain ⟨hreg, h⟩ := h
  refine ⟨hreg, ?_, ?_, ?_, ?_, ?_, ?_⟩
  · intro i p hp
    rcases Nat.lt_or_ge i ops.size with hi | hi
    · exact Nat.blt_eq ▸ (h i hi).1.1.1 p hp
    · simp [predsOf, Array.getElem?_eq_none hi] at hp
  · intro i hi
    have := (h i hi).1.1.2
    exact (Bool.not_eq_true' _).mp this
  · intro i hi y hy hb
    have := (h i hi).1.2 y hy
    simp only [hb, Bool.not_true, Bool.false_or, List.any_eq_true, Bool.or_eq_true] at this
    obtain ⟨p, hp, hpy⟩ := this
    refine ⟨p, hp, hpy.imp (fun h => Nat.eq_of_beq_eq_true h) id⟩
  · intro i o ho cs b hsel
    have := (h i (size_of_some ho)).2
    rw [ho] at this
    simp [notSel, hsel] at this
  · intro i o ho j t hg
    have := (h i (size_of_some ho)).2
    rw [ho] at this
    simp only [Bool.and_eq_true, hg] at this
    exact ⟨mem_has.1 this.1.2.1, this.1.2.2⟩
  · intro i o ho t ht z hz
    obtain ⟨hzd, hzl⟩ := writer_some hz
    have := (h i (size_of_some ho)).2
    rw [ho] at this
    simp only [Bool.and_eq_true, List.all_eq_true, List.mem_range] at this
    have := this.2 z hzl
    rw [hzd] at this
    have hc : (looks ops o).contains t = true := by simpa using ht
    simp only [hc, Bool.not_true, Bool.false_or, Bool.or_eq_true, Bool.and_eq_true, Bool.not_eq_true'] at this
    rcases this with (h1 | h1) | h1
    · exact .inl (Nat.eq_of_beq_eq_true h1)
    · exact .inr (.inl h1)
    · exact .inr (.inr h1)
theorem EnvIs.ref (hk : DOk n ops B) {e0 e : Env} {V : Nat → Value} {S : Nat → Bool} (he : EnvIs ops e0 V S e) {i : Nat} {o : Oper} (ho : ops[i]? = some o)
    (hB : ∀ z, z < ops.size → bit B i z = true → S z = true) (hi : S i = false) (cl : ∀ x, S x = true → ∀ z, z < ops.size → bit B x z = true → S z = true) :
    ∀ t ∈ looks ops o, e t = refE ops B e0 V i t := by
  intro t ht
  rw [he t]
  unfold refE
  cases hw : writer ops t with
  | none => rfl
  | some z =>
    obtain ⟨_, hzl⟩ := writer_some hw
    have hil := size_of_some ho
    rcases hk.names i o ho t ht z hw with h | h | h
    · subst h; simp [hi, hk.irr z hil]
    · simp [hB z hzl h.1, h.1]
    · have hS : S z = false := by
        cases hs : S z with
        | false => rfl
        | true => have := cl z hs i hil h.1; rw [hi] at this; cases this
      simp [hS, h.2]
theorem execOp_ref (hk : DOk n ops B) {i : Nat} {o : Oper} (ho : ops[i]? = some o) {e e' : Env} (h : ∀ t ∈ looks ops o, e t = e' t) : execOp (ev e) o = execOp (ev e') o := by
  refine execOp_congr o (hk.nosel i o ho) fun x hx => ?_
  cases x with
  | tmp t =>
    refine h t ?_
    unfold looks Oper.looksAt
    refine List.mem_append.2 (.inl (List.mem_filterMap.2 ⟨.tmp t, by simpa using hx, rfl⟩))
  | _ => rfl
theorem EnvIs.add (hreg : regOk n ops = true) {e0 e : Env} {V : Nat → Value} {S : Nat → Bool} (he : EnvIs ops e0 V S e) {x : Nat} {o : Oper} (ho : ops[x]? = some o) (hx : S x = false) (v : Value) :
    EnvIs ops e0 (fun i => if i = x then v else V i) (fun i => decide (x = i) || S i) (updO e o.dst v) := by
  intro t
  have hwr : ∀ d, o.dst = some d → writer ops d = some x := fun d hd => writer_of hreg (by simp [ho, hd])
  cases hw : writer ops t with
  | none =>
    have hne : ∀ d, o.dst = some d → t ≠ d := fun d hd h => by subst h; rw [hwr _ hd] at hw; cases hw
    have : updO e o.dst v t = e t := by
      cases hd : o.dst with
      | none => rfl
      | some d => simp [updO, upd_eq, hne d hd]
    rw [this, he t, hw]
  | some z =>
    obtain ⟨hzd, hzl⟩ := writer_some hw
    by_cases hzx : z = x
    · subst hzx
      have hd : o.dst = some t := by rw [ho] at hzd; exact hzd
      simp [hd, updO, upd_eq]
    · have hne : ∀ d, o.dst = some d → t ≠ d := fun d hd h => by
        subst h; rw [hwr _ hd] at hw; injection hw with hw; exact hzx hw.symm
      have : updO e o.dst v t = e t := by
        cases hd : o.dst with
        | none => rfl
        | some d => simp [updO, upd_eq, hne d hd]
      have hxz : ¬ x = z := fun h => hzx h.symm
      rw [this, he t, hw]
      simp [hzx, hxz]
theorem EnvIs.valsame {e0 e : Env} {V : Nat → Value} {S : Nat → Bool} (he : EnvIs ops e0 V S e) {x : Nat} (hx : S x = false) (v : Value) :
    EnvIs ops e0 (fun i => if i = x then v else V i) S e := by
  intro t
  rw [he t]
  cases hw : writer ops t with
  | none => rfl
  | some z =>
    by_cases hzx : z = x
    · subst hzx; simp [hx]
    · simp [hzx]
theorem EnvIs.add_old (hreg : regOk n ops = true) {e0 e : Env} {V : Nat → Value} {S : Nat → Bool} (he : EnvIs ops e0 V S e) {x : Nat} {o : Oper} (ho : ops[x]? = some o) (hx : S x = false) :
    EnvIs ops e0 V (fun i => decide (x = i) || S i) (updO e o.dst (V x)) := by
  have h := he.add hreg ho hx (V x)
  have hV : (fun i => if i = x then V x else V i) = V := by
    funext i; by_cases hi : i = x
    · subst hi; simp
    · simp [hi]
  rw [hV] at h
  exact h
theorem refE_same {e0 : Env} {V : Nat → Value} {x y : Nat} (h : bit B y x = false) (v : Value) : refE ops B e0 (fun i => if i = x then v else V i) y = refE ops B e0 V y := by
  funext t
  unfold refE
  cases hw : writer ops t with
  | none => rfl
  | some z =>
    by_cases hzx : z = x
    · subst hzx; simp [h]
    · simp [hzx]
def RunsAt (P : Program) (ops : Array Oper) (B : Array Nat) (e0 : Env) (V : Nat → Value) (y : Nat) (o : Oper) (w : World) : Prop :=
  NextOk P (execOp (ev (refE ops B e0 V y)) o) w fun u w2 => u = V y ∧ w2 = w
def Det (G : (Value → Prop) → Prop) : Prop := ∀ k, G k → ∃ v, k v ∧ G fun u => u = v
theorem det_rd1 (w : World) (a : Addr) : Det (rd1 w a) := by
  intro k h; unfold rd1 at *; split at h
  · obtain ⟨hs, h⟩ := h
    split at h
    · rename_i v hv; exact ⟨v, h, hs, by simp⟩
    · exact h.elim
  · exact h.elim
theorem det_rdN (w : World) (a : Addr) (n : Nat) (F : Array Value → (Value → Prop) → Prop) (hF : ∀ cs, Det (F cs)) : Det (fun k => rdN w a n fun cs => F cs k) := by
  intro k h; unfold rdN at *; split at h
  · obtain ⟨hs, h⟩ := h
    obtain ⟨v, hk, hv⟩ := hF _ k h
    exact ⟨v, hk, hs, hv⟩
  · exact h.elim
theorem det_val (v : Value) : Det fun k => k v := fun _ h => ⟨v, h, rfl⟩
theorem det_and (p : Prop) {G : (Value → Prop) → Prop} (h : Det G) : Det (fun k => p ∧ G k) := fun k ⟨hp, hk⟩ => let ⟨v, h1, h2⟩ := h k hk; ⟨v, h1, hp, h2⟩
theorem det_ld1 (x : Value) (w : World) : Det (ld1 x w) := by
  intro k h; unfold ld1 at *; split at h
  · exact det_rd1 _ _ k h
  · exact h.elim
theorem det_ldn (n : Nat) (x : Value) (w : World) : Det (ldn n x w) := by
  intro k h; unfold ldn at *; split at h
  · exact det_rdN _ _ _ (fun cs k => k (.agg cs)) (fun cs => det_val _) k h
  · exact h.elim
theorem det_cvBS (x : Value) (w : World) : Det (cvBS x w) := by
  intro k h; unfold cvBS at *; split at h
  · exact ⟨_, h, rfl⟩
  · refine det_rdN _ _ _ (fun cs k => match bytesOf cs.toList with | some l => k (.string ⟨l.toArray⟩) | none => False) (fun cs k h => ?_) k h
    split at h
    · rename_i l hl; exact ⟨_, h, by simp⟩
    · exact h.elim
  · exact h.elim
theorem det_fa (off : Nat) (x : Value) : Det (fa off x) := by
  intro k h; unfold fa at *; split at h
  · exact ⟨_, h, rfl⟩
  · exact h.elim
theorem det_ia (n : Nat) (x i : Value) : Det (ia n x i) := by
  intro k h; unfold ia at *; split at h
  · exact ⟨_, h.2, h.1, rfl⟩
  · exact h.elim
theorem det_iaA (len n : Nat) (x i : Value) : Det (iaA len n x i) := by
  intro k h; unfold iaA at *; split at h
  · exact ⟨_, h.2, h.1, rfl⟩
  · exact h.elim
theorem det_ixS (x i : Value) : Det (ixS x i) := by
  intro k h; unfold ixS at *; split at h
  · obtain ⟨h0, h⟩ := h
    split at h
    · exact ⟨_, h, h0, by simp⟩
    · exact h.elim
  · exact h.elim
theorem det_part (agg : Bool) (off n : Nat) (cs : Array Value) : Det (partG agg off n cs) := by
  intro k h; unfold partG at *; split at h
  · exact ⟨_, h, rfl⟩
  · split at h
    · exact ⟨_, h, by simp⟩
    · exact h.elim
theorem det_ixA (len n : Nat) (agg : Bool) (x i : Value) : Det (ixA len n agg x i) := by
  intro k h; unfold ixA at *; split at h
  · exact det_and _ (det_part _ _ _ _) k h
  · exact h.elim
theorem det_fld (agg : Bool) (off n : Nat) (x : Value) : Det (fld agg off n x) := by
  intro k h; unfold fld at *; split at h
  · exact det_part _ _ _ _ k h
  · exact h.elim
theorem det_bnd (x : Option Value) (d y : Nat) (F : Nat → (Value → Prop) → Prop) (hF : ∀ n, Det (F n)) : Det (fun k => bnd x d y fun n => F n k) := by
  intro k h; unfold bnd at *; split at h
  · exact hF _ k h
  · exact det_and _ (hF _) k h
  · exact h.elim
theorem det_slS (x : Value) (lo hi : Option Value) : Det (slS x lo hi) := by
  intro k h; unfold slS at *; split at h
  · exact det_bnd _ _ _ _ (fun h => det_bnd _ _ _ _ fun l => det_val _) k h
  · exact h.elim
theorem det_slL (n : Nat) (x : Value) (lo hi : Option Value) : Det (slL n x lo hi) := by
  intro k h; unfold slL at *; split at h
  · exact det_bnd _ _ _ _ (fun h => det_bnd _ _ _ _ fun l => det_val _) k h
  · exact h.elim
theorem det_slA (len n : Nat) (x : Value) (lo hi : Option Value) : Det (slA len n x lo hi) := by
  intro k h; unfold slA at *; split at h
  · exact det_bnd _ _ _ _ (fun h => det_bnd _ _ _ _ fun l => det_val _) k h
  · exact h.elim
theorem det_bld (l : List (Nat × Nat)) (z : Array Value) (ps : Array (Nat × Value)) : Det (bld l z ps) := by
  intro k h; unfold bld at *; split at h
  · exact ⟨_, h, rfl⟩
  · exact h.elim
theorem det_cvI (kd : IntKind) (x : Value) : Det (cvI kd x) := by
  intro k h; unfold cvI at *; split at h
  · exact ⟨_, h, rfl⟩
  · exact h.elim
theorem det_cvSS (x : Value) : Det (cvSS x) := by
  intro k h; unfold cvSS at *; split at h
  · exact ⟨_, h, rfl⟩
  · exact h.elim
theorem det_lenS (x : Value) : Det (lenS x) := by
  intro k h; unfold lenS at *; split at h
  · exact ⟨_, h, rfl⟩
  · exact h.elim
theorem det_lenL (x : Value) : Det (lenL x) := by
  intro k h; unfold lenL at *; split at h
  · exact ⟨_, h, rfl⟩
  · exact h.elim
theorem det_pk (c a b : Value) : Det (pk c a b) := by
  intro k h; unfold pk at *; split at h
  · exact ⟨_, h, rfl⟩
  · exact h.elim
theorem det_nk (x : Value) : Det (nk x) := by
  intro k h; unfold nk at *; split at h
  · exact ⟨_, h, rfl⟩
  · exact ⟨_, h, rfl⟩
  · exact h.elim
theorem pure_low {o : Oper} {ρ : Operand → Value} {l : LOp} (hl : lower P o = l) (hp : pureL l = true) {w : World} {k : KW} (h : lowK P o l ρ w k) :
    ∃ v, k v w ∧ ∀ w', lowK P o l ρ w' fun u w2 => u = v ∧ w2 = w' := by
  have D : ∀ {G : (Value → Prop) → Prop}, Det G → G (fun v => k v w) → ∃ v, k v w ∧ ∀ w' : World, G fun u => u = v ∧ w' = w' := by
    intro G hG hk
    obtain ⟨v, h1, h2⟩ := hG _ hk
    refine ⟨v, h1, fun w' => ?_⟩
    have : (fun u => u = v ∧ w' = w') = fun u => u = v := by funext u; simp
    rw [this]; exact h2
  cases l with
  | val x => exact ⟨_, h, fun w' => ⟨rfl, rfl⟩⟩
  | lenC n => exact ⟨_, h, fun w' => ⟨rfl, rfl⟩⟩
  | pick c a b => exact D (det_pk _ _ _) h
  | nk x => exact D (det_nk _) h
  | fa off x => exact D (det_fa _ _) h
  | ia n x i => exact D (det_ia _ _ _) h
  | iaA len n x i => exact D (det_iaA _ _ _ _) h
  | ixS x i => exact D (det_ixS _ _) h
  | ixA len n a x i => exact D (det_ixA _ _ _ _ _) h
  | slS x lo hi => exact D (det_slS _ _ _) h
  | slL n x lo hi => exact D (det_slL _ _ _ _) h
  | slA len n x lo hi => exact D (det_slA _ _ _ _ _) h
  | fld a off n x => exact D (det_fld _ _ _ _) h
  | bld ls T ps => exact D (det_bld _ _ _) h
  | cvI kd x => exact D (det_cvI _ _) h
  | cvSS x => exact D (det_cvSS _) h
  | lenS x => exact D (det_lenS _) h
  | lenL x => exact D (det_lenL _) h
  | _ => cases hp
def Says1 (P : Program) (s : Sem Next) (v : Value) (w : World) : Prop := NextOk P s w fun u w2 => u = v ∧ w2 = w
theorem rawQ_some {ρ : Operand → Value} {o : Oper} (h : rawQ o.op = true) : ∃ s, qsem ρ o.type o.op = some s := by
  cases ho : o.op with
  | call c =>
    rw [ho] at h
    simp only [rawQ] at h
    split at h
    · rename_i b hc
      simp only [qsem, hc, h, cond_true]
      cases b <;> first | exact ⟨_, rfl⟩ | cases h
    · cases h
  | _ => rw [ho] at h; first | exact ⟨_, rfl⟩ | cases h
theorem quiet_ok {o : Oper} {ρ : Operand → Value} (hρ : ∀ f, ρ (.func f) = .func (.func f) #[] #[]) {w : World} {k : KW} (hq : quietOp P o = true) (h : opK P o ρ w k) :
    ∃ v, Says1 P (execOp ρ o) v w ∧ k v w ∧
      ((∃ c, stbO P o ρ v = some c ∧ ∀ w', c w' → Says1 P (execOp ρ o) v w') ∨ (stbO P o ρ v = none ∧ ∀ w', Says1 P (execOp ρ o) v w')) := by
  have back : ∀ (l : LOp) (v : Value) (w' : World), lower P o = l → (lowK P o l ρ w' fun u w2 => u = v ∧ w2 = w') → Says1 P (execOp ρ o) v w' := by
    intro l v w' hl hk
    refine opK_ok hρ ?_
    unfold opK
    rw [hl]
    exact hk
  have byPure : ∀ l, lower P o = l → pureL l = true → (stbO P o ρ = fun _ => none) → ∃ v, Says1 P (execOp ρ o) v w ∧ k v w ∧
      ((∃ c, stbO P o ρ v = some c ∧ ∀ w', c w' → Says1 P (execOp ρ o) v w') ∨ (stbO P o ρ v = none ∧ ∀ w', Says1 P (execOp ρ o) v w')) := by
    intro l hl hp hst
    unfold opK at h
    rw [hl] at h
    obtain ⟨v, hk, hall⟩ := pure_low hl hp h
    exact ⟨v, back l v w hl (hall w), hk, .inr ⟨by rw [hst], fun w' => back l v w' hl (hall w')⟩⟩
  have byRead : ∀ (l : LOp) (G : World → (Value → Prop) → Prop), lower P o = l → (∀ w' K, lowK P o l ρ w' K = G w' fun v => K v w') → (∀ w', Det (G w')) → (stbO P o ρ = fun v => some fun w' => G w' fun u => u = v) →
      ∃ v, Says1 P (execOp ρ o) v w ∧ k v w ∧
      ((∃ c, stbO P o ρ v = some c ∧ ∀ w', c w' → Says1 P (execOp ρ o) v w') ∨ (stbO P o ρ v = none ∧ ∀ w', Says1 P (execOp ρ o) v w')) := by
    intro l G hl hG hdet hst
    unfold opK at h
    rw [hl, hG] at h
    obtain ⟨v, hk, hv⟩ := hdet w _ h
    have fin : ∀ w', (G w' fun u => u = v) → Says1 P (execOp ρ o) v w' := by
      intro w' hg
      refine back l v w' hl ?_
      rw [hG]
      have : (fun u => u = v ∧ w' = w') = fun u => u = v := by funext u; simp
      rw [this]; exact hg
    exact ⟨v, fin w hv, hk, .inl ⟨_, by rw [hst], fin⟩⟩
  unfold quietOp at hq
  cases hl : lower P o with
  | ld1 x => exact byRead _ (fun w' => ld1 (ρ x) w') hl (fun _ _ => rfl) (fun w' => det_ld1 _ _) (by funext v; unfold stbO; rw [hl])
  | ldn n x => exact byRead _ (fun w' => ldn n (ρ x) w') hl (fun _ _ => rfl) (fun w' => det_ldn _ _ _) (by funext v; unfold stbO; rw [hl])
  | cvBS x => exact byRead _ (fun w' => cvBS (ρ x) w') hl (fun _ _ => rfl) (fun w' => det_cvBS _ _) (by funext v; unfold stbO; rw [hl])
  | raw =>
    rw [hl] at hq
    obtain ⟨s, hs⟩ := rawQ_some (ρ := ρ) hq
    unfold opK at h
    rw [hl] at h
    simp only [lowK, hs] at h
    obtain ⟨v, hr, hk⟩ := h
    have fin : ∀ w', stb P s v w' → Says1 P (execOp ρ o) v w' := by
      intro w' hw'
      refine back _ v w' hl ?_
      simp only [lowK, hs]
      exact ⟨v, hw', by simp⟩
    exact ⟨v, fin w hr, hk, .inl ⟨stb P s v, by unfold stbO; rw [hl]; simp only [hs], fin⟩⟩
  | _ => rw [hl] at hq; first | exact byPure _ hl hq (by funext v; unfold stbO; rw [hl]) | cases hq
end Go.Q

set_option linter.unusedVariables false
set_option linter.unusedSimpArgs false
namespace Go.Q
variable {P : Program} {n : Nat} {ops : Array Oper} {B : Array Nat}
structure MemoV (ops : Array Oper) (D : List Nat) (V : Nat → Value) (m : List (Nat × Option Bool)) : Prop where
  ok : ∀ j b, look m j = some b → has D j = true ∧ boolOf (V j) = b
theorem boolOf_undef : boolOf undef = none := rfl
theorem guardK_cases (hk : DOk n ops B) {e0 e : Env} {V : Nat → Value} {D : List Nat} {m : List (Nat × Option Bool)} {i : Nat} {o : Oper} (ho : ops[i]? = some o)
    (hm : MemoV ops D V m) (he : EnvIs ops e0 V (has D) e) (hD : ∀ p ∈ predsOf ops i, has D p = true) {run skip : Env → List (Nat × Option Bool) → Prop}
    (h : guardK ops m i o e run skip) :
    (wantV V o = true ∧ ∃ m', MemoV ops D V m' ∧ run e m') ∨ (wantV V o = false ∧ ∃ m', MemoV ops D V m' ∧ skip e ((i, none) :: m')) := by
  unfold guardK at h
  unfold wantV
  cases hg : o.guard with
  | none => rw [hg] at h; exact .inl ⟨rfl, m, hm, h⟩
  | some jt =>
    obtain ⟨j, t⟩ := jt
    obtain ⟨hjp, hjd⟩ := hk.guard i o ho j t hg
    have hDj := hD j hjp
    rw [hg] at h
    simp only at h ⊢
    cases hl : look m j with
    | some b =>
      obtain ⟨_, hb⟩ := hm.ok j b hl
      rw [hl] at h
      cases b with
      | none => exact .inr ⟨by rw [hb]; rfl, m, hm, h⟩
      | some b =>
        simp only at h
        cases hbt : (b == t) with
        | true => rw [hbt] at h; exact .inl ⟨by rw [hb]; simpa using hbt, m, hm, h⟩
        | false => rw [hbt] at h; exact .inr ⟨by rw [hb]; simpa using hbt, m, hm, h⟩
    | none =>
      rw [hl] at h
      simp only [hjd, cond_true] at h
      -- the guard's value
      have hval : e (dstOf ops j) = V j := by
        have hx : (ops[j]?).bind (·.dst) = some (dstOf ops j) := by
          unfold hasDst at hjd
          unfold dstOf
          cases hy : (ops[j]?).bind (·.dst) with
          | none => rw [hy] at hjd; cases hjd
          | some d => rfl
        rw [he (dstOf ops j), writer_of hk.reg hx]
        simp [hDj]
      have hall : ∃ b, V j = .bool b ∧ (if b = true then (bif t then run e ((j, some true) :: m) else skip e ((i, none) :: (j, some true) :: m))
          else (bif t then skip e ((i, none) :: (j, some false) :: m) else run e ((j, some false) :: m))) := by
        rcases bV_cases h with ⟨hc, h⟩ | ⟨hc, h⟩
        · rw [upd_self hc] at h; exact ⟨true, by rw [← hval]; exact hc, h⟩
        · rw [upd_self hc] at h; exact ⟨false, by rw [← hval]; exact hc, h⟩
      · obtain ⟨b, hb, h⟩ := hall
        have hbo : boolOf (V j) = some b := by rw [hb]; rfl
        have hm' : MemoV ops D V ((j, some b) :: m) := ⟨fun j' b' hj' => by
          rw [look_cons] at hj'
          split at hj'
          · rename_i hjj; subst hjj; simp only [Option.some.injEq] at hj'; subst hj'; exact ⟨hDj, hbo⟩
          · exact hm.ok j' b' hj'⟩
        rw [hbo]
        cases b
        · simp only [Bool.false_eq_true, if_false] at h
          cases t
          · exact .inl ⟨rfl, _, hm', h⟩
          · exact .inr ⟨rfl, _, hm', h⟩
        · simp only [if_true] at h
          cases t
          · exact .inr ⟨rfl, _, hm', h⟩
          · exact .inl ⟨rfl, _, hm', h⟩
structure Inv (P : Program) (n : Nat) (ops : Array Oper) (B : Array Nat) (e0 : Env) (S : Nat → Bool) (D : List Nat) (m : List (Nat × Option Bool))
    (pd : List (Nat × (World → Prop))) (V : Nat → Value) (a : Act) (e : Env) (w : World) : Prop where
  agA : ∃ ea, Ag n a ea ∧ EnvIs ops e0 V S ea
  envC : EnvIs ops e0 V (has D) e
  sub : ∀ i, S i = true → has D i = true
  lt : ∀ i, has D i = true → i < ops.size
  clS : ∀ x, S x = true → ∀ z, z < ops.size → bit B x z = true → S z = true
  clD : ∀ x, has D x = true → ∀ z, z < ops.size → bit B x z = true → has D z = true
  memo : MemoV ops D V m
  pend : ∀ (y : Nat) (o : Oper), ops[y]? = some o → has D y = true → quietOp P o = true → wantV V o = true →
    (∃ c, (y, c) ∈ pd ∧ ∀ w', c w' → RunsAt P ops B e0 V y o w') ∨ ∀ w', RunsAt P ops B e0 V y o w'
  now : ∀ (y : Nat) (o : Oper), ops[y]? = some o → has D y = true → S y = false →
    (wantV V o = true → quietOp P o = true ∧ RunsAt P ops B e0 V y o w) ∧ (wantV V o = false → V y = undef)
  grd : ∀ (y : Nat) (o : Oper), ops[y]? = some o → has D y = true → ∀ p ∈ predsOf ops y, has D p = true
theorem wantV_same (hk : DOk n ops B) {V : Nat → Value} {x : Nat} {D : List Nat} (hx : has D x = false) {y : Nat} {o : Oper} (ho : ops[y]? = some o)
    (hp : ∀ p ∈ predsOf ops y, has D p = true) (v : Value) : wantV (fun i => if i = x then v else V i) o = wantV V o := by
  unfold wantV
  cases hg : o.guard with
  | none => rfl
  | some jt =>
    obtain ⟨j, t⟩ := jt
    have hj := hp j (hk.guard y o ho j t hg).1
    have hjx : j ≠ x := fun h => by subst h; rw [hx] at hj; cases hj
    simp [hjx]
theorem MemoV.val {D : List Nat} {V : Nat → Value} {m : List (Nat × Option Bool)} (hm : MemoV ops D V m) {x : Nat} (hx : has D x = false) (v : Value) :
    MemoV ops (x :: D) (fun i => if i = x then v else V i) m := ⟨fun j b hj => by
  obtain ⟨h1, h2⟩ := hm.ok j b hj
  have hjx : j ≠ x := fun h => by subst h; rw [hx] at h1; cases h1
  exact ⟨by rw [has_cons]; simp [h1], by simp [hjx, h2]⟩⟩
theorem MemoV.skip {D : List Nat} {V : Nat → Value} {m : List (Nat × Option Bool)} (hm : MemoV ops D V m) {x : Nat} (hx : has D x = false) :
    MemoV ops (x :: D) (fun i => if i = x then undef else V i) ((x, none) :: m) := ⟨fun j b hj => by
  rw [look_cons] at hj
  split at hj
  · rename_i h; subst h; simp only [Option.some.injEq] at hj; subst hj
    exact ⟨by rw [has_cons]; simp, by simp [boolOf_undef]⟩
  · exact (hm.val hx undef).ok j b hj⟩
theorem ready_B (hk : DOk n ops B) {S : Nat → Bool} {i : Nat} (hi : i < ops.size) (hp : ∀ p ∈ predsOf ops i, S p = true)
    (cl : ∀ x, S x = true → ∀ z, z < ops.size → bit B x z = true → S z = true) : ∀ z, z < ops.size → bit B i z = true → S z = true := by
  intro z hz hb
  obtain ⟨p, hpm, hpz⟩ := hk.cl i hi z hz hb
  rcases hpz with h | h
  · subst h; exact hp p hpm
  · exact cl p (hp p hpm) z hz h
section quiet
variable {e0 : Env} {S : Nat → Bool} {D : List Nat} {m : List (Nat × Option Bool)} {pd : List (Nat × (World → Prop))} {V : Nat → Value} {a : Act} {e : Env} {w : World}
theorem Inv.not_S (h : Inv P n ops B e0 S D m pd V a e w) {x : Nat} (hx : has D x = false) : S x = false := by
  cases hs : S x with
  | false => rfl
  | true => have := h.sub x hs; rw [hx] at this; cases this
theorem bit_not_D (h : Inv P n ops B e0 S D m pd V a e w) {x y : Nat} (hx : has D x = false) (hxl : x < ops.size) (hy : has D y = true) : bit B y x = false := by
  cases hb : bit B y x with
  | false => rfl
  | true => have := h.clD y hy x hxl hb; rw [hx] at this; cases this
theorem Inv.quiet (hk : DOk n ops B) (h : Inv P n ops B e0 S D m pd V a e w) {x : Nat} {o : Oper} (ho : ops[x]? = some o) (hx : has D x = false) (hp : ∀ p ∈ predsOf ops x, has D p = true)
    (hq : quietOp P o = true) (hw : wantV V o = true) {m' : List (Nat × Option Bool)} (hm : MemoV ops D V m') {v : Value} (hr : Says1 P (execOp (ev e) o) v w)
    (hs : (∃ c, stbO P o (ev e) v = some c ∧ ∀ w', c w' → Says1 P (execOp (ev e) o) v w') ∨ (stbO P o (ev e) v = none ∧ ∀ w', Says1 P (execOp (ev e) o) v w')) :
    Inv P n ops B e0 S (x :: D) m' (pdAdd x (stbO P o (ev e) v) pd) (fun i => if i = x then v else V i) a (updO e o.dst v) w := by
  have hxl := size_of_some ho
  have hxS := h.not_S hx
  have hB := ready_B hk hxl hp h.clD
  have href : execOp (ev e) o = execOp (ev (refE ops B e0 V x)) o := execOp_ref hk ho (h.envC.ref hk ho hB hx h.clD)
  have hrefx : refE ops B e0 (fun i => if i = x then v else V i) x = refE ops B e0 V x := refE_same (hk.irr x hxl) v
  have old : ∀ (y : Nat) (oy : Oper), ops[y]? = some oy → has D y = true → ∀ w', RunsAt P ops B e0 V y oy w' → RunsAt P ops B e0 (fun i => if i = x then v else V i) y oy w' := by
    intro y oy _ hy w' hrun
    have hyx : y ≠ x := fun hh => by subst hh; rw [hx] at hy; cases hy
    unfold RunsAt at *
    rw [refE_same (bit_not_D h hx hxl hy)]
    simpa [hyx] using hrun
  have new : ∀ w', Says1 P (execOp (ev e) o) v w' → RunsAt P ops B e0 (fun i => if i = x then v else V i) x o w' := by
    intro w' hrun
    unfold RunsAt
    rw [hrefx, ← href]
    simpa [Says1] using hrun
  have hwx : wantV (fun i => if i = x then v else V i) o = true := by rw [wantV_same hk hx ho hp v]; exact hw
  obtain ⟨ea, hag, hea⟩ := h.agA
  constructor
  · exact ⟨ea, hag, hea.valsame hxS v⟩
  · have := h.envC.add hk.reg ho hx v
    have hfun : (fun i => decide (x = i) || has D i) = has (x :: D) := by funext i; rw [has_cons]
    rw [hfun] at this
    exact this
  · intro i hi; rw [has_cons]; simp [h.sub i hi]
  · intro i hi; rw [has_cons] at hi
    simp only [Bool.or_eq_true, decide_eq_true_iff] at hi
    rcases hi with hi | hi
    · subst hi; exact hxl
    · exact h.lt i hi
  · exact h.clS
  · intro y hy z hz hb
    rw [has_cons] at hy ⊢
    simp only [Bool.or_eq_true, decide_eq_true_iff] at hy ⊢
    rcases hy with hy | hy
    · subst hy; exact .inr (hB z hz hb)
    · exact .inr (h.clD y hy z hz hb)
  · exact hm.val hx v
  · intro y oy hoy hy hqy hwy
    rw [has_cons] at hy
    simp only [Bool.or_eq_true, decide_eq_true_iff] at hy
    rcases hy with hy | hy
    · subst hy
      rw [ho] at hoy; injection hoy with hoy; subst hoy
      rcases hs with ⟨c, hc, hcw⟩ | ⟨hc, hcw⟩
      · exact .inl ⟨c, by rw [hc]; simp [pdAdd], fun w' hw' => new w' (hcw w' hw')⟩
      · exact .inr fun w' => new w' (hcw w')
    · rw [wantV_same hk hx hoy (h.grd y oy hoy hy) v] at hwy
      rcases h.pend y oy hoy hy hqy hwy with ⟨c, hc, hcw⟩ | hall
      · refine .inl ⟨c, ?_, fun w' hw' => old y oy hoy hy w' (hcw w' hw')⟩
        unfold pdAdd; split
        · exact List.mem_cons_of_mem _ hc
        · exact hc
      · exact .inr fun w' => old y oy hoy hy w' (hall w')
  · intro y oy hoy hy hyS
    rw [has_cons] at hy
    simp only [Bool.or_eq_true, decide_eq_true_iff] at hy
    rcases hy with hy | hy
    · subst hy
      rw [ho] at hoy; injection hoy with hoy; subst hoy
      refine ⟨fun _ => ⟨hq, new w hr⟩, fun hf => ?_⟩
      rw [hwx] at hf; cases hf
    · obtain ⟨h1, h2⟩ := h.now y oy hoy hy hyS
      have hyx : y ≠ x := fun hh => by subst hh; rw [hx] at hy; cases hy
      rw [wantV_same hk hx hoy (h.grd y oy hoy hy) v]
      refine ⟨fun hw' => ⟨(h1 hw').1, old y oy hoy hy w (h1 hw').2⟩, fun hf => ?_⟩
      simp [hyx, h2 hf]
  · intro y oy hoy hy p hpm
    rw [has_cons] at hy ⊢
    simp only [Bool.or_eq_true, decide_eq_true_iff] at hy ⊢
    rcases hy with hy | hy
    · subst hy; exact .inr (hp p hpm)
    · exact .inr (h.grd y oy hoy hy p hpm)
theorem Inv.skip (hk : DOk n ops B) (h : Inv P n ops B e0 S D m pd V a e w) {x : Nat} {o : Oper} (ho : ops[x]? = some o) (hx : has D x = false) (hp : ∀ p ∈ predsOf ops x, has D p = true)
    (hw : wantV V o = false) {m' : List (Nat × Option Bool)} (hm : MemoV ops D V m') :
    Inv P n ops B e0 S (x :: D) ((x, none) :: m') pd (fun i => if i = x then undef else V i) a (updO e o.dst undef) w := by
  have hxl := size_of_some ho
  have hxS := h.not_S hx
  have hB := ready_B hk hxl hp h.clD
  have old : ∀ (y : Nat) (oy : Oper), ops[y]? = some oy → has D y = true → ∀ w', RunsAt P ops B e0 V y oy w' → RunsAt P ops B e0 (fun i => if i = x then undef else V i) y oy w' := by
    intro y oy _ hy w' hrun
    have hyx : y ≠ x := fun hh => by subst hh; rw [hx] at hy; cases hy
    unfold RunsAt at *
    rw [refE_same (bit_not_D h hx hxl hy)]
    simpa [hyx] using hrun
  have hwx : wantV (fun i => if i = x then undef else V i) o = false := by rw [wantV_same hk hx ho hp undef]; exact hw
  obtain ⟨ea, hag, hea⟩ := h.agA
  constructor
  · exact ⟨ea, hag, hea.valsame hxS undef⟩
  · have := h.envC.add hk.reg ho hx undef
    have hfun : (fun i => decide (x = i) || has D i) = has (x :: D) := by funext i; rw [has_cons]
    rw [hfun] at this
    exact this
  · intro i hi; rw [has_cons]; simp [h.sub i hi]
  · intro i hi; rw [has_cons] at hi
    simp only [Bool.or_eq_true, decide_eq_true_iff] at hi
    rcases hi with hi | hi
    · subst hi; exact hxl
    · exact h.lt i hi
  · exact h.clS
  · intro y hy z hz hb
    rw [has_cons] at hy ⊢
    simp only [Bool.or_eq_true, decide_eq_true_iff] at hy ⊢
    rcases hy with hy | hy
    · subst hy; exact .inr (hB z hz hb)
    · exact .inr (h.clD y hy z hz hb)
  · exact hm.skip hx
  · intro y oy hoy hy hqy hwy
    rw [has_cons] at hy
    simp only [Bool.or_eq_true, decide_eq_true_iff] at hy
    rcases hy with hy | hy
    · subst hy
      rw [ho] at hoy; injection hoy with hoy; subst hoy
      rw [hwx] at hwy; cases hwy
    · rw [wantV_same hk hx hoy (h.grd y oy hoy hy) undef] at hwy
      rcases h.pend y oy hoy hy hqy hwy with ⟨c, hc, hcw⟩ | hall
      · exact .inl ⟨c, hc, fun w' hw' => old y oy hoy hy w' (hcw w' hw')⟩
      · exact .inr fun w' => old y oy hoy hy w' (hall w')
  · intro y oy hoy hy hyS
    rw [has_cons] at hy
    simp only [Bool.or_eq_true, decide_eq_true_iff] at hy
    rcases hy with hy | hy
    · subst hy
      rw [ho] at hoy; injection hoy with hoy; subst hoy
      refine ⟨fun hf => ?_, fun _ => by simp⟩
      rw [hwx] at hf; cases hf
    · obtain ⟨h1, h2⟩ := h.now y oy hoy hy hyS
      have hyx : y ≠ x := fun hh => by subst hh; rw [hx] at hy; cases hy
      rw [wantV_same hk hx hoy (h.grd y oy hoy hy) undef]
      refine ⟨fun hw' => ⟨(h1 hw').1, old y oy hoy hy w (h1 hw').2⟩, fun hf => ?_⟩
      simp [hyx, h2 hf]
  · intro y oy hoy hy p hpm
    rw [has_cons] at hy ⊢
    simp only [Bool.or_eq_true, decide_eq_true_iff] at hy ⊢
    rcases hy with hy | hy
    · subst hy; exact .inr (hp p hpm)
    · exact .inr (h.grd y oy hoy hy p hpm)
end quiet
theorem nextQuiet_some {D : List Nat} {i : Nat} (h : nextQuiet P ops D = some i) : has D i = false ∧ (∀ p ∈ predsOf ops i, has D p = true) ∧ quietAt P ops i = true := by
  have h' := List.find?_some h
  simp only [isReady, Bool.and_eq_true, Bool.not_eq_true', List.all_eq_true] at h'
  exact ⟨h'.1.1, h'.1.2, h'.2⟩
theorem sat (hk : DOk n ops B) {e0 : Env} {S : Nat → Bool} {a : Act} {w : World} {k : Env → World → Prop} : ∀ (f : Nat) (D : List Nat) (m : List (Nat × Option Bool)) (pd : List (Nat × (World → Prop))) (V : Nat → Value) (e : Env),
    Inv P n ops B e0 S D m pd V a e w → drawK P ops B f D m pd e w k →
    ∃ f' D' m' pd' V' e', Inv P n ops B e0 S D' m' pd' V' a e' w ∧ drawK P ops B (f' + 1) D' m' pd' e' w k ∧ nextQuiet P ops D' = none := by
  intro f
  induction f with
  | zero => intro D m pd V e _ h; exact h.elim
  | succ f ih =>
    intro D m pd V e hinv h
    cases hn : nextQuiet P ops D with
    | none => exact ⟨f, D, m, pd, V, e, hinv, h, hn⟩
    | some i =>
      obtain ⟨hiD, hip, hiq⟩ := nextQuiet_some hn
      unfold drawK at h
      rw [hn] at h
      simp only at h
      unfold quietAt at hiq
      cases ho : ops[i]? with
      | none => rw [ho] at hiq; cases hiq
      | some o =>
        rw [ho] at h hiq
        simp only at h hiq
        rcases guardK_cases hk ho hinv.memo hinv.envC hip h with ⟨hw, m', hm', hrun⟩ | ⟨hw, m', hm', hskip⟩
        · obtain ⟨v, hr, hk', hs⟩ := quiet_ok (ev_func e) hiq hrun
          exact ih _ _ _ _ _ (hinv.quiet hk ho hiD hip hiq hw hm' hr hs) hk'
        · exact ih _ _ _ _ _ (hinv.skip hk ho hiD hip hw hm') hskip
theorem stab_all {B : Array Nat} {x : Nat} {w : World} {k : Prop} : ∀ {pd : List (Nat × (World → Prop))}, stab B x w k pd → k ∧ ∀ y c, (y, c) ∈ pd → bit B x y = true ∨ c w := by
  intro pd
  induction pd with
  | nil => intro h; exact ⟨h, fun y c hm => by cases hm⟩
  | cons p r ih =>
    obtain ⟨y, c⟩ := p
    intro h
    unfold stab at h
    cases hb : bit B x y with
    | true =>
      rw [hb] at h
      obtain ⟨h1, h2⟩ := ih h
      refine ⟨h1, fun y' c' hm => ?_⟩
      rcases List.mem_cons.1 hm with hm | hm
      · injection hm with h3 h4; subst h3; exact .inl hb
      · exact h2 y' c' hm
    | false =>
      rw [hb] at h
      obtain ⟨h1, h2⟩ := ih h.2
      refine ⟨h1, fun y' c' hm => ?_⟩
      rcases List.mem_cons.1 hm with hm | hm
      · injection hm with h3 h4; subst h3; subst h4; exact .inr h.1
      · exact h2 y' c' hm
theorem conj_mem {f : Nat → Prop} : ∀ {l : List Nat}, conj l f → ∀ x ∈ l, f x := by
  intro l
  induction l with
  | nil => intro _ x hx; cases hx
  | cons y r ih =>
    intro h x hx
    cases r with
    | nil => simp only [List.mem_singleton] at hx; subst hx; exact h
    | cons z r =>
      obtain ⟨h1, h2⟩ := h
      rcases List.mem_cons.1 hx with hx | hx
      · subst hx; exact h1
      · exact ih h2 x hx
end Go.Q

set_option linter.unusedVariables false
set_option linter.unusedSimpArgs false
namespace Go.Q
variable {P : Program} {n : Nat} {ops : Array Oper} {B : Array Nat}
section
variable {e0 : Env} {S : Nat → Bool} {D : List Nat} {m : List (Nat × Option Bool)} {pd : List (Nat × (World → Prop))} {V : Nat → Value} {a : Act} {e : Env} {w : World}
theorem Inv.listed (hk : DOk n ops B) (h : Inv P n ops B e0 S D m pd V a e w) {x : Nat} {o : Oper} (ho : ops[x]? = some o) (hx : has D x = true) (hS : S x = false)
    (hp : ∀ p ∈ predsOf ops x, S p = true) :
    Inv P n ops B e0 (fun i => decide (x = i) || S i) D m pd V (a.put o.dst (V x)) e w := by
  obtain ⟨ea, hag, hea⟩ := h.agA
  have hxl := size_of_some ho
  have hB := ready_B hk hxl hp h.clS
  exact {
    agA := ⟨_, hag.put (regOk_lt hk.reg ho) (V x), hea.add_old hk.reg ho hS⟩
    envC := h.envC
    sub := fun i hi => by
      simp only [Bool.or_eq_true, decide_eq_true_iff] at hi
      rcases hi with hi | hi
      · subst hi; exact hx
      · exact h.sub i hi
    lt := h.lt
    clS := fun y hy z hz hb => by
      simp only [Bool.or_eq_true, decide_eq_true_iff] at hy ⊢
      rcases hy with hy | hy
      · subst hy; exact .inr (hB z hz hb)
      · exact .inr (h.clS y hy z hz hb)
    clD := h.clD
    memo := h.memo
    pend := h.pend
    now := fun y oy hoy hy hyS => by
      simp only [Bool.or_eq_false_iff] at hyS
      exact h.now y oy hoy hy hyS.2
    grd := h.grd }
theorem Inv.effect (hk : DOk n ops B) (h : Inv P n ops B e0 S D m pd V a e w) {x : Nat} {o : Oper} (ho : ops[x]? = some o) (hx : has D x = false)
    (hp : ∀ p ∈ predsOf ops x, S p = true) (hnq : quietOp P o = false) {m' : List (Nat × Option Bool)} (hm : MemoV ops D V m') (v : Value) {w' : World}
    (hst : ∀ y c, (y, c) ∈ pd → bit B x y = true ∨ c w') :
    Inv P n ops B e0 (fun i => decide (x = i) || S i) (x :: D) m' pd (fun i => if i = x then v else V i) (a.put o.dst v) (updO e o.dst v) w' := by
  have hxl := size_of_some ho
  have hxS := h.not_S hx
  have hpD : ∀ p ∈ predsOf ops x, has D p = true := fun p hpm => h.sub p (hp p hpm)
  have hB := ready_B hk hxl hpD h.clD
  have hBS := ready_B hk hxl hp h.clS
  have old : ∀ (y : Nat) (oy : Oper), ops[y]? = some oy → has D y = true → ∀ w', RunsAt P ops B e0 V y oy w' → RunsAt P ops B e0 (fun i => if i = x then v else V i) y oy w' := by
    intro y oy _ hy w' hrun
    have hyx : y ≠ x := fun hh => by subst hh; rw [hx] at hy; cases hy
    unfold RunsAt at *
    rw [refE_same (bit_not_D h hx hxl hy)]
    simpa [hyx] using hrun
  obtain ⟨ea, hag, hea⟩ := h.agA
  constructor
  · exact ⟨_, hag.put (regOk_lt hk.reg ho) v, hea.add hk.reg ho hxS v⟩
  · have := h.envC.add hk.reg ho hx v
    have hfun : (fun i => decide (x = i) || has D i) = has (x :: D) := by funext i; rw [has_cons]
    rw [hfun] at this
    exact this
  · intro i hi
    rw [has_cons]
    simp only [Bool.or_eq_true, decide_eq_true_iff] at hi ⊢
    exact hi.imp id (h.sub i)
  · intro i hi; rw [has_cons] at hi
    simp only [Bool.or_eq_true, decide_eq_true_iff] at hi
    rcases hi with hi | hi
    · subst hi; exact hxl
    · exact h.lt i hi
  · intro y hy z hz hb
    simp only [Bool.or_eq_true, decide_eq_true_iff] at hy ⊢
    rcases hy with hy | hy
    · subst hy; exact .inr (hBS z hz hb)
    · exact .inr (h.clS y hy z hz hb)
  · intro y hy z hz hb
    rw [has_cons] at hy ⊢
    simp only [Bool.or_eq_true, decide_eq_true_iff] at hy ⊢
    rcases hy with hy | hy
    · subst hy; exact .inr (hB z hz hb)
    · exact .inr (h.clD y hy z hz hb)
  · exact hm.val hx v
  · intro y oy hoy hy hqy hwy
    rw [has_cons] at hy
    simp only [Bool.or_eq_true, decide_eq_true_iff] at hy
    rcases hy with hy | hy
    · subst hy
      rw [ho] at hoy; injection hoy with hoy; subst hoy
      rw [hnq] at hqy; cases hqy
    · rw [wantV_same hk hx hoy (h.grd y oy hoy hy) v] at hwy
      rcases h.pend y oy hoy hy hqy hwy with ⟨c, hc, hcw⟩ | hall
      · exact .inl ⟨c, hc, fun w' hw' => old y oy hoy hy w' (hcw w' hw')⟩
      · exact .inr fun w' => old y oy hoy hy w' (hall w')
  · intro y oy hoy hy hyS
    simp only [Bool.or_eq_false_iff, decide_eq_false_iff_not] at hyS
    obtain ⟨hxy, hyS⟩ := hyS
    rw [has_cons] at hy
    simp only [Bool.or_eq_true, decide_eq_true_iff] at hy
    have hy : has D y = true := hy.resolve_left hxy
    have hyx : y ≠ x := fun hh => hxy hh.symm
    obtain ⟨h1, h2⟩ := h.now y oy hoy hy hyS
    rw [wantV_same hk hx hoy (h.grd y oy hoy hy) v]
    refine ⟨fun hw' => ⟨(h1 hw').1, old y oy hoy hy w' ?_⟩, fun hf => by simp [hyx, h2 hf]⟩
    rcases h.pend y oy hoy hy (h1 hw').1 hw' with ⟨c, hc, hcw⟩ | hall
    · rcases hst y c hc with hb | hcc
      · have := hBS y (size_of_some hoy) hb
        rw [hyS] at this; cases this
      · exact hcw w' hcc
    · exact hall w'
  · intro y oy hoy hy p hpm
    rw [has_cons] at hy ⊢
    simp only [Bool.or_eq_true, decide_eq_true_iff] at hy ⊢
    rcases hy with hy | hy
    · subst hy; exact .inr (hpD p hpm)
    · exact .inr (h.grd y oy hoy hy p hpm)
theorem Inv.wanted (hk : DOk n ops B) (h : Inv P n ops B e0 S D m pd V a e w) {x : Nat} {o : Oper} (ho : ops[x]? = some o) (hp : ∀ p ∈ predsOf ops x, S p = true) :
    Region.wanted o (yielded ops a.tmps) = wantV V o := by
  unfold Region.wanted wantV
  cases hg : o.guard with
  | none => rfl
  | some jt =>
    obtain ⟨j, t⟩ := jt
    obtain ⟨hjp, hjd⟩ := hk.guard x o ho j t hg
    have hSj := hp j hjp
    obtain ⟨ea, hag, hea⟩ := h.agA
    have hx : (ops[j]?).bind (·.dst) = some (dstOf ops j) := by
      unfold hasDst at hjd
      unfold dstOf
      cases hy : (ops[j]?).bind (·.dst) with
      | none => rw [hy] at hjd; cases hjd
      | some d => rfl
    have hval : ea (dstOf ops j) = V j := by
      rw [hea (dstOf ops j), writer_of hk.reg hx]; simp [hSj]
    have hlt : dstOf ops j < n := by
      cases hoj : ops[j]? with
      | none => simp [hoj] at hx
      | some oj => rw [hoj] at hx; exact regOk_lt hk.reg hoj _ hx
    have hy : yielded ops a.tmps j = boolOf (V j) := by
      unfold yielded
      rw [hx]
      simp only [Option.bind_some]
      have he := hag.eq (dstOf ops j)
      have hs := hag.size
      have hlt' : dstOf ops j < a.tmps.size := by rw [hs]; exact hlt
      rw [hval] at he
      rw [Array.getElem?_eq_getElem hlt']
      simp only [Array.getD, hlt', dite_true] at he
      simp only [Array.getInternal_eq_getElem] at he
      rw [he]
      cases V j <;> rfl
    simp only [hy]
theorem Inv.exec (hk : DOk n ops B) (h : Inv P n ops B e0 S D m pd V a e w) {x : Nat} {o : Oper} (ho : ops[x]? = some o) (hS : S x = false) (hp : ∀ p ∈ predsOf ops x, S p = true) :
    execOp a.eval o = execOp (ev (refE ops B e0 V x)) o := by
  obtain ⟨ea, hag, hea⟩ := h.agA
  rw [hag.eval]
  exact execOp_ref hk ho (hea.ref hk ho (ready_B hk (size_of_some ho) hp h.clS) hS h.clS)
end
theorem filter_set {x : Nat} {p p' : Nat → Bool} (hx : p x = true) (hx' : p' x = false) (ho : ∀ i, i ≠ x → p' i = p i) : ∀ l : List Nat, l.Nodup → x ∈ l → (l.filter p').length + 1 = (l.filter p).length := by
  intro l
  induction l with
  | nil => intro _ h; cases h
  | cons y r ih =>
    intro hn hm
    rw [List.nodup_cons] at hn
    by_cases hy : y = x
    · subst hy
      have hr : r.filter p' = r.filter p := List.filter_congr fun i hi => ho i fun h => by subst h; exact hn.1 hi
      simp [hx, hx', hr]
    · have hm' : x ∈ r := by rcases List.mem_cons.1 hm with h | h; exact absurd h.symm hy; exact h
      have := ih hn.2 hm'
      have hyy := ho y hy
      cases hp : p y <;> simp [hyy, hp] <;> omega
def listedS (listed : Array Bool) : Nat → Bool := fun i => listed.getD i false
theorem listedS_set {listed : Array Bool} {x : Nat} (hx : x < listed.size) : listedS (listed.setIfInBounds x true) = fun i => decide (x = i) || listedS listed i := by
  funext i
  unfold listedS
  by_cases h : x = i
  · subst h; simp [hx]
  · simp [Array.getElem?_setIfInBounds_ne h, h]
theorem draw_fin {e0 : Env} {S : Nat → Bool} {D : List Nat} {m : List (Nat × Option Bool)} {pd : List (Nat × (World → Prop))} {V : Nat → Value} {a : Act} {e : Env} {w : World} {f : Nat}
    (hk : DOk n ops B) {k : Env → World → Prop} {Q : Exit → Act → World → Prop} (hQ : ∀ a e w, Ag n a e → k e w → Q .normal a w)
    (hall : ∀ i, i < ops.size → S i = true) (hinv : Inv P n ops B e0 S D m pd V a e w) (h : drawK P ops B f D m pd e w k) : Q .normal a w := by
  obtain ⟨f', D', m', pd', V', e', hinv', h', hn⟩ := sat hk f D m pd V e hinv h
  have hD : ∀ i, i < ops.size → has D' i = true := fun i hi => hinv'.sub i (hall i hi)
  have hr : readyOps ops D' = [] := by
    unfold readyOps
    rw [List.filter_eq_nil_iff]
    intro i hi
    simp [isReady, hD i (List.mem_range.1 hi)]
  unfold drawK at h'
  rw [hn, hr] at h'
  simp only at h'
  cases hall' : allIn ops D' with
  | false => rw [hall'] at h'; exact h'.elim
  | true =>
    rw [hall'] at h'
    obtain ⟨ea, hag, hea⟩ := hinv'.agA
    have : e' = ea := by
      funext t
      rw [hinv'.envC t, hea t]
      cases hw : writer ops t with
      | none => rfl
      | some z =>
        obtain ⟨_, hzl⟩ := writer_some hw
        simp [hD z hzl, hall z hzl]
    subst this
    exact hQ _ _ _ hag h'
theorem ready_iff {listed : Array Bool} (hsz : listed.size = ops.size) {x : Nat} : x ∈ Region.ready .any ops listed ↔ x < ops.size ∧ listedS listed x = false ∧ ∀ p ∈ predsOf ops x, listedS listed p = true := by
  rw [mem_ready]
  constructor
  · rintro ⟨h0, o, ho, hall⟩
    have hx := size_of_some ho
    refine ⟨hx, ?_, ?_⟩
    · unfold listedS
      have : x < listed.size := by omega
      simp [Array.getD, this] at h0 ⊢
      exact h0
    · intro p hp
      unfold predsOf at hp
      rw [ho] at hp
      simp only [List.mem_map, List.mem_filter, Array.mem_toList_iff] at hp
      obtain ⟨ed, ⟨h1, h2⟩, rfl⟩ := hp
      exact hall ed h1 h2
  · rintro ⟨hx, h0, hall⟩
    have hlt : x < listed.size := by omega
    refine ⟨?_, ops[x], by simp [hx], ?_⟩
    · unfold listedS at h0
      simp [Array.getD, hlt] at h0 ⊢
      exact h0
    · intro ed h1 h2
      refine hall ed.on ?_
      unfold predsOf
      simp only [hx, Array.getElem?_eq_getElem, List.mem_map, List.mem_filter, Array.mem_toList_iff]
      exact ⟨ed, ⟨h1, h2⟩, rfl⟩
theorem all_of_none_ready (hk : DOk n ops B) {listed : Array Bool} (hsz : listed.size = ops.size) (h : Region.ready .any ops listed = []) : ∀ i, i < ops.size → listedS listed i = true := by
  intro i
  induction i using Nat.strongRecOn with
  | _ i ih =>
    intro hi
    cases hl : listedS listed i with
    | true => rfl
    | false =>
      have : i ∈ Region.ready .any ops listed := (ready_iff hsz).2 ⟨hi, hl, fun p hp => by
        have := hk.back i p hp
        exact ih p this (by omega)⟩
      rw [h] at this; cases this
theorem drawK_any (hk : DOk n ops B) {k : Env → World → Prop} {Q : Exit → Act → World → Prop} (hQ : ∀ a e w, Ag n a e → k e w → Q .normal a w) {e0 : Env} :
    ∀ (fuel : Nat) (listed : Array Bool) (D : List Nat) (m : List (Nat × Option Bool)) (pd : List (Nat × (World → Prop))) (V : Nat → Value) (a : Act) (e : Env) (w : World) (f : Nat),
      listed.size = ops.size → ((List.range ops.size).filter fun i => !listedS listed i).length = fuel →
      Inv P n ops B e0 (listedS listed) D m pd V a e w → drawK P ops B f D m pd e w k → wpAny P .any ops Q fuel listed a w := by
  intro fuel
  induction fuel with
  | zero =>
    intro listed D m pd V a e w f hsz hcnt hinv h
    have hall : ∀ i, i < ops.size → listedS listed i = true := by
      intro i hi
      cases hl : listedS listed i with
      | true => rfl
      | false =>
        have hm : i ∈ (List.range ops.size).filter fun i => !listedS listed i := List.mem_filter.2 ⟨List.mem_range.2 hi, by simp [hl]⟩
        rw [List.length_eq_zero_iff.1 hcnt] at hm; cases hm
    unfold wpAny
    refine ⟨?_, draw_fin hk hQ hall hinv h⟩
    cases hr : Region.ready .any ops listed with
    | nil => rfl
    | cons x r =>
      have hx : x ∈ Region.ready .any ops listed := by rw [hr]; simp
      obtain ⟨h1, h2, _⟩ := (ready_iff hsz).1 hx
      rw [hall x h1] at h2; cases h2
  | succ fuel ih =>
    intro listed D m pd V a e w f hsz hcnt hinv h
    unfold wpAny
    refine ⟨fun hr => draw_fin hk hQ (all_of_none_ready hk hsz hr) hinv h, fun x hx => ?_⟩
    obtain ⟨hxl, hxS, hxp⟩ := (ready_iff hsz).1 hx
    obtain ⟨f', D', m', pd', V', e', hinv', h', hn⟩ := sat hk f D m pd V e hinv h
    obtain ⟨o, ho⟩ : ∃ o, ops[x]? = some o := ⟨ops[x], by simp [hxl]⟩
    have hsz' : (listed.setIfInBounds x true).size = ops.size := by simp [hsz]
    have hSset : listedS (listed.setIfInBounds x true) = fun i => decide (x = i) || listedS listed i := listedS_set (by omega)
    have hcnt' : ((List.range ops.size).filter fun i => !listedS (listed.setIfInBounds x true) i).length = fuel := by
      have := filter_set (x := x) (p := fun i => !listedS listed i) (p' := fun i => !listedS (listed.setIfInBounds x true) i) (by simp [hxS]) (by simp [hSset])
        (fun i hi => by rw [hSset]; simp [Ne.symm hi]) (List.range ops.size) List.nodup_range (List.mem_range.2 hxl)
      omega
    have hex := hinv'.exec hk ho hxS hxp
    have hwt := hinv'.wanted hk ho hxp
    unfold wpOp
    rw [ho]
    simp only
    cases hDx : has D' x with
    | true =>
      obtain ⟨h1, h2⟩ := hinv'.now x o ho hDx hxS
      have hnew := hinv'.listed hk ho hDx hxS hxp
      rw [← hSset] at hnew
      cases hw : wantV V' o with
      | true =>
        rw [hw] at hwt
        rw [if_pos hwt]
        obtain ⟨_, hrun⟩ := h1 hw
        refine .inl (NextOk.wp (k := fun v w' => v = V' x ∧ w' = w) ?_ ?_)
        · rw [hex]
          exact hrun
        · rintro v w' ⟨rfl, rfl⟩
          exact ih _ _ _ _ _ _ _ _ _ hsz' hcnt' hnew h'
      | false =>
        rw [hw] at hwt
        rw [if_neg (by simp [hwt])]
        rw [← h2 hw]
        exact ih _ _ _ _ _ _ _ _ _ hsz' hcnt' hnew h'
    | false =>
      have hpD : ∀ p ∈ predsOf ops x, has D' p = true := fun p hp => hinv'.sub p (hxp p hp)
      have hrdy : isReady ops D' x = true := by
        unfold isReady
        simp only [hDx, Bool.not_false, Bool.true_and, List.all_eq_true]
        exact hpD
      have hnq : quietOp P o = false := by
        have := List.find?_eq_none.1 hn x (List.mem_range.2 hxl)
        simp only [hrdy, Bool.true_and, Bool.not_eq_true] at this
        unfold quietAt at this
        rw [ho] at this
        exact this
      have hmem : x ∈ readyOps ops D' := List.mem_filter.2 ⟨List.mem_range.2 hxl, hrdy⟩
      have hdk := h'
      unfold drawK at hdk
      rw [hn] at hdk
      simp only at hdk
      have hdk : guardK ops m' x o e'
            (fun e' m' => opK P o (ev e') w fun v w' => stab B x w' (drawK P ops B f' (x :: D') m' pd' (updO e' o.dst v) w' k) pd')
            (fun e' m' => drawK P ops B f' (x :: D') m' pd' (updO e' o.dst undef) w k) := by
        split at hdk
        · rename_i hnil; rw [hnil] at hmem; cases hmem
        · have := conj_mem hdk x hmem
          rw [ho] at this
          exact this
      rcases guardK_cases hk ho hinv'.memo hinv'.envC hpD hdk with ⟨hw, m2, hm2, hrun⟩ | ⟨hw, m2, hm2, hskip⟩
      · rw [hw] at hwt
        rw [if_pos hwt]
        have hex' : execOp (ev e') o = execOp a.eval o := by
          rw [hex]
          exact execOp_ref hk ho (hinv'.envC.ref hk ho (ready_B hk hxl hpD hinv'.clD) hDx hinv'.clD)
        refine .inl (NextOk.wp (k := fun v w' => stab B x w' (drawK P ops B f' (x :: D') m2 pd' (updO e' o.dst v) w' k) pd') ?_ ?_)
        · rw [← hex']
          exact opK_ok (ev_func e') hrun
        · intro v w' hst
          obtain ⟨hk1, hk2⟩ := stab_all hst
          have hnew := hinv'.effect hk ho hDx hxp hnq hm2 v hk2
          rw [← hSset] at hnew
          exact ih _ _ _ _ _ _ _ _ _ hsz' hcnt' hnew hk1
      · rw [hw] at hwt
        rw [if_neg (by simp [hwt])]
        have hs := hinv'.skip hk ho hDx hpD hw hm2
        have hnew := hs.listed hk ho (by rw [has_cons]; simp) hxS hxp
        rw [← hSset] at hnew
        simp only [if_true] at hnew
        exact ih _ _ _ _ _ _ _ _ _ hsz' hcnt' hnew hskip
end Go.Q

set_option linter.unusedVariables false
set_option linter.unusedSimpArgs false
namespace Go.Q
variable {P : Program}
abbrev Kont := Exit → Env → World → Prop
def seqK (N : Env → World → Prop) (K : Kont) : Kont := fun x e w => match x with | .normal => N e w | x => K x e w
def blockK (id : Nat) (K : Kont) : Kont := fun x e w => match x with | .exit i => bif Nat.beq i id then K .normal e w else K (.exit i) e w | x => K x e w
def loopN (F : Kont → Env → World → Prop) (K : Kont) : Nat → Env → World → Prop
  | 0, _, _ => False
  | m + 1, e, w => F (seqK (loopN F K m) K) e w
def scopeK (K : Kont) : Kont := fun x e w => match x with | .goto _ => False | x => K x e w
def known (e : Env) (c : Operand) (b : Bool) : Env := match c with | .tmp t => upd e t (.bool b) | _ => e
theorem known_self {e : Env} {c : Operand} {b : Bool} (h : ev e c = .bool b) : known e c b = e := by
  cases c with
  | tmp t => exact upd_self h
  | _ => rfl
def lift (P : Program) (n : Nat) : Code → Kont → Env → World → Prop
  | .skip, K, e, w => K .normal e w
  | .region _ ops false, K, e, w => bif regOk n ops then opsK P ops ops.toList 0 [] e w (K .normal) else False
  | .region _ ops true, K, e, w => bif drawOk n ops (Region.before ops) then drawK P ops (Region.before ops) (2 * ops.size + 2) [] [] [] e w.drew (K .normal) else False
  | .seq x y, K, e, w => lift P n x (seqK (lift P n y K) K) e w
  | .cond c x y, K, e, w => bV (ev e c) (lift P n x K (known e c true) w) (lift P n y K (known e c false) w)
  | .block id c, K, e, w => lift P n c (blockK id K) e w
  | .loop c, K, e, w => ∃ m, loopN (lift P n c) K m e w
  | .exit id, K, e, w => K (.exit id) e w
  | .ret, K, e, w => K .ret e w
  | .scope c, K, e, w => lift P n c (scopeK K) e w
  | .label _, K, e, w => K .normal e w
  | _, _, _, _ => False
def Fits (n : Nat) (K : Kont) (Q : Exit → Act → World → Prop) : Prop := ∀ x a e w, Ag n a e → K x e w → Q x a w
theorem Fits.seq {n : Nat} {K : Kont} {Q : Exit → Act → World → Prop} {N : Env → World → Prop} {R : Act → World → Prop} (h : Fits n K Q) (hn : ∀ a e w, Ag n a e → N e w → R a w) :
    Fits n (seqK N K) (Exit.then R Q) := by
  intro x a e w hag hk
  cases x with
  | normal => exact hn _ _ _ hag hk
  | _ => exact h _ _ _ _ hag hk
theorem Fits.block {n : Nat} {K : Kont} {Q : Exit → Act → World → Prop} {id : Nat} (h : Fits n K Q) : Fits n (blockK id K) (Exit.inBlock id Q) := by
  intro x a e w hag hk
  cases x with
  | exit i =>
    unfold blockK at hk
    unfold Exit.inBlock
    simp only at hk ⊢
    rw [nbeq] at hk
    by_cases hi : i = id
    · simp only [hi, decide_true, cond_true] at hk
      simp only [hi, if_true]
      exact h _ _ _ _ hag hk
    · simp only [hi, decide_false, cond_false] at hk
      simp only [hi, if_false]
      exact h _ _ _ _ hag hk
  | _ => exact h _ _ _ _ hag hk
theorem inv_start {n : Nat} {ops : Array Oper} {B : Array Nat} {a : Act} {e : Env} {w : World} (hag : Ag n a e) :
    Inv P n ops B e (listedS (Array.replicate ops.size false)) [] [] [] (fun _ => undef) a e w := by
  have hS : ∀ i, listedS (Array.replicate ops.size false) i = false := by
    intro i
    unfold listedS
    by_cases h : i < ops.size <;> simp [Array.getD, h]
  have hE : ∀ S : Nat → Bool, (∀ i, S i = false) → EnvIs ops e (fun _ => undef) S e := by
    intro S h t
    cases hw : writer ops t with
    | none => rfl
    | some z => simp [h z]
  exact {
    agA := ⟨e, hag, hE _ hS⟩
    envC := hE _ fun _ => rfl
    sub := fun i hi => by rw [hS i] at hi; cases hi
    lt := fun i hi => by cases hi
    clS := fun x hx => by rw [hS x] at hx; cases hx
    clD := fun x hx => by cases hx
    memo := ⟨fun j b h => by cases h⟩
    pend := fun y o _ hy => by cases hy
    now := fun y o _ hy => by cases hy
    grd := fun y o _ hy => by cases hy }
theorem lift_ok (hm : P.follows .mixedOrders = true) {n : Nat} : ∀ (c : Code) {K : Kont} {Q : Exit → Act → World → Prop} {e : Env} {a : Act} {w : World},
    Fits n K Q → Ag n a e → lift P n c K e w → c.wp P Q a w := by
  intro c
  induction c with
  | skip => intro K Q e a w hf hag h; exact wp_skip (hf _ _ _ _ hag h)
  | region id ops draw =>
    intro K Q e a w hf hag h
    cases draw with
    | false =>
      unfold lift at h
      cases hr : regOk n ops with
      | false => rw [hr] at h; exact h.elim
      | true =>
        rw [hr] at h
        exact wp_region_list (opsK_ok hr (fun a e w hag hk => hf _ _ _ _ hag hk) ops.toList 0 [] e w a (fun j => by simp) (fun j b hj => by cases hj) hag (fun j b hj => by cases hj) h)
    | true =>
      unfold lift at h
      cases hr : drawOk n ops (Region.before ops) with
      | false => rw [hr] at h; exact h.elim
      | true =>
        rw [hr] at h
        have hS : ∀ i, listedS (Array.replicate ops.size false) i = false := by
          intro i
          unfold listedS
          by_cases h : i < ops.size <;> simp [Array.getD, h]
        refine wp_region_any hm (drawK_any (DOk.of hr) (fun a e w hag hk => hf _ _ _ _ hag hk) ops.size _ [] [] [] (fun _ => undef) a e _ _ (by simp) ?_ (inv_start hag) h)
        rw [List.filter_eq_self.2 (fun i _ => by simp [hS i])]
        simp
  | seq x y ihx ihy =>
    intro K Q e a w hf hag h
    exact wp_seq (ihx (hf.seq fun a e w hag hn => ihy hf hag hn) hag h)
  | cond c x y ihx ihy =>
    intro K Q e a w hf hag h
    rcases bV_cases (T := lift P n x K (known e c true) w) (F := lift P n y K (known e c false) w) h with ⟨hc, h⟩ | ⟨hc, h⟩
    · rw [known_self hc] at h
      rw [← hag.eval] at hc
      exact wp_cond_true hc (ihx hf hag h)
    · rw [known_self hc] at h
      rw [← hag.eval] at hc
      exact wp_cond_false hc (ihy hf hag h)
  | block id c ih => intro K Q e a w hf hag h; exact wp_block (ih hf.block hag h)
  | loop c ih =>
    intro K Q e a w hf hag h
    obtain ⟨m, h⟩ := h
    refine wp_loop_rounds m ?_
    induction m generalizing e a w with
    | zero => exact h.elim
    | succ m ihm => exact ih (hf.seq fun a e w hag hn => ihm hag hn) hag h
  | rangeFunc f ps asg body => intro K Q e a w hf hag h; exact h.elim
  | exit id => intro K Q e a w hf hag h; exact wp_exit (hf _ _ _ _ hag h)
  | scope c ih =>
    intro K Q e a w hf hag h
    refine wp_scope_straight (ih (K := scopeK K) ?_ hag h)
    intro x a e w hag hk
    cases x with
    | goto l => exact hk.elim
    | _ => exact hf _ _ _ _ hag hk
  | label l => intro K Q e a w hf hag h; exact wp_label (hf _ _ _ _ hag h)
  | goto l => intro K Q e a w hf hag h; exact h.elim
  | ret => intro K Q e a w hf hag h; exact wp_ret (hf _ _ _ _ hag h)
  | refuse why => intro K Q e a w hf hag h; exact h.elim
def oneOr : List Value → Value
  | [v] => v
  | vs => .tuple vs.toArray
def resG (P : Program) (e : Env) (w : World) : List ResultVar → (List Value → Prop) → Prop
  | [], k => k []
  | .tmp t :: r, k => resG P e w r fun vs => k (e t :: vs)
  | .cell a T :: r, k => qG P (do loadVar T (← asAddr (e a))) w fun v => resG P e w r fun vs => k (v :: vs)
def finK (P : Program) (rs : List ResultVar) (R : KW) : Kont := fun x e w =>
  match x with
  | .normal | .ret => resG P e w rs fun vs => R (oneOr vs) w
  | _ => False
theorem results_run {e : Env} {w : World} {tmps : Array Value} (he : ∀ t, tmps.getD t undef = e t) : ∀ (rs : List ResultVar) {k : List Value → Prop}, resG P e w rs k →
    ∃ vs, (rs.mapM (fun | .tmp t => pure (tmps.getD t undef) | .cell a t => do loadVar t (← asAddr (tmps.getD a undef)) : ResultVar → Sem Value)).run P w = .ok vs w ∧ k vs := by
  intro rs
  induction rs with
  | nil => intro k h; exact ⟨[], rfl, h⟩
  | cons r rs ih =>
    intro k h
    cases r with
    | tmp t =>
      obtain ⟨vs, hr, hk⟩ := ih h
      refine ⟨e t :: vs, ?_, hk⟩
      rw [List.mapM_cons]
      simp only [he] at hr ⊢
      rw [Sem.run_bind, show (pure (e t) : Sem Value).run P w = .ok (e t) w from rfl]
      simp only [Result.andThen_ok, Sem.run_bind, hr]
      rfl
    | cell a T =>
      obtain ⟨v, hv, h⟩ := h
      obtain ⟨vs, hr, hk⟩ := ih h
      refine ⟨v :: vs, ?_, hk⟩
      rw [List.mapM_cons]
      simp only [he] at hr ⊢
      rw [Sem.run_bind, hv]
      simp only [Result.andThen_ok, Sem.run_bind, hr]
      rfl
def envOf (args : List Value) : Env := fun t => args.getD t undef
theorem calls_lift (hm : P.follows .mixedOrders = true) {f : FuncId} {fn : Func} {c : Code} {args : List Value} {w : World} {R : KW}
    (hf : P.funcs[f]? = some fn) (hb : fn.body = some c) (hn : Nat.ble args.length fn.ntmps = true)
    (h : lift P fn.ntmps c (finK P fn.results.toList R) (envOf args) w) : callG P f args.toArray w R := by
  unfold callG
  refine calls_of_wp hf hb ?_
  refine lift_ok hm c (K := finK P fn.results.toList R) ?_ ?_ h
  · intro x a e w hag hk
    have main : (resG P e w fn.results.toList fun vs => R (oneOr vs) w) → a.defers = [] ∧ ∃ v, (results fn a.tmps).run P w = .ok v w ∧ ∃ v', Ending.returned v = Ending.returned v' ∧ R v' w := by
      intro hk
      obtain ⟨vs, hr, hR⟩ := results_run hag.eq fn.results.toList hk
      refine ⟨hag.defers, oneOr vs, ?_, _, rfl, hR⟩
      unfold results
      rw [Array.mapM_eq_mapM_toList]
      simp only [Sem.run_bind, Sem.run_map]
      erw [hr]
      simp only [Result.andThen_ok]
      cases vs with
      | nil => rfl
      | cons v r => cases r with
        | nil => rfl
        | cons u r => simp [oneOr, pure]
    cases x with
    | normal => exact main hk
    | ret => exact main hk
    | _ => exact hk.elim
  · have hn' : args.length ≤ fn.ntmps := Nat.le_of_ble_eq_true hn
    refine ⟨rfl, by simp; omega, fun t => ?_⟩
    unfold envOf
    simp only [Array.getD_eq_getD_getElem?, List.getD_eq_getElem?_getD]
    rw [Array.getElem?_append]
    by_cases ht : t < args.length
    · simp [ht]
    · simp only [List.size_toArray, ht, if_false]
      have : args[t]? = none := by simp; omega
      rw [this]
      by_cases h2 : t - args.length < fn.ntmps - args.length
      · simp [h2]
      · simp [h2]
theorem calls_lift_eq (hm : P.follows .mixedOrders = true) {f : FuncId} {fn : Func} {c : Code} {args : List Value} {w : World} {R : KW} {n : Nat} {rs : List ResultVar} {X X' : Prop}
    (hf : P.funcs[f]? = some fn) (hb : fn.body = some c) (hn : Nat.ble args.length fn.ntmps = true) (hn' : fn.ntmps = n) (hrs : fn.results.toList = rs)
    (heq : lift P n c (finK P rs R) (envOf args) w = X) (hX : X' = X) (h : X') : callG P f args.toArray w R := by
  subst hn' hrs hX
  exact calls_lift hm hf hb hn (heq.mpr h)
def sub : Code → List Nat → Code
  | c, [] => c
  | .seq x _, 0 :: r => sub x r
  | .seq _ y, _ :: r => sub y r
  | .cond _ x _, 0 :: r => sub x r
  | .cond _ _ y, _ :: r => sub y r
  | .block _ c, _ :: r => sub c r
  | .loop c, _ :: r => sub c r
  | .scope c, _ :: r => sub c r
  | c, _ => c
def bodyOf (f : Func) : Code := f.body.getD .skip
def loopV (F : (KL) → KL) : Nat → KL
  | 0, _, _ => False
  | m + 1, xs, w => F (loopV F m) xs w
theorem seq_seg {n : Nat} {x y : Code} {K : Kont} {Y X : Env → World → Prop} (hy : ∀ e w, lift P n y K e w = Y e w) (hx : ∀ e w, lift P n x (seqK Y K) e w = X e w) :
    ∀ e w, lift P n (.seq x y) K e w = X e w := by
  intro e w
  have h : lift P n y K = Y := funext fun e => funext fun w => hy e w
  show lift P n x (seqK (lift P n y K) K) e w = _
  rw [h, hx]
def seqsC : List Code → Code → Code
  | [], y => y
  | c :: r, y => .seq c (seqsC r y)
def liftsC (P : Program) (n : Nat) : List Code → (Env → World → Prop) → Kont → Env → World → Prop
  | [], Y, _ => Y
  | c :: r, Y, K => lift P n c (seqK (liftsC P n r Y K) K)
theorem segs_eq {n : Nat} {l : List Code} {y : Code} {K : Kont} {Y X : Env → World → Prop} (hy : ∀ e w, lift P n y K e w = Y e w) (hx : ∀ e w, liftsC P n l Y K e w = X e w) :
    ∀ e w, lift P n (seqsC l y) K e w = X e w := by
  have key : ∀ l : List Code, lift P n (seqsC l y) K = liftsC P n l Y K := by
    intro l
    induction l with
    | nil => exact funext fun e => funext fun w => hy e w
    | cons c r ih =>
      show lift P n c (seqK (lift P n (seqsC r y) K) K) = _
      rw [ih]
      rfl
  intro e w
  rw [key, hx]
theorem cond_seg {n : Nat} {c : Operand} {x y : Code} {K : Kont} {Y X : Env → World → Prop} (hx : ∀ e w, lift P n x K e w = X e w) (hy : ∀ e w, lift P n y K e w = Y e w) :
    ∀ e w, lift P n (.cond c x y) K e w = bV (ev e c) (X (known e c true) w) (Y (known e c false) w) := by
  intro e w
  show bV (ev e c) (lift P n x K (known e c true) w) (lift P n y K (known e c false) w) = _
  rw [hx, hy]
theorem loop_seg {n : Nat} {c : Code} {K : Kont} {sel : Env → List Value} {F : (KL) → KL}
    (h : ∀ N e w, lift P n c (seqK (fun e w => N (sel e) w) K) e w = F N (sel e) w) : ∀ e w, lift P n (.loop c) K e w = ∃ m, loopV F m (sel e) w := by
  have key : ∀ m e w, loopN (lift P n c) K m e w = loopV F m (sel e) w := by
    intro m
    induction m with
    | zero => intro e w; rfl
    | succ m ih =>
      intro e w
      have hm : loopN (lift P n c) K m = fun e w => loopV F m (sel e) w := funext fun e => funext fun w => ih e w
      show lift P n c (seqK (loopN (lift P n c) K m) K) e w = F (loopV F m) (sel e) w
      rw [hm, h]
  intro e w
  show (∃ m, loopN (lift P n c) K m e w) = _
  simp only [key]
end Go.Q

