/- Part of the proof (R1): an engine, rules or contracts of the functions; it states nothing of the claim by itself. -/
import Derived.Test.YthalloeiidpfeaaGreatProg
import Derived.Test.YthalloeiidpfeaaGreatR0
import Derived.KernelRfl
import Derived.Below

set_option linter.unusedVariables false
set_option linter.unusedSimpArgs false
namespace Go.Proofs
theorem Tryz.mixed : Tryz.prog.follows .mixedOrders = true := by kernel_rfl
end Go.Proofs

namespace Go.Proofs
open Go Go.Q
abbrev fiK (f : Func) (R : KW) := finK Tryz.prog f.results.toList R
abbrev sbK (f : Func) (l : List Nat) := sub (bodyOf f) l
abbrev liK (n : Nat) := lift Tryz.prog n
end Go.Proofs
set_option linter.unusedVariables false
set_option linter.unusedSimpArgs false
namespace Go.Proofs
open Go Go.Q Tryz
set_option maxRecDepth 100000
def Fn111_s0 (R : KW) (x0 : Value) (w : World) : Prop :=
 nk x0 fun t3 =>
 fa 0 t3 fun t4 =>
 ld1 t4 w fun t5 =>
 qG prog (bq .eql 108 (.tmp 5) (.const (.pointer none)) t5 (.pointer none)) w fun t6 =>
 bV t6
 (eG prog (convert 108 170 x0) w fun t9 w =>
 nG prog (callFunc 121 #[t9]) w fun t10 w =>
 eG prog (convert 170 108 t10) w fun t11 w =>
 nk x0 fun t12 =>
 fa 0 t12 fun t13 =>
 st1 t13 t11 w fun w =>
 R (.tuple #[]) w)
 (nk x0 fun t15 =>
 fa 0 t15 fun t16 =>
 ld1 t16 w fun t17 =>
 qG prog (bq .neq 108 (.tmp 17) (.tmp 18) t17 x0) w fun t19 =>
 bV t19
 (False)
 (R (.tuple #[]) w))
theorem Fn111_s0_eq (R : KW) : ∀ e w, liK 20 (bodyOf f101) (fiK f101 R) e w = Fn111_s0 R (e 0) w := fun e w => by kernel_rfl
def Fn111 (R : KW) (x0 : Value) (w : World) : Prop := Fn111_s0 R x0 w
theorem Fn111_call {R : KW} {x0 : Value} {w : World} (h : Fn111 R x0 w) : callG prog 101 #[x0] w R :=
 calls_lift_eq mixed func101 (args := [x0]) rfl rfl rfl rfl ((Fn111_s0_eq R) (envOf [x0]) w) (by kernel_rfl) h
def Fn109_s0 (R : KW) (x0 x1 : Value) (w : World) : Prop :=
 callG prog 101 #[x0] w fun t6 w =>
 nk x0 fun t9 =>
 fa 1 t9 fun t10 =>
 ld1 t10 w fun t11 =>
 bsl 5 1 1 (zc prog 5) #[(0, x1)] w fun t13 w =>
 app 5 1 1 (zc prog 5) t11 t13 w fun t14 w =>
 nk x0 fun t15 =>
 fa 1 t15 fun t16 =>
 st1 t16 t14 w fun w =>
 R .nilIface w
theorem Fn109_s0_eq (R : KW) : ∀ e w, liK 17 (bodyOf f57) (fiK f57 R) e w = Fn109_s0 R (e 0) (e 1) w := fun e w => by kernel_rfl
def Fn109 (R : KW) (x0 x1 : Value) (w : World) : Prop := Fn109_s0 R x0 x1 w
theorem Fn109_call {R : KW} {x0 x1 : Value} {w : World} (h : Fn109 R x0 x1 w) : callG prog 57 #[x0, x1] w R :=
 calls_lift_eq mixed func57 (args := [x0, x1]) rfl rfl rfl rfl ((Fn109_s0_eq R) (envOf [x0, x1]) w) (by kernel_rfl) h
def Fn110_s0 (R : KW) (x0 x1 : Value) (w : World) : Prop :=
 callG prog 101 #[x0] w fun t7 w =>
 nk x0 fun t10 =>
 fa 1 t10 fun t11 =>
 ld1 t11 w fun t12 =>
 app 5 1 1 (zc prog 5) t12 x1 w fun t14 w =>
 nk x0 fun t15 =>
 fa 1 t15 fun t16 =>
 st1 t16 t14 w fun w =>
 lenS x1 fun t18 =>
 R (.tuple #[t18, .nilIface]) w
theorem Fn110_s0_eq (R : KW) : ∀ e w, liK 19 (bodyOf f59) (fiK f59 R) e w = Fn110_s0 R (e 0) (e 1) w := fun e w => by kernel_rfl
def Fn110 (R : KW) (x0 x1 : Value) (w : World) : Prop := Fn110_s0 R x0 x1 w
theorem Fn110_call {R : KW} {x0 x1 : Value} {w : World} (h : Fn110 R x0 x1 w) : callG prog 59 #[x0, x1] w R :=
 calls_lift_eq mixed func59 (args := [x0, x1]) rfl rfl rfl rfl ((Fn110_s0_eq R) (envOf [x0, x1]) w) (by kernel_rfl) h
def Fn108_s0 (R : KW) (x0 : Value) (w : World) : Prop :=
 nk x0 fun t4 =>
 fa 1 t4 fun t5 =>
 ld1 t5 (World.drew w) fun t6 =>
 nk x0 fun t9 =>
 fa 1 t9 fun t10 =>
 ld1 t10 (World.drew w) fun t11 =>
 lenL t11 fun t12 =>
 eG prog (Builtin.unsafeSliceData_ #[96] 150 #[t6]) (World.drew w) fun t7 w =>
 ld1 t10 w (fun u => u = t11) ∧
 eG prog (Builtin.unsafeString_ #[150, 3] 9 #[t7, t12]) w fun t13 w =>
 R t13 w
theorem Fn108_s0_eq (R : KW) : ∀ e w, liK 14 (bodyOf f61) (fiK f61 R) e w = Fn108_s0 R (e 0) w := fun e w => by kernel_rfl
def Fn108 (R : KW) (x0 : Value) (w : World) : Prop := Fn108_s0 R x0 w
theorem Fn108_call {R : KW} {x0 : Value} {w : World} (h : Fn108 R x0 w) : callG prog 61 #[x0] w R :=
 calls_lift_eq mixed func61 (args := [x0]) rfl rfl rfl rfl ((Fn108_s0_eq R) (envOf [x0]) w) (by kernel_rfl) h
def Fn107_s0 (R : KW) (x0 : Value) (w : World) : Prop :=
 nk x0 fun t4 =>
 fa 1 t4 fun t5 =>
 ld1 t5 w fun t6 =>
 lenL t6 fun t7 =>
 R t7 w
theorem Fn107_s0_eq (R : KW) : ∀ e w, liK 8 (bodyOf f95) (fiK f95 R) e w = Fn107_s0 R (e 0) w := fun e w => by kernel_rfl
def Fn107 (R : KW) (x0 : Value) (w : World) : Prop := Fn107_s0 R x0 w
theorem Fn107_call {R : KW} {x0 : Value} {w : World} (h : Fn107 R x0 w) : callG prog 95 #[x0] w R :=
 calls_lift_eq mixed func95 (args := [x0]) rfl rfl rfl rfl ((Fn107_s0_eq R) (envOf [x0]) w) (by kernel_rfl) h
end Go.Proofs

set_option linter.unusedVariables false
set_option linter.unusedSimpArgs false
namespace Go.Q
variable {P : Program}
theorem qG_of {s : Sem Value} {w : World} {v : Value} {K : Value → Prop} (h : s.run P w = .ok v w) : qG P s w K = K v := by
  apply propext
  constructor
  · rintro ⟨v', hr, hk⟩
    rw [h] at hr
    injection hr with h1
    subst h1; exact hk
  · exact fun hk => ⟨v, h, hk⟩
theorem stb_of {s : Sem Value} {w : World} {v u : Value} (h : s.run P w = .ok v w) : stb P s u w = (v = u) := by
  unfold stb; rw [h]; simp
section
variable {T : TypeId} {xo yo : Operand} {k : IntKind} {a b : Int} {w : World} {K : Value → Prop} {u : Value}
theorem run_bq_int {op : BinOp} {s : Sem Value} (hop : ∀ w : World, (binOp op T (.int k a) (.int k b)).run P w = s.run P w) : (bq op T xo yo (.int k a) (.int k b)).run P w = s.run P w := by
  cases op <;> exact hop w
theorem run_add : (bq .add T xo yo (.int k a) (.int k b)).run P w = .ok (.int k (k.wrap (a + b))) w := run_bq_int (s := .pure _) fun w => by simp [binOp, Op.intArith]
theorem run_sub : (bq .sub T xo yo (.int k a) (.int k b)).run P w = .ok (.int k (k.wrap (a - b))) w := run_bq_int (s := .pure _) fun w => by simp [binOp, Op.intArith]
theorem run_mul : (bq .mul T xo yo (.int k a) (.int k b)).run P w = .ok (.int k (k.wrap (a * b))) w := run_bq_int (s := .pure _) fun w => by simp [binOp, Op.intArith]
theorem run_lss : (bq .lss T xo yo (.int k a) (.int k b)).run P w = .ok (.bool (decide (a < b))) w := run_bq_int (s := .pure _) fun w => by simp [binOp, Op.intCmp]
theorem run_leq : (bq .leq T xo yo (.int k a) (.int k b)).run P w = .ok (.bool (decide (a ≤ b))) w := run_bq_int (s := .pure _) fun w => by simp [binOp, Op.intCmp]
theorem run_gtr : (bq .gtr T xo yo (.int k a) (.int k b)).run P w = .ok (.bool (decide (a > b))) w := run_bq_int (s := .pure _) fun w => by simp [binOp, Op.intCmp]
theorem run_geq : (bq .geq T xo yo (.int k a) (.int k b)).run P w = .ok (.bool (decide (a ≥ b))) w := run_bq_int (s := .pure _) fun w => by simp [binOp, Op.intCmp]
theorem run_eql : (bq .eql T xo yo (.int k a) (.int k b)).run P w = .ok (.bool (decide (a = b))) w := run_bq_int (s := .pure _) fun w => by simp [binOp, Op.intCmp]; rfl
theorem run_neq : (bq .neq T xo yo (.int k a) (.int k b)).run P w = .ok (.bool (decide (a ≠ b))) w := run_bq_int (s := .pure _) fun w => by simp [binOp, Op.intCmp, bne]; rfl
@[simp] theorem bq_add : qG P (bq .add T xo yo (.int k a) (.int k b)) w K = K (.int k (k.wrap (a + b))) := qG_of run_add
@[simp] theorem bq_sub : qG P (bq .sub T xo yo (.int k a) (.int k b)) w K = K (.int k (k.wrap (a - b))) := qG_of run_sub
@[simp] theorem bq_mul : qG P (bq .mul T xo yo (.int k a) (.int k b)) w K = K (.int k (k.wrap (a * b))) := qG_of run_mul
@[simp] theorem bq_lss : qG P (bq .lss T xo yo (.int k a) (.int k b)) w K = K (.bool (decide (a < b))) := qG_of run_lss
@[simp] theorem bq_leq : qG P (bq .leq T xo yo (.int k a) (.int k b)) w K = K (.bool (decide (a ≤ b))) := qG_of run_leq
@[simp] theorem bq_gtr : qG P (bq .gtr T xo yo (.int k a) (.int k b)) w K = K (.bool (decide (a > b))) := qG_of run_gtr
@[simp] theorem bq_geq : qG P (bq .geq T xo yo (.int k a) (.int k b)) w K = K (.bool (decide (a ≥ b))) := qG_of run_geq
@[simp] theorem bq_eql : qG P (bq .eql T xo yo (.int k a) (.int k b)) w K = K (.bool (decide (a = b))) := qG_of run_eql
@[simp] theorem bq_neq : qG P (bq .neq T xo yo (.int k a) (.int k b)) w K = K (.bool (decide (a ≠ b))) := qG_of run_neq
@[simp] theorem stb_add : stb P (bq .add T xo yo (.int k a) (.int k b)) u w = (.int k (k.wrap (a + b)) = u) := stb_of run_add
@[simp] theorem stb_sub : stb P (bq .sub T xo yo (.int k a) (.int k b)) u w = (.int k (k.wrap (a - b)) = u) := stb_of run_sub
@[simp] theorem stb_mul : stb P (bq .mul T xo yo (.int k a) (.int k b)) u w = (.int k (k.wrap (a * b)) = u) := stb_of run_mul
@[simp] theorem stb_lss : stb P (bq .lss T xo yo (.int k a) (.int k b)) u w = (.bool (decide (a < b)) = u) := stb_of run_lss
@[simp] theorem stb_eql : stb P (bq .eql T xo yo (.int k a) (.int k b)) u w = (.bool (decide (a = b)) = u) := stb_of run_eql
@[simp] theorem stb_neq : stb P (bq .neq T xo yo (.int k a) (.int k b)) u w = (.bool (decide (a ≠ b)) = u) := stb_of run_neq
end
theorem run_not {b : Bool} {w : World} : (Op.unary .not (.bool b)).run P w = .ok (.bool !b) w := rfl
@[simp] theorem un_not {b : Bool} {w : World} {K : Value → Prop} : qG P (Op.unary .not (.bool b)) w K = K (.bool !b) := qG_of run_not
@[simp] theorem stb_not {b : Bool} {w : World} {u : Value} : stb P (Op.unary .not (.bool b)) u w = (.bool (!b) = u) := stb_of run_not
theorem run_extract {vs : Array Value} {i : Nat} {v : Value} {w : World} (h : vs[i]? = some v) : (Instr.extract (.tuple vs) i).run P w = .ok v w := by simp [Instr.extract, h]
@[simp] theorem ex0 {a b : Value} {w : World} {K : Value → Prop} : qG P (Instr.extract (.tuple #[a, b]) 0) w K = K a := qG_of (run_extract rfl)
@[simp] theorem ex1 {a b : Value} {w : World} {K : Value → Prop} : qG P (Instr.extract (.tuple #[a, b]) 1) w K = K b := qG_of (run_extract rfl)
@[simp] theorem ex30 {a b c : Value} {w : World} {K : Value → Prop} : qG P (Instr.extract (.tuple #[a, b, c]) 0) w K = K a := qG_of (run_extract rfl)
@[simp] theorem ex31 {a b c : Value} {w : World} {K : Value → Prop} : qG P (Instr.extract (.tuple #[a, b, c]) 1) w K = K b := qG_of (run_extract rfl)
@[simp] theorem ex32 {a b c : Value} {w : World} {K : Value → Prop} : qG P (Instr.extract (.tuple #[a, b, c]) 2) w K = K c := qG_of (run_extract rfl)
@[simp] theorem stb_ex0 {a b u : Value} {w : World} : stb P (Instr.extract (.tuple #[a, b]) 0) u w = (a = u) := stb_of (run_extract rfl)
@[simp] theorem stb_ex1 {a b u : Value} {w : World} : stb P (Instr.extract (.tuple #[a, b]) 1) u w = (b = u) := stb_of (run_extract rfl)
@[simp] theorem stb_ex30 {a b c u : Value} {w : World} : stb P (Instr.extract (.tuple #[a, b, c]) 0) u w = (a = u) := stb_of (run_extract rfl)
@[simp] theorem stb_ex31 {a b c u : Value} {w : World} : stb P (Instr.extract (.tuple #[a, b, c]) 1) u w = (b = u) := stb_of (run_extract rfl)
@[simp] theorem stb_ex32 {a b c u : Value} {w : World} : stb P (Instr.extract (.tuple #[a, b, c]) 2) u w = (c = u) := stb_of (run_extract rfl)
theorem run_max {ts : Array TypeId} {t : TypeId} {k : IntKind} {a b : Int} {w : World} : (Builtin.max_ ts t #[.int k a, .int k b]).run P w = .ok (.int k (max a b)) w := by
  simp only [Builtin.max_, List.foldlM_cons, List.foldlM_nil, Builtin.max2, pure_bind]
  show Result.ok _ _ = _
  congr 2; omega
theorem run_min {ts : Array TypeId} {t : TypeId} {k : IntKind} {a b : Int} {w : World} : (Builtin.min_ ts t #[.int k a, .int k b]).run P w = .ok (.int k (min a b)) w := by
  simp only [Builtin.min_, List.foldlM_cons, List.foldlM_nil, Builtin.min2, pure_bind]
  show Result.ok _ _ = _
  congr 2; omega
@[simp] theorem q_max {ts : Array TypeId} {t : TypeId} {k : IntKind} {a b : Int} {w : World} {K : Value → Prop} : qG P (Builtin.max_ ts t #[.int k a, .int k b]) w K = K (.int k (max a b)) := qG_of run_max
@[simp] theorem q_min {ts : Array TypeId} {t : TypeId} {k : IntKind} {a b : Int} {w : World} {K : Value → Prop} : qG P (Builtin.min_ ts t #[.int k a, .int k b]) w K = K (.int k (min a b)) := qG_of run_min
theorem toList_beq (s t : ByteArray) : (s.toList == t.toList) = decide (s = t) := by
  by_cases h : s = t
  · subst h; simp
  · have : s.toList ≠ t.toList := by
      intro h'
      apply h
      rw [ByteArray.toList_eq, ByteArray.toList_eq] at h'
      cases s; cases t
      simp only [ByteArray.mk.injEq]
      exact Array.toList_inj.1 h'
    rw [decide_eq_false h]
    exact beq_false_of_ne this
def sLt (s t : ByteArray) : Bool := Op.bytesLess s.toList t.toList
section
variable {T : TypeId} {xo yo : Operand} {a b : ByteArray} {w : World} {K : Value → Prop} {u : Value}
theorem run_bq_str {op : BinOp} {s : Sem Value} (hop : ∀ w : World, (binOp op T (.string a) (.string b)).run P w = s.run P w) : (bq op T xo yo (.string a) (.string b)).run P w = s.run P w := by
  cases op <;> exact hop w
theorem run_seql : (bq .eql T xo yo (.string a) (.string b)).run P w = .ok (.bool (decide (a = b))) w := run_bq_str (s := .pure _) fun w => by simp only [binOp, Op.stringOp, toList_beq]; rfl
theorem run_sneq : (bq .neq T xo yo (.string a) (.string b)).run P w = .ok (.bool (!decide (a = b))) w := run_bq_str (s := .pure _) fun w => by simp only [binOp, Op.stringOp, toList_beq]; rfl
theorem run_slss : (bq .lss T xo yo (.string a) (.string b)).run P w = .ok (.bool (sLt a b)) w := run_bq_str (s := .pure _) fun _ => rfl
theorem run_sadd (h : a.size + b.size < 9223372036854775808) : (bq .add T xo yo (.string a) (.string b)).run P w = .ok (.string (a ++ b)) w := run_bq_str (s := .pure _) fun w => by
  have : ¬ (((a.size + b.size : Nat) : Int) > IntKind.i64.max) := by
    have : IntKind.i64.max = 9223372036854775807 := by decide
    rw [this]; omega
  simp only [binOp, Op.stringOp, this, if_false]; rfl
@[simp] theorem bq_seql : qG P (bq .eql T xo yo (.string a) (.string b)) w K = K (.bool (decide (a = b))) := qG_of run_seql
@[simp] theorem bq_sneq : qG P (bq .neq T xo yo (.string a) (.string b)) w K = K (.bool (!decide (a = b))) := qG_of run_sneq
@[simp] theorem bq_slss : qG P (bq .lss T xo yo (.string a) (.string b)) w K = K (.bool (sLt a b)) := qG_of run_slss
theorem bq_sadd (h : a.size + b.size < 9223372036854775808) : qG P (bq .add T xo yo (.string a) (.string b)) w K = K (.string (a ++ b)) := qG_of (run_sadd h)
@[simp] theorem stb_seql : stb P (bq .eql T xo yo (.string a) (.string b)) u w = (.bool (decide (a = b)) = u) := stb_of run_seql
@[simp] theorem stb_sneq : stb P (bq .neq T xo yo (.string a) (.string b)) u w = (.bool (!decide (a = b)) = u) := stb_of run_sneq
end
def isPtr (P : Program) (T : TypeId) : Bool := match P.underlying T with | some (.pointer _) => true | _ => false
def isBoolT (P : Program) (T : TypeId) : Bool := match P.underlying T with | some .bool => true | _ => false
def isSl (P : Program) (T : TypeId) : Bool := match P.underlying T with | some (.slice _) => true | _ => false
theorem run_equal1 {T : TypeId} {x y : Value} {w : World} {b : Bool} (h : (Op.equal T x y).run P w = .ok b w) (hx : ∀ c d, ¬ (x = .agg c ∧ y = .agg d)) (hn : ¬ (x = .nilIface ∧ y = .nilIface)) (xo yo : Operand)
    (he : binOp .eql T x y = (do pure (.bool (← Op.equal T x y)))) (hne : binOp .neq T x y = (do pure (.bool (!(← Op.equal T x y))))) :
    (bq .eql T xo yo x y).run P w = .ok (.bool b) w ∧ (bq .neq T xo yo x y).run P w = .ok (.bool !b) w := by
  have hg : ∀ op, op = .eql ∨ op = .neq → (eqGuard op T xo yo x y).run P w = .ok () w := by
    rintro op (rfl | rfl)
    all_goals
      unfold eqGuard
      simp only [Bool.not_true, Bool.false_eq_true, if_false]
      split
      · exact absurd ⟨rfl, rfl⟩ hn
      · exact absurd ⟨rfl, rfl⟩ (hx _ _)
      · rfl
  constructor
  · unfold bq; rw [Sem.run_bind, hg _ (.inl rfl)]; simp only [Result.andThen_ok, he, Sem.run_bind, h]; rfl
  · unfold bq; rw [Sem.run_bind, hg _ (.inr rfl)]; simp only [Result.andThen_ok, hne, Sem.run_bind, h]; rfl
section
variable {T : TypeId} {xo yo : Operand} {w : World} {K : Value → Prop} {u : Value}
theorem run_pnil (a : Option Addr) (hT : isPtr P T = true) : (bq .eql T xo yo (.pointer a) (.pointer none)).run P w = .ok (.bool a.isNone) w ∧ (bq .neq T xo yo (.pointer a) (.pointer none)).run P w = .ok (.bool !a.isNone) w := by
  unfold isPtr at hT
  split at hT
  · rename_i e hu
    refine run_equal1 ?_ (fun _ _ h => by cases h.1) (fun h => by cases h.1) xo yo (by cases a <;> rfl) (by cases a <;> rfl)
    unfold Op.equal Op.maxDepth Op.equalIn
    simp only [Sem.run_bind, run_underlying hu, Result.andThen_ok]
    cases a <;> rfl
  · cases hT
@[simp] theorem bq_peql (a : Option Addr) (hT : isPtr P T = true) : qG P (bq .eql T xo yo (.pointer a) (.pointer none)) w K = K (.bool a.isNone) := qG_of (run_pnil a hT).1
@[simp] theorem bq_pneq (a : Option Addr) (hT : isPtr P T = true) : qG P (bq .neq T xo yo (.pointer a) (.pointer none)) w K = K (.bool !a.isNone) := qG_of (run_pnil a hT).2
@[simp] theorem stb_peql (a : Option Addr) (hT : isPtr P T = true) : stb P (bq .eql T xo yo (.pointer a) (.pointer none)) u w = (.bool a.isNone = u) := stb_of (run_pnil a hT).1
@[simp] theorem stb_pneq (a : Option Addr) (hT : isPtr P T = true) : stb P (bq .neq T xo yo (.pointer a) (.pointer none)) u w = (.bool (!a.isNone) = u) := stb_of (run_pnil a hT).2
theorem run_bools (a b : Bool) (hT : isBoolT P T = true) : (bq .eql T xo yo (.bool a) (.bool b)).run P w = .ok (.bool (a == b)) w ∧ (bq .neq T xo yo (.bool a) (.bool b)).run P w = .ok (.bool !(a == b)) w := by
  unfold isBoolT at hT
  split at hT
  · rename_i hu
    refine run_equal1 ?_ (fun _ _ h => by cases h.1) (fun h => by cases h.1) xo yo rfl rfl
    unfold Op.equal Op.maxDepth Op.equalIn
    simp only [Sem.run_bind, run_underlying hu, Result.andThen_ok]
    rfl
  · cases hT
@[simp] theorem bq_beql (a b : Bool) (hT : isBoolT P T = true) : qG P (bq .eql T xo yo (.bool a) (.bool b)) w K = K (.bool (a == b)) := qG_of (run_bools a b hT).1
@[simp] theorem bq_bneq (a b : Bool) (hT : isBoolT P T = true) : qG P (bq .neq T xo yo (.bool a) (.bool b)) w K = K (.bool !(a == b)) := qG_of (run_bools a b hT).2
@[simp] theorem stb_beql (a b : Bool) (hT : isBoolT P T = true) : stb P (bq .eql T xo yo (.bool a) (.bool b)) u w = (.bool (a == b) = u) := stb_of (run_bools a b hT).1
@[simp] theorem stb_bneq (a b : Bool) (hT : isBoolT P T = true) : stb P (bq .neq T xo yo (.bool a) (.bool b)) u w = (.bool (!(a == b)) = u) := stb_of (run_bools a b hT).2
theorem run_slnil (a : Option Addr) (n c n' c' : Nat) (hT : isSl P T = true) : (bq .eql T xo yo (.slice a n c) (.slice none n' c')).run P w = .ok (.bool a.isNone) w ∧ (bq .neq T xo yo (.slice a n c) (.slice none n' c')).run P w = .ok (.bool !a.isNone) w := by
  unfold isSl at hT
  split at hT
  · rename_i e hu
    refine run_equal1 ?_ (fun _ _ h => by cases h.1) (fun h => by cases h.1) xo yo (by cases a <;> rfl) (by cases a <;> rfl)
    unfold Op.equal Op.maxDepth Op.equalIn
    simp only [Sem.run_bind, run_underlying hu, Result.andThen_ok]
    cases a <;> rfl
  · cases hT
@[simp] theorem bq_sleql (a : Option Addr) (n c n' c' : Nat) (hT : isSl P T = true) : qG P (bq .eql T xo yo (.slice a n c) (.slice none n' c')) w K = K (.bool a.isNone) := qG_of (run_slnil a n c n' c' hT).1
@[simp] theorem bq_slneq (a : Option Addr) (n c n' c' : Nat) (hT : isSl P T = true) : qG P (bq .neq T xo yo (.slice a n c) (.slice none n' c')) w K = K (.bool !a.isNone) := qG_of (run_slnil a n c n' c' hT).2
end
@[simp] theorem pk_b {t : Bool} {a b : Value} {K : Value → Prop} : pk (.bool t) a b K = K (bif t then a else b) := rfl
@[simp] theorem nk_p {a : Addr} {K : Value → Prop} : nk (.pointer (some a)) K = K (.pointer (some a)) := rfl
@[simp] theorem bV_b {t : Bool} {T F : Prop} : bV (.bool t) T F = ((t = true → T) ∧ (t = false → F)) := by cases t <;> simp [bV]
@[simp] theorem ld1_p {a : Addr} {w : World} {K : Value → Prop} : ld1 (.pointer (some a)) w K = rd1 w a K := rfl
@[simp] theorem ldn_p {n : Nat} {a : Addr} {w : World} {K : Value → Prop} : ldn n (.pointer (some a)) w K = rdN w a n fun cs => K (.agg cs) := rfl
@[simp] theorem st1_p {a : Addr} {v : Value} {w : World} {K : World → Prop} : st1 (.pointer (some a)) v w K = (one v = true ∧ wr1 w a v K) := rfl
@[simp] theorem stn_p {n : Nat} {a : Addr} {cs : Array Value} {w : World} {K : World → Prop} : stn n (.pointer (some a)) (.agg cs) w K = (cs.size = n ∧ wrN w a cs K) := rfl
@[simp] theorem add_mk {b o n : Nat} : (⟨b, o, none⟩ : Addr).add n = ⟨b, o + n, none⟩ := add_none rfl n
@[simp] theorem fa_p {off b o : Nat} {K : Value → Prop} : fa off (.pointer (some ⟨b, o, none⟩)) K = K (.pointer (some ⟨b, o + off, none⟩)) := by unfold fa; simp
@[simp] theorem ia_p {n b o len cap : Nat} {k : IntKind} {j : Int} {K : Value → Prop} : ia n (.slice (some ⟨b, o, none⟩) len cap) (.int k j) K = ((0 ≤ j ∧ j < len) ∧ K (.pointer (some ⟨b, o + j.toNat * n, none⟩))) := by unfold ia; simp
@[simp] theorem iaA_p {len n b o : Nat} {k : IntKind} {j : Int} {K : Value → Prop} : iaA len n (.pointer (some ⟨b, o, none⟩)) (.int k j) K = ((0 ≤ j ∧ j < len) ∧ K (.pointer (some ⟨b, o + j.toNat * n, none⟩))) := by unfold iaA; simp
@[simp] theorem slL_p {n len cap : Nat} {a : Option Addr} {lo hi : Option Value} {K : Value → Prop} : slL n (.slice a len cap) lo hi K = bnd hi len cap fun h => bnd lo 0 h fun l => K (.slice (if cap = l then a else a.map (·.add (l * n))) (h - l) (cap - l)) := rfl
@[simp] theorem slA_p {len n b o : Nat} {lo hi : Option Value} {K : Value → Prop} : slA len n (.pointer (some ⟨b, o, none⟩)) lo hi K = bnd hi len len fun h => bnd lo 0 h fun l => K (.slice (some ⟨b, (if len = l then o else o + l * n), none⟩) (h - l) (len - l)) := by
  unfold slA
  have : ∀ l, (if len = l then (⟨b, o, none⟩ : Addr) else (⟨b, o, none⟩ : Addr).add (l * n)) = ⟨b, (if len = l then o else o + l * n), none⟩ := by intro l; split <;> simp
  simp only [this]
@[simp] theorem slS_p {s : ByteArray} {lo hi : Option Value} {K : Value → Prop} : slS (.string s) lo hi K = bnd hi s.size s.size fun h => bnd lo 0 h fun l => K (.string (s.extract l h)) := rfl
@[simp] theorem bnd_none {d y : Nat} {K : Nat → Prop} : bnd none d y K = K d := rfl
@[simp] theorem bnd_some {k : IntKind} {i : Int} {d y : Nat} {K : Nat → Prop} : bnd (some (.int k i)) d y K = ((0 ≤ i ∧ i ≤ y) ∧ K i.toNat) := rfl
@[simp] theorem lenS_s {s : ByteArray} {K : Value → Prop} : lenS (.string s) K = K (.int .i64 s.size) := rfl
@[simp] theorem lenL_s {a : Option Addr} {n c : Nat} {K : Value → Prop} : lenL (.slice a n c) K = K (.int .i64 n) := rfl
@[simp] theorem cvI_i {kd k : IntKind} {n : Int} {K : Value → Prop} : cvI kd (.int k n) K = K (.int kd (kd.wrap n)) := rfl
@[simp] theorem cvSS_s {s : ByteArray} {K : Value → Prop} : cvSS (.string s) K = K (.string s) := rfl
@[simp] theorem fld_a {agg : Bool} {off n : Nat} {cs : Array Value} {K : Value → Prop} : fld agg off n (.agg cs) K = partG agg off n cs K := rfl
@[simp] theorem part_t {off n : Nat} {cs : Array Value} {K : Value → Prop} : partG true off n cs K = K (.agg (cs.extract off (off + n))) := rfl
@[simp] theorem part_f {off n : Nat} {cs : Array Value} {K : Value → Prop} : partG false off n cs K = match cs[off]? with | some v => K v | none => False := rfl
@[simp] theorem newG_k {c : Array Value} {T : TypeId} {w : World} {K : KW} : newG c T w K = K (.pointer (some ⟨w.heap.size, 0, none⟩)) (w.alloc (.cells c T)) := rfl
@[simp] theorem rd1_mk {w : World} {b o : Nat} {K : Value → Prop} : rd1 w ⟨b, o, none⟩ K = match w.heap[b]? with | some (.cells c _ _) => (match c[o]? with | some v => K v | none => False) | _ => False := by
  unfold rd1
  cases h : w.heap[b]? with
  | none => rfl
  | some x => cases x <;> first | rfl | (simp only [true_and]; rfl)
@[simp] theorem rdN_mk {w : World} {b o n : Nat} {K : Array Value → Prop} : rdN w ⟨b, o, none⟩ n K = match w.heap[b]? with | some (.cells c _ _) => o + n ≤ c.size ∧ K (c.extract o (o + n)) | _ => False := by
  unfold rdN; split <;> simp_all
@[simp] theorem wr1_mk {w : World} {b o : Nat} {v : Value} {K : World → Prop} : wr1 w ⟨b, o, none⟩ v K = match w.heap[b]? with | some (.cells c T fr) => (o < c.size ∧ okFr fr o 1) ∧ K (setBlk w b (.cells (c.setIfInBounds o v) T fr)) | _ => False := by
  unfold wr1; split <;> simp_all
@[simp] theorem wrN_mk {w : World} {b o : Nat} {vs : Array Value} {K : World → Prop} : wrN w ⟨b, o, none⟩ vs K = match w.heap[b]? with | some (.cells c T fr) => (o + vs.size ≤ c.size ∧ okFr fr o vs.size ∧ vs.all one = true) ∧ K (setBlk w b (.cells (splice c o vs) T fr)) | _ => False := by
  unfold wrN; split <;> simp_all
@[simp] theorem okFr0 {o n : Nat} : okFr (0, 0) o n = True := by simp [okFr]
@[simp] theorem one_int {k : IntKind} {n : Int} : one (.int k n) = true := rfl
@[simp] theorem one_bool {b : Bool} : one (.bool b) = true := rfl
@[simp] theorem one_str {s : ByteArray} : one (.string s) = true := rfl
@[simp] theorem one_ptr {a : Option Addr} : one (.pointer a) = true := rfl
@[simp] theorem one_sl {a : Option Addr} {n c : Nat} : one (.slice a n c) = true := rfl
@[simp] theorem heap_drew {w : World} : w.drew.heap = w.heap := rfl
@[simp] theorem size_setBlk {w : World} {b : Nat} {o : Obj} : (setBlk w b o).heap.size = w.heap.size := by simp [setBlk]
theorem heap_setBlk {w : World} {b b' : Nat} {o : Obj} : (setBlk w b o).heap[b']? = if b = b' then (if b < w.heap.size then some o else none) else w.heap[b']? := by
  simp only [setBlk, Array.getElem?_setIfInBounds]
def Live (w : World) (b : Nat) : Prop := b < w.heap.size
theorem live_of {w : World} {b : Nat} {o : Obj} (h : w.heap[b]? = some o) : Live w b := (Array.getElem?_eq_some_iff.1 h).1
theorem heap_self {w : World} {b : Nat} {o : Obj} (h : Live w b) : (setBlk w b o).heap[b]? = some o := by
  unfold Live at h; rw [heap_setBlk, if_pos rfl, if_pos h]
theorem heap_ne {w : World} {b b' : Nat} {o : Obj} (h : ¬ b = b') : (setBlk w b o).heap[b']? = w.heap[b']? := by
  rw [heap_setBlk, if_neg h]
@[simp] theorem live_setBlk {w : World} {b b' : Nat} {o : Obj} : Live (setBlk w b o) b' = Live w b' := by simp [Live]
@[simp] theorem live_drew {w : World} {b : Nat} : Live w.drew b = Live w b := rfl
theorem heap_new {w : World} {o : Obj} : (w.alloc o).heap[w.heap.size]? = some o := by
  show (w.heap.push o)[w.heap.size]? = _
  simp
theorem heap_old {w : World} {b : Nat} {o : Obj} (h : Live w b) : (w.alloc o).heap[b]? = w.heap[b]? := by
  show (w.heap.push o)[b]? = _
  rw [Array.getElem?_push, if_neg (by unfold Live at h; omega)]
@[simp] theorem setBlk_new {w : World} {o o' : Obj} : Q.setBlk (w.alloc o) w.heap.size o' = w.alloc o' := by
  unfold Q.setBlk World.alloc
  simp only [World.mk.injEq, and_true]
  apply Array.ext_getElem?
  intro j
  rw [Array.getElem?_setIfInBounds, Array.getElem?_push, Array.getElem?_push]
  by_cases hj : w.heap.size = j
  · subst hj; simp
  · have : ¬ j = w.heap.size := fun h => hj h.symm
    simp [hj, this]
theorem heap_alloc {w : World} {b' : Nat} {o : Obj} : (w.alloc o).heap[b']? = if b' = w.heap.size then some o else w.heap[b']? := by
  show (w.heap.push o)[b']? = _
  rw [Array.getElem?_push]
@[simp] theorem setBlk2 {w : World} {b : Nat} {o o' : Obj} : setBlk (setBlk w b o) b o' = setBlk w b o' := setBlk_setBlk w b o o'
@[simp] theorem setBlk_drew {w : World} {b : Nat} {o : Obj} : setBlk w.drew b o = (setBlk w b o).drew := rfl
@[simp] theorem alloc_drew' {w : World} {o : Obj} : w.drew.alloc o = (w.alloc o).drew := rfl
theorem lt_of_blk {w : World} {b : Nat} {o : Obj} (h : w.heap[b]? = some o) : b < w.heap.size := (Array.getElem?_eq_some_iff.1 h).1
structure Kp (S : List Nat) (w w' : World) : Prop where
  os : w'.os = w.os
  tape : w'.tape = w.tape
  output : w'.output = w.output
  size : w.heap.size ≤ w'.heap.size
  keep : ∀ b, b < w.heap.size → b ∉ S → w'.heap[b]? = w.heap[b]?
theorem Kp.refl (S : List Nat) (w : World) : Kp S w w := ⟨rfl, rfl, rfl, Nat.le_refl _, fun _ _ _ => rfl⟩
theorem Kp.trans {S S' : List Nat} {w w1 w2 : World} (h : Kp S w w1) (h' : Kp S' w1 w2) (hS : ∀ b, b ∈ S' → b < w.heap.size → b ∈ S) : Kp S w w2 :=
  ⟨h'.os.trans h.os, h'.tape.trans h.tape, h'.output.trans h.output, Nat.le_trans h.size h'.size, fun b hb hn => (h'.keep b (Nat.lt_of_lt_of_le hb h.size) (fun hm => hn (hS b hm hb))).trans (h.keep b hb hn)⟩
theorem Kp.trans' {S : List Nat} {w w1 w2 : World} (h : Kp S w w1) (h' : Kp S w1 w2) : Kp S w w2 := h.trans h' fun _ h _ => h
theorem Kp.mono {S S' : List Nat} {w w' : World} (h : Kp S w w') (hS : ∀ b, b ∈ S → b < w.heap.size → b ∈ S') : Kp S' w w' := (Kp.refl S' w).trans h hS
theorem Kp.drew {S : List Nat} {w w' : World} (h : Kp S w w') : Kp S w w'.drew := ⟨h.os, h.tape, h.output, h.size, h.keep⟩
theorem Kp.alloc {S : List Nat} {w w' : World} (h : Kp S w w') (o : Obj) : Kp S w (w'.alloc o) :=
  ⟨h.os, h.tape, h.output, by simp; have := h.size; omega, fun b hb hn => by
    rw [heap_alloc, if_neg (by have := h.size; omega)]; exact h.keep b hb hn⟩
theorem Kp.setBlk {S : List Nat} {w w' : World} (h : Kp S w w') {b : Nat} (hb : b ∈ S ∨ w.heap.size ≤ b) (o : Obj) : Kp S w (setBlk w' b o) :=
  ⟨h.os, h.tape, h.output, by simpa using h.size, fun b' hb' hn => by
    rw [heap_setBlk, if_neg (by intro hh; subst hh; rcases hb with hb | hb; exact hn hb; omega)]; exact h.keep b' hb' hn⟩
theorem Kp.get {S : List Nat} {w w' : World} (h : Kp S w w') {b : Nat} {o : Obj} (hb : w.heap[b]? = some o) (hn : b ∉ S) : w'.heap[b]? = some o := by
  rw [h.keep b (lt_of_blk hb) hn]; exact hb
theorem w64 {x : Int} (h0 : -9223372036854775808 ≤ x) (h1 : x < 9223372036854775808) : IntKind.i64.wrap x = x := wrap64 x h0 h1
theorem loop_inv {F : (KL) → KL} (I : Nat → KL) (hF : ∀ m N xs w, I m xs w → (∀ m' xs' w', m' < m → I m' xs' w' → N xs' w') → F N xs w)
    {m : Nat} {xs : List Value} {w : World} (h : I m xs w) : ∃ k, loopV F k xs w := by
  have key : ∀ k m, m < k → ∀ xs w, I m xs w → loopV F k xs w := by
    intro k
    induction k with
    | zero => intro m hm; omega
    | succ k ih => intro m hm xs w h; exact hF m _ xs w h fun m' xs' w' hlt h' => ih m' (by omega) xs' w' h'
  exact ⟨m + 1, key (m + 1) m (by omega) xs w h⟩
end Go.Q

set_option linter.unusedVariables false
set_option linter.unusedSimpArgs false
namespace Go.Proofs
open Go Go.Q
open Tryz (prog)
@[simp] theorem Tryz.isBool4 : isBoolT prog 4 = true := by kernel_rfl
@[simp] theorem Tryz.isPtr15 : isPtr prog 15 = true := by kernel_rfl
@[simp] theorem Tryz.isPtr16 : isPtr prog 16 = true := by kernel_rfl
@[simp] theorem Tryz.isPtr17 : isPtr prog 17 = true := by kernel_rfl
@[simp] theorem Tryz.isSl22 : isSl prog 22 = true := by kernel_rfl
@[simp] theorem Tryz.isSl23 : isSl prog 23 = true := by kernel_rfl
@[simp] theorem Tryz.isSl24 : isSl prog 24 = true := by kernel_rfl
@[simp] theorem Tryz.isSl29 : isSl prog 29 = true := by kernel_rfl
@[simp] theorem Tryz.isSl33 : isSl prog 33 = true := by kernel_rfl
@[simp] theorem Tryz.isPtr34 : isPtr prog 34 = true := by kernel_rfl
@[simp] theorem Tryz.isPtr37 : isPtr prog 37 = true := by kernel_rfl
@[simp] theorem Tryz.isSl51 : isSl prog 51 = true := by kernel_rfl
@[simp] theorem Tryz.isSl52 : isSl prog 52 = true := by kernel_rfl
@[simp] theorem Tryz.isPtr56 : isPtr prog 56 = true := by kernel_rfl
@[simp] theorem Tryz.isSl59 : isSl prog 59 = true := by kernel_rfl
@[simp] theorem Tryz.isSl63 : isSl prog 63 = true := by kernel_rfl
@[simp] theorem Tryz.isSl64 : isSl prog 64 = true := by kernel_rfl
@[simp] theorem Tryz.isSl96 : isSl prog 96 = true := by kernel_rfl
@[simp] theorem Tryz.isPtr108 : isPtr prog 108 = true := by kernel_rfl
@[simp] theorem Tryz.isSl133 : isSl prog 133 = true := by kernel_rfl
@[simp] theorem Tryz.isPtr150 : isPtr prog 150 = true := by kernel_rfl
@[simp] theorem Tryz.isPtr167 : isPtr prog 167 = true := by kernel_rfl
@[simp] theorem Tryz.isPtr199 : isPtr prog 199 = true := by kernel_rfl
end Go.Proofs

set_option linter.unusedVariables false
set_option linter.unusedSimpArgs false
namespace Go.Proofs
open Go Go.Q Tryz
set_option maxRecDepth 100000
def Fn1_s0 (R : KW) (x5 : Value) (w : World) : Prop :=
 qG prog (Op.unary .xor x5) w fun t33 =>
 cvI .i64 t33 fun t34 =>
 R t34 w
theorem Fn1_s0_eq (R : KW) : ∀ e w, liK 35 (sbK f106 [1, 1, 1]) (fiK f106 R) e w = Fn1_s0 R (e 5) w := fun e w => by kernel_rfl
def Fn1_s1 (R : KW) (N1 : KL) (x1 x5 x11 x12 : Value) (w : World) : Prop :=
 qG prog (bq .add 3 (.tmp 12) (.const (.int .i64 1)) x12 (.int .i64 1)) w fun t31 =>
 N1 [x1, x5, x11, t31] w
theorem Fn1_s1_eq (R : KW) (N1 : KL) : ∀ e w, liK 35 (sbK f106 [1, 1, 0, 1, 0, 0, 1, 1, 1]) (seqK (fun e w => N1 [e 1, e 5, e 11, e 12] w) (blockK 0 (seqK (fun e w => Fn1_s0 R (e 5) w) (fiK f106 R)))) e w = Fn1_s1 R N1 (e 1) (e 5) (e 11) (e 12) w := fun e w => by kernel_rfl
def Fn1_b2 (R : KW) (N1 : KL) (N2 : KL) (x1 x5 x11 x12 x21 : Value) (w : World) : Prop :=
 qG prog (bq .lss 3 (.tmp 21) (.const (.int .i64 8)) x21 (.int .i64 8)) w fun t22 =>
 bV t22
 (qG prog (bq .shr 181 (.tmp 23) (.const (.int .u64 1)) x5 (.int .u64 1)) w fun t24 =>
 qG prog (bq .and 181 (.tmp 25) (.const (.int .u32 1)) x5 (.int .u32 1)) w fun t26 =>
 qG prog (Op.unary .neg t26) w fun t27 =>
 qG prog (bq .and 181 (.const (.int .u32 3988292384)) (.tmp 27) (.int .u32 3988292384) t27) w fun t28 =>
 qG prog (bq .xor 181 (.tmp 24) (.tmp 28) t24 t28) w fun t29 =>
 qG prog (bq .add 3 (.tmp 21) (.const (.int .i64 1)) x21 (.int .i64 1)) w fun t30 =>
 N2 [x1, t29, x11, x12, t30] w)
 (Fn1_s1 R N1 x1 x5 x11 x12 w)
theorem Fn1_b2_eq (R : KW) (N1 : KL) (N2 : KL) : ∀ e w, liK 35 (sbK f106 [1, 1, 0, 1, 0, 0, 1, 1, 0, 0, 1, 1, 1, 0, 0]) (seqK (fun e w => N2 [e 1, e 5, e 11, e 12, e 21] w) (blockK 2 (blockK 1 (seqK (fun e w => Fn1_s1 R N1 (e 1) (e 5) (e 11) (e 12) w) (seqK (fun e w => N1 [e 1, e 5, e 11, e 12] w) (blockK 0 (seqK (fun e w => Fn1_s0 R (e 5) w) (fiK f106 R)))))))) e w = Fn1_b2 R N1 N2 (e 1) (e 5) (e 11) (e 12) (e 21) w := fun e w => by kernel_rfl
def Fn1_L3F (R : KW) (N1 : KL) (N2 : KL) (xs : List Value) (w : World) : Prop :=
 match xs with
 | [x1, x5, x11, x12, x21] => Fn1_b2 R N1 N2 x1 x5 x11 x12 x21 w
 | _ => False
def Fn1_L3 (R : KW) (N1 : KL) (x1 x5 x11 x12 x21 : Value) (w : World) : Prop :=
 ∃ m, loopV (Fn1_L3F R N1) m [x1, x5, x11, x12, x21] w
theorem Fn1_L3_eq (R : KW) (N1 : KL) : ∀ e w, liK 35 (sbK f106 [1, 1, 0, 1, 0, 0, 1, 1, 0, 0, 1, 1, 1, 0]) (blockK 2 (blockK 1 (seqK (fun e w => Fn1_s1 R N1 (e 1) (e 5) (e 11) (e 12) w) (seqK (fun e w => N1 [e 1, e 5, e 11, e 12] w) (blockK 0 (seqK (fun e w => Fn1_s0 R (e 5) w) (fiK f106 R))))))) e w = Fn1_L3 R N1 (e 1) (e 5) (e 11) (e 12) (e 21) w := loop_seg (F := Fn1_L3F R N1) (sel := fun e => [e 1, e 5, e 11, e 12, e 21]) fun N2 => (Fn1_b2_eq R N1 N2)
def Fn1_s4 (R : KW) (N1 : KL) (x1 x5 x11 x12 : Value) (w : World) : Prop :=
 ixS x1 x12 fun t18 =>
 cvI .u32 t18 fun t19 =>
 qG prog (bq .xor 181 (.tmp 15) (.tmp 19) x5 t19) w fun t20 =>
 Fn1_L3 R N1 x1 t20 x11 x12 (.int .i64 0) w
theorem Fn1_s4_eq (R : KW) (N1 : KL) : ∀ e w, liK 35 (sbK f106 [1, 1, 0, 1, 0, 0, 1, 1, 0, 0]) (blockK 1 (seqK (fun e w => Fn1_s1 R N1 (e 1) (e 5) (e 11) (e 12) w) (seqK (fun e w => N1 [e 1, e 5, e 11, e 12] w) (blockK 0 (seqK (fun e w => Fn1_s0 R (e 5) w) (fiK f106 R)))))) e w = Fn1_s4 R N1 (e 1) (e 5) (e 11) (e 12) w :=
 segs_eq (l := [(sbK f106 [1, 1, 0, 1, 0, 0, 1, 1, 0, 0, 0]), (sbK f106 [1, 1, 0, 1, 0, 0, 1, 1, 0, 0, 1, 0]), (sbK f106 [1, 1, 0, 1, 0, 0, 1, 1, 0, 0, 1, 1, 0])]) (y := (sbK f106 [1, 1, 0, 1, 0, 0, 1, 1, 0, 0, 1, 1, 1])) (Y := (fun e w => Fn1_L3 R N1 (e 1) (e 5) (e 11) (e 12) (e 21) w)) (Fn1_L3_eq R N1) (fun e w => by kernel_rfl)
def Fn1_s5 (R : KW) (N1 : KL) (x1 x5 x11 x12 : Value) (w : World) : Prop :=
 qG prog (bq .lss 3 (.tmp 12) (.tmp 11) x12 x11) w fun t13 =>
 bV t13
 (Fn1_s4 R N1 x1 x5 x11 x12 w)
 (Fn1_s0 R x5 w)
theorem Fn1_s5_eq (R : KW) (N1 : KL) : ∀ e w, liK 35 (sbK f106 [1, 1, 0, 1, 0, 0]) (seqK (fun e w => N1 [e 1, e 5, e 11, e 12] w) (blockK 0 (seqK (fun e w => Fn1_s0 R (e 5) w) (fiK f106 R)))) e w = Fn1_s5 R N1 (e 1) (e 5) (e 11) (e 12) w :=
 segs_eq (l := [(sbK f106 [1, 1, 0, 1, 0, 0, 0]), (sbK f106 [1, 1, 0, 1, 0, 0, 1, 0])]) (y := (sbK f106 [1, 1, 0, 1, 0, 0, 1, 1])) (Y := (fun e w => Fn1_s4 R N1 (e 1) (e 5) (e 11) (e 12) w)) (seq_seg (x := (sbK f106 [1, 1, 0, 1, 0, 0, 1, 1, 0])) (y := (sbK f106 [1, 1, 0, 1, 0, 0, 1, 1, 1])) (Fn1_s1_eq R N1) (Fn1_s4_eq R N1)) (fun e w => by kernel_rfl)
def Fn1_L6F (R : KW) (N1 : KL) (xs : List Value) (w : World) : Prop :=
 match xs with
 | [x1, x5, x11, x12] => Fn1_s5 R N1 x1 x5 x11 x12 w
 | _ => False
def Fn1_L6 (R : KW) (x1 x5 x11 x12 : Value) (w : World) : Prop :=
 ∃ m, loopV (Fn1_L6F R) m [x1, x5, x11, x12] w
theorem Fn1_L6_eq (R : KW) : ∀ e w, liK 35 (sbK f106 [1, 1, 0, 1, 0]) (blockK 0 (seqK (fun e w => Fn1_s0 R (e 5) w) (fiK f106 R))) e w = Fn1_L6 R (e 1) (e 5) (e 11) (e 12) w := loop_seg (F := Fn1_L6F R) (sel := fun e => [e 1, e 5, e 11, e 12]) fun N1 => (Fn1_s5_eq R N1)
def Fn1_s7 (R : KW) (x1 x5 : Value) (w : World) : Prop :=
 lenS x1 fun t11 =>
 Fn1_L6 R x1 x5 t11 (.int .i64 0) w
theorem Fn1_s7_eq (R : KW) : ∀ e w, liK 35 (sbK f106 [1, 1, 0]) (seqK (fun e w => Fn1_s0 R (e 5) w) (fiK f106 R)) e w = Fn1_s7 R (e 1) (e 5) w :=
 segs_eq (l := [(sbK f106 [1, 1, 0, 0])]) (y := (sbK f106 [1, 1, 0, 1])) (Y := (fun e w => Fn1_L6 R (e 1) (e 5) (e 11) (e 12) w)) (Fn1_L6_eq R) (fun e w => by kernel_rfl)
def Fn1_s8 (R : KW) (x0 x1 : Value) (w : World) : Prop :=
 cvI .u32 x0 fun t8 =>
 qG prog (Op.unary .xor t8) w fun t9 =>
 Fn1_s7 R x1 t9 w
theorem Fn1_s8_eq (R : KW) : ∀ e w, liK 35 (bodyOf f106) (fiK f106 R) e w = Fn1_s8 R (e 0) (e 1) w :=
 segs_eq (l := [(sbK f106 [0]), (sbK f106 [1, 0])]) (y := (sbK f106 [1, 1])) (Y := (fun e w => Fn1_s7 R (e 1) (e 5) w)) (seq_seg (x := (sbK f106 [1, 1, 0])) (y := (sbK f106 [1, 1, 1])) (Fn1_s0_eq R) (Fn1_s7_eq R)) (fun e w => by kernel_rfl)
def Fn1 (R : KW) (x0 x1 : Value) (w : World) : Prop := Fn1_s8 R x0 x1 w
theorem Fn1_call {R : KW} {x0 x1 : Value} {w : World} (h : Fn1 R x0 x1 w) : callG prog 106 #[x0, x1] w R :=
 calls_lift_eq mixed func106 (args := [x0, x1]) rfl rfl rfl rfl ((Fn1_s8_eq R) (envOf [x0, x1]) w) (by kernel_rfl) h
def Fn3_s0 (R : KW) (x0 : Value) (w : World) : Prop :=
 callG prog 106 #[(.int .i64 0), x0] w fun t4 w =>
 R t4 w
theorem Fn3_s0_eq (R : KW) : ∀ e w, liK 5 (bodyOf f82) (fiK f82 R) e w = Fn3_s0 R (e 0) w := fun e w => by kernel_rfl
def Fn3 (R : KW) (x0 : Value) (w : World) : Prop := Fn3_s0 R x0 w
theorem Fn3_call {R : KW} {x0 : Value} {w : World} (h : Fn3 R x0 w) : callG prog 82 #[x0] w R :=
 calls_lift_eq mixed func82 (args := [x0]) rfl rfl rfl rfl ((Fn3_s0_eq R) (envOf [x0]) w) (by kernel_rfl) h
end Go.Proofs

set_option linter.unusedVariables false
set_option linter.unusedSimpArgs false
namespace Go.Proofs
open Go Go.Q Tryz
set_option maxRecDepth 100000
def Fn2_s0 (R : KW) (x3 : Value) (w : World) : Prop :=
 slA 4 1 x3 none none fun t16 =>
 cvBS t16 w fun t17 =>
 R t17 w
theorem Fn2_s0_eq (R : KW) : ∀ e w, liK 18 (sbK f80 [1, 1, 1]) (fiK f80 R) e w = Fn2_s0 R (e 3) w := fun e w => by kernel_rfl
def Fn2_b1 (R : KW) (N1 : KL) (x0 x3 x5 : Value) (w : World) : Prop :=
 qG prog (bq .lss 3 (.tmp 5) (.const (.int .i64 4)) x5 (.int .i64 4)) w fun t6 =>
 bV t6
 (qG prog (bq .mul 3 (.const (.int .i64 8)) (.tmp 10) (.int .i64 8) x5) w fun t11 =>
 qG prog (bq .shr 3 (.tmp 9) (.tmp 11) x0 t11) w fun t12 =>
 cvI .u8 t12 fun t13 =>
 iaA 4 1 x3 x5 fun t14 =>
 st1 t14 t13 w fun w =>
 qG prog (bq .add 3 (.tmp 5) (.const (.int .i64 1)) x5 (.int .i64 1)) w fun t15 =>
 N1 [x0, x3, t15] w)
 (Fn2_s0 R x3 w)
theorem Fn2_b1_eq (R : KW) (N1 : KL) : ∀ e w, liK 18 (sbK f80 [1, 1, 0, 1, 0, 0]) (seqK (fun e w => N1 [e 0, e 3, e 5] w) (blockK 0 (seqK (fun e w => Fn2_s0 R (e 3) w) (fiK f80 R)))) e w = Fn2_b1 R N1 (e 0) (e 3) (e 5) w := fun e w => by kernel_rfl
def Fn2_L2F (R : KW) (N1 : KL) (xs : List Value) (w : World) : Prop :=
 match xs with
 | [x0, x3, x5] => Fn2_b1 R N1 x0 x3 x5 w
 | _ => False
def Fn2_L2 (R : KW) (x0 x3 x5 : Value) (w : World) : Prop :=
 ∃ m, loopV (Fn2_L2F R) m [x0, x3, x5] w
theorem Fn2_L2_eq (R : KW) : ∀ e w, liK 18 (sbK f80 [1, 1, 0, 1, 0]) (blockK 0 (seqK (fun e w => Fn2_s0 R (e 3) w) (fiK f80 R))) e w = Fn2_L2 R (e 0) (e 3) (e 5) w := loop_seg (F := Fn2_L2F R) (sel := fun e => [e 0, e 3, e 5]) fun N1 => (Fn2_b1_eq R N1)
def Fn2_s3 (R : KW) (x0 x3 : Value) (w : World) : Prop :=
 Fn2_L2 R x0 x3 (.int .i64 0) w
theorem Fn2_s3_eq (R : KW) : ∀ e w, liK 18 (sbK f80 [1, 1, 0]) (seqK (fun e w => Fn2_s0 R (e 3) w) (fiK f80 R)) e w = Fn2_s3 R (e 0) (e 3) w :=
 segs_eq (l := [(sbK f80 [1, 1, 0, 0])]) (y := (sbK f80 [1, 1, 0, 1])) (Y := (fun e w => Fn2_L2 R (e 0) (e 3) (e 5) w)) (Fn2_L2_eq R) (fun e w => by kernel_rfl)
def Fn2_s4 (R : KW) (x0 : Value) (w : World) : Prop :=
 newG (zc prog 152) 152 w fun t3 w =>
 Fn2_s3 R x0 t3 w
theorem Fn2_s4_eq (R : KW) : ∀ e w, liK 18 (bodyOf f80) (fiK f80 R) e w = Fn2_s4 R (e 0) w :=
 segs_eq (l := [(sbK f80 [0]), (sbK f80 [1, 0])]) (y := (sbK f80 [1, 1])) (Y := (fun e w => Fn2_s3 R (e 0) (e 3) w)) (seq_seg (x := (sbK f80 [1, 1, 0])) (y := (sbK f80 [1, 1, 1])) (Fn2_s0_eq R) (Fn2_s3_eq R)) (fun e w => by kernel_rfl)
def Fn2 (R : KW) (x0 : Value) (w : World) : Prop := Fn2_s4 R x0 w
theorem Fn2_call {R : KW} {x0 : Value} {w : World} (h : Fn2 R x0 w) : callG prog 80 #[x0] w R :=
 calls_lift_eq mixed func80 (args := [x0]) rfl rfl rfl rfl ((Fn2_s4_eq R) (envOf [x0]) w) (by kernel_rfl) h
def Fn4_s0 (R : KW) (x3 : Value) (w : World) : Prop :=
 R x3 w
theorem Fn4_s0_eq (R : KW) : ∀ e w, liK 22 (sbK f36 [1, 1, 1, 1]) (fiK f36 R) e w = Fn4_s0 R (e 3) w := fun e w => by kernel_rfl
def Fn4_b1 (R : KW) (N1 : KL) (x0 x3 x8 : Value) (w : World) : Prop :=
 qG prog (bq .lss 3 (.tmp 8) (.const (.int .i64 4)) x8 (.int .i64 4)) w fun t9 =>
 bV t9
 (ixS x0 x8 fun t14 =>
 cvI .i64 t14 fun t15 =>
 qG prog (bq .mul 3 (.const (.int .i64 8)) (.tmp 16) (.int .i64 8) x8) w fun t17 =>
 qG prog (bq .shl 3 (.tmp 15) (.tmp 17) t15 t17) w fun t18 =>
 qG prog (bq .or 3 (.tmp 11) (.tmp 18) x3 t18) w fun t19 =>
 qG prog (bq .add 3 (.tmp 8) (.const (.int .i64 1)) x8 (.int .i64 1)) w fun t20 =>
 N1 [x0, t19, t20] w)
 (Fn4_s0 R x3 w)
theorem Fn4_b1_eq (R : KW) (N1 : KL) : ∀ e w, liK 22 (sbK f36 [1, 1, 1, 0, 1, 0, 0]) (seqK (fun e w => N1 [e 0, e 3, e 8] w) (blockK 0 (seqK (fun e w => Fn4_s0 R (e 3) w) (fiK f36 R)))) e w = Fn4_b1 R N1 (e 0) (e 3) (e 8) w := fun e w => by kernel_rfl
def Fn4_L2F (R : KW) (N1 : KL) (xs : List Value) (w : World) : Prop :=
 match xs with
 | [x0, x3, x8] => Fn4_b1 R N1 x0 x3 x8 w
 | _ => False
def Fn4_L2 (R : KW) (x0 x3 x8 : Value) (w : World) : Prop :=
 ∃ m, loopV (Fn4_L2F R) m [x0, x3, x8] w
theorem Fn4_L2_eq (R : KW) : ∀ e w, liK 22 (sbK f36 [1, 1, 1, 0, 1, 0]) (blockK 0 (seqK (fun e w => Fn4_s0 R (e 3) w) (fiK f36 R))) e w = Fn4_L2 R (e 0) (e 3) (e 8) w := loop_seg (F := Fn4_L2F R) (sel := fun e => [e 0, e 3, e 8]) fun N1 => (Fn4_b1_eq R N1)
def Fn4_s3 (R : KW) (x0 x3 : Value) (w : World) : Prop :=
 Fn4_L2 R x0 x3 (.int .i64 0) w
theorem Fn4_s3_eq (R : KW) : ∀ e w, liK 22 (sbK f36 [1, 1, 1, 0]) (seqK (fun e w => Fn4_s0 R (e 3) w) (fiK f36 R)) e w = Fn4_s3 R (e 0) (e 3) w :=
 segs_eq (l := [(sbK f36 [1, 1, 1, 0, 0])]) (y := (sbK f36 [1, 1, 1, 0, 1])) (Y := (fun e w => Fn4_L2 R (e 0) (e 3) (e 8) w)) (Fn4_L2_eq R) (fun e w => by kernel_rfl)
def Fn4_s4 (R : KW) (x0 : Value) (w : World) : Prop :=
 lenS x0 fun t6 =>
 qG prog (bq .lss 3 (.tmp 6) (.const (.int .i64 4)) t6 (.int .i64 4)) w fun t7 =>
 bV t7
 (R (.int .i64 (-1)) w)
 (Fn4_s3 R x0 (.int .i64 0) w)
theorem Fn4_s4_eq (R : KW) : ∀ e w, liK 22 (bodyOf f36) (fiK f36 R) e w = Fn4_s4 R (e 0) w :=
 segs_eq (l := [(sbK f36 [0]), (sbK f36 [1, 0]), (sbK f36 [1, 1, 0])]) (y := (sbK f36 [1, 1, 1])) (Y := (fun e w => Fn4_s3 R (e 0) (e 3) w)) (seq_seg (x := (sbK f36 [1, 1, 1, 0])) (y := (sbK f36 [1, 1, 1, 1])) (Fn4_s0_eq R) (Fn4_s3_eq R)) (fun e w => by kernel_rfl)
def Fn4 (R : KW) (x0 : Value) (w : World) : Prop := Fn4_s4 R x0 w
theorem Fn4_call {R : KW} {x0 : Value} {w : World} (h : Fn4 R x0 w) : callG prog 36 #[x0] w R :=
 calls_lift_eq mixed func36 (args := [x0]) rfl rfl rfl rfl ((Fn4_s4_eq R) (envOf [x0]) w) (by kernel_rfl) h
end Go.Proofs

set_option linter.unusedVariables false
set_option linter.unusedSimpArgs false
namespace Go.Proofs
open Go Go.Q Tryz
set_option maxRecDepth 100000
def Fn14_s0 (R : KW) (x0 : Value) (w : World) : Prop :=
 qG prog (bq .lss 3 (.tmp 4) (.const (.int .i64 1)) x0 (.int .i64 1)) w fun t5 =>
 bV t5
 (R (.tuple #[(.pointer none), (.int .i64 1)]) w)
 (qG prog (bq .gtr 3 (.tmp 7) (.const (.int .i64 4096)) x0 (.int .i64 4096)) w fun t8 =>
 bV t8
 (R (.tuple #[(.pointer none), (.int .i64 1)]) w)
 ((mkG 93 32 32 (zc prog 93) x0 x0 (World.drew w) fun t11 w =>
 mkG 93 32 32 (zc prog 93) x0 x0 w fun t13 w =>
 bld [(0, 1), (1, 1), (2, 1), (3, 1), (4, 1)] (zc prog 54) #[(0, t11), (1, t13), (3, (.int .i64 (-1)))] fun t14 =>
 newG (Value.cells t14) 54 w fun t15 w =>
 R (.tuple #[t15, (.int .i64 0)]) w) ∧
 (mkG 93 32 32 (zc prog 93) x0 x0 (World.drew w) fun t13_1 w =>
 mkG 93 32 32 (zc prog 93) x0 x0 w fun t11_1 w =>
 bld [(0, 1), (1, 1), (2, 1), (3, 1), (4, 1)] (zc prog 54) #[(0, t11_1), (1, t13_1), (3, (.int .i64 (-1)))] fun t14_1 =>
 newG (Value.cells t14_1) 54 w fun t15_1 w =>
 R (.tuple #[t15_1, (.int .i64 0)]) w)))
theorem Fn14_s0_eq (R : KW) : ∀ e w, liK 16 (bodyOf f10) (fiK f10 R) e w = Fn14_s0 R (e 0) w := fun e w => by kernel_rfl
def Fn14 (R : KW) (x0 : Value) (w : World) : Prop := Fn14_s0 R x0 w
theorem Fn14_call {R : KW} {x0 : Value} {w : World} (h : Fn14 R x0 w) : callG prog 10 #[x0] w R :=
 calls_lift_eq mixed func10 (args := [x0]) rfl rfl rfl rfl ((Fn14_s0_eq R) (envOf [x0]) w) (by kernel_rfl) h
def Fn10_s0 (R : KW) (x0 x1 x2 : Value) (w : World) : Prop :=
 callG prog 117 #[x0] w fun t17 w =>
 qG prog (Op.unary .not t17) w fun t18 =>
 bV t18
 (R (.int .i64 30) w)
 (nk x0 fun t20 =>
 fa 1 t20 fun t21 =>
 ld1 t21 w fun t22 =>
 ia 32 t22 x1 fun t24 =>
 slA 32 1 t24 none none fun t25 =>
 cp 1 t25 x2 w fun t27 w =>
 nk x0 fun t30 =>
 fa 2 t30 fun t31 =>
 ld1 t31 (World.drew w) fun t32 =>
 nk x0 fun t35 =>
 fa 1 t35 fun t36 =>
 ld1 t36 (World.drew w) fun t37 =>
 ia 32 t37 x1 fun t39 =>
 ldn 32 t39 (World.drew w) fun t40 =>
 bld [(0, 1), (1, 32)] (zc prog 95) #[(0, x1), (1, t40)] fun t41 =>
 bsl 95 33 1 (zc prog 95) #[(0, t41)] (World.drew w) fun t42 w =>
 ld1 t31 w (fun u => u = t32) ∧
 app 95 33 40 (zc prog 95) t32 t42 w fun t43 w =>
 nk x0 fun t44 =>
 fa 2 t44 fun t45 =>
 st1 t45 t43 w fun w =>
 R (.int .i64 0) w)
theorem Fn10_s0_eq (R : KW) : ∀ e w, liK 46 (sbK f90 [1, 1]) (fiK f90 R) e w = Fn10_s0 R (e 0) (e 1) (e 2) w := fun e w => by kernel_rfl
def Fn10_s1 (R : KW) (x0 x1 x2 : Value) (w : World) : Prop :=
 callG prog 79 #[x0, x1] w fun t9 w =>
 qG prog (Op.unary .not t9) w fun t10 =>
 bV t10
 (R (.int .i64 1) w)
 (lenS x2 fun t13 =>
 qG prog (bq .neq 3 (.tmp 13) (.const (.int .i64 32)) t13 (.int .i64 32)) w fun t14 =>
 bV t14
 (R (.int .i64 1) w)
 (Fn10_s0 R x0 x1 x2 w))
theorem Fn10_s1_eq (R : KW) : ∀ e w, liK 46 (bodyOf f90) (fiK f90 R) e w = Fn10_s1 R (e 0) (e 1) (e 2) w :=
 segs_eq (l := [(sbK f90 [0]), (sbK f90 [1, 0])]) (y := (sbK f90 [1, 1])) (Y := (fun e w => Fn10_s0 R (e 0) (e 1) (e 2) w)) (Fn10_s0_eq R) (fun e w => by kernel_rfl)
def Fn10 (R : KW) (x0 x1 x2 : Value) (w : World) : Prop := Fn10_s1 R x0 x1 x2 w
theorem Fn10_call {R : KW} {x0 x1 x2 : Value} {w : World} (h : Fn10 R x0 x1 x2 w) : callG prog 90 #[x0, x1, x2] w R :=
 calls_lift_eq mixed func90 (args := [x0, x1, x2]) rfl rfl rfl rfl ((Fn10_s1_eq R) (envOf [x0, x1, x2]) w) (by kernel_rfl) h
def Fn12_s0 (R : KW) (x0 x1 : Value) (w : World) : Prop :=
 qG prog (bq .geq 3 (.tmp 5) (.const (.int .i64 0)) x1 (.int .i64 0)) w fun t6 =>
 bV t6
 (callG prog 33 #[x0] w fun t10 w =>
 qG prog (bq .lss 3 (.tmp 8) (.tmp 10) x1 t10) w fun t11 =>
 R t11 w)
 (R (.bool false) w)
theorem Fn12_s0_eq (R : KW) : ∀ e w, liK 13 (bodyOf f79) (fiK f79 R) e w = Fn12_s0 R (e 0) (e 1) w := fun e w => by kernel_rfl
def Fn12 (R : KW) (x0 x1 : Value) (w : World) : Prop := Fn12_s0 R x0 x1 w
theorem Fn12_call {R : KW} {x0 x1 : Value} {w : World} (h : Fn12 R x0 x1 w) : callG prog 79 #[x0, x1] w R :=
 calls_lift_eq mixed func79 (args := [x0, x1]) rfl rfl rfl rfl ((Fn12_s0_eq R) (envOf [x0, x1]) w) (by kernel_rfl) h
def Fn9_s0 (R : KW) (x0 : Value) (w : World) : Prop :=
 qG prog (bq .eql 34 (.tmp 3) (.const (.pointer none)) x0 (.pointer none)) w fun t4 =>
 bV t4
 (R (.int .i64 0) w)
 (nk x0 fun t6 =>
 fa 1 t6 fun t7 =>
 ld1 t7 w fun t8 =>
 lenL t8 fun t9 =>
 R t9 w)
theorem Fn9_s0_eq (R : KW) : ∀ e w, liK 10 (bodyOf f33) (fiK f33 R) e w = Fn9_s0 R (e 0) w := fun e w => by kernel_rfl
def Fn9 (R : KW) (x0 : Value) (w : World) : Prop := Fn9_s0 R x0 w
theorem Fn9_call {R : KW} {x0 : Value} {w : World} (h : Fn9 R x0 w) : callG prog 33 #[x0] w R :=
 calls_lift_eq mixed func33 (args := [x0]) rfl rfl rfl rfl ((Fn9_s0_eq R) (envOf [x0]) w) (by kernel_rfl) h
def Fn11_s0 (R : KW) (x0 : Value) (w : World) : Prop :=
 nk x0 fun t25 =>
 fa 3 t25 fun t26 =>
 ld1 t26 w fun t27 =>
 qG prog (bq .gtr 3 (.tmp 27) (.const (.int .i64 0)) t27 (.int .i64 0)) w fun t28 =>
 bV t28
 (nk x0 fun t30 =>
 fa 3 t30 fun t31 =>
 ld1 t31 w fun t32 =>
 qG prog (bq .sub 3 (.tmp 32) (.const (.int .i64 1)) t32 (.int .i64 1)) w fun t33 =>
 nk x0 fun t34 =>
 fa 3 t34 fun t35 =>
 st1 t35 t33 w fun w =>
 R (.bool true) w)
 (R (.bool true) w)
theorem Fn11_s0_eq (R : KW) : ∀ e w, liK 36 (sbK f117 [1, 1]) (fiK f117 R) e w = Fn11_s0 R (e 0) w := fun e w => by kernel_rfl
def Fn11_s1 (R : KW) (x0 : Value) (w : World) : Prop :=
 nk x0 fun t18 =>
 fa 4 t18 fun t19 =>
 ld1 t19 w fun t20 =>
 bV t20
 (nk x0 fun t22 =>
 fa 3 t22 fun t23 =>
 st1 t23 (.int .i64 (-1)) w fun w =>
 R (.bool false) w)
 (Fn11_s0 R x0 w)
theorem Fn11_s1_eq (R : KW) : ∀ e w, liK 36 (sbK f117 [1, 0, 1]) (seqK (fun e w => Fn11_s0 R (e 0) w) (fiK f117 R)) e w = Fn11_s1 R (e 0) w := fun e w => by kernel_rfl
def Fn11_s2 (R : KW) (x0 : Value) (w : World) : Prop :=
 nk x0 fun t5 =>
 fa 4 t5 fun t6 =>
 ld1 t6 w fun t7 =>
 bV t7
 (nk x0 fun t15 =>
 fa 4 t15 fun t16 =>
 st1 t16 (.bool true) w fun w =>
 Fn11_s1 R x0 w)
 (nk x0 fun t10 =>
 fa 3 t10 fun t11 =>
 ld1 t11 w fun t12 =>
 qG prog (bq .eql 3 (.tmp 12) (.const (.int .i64 0)) t12 (.int .i64 0)) w fun t13 =>
 nk x0 fun t15_1 =>
 fa 4 t15_1 fun t16_1 =>
 st1 t16_1 t13 w fun w =>
 Fn11_s1 R x0 w)
theorem Fn11_s2_eq (R : KW) : ∀ e w, liK 36 (sbK f117 [1, 0]) (seqK (fun e w => Fn11_s0 R (e 0) w) (fiK f117 R)) e w = Fn11_s2 R (e 0) w :=
 segs_eq (l := [(sbK f117 [1, 0, 0])]) (y := (sbK f117 [1, 0, 1])) (Y := (fun e w => Fn11_s1 R (e 0) w)) (Fn11_s1_eq R) (fun e w => by kernel_rfl)
def Fn11_s3 (R : KW) (x0 : Value) (w : World) : Prop :=
 Fn11_s2 R x0 w
theorem Fn11_s3_eq (R : KW) : ∀ e w, liK 36 (bodyOf f117) (fiK f117 R) e w = Fn11_s3 R (e 0) w :=
 segs_eq (l := [(sbK f117 [0])]) (y := (sbK f117 [1])) (Y := (fun e w => Fn11_s2 R (e 0) w)) (seq_seg (x := (sbK f117 [1, 0])) (y := (sbK f117 [1, 1])) (Fn11_s0_eq R) (Fn11_s2_eq R)) (fun e w => by kernel_rfl)
def Fn11 (R : KW) (x0 : Value) (w : World) : Prop := Fn11_s3 R x0 w
theorem Fn11_call {R : KW} {x0 : Value} {w : World} (h : Fn11 R x0 w) : callG prog 117 #[x0] w R :=
 calls_lift_eq mixed func117 (args := [x0]) rfl rfl rfl rfl ((Fn11_s3_eq R) (envOf [x0]) w) (by kernel_rfl) h
def Fn6_s0 (R : KW) (x0 : Value) (w : World) : Prop :=
 callG prog 50 #[x0] w fun t33 w =>
 R (.int .i64 0) w
theorem Fn6_s0_eq (R : KW) : ∀ e w, liK 34 (sbK f91 [1, 1, 1]) (fiK f91 R) e w = Fn6_s0 R (e 0) w := fun e w => by kernel_rfl
def Fn6_b1 (R : KW) (N1 : KL) (x0 x16 x17 x18 : Value) (w : World) : Prop :=
 qG prog (bq .lss 3 (.tmp 18) (.tmp 17) x18 x17) w fun t19 =>
 bV t19
 (ia 33 x16 x18 fun t20 =>
 ldn 33 t20 w fun t21 =>
 newG (zc prog 95) 95 w fun t4 w =>
 stn 33 t4 t21 w fun w =>
 nk x0 fun t23 =>
 fa 0 t23 fun t24 =>
 ld1 t24 (World.drew w) fun t25 =>
 fa 0 t4 fun t26 =>
 ld1 t26 (World.drew w) fun t27 =>
 fa 1 t4 fun t28 =>
 ldn 32 t28 (World.drew w) fun t29 =>
 ia 32 t25 t27 fun t30 =>
 stn 32 t30 t29 (World.drew w) fun w =>
 qG prog (bq .add 3 (.tmp 18) (.const (.int .i64 1)) x18 (.int .i64 1)) w fun t31 =>
 N1 [x0, x16, x17, t31] w)
 (Fn6_s0 R x0 w)
theorem Fn6_b1_eq (R : KW) (N1 : KL) : ∀ e w, liK 34 (sbK f91 [1, 1, 0, 1, 0, 0]) (seqK (fun e w => N1 [e 0, e 16, e 17, e 18] w) (blockK 1 (seqK (fun e w => Fn6_s0 R (e 0) w) (fiK f91 R)))) e w = Fn6_b1 R N1 (e 0) (e 16) (e 17) (e 18) w := fun e w => by kernel_rfl
def Fn6_L2F (R : KW) (N1 : KL) (xs : List Value) (w : World) : Prop :=
 match xs with
 | [x0, x16, x17, x18] => Fn6_b1 R N1 x0 x16 x17 x18 w
 | _ => False
def Fn6_L2 (R : KW) (x0 x16 x17 x18 : Value) (w : World) : Prop :=
 ∃ m, loopV (Fn6_L2F R) m [x0, x16, x17, x18] w
theorem Fn6_L2_eq (R : KW) : ∀ e w, liK 34 (sbK f91 [1, 1, 0, 1, 0]) (blockK 1 (seqK (fun e w => Fn6_s0 R (e 0) w) (fiK f91 R))) e w = Fn6_L2 R (e 0) (e 16) (e 17) (e 18) w := loop_seg (F := Fn6_L2F R) (sel := fun e => [e 0, e 16, e 17, e 18]) fun N1 => (Fn6_b1_eq R N1)
def Fn6_s3 (R : KW) (x0 : Value) (w : World) : Prop :=
 nk x0 fun t14 =>
 fa 2 t14 fun t15 =>
 ld1 t15 w fun t16 =>
 lenL t16 fun t17 =>
 Fn6_L2 R x0 t16 t17 (.int .i64 0) w
theorem Fn6_s3_eq (R : KW) : ∀ e w, liK 34 (sbK f91 [1, 1, 0]) (seqK (fun e w => Fn6_s0 R (e 0) w) (fiK f91 R)) e w = Fn6_s3 R (e 0) w :=
 segs_eq (l := [(sbK f91 [1, 1, 0, 0])]) (y := (sbK f91 [1, 1, 0, 1])) (Y := (fun e w => Fn6_L2 R (e 0) (e 16) (e 17) (e 18) w)) (Fn6_L2_eq R) (fun e w => by kernel_rfl)
def Fn6_s4 (R : KW) (x0 : Value) (w : World) : Prop :=
 callG prog 33 #[x0] w fun t7 w =>
 qG prog (bq .eql 3 (.tmp 7) (.const (.int .i64 0)) t7 (.int .i64 0)) w fun t8 =>
 bV t8
 (R (.int .i64 1) w)
 (callG prog 117 #[x0] w fun t11 w =>
 qG prog (Op.unary .not t11) w fun t12 =>
 bV t12
 (R (.int .i64 30) w)
 (Fn6_s3 R x0 w))
theorem Fn6_s4_eq (R : KW) : ∀ e w, liK 34 (bodyOf f91) (fiK f91 R) e w = Fn6_s4 R (e 0) w :=
 segs_eq (l := [(sbK f91 [0]), (sbK f91 [1, 0])]) (y := (sbK f91 [1, 1])) (Y := (fun e w => Fn6_s3 R (e 0) w)) (seq_seg (x := (sbK f91 [1, 1, 0])) (y := (sbK f91 [1, 1, 1])) (Fn6_s0_eq R) (Fn6_s3_eq R)) (fun e w => by kernel_rfl)
def Fn6 (R : KW) (x0 : Value) (w : World) : Prop := Fn6_s4 R x0 w
theorem Fn6_call {R : KW} {x0 : Value} {w : World} (h : Fn6 R x0 w) : callG prog 91 #[x0] w R :=
 calls_lift_eq mixed func91 (args := [x0]) rfl rfl rfl rfl ((Fn6_s4_eq R) (envOf [x0]) w) (by kernel_rfl) h
def Fn13_s0 (R : KW) (x0 : Value) (w : World) : Prop :=
 nk x0 fun t3 =>
 fa 2 t3 fun t4 =>
 ld1 t4 w fun t5 =>
 clr 33 (zc prog 95) t5 w fun _ w =>
 nk x0 fun t8 =>
 fa 2 t8 fun t9 =>
 ld1 t9 w fun t10 =>
 slL 33 t10 none (some (.int .i64 0)) fun t11 =>
 nk x0 fun t12 =>
 fa 2 t12 fun t13 =>
 st1 t13 t11 w fun w =>
 R (.tuple #[]) w
theorem Fn13_s0_eq (R : KW) : ∀ e w, liK 14 (bodyOf f50) (fiK f50 R) e w = Fn13_s0 R (e 0) w := fun e w => by kernel_rfl
def Fn13 (R : KW) (x0 : Value) (w : World) : Prop := Fn13_s0 R x0 w
theorem Fn13_call {R : KW} {x0 : Value} {w : World} (h : Fn13 R x0 w) : callG prog 50 #[x0] w R :=
 calls_lift_eq mixed func50 (args := [x0]) rfl rfl rfl rfl ((Fn13_s0_eq R) (envOf [x0]) w) (by kernel_rfl) h
def Fn5_s0 (R : KW) (x0 : Value) (w : World) : Prop :=
 nk x0 fun t45 =>
 fa 1 t45 fun t46 =>
 ld1 t46 (World.drew w) fun t47 =>
 nk x0 fun t49 =>
 fa 0 t49 fun t50 =>
 ld1 t50 (World.drew w) fun t51 =>
 cp 32 t47 t51 (World.drew w) fun t52 w =>
 callG prog 50 #[x0] w fun t54 w =>
 nk x0 fun t57 =>
 fa 4 t57 fun t58 =>
 st1 t58 (.bool false) w fun w =>
 nk x0 fun t59 =>
 fa 3 t59 fun t60 =>
 st1 t60 (.int .i64 (-1)) w fun w =>
 R (.int .i64 0) w
theorem Fn5_s0_eq (R : KW) : ∀ e w, liK 61 (sbK f21 [1, 1, 1]) (fiK f21 R) e w = Fn5_s0 R (e 0) w := fun e w => by kernel_rfl
def Fn5_b1 (R : KW) (N1 : KL) (x0 x1 x14 x15 x16 : Value) (w : World) : Prop :=
 qG prog (bq .lss 3 (.tmp 16) (.tmp 15) x16 x15) w fun t17 =>
 bV t17
 (ia 33 x14 x16 fun t19 =>
 ldn 33 t19 w fun t20 =>
 newG (zc prog 95) 95 w fun t6 w =>
 stn 33 t6 t20 w fun w =>
 lenL x1 fun t23 =>
 qG prog (bq .lss 3 (.tmp 21) (.tmp 23) x16 t23) w fun t24 =>
 bV t24
 (ia 1 x1 x16 fun t27 =>
 ld1 t27 w fun t28 =>
 qG prog (Builtin.min_ #[3, 3] 3 #[t28, (.int .i64 32)]) w fun t29 =>
 qG prog (Builtin.max_ #[3, 3] 3 #[(.int .i64 0), t29]) w fun t30 =>
 nk x0 fun t32 =>
 fa 0 t32 fun t33 =>
 ld1 t33 (World.drew w) fun t34 =>
 fa 0 t6 fun t35 =>
 ld1 t35 (World.drew w) fun t36 =>
 ia 32 t34 t36 fun t37 =>
 slA 32 1 t37 none (some t30) fun t39 =>
 fa 1 t6 fun t40 =>
 slA 32 1 t40 none none fun t41 =>
 cp 1 t39 t41 (World.drew w) fun t42 w =>
 qG prog (bq .add 3 (.tmp 16) (.const (.int .i64 1)) x16 (.int .i64 1)) w fun t43 =>
 N1 [x0, x1, x14, x15, t43] w)
 (qG prog (bq .add 3 (.tmp 16) (.const (.int .i64 1)) x16 (.int .i64 1)) w fun t43_1 =>
 N1 [x0, x1, x14, x15, t43_1] w))
 (Fn5_s0 R x0 w)
theorem Fn5_b1_eq (R : KW) (N1 : KL) : ∀ e w, liK 61 (sbK f21 [1, 1, 0, 1, 0, 0]) (seqK (fun e w => N1 [e 0, e 1, e 14, e 15, e 16] w) (blockK 0 (seqK (fun e w => Fn5_s0 R (e 0) w) (fiK f21 R)))) e w = Fn5_b1 R N1 (e 0) (e 1) (e 14) (e 15) (e 16) w := fun e w => by kernel_rfl
def Fn5_L2F (R : KW) (N1 : KL) (xs : List Value) (w : World) : Prop :=
 match xs with
 | [x0, x1, x14, x15, x16] => Fn5_b1 R N1 x0 x1 x14 x15 x16 w
 | _ => False
def Fn5_L2 (R : KW) (x0 x1 x14 x15 x16 : Value) (w : World) : Prop :=
 ∃ m, loopV (Fn5_L2F R) m [x0, x1, x14, x15, x16] w
theorem Fn5_L2_eq (R : KW) : ∀ e w, liK 61 (sbK f21 [1, 1, 0, 1, 0]) (blockK 0 (seqK (fun e w => Fn5_s0 R (e 0) w) (fiK f21 R))) e w = Fn5_L2 R (e 0) (e 1) (e 14) (e 15) (e 16) w := loop_seg (F := Fn5_L2F R) (sel := fun e => [e 0, e 1, e 14, e 15, e 16]) fun N1 => (Fn5_b1_eq R N1)
def Fn5_s3 (R : KW) (x0 x1 : Value) (w : World) : Prop :=
 nk x0 fun t12 =>
 fa 2 t12 fun t13 =>
 ld1 t13 w fun t14 =>
 lenL t14 fun t15 =>
 Fn5_L2 R x0 x1 t14 t15 (.int .i64 0) w
theorem Fn5_s3_eq (R : KW) : ∀ e w, liK 61 (sbK f21 [1, 1, 0]) (seqK (fun e w => Fn5_s0 R (e 0) w) (fiK f21 R)) e w = Fn5_s3 R (e 0) (e 1) w :=
 segs_eq (l := [(sbK f21 [1, 1, 0, 0])]) (y := (sbK f21 [1, 1, 0, 1])) (Y := (fun e w => Fn5_L2 R (e 0) (e 1) (e 14) (e 15) (e 16) w)) (Fn5_L2_eq R) (fun e w => by kernel_rfl)
def Fn5_s4 (R : KW) (x0 x1 : Value) (w : World) : Prop :=
 callG prog 33 #[x0] w fun t9 w =>
 qG prog (bq .eql 3 (.tmp 9) (.const (.int .i64 0)) t9 (.int .i64 0)) w fun t10 =>
 bV t10
 (R (.int .i64 1) w)
 (Fn5_s3 R x0 x1 w)
theorem Fn5_s4_eq (R : KW) : ∀ e w, liK 61 (bodyOf f21) (fiK f21 R) e w = Fn5_s4 R (e 0) (e 1) w :=
 segs_eq (l := [(sbK f21 [0]), (sbK f21 [1, 0])]) (y := (sbK f21 [1, 1])) (Y := (fun e w => Fn5_s3 R (e 0) (e 1) w)) (seq_seg (x := (sbK f21 [1, 1, 0])) (y := (sbK f21 [1, 1, 1])) (Fn5_s0_eq R) (Fn5_s3_eq R)) (fun e w => by kernel_rfl)
def Fn5 (R : KW) (x0 x1 : Value) (w : World) : Prop := Fn5_s4 R x0 x1 w
theorem Fn5_call {R : KW} {x0 x1 : Value} {w : World} (h : Fn5 R x0 x1 w) : callG prog 21 #[x0, x1] w R :=
 calls_lift_eq mixed func21 (args := [x0, x1]) rfl rfl rfl rfl ((Fn5_s4_eq R) (envOf [x0, x1]) w) (by kernel_rfl) h
def Fn8_s0 (R : KW) (x0 x1 : Value) (w : World) : Prop :=
 callG prog 79 #[x0, x1] w fun t9 w =>
 qG prog (Op.unary .not t9) w fun t10 =>
 bV t10
 (R (.tuple #[(.string ⟨#[]⟩), (.int .i64 1)]) w)
 (nk x0 fun t13 =>
 fa 4 t13 fun t14 =>
 ld1 t14 w fun t15 =>
 bV t15
 (R (.tuple #[(.string ⟨#[]⟩), (.int .i64 30)]) w)
 (nk x0 fun t17 =>
 fa 1 t17 fun t18 =>
 ld1 t18 w fun t19 =>
 ia 32 t19 x1 fun t21 =>
 slA 32 1 t21 none none fun t22 =>
 cvBS t22 w fun t23 =>
 R (.tuple #[t23, (.int .i64 0)]) w))
theorem Fn8_s0_eq (R : KW) : ∀ e w, liK 24 (bodyOf f35) (fiK f35 R) e w = Fn8_s0 R (e 0) (e 1) w := fun e w => by kernel_rfl
def Fn8 (R : KW) (x0 x1 : Value) (w : World) : Prop := Fn8_s0 R x0 x1 w
theorem Fn8_call {R : KW} {x0 x1 : Value} {w : World} (h : Fn8 R x0 x1 w) : callG prog 35 #[x0, x1] w R :=
 calls_lift_eq mixed func35 (args := [x0, x1]) rfl rfl rfl rfl ((Fn8_s0_eq R) (envOf [x0, x1]) w) (by kernel_rfl) h
def Fn7_s0 (R : KW) (x0 : Value) (w : World) : Prop :=
 qG prog (bq .neq 34 (.tmp 3) (.const (.pointer none)) x0 (.pointer none)) w fun t4 =>
 bV t4
 (nk x0 fun t7 =>
 fa 4 t7 fun t8 =>
 ld1 t8 w fun t9 =>
 R t9 w)
 (R (.bool false) w)
theorem Fn7_s0_eq (R : KW) : ∀ e w, liK 11 (bodyOf f34) (fiK f34 R) e w = Fn7_s0 R (e 0) w := fun e w => by kernel_rfl
def Fn7 (R : KW) (x0 : Value) (w : World) : Prop := Fn7_s0 R x0 w
theorem Fn7_call {R : KW} {x0 : Value} {w : World} (h : Fn7 R x0 w) : callG prog 34 #[x0] w R :=
 calls_lift_eq mixed func34 (args := [x0]) rfl rfl rfl rfl ((Fn7_s0_eq R) (envOf [x0]) w) (by kernel_rfl) h
end Go.Proofs

set_option linter.unusedVariables false
set_option linter.unusedSimpArgs false
namespace Go.Proofs
open Go Go.Q Tryz
set_option maxRecDepth 100000
def Fn131_s0 (R : KW) (x0 : Value) (w : World) : Prop :=
 qG prog (bq .geq 3 (.tmp 3) (.const (.int .i64 1)) x0 (.int .i64 1)) w fun t4 =>
 bV t4
 (qG prog (bq .leq 3 (.tmp 6) (.const (.int .i64 2147483647)) x0 (.int .i64 2147483647)) w fun t7 =>
 R t7 w)
 (R (.bool false) w)
theorem Fn131_s0_eq (R : KW) : ∀ e w, liK 9 (bodyOf f107) (fiK f107 R) e w = Fn131_s0 R (e 0) w := fun e w => by kernel_rfl
def Fn131 (R : KW) (x0 : Value) (w : World) : Prop := Fn131_s0 R x0 w
theorem Fn131_call {R : KW} {x0 : Value} {w : World} (h : Fn131 R x0 w) : callG prog 107 #[x0] w R :=
 calls_lift_eq mixed func107 (args := [x0]) rfl rfl rfl rfl ((Fn131_s0_eq R) (envOf [x0]) w) (by kernel_rfl) h
def Fn120_s0 (R : KW) (x0 x1 : Value) (w : World) : Prop :=
 callG prog 80 #[x0] w fun t20 w =>
 lenS x1 fun t22 =>
 callG prog 80 #[t22] w fun t23 w =>
 slS t23 none (some (.int .i64 2)) fun t24 =>
 qG prog (bq .add 9 (.tmp 20) (.tmp 24) t20 t24) w fun t25 =>
 callG prog 82 #[t25] w fun t28 w =>
 callG prog 106 #[t28, x1] w fun t30 w =>
 callG prog 80 #[t30] w fun t31 w =>
 qG prog (bq .add 9 (.tmp 26) (.tmp 31) t25 t31) w fun t32 =>
 qG prog (bq .add 9 (.tmp 32) (.tmp 33) t32 x1) w fun t34 =>
 R (.tuple #[t34, (.int .i64 0)]) w
theorem Fn120_s0_eq (R : KW) : ∀ e w, liK 35 (sbK f89 [1, 1]) (fiK f89 R) e w = Fn120_s0 R (e 0) (e 1) w := fun e w => by kernel_rfl
def Fn120_s1 (R : KW) (x0 x1 : Value) (w : World) : Prop :=
 callG prog 107 #[x0] w fun t8 w =>
 qG prog (Op.unary .not t8) w fun t9 =>
 bV t9
 (R (.tuple #[(.string ⟨#[]⟩), (.int .i64 1)]) w)
 (qG prog (bq .eql 9 (.tmp 11) (.const (.string ⟨#[]⟩)) x1 (.string ⟨#[]⟩)) w fun t12 =>
 bV t12
 (R (.tuple #[(.string ⟨#[]⟩), (.int .i64 1)]) w)
 (lenS x1 fun t16 =>
 qG prog (bq .gtr 3 (.tmp 16) (.const (.int .i64 1024)) t16 (.int .i64 1024)) w fun t17 =>
 bV t17
 (R (.tuple #[(.string ⟨#[]⟩), (.int .i64 1)]) w)
 (Fn120_s0 R x0 x1 w)))
theorem Fn120_s1_eq (R : KW) : ∀ e w, liK 35 (bodyOf f89) (fiK f89 R) e w = Fn120_s1 R (e 0) (e 1) w :=
 segs_eq (l := [(sbK f89 [0]), (sbK f89 [1, 0])]) (y := (sbK f89 [1, 1])) (Y := (fun e w => Fn120_s0 R (e 0) (e 1) w)) (Fn120_s0_eq R) (fun e w => by kernel_rfl)
def Fn120 (R : KW) (x0 x1 : Value) (w : World) : Prop := Fn120_s1 R x0 x1 w
theorem Fn120_call {R : KW} {x0 x1 : Value} {w : World} (h : Fn120 R x0 x1 w) : callG prog 89 #[x0, x1] w R :=
 calls_lift_eq mixed func89 (args := [x0, x1]) rfl rfl rfl rfl ((Fn120_s1_eq R) (envOf [x0, x1]) w) (by kernel_rfl) h
def Fn130_s0 (R : KW) (x1 x6 : Value) (w : World) : Prop :=
 qG prog (bq .add 3 (.const (.int .i64 10)) (.tmp 44) (.int .i64 10) x6) w fun t45 =>
 slS x1 (some (.int .i64 10)) (some t45) fun t46 =>
 slS x1 (some (.int .i64 6)) none fun t49 =>
 slS x1 none (some (.int .i64 6)) fun t52 =>
 callG prog 36 #[t49] (World.drew w) fun t50 w =>
 callG prog 82 #[t52] w fun t53 w =>
 callG prog 106 #[t53, t46] w fun t55 w =>
 qG prog (bq .eql 3 (.tmp 50) (.tmp 55) t50 t55) w fun t56 =>
 R (.tuple #[t46, t56]) w
theorem Fn130_s0_eq (R : KW) : ∀ e w, liK 57 (sbK f128 [1, 1, 1, 1]) (fiK f128 R) e w = Fn130_s0 R (e 1) (e 6) w := fun e w => by kernel_rfl
def Fn130_s1 (R : KW) (x1 : Value) (w : World) : Prop :=
 ixS x1 (.int .i64 4) fun t23 =>
 cvI .i64 t23 fun t24 =>
 ixS x1 (.int .i64 5) fun t26 =>
 cvI .i64 t26 fun t27 =>
 qG prog (bq .shl 3 (.tmp 27) (.const (.int .u64 8)) t27 (.int .u64 8)) (World.drew w) fun t28 =>
 qG prog (bq .or 3 (.tmp 24) (.tmp 28) t24 t28) (World.drew w) fun t29 =>
 qG prog (bq .lss 3 (.tmp 30) (.const (.int .i64 1)) t29 (.int .i64 1)) (World.drew w) fun t31 =>
 bV t31
 (R (.tuple #[(.string ⟨#[]⟩), (.bool false)]) (World.drew w))
 (qG prog (bq .gtr 3 (.tmp 33) (.const (.int .i64 1024)) t29 (.int .i64 1024)) (World.drew w) fun t34 =>
 bV t34
 (R (.tuple #[(.string ⟨#[]⟩), (.bool false)]) (World.drew w))
 (lenS x1 fun t39 =>
 qG prog (bq .sub 3 (.tmp 39) (.const (.int .i64 10)) t39 (.int .i64 10)) (World.drew w) fun t40 =>
 qG prog (bq .gtr 3 (.tmp 37) (.tmp 40) t29 t40) (World.drew w) fun t41 =>
 bV t41
 (R (.tuple #[(.string ⟨#[]⟩), (.bool false)]) (World.drew w))
 (Fn130_s0 R x1 t29 (World.drew w))))
theorem Fn130_s1_eq (R : KW) : ∀ e w, liK 57 (sbK f128 [1, 1]) (fiK f128 R) e w = Fn130_s1 R (e 1) w :=
 segs_eq (l := [(sbK f128 [1, 1, 0]), (sbK f128 [1, 1, 1, 0])]) (y := (sbK f128 [1, 1, 1, 1])) (Y := (fun e w => Fn130_s0 R (e 1) (e 6) w)) (Fn130_s0_eq R) (fun e w => by kernel_rfl)
def Fn130_s2 (R : KW) (x0 x1 : Value) (w : World) : Prop :=
 lenS x1 fun t9 =>
 qG prog (bq .leq 3 (.tmp 9) (.const (.int .i64 10)) t9 (.int .i64 10)) w fun t10 =>
 bV t10
 (R (.tuple #[(.string ⟨#[]⟩), (.bool false)]) w)
 (callG prog 107 #[x0] w fun t13 w =>
 qG prog (Op.unary .not t13) w fun t14 =>
 bV t14
 (R (.tuple #[(.string ⟨#[]⟩), (.bool false)]) w)
 (callG prog 36 #[x1] w fun t18 w =>
 qG prog (bq .neq 3 (.tmp 18) (.tmp 19) t18 x0) w fun t20 =>
 bV t20
 (R (.tuple #[(.string ⟨#[]⟩), (.bool false)]) w)
 (Fn130_s1 R x1 w)))
theorem Fn130_s2_eq (R : KW) : ∀ e w, liK 57 (bodyOf f128) (fiK f128 R) e w = Fn130_s2 R (e 0) (e 1) w :=
 segs_eq (l := [(sbK f128 [0]), (sbK f128 [1, 0])]) (y := (sbK f128 [1, 1])) (Y := (fun e w => Fn130_s1 R (e 1) w)) (Fn130_s1_eq R) (fun e w => by kernel_rfl)
def Fn130 (R : KW) (x0 x1 : Value) (w : World) : Prop := Fn130_s2 R x0 x1 w
theorem Fn130_call {R : KW} {x0 x1 : Value} {w : World} (h : Fn130 R x0 x1 w) : callG prog 128 #[x0, x1] w R :=
 calls_lift_eq mixed func128 (args := [x0, x1]) rfl rfl rfl rfl ((Fn130_s2_eq R) (envOf [x0, x1]) w) (by kernel_rfl) h
def Fn129_b0 (R : KW) (N1 : KL) (x0 x1 x6 x7 : Value) (w : World) : Prop :=
 slS x1 (some x7) none fun t14 =>
 callG prog 128 #[x0, t14] w fun t15 w =>
 qG prog (Instr.extract t15 0) w fun t16 =>
 qG prog (Instr.extract t15 1) w fun t17 =>
 qG prog (Op.unary .not t17) w fun t19 =>
 bV t19
 (R (.tuple #[x6, x7]) w)
 (bsl 9 1 1 (zc prog 9) #[(0, t16)] w fun t24 w =>
 app 9 1 16 (zc prog 9) x6 t24 w fun t25 w =>
 lenS t16 fun t28 =>
 qG prog (bq .add 3 (.const (.int .i64 10)) (.tmp 28) (.int .i64 10) t28) w fun t29 =>
 qG prog (bq .add 3 (.tmp 26) (.tmp 29) x7 t29) w fun t30 =>
 N1 [x0, x1, t25, t30] w)
theorem Fn129_b0_eq (R : KW) (N1 : KL) : ∀ e w, liK 31 (sbK f109 [1, 1, 1, 0, 0]) (seqK (fun e w => N1 [e 0, e 1, e 6, e 7] w) (blockK 0 (fiK f109 R))) e w = Fn129_b0 R N1 (e 0) (e 1) (e 6) (e 7) w := fun e w => by kernel_rfl
def Fn129_L1F (R : KW) (N1 : KL) (xs : List Value) (w : World) : Prop :=
 match xs with
 | [x0, x1, x6, x7] => Fn129_b0 R N1 x0 x1 x6 x7 w
 | _ => False
def Fn129_L1 (R : KW) (x0 x1 x6 x7 : Value) (w : World) : Prop :=
 ∃ m, loopV (Fn129_L1F R) m [x0, x1, x6, x7] w
theorem Fn129_L1_eq (R : KW) : ∀ e w, liK 31 (sbK f109 [1, 1, 1, 0]) (blockK 0 (fiK f109 R)) e w = Fn129_L1 R (e 0) (e 1) (e 6) (e 7) w := loop_seg (F := Fn129_L1F R) (sel := fun e => [e 0, e 1, e 6, e 7]) fun N1 => (Fn129_b0_eq R N1)
def Fn129_s2 (R : KW) (x0 x1 : Value) (w : World) : Prop :=
 Fn129_L1 R x0 x1 (.slice none 0 0) (.int .i64 0) w
theorem Fn129_s2_eq (R : KW) : ∀ e w, liK 31 (bodyOf f109) (fiK f109 R) e w = Fn129_s2 R (e 0) (e 1) w :=
 segs_eq (l := [(sbK f109 [0]), (sbK f109 [1, 0]), (sbK f109 [1, 1, 0])]) (y := (sbK f109 [1, 1, 1])) (Y := (fun e w => Fn129_L1 R (e 0) (e 1) (e 6) (e 7) w)) (Fn129_L1_eq R) (fun e w => by kernel_rfl)
def Fn129 (R : KW) (x0 x1 : Value) (w : World) : Prop := Fn129_s2 R x0 x1 w
theorem Fn129_call {R : KW} {x0 x1 : Value} {w : World} (h : Fn129 R x0 x1 w) : callG prog 109 #[x0, x1] w R :=
 calls_lift_eq mixed func109 (args := [x0, x1]) rfl rfl rfl rfl ((Fn129_s2_eq R) (envOf [x0, x1]) w) (by kernel_rfl) h
def Fn126_s0 (R : KW) (w : World) : Prop :=
 R (.int .i64 0) w
theorem Fn126_s0_eq (R : KW) : ∀ e w, liK 23 (sbK f96 [1, 1]) (fiK f96 R) e w = Fn126_s0 R w := fun e w => by kernel_rfl
def Fn126_b1 (R : KW) (N1 : KL) (x2 x3 x9 : Value) (w : World) : Prop :=
 qG prog (bq .lss 3 (.tmp 12) (.tmp 13) x9 x2) w fun t14 =>
 bV t14
 (callV prog x3 #[x9] w fun t19 w =>
 qG prog (bq .neq 30 (.tmp 20) (.const (.int .i64 0)) t19 (.int .i64 0)) w fun t21 =>
 bV t21
 (R t19 w)
 (qG prog (bq .add 3 (.tmp 15) (.const (.int .i64 1)) x9 (.int .i64 1)) w fun t16 =>
 N1 [x2, x3, t16] w))
 (Fn126_s0 R  w)
theorem Fn126_b1_eq (R : KW) (N1 : KL) : ∀ e w, liK 23 (sbK f96 [1, 0, 1, 0, 0]) (seqK (fun e w => N1 [e 2, e 3, e 9] w) (blockK 0 (seqK (fun e w => Fn126_s0 R  w) (fiK f96 R)))) e w = Fn126_b1 R N1 (e 2) (e 3) (e 9) w := fun e w => by kernel_rfl
def Fn126_L2F (R : KW) (N1 : KL) (xs : List Value) (w : World) : Prop :=
 match xs with
 | [x2, x3, x9] => Fn126_b1 R N1 x2 x3 x9 w
 | _ => False
def Fn126_L2 (R : KW) (x2 x3 x9 : Value) (w : World) : Prop :=
 ∃ m, loopV (Fn126_L2F R) m [x2, x3, x9] w
theorem Fn126_L2_eq (R : KW) : ∀ e w, liK 23 (sbK f96 [1, 0, 1, 0]) (blockK 0 (seqK (fun e w => Fn126_s0 R  w) (fiK f96 R))) e w = Fn126_L2 R (e 2) (e 3) (e 9) w := loop_seg (F := Fn126_L2F R) (sel := fun e => [e 2, e 3, e 9]) fun N1 => (Fn126_b1_eq R N1)
def Fn126_s3 (R : KW) (x1 x2 x3 : Value) (w : World) : Prop :=
 Fn126_L2 R x2 x3 x1 w
theorem Fn126_s3_eq (R : KW) : ∀ e w, liK 23 (sbK f96 [1, 0]) (seqK (fun e w => Fn126_s0 R  w) (fiK f96 R)) e w = Fn126_s3 R (e 1) (e 2) (e 3) w :=
 segs_eq (l := [(sbK f96 [1, 0, 0])]) (y := (sbK f96 [1, 0, 1])) (Y := (fun e w => Fn126_L2 R (e 2) (e 3) (e 9) w)) (Fn126_L2_eq R) (fun e w => by kernel_rfl)
def Fn126_s4 (R : KW) (x1 x2 x3 : Value) (w : World) : Prop :=
 Fn126_s3 R x1 x2 x3 w
theorem Fn126_s4_eq (R : KW) : ∀ e w, liK 23 (bodyOf f96) (fiK f96 R) e w = Fn126_s4 R (e 1) (e 2) (e 3) w :=
 segs_eq (l := [(sbK f96 [0])]) (y := (sbK f96 [1])) (Y := (fun e w => Fn126_s3 R (e 1) (e 2) (e 3) w)) (seq_seg (x := (sbK f96 [1, 0])) (y := (sbK f96 [1, 1])) (Fn126_s0_eq R) (Fn126_s3_eq R)) (fun e w => by kernel_rfl)
def Fn126 (R : KW) (x0 x1 x2 x3 : Value) (w : World) : Prop := Fn126_s4 R x1 x2 x3 w
theorem Fn126_call {R : KW} {x0 x1 x2 x3 : Value} {w : World} (h : Fn126 R x0 x1 x2 x3 w) : callG prog 96 #[x0, x1, x2, x3] w R :=
 calls_lift_eq mixed func96 (args := [x0, x1, x2, x3]) rfl rfl rfl rfl ((Fn126_s4_eq R) (envOf [x0, x1, x2, x3]) w) (by kernel_rfl) h
def Fn128_s0 (R : KW) (x0 x1 x2 : Value) (w : World) : Prop :=
 ld1 x1 w fun t8 =>
 callG prog 35 #[t8, x0] w fun t10 w =>
 qG prog (Instr.extract t10 0) w fun t11 =>
 qG prog (Instr.extract t10 1) w fun t12 =>
 callG prog 59 #[x2, t11] w fun t14 w =>
 R t12 w
theorem Fn128_s0_eq (R : KW) : ∀ e w, liK 16 (bodyOf f108) (fiK f108 R) e w = Fn128_s0 R (e 0) (e 1) (e 2) w := fun e w => by kernel_rfl
def Fn128 (R : KW) (x0 x1 x2 : Value) (w : World) : Prop := Fn128_s0 R x0 x1 x2 w
theorem Fn128_call {R : KW} {x0 x1 x2 : Value} {w : World} (h : Fn128 R x0 x1 x2 w) : callG prog 108 #[x0, x1, x2] w R :=
 calls_lift_eq mixed func108 (args := [x0, x1, x2]) rfl rfl rfl rfl ((Fn128_s0_eq R) (envOf [x0, x1, x2]) w) (by kernel_rfl) h
def Fn127_s0 (R : KW) (x1 x2 x3 x4 : Value) (w : World) : Prop :=
 ld1 x4 w fun t32 =>
 bld [(0, 1), (1, 1), (2, 1), (3, 1), (4, 1), (5, 1)] (zc prog 141) #[(0, t32), (1, x1), (2, x2), (3, x3)] fun t36 =>
 newG (Value.cells t36) 141 w fun t37 w =>
 newG (zc prog 110) 110 w fun t11 w =>
 qG prog (Instr.makeFunc (.func 108) #[] #[x4, t11]) w fun t41 =>
 callG prog 96 #[t37, x1, x2, t41] w fun t42 w =>
 qG prog (bq .neq 30 (.tmp 43) (.const (.int .i64 0)) t42 (.int .i64 0)) w fun t44 =>
 bV t44
 (R (.tuple #[(.pointer none), t42]) w)
 (callG prog 61 #[t11] w fun t49 w =>
 callG prog 109 #[x3, t49] w fun t50 w =>
 qG prog (Instr.extract t50 0) w fun t51 =>
 qG prog (Instr.extract t50 1) w fun t52 =>
 nk t37 fun t53 =>
 fa 4 t53 fun t54 =>
 st1 t54 t51 w fun w =>
 callG prog 61 #[t11] w fun t56 w =>
 slS t56 none (some t52) fun t58 =>
 nk t37 fun t59 =>
 fa 5 t59 fun t60 =>
 st1 t60 t58 w fun w =>
 R (.tuple #[t37, (.int .i64 0)]) w)
theorem Fn127_s0_eq (R : KW) : ∀ e w, liK 62 (sbK f84 [1, 1]) (fiK f84 R) e w = Fn127_s0 R (e 1) (e 2) (e 3) (e 4) w := fun e w => by kernel_rfl
def Fn127_s1 (R : KW) (x0 x1 x2 x3 : Value) (w : World) : Prop :=
 newG (Value.cells x0) 34 w fun t4 w =>
 qG prog (bq .lss 3 (.tmp 14) (.const (.int .i64 0)) x1 (.int .i64 0)) w fun t15 =>
 bV t15
 (R (.tuple #[(.pointer none), (.int .i64 1)]) w)
 (ld1 t4 w fun t18 =>
 callG prog 33 #[t18] w fun t19 w =>
 qG prog (bq .gtr 3 (.tmp 17) (.tmp 19) x2 t19) w fun t20 =>
 bV t20
 (R (.tuple #[(.pointer none), (.int .i64 1)]) w)
 (qG prog (bq .geq 3 (.tmp 23) (.tmp 24) x1 x2) w fun t25 =>
 bV t25
 (R (.tuple #[(.pointer none), (.int .i64 1)]) w)
 (callG prog 107 #[x3] w fun t29 w =>
 qG prog (Op.unary .not t29) w fun t30 =>
 bV t30
 (R (.tuple #[(.pointer none), (.int .i64 1)]) w)
 (Fn127_s0 R x1 x2 x3 t4 w))))
theorem Fn127_s1_eq (R : KW) : ∀ e w, liK 62 (bodyOf f84) (fiK f84 R) e w = Fn127_s1 R (e 0) (e 1) (e 2) (e 3) w :=
 segs_eq (l := [(sbK f84 [0]), (sbK f84 [1, 0])]) (y := (sbK f84 [1, 1])) (Y := (fun e w => Fn127_s0 R (e 1) (e 2) (e 3) (e 4) w)) (Fn127_s0_eq R) (fun e w => by kernel_rfl)
def Fn127 (R : KW) (x0 x1 x2 x3 : Value) (w : World) : Prop := Fn127_s1 R x0 x1 x2 x3 w
theorem Fn127_call {R : KW} {x0 x1 x2 x3 : Value} {w : World} (h : Fn127 R x0 x1 x2 x3 w) : callG prog 84 #[x0, x1, x2, x3] w R :=
 calls_lift_eq mixed func84 (args := [x0, x1, x2, x3]) rfl rfl rfl rfl ((Fn127_s1_eq R) (envOf [x0, x1, x2, x3]) w) (by kernel_rfl) h
def Fn125_s0 (R : KW) (x0 : Value) (w : World) : Prop :=
 qG prog (bq .neq 56 (.tmp 3) (.const (.pointer none)) x0 (.pointer none)) w fun t4 =>
 bV t4
 (nk x0 fun t7 =>
 fa 0 t7 fun t8 =>
 ld1 t8 w fun t9 =>
 qG prog (bq .neq 34 (.tmp 9) (.const (.pointer none)) t9 (.pointer none)) w fun t10 =>
 R t10 w)
 (R (.bool false) w)
theorem Fn125_s0_eq (R : KW) : ∀ e w, liK 12 (bodyOf f94) (fiK f94 R) e w = Fn125_s0 R (e 0) w := fun e w => by kernel_rfl
def Fn125 (R : KW) (x0 : Value) (w : World) : Prop := Fn125_s0 R x0 w
theorem Fn125_call {R : KW} {x0 : Value} {w : World} (h : Fn125 R x0 w) : callG prog 94 #[x0] w R :=
 calls_lift_eq mixed func94 (args := [x0]) rfl rfl rfl rfl ((Fn125_s0_eq R) (envOf [x0]) w) (by kernel_rfl) h
def Fn102_s0 (R : KW) (x0 : Value) (w : World) : Prop :=
 qG prog (bq .eql 29 (.tmp 3) (.const (.slice none 0 0)) x0 (.slice none 0 0)) w fun t4 =>
 bV t4
 (R (.slice none 0 0) w)
 (bsl 9 1 0 (zc prog 9) #[] w fun t5 w =>
 app 9 1 16 (zc prog 9) t5 x0 w fun t7 w =>
 R t7 w)
theorem Fn102_s0_eq (R : KW) : ∀ e w, liK 8 (bodyOf f115) (fiK f115 R) e w = Fn102_s0 R (e 0) w := fun e w => by kernel_rfl
def Fn102 (R : KW) (x0 : Value) (w : World) : Prop := Fn102_s0 R x0 w
theorem Fn102_call {R : KW} {x0 : Value} {w : World} (h : Fn102 R x0 w) : callG prog 115 #[x0] w R :=
 calls_lift_eq mixed func115 (args := [x0]) rfl rfl rfl rfl ((Fn102_s0_eq R) (envOf [x0]) w) (by kernel_rfl) h
def Fn123_s0 (R : KW) (x0 : Value) (w : World) : Prop :=
 callG prog 94 #[x0] w fun t4 w =>
 qG prog (Op.unary .not t4) w fun t5 =>
 bV t5
 (R (.slice none 0 0) w)
 (nk x0 fun t7 =>
 fa 4 t7 fun t8 =>
 ld1 t8 w fun t9 =>
 callG prog 115 #[t9] w fun t10 w =>
 R t10 w)
theorem Fn123_s0_eq (R : KW) : ∀ e w, liK 11 (bodyOf f86) (fiK f86 R) e w = Fn123_s0 R (e 0) w := fun e w => by kernel_rfl
def Fn123 (R : KW) (x0 : Value) (w : World) : Prop := Fn123_s0 R x0 w
theorem Fn123_call {R : KW} {x0 : Value} {w : World} (h : Fn123 R x0 w) : callG prog 86 #[x0] w R :=
 calls_lift_eq mixed func86 (args := [x0]) rfl rfl rfl rfl ((Fn123_s0_eq R) (envOf [x0]) w) (by kernel_rfl) h
def Fn122_s0 (R : KW) (x0 x1 x2 : Value) (w : World) : Prop :=
 ld1 x1 w fun t8 =>
 qG prog (bq .mul 3 (.const (.int .i64 32)) (.tmp 9) (.int .i64 32) x0) w fun t10 =>
 qG prog (bq .mul 3 (.const (.int .i64 32)) (.tmp 11) (.int .i64 32) x0) w fun t12 =>
 qG prog (bq .add 3 (.tmp 12) (.const (.int .i64 32)) t12 (.int .i64 32)) w fun t13 =>
 ld1 x1 w fun t14 =>
 lenS t14 fun t15 =>
 qG prog (Builtin.min_ #[3, 3] 3 #[t13, t15]) w fun t16 =>
 slS t8 (some t10) (some t16) fun t17 =>
 ld1 x2 (World.drew w) fun t19 =>
 nk t19 fun t20 =>
 fa 0 t20 fun t21 =>
 ld1 t21 (World.drew w) fun t22 =>
 ld1 x2 (World.drew w) fun t23 =>
 nk t23 fun t24 =>
 fa 1 t24 fun t25 =>
 ld1 t25 (World.drew w) fun t26 =>
 qG prog (bq .add 3 (.tmp 26) (.tmp 27) t26 x0) (World.drew w) fun t28 =>
 callG prog 35 #[t22, t28] (World.drew w) fun t29 w =>
 qG prog (Instr.extract t29 0) w fun t30 =>
 qG prog (Instr.extract t29 1) w fun t31 =>
 qG prog (bq .neq 30 (.tmp 32) (.const (.int .i64 0)) t31 (.int .i64 0)) w fun t33 =>
 bV t33
 (R t31 w)
 (ld1 x2 (World.drew w) fun t35 =>
 nk t35 fun t36 =>
 fa 0 t36 fun t37 =>
 ld1 t37 (World.drew w) fun t38 =>
 ld1 x2 (World.drew w) fun t39 =>
 nk t39 fun t40 =>
 fa 1 t40 fun t41 =>
 ld1 t41 (World.drew w) fun t42 =>
 qG prog (bq .add 3 (.tmp 42) (.tmp 43) t42 x0) (World.drew w) fun t44 =>
 lenS t17 fun t48 =>
 slS t30 (some t48) none fun t49 =>
 qG prog (bq .add 9 (.tmp 45) (.tmp 49) t17 t49) (World.drew w) fun t50 =>
 callG prog 90 #[t38, t44, t50] (World.drew w) fun t51 w =>
 R t51 w)
theorem Fn122_s0_eq (R : KW) : ∀ e w, liK 52 (bodyOf f97) (fiK f97 R) e w = Fn122_s0 R (e 0) (e 1) (e 2) w := fun e w => by kernel_rfl
def Fn122 (R : KW) (x0 x1 x2 : Value) (w : World) : Prop := Fn122_s0 R x0 x1 x2 w
theorem Fn122_call {R : KW} {x0 x1 x2 : Value} {w : World} (h : Fn122 R x0 x1 x2 w) : callG prog 97 #[x0, x1, x2] w R :=
 calls_lift_eq mixed func97 (args := [x0, x1, x2]) rfl rfl rfl rfl ((Fn122_s0_eq R) (envOf [x0, x1, x2]) w) (by kernel_rfl) h
def Fn121_s0 (R : KW) (x1 x2 x12 : Value) (w : World) : Prop :=
 ld1 x2 (World.drew w) fun t93 =>
 ld1 x2 (World.drew w) fun t94 =>
 ld1 x2 (World.drew w) fun t95 =>
 nk t95 fun t96 =>
 fa 4 t96 fun t97 =>
 ld1 t97 (World.drew w) fun t98 =>
 ld1 x12 (World.drew w) fun t101 =>
 app 9 1 16 (zc prog 9) t98 x1 (World.drew w) fun t100 w =>
 ld1 x12 w (fun u => u = t101) ∧
 ld1 x2 w (fun u => u = t94) ∧
 ld1 x2 w (fun u => u = t93) ∧
 nk t93 fun t102 =>
 fa 4 t102 fun t103 =>
 st1 t103 t100 w fun w =>
 ld1 x12 w (fun u => u = t101) ∧
 ld1 x2 w (fun u => u = t94) ∧
 nk t94 fun t104 =>
 fa 5 t104 fun t105 =>
 st1 t105 t101 w fun w =>
 R (.int .i64 0) w
theorem Fn121_s0_eq (R : KW) : ∀ e w, liK 106 (sbK f44 [1, 1, 1, 1, 1, 1, 1, 1, 1, 1]) (fiK f44 R) e w = Fn121_s0 R (e 1) (e 2) (e 12) w := fun e w => by kernel_rfl
def Fn121_s1 (R : KW) (x1 x2 x5 x7 : Value) (w : World) : Prop :=
 bV x7
 (R (.int .i64 2) w)
 (ld1 x2 (World.drew w) fun t67 =>
 nk t67 fun t68 =>
 fa 5 t68 fun t69 =>
 ld1 t69 (World.drew w) fun t70 =>
 (callG prog 61 #[x5] (World.drew w) fun t71 w =>
 ld1 t69 w (fun u => u = t70) ∧
 ld1 x2 w (fun u => u = t67) ∧
 qG prog (bq .add 9 (.tmp 70) (.tmp 71) t70 t71) w fun t72 =>
 newG (zc prog 9) 9 w fun t12 w =>
 stb prog (bq .add 9 (.tmp 70) (.tmp 71) t70 t71) t72 w ∧
 ld1 t69 w (fun u => u = t70) ∧
 ld1 x2 w (fun u => u = t67) ∧
 st1 t12 t72 w fun w =>
 ld1 x2 w fun t73 =>
 nk t73 fun t74 =>
 fa 5 t74 fun t75 =>
 ld1 t75 w fun t76 =>
 lenS t76 fun t77 =>
 qG prog (bq .quo 3 (.tmp 77) (.const (.int .i64 32)) t77 (.int .i64 32)) w fun t78 =>
 callG prog 95 #[x5] w fun t79 w =>
 qG prog (bq .gtr 3 (.tmp 79) (.const (.int .i64 0)) t79 (.int .i64 0)) w fun t80 =>
 bV t80
 (ld1 x2 w fun t81 =>
 ld1 t12 w fun t83 =>
 lenS t83 fun t84 =>
 qG prog (bq .add 3 (.tmp 84) (.const (.int .i64 32)) t84 (.int .i64 32)) w fun t85 =>
 qG prog (bq .sub 3 (.tmp 85) (.const (.int .i64 1)) t85 (.int .i64 1)) w fun t86 =>
 qG prog (bq .quo 3 (.tmp 86) (.const (.int .i64 32)) t86 (.int .i64 32)) w fun t87 =>
 qG prog (Instr.makeFunc (.func 97) #[] #[t12, x2]) w fun t88 =>
 callG prog 96 #[t81, t78, t87, t88] w fun t89 w =>
 qG prog (bq .neq 30 (.tmp 90) (.const (.int .i64 0)) t89 (.int .i64 0)) w fun t91 =>
 bV t91
 (R t89 w)
 (Fn121_s0 R x1 x2 t12 w))
 (Fn121_s0 R x1 x2 t12 w)) ∧
 (newG (zc prog 9) 9 (World.drew w) fun t12_1 w =>
 ld1 t69 w (fun u => u = t70) ∧
 ld1 x2 w (fun u => u = t67) ∧
 callG prog 61 #[x5] w fun t71_1 w =>
 ld1 t69 w (fun u => u = t70) ∧
 ld1 x2 w (fun u => u = t67) ∧
 qG prog (bq .add 9 (.tmp 70) (.tmp 71) t70 t71_1) w fun t72_1 =>
 st1 t12_1 t72_1 w fun w =>
 ld1 x2 w fun t73_1 =>
 nk t73_1 fun t74_1 =>
 fa 5 t74_1 fun t75_1 =>
 ld1 t75_1 w fun t76_1 =>
 lenS t76_1 fun t77_1 =>
 qG prog (bq .quo 3 (.tmp 77) (.const (.int .i64 32)) t77_1 (.int .i64 32)) w fun t78_1 =>
 callG prog 95 #[x5] w fun t79_1 w =>
 qG prog (bq .gtr 3 (.tmp 79) (.const (.int .i64 0)) t79_1 (.int .i64 0)) w fun t80_1 =>
 bV t80_1
 (ld1 x2 w fun t81_1 =>
 ld1 t12_1 w fun t83_1 =>
 lenS t83_1 fun t84_1 =>
 qG prog (bq .add 3 (.tmp 84) (.const (.int .i64 32)) t84_1 (.int .i64 32)) w fun t85_1 =>
 qG prog (bq .sub 3 (.tmp 85) (.const (.int .i64 1)) t85_1 (.int .i64 1)) w fun t86_1 =>
 qG prog (bq .quo 3 (.tmp 86) (.const (.int .i64 32)) t86_1 (.int .i64 32)) w fun t87_1 =>
 qG prog (Instr.makeFunc (.func 97) #[] #[t12_1, x2]) w fun t88_1 =>
 callG prog 96 #[t81_1, t78_1, t87_1, t88_1] w fun t89_1 w =>
 qG prog (bq .neq 30 (.tmp 90) (.const (.int .i64 0)) t89_1 (.int .i64 0)) w fun t91_1 =>
 bV t91_1
 (R t89_1 w)
 (Fn121_s0 R x1 x2 t12_1 w))
 (Fn121_s0 R x1 x2 t12_1 w)))
theorem Fn121_s1_eq (R : KW) : ∀ e w, liK 106 (sbK f44 [1, 1, 1, 1, 1, 1]) (fiK f44 R) e w = Fn121_s1 R (e 1) (e 2) (e 5) (e 7) w :=
 segs_eq (l := [(sbK f44 [1, 1, 1, 1, 1, 1, 0]), (sbK f44 [1, 1, 1, 1, 1, 1, 1, 0]), (sbK f44 [1, 1, 1, 1, 1, 1, 1, 1, 0]), (sbK f44 [1, 1, 1, 1, 1, 1, 1, 1, 1, 0])]) (y := (sbK f44 [1, 1, 1, 1, 1, 1, 1, 1, 1, 1])) (Y := (fun e w => Fn121_s0 R (e 1) (e 2) (e 12) w)) (Fn121_s0_eq R) (fun e w => by kernel_rfl)
def Fn121_b2 (R : KW) (N1 : KL) (x1 x2 x5 x6 x7 x34 x35 x36 : Value) (w : World) : Prop :=
 qG prog (bq .lss 3 (.tmp 36) (.tmp 35) x36 x35) w fun t37 =>
 bV t37
 (ia 1 x34 x36 fun t38 =>
 ld1 t38 w fun t39 =>
 ld1 x2 w fun t41 =>
 nk t41 fun t42 =>
 fa 3 t42 fun t43 =>
 ld1 t43 w fun t44 =>
 callG prog 89 #[t44, t39] w fun t46 w =>
 qG prog (Instr.extract t46 0) w fun t47 =>
 qG prog (Instr.extract t46 1) w fun t48 =>
 qG prog (bq .neq 30 (.tmp 49) (.const (.int .i64 0)) t48 (.int .i64 0)) w fun t50 =>
 bV t50
 (R t48 w)
 (bV x7
 (qG prog (Op.unary .not (.bool true)) w fun t62 =>
 bV t62
 (callG prog 59 #[x5, t47] w fun t64 w =>
 qG prog (bq .add 3 (.tmp 36) (.const (.int .i64 1)) x36 (.int .i64 1)) w fun t65 =>
 N1 [x1, x2, x5, x6, (.bool true), x34, x35, t65] w)
 (qG prog (bq .add 3 (.tmp 36) (.const (.int .i64 1)) x36 (.int .i64 1)) w fun t65_1 =>
 N1 [x1, x2, x5, x6, (.bool true), x34, x35, t65_1] w))
 (lenS t47 fun t55 =>
 callG prog 95 #[x5] w fun t57 w =>
 qG prog (bq .sub 3 (.tmp 56) (.tmp 57) x6 t57) w fun t58 =>
 qG prog (bq .gtr 3 (.tmp 55) (.tmp 58) t55 t58) w fun t59 =>
 qG prog (Op.unary .not t59) w fun t62_1 =>
 bV t62_1
 (callG prog 59 #[x5, t47] w fun t64_1 w =>
 qG prog (bq .add 3 (.tmp 36) (.const (.int .i64 1)) x36 (.int .i64 1)) w fun t65_2 =>
 N1 [x1, x2, x5, x6, t59, x34, x35, t65_2] w)
 (qG prog (bq .add 3 (.tmp 36) (.const (.int .i64 1)) x36 (.int .i64 1)) w fun t65_3 =>
 N1 [x1, x2, x5, x6, t59, x34, x35, t65_3] w))))
 (Fn121_s1 R x1 x2 x5 x7 w)
theorem Fn121_b2_eq (R : KW) (N1 : KL) : ∀ e w, liK 106 (sbK f44 [1, 1, 1, 1, 1, 0, 1, 0, 0]) (seqK (fun e w => N1 [e 1, e 2, e 5, e 6, e 7, e 34, e 35, e 36] w) (blockK 0 (seqK (fun e w => Fn121_s1 R (e 1) (e 2) (e 5) (e 7) w) (fiK f44 R)))) e w = Fn121_b2 R N1 (e 1) (e 2) (e 5) (e 6) (e 7) (e 34) (e 35) (e 36) w := fun e w => by kernel_rfl
def Fn121_L3F (R : KW) (N1 : KL) (xs : List Value) (w : World) : Prop :=
 match xs with
 | [x1, x2, x5, x6, x7, x34, x35, x36] => Fn121_b2 R N1 x1 x2 x5 x6 x7 x34 x35 x36 w
 | _ => False
def Fn121_L3 (R : KW) (x1 x2 x5 x6 x7 x34 x35 x36 : Value) (w : World) : Prop :=
 ∃ m, loopV (Fn121_L3F R) m [x1, x2, x5, x6, x7, x34, x35, x36] w
theorem Fn121_L3_eq (R : KW) : ∀ e w, liK 106 (sbK f44 [1, 1, 1, 1, 1, 0, 1, 0]) (blockK 0 (seqK (fun e w => Fn121_s1 R (e 1) (e 2) (e 5) (e 7) w) (fiK f44 R))) e w = Fn121_L3 R (e 1) (e 2) (e 5) (e 6) (e 7) (e 34) (e 35) (e 36) w := loop_seg (F := Fn121_L3F R) (sel := fun e => [e 1, e 2, e 5, e 6, e 7, e 34, e 35, e 36]) fun N1 => (Fn121_b2_eq R N1)
def Fn121_s4 (R : KW) (x1 x2 x5 x6 x7 : Value) (w : World) : Prop :=
 lenL x1 fun t35 =>
 Fn121_L3 R x1 x2 x5 x6 x7 x1 t35 (.int .i64 0) w
theorem Fn121_s4_eq (R : KW) : ∀ e w, liK 106 (sbK f44 [1, 1, 1, 1, 1, 0]) (seqK (fun e w => Fn121_s1 R (e 1) (e 2) (e 5) (e 7) w) (fiK f44 R)) e w = Fn121_s4 R (e 1) (e 2) (e 5) (e 6) (e 7) w :=
 segs_eq (l := [(sbK f44 [1, 1, 1, 1, 1, 0, 0])]) (y := (sbK f44 [1, 1, 1, 1, 1, 0, 1])) (Y := (fun e w => Fn121_L3 R (e 1) (e 2) (e 5) (e 6) (e 7) (e 34) (e 35) (e 36) w)) (Fn121_L3_eq R) (fun e w => by kernel_rfl)
def Fn121_s5 (R : KW) (x0 x1 : Value) (w : World) : Prop :=
 newG (Value.cells x0) 56 w fun t2 w =>
 ld1 t2 w fun t15 =>
 callG prog 94 #[t15] w fun t16 w =>
 qG prog (Op.unary .not t16) w fun t17 =>
 bV t17
 (R (.int .i64 1) w)
 (newG (zc prog 110) 110 w fun t5 w =>
 ld1 t2 (World.drew w) fun t18 =>
 nk t18 fun t19 =>
 fa 2 t19 fun t20 =>
 ld1 t20 (World.drew w) fun t21 =>
 ld1 t2 (World.drew w) fun t22 =>
 nk t22 fun t23 =>
 fa 1 t23 fun t24 =>
 ld1 t24 (World.drew w) fun t25 =>
 qG prog (bq .sub 3 (.tmp 21) (.tmp 25) t21 t25) (World.drew w) fun t26 =>
 qG prog (bq .mul 3 (.const (.int .i64 32)) (.tmp 26) (.int .i64 32) t26) (World.drew w) fun t27 =>
 ld1 t2 (World.drew w) fun t28 =>
 nk t28 fun t29 =>
 fa 5 t29 fun t30 =>
 ld1 t30 (World.drew w) fun t31 =>
 lenS t31 fun t32 =>
 qG prog (bq .sub 3 (.tmp 27) (.tmp 32) t27 t32) (World.drew w) fun t33 =>
 Fn121_s4 R x1 t2 t5 t33 (.bool false) (World.drew w))
theorem Fn121_s5_eq (R : KW) : ∀ e w, liK 106 (bodyOf f44) (fiK f44 R) e w = Fn121_s5 R (e 0) (e 1) w :=
 segs_eq (l := [(sbK f44 [0]), (sbK f44 [1, 0]), (sbK f44 [1, 1, 0]), (sbK f44 [1, 1, 1, 0]), (sbK f44 [1, 1, 1, 1, 0])]) (y := (sbK f44 [1, 1, 1, 1, 1])) (Y := (fun e w => Fn121_s4 R (e 1) (e 2) (e 5) (e 6) (e 7) w)) (seq_seg (x := (sbK f44 [1, 1, 1, 1, 1, 0])) (y := (sbK f44 [1, 1, 1, 1, 1, 1])) (Fn121_s1_eq R) (Fn121_s4_eq R)) (fun e w => by kernel_rfl)
def Fn121 (R : KW) (x0 x1 : Value) (w : World) : Prop := Fn121_s5 R x0 x1 w
theorem Fn121_call {R : KW} {x0 x1 : Value} {w : World} (h : Fn121 R x0 x1 w) : callG prog 44 #[x0, x1] w R :=
 calls_lift_eq mixed func44 (args := [x0, x1]) rfl rfl rfl rfl ((Fn121_s5_eq R) (envOf [x0, x1]) w) (by kernel_rfl) h
def Fn124_s0 (R : KW) (x0 : Value) (w : World) : Prop :=
 callG prog 94 #[x0] w fun t4 w =>
 qG prog (Op.unary .not t4) w fun t5 =>
 bV t5
 (R (.int .i64 1) w)
 (nk x0 fun t7 =>
 fa 0 t7 fun t8 =>
 ld1 t8 w fun t9 =>
 callG prog 91 #[t9] w fun t10 w =>
 R t10 w)
theorem Fn124_s0_eq (R : KW) : ∀ e w, liK 11 (bodyOf f49) (fiK f49 R) e w = Fn124_s0 R (e 0) w := fun e w => by kernel_rfl
def Fn124 (R : KW) (x0 : Value) (w : World) : Prop := Fn124_s0 R x0 w
theorem Fn124_call {R : KW} {x0 : Value} {w : World} (h : Fn124 R x0 w) : callG prog 49 #[x0] w R :=
 calls_lift_eq mixed func49 (args := [x0]) rfl rfl rfl rfl ((Fn124_s0_eq R) (envOf [x0]) w) (by kernel_rfl) h
end Go.Proofs

set_option linter.unusedVariables false
set_option linter.unusedSimpArgs false
namespace Go.Proofs
open Go Go.Q Tryz
set_option maxRecDepth 100000
def Fn115_s0 (R : KW) (x0 : Value) (w : World) : Prop :=
 newG (Value.cells x0) 76 w fun t1 w =>
 fa 0 t1 fun t4 =>
 ld1 t4 w fun t5 =>
 qG prog (bq .eql 3 (.tmp 5) (.const (.int .i64 0)) t5 (.int .i64 0)) w fun t7 =>
 bV t7
 (ldn 3 t1 w fun t8 =>
 bld [(0, 1), (1, 1), (2, 1)] (zc prog 76) #[] fun t9 =>
 qG prog (bq .eql 76 (.tmp 8) (.tmp 9) t8 t9) w fun t10 =>
 qG prog (Op.unary .not t10) w fun t40 =>
 bV t40
 (R (.int .i64 1) w)
 (R (.int .i64 0) w))
 (qG prog (bq .eql 3 (.tmp 5) (.const (.int .i64 1)) t5 (.int .i64 1)) w fun t12 =>
 bV t12
 (ldn 3 t1 w fun t13 =>
 fa 1 t1 fun t14 =>
 ld1 t14 w fun t15 =>
 bld [(0, 1), (1, 1), (2, 1)] (zc prog 76) #[(0, (.int .i64 1)), (1, t15)] fun t16 =>
 qG prog (bq .eql 76 (.tmp 13) (.tmp 16) t13 t16) w fun t17 =>
 qG prog (Op.unary .not t17) w fun t40_1 =>
 bV t40_1
 (R (.int .i64 1) w)
 (R (.int .i64 0) w))
 (qG prog (bq .eql 3 (.tmp 5) (.const (.int .i64 2)) t5 (.int .i64 2)) w fun t19 =>
 bV t19
 (ldn 3 t1 w fun t20 =>
 fa 2 t1 fun t21 =>
 ld1 t21 w fun t22 =>
 bld [(0, 1), (1, 1), (2, 1)] (zc prog 76) #[(0, (.int .i64 2)), (2, t22)] fun t23 =>
 qG prog (bq .eql 76 (.tmp 20) (.tmp 23) t20 t23) w fun t24 =>
 bV t24
 (fa 2 t1 fun t26 =>
 ld1 t26 w fun t27 =>
 lenS t27 fun t28 =>
 qG prog (bq .leq 3 (.tmp 28) (.const (.int .i64 64)) t28 (.int .i64 64)) w fun t29 =>
 qG prog (Op.unary .not t29) w fun t40_2 =>
 bV t40_2
 (R (.int .i64 1) w)
 (R (.int .i64 0) w))
 (qG prog (Op.unary .not (.bool false)) w fun t40_3 =>
 bV t40_3
 (R (.int .i64 1) w)
 (R (.int .i64 0) w)))
 (qG prog (bq .eql 3 (.tmp 5) (.const (.int .i64 3)) t5 (.int .i64 3)) w fun t32 =>
 bV t32
 (ldn 3 t1 w fun t33 =>
 fa 1 t1 fun t34 =>
 ld1 t34 w fun t35 =>
 qG prog (bq .and 3 (.tmp 35) (.const (.int .i64 1)) t35 (.int .i64 1)) w fun t36 =>
 bld [(0, 1), (1, 1), (2, 1)] (zc prog 76) #[(0, (.int .i64 3)), (1, t36)] fun t37 =>
 qG prog (bq .eql 76 (.tmp 33) (.tmp 37) t33 t37) w fun t38 =>
 qG prog (Op.unary .not t38) w fun t40_4 =>
 bV t40_4
 (R (.int .i64 1) w)
 (R (.int .i64 0) w))
 (qG prog (Op.unary .not (.bool false)) w fun t40_5 =>
 bV t40_5
 (R (.int .i64 1) w)
 (R (.int .i64 0) w)))))
theorem Fn115_s0_eq (R : KW) : ∀ e w, liK 41 (bodyOf f58) (fiK f58 R) e w = Fn115_s0 R (e 0) w := fun e w => by kernel_rfl
def Fn115 (R : KW) (x0 : Value) (w : World) : Prop := Fn115_s0 R x0 w
theorem Fn115_call {R : KW} {x0 : Value} {w : World} (h : Fn115 R x0 w) : callG prog 58 #[x0] w R :=
 calls_lift_eq mixed func58 (args := [x0]) rfl rfl rfl rfl ((Fn115_s0_eq R) (envOf [x0]) w) (by kernel_rfl) h
def Fn76_s0 (R : KW) (x0 : Value) (w : World) : Prop :=
 newG (Value.cells x0) 76 w fun t1 w =>
 fa 0 t1 fun t3 =>
 ld1 t3 w fun t4 =>
 qG prog (bq .eql 3 (.tmp 4) (.const (.int .i64 0)) t4 (.int .i64 0)) w fun t6 =>
 bV t6
 (fa 1 t1 fun t7 =>
 ld1 t7 w fun t8 =>
 qG prog (bq .eql 3 (.tmp 8) (.const (.int .i64 0)) t8 (.int .i64 0)) w fun t9 =>
 bV t9
 (fa 2 t1 fun t11 =>
 ld1 t11 w fun t12 =>
 qG prog (bq .eql 9 (.tmp 12) (.const (.string ⟨#[]⟩)) t12 (.string ⟨#[]⟩)) w fun t13 =>
 R t13 w)
 (R (.bool false) w))
 (qG prog (bq .eql 3 (.tmp 4) (.const (.int .i64 1)) t4 (.int .i64 1)) w fun t16 =>
 bV t16
 (fa 2 t1 fun t17 =>
 ld1 t17 w fun t18 =>
 qG prog (bq .eql 9 (.tmp 18) (.const (.string ⟨#[]⟩)) t18 (.string ⟨#[]⟩)) w fun t19 =>
 R t19 w)
 (qG prog (bq .eql 3 (.tmp 4) (.const (.int .i64 2)) t4 (.int .i64 2)) w fun t21 =>
 bV t21
 (fa 1 t1 fun t22 =>
 ld1 t22 w fun t23 =>
 qG prog (bq .eql 3 (.tmp 23) (.const (.int .i64 0)) t23 (.int .i64 0)) w fun t24 =>
 bV t24
 (fa 2 t1 fun t26 =>
 ld1 t26 w fun t27 =>
 lenS t27 fun t28 =>
 qG prog (bq .leq 3 (.tmp 28) (.const (.int .i64 64)) t28 (.int .i64 64)) w fun t29 =>
 R t29 w)
 (R (.bool false) w))
 (qG prog (bq .eql 3 (.tmp 4) (.const (.int .i64 3)) t4 (.int .i64 3)) w fun t32 =>
 bV t32
 (fa 1 t1 fun t33 =>
 ld1 t33 w fun t34 =>
 qG prog (bq .eql 3 (.tmp 34) (.const (.int .i64 0)) t34 (.int .i64 0)) w fun t35 =>
 bV t35
 (fa 2 t1 fun t42 =>
 ld1 t42 w fun t43 =>
 qG prog (bq .eql 9 (.tmp 43) (.const (.string ⟨#[]⟩)) t43 (.string ⟨#[]⟩)) w fun t44 =>
 R t44 w)
 (fa 1 t1 fun t37 =>
 ld1 t37 w fun t38 =>
 qG prog (bq .eql 3 (.tmp 38) (.const (.int .i64 1)) t38 (.int .i64 1)) w fun t39 =>
 bV t39
 (fa 2 t1 fun t42_1 =>
 ld1 t42_1 w fun t43_1 =>
 qG prog (bq .eql 9 (.tmp 43) (.const (.string ⟨#[]⟩)) t43_1 (.string ⟨#[]⟩)) w fun t44_1 =>
 R t44_1 w)
 (R (.bool false) w)))
 (R (.bool false) w))))
theorem Fn76_s0_eq (R : KW) : ∀ e w, liK 46 (bodyOf f103) (fiK f103 R) e w = Fn76_s0 R (e 0) w := fun e w => by kernel_rfl
def Fn76 (R : KW) (x0 : Value) (w : World) : Prop := Fn76_s0 R x0 w
theorem Fn76_call {R : KW} {x0 : Value} {w : World} (h : Fn76 R x0 w) : callG prog 103 #[x0] w R :=
 calls_lift_eq mixed func103 (args := [x0]) rfl rfl rfl rfl ((Fn76_s0_eq R) (envOf [x0]) w) (by kernel_rfl) h
def Fn118_s0 (R : KW) (x3 : Value) (w : World) : Prop :=
 cvBS x3 w fun t52 =>
 R t52 w
theorem Fn118_s0_eq (R : KW) : ∀ e w, liK 53 (sbK f60 [1, 1, 1]) (fiK f60 R) e w = Fn118_s0 R (e 3) w := fun e w => by kernel_rfl
def Fn118_b1 (R : KW) (N1 : KL) (x3 x4 x18 : Value) (w : World) : Prop :=
 qG prog (bq .lss 3 (.tmp 18) (.const (.int .i64 8)) x18 (.int .i64 8)) w fun t19 =>
 bV t19
 (qG prog (bq .sub 3 (.const (.int .i64 7)) (.tmp 23) (.int .i64 7) x18) w fun t24 =>
 qG prog (bq .mul 3 (.const (.int .i64 8)) (.tmp 24) (.int .i64 8) t24) w fun t25 =>
 qG prog (bq .shr 146 (.tmp 22) (.tmp 25) x4 t25) w fun t26 =>
 cvI .u8 t26 fun t27 =>
 bsl 5 1 1 (zc prog 5) #[(0, t27)] w fun t28 w =>
 app 5 1 1 (zc prog 5) x3 t28 w fun t29 w =>
 qG prog (bq .add 3 (.tmp 18) (.const (.int .i64 1)) x18 (.int .i64 1)) w fun t30 =>
 N1 [t29, x4, t30] w)
 (Fn118_s0 R x3 w)
theorem Fn118_b1_eq (R : KW) (N1 : KL) : ∀ e w, liK 53 (sbK f60 [1, 1, 0, 1, 0, 1, 0, 1, 1, 0, 0]) (seqK (fun e w => N1 [e 3, e 4, e 18] w) (blockK 1 (blockK 0 (seqK (fun e w => Fn118_s0 R (e 3) w) (fiK f60 R))))) e w = Fn118_b1 R N1 (e 3) (e 4) (e 18) w := fun e w => by kernel_rfl
def Fn118_L2F (R : KW) (N1 : KL) (xs : List Value) (w : World) : Prop :=
 match xs with
 | [x3, x4, x18] => Fn118_b1 R N1 x3 x4 x18 w
 | _ => False
def Fn118_L2 (R : KW) (x3 x4 x18 : Value) (w : World) : Prop :=
 ∃ m, loopV (Fn118_L2F R) m [x3, x4, x18] w
theorem Fn118_L2_eq (R : KW) : ∀ e w, liK 53 (sbK f60 [1, 1, 0, 1, 0, 1, 0, 1, 1, 0]) (blockK 1 (blockK 0 (seqK (fun e w => Fn118_s0 R (e 3) w) (fiK f60 R)))) e w = Fn118_L2 R (e 3) (e 4) (e 18) w := loop_seg (F := Fn118_L2F R) (sel := fun e => [e 3, e 4, e 18]) fun N1 => (Fn118_b1_eq R N1)
def Fn118_s3 (R : KW) (x1 x3 : Value) (w : World) : Prop :=
 fa 1 x1 fun t14 =>
 ld1 t14 w fun t15 =>
 cvI .u64 t15 fun t16 =>
 qG prog (bq .xor 146 (.tmp 16) (.const (.int .u64 9223372036854775808)) t16 (.int .u64 9223372036854775808)) w fun t17 =>
 Fn118_L2 R x3 t17 (.int .i64 0) w
theorem Fn118_s3_eq (R : KW) : ∀ e w, liK 53 (sbK f60 [1, 1, 0, 1, 0, 1, 0]) (blockK 0 (seqK (fun e w => Fn118_s0 R (e 3) w) (fiK f60 R))) e w = Fn118_s3 R (e 1) (e 3) w :=
 segs_eq (l := [(sbK f60 [1, 1, 0, 1, 0, 1, 0, 0]), (sbK f60 [1, 1, 0, 1, 0, 1, 0, 1, 0])]) (y := (sbK f60 [1, 1, 0, 1, 0, 1, 0, 1, 1])) (Y := (fun e w => Fn118_L2 R (e 3) (e 4) (e 18) w)) (Fn118_L2_eq R) (fun e w => by kernel_rfl)
def Fn118_s4 (R : KW) (x1 x3 x11 : Value) (w : World) : Prop :=
 qG prog (bq .eql 3 (.tmp 11) (.const (.int .i64 2)) x11 (.int .i64 2)) w fun t32 =>
 bV t32
 (fa 2 x1 fun t34 =>
 ld1 t34 (World.drew w) fun t35 =>
 lenS t35 fun t36 =>
 cvI .u8 t36 fun t37 =>
 fa 2 x1 fun t40 =>
 ld1 t40 (World.drew w) fun t41 =>
 bsl 5 1 1 (zc prog 5) #[(0, t37)] (World.drew w) fun t38 w =>
 ld1 t40 w (fun u => u = t41) ∧
 app 5 1 1 (zc prog 5) x3 t38 w fun t39 w =>
 ld1 t40 w (fun u => u = t41) ∧
 app 5 1 1 (zc prog 5) t39 t41 w fun t42 w =>
 Fn118_s0 R t42 w)
 (qG prog (bq .eql 3 (.tmp 11) (.const (.int .i64 3)) x11 (.int .i64 3)) w fun t44 =>
 bV t44
 (fa 1 x1 fun t46 =>
 ld1 t46 w fun t47 =>
 cvI .u8 t47 fun t48 =>
 bsl 5 1 1 (zc prog 5) #[(0, t48)] w fun t49 w =>
 app 5 1 1 (zc prog 5) x3 t49 w fun t50 w =>
 Fn118_s0 R t50 w)
 (Fn118_s0 R x3 w))
theorem Fn118_s4_eq (R : KW) : ∀ e w, liK 53 (sbK f60 [1, 1, 0, 1, 0, 1, 1]) (blockK 0 (seqK (fun e w => Fn118_s0 R (e 3) w) (fiK f60 R))) e w = Fn118_s4 R (e 1) (e 3) (e 11) w := fun e w => by kernel_rfl
def Fn118_s5 (R : KW) (x1 x3 x11 x12 : Value) (w : World) : Prop :=
 bV x12 (Fn118_s3 R x1 x3 w) (Fn118_s4 R x1 x3 x11 w)
theorem Fn118_s5_eq (R : KW) : ∀ e w, liK 53 (sbK f60 [1, 1, 0, 1, 0, 1]) (blockK 0 (seqK (fun e w => Fn118_s0 R (e 3) w) (fiK f60 R))) e w = Fn118_s5 R (e 1) (e 3) (e 11) (e 12) w := fun e w => (cond_seg (x := (sbK f60 [1, 1, 0, 1, 0, 1, 0])) (y := (sbK f60 [1, 1, 0, 1, 0, 1, 1])) (Fn118_s3_eq R) (Fn118_s4_eq R) e w).trans (by kernel_rfl)
def Fn118_s6 (R : KW) (x1 x3 x11 : Value) (w : World) : Prop :=
 qG prog (bq .eql 3 (.tmp 11) (.const (.int .i64 1)) x11 (.int .i64 1)) w fun t13 =>
 Fn118_s5 R x1 x3 x11 t13 w
theorem Fn118_s6_eq (R : KW) : ∀ e w, liK 53 (sbK f60 [1, 1, 0, 1, 0]) (blockK 0 (seqK (fun e w => Fn118_s0 R (e 3) w) (fiK f60 R))) e w = Fn118_s6 R (e 1) (e 3) (e 11) w :=
 segs_eq (l := [(sbK f60 [1, 1, 0, 1, 0, 0])]) (y := (sbK f60 [1, 1, 0, 1, 0, 1])) (Y := (fun e w => Fn118_s5 R (e 1) (e 3) (e 11) (e 12) w)) (Fn118_s5_eq R) (fun e w => by kernel_rfl)
def Fn118_s7 (R : KW) (x1 x3 : Value) (w : World) : Prop :=
 fa 0 x1 fun t10 =>
 ld1 t10 w fun t11 =>
 Fn118_s6 R x1 x3 t11 w
theorem Fn118_s7_eq (R : KW) : ∀ e w, liK 53 (sbK f60 [1, 1, 0]) (seqK (fun e w => Fn118_s0 R (e 3) w) (fiK f60 R)) e w = Fn118_s7 R (e 1) (e 3) w :=
 segs_eq (l := [(sbK f60 [1, 1, 0, 0])]) (y := (sbK f60 [1, 1, 0, 1])) (Y := (fun e w => Fn118_s6 R (e 1) (e 3) (e 11) w)) (Fn118_s6_eq R) (fun e w => by kernel_rfl)
def Fn118_s8 (R : KW) (x0 : Value) (w : World) : Prop :=
 newG (Value.cells x0) 76 w fun t1 w =>
 fa 0 t1 fun t6 =>
 ld1 t6 w fun t7 =>
 cvI .u8 t7 fun t8 =>
 bsl 5 1 1 (zc prog 5) #[(0, t8)] w fun t9 w =>
 Fn118_s7 R t1 t9 w
theorem Fn118_s8_eq (R : KW) : ∀ e w, liK 53 (bodyOf f60) (fiK f60 R) e w = Fn118_s8 R (e 0) w :=
 segs_eq (l := [(sbK f60 [0]), (sbK f60 [1, 0])]) (y := (sbK f60 [1, 1])) (Y := (fun e w => Fn118_s7 R (e 1) (e 3) w)) (seq_seg (x := (sbK f60 [1, 1, 0])) (y := (sbK f60 [1, 1, 1])) (Fn118_s0_eq R) (Fn118_s7_eq R)) (fun e w => by kernel_rfl)
def Fn118 (R : KW) (x0 : Value) (w : World) : Prop := Fn118_s8 R x0 w
theorem Fn118_call {R : KW} {x0 : Value} {w : World} (h : Fn118 R x0 w) : callG prog 60 #[x0] w R :=
 calls_lift_eq mixed func60 (args := [x0]) rfl rfl rfl rfl ((Fn118_s8_eq R) (envOf [x0]) w) (by kernel_rfl) h
def Fn78_s0 (R : KW) (x3 : Value) (w : World) : Prop :=
 cvBS x3 w fun t58 =>
 R t58 w
theorem Fn78_s0_eq (R : KW) : ∀ e w, liK 59 (sbK f104 [1, 1, 1]) (fiK f104 R) e w = Fn78_s0 R (e 3) w := fun e w => by kernel_rfl
def Fn78_b1 (R : KW) (N1 : KL) (x1 x3 x4 : Value) (w : World) : Prop :=
 qG prog (bq .geq 3 (.tmp 15) (.const (.int .i64 0)) x4 (.int .i64 0)) w fun t16 =>
 bV t16
 (fa 1 x1 fun t19 =>
 ld1 t19 w fun t20 =>
 qG prog (bq .mul 3 (.const (.int .i64 8)) (.tmp 21) (.int .i64 8) x4) w fun t22 =>
 qG prog (bq .shr 3 (.tmp 20) (.tmp 22) t20 t22) w fun t23 =>
 qG prog (bq .and 3 (.tmp 23) (.const (.int .i64 255)) t23 (.int .i64 255)) w fun t24 =>
 cvI .u8 t24 fun t25 =>
 qG prog (bq .eql 3 (.tmp 26) (.const (.int .i64 7)) x4 (.int .i64 7)) w fun t27 =>
 bV t27
 (qG prog (bq .xor 5 (.tmp 28) (.const (.int .u8 128)) t25 (.int .u8 128)) w fun t29 =>
 bsl 5 1 1 (zc prog 5) #[(0, t29)] w fun t32 w =>
 app 5 1 1 (zc prog 5) x3 t32 w fun t33 w =>
 qG prog (bq .sub 3 (.tmp 17) (.const (.int .i64 1)) x4 (.int .i64 1)) w fun t18 =>
 N1 [x1, t33, t18] w)
 (bsl 5 1 1 (zc prog 5) #[(0, t25)] w fun t32_1 w =>
 app 5 1 1 (zc prog 5) x3 t32_1 w fun t33_1 w =>
 qG prog (bq .sub 3 (.tmp 17) (.const (.int .i64 1)) x4 (.int .i64 1)) w fun t18_1 =>
 N1 [x1, t33_1, t18_1] w))
 (Fn78_s0 R x3 w)
theorem Fn78_b1_eq (R : KW) (N1 : KL) : ∀ e w, liK 59 (sbK f104 [1, 1, 0, 1, 0, 1, 0, 1, 0, 0]) (seqK (fun e w => N1 [e 1, e 3, e 4] w) (blockK 1 (blockK 0 (seqK (fun e w => Fn78_s0 R (e 3) w) (fiK f104 R))))) e w = Fn78_b1 R N1 (e 1) (e 3) (e 4) w := fun e w => by kernel_rfl
def Fn78_L2F (R : KW) (N1 : KL) (xs : List Value) (w : World) : Prop :=
 match xs with
 | [x1, x3, x4] => Fn78_b1 R N1 x1 x3 x4 w
 | _ => False
def Fn78_L2 (R : KW) (x1 x3 x4 : Value) (w : World) : Prop :=
 ∃ m, loopV (Fn78_L2F R) m [x1, x3, x4] w
theorem Fn78_L2_eq (R : KW) : ∀ e w, liK 59 (sbK f104 [1, 1, 0, 1, 0, 1, 0, 1, 0]) (blockK 1 (blockK 0 (seqK (fun e w => Fn78_s0 R (e 3) w) (fiK f104 R)))) e w = Fn78_L2 R (e 1) (e 3) (e 4) w := loop_seg (F := Fn78_L2F R) (sel := fun e => [e 1, e 3, e 4]) fun N1 => (Fn78_b1_eq R N1)
def Fn78_s3 (R : KW) (x1 x3 : Value) (w : World) : Prop :=
 Fn78_L2 R x1 x3 (.int .i64 7) w
theorem Fn78_s3_eq (R : KW) : ∀ e w, liK 59 (sbK f104 [1, 1, 0, 1, 0, 1, 0]) (blockK 0 (seqK (fun e w => Fn78_s0 R (e 3) w) (fiK f104 R))) e w = Fn78_s3 R (e 1) (e 3) w :=
 segs_eq (l := [(sbK f104 [1, 1, 0, 1, 0, 1, 0, 0])]) (y := (sbK f104 [1, 1, 0, 1, 0, 1, 0, 1])) (Y := (fun e w => Fn78_L2 R (e 1) (e 3) (e 4) w)) (Fn78_L2_eq R) (fun e w => by kernel_rfl)
def Fn78_s4 (R : KW) (x1 x3 x12 : Value) (w : World) : Prop :=
 qG prog (bq .eql 3 (.tmp 12) (.const (.int .i64 2)) x12 (.int .i64 2)) w fun t35 =>
 bV t35
 (fa 2 x1 fun t37 =>
 ld1 t37 w fun t38 =>
 lenS t38 fun t39 =>
 qG prog (bq .and 3 (.tmp 39) (.const (.int .i64 255)) t39 (.int .i64 255)) w fun t40 =>
 cvI .u8 t40 fun t41 =>
 bsl 5 1 1 (zc prog 5) #[(0, t41)] w fun t42 w =>
 app 5 1 1 (zc prog 5) x3 t42 w fun t43 w =>
 fa 2 x1 fun t45 =>
 ld1 t45 w fun t46 =>
 app 5 1 1 (zc prog 5) t43 t46 w fun t47 w =>
 Fn78_s0 R t47 w)
 (qG prog (bq .eql 3 (.tmp 12) (.const (.int .i64 3)) x12 (.int .i64 3)) w fun t49 =>
 bV t49
 (fa 1 x1 fun t51 =>
 ld1 t51 w fun t52 =>
 qG prog (bq .and 3 (.tmp 52) (.const (.int .i64 255)) t52 (.int .i64 255)) w fun t53 =>
 cvI .u8 t53 fun t54 =>
 bsl 5 1 1 (zc prog 5) #[(0, t54)] w fun t55 w =>
 app 5 1 1 (zc prog 5) x3 t55 w fun t56 w =>
 Fn78_s0 R t56 w)
 (Fn78_s0 R x3 w))
theorem Fn78_s4_eq (R : KW) : ∀ e w, liK 59 (sbK f104 [1, 1, 0, 1, 0, 1, 1]) (blockK 0 (seqK (fun e w => Fn78_s0 R (e 3) w) (fiK f104 R))) e w = Fn78_s4 R (e 1) (e 3) (e 12) w := fun e w => by kernel_rfl
def Fn78_s5 (R : KW) (x1 x3 x12 x13 : Value) (w : World) : Prop :=
 bV x13 (Fn78_s3 R x1 x3 w) (Fn78_s4 R x1 x3 x12 w)
theorem Fn78_s5_eq (R : KW) : ∀ e w, liK 59 (sbK f104 [1, 1, 0, 1, 0, 1]) (blockK 0 (seqK (fun e w => Fn78_s0 R (e 3) w) (fiK f104 R))) e w = Fn78_s5 R (e 1) (e 3) (e 12) (e 13) w := fun e w => (cond_seg (x := (sbK f104 [1, 1, 0, 1, 0, 1, 0])) (y := (sbK f104 [1, 1, 0, 1, 0, 1, 1])) (Fn78_s3_eq R) (Fn78_s4_eq R) e w).trans (by kernel_rfl)
def Fn78_s6 (R : KW) (x1 x3 x12 : Value) (w : World) : Prop :=
 qG prog (bq .eql 3 (.tmp 12) (.const (.int .i64 1)) x12 (.int .i64 1)) w fun t14 =>
 Fn78_s5 R x1 x3 x12 t14 w
theorem Fn78_s6_eq (R : KW) : ∀ e w, liK 59 (sbK f104 [1, 1, 0, 1, 0]) (blockK 0 (seqK (fun e w => Fn78_s0 R (e 3) w) (fiK f104 R))) e w = Fn78_s6 R (e 1) (e 3) (e 12) w :=
 segs_eq (l := [(sbK f104 [1, 1, 0, 1, 0, 0])]) (y := (sbK f104 [1, 1, 0, 1, 0, 1])) (Y := (fun e w => Fn78_s5 R (e 1) (e 3) (e 12) (e 13) w)) (Fn78_s5_eq R) (fun e w => by kernel_rfl)
def Fn78_s7 (R : KW) (x1 x3 : Value) (w : World) : Prop :=
 fa 0 x1 fun t11 =>
 ld1 t11 w fun t12 =>
 Fn78_s6 R x1 x3 t12 w
theorem Fn78_s7_eq (R : KW) : ∀ e w, liK 59 (sbK f104 [1, 1, 0]) (seqK (fun e w => Fn78_s0 R (e 3) w) (fiK f104 R)) e w = Fn78_s7 R (e 1) (e 3) w :=
 segs_eq (l := [(sbK f104 [1, 1, 0, 0])]) (y := (sbK f104 [1, 1, 0, 1])) (Y := (fun e w => Fn78_s6 R (e 1) (e 3) (e 12) w)) (Fn78_s6_eq R) (fun e w => by kernel_rfl)
def Fn78_s8 (R : KW) (x0 : Value) (w : World) : Prop :=
 newG (Value.cells x0) 76 w fun t1 w =>
 fa 0 t1 fun t6 =>
 ld1 t6 w fun t7 =>
 qG prog (bq .and 3 (.tmp 7) (.const (.int .i64 255)) t7 (.int .i64 255)) w fun t8 =>
 cvI .u8 t8 fun t9 =>
 bsl 5 1 1 (zc prog 5) #[(0, t9)] w fun t10 w =>
 Fn78_s7 R t1 t10 w
theorem Fn78_s8_eq (R : KW) : ∀ e w, liK 59 (bodyOf f104) (fiK f104 R) e w = Fn78_s8 R (e 0) w :=
 segs_eq (l := [(sbK f104 [0]), (sbK f104 [1, 0])]) (y := (sbK f104 [1, 1])) (Y := (fun e w => Fn78_s7 R (e 1) (e 3) w)) (seq_seg (x := (sbK f104 [1, 1, 0])) (y := (sbK f104 [1, 1, 1])) (Fn78_s0_eq R) (Fn78_s7_eq R)) (fun e w => by kernel_rfl)
def Fn78 (R : KW) (x0 : Value) (w : World) : Prop := Fn78_s8 R x0 w
theorem Fn78_call {R : KW} {x0 : Value} {w : World} (h : Fn78 R x0 w) : callG prog 104 #[x0] w R :=
 calls_lift_eq mixed func104 (args := [x0]) rfl rfl rfl rfl ((Fn78_s8_eq R) (envOf [x0]) w) (by kernel_rfl) h
def Fn116_s0 (R : KW) (x4 : Value) (w : World) : Prop :=
 callG prog 61 #[x4] w fun t30 w =>
 R (.tuple #[t30, (.int .i64 0)]) w
theorem Fn116_s0_eq (R : KW) : ∀ e w, liK 31 (sbK f24 [1, 1, 1, 1, 1]) (fiK f24 R) e w = Fn116_s0 R (e 4) w := fun e w => by kernel_rfl
def Fn116_b1 (R : KW) (N1 : KL) (x4 x15 x16 x17 : Value) (w : World) : Prop :=
 qG prog (bq .lss 3 (.tmp 17) (.tmp 16) x17 x16) w fun t18 =>
 bV t18
 (ia 3 x15 x17 fun t19 =>
 ldn 3 t19 w fun t20 =>
 newG (zc prog 76) 76 w fun t6 w =>
 stn 3 t6 t20 w fun w =>
 ldn 3 t6 w fun t21 =>
 callG prog 58 #[t21] w fun t22 w =>
 qG prog (bq .neq 30 (.tmp 23) (.const (.int .i64 0)) t22 (.int .i64 0)) w fun t24 =>
 bV t24
 (R (.tuple #[(.string ⟨#[]⟩), t22]) w)
 (ldn 3 t6 w fun t26 =>
 callG prog 60 #[t26] w fun t27 w =>
 callG prog 59 #[x4, t27] w fun t28 w =>
 qG prog (bq .add 3 (.tmp 17) (.const (.int .i64 1)) x17 (.int .i64 1)) w fun t29 =>
 N1 [x4, x15, x16, t29] w))
 (Fn116_s0 R x4 w)
theorem Fn116_b1_eq (R : KW) (N1 : KL) : ∀ e w, liK 31 (sbK f24 [1, 1, 1, 1, 0, 1, 0, 0]) (seqK (fun e w => N1 [e 4, e 15, e 16, e 17] w) (blockK 0 (seqK (fun e w => Fn116_s0 R (e 4) w) (fiK f24 R)))) e w = Fn116_b1 R N1 (e 4) (e 15) (e 16) (e 17) w := fun e w => by kernel_rfl
def Fn116_L2F (R : KW) (N1 : KL) (xs : List Value) (w : World) : Prop :=
 match xs with
 | [x4, x15, x16, x17] => Fn116_b1 R N1 x4 x15 x16 x17 w
 | _ => False
def Fn116_L2 (R : KW) (x4 x15 x16 x17 : Value) (w : World) : Prop :=
 ∃ m, loopV (Fn116_L2F R) m [x4, x15, x16, x17] w
theorem Fn116_L2_eq (R : KW) : ∀ e w, liK 31 (sbK f24 [1, 1, 1, 1, 0, 1, 0]) (blockK 0 (seqK (fun e w => Fn116_s0 R (e 4) w) (fiK f24 R))) e w = Fn116_L2 R (e 4) (e 15) (e 16) (e 17) w := loop_seg (F := Fn116_L2F R) (sel := fun e => [e 4, e 15, e 16, e 17]) fun N1 => (Fn116_b1_eq R N1)
def Fn116_s3 (R : KW) (x0 x4 : Value) (w : World) : Prop :=
 lenL x0 fun t16 =>
 Fn116_L2 R x4 x0 t16 (.int .i64 0) w
theorem Fn116_s3_eq (R : KW) : ∀ e w, liK 31 (sbK f24 [1, 1, 1, 1, 0]) (seqK (fun e w => Fn116_s0 R (e 4) w) (fiK f24 R)) e w = Fn116_s3 R (e 0) (e 4) w :=
 segs_eq (l := [(sbK f24 [1, 1, 1, 1, 0, 0])]) (y := (sbK f24 [1, 1, 1, 1, 0, 1])) (Y := (fun e w => Fn116_L2 R (e 4) (e 15) (e 16) (e 17) w)) (Fn116_L2_eq R) (fun e w => by kernel_rfl)
def Fn116_s4 (R : KW) (x0 : Value) (w : World) : Prop :=
 lenL x0 fun t9 =>
 qG prog (bq .gtr 3 (.tmp 9) (.const (.int .i64 255)) t9 (.int .i64 255)) w fun t10 =>
 bV t10
 (R (.tuple #[(.string ⟨#[]⟩), (.int .i64 1)]) w)
 (newG (zc prog 110) 110 w fun t4 w =>
 lenL x0 fun t12 =>
 cvI .u8 t12 fun t13 =>
 callG prog 57 #[t4, t13] w fun t14 w =>
 Fn116_s3 R x0 t4 w)
theorem Fn116_s4_eq (R : KW) : ∀ e w, liK 31 (bodyOf f24) (fiK f24 R) e w = Fn116_s4 R (e 0) w :=
 segs_eq (l := [(sbK f24 [0]), (sbK f24 [1, 0]), (sbK f24 [1, 1, 0]), (sbK f24 [1, 1, 1, 0])]) (y := (sbK f24 [1, 1, 1, 1])) (Y := (fun e w => Fn116_s3 R (e 0) (e 4) w)) (seq_seg (x := (sbK f24 [1, 1, 1, 1, 0])) (y := (sbK f24 [1, 1, 1, 1, 1])) (Fn116_s0_eq R) (Fn116_s3_eq R)) (fun e w => by kernel_rfl)
def Fn116 (R : KW) (x0 : Value) (w : World) : Prop := Fn116_s4 R x0 w
theorem Fn116_call {R : KW} {x0 : Value} {w : World} (h : Fn116 R x0 w) : callG prog 24 #[x0] w R :=
 calls_lift_eq mixed func24 (args := [x0]) rfl rfl rfl rfl ((Fn116_s4_eq R) (envOf [x0]) w) (by kernel_rfl) h
def Fn77_s0 (R : KW) (x4 : Value) (w : World) : Prop :=
 cvBS x4 w fun t33 =>
 R (.tuple #[t33, (.int .i64 0)]) w
theorem Fn77_s0_eq (R : KW) : ∀ e w, liK 34 (sbK f73 [1, 1, 1, 1]) (fiK f73 R) e w = Fn77_s0 R (e 4) w := fun e w => by kernel_rfl
def Fn77_b1 (R : KW) (N1 : KL) (x0 x4 x5 : Value) (w : World) : Prop :=
 lenL x0 fun t15 =>
 qG prog (bq .lss 3 (.tmp 13) (.tmp 15) x5 t15) w fun t16 =>
 bV t16
 (ia 3 x0 x5 fun t21 =>
 ldn 3 t21 w fun t22 =>
 callG prog 103 #[t22] w fun t23 w =>
 qG prog (Op.unary .not t23) w fun t24 =>
 bV t24
 (R (.tuple #[(.string ⟨#[]⟩), (.int .i64 1)]) w)
 (ia 3 x0 x5 fun t28 =>
 ldn 3 t28 w fun t29 =>
 callG prog 104 #[t29] w fun t30 w =>
 app 5 1 1 (zc prog 5) x4 t30 w fun t31 w =>
 qG prog (bq .add 3 (.tmp 17) (.const (.int .i64 1)) x5 (.int .i64 1)) w fun t18 =>
 N1 [x0, t31, t18] w))
 (Fn77_s0 R x4 w)
theorem Fn77_b1_eq (R : KW) (N1 : KL) : ∀ e w, liK 34 (sbK f73 [1, 1, 1, 0, 1, 0, 0]) (seqK (fun e w => N1 [e 0, e 4, e 5] w) (blockK 0 (seqK (fun e w => Fn77_s0 R (e 4) w) (fiK f73 R)))) e w = Fn77_b1 R N1 (e 0) (e 4) (e 5) w := fun e w => by kernel_rfl
def Fn77_L2F (R : KW) (N1 : KL) (xs : List Value) (w : World) : Prop :=
 match xs with
 | [x0, x4, x5] => Fn77_b1 R N1 x0 x4 x5 w
 | _ => False
def Fn77_L2 (R : KW) (x0 x4 x5 : Value) (w : World) : Prop :=
 ∃ m, loopV (Fn77_L2F R) m [x0, x4, x5] w
theorem Fn77_L2_eq (R : KW) : ∀ e w, liK 34 (sbK f73 [1, 1, 1, 0, 1, 0]) (blockK 0 (seqK (fun e w => Fn77_s0 R (e 4) w) (fiK f73 R))) e w = Fn77_L2 R (e 0) (e 4) (e 5) w := loop_seg (F := Fn77_L2F R) (sel := fun e => [e 0, e 4, e 5]) fun N1 => (Fn77_b1_eq R N1)
def Fn77_s3 (R : KW) (x0 x4 : Value) (w : World) : Prop :=
 Fn77_L2 R x0 x4 (.int .i64 0) w
theorem Fn77_s3_eq (R : KW) : ∀ e w, liK 34 (sbK f73 [1, 1, 1, 0]) (seqK (fun e w => Fn77_s0 R (e 4) w) (fiK f73 R)) e w = Fn77_s3 R (e 0) (e 4) w :=
 segs_eq (l := [(sbK f73 [1, 1, 1, 0, 0])]) (y := (sbK f73 [1, 1, 1, 0, 1])) (Y := (fun e w => Fn77_L2 R (e 0) (e 4) (e 5) w)) (Fn77_L2_eq R) (fun e w => by kernel_rfl)
def Fn77_s4 (R : KW) (x0 : Value) (w : World) : Prop :=
 lenL x0 fun t7 =>
 qG prog (bq .gtr 3 (.tmp 7) (.const (.int .i64 255)) t7 (.int .i64 255)) w fun t8 =>
 bV t8
 (R (.tuple #[(.string ⟨#[]⟩), (.int .i64 1)]) w)
 (lenL x0 fun t10 =>
 cvI .u8 t10 fun t11 =>
 bsl 5 1 1 (zc prog 5) #[(0, t11)] w fun t12 w =>
 Fn77_s3 R x0 t12 w)
theorem Fn77_s4_eq (R : KW) : ∀ e w, liK 34 (bodyOf f73) (fiK f73 R) e w = Fn77_s4 R (e 0) w :=
 segs_eq (l := [(sbK f73 [0]), (sbK f73 [1, 0]), (sbK f73 [1, 1, 0])]) (y := (sbK f73 [1, 1, 1])) (Y := (fun e w => Fn77_s3 R (e 0) (e 4) w)) (seq_seg (x := (sbK f73 [1, 1, 1, 0])) (y := (sbK f73 [1, 1, 1, 1])) (Fn77_s0_eq R) (Fn77_s3_eq R)) (fun e w => by kernel_rfl)
def Fn77 (R : KW) (x0 : Value) (w : World) : Prop := Fn77_s4 R x0 w
theorem Fn77_call {R : KW} {x0 : Value} {w : World} (h : Fn77 R x0 w) : callG prog 73 #[x0] w R :=
 calls_lift_eq mixed func73 (args := [x0]) rfl rfl rfl rfl ((Fn77_s4_eq R) (envOf [x0]) w) (by kernel_rfl) h
def Fn119_s0 (R : KW) (x0 x2 x5 x6 : Value) (w : World) : Prop :=
 ldn 3 x5 (World.drew w) fun t76 =>
 slS x0 (some x6) none fun t79 =>
 ldn 3 x5 (World.drew w) fun t80 =>
 callG prog 58 #[t80] (World.drew w) fun t81 w =>
 ldn 3 x5 w (fun u => u = t76) ∧
 qG prog (bq .eql 30 (.tmp 81) (.const (.int .i64 0)) t81 (.int .i64 0)) w fun t82 =>
 stn 3 x2 t76 w fun w =>
 stb prog (bq .eql 30 (.tmp 81) (.const (.int .i64 0)) t81 (.int .i64 0)) t82 w ∧
 qG prog (do loadVar 76 (← asAddr x2)) w fun r2 =>
 R (.tuple #[r2, t79, t82]) w
theorem Fn119_s0_eq (R : KW) : ∀ e w, liK 83 (sbK f129 [1, 1, 1, 1, 1, 1, 1, 1]) (fiK f129 R) e w = Fn119_s0 R (e 0) (e 2) (e 5) (e 6) w := fun e w => by kernel_rfl
def Fn119_s1 (R : KW) (x0 x2 x5 x6 x7 : Value) (w : World) : Prop :=
 qG prog (bq .xor 146 (.tmp 50) (.const (.int .u64 9223372036854775808)) x7 (.int .u64 9223372036854775808)) w fun t51 =>
 cvI .i64 t51 fun t52 =>
 fa 1 x5 fun t53 =>
 st1 t53 t52 w fun w =>
 Fn119_s0 R x0 x2 x5 x6 w
theorem Fn119_s1_eq (R : KW) : ∀ e w, liK 83 (sbK f129 [1, 1, 1, 1, 1, 1, 1, 0, 1, 0, 1, 0, 1, 1]) (blockK 1 (seqK (fun e w => Fn119_s0 R (e 0) (e 2) (e 5) (e 6) w) (fiK f129 R))) e w = Fn119_s1 R (e 0) (e 2) (e 5) (e 6) (e 7) w := fun e w => by kernel_rfl
def Fn119_b2 (R : KW) (N1 : KL) (x0 x2 x5 x6 x7 x39 : Value) (w : World) : Prop :=
 qG prog (bq .lss 3 (.tmp 39) (.const (.int .i64 8)) x39 (.int .i64 8)) w fun t40 =>
 bV t40
 (qG prog (bq .shl 146 (.tmp 42) (.const (.int .u64 8)) x7 (.int .u64 8)) w fun t43 =>
 ixS x0 x39 fun t46 =>
 cvI .u64 t46 fun t47 =>
 qG prog (bq .or 146 (.tmp 43) (.tmp 47) t43 t47) w fun t48 =>
 qG prog (bq .add 3 (.tmp 39) (.const (.int .i64 1)) x39 (.int .i64 1)) w fun t49 =>
 N1 [x0, x2, x5, x6, t48, t49] w)
 (Fn119_s1 R x0 x2 x5 x6 x7 w)
theorem Fn119_b2_eq (R : KW) (N1 : KL) : ∀ e w, liK 83 (sbK f129 [1, 1, 1, 1, 1, 1, 1, 0, 1, 0, 1, 0, 1, 0, 1, 0, 0]) (seqK (fun e w => N1 [e 0, e 2, e 5, e 6, e 7, e 39] w) (blockK 2 (seqK (fun e w => Fn119_s1 R (e 0) (e 2) (e 5) (e 6) (e 7) w) (blockK 1 (seqK (fun e w => Fn119_s0 R (e 0) (e 2) (e 5) (e 6) w) (fiK f129 R)))))) e w = Fn119_b2 R N1 (e 0) (e 2) (e 5) (e 6) (e 7) (e 39) w := fun e w => by kernel_rfl
def Fn119_L3F (R : KW) (N1 : KL) (xs : List Value) (w : World) : Prop :=
 match xs with
 | [x0, x2, x5, x6, x7, x39] => Fn119_b2 R N1 x0 x2 x5 x6 x7 x39 w
 | _ => False
def Fn119_L3 (R : KW) (x0 x2 x5 x6 x7 x39 : Value) (w : World) : Prop :=
 ∃ m, loopV (Fn119_L3F R) m [x0, x2, x5, x6, x7, x39] w
theorem Fn119_L3_eq (R : KW) : ∀ e w, liK 83 (sbK f129 [1, 1, 1, 1, 1, 1, 1, 0, 1, 0, 1, 0, 1, 0, 1, 0]) (blockK 2 (seqK (fun e w => Fn119_s1 R (e 0) (e 2) (e 5) (e 6) (e 7) w) (blockK 1 (seqK (fun e w => Fn119_s0 R (e 0) (e 2) (e 5) (e 6) w) (fiK f129 R))))) e w = Fn119_L3 R (e 0) (e 2) (e 5) (e 6) (e 7) (e 39) w := loop_seg (F := Fn119_L3F R) (sel := fun e => [e 0, e 2, e 5, e 6, e 7, e 39]) fun N1 => (Fn119_b2_eq R N1)
def Fn119_s4 (R : KW) (x0 x2 x5 x6 x7 : Value) (w : World) : Prop :=
 Fn119_L3 R x0 x2 x5 x6 x7 (.int .i64 0) w
theorem Fn119_s4_eq (R : KW) : ∀ e w, liK 83 (sbK f129 [1, 1, 1, 1, 1, 1, 1, 0, 1, 0, 1, 0, 1, 0]) (seqK (fun e w => Fn119_s1 R (e 0) (e 2) (e 5) (e 6) (e 7) w) (blockK 1 (seqK (fun e w => Fn119_s0 R (e 0) (e 2) (e 5) (e 6) w) (fiK f129 R)))) e w = Fn119_s4 R (e 0) (e 2) (e 5) (e 6) (e 7) w :=
 segs_eq (l := [(sbK f129 [1, 1, 1, 1, 1, 1, 1, 0, 1, 0, 1, 0, 1, 0, 0])]) (y := (sbK f129 [1, 1, 1, 1, 1, 1, 1, 0, 1, 0, 1, 0, 1, 0, 1])) (Y := (fun e w => Fn119_L3 R (e 0) (e 2) (e 5) (e 6) (e 7) (e 39) w)) (Fn119_L3_eq R) (fun e w => by kernel_rfl)
def Fn119_s5 (R : KW) (x0 x2 x5 x6 : Value) (w : World) : Prop :=
 Fn119_s4 R x0 x2 x5 x6 (.int .u64 0) w
theorem Fn119_s5_eq (R : KW) : ∀ e w, liK 83 (sbK f129 [1, 1, 1, 1, 1, 1, 1, 0, 1, 0, 1, 0]) (blockK 1 (seqK (fun e w => Fn119_s0 R (e 0) (e 2) (e 5) (e 6) w) (fiK f129 R))) e w = Fn119_s5 R (e 0) (e 2) (e 5) (e 6) w :=
 segs_eq (l := [(sbK f129 [1, 1, 1, 1, 1, 1, 1, 0, 1, 0, 1, 0, 0])]) (y := (sbK f129 [1, 1, 1, 1, 1, 1, 1, 0, 1, 0, 1, 0, 1])) (Y := (fun e w => Fn119_s4 R (e 0) (e 2) (e 5) (e 6) (e 7) w)) (seq_seg (x := (sbK f129 [1, 1, 1, 1, 1, 1, 1, 0, 1, 0, 1, 0, 1, 0])) (y := (sbK f129 [1, 1, 1, 1, 1, 1, 1, 0, 1, 0, 1, 0, 1, 1])) (Fn119_s1_eq R) (Fn119_s4_eq R)) (fun e w => by kernel_rfl)
def Fn119_s6 (R : KW) (x0 x2 x5 x6 x36 : Value) (w : World) : Prop :=
 qG prog (bq .eql 3 (.tmp 36) (.const (.int .i64 2)) x36 (.int .i64 2)) w fun t55 =>
 bV t55
 (ixS x0 (.int .i64 0) fun t58 =>
 cvI .i64 t58 fun t59 =>
 qG prog (bq .add 3 (.tmp 56) (.tmp 59) x6 t59) w fun t60 =>
 lenS x0 fun t62 =>
 qG prog (bq .lss 3 (.tmp 62) (.tmp 63) t62 t60) w fun t64 =>
 bV t64
 (ldn 3 x5 w fun t65 =>
 stn 3 x2 t65 w fun w =>
 qG prog (do loadVar 76 (← asAddr x2)) w fun r2 =>
 R (.tuple #[r2, (.string ⟨#[]⟩), (.bool false)]) w)
 (slS x0 (some (.int .i64 1)) (some t60) fun t68 =>
 fa 2 x5 fun t69 =>
 st1 t69 t68 w fun w =>
 Fn119_s0 R x0 x2 x5 t60 w))
 (qG prog (bq .eql 3 (.tmp 36) (.const (.int .i64 3)) x36 (.int .i64 3)) w fun t71 =>
 bV t71
 (ixS x0 (.int .i64 0) fun t73 =>
 cvI .i64 t73 fun t74 =>
 fa 1 x5 fun t75 =>
 st1 t75 t74 w fun w =>
 Fn119_s0 R x0 x2 x5 x6 w)
 (Fn119_s0 R x0 x2 x5 x6 w))
theorem Fn119_s6_eq (R : KW) : ∀ e w, liK 83 (sbK f129 [1, 1, 1, 1, 1, 1, 1, 0, 1, 0, 1, 1]) (blockK 1 (seqK (fun e w => Fn119_s0 R (e 0) (e 2) (e 5) (e 6) w) (fiK f129 R))) e w = Fn119_s6 R (e 0) (e 2) (e 5) (e 6) (e 36) w := fun e w => by kernel_rfl
def Fn119_s7 (R : KW) (x0 x2 x5 x6 x36 x37 : Value) (w : World) : Prop :=
 bV x37 (Fn119_s5 R x0 x2 x5 x6 w) (Fn119_s6 R x0 x2 x5 x6 x36 w)
theorem Fn119_s7_eq (R : KW) : ∀ e w, liK 83 (sbK f129 [1, 1, 1, 1, 1, 1, 1, 0, 1, 0, 1]) (blockK 1 (seqK (fun e w => Fn119_s0 R (e 0) (e 2) (e 5) (e 6) w) (fiK f129 R))) e w = Fn119_s7 R (e 0) (e 2) (e 5) (e 6) (e 36) (e 37) w := fun e w => (cond_seg (x := (sbK f129 [1, 1, 1, 1, 1, 1, 1, 0, 1, 0, 1, 0])) (y := (sbK f129 [1, 1, 1, 1, 1, 1, 1, 0, 1, 0, 1, 1])) (Fn119_s5_eq R) (Fn119_s6_eq R) e w).trans (by kernel_rfl)
def Fn119_s8 (R : KW) (x0 x2 x5 x6 x36 : Value) (w : World) : Prop :=
 qG prog (bq .eql 3 (.tmp 36) (.const (.int .i64 1)) x36 (.int .i64 1)) w fun t38 =>
 Fn119_s7 R x0 x2 x5 x6 x36 t38 w
theorem Fn119_s8_eq (R : KW) : ∀ e w, liK 83 (sbK f129 [1, 1, 1, 1, 1, 1, 1, 0, 1, 0]) (blockK 1 (seqK (fun e w => Fn119_s0 R (e 0) (e 2) (e 5) (e 6) w) (fiK f129 R))) e w = Fn119_s8 R (e 0) (e 2) (e 5) (e 6) (e 36) w :=
 segs_eq (l := [(sbK f129 [1, 1, 1, 1, 1, 1, 1, 0, 1, 0, 0])]) (y := (sbK f129 [1, 1, 1, 1, 1, 1, 1, 0, 1, 0, 1])) (Y := (fun e w => Fn119_s7 R (e 0) (e 2) (e 5) (e 6) (e 36) (e 37) w)) (Fn119_s7_eq R) (fun e w => by kernel_rfl)
def Fn119_s9 (R : KW) (x0 x2 x5 x6 : Value) (w : World) : Prop :=
 fa 0 x5 fun t35 =>
 ld1 t35 w fun t36 =>
 Fn119_s8 R x0 x2 x5 x6 t36 w
theorem Fn119_s9_eq (R : KW) : ∀ e w, liK 83 (sbK f129 [1, 1, 1, 1, 1, 1, 1, 0]) (seqK (fun e w => Fn119_s0 R (e 0) (e 2) (e 5) (e 6) w) (fiK f129 R)) e w = Fn119_s9 R (e 0) (e 2) (e 5) (e 6) w :=
 segs_eq (l := [(sbK f129 [1, 1, 1, 1, 1, 1, 1, 0, 0])]) (y := (sbK f129 [1, 1, 1, 1, 1, 1, 1, 0, 1])) (Y := (fun e w => Fn119_s8 R (e 0) (e 2) (e 5) (e 6) (e 36) w)) (Fn119_s8_eq R) (fun e w => by kernel_rfl)
def Fn119_s10 (R : KW) (x0 x2 x5 x6 : Value) (w : World) : Prop :=
 lenS x0 fun t31 =>
 qG prog (bq .lss 3 (.tmp 31) (.tmp 32) t31 x6) w fun t33 =>
 bV t33
 (ldn 3 x5 w fun t34 =>
 stn 3 x2 t34 w fun w =>
 qG prog (do loadVar 76 (← asAddr x2)) w fun r2 =>
 R (.tuple #[r2, (.string ⟨#[]⟩), (.bool false)]) w)
 (Fn119_s9 R x0 x2 x5 x6 w)
theorem Fn119_s10_eq (R : KW) : ∀ e w, liK 83 (sbK f129 [1, 1, 1, 1, 1, 1]) (fiK f129 R) e w = Fn119_s10 R (e 0) (e 2) (e 5) (e 6) w :=
 segs_eq (l := [(sbK f129 [1, 1, 1, 1, 1, 1, 0])]) (y := (sbK f129 [1, 1, 1, 1, 1, 1, 1])) (Y := (fun e w => Fn119_s9 R (e 0) (e 2) (e 5) (e 6) w)) (seq_seg (x := (sbK f129 [1, 1, 1, 1, 1, 1, 1, 0])) (y := (sbK f129 [1, 1, 1, 1, 1, 1, 1, 1])) (Fn119_s0_eq R) (Fn119_s9_eq R)) (fun e w => by kernel_rfl)
def Fn119_s11 (R : KW) (x0 : Value) (w : World) : Prop :=
 newG (zc prog 76) 76 w fun t2 w =>
 qG prog (bq .eql 9 (.tmp 9) (.const (.string ⟨#[]⟩)) x0 (.string ⟨#[]⟩)) w fun t10 =>
 bV t10
 (bld [(0, 1), (1, 1), (2, 1)] (zc prog 76) #[] fun t11 =>
 stn 3 t2 t11 w fun w =>
 qG prog (do loadVar 76 (← asAddr t2)) w fun r2 =>
 R (.tuple #[r2, (.string ⟨#[]⟩), (.bool false)]) w)
 (ixS x0 (.int .i64 0) fun t13 =>
 cvI .i64 t13 fun t14 =>
 bld [(0, 1), (1, 1), (2, 1)] (zc prog 76) #[(0, t14)] fun t15 =>
 newG (zc prog 76) 76 w fun t5 w =>
 stn 3 t5 t15 w fun w =>
 slS x0 (some (.int .i64 1)) none fun t17 =>
 fa 0 t5 fun t18 =>
 ld1 t18 w fun t19 =>
 qG prog (bq .eql 3 (.tmp 19) (.const (.int .i64 0)) t19 (.int .i64 0)) w fun t22 =>
 bV t22
 (ldn 3 t5 w fun t23 =>
 stn 3 t2 t23 w fun w =>
 qG prog (do loadVar 76 (← asAddr t2)) w fun r2_1 =>
 R (.tuple #[r2_1, t17, (.bool true)]) w)
 (qG prog (bq .eql 3 (.tmp 19) (.const (.int .i64 1)) t19 (.int .i64 1)) w fun t26 =>
 bV t26
 (Fn119_s10 R t17 t2 t5 (.int .i64 8) w)
 (qG prog (bq .eql 3 (.tmp 19) (.const (.int .i64 2)) t19 (.int .i64 2)) w fun t28 =>
 bV t28
 (Fn119_s10 R t17 t2 t5 (.int .i64 1) w)
 (qG prog (bq .eql 3 (.tmp 19) (.const (.int .i64 3)) t19 (.int .i64 3)) w fun t29 =>
 bV t29
 (Fn119_s10 R t17 t2 t5 (.int .i64 1) w)
 (ldn 3 t5 w fun t20 =>
 stn 3 t2 t20 w fun w =>
 qG prog (do loadVar 76 (← asAddr t2)) w fun r2_2 =>
 R (.tuple #[r2_2, (.string ⟨#[]⟩), (.bool false)]) w)))))
theorem Fn119_s11_eq (R : KW) : ∀ e w, liK 83 (bodyOf f129) (fiK f129 R) e w = Fn119_s11 R (e 0) w :=
 segs_eq (l := [(sbK f129 [0]), (sbK f129 [1, 0]), (sbK f129 [1, 1, 0]), (sbK f129 [1, 1, 1, 0]), (sbK f129 [1, 1, 1, 1, 0]), (sbK f129 [1, 1, 1, 1, 1, 0])]) (y := (sbK f129 [1, 1, 1, 1, 1, 1])) (Y := (fun e w => Fn119_s10 R (e 0) (e 2) (e 5) (e 6) w)) (Fn119_s10_eq R) (fun e w => by kernel_rfl)
def Fn119 (R : KW) (x0 : Value) (w : World) : Prop := Fn119_s11 R x0 w
theorem Fn119_call {R : KW} {x0 : Value} {w : World} (h : Fn119 R x0 w) : callG prog 129 #[x0] w R :=
 calls_lift_eq mixed func129 (args := [x0]) rfl rfl rfl rfl ((Fn119_s11_eq R) (envOf [x0]) w) (by kernel_rfl) h
def Fn117_s0 (R : KW) (x4 x5 : Value) (w : World) : Prop :=
 qG prog (bq .neq 9 (.tmp 31) (.const (.string ⟨#[]⟩)) x5 (.string ⟨#[]⟩)) w fun t32 =>
 bV t32
 (R (.tuple #[(.slice none 0 0), (.int .i64 50)]) w)
 (R (.tuple #[x4, (.int .i64 0)]) w)
theorem Fn117_s0_eq (R : KW) : ∀ e w, liK 34 (sbK f110 [1, 1, 1, 1, 1]) (fiK f110 R) e w = Fn117_s0 R (e 4) (e 5) w := fun e w => by kernel_rfl
def Fn117_b1 (R : KW) (N1 : KL) (x4 x5 x14 x15 : Value) (w : World) : Prop :=
 qG prog (bq .lss 5 (.tmp 15) (.tmp 14) x15 x14) w fun t16 =>
 bV t16
 (callG prog 129 #[x5] w fun t19 w =>
 qG prog (Instr.extract t19 0) w fun t20 =>
 qG prog (Instr.extract t19 1) w fun t21 =>
 qG prog (Instr.extract t19 2) w fun t22 =>
 newG (zc prog 76) 76 w fun t6 w =>
 stn 3 t6 t20 w fun w =>
 qG prog (Op.unary .not t22) w fun t24 =>
 bV t24
 (R (.tuple #[(.slice none 0 0), (.int .i64 50)]) w)
 (ldn 3 t6 w fun t26 =>
 bsl 76 3 1 (zc prog 76) #[(0, t26)] w fun t27 w =>
 app 76 3 32 (zc prog 76) x4 t27 w fun t28 w =>
 qG prog (bq .add 5 (.tmp 15) (.const (.int .u8 1)) x15 (.int .u8 1)) w fun t30 =>
 N1 [t28, t21, x14, t30] w))
 (Fn117_s0 R x4 x5 w)
theorem Fn117_b1_eq (R : KW) (N1 : KL) : ∀ e w, liK 34 (sbK f110 [1, 1, 1, 1, 0, 1, 0, 0]) (seqK (fun e w => N1 [e 4, e 5, e 14, e 15] w) (blockK 0 (seqK (fun e w => Fn117_s0 R (e 4) (e 5) w) (fiK f110 R)))) e w = Fn117_b1 R N1 (e 4) (e 5) (e 14) (e 15) w := fun e w => by kernel_rfl
def Fn117_L2F (R : KW) (N1 : KL) (xs : List Value) (w : World) : Prop :=
 match xs with
 | [x4, x5, x14, x15] => Fn117_b1 R N1 x4 x5 x14 x15 w
 | _ => False
def Fn117_L2 (R : KW) (x4 x5 x14 x15 : Value) (w : World) : Prop :=
 ∃ m, loopV (Fn117_L2F R) m [x4, x5, x14, x15] w
theorem Fn117_L2_eq (R : KW) : ∀ e w, liK 34 (sbK f110 [1, 1, 1, 1, 0, 1, 0]) (blockK 0 (seqK (fun e w => Fn117_s0 R (e 4) (e 5) w) (fiK f110 R))) e w = Fn117_L2 R (e 4) (e 5) (e 14) (e 15) w := loop_seg (F := Fn117_L2F R) (sel := fun e => [e 4, e 5, e 14, e 15]) fun N1 => (Fn117_b1_eq R N1)
def Fn117_s3 (R : KW) (x0 x4 x5 : Value) (w : World) : Prop :=
 ixS x0 (.int .i64 0) fun t14 =>
 Fn117_L2 R x4 x5 t14 (.int .u8 0) w
theorem Fn117_s3_eq (R : KW) : ∀ e w, liK 34 (sbK f110 [1, 1, 1, 1, 0]) (seqK (fun e w => Fn117_s0 R (e 4) (e 5) w) (fiK f110 R)) e w = Fn117_s3 R (e 0) (e 4) (e 5) w :=
 segs_eq (l := [(sbK f110 [1, 1, 1, 1, 0, 0])]) (y := (sbK f110 [1, 1, 1, 1, 0, 1])) (Y := (fun e w => Fn117_L2 R (e 4) (e 5) (e 14) (e 15) w)) (Fn117_L2_eq R) (fun e w => by kernel_rfl)
def Fn117_s4 (R : KW) (x0 : Value) (w : World) : Prop :=
 qG prog (bq .eql 9 (.tmp 9) (.const (.string ⟨#[]⟩)) x0 (.string ⟨#[]⟩)) w fun t10 =>
 bV t10
 (R (.tuple #[(.slice none 0 0), (.int .i64 50)]) w)
 (slS x0 (some (.int .i64 1)) none fun t12 =>
 Fn117_s3 R x0 (.slice none 0 0) t12 w)
theorem Fn117_s4_eq (R : KW) : ∀ e w, liK 34 (bodyOf f110) (fiK f110 R) e w = Fn117_s4 R (e 0) w :=
 segs_eq (l := [(sbK f110 [0]), (sbK f110 [1, 0]), (sbK f110 [1, 1, 0]), (sbK f110 [1, 1, 1, 0])]) (y := (sbK f110 [1, 1, 1, 1])) (Y := (fun e w => Fn117_s3 R (e 0) (e 4) (e 5) w)) (seq_seg (x := (sbK f110 [1, 1, 1, 1, 0])) (y := (sbK f110 [1, 1, 1, 1, 1])) (Fn117_s0_eq R) (Fn117_s3_eq R)) (fun e w => by kernel_rfl)
def Fn117 (R : KW) (x0 : Value) (w : World) : Prop := Fn117_s4 R x0 w
theorem Fn117_call {R : KW} {x0 : Value} {w : World} (h : Fn117 R x0 w) : callG prog 110 #[x0] w R :=
 calls_lift_eq mixed func110 (args := [x0]) rfl rfl rfl rfl ((Fn117_s4_eq R) (envOf [x0]) w) (by kernel_rfl) h
end Go.Proofs

set_option linter.unusedVariables false
set_option linter.unusedSimpArgs false
namespace Go.Proofs
open Go Go.Q Tryz
set_option maxRecDepth 100000
def Fn23_s0 (R : KW) (x0 : Value) (w : World) : Prop :=
 lenS x0 fun t4 =>
 qG prog (bq .geq 3 (.tmp 4) (.const (.int .i64 1)) t4 (.int .i64 1)) w fun t5 =>
 bV t5
 (lenS x0 fun t8 =>
 qG prog (bq .leq 3 (.tmp 8) (.const (.int .i64 64)) t8 (.int .i64 64)) w fun t9 =>
 R t9 w)
 (R (.bool false) w)
theorem Fn23_s0_eq (R : KW) : ∀ e w, liK 11 (bodyOf f119) (fiK f119 R) e w = Fn23_s0 R (e 0) w := fun e w => by kernel_rfl
def Fn23 (R : KW) (x0 : Value) (w : World) : Prop := Fn23_s0 R x0 w
theorem Fn23_call {R : KW} {x0 : Value} {w : World} (h : Fn23 R x0 w) : callG prog 119 #[x0] w R :=
 calls_lift_eq mixed func119 (args := [x0]) rfl rfl rfl rfl ((Fn23_s0_eq R) (envOf [x0]) w) (by kernel_rfl) h
def Fn81_s0 (R : KW) (x0 : Value) (w : World) : Prop :=
 lenS x0 fun t4 =>
 qG prog (bq .geq 3 (.tmp 4) (.const (.int .i64 1)) t4 (.int .i64 1)) w fun t5 =>
 bV t5
 (lenS x0 fun t8 =>
 qG prog (bq .leq 3 (.tmp 8) (.const (.int .i64 64)) t8 (.int .i64 64)) w fun t9 =>
 R t9 w)
 (R (.bool false) w)
theorem Fn81_s0_eq (R : KW) : ∀ e w, liK 11 (bodyOf f68) (fiK f68 R) e w = Fn81_s0 R (e 0) w := fun e w => by kernel_rfl
def Fn81 (R : KW) (x0 : Value) (w : World) : Prop := Fn81_s0 R x0 w
theorem Fn81_call {R : KW} {x0 : Value} {w : World} (h : Fn81 R x0 w) : callG prog 68 #[x0] w R :=
 calls_lift_eq mixed func68 (args := [x0]) rfl rfl rfl rfl ((Fn81_s0_eq R) (envOf [x0]) w) (by kernel_rfl) h
def Fn15_s0 (R : KW) (x1 x3 x4 : Value) (w : World) : Prop :=
 fa 0 x1 fun t113 =>
 ld1 t113 w fun t114 =>
 fa 0 x3 fun t115 =>
 st1 t115 t114 w fun w =>
 qG prog (Op.unary .not x4) w fun t117 =>
 bV t117
 (R (.int .i64 1) w)
 (ldn 7 x3 w fun t119 =>
 ldn 7 x1 w fun t120 =>
 qG prog (bq .neq 42 (.tmp 119) (.tmp 120) t119 t120) w fun t121 =>
 bV t121
 (R (.int .i64 1) w)
 (R (.int .i64 0) w))
theorem Fn15_s0_eq (R : KW) : ∀ e w, liK 123 (sbK f93 [1, 1, 1, 1]) (fiK f93 R) e w = Fn15_s0 R (e 1) (e 3) (e 4) w := fun e w => by kernel_rfl
def Fn15_s1 (R : KW) (x1 x3 x4 : Value) (w : World) : Prop :=
 fa 1 x1 fun t17 =>
 ld1 t17 w fun t18 =>
 fa 2 x1 fun t19 =>
 ld1 t19 w fun t20 =>
 fa 4 x1 fun t21 =>
 ld1 t21 w fun t22 =>
 bld [(0, 1), (1, 1), (2, 1), (3, 1), (4, 1), (5, 1), (6, 1)] (zc prog 42) #[(1, t18), (2, t20), (4, t22)] fun t23 =>
 stn 7 x3 t23 w fun w =>
 bV x4
 (fa 4 x1 fun t26 =>
 ld1 t26 w fun t27 =>
 qG prog (bq .geq 3 (.tmp 27) (.const (.int .i64 1)) t27 (.int .i64 1)) w fun t28 =>
 Fn15_s0 R x1 x3 t28 w)
 (Fn15_s0 R x1 x3 (.bool false) w)
theorem Fn15_s1_eq (R : KW) : ∀ e w, liK 123 (sbK f93 [1, 1, 1, 0, 1, 0, 1, 0]) (blockK 0 (seqK (fun e w => Fn15_s0 R (e 1) (e 3) (e 4) w) (fiK f93 R))) e w = Fn15_s1 R (e 1) (e 3) (e 4) w := fun e w => by kernel_rfl
def Fn15_s2 (R : KW) (x1 x3 x4 : Value) (w : World) : Prop :=
 fa 1 x1 fun t32 =>
 ld1 t32 w fun t33 =>
 fa 2 x1 fun t34 =>
 ld1 t34 w fun t35 =>
 fa 4 x1 fun t36 =>
 ld1 t36 w fun t37 =>
 fa 6 x1 fun t38 =>
 ld1 t38 w fun t39 =>
 bld [(0, 1), (1, 1), (2, 1), (3, 1), (4, 1), (5, 1), (6, 1)] (zc prog 42) #[(1, t33), (2, t35), (4, t37), (6, t39)] fun t40 =>
 stn 7 x3 t40 w fun w =>
 bV x4
 (fa 4 x1 fun t43 =>
 ld1 t43 w fun t44 =>
 qG prog (bq .geq 3 (.tmp 44) (.const (.int .i64 1)) t44 (.int .i64 1)) w fun t45 =>
 bV t45
 (fa 6 x1 fun t48 =>
 ld1 t48 w fun t49 =>
 qG prog (bq .geq 3 (.tmp 49) (.const (.int .i64 0)) t49 (.int .i64 0)) w fun t50 =>
 Fn15_s0 R x1 x3 t50 w)
 (Fn15_s0 R x1 x3 (.bool false) w))
 (Fn15_s0 R x1 x3 (.bool false) w)
theorem Fn15_s2_eq (R : KW) : ∀ e w, liK 123 (sbK f93 [1, 1, 1, 0, 1, 0, 1, 1, 1, 0]) (blockK 0 (seqK (fun e w => Fn15_s0 R (e 1) (e 3) (e 4) w) (fiK f93 R))) e w = Fn15_s2 R (e 1) (e 3) (e 4) w := fun e w => by kernel_rfl
def Fn15_s3 (R : KW) (x1 x3 x4 x14 x52 : Value) (w : World) : Prop :=
 bV x52
 (fa 5 x1 fun t55 =>
 ld1 t55 w fun t56 =>
 bld [(0, 1), (1, 1), (2, 1), (3, 1), (4, 1), (5, 1), (6, 1)] (zc prog 42) #[(5, t56)] fun t57 =>
 stn 7 x3 t57 w fun w =>
 fa 5 x1 fun t58 =>
 ld1 t58 w fun t59 =>
 qG prog (bq .geq 3 (.tmp 59) (.const (.int .i64 1)) t59 (.int .i64 1)) w fun t60 =>
 Fn15_s0 R x1 x3 t60 w)
 (qG prog (bq .eql 3 (.tmp 14) (.const (.int .i64 5)) x14 (.int .i64 5)) w fun t62 =>
 bV t62
 (fa 6 x1 fun t63 =>
 ld1 t63 w fun t64 =>
 bld [(0, 1), (1, 1), (2, 1), (3, 1), (4, 1), (5, 1), (6, 1)] (zc prog 42) #[(6, t64)] fun t65 =>
 stn 7 x3 t65 w fun w =>
 fa 6 x1 fun t66 =>
 ld1 t66 w fun t67 =>
 qG prog (bq .geq 3 (.tmp 67) (.const (.int .i64 0)) t67 (.int .i64 0)) w fun t68 =>
 Fn15_s0 R x1 x3 t68 w)
 (qG prog (bq .eql 3 (.tmp 14) (.const (.int .i64 6)) x14 (.int .i64 6)) w fun t70 =>
 bV t70
 (fa 1 x1 fun t71 =>
 ld1 t71 w fun t72 =>
 fa 2 x1 fun t73 =>
 ld1 t73 w fun t74 =>
 fa 3 x1 fun t75 =>
 ld1 t75 w fun t76 =>
 fa 4 x1 fun t77 =>
 ld1 t77 w fun t78 =>
 bld [(0, 1), (1, 1), (2, 1), (3, 1), (4, 1), (5, 1), (6, 1)] (zc prog 42) #[(1, t72), (2, t74), (3, t76), (4, t78)] fun t79 =>
 stn 7 x3 t79 w fun w =>
 bV x4
 (fa 3 x1 fun t82 =>
 ld1 t82 w fun t83 =>
 callG prog 119 #[t83] w fun t84 w =>
 bV t84
 (fa 3 x1 fun t87 =>
 ld1 t87 w fun t88 =>
 fa 2 x1 fun t89 =>
 ld1 t89 w fun t90 =>
 qG prog (bq .neq 9 (.tmp 88) (.tmp 90) t88 t90) w fun t91 =>
 bV t91
 (fa 4 x1 fun t94 =>
 ld1 t94 w fun t95 =>
 qG prog (bq .geq 3 (.tmp 95) (.const (.int .i64 1)) t95 (.int .i64 1)) w fun t96 =>
 Fn15_s0 R x1 x3 t96 w)
 (Fn15_s0 R x1 x3 (.bool false) w))
 (Fn15_s0 R x1 x3 (.bool false) w))
 (Fn15_s0 R x1 x3 (.bool false) w))
 (qG prog (bq .eql 3 (.tmp 14) (.const (.int .i64 7)) x14 (.int .i64 7)) w fun t99 =>
 bV t99
 (fa 1 x1 fun t100 =>
 ld1 t100 w fun t101 =>
 fa 2 x1 fun t102 =>
 ld1 t102 w fun t103 =>
 fa 4 x1 fun t104 =>
 ld1 t104 w fun t105 =>
 bld [(0, 1), (1, 1), (2, 1), (3, 1), (4, 1), (5, 1), (6, 1)] (zc prog 42) #[(1, t101), (2, t103), (4, t105)] fun t106 =>
 stn 7 x3 t106 w fun w =>
 bV x4
 (fa 4 x1 fun t109 =>
 ld1 t109 w fun t110 =>
 qG prog (bq .neq 3 (.tmp 110) (.const (.int .i64 0)) t110 (.int .i64 0)) w fun t111 =>
 Fn15_s0 R x1 x3 t111 w)
 (Fn15_s0 R x1 x3 (.bool false) w))
 (Fn15_s0 R x1 x3 (.bool false) w))))
theorem Fn15_s3_eq (R : KW) : ∀ e w, liK 123 (sbK f93 [1, 1, 1, 0, 1, 0, 1, 1, 1, 1, 1]) (blockK 0 (seqK (fun e w => Fn15_s0 R (e 1) (e 3) (e 4) w) (fiK f93 R))) e w = Fn15_s3 R (e 1) (e 3) (e 4) (e 14) (e 52) w := fun e w => by kernel_rfl
def Fn15_s4 (R : KW) (x1 x3 x4 x14 : Value) (w : World) : Prop :=
 qG prog (bq .eql 3 (.tmp 14) (.const (.int .i64 3)) x14 (.int .i64 3)) w fun t53 =>
 bV t53
 (Fn15_s3 R x1 x3 x4 x14 (.bool true) w)
 (qG prog (bq .eql 3 (.tmp 14) (.const (.int .i64 4)) x14 (.int .i64 4)) w fun t54 =>
 Fn15_s3 R x1 x3 x4 x14 t54 w)
theorem Fn15_s4_eq (R : KW) : ∀ e w, liK 123 (sbK f93 [1, 1, 1, 0, 1, 0, 1, 1, 1, 1]) (blockK 0 (seqK (fun e w => Fn15_s0 R (e 1) (e 3) (e 4) w) (fiK f93 R))) e w = Fn15_s4 R (e 1) (e 3) (e 4) (e 14) w :=
 segs_eq (l := [(sbK f93 [1, 1, 1, 0, 1, 0, 1, 1, 1, 1, 0])]) (y := (sbK f93 [1, 1, 1, 0, 1, 0, 1, 1, 1, 1, 1])) (Y := (fun e w => Fn15_s3 R (e 1) (e 3) (e 4) (e 14) (e 52) w)) (Fn15_s3_eq R) (fun e w => by kernel_rfl)
def Fn15_s5 (R : KW) (x1 x3 x4 x14 x30 : Value) (w : World) : Prop :=
 bV x30 (Fn15_s2 R x1 x3 x4 w) (Fn15_s4 R x1 x3 x4 x14 w)
theorem Fn15_s5_eq (R : KW) : ∀ e w, liK 123 (sbK f93 [1, 1, 1, 0, 1, 0, 1, 1, 1]) (blockK 0 (seqK (fun e w => Fn15_s0 R (e 1) (e 3) (e 4) w) (fiK f93 R))) e w = Fn15_s5 R (e 1) (e 3) (e 4) (e 14) (e 30) w := fun e w => (cond_seg (x := (sbK f93 [1, 1, 1, 0, 1, 0, 1, 1, 1, 0])) (y := (sbK f93 [1, 1, 1, 0, 1, 0, 1, 1, 1, 1])) (Fn15_s2_eq R) (Fn15_s4_eq R) e w).trans (by kernel_rfl)
def Fn15_s6 (R : KW) (x1 x3 x4 x14 : Value) (w : World) : Prop :=
 qG prog (bq .eql 3 (.tmp 14) (.const (.int .i64 2)) x14 (.int .i64 2)) w fun t31 =>
 Fn15_s5 R x1 x3 x4 x14 t31 w
theorem Fn15_s6_eq (R : KW) : ∀ e w, liK 123 (sbK f93 [1, 1, 1, 0, 1, 0, 1, 1]) (blockK 0 (seqK (fun e w => Fn15_s0 R (e 1) (e 3) (e 4) w) (fiK f93 R))) e w = Fn15_s6 R (e 1) (e 3) (e 4) (e 14) w :=
 segs_eq (l := [(sbK f93 [1, 1, 1, 0, 1, 0, 1, 1, 0])]) (y := (sbK f93 [1, 1, 1, 0, 1, 0, 1, 1, 1])) (Y := (fun e w => Fn15_s5 R (e 1) (e 3) (e 4) (e 14) (e 30) w)) (Fn15_s5_eq R) (fun e w => by kernel_rfl)
def Fn15_s7 (R : KW) (x1 x3 x4 x14 x15 : Value) (w : World) : Prop :=
 bV x15 (Fn15_s1 R x1 x3 x4 w) (Fn15_s6 R x1 x3 x4 x14 w)
theorem Fn15_s7_eq (R : KW) : ∀ e w, liK 123 (sbK f93 [1, 1, 1, 0, 1, 0, 1]) (blockK 0 (seqK (fun e w => Fn15_s0 R (e 1) (e 3) (e 4) w) (fiK f93 R))) e w = Fn15_s7 R (e 1) (e 3) (e 4) (e 14) (e 15) w := fun e w => (cond_seg (x := (sbK f93 [1, 1, 1, 0, 1, 0, 1, 0])) (y := (sbK f93 [1, 1, 1, 0, 1, 0, 1, 1])) (Fn15_s1_eq R) (Fn15_s6_eq R) e w).trans (by kernel_rfl)
def Fn15_s8 (R : KW) (x1 x3 x4 x14 : Value) (w : World) : Prop :=
 qG prog (bq .eql 3 (.tmp 14) (.const (.int .i64 1)) x14 (.int .i64 1)) w fun t16 =>
 Fn15_s7 R x1 x3 x4 x14 t16 w
theorem Fn15_s8_eq (R : KW) : ∀ e w, liK 123 (sbK f93 [1, 1, 1, 0, 1, 0]) (blockK 0 (seqK (fun e w => Fn15_s0 R (e 1) (e 3) (e 4) w) (fiK f93 R))) e w = Fn15_s8 R (e 1) (e 3) (e 4) (e 14) w :=
 segs_eq (l := [(sbK f93 [1, 1, 1, 0, 1, 0, 0])]) (y := (sbK f93 [1, 1, 1, 0, 1, 0, 1])) (Y := (fun e w => Fn15_s7 R (e 1) (e 3) (e 4) (e 14) (e 15) w)) (Fn15_s7_eq R) (fun e w => by kernel_rfl)
def Fn15_s9 (R : KW) (x1 x3 x4 : Value) (w : World) : Prop :=
 fa 0 x1 fun t13 =>
 ld1 t13 w fun t14 =>
 Fn15_s8 R x1 x3 x4 t14 w
theorem Fn15_s9_eq (R : KW) : ∀ e w, liK 123 (sbK f93 [1, 1, 1, 0]) (seqK (fun e w => Fn15_s0 R (e 1) (e 3) (e 4) w) (fiK f93 R)) e w = Fn15_s9 R (e 1) (e 3) (e 4) w :=
 segs_eq (l := [(sbK f93 [1, 1, 1, 0, 0])]) (y := (sbK f93 [1, 1, 1, 0, 1])) (Y := (fun e w => Fn15_s8 R (e 1) (e 3) (e 4) (e 14) w)) (Fn15_s8_eq R) (fun e w => by kernel_rfl)
def Fn15_s10 (R : KW) (x0 : Value) (w : World) : Prop :=
 newG (Value.cells x0) 42 w fun t1 w =>
 newG (zc prog 42) 42 w fun t3 w =>
 fa 1 t1 fun t5 =>
 ld1 t5 w fun t6 =>
 callG prog 119 #[t6] w fun t7 w =>
 bV t7
 (fa 2 t1 fun t9 =>
 ld1 t9 w fun t10 =>
 callG prog 119 #[t10] w fun t11 w =>
 Fn15_s9 R t1 t3 t11 w)
 (Fn15_s9 R t1 t3 (.bool false) w)
theorem Fn15_s10_eq (R : KW) : ∀ e w, liK 123 (bodyOf f93) (fiK f93 R) e w = Fn15_s10 R (e 0) w :=
 segs_eq (l := [(sbK f93 [0]), (sbK f93 [1, 0]), (sbK f93 [1, 1, 0])]) (y := (sbK f93 [1, 1, 1])) (Y := (fun e w => Fn15_s9 R (e 1) (e 3) (e 4) w)) (seq_seg (x := (sbK f93 [1, 1, 1, 0])) (y := (sbK f93 [1, 1, 1, 1])) (Fn15_s0_eq R) (Fn15_s9_eq R)) (fun e w => by kernel_rfl)
def Fn15 (R : KW) (x0 : Value) (w : World) : Prop := Fn15_s10 R x0 w
theorem Fn15_call {R : KW} {x0 : Value} {w : World} (h : Fn15 R x0 w) : callG prog 93 #[x0] w R :=
 calls_lift_eq mixed func93 (args := [x0]) rfl rfl rfl rfl ((Fn15_s10_eq R) (envOf [x0]) w) (by kernel_rfl) h
def Fn24_s0 (R : KW) (x0 : Value) (w : World) : Prop :=
 newG (zc prog 76) 76 w fun t2 w =>
 bld [(0, 1), (1, 1), (2, 1)] (zc prog 76) #[(0, (.int .i64 1)), (1, x0)] fun t4 =>
 stn 3 t2 t4 w fun w =>
 qG prog (do loadVar 76 (← asAddr t2)) w fun r2 =>
 R r2 w
theorem Fn24_s0_eq (R : KW) : ∀ e w, liK 5 (bodyOf f64) (fiK f64 R) e w = Fn24_s0 R (e 0) w := fun e w => by kernel_rfl
def Fn24 (R : KW) (x0 : Value) (w : World) : Prop := Fn24_s0 R x0 w
theorem Fn24_call {R : KW} {x0 : Value} {w : World} (h : Fn24 R x0 w) : callG prog 64 #[x0] w R :=
 calls_lift_eq mixed func64 (args := [x0]) rfl rfl rfl rfl ((Fn24_s0_eq R) (envOf [x0]) w) (by kernel_rfl) h
def Fn28_s0 (R : KW) (x0 : Value) (w : World) : Prop :=
 newG (zc prog 76) 76 w fun t2 w =>
 bld [(0, 1), (1, 1), (2, 1)] (zc prog 76) #[(0, (.int .i64 2)), (2, x0)] fun t4 =>
 stn 3 t2 t4 w fun w =>
 qG prog (do loadVar 76 (← asAddr t2)) w fun r2 =>
 R r2 w
theorem Fn28_s0_eq (R : KW) : ∀ e w, liK 5 (bodyOf f63) (fiK f63 R) e w = Fn28_s0 R (e 0) w := fun e w => by kernel_rfl
def Fn28 (R : KW) (x0 : Value) (w : World) : Prop := Fn28_s0 R x0 w
theorem Fn28_call {R : KW} {x0 : Value} {w : World} (h : Fn28 R x0 w) : callG prog 63 #[x0] w R :=
 calls_lift_eq mixed func63 (args := [x0]) rfl rfl rfl rfl ((Fn28_s0_eq R) (envOf [x0]) w) (by kernel_rfl) h
def Fn26_s0 (R : KW) (x0 : Value) (w : World) : Prop :=
 newG (zc prog 76) 76 w fun t2 w =>
 qG prog (bq .eql 3 (.tmp 3) (.const (.int .i64 0)) x0 (.int .i64 0)) w fun t4 =>
 bV t4
 (bld [(0, 1), (1, 1), (2, 1)] (zc prog 76) #[] fun t5 =>
 stn 3 t2 t5 w fun w =>
 qG prog (do loadVar 76 (← asAddr t2)) w fun r2 =>
 R r2 w)
 (callG prog 64 #[x0] w fun t7 w =>
 stn 3 t2 t7 w fun w =>
 qG prog (do loadVar 76 (← asAddr t2)) w fun r2_1 =>
 R r2_1 w)
theorem Fn26_s0_eq (R : KW) : ∀ e w, liK 8 (bodyOf f66) (fiK f66 R) e w = Fn26_s0 R (e 0) w := fun e w => by kernel_rfl
def Fn26 (R : KW) (x0 : Value) (w : World) : Prop := Fn26_s0 R x0 w
theorem Fn26_call {R : KW} {x0 : Value} {w : World} (h : Fn26 R x0 w) : callG prog 66 #[x0] w R :=
 calls_lift_eq mixed func66 (args := [x0]) rfl rfl rfl rfl ((Fn26_s0_eq R) (envOf [x0]) w) (by kernel_rfl) h
def Fn25_s0 (R : KW) (x0 : Value) (w : World) : Prop :=
 R x0 w
theorem Fn25_s0_eq (R : KW) : ∀ e w, liK 4 (bodyOf f62) (fiK f62 R) e w = Fn25_s0 R (e 0) w := fun e w => by kernel_rfl
def Fn25 (R : KW) (x0 : Value) (w : World) : Prop := Fn25_s0 R x0 w
theorem Fn25_call {R : KW} {x0 : Value} {w : World} (h : Fn25 R x0 w) : callG prog 62 #[x0] w R :=
 calls_lift_eq mixed func62 (args := [x0]) rfl rfl rfl rfl ((Fn25_s0_eq R) (envOf [x0]) w) (by kernel_rfl) h
def Fn84_s0 (R : KW) (x0 : Value) (w : World) : Prop :=
 newG (zc prog 76) 76 w fun t2 w =>
 bld [(0, 1), (1, 1), (2, 1)] (zc prog 76) #[(0, (.int .i64 1)), (1, x0)] fun t4 =>
 stn 3 t2 t4 w fun w =>
 qG prog (do loadVar 76 (← asAddr t2)) w fun r2 =>
 R r2 w
theorem Fn84_s0_eq (R : KW) : ∀ e w, liK 5 (bodyOf f75) (fiK f75 R) e w = Fn84_s0 R (e 0) w := fun e w => by kernel_rfl
def Fn84 (R : KW) (x0 : Value) (w : World) : Prop := Fn84_s0 R x0 w
theorem Fn84_call {R : KW} {x0 : Value} {w : World} (h : Fn84 R x0 w) : callG prog 75 #[x0] w R :=
 calls_lift_eq mixed func75 (args := [x0]) rfl rfl rfl rfl ((Fn84_s0_eq R) (envOf [x0]) w) (by kernel_rfl) h
def Fn87_s0 (R : KW) (x0 : Value) (w : World) : Prop :=
 newG (zc prog 76) 76 w fun t2 w =>
 bld [(0, 1), (1, 1), (2, 1)] (zc prog 76) #[(0, (.int .i64 2)), (2, x0)] fun t4 =>
 stn 3 t2 t4 w fun w =>
 qG prog (do loadVar 76 (← asAddr t2)) w fun r2 =>
 R r2 w
theorem Fn87_s0_eq (R : KW) : ∀ e w, liK 5 (bodyOf f74) (fiK f74 R) e w = Fn87_s0 R (e 0) w := fun e w => by kernel_rfl
def Fn87 (R : KW) (x0 : Value) (w : World) : Prop := Fn87_s0 R x0 w
theorem Fn87_call {R : KW} {x0 : Value} {w : World} (h : Fn87 R x0 w) : callG prog 74 #[x0] w R :=
 calls_lift_eq mixed func74 (args := [x0]) rfl rfl rfl rfl ((Fn87_s0_eq R) (envOf [x0]) w) (by kernel_rfl) h
def Fn85_s0 (R : KW) (x0 : Value) (w : World) : Prop :=
 newG (zc prog 76) 76 w fun t2 w =>
 qG prog (bq .eql 3 (.tmp 3) (.const (.int .i64 0)) x0 (.int .i64 0)) w fun t4 =>
 bV t4
 (bld [(0, 1), (1, 1), (2, 1)] (zc prog 76) #[] fun t5 =>
 stn 3 t2 t5 w fun w =>
 qG prog (do loadVar 76 (← asAddr t2)) w fun r2 =>
 R r2 w)
 (callG prog 75 #[x0] w fun t7 w =>
 stn 3 t2 t7 w fun w =>
 qG prog (do loadVar 76 (← asAddr t2)) w fun r2_1 =>
 R r2_1 w)
theorem Fn85_s0_eq (R : KW) : ∀ e w, liK 8 (bodyOf f77) (fiK f77 R) e w = Fn85_s0 R (e 0) w := fun e w => by kernel_rfl
def Fn85 (R : KW) (x0 : Value) (w : World) : Prop := Fn85_s0 R x0 w
theorem Fn85_call {R : KW} {x0 : Value} {w : World} (h : Fn85 R x0 w) : callG prog 77 #[x0] w R :=
 calls_lift_eq mixed func77 (args := [x0]) rfl rfl rfl rfl ((Fn85_s0_eq R) (envOf [x0]) w) (by kernel_rfl) h
def Fn21_s0 (R : KW) (w : World) : Prop :=
 R (.bool true) w
theorem Fn21_s0_eq (R : KW) : ∀ e w, liK 52 (sbK f116 [1, 1, 1]) (fiK f116 R) e w = Fn21_s0 R w := fun e w => by kernel_rfl
def Fn21_s1 (R : KW) (N1 : KL) (x1 x13 x14 x15 : Value) (w : World) : Prop :=
 qG prog (bq .add 3 (.tmp 15) (.const (.int .i64 1)) x15 (.int .i64 1)) w fun t51 =>
 N1 [x1, x13, x14, t51] w
theorem Fn21_s1_eq (R : KW) (N1 : KL) : ∀ e w, liK 52 (sbK f116 [1, 1, 0, 1, 0, 0, 1, 1, 1]) (seqK (fun e w => N1 [e 1, e 13, e 14, e 15] w) (blockK 0 (seqK (fun e w => Fn21_s0 R  w) (fiK f116 R)))) e w = Fn21_s1 R N1 (e 1) (e 13) (e 14) (e 15) w := fun e w => by kernel_rfl
def Fn21_s2 (R : KW) (N1 : KL) (x1 x5 x6 x7 x13 x14 x15 : Value) (w : World) : Prop :=
 fa 0 x6 fun t35 =>
 ld1 t35 (World.drew w) fun t36 =>
 ia 1 x1 x5 fun t39 =>
 ld1 t39 (World.drew w) fun t40 =>
 qG prog (bq .neq 3 (.tmp 36) (.tmp 40) t36 t40) (World.drew w) fun t41 =>
 bV t41
 (qG prog (Op.unary .not x7) (World.drew w) fun t44 =>
 bV t44
 (R (.bool false) (World.drew w))
 (ldn 3 x6 (World.drew w) fun t47 =>
 callG prog 58 #[t47] (World.drew w) fun t48 w =>
 qG prog (bq .neq 30 (.tmp 48) (.const (.int .i64 0)) t48 (.int .i64 0)) w fun t49 =>
 bV t49
 (R (.bool false) w)
 (Fn21_s1 R N1 x1 x13 x14 x15 w)))
 (ldn 3 x6 (World.drew w) fun t47_1 =>
 callG prog 58 #[t47_1] (World.drew w) fun t48_1 w =>
 qG prog (bq .neq 30 (.tmp 48) (.const (.int .i64 0)) t48_1 (.int .i64 0)) w fun t49_1 =>
 bV t49_1
 (R (.bool false) w)
 (Fn21_s1 R N1 x1 x13 x14 x15 w))
theorem Fn21_s2_eq (R : KW) (N1 : KL) : ∀ e w, liK 52 (sbK f116 [1, 1, 0, 1, 0, 0, 1, 1, 0, 0, 1, 1]) (blockK 1 (seqK (fun e w => Fn21_s1 R N1 (e 1) (e 13) (e 14) (e 15) w) (seqK (fun e w => N1 [e 1, e 13, e 14, e 15] w) (blockK 0 (seqK (fun e w => Fn21_s0 R  w) (fiK f116 R)))))) e w = Fn21_s2 R N1 (e 1) (e 5) (e 6) (e 7) (e 13) (e 14) (e 15) w := fun e w => by kernel_rfl
def Fn21_s3 (R : KW) (N1 : KL) (x1 x13 x14 x15 : Value) (w : World) : Prop :=
 ia 3 x13 x15 fun t18 =>
 ldn 3 t18 w fun t19 =>
 newG (zc prog 76) 76 w fun t6 w =>
 stn 3 t6 t19 w fun w =>
 ia 1 x1 x15 fun t22 =>
 ld1 t22 w fun t23 =>
 qG prog (bq .eql 3 (.tmp 23) (.const (.int .i64 0)) t23 (.int .i64 0)) w fun t24 =>
 bV t24
 (fa 0 t6 fun t26 =>
 ld1 t26 w fun t27 =>
 qG prog (bq .eql 3 (.tmp 27) (.const (.int .i64 1)) t27 (.int .i64 1)) w fun t28 =>
 bV t28
 (fa 1 t6 fun t31 =>
 ld1 t31 w fun t32 =>
 qG prog (bq .neq 3 (.tmp 32) (.const (.int .i64 0)) t32 (.int .i64 0)) w fun t33 =>
 Fn21_s2 R N1 x1 x15 t6 t33 x13 x14 x15 w)
 (Fn21_s2 R N1 x1 x15 t6 (.bool false) x13 x14 x15 w))
 (Fn21_s2 R N1 x1 x15 t6 (.bool false) x13 x14 x15 w)
theorem Fn21_s3_eq (R : KW) (N1 : KL) : ∀ e w, liK 52 (sbK f116 [1, 1, 0, 1, 0, 0, 1, 1, 0, 0]) (blockK 1 (seqK (fun e w => Fn21_s1 R N1 (e 1) (e 13) (e 14) (e 15) w) (seqK (fun e w => N1 [e 1, e 13, e 14, e 15] w) (blockK 0 (seqK (fun e w => Fn21_s0 R  w) (fiK f116 R)))))) e w = Fn21_s3 R N1 (e 1) (e 13) (e 14) (e 15) w :=
 segs_eq (l := [(sbK f116 [1, 1, 0, 1, 0, 0, 1, 1, 0, 0, 0]), (sbK f116 [1, 1, 0, 1, 0, 0, 1, 1, 0, 0, 1, 0])]) (y := (sbK f116 [1, 1, 0, 1, 0, 0, 1, 1, 0, 0, 1, 1])) (Y := (fun e w => Fn21_s2 R N1 (e 1) (e 5) (e 6) (e 7) (e 13) (e 14) (e 15) w)) (Fn21_s2_eq R N1) (fun e w => by kernel_rfl)
def Fn21_s4 (R : KW) (N1 : KL) (x1 x13 x14 x15 : Value) (w : World) : Prop :=
 qG prog (bq .lss 3 (.tmp 15) (.tmp 14) x15 x14) w fun t16 =>
 bV t16
 (Fn21_s3 R N1 x1 x13 x14 x15 w)
 (Fn21_s0 R  w)
theorem Fn21_s4_eq (R : KW) (N1 : KL) : ∀ e w, liK 52 (sbK f116 [1, 1, 0, 1, 0, 0]) (seqK (fun e w => N1 [e 1, e 13, e 14, e 15] w) (blockK 0 (seqK (fun e w => Fn21_s0 R  w) (fiK f116 R)))) e w = Fn21_s4 R N1 (e 1) (e 13) (e 14) (e 15) w :=
 segs_eq (l := [(sbK f116 [1, 1, 0, 1, 0, 0, 0]), (sbK f116 [1, 1, 0, 1, 0, 0, 1, 0])]) (y := (sbK f116 [1, 1, 0, 1, 0, 0, 1, 1])) (Y := (fun e w => Fn21_s3 R N1 (e 1) (e 13) (e 14) (e 15) w)) (seq_seg (x := (sbK f116 [1, 1, 0, 1, 0, 0, 1, 1, 0])) (y := (sbK f116 [1, 1, 0, 1, 0, 0, 1, 1, 1])) (Fn21_s1_eq R N1) (Fn21_s3_eq R N1)) (fun e w => by kernel_rfl)
def Fn21_L5F (R : KW) (N1 : KL) (xs : List Value) (w : World) : Prop :=
 match xs with
 | [x1, x13, x14, x15] => Fn21_s4 R N1 x1 x13 x14 x15 w
 | _ => False
def Fn21_L5 (R : KW) (x1 x13 x14 x15 : Value) (w : World) : Prop :=
 ∃ m, loopV (Fn21_L5F R) m [x1, x13, x14, x15] w
theorem Fn21_L5_eq (R : KW) : ∀ e w, liK 52 (sbK f116 [1, 1, 0, 1, 0]) (blockK 0 (seqK (fun e w => Fn21_s0 R  w) (fiK f116 R))) e w = Fn21_L5 R (e 1) (e 13) (e 14) (e 15) w := loop_seg (F := Fn21_L5F R) (sel := fun e => [e 1, e 13, e 14, e 15]) fun N1 => (Fn21_s4_eq R N1)
def Fn21_s6 (R : KW) (x0 x1 : Value) (w : World) : Prop :=
 lenL x0 fun t14 =>
 Fn21_L5 R x1 x0 t14 (.int .i64 0) w
theorem Fn21_s6_eq (R : KW) : ∀ e w, liK 52 (sbK f116 [1, 1, 0]) (seqK (fun e w => Fn21_s0 R  w) (fiK f116 R)) e w = Fn21_s6 R (e 0) (e 1) w :=
 segs_eq (l := [(sbK f116 [1, 1, 0, 0])]) (y := (sbK f116 [1, 1, 0, 1])) (Y := (fun e w => Fn21_L5 R (e 1) (e 13) (e 14) (e 15) w)) (Fn21_L5_eq R) (fun e w => by kernel_rfl)
def Fn21_s7 (R : KW) (x0 x1 : Value) (w : World) : Prop :=
 lenL x0 fun t9 =>
 lenL x1 fun t11 =>
 qG prog (bq .neq 3 (.tmp 9) (.tmp 11) t9 t11) w fun t12 =>
 bV t12
 (R (.bool false) w)
 (Fn21_s6 R x0 x1 w)
theorem Fn21_s7_eq (R : KW) : ∀ e w, liK 52 (bodyOf f116) (fiK f116 R) e w = Fn21_s7 R (e 0) (e 1) w :=
 segs_eq (l := [(sbK f116 [0]), (sbK f116 [1, 0])]) (y := (sbK f116 [1, 1])) (Y := (fun e w => Fn21_s6 R (e 0) (e 1) w)) (seq_seg (x := (sbK f116 [1, 1, 0])) (y := (sbK f116 [1, 1, 1])) (Fn21_s0_eq R) (Fn21_s6_eq R)) (fun e w => by kernel_rfl)
def Fn21 (R : KW) (x0 x1 : Value) (w : World) : Prop := Fn21_s7 R x0 x1 w
theorem Fn21_call {R : KW} {x0 x1 : Value} {w : World} (h : Fn21 R x0 x1 w) : callG prog 116 #[x0, x1] w R :=
 calls_lift_eq mixed func116 (args := [x0, x1]) rfl rfl rfl rfl ((Fn21_s7_eq R) (envOf [x0, x1]) w) (by kernel_rfl) h
def Fn18_s0 (R : KW) (x0 : Value) (w : World) : Prop :=
 newG (Value.cells x0) 42 w fun t1 w =>
 ldn 7 t1 w fun t5 =>
 callG prog 93 #[t5] w fun t6 w =>
 qG prog (bq .neq 30 (.tmp 7) (.const (.int .i64 0)) t6 (.int .i64 0)) w fun t8 =>
 bV t8
 (R (.tuple #[(.string ⟨#[]⟩), t6]) w)
 (fa 0 t1 fun t10 =>
 ld1 t10 (World.drew w) fun t11 =>
 fa 1 t1 fun t13 =>
 ld1 t13 (World.drew w) fun t14 =>
 fa 2 t1 fun t16 =>
 ld1 t16 (World.drew w) fun t17 =>
 fa 3 t1 fun t19 =>
 ld1 t19 (World.drew w) fun t20 =>
 fa 4 t1 fun t22 =>
 ld1 t22 (World.drew w) fun t23 =>
 fa 5 t1 fun t25 =>
 ld1 t25 (World.drew w) fun t26 =>
 fa 6 t1 fun t28 =>
 ld1 t28 (World.drew w) fun t29 =>
 callG prog 64 #[t11] (World.drew w) fun t12 w =>
 ld1 t28 w (fun u => u = t29) ∧
 ld1 t25 w (fun u => u = t26) ∧
 ld1 t22 w (fun u => u = t23) ∧
 ld1 t19 w (fun u => u = t20) ∧
 ld1 t16 w (fun u => u = t17) ∧
 ld1 t13 w (fun u => u = t14) ∧
 callG prog 63 #[t14] w fun t15 w =>
 ld1 t28 w (fun u => u = t29) ∧
 ld1 t25 w (fun u => u = t26) ∧
 ld1 t22 w (fun u => u = t23) ∧
 ld1 t19 w (fun u => u = t20) ∧
 ld1 t16 w (fun u => u = t17) ∧
 callG prog 63 #[t17] w fun t18 w =>
 ld1 t28 w (fun u => u = t29) ∧
 ld1 t25 w (fun u => u = t26) ∧
 ld1 t22 w (fun u => u = t23) ∧
 ld1 t19 w (fun u => u = t20) ∧
 callG prog 63 #[t20] w fun t21 w =>
 ld1 t28 w (fun u => u = t29) ∧
 ld1 t25 w (fun u => u = t26) ∧
 ld1 t22 w (fun u => u = t23) ∧
 callG prog 64 #[t23] w fun t24 w =>
 ld1 t28 w (fun u => u = t29) ∧
 ld1 t25 w (fun u => u = t26) ∧
 callG prog 64 #[t26] w fun t27 w =>
 ld1 t28 w (fun u => u = t29) ∧
 callG prog 64 #[t29] w fun t30 w =>
 bsl 76 3 7 (zc prog 76) #[(0, t12), (1, t15), (2, t18), (3, t21), (4, t24), (5, t27), (6, t30)] w fun t31 w =>
 callG prog 62 #[t31] w fun t32 w =>
 callG prog 24 #[t32] w fun t33 w =>
 qG prog (Instr.extract t33 0) w fun t34 =>
 qG prog (Instr.extract t33 1) w fun t35 =>
 R (.tuple #[t34, t35]) w)
theorem Fn18_s0_eq (R : KW) : ∀ e w, liK 36 (bodyOf f43) (fiK f43 R) e w = Fn18_s0 R (e 0) w := fun e w => by kernel_rfl
def Fn18 (R : KW) (x0 : Value) (w : World) : Prop := Fn18_s0 R x0 w
theorem Fn18_call {R : KW} {x0 : Value} {w : World} (h : Fn18 R x0 w) : callG prog 43 #[x0] w R :=
 calls_lift_eq mixed func43 (args := [x0]) rfl rfl rfl rfl ((Fn18_s0_eq R) (envOf [x0]) w) (by kernel_rfl) h
def Fn20_s0 (R : KW) (x2 x4 : Value) (w : World) : Prop :=
 ia 3 x4 (.int .i64 0) fun t22 =>
 fa 1 t22 fun t23 =>
 ld1 t23 (World.drew w) fun t24 =>
 ia 3 x4 (.int .i64 1) fun t26 =>
 fa 2 t26 fun t27 =>
 ld1 t27 (World.drew w) fun t28 =>
 ia 3 x4 (.int .i64 2) fun t30 =>
 fa 2 t30 fun t31 =>
 ld1 t31 (World.drew w) fun t32 =>
 ia 3 x4 (.int .i64 3) fun t34 =>
 fa 2 t34 fun t35 =>
 ld1 t35 (World.drew w) fun t36 =>
 ia 3 x4 (.int .i64 4) fun t38 =>
 fa 1 t38 fun t39 =>
 ld1 t39 (World.drew w) fun t40 =>
 ia 3 x4 (.int .i64 5) fun t42 =>
 fa 1 t42 fun t43 =>
 ld1 t43 (World.drew w) fun t44 =>
 ia 3 x4 (.int .i64 6) fun t46 =>
 fa 1 t46 fun t47 =>
 ld1 t47 (World.drew w) fun t48 =>
 bld [(0, 1), (1, 1), (2, 1), (3, 1), (4, 1), (5, 1), (6, 1)] (zc prog 42) #[(0, t24), (1, t28), (2, t32), (3, t36), (4, t40), (5, t44), (6, t48)] fun t49 =>
 newG (zc prog 42) 42 (World.drew w) fun t6 w =>
 ld1 t47 w (fun u => u = t48) ∧
 ld1 t43 w (fun u => u = t44) ∧
 ld1 t39 w (fun u => u = t40) ∧
 ld1 t35 w (fun u => u = t36) ∧
 ld1 t31 w (fun u => u = t32) ∧
 ld1 t27 w (fun u => u = t28) ∧
 ld1 t23 w (fun u => u = t24) ∧
 stn 7 t6 t49 w fun w =>
 ldn 7 t6 w fun t50 =>
 callG prog 93 #[t50] w fun t51 w =>
 qG prog (bq .neq 30 (.tmp 51) (.const (.int .i64 0)) t51 (.int .i64 0)) w fun t52 =>
 bV t52
 (bld [(0, 1), (1, 1), (2, 1), (3, 1), (4, 1), (5, 1), (6, 1)] (zc prog 42) #[] fun t53 =>
 stn 7 x2 t53 w fun w =>
 qG prog (do loadVar 42 (← asAddr x2)) w fun r2 =>
 R (.tuple #[r2, (.int .i64 50)]) w)
 (ldn 7 t6 w fun t54 =>
 stn 7 x2 t54 w fun w =>
 qG prog (do loadVar 42 (← asAddr x2)) w fun r2_1 =>
 R (.tuple #[r2_1, (.int .i64 0)]) w)
theorem Fn20_s0_eq (R : KW) : ∀ e w, liK 55 (sbK f87 [1, 1, 1]) (fiK f87 R) e w = Fn20_s0 R (e 2) (e 4) w := fun e w => by kernel_rfl
def Fn20_s1 (R : KW) (x0 : Value) (w : World) : Prop :=
 newG (zc prog 42) 42 w fun t2 w =>
 callG prog 110 #[x0] w fun t9 w =>
 qG prog (Instr.extract t9 0) w fun t10 =>
 qG prog (Instr.extract t9 1) w fun t11 =>
 qG prog (bq .neq 30 (.tmp 12) (.const (.int .i64 0)) t11 (.int .i64 0)) w fun t13 =>
 bV t13
 (bld [(0, 1), (1, 1), (2, 1), (3, 1), (4, 1), (5, 1), (6, 1)] (zc prog 42) #[] fun t20 =>
 stn 7 t2 t20 w fun w =>
 qG prog (do loadVar 42 (← asAddr t2)) w fun r2 =>
 R (.tuple #[r2, (.int .i64 50)]) w)
 (bsl 3 1 7 (zc prog 3) #[(0, (.int .i64 1)), (1, (.int .i64 2)), (2, (.int .i64 2)), (3, (.int .i64 2)), (4, (.int .i64 1)), (5, (.int .i64 1)), (6, (.int .i64 1))] w fun t16 w =>
 callG prog 116 #[t10, t16] w fun t17 w =>
 qG prog (Op.unary .not t17) w fun t18 =>
 bV t18
 (bld [(0, 1), (1, 1), (2, 1), (3, 1), (4, 1), (5, 1), (6, 1)] (zc prog 42) #[] fun t20_1 =>
 stn 7 t2 t20_1 w fun w =>
 qG prog (do loadVar 42 (← asAddr t2)) w fun r2_1 =>
 R (.tuple #[r2_1, (.int .i64 50)]) w)
 (Fn20_s0 R t2 t10 w))
theorem Fn20_s1_eq (R : KW) : ∀ e w, liK 55 (bodyOf f87) (fiK f87 R) e w = Fn20_s1 R (e 0) w :=
 segs_eq (l := [(sbK f87 [0]), (sbK f87 [1, 0]), (sbK f87 [1, 1, 0])]) (y := (sbK f87 [1, 1, 1])) (Y := (fun e w => Fn20_s0 R (e 2) (e 4) w)) (Fn20_s0_eq R) (fun e w => by kernel_rfl)
def Fn20 (R : KW) (x0 : Value) (w : World) : Prop := Fn20_s1 R x0 w
theorem Fn20_call {R : KW} {x0 : Value} {w : World} (h : Fn20 R x0 w) : callG prog 87 #[x0] w R :=
 calls_lift_eq mixed func87 (args := [x0]) rfl rfl rfl rfl ((Fn20_s1_eq R) (envOf [x0]) w) (by kernel_rfl) h
end Go.Proofs

set_option linter.unusedVariables false
set_option linter.unusedSimpArgs false
namespace Go.Proofs
open Go Go.Q Tryz
set_option maxRecDepth 100000
def Fn27_s0 (R : KW) (x0 : Value) (w : World) : Prop :=
 qG prog (bq .eql 3 (.tmp 3) (.const (.int .i64 0)) x0 (.int .i64 0)) w fun t5 =>
 bV t5
 (R (.string ⟨#[97, 99, 116, 105, 118, 101]⟩) w)
 (qG prog (bq .eql 3 (.tmp 3) (.const (.int .i64 1)) x0 (.int .i64 1)) w fun t7 =>
 bV t7
 (R (.string ⟨#[111, 117, 116]⟩) w)
 (qG prog (bq .eql 3 (.tmp 3) (.const (.int .i64 2)) x0 (.int .i64 2)) w fun t9 =>
 bV t9
 (R (.string ⟨#[117, 112]⟩) w)
 (R (.string ⟨#[]⟩) w)))
theorem Fn27_s0_eq (R : KW) : ∀ e w, liK 10 (bodyOf f65) (fiK f65 R) e w = Fn27_s0 R (e 0) w := fun e w => by kernel_rfl
def Fn27 (R : KW) (x0 : Value) (w : World) : Prop := Fn27_s0 R x0 w
theorem Fn27_call {R : KW} {x0 : Value} {w : World} (h : Fn27 R x0 w) : callG prog 65 #[x0] w R :=
 calls_lift_eq mixed func65 (args := [x0]) rfl rfl rfl rfl ((Fn27_s0_eq R) (envOf [x0]) w) (by kernel_rfl) h
def Fn22_s0 (R : KW) (x0 : Value) (w : World) : Prop :=
 qG prog (bq .eql 3 (.tmp 3) (.const (.int .i64 1)) x0 (.int .i64 1)) w fun t5 =>
 bV t5
 (R (.string ⟨#[114, 101, 99, 101, 105, 118, 101]⟩) w)
 (qG prog (bq .eql 3 (.tmp 3) (.const (.int .i64 3)) x0 (.int .i64 3)) w fun t7 =>
 bV t7
 (R (.string ⟨#[99, 111, 109, 109, 105, 116]⟩) w)
 (qG prog (bq .eql 3 (.tmp 3) (.const (.int .i64 6)) x0 (.int .i64 6)) w fun t9 =>
 bV t9
 (R (.string ⟨#[116, 114, 97, 110, 115, 102, 101, 114]⟩) w)
 (qG prog (bq .eql 3 (.tmp 3) (.const (.int .i64 7)) x0 (.int .i64 7)) w fun t11 =>
 bV t11
 (R (.string ⟨#[97, 100, 106, 117, 115, 116]⟩) w)
 (R (.string ⟨#[]⟩) w))))
theorem Fn22_s0_eq (R : KW) : ∀ e w, liK 12 (bodyOf f67) (fiK f67 R) e w = Fn22_s0 R (e 0) w := fun e w => by kernel_rfl
def Fn22 (R : KW) (x0 : Value) (w : World) : Prop := Fn22_s0 R x0 w
theorem Fn22_call {R : KW} {x0 : Value} {w : World} (h : Fn22 R x0 w) : callG prog 67 #[x0] w R :=
 calls_lift_eq mixed func67 (args := [x0]) rfl rfl rfl rfl ((Fn22_s0_eq R) (envOf [x0]) w) (by kernel_rfl) h
def Fn86_s0 (R : KW) (x0 : Value) (w : World) : Prop :=
 qG prog (bq .eql 3 (.tmp 3) (.const (.int .i64 0)) x0 (.int .i64 0)) w fun t5 =>
 bV t5
 (R (.string ⟨#[97, 99, 116, 105, 118, 101]⟩) w)
 (qG prog (bq .eql 3 (.tmp 3) (.const (.int .i64 1)) x0 (.int .i64 1)) w fun t7 =>
 bV t7
 (R (.string ⟨#[111, 117, 116]⟩) w)
 (qG prog (bq .eql 3 (.tmp 3) (.const (.int .i64 2)) x0 (.int .i64 2)) w fun t9 =>
 bV t9
 (R (.string ⟨#[117, 112]⟩) w)
 (R (.string ⟨#[]⟩) w)))
theorem Fn86_s0_eq (R : KW) : ∀ e w, liK 10 (bodyOf f76) (fiK f76 R) e w = Fn86_s0 R (e 0) w := fun e w => by kernel_rfl
def Fn86 (R : KW) (x0 : Value) (w : World) : Prop := Fn86_s0 R x0 w
theorem Fn86_call {R : KW} {x0 : Value} {w : World} (h : Fn86 R x0 w) : callG prog 76 #[x0] w R :=
 calls_lift_eq mixed func76 (args := [x0]) rfl rfl rfl rfl ((Fn86_s0_eq R) (envOf [x0]) w) (by kernel_rfl) h
def Fn83_s0 (R : KW) (x0 : Value) (w : World) : Prop :=
 qG prog (bq .eql 3 (.tmp 3) (.const (.int .i64 1)) x0 (.int .i64 1)) w fun t5 =>
 bV t5
 (R (.string ⟨#[114, 101, 99, 101, 105, 118, 101]⟩) w)
 (qG prog (bq .eql 3 (.tmp 3) (.const (.int .i64 3)) x0 (.int .i64 3)) w fun t7 =>
 bV t7
 (R (.string ⟨#[99, 111, 109, 109, 105, 116]⟩) w)
 (qG prog (bq .eql 3 (.tmp 3) (.const (.int .i64 6)) x0 (.int .i64 6)) w fun t9 =>
 bV t9
 (R (.string ⟨#[116, 114, 97, 110, 115, 102, 101, 114]⟩) w)
 (qG prog (bq .eql 3 (.tmp 3) (.const (.int .i64 7)) x0 (.int .i64 7)) w fun t11 =>
 bV t11
 (R (.string ⟨#[97, 100, 106, 117, 115, 116]⟩) w)
 (R (.string ⟨#[]⟩) w))))
theorem Fn83_s0_eq (R : KW) : ∀ e w, liK 12 (bodyOf f78) (fiK f78 R) e w = Fn83_s0 R (e 0) w := fun e w => by kernel_rfl
def Fn83 (R : KW) (x0 : Value) (w : World) : Prop := Fn83_s0 R x0 w
theorem Fn83_call {R : KW} {x0 : Value} {w : World} (h : Fn83 R x0 w) : callG prog 78 #[x0] w R :=
 calls_lift_eq mixed func78 (args := [x0]) rfl rfl rfl rfl ((Fn83_s0_eq R) (envOf [x0]) w) (by kernel_rfl) h
def Fn19_s0 (R : KW) (x0 : Value) (w : World) : Prop :=
 newG (Value.cells x0) 48 w fun t1 w =>
 fa 0 t1 fun t3 =>
 ld1 t3 (World.drew w) fun t4 =>
 fa 1 t1 fun t6 =>
 ld1 t6 (World.drew w) fun t7 =>
 fa 2 t1 fun t9 =>
 ld1 t9 (World.drew w) fun t10 =>
 fa 3 t1 fun t12 =>
 ld1 t12 (World.drew w) fun t13 =>
 callG prog 63 #[t4] (World.drew w) fun t5 w =>
 ld1 t12 w (fun u => u = t13) ∧
 ld1 t9 w (fun u => u = t10) ∧
 ld1 t6 w (fun u => u = t7) ∧
 callG prog 63 #[t7] w fun t8 w =>
 ld1 t12 w (fun u => u = t13) ∧
 ld1 t9 w (fun u => u = t10) ∧
 callG prog 64 #[t10] w fun t11 w =>
 ld1 t12 w (fun u => u = t13) ∧
 callG prog 64 #[t13] w fun t14 w =>
 bsl 76 3 4 (zc prog 76) #[(0, t5), (1, t8), (2, t11), (3, t14)] w fun t15 w =>
 callG prog 62 #[t15] w fun t16 w =>
 R t16 w
theorem Fn19_s0_eq (R : KW) : ∀ e w, liK 17 (bodyOf f25) (fiK f25 R) e w = Fn19_s0 R (e 0) w := fun e w => by kernel_rfl
def Fn19 (R : KW) (x0 : Value) (w : World) : Prop := Fn19_s0 R x0 w
theorem Fn19_call {R : KW} {x0 : Value} {w : World} (h : Fn19 R x0 w) : callG prog 25 #[x0] w R :=
 calls_lift_eq mixed func25 (args := [x0]) rfl rfl rfl rfl ((Fn19_s0_eq R) (envOf [x0]) w) (by kernel_rfl) h
def Fn16_s0 (R : KW) (x0 : Value) (w : World) : Prop :=
 newG (Value.cells x0) 70 w fun t1 w =>
 fa 4 t1 fun t3 =>
 ld1 t3 w fun t4 =>
 callG prog 65 #[t4] w fun t5 w =>
 qG prog (bq .eql 9 (.tmp 5) (.const (.string ⟨#[]⟩)) t5 (.string ⟨#[]⟩)) w fun t6 =>
 bV t6
 (R (.slice none 0 0) w)
 (fa 0 t1 fun t7 =>
 ld1 t7 (World.drew w) fun t8 =>
 fa 1 t1 fun t10 =>
 ld1 t10 (World.drew w) fun t11 =>
 fa 2 t1 fun t13 =>
 ld1 t13 (World.drew w) fun t14 =>
 fa 3 t1 fun t16 =>
 ld1 t16 (World.drew w) fun t17 =>
 fa 4 t1 fun t19 =>
 ld1 t19 (World.drew w) fun t20 =>
 fa 5 t1 fun t23 =>
 ld1 t23 (World.drew w) fun t24 =>
 callG prog 64 #[t8] (World.drew w) fun t9 w =>
 ld1 t23 w (fun u => u = t24) ∧
 ld1 t19 w (fun u => u = t20) ∧
 ld1 t16 w (fun u => u = t17) ∧
 ld1 t13 w (fun u => u = t14) ∧
 ld1 t10 w (fun u => u = t11) ∧
 callG prog 63 #[t11] w fun t12 w =>
 ld1 t23 w (fun u => u = t24) ∧
 ld1 t19 w (fun u => u = t20) ∧
 ld1 t16 w (fun u => u = t17) ∧
 ld1 t13 w (fun u => u = t14) ∧
 callG prog 63 #[t14] w fun t15 w =>
 ld1 t23 w (fun u => u = t24) ∧
 ld1 t19 w (fun u => u = t20) ∧
 ld1 t16 w (fun u => u = t17) ∧
 callG prog 64 #[t17] w fun t18 w =>
 ld1 t23 w (fun u => u = t24) ∧
 ld1 t19 w (fun u => u = t20) ∧
 callG prog 65 #[t20] w fun t21 w =>
 ld1 t23 w (fun u => u = t24) ∧
 callG prog 63 #[t21] w fun t22 w =>
 ld1 t23 w (fun u => u = t24) ∧
 callG prog 66 #[t24] w fun t25 w =>
 bsl 76 3 6 (zc prog 76) #[(0, t9), (1, t12), (2, t15), (3, t18), (4, t22), (5, t25)] w fun t26 w =>
 callG prog 62 #[t26] w fun t27 w =>
 R t27 w)
theorem Fn16_s0_eq (R : KW) : ∀ e w, liK 28 (bodyOf f26) (fiK f26 R) e w = Fn16_s0 R (e 0) w := fun e w => by kernel_rfl
def Fn16 (R : KW) (x0 : Value) (w : World) : Prop := Fn16_s0 R x0 w
theorem Fn16_call {R : KW} {x0 : Value} {w : World} (h : Fn16 R x0 w) : callG prog 26 #[x0] w R :=
 calls_lift_eq mixed func26 (args := [x0]) rfl rfl rfl rfl ((Fn16_s0_eq R) (envOf [x0]) w) (by kernel_rfl) h
def Fn17_s0 (R : KW) (x0 : Value) (w : World) : Prop :=
 newG (Value.cells x0) 73 w fun t1 w =>
 fa 4 t1 fun t3 =>
 ld1 t3 w fun t4 =>
 callG prog 67 #[t4] w fun t5 w =>
 qG prog (bq .eql 9 (.tmp 5) (.const (.string ⟨#[]⟩)) t5 (.string ⟨#[]⟩)) w fun t6 =>
 bV t6
 (R (.slice none 0 0) w)
 (fa 0 t1 fun t7 =>
 ld1 t7 (World.drew w) fun t8 =>
 fa 1 t1 fun t10 =>
 ld1 t10 (World.drew w) fun t11 =>
 fa 2 t1 fun t13 =>
 ld1 t13 (World.drew w) fun t14 =>
 fa 3 t1 fun t16 =>
 ld1 t16 (World.drew w) fun t17 =>
 fa 4 t1 fun t19 =>
 ld1 t19 (World.drew w) fun t20 =>
 fa 5 t1 fun t23 =>
 ld1 t23 (World.drew w) fun t24 =>
 callG prog 64 #[t8] (World.drew w) fun t9 w =>
 ld1 t23 w (fun u => u = t24) ∧
 ld1 t19 w (fun u => u = t20) ∧
 ld1 t16 w (fun u => u = t17) ∧
 ld1 t13 w (fun u => u = t14) ∧
 ld1 t10 w (fun u => u = t11) ∧
 callG prog 63 #[t11] w fun t12 w =>
 ld1 t23 w (fun u => u = t24) ∧
 ld1 t19 w (fun u => u = t20) ∧
 ld1 t16 w (fun u => u = t17) ∧
 ld1 t13 w (fun u => u = t14) ∧
 callG prog 63 #[t14] w fun t15 w =>
 ld1 t23 w (fun u => u = t24) ∧
 ld1 t19 w (fun u => u = t20) ∧
 ld1 t16 w (fun u => u = t17) ∧
 callG prog 64 #[t17] w fun t18 w =>
 ld1 t23 w (fun u => u = t24) ∧
 ld1 t19 w (fun u => u = t20) ∧
 callG prog 67 #[t20] w fun t21 w =>
 ld1 t23 w (fun u => u = t24) ∧
 callG prog 63 #[t21] w fun t22 w =>
 ld1 t23 w (fun u => u = t24) ∧
 callG prog 66 #[t24] w fun t25 w =>
 bsl 76 3 6 (zc prog 76) #[(0, t9), (1, t12), (2, t15), (3, t18), (4, t22), (5, t25)] w fun t26 w =>
 callG prog 62 #[t26] w fun t27 w =>
 R t27 w)
theorem Fn17_s0_eq (R : KW) : ∀ e w, liK 28 (bodyOf f27) (fiK f27 R) e w = Fn17_s0 R (e 0) w := fun e w => by kernel_rfl
def Fn17 (R : KW) (x0 : Value) (w : World) : Prop := Fn17_s0 R x0 w
theorem Fn17_call {R : KW} {x0 : Value} {w : World} (h : Fn17 R x0 w) : callG prog 27 #[x0] w R :=
 calls_lift_eq mixed func27 (args := [x0]) rfl rfl rfl rfl ((Fn17_s0_eq R) (envOf [x0]) w) (by kernel_rfl) h
def Fn82_s0 (R : KW) (x0 : Value) (w : World) : Prop :=
 newG (Value.cells x0) 48 w fun t1 w =>
 fa 0 t1 fun t3 =>
 ld1 t3 (World.drew w) fun t4 =>
 fa 1 t1 fun t6 =>
 ld1 t6 (World.drew w) fun t7 =>
 fa 2 t1 fun t9 =>
 ld1 t9 (World.drew w) fun t10 =>
 fa 3 t1 fun t12 =>
 ld1 t12 (World.drew w) fun t13 =>
 callG prog 74 #[t4] (World.drew w) fun t5 w =>
 ld1 t12 w (fun u => u = t13) ∧
 ld1 t9 w (fun u => u = t10) ∧
 ld1 t6 w (fun u => u = t7) ∧
 callG prog 74 #[t7] w fun t8 w =>
 ld1 t12 w (fun u => u = t13) ∧
 ld1 t9 w (fun u => u = t10) ∧
 callG prog 75 #[t10] w fun t11 w =>
 ld1 t12 w (fun u => u = t13) ∧
 callG prog 75 #[t13] w fun t14 w =>
 bsl 76 3 4 (zc prog 76) #[(0, t5), (1, t8), (2, t11), (3, t14)] w fun t15 w =>
 R t15 w
theorem Fn82_s0_eq (R : KW) : ∀ e w, liK 16 (bodyOf f30) (fiK f30 R) e w = Fn82_s0 R (e 0) w := fun e w => by kernel_rfl
def Fn82 (R : KW) (x0 : Value) (w : World) : Prop := Fn82_s0 R x0 w
theorem Fn82_call {R : KW} {x0 : Value} {w : World} (h : Fn82 R x0 w) : callG prog 30 #[x0] w R :=
 calls_lift_eq mixed func30 (args := [x0]) rfl rfl rfl rfl ((Fn82_s0_eq R) (envOf [x0]) w) (by kernel_rfl) h
def Fn79_s0 (R : KW) (x0 : Value) (w : World) : Prop :=
 newG (Value.cells x0) 70 w fun t1 w =>
 fa 4 t1 fun t3 =>
 ld1 t3 w fun t4 =>
 callG prog 76 #[t4] w fun t5 w =>
 qG prog (bq .eql 9 (.tmp 5) (.const (.string ⟨#[]⟩)) t5 (.string ⟨#[]⟩)) w fun t6 =>
 bV t6
 (R (.slice none 0 0) w)
 (fa 0 t1 fun t7 =>
 ld1 t7 (World.drew w) fun t8 =>
 fa 1 t1 fun t10 =>
 ld1 t10 (World.drew w) fun t11 =>
 fa 2 t1 fun t13 =>
 ld1 t13 (World.drew w) fun t14 =>
 fa 3 t1 fun t16 =>
 ld1 t16 (World.drew w) fun t17 =>
 fa 4 t1 fun t19 =>
 ld1 t19 (World.drew w) fun t20 =>
 fa 5 t1 fun t23 =>
 ld1 t23 (World.drew w) fun t24 =>
 callG prog 75 #[t8] (World.drew w) fun t9 w =>
 ld1 t23 w (fun u => u = t24) ∧
 ld1 t19 w (fun u => u = t20) ∧
 ld1 t16 w (fun u => u = t17) ∧
 ld1 t13 w (fun u => u = t14) ∧
 ld1 t10 w (fun u => u = t11) ∧
 callG prog 74 #[t11] w fun t12 w =>
 ld1 t23 w (fun u => u = t24) ∧
 ld1 t19 w (fun u => u = t20) ∧
 ld1 t16 w (fun u => u = t17) ∧
 ld1 t13 w (fun u => u = t14) ∧
 callG prog 74 #[t14] w fun t15 w =>
 ld1 t23 w (fun u => u = t24) ∧
 ld1 t19 w (fun u => u = t20) ∧
 ld1 t16 w (fun u => u = t17) ∧
 callG prog 75 #[t17] w fun t18 w =>
 ld1 t23 w (fun u => u = t24) ∧
 ld1 t19 w (fun u => u = t20) ∧
 callG prog 76 #[t20] w fun t21 w =>
 ld1 t23 w (fun u => u = t24) ∧
 callG prog 74 #[t21] w fun t22 w =>
 ld1 t23 w (fun u => u = t24) ∧
 callG prog 77 #[t24] w fun t25 w =>
 bsl 76 3 6 (zc prog 76) #[(0, t9), (1, t12), (2, t15), (3, t18), (4, t22), (5, t25)] w fun t26 w =>
 R t26 w)
theorem Fn79_s0_eq (R : KW) : ∀ e w, liK 27 (bodyOf f31) (fiK f31 R) e w = Fn79_s0 R (e 0) w := fun e w => by kernel_rfl
def Fn79 (R : KW) (x0 : Value) (w : World) : Prop := Fn79_s0 R x0 w
theorem Fn79_call {R : KW} {x0 : Value} {w : World} (h : Fn79 R x0 w) : callG prog 31 #[x0] w R :=
 calls_lift_eq mixed func31 (args := [x0]) rfl rfl rfl rfl ((Fn79_s0_eq R) (envOf [x0]) w) (by kernel_rfl) h
def Fn80_s0 (R : KW) (x0 : Value) (w : World) : Prop :=
 newG (Value.cells x0) 73 w fun t1 w =>
 fa 4 t1 fun t3 =>
 ld1 t3 w fun t4 =>
 callG prog 78 #[t4] w fun t5 w =>
 qG prog (bq .eql 9 (.tmp 5) (.const (.string ⟨#[]⟩)) t5 (.string ⟨#[]⟩)) w fun t6 =>
 bV t6
 (R (.slice none 0 0) w)
 (fa 0 t1 fun t7 =>
 ld1 t7 (World.drew w) fun t8 =>
 fa 1 t1 fun t10 =>
 ld1 t10 (World.drew w) fun t11 =>
 fa 2 t1 fun t13 =>
 ld1 t13 (World.drew w) fun t14 =>
 fa 3 t1 fun t16 =>
 ld1 t16 (World.drew w) fun t17 =>
 fa 4 t1 fun t19 =>
 ld1 t19 (World.drew w) fun t20 =>
 fa 5 t1 fun t23 =>
 ld1 t23 (World.drew w) fun t24 =>
 callG prog 75 #[t8] (World.drew w) fun t9 w =>
 ld1 t23 w (fun u => u = t24) ∧
 ld1 t19 w (fun u => u = t20) ∧
 ld1 t16 w (fun u => u = t17) ∧
 ld1 t13 w (fun u => u = t14) ∧
 ld1 t10 w (fun u => u = t11) ∧
 callG prog 74 #[t11] w fun t12 w =>
 ld1 t23 w (fun u => u = t24) ∧
 ld1 t19 w (fun u => u = t20) ∧
 ld1 t16 w (fun u => u = t17) ∧
 ld1 t13 w (fun u => u = t14) ∧
 callG prog 74 #[t14] w fun t15 w =>
 ld1 t23 w (fun u => u = t24) ∧
 ld1 t19 w (fun u => u = t20) ∧
 ld1 t16 w (fun u => u = t17) ∧
 callG prog 75 #[t17] w fun t18 w =>
 ld1 t23 w (fun u => u = t24) ∧
 ld1 t19 w (fun u => u = t20) ∧
 callG prog 78 #[t20] w fun t21 w =>
 ld1 t23 w (fun u => u = t24) ∧
 callG prog 74 #[t21] w fun t22 w =>
 ld1 t23 w (fun u => u = t24) ∧
 callG prog 77 #[t24] w fun t25 w =>
 bsl 76 3 6 (zc prog 76) #[(0, t9), (1, t12), (2, t15), (3, t18), (4, t22), (5, t25)] w fun t26 w =>
 R t26 w)
theorem Fn80_s0_eq (R : KW) : ∀ e w, liK 27 (bodyOf f32) (fiK f32 R) e w = Fn80_s0 R (e 0) w := fun e w => by kernel_rfl
def Fn80 (R : KW) (x0 : Value) (w : World) : Prop := Fn80_s0 R x0 w
theorem Fn80_call {R : KW} {x0 : Value} {w : World} (h : Fn80 R x0 w) : callG prog 32 #[x0] w R :=
 calls_lift_eq mixed func32 (args := [x0]) rfl rfl rfl rfl ((Fn80_s0_eq R) (envOf [x0]) w) (by kernel_rfl) h
end Go.Proofs

set_option linter.unusedVariables false
set_option linter.unusedSimpArgs false
namespace Go.Proofs
open Go Go.Q Tryz
set_option maxRecDepth 100000
def Fn58_s0 (R : KW) (x0 : Value) (w : World) : Prop :=
 lenS x0 fun t4 =>
 qG prog (bq .geq 3 (.tmp 4) (.const (.int .i64 1)) t4 (.int .i64 1)) w fun t5 =>
 bV t5
 (lenS x0 fun t8 =>
 qG prog (bq .leq 3 (.tmp 8) (.const (.int .i64 64)) t8 (.int .i64 64)) w fun t9 =>
 R t9 w)
 (R (.bool false) w)
theorem Fn58_s0_eq (R : KW) : ∀ e w, liK 11 (bodyOf f51) (fiK f51 R) e w = Fn58_s0 R (e 0) w := fun e w => by kernel_rfl
def Fn58 (R : KW) (x0 : Value) (w : World) : Prop := Fn58_s0 R x0 w
theorem Fn58_call {R : KW} {x0 : Value} {w : World} (h : Fn58 R x0 w) : callG prog 51 #[x0] w R :=
 calls_lift_eq mixed func51 (args := [x0]) rfl rfl rfl rfl ((Fn58_s0_eq R) (envOf [x0]) w) (by kernel_rfl) h
def Fn59_s0 (R : KW) (x0 : Value) (w : World) : Prop :=
 newG (Value.cells x0) 48 w fun t1 w =>
 newG (zc prog 101) 101 w fun t2 w =>
 fa 0 t1 fun t3 =>
 ld1 t3 w fun t4 =>
 fa 1 t1 fun t5 =>
 ld1 t5 w fun t6 =>
 bld [(0, 1), (1, 1)] (zc prog 101) #[(0, t4), (1, t6)] fun t7 =>
 stn 2 t2 t7 w fun w =>
 qG prog (do loadVar 101 (← asAddr t2)) w fun r2 =>
 R r2 w
theorem Fn59_s0_eq (R : KW) : ∀ e w, liK 8 (bodyOf f53) (fiK f53 R) e w = Fn59_s0 R (e 0) w := fun e w => by kernel_rfl
def Fn59 (R : KW) (x0 : Value) (w : World) : Prop := Fn59_s0 R x0 w
theorem Fn59_call {R : KW} {x0 : Value} {w : World} (h : Fn59 R x0 w) : callG prog 53 #[x0] w R :=
 calls_lift_eq mixed func53 (args := [x0]) rfl rfl rfl rfl ((Fn59_s0_eq R) (envOf [x0]) w) (by kernel_rfl) h
def Fn54_s0 (R : KW) (x0 x1 : Value) (w : World) : Prop :=
 newG (Value.cells x1) 70 w fun t3 w =>
 fa 0 t3 fun t5 =>
 ld1 t5 w fun t6 =>
 qG prog (bq .add 3 (.tmp 7) (.const (.int .i64 1)) x0 (.int .i64 1)) w fun t8 =>
 qG prog (bq .eql 3 (.tmp 6) (.tmp 8) t6 t8) w fun t9 =>
 bV t9
 (fa 1 t3 fun t11 =>
 ld1 t11 w fun t12 =>
 callG prog 51 #[t12] w fun t13 w =>
 bV t13
 (fa 2 t3 fun t16 =>
 ld1 t16 w fun t17 =>
 callG prog 51 #[t17] w fun t18 w =>
 bV t18
 (fa 3 t3 fun t21 =>
 ld1 t21 w fun t22 =>
 qG prog (bq .geq 3 (.tmp 22) (.const (.int .i64 1)) t22 (.int .i64 1)) w fun t23 =>
 bV t23
 (fa 4 t3 fun t26 =>
 ld1 t26 w fun t27 =>
 qG prog (bq .geq 3 (.tmp 27) (.const (.int .i64 0)) t27 (.int .i64 0)) w fun t28 =>
 bV t28
 (fa 4 t3 fun t31 =>
 ld1 t31 w fun t32 =>
 qG prog (bq .leq 3 (.tmp 32) (.const (.int .i64 2)) t32 (.int .i64 2)) w fun t33 =>
 bV t33
 (fa 5 t3 fun t36 =>
 ld1 t36 w fun t37 =>
 qG prog (bq .geq 3 (.tmp 37) (.const (.int .i64 0)) t37 (.int .i64 0)) w fun t38 =>
 R t38 w)
 (R (.bool false) w))
 (R (.bool false) w))
 (R (.bool false) w))
 (R (.bool false) w))
 (R (.bool false) w))
 (R (.bool false) w)
theorem Fn54_s0_eq (R : KW) : ∀ e w, liK 40 (bodyOf f54) (fiK f54 R) e w = Fn54_s0 R (e 0) (e 1) w := fun e w => by kernel_rfl
def Fn54 (R : KW) (x0 x1 : Value) (w : World) : Prop := Fn54_s0 R x0 x1 w
theorem Fn54_call {R : KW} {x0 x1 : Value} {w : World} (h : Fn54 R x0 x1 w) : callG prog 54 #[x0, x1] w R :=
 calls_lift_eq mixed func54 (args := [x0, x1]) rfl rfl rfl rfl ((Fn54_s0_eq R) (envOf [x0, x1]) w) (by kernel_rfl) h
def Fn57_s0 (R : KW) (x0 x3 : Value) (w : World) : Prop :=
 fa 0 x3 fun t19 =>
 ld1 t19 w fun t20 =>
 qG prog (bq .add 3 (.tmp 21) (.const (.int .i64 1)) x0 (.int .i64 1)) w fun t22 =>
 qG prog (bq .eql 3 (.tmp 20) (.tmp 22) t20 t22) w fun t23 =>
 bV t23
 (fa 1 x3 fun t25 =>
 ld1 t25 w fun t26 =>
 callG prog 51 #[t26] w fun t27 w =>
 bV t27
 (fa 2 x3 fun t30 =>
 ld1 t30 w fun t31 =>
 callG prog 51 #[t31] w fun t32 w =>
 bV t32
 (fa 3 x3 fun t35 =>
 ld1 t35 w fun t36 =>
 qG prog (bq .neq 3 (.tmp 36) (.const (.int .i64 0)) t36 (.int .i64 0)) w fun t37 =>
 R t37 w)
 (R (.bool false) w))
 (R (.bool false) w))
 (R (.bool false) w)
theorem Fn57_s0_eq (R : KW) : ∀ e w, liK 39 (sbK f55 [1, 1]) (fiK f55 R) e w = Fn57_s0 R (e 0) (e 3) w := fun e w => by kernel_rfl
def Fn57_s1 (R : KW) (x0 x3 x6 x7 : Value) (w : World) : Prop :=
 bV x7
 (fa 5 x3 fun t11 =>
 ld1 t11 w fun t12 =>
 qG prog (bq .neq 3 (.tmp 12) (.const (.int .i64 0)) t12 (.int .i64 0)) w fun t13 =>
 bV t13
 (R (.bool false) w)
 (Fn57_s0 R x0 x3 w))
 (qG prog (bq .eql 3 (.tmp 6) (.const (.int .i64 3)) x6 (.int .i64 3)) w fun t15 =>
 bV t15
 (fa 5 x3 fun t16 =>
 ld1 t16 w fun t17 =>
 qG prog (bq .lss 3 (.tmp 17) (.const (.int .i64 1)) t17 (.int .i64 1)) w fun t18 =>
 bV t18
 (R (.bool false) w)
 (Fn57_s0 R x0 x3 w))
 (R (.bool false) w))
theorem Fn57_s1_eq (R : KW) : ∀ e w, liK 39 (sbK f55 [1, 0, 1, 0, 1]) (blockK 0 (seqK (fun e w => Fn57_s0 R (e 0) (e 3) w) (fiK f55 R))) e w = Fn57_s1 R (e 0) (e 3) (e 6) (e 7) w := fun e w => by kernel_rfl
def Fn57_s2 (R : KW) (x0 x3 x6 : Value) (w : World) : Prop :=
 qG prog (bq .eql 3 (.tmp 6) (.const (.int .i64 1)) x6 (.int .i64 1)) w fun t8 =>
 bV t8
 (Fn57_s1 R x0 x3 x6 (.bool true) w)
 (qG prog (bq .eql 3 (.tmp 6) (.const (.int .i64 6)) x6 (.int .i64 6)) w fun t9 =>
 bV t9
 (Fn57_s1 R x0 x3 x6 (.bool true) w)
 (qG prog (bq .eql 3 (.tmp 6) (.const (.int .i64 7)) x6 (.int .i64 7)) w fun t10 =>
 Fn57_s1 R x0 x3 x6 t10 w))
theorem Fn57_s2_eq (R : KW) : ∀ e w, liK 39 (sbK f55 [1, 0, 1, 0]) (blockK 0 (seqK (fun e w => Fn57_s0 R (e 0) (e 3) w) (fiK f55 R))) e w = Fn57_s2 R (e 0) (e 3) (e 6) w :=
 segs_eq (l := [(sbK f55 [1, 0, 1, 0, 0])]) (y := (sbK f55 [1, 0, 1, 0, 1])) (Y := (fun e w => Fn57_s1 R (e 0) (e 3) (e 6) (e 7) w)) (Fn57_s1_eq R) (fun e w => by kernel_rfl)
def Fn57_s3 (R : KW) (x0 x3 : Value) (w : World) : Prop :=
 fa 4 x3 fun t5 =>
 ld1 t5 w fun t6 =>
 Fn57_s2 R x0 x3 t6 w
theorem Fn57_s3_eq (R : KW) : ∀ e w, liK 39 (sbK f55 [1, 0]) (seqK (fun e w => Fn57_s0 R (e 0) (e 3) w) (fiK f55 R)) e w = Fn57_s3 R (e 0) (e 3) w :=
 segs_eq (l := [(sbK f55 [1, 0, 0])]) (y := (sbK f55 [1, 0, 1])) (Y := (fun e w => Fn57_s2 R (e 0) (e 3) (e 6) w)) (Fn57_s2_eq R) (fun e w => by kernel_rfl)
def Fn57_s4 (R : KW) (x0 x1 : Value) (w : World) : Prop :=
 newG (Value.cells x1) 73 w fun t3 w =>
 Fn57_s3 R x0 t3 w
theorem Fn57_s4_eq (R : KW) : ∀ e w, liK 39 (bodyOf f55) (fiK f55 R) e w = Fn57_s4 R (e 0) (e 1) w :=
 segs_eq (l := [(sbK f55 [0])]) (y := (sbK f55 [1])) (Y := (fun e w => Fn57_s3 R (e 0) (e 3) w)) (seq_seg (x := (sbK f55 [1, 0])) (y := (sbK f55 [1, 1])) (Fn57_s0_eq R) (Fn57_s3_eq R)) (fun e w => by kernel_rfl)
def Fn57 (R : KW) (x0 x1 : Value) (w : World) : Prop := Fn57_s4 R x0 x1 w
theorem Fn57_call {R : KW} {x0 x1 : Value} {w : World} (h : Fn57 R x0 x1 w) : callG prog 55 #[x0, x1] w R :=
 calls_lift_eq mixed func55 (args := [x0, x1]) rfl rfl rfl rfl ((Fn57_s4_eq R) (envOf [x0, x1]) w) (by kernel_rfl) h
def Fn29_s0 (R : KW) (x0 x1 : Value) (w : World) : Prop :=
 nG prog (callFunc 137 #[x0, x1]) w fun t7 w =>
 R t7 w
theorem Fn29_s0_eq (R : KW) : ∀ e w, liK 8 (bodyOf f120) (fiK f120 R) e w = Fn29_s0 R (e 0) (e 1) w := fun e w => by kernel_rfl
def Fn29 (R : KW) (x0 x1 : Value) (w : World) : Prop := Fn29_s0 R x0 x1 w
theorem Fn29_call {R : KW} {x0 x1 : Value} {w : World} (h : Fn29 R x0 x1 w) : callG prog 120 #[x0, x1] w R :=
 calls_lift_eq mixed func120 (args := [x0, x1]) rfl rfl rfl rfl ((Fn29_s0_eq R) (envOf [x0, x1]) w) (by kernel_rfl) h
def Fn113_s0 (R : KW) (x0 x1 : Value) (w : World) : Prop :=
 callG prog 120 #[x0, x1] w fun t7 w =>
 R t7 w
theorem Fn113_s0_eq (R : KW) : ∀ e w, liK 8 (bodyOf f99) (fiK f99 R) e w = Fn113_s0 R (e 0) (e 1) w := fun e w => by kernel_rfl
def Fn113 (R : KW) (x0 x1 : Value) (w : World) : Prop := Fn113_s0 R x0 x1 w
theorem Fn113_call {R : KW} {x0 x1 : Value} {w : World} (h : Fn113 R x0 x1 w) : callG prog 99 #[x0, x1] w R :=
 calls_lift_eq mixed func99 (args := [x0, x1]) rfl rfl rfl rfl ((Fn113_s0_eq R) (envOf [x0, x1]) w) (by kernel_rfl) h
def Fn0_s0 (R : KW) (x3 : Value) (w : World) : Prop :=
 R x3 w
theorem Fn0_s0_eq (R : KW) : ∀ e w, liK 18 (sbK f98 [1, 1, 1]) (fiK f98 R) e w = Fn0_s0 R (e 3) w := fun e w => by kernel_rfl
def Fn0_b1 (R : KW) (N1 : KL) (x3 x6 x7 x8 : Value) (w : World) : Prop :=
 qG prog (bq .lss 3 (.tmp 8) (.tmp 7) x8 x7) w fun t9 =>
 bV t9
 (ia 1 x6 x8 fun t10 =>
 ld1 t10 w fun t11 =>
 qG prog (bq .neq 3 (.tmp 12) (.tmp 13) t11 x3) w fun t14 =>
 bV t14
 (R t11 w)
 (qG prog (bq .add 3 (.tmp 8) (.const (.int .i64 1)) x8 (.int .i64 1)) w fun t16 =>
 N1 [x3, x6, x7, t16] w))
 (Fn0_s0 R x3 w)
theorem Fn0_b1_eq (R : KW) (N1 : KL) : ∀ e w, liK 18 (sbK f98 [1, 1, 0, 1, 0, 0]) (seqK (fun e w => N1 [e 3, e 6, e 7, e 8] w) (blockK 0 (seqK (fun e w => Fn0_s0 R (e 3) w) (fiK f98 R)))) e w = Fn0_b1 R N1 (e 3) (e 6) (e 7) (e 8) w := fun e w => by kernel_rfl
def Fn0_L2F (R : KW) (N1 : KL) (xs : List Value) (w : World) : Prop :=
 match xs with
 | [x3, x6, x7, x8] => Fn0_b1 R N1 x3 x6 x7 x8 w
 | _ => False
def Fn0_L2 (R : KW) (x3 x6 x7 x8 : Value) (w : World) : Prop :=
 ∃ m, loopV (Fn0_L2F R) m [x3, x6, x7, x8] w
theorem Fn0_L2_eq (R : KW) : ∀ e w, liK 18 (sbK f98 [1, 1, 0, 1, 0]) (blockK 0 (seqK (fun e w => Fn0_s0 R (e 3) w) (fiK f98 R))) e w = Fn0_L2 R (e 3) (e 6) (e 7) (e 8) w := loop_seg (F := Fn0_L2F R) (sel := fun e => [e 3, e 6, e 7, e 8]) fun N1 => (Fn0_b1_eq R N1)
def Fn0_s3 (R : KW) (x0 x3 : Value) (w : World) : Prop :=
 lenL x0 fun t7 =>
 Fn0_L2 R x3 x0 t7 (.int .i64 0) w
theorem Fn0_s3_eq (R : KW) : ∀ e w, liK 18 (sbK f98 [1, 1, 0]) (seqK (fun e w => Fn0_s0 R (e 3) w) (fiK f98 R)) e w = Fn0_s3 R (e 0) (e 3) w :=
 segs_eq (l := [(sbK f98 [1, 1, 0, 0])]) (y := (sbK f98 [1, 1, 0, 1])) (Y := (fun e w => Fn0_L2 R (e 3) (e 6) (e 7) (e 8) w)) (Fn0_L2_eq R) (fun e w => by kernel_rfl)
def Fn0_s4 (R : KW) (x0 : Value) (w : World) : Prop :=
 Fn0_s3 R x0 (.int .i64 0) w
theorem Fn0_s4_eq (R : KW) : ∀ e w, liK 18 (bodyOf f98) (fiK f98 R) e w = Fn0_s4 R (e 0) w :=
 segs_eq (l := [(sbK f98 [0]), (sbK f98 [1, 0])]) (y := (sbK f98 [1, 1])) (Y := (fun e w => Fn0_s3 R (e 0) (e 3) w)) (seq_seg (x := (sbK f98 [1, 1, 0])) (y := (sbK f98 [1, 1, 1])) (Fn0_s0_eq R) (Fn0_s3_eq R)) (fun e w => by kernel_rfl)
def Fn0 (R : KW) (x0 : Value) (w : World) : Prop := Fn0_s4 R x0 w
theorem Fn0_call {R : KW} {x0 : Value} {w : World} (h : Fn0 R x0 w) : callG prog 98 #[x0] w R :=
 calls_lift_eq mixed func98 (args := [x0]) rfl rfl rfl rfl ((Fn0_s4_eq R) (envOf [x0]) w) (by kernel_rfl) h
def Fn60_s0 (R : KW) (x0 x1 : Value) (w : World) : Prop :=
 newG (Value.cells x0) 101 w fun t2 w =>
 newG (Value.cells x1) 101 w fun t3 w =>
 fa 0 t2 fun t5 =>
 ld1 t5 (World.drew w) fun t6 =>
 fa 0 t3 fun t7 =>
 ld1 t7 (World.drew w) fun t8 =>
 fa 1 t2 fun t10 =>
 ld1 t10 (World.drew w) fun t11 =>
 fa 1 t3 fun t12 =>
 ld1 t12 (World.drew w) fun t13 =>
 callG prog 99 #[t6, t8] (World.drew w) fun t9 w =>
 ld1 t12 w (fun u => u = t13) ∧
 ld1 t10 w (fun u => u = t11) ∧
 callG prog 99 #[t11, t13] w fun t14 w =>
 bsl 3 1 2 (zc prog 3) #[(0, t9), (1, t14)] w fun t15 w =>
 callG prog 98 #[t15] w fun t16 w =>
 R t16 w
theorem Fn60_s0_eq (R : KW) : ∀ e w, liK 17 (bodyOf f52) (fiK f52 R) e w = Fn60_s0 R (e 0) (e 1) w := fun e w => by kernel_rfl
def Fn60 (R : KW) (x0 x1 : Value) (w : World) : Prop := Fn60_s0 R x0 x1 w
theorem Fn60_call {R : KW} {x0 x1 : Value} {w : World} (h : Fn60 R x0 x1 w) : callG prog 52 #[x0, x1] w R :=
 calls_lift_eq mixed func52 (args := [x0, x1]) rfl rfl rfl rfl ((Fn60_s0_eq R) (envOf [x0, x1]) w) (by kernel_rfl) h
end Go.Proofs

