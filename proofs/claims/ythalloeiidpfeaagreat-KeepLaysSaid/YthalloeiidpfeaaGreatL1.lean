/- Part of the proof (L1): an engine, rules or contracts of the functions; it states nothing of the claim by itself. -/
import Derived.Test.YthalloeiidpfeaaGreatProg
import Derived.Test.YthalloeiidpfeaaGreatL0
import Derived.KernelRfl
import Derived.Below

set_option linter.unusedVariables false
set_option linter.unusedSimpArgs false
namespace Go.Proofs
theorem Tryz.mixed : Tryz.prog.follows .mixedOrders = true := by kernel_rfl
end Go.Proofs

set_option linter.unusedVariables false
set_option linter.unusedSimpArgs false
namespace Go.Proofs
open Go Go.Q
set_option maxRecDepth 100000
def strings_Builder_copyCheck_s0 (R : Value → World → Prop) (x0 : Value) (w : World) : Prop :=
  nk x0 fun t3 =>
  fa 0 t3 fun t4 =>
  ld1 t4 w fun t5 =>
  qG Tryz.prog (bq .eql 108 (.tmp 5) (.const (.pointer none)) t5 (.pointer none)) w fun t6 =>
  bV t6
  (eG Tryz.prog (convert 108 170 x0) w fun t9 w =>
  nG Tryz.prog (callFunc 121 #[t9]) w fun t10 w =>
  eG Tryz.prog (convert 170 108 t10) w fun t11 w =>
  nk x0 fun t12 =>
  fa 0 t12 fun t13 =>
  st1 t13 t11 w fun w =>
  R (.tuple #[]) w)
  (nk x0 fun t15 =>
  fa 0 t15 fun t16 =>
  ld1 t16 w fun t17 =>
  qG Tryz.prog (bq .neq 108 (.tmp 17) (.tmp 18) t17 x0) w fun t19 =>
  bV t19
  (False)
  (R (.tuple #[]) w))
theorem strings_Builder_copyCheck_s0_eq (R : Value → World → Prop) : ∀ e w, lift Tryz.prog 20 (bodyOf Tryz.f101) (finK Tryz.prog Tryz.f101.results.toList R) e w = strings_Builder_copyCheck_s0 R (e 0) w := fun e w => by kernel_rfl
def strings_Builder_copyCheck (R : Value → World → Prop) (x0 : Value) (w : World) : Prop := strings_Builder_copyCheck_s0 R x0 w
theorem strings_Builder_copyCheck_call {R : Value → World → Prop} {x0 : Value} {w : World} (h : strings_Builder_copyCheck R x0 w) : callG Tryz.prog 101 #[x0] w R :=
  calls_lift_eq Tryz.mixed Tryz.func101 (args := [x0]) rfl rfl rfl rfl ((strings_Builder_copyCheck_s0_eq R) (envOf [x0]) w) (by kernel_rfl) h
def strings_Builder_WriteByte_s0 (R : Value → World → Prop) (x0 x1 : Value) (w : World) : Prop :=
  callG Tryz.prog 101 #[x0] w fun t6 w =>
  nk x0 fun t9 =>
  fa 1 t9 fun t10 =>
  ld1 t10 w fun t11 =>
  bsl 5 1 1 (zc Tryz.prog 5) #[(0, x1)] w fun t13 w =>
  app 5 1 1 (zc Tryz.prog 5) t11 t13 w fun t14 w =>
  nk x0 fun t15 =>
  fa 1 t15 fun t16 =>
  st1 t16 t14 w fun w =>
  R .nilIface w
theorem strings_Builder_WriteByte_s0_eq (R : Value → World → Prop) : ∀ e w, lift Tryz.prog 17 (bodyOf Tryz.f57) (finK Tryz.prog Tryz.f57.results.toList R) e w = strings_Builder_WriteByte_s0 R (e 0) (e 1) w := fun e w => by kernel_rfl
def strings_Builder_WriteByte (R : Value → World → Prop) (x0 x1 : Value) (w : World) : Prop := strings_Builder_WriteByte_s0 R x0 x1 w
theorem strings_Builder_WriteByte_call {R : Value → World → Prop} {x0 x1 : Value} {w : World} (h : strings_Builder_WriteByte R x0 x1 w) : callG Tryz.prog 57 #[x0, x1] w R :=
  calls_lift_eq Tryz.mixed Tryz.func57 (args := [x0, x1]) rfl rfl rfl rfl ((strings_Builder_WriteByte_s0_eq R) (envOf [x0, x1]) w) (by kernel_rfl) h
def strings_Builder_WriteString_s0 (R : Value → World → Prop) (x0 x1 : Value) (w : World) : Prop :=
  callG Tryz.prog 101 #[x0] w fun t7 w =>
  nk x0 fun t10 =>
  fa 1 t10 fun t11 =>
  ld1 t11 w fun t12 =>
  app 5 1 1 (zc Tryz.prog 5) t12 x1 w fun t14 w =>
  nk x0 fun t15 =>
  fa 1 t15 fun t16 =>
  st1 t16 t14 w fun w =>
  lenS x1 fun t18 =>
  R (.tuple #[t18, .nilIface]) w
theorem strings_Builder_WriteString_s0_eq (R : Value → World → Prop) : ∀ e w, lift Tryz.prog 19 (bodyOf Tryz.f59) (finK Tryz.prog Tryz.f59.results.toList R) e w = strings_Builder_WriteString_s0 R (e 0) (e 1) w := fun e w => by kernel_rfl
def strings_Builder_WriteString (R : Value → World → Prop) (x0 x1 : Value) (w : World) : Prop := strings_Builder_WriteString_s0 R x0 x1 w
theorem strings_Builder_WriteString_call {R : Value → World → Prop} {x0 x1 : Value} {w : World} (h : strings_Builder_WriteString R x0 x1 w) : callG Tryz.prog 59 #[x0, x1] w R :=
  calls_lift_eq Tryz.mixed Tryz.func59 (args := [x0, x1]) rfl rfl rfl rfl ((strings_Builder_WriteString_s0_eq R) (envOf [x0, x1]) w) (by kernel_rfl) h
def strings_Builder_String_s0 (R : Value → World → Prop) (x0 : Value) (w : World) : Prop :=
  nk x0 fun t4 =>
  fa 1 t4 fun t5 =>
  ld1 t5 (World.drew w) fun t6 =>
  nk x0 fun t9 =>
  fa 1 t9 fun t10 =>
  ld1 t10 (World.drew w) fun t11 =>
  lenL t11 fun t12 =>
  eG Tryz.prog (Builtin.unsafeSliceData_ #[96] 150 #[t6]) (World.drew w) fun t7 w =>
  ld1 t10 w (fun u => u = t11) ∧
  eG Tryz.prog (Builtin.unsafeString_ #[150, 3] 9 #[t7, t12]) w fun t13 w =>
  R t13 w
theorem strings_Builder_String_s0_eq (R : Value → World → Prop) : ∀ e w, lift Tryz.prog 14 (bodyOf Tryz.f61) (finK Tryz.prog Tryz.f61.results.toList R) e w = strings_Builder_String_s0 R (e 0) w := fun e w => by kernel_rfl
def strings_Builder_String (R : Value → World → Prop) (x0 : Value) (w : World) : Prop := strings_Builder_String_s0 R x0 w
theorem strings_Builder_String_call {R : Value → World → Prop} {x0 : Value} {w : World} (h : strings_Builder_String R x0 w) : callG Tryz.prog 61 #[x0] w R :=
  calls_lift_eq Tryz.mixed Tryz.func61 (args := [x0]) rfl rfl rfl rfl ((strings_Builder_String_s0_eq R) (envOf [x0]) w) (by kernel_rfl) h
def strings_Builder_Len_s0 (R : Value → World → Prop) (x0 : Value) (w : World) : Prop :=
  nk x0 fun t4 =>
  fa 1 t4 fun t5 =>
  ld1 t5 w fun t6 =>
  lenL t6 fun t7 =>
  R t7 w
theorem strings_Builder_Len_s0_eq (R : Value → World → Prop) : ∀ e w, lift Tryz.prog 8 (bodyOf Tryz.f95) (finK Tryz.prog Tryz.f95.results.toList R) e w = strings_Builder_Len_s0 R (e 0) w := fun e w => by kernel_rfl
def strings_Builder_Len (R : Value → World → Prop) (x0 : Value) (w : World) : Prop := strings_Builder_Len_s0 R x0 w
theorem strings_Builder_Len_call {R : Value → World → Prop} {x0 : Value} {w : World} (h : strings_Builder_Len R x0 w) : callG Tryz.prog 95 #[x0] w R :=
  calls_lift_eq Tryz.mixed Tryz.func95 (args := [x0]) rfl rfl rfl rfl ((strings_Builder_Len_s0_eq R) (envOf [x0]) w) (by kernel_rfl) h
end Go.Proofs

set_option linter.unusedVariables false
set_option linter.unusedSimpArgs false
namespace Go.Q
variable {P : Program}
theorem qG_of {s : Sem Value} {w : World} {v : Value} {K : Value → Prop} (h : s.run P w = .ok v w) : qG P s w K = K v := by
  apply propext
  constructor
  · rintro ⟨v', hr, hk⟩
    rw [h] at hr
    injection hr with h1
    subst h1; exact hk
  · exact fun hk => ⟨v, h, hk⟩
theorem stb_of {s : Sem Value} {w : World} {v u : Value} (h : s.run P w = .ok v w) : stb P s u w = (v = u) := by
  unfold stb; rw [h]; simp
section
variable {T : TypeId} {xo yo : Operand} {k : IntKind} {a b : Int} {w : World} {K : Value → Prop} {u : Value}
theorem run_bq_int {op : BinOp} {s : Sem Value} (hop : ∀ w : World, (binOp op T (.int k a) (.int k b)).run P w = s.run P w) : (bq op T xo yo (.int k a) (.int k b)).run P w = s.run P w := by
  cases op <;> exact hop w
theorem run_add : (bq .add T xo yo (.int k a) (.int k b)).run P w = .ok (.int k (k.wrap (a + b))) w := run_bq_int (s := .pure _) fun w => by simp [binOp, Op.intArith]
theorem run_sub : (bq .sub T xo yo (.int k a) (.int k b)).run P w = .ok (.int k (k.wrap (a - b))) w := run_bq_int (s := .pure _) fun w => by simp [binOp, Op.intArith]
theorem run_mul : (bq .mul T xo yo (.int k a) (.int k b)).run P w = .ok (.int k (k.wrap (a * b))) w := run_bq_int (s := .pure _) fun w => by simp [binOp, Op.intArith]
theorem run_lss : (bq .lss T xo yo (.int k a) (.int k b)).run P w = .ok (.bool (decide (a < b))) w := run_bq_int (s := .pure _) fun w => by simp [binOp, Op.intCmp]
theorem run_leq : (bq .leq T xo yo (.int k a) (.int k b)).run P w = .ok (.bool (decide (a ≤ b))) w := run_bq_int (s := .pure _) fun w => by simp [binOp, Op.intCmp]
theorem run_gtr : (bq .gtr T xo yo (.int k a) (.int k b)).run P w = .ok (.bool (decide (a > b))) w := run_bq_int (s := .pure _) fun w => by simp [binOp, Op.intCmp]
theorem run_geq : (bq .geq T xo yo (.int k a) (.int k b)).run P w = .ok (.bool (decide (a ≥ b))) w := run_bq_int (s := .pure _) fun w => by simp [binOp, Op.intCmp]
theorem run_eql : (bq .eql T xo yo (.int k a) (.int k b)).run P w = .ok (.bool (decide (a = b))) w := run_bq_int (s := .pure _) fun w => by simp [binOp, Op.intCmp]; rfl
theorem run_neq : (bq .neq T xo yo (.int k a) (.int k b)).run P w = .ok (.bool (decide (a ≠ b))) w := run_bq_int (s := .pure _) fun w => by simp [binOp, Op.intCmp, bne]; rfl
@[simp] theorem bq_add : qG P (bq .add T xo yo (.int k a) (.int k b)) w K = K (.int k (k.wrap (a + b))) := qG_of run_add
@[simp] theorem bq_sub : qG P (bq .sub T xo yo (.int k a) (.int k b)) w K = K (.int k (k.wrap (a - b))) := qG_of run_sub
@[simp] theorem bq_mul : qG P (bq .mul T xo yo (.int k a) (.int k b)) w K = K (.int k (k.wrap (a * b))) := qG_of run_mul
@[simp] theorem bq_lss : qG P (bq .lss T xo yo (.int k a) (.int k b)) w K = K (.bool (decide (a < b))) := qG_of run_lss
@[simp] theorem bq_leq : qG P (bq .leq T xo yo (.int k a) (.int k b)) w K = K (.bool (decide (a ≤ b))) := qG_of run_leq
@[simp] theorem bq_gtr : qG P (bq .gtr T xo yo (.int k a) (.int k b)) w K = K (.bool (decide (a > b))) := qG_of run_gtr
@[simp] theorem bq_geq : qG P (bq .geq T xo yo (.int k a) (.int k b)) w K = K (.bool (decide (a ≥ b))) := qG_of run_geq
@[simp] theorem bq_eql : qG P (bq .eql T xo yo (.int k a) (.int k b)) w K = K (.bool (decide (a = b))) := qG_of run_eql
@[simp] theorem bq_neq : qG P (bq .neq T xo yo (.int k a) (.int k b)) w K = K (.bool (decide (a ≠ b))) := qG_of run_neq
@[simp] theorem stb_add : stb P (bq .add T xo yo (.int k a) (.int k b)) u w = (.int k (k.wrap (a + b)) = u) := stb_of run_add
@[simp] theorem stb_sub : stb P (bq .sub T xo yo (.int k a) (.int k b)) u w = (.int k (k.wrap (a - b)) = u) := stb_of run_sub
@[simp] theorem stb_mul : stb P (bq .mul T xo yo (.int k a) (.int k b)) u w = (.int k (k.wrap (a * b)) = u) := stb_of run_mul
@[simp] theorem stb_lss : stb P (bq .lss T xo yo (.int k a) (.int k b)) u w = (.bool (decide (a < b)) = u) := stb_of run_lss
@[simp] theorem stb_eql : stb P (bq .eql T xo yo (.int k a) (.int k b)) u w = (.bool (decide (a = b)) = u) := stb_of run_eql
@[simp] theorem stb_neq : stb P (bq .neq T xo yo (.int k a) (.int k b)) u w = (.bool (decide (a ≠ b)) = u) := stb_of run_neq
end
theorem run_not {b : Bool} {w : World} : (Op.unary .not (.bool b)).run P w = .ok (.bool !b) w := rfl
@[simp] theorem un_not {b : Bool} {w : World} {K : Value → Prop} : qG P (Op.unary .not (.bool b)) w K = K (.bool !b) := qG_of run_not
@[simp] theorem stb_not {b : Bool} {w : World} {u : Value} : stb P (Op.unary .not (.bool b)) u w = (.bool (!b) = u) := stb_of run_not
theorem run_extract {vs : Array Value} {i : Nat} {v : Value} {w : World} (h : vs[i]? = some v) : (Instr.extract (.tuple vs) i).run P w = .ok v w := by simp [Instr.extract, h]
@[simp] theorem ex0 {a b : Value} {w : World} {K : Value → Prop} : qG P (Instr.extract (.tuple #[a, b]) 0) w K = K a := qG_of (run_extract rfl)
@[simp] theorem ex1 {a b : Value} {w : World} {K : Value → Prop} : qG P (Instr.extract (.tuple #[a, b]) 1) w K = K b := qG_of (run_extract rfl)
@[simp] theorem ex30 {a b c : Value} {w : World} {K : Value → Prop} : qG P (Instr.extract (.tuple #[a, b, c]) 0) w K = K a := qG_of (run_extract rfl)
@[simp] theorem ex31 {a b c : Value} {w : World} {K : Value → Prop} : qG P (Instr.extract (.tuple #[a, b, c]) 1) w K = K b := qG_of (run_extract rfl)
@[simp] theorem ex32 {a b c : Value} {w : World} {K : Value → Prop} : qG P (Instr.extract (.tuple #[a, b, c]) 2) w K = K c := qG_of (run_extract rfl)
@[simp] theorem stb_ex0 {a b u : Value} {w : World} : stb P (Instr.extract (.tuple #[a, b]) 0) u w = (a = u) := stb_of (run_extract rfl)
@[simp] theorem stb_ex1 {a b u : Value} {w : World} : stb P (Instr.extract (.tuple #[a, b]) 1) u w = (b = u) := stb_of (run_extract rfl)
@[simp] theorem stb_ex30 {a b c u : Value} {w : World} : stb P (Instr.extract (.tuple #[a, b, c]) 0) u w = (a = u) := stb_of (run_extract rfl)
@[simp] theorem stb_ex31 {a b c u : Value} {w : World} : stb P (Instr.extract (.tuple #[a, b, c]) 1) u w = (b = u) := stb_of (run_extract rfl)
@[simp] theorem stb_ex32 {a b c u : Value} {w : World} : stb P (Instr.extract (.tuple #[a, b, c]) 2) u w = (c = u) := stb_of (run_extract rfl)
theorem run_max {ts : Array TypeId} {t : TypeId} {k : IntKind} {a b : Int} {w : World} : (Builtin.max_ ts t #[.int k a, .int k b]).run P w = .ok (.int k (max a b)) w := by
  simp only [Builtin.max_, List.foldlM_cons, List.foldlM_nil, Builtin.max2, pure_bind]
  show Result.ok _ _ = _
  congr 2; omega
theorem run_min {ts : Array TypeId} {t : TypeId} {k : IntKind} {a b : Int} {w : World} : (Builtin.min_ ts t #[.int k a, .int k b]).run P w = .ok (.int k (min a b)) w := by
  simp only [Builtin.min_, List.foldlM_cons, List.foldlM_nil, Builtin.min2, pure_bind]
  show Result.ok _ _ = _
  congr 2; omega
@[simp] theorem q_max {ts : Array TypeId} {t : TypeId} {k : IntKind} {a b : Int} {w : World} {K : Value → Prop} : qG P (Builtin.max_ ts t #[.int k a, .int k b]) w K = K (.int k (max a b)) := qG_of run_max
@[simp] theorem q_min {ts : Array TypeId} {t : TypeId} {k : IntKind} {a b : Int} {w : World} {K : Value → Prop} : qG P (Builtin.min_ ts t #[.int k a, .int k b]) w K = K (.int k (min a b)) := qG_of run_min
theorem toList_beq (s t : ByteArray) : (s.toList == t.toList) = decide (s = t) := by
  by_cases h : s = t
  · subst h; simp
  · have : s.toList ≠ t.toList := by
      intro h'
      apply h
      rw [ByteArray.toList_eq, ByteArray.toList_eq] at h'
      cases s; cases t
      simp only [ByteArray.mk.injEq]
      exact Array.toList_inj.1 h'
    rw [decide_eq_false h]
    exact beq_false_of_ne this
def sLt (s t : ByteArray) : Bool := Op.bytesLess s.toList t.toList
section
variable {T : TypeId} {xo yo : Operand} {a b : ByteArray} {w : World} {K : Value → Prop} {u : Value}
theorem run_bq_str {op : BinOp} {s : Sem Value} (hop : ∀ w : World, (binOp op T (.string a) (.string b)).run P w = s.run P w) : (bq op T xo yo (.string a) (.string b)).run P w = s.run P w := by
  cases op <;> exact hop w
theorem run_seql : (bq .eql T xo yo (.string a) (.string b)).run P w = .ok (.bool (decide (a = b))) w := run_bq_str (s := .pure _) fun w => by simp only [binOp, Op.stringOp, toList_beq]; rfl
theorem run_sneq : (bq .neq T xo yo (.string a) (.string b)).run P w = .ok (.bool (!decide (a = b))) w := run_bq_str (s := .pure _) fun w => by simp only [binOp, Op.stringOp, toList_beq]; rfl
theorem run_slss : (bq .lss T xo yo (.string a) (.string b)).run P w = .ok (.bool (sLt a b)) w := run_bq_str (s := .pure _) fun _ => rfl
theorem run_sadd (h : a.size + b.size < 9223372036854775808) : (bq .add T xo yo (.string a) (.string b)).run P w = .ok (.string (a ++ b)) w := run_bq_str (s := .pure _) fun w => by
  have : ¬ (((a.size + b.size : Nat) : Int) > IntKind.i64.max) := by
    have : IntKind.i64.max = 9223372036854775807 := by decide
    rw [this]; omega
  simp only [binOp, Op.stringOp, this, if_false]; rfl
@[simp] theorem bq_seql : qG P (bq .eql T xo yo (.string a) (.string b)) w K = K (.bool (decide (a = b))) := qG_of run_seql
@[simp] theorem bq_sneq : qG P (bq .neq T xo yo (.string a) (.string b)) w K = K (.bool (!decide (a = b))) := qG_of run_sneq
@[simp] theorem bq_slss : qG P (bq .lss T xo yo (.string a) (.string b)) w K = K (.bool (sLt a b)) := qG_of run_slss
theorem bq_sadd (h : a.size + b.size < 9223372036854775808) : qG P (bq .add T xo yo (.string a) (.string b)) w K = K (.string (a ++ b)) := qG_of (run_sadd h)
@[simp] theorem stb_seql : stb P (bq .eql T xo yo (.string a) (.string b)) u w = (.bool (decide (a = b)) = u) := stb_of run_seql
@[simp] theorem stb_sneq : stb P (bq .neq T xo yo (.string a) (.string b)) u w = (.bool (!decide (a = b)) = u) := stb_of run_sneq
end
def isPtr (P : Program) (T : TypeId) : Bool := match P.underlying T with | some (.pointer _) => true | _ => false
def isBoolT (P : Program) (T : TypeId) : Bool := match P.underlying T with | some .bool => true | _ => false
def isSl (P : Program) (T : TypeId) : Bool := match P.underlying T with | some (.slice _) => true | _ => false
theorem run_equal1 {T : TypeId} {x y : Value} {w : World} {b : Bool} (h : (Op.equal T x y).run P w = .ok b w) (hx : ∀ c d, ¬ (x = .agg c ∧ y = .agg d)) (hn : ¬ (x = .nilIface ∧ y = .nilIface)) (xo yo : Operand)
    (he : binOp .eql T x y = (do pure (.bool (← Op.equal T x y)))) (hne : binOp .neq T x y = (do pure (.bool (!(← Op.equal T x y))))) :
    (bq .eql T xo yo x y).run P w = .ok (.bool b) w ∧ (bq .neq T xo yo x y).run P w = .ok (.bool !b) w := by
  have hg : ∀ op, op = .eql ∨ op = .neq → (eqGuard op T xo yo x y).run P w = .ok () w := by
    rintro op (rfl | rfl)
    all_goals
      unfold eqGuard
      simp only [Bool.not_true, Bool.false_eq_true, if_false]
      split
      · exact absurd ⟨rfl, rfl⟩ hn
      · exact absurd ⟨rfl, rfl⟩ (hx _ _)
      · rfl
  constructor
  · unfold bq; rw [Sem.run_bind, hg _ (.inl rfl)]; simp only [Result.andThen_ok, he, Sem.run_bind, h]; rfl
  · unfold bq; rw [Sem.run_bind, hg _ (.inr rfl)]; simp only [Result.andThen_ok, hne, Sem.run_bind, h]; rfl
section
variable {T : TypeId} {xo yo : Operand} {w : World} {K : Value → Prop} {u : Value}
theorem run_pnil (a : Option Addr) (hT : isPtr P T = true) : (bq .eql T xo yo (.pointer a) (.pointer none)).run P w = .ok (.bool a.isNone) w ∧ (bq .neq T xo yo (.pointer a) (.pointer none)).run P w = .ok (.bool !a.isNone) w := by
  unfold isPtr at hT
  split at hT
  · rename_i e hu
    refine run_equal1 ?_ (fun _ _ h => by cases h.1) (fun h => by cases h.1) xo yo (by cases a <;> rfl) (by cases a <;> rfl)
    unfold Op.equal Op.maxDepth Op.equalIn
    simp only [Sem.run_bind, run_underlying hu, Result.andThen_ok]
    cases a <;> rfl
  · cases hT
@[simp] theorem bq_peql (a : Option Addr) (hT : isPtr P T = true) : qG P (bq .eql T xo yo (.pointer a) (.pointer none)) w K = K (.bool a.isNone) := qG_of (run_pnil a hT).1
@[simp] theorem bq_pneq (a : Option Addr) (hT : isPtr P T = true) : qG P (bq .neq T xo yo (.pointer a) (.pointer none)) w K = K (.bool !a.isNone) := qG_of (run_pnil a hT).2
@[simp] theorem stb_peql (a : Option Addr) (hT : isPtr P T = true) : stb P (bq .eql T xo yo (.pointer a) (.pointer none)) u w = (.bool a.isNone = u) := stb_of (run_pnil a hT).1
@[simp] theorem stb_pneq (a : Option Addr) (hT : isPtr P T = true) : stb P (bq .neq T xo yo (.pointer a) (.pointer none)) u w = (.bool (!a.isNone) = u) := stb_of (run_pnil a hT).2
theorem run_bools (a b : Bool) (hT : isBoolT P T = true) : (bq .eql T xo yo (.bool a) (.bool b)).run P w = .ok (.bool (a == b)) w ∧ (bq .neq T xo yo (.bool a) (.bool b)).run P w = .ok (.bool !(a == b)) w := by
  unfold isBoolT at hT
  split at hT
  · rename_i hu
    refine run_equal1 ?_ (fun _ _ h => by cases h.1) (fun h => by cases h.1) xo yo rfl rfl
    unfold Op.equal Op.maxDepth Op.equalIn
    simp only [Sem.run_bind, run_underlying hu, Result.andThen_ok]
    rfl
  · cases hT
@[simp] theorem bq_beql (a b : Bool) (hT : isBoolT P T = true) : qG P (bq .eql T xo yo (.bool a) (.bool b)) w K = K (.bool (a == b)) := qG_of (run_bools a b hT).1
@[simp] theorem bq_bneq (a b : Bool) (hT : isBoolT P T = true) : qG P (bq .neq T xo yo (.bool a) (.bool b)) w K = K (.bool !(a == b)) := qG_of (run_bools a b hT).2
@[simp] theorem stb_beql (a b : Bool) (hT : isBoolT P T = true) : stb P (bq .eql T xo yo (.bool a) (.bool b)) u w = (.bool (a == b) = u) := stb_of (run_bools a b hT).1
@[simp] theorem stb_bneq (a b : Bool) (hT : isBoolT P T = true) : stb P (bq .neq T xo yo (.bool a) (.bool b)) u w = (.bool (!(a == b)) = u) := stb_of (run_bools a b hT).2
theorem run_slnil (a : Option Addr) (n c n' c' : Nat) (hT : isSl P T = true) : (bq .eql T xo yo (.slice a n c) (.slice none n' c')).run P w = .ok (.bool a.isNone) w ∧ (bq .neq T xo yo (.slice a n c) (.slice none n' c')).run P w = .ok (.bool !a.isNone) w := by
  unfold isSl at hT
  split at hT
  · rename_i e hu
    refine run_equal1 ?_ (fun _ _ h => by cases h.1) (fun h => by cases h.1) xo yo (by cases a <;> rfl) (by cases a <;> rfl)
    unfold Op.equal Op.maxDepth Op.equalIn
    simp only [Sem.run_bind, run_underlying hu, Result.andThen_ok]
    cases a <;> rfl
  · cases hT
@[simp] theorem bq_sleql (a : Option Addr) (n c n' c' : Nat) (hT : isSl P T = true) : qG P (bq .eql T xo yo (.slice a n c) (.slice none n' c')) w K = K (.bool a.isNone) := qG_of (run_slnil a n c n' c' hT).1
@[simp] theorem bq_slneq (a : Option Addr) (n c n' c' : Nat) (hT : isSl P T = true) : qG P (bq .neq T xo yo (.slice a n c) (.slice none n' c')) w K = K (.bool !a.isNone) := qG_of (run_slnil a n c n' c' hT).2
end
@[simp] theorem pk_b {t : Bool} {a b : Value} {K : Value → Prop} : pk (.bool t) a b K = K (bif t then a else b) := rfl
@[simp] theorem nk_p {a : Addr} {K : Value → Prop} : nk (.pointer (some a)) K = K (.pointer (some a)) := rfl
@[simp] theorem bV_b {t : Bool} {T F : Prop} : bV (.bool t) T F = ((t = true → T) ∧ (t = false → F)) := by cases t <;> simp [bV]
@[simp] theorem ld1_p {a : Addr} {w : World} {K : Value → Prop} : ld1 (.pointer (some a)) w K = rd1 w a K := rfl
@[simp] theorem ldn_p {n : Nat} {a : Addr} {w : World} {K : Value → Prop} : ldn n (.pointer (some a)) w K = rdN w a n fun cs => K (.agg cs) := rfl
@[simp] theorem st1_p {a : Addr} {v : Value} {w : World} {K : World → Prop} : st1 (.pointer (some a)) v w K = (one v = true ∧ wr1 w a v K) := rfl
@[simp] theorem stn_p {n : Nat} {a : Addr} {cs : Array Value} {w : World} {K : World → Prop} : stn n (.pointer (some a)) (.agg cs) w K = (cs.size = n ∧ wrN w a cs K) := rfl
@[simp] theorem add_mk {b o n : Nat} : (⟨b, o, none⟩ : Addr).add n = ⟨b, o + n, none⟩ := add_none rfl n
@[simp] theorem fa_p {off b o : Nat} {K : Value → Prop} : fa off (.pointer (some ⟨b, o, none⟩)) K = K (.pointer (some ⟨b, o + off, none⟩)) := by unfold fa; simp
@[simp] theorem ia_p {n b o len cap : Nat} {k : IntKind} {j : Int} {K : Value → Prop} : ia n (.slice (some ⟨b, o, none⟩) len cap) (.int k j) K = ((0 ≤ j ∧ j < len) ∧ K (.pointer (some ⟨b, o + j.toNat * n, none⟩))) := by unfold ia; simp
@[simp] theorem iaA_p {len n b o : Nat} {k : IntKind} {j : Int} {K : Value → Prop} : iaA len n (.pointer (some ⟨b, o, none⟩)) (.int k j) K = ((0 ≤ j ∧ j < len) ∧ K (.pointer (some ⟨b, o + j.toNat * n, none⟩))) := by unfold iaA; simp
@[simp] theorem slL_p {n len cap : Nat} {a : Option Addr} {lo hi : Option Value} {K : Value → Prop} : slL n (.slice a len cap) lo hi K = bnd hi len cap fun h => bnd lo 0 h fun l => K (.slice (if cap = l then a else a.map (·.add (l * n))) (h - l) (cap - l)) := rfl
@[simp] theorem slA_p {len n b o : Nat} {lo hi : Option Value} {K : Value → Prop} : slA len n (.pointer (some ⟨b, o, none⟩)) lo hi K = bnd hi len len fun h => bnd lo 0 h fun l => K (.slice (some ⟨b, (if len = l then o else o + l * n), none⟩) (h - l) (len - l)) := by
  unfold slA
  have : ∀ l, (if len = l then (⟨b, o, none⟩ : Addr) else (⟨b, o, none⟩ : Addr).add (l * n)) = ⟨b, (if len = l then o else o + l * n), none⟩ := by intro l; split <;> simp
  simp only [this]
@[simp] theorem slS_p {s : ByteArray} {lo hi : Option Value} {K : Value → Prop} : slS (.string s) lo hi K = bnd hi s.size s.size fun h => bnd lo 0 h fun l => K (.string (s.extract l h)) := rfl
@[simp] theorem bnd_none {d y : Nat} {K : Nat → Prop} : bnd none d y K = K d := rfl
@[simp] theorem bnd_some {k : IntKind} {i : Int} {d y : Nat} {K : Nat → Prop} : bnd (some (.int k i)) d y K = ((0 ≤ i ∧ i ≤ y) ∧ K i.toNat) := rfl
@[simp] theorem lenS_s {s : ByteArray} {K : Value → Prop} : lenS (.string s) K = K (.int .i64 s.size) := rfl
@[simp] theorem lenL_s {a : Option Addr} {n c : Nat} {K : Value → Prop} : lenL (.slice a n c) K = K (.int .i64 n) := rfl
@[simp] theorem cvI_i {kd k : IntKind} {n : Int} {K : Value → Prop} : cvI kd (.int k n) K = K (.int kd (kd.wrap n)) := rfl
@[simp] theorem cvSS_s {s : ByteArray} {K : Value → Prop} : cvSS (.string s) K = K (.string s) := rfl
@[simp] theorem fld_a {agg : Bool} {off n : Nat} {cs : Array Value} {K : Value → Prop} : fld agg off n (.agg cs) K = partG agg off n cs K := rfl
@[simp] theorem part_t {off n : Nat} {cs : Array Value} {K : Value → Prop} : partG true off n cs K = K (.agg (cs.extract off (off + n))) := rfl
@[simp] theorem part_f {off n : Nat} {cs : Array Value} {K : Value → Prop} : partG false off n cs K = match cs[off]? with | some v => K v | none => False := rfl
@[simp] theorem newG_k {c : Array Value} {T : TypeId} {w : World} {K : Value → World → Prop} : newG c T w K = K (.pointer (some ⟨w.heap.size, 0, none⟩)) (w.alloc (.cells c T)) := rfl
@[simp] theorem rd1_mk {w : World} {b o : Nat} {K : Value → Prop} : rd1 w ⟨b, o, none⟩ K = match w.heap[b]? with | some (.cells c _ _) => (match c[o]? with | some v => K v | none => False) | _ => False := by
  unfold rd1
  cases h : w.heap[b]? with
  | none => rfl
  | some x => cases x <;> first | rfl | (simp only [true_and]; rfl)
@[simp] theorem rdN_mk {w : World} {b o n : Nat} {K : Array Value → Prop} : rdN w ⟨b, o, none⟩ n K = match w.heap[b]? with | some (.cells c _ _) => o + n ≤ c.size ∧ K (c.extract o (o + n)) | _ => False := by
  unfold rdN; split <;> simp_all
@[simp] theorem wr1_mk {w : World} {b o : Nat} {v : Value} {K : World → Prop} : wr1 w ⟨b, o, none⟩ v K = match w.heap[b]? with | some (.cells c T fr) => (o < c.size ∧ okFr fr o 1) ∧ K (setBlk w b (.cells (c.setIfInBounds o v) T fr)) | _ => False := by
  unfold wr1; split <;> simp_all
@[simp] theorem wrN_mk {w : World} {b o : Nat} {vs : Array Value} {K : World → Prop} : wrN w ⟨b, o, none⟩ vs K = match w.heap[b]? with | some (.cells c T fr) => (o + vs.size ≤ c.size ∧ okFr fr o vs.size ∧ vs.all one = true) ∧ K (setBlk w b (.cells (splice c o vs) T fr)) | _ => False := by
  unfold wrN; split <;> simp_all
@[simp] theorem okFr0 {o n : Nat} : okFr (0, 0) o n = True := by simp [okFr]
@[simp] theorem one_int {k : IntKind} {n : Int} : one (.int k n) = true := rfl
@[simp] theorem one_bool {b : Bool} : one (.bool b) = true := rfl
@[simp] theorem one_str {s : ByteArray} : one (.string s) = true := rfl
@[simp] theorem one_ptr {a : Option Addr} : one (.pointer a) = true := rfl
@[simp] theorem one_sl {a : Option Addr} {n c : Nat} : one (.slice a n c) = true := rfl
@[simp] theorem heap_drew {w : World} : w.drew.heap = w.heap := rfl
@[simp] theorem size_setBlk {w : World} {b : Nat} {o : Obj} : (setBlk w b o).heap.size = w.heap.size := by simp [setBlk]
theorem heap_setBlk {w : World} {b b' : Nat} {o : Obj} : (setBlk w b o).heap[b']? = if b = b' then (if b < w.heap.size then some o else none) else w.heap[b']? := by
  simp only [setBlk, Array.getElem?_setIfInBounds]
def Live (w : World) (b : Nat) : Prop := b < w.heap.size
theorem live_of {w : World} {b : Nat} {o : Obj} (h : w.heap[b]? = some o) : Live w b := (Array.getElem?_eq_some_iff.1 h).1
theorem heap_self {w : World} {b : Nat} {o : Obj} (h : Live w b) : (setBlk w b o).heap[b]? = some o := by
  unfold Live at h; rw [heap_setBlk, if_pos rfl, if_pos h]
theorem heap_ne {w : World} {b b' : Nat} {o : Obj} (h : ¬ b = b') : (setBlk w b o).heap[b']? = w.heap[b']? := by
  rw [heap_setBlk, if_neg h]
@[simp] theorem live_setBlk {w : World} {b b' : Nat} {o : Obj} : Live (setBlk w b o) b' = Live w b' := by simp [Live]
@[simp] theorem live_drew {w : World} {b : Nat} : Live w.drew b = Live w b := rfl
theorem heap_new {w : World} {o : Obj} : (w.alloc o).heap[w.heap.size]? = some o := by
  show (w.heap.push o)[w.heap.size]? = _
  simp
theorem heap_old {w : World} {b : Nat} {o : Obj} (h : Live w b) : (w.alloc o).heap[b]? = w.heap[b]? := by
  show (w.heap.push o)[b]? = _
  rw [Array.getElem?_push, if_neg (by unfold Live at h; omega)]
@[simp] theorem setBlk_new {w : World} {o o' : Obj} : Q.setBlk (w.alloc o) w.heap.size o' = w.alloc o' := by
  unfold Q.setBlk World.alloc
  simp only [World.mk.injEq, and_true]
  apply Array.ext_getElem?
  intro j
  rw [Array.getElem?_setIfInBounds, Array.getElem?_push, Array.getElem?_push]
  by_cases hj : w.heap.size = j
  · subst hj; simp
  · have : ¬ j = w.heap.size := fun h => hj h.symm
    simp [hj, this]
theorem heap_alloc {w : World} {b' : Nat} {o : Obj} : (w.alloc o).heap[b']? = if b' = w.heap.size then some o else w.heap[b']? := by
  show (w.heap.push o)[b']? = _
  rw [Array.getElem?_push]
@[simp] theorem setBlk2 {w : World} {b : Nat} {o o' : Obj} : setBlk (setBlk w b o) b o' = setBlk w b o' := setBlk_setBlk w b o o'
@[simp] theorem setBlk_drew {w : World} {b : Nat} {o : Obj} : setBlk w.drew b o = (setBlk w b o).drew := rfl
@[simp] theorem alloc_drew' {w : World} {o : Obj} : w.drew.alloc o = (w.alloc o).drew := rfl
theorem lt_of_blk {w : World} {b : Nat} {o : Obj} (h : w.heap[b]? = some o) : b < w.heap.size := (Array.getElem?_eq_some_iff.1 h).1
structure Kp (S : List Nat) (w w' : World) : Prop where
  os : w'.os = w.os
  tape : w'.tape = w.tape
  output : w'.output = w.output
  size : w.heap.size ≤ w'.heap.size
  keep : ∀ b, b < w.heap.size → b ∉ S → w'.heap[b]? = w.heap[b]?
theorem Kp.refl (S : List Nat) (w : World) : Kp S w w := ⟨rfl, rfl, rfl, Nat.le_refl _, fun _ _ _ => rfl⟩
theorem Kp.trans {S S' : List Nat} {w w1 w2 : World} (h : Kp S w w1) (h' : Kp S' w1 w2) (hS : ∀ b, b ∈ S' → b < w.heap.size → b ∈ S) : Kp S w w2 :=
  ⟨h'.os.trans h.os, h'.tape.trans h.tape, h'.output.trans h.output, Nat.le_trans h.size h'.size, fun b hb hn => (h'.keep b (Nat.lt_of_lt_of_le hb h.size) (fun hm => hn (hS b hm hb))).trans (h.keep b hb hn)⟩
theorem Kp.trans' {S : List Nat} {w w1 w2 : World} (h : Kp S w w1) (h' : Kp S w1 w2) : Kp S w w2 := h.trans h' fun _ h _ => h
theorem Kp.mono {S S' : List Nat} {w w' : World} (h : Kp S w w') (hS : ∀ b, b ∈ S → b < w.heap.size → b ∈ S') : Kp S' w w' := (Kp.refl S' w).trans h hS
theorem Kp.drew {S : List Nat} {w w' : World} (h : Kp S w w') : Kp S w w'.drew := ⟨h.os, h.tape, h.output, h.size, h.keep⟩
theorem Kp.alloc {S : List Nat} {w w' : World} (h : Kp S w w') (o : Obj) : Kp S w (w'.alloc o) :=
  ⟨h.os, h.tape, h.output, by simp; have := h.size; omega, fun b hb hn => by
    rw [heap_alloc, if_neg (by have := h.size; omega)]; exact h.keep b hb hn⟩
theorem Kp.setBlk {S : List Nat} {w w' : World} (h : Kp S w w') {b : Nat} (hb : b ∈ S ∨ w.heap.size ≤ b) (o : Obj) : Kp S w (setBlk w' b o) :=
  ⟨h.os, h.tape, h.output, by simpa using h.size, fun b' hb' hn => by
    rw [heap_setBlk, if_neg (by intro hh; subst hh; rcases hb with hb | hb; exact hn hb; omega)]; exact h.keep b' hb' hn⟩
theorem Kp.get {S : List Nat} {w w' : World} (h : Kp S w w') {b : Nat} {o : Obj} (hb : w.heap[b]? = some o) (hn : b ∉ S) : w'.heap[b]? = some o := by
  rw [h.keep b (lt_of_blk hb) hn]; exact hb
theorem Kp.below {w w' : World} (h : Kp [] w w') : Go.RowKit.Below w.heap.size w w' := ⟨h.os, h.tape, h.output, h.size, fun k hk => h.keep k hk (by simp)⟩
theorem callG.mono {f : FuncId} {args : Array Value} {w : World} {K K' : Value → World → Prop} (h : callG P f args w K) (hk : ∀ v w', K v w' → K' v w') : callG P f args w K' :=
  Calls.mono h fun _ _ ⟨v, he, hv⟩ => ⟨v, he, hk v _ hv⟩
theorem w64 {x : Int} (h0 : -9223372036854775808 ≤ x) (h1 : x < 9223372036854775808) : IntKind.i64.wrap x = x := wrap64 x h0 h1
theorem loop_inv {F : (List Value → World → Prop) → List Value → World → Prop} (I : Nat → List Value → World → Prop) (hF : ∀ m N xs w, I m xs w → (∀ m' xs' w', m' < m → I m' xs' w' → N xs' w') → F N xs w)
    {m : Nat} {xs : List Value} {w : World} (h : I m xs w) : ∃ k, loopV F k xs w := by
  have key : ∀ k m, m < k → ∀ xs w, I m xs w → loopV F k xs w := by
    intro k
    induction k with
    | zero => intro m hm; omega
    | succ k ih => intro m hm xs w h; exact hF m _ xs w h fun m' xs' w' hlt h' => ih m' (by omega) xs' w' h'
  exact ⟨m + 1, key (m + 1) m (by omega) xs w h⟩
end Go.Q

set_option linter.unusedVariables false
set_option linter.unusedSimpArgs false
namespace Go.Proofs
open Go Go.Q
@[simp] theorem Tryz.isBool4 : isBoolT Tryz.prog 4 = true := by kernel_rfl
@[simp] theorem Tryz.isPtr15 : isPtr Tryz.prog 15 = true := by kernel_rfl
@[simp] theorem Tryz.isPtr16 : isPtr Tryz.prog 16 = true := by kernel_rfl
@[simp] theorem Tryz.isPtr17 : isPtr Tryz.prog 17 = true := by kernel_rfl
@[simp] theorem Tryz.isSl22 : isSl Tryz.prog 22 = true := by kernel_rfl
@[simp] theorem Tryz.isSl23 : isSl Tryz.prog 23 = true := by kernel_rfl
@[simp] theorem Tryz.isSl24 : isSl Tryz.prog 24 = true := by kernel_rfl
@[simp] theorem Tryz.isSl29 : isSl Tryz.prog 29 = true := by kernel_rfl
@[simp] theorem Tryz.isSl33 : isSl Tryz.prog 33 = true := by kernel_rfl
@[simp] theorem Tryz.isPtr34 : isPtr Tryz.prog 34 = true := by kernel_rfl
@[simp] theorem Tryz.isPtr37 : isPtr Tryz.prog 37 = true := by kernel_rfl
@[simp] theorem Tryz.isSl51 : isSl Tryz.prog 51 = true := by kernel_rfl
@[simp] theorem Tryz.isSl52 : isSl Tryz.prog 52 = true := by kernel_rfl
@[simp] theorem Tryz.isPtr56 : isPtr Tryz.prog 56 = true := by kernel_rfl
@[simp] theorem Tryz.isSl59 : isSl Tryz.prog 59 = true := by kernel_rfl
@[simp] theorem Tryz.isSl63 : isSl Tryz.prog 63 = true := by kernel_rfl
@[simp] theorem Tryz.isSl64 : isSl Tryz.prog 64 = true := by kernel_rfl
@[simp] theorem Tryz.isSl96 : isSl Tryz.prog 96 = true := by kernel_rfl
@[simp] theorem Tryz.isPtr108 : isPtr Tryz.prog 108 = true := by kernel_rfl
@[simp] theorem Tryz.isSl133 : isSl Tryz.prog 133 = true := by kernel_rfl
@[simp] theorem Tryz.isPtr150 : isPtr Tryz.prog 150 = true := by kernel_rfl
@[simp] theorem Tryz.isPtr167 : isPtr Tryz.prog 167 = true := by kernel_rfl
@[simp] theorem Tryz.isPtr199 : isPtr Tryz.prog 199 = true := by kernel_rfl
end Go.Proofs

set_option linter.unusedVariables false
set_option linter.unusedSimpArgs false
namespace Go.Proofs
open Go Go.Q
set_option maxRecDepth 100000
def crc_More_s0 (R : Value → World → Prop) (x5 : Value) (w : World) : Prop :=
  qG Tryz.prog (Op.unary .xor x5) w fun t33 =>
  cvI .i64 t33 fun t34 =>
  R t34 w
theorem crc_More_s0_eq (R : Value → World → Prop) : ∀ e w, lift Tryz.prog 35 (sub (bodyOf Tryz.f106) [1, 1, 1]) (finK Tryz.prog Tryz.f106.results.toList R) e w = crc_More_s0 R (e 5) w := fun e w => by kernel_rfl
def crc_More_s1 (R : Value → World → Prop) (N1 : List Value → World → Prop) (x1 x5 x11 x12 : Value) (w : World) : Prop :=
  qG Tryz.prog (bq .add 3 (.tmp 12) (.const (.int .i64 1)) x12 (.int .i64 1)) w fun t31 =>
  N1 [x1, x5, x11, t31] w
theorem crc_More_s1_eq (R : Value → World → Prop) (N1 : List Value → World → Prop) : ∀ e w, lift Tryz.prog 35 (sub (bodyOf Tryz.f106) [1, 1, 0, 1, 0, 0, 1, 1, 1]) (seqK (fun e w => N1 [e 1, e 5, e 11, e 12] w) (blockK 0 (seqK (fun e w => crc_More_s0 R (e 5) w) (finK Tryz.prog Tryz.f106.results.toList R)))) e w = crc_More_s1 R N1 (e 1) (e 5) (e 11) (e 12) w := fun e w => by kernel_rfl
def crc_More_b2 (R : Value → World → Prop) (N1 : List Value → World → Prop) (N2 : List Value → World → Prop) (x1 x5 x11 x12 x21 : Value) (w : World) : Prop :=
  qG Tryz.prog (bq .lss 3 (.tmp 21) (.const (.int .i64 8)) x21 (.int .i64 8)) w fun t22 =>
  bV t22
  (qG Tryz.prog (bq .shr 181 (.tmp 23) (.const (.int .u64 1)) x5 (.int .u64 1)) w fun t24 =>
  qG Tryz.prog (bq .and 181 (.tmp 25) (.const (.int .u32 1)) x5 (.int .u32 1)) w fun t26 =>
  qG Tryz.prog (Op.unary .neg t26) w fun t27 =>
  qG Tryz.prog (bq .and 181 (.const (.int .u32 3988292384)) (.tmp 27) (.int .u32 3988292384) t27) w fun t28 =>
  qG Tryz.prog (bq .xor 181 (.tmp 24) (.tmp 28) t24 t28) w fun t29 =>
  qG Tryz.prog (bq .add 3 (.tmp 21) (.const (.int .i64 1)) x21 (.int .i64 1)) w fun t30 =>
  N2 [x1, t29, x11, x12, t30] w)
  (crc_More_s1 R N1 x1 x5 x11 x12 w)
theorem crc_More_b2_eq (R : Value → World → Prop) (N1 : List Value → World → Prop) (N2 : List Value → World → Prop) : ∀ e w, lift Tryz.prog 35 (sub (bodyOf Tryz.f106) [1, 1, 0, 1, 0, 0, 1, 1, 0, 0, 1, 1, 1, 0, 0]) (seqK (fun e w => N2 [e 1, e 5, e 11, e 12, e 21] w) (blockK 2 (blockK 1 (seqK (fun e w => crc_More_s1 R N1 (e 1) (e 5) (e 11) (e 12) w) (seqK (fun e w => N1 [e 1, e 5, e 11, e 12] w) (blockK 0 (seqK (fun e w => crc_More_s0 R (e 5) w) (finK Tryz.prog Tryz.f106.results.toList R)))))))) e w = crc_More_b2 R N1 N2 (e 1) (e 5) (e 11) (e 12) (e 21) w := fun e w => by kernel_rfl
def crc_More_L3F (R : Value → World → Prop) (N1 : List Value → World → Prop) (N2 : List Value → World → Prop) (xs : List Value) (w : World) : Prop :=
  match xs with
  | [x1, x5, x11, x12, x21] => crc_More_b2 R N1 N2 x1 x5 x11 x12 x21 w
  | _ => False
def crc_More_L3 (R : Value → World → Prop) (N1 : List Value → World → Prop) (x1 x5 x11 x12 x21 : Value) (w : World) : Prop :=
  ∃ m, loopV (crc_More_L3F R N1) m [x1, x5, x11, x12, x21] w
theorem crc_More_L3_eq (R : Value → World → Prop) (N1 : List Value → World → Prop) : ∀ e w, lift Tryz.prog 35 (sub (bodyOf Tryz.f106) [1, 1, 0, 1, 0, 0, 1, 1, 0, 0, 1, 1, 1, 0]) (blockK 2 (blockK 1 (seqK (fun e w => crc_More_s1 R N1 (e 1) (e 5) (e 11) (e 12) w) (seqK (fun e w => N1 [e 1, e 5, e 11, e 12] w) (blockK 0 (seqK (fun e w => crc_More_s0 R (e 5) w) (finK Tryz.prog Tryz.f106.results.toList R))))))) e w = crc_More_L3 R N1 (e 1) (e 5) (e 11) (e 12) (e 21) w := loop_seg (F := crc_More_L3F R N1) (sel := fun e => [e 1, e 5, e 11, e 12, e 21]) fun N2 => (crc_More_b2_eq R N1 N2)
def crc_More_s4 (R : Value → World → Prop) (N1 : List Value → World → Prop) (x1 x5 x11 x12 : Value) (w : World) : Prop :=
  ixS x1 x12 fun t18 =>
  cvI .u32 t18 fun t19 =>
  qG Tryz.prog (bq .xor 181 (.tmp 15) (.tmp 19) x5 t19) w fun t20 =>
  crc_More_L3 R N1 x1 t20 x11 x12 (.int .i64 0) w
theorem crc_More_s4_eq (R : Value → World → Prop) (N1 : List Value → World → Prop) : ∀ e w, lift Tryz.prog 35 (sub (bodyOf Tryz.f106) [1, 1, 0, 1, 0, 0, 1, 1, 0, 0]) (blockK 1 (seqK (fun e w => crc_More_s1 R N1 (e 1) (e 5) (e 11) (e 12) w) (seqK (fun e w => N1 [e 1, e 5, e 11, e 12] w) (blockK 0 (seqK (fun e w => crc_More_s0 R (e 5) w) (finK Tryz.prog Tryz.f106.results.toList R)))))) e w = crc_More_s4 R N1 (e 1) (e 5) (e 11) (e 12) w :=
  segs_eq (l := [(sub (bodyOf Tryz.f106) [1, 1, 0, 1, 0, 0, 1, 1, 0, 0, 0]), (sub (bodyOf Tryz.f106) [1, 1, 0, 1, 0, 0, 1, 1, 0, 0, 1, 0]), (sub (bodyOf Tryz.f106) [1, 1, 0, 1, 0, 0, 1, 1, 0, 0, 1, 1, 0])]) (y := (sub (bodyOf Tryz.f106) [1, 1, 0, 1, 0, 0, 1, 1, 0, 0, 1, 1, 1])) (Y := (fun e w => crc_More_L3 R N1 (e 1) (e 5) (e 11) (e 12) (e 21) w)) (crc_More_L3_eq R N1) (fun e w => by kernel_rfl)
def crc_More_s5 (R : Value → World → Prop) (N1 : List Value → World → Prop) (x1 x5 x11 x12 : Value) (w : World) : Prop :=
  qG Tryz.prog (bq .lss 3 (.tmp 12) (.tmp 11) x12 x11) w fun t13 =>
  bV t13
  (crc_More_s4 R N1 x1 x5 x11 x12 w)
  (crc_More_s0 R x5 w)
theorem crc_More_s5_eq (R : Value → World → Prop) (N1 : List Value → World → Prop) : ∀ e w, lift Tryz.prog 35 (sub (bodyOf Tryz.f106) [1, 1, 0, 1, 0, 0]) (seqK (fun e w => N1 [e 1, e 5, e 11, e 12] w) (blockK 0 (seqK (fun e w => crc_More_s0 R (e 5) w) (finK Tryz.prog Tryz.f106.results.toList R)))) e w = crc_More_s5 R N1 (e 1) (e 5) (e 11) (e 12) w :=
  segs_eq (l := [(sub (bodyOf Tryz.f106) [1, 1, 0, 1, 0, 0, 0]), (sub (bodyOf Tryz.f106) [1, 1, 0, 1, 0, 0, 1, 0])]) (y := (sub (bodyOf Tryz.f106) [1, 1, 0, 1, 0, 0, 1, 1])) (Y := (fun e w => crc_More_s4 R N1 (e 1) (e 5) (e 11) (e 12) w)) (seq_seg (x := (sub (bodyOf Tryz.f106) [1, 1, 0, 1, 0, 0, 1, 1, 0])) (y := (sub (bodyOf Tryz.f106) [1, 1, 0, 1, 0, 0, 1, 1, 1])) (crc_More_s1_eq R N1) (crc_More_s4_eq R N1)) (fun e w => by kernel_rfl)
def crc_More_L6F (R : Value → World → Prop) (N1 : List Value → World → Prop) (xs : List Value) (w : World) : Prop :=
  match xs with
  | [x1, x5, x11, x12] => crc_More_s5 R N1 x1 x5 x11 x12 w
  | _ => False
def crc_More_L6 (R : Value → World → Prop) (x1 x5 x11 x12 : Value) (w : World) : Prop :=
  ∃ m, loopV (crc_More_L6F R) m [x1, x5, x11, x12] w
theorem crc_More_L6_eq (R : Value → World → Prop) : ∀ e w, lift Tryz.prog 35 (sub (bodyOf Tryz.f106) [1, 1, 0, 1, 0]) (blockK 0 (seqK (fun e w => crc_More_s0 R (e 5) w) (finK Tryz.prog Tryz.f106.results.toList R))) e w = crc_More_L6 R (e 1) (e 5) (e 11) (e 12) w := loop_seg (F := crc_More_L6F R) (sel := fun e => [e 1, e 5, e 11, e 12]) fun N1 => (crc_More_s5_eq R N1)
def crc_More_s7 (R : Value → World → Prop) (x1 x5 : Value) (w : World) : Prop :=
  lenS x1 fun t11 =>
  crc_More_L6 R x1 x5 t11 (.int .i64 0) w
theorem crc_More_s7_eq (R : Value → World → Prop) : ∀ e w, lift Tryz.prog 35 (sub (bodyOf Tryz.f106) [1, 1, 0]) (seqK (fun e w => crc_More_s0 R (e 5) w) (finK Tryz.prog Tryz.f106.results.toList R)) e w = crc_More_s7 R (e 1) (e 5) w :=
  segs_eq (l := [(sub (bodyOf Tryz.f106) [1, 1, 0, 0])]) (y := (sub (bodyOf Tryz.f106) [1, 1, 0, 1])) (Y := (fun e w => crc_More_L6 R (e 1) (e 5) (e 11) (e 12) w)) (crc_More_L6_eq R) (fun e w => by kernel_rfl)
def crc_More_s8 (R : Value → World → Prop) (x0 x1 : Value) (w : World) : Prop :=
  cvI .u32 x0 fun t8 =>
  qG Tryz.prog (Op.unary .xor t8) w fun t9 =>
  crc_More_s7 R x1 t9 w
theorem crc_More_s8_eq (R : Value → World → Prop) : ∀ e w, lift Tryz.prog 35 (bodyOf Tryz.f106) (finK Tryz.prog Tryz.f106.results.toList R) e w = crc_More_s8 R (e 0) (e 1) w :=
  segs_eq (l := [(sub (bodyOf Tryz.f106) [0]), (sub (bodyOf Tryz.f106) [1, 0])]) (y := (sub (bodyOf Tryz.f106) [1, 1])) (Y := (fun e w => crc_More_s7 R (e 1) (e 5) w)) (seq_seg (x := (sub (bodyOf Tryz.f106) [1, 1, 0])) (y := (sub (bodyOf Tryz.f106) [1, 1, 1])) (crc_More_s0_eq R) (crc_More_s7_eq R)) (fun e w => by kernel_rfl)
def crc_More (R : Value → World → Prop) (x0 x1 : Value) (w : World) : Prop := crc_More_s8 R x0 x1 w
theorem crc_More_call {R : Value → World → Prop} {x0 x1 : Value} {w : World} (h : crc_More R x0 x1 w) : callG Tryz.prog 106 #[x0, x1] w R :=
  calls_lift_eq Tryz.mixed Tryz.func106 (args := [x0, x1]) rfl rfl rfl rfl ((crc_More_s8_eq R) (envOf [x0, x1]) w) (by kernel_rfl) h
def crc_Sum_s0 (R : Value → World → Prop) (x0 : Value) (w : World) : Prop :=
  callG Tryz.prog 106 #[(.int .i64 0), x0] w fun t4 w =>
  R t4 w
theorem crc_Sum_s0_eq (R : Value → World → Prop) : ∀ e w, lift Tryz.prog 5 (bodyOf Tryz.f82) (finK Tryz.prog Tryz.f82.results.toList R) e w = crc_Sum_s0 R (e 0) w := fun e w => by kernel_rfl
def crc_Sum (R : Value → World → Prop) (x0 : Value) (w : World) : Prop := crc_Sum_s0 R x0 w
theorem crc_Sum_call {R : Value → World → Prop} {x0 : Value} {w : World} (h : crc_Sum R x0 w) : callG Tryz.prog 82 #[x0] w R :=
  calls_lift_eq Tryz.mixed Tryz.func82 (args := [x0]) rfl rfl rfl rfl ((crc_Sum_s0_eq R) (envOf [x0]) w) (by kernel_rfl) h
end Go.Proofs

set_option linter.unusedVariables false
set_option linter.unusedSimpArgs false
namespace Go.Proofs
open Go Go.Q
set_option maxRecDepth 100000
def crc_Put_s0 (R : Value → World → Prop) (x3 : Value) (w : World) : Prop :=
  slA 4 1 x3 none none fun t16 =>
  cvBS t16 w fun t17 =>
  R t17 w
theorem crc_Put_s0_eq (R : Value → World → Prop) : ∀ e w, lift Tryz.prog 18 (sub (bodyOf Tryz.f80) [1, 1, 1]) (finK Tryz.prog Tryz.f80.results.toList R) e w = crc_Put_s0 R (e 3) w := fun e w => by kernel_rfl
def crc_Put_b1 (R : Value → World → Prop) (N1 : List Value → World → Prop) (x0 x3 x5 : Value) (w : World) : Prop :=
  qG Tryz.prog (bq .lss 3 (.tmp 5) (.const (.int .i64 4)) x5 (.int .i64 4)) w fun t6 =>
  bV t6
  (qG Tryz.prog (bq .mul 3 (.const (.int .i64 8)) (.tmp 10) (.int .i64 8) x5) w fun t11 =>
  qG Tryz.prog (bq .shr 3 (.tmp 9) (.tmp 11) x0 t11) w fun t12 =>
  cvI .u8 t12 fun t13 =>
  iaA 4 1 x3 x5 fun t14 =>
  st1 t14 t13 w fun w =>
  qG Tryz.prog (bq .add 3 (.tmp 5) (.const (.int .i64 1)) x5 (.int .i64 1)) w fun t15 =>
  N1 [x0, x3, t15] w)
  (crc_Put_s0 R x3 w)
theorem crc_Put_b1_eq (R : Value → World → Prop) (N1 : List Value → World → Prop) : ∀ e w, lift Tryz.prog 18 (sub (bodyOf Tryz.f80) [1, 1, 0, 1, 0, 0]) (seqK (fun e w => N1 [e 0, e 3, e 5] w) (blockK 0 (seqK (fun e w => crc_Put_s0 R (e 3) w) (finK Tryz.prog Tryz.f80.results.toList R)))) e w = crc_Put_b1 R N1 (e 0) (e 3) (e 5) w := fun e w => by kernel_rfl
def crc_Put_L2F (R : Value → World → Prop) (N1 : List Value → World → Prop) (xs : List Value) (w : World) : Prop :=
  match xs with
  | [x0, x3, x5] => crc_Put_b1 R N1 x0 x3 x5 w
  | _ => False
def crc_Put_L2 (R : Value → World → Prop) (x0 x3 x5 : Value) (w : World) : Prop :=
  ∃ m, loopV (crc_Put_L2F R) m [x0, x3, x5] w
theorem crc_Put_L2_eq (R : Value → World → Prop) : ∀ e w, lift Tryz.prog 18 (sub (bodyOf Tryz.f80) [1, 1, 0, 1, 0]) (blockK 0 (seqK (fun e w => crc_Put_s0 R (e 3) w) (finK Tryz.prog Tryz.f80.results.toList R))) e w = crc_Put_L2 R (e 0) (e 3) (e 5) w := loop_seg (F := crc_Put_L2F R) (sel := fun e => [e 0, e 3, e 5]) fun N1 => (crc_Put_b1_eq R N1)
def crc_Put_s3 (R : Value → World → Prop) (x0 x3 : Value) (w : World) : Prop :=
  crc_Put_L2 R x0 x3 (.int .i64 0) w
theorem crc_Put_s3_eq (R : Value → World → Prop) : ∀ e w, lift Tryz.prog 18 (sub (bodyOf Tryz.f80) [1, 1, 0]) (seqK (fun e w => crc_Put_s0 R (e 3) w) (finK Tryz.prog Tryz.f80.results.toList R)) e w = crc_Put_s3 R (e 0) (e 3) w :=
  segs_eq (l := [(sub (bodyOf Tryz.f80) [1, 1, 0, 0])]) (y := (sub (bodyOf Tryz.f80) [1, 1, 0, 1])) (Y := (fun e w => crc_Put_L2 R (e 0) (e 3) (e 5) w)) (crc_Put_L2_eq R) (fun e w => by kernel_rfl)
def crc_Put_s4 (R : Value → World → Prop) (x0 : Value) (w : World) : Prop :=
  newG (zc Tryz.prog 152) 152 w fun t3 w =>
  crc_Put_s3 R x0 t3 w
theorem crc_Put_s4_eq (R : Value → World → Prop) : ∀ e w, lift Tryz.prog 18 (bodyOf Tryz.f80) (finK Tryz.prog Tryz.f80.results.toList R) e w = crc_Put_s4 R (e 0) w :=
  segs_eq (l := [(sub (bodyOf Tryz.f80) [0]), (sub (bodyOf Tryz.f80) [1, 0])]) (y := (sub (bodyOf Tryz.f80) [1, 1])) (Y := (fun e w => crc_Put_s3 R (e 0) (e 3) w)) (seq_seg (x := (sub (bodyOf Tryz.f80) [1, 1, 0])) (y := (sub (bodyOf Tryz.f80) [1, 1, 1])) (crc_Put_s0_eq R) (crc_Put_s3_eq R)) (fun e w => by kernel_rfl)
def crc_Put (R : Value → World → Prop) (x0 : Value) (w : World) : Prop := crc_Put_s4 R x0 w
theorem crc_Put_call {R : Value → World → Prop} {x0 : Value} {w : World} (h : crc_Put R x0 w) : callG Tryz.prog 80 #[x0] w R :=
  calls_lift_eq Tryz.mixed Tryz.func80 (args := [x0]) rfl rfl rfl rfl ((crc_Put_s4_eq R) (envOf [x0]) w) (by kernel_rfl) h
def crc_Take_s0 (R : Value → World → Prop) (x3 : Value) (w : World) : Prop :=
  R x3 w
theorem crc_Take_s0_eq (R : Value → World → Prop) : ∀ e w, lift Tryz.prog 22 (sub (bodyOf Tryz.f36) [1, 1, 1, 1]) (finK Tryz.prog Tryz.f36.results.toList R) e w = crc_Take_s0 R (e 3) w := fun e w => by kernel_rfl
def crc_Take_b1 (R : Value → World → Prop) (N1 : List Value → World → Prop) (x0 x3 x8 : Value) (w : World) : Prop :=
  qG Tryz.prog (bq .lss 3 (.tmp 8) (.const (.int .i64 4)) x8 (.int .i64 4)) w fun t9 =>
  bV t9
  (ixS x0 x8 fun t14 =>
  cvI .i64 t14 fun t15 =>
  qG Tryz.prog (bq .mul 3 (.const (.int .i64 8)) (.tmp 16) (.int .i64 8) x8) w fun t17 =>
  qG Tryz.prog (bq .shl 3 (.tmp 15) (.tmp 17) t15 t17) w fun t18 =>
  qG Tryz.prog (bq .or 3 (.tmp 11) (.tmp 18) x3 t18) w fun t19 =>
  qG Tryz.prog (bq .add 3 (.tmp 8) (.const (.int .i64 1)) x8 (.int .i64 1)) w fun t20 =>
  N1 [x0, t19, t20] w)
  (crc_Take_s0 R x3 w)
theorem crc_Take_b1_eq (R : Value → World → Prop) (N1 : List Value → World → Prop) : ∀ e w, lift Tryz.prog 22 (sub (bodyOf Tryz.f36) [1, 1, 1, 0, 1, 0, 0]) (seqK (fun e w => N1 [e 0, e 3, e 8] w) (blockK 0 (seqK (fun e w => crc_Take_s0 R (e 3) w) (finK Tryz.prog Tryz.f36.results.toList R)))) e w = crc_Take_b1 R N1 (e 0) (e 3) (e 8) w := fun e w => by kernel_rfl
def crc_Take_L2F (R : Value → World → Prop) (N1 : List Value → World → Prop) (xs : List Value) (w : World) : Prop :=
  match xs with
  | [x0, x3, x8] => crc_Take_b1 R N1 x0 x3 x8 w
  | _ => False
def crc_Take_L2 (R : Value → World → Prop) (x0 x3 x8 : Value) (w : World) : Prop :=
  ∃ m, loopV (crc_Take_L2F R) m [x0, x3, x8] w
theorem crc_Take_L2_eq (R : Value → World → Prop) : ∀ e w, lift Tryz.prog 22 (sub (bodyOf Tryz.f36) [1, 1, 1, 0, 1, 0]) (blockK 0 (seqK (fun e w => crc_Take_s0 R (e 3) w) (finK Tryz.prog Tryz.f36.results.toList R))) e w = crc_Take_L2 R (e 0) (e 3) (e 8) w := loop_seg (F := crc_Take_L2F R) (sel := fun e => [e 0, e 3, e 8]) fun N1 => (crc_Take_b1_eq R N1)
def crc_Take_s3 (R : Value → World → Prop) (x0 x3 : Value) (w : World) : Prop :=
  crc_Take_L2 R x0 x3 (.int .i64 0) w
theorem crc_Take_s3_eq (R : Value → World → Prop) : ∀ e w, lift Tryz.prog 22 (sub (bodyOf Tryz.f36) [1, 1, 1, 0]) (seqK (fun e w => crc_Take_s0 R (e 3) w) (finK Tryz.prog Tryz.f36.results.toList R)) e w = crc_Take_s3 R (e 0) (e 3) w :=
  segs_eq (l := [(sub (bodyOf Tryz.f36) [1, 1, 1, 0, 0])]) (y := (sub (bodyOf Tryz.f36) [1, 1, 1, 0, 1])) (Y := (fun e w => crc_Take_L2 R (e 0) (e 3) (e 8) w)) (crc_Take_L2_eq R) (fun e w => by kernel_rfl)
def crc_Take_s4 (R : Value → World → Prop) (x0 : Value) (w : World) : Prop :=
  lenS x0 fun t6 =>
  qG Tryz.prog (bq .lss 3 (.tmp 6) (.const (.int .i64 4)) t6 (.int .i64 4)) w fun t7 =>
  bV t7
  (R (.int .i64 (-1)) w)
  (crc_Take_s3 R x0 (.int .i64 0) w)
theorem crc_Take_s4_eq (R : Value → World → Prop) : ∀ e w, lift Tryz.prog 22 (bodyOf Tryz.f36) (finK Tryz.prog Tryz.f36.results.toList R) e w = crc_Take_s4 R (e 0) w :=
  segs_eq (l := [(sub (bodyOf Tryz.f36) [0]), (sub (bodyOf Tryz.f36) [1, 0]), (sub (bodyOf Tryz.f36) [1, 1, 0])]) (y := (sub (bodyOf Tryz.f36) [1, 1, 1])) (Y := (fun e w => crc_Take_s3 R (e 0) (e 3) w)) (seq_seg (x := (sub (bodyOf Tryz.f36) [1, 1, 1, 0])) (y := (sub (bodyOf Tryz.f36) [1, 1, 1, 1])) (crc_Take_s0_eq R) (crc_Take_s3_eq R)) (fun e w => by kernel_rfl)
def crc_Take (R : Value → World → Prop) (x0 : Value) (w : World) : Prop := crc_Take_s4 R x0 w
theorem crc_Take_call {R : Value → World → Prop} {x0 : Value} {w : World} (h : crc_Take R x0 w) : callG Tryz.prog 36 #[x0] w R :=
  calls_lift_eq Tryz.mixed Tryz.func36 (args := [x0]) rfl rfl rfl rfl ((crc_Take_s4_eq R) (envOf [x0]) w) (by kernel_rfl) h
end Go.Proofs

set_option linter.unusedVariables false
set_option linter.unusedSimpArgs false
namespace Go.Proofs
open Go Go.Q
set_option maxRecDepth 100000
def disk_New_s0 (R : Value → World → Prop) (x0 : Value) (w : World) : Prop :=
  qG Tryz.prog (bq .lss 3 (.tmp 4) (.const (.int .i64 1)) x0 (.int .i64 1)) w fun t5 =>
  bV t5
  (R (.tuple #[(.pointer none), (.int .i64 1)]) w)
  (qG Tryz.prog (bq .gtr 3 (.tmp 7) (.const (.int .i64 4096)) x0 (.int .i64 4096)) w fun t8 =>
  bV t8
  (R (.tuple #[(.pointer none), (.int .i64 1)]) w)
  ((mkG 93 32 32 (zc Tryz.prog 93) x0 x0 (World.drew w) fun t11 w =>
  mkG 93 32 32 (zc Tryz.prog 93) x0 x0 w fun t13 w =>
  bld [(0, 1), (1, 1), (2, 1), (3, 1), (4, 1)] (zc Tryz.prog 54) #[(0, t11), (1, t13), (3, (.int .i64 (-1)))] fun t14 =>
  newG (Value.cells t14) 54 w fun t15 w =>
  R (.tuple #[t15, (.int .i64 0)]) w) ∧
  (mkG 93 32 32 (zc Tryz.prog 93) x0 x0 (World.drew w) fun t13_1 w =>
  mkG 93 32 32 (zc Tryz.prog 93) x0 x0 w fun t11_1 w =>
  bld [(0, 1), (1, 1), (2, 1), (3, 1), (4, 1)] (zc Tryz.prog 54) #[(0, t11_1), (1, t13_1), (3, (.int .i64 (-1)))] fun t14_1 =>
  newG (Value.cells t14_1) 54 w fun t15_1 w =>
  R (.tuple #[t15_1, (.int .i64 0)]) w)))
theorem disk_New_s0_eq (R : Value → World → Prop) : ∀ e w, lift Tryz.prog 16 (bodyOf Tryz.f10) (finK Tryz.prog Tryz.f10.results.toList R) e w = disk_New_s0 R (e 0) w := fun e w => by kernel_rfl
def disk_New (R : Value → World → Prop) (x0 : Value) (w : World) : Prop := disk_New_s0 R x0 w
theorem disk_New_call {R : Value → World → Prop} {x0 : Value} {w : World} (h : disk_New R x0 w) : callG Tryz.prog 10 #[x0] w R :=
  calls_lift_eq Tryz.mixed Tryz.func10 (args := [x0]) rfl rfl rfl rfl ((disk_New_s0_eq R) (envOf [x0]) w) (by kernel_rfl) h
def disk_Disk_Write_s0 (R : Value → World → Prop) (x0 x1 x2 : Value) (w : World) : Prop :=
  callG Tryz.prog 117 #[x0] w fun t17 w =>
  qG Tryz.prog (Op.unary .not t17) w fun t18 =>
  bV t18
  (R (.int .i64 30) w)
  (nk x0 fun t20 =>
  fa 1 t20 fun t21 =>
  ld1 t21 w fun t22 =>
  ia 32 t22 x1 fun t24 =>
  slA 32 1 t24 none none fun t25 =>
  cp 1 t25 x2 w fun t27 w =>
  nk x0 fun t30 =>
  fa 2 t30 fun t31 =>
  ld1 t31 (World.drew w) fun t32 =>
  nk x0 fun t35 =>
  fa 1 t35 fun t36 =>
  ld1 t36 (World.drew w) fun t37 =>
  ia 32 t37 x1 fun t39 =>
  ldn 32 t39 (World.drew w) fun t40 =>
  bld [(0, 1), (1, 32)] (zc Tryz.prog 95) #[(0, x1), (1, t40)] fun t41 =>
  bsl 95 33 1 (zc Tryz.prog 95) #[(0, t41)] (World.drew w) fun t42 w =>
  ld1 t31 w (fun u => u = t32) ∧
  app 95 33 40 (zc Tryz.prog 95) t32 t42 w fun t43 w =>
  nk x0 fun t44 =>
  fa 2 t44 fun t45 =>
  st1 t45 t43 w fun w =>
  R (.int .i64 0) w)
theorem disk_Disk_Write_s0_eq (R : Value → World → Prop) : ∀ e w, lift Tryz.prog 46 (sub (bodyOf Tryz.f90) [1, 1]) (finK Tryz.prog Tryz.f90.results.toList R) e w = disk_Disk_Write_s0 R (e 0) (e 1) (e 2) w := fun e w => by kernel_rfl
def disk_Disk_Write_s1 (R : Value → World → Prop) (x0 x1 x2 : Value) (w : World) : Prop :=
  callG Tryz.prog 79 #[x0, x1] w fun t9 w =>
  qG Tryz.prog (Op.unary .not t9) w fun t10 =>
  bV t10
  (R (.int .i64 1) w)
  (lenS x2 fun t13 =>
  qG Tryz.prog (bq .neq 3 (.tmp 13) (.const (.int .i64 32)) t13 (.int .i64 32)) w fun t14 =>
  bV t14
  (R (.int .i64 1) w)
  (disk_Disk_Write_s0 R x0 x1 x2 w))
theorem disk_Disk_Write_s1_eq (R : Value → World → Prop) : ∀ e w, lift Tryz.prog 46 (bodyOf Tryz.f90) (finK Tryz.prog Tryz.f90.results.toList R) e w = disk_Disk_Write_s1 R (e 0) (e 1) (e 2) w :=
  segs_eq (l := [(sub (bodyOf Tryz.f90) [0]), (sub (bodyOf Tryz.f90) [1, 0])]) (y := (sub (bodyOf Tryz.f90) [1, 1])) (Y := (fun e w => disk_Disk_Write_s0 R (e 0) (e 1) (e 2) w)) (disk_Disk_Write_s0_eq R) (fun e w => by kernel_rfl)
def disk_Disk_Write (R : Value → World → Prop) (x0 x1 x2 : Value) (w : World) : Prop := disk_Disk_Write_s1 R x0 x1 x2 w
theorem disk_Disk_Write_call {R : Value → World → Prop} {x0 x1 x2 : Value} {w : World} (h : disk_Disk_Write R x0 x1 x2 w) : callG Tryz.prog 90 #[x0, x1, x2] w R :=
  calls_lift_eq Tryz.mixed Tryz.func90 (args := [x0, x1, x2]) rfl rfl rfl rfl ((disk_Disk_Write_s1_eq R) (envOf [x0, x1, x2]) w) (by kernel_rfl) h
def disk_Disk_has_s0 (R : Value → World → Prop) (x0 x1 : Value) (w : World) : Prop :=
  qG Tryz.prog (bq .geq 3 (.tmp 5) (.const (.int .i64 0)) x1 (.int .i64 0)) w fun t6 =>
  bV t6
  (callG Tryz.prog 33 #[x0] w fun t10 w =>
  qG Tryz.prog (bq .lss 3 (.tmp 8) (.tmp 10) x1 t10) w fun t11 =>
  R t11 w)
  (R (.bool false) w)
theorem disk_Disk_has_s0_eq (R : Value → World → Prop) : ∀ e w, lift Tryz.prog 13 (bodyOf Tryz.f79) (finK Tryz.prog Tryz.f79.results.toList R) e w = disk_Disk_has_s0 R (e 0) (e 1) w := fun e w => by kernel_rfl
def disk_Disk_has (R : Value → World → Prop) (x0 x1 : Value) (w : World) : Prop := disk_Disk_has_s0 R x0 x1 w
theorem disk_Disk_has_call {R : Value → World → Prop} {x0 x1 : Value} {w : World} (h : disk_Disk_has R x0 x1 w) : callG Tryz.prog 79 #[x0, x1] w R :=
  calls_lift_eq Tryz.mixed Tryz.func79 (args := [x0, x1]) rfl rfl rfl rfl ((disk_Disk_has_s0_eq R) (envOf [x0, x1]) w) (by kernel_rfl) h
def disk_Disk_Size_s0 (R : Value → World → Prop) (x0 : Value) (w : World) : Prop :=
  qG Tryz.prog (bq .eql 34 (.tmp 3) (.const (.pointer none)) x0 (.pointer none)) w fun t4 =>
  bV t4
  (R (.int .i64 0) w)
  (nk x0 fun t6 =>
  fa 1 t6 fun t7 =>
  ld1 t7 w fun t8 =>
  lenL t8 fun t9 =>
  R t9 w)
theorem disk_Disk_Size_s0_eq (R : Value → World → Prop) : ∀ e w, lift Tryz.prog 10 (bodyOf Tryz.f33) (finK Tryz.prog Tryz.f33.results.toList R) e w = disk_Disk_Size_s0 R (e 0) w := fun e w => by kernel_rfl
def disk_Disk_Size (R : Value → World → Prop) (x0 : Value) (w : World) : Prop := disk_Disk_Size_s0 R x0 w
theorem disk_Disk_Size_call {R : Value → World → Prop} {x0 : Value} {w : World} (h : disk_Disk_Size R x0 w) : callG Tryz.prog 33 #[x0] w R :=
  calls_lift_eq Tryz.mixed Tryz.func33 (args := [x0]) rfl rfl rfl rfl ((disk_Disk_Size_s0_eq R) (envOf [x0]) w) (by kernel_rfl) h
def disk_Disk_burns_s0 (R : Value → World → Prop) (x0 : Value) (w : World) : Prop :=
  nk x0 fun t25 =>
  fa 3 t25 fun t26 =>
  ld1 t26 w fun t27 =>
  qG Tryz.prog (bq .gtr 3 (.tmp 27) (.const (.int .i64 0)) t27 (.int .i64 0)) w fun t28 =>
  bV t28
  (nk x0 fun t30 =>
  fa 3 t30 fun t31 =>
  ld1 t31 w fun t32 =>
  qG Tryz.prog (bq .sub 3 (.tmp 32) (.const (.int .i64 1)) t32 (.int .i64 1)) w fun t33 =>
  nk x0 fun t34 =>
  fa 3 t34 fun t35 =>
  st1 t35 t33 w fun w =>
  R (.bool true) w)
  (R (.bool true) w)
theorem disk_Disk_burns_s0_eq (R : Value → World → Prop) : ∀ e w, lift Tryz.prog 36 (sub (bodyOf Tryz.f117) [1, 1]) (finK Tryz.prog Tryz.f117.results.toList R) e w = disk_Disk_burns_s0 R (e 0) w := fun e w => by kernel_rfl
def disk_Disk_burns_s1 (R : Value → World → Prop) (x0 : Value) (w : World) : Prop :=
  nk x0 fun t18 =>
  fa 4 t18 fun t19 =>
  ld1 t19 w fun t20 =>
  bV t20
  (nk x0 fun t22 =>
  fa 3 t22 fun t23 =>
  st1 t23 (.int .i64 (-1)) w fun w =>
  R (.bool false) w)
  (disk_Disk_burns_s0 R x0 w)
theorem disk_Disk_burns_s1_eq (R : Value → World → Prop) : ∀ e w, lift Tryz.prog 36 (sub (bodyOf Tryz.f117) [1, 0, 1]) (seqK (fun e w => disk_Disk_burns_s0 R (e 0) w) (finK Tryz.prog Tryz.f117.results.toList R)) e w = disk_Disk_burns_s1 R (e 0) w := fun e w => by kernel_rfl
def disk_Disk_burns_s2 (R : Value → World → Prop) (x0 : Value) (w : World) : Prop :=
  nk x0 fun t5 =>
  fa 4 t5 fun t6 =>
  ld1 t6 w fun t7 =>
  bV t7
  (nk x0 fun t15 =>
  fa 4 t15 fun t16 =>
  st1 t16 (.bool true) w fun w =>
  disk_Disk_burns_s1 R x0 w)
  (nk x0 fun t10 =>
  fa 3 t10 fun t11 =>
  ld1 t11 w fun t12 =>
  qG Tryz.prog (bq .eql 3 (.tmp 12) (.const (.int .i64 0)) t12 (.int .i64 0)) w fun t13 =>
  nk x0 fun t15_1 =>
  fa 4 t15_1 fun t16_1 =>
  st1 t16_1 t13 w fun w =>
  disk_Disk_burns_s1 R x0 w)
theorem disk_Disk_burns_s2_eq (R : Value → World → Prop) : ∀ e w, lift Tryz.prog 36 (sub (bodyOf Tryz.f117) [1, 0]) (seqK (fun e w => disk_Disk_burns_s0 R (e 0) w) (finK Tryz.prog Tryz.f117.results.toList R)) e w = disk_Disk_burns_s2 R (e 0) w :=
  segs_eq (l := [(sub (bodyOf Tryz.f117) [1, 0, 0])]) (y := (sub (bodyOf Tryz.f117) [1, 0, 1])) (Y := (fun e w => disk_Disk_burns_s1 R (e 0) w)) (disk_Disk_burns_s1_eq R) (fun e w => by kernel_rfl)
def disk_Disk_burns_s3 (R : Value → World → Prop) (x0 : Value) (w : World) : Prop :=
  disk_Disk_burns_s2 R x0 w
theorem disk_Disk_burns_s3_eq (R : Value → World → Prop) : ∀ e w, lift Tryz.prog 36 (bodyOf Tryz.f117) (finK Tryz.prog Tryz.f117.results.toList R) e w = disk_Disk_burns_s3 R (e 0) w :=
  segs_eq (l := [(sub (bodyOf Tryz.f117) [0])]) (y := (sub (bodyOf Tryz.f117) [1])) (Y := (fun e w => disk_Disk_burns_s2 R (e 0) w)) (seq_seg (x := (sub (bodyOf Tryz.f117) [1, 0])) (y := (sub (bodyOf Tryz.f117) [1, 1])) (disk_Disk_burns_s0_eq R) (disk_Disk_burns_s2_eq R)) (fun e w => by kernel_rfl)
def disk_Disk_burns (R : Value → World → Prop) (x0 : Value) (w : World) : Prop := disk_Disk_burns_s3 R x0 w
theorem disk_Disk_burns_call {R : Value → World → Prop} {x0 : Value} {w : World} (h : disk_Disk_burns R x0 w) : callG Tryz.prog 117 #[x0] w R :=
  calls_lift_eq Tryz.mixed Tryz.func117 (args := [x0]) rfl rfl rfl rfl ((disk_Disk_burns_s3_eq R) (envOf [x0]) w) (by kernel_rfl) h
def disk_Disk_Flush_s0 (R : Value → World → Prop) (x0 : Value) (w : World) : Prop :=
  callG Tryz.prog 50 #[x0] w fun t33 w =>
  R (.int .i64 0) w
theorem disk_Disk_Flush_s0_eq (R : Value → World → Prop) : ∀ e w, lift Tryz.prog 34 (sub (bodyOf Tryz.f91) [1, 1, 1]) (finK Tryz.prog Tryz.f91.results.toList R) e w = disk_Disk_Flush_s0 R (e 0) w := fun e w => by kernel_rfl
def disk_Disk_Flush_b1 (R : Value → World → Prop) (N1 : List Value → World → Prop) (x0 x16 x17 x18 : Value) (w : World) : Prop :=
  qG Tryz.prog (bq .lss 3 (.tmp 18) (.tmp 17) x18 x17) w fun t19 =>
  bV t19
  (ia 33 x16 x18 fun t20 =>
  ldn 33 t20 w fun t21 =>
  newG (zc Tryz.prog 95) 95 w fun t4 w =>
  stn 33 t4 t21 w fun w =>
  nk x0 fun t23 =>
  fa 0 t23 fun t24 =>
  ld1 t24 (World.drew w) fun t25 =>
  fa 0 t4 fun t26 =>
  ld1 t26 (World.drew w) fun t27 =>
  fa 1 t4 fun t28 =>
  ldn 32 t28 (World.drew w) fun t29 =>
  ia 32 t25 t27 fun t30 =>
  stn 32 t30 t29 (World.drew w) fun w =>
  qG Tryz.prog (bq .add 3 (.tmp 18) (.const (.int .i64 1)) x18 (.int .i64 1)) w fun t31 =>
  N1 [x0, x16, x17, t31] w)
  (disk_Disk_Flush_s0 R x0 w)
theorem disk_Disk_Flush_b1_eq (R : Value → World → Prop) (N1 : List Value → World → Prop) : ∀ e w, lift Tryz.prog 34 (sub (bodyOf Tryz.f91) [1, 1, 0, 1, 0, 0]) (seqK (fun e w => N1 [e 0, e 16, e 17, e 18] w) (blockK 1 (seqK (fun e w => disk_Disk_Flush_s0 R (e 0) w) (finK Tryz.prog Tryz.f91.results.toList R)))) e w = disk_Disk_Flush_b1 R N1 (e 0) (e 16) (e 17) (e 18) w := fun e w => by kernel_rfl
def disk_Disk_Flush_L2F (R : Value → World → Prop) (N1 : List Value → World → Prop) (xs : List Value) (w : World) : Prop :=
  match xs with
  | [x0, x16, x17, x18] => disk_Disk_Flush_b1 R N1 x0 x16 x17 x18 w
  | _ => False
def disk_Disk_Flush_L2 (R : Value → World → Prop) (x0 x16 x17 x18 : Value) (w : World) : Prop :=
  ∃ m, loopV (disk_Disk_Flush_L2F R) m [x0, x16, x17, x18] w
theorem disk_Disk_Flush_L2_eq (R : Value → World → Prop) : ∀ e w, lift Tryz.prog 34 (sub (bodyOf Tryz.f91) [1, 1, 0, 1, 0]) (blockK 1 (seqK (fun e w => disk_Disk_Flush_s0 R (e 0) w) (finK Tryz.prog Tryz.f91.results.toList R))) e w = disk_Disk_Flush_L2 R (e 0) (e 16) (e 17) (e 18) w := loop_seg (F := disk_Disk_Flush_L2F R) (sel := fun e => [e 0, e 16, e 17, e 18]) fun N1 => (disk_Disk_Flush_b1_eq R N1)
def disk_Disk_Flush_s3 (R : Value → World → Prop) (x0 : Value) (w : World) : Prop :=
  nk x0 fun t14 =>
  fa 2 t14 fun t15 =>
  ld1 t15 w fun t16 =>
  lenL t16 fun t17 =>
  disk_Disk_Flush_L2 R x0 t16 t17 (.int .i64 0) w
theorem disk_Disk_Flush_s3_eq (R : Value → World → Prop) : ∀ e w, lift Tryz.prog 34 (sub (bodyOf Tryz.f91) [1, 1, 0]) (seqK (fun e w => disk_Disk_Flush_s0 R (e 0) w) (finK Tryz.prog Tryz.f91.results.toList R)) e w = disk_Disk_Flush_s3 R (e 0) w :=
  segs_eq (l := [(sub (bodyOf Tryz.f91) [1, 1, 0, 0])]) (y := (sub (bodyOf Tryz.f91) [1, 1, 0, 1])) (Y := (fun e w => disk_Disk_Flush_L2 R (e 0) (e 16) (e 17) (e 18) w)) (disk_Disk_Flush_L2_eq R) (fun e w => by kernel_rfl)
def disk_Disk_Flush_s4 (R : Value → World → Prop) (x0 : Value) (w : World) : Prop :=
  callG Tryz.prog 33 #[x0] w fun t7 w =>
  qG Tryz.prog (bq .eql 3 (.tmp 7) (.const (.int .i64 0)) t7 (.int .i64 0)) w fun t8 =>
  bV t8
  (R (.int .i64 1) w)
  (callG Tryz.prog 117 #[x0] w fun t11 w =>
  qG Tryz.prog (Op.unary .not t11) w fun t12 =>
  bV t12
  (R (.int .i64 30) w)
  (disk_Disk_Flush_s3 R x0 w))
theorem disk_Disk_Flush_s4_eq (R : Value → World → Prop) : ∀ e w, lift Tryz.prog 34 (bodyOf Tryz.f91) (finK Tryz.prog Tryz.f91.results.toList R) e w = disk_Disk_Flush_s4 R (e 0) w :=
  segs_eq (l := [(sub (bodyOf Tryz.f91) [0]), (sub (bodyOf Tryz.f91) [1, 0])]) (y := (sub (bodyOf Tryz.f91) [1, 1])) (Y := (fun e w => disk_Disk_Flush_s3 R (e 0) w)) (seq_seg (x := (sub (bodyOf Tryz.f91) [1, 1, 0])) (y := (sub (bodyOf Tryz.f91) [1, 1, 1])) (disk_Disk_Flush_s0_eq R) (disk_Disk_Flush_s3_eq R)) (fun e w => by kernel_rfl)
def disk_Disk_Flush (R : Value → World → Prop) (x0 : Value) (w : World) : Prop := disk_Disk_Flush_s4 R x0 w
theorem disk_Disk_Flush_call {R : Value → World → Prop} {x0 : Value} {w : World} (h : disk_Disk_Flush R x0 w) : callG Tryz.prog 91 #[x0] w R :=
  calls_lift_eq Tryz.mixed Tryz.func91 (args := [x0]) rfl rfl rfl rfl ((disk_Disk_Flush_s4_eq R) (envOf [x0]) w) (by kernel_rfl) h
def disk_Disk_settles_s0 (R : Value → World → Prop) (x0 : Value) (w : World) : Prop :=
  nk x0 fun t3 =>
  fa 2 t3 fun t4 =>
  ld1 t4 w fun t5 =>
  clr 33 (zc Tryz.prog 95) t5 w fun _ w =>
  nk x0 fun t8 =>
  fa 2 t8 fun t9 =>
  ld1 t9 w fun t10 =>
  slL 33 t10 none (some (.int .i64 0)) fun t11 =>
  nk x0 fun t12 =>
  fa 2 t12 fun t13 =>
  st1 t13 t11 w fun w =>
  R (.tuple #[]) w
theorem disk_Disk_settles_s0_eq (R : Value → World → Prop) : ∀ e w, lift Tryz.prog 14 (bodyOf Tryz.f50) (finK Tryz.prog Tryz.f50.results.toList R) e w = disk_Disk_settles_s0 R (e 0) w := fun e w => by kernel_rfl
def disk_Disk_settles (R : Value → World → Prop) (x0 : Value) (w : World) : Prop := disk_Disk_settles_s0 R x0 w
theorem disk_Disk_settles_call {R : Value → World → Prop} {x0 : Value} {w : World} (h : disk_Disk_settles R x0 w) : callG Tryz.prog 50 #[x0] w R :=
  calls_lift_eq Tryz.mixed Tryz.func50 (args := [x0]) rfl rfl rfl rfl ((disk_Disk_settles_s0_eq R) (envOf [x0]) w) (by kernel_rfl) h
def disk_Disk_Crash_s0 (R : Value → World → Prop) (x0 : Value) (w : World) : Prop :=
  nk x0 fun t45 =>
  fa 1 t45 fun t46 =>
  ld1 t46 (World.drew w) fun t47 =>
  nk x0 fun t49 =>
  fa 0 t49 fun t50 =>
  ld1 t50 (World.drew w) fun t51 =>
  cp 32 t47 t51 (World.drew w) fun t52 w =>
  callG Tryz.prog 50 #[x0] w fun t54 w =>
  nk x0 fun t57 =>
  fa 4 t57 fun t58 =>
  st1 t58 (.bool false) w fun w =>
  nk x0 fun t59 =>
  fa 3 t59 fun t60 =>
  st1 t60 (.int .i64 (-1)) w fun w =>
  R (.int .i64 0) w
theorem disk_Disk_Crash_s0_eq (R : Value → World → Prop) : ∀ e w, lift Tryz.prog 61 (sub (bodyOf Tryz.f21) [1, 1, 1]) (finK Tryz.prog Tryz.f21.results.toList R) e w = disk_Disk_Crash_s0 R (e 0) w := fun e w => by kernel_rfl
def disk_Disk_Crash_b1 (R : Value → World → Prop) (N1 : List Value → World → Prop) (x0 x1 x14 x15 x16 : Value) (w : World) : Prop :=
  qG Tryz.prog (bq .lss 3 (.tmp 16) (.tmp 15) x16 x15) w fun t17 =>
  bV t17
  (ia 33 x14 x16 fun t19 =>
  ldn 33 t19 w fun t20 =>
  newG (zc Tryz.prog 95) 95 w fun t6 w =>
  stn 33 t6 t20 w fun w =>
  lenL x1 fun t23 =>
  qG Tryz.prog (bq .lss 3 (.tmp 21) (.tmp 23) x16 t23) w fun t24 =>
  bV t24
  (ia 1 x1 x16 fun t27 =>
  ld1 t27 w fun t28 =>
  qG Tryz.prog (Builtin.min_ #[3, 3] 3 #[t28, (.int .i64 32)]) w fun t29 =>
  qG Tryz.prog (Builtin.max_ #[3, 3] 3 #[(.int .i64 0), t29]) w fun t30 =>
  nk x0 fun t32 =>
  fa 0 t32 fun t33 =>
  ld1 t33 (World.drew w) fun t34 =>
  fa 0 t6 fun t35 =>
  ld1 t35 (World.drew w) fun t36 =>
  ia 32 t34 t36 fun t37 =>
  slA 32 1 t37 none (some t30) fun t39 =>
  fa 1 t6 fun t40 =>
  slA 32 1 t40 none none fun t41 =>
  cp 1 t39 t41 (World.drew w) fun t42 w =>
  qG Tryz.prog (bq .add 3 (.tmp 16) (.const (.int .i64 1)) x16 (.int .i64 1)) w fun t43 =>
  N1 [x0, x1, x14, x15, t43] w)
  (qG Tryz.prog (bq .add 3 (.tmp 16) (.const (.int .i64 1)) x16 (.int .i64 1)) w fun t43_1 =>
  N1 [x0, x1, x14, x15, t43_1] w))
  (disk_Disk_Crash_s0 R x0 w)
theorem disk_Disk_Crash_b1_eq (R : Value → World → Prop) (N1 : List Value → World → Prop) : ∀ e w, lift Tryz.prog 61 (sub (bodyOf Tryz.f21) [1, 1, 0, 1, 0, 0]) (seqK (fun e w => N1 [e 0, e 1, e 14, e 15, e 16] w) (blockK 0 (seqK (fun e w => disk_Disk_Crash_s0 R (e 0) w) (finK Tryz.prog Tryz.f21.results.toList R)))) e w = disk_Disk_Crash_b1 R N1 (e 0) (e 1) (e 14) (e 15) (e 16) w := fun e w => by kernel_rfl
def disk_Disk_Crash_L2F (R : Value → World → Prop) (N1 : List Value → World → Prop) (xs : List Value) (w : World) : Prop :=
  match xs with
  | [x0, x1, x14, x15, x16] => disk_Disk_Crash_b1 R N1 x0 x1 x14 x15 x16 w
  | _ => False
def disk_Disk_Crash_L2 (R : Value → World → Prop) (x0 x1 x14 x15 x16 : Value) (w : World) : Prop :=
  ∃ m, loopV (disk_Disk_Crash_L2F R) m [x0, x1, x14, x15, x16] w
theorem disk_Disk_Crash_L2_eq (R : Value → World → Prop) : ∀ e w, lift Tryz.prog 61 (sub (bodyOf Tryz.f21) [1, 1, 0, 1, 0]) (blockK 0 (seqK (fun e w => disk_Disk_Crash_s0 R (e 0) w) (finK Tryz.prog Tryz.f21.results.toList R))) e w = disk_Disk_Crash_L2 R (e 0) (e 1) (e 14) (e 15) (e 16) w := loop_seg (F := disk_Disk_Crash_L2F R) (sel := fun e => [e 0, e 1, e 14, e 15, e 16]) fun N1 => (disk_Disk_Crash_b1_eq R N1)
def disk_Disk_Crash_s3 (R : Value → World → Prop) (x0 x1 : Value) (w : World) : Prop :=
  nk x0 fun t12 =>
  fa 2 t12 fun t13 =>
  ld1 t13 w fun t14 =>
  lenL t14 fun t15 =>
  disk_Disk_Crash_L2 R x0 x1 t14 t15 (.int .i64 0) w
theorem disk_Disk_Crash_s3_eq (R : Value → World → Prop) : ∀ e w, lift Tryz.prog 61 (sub (bodyOf Tryz.f21) [1, 1, 0]) (seqK (fun e w => disk_Disk_Crash_s0 R (e 0) w) (finK Tryz.prog Tryz.f21.results.toList R)) e w = disk_Disk_Crash_s3 R (e 0) (e 1) w :=
  segs_eq (l := [(sub (bodyOf Tryz.f21) [1, 1, 0, 0])]) (y := (sub (bodyOf Tryz.f21) [1, 1, 0, 1])) (Y := (fun e w => disk_Disk_Crash_L2 R (e 0) (e 1) (e 14) (e 15) (e 16) w)) (disk_Disk_Crash_L2_eq R) (fun e w => by kernel_rfl)
def disk_Disk_Crash_s4 (R : Value → World → Prop) (x0 x1 : Value) (w : World) : Prop :=
  callG Tryz.prog 33 #[x0] w fun t9 w =>
  qG Tryz.prog (bq .eql 3 (.tmp 9) (.const (.int .i64 0)) t9 (.int .i64 0)) w fun t10 =>
  bV t10
  (R (.int .i64 1) w)
  (disk_Disk_Crash_s3 R x0 x1 w)
theorem disk_Disk_Crash_s4_eq (R : Value → World → Prop) : ∀ e w, lift Tryz.prog 61 (bodyOf Tryz.f21) (finK Tryz.prog Tryz.f21.results.toList R) e w = disk_Disk_Crash_s4 R (e 0) (e 1) w :=
  segs_eq (l := [(sub (bodyOf Tryz.f21) [0]), (sub (bodyOf Tryz.f21) [1, 0])]) (y := (sub (bodyOf Tryz.f21) [1, 1])) (Y := (fun e w => disk_Disk_Crash_s3 R (e 0) (e 1) w)) (seq_seg (x := (sub (bodyOf Tryz.f21) [1, 1, 0])) (y := (sub (bodyOf Tryz.f21) [1, 1, 1])) (disk_Disk_Crash_s0_eq R) (disk_Disk_Crash_s3_eq R)) (fun e w => by kernel_rfl)
def disk_Disk_Crash (R : Value → World → Prop) (x0 x1 : Value) (w : World) : Prop := disk_Disk_Crash_s4 R x0 x1 w
theorem disk_Disk_Crash_call {R : Value → World → Prop} {x0 x1 : Value} {w : World} (h : disk_Disk_Crash R x0 x1 w) : callG Tryz.prog 21 #[x0, x1] w R :=
  calls_lift_eq Tryz.mixed Tryz.func21 (args := [x0, x1]) rfl rfl rfl rfl ((disk_Disk_Crash_s4_eq R) (envOf [x0, x1]) w) (by kernel_rfl) h
def disk_Disk_Read_s0 (R : Value → World → Prop) (x0 x1 : Value) (w : World) : Prop :=
  callG Tryz.prog 79 #[x0, x1] w fun t9 w =>
  qG Tryz.prog (Op.unary .not t9) w fun t10 =>
  bV t10
  (R (.tuple #[(.string ⟨#[]⟩), (.int .i64 1)]) w)
  (nk x0 fun t13 =>
  fa 4 t13 fun t14 =>
  ld1 t14 w fun t15 =>
  bV t15
  (R (.tuple #[(.string ⟨#[]⟩), (.int .i64 30)]) w)
  (nk x0 fun t17 =>
  fa 1 t17 fun t18 =>
  ld1 t18 w fun t19 =>
  ia 32 t19 x1 fun t21 =>
  slA 32 1 t21 none none fun t22 =>
  cvBS t22 w fun t23 =>
  R (.tuple #[t23, (.int .i64 0)]) w))
theorem disk_Disk_Read_s0_eq (R : Value → World → Prop) : ∀ e w, lift Tryz.prog 24 (bodyOf Tryz.f35) (finK Tryz.prog Tryz.f35.results.toList R) e w = disk_Disk_Read_s0 R (e 0) (e 1) w := fun e w => by kernel_rfl
def disk_Disk_Read (R : Value → World → Prop) (x0 x1 : Value) (w : World) : Prop := disk_Disk_Read_s0 R x0 x1 w
theorem disk_Disk_Read_call {R : Value → World → Prop} {x0 x1 : Value} {w : World} (h : disk_Disk_Read R x0 x1 w) : callG Tryz.prog 35 #[x0, x1] w R :=
  calls_lift_eq Tryz.mixed Tryz.func35 (args := [x0, x1]) rfl rfl rfl rfl ((disk_Disk_Read_s0_eq R) (envOf [x0, x1]) w) (by kernel_rfl) h
def disk_Disk_Off_s0 (R : Value → World → Prop) (x0 : Value) (w : World) : Prop :=
  qG Tryz.prog (bq .neq 34 (.tmp 3) (.const (.pointer none)) x0 (.pointer none)) w fun t4 =>
  bV t4
  (nk x0 fun t7 =>
  fa 4 t7 fun t8 =>
  ld1 t8 w fun t9 =>
  R t9 w)
  (R (.bool false) w)
theorem disk_Disk_Off_s0_eq (R : Value → World → Prop) : ∀ e w, lift Tryz.prog 11 (bodyOf Tryz.f34) (finK Tryz.prog Tryz.f34.results.toList R) e w = disk_Disk_Off_s0 R (e 0) w := fun e w => by kernel_rfl
def disk_Disk_Off (R : Value → World → Prop) (x0 : Value) (w : World) : Prop := disk_Disk_Off_s0 R x0 w
theorem disk_Disk_Off_call {R : Value → World → Prop} {x0 : Value} {w : World} (h : disk_Disk_Off R x0 w) : callG Tryz.prog 34 #[x0] w R :=
  calls_lift_eq Tryz.mixed Tryz.func34 (args := [x0]) rfl rfl rfl rfl ((disk_Disk_Off_s0_eq R) (envOf [x0]) w) (by kernel_rfl) h
end Go.Proofs

set_option linter.unusedVariables false
set_option linter.unusedSimpArgs false
namespace Go.Proofs
open Go Go.Q
set_option maxRecDepth 100000
def wal_right_s0 (R : Value → World → Prop) (x0 : Value) (w : World) : Prop :=
  qG Tryz.prog (bq .geq 3 (.tmp 3) (.const (.int .i64 1)) x0 (.int .i64 1)) w fun t4 =>
  bV t4
  (qG Tryz.prog (bq .leq 3 (.tmp 6) (.const (.int .i64 2147483647)) x0 (.int .i64 2147483647)) w fun t7 =>
  R t7 w)
  (R (.bool false) w)
theorem wal_right_s0_eq (R : Value → World → Prop) : ∀ e w, lift Tryz.prog 9 (bodyOf Tryz.f107) (finK Tryz.prog Tryz.f107.results.toList R) e w = wal_right_s0 R (e 0) w := fun e w => by kernel_rfl
def wal_right (R : Value → World → Prop) (x0 : Value) (w : World) : Prop := wal_right_s0 R x0 w
theorem wal_right_call {R : Value → World → Prop} {x0 : Value} {w : World} (h : wal_right R x0 w) : callG Tryz.prog 107 #[x0] w R :=
  calls_lift_eq Tryz.mixed Tryz.func107 (args := [x0]) rfl rfl rfl rfl ((wal_right_s0_eq R) (envOf [x0]) w) (by kernel_rfl) h
def wal_Frame_s0 (R : Value → World → Prop) (x0 x1 : Value) (w : World) : Prop :=
  callG Tryz.prog 80 #[x0] w fun t20 w =>
  lenS x1 fun t22 =>
  callG Tryz.prog 80 #[t22] w fun t23 w =>
  slS t23 none (some (.int .i64 2)) fun t24 =>
  qG Tryz.prog (bq .add 9 (.tmp 20) (.tmp 24) t20 t24) w fun t25 =>
  callG Tryz.prog 82 #[t25] w fun t28 w =>
  callG Tryz.prog 106 #[t28, x1] w fun t30 w =>
  callG Tryz.prog 80 #[t30] w fun t31 w =>
  qG Tryz.prog (bq .add 9 (.tmp 26) (.tmp 31) t25 t31) w fun t32 =>
  qG Tryz.prog (bq .add 9 (.tmp 32) (.tmp 33) t32 x1) w fun t34 =>
  R (.tuple #[t34, (.int .i64 0)]) w
theorem wal_Frame_s0_eq (R : Value → World → Prop) : ∀ e w, lift Tryz.prog 35 (sub (bodyOf Tryz.f89) [1, 1]) (finK Tryz.prog Tryz.f89.results.toList R) e w = wal_Frame_s0 R (e 0) (e 1) w := fun e w => by kernel_rfl
def wal_Frame_s1 (R : Value → World → Prop) (x0 x1 : Value) (w : World) : Prop :=
  callG Tryz.prog 107 #[x0] w fun t8 w =>
  qG Tryz.prog (Op.unary .not t8) w fun t9 =>
  bV t9
  (R (.tuple #[(.string ⟨#[]⟩), (.int .i64 1)]) w)
  (qG Tryz.prog (bq .eql 9 (.tmp 11) (.const (.string ⟨#[]⟩)) x1 (.string ⟨#[]⟩)) w fun t12 =>
  bV t12
  (R (.tuple #[(.string ⟨#[]⟩), (.int .i64 1)]) w)
  (lenS x1 fun t16 =>
  qG Tryz.prog (bq .gtr 3 (.tmp 16) (.const (.int .i64 1024)) t16 (.int .i64 1024)) w fun t17 =>
  bV t17
  (R (.tuple #[(.string ⟨#[]⟩), (.int .i64 1)]) w)
  (wal_Frame_s0 R x0 x1 w)))
theorem wal_Frame_s1_eq (R : Value → World → Prop) : ∀ e w, lift Tryz.prog 35 (bodyOf Tryz.f89) (finK Tryz.prog Tryz.f89.results.toList R) e w = wal_Frame_s1 R (e 0) (e 1) w :=
  segs_eq (l := [(sub (bodyOf Tryz.f89) [0]), (sub (bodyOf Tryz.f89) [1, 0])]) (y := (sub (bodyOf Tryz.f89) [1, 1])) (Y := (fun e w => wal_Frame_s0 R (e 0) (e 1) w)) (wal_Frame_s0_eq R) (fun e w => by kernel_rfl)
def wal_Frame (R : Value → World → Prop) (x0 x1 : Value) (w : World) : Prop := wal_Frame_s1 R x0 x1 w
theorem wal_Frame_call {R : Value → World → Prop} {x0 x1 : Value} {w : World} (h : wal_Frame R x0 x1 w) : callG Tryz.prog 89 #[x0, x1] w R :=
  calls_lift_eq Tryz.mixed Tryz.func89 (args := [x0, x1]) rfl rfl rfl rfl ((wal_Frame_s1_eq R) (envOf [x0, x1]) w) (by kernel_rfl) h
def wal_next_s0 (R : Value → World → Prop) (x1 x6 : Value) (w : World) : Prop :=
  qG Tryz.prog (bq .add 3 (.const (.int .i64 10)) (.tmp 44) (.int .i64 10) x6) w fun t45 =>
  slS x1 (some (.int .i64 10)) (some t45) fun t46 =>
  slS x1 (some (.int .i64 6)) none fun t49 =>
  slS x1 none (some (.int .i64 6)) fun t52 =>
  callG Tryz.prog 36 #[t49] (World.drew w) fun t50 w =>
  callG Tryz.prog 82 #[t52] w fun t53 w =>
  callG Tryz.prog 106 #[t53, t46] w fun t55 w =>
  qG Tryz.prog (bq .eql 3 (.tmp 50) (.tmp 55) t50 t55) w fun t56 =>
  R (.tuple #[t46, t56]) w
theorem wal_next_s0_eq (R : Value → World → Prop) : ∀ e w, lift Tryz.prog 57 (sub (bodyOf Tryz.f128) [1, 1, 1, 1]) (finK Tryz.prog Tryz.f128.results.toList R) e w = wal_next_s0 R (e 1) (e 6) w := fun e w => by kernel_rfl
def wal_next_s1 (R : Value → World → Prop) (x1 : Value) (w : World) : Prop :=
  ixS x1 (.int .i64 4) fun t23 =>
  cvI .i64 t23 fun t24 =>
  ixS x1 (.int .i64 5) fun t26 =>
  cvI .i64 t26 fun t27 =>
  qG Tryz.prog (bq .shl 3 (.tmp 27) (.const (.int .u64 8)) t27 (.int .u64 8)) (World.drew w) fun t28 =>
  qG Tryz.prog (bq .or 3 (.tmp 24) (.tmp 28) t24 t28) (World.drew w) fun t29 =>
  qG Tryz.prog (bq .lss 3 (.tmp 30) (.const (.int .i64 1)) t29 (.int .i64 1)) (World.drew w) fun t31 =>
  bV t31
  (R (.tuple #[(.string ⟨#[]⟩), (.bool false)]) (World.drew w))
  (qG Tryz.prog (bq .gtr 3 (.tmp 33) (.const (.int .i64 1024)) t29 (.int .i64 1024)) (World.drew w) fun t34 =>
  bV t34
  (R (.tuple #[(.string ⟨#[]⟩), (.bool false)]) (World.drew w))
  (lenS x1 fun t39 =>
  qG Tryz.prog (bq .sub 3 (.tmp 39) (.const (.int .i64 10)) t39 (.int .i64 10)) (World.drew w) fun t40 =>
  qG Tryz.prog (bq .gtr 3 (.tmp 37) (.tmp 40) t29 t40) (World.drew w) fun t41 =>
  bV t41
  (R (.tuple #[(.string ⟨#[]⟩), (.bool false)]) (World.drew w))
  (wal_next_s0 R x1 t29 (World.drew w))))
theorem wal_next_s1_eq (R : Value → World → Prop) : ∀ e w, lift Tryz.prog 57 (sub (bodyOf Tryz.f128) [1, 1]) (finK Tryz.prog Tryz.f128.results.toList R) e w = wal_next_s1 R (e 1) w :=
  segs_eq (l := [(sub (bodyOf Tryz.f128) [1, 1, 0]), (sub (bodyOf Tryz.f128) [1, 1, 1, 0])]) (y := (sub (bodyOf Tryz.f128) [1, 1, 1, 1])) (Y := (fun e w => wal_next_s0 R (e 1) (e 6) w)) (wal_next_s0_eq R) (fun e w => by kernel_rfl)
def wal_next_s2 (R : Value → World → Prop) (x0 x1 : Value) (w : World) : Prop :=
  lenS x1 fun t9 =>
  qG Tryz.prog (bq .leq 3 (.tmp 9) (.const (.int .i64 10)) t9 (.int .i64 10)) w fun t10 =>
  bV t10
  (R (.tuple #[(.string ⟨#[]⟩), (.bool false)]) w)
  (callG Tryz.prog 107 #[x0] w fun t13 w =>
  qG Tryz.prog (Op.unary .not t13) w fun t14 =>
  bV t14
  (R (.tuple #[(.string ⟨#[]⟩), (.bool false)]) w)
  (callG Tryz.prog 36 #[x1] w fun t18 w =>
  qG Tryz.prog (bq .neq 3 (.tmp 18) (.tmp 19) t18 x0) w fun t20 =>
  bV t20
  (R (.tuple #[(.string ⟨#[]⟩), (.bool false)]) w)
  (wal_next_s1 R x1 w)))
theorem wal_next_s2_eq (R : Value → World → Prop) : ∀ e w, lift Tryz.prog 57 (bodyOf Tryz.f128) (finK Tryz.prog Tryz.f128.results.toList R) e w = wal_next_s2 R (e 0) (e 1) w :=
  segs_eq (l := [(sub (bodyOf Tryz.f128) [0]), (sub (bodyOf Tryz.f128) [1, 0])]) (y := (sub (bodyOf Tryz.f128) [1, 1])) (Y := (fun e w => wal_next_s1 R (e 1) w)) (wal_next_s1_eq R) (fun e w => by kernel_rfl)
def wal_next (R : Value → World → Prop) (x0 x1 : Value) (w : World) : Prop := wal_next_s2 R x0 x1 w
theorem wal_next_call {R : Value → World → Prop} {x0 x1 : Value} {w : World} (h : wal_next R x0 x1 w) : callG Tryz.prog 128 #[x0, x1] w R :=
  calls_lift_eq Tryz.mixed Tryz.func128 (args := [x0, x1]) rfl rfl rfl rfl ((wal_next_s2_eq R) (envOf [x0, x1]) w) (by kernel_rfl) h
def wal_Scan_b0 (R : Value → World → Prop) (N1 : List Value → World → Prop) (x0 x1 x6 x7 : Value) (w : World) : Prop :=
  slS x1 (some x7) none fun t14 =>
  callG Tryz.prog 128 #[x0, t14] w fun t15 w =>
  qG Tryz.prog (Instr.extract t15 0) w fun t16 =>
  qG Tryz.prog (Instr.extract t15 1) w fun t17 =>
  qG Tryz.prog (Op.unary .not t17) w fun t19 =>
  bV t19
  (R (.tuple #[x6, x7]) w)
  (bsl 9 1 1 (zc Tryz.prog 9) #[(0, t16)] w fun t24 w =>
  app 9 1 16 (zc Tryz.prog 9) x6 t24 w fun t25 w =>
  lenS t16 fun t28 =>
  qG Tryz.prog (bq .add 3 (.const (.int .i64 10)) (.tmp 28) (.int .i64 10) t28) w fun t29 =>
  qG Tryz.prog (bq .add 3 (.tmp 26) (.tmp 29) x7 t29) w fun t30 =>
  N1 [x0, x1, t25, t30] w)
theorem wal_Scan_b0_eq (R : Value → World → Prop) (N1 : List Value → World → Prop) : ∀ e w, lift Tryz.prog 31 (sub (bodyOf Tryz.f109) [1, 1, 1, 0, 0]) (seqK (fun e w => N1 [e 0, e 1, e 6, e 7] w) (blockK 0 (finK Tryz.prog Tryz.f109.results.toList R))) e w = wal_Scan_b0 R N1 (e 0) (e 1) (e 6) (e 7) w := fun e w => by kernel_rfl
def wal_Scan_L1F (R : Value → World → Prop) (N1 : List Value → World → Prop) (xs : List Value) (w : World) : Prop :=
  match xs with
  | [x0, x1, x6, x7] => wal_Scan_b0 R N1 x0 x1 x6 x7 w
  | _ => False
def wal_Scan_L1 (R : Value → World → Prop) (x0 x1 x6 x7 : Value) (w : World) : Prop :=
  ∃ m, loopV (wal_Scan_L1F R) m [x0, x1, x6, x7] w
theorem wal_Scan_L1_eq (R : Value → World → Prop) : ∀ e w, lift Tryz.prog 31 (sub (bodyOf Tryz.f109) [1, 1, 1, 0]) (blockK 0 (finK Tryz.prog Tryz.f109.results.toList R)) e w = wal_Scan_L1 R (e 0) (e 1) (e 6) (e 7) w := loop_seg (F := wal_Scan_L1F R) (sel := fun e => [e 0, e 1, e 6, e 7]) fun N1 => (wal_Scan_b0_eq R N1)
def wal_Scan_s2 (R : Value → World → Prop) (x0 x1 : Value) (w : World) : Prop :=
  wal_Scan_L1 R x0 x1 (.slice none 0 0) (.int .i64 0) w
theorem wal_Scan_s2_eq (R : Value → World → Prop) : ∀ e w, lift Tryz.prog 31 (bodyOf Tryz.f109) (finK Tryz.prog Tryz.f109.results.toList R) e w = wal_Scan_s2 R (e 0) (e 1) w :=
  segs_eq (l := [(sub (bodyOf Tryz.f109) [0]), (sub (bodyOf Tryz.f109) [1, 0]), (sub (bodyOf Tryz.f109) [1, 1, 0])]) (y := (sub (bodyOf Tryz.f109) [1, 1, 1])) (Y := (fun e w => wal_Scan_L1 R (e 0) (e 1) (e 6) (e 7) w)) (wal_Scan_L1_eq R) (fun e w => by kernel_rfl)
def wal_Scan (R : Value → World → Prop) (x0 x1 : Value) (w : World) : Prop := wal_Scan_s2 R x0 x1 w
theorem wal_Scan_call {R : Value → World → Prop} {x0 x1 : Value} {w : World} (h : wal_Scan R x0 x1 w) : callG Tryz.prog 109 #[x0, x1] w R :=
  calls_lift_eq Tryz.mixed Tryz.func109 (args := [x0, x1]) rfl rfl rfl rfl ((wal_Scan_s2_eq R) (envOf [x0, x1]) w) (by kernel_rfl) h
def wal_Log_sectors_s0 (R : Value → World → Prop) (w : World) : Prop :=
  R (.int .i64 0) w
theorem wal_Log_sectors_s0_eq (R : Value → World → Prop) : ∀ e w, lift Tryz.prog 23 (sub (bodyOf Tryz.f96) [1, 1]) (finK Tryz.prog Tryz.f96.results.toList R) e w = wal_Log_sectors_s0 R w := fun e w => by kernel_rfl
def wal_Log_sectors_b1 (R : Value → World → Prop) (N1 : List Value → World → Prop) (x2 x3 x9 : Value) (w : World) : Prop :=
  qG Tryz.prog (bq .lss 3 (.tmp 12) (.tmp 13) x9 x2) w fun t14 =>
  bV t14
  (callV Tryz.prog x3 #[x9] w fun t19 w =>
  qG Tryz.prog (bq .neq 30 (.tmp 20) (.const (.int .i64 0)) t19 (.int .i64 0)) w fun t21 =>
  bV t21
  (R t19 w)
  (qG Tryz.prog (bq .add 3 (.tmp 15) (.const (.int .i64 1)) x9 (.int .i64 1)) w fun t16 =>
  N1 [x2, x3, t16] w))
  (wal_Log_sectors_s0 R  w)
theorem wal_Log_sectors_b1_eq (R : Value → World → Prop) (N1 : List Value → World → Prop) : ∀ e w, lift Tryz.prog 23 (sub (bodyOf Tryz.f96) [1, 0, 1, 0, 0]) (seqK (fun e w => N1 [e 2, e 3, e 9] w) (blockK 0 (seqK (fun e w => wal_Log_sectors_s0 R  w) (finK Tryz.prog Tryz.f96.results.toList R)))) e w = wal_Log_sectors_b1 R N1 (e 2) (e 3) (e 9) w := fun e w => by kernel_rfl
def wal_Log_sectors_L2F (R : Value → World → Prop) (N1 : List Value → World → Prop) (xs : List Value) (w : World) : Prop :=
  match xs with
  | [x2, x3, x9] => wal_Log_sectors_b1 R N1 x2 x3 x9 w
  | _ => False
def wal_Log_sectors_L2 (R : Value → World → Prop) (x2 x3 x9 : Value) (w : World) : Prop :=
  ∃ m, loopV (wal_Log_sectors_L2F R) m [x2, x3, x9] w
theorem wal_Log_sectors_L2_eq (R : Value → World → Prop) : ∀ e w, lift Tryz.prog 23 (sub (bodyOf Tryz.f96) [1, 0, 1, 0]) (blockK 0 (seqK (fun e w => wal_Log_sectors_s0 R  w) (finK Tryz.prog Tryz.f96.results.toList R))) e w = wal_Log_sectors_L2 R (e 2) (e 3) (e 9) w := loop_seg (F := wal_Log_sectors_L2F R) (sel := fun e => [e 2, e 3, e 9]) fun N1 => (wal_Log_sectors_b1_eq R N1)
def wal_Log_sectors_s3 (R : Value → World → Prop) (x1 x2 x3 : Value) (w : World) : Prop :=
  wal_Log_sectors_L2 R x2 x3 x1 w
theorem wal_Log_sectors_s3_eq (R : Value → World → Prop) : ∀ e w, lift Tryz.prog 23 (sub (bodyOf Tryz.f96) [1, 0]) (seqK (fun e w => wal_Log_sectors_s0 R  w) (finK Tryz.prog Tryz.f96.results.toList R)) e w = wal_Log_sectors_s3 R (e 1) (e 2) (e 3) w :=
  segs_eq (l := [(sub (bodyOf Tryz.f96) [1, 0, 0])]) (y := (sub (bodyOf Tryz.f96) [1, 0, 1])) (Y := (fun e w => wal_Log_sectors_L2 R (e 2) (e 3) (e 9) w)) (wal_Log_sectors_L2_eq R) (fun e w => by kernel_rfl)
def wal_Log_sectors_s4 (R : Value → World → Prop) (x1 x2 x3 : Value) (w : World) : Prop :=
  wal_Log_sectors_s3 R x1 x2 x3 w
theorem wal_Log_sectors_s4_eq (R : Value → World → Prop) : ∀ e w, lift Tryz.prog 23 (bodyOf Tryz.f96) (finK Tryz.prog Tryz.f96.results.toList R) e w = wal_Log_sectors_s4 R (e 1) (e 2) (e 3) w :=
  segs_eq (l := [(sub (bodyOf Tryz.f96) [0])]) (y := (sub (bodyOf Tryz.f96) [1])) (Y := (fun e w => wal_Log_sectors_s3 R (e 1) (e 2) (e 3) w)) (seq_seg (x := (sub (bodyOf Tryz.f96) [1, 0])) (y := (sub (bodyOf Tryz.f96) [1, 1])) (wal_Log_sectors_s0_eq R) (wal_Log_sectors_s3_eq R)) (fun e w => by kernel_rfl)
def wal_Log_sectors (R : Value → World → Prop) (x0 x1 x2 x3 : Value) (w : World) : Prop := wal_Log_sectors_s4 R x1 x2 x3 w
theorem wal_Log_sectors_call {R : Value → World → Prop} {x0 x1 x2 x3 : Value} {w : World} (h : wal_Log_sectors R x0 x1 x2 x3 w) : callG Tryz.prog 96 #[x0, x1, x2, x3] w R :=
  calls_lift_eq Tryz.mixed Tryz.func96 (args := [x0, x1, x2, x3]) rfl rfl rfl rfl ((wal_Log_sectors_s4_eq R) (envOf [x0, x1, x2, x3]) w) (by kernel_rfl) h
def wal_Open_1_s0 (R : Value → World → Prop) (x0 x1 x2 : Value) (w : World) : Prop :=
  ld1 x1 w fun t8 =>
  callG Tryz.prog 35 #[t8, x0] w fun t10 w =>
  qG Tryz.prog (Instr.extract t10 0) w fun t11 =>
  qG Tryz.prog (Instr.extract t10 1) w fun t12 =>
  callG Tryz.prog 59 #[x2, t11] w fun t14 w =>
  R t12 w
theorem wal_Open_1_s0_eq (R : Value → World → Prop) : ∀ e w, lift Tryz.prog 16 (bodyOf Tryz.f108) (finK Tryz.prog Tryz.f108.results.toList R) e w = wal_Open_1_s0 R (e 0) (e 1) (e 2) w := fun e w => by kernel_rfl
def wal_Open_1 (R : Value → World → Prop) (x0 x1 x2 : Value) (w : World) : Prop := wal_Open_1_s0 R x0 x1 x2 w
theorem wal_Open_1_call {R : Value → World → Prop} {x0 x1 x2 : Value} {w : World} (h : wal_Open_1 R x0 x1 x2 w) : callG Tryz.prog 108 #[x0, x1, x2] w R :=
  calls_lift_eq Tryz.mixed Tryz.func108 (args := [x0, x1, x2]) rfl rfl rfl rfl ((wal_Open_1_s0_eq R) (envOf [x0, x1, x2]) w) (by kernel_rfl) h
def wal_Open_s0 (R : Value → World → Prop) (x1 x2 x3 x4 : Value) (w : World) : Prop :=
  ld1 x4 w fun t32 =>
  bld [(0, 1), (1, 1), (2, 1), (3, 1), (4, 1), (5, 1)] (zc Tryz.prog 141) #[(0, t32), (1, x1), (2, x2), (3, x3)] fun t36 =>
  newG (Value.cells t36) 141 w fun t37 w =>
  newG (zc Tryz.prog 110) 110 w fun t11 w =>
  qG Tryz.prog (Instr.makeFunc (.func 108) #[] #[x4, t11]) w fun t41 =>
  callG Tryz.prog 96 #[t37, x1, x2, t41] w fun t42 w =>
  qG Tryz.prog (bq .neq 30 (.tmp 43) (.const (.int .i64 0)) t42 (.int .i64 0)) w fun t44 =>
  bV t44
  (R (.tuple #[(.pointer none), t42]) w)
  (callG Tryz.prog 61 #[t11] w fun t49 w =>
  callG Tryz.prog 109 #[x3, t49] w fun t50 w =>
  qG Tryz.prog (Instr.extract t50 0) w fun t51 =>
  qG Tryz.prog (Instr.extract t50 1) w fun t52 =>
  nk t37 fun t53 =>
  fa 4 t53 fun t54 =>
  st1 t54 t51 w fun w =>
  callG Tryz.prog 61 #[t11] w fun t56 w =>
  slS t56 none (some t52) fun t58 =>
  nk t37 fun t59 =>
  fa 5 t59 fun t60 =>
  st1 t60 t58 w fun w =>
  R (.tuple #[t37, (.int .i64 0)]) w)
theorem wal_Open_s0_eq (R : Value → World → Prop) : ∀ e w, lift Tryz.prog 62 (sub (bodyOf Tryz.f84) [1, 1]) (finK Tryz.prog Tryz.f84.results.toList R) e w = wal_Open_s0 R (e 1) (e 2) (e 3) (e 4) w := fun e w => by kernel_rfl
def wal_Open_s1 (R : Value → World → Prop) (x0 x1 x2 x3 : Value) (w : World) : Prop :=
  newG (Value.cells x0) 34 w fun t4 w =>
  qG Tryz.prog (bq .lss 3 (.tmp 14) (.const (.int .i64 0)) x1 (.int .i64 0)) w fun t15 =>
  bV t15
  (R (.tuple #[(.pointer none), (.int .i64 1)]) w)
  (ld1 t4 w fun t18 =>
  callG Tryz.prog 33 #[t18] w fun t19 w =>
  qG Tryz.prog (bq .gtr 3 (.tmp 17) (.tmp 19) x2 t19) w fun t20 =>
  bV t20
  (R (.tuple #[(.pointer none), (.int .i64 1)]) w)
  (qG Tryz.prog (bq .geq 3 (.tmp 23) (.tmp 24) x1 x2) w fun t25 =>
  bV t25
  (R (.tuple #[(.pointer none), (.int .i64 1)]) w)
  (callG Tryz.prog 107 #[x3] w fun t29 w =>
  qG Tryz.prog (Op.unary .not t29) w fun t30 =>
  bV t30
  (R (.tuple #[(.pointer none), (.int .i64 1)]) w)
  (wal_Open_s0 R x1 x2 x3 t4 w))))
theorem wal_Open_s1_eq (R : Value → World → Prop) : ∀ e w, lift Tryz.prog 62 (bodyOf Tryz.f84) (finK Tryz.prog Tryz.f84.results.toList R) e w = wal_Open_s1 R (e 0) (e 1) (e 2) (e 3) w :=
  segs_eq (l := [(sub (bodyOf Tryz.f84) [0]), (sub (bodyOf Tryz.f84) [1, 0])]) (y := (sub (bodyOf Tryz.f84) [1, 1])) (Y := (fun e w => wal_Open_s0 R (e 1) (e 2) (e 3) (e 4) w)) (wal_Open_s0_eq R) (fun e w => by kernel_rfl)
def wal_Open (R : Value → World → Prop) (x0 x1 x2 x3 : Value) (w : World) : Prop := wal_Open_s1 R x0 x1 x2 x3 w
theorem wal_Open_call {R : Value → World → Prop} {x0 x1 x2 x3 : Value} {w : World} (h : wal_Open R x0 x1 x2 x3 w) : callG Tryz.prog 84 #[x0, x1, x2, x3] w R :=
  calls_lift_eq Tryz.mixed Tryz.func84 (args := [x0, x1, x2, x3]) rfl rfl rfl rfl ((wal_Open_s1_eq R) (envOf [x0, x1, x2, x3]) w) (by kernel_rfl) h
def wal_Log_given_s0 (R : Value → World → Prop) (x0 : Value) (w : World) : Prop :=
  qG Tryz.prog (bq .neq 56 (.tmp 3) (.const (.pointer none)) x0 (.pointer none)) w fun t4 =>
  bV t4
  (nk x0 fun t7 =>
  fa 0 t7 fun t8 =>
  ld1 t8 w fun t9 =>
  qG Tryz.prog (bq .neq 34 (.tmp 9) (.const (.pointer none)) t9 (.pointer none)) w fun t10 =>
  R t10 w)
  (R (.bool false) w)
theorem wal_Log_given_s0_eq (R : Value → World → Prop) : ∀ e w, lift Tryz.prog 12 (bodyOf Tryz.f94) (finK Tryz.prog Tryz.f94.results.toList R) e w = wal_Log_given_s0 R (e 0) w := fun e w => by kernel_rfl
def wal_Log_given (R : Value → World → Prop) (x0 : Value) (w : World) : Prop := wal_Log_given_s0 R x0 w
theorem wal_Log_given_call {R : Value → World → Prop} {x0 : Value} {w : World} (h : wal_Log_given R x0 w) : callG Tryz.prog 94 #[x0] w R :=
  calls_lift_eq Tryz.mixed Tryz.func94 (args := [x0]) rfl rfl rfl rfl ((wal_Log_given_s0_eq R) (envOf [x0]) w) (by kernel_rfl) h
def slices_Clone_string_string_s0 (R : Value → World → Prop) (x0 : Value) (w : World) : Prop :=
  qG Tryz.prog (bq .eql 29 (.tmp 3) (.const (.slice none 0 0)) x0 (.slice none 0 0)) w fun t4 =>
  bV t4
  (R (.slice none 0 0) w)
  (bsl 9 1 0 (zc Tryz.prog 9) #[] w fun t5 w =>
  app 9 1 16 (zc Tryz.prog 9) t5 x0 w fun t7 w =>
  R t7 w)
theorem slices_Clone_string_string_s0_eq (R : Value → World → Prop) : ∀ e w, lift Tryz.prog 8 (bodyOf Tryz.f115) (finK Tryz.prog Tryz.f115.results.toList R) e w = slices_Clone_string_string_s0 R (e 0) w := fun e w => by kernel_rfl
def slices_Clone_string_string (R : Value → World → Prop) (x0 : Value) (w : World) : Prop := slices_Clone_string_string_s0 R x0 w
theorem slices_Clone_string_string_call {R : Value → World → Prop} {x0 : Value} {w : World} (h : slices_Clone_string_string R x0 w) : callG Tryz.prog 115 #[x0] w R :=
  calls_lift_eq Tryz.mixed Tryz.func115 (args := [x0]) rfl rfl rfl rfl ((slices_Clone_string_string_s0_eq R) (envOf [x0]) w) (by kernel_rfl) h
def wal_Log_Records_s0 (R : Value → World → Prop) (x0 : Value) (w : World) : Prop :=
  callG Tryz.prog 94 #[x0] w fun t4 w =>
  qG Tryz.prog (Op.unary .not t4) w fun t5 =>
  bV t5
  (R (.slice none 0 0) w)
  (nk x0 fun t7 =>
  fa 4 t7 fun t8 =>
  ld1 t8 w fun t9 =>
  callG Tryz.prog 115 #[t9] w fun t10 w =>
  R t10 w)
theorem wal_Log_Records_s0_eq (R : Value → World → Prop) : ∀ e w, lift Tryz.prog 11 (bodyOf Tryz.f86) (finK Tryz.prog Tryz.f86.results.toList R) e w = wal_Log_Records_s0 R (e 0) w := fun e w => by kernel_rfl
def wal_Log_Records (R : Value → World → Prop) (x0 : Value) (w : World) : Prop := wal_Log_Records_s0 R x0 w
theorem wal_Log_Records_call {R : Value → World → Prop} {x0 : Value} {w : World} (h : wal_Log_Records R x0 w) : callG Tryz.prog 86 #[x0] w R :=
  calls_lift_eq Tryz.mixed Tryz.func86 (args := [x0]) rfl rfl rfl rfl ((wal_Log_Records_s0_eq R) (envOf [x0]) w) (by kernel_rfl) h
def wal_Log_Add_1_s0 (R : Value → World → Prop) (x0 x1 x2 : Value) (w : World) : Prop :=
  ld1 x1 w fun t8 =>
  qG Tryz.prog (bq .mul 3 (.const (.int .i64 32)) (.tmp 9) (.int .i64 32) x0) w fun t10 =>
  qG Tryz.prog (bq .mul 3 (.const (.int .i64 32)) (.tmp 11) (.int .i64 32) x0) w fun t12 =>
  qG Tryz.prog (bq .add 3 (.tmp 12) (.const (.int .i64 32)) t12 (.int .i64 32)) w fun t13 =>
  ld1 x1 w fun t14 =>
  lenS t14 fun t15 =>
  qG Tryz.prog (Builtin.min_ #[3, 3] 3 #[t13, t15]) w fun t16 =>
  slS t8 (some t10) (some t16) fun t17 =>
  ld1 x2 (World.drew w) fun t19 =>
  nk t19 fun t20 =>
  fa 0 t20 fun t21 =>
  ld1 t21 (World.drew w) fun t22 =>
  ld1 x2 (World.drew w) fun t23 =>
  nk t23 fun t24 =>
  fa 1 t24 fun t25 =>
  ld1 t25 (World.drew w) fun t26 =>
  qG Tryz.prog (bq .add 3 (.tmp 26) (.tmp 27) t26 x0) (World.drew w) fun t28 =>
  callG Tryz.prog 35 #[t22, t28] (World.drew w) fun t29 w =>
  qG Tryz.prog (Instr.extract t29 0) w fun t30 =>
  qG Tryz.prog (Instr.extract t29 1) w fun t31 =>
  qG Tryz.prog (bq .neq 30 (.tmp 32) (.const (.int .i64 0)) t31 (.int .i64 0)) w fun t33 =>
  bV t33
  (R t31 w)
  (ld1 x2 (World.drew w) fun t35 =>
  nk t35 fun t36 =>
  fa 0 t36 fun t37 =>
  ld1 t37 (World.drew w) fun t38 =>
  ld1 x2 (World.drew w) fun t39 =>
  nk t39 fun t40 =>
  fa 1 t40 fun t41 =>
  ld1 t41 (World.drew w) fun t42 =>
  qG Tryz.prog (bq .add 3 (.tmp 42) (.tmp 43) t42 x0) (World.drew w) fun t44 =>
  lenS t17 fun t48 =>
  slS t30 (some t48) none fun t49 =>
  qG Tryz.prog (bq .add 9 (.tmp 45) (.tmp 49) t17 t49) (World.drew w) fun t50 =>
  callG Tryz.prog 90 #[t38, t44, t50] (World.drew w) fun t51 w =>
  R t51 w)
theorem wal_Log_Add_1_s0_eq (R : Value → World → Prop) : ∀ e w, lift Tryz.prog 52 (bodyOf Tryz.f97) (finK Tryz.prog Tryz.f97.results.toList R) e w = wal_Log_Add_1_s0 R (e 0) (e 1) (e 2) w := fun e w => by kernel_rfl
def wal_Log_Add_1 (R : Value → World → Prop) (x0 x1 x2 : Value) (w : World) : Prop := wal_Log_Add_1_s0 R x0 x1 x2 w
theorem wal_Log_Add_1_call {R : Value → World → Prop} {x0 x1 x2 : Value} {w : World} (h : wal_Log_Add_1 R x0 x1 x2 w) : callG Tryz.prog 97 #[x0, x1, x2] w R :=
  calls_lift_eq Tryz.mixed Tryz.func97 (args := [x0, x1, x2]) rfl rfl rfl rfl ((wal_Log_Add_1_s0_eq R) (envOf [x0, x1, x2]) w) (by kernel_rfl) h
def wal_Log_Add_s0 (R : Value → World → Prop) (x1 x2 x12 : Value) (w : World) : Prop :=
  ld1 x2 (World.drew w) fun t93 =>
  ld1 x2 (World.drew w) fun t94 =>
  ld1 x2 (World.drew w) fun t95 =>
  nk t95 fun t96 =>
  fa 4 t96 fun t97 =>
  ld1 t97 (World.drew w) fun t98 =>
  ld1 x12 (World.drew w) fun t101 =>
  app 9 1 16 (zc Tryz.prog 9) t98 x1 (World.drew w) fun t100 w =>
  ld1 x12 w (fun u => u = t101) ∧
  ld1 x2 w (fun u => u = t94) ∧
  ld1 x2 w (fun u => u = t93) ∧
  nk t93 fun t102 =>
  fa 4 t102 fun t103 =>
  st1 t103 t100 w fun w =>
  ld1 x12 w (fun u => u = t101) ∧
  ld1 x2 w (fun u => u = t94) ∧
  nk t94 fun t104 =>
  fa 5 t104 fun t105 =>
  st1 t105 t101 w fun w =>
  R (.int .i64 0) w
theorem wal_Log_Add_s0_eq (R : Value → World → Prop) : ∀ e w, lift Tryz.prog 106 (sub (bodyOf Tryz.f44) [1, 1, 1, 1, 1, 1, 1, 1, 1, 1]) (finK Tryz.prog Tryz.f44.results.toList R) e w = wal_Log_Add_s0 R (e 1) (e 2) (e 12) w := fun e w => by kernel_rfl
def wal_Log_Add_s1 (R : Value → World → Prop) (x1 x2 x5 x7 : Value) (w : World) : Prop :=
  bV x7
  (R (.int .i64 2) w)
  (ld1 x2 (World.drew w) fun t67 =>
  nk t67 fun t68 =>
  fa 5 t68 fun t69 =>
  ld1 t69 (World.drew w) fun t70 =>
  (callG Tryz.prog 61 #[x5] (World.drew w) fun t71 w =>
  ld1 t69 w (fun u => u = t70) ∧
  ld1 x2 w (fun u => u = t67) ∧
  qG Tryz.prog (bq .add 9 (.tmp 70) (.tmp 71) t70 t71) w fun t72 =>
  newG (zc Tryz.prog 9) 9 w fun t12 w =>
  stb Tryz.prog (bq .add 9 (.tmp 70) (.tmp 71) t70 t71) t72 w ∧
  ld1 t69 w (fun u => u = t70) ∧
  ld1 x2 w (fun u => u = t67) ∧
  st1 t12 t72 w fun w =>
  ld1 x2 w fun t73 =>
  nk t73 fun t74 =>
  fa 5 t74 fun t75 =>
  ld1 t75 w fun t76 =>
  lenS t76 fun t77 =>
  qG Tryz.prog (bq .quo 3 (.tmp 77) (.const (.int .i64 32)) t77 (.int .i64 32)) w fun t78 =>
  callG Tryz.prog 95 #[x5] w fun t79 w =>
  qG Tryz.prog (bq .gtr 3 (.tmp 79) (.const (.int .i64 0)) t79 (.int .i64 0)) w fun t80 =>
  bV t80
  (ld1 x2 w fun t81 =>
  ld1 t12 w fun t83 =>
  lenS t83 fun t84 =>
  qG Tryz.prog (bq .add 3 (.tmp 84) (.const (.int .i64 32)) t84 (.int .i64 32)) w fun t85 =>
  qG Tryz.prog (bq .sub 3 (.tmp 85) (.const (.int .i64 1)) t85 (.int .i64 1)) w fun t86 =>
  qG Tryz.prog (bq .quo 3 (.tmp 86) (.const (.int .i64 32)) t86 (.int .i64 32)) w fun t87 =>
  qG Tryz.prog (Instr.makeFunc (.func 97) #[] #[t12, x2]) w fun t88 =>
  callG Tryz.prog 96 #[t81, t78, t87, t88] w fun t89 w =>
  qG Tryz.prog (bq .neq 30 (.tmp 90) (.const (.int .i64 0)) t89 (.int .i64 0)) w fun t91 =>
  bV t91
  (R t89 w)
  (wal_Log_Add_s0 R x1 x2 t12 w))
  (wal_Log_Add_s0 R x1 x2 t12 w)) ∧
  (newG (zc Tryz.prog 9) 9 (World.drew w) fun t12_1 w =>
  ld1 t69 w (fun u => u = t70) ∧
  ld1 x2 w (fun u => u = t67) ∧
  callG Tryz.prog 61 #[x5] w fun t71_1 w =>
  ld1 t69 w (fun u => u = t70) ∧
  ld1 x2 w (fun u => u = t67) ∧
  qG Tryz.prog (bq .add 9 (.tmp 70) (.tmp 71) t70 t71_1) w fun t72_1 =>
  st1 t12_1 t72_1 w fun w =>
  ld1 x2 w fun t73_1 =>
  nk t73_1 fun t74_1 =>
  fa 5 t74_1 fun t75_1 =>
  ld1 t75_1 w fun t76_1 =>
  lenS t76_1 fun t77_1 =>
  qG Tryz.prog (bq .quo 3 (.tmp 77) (.const (.int .i64 32)) t77_1 (.int .i64 32)) w fun t78_1 =>
  callG Tryz.prog 95 #[x5] w fun t79_1 w =>
  qG Tryz.prog (bq .gtr 3 (.tmp 79) (.const (.int .i64 0)) t79_1 (.int .i64 0)) w fun t80_1 =>
  bV t80_1
  (ld1 x2 w fun t81_1 =>
  ld1 t12_1 w fun t83_1 =>
  lenS t83_1 fun t84_1 =>
  qG Tryz.prog (bq .add 3 (.tmp 84) (.const (.int .i64 32)) t84_1 (.int .i64 32)) w fun t85_1 =>
  qG Tryz.prog (bq .sub 3 (.tmp 85) (.const (.int .i64 1)) t85_1 (.int .i64 1)) w fun t86_1 =>
  qG Tryz.prog (bq .quo 3 (.tmp 86) (.const (.int .i64 32)) t86_1 (.int .i64 32)) w fun t87_1 =>
  qG Tryz.prog (Instr.makeFunc (.func 97) #[] #[t12_1, x2]) w fun t88_1 =>
  callG Tryz.prog 96 #[t81_1, t78_1, t87_1, t88_1] w fun t89_1 w =>
  qG Tryz.prog (bq .neq 30 (.tmp 90) (.const (.int .i64 0)) t89_1 (.int .i64 0)) w fun t91_1 =>
  bV t91_1
  (R t89_1 w)
  (wal_Log_Add_s0 R x1 x2 t12_1 w))
  (wal_Log_Add_s0 R x1 x2 t12_1 w)))
theorem wal_Log_Add_s1_eq (R : Value → World → Prop) : ∀ e w, lift Tryz.prog 106 (sub (bodyOf Tryz.f44) [1, 1, 1, 1, 1, 1]) (finK Tryz.prog Tryz.f44.results.toList R) e w = wal_Log_Add_s1 R (e 1) (e 2) (e 5) (e 7) w :=
  segs_eq (l := [(sub (bodyOf Tryz.f44) [1, 1, 1, 1, 1, 1, 0]), (sub (bodyOf Tryz.f44) [1, 1, 1, 1, 1, 1, 1, 0]), (sub (bodyOf Tryz.f44) [1, 1, 1, 1, 1, 1, 1, 1, 0]), (sub (bodyOf Tryz.f44) [1, 1, 1, 1, 1, 1, 1, 1, 1, 0])]) (y := (sub (bodyOf Tryz.f44) [1, 1, 1, 1, 1, 1, 1, 1, 1, 1])) (Y := (fun e w => wal_Log_Add_s0 R (e 1) (e 2) (e 12) w)) (wal_Log_Add_s0_eq R) (fun e w => by kernel_rfl)
def wal_Log_Add_b2 (R : Value → World → Prop) (N1 : List Value → World → Prop) (x1 x2 x5 x6 x7 x34 x35 x36 : Value) (w : World) : Prop :=
  qG Tryz.prog (bq .lss 3 (.tmp 36) (.tmp 35) x36 x35) w fun t37 =>
  bV t37
  (ia 1 x34 x36 fun t38 =>
  ld1 t38 w fun t39 =>
  ld1 x2 w fun t41 =>
  nk t41 fun t42 =>
  fa 3 t42 fun t43 =>
  ld1 t43 w fun t44 =>
  callG Tryz.prog 89 #[t44, t39] w fun t46 w =>
  qG Tryz.prog (Instr.extract t46 0) w fun t47 =>
  qG Tryz.prog (Instr.extract t46 1) w fun t48 =>
  qG Tryz.prog (bq .neq 30 (.tmp 49) (.const (.int .i64 0)) t48 (.int .i64 0)) w fun t50 =>
  bV t50
  (R t48 w)
  (bV x7
  (qG Tryz.prog (Op.unary .not (.bool true)) w fun t62 =>
  bV t62
  (callG Tryz.prog 59 #[x5, t47] w fun t64 w =>
  qG Tryz.prog (bq .add 3 (.tmp 36) (.const (.int .i64 1)) x36 (.int .i64 1)) w fun t65 =>
  N1 [x1, x2, x5, x6, (.bool true), x34, x35, t65] w)
  (qG Tryz.prog (bq .add 3 (.tmp 36) (.const (.int .i64 1)) x36 (.int .i64 1)) w fun t65_1 =>
  N1 [x1, x2, x5, x6, (.bool true), x34, x35, t65_1] w))
  (lenS t47 fun t55 =>
  callG Tryz.prog 95 #[x5] w fun t57 w =>
  qG Tryz.prog (bq .sub 3 (.tmp 56) (.tmp 57) x6 t57) w fun t58 =>
  qG Tryz.prog (bq .gtr 3 (.tmp 55) (.tmp 58) t55 t58) w fun t59 =>
  qG Tryz.prog (Op.unary .not t59) w fun t62_1 =>
  bV t62_1
  (callG Tryz.prog 59 #[x5, t47] w fun t64_1 w =>
  qG Tryz.prog (bq .add 3 (.tmp 36) (.const (.int .i64 1)) x36 (.int .i64 1)) w fun t65_2 =>
  N1 [x1, x2, x5, x6, t59, x34, x35, t65_2] w)
  (qG Tryz.prog (bq .add 3 (.tmp 36) (.const (.int .i64 1)) x36 (.int .i64 1)) w fun t65_3 =>
  N1 [x1, x2, x5, x6, t59, x34, x35, t65_3] w))))
  (wal_Log_Add_s1 R x1 x2 x5 x7 w)
theorem wal_Log_Add_b2_eq (R : Value → World → Prop) (N1 : List Value → World → Prop) : ∀ e w, lift Tryz.prog 106 (sub (bodyOf Tryz.f44) [1, 1, 1, 1, 1, 0, 1, 0, 0]) (seqK (fun e w => N1 [e 1, e 2, e 5, e 6, e 7, e 34, e 35, e 36] w) (blockK 0 (seqK (fun e w => wal_Log_Add_s1 R (e 1) (e 2) (e 5) (e 7) w) (finK Tryz.prog Tryz.f44.results.toList R)))) e w = wal_Log_Add_b2 R N1 (e 1) (e 2) (e 5) (e 6) (e 7) (e 34) (e 35) (e 36) w := fun e w => by kernel_rfl
def wal_Log_Add_L3F (R : Value → World → Prop) (N1 : List Value → World → Prop) (xs : List Value) (w : World) : Prop :=
  match xs with
  | [x1, x2, x5, x6, x7, x34, x35, x36] => wal_Log_Add_b2 R N1 x1 x2 x5 x6 x7 x34 x35 x36 w
  | _ => False
def wal_Log_Add_L3 (R : Value → World → Prop) (x1 x2 x5 x6 x7 x34 x35 x36 : Value) (w : World) : Prop :=
  ∃ m, loopV (wal_Log_Add_L3F R) m [x1, x2, x5, x6, x7, x34, x35, x36] w
theorem wal_Log_Add_L3_eq (R : Value → World → Prop) : ∀ e w, lift Tryz.prog 106 (sub (bodyOf Tryz.f44) [1, 1, 1, 1, 1, 0, 1, 0]) (blockK 0 (seqK (fun e w => wal_Log_Add_s1 R (e 1) (e 2) (e 5) (e 7) w) (finK Tryz.prog Tryz.f44.results.toList R))) e w = wal_Log_Add_L3 R (e 1) (e 2) (e 5) (e 6) (e 7) (e 34) (e 35) (e 36) w := loop_seg (F := wal_Log_Add_L3F R) (sel := fun e => [e 1, e 2, e 5, e 6, e 7, e 34, e 35, e 36]) fun N1 => (wal_Log_Add_b2_eq R N1)
def wal_Log_Add_s4 (R : Value → World → Prop) (x1 x2 x5 x6 x7 : Value) (w : World) : Prop :=
  lenL x1 fun t35 =>
  wal_Log_Add_L3 R x1 x2 x5 x6 x7 x1 t35 (.int .i64 0) w
theorem wal_Log_Add_s4_eq (R : Value → World → Prop) : ∀ e w, lift Tryz.prog 106 (sub (bodyOf Tryz.f44) [1, 1, 1, 1, 1, 0]) (seqK (fun e w => wal_Log_Add_s1 R (e 1) (e 2) (e 5) (e 7) w) (finK Tryz.prog Tryz.f44.results.toList R)) e w = wal_Log_Add_s4 R (e 1) (e 2) (e 5) (e 6) (e 7) w :=
  segs_eq (l := [(sub (bodyOf Tryz.f44) [1, 1, 1, 1, 1, 0, 0])]) (y := (sub (bodyOf Tryz.f44) [1, 1, 1, 1, 1, 0, 1])) (Y := (fun e w => wal_Log_Add_L3 R (e 1) (e 2) (e 5) (e 6) (e 7) (e 34) (e 35) (e 36) w)) (wal_Log_Add_L3_eq R) (fun e w => by kernel_rfl)
def wal_Log_Add_s5 (R : Value → World → Prop) (x0 x1 : Value) (w : World) : Prop :=
  newG (Value.cells x0) 56 w fun t2 w =>
  ld1 t2 w fun t15 =>
  callG Tryz.prog 94 #[t15] w fun t16 w =>
  qG Tryz.prog (Op.unary .not t16) w fun t17 =>
  bV t17
  (R (.int .i64 1) w)
  (newG (zc Tryz.prog 110) 110 w fun t5 w =>
  ld1 t2 (World.drew w) fun t18 =>
  nk t18 fun t19 =>
  fa 2 t19 fun t20 =>
  ld1 t20 (World.drew w) fun t21 =>
  ld1 t2 (World.drew w) fun t22 =>
  nk t22 fun t23 =>
  fa 1 t23 fun t24 =>
  ld1 t24 (World.drew w) fun t25 =>
  qG Tryz.prog (bq .sub 3 (.tmp 21) (.tmp 25) t21 t25) (World.drew w) fun t26 =>
  qG Tryz.prog (bq .mul 3 (.const (.int .i64 32)) (.tmp 26) (.int .i64 32) t26) (World.drew w) fun t27 =>
  ld1 t2 (World.drew w) fun t28 =>
  nk t28 fun t29 =>
  fa 5 t29 fun t30 =>
  ld1 t30 (World.drew w) fun t31 =>
  lenS t31 fun t32 =>
  qG Tryz.prog (bq .sub 3 (.tmp 27) (.tmp 32) t27 t32) (World.drew w) fun t33 =>
  wal_Log_Add_s4 R x1 t2 t5 t33 (.bool false) (World.drew w))
theorem wal_Log_Add_s5_eq (R : Value → World → Prop) : ∀ e w, lift Tryz.prog 106 (bodyOf Tryz.f44) (finK Tryz.prog Tryz.f44.results.toList R) e w = wal_Log_Add_s5 R (e 0) (e 1) w :=
  segs_eq (l := [(sub (bodyOf Tryz.f44) [0]), (sub (bodyOf Tryz.f44) [1, 0]), (sub (bodyOf Tryz.f44) [1, 1, 0]), (sub (bodyOf Tryz.f44) [1, 1, 1, 0]), (sub (bodyOf Tryz.f44) [1, 1, 1, 1, 0])]) (y := (sub (bodyOf Tryz.f44) [1, 1, 1, 1, 1])) (Y := (fun e w => wal_Log_Add_s4 R (e 1) (e 2) (e 5) (e 6) (e 7) w)) (seq_seg (x := (sub (bodyOf Tryz.f44) [1, 1, 1, 1, 1, 0])) (y := (sub (bodyOf Tryz.f44) [1, 1, 1, 1, 1, 1])) (wal_Log_Add_s1_eq R) (wal_Log_Add_s4_eq R)) (fun e w => by kernel_rfl)
def wal_Log_Add (R : Value → World → Prop) (x0 x1 : Value) (w : World) : Prop := wal_Log_Add_s5 R x0 x1 w
theorem wal_Log_Add_call {R : Value → World → Prop} {x0 x1 : Value} {w : World} (h : wal_Log_Add R x0 x1 w) : callG Tryz.prog 44 #[x0, x1] w R :=
  calls_lift_eq Tryz.mixed Tryz.func44 (args := [x0, x1]) rfl rfl rfl rfl ((wal_Log_Add_s5_eq R) (envOf [x0, x1]) w) (by kernel_rfl) h
def wal_Log_Sync_s0 (R : Value → World → Prop) (x0 : Value) (w : World) : Prop :=
  callG Tryz.prog 94 #[x0] w fun t4 w =>
  qG Tryz.prog (Op.unary .not t4) w fun t5 =>
  bV t5
  (R (.int .i64 1) w)
  (nk x0 fun t7 =>
  fa 0 t7 fun t8 =>
  ld1 t8 w fun t9 =>
  callG Tryz.prog 91 #[t9] w fun t10 w =>
  R t10 w)
theorem wal_Log_Sync_s0_eq (R : Value → World → Prop) : ∀ e w, lift Tryz.prog 11 (bodyOf Tryz.f49) (finK Tryz.prog Tryz.f49.results.toList R) e w = wal_Log_Sync_s0 R (e 0) w := fun e w => by kernel_rfl
def wal_Log_Sync (R : Value → World → Prop) (x0 : Value) (w : World) : Prop := wal_Log_Sync_s0 R x0 w
theorem wal_Log_Sync_call {R : Value → World → Prop} {x0 : Value} {w : World} (h : wal_Log_Sync R x0 w) : callG Tryz.prog 49 #[x0] w R :=
  calls_lift_eq Tryz.mixed Tryz.func49 (args := [x0]) rfl rfl rfl rfl ((wal_Log_Sync_s0_eq R) (envOf [x0]) w) (by kernel_rfl) h
end Go.Proofs

set_option linter.unusedVariables false
set_option linter.unusedSimpArgs false
namespace Go.Proofs
open Go Go.Q
set_option maxRecDepth 100000
def value_Check_s0 (R : Value → World → Prop) (x0 : Value) (w : World) : Prop :=
  newG (Value.cells x0) 76 w fun t1 w =>
  fa 0 t1 fun t4 =>
  ld1 t4 w fun t5 =>
  qG Tryz.prog (bq .eql 3 (.tmp 5) (.const (.int .i64 0)) t5 (.int .i64 0)) w fun t7 =>
  bV t7
  (ldn 3 t1 w fun t8 =>
  bld [(0, 1), (1, 1), (2, 1)] (zc Tryz.prog 76) #[] fun t9 =>
  qG Tryz.prog (bq .eql 76 (.tmp 8) (.tmp 9) t8 t9) w fun t10 =>
  qG Tryz.prog (Op.unary .not t10) w fun t40 =>
  bV t40
  (R (.int .i64 1) w)
  (R (.int .i64 0) w))
  (qG Tryz.prog (bq .eql 3 (.tmp 5) (.const (.int .i64 1)) t5 (.int .i64 1)) w fun t12 =>
  bV t12
  (ldn 3 t1 w fun t13 =>
  fa 1 t1 fun t14 =>
  ld1 t14 w fun t15 =>
  bld [(0, 1), (1, 1), (2, 1)] (zc Tryz.prog 76) #[(0, (.int .i64 1)), (1, t15)] fun t16 =>
  qG Tryz.prog (bq .eql 76 (.tmp 13) (.tmp 16) t13 t16) w fun t17 =>
  qG Tryz.prog (Op.unary .not t17) w fun t40_1 =>
  bV t40_1
  (R (.int .i64 1) w)
  (R (.int .i64 0) w))
  (qG Tryz.prog (bq .eql 3 (.tmp 5) (.const (.int .i64 2)) t5 (.int .i64 2)) w fun t19 =>
  bV t19
  (ldn 3 t1 w fun t20 =>
  fa 2 t1 fun t21 =>
  ld1 t21 w fun t22 =>
  bld [(0, 1), (1, 1), (2, 1)] (zc Tryz.prog 76) #[(0, (.int .i64 2)), (2, t22)] fun t23 =>
  qG Tryz.prog (bq .eql 76 (.tmp 20) (.tmp 23) t20 t23) w fun t24 =>
  bV t24
  (fa 2 t1 fun t26 =>
  ld1 t26 w fun t27 =>
  lenS t27 fun t28 =>
  qG Tryz.prog (bq .leq 3 (.tmp 28) (.const (.int .i64 64)) t28 (.int .i64 64)) w fun t29 =>
  qG Tryz.prog (Op.unary .not t29) w fun t40_2 =>
  bV t40_2
  (R (.int .i64 1) w)
  (R (.int .i64 0) w))
  (qG Tryz.prog (Op.unary .not (.bool false)) w fun t40_3 =>
  bV t40_3
  (R (.int .i64 1) w)
  (R (.int .i64 0) w)))
  (qG Tryz.prog (bq .eql 3 (.tmp 5) (.const (.int .i64 3)) t5 (.int .i64 3)) w fun t32 =>
  bV t32
  (ldn 3 t1 w fun t33 =>
  fa 1 t1 fun t34 =>
  ld1 t34 w fun t35 =>
  qG Tryz.prog (bq .and 3 (.tmp 35) (.const (.int .i64 1)) t35 (.int .i64 1)) w fun t36 =>
  bld [(0, 1), (1, 1), (2, 1)] (zc Tryz.prog 76) #[(0, (.int .i64 3)), (1, t36)] fun t37 =>
  qG Tryz.prog (bq .eql 76 (.tmp 33) (.tmp 37) t33 t37) w fun t38 =>
  qG Tryz.prog (Op.unary .not t38) w fun t40_4 =>
  bV t40_4
  (R (.int .i64 1) w)
  (R (.int .i64 0) w))
  (qG Tryz.prog (Op.unary .not (.bool false)) w fun t40_5 =>
  bV t40_5
  (R (.int .i64 1) w)
  (R (.int .i64 0) w)))))
theorem value_Check_s0_eq (R : Value → World → Prop) : ∀ e w, lift Tryz.prog 41 (bodyOf Tryz.f58) (finK Tryz.prog Tryz.f58.results.toList R) e w = value_Check_s0 R (e 0) w := fun e w => by kernel_rfl
def value_Check (R : Value → World → Prop) (x0 : Value) (w : World) : Prop := value_Check_s0 R x0 w
theorem value_Check_call {R : Value → World → Prop} {x0 : Value} {w : World} (h : value_Check R x0 w) : callG Tryz.prog 58 #[x0] w R :=
  calls_lift_eq Tryz.mixed Tryz.func58 (args := [x0]) rfl rfl rfl rfl ((value_Check_s0_eq R) (envOf [x0]) w) (by kernel_rfl) h
def value_bytes_s0 (R : Value → World → Prop) (x3 : Value) (w : World) : Prop :=
  cvBS x3 w fun t52 =>
  R t52 w
theorem value_bytes_s0_eq (R : Value → World → Prop) : ∀ e w, lift Tryz.prog 53 (sub (bodyOf Tryz.f60) [1, 1, 1]) (finK Tryz.prog Tryz.f60.results.toList R) e w = value_bytes_s0 R (e 3) w := fun e w => by kernel_rfl
def value_bytes_b1 (R : Value → World → Prop) (N1 : List Value → World → Prop) (x3 x4 x18 : Value) (w : World) : Prop :=
  qG Tryz.prog (bq .lss 3 (.tmp 18) (.const (.int .i64 8)) x18 (.int .i64 8)) w fun t19 =>
  bV t19
  (qG Tryz.prog (bq .sub 3 (.const (.int .i64 7)) (.tmp 23) (.int .i64 7) x18) w fun t24 =>
  qG Tryz.prog (bq .mul 3 (.const (.int .i64 8)) (.tmp 24) (.int .i64 8) t24) w fun t25 =>
  qG Tryz.prog (bq .shr 146 (.tmp 22) (.tmp 25) x4 t25) w fun t26 =>
  cvI .u8 t26 fun t27 =>
  bsl 5 1 1 (zc Tryz.prog 5) #[(0, t27)] w fun t28 w =>
  app 5 1 1 (zc Tryz.prog 5) x3 t28 w fun t29 w =>
  qG Tryz.prog (bq .add 3 (.tmp 18) (.const (.int .i64 1)) x18 (.int .i64 1)) w fun t30 =>
  N1 [t29, x4, t30] w)
  (value_bytes_s0 R x3 w)
theorem value_bytes_b1_eq (R : Value → World → Prop) (N1 : List Value → World → Prop) : ∀ e w, lift Tryz.prog 53 (sub (bodyOf Tryz.f60) [1, 1, 0, 1, 0, 1, 0, 1, 1, 0, 0]) (seqK (fun e w => N1 [e 3, e 4, e 18] w) (blockK 1 (blockK 0 (seqK (fun e w => value_bytes_s0 R (e 3) w) (finK Tryz.prog Tryz.f60.results.toList R))))) e w = value_bytes_b1 R N1 (e 3) (e 4) (e 18) w := fun e w => by kernel_rfl
def value_bytes_L2F (R : Value → World → Prop) (N1 : List Value → World → Prop) (xs : List Value) (w : World) : Prop :=
  match xs with
  | [x3, x4, x18] => value_bytes_b1 R N1 x3 x4 x18 w
  | _ => False
def value_bytes_L2 (R : Value → World → Prop) (x3 x4 x18 : Value) (w : World) : Prop :=
  ∃ m, loopV (value_bytes_L2F R) m [x3, x4, x18] w
theorem value_bytes_L2_eq (R : Value → World → Prop) : ∀ e w, lift Tryz.prog 53 (sub (bodyOf Tryz.f60) [1, 1, 0, 1, 0, 1, 0, 1, 1, 0]) (blockK 1 (blockK 0 (seqK (fun e w => value_bytes_s0 R (e 3) w) (finK Tryz.prog Tryz.f60.results.toList R)))) e w = value_bytes_L2 R (e 3) (e 4) (e 18) w := loop_seg (F := value_bytes_L2F R) (sel := fun e => [e 3, e 4, e 18]) fun N1 => (value_bytes_b1_eq R N1)
def value_bytes_s3 (R : Value → World → Prop) (x1 x3 : Value) (w : World) : Prop :=
  fa 1 x1 fun t14 =>
  ld1 t14 w fun t15 =>
  cvI .u64 t15 fun t16 =>
  qG Tryz.prog (bq .xor 146 (.tmp 16) (.const (.int .u64 9223372036854775808)) t16 (.int .u64 9223372036854775808)) w fun t17 =>
  value_bytes_L2 R x3 t17 (.int .i64 0) w
theorem value_bytes_s3_eq (R : Value → World → Prop) : ∀ e w, lift Tryz.prog 53 (sub (bodyOf Tryz.f60) [1, 1, 0, 1, 0, 1, 0]) (blockK 0 (seqK (fun e w => value_bytes_s0 R (e 3) w) (finK Tryz.prog Tryz.f60.results.toList R))) e w = value_bytes_s3 R (e 1) (e 3) w :=
  segs_eq (l := [(sub (bodyOf Tryz.f60) [1, 1, 0, 1, 0, 1, 0, 0]), (sub (bodyOf Tryz.f60) [1, 1, 0, 1, 0, 1, 0, 1, 0])]) (y := (sub (bodyOf Tryz.f60) [1, 1, 0, 1, 0, 1, 0, 1, 1])) (Y := (fun e w => value_bytes_L2 R (e 3) (e 4) (e 18) w)) (value_bytes_L2_eq R) (fun e w => by kernel_rfl)
def value_bytes_s4 (R : Value → World → Prop) (x1 x3 x11 : Value) (w : World) : Prop :=
  qG Tryz.prog (bq .eql 3 (.tmp 11) (.const (.int .i64 2)) x11 (.int .i64 2)) w fun t32 =>
  bV t32
  (fa 2 x1 fun t34 =>
  ld1 t34 (World.drew w) fun t35 =>
  lenS t35 fun t36 =>
  cvI .u8 t36 fun t37 =>
  fa 2 x1 fun t40 =>
  ld1 t40 (World.drew w) fun t41 =>
  bsl 5 1 1 (zc Tryz.prog 5) #[(0, t37)] (World.drew w) fun t38 w =>
  ld1 t40 w (fun u => u = t41) ∧
  app 5 1 1 (zc Tryz.prog 5) x3 t38 w fun t39 w =>
  ld1 t40 w (fun u => u = t41) ∧
  app 5 1 1 (zc Tryz.prog 5) t39 t41 w fun t42 w =>
  value_bytes_s0 R t42 w)
  (qG Tryz.prog (bq .eql 3 (.tmp 11) (.const (.int .i64 3)) x11 (.int .i64 3)) w fun t44 =>
  bV t44
  (fa 1 x1 fun t46 =>
  ld1 t46 w fun t47 =>
  cvI .u8 t47 fun t48 =>
  bsl 5 1 1 (zc Tryz.prog 5) #[(0, t48)] w fun t49 w =>
  app 5 1 1 (zc Tryz.prog 5) x3 t49 w fun t50 w =>
  value_bytes_s0 R t50 w)
  (value_bytes_s0 R x3 w))
theorem value_bytes_s4_eq (R : Value → World → Prop) : ∀ e w, lift Tryz.prog 53 (sub (bodyOf Tryz.f60) [1, 1, 0, 1, 0, 1, 1]) (blockK 0 (seqK (fun e w => value_bytes_s0 R (e 3) w) (finK Tryz.prog Tryz.f60.results.toList R))) e w = value_bytes_s4 R (e 1) (e 3) (e 11) w := fun e w => by kernel_rfl
def value_bytes_s5 (R : Value → World → Prop) (x1 x3 x11 x12 : Value) (w : World) : Prop :=
  bV x12 (value_bytes_s3 R x1 x3 w) (value_bytes_s4 R x1 x3 x11 w)
theorem value_bytes_s5_eq (R : Value → World → Prop) : ∀ e w, lift Tryz.prog 53 (sub (bodyOf Tryz.f60) [1, 1, 0, 1, 0, 1]) (blockK 0 (seqK (fun e w => value_bytes_s0 R (e 3) w) (finK Tryz.prog Tryz.f60.results.toList R))) e w = value_bytes_s5 R (e 1) (e 3) (e 11) (e 12) w := fun e w => (cond_seg (x := (sub (bodyOf Tryz.f60) [1, 1, 0, 1, 0, 1, 0])) (y := (sub (bodyOf Tryz.f60) [1, 1, 0, 1, 0, 1, 1])) (value_bytes_s3_eq R) (value_bytes_s4_eq R) e w).trans (by kernel_rfl)
def value_bytes_s6 (R : Value → World → Prop) (x1 x3 x11 : Value) (w : World) : Prop :=
  qG Tryz.prog (bq .eql 3 (.tmp 11) (.const (.int .i64 1)) x11 (.int .i64 1)) w fun t13 =>
  value_bytes_s5 R x1 x3 x11 t13 w
theorem value_bytes_s6_eq (R : Value → World → Prop) : ∀ e w, lift Tryz.prog 53 (sub (bodyOf Tryz.f60) [1, 1, 0, 1, 0]) (blockK 0 (seqK (fun e w => value_bytes_s0 R (e 3) w) (finK Tryz.prog Tryz.f60.results.toList R))) e w = value_bytes_s6 R (e 1) (e 3) (e 11) w :=
  segs_eq (l := [(sub (bodyOf Tryz.f60) [1, 1, 0, 1, 0, 0])]) (y := (sub (bodyOf Tryz.f60) [1, 1, 0, 1, 0, 1])) (Y := (fun e w => value_bytes_s5 R (e 1) (e 3) (e 11) (e 12) w)) (value_bytes_s5_eq R) (fun e w => by kernel_rfl)
def value_bytes_s7 (R : Value → World → Prop) (x1 x3 : Value) (w : World) : Prop :=
  fa 0 x1 fun t10 =>
  ld1 t10 w fun t11 =>
  value_bytes_s6 R x1 x3 t11 w
theorem value_bytes_s7_eq (R : Value → World → Prop) : ∀ e w, lift Tryz.prog 53 (sub (bodyOf Tryz.f60) [1, 1, 0]) (seqK (fun e w => value_bytes_s0 R (e 3) w) (finK Tryz.prog Tryz.f60.results.toList R)) e w = value_bytes_s7 R (e 1) (e 3) w :=
  segs_eq (l := [(sub (bodyOf Tryz.f60) [1, 1, 0, 0])]) (y := (sub (bodyOf Tryz.f60) [1, 1, 0, 1])) (Y := (fun e w => value_bytes_s6 R (e 1) (e 3) (e 11) w)) (value_bytes_s6_eq R) (fun e w => by kernel_rfl)
def value_bytes_s8 (R : Value → World → Prop) (x0 : Value) (w : World) : Prop :=
  newG (Value.cells x0) 76 w fun t1 w =>
  fa 0 t1 fun t6 =>
  ld1 t6 w fun t7 =>
  cvI .u8 t7 fun t8 =>
  bsl 5 1 1 (zc Tryz.prog 5) #[(0, t8)] w fun t9 w =>
  value_bytes_s7 R t1 t9 w
theorem value_bytes_s8_eq (R : Value → World → Prop) : ∀ e w, lift Tryz.prog 53 (bodyOf Tryz.f60) (finK Tryz.prog Tryz.f60.results.toList R) e w = value_bytes_s8 R (e 0) w :=
  segs_eq (l := [(sub (bodyOf Tryz.f60) [0]), (sub (bodyOf Tryz.f60) [1, 0])]) (y := (sub (bodyOf Tryz.f60) [1, 1])) (Y := (fun e w => value_bytes_s7 R (e 1) (e 3) w)) (seq_seg (x := (sub (bodyOf Tryz.f60) [1, 1, 0])) (y := (sub (bodyOf Tryz.f60) [1, 1, 1])) (value_bytes_s0_eq R) (value_bytes_s7_eq R)) (fun e w => by kernel_rfl)
def value_bytes (R : Value → World → Prop) (x0 : Value) (w : World) : Prop := value_bytes_s8 R x0 w
theorem value_bytes_call {R : Value → World → Prop} {x0 : Value} {w : World} (h : value_bytes R x0 w) : callG Tryz.prog 60 #[x0] w R :=
  calls_lift_eq Tryz.mixed Tryz.func60 (args := [x0]) rfl rfl rfl rfl ((value_bytes_s8_eq R) (envOf [x0]) w) (by kernel_rfl) h
def value_Put_s0 (R : Value → World → Prop) (x4 : Value) (w : World) : Prop :=
  callG Tryz.prog 61 #[x4] w fun t30 w =>
  R (.tuple #[t30, (.int .i64 0)]) w
theorem value_Put_s0_eq (R : Value → World → Prop) : ∀ e w, lift Tryz.prog 31 (sub (bodyOf Tryz.f24) [1, 1, 1, 1, 1]) (finK Tryz.prog Tryz.f24.results.toList R) e w = value_Put_s0 R (e 4) w := fun e w => by kernel_rfl
def value_Put_b1 (R : Value → World → Prop) (N1 : List Value → World → Prop) (x4 x15 x16 x17 : Value) (w : World) : Prop :=
  qG Tryz.prog (bq .lss 3 (.tmp 17) (.tmp 16) x17 x16) w fun t18 =>
  bV t18
  (ia 3 x15 x17 fun t19 =>
  ldn 3 t19 w fun t20 =>
  newG (zc Tryz.prog 76) 76 w fun t6 w =>
  stn 3 t6 t20 w fun w =>
  ldn 3 t6 w fun t21 =>
  callG Tryz.prog 58 #[t21] w fun t22 w =>
  qG Tryz.prog (bq .neq 30 (.tmp 23) (.const (.int .i64 0)) t22 (.int .i64 0)) w fun t24 =>
  bV t24
  (R (.tuple #[(.string ⟨#[]⟩), t22]) w)
  (ldn 3 t6 w fun t26 =>
  callG Tryz.prog 60 #[t26] w fun t27 w =>
  callG Tryz.prog 59 #[x4, t27] w fun t28 w =>
  qG Tryz.prog (bq .add 3 (.tmp 17) (.const (.int .i64 1)) x17 (.int .i64 1)) w fun t29 =>
  N1 [x4, x15, x16, t29] w))
  (value_Put_s0 R x4 w)
theorem value_Put_b1_eq (R : Value → World → Prop) (N1 : List Value → World → Prop) : ∀ e w, lift Tryz.prog 31 (sub (bodyOf Tryz.f24) [1, 1, 1, 1, 0, 1, 0, 0]) (seqK (fun e w => N1 [e 4, e 15, e 16, e 17] w) (blockK 0 (seqK (fun e w => value_Put_s0 R (e 4) w) (finK Tryz.prog Tryz.f24.results.toList R)))) e w = value_Put_b1 R N1 (e 4) (e 15) (e 16) (e 17) w := fun e w => by kernel_rfl
def value_Put_L2F (R : Value → World → Prop) (N1 : List Value → World → Prop) (xs : List Value) (w : World) : Prop :=
  match xs with
  | [x4, x15, x16, x17] => value_Put_b1 R N1 x4 x15 x16 x17 w
  | _ => False
def value_Put_L2 (R : Value → World → Prop) (x4 x15 x16 x17 : Value) (w : World) : Prop :=
  ∃ m, loopV (value_Put_L2F R) m [x4, x15, x16, x17] w
theorem value_Put_L2_eq (R : Value → World → Prop) : ∀ e w, lift Tryz.prog 31 (sub (bodyOf Tryz.f24) [1, 1, 1, 1, 0, 1, 0]) (blockK 0 (seqK (fun e w => value_Put_s0 R (e 4) w) (finK Tryz.prog Tryz.f24.results.toList R))) e w = value_Put_L2 R (e 4) (e 15) (e 16) (e 17) w := loop_seg (F := value_Put_L2F R) (sel := fun e => [e 4, e 15, e 16, e 17]) fun N1 => (value_Put_b1_eq R N1)
def value_Put_s3 (R : Value → World → Prop) (x0 x4 : Value) (w : World) : Prop :=
  lenL x0 fun t16 =>
  value_Put_L2 R x4 x0 t16 (.int .i64 0) w
theorem value_Put_s3_eq (R : Value → World → Prop) : ∀ e w, lift Tryz.prog 31 (sub (bodyOf Tryz.f24) [1, 1, 1, 1, 0]) (seqK (fun e w => value_Put_s0 R (e 4) w) (finK Tryz.prog Tryz.f24.results.toList R)) e w = value_Put_s3 R (e 0) (e 4) w :=
  segs_eq (l := [(sub (bodyOf Tryz.f24) [1, 1, 1, 1, 0, 0])]) (y := (sub (bodyOf Tryz.f24) [1, 1, 1, 1, 0, 1])) (Y := (fun e w => value_Put_L2 R (e 4) (e 15) (e 16) (e 17) w)) (value_Put_L2_eq R) (fun e w => by kernel_rfl)
def value_Put_s4 (R : Value → World → Prop) (x0 : Value) (w : World) : Prop :=
  lenL x0 fun t9 =>
  qG Tryz.prog (bq .gtr 3 (.tmp 9) (.const (.int .i64 255)) t9 (.int .i64 255)) w fun t10 =>
  bV t10
  (R (.tuple #[(.string ⟨#[]⟩), (.int .i64 1)]) w)
  (newG (zc Tryz.prog 110) 110 w fun t4 w =>
  lenL x0 fun t12 =>
  cvI .u8 t12 fun t13 =>
  callG Tryz.prog 57 #[t4, t13] w fun t14 w =>
  value_Put_s3 R x0 t4 w)
theorem value_Put_s4_eq (R : Value → World → Prop) : ∀ e w, lift Tryz.prog 31 (bodyOf Tryz.f24) (finK Tryz.prog Tryz.f24.results.toList R) e w = value_Put_s4 R (e 0) w :=
  segs_eq (l := [(sub (bodyOf Tryz.f24) [0]), (sub (bodyOf Tryz.f24) [1, 0]), (sub (bodyOf Tryz.f24) [1, 1, 0]), (sub (bodyOf Tryz.f24) [1, 1, 1, 0])]) (y := (sub (bodyOf Tryz.f24) [1, 1, 1, 1])) (Y := (fun e w => value_Put_s3 R (e 0) (e 4) w)) (seq_seg (x := (sub (bodyOf Tryz.f24) [1, 1, 1, 1, 0])) (y := (sub (bodyOf Tryz.f24) [1, 1, 1, 1, 1])) (value_Put_s0_eq R) (value_Put_s3_eq R)) (fun e w => by kernel_rfl)
def value_Put (R : Value → World → Prop) (x0 : Value) (w : World) : Prop := value_Put_s4 R x0 w
theorem value_Put_call {R : Value → World → Prop} {x0 : Value} {w : World} (h : value_Put R x0 w) : callG Tryz.prog 24 #[x0] w R :=
  calls_lift_eq Tryz.mixed Tryz.func24 (args := [x0]) rfl rfl rfl rfl ((value_Put_s4_eq R) (envOf [x0]) w) (by kernel_rfl) h
def value_one_s0 (R : Value → World → Prop) (x0 x2 x5 x6 : Value) (w : World) : Prop :=
  ldn 3 x5 (World.drew w) fun t76 =>
  slS x0 (some x6) none fun t79 =>
  ldn 3 x5 (World.drew w) fun t80 =>
  callG Tryz.prog 58 #[t80] (World.drew w) fun t81 w =>
  ldn 3 x5 w (fun u => u = t76) ∧
  qG Tryz.prog (bq .eql 30 (.tmp 81) (.const (.int .i64 0)) t81 (.int .i64 0)) w fun t82 =>
  stn 3 x2 t76 w fun w =>
  stb Tryz.prog (bq .eql 30 (.tmp 81) (.const (.int .i64 0)) t81 (.int .i64 0)) t82 w ∧
  qG Tryz.prog (do loadVar 76 (← asAddr x2)) w fun r2 =>
  R (.tuple #[r2, t79, t82]) w
theorem value_one_s0_eq (R : Value → World → Prop) : ∀ e w, lift Tryz.prog 83 (sub (bodyOf Tryz.f129) [1, 1, 1, 1, 1, 1, 1, 1]) (finK Tryz.prog Tryz.f129.results.toList R) e w = value_one_s0 R (e 0) (e 2) (e 5) (e 6) w := fun e w => by kernel_rfl
def value_one_s1 (R : Value → World → Prop) (x0 x2 x5 x6 x7 : Value) (w : World) : Prop :=
  qG Tryz.prog (bq .xor 146 (.tmp 50) (.const (.int .u64 9223372036854775808)) x7 (.int .u64 9223372036854775808)) w fun t51 =>
  cvI .i64 t51 fun t52 =>
  fa 1 x5 fun t53 =>
  st1 t53 t52 w fun w =>
  value_one_s0 R x0 x2 x5 x6 w
theorem value_one_s1_eq (R : Value → World → Prop) : ∀ e w, lift Tryz.prog 83 (sub (bodyOf Tryz.f129) [1, 1, 1, 1, 1, 1, 1, 0, 1, 0, 1, 0, 1, 1]) (blockK 1 (seqK (fun e w => value_one_s0 R (e 0) (e 2) (e 5) (e 6) w) (finK Tryz.prog Tryz.f129.results.toList R))) e w = value_one_s1 R (e 0) (e 2) (e 5) (e 6) (e 7) w := fun e w => by kernel_rfl
def value_one_b2 (R : Value → World → Prop) (N1 : List Value → World → Prop) (x0 x2 x5 x6 x7 x39 : Value) (w : World) : Prop :=
  qG Tryz.prog (bq .lss 3 (.tmp 39) (.const (.int .i64 8)) x39 (.int .i64 8)) w fun t40 =>
  bV t40
  (qG Tryz.prog (bq .shl 146 (.tmp 42) (.const (.int .u64 8)) x7 (.int .u64 8)) w fun t43 =>
  ixS x0 x39 fun t46 =>
  cvI .u64 t46 fun t47 =>
  qG Tryz.prog (bq .or 146 (.tmp 43) (.tmp 47) t43 t47) w fun t48 =>
  qG Tryz.prog (bq .add 3 (.tmp 39) (.const (.int .i64 1)) x39 (.int .i64 1)) w fun t49 =>
  N1 [x0, x2, x5, x6, t48, t49] w)
  (value_one_s1 R x0 x2 x5 x6 x7 w)
theorem value_one_b2_eq (R : Value → World → Prop) (N1 : List Value → World → Prop) : ∀ e w, lift Tryz.prog 83 (sub (bodyOf Tryz.f129) [1, 1, 1, 1, 1, 1, 1, 0, 1, 0, 1, 0, 1, 0, 1, 0, 0]) (seqK (fun e w => N1 [e 0, e 2, e 5, e 6, e 7, e 39] w) (blockK 2 (seqK (fun e w => value_one_s1 R (e 0) (e 2) (e 5) (e 6) (e 7) w) (blockK 1 (seqK (fun e w => value_one_s0 R (e 0) (e 2) (e 5) (e 6) w) (finK Tryz.prog Tryz.f129.results.toList R)))))) e w = value_one_b2 R N1 (e 0) (e 2) (e 5) (e 6) (e 7) (e 39) w := fun e w => by kernel_rfl
def value_one_L3F (R : Value → World → Prop) (N1 : List Value → World → Prop) (xs : List Value) (w : World) : Prop :=
  match xs with
  | [x0, x2, x5, x6, x7, x39] => value_one_b2 R N1 x0 x2 x5 x6 x7 x39 w
  | _ => False
def value_one_L3 (R : Value → World → Prop) (x0 x2 x5 x6 x7 x39 : Value) (w : World) : Prop :=
  ∃ m, loopV (value_one_L3F R) m [x0, x2, x5, x6, x7, x39] w
theorem value_one_L3_eq (R : Value → World → Prop) : ∀ e w, lift Tryz.prog 83 (sub (bodyOf Tryz.f129) [1, 1, 1, 1, 1, 1, 1, 0, 1, 0, 1, 0, 1, 0, 1, 0]) (blockK 2 (seqK (fun e w => value_one_s1 R (e 0) (e 2) (e 5) (e 6) (e 7) w) (blockK 1 (seqK (fun e w => value_one_s0 R (e 0) (e 2) (e 5) (e 6) w) (finK Tryz.prog Tryz.f129.results.toList R))))) e w = value_one_L3 R (e 0) (e 2) (e 5) (e 6) (e 7) (e 39) w := loop_seg (F := value_one_L3F R) (sel := fun e => [e 0, e 2, e 5, e 6, e 7, e 39]) fun N1 => (value_one_b2_eq R N1)
def value_one_s4 (R : Value → World → Prop) (x0 x2 x5 x6 x7 : Value) (w : World) : Prop :=
  value_one_L3 R x0 x2 x5 x6 x7 (.int .i64 0) w
theorem value_one_s4_eq (R : Value → World → Prop) : ∀ e w, lift Tryz.prog 83 (sub (bodyOf Tryz.f129) [1, 1, 1, 1, 1, 1, 1, 0, 1, 0, 1, 0, 1, 0]) (seqK (fun e w => value_one_s1 R (e 0) (e 2) (e 5) (e 6) (e 7) w) (blockK 1 (seqK (fun e w => value_one_s0 R (e 0) (e 2) (e 5) (e 6) w) (finK Tryz.prog Tryz.f129.results.toList R)))) e w = value_one_s4 R (e 0) (e 2) (e 5) (e 6) (e 7) w :=
  segs_eq (l := [(sub (bodyOf Tryz.f129) [1, 1, 1, 1, 1, 1, 1, 0, 1, 0, 1, 0, 1, 0, 0])]) (y := (sub (bodyOf Tryz.f129) [1, 1, 1, 1, 1, 1, 1, 0, 1, 0, 1, 0, 1, 0, 1])) (Y := (fun e w => value_one_L3 R (e 0) (e 2) (e 5) (e 6) (e 7) (e 39) w)) (value_one_L3_eq R) (fun e w => by kernel_rfl)
def value_one_s5 (R : Value → World → Prop) (x0 x2 x5 x6 : Value) (w : World) : Prop :=
  value_one_s4 R x0 x2 x5 x6 (.int .u64 0) w
theorem value_one_s5_eq (R : Value → World → Prop) : ∀ e w, lift Tryz.prog 83 (sub (bodyOf Tryz.f129) [1, 1, 1, 1, 1, 1, 1, 0, 1, 0, 1, 0]) (blockK 1 (seqK (fun e w => value_one_s0 R (e 0) (e 2) (e 5) (e 6) w) (finK Tryz.prog Tryz.f129.results.toList R))) e w = value_one_s5 R (e 0) (e 2) (e 5) (e 6) w :=
  segs_eq (l := [(sub (bodyOf Tryz.f129) [1, 1, 1, 1, 1, 1, 1, 0, 1, 0, 1, 0, 0])]) (y := (sub (bodyOf Tryz.f129) [1, 1, 1, 1, 1, 1, 1, 0, 1, 0, 1, 0, 1])) (Y := (fun e w => value_one_s4 R (e 0) (e 2) (e 5) (e 6) (e 7) w)) (seq_seg (x := (sub (bodyOf Tryz.f129) [1, 1, 1, 1, 1, 1, 1, 0, 1, 0, 1, 0, 1, 0])) (y := (sub (bodyOf Tryz.f129) [1, 1, 1, 1, 1, 1, 1, 0, 1, 0, 1, 0, 1, 1])) (value_one_s1_eq R) (value_one_s4_eq R)) (fun e w => by kernel_rfl)
def value_one_s6 (R : Value → World → Prop) (x0 x2 x5 x6 x36 : Value) (w : World) : Prop :=
  qG Tryz.prog (bq .eql 3 (.tmp 36) (.const (.int .i64 2)) x36 (.int .i64 2)) w fun t55 =>
  bV t55
  (ixS x0 (.int .i64 0) fun t58 =>
  cvI .i64 t58 fun t59 =>
  qG Tryz.prog (bq .add 3 (.tmp 56) (.tmp 59) x6 t59) w fun t60 =>
  lenS x0 fun t62 =>
  qG Tryz.prog (bq .lss 3 (.tmp 62) (.tmp 63) t62 t60) w fun t64 =>
  bV t64
  (ldn 3 x5 w fun t65 =>
  stn 3 x2 t65 w fun w =>
  qG Tryz.prog (do loadVar 76 (← asAddr x2)) w fun r2 =>
  R (.tuple #[r2, (.string ⟨#[]⟩), (.bool false)]) w)
  (slS x0 (some (.int .i64 1)) (some t60) fun t68 =>
  fa 2 x5 fun t69 =>
  st1 t69 t68 w fun w =>
  value_one_s0 R x0 x2 x5 t60 w))
  (qG Tryz.prog (bq .eql 3 (.tmp 36) (.const (.int .i64 3)) x36 (.int .i64 3)) w fun t71 =>
  bV t71
  (ixS x0 (.int .i64 0) fun t73 =>
  cvI .i64 t73 fun t74 =>
  fa 1 x5 fun t75 =>
  st1 t75 t74 w fun w =>
  value_one_s0 R x0 x2 x5 x6 w)
  (value_one_s0 R x0 x2 x5 x6 w))
theorem value_one_s6_eq (R : Value → World → Prop) : ∀ e w, lift Tryz.prog 83 (sub (bodyOf Tryz.f129) [1, 1, 1, 1, 1, 1, 1, 0, 1, 0, 1, 1]) (blockK 1 (seqK (fun e w => value_one_s0 R (e 0) (e 2) (e 5) (e 6) w) (finK Tryz.prog Tryz.f129.results.toList R))) e w = value_one_s6 R (e 0) (e 2) (e 5) (e 6) (e 36) w := fun e w => by kernel_rfl
def value_one_s7 (R : Value → World → Prop) (x0 x2 x5 x6 x36 x37 : Value) (w : World) : Prop :=
  bV x37 (value_one_s5 R x0 x2 x5 x6 w) (value_one_s6 R x0 x2 x5 x6 x36 w)
theorem value_one_s7_eq (R : Value → World → Prop) : ∀ e w, lift Tryz.prog 83 (sub (bodyOf Tryz.f129) [1, 1, 1, 1, 1, 1, 1, 0, 1, 0, 1]) (blockK 1 (seqK (fun e w => value_one_s0 R (e 0) (e 2) (e 5) (e 6) w) (finK Tryz.prog Tryz.f129.results.toList R))) e w = value_one_s7 R (e 0) (e 2) (e 5) (e 6) (e 36) (e 37) w := fun e w => (cond_seg (x := (sub (bodyOf Tryz.f129) [1, 1, 1, 1, 1, 1, 1, 0, 1, 0, 1, 0])) (y := (sub (bodyOf Tryz.f129) [1, 1, 1, 1, 1, 1, 1, 0, 1, 0, 1, 1])) (value_one_s5_eq R) (value_one_s6_eq R) e w).trans (by kernel_rfl)
def value_one_s8 (R : Value → World → Prop) (x0 x2 x5 x6 x36 : Value) (w : World) : Prop :=
  qG Tryz.prog (bq .eql 3 (.tmp 36) (.const (.int .i64 1)) x36 (.int .i64 1)) w fun t38 =>
  value_one_s7 R x0 x2 x5 x6 x36 t38 w
theorem value_one_s8_eq (R : Value → World → Prop) : ∀ e w, lift Tryz.prog 83 (sub (bodyOf Tryz.f129) [1, 1, 1, 1, 1, 1, 1, 0, 1, 0]) (blockK 1 (seqK (fun e w => value_one_s0 R (e 0) (e 2) (e 5) (e 6) w) (finK Tryz.prog Tryz.f129.results.toList R))) e w = value_one_s8 R (e 0) (e 2) (e 5) (e 6) (e 36) w :=
  segs_eq (l := [(sub (bodyOf Tryz.f129) [1, 1, 1, 1, 1, 1, 1, 0, 1, 0, 0])]) (y := (sub (bodyOf Tryz.f129) [1, 1, 1, 1, 1, 1, 1, 0, 1, 0, 1])) (Y := (fun e w => value_one_s7 R (e 0) (e 2) (e 5) (e 6) (e 36) (e 37) w)) (value_one_s7_eq R) (fun e w => by kernel_rfl)
def value_one_s9 (R : Value → World → Prop) (x0 x2 x5 x6 : Value) (w : World) : Prop :=
  fa 0 x5 fun t35 =>
  ld1 t35 w fun t36 =>
  value_one_s8 R x0 x2 x5 x6 t36 w
theorem value_one_s9_eq (R : Value → World → Prop) : ∀ e w, lift Tryz.prog 83 (sub (bodyOf Tryz.f129) [1, 1, 1, 1, 1, 1, 1, 0]) (seqK (fun e w => value_one_s0 R (e 0) (e 2) (e 5) (e 6) w) (finK Tryz.prog Tryz.f129.results.toList R)) e w = value_one_s9 R (e 0) (e 2) (e 5) (e 6) w :=
  segs_eq (l := [(sub (bodyOf Tryz.f129) [1, 1, 1, 1, 1, 1, 1, 0, 0])]) (y := (sub (bodyOf Tryz.f129) [1, 1, 1, 1, 1, 1, 1, 0, 1])) (Y := (fun e w => value_one_s8 R (e 0) (e 2) (e 5) (e 6) (e 36) w)) (value_one_s8_eq R) (fun e w => by kernel_rfl)
def value_one_s10 (R : Value → World → Prop) (x0 x2 x5 x6 : Value) (w : World) : Prop :=
  lenS x0 fun t31 =>
  qG Tryz.prog (bq .lss 3 (.tmp 31) (.tmp 32) t31 x6) w fun t33 =>
  bV t33
  (ldn 3 x5 w fun t34 =>
  stn 3 x2 t34 w fun w =>
  qG Tryz.prog (do loadVar 76 (← asAddr x2)) w fun r2 =>
  R (.tuple #[r2, (.string ⟨#[]⟩), (.bool false)]) w)
  (value_one_s9 R x0 x2 x5 x6 w)
theorem value_one_s10_eq (R : Value → World → Prop) : ∀ e w, lift Tryz.prog 83 (sub (bodyOf Tryz.f129) [1, 1, 1, 1, 1, 1]) (finK Tryz.prog Tryz.f129.results.toList R) e w = value_one_s10 R (e 0) (e 2) (e 5) (e 6) w :=
  segs_eq (l := [(sub (bodyOf Tryz.f129) [1, 1, 1, 1, 1, 1, 0])]) (y := (sub (bodyOf Tryz.f129) [1, 1, 1, 1, 1, 1, 1])) (Y := (fun e w => value_one_s9 R (e 0) (e 2) (e 5) (e 6) w)) (seq_seg (x := (sub (bodyOf Tryz.f129) [1, 1, 1, 1, 1, 1, 1, 0])) (y := (sub (bodyOf Tryz.f129) [1, 1, 1, 1, 1, 1, 1, 1])) (value_one_s0_eq R) (value_one_s9_eq R)) (fun e w => by kernel_rfl)
def value_one_s11 (R : Value → World → Prop) (x0 : Value) (w : World) : Prop :=
  newG (zc Tryz.prog 76) 76 w fun t2 w =>
  qG Tryz.prog (bq .eql 9 (.tmp 9) (.const (.string ⟨#[]⟩)) x0 (.string ⟨#[]⟩)) w fun t10 =>
  bV t10
  (bld [(0, 1), (1, 1), (2, 1)] (zc Tryz.prog 76) #[] fun t11 =>
  stn 3 t2 t11 w fun w =>
  qG Tryz.prog (do loadVar 76 (← asAddr t2)) w fun r2 =>
  R (.tuple #[r2, (.string ⟨#[]⟩), (.bool false)]) w)
  (ixS x0 (.int .i64 0) fun t13 =>
  cvI .i64 t13 fun t14 =>
  bld [(0, 1), (1, 1), (2, 1)] (zc Tryz.prog 76) #[(0, t14)] fun t15 =>
  newG (zc Tryz.prog 76) 76 w fun t5 w =>
  stn 3 t5 t15 w fun w =>
  slS x0 (some (.int .i64 1)) none fun t17 =>
  fa 0 t5 fun t18 =>
  ld1 t18 w fun t19 =>
  qG Tryz.prog (bq .eql 3 (.tmp 19) (.const (.int .i64 0)) t19 (.int .i64 0)) w fun t22 =>
  bV t22
  (ldn 3 t5 w fun t23 =>
  stn 3 t2 t23 w fun w =>
  qG Tryz.prog (do loadVar 76 (← asAddr t2)) w fun r2_1 =>
  R (.tuple #[r2_1, t17, (.bool true)]) w)
  (qG Tryz.prog (bq .eql 3 (.tmp 19) (.const (.int .i64 1)) t19 (.int .i64 1)) w fun t26 =>
  bV t26
  (value_one_s10 R t17 t2 t5 (.int .i64 8) w)
  (qG Tryz.prog (bq .eql 3 (.tmp 19) (.const (.int .i64 2)) t19 (.int .i64 2)) w fun t28 =>
  bV t28
  (value_one_s10 R t17 t2 t5 (.int .i64 1) w)
  (qG Tryz.prog (bq .eql 3 (.tmp 19) (.const (.int .i64 3)) t19 (.int .i64 3)) w fun t29 =>
  bV t29
  (value_one_s10 R t17 t2 t5 (.int .i64 1) w)
  (ldn 3 t5 w fun t20 =>
  stn 3 t2 t20 w fun w =>
  qG Tryz.prog (do loadVar 76 (← asAddr t2)) w fun r2_2 =>
  R (.tuple #[r2_2, (.string ⟨#[]⟩), (.bool false)]) w)))))
theorem value_one_s11_eq (R : Value → World → Prop) : ∀ e w, lift Tryz.prog 83 (bodyOf Tryz.f129) (finK Tryz.prog Tryz.f129.results.toList R) e w = value_one_s11 R (e 0) w :=
  segs_eq (l := [(sub (bodyOf Tryz.f129) [0]), (sub (bodyOf Tryz.f129) [1, 0]), (sub (bodyOf Tryz.f129) [1, 1, 0]), (sub (bodyOf Tryz.f129) [1, 1, 1, 0]), (sub (bodyOf Tryz.f129) [1, 1, 1, 1, 0]), (sub (bodyOf Tryz.f129) [1, 1, 1, 1, 1, 0])]) (y := (sub (bodyOf Tryz.f129) [1, 1, 1, 1, 1, 1])) (Y := (fun e w => value_one_s10 R (e 0) (e 2) (e 5) (e 6) w)) (value_one_s10_eq R) (fun e w => by kernel_rfl)
def value_one (R : Value → World → Prop) (x0 : Value) (w : World) : Prop := value_one_s11 R x0 w
theorem value_one_call {R : Value → World → Prop} {x0 : Value} {w : World} (h : value_one R x0 w) : callG Tryz.prog 129 #[x0] w R :=
  calls_lift_eq Tryz.mixed Tryz.func129 (args := [x0]) rfl rfl rfl rfl ((value_one_s11_eq R) (envOf [x0]) w) (by kernel_rfl) h
def value_Take_s0 (R : Value → World → Prop) (x4 x5 : Value) (w : World) : Prop :=
  qG Tryz.prog (bq .neq 9 (.tmp 31) (.const (.string ⟨#[]⟩)) x5 (.string ⟨#[]⟩)) w fun t32 =>
  bV t32
  (R (.tuple #[(.slice none 0 0), (.int .i64 50)]) w)
  (R (.tuple #[x4, (.int .i64 0)]) w)
theorem value_Take_s0_eq (R : Value → World → Prop) : ∀ e w, lift Tryz.prog 34 (sub (bodyOf Tryz.f110) [1, 1, 1, 1, 1]) (finK Tryz.prog Tryz.f110.results.toList R) e w = value_Take_s0 R (e 4) (e 5) w := fun e w => by kernel_rfl
def value_Take_b1 (R : Value → World → Prop) (N1 : List Value → World → Prop) (x4 x5 x14 x15 : Value) (w : World) : Prop :=
  qG Tryz.prog (bq .lss 5 (.tmp 15) (.tmp 14) x15 x14) w fun t16 =>
  bV t16
  (callG Tryz.prog 129 #[x5] w fun t19 w =>
  qG Tryz.prog (Instr.extract t19 0) w fun t20 =>
  qG Tryz.prog (Instr.extract t19 1) w fun t21 =>
  qG Tryz.prog (Instr.extract t19 2) w fun t22 =>
  newG (zc Tryz.prog 76) 76 w fun t6 w =>
  stn 3 t6 t20 w fun w =>
  qG Tryz.prog (Op.unary .not t22) w fun t24 =>
  bV t24
  (R (.tuple #[(.slice none 0 0), (.int .i64 50)]) w)
  (ldn 3 t6 w fun t26 =>
  bsl 76 3 1 (zc Tryz.prog 76) #[(0, t26)] w fun t27 w =>
  app 76 3 32 (zc Tryz.prog 76) x4 t27 w fun t28 w =>
  qG Tryz.prog (bq .add 5 (.tmp 15) (.const (.int .u8 1)) x15 (.int .u8 1)) w fun t30 =>
  N1 [t28, t21, x14, t30] w))
  (value_Take_s0 R x4 x5 w)
theorem value_Take_b1_eq (R : Value → World → Prop) (N1 : List Value → World → Prop) : ∀ e w, lift Tryz.prog 34 (sub (bodyOf Tryz.f110) [1, 1, 1, 1, 0, 1, 0, 0]) (seqK (fun e w => N1 [e 4, e 5, e 14, e 15] w) (blockK 0 (seqK (fun e w => value_Take_s0 R (e 4) (e 5) w) (finK Tryz.prog Tryz.f110.results.toList R)))) e w = value_Take_b1 R N1 (e 4) (e 5) (e 14) (e 15) w := fun e w => by kernel_rfl
def value_Take_L2F (R : Value → World → Prop) (N1 : List Value → World → Prop) (xs : List Value) (w : World) : Prop :=
  match xs with
  | [x4, x5, x14, x15] => value_Take_b1 R N1 x4 x5 x14 x15 w
  | _ => False
def value_Take_L2 (R : Value → World → Prop) (x4 x5 x14 x15 : Value) (w : World) : Prop :=
  ∃ m, loopV (value_Take_L2F R) m [x4, x5, x14, x15] w
theorem value_Take_L2_eq (R : Value → World → Prop) : ∀ e w, lift Tryz.prog 34 (sub (bodyOf Tryz.f110) [1, 1, 1, 1, 0, 1, 0]) (blockK 0 (seqK (fun e w => value_Take_s0 R (e 4) (e 5) w) (finK Tryz.prog Tryz.f110.results.toList R))) e w = value_Take_L2 R (e 4) (e 5) (e 14) (e 15) w := loop_seg (F := value_Take_L2F R) (sel := fun e => [e 4, e 5, e 14, e 15]) fun N1 => (value_Take_b1_eq R N1)
def value_Take_s3 (R : Value → World → Prop) (x0 x4 x5 : Value) (w : World) : Prop :=
  ixS x0 (.int .i64 0) fun t14 =>
  value_Take_L2 R x4 x5 t14 (.int .u8 0) w
theorem value_Take_s3_eq (R : Value → World → Prop) : ∀ e w, lift Tryz.prog 34 (sub (bodyOf Tryz.f110) [1, 1, 1, 1, 0]) (seqK (fun e w => value_Take_s0 R (e 4) (e 5) w) (finK Tryz.prog Tryz.f110.results.toList R)) e w = value_Take_s3 R (e 0) (e 4) (e 5) w :=
  segs_eq (l := [(sub (bodyOf Tryz.f110) [1, 1, 1, 1, 0, 0])]) (y := (sub (bodyOf Tryz.f110) [1, 1, 1, 1, 0, 1])) (Y := (fun e w => value_Take_L2 R (e 4) (e 5) (e 14) (e 15) w)) (value_Take_L2_eq R) (fun e w => by kernel_rfl)
def value_Take_s4 (R : Value → World → Prop) (x0 : Value) (w : World) : Prop :=
  qG Tryz.prog (bq .eql 9 (.tmp 9) (.const (.string ⟨#[]⟩)) x0 (.string ⟨#[]⟩)) w fun t10 =>
  bV t10
  (R (.tuple #[(.slice none 0 0), (.int .i64 50)]) w)
  (slS x0 (some (.int .i64 1)) none fun t12 =>
  value_Take_s3 R x0 (.slice none 0 0) t12 w)
theorem value_Take_s4_eq (R : Value → World → Prop) : ∀ e w, lift Tryz.prog 34 (bodyOf Tryz.f110) (finK Tryz.prog Tryz.f110.results.toList R) e w = value_Take_s4 R (e 0) w :=
  segs_eq (l := [(sub (bodyOf Tryz.f110) [0]), (sub (bodyOf Tryz.f110) [1, 0]), (sub (bodyOf Tryz.f110) [1, 1, 0]), (sub (bodyOf Tryz.f110) [1, 1, 1, 0])]) (y := (sub (bodyOf Tryz.f110) [1, 1, 1, 1])) (Y := (fun e w => value_Take_s3 R (e 0) (e 4) (e 5) w)) (seq_seg (x := (sub (bodyOf Tryz.f110) [1, 1, 1, 1, 0])) (y := (sub (bodyOf Tryz.f110) [1, 1, 1, 1, 1])) (value_Take_s0_eq R) (value_Take_s3_eq R)) (fun e w => by kernel_rfl)
def value_Take (R : Value → World → Prop) (x0 : Value) (w : World) : Prop := value_Take_s4 R x0 w
theorem value_Take_call {R : Value → World → Prop} {x0 : Value} {w : World} (h : value_Take R x0 w) : callG Tryz.prog 110 #[x0] w R :=
  calls_lift_eq Tryz.mixed Tryz.func110 (args := [x0]) rfl rfl rfl rfl ((value_Take_s4_eq R) (envOf [x0]) w) (by kernel_rfl) h
end Go.Proofs

set_option linter.unusedVariables false
set_option linter.unusedSimpArgs false
namespace Go.Proofs
open Go Go.Q
set_option maxRecDepth 100000
def entry_name_s0 (R : Value → World → Prop) (x0 : Value) (w : World) : Prop :=
  lenS x0 fun t4 =>
  qG Tryz.prog (bq .geq 3 (.tmp 4) (.const (.int .i64 1)) t4 (.int .i64 1)) w fun t5 =>
  bV t5
  (lenS x0 fun t8 =>
  qG Tryz.prog (bq .leq 3 (.tmp 8) (.const (.int .i64 64)) t8 (.int .i64 64)) w fun t9 =>
  R t9 w)
  (R (.bool false) w)
theorem entry_name_s0_eq (R : Value → World → Prop) : ∀ e w, lift Tryz.prog 11 (bodyOf Tryz.f119) (finK Tryz.prog Tryz.f119.results.toList R) e w = entry_name_s0 R (e 0) w := fun e w => by kernel_rfl
def entry_name (R : Value → World → Prop) (x0 : Value) (w : World) : Prop := entry_name_s0 R x0 w
theorem entry_name_call {R : Value → World → Prop} {x0 : Value} {w : World} (h : entry_name R x0 w) : callG Tryz.prog 119 #[x0] w R :=
  calls_lift_eq Tryz.mixed Tryz.func119 (args := [x0]) rfl rfl rfl rfl ((entry_name_s0_eq R) (envOf [x0]) w) (by kernel_rfl) h
def entry_Check_s0 (R : Value → World → Prop) (x1 x3 x4 : Value) (w : World) : Prop :=
  fa 0 x1 fun t113 =>
  ld1 t113 w fun t114 =>
  fa 0 x3 fun t115 =>
  st1 t115 t114 w fun w =>
  qG Tryz.prog (Op.unary .not x4) w fun t117 =>
  bV t117
  (R (.int .i64 1) w)
  (ldn 7 x3 w fun t119 =>
  ldn 7 x1 w fun t120 =>
  qG Tryz.prog (bq .neq 42 (.tmp 119) (.tmp 120) t119 t120) w fun t121 =>
  bV t121
  (R (.int .i64 1) w)
  (R (.int .i64 0) w))
theorem entry_Check_s0_eq (R : Value → World → Prop) : ∀ e w, lift Tryz.prog 123 (sub (bodyOf Tryz.f93) [1, 1, 1, 1]) (finK Tryz.prog Tryz.f93.results.toList R) e w = entry_Check_s0 R (e 1) (e 3) (e 4) w := fun e w => by kernel_rfl
def entry_Check_s1 (R : Value → World → Prop) (x1 x3 x4 : Value) (w : World) : Prop :=
  fa 1 x1 fun t17 =>
  ld1 t17 w fun t18 =>
  fa 2 x1 fun t19 =>
  ld1 t19 w fun t20 =>
  fa 4 x1 fun t21 =>
  ld1 t21 w fun t22 =>
  bld [(0, 1), (1, 1), (2, 1), (3, 1), (4, 1), (5, 1), (6, 1)] (zc Tryz.prog 42) #[(1, t18), (2, t20), (4, t22)] fun t23 =>
  stn 7 x3 t23 w fun w =>
  bV x4
  (fa 4 x1 fun t26 =>
  ld1 t26 w fun t27 =>
  qG Tryz.prog (bq .geq 3 (.tmp 27) (.const (.int .i64 1)) t27 (.int .i64 1)) w fun t28 =>
  entry_Check_s0 R x1 x3 t28 w)
  (entry_Check_s0 R x1 x3 (.bool false) w)
theorem entry_Check_s1_eq (R : Value → World → Prop) : ∀ e w, lift Tryz.prog 123 (sub (bodyOf Tryz.f93) [1, 1, 1, 0, 1, 0, 1, 0]) (blockK 0 (seqK (fun e w => entry_Check_s0 R (e 1) (e 3) (e 4) w) (finK Tryz.prog Tryz.f93.results.toList R))) e w = entry_Check_s1 R (e 1) (e 3) (e 4) w := fun e w => by kernel_rfl
def entry_Check_s2 (R : Value → World → Prop) (x1 x3 x4 : Value) (w : World) : Prop :=
  fa 1 x1 fun t32 =>
  ld1 t32 w fun t33 =>
  fa 2 x1 fun t34 =>
  ld1 t34 w fun t35 =>
  fa 4 x1 fun t36 =>
  ld1 t36 w fun t37 =>
  fa 6 x1 fun t38 =>
  ld1 t38 w fun t39 =>
  bld [(0, 1), (1, 1), (2, 1), (3, 1), (4, 1), (5, 1), (6, 1)] (zc Tryz.prog 42) #[(1, t33), (2, t35), (4, t37), (6, t39)] fun t40 =>
  stn 7 x3 t40 w fun w =>
  bV x4
  (fa 4 x1 fun t43 =>
  ld1 t43 w fun t44 =>
  qG Tryz.prog (bq .geq 3 (.tmp 44) (.const (.int .i64 1)) t44 (.int .i64 1)) w fun t45 =>
  bV t45
  (fa 6 x1 fun t48 =>
  ld1 t48 w fun t49 =>
  qG Tryz.prog (bq .geq 3 (.tmp 49) (.const (.int .i64 0)) t49 (.int .i64 0)) w fun t50 =>
  entry_Check_s0 R x1 x3 t50 w)
  (entry_Check_s0 R x1 x3 (.bool false) w))
  (entry_Check_s0 R x1 x3 (.bool false) w)
theorem entry_Check_s2_eq (R : Value → World → Prop) : ∀ e w, lift Tryz.prog 123 (sub (bodyOf Tryz.f93) [1, 1, 1, 0, 1, 0, 1, 1, 1, 0]) (blockK 0 (seqK (fun e w => entry_Check_s0 R (e 1) (e 3) (e 4) w) (finK Tryz.prog Tryz.f93.results.toList R))) e w = entry_Check_s2 R (e 1) (e 3) (e 4) w := fun e w => by kernel_rfl
def entry_Check_s3 (R : Value → World → Prop) (x1 x3 x4 x14 x52 : Value) (w : World) : Prop :=
  bV x52
  (fa 5 x1 fun t55 =>
  ld1 t55 w fun t56 =>
  bld [(0, 1), (1, 1), (2, 1), (3, 1), (4, 1), (5, 1), (6, 1)] (zc Tryz.prog 42) #[(5, t56)] fun t57 =>
  stn 7 x3 t57 w fun w =>
  fa 5 x1 fun t58 =>
  ld1 t58 w fun t59 =>
  qG Tryz.prog (bq .geq 3 (.tmp 59) (.const (.int .i64 1)) t59 (.int .i64 1)) w fun t60 =>
  entry_Check_s0 R x1 x3 t60 w)
  (qG Tryz.prog (bq .eql 3 (.tmp 14) (.const (.int .i64 5)) x14 (.int .i64 5)) w fun t62 =>
  bV t62
  (fa 6 x1 fun t63 =>
  ld1 t63 w fun t64 =>
  bld [(0, 1), (1, 1), (2, 1), (3, 1), (4, 1), (5, 1), (6, 1)] (zc Tryz.prog 42) #[(6, t64)] fun t65 =>
  stn 7 x3 t65 w fun w =>
  fa 6 x1 fun t66 =>
  ld1 t66 w fun t67 =>
  qG Tryz.prog (bq .geq 3 (.tmp 67) (.const (.int .i64 0)) t67 (.int .i64 0)) w fun t68 =>
  entry_Check_s0 R x1 x3 t68 w)
  (qG Tryz.prog (bq .eql 3 (.tmp 14) (.const (.int .i64 6)) x14 (.int .i64 6)) w fun t70 =>
  bV t70
  (fa 1 x1 fun t71 =>
  ld1 t71 w fun t72 =>
  fa 2 x1 fun t73 =>
  ld1 t73 w fun t74 =>
  fa 3 x1 fun t75 =>
  ld1 t75 w fun t76 =>
  fa 4 x1 fun t77 =>
  ld1 t77 w fun t78 =>
  bld [(0, 1), (1, 1), (2, 1), (3, 1), (4, 1), (5, 1), (6, 1)] (zc Tryz.prog 42) #[(1, t72), (2, t74), (3, t76), (4, t78)] fun t79 =>
  stn 7 x3 t79 w fun w =>
  bV x4
  (fa 3 x1 fun t82 =>
  ld1 t82 w fun t83 =>
  callG Tryz.prog 119 #[t83] w fun t84 w =>
  bV t84
  (fa 3 x1 fun t87 =>
  ld1 t87 w fun t88 =>
  fa 2 x1 fun t89 =>
  ld1 t89 w fun t90 =>
  qG Tryz.prog (bq .neq 9 (.tmp 88) (.tmp 90) t88 t90) w fun t91 =>
  bV t91
  (fa 4 x1 fun t94 =>
  ld1 t94 w fun t95 =>
  qG Tryz.prog (bq .geq 3 (.tmp 95) (.const (.int .i64 1)) t95 (.int .i64 1)) w fun t96 =>
  entry_Check_s0 R x1 x3 t96 w)
  (entry_Check_s0 R x1 x3 (.bool false) w))
  (entry_Check_s0 R x1 x3 (.bool false) w))
  (entry_Check_s0 R x1 x3 (.bool false) w))
  (qG Tryz.prog (bq .eql 3 (.tmp 14) (.const (.int .i64 7)) x14 (.int .i64 7)) w fun t99 =>
  bV t99
  (fa 1 x1 fun t100 =>
  ld1 t100 w fun t101 =>
  fa 2 x1 fun t102 =>
  ld1 t102 w fun t103 =>
  fa 4 x1 fun t104 =>
  ld1 t104 w fun t105 =>
  bld [(0, 1), (1, 1), (2, 1), (3, 1), (4, 1), (5, 1), (6, 1)] (zc Tryz.prog 42) #[(1, t101), (2, t103), (4, t105)] fun t106 =>
  stn 7 x3 t106 w fun w =>
  bV x4
  (fa 4 x1 fun t109 =>
  ld1 t109 w fun t110 =>
  qG Tryz.prog (bq .neq 3 (.tmp 110) (.const (.int .i64 0)) t110 (.int .i64 0)) w fun t111 =>
  entry_Check_s0 R x1 x3 t111 w)
  (entry_Check_s0 R x1 x3 (.bool false) w))
  (entry_Check_s0 R x1 x3 (.bool false) w))))
theorem entry_Check_s3_eq (R : Value → World → Prop) : ∀ e w, lift Tryz.prog 123 (sub (bodyOf Tryz.f93) [1, 1, 1, 0, 1, 0, 1, 1, 1, 1, 1]) (blockK 0 (seqK (fun e w => entry_Check_s0 R (e 1) (e 3) (e 4) w) (finK Tryz.prog Tryz.f93.results.toList R))) e w = entry_Check_s3 R (e 1) (e 3) (e 4) (e 14) (e 52) w := fun e w => by kernel_rfl
def entry_Check_s4 (R : Value → World → Prop) (x1 x3 x4 x14 : Value) (w : World) : Prop :=
  qG Tryz.prog (bq .eql 3 (.tmp 14) (.const (.int .i64 3)) x14 (.int .i64 3)) w fun t53 =>
  bV t53
  (entry_Check_s3 R x1 x3 x4 x14 (.bool true) w)
  (qG Tryz.prog (bq .eql 3 (.tmp 14) (.const (.int .i64 4)) x14 (.int .i64 4)) w fun t54 =>
  entry_Check_s3 R x1 x3 x4 x14 t54 w)
theorem entry_Check_s4_eq (R : Value → World → Prop) : ∀ e w, lift Tryz.prog 123 (sub (bodyOf Tryz.f93) [1, 1, 1, 0, 1, 0, 1, 1, 1, 1]) (blockK 0 (seqK (fun e w => entry_Check_s0 R (e 1) (e 3) (e 4) w) (finK Tryz.prog Tryz.f93.results.toList R))) e w = entry_Check_s4 R (e 1) (e 3) (e 4) (e 14) w :=
  segs_eq (l := [(sub (bodyOf Tryz.f93) [1, 1, 1, 0, 1, 0, 1, 1, 1, 1, 0])]) (y := (sub (bodyOf Tryz.f93) [1, 1, 1, 0, 1, 0, 1, 1, 1, 1, 1])) (Y := (fun e w => entry_Check_s3 R (e 1) (e 3) (e 4) (e 14) (e 52) w)) (entry_Check_s3_eq R) (fun e w => by kernel_rfl)
def entry_Check_s5 (R : Value → World → Prop) (x1 x3 x4 x14 x30 : Value) (w : World) : Prop :=
  bV x30 (entry_Check_s2 R x1 x3 x4 w) (entry_Check_s4 R x1 x3 x4 x14 w)
theorem entry_Check_s5_eq (R : Value → World → Prop) : ∀ e w, lift Tryz.prog 123 (sub (bodyOf Tryz.f93) [1, 1, 1, 0, 1, 0, 1, 1, 1]) (blockK 0 (seqK (fun e w => entry_Check_s0 R (e 1) (e 3) (e 4) w) (finK Tryz.prog Tryz.f93.results.toList R))) e w = entry_Check_s5 R (e 1) (e 3) (e 4) (e 14) (e 30) w := fun e w => (cond_seg (x := (sub (bodyOf Tryz.f93) [1, 1, 1, 0, 1, 0, 1, 1, 1, 0])) (y := (sub (bodyOf Tryz.f93) [1, 1, 1, 0, 1, 0, 1, 1, 1, 1])) (entry_Check_s2_eq R) (entry_Check_s4_eq R) e w).trans (by kernel_rfl)
def entry_Check_s6 (R : Value → World → Prop) (x1 x3 x4 x14 : Value) (w : World) : Prop :=
  qG Tryz.prog (bq .eql 3 (.tmp 14) (.const (.int .i64 2)) x14 (.int .i64 2)) w fun t31 =>
  entry_Check_s5 R x1 x3 x4 x14 t31 w
theorem entry_Check_s6_eq (R : Value → World → Prop) : ∀ e w, lift Tryz.prog 123 (sub (bodyOf Tryz.f93) [1, 1, 1, 0, 1, 0, 1, 1]) (blockK 0 (seqK (fun e w => entry_Check_s0 R (e 1) (e 3) (e 4) w) (finK Tryz.prog Tryz.f93.results.toList R))) e w = entry_Check_s6 R (e 1) (e 3) (e 4) (e 14) w :=
  segs_eq (l := [(sub (bodyOf Tryz.f93) [1, 1, 1, 0, 1, 0, 1, 1, 0])]) (y := (sub (bodyOf Tryz.f93) [1, 1, 1, 0, 1, 0, 1, 1, 1])) (Y := (fun e w => entry_Check_s5 R (e 1) (e 3) (e 4) (e 14) (e 30) w)) (entry_Check_s5_eq R) (fun e w => by kernel_rfl)
def entry_Check_s7 (R : Value → World → Prop) (x1 x3 x4 x14 x15 : Value) (w : World) : Prop :=
  bV x15 (entry_Check_s1 R x1 x3 x4 w) (entry_Check_s6 R x1 x3 x4 x14 w)
theorem entry_Check_s7_eq (R : Value → World → Prop) : ∀ e w, lift Tryz.prog 123 (sub (bodyOf Tryz.f93) [1, 1, 1, 0, 1, 0, 1]) (blockK 0 (seqK (fun e w => entry_Check_s0 R (e 1) (e 3) (e 4) w) (finK Tryz.prog Tryz.f93.results.toList R))) e w = entry_Check_s7 R (e 1) (e 3) (e 4) (e 14) (e 15) w := fun e w => (cond_seg (x := (sub (bodyOf Tryz.f93) [1, 1, 1, 0, 1, 0, 1, 0])) (y := (sub (bodyOf Tryz.f93) [1, 1, 1, 0, 1, 0, 1, 1])) (entry_Check_s1_eq R) (entry_Check_s6_eq R) e w).trans (by kernel_rfl)
def entry_Check_s8 (R : Value → World → Prop) (x1 x3 x4 x14 : Value) (w : World) : Prop :=
  qG Tryz.prog (bq .eql 3 (.tmp 14) (.const (.int .i64 1)) x14 (.int .i64 1)) w fun t16 =>
  entry_Check_s7 R x1 x3 x4 x14 t16 w
theorem entry_Check_s8_eq (R : Value → World → Prop) : ∀ e w, lift Tryz.prog 123 (sub (bodyOf Tryz.f93) [1, 1, 1, 0, 1, 0]) (blockK 0 (seqK (fun e w => entry_Check_s0 R (e 1) (e 3) (e 4) w) (finK Tryz.prog Tryz.f93.results.toList R))) e w = entry_Check_s8 R (e 1) (e 3) (e 4) (e 14) w :=
  segs_eq (l := [(sub (bodyOf Tryz.f93) [1, 1, 1, 0, 1, 0, 0])]) (y := (sub (bodyOf Tryz.f93) [1, 1, 1, 0, 1, 0, 1])) (Y := (fun e w => entry_Check_s7 R (e 1) (e 3) (e 4) (e 14) (e 15) w)) (entry_Check_s7_eq R) (fun e w => by kernel_rfl)
def entry_Check_s9 (R : Value → World → Prop) (x1 x3 x4 : Value) (w : World) : Prop :=
  fa 0 x1 fun t13 =>
  ld1 t13 w fun t14 =>
  entry_Check_s8 R x1 x3 x4 t14 w
theorem entry_Check_s9_eq (R : Value → World → Prop) : ∀ e w, lift Tryz.prog 123 (sub (bodyOf Tryz.f93) [1, 1, 1, 0]) (seqK (fun e w => entry_Check_s0 R (e 1) (e 3) (e 4) w) (finK Tryz.prog Tryz.f93.results.toList R)) e w = entry_Check_s9 R (e 1) (e 3) (e 4) w :=
  segs_eq (l := [(sub (bodyOf Tryz.f93) [1, 1, 1, 0, 0])]) (y := (sub (bodyOf Tryz.f93) [1, 1, 1, 0, 1])) (Y := (fun e w => entry_Check_s8 R (e 1) (e 3) (e 4) (e 14) w)) (entry_Check_s8_eq R) (fun e w => by kernel_rfl)
def entry_Check_s10 (R : Value → World → Prop) (x0 : Value) (w : World) : Prop :=
  newG (Value.cells x0) 42 w fun t1 w =>
  newG (zc Tryz.prog 42) 42 w fun t3 w =>
  fa 1 t1 fun t5 =>
  ld1 t5 w fun t6 =>
  callG Tryz.prog 119 #[t6] w fun t7 w =>
  bV t7
  (fa 2 t1 fun t9 =>
  ld1 t9 w fun t10 =>
  callG Tryz.prog 119 #[t10] w fun t11 w =>
  entry_Check_s9 R t1 t3 t11 w)
  (entry_Check_s9 R t1 t3 (.bool false) w)
theorem entry_Check_s10_eq (R : Value → World → Prop) : ∀ e w, lift Tryz.prog 123 (bodyOf Tryz.f93) (finK Tryz.prog Tryz.f93.results.toList R) e w = entry_Check_s10 R (e 0) w :=
  segs_eq (l := [(sub (bodyOf Tryz.f93) [0]), (sub (bodyOf Tryz.f93) [1, 0]), (sub (bodyOf Tryz.f93) [1, 1, 0])]) (y := (sub (bodyOf Tryz.f93) [1, 1, 1])) (Y := (fun e w => entry_Check_s9 R (e 1) (e 3) (e 4) w)) (seq_seg (x := (sub (bodyOf Tryz.f93) [1, 1, 1, 0])) (y := (sub (bodyOf Tryz.f93) [1, 1, 1, 1])) (entry_Check_s0_eq R) (entry_Check_s9_eq R)) (fun e w => by kernel_rfl)
def entry_Check (R : Value → World → Prop) (x0 : Value) (w : World) : Prop := entry_Check_s10 R x0 w
theorem entry_Check_call {R : Value → World → Prop} {x0 : Value} {w : World} (h : entry_Check R x0 w) : callG Tryz.prog 93 #[x0] w R :=
  calls_lift_eq Tryz.mixed Tryz.func93 (args := [x0]) rfl rfl rfl rfl ((entry_Check_s10_eq R) (envOf [x0]) w) (by kernel_rfl) h
def entry_num_s0 (R : Value → World → Prop) (x0 : Value) (w : World) : Prop :=
  newG (zc Tryz.prog 76) 76 w fun t2 w =>
  bld [(0, 1), (1, 1), (2, 1)] (zc Tryz.prog 76) #[(0, (.int .i64 1)), (1, x0)] fun t4 =>
  stn 3 t2 t4 w fun w =>
  qG Tryz.prog (do loadVar 76 (← asAddr t2)) w fun r2 =>
  R r2 w
theorem entry_num_s0_eq (R : Value → World → Prop) : ∀ e w, lift Tryz.prog 5 (bodyOf Tryz.f64) (finK Tryz.prog Tryz.f64.results.toList R) e w = entry_num_s0 R (e 0) w := fun e w => by kernel_rfl
def entry_num (R : Value → World → Prop) (x0 : Value) (w : World) : Prop := entry_num_s0 R x0 w
theorem entry_num_call {R : Value → World → Prop} {x0 : Value} {w : World} (h : entry_num R x0 w) : callG Tryz.prog 64 #[x0] w R :=
  calls_lift_eq Tryz.mixed Tryz.func64 (args := [x0]) rfl rfl rfl rfl ((entry_num_s0_eq R) (envOf [x0]) w) (by kernel_rfl) h
def entry_text_s0 (R : Value → World → Prop) (x0 : Value) (w : World) : Prop :=
  newG (zc Tryz.prog 76) 76 w fun t2 w =>
  bld [(0, 1), (1, 1), (2, 1)] (zc Tryz.prog 76) #[(0, (.int .i64 2)), (2, x0)] fun t4 =>
  stn 3 t2 t4 w fun w =>
  qG Tryz.prog (do loadVar 76 (← asAddr t2)) w fun r2 =>
  R r2 w
theorem entry_text_s0_eq (R : Value → World → Prop) : ∀ e w, lift Tryz.prog 5 (bodyOf Tryz.f63) (finK Tryz.prog Tryz.f63.results.toList R) e w = entry_text_s0 R (e 0) w := fun e w => by kernel_rfl
def entry_text (R : Value → World → Prop) (x0 : Value) (w : World) : Prop := entry_text_s0 R x0 w
theorem entry_text_call {R : Value → World → Prop} {x0 : Value} {w : World} (h : entry_text R x0 w) : callG Tryz.prog 63 #[x0] w R :=
  calls_lift_eq Tryz.mixed Tryz.func63 (args := [x0]) rfl rfl rfl rfl ((entry_text_s0_eq R) (envOf [x0]) w) (by kernel_rfl) h
def entry_some_s0 (R : Value → World → Prop) (x0 : Value) (w : World) : Prop :=
  newG (zc Tryz.prog 76) 76 w fun t2 w =>
  qG Tryz.prog (bq .eql 3 (.tmp 3) (.const (.int .i64 0)) x0 (.int .i64 0)) w fun t4 =>
  bV t4
  (bld [(0, 1), (1, 1), (2, 1)] (zc Tryz.prog 76) #[] fun t5 =>
  stn 3 t2 t5 w fun w =>
  qG Tryz.prog (do loadVar 76 (← asAddr t2)) w fun r2 =>
  R r2 w)
  (callG Tryz.prog 64 #[x0] w fun t7 w =>
  stn 3 t2 t7 w fun w =>
  qG Tryz.prog (do loadVar 76 (← asAddr t2)) w fun r2_1 =>
  R r2_1 w)
theorem entry_some_s0_eq (R : Value → World → Prop) : ∀ e w, lift Tryz.prog 8 (bodyOf Tryz.f66) (finK Tryz.prog Tryz.f66.results.toList R) e w = entry_some_s0 R (e 0) w := fun e w => by kernel_rfl
def entry_some (R : Value → World → Prop) (x0 : Value) (w : World) : Prop := entry_some_s0 R x0 w
theorem entry_some_call {R : Value → World → Prop} {x0 : Value} {w : World} (h : entry_some R x0 w) : callG Tryz.prog 66 #[x0] w R :=
  calls_lift_eq Tryz.mixed Tryz.func66 (args := [x0]) rfl rfl rfl rfl ((entry_some_s0_eq R) (envOf [x0]) w) (by kernel_rfl) h
def entry_row_s0 (R : Value → World → Prop) (x0 : Value) (w : World) : Prop :=
  R x0 w
theorem entry_row_s0_eq (R : Value → World → Prop) : ∀ e w, lift Tryz.prog 4 (bodyOf Tryz.f62) (finK Tryz.prog Tryz.f62.results.toList R) e w = entry_row_s0 R (e 0) w := fun e w => by kernel_rfl
def entry_row (R : Value → World → Prop) (x0 : Value) (w : World) : Prop := entry_row_s0 R x0 w
theorem entry_row_call {R : Value → World → Prop} {x0 : Value} {w : World} (h : entry_row R x0 w) : callG Tryz.prog 62 #[x0] w R :=
  calls_lift_eq Tryz.mixed Tryz.func62 (args := [x0]) rfl rfl rfl rfl ((entry_row_s0_eq R) (envOf [x0]) w) (by kernel_rfl) h
def entry_is_s0 (R : Value → World → Prop) (w : World) : Prop :=
  R (.bool true) w
theorem entry_is_s0_eq (R : Value → World → Prop) : ∀ e w, lift Tryz.prog 52 (sub (bodyOf Tryz.f116) [1, 1, 1]) (finK Tryz.prog Tryz.f116.results.toList R) e w = entry_is_s0 R w := fun e w => by kernel_rfl
def entry_is_s1 (R : Value → World → Prop) (N1 : List Value → World → Prop) (x1 x13 x14 x15 : Value) (w : World) : Prop :=
  qG Tryz.prog (bq .add 3 (.tmp 15) (.const (.int .i64 1)) x15 (.int .i64 1)) w fun t51 =>
  N1 [x1, x13, x14, t51] w
theorem entry_is_s1_eq (R : Value → World → Prop) (N1 : List Value → World → Prop) : ∀ e w, lift Tryz.prog 52 (sub (bodyOf Tryz.f116) [1, 1, 0, 1, 0, 0, 1, 1, 1]) (seqK (fun e w => N1 [e 1, e 13, e 14, e 15] w) (blockK 0 (seqK (fun e w => entry_is_s0 R  w) (finK Tryz.prog Tryz.f116.results.toList R)))) e w = entry_is_s1 R N1 (e 1) (e 13) (e 14) (e 15) w := fun e w => by kernel_rfl
def entry_is_s2 (R : Value → World → Prop) (N1 : List Value → World → Prop) (x1 x5 x6 x7 x13 x14 x15 : Value) (w : World) : Prop :=
  fa 0 x6 fun t35 =>
  ld1 t35 (World.drew w) fun t36 =>
  ia 1 x1 x5 fun t39 =>
  ld1 t39 (World.drew w) fun t40 =>
  qG Tryz.prog (bq .neq 3 (.tmp 36) (.tmp 40) t36 t40) (World.drew w) fun t41 =>
  bV t41
  (qG Tryz.prog (Op.unary .not x7) (World.drew w) fun t44 =>
  bV t44
  (R (.bool false) (World.drew w))
  (ldn 3 x6 (World.drew w) fun t47 =>
  callG Tryz.prog 58 #[t47] (World.drew w) fun t48 w =>
  qG Tryz.prog (bq .neq 30 (.tmp 48) (.const (.int .i64 0)) t48 (.int .i64 0)) w fun t49 =>
  bV t49
  (R (.bool false) w)
  (entry_is_s1 R N1 x1 x13 x14 x15 w)))
  (ldn 3 x6 (World.drew w) fun t47_1 =>
  callG Tryz.prog 58 #[t47_1] (World.drew w) fun t48_1 w =>
  qG Tryz.prog (bq .neq 30 (.tmp 48) (.const (.int .i64 0)) t48_1 (.int .i64 0)) w fun t49_1 =>
  bV t49_1
  (R (.bool false) w)
  (entry_is_s1 R N1 x1 x13 x14 x15 w))
theorem entry_is_s2_eq (R : Value → World → Prop) (N1 : List Value → World → Prop) : ∀ e w, lift Tryz.prog 52 (sub (bodyOf Tryz.f116) [1, 1, 0, 1, 0, 0, 1, 1, 0, 0, 1, 1]) (blockK 1 (seqK (fun e w => entry_is_s1 R N1 (e 1) (e 13) (e 14) (e 15) w) (seqK (fun e w => N1 [e 1, e 13, e 14, e 15] w) (blockK 0 (seqK (fun e w => entry_is_s0 R  w) (finK Tryz.prog Tryz.f116.results.toList R)))))) e w = entry_is_s2 R N1 (e 1) (e 5) (e 6) (e 7) (e 13) (e 14) (e 15) w := fun e w => by kernel_rfl
def entry_is_s3 (R : Value → World → Prop) (N1 : List Value → World → Prop) (x1 x13 x14 x15 : Value) (w : World) : Prop :=
  ia 3 x13 x15 fun t18 =>
  ldn 3 t18 w fun t19 =>
  newG (zc Tryz.prog 76) 76 w fun t6 w =>
  stn 3 t6 t19 w fun w =>
  ia 1 x1 x15 fun t22 =>
  ld1 t22 w fun t23 =>
  qG Tryz.prog (bq .eql 3 (.tmp 23) (.const (.int .i64 0)) t23 (.int .i64 0)) w fun t24 =>
  bV t24
  (fa 0 t6 fun t26 =>
  ld1 t26 w fun t27 =>
  qG Tryz.prog (bq .eql 3 (.tmp 27) (.const (.int .i64 1)) t27 (.int .i64 1)) w fun t28 =>
  bV t28
  (fa 1 t6 fun t31 =>
  ld1 t31 w fun t32 =>
  qG Tryz.prog (bq .neq 3 (.tmp 32) (.const (.int .i64 0)) t32 (.int .i64 0)) w fun t33 =>
  entry_is_s2 R N1 x1 x15 t6 t33 x13 x14 x15 w)
  (entry_is_s2 R N1 x1 x15 t6 (.bool false) x13 x14 x15 w))
  (entry_is_s2 R N1 x1 x15 t6 (.bool false) x13 x14 x15 w)
theorem entry_is_s3_eq (R : Value → World → Prop) (N1 : List Value → World → Prop) : ∀ e w, lift Tryz.prog 52 (sub (bodyOf Tryz.f116) [1, 1, 0, 1, 0, 0, 1, 1, 0, 0]) (blockK 1 (seqK (fun e w => entry_is_s1 R N1 (e 1) (e 13) (e 14) (e 15) w) (seqK (fun e w => N1 [e 1, e 13, e 14, e 15] w) (blockK 0 (seqK (fun e w => entry_is_s0 R  w) (finK Tryz.prog Tryz.f116.results.toList R)))))) e w = entry_is_s3 R N1 (e 1) (e 13) (e 14) (e 15) w :=
  segs_eq (l := [(sub (bodyOf Tryz.f116) [1, 1, 0, 1, 0, 0, 1, 1, 0, 0, 0]), (sub (bodyOf Tryz.f116) [1, 1, 0, 1, 0, 0, 1, 1, 0, 0, 1, 0])]) (y := (sub (bodyOf Tryz.f116) [1, 1, 0, 1, 0, 0, 1, 1, 0, 0, 1, 1])) (Y := (fun e w => entry_is_s2 R N1 (e 1) (e 5) (e 6) (e 7) (e 13) (e 14) (e 15) w)) (entry_is_s2_eq R N1) (fun e w => by kernel_rfl)
def entry_is_s4 (R : Value → World → Prop) (N1 : List Value → World → Prop) (x1 x13 x14 x15 : Value) (w : World) : Prop :=
  qG Tryz.prog (bq .lss 3 (.tmp 15) (.tmp 14) x15 x14) w fun t16 =>
  bV t16
  (entry_is_s3 R N1 x1 x13 x14 x15 w)
  (entry_is_s0 R  w)
theorem entry_is_s4_eq (R : Value → World → Prop) (N1 : List Value → World → Prop) : ∀ e w, lift Tryz.prog 52 (sub (bodyOf Tryz.f116) [1, 1, 0, 1, 0, 0]) (seqK (fun e w => N1 [e 1, e 13, e 14, e 15] w) (blockK 0 (seqK (fun e w => entry_is_s0 R  w) (finK Tryz.prog Tryz.f116.results.toList R)))) e w = entry_is_s4 R N1 (e 1) (e 13) (e 14) (e 15) w :=
  segs_eq (l := [(sub (bodyOf Tryz.f116) [1, 1, 0, 1, 0, 0, 0]), (sub (bodyOf Tryz.f116) [1, 1, 0, 1, 0, 0, 1, 0])]) (y := (sub (bodyOf Tryz.f116) [1, 1, 0, 1, 0, 0, 1, 1])) (Y := (fun e w => entry_is_s3 R N1 (e 1) (e 13) (e 14) (e 15) w)) (seq_seg (x := (sub (bodyOf Tryz.f116) [1, 1, 0, 1, 0, 0, 1, 1, 0])) (y := (sub (bodyOf Tryz.f116) [1, 1, 0, 1, 0, 0, 1, 1, 1])) (entry_is_s1_eq R N1) (entry_is_s3_eq R N1)) (fun e w => by kernel_rfl)
def entry_is_L5F (R : Value → World → Prop) (N1 : List Value → World → Prop) (xs : List Value) (w : World) : Prop :=
  match xs with
  | [x1, x13, x14, x15] => entry_is_s4 R N1 x1 x13 x14 x15 w
  | _ => False
def entry_is_L5 (R : Value → World → Prop) (x1 x13 x14 x15 : Value) (w : World) : Prop :=
  ∃ m, loopV (entry_is_L5F R) m [x1, x13, x14, x15] w
theorem entry_is_L5_eq (R : Value → World → Prop) : ∀ e w, lift Tryz.prog 52 (sub (bodyOf Tryz.f116) [1, 1, 0, 1, 0]) (blockK 0 (seqK (fun e w => entry_is_s0 R  w) (finK Tryz.prog Tryz.f116.results.toList R))) e w = entry_is_L5 R (e 1) (e 13) (e 14) (e 15) w := loop_seg (F := entry_is_L5F R) (sel := fun e => [e 1, e 13, e 14, e 15]) fun N1 => (entry_is_s4_eq R N1)
def entry_is_s6 (R : Value → World → Prop) (x0 x1 : Value) (w : World) : Prop :=
  lenL x0 fun t14 =>
  entry_is_L5 R x1 x0 t14 (.int .i64 0) w
theorem entry_is_s6_eq (R : Value → World → Prop) : ∀ e w, lift Tryz.prog 52 (sub (bodyOf Tryz.f116) [1, 1, 0]) (seqK (fun e w => entry_is_s0 R  w) (finK Tryz.prog Tryz.f116.results.toList R)) e w = entry_is_s6 R (e 0) (e 1) w :=
  segs_eq (l := [(sub (bodyOf Tryz.f116) [1, 1, 0, 0])]) (y := (sub (bodyOf Tryz.f116) [1, 1, 0, 1])) (Y := (fun e w => entry_is_L5 R (e 1) (e 13) (e 14) (e 15) w)) (entry_is_L5_eq R) (fun e w => by kernel_rfl)
def entry_is_s7 (R : Value → World → Prop) (x0 x1 : Value) (w : World) : Prop :=
  lenL x0 fun t9 =>
  lenL x1 fun t11 =>
  qG Tryz.prog (bq .neq 3 (.tmp 9) (.tmp 11) t9 t11) w fun t12 =>
  bV t12
  (R (.bool false) w)
  (entry_is_s6 R x0 x1 w)
theorem entry_is_s7_eq (R : Value → World → Prop) : ∀ e w, lift Tryz.prog 52 (bodyOf Tryz.f116) (finK Tryz.prog Tryz.f116.results.toList R) e w = entry_is_s7 R (e 0) (e 1) w :=
  segs_eq (l := [(sub (bodyOf Tryz.f116) [0]), (sub (bodyOf Tryz.f116) [1, 0])]) (y := (sub (bodyOf Tryz.f116) [1, 1])) (Y := (fun e w => entry_is_s6 R (e 0) (e 1) w)) (seq_seg (x := (sub (bodyOf Tryz.f116) [1, 1, 0])) (y := (sub (bodyOf Tryz.f116) [1, 1, 1])) (entry_is_s0_eq R) (entry_is_s6_eq R)) (fun e w => by kernel_rfl)
def entry_is (R : Value → World → Prop) (x0 x1 : Value) (w : World) : Prop := entry_is_s7 R x0 x1 w
theorem entry_is_call {R : Value → World → Prop} {x0 x1 : Value} {w : World} (h : entry_is R x0 x1 w) : callG Tryz.prog 116 #[x0, x1] w R :=
  calls_lift_eq Tryz.mixed Tryz.func116 (args := [x0, x1]) rfl rfl rfl rfl ((entry_is_s7_eq R) (envOf [x0, x1]) w) (by kernel_rfl) h
def entry_Put_s0 (R : Value → World → Prop) (x0 : Value) (w : World) : Prop :=
  newG (Value.cells x0) 42 w fun t1 w =>
  ldn 7 t1 w fun t5 =>
  callG Tryz.prog 93 #[t5] w fun t6 w =>
  qG Tryz.prog (bq .neq 30 (.tmp 7) (.const (.int .i64 0)) t6 (.int .i64 0)) w fun t8 =>
  bV t8
  (R (.tuple #[(.string ⟨#[]⟩), t6]) w)
  (fa 0 t1 fun t10 =>
  ld1 t10 (World.drew w) fun t11 =>
  fa 1 t1 fun t13 =>
  ld1 t13 (World.drew w) fun t14 =>
  fa 2 t1 fun t16 =>
  ld1 t16 (World.drew w) fun t17 =>
  fa 3 t1 fun t19 =>
  ld1 t19 (World.drew w) fun t20 =>
  fa 4 t1 fun t22 =>
  ld1 t22 (World.drew w) fun t23 =>
  fa 5 t1 fun t25 =>
  ld1 t25 (World.drew w) fun t26 =>
  fa 6 t1 fun t28 =>
  ld1 t28 (World.drew w) fun t29 =>
  callG Tryz.prog 64 #[t11] (World.drew w) fun t12 w =>
  ld1 t28 w (fun u => u = t29) ∧
  ld1 t25 w (fun u => u = t26) ∧
  ld1 t22 w (fun u => u = t23) ∧
  ld1 t19 w (fun u => u = t20) ∧
  ld1 t16 w (fun u => u = t17) ∧
  ld1 t13 w (fun u => u = t14) ∧
  callG Tryz.prog 63 #[t14] w fun t15 w =>
  ld1 t28 w (fun u => u = t29) ∧
  ld1 t25 w (fun u => u = t26) ∧
  ld1 t22 w (fun u => u = t23) ∧
  ld1 t19 w (fun u => u = t20) ∧
  ld1 t16 w (fun u => u = t17) ∧
  callG Tryz.prog 63 #[t17] w fun t18 w =>
  ld1 t28 w (fun u => u = t29) ∧
  ld1 t25 w (fun u => u = t26) ∧
  ld1 t22 w (fun u => u = t23) ∧
  ld1 t19 w (fun u => u = t20) ∧
  callG Tryz.prog 63 #[t20] w fun t21 w =>
  ld1 t28 w (fun u => u = t29) ∧
  ld1 t25 w (fun u => u = t26) ∧
  ld1 t22 w (fun u => u = t23) ∧
  callG Tryz.prog 64 #[t23] w fun t24 w =>
  ld1 t28 w (fun u => u = t29) ∧
  ld1 t25 w (fun u => u = t26) ∧
  callG Tryz.prog 64 #[t26] w fun t27 w =>
  ld1 t28 w (fun u => u = t29) ∧
  callG Tryz.prog 64 #[t29] w fun t30 w =>
  bsl 76 3 7 (zc Tryz.prog 76) #[(0, t12), (1, t15), (2, t18), (3, t21), (4, t24), (5, t27), (6, t30)] w fun t31 w =>
  callG Tryz.prog 62 #[t31] w fun t32 w =>
  callG Tryz.prog 24 #[t32] w fun t33 w =>
  qG Tryz.prog (Instr.extract t33 0) w fun t34 =>
  qG Tryz.prog (Instr.extract t33 1) w fun t35 =>
  R (.tuple #[t34, t35]) w)
theorem entry_Put_s0_eq (R : Value → World → Prop) : ∀ e w, lift Tryz.prog 36 (bodyOf Tryz.f43) (finK Tryz.prog Tryz.f43.results.toList R) e w = entry_Put_s0 R (e 0) w := fun e w => by kernel_rfl
def entry_Put (R : Value → World → Prop) (x0 : Value) (w : World) : Prop := entry_Put_s0 R x0 w
theorem entry_Put_call {R : Value → World → Prop} {x0 : Value} {w : World} (h : entry_Put R x0 w) : callG Tryz.prog 43 #[x0] w R :=
  calls_lift_eq Tryz.mixed Tryz.func43 (args := [x0]) rfl rfl rfl rfl ((entry_Put_s0_eq R) (envOf [x0]) w) (by kernel_rfl) h
def entry_Take_s0 (R : Value → World → Prop) (x2 x4 : Value) (w : World) : Prop :=
  ia 3 x4 (.int .i64 0) fun t22 =>
  fa 1 t22 fun t23 =>
  ld1 t23 (World.drew w) fun t24 =>
  ia 3 x4 (.int .i64 1) fun t26 =>
  fa 2 t26 fun t27 =>
  ld1 t27 (World.drew w) fun t28 =>
  ia 3 x4 (.int .i64 2) fun t30 =>
  fa 2 t30 fun t31 =>
  ld1 t31 (World.drew w) fun t32 =>
  ia 3 x4 (.int .i64 3) fun t34 =>
  fa 2 t34 fun t35 =>
  ld1 t35 (World.drew w) fun t36 =>
  ia 3 x4 (.int .i64 4) fun t38 =>
  fa 1 t38 fun t39 =>
  ld1 t39 (World.drew w) fun t40 =>
  ia 3 x4 (.int .i64 5) fun t42 =>
  fa 1 t42 fun t43 =>
  ld1 t43 (World.drew w) fun t44 =>
  ia 3 x4 (.int .i64 6) fun t46 =>
  fa 1 t46 fun t47 =>
  ld1 t47 (World.drew w) fun t48 =>
  bld [(0, 1), (1, 1), (2, 1), (3, 1), (4, 1), (5, 1), (6, 1)] (zc Tryz.prog 42) #[(0, t24), (1, t28), (2, t32), (3, t36), (4, t40), (5, t44), (6, t48)] fun t49 =>
  newG (zc Tryz.prog 42) 42 (World.drew w) fun t6 w =>
  ld1 t47 w (fun u => u = t48) ∧
  ld1 t43 w (fun u => u = t44) ∧
  ld1 t39 w (fun u => u = t40) ∧
  ld1 t35 w (fun u => u = t36) ∧
  ld1 t31 w (fun u => u = t32) ∧
  ld1 t27 w (fun u => u = t28) ∧
  ld1 t23 w (fun u => u = t24) ∧
  stn 7 t6 t49 w fun w =>
  ldn 7 t6 w fun t50 =>
  callG Tryz.prog 93 #[t50] w fun t51 w =>
  qG Tryz.prog (bq .neq 30 (.tmp 51) (.const (.int .i64 0)) t51 (.int .i64 0)) w fun t52 =>
  bV t52
  (bld [(0, 1), (1, 1), (2, 1), (3, 1), (4, 1), (5, 1), (6, 1)] (zc Tryz.prog 42) #[] fun t53 =>
  stn 7 x2 t53 w fun w =>
  qG Tryz.prog (do loadVar 42 (← asAddr x2)) w fun r2 =>
  R (.tuple #[r2, (.int .i64 50)]) w)
  (ldn 7 t6 w fun t54 =>
  stn 7 x2 t54 w fun w =>
  qG Tryz.prog (do loadVar 42 (← asAddr x2)) w fun r2_1 =>
  R (.tuple #[r2_1, (.int .i64 0)]) w)
theorem entry_Take_s0_eq (R : Value → World → Prop) : ∀ e w, lift Tryz.prog 55 (sub (bodyOf Tryz.f87) [1, 1, 1]) (finK Tryz.prog Tryz.f87.results.toList R) e w = entry_Take_s0 R (e 2) (e 4) w := fun e w => by kernel_rfl
def entry_Take_s1 (R : Value → World → Prop) (x0 : Value) (w : World) : Prop :=
  newG (zc Tryz.prog 42) 42 w fun t2 w =>
  callG Tryz.prog 110 #[x0] w fun t9 w =>
  qG Tryz.prog (Instr.extract t9 0) w fun t10 =>
  qG Tryz.prog (Instr.extract t9 1) w fun t11 =>
  qG Tryz.prog (bq .neq 30 (.tmp 12) (.const (.int .i64 0)) t11 (.int .i64 0)) w fun t13 =>
  bV t13
  (bld [(0, 1), (1, 1), (2, 1), (3, 1), (4, 1), (5, 1), (6, 1)] (zc Tryz.prog 42) #[] fun t20 =>
  stn 7 t2 t20 w fun w =>
  qG Tryz.prog (do loadVar 42 (← asAddr t2)) w fun r2 =>
  R (.tuple #[r2, (.int .i64 50)]) w)
  (bsl 3 1 7 (zc Tryz.prog 3) #[(0, (.int .i64 1)), (1, (.int .i64 2)), (2, (.int .i64 2)), (3, (.int .i64 2)), (4, (.int .i64 1)), (5, (.int .i64 1)), (6, (.int .i64 1))] w fun t16 w =>
  callG Tryz.prog 116 #[t10, t16] w fun t17 w =>
  qG Tryz.prog (Op.unary .not t17) w fun t18 =>
  bV t18
  (bld [(0, 1), (1, 1), (2, 1), (3, 1), (4, 1), (5, 1), (6, 1)] (zc Tryz.prog 42) #[] fun t20_1 =>
  stn 7 t2 t20_1 w fun w =>
  qG Tryz.prog (do loadVar 42 (← asAddr t2)) w fun r2_1 =>
  R (.tuple #[r2_1, (.int .i64 50)]) w)
  (entry_Take_s0 R t2 t10 w))
theorem entry_Take_s1_eq (R : Value → World → Prop) : ∀ e w, lift Tryz.prog 55 (bodyOf Tryz.f87) (finK Tryz.prog Tryz.f87.results.toList R) e w = entry_Take_s1 R (e 0) w :=
  segs_eq (l := [(sub (bodyOf Tryz.f87) [0]), (sub (bodyOf Tryz.f87) [1, 0]), (sub (bodyOf Tryz.f87) [1, 1, 0])]) (y := (sub (bodyOf Tryz.f87) [1, 1, 1])) (Y := (fun e w => entry_Take_s0 R (e 2) (e 4) w)) (entry_Take_s0_eq R) (fun e w => by kernel_rfl)
def entry_Take (R : Value → World → Prop) (x0 : Value) (w : World) : Prop := entry_Take_s1 R x0 w
theorem entry_Take_call {R : Value → World → Prop} {x0 : Value} {w : World} (h : entry_Take R x0 w) : callG Tryz.prog 87 #[x0] w R :=
  calls_lift_eq Tryz.mixed Tryz.func87 (args := [x0]) rfl rfl rfl rfl ((entry_Take_s1_eq R) (envOf [x0]) w) (by kernel_rfl) h
end Go.Proofs

set_option linter.unusedVariables false
set_option linter.unusedSimpArgs false
namespace Go.Proofs
open Go Go.Q
set_option maxRecDepth 100000
def entry_state_s0 (R : Value → World → Prop) (x0 : Value) (w : World) : Prop :=
  qG Tryz.prog (bq .eql 3 (.tmp 3) (.const (.int .i64 0)) x0 (.int .i64 0)) w fun t5 =>
  bV t5
  (R (.string ⟨#[97, 99, 116, 105, 118, 101]⟩) w)
  (qG Tryz.prog (bq .eql 3 (.tmp 3) (.const (.int .i64 1)) x0 (.int .i64 1)) w fun t7 =>
  bV t7
  (R (.string ⟨#[111, 117, 116]⟩) w)
  (qG Tryz.prog (bq .eql 3 (.tmp 3) (.const (.int .i64 2)) x0 (.int .i64 2)) w fun t9 =>
  bV t9
  (R (.string ⟨#[117, 112]⟩) w)
  (R (.string ⟨#[]⟩) w)))
theorem entry_state_s0_eq (R : Value → World → Prop) : ∀ e w, lift Tryz.prog 10 (bodyOf Tryz.f65) (finK Tryz.prog Tryz.f65.results.toList R) e w = entry_state_s0 R (e 0) w := fun e w => by kernel_rfl
def entry_state (R : Value → World → Prop) (x0 : Value) (w : World) : Prop := entry_state_s0 R x0 w
theorem entry_state_call {R : Value → World → Prop} {x0 : Value} {w : World} (h : entry_state R x0 w) : callG Tryz.prog 65 #[x0] w R :=
  calls_lift_eq Tryz.mixed Tryz.func65 (args := [x0]) rfl rfl rfl rfl ((entry_state_s0_eq R) (envOf [x0]) w) (by kernel_rfl) h
def entry_kind_s0 (R : Value → World → Prop) (x0 : Value) (w : World) : Prop :=
  qG Tryz.prog (bq .eql 3 (.tmp 3) (.const (.int .i64 1)) x0 (.int .i64 1)) w fun t5 =>
  bV t5
  (R (.string ⟨#[114, 101, 99, 101, 105, 118, 101]⟩) w)
  (qG Tryz.prog (bq .eql 3 (.tmp 3) (.const (.int .i64 3)) x0 (.int .i64 3)) w fun t7 =>
  bV t7
  (R (.string ⟨#[99, 111, 109, 109, 105, 116]⟩) w)
  (qG Tryz.prog (bq .eql 3 (.tmp 3) (.const (.int .i64 6)) x0 (.int .i64 6)) w fun t9 =>
  bV t9
  (R (.string ⟨#[116, 114, 97, 110, 115, 102, 101, 114]⟩) w)
  (qG Tryz.prog (bq .eql 3 (.tmp 3) (.const (.int .i64 7)) x0 (.int .i64 7)) w fun t11 =>
  bV t11
  (R (.string ⟨#[97, 100, 106, 117, 115, 116]⟩) w)
  (R (.string ⟨#[]⟩) w))))
theorem entry_kind_s0_eq (R : Value → World → Prop) : ∀ e w, lift Tryz.prog 12 (bodyOf Tryz.f67) (finK Tryz.prog Tryz.f67.results.toList R) e w = entry_kind_s0 R (e 0) w := fun e w => by kernel_rfl
def entry_kind (R : Value → World → Prop) (x0 : Value) (w : World) : Prop := entry_kind_s0 R x0 w
theorem entry_kind_call {R : Value → World → Prop} {x0 : Value} {w : World} (h : entry_kind R x0 w) : callG Tryz.prog 67 #[x0] w R :=
  calls_lift_eq Tryz.mixed Tryz.func67 (args := [x0]) rfl rfl rfl rfl ((entry_kind_s0_eq R) (envOf [x0]) w) (by kernel_rfl) h
def entry_StockRow_s0 (R : Value → World → Prop) (x0 : Value) (w : World) : Prop :=
  newG (Value.cells x0) 48 w fun t1 w =>
  fa 0 t1 fun t3 =>
  ld1 t3 (World.drew w) fun t4 =>
  fa 1 t1 fun t6 =>
  ld1 t6 (World.drew w) fun t7 =>
  fa 2 t1 fun t9 =>
  ld1 t9 (World.drew w) fun t10 =>
  fa 3 t1 fun t12 =>
  ld1 t12 (World.drew w) fun t13 =>
  callG Tryz.prog 63 #[t4] (World.drew w) fun t5 w =>
  ld1 t12 w (fun u => u = t13) ∧
  ld1 t9 w (fun u => u = t10) ∧
  ld1 t6 w (fun u => u = t7) ∧
  callG Tryz.prog 63 #[t7] w fun t8 w =>
  ld1 t12 w (fun u => u = t13) ∧
  ld1 t9 w (fun u => u = t10) ∧
  callG Tryz.prog 64 #[t10] w fun t11 w =>
  ld1 t12 w (fun u => u = t13) ∧
  callG Tryz.prog 64 #[t13] w fun t14 w =>
  bsl 76 3 4 (zc Tryz.prog 76) #[(0, t5), (1, t8), (2, t11), (3, t14)] w fun t15 w =>
  callG Tryz.prog 62 #[t15] w fun t16 w =>
  R t16 w
theorem entry_StockRow_s0_eq (R : Value → World → Prop) : ∀ e w, lift Tryz.prog 17 (bodyOf Tryz.f25) (finK Tryz.prog Tryz.f25.results.toList R) e w = entry_StockRow_s0 R (e 0) w := fun e w => by kernel_rfl
def entry_StockRow (R : Value → World → Prop) (x0 : Value) (w : World) : Prop := entry_StockRow_s0 R x0 w
theorem entry_StockRow_call {R : Value → World → Prop} {x0 : Value} {w : World} (h : entry_StockRow R x0 w) : callG Tryz.prog 25 #[x0] w R :=
  calls_lift_eq Tryz.mixed Tryz.func25 (args := [x0]) rfl rfl rfl rfl ((entry_StockRow_s0_eq R) (envOf [x0]) w) (by kernel_rfl) h
def entry_HoldRow_s0 (R : Value → World → Prop) (x0 : Value) (w : World) : Prop :=
  newG (Value.cells x0) 70 w fun t1 w =>
  fa 4 t1 fun t3 =>
  ld1 t3 w fun t4 =>
  callG Tryz.prog 65 #[t4] w fun t5 w =>
  qG Tryz.prog (bq .eql 9 (.tmp 5) (.const (.string ⟨#[]⟩)) t5 (.string ⟨#[]⟩)) w fun t6 =>
  bV t6
  (R (.slice none 0 0) w)
  (fa 0 t1 fun t7 =>
  ld1 t7 (World.drew w) fun t8 =>
  fa 1 t1 fun t10 =>
  ld1 t10 (World.drew w) fun t11 =>
  fa 2 t1 fun t13 =>
  ld1 t13 (World.drew w) fun t14 =>
  fa 3 t1 fun t16 =>
  ld1 t16 (World.drew w) fun t17 =>
  fa 4 t1 fun t19 =>
  ld1 t19 (World.drew w) fun t20 =>
  fa 5 t1 fun t23 =>
  ld1 t23 (World.drew w) fun t24 =>
  callG Tryz.prog 64 #[t8] (World.drew w) fun t9 w =>
  ld1 t23 w (fun u => u = t24) ∧
  ld1 t19 w (fun u => u = t20) ∧
  ld1 t16 w (fun u => u = t17) ∧
  ld1 t13 w (fun u => u = t14) ∧
  ld1 t10 w (fun u => u = t11) ∧
  callG Tryz.prog 63 #[t11] w fun t12 w =>
  ld1 t23 w (fun u => u = t24) ∧
  ld1 t19 w (fun u => u = t20) ∧
  ld1 t16 w (fun u => u = t17) ∧
  ld1 t13 w (fun u => u = t14) ∧
  callG Tryz.prog 63 #[t14] w fun t15 w =>
  ld1 t23 w (fun u => u = t24) ∧
  ld1 t19 w (fun u => u = t20) ∧
  ld1 t16 w (fun u => u = t17) ∧
  callG Tryz.prog 64 #[t17] w fun t18 w =>
  ld1 t23 w (fun u => u = t24) ∧
  ld1 t19 w (fun u => u = t20) ∧
  callG Tryz.prog 65 #[t20] w fun t21 w =>
  ld1 t23 w (fun u => u = t24) ∧
  callG Tryz.prog 63 #[t21] w fun t22 w =>
  ld1 t23 w (fun u => u = t24) ∧
  callG Tryz.prog 66 #[t24] w fun t25 w =>
  bsl 76 3 6 (zc Tryz.prog 76) #[(0, t9), (1, t12), (2, t15), (3, t18), (4, t22), (5, t25)] w fun t26 w =>
  callG Tryz.prog 62 #[t26] w fun t27 w =>
  R t27 w)
theorem entry_HoldRow_s0_eq (R : Value → World → Prop) : ∀ e w, lift Tryz.prog 28 (bodyOf Tryz.f26) (finK Tryz.prog Tryz.f26.results.toList R) e w = entry_HoldRow_s0 R (e 0) w := fun e w => by kernel_rfl
def entry_HoldRow (R : Value → World → Prop) (x0 : Value) (w : World) : Prop := entry_HoldRow_s0 R x0 w
theorem entry_HoldRow_call {R : Value → World → Prop} {x0 : Value} {w : World} (h : entry_HoldRow R x0 w) : callG Tryz.prog 26 #[x0] w R :=
  calls_lift_eq Tryz.mixed Tryz.func26 (args := [x0]) rfl rfl rfl rfl ((entry_HoldRow_s0_eq R) (envOf [x0]) w) (by kernel_rfl) h
def entry_MoveRow_s0 (R : Value → World → Prop) (x0 : Value) (w : World) : Prop :=
  newG (Value.cells x0) 73 w fun t1 w =>
  fa 4 t1 fun t3 =>
  ld1 t3 w fun t4 =>
  callG Tryz.prog 67 #[t4] w fun t5 w =>
  qG Tryz.prog (bq .eql 9 (.tmp 5) (.const (.string ⟨#[]⟩)) t5 (.string ⟨#[]⟩)) w fun t6 =>
  bV t6
  (R (.slice none 0 0) w)
  (fa 0 t1 fun t7 =>
  ld1 t7 (World.drew w) fun t8 =>
  fa 1 t1 fun t10 =>
  ld1 t10 (World.drew w) fun t11 =>
  fa 2 t1 fun t13 =>
  ld1 t13 (World.drew w) fun t14 =>
  fa 3 t1 fun t16 =>
  ld1 t16 (World.drew w) fun t17 =>
  fa 4 t1 fun t19 =>
  ld1 t19 (World.drew w) fun t20 =>
  fa 5 t1 fun t23 =>
  ld1 t23 (World.drew w) fun t24 =>
  callG Tryz.prog 64 #[t8] (World.drew w) fun t9 w =>
  ld1 t23 w (fun u => u = t24) ∧
  ld1 t19 w (fun u => u = t20) ∧
  ld1 t16 w (fun u => u = t17) ∧
  ld1 t13 w (fun u => u = t14) ∧
  ld1 t10 w (fun u => u = t11) ∧
  callG Tryz.prog 63 #[t11] w fun t12 w =>
  ld1 t23 w (fun u => u = t24) ∧
  ld1 t19 w (fun u => u = t20) ∧
  ld1 t16 w (fun u => u = t17) ∧
  ld1 t13 w (fun u => u = t14) ∧
  callG Tryz.prog 63 #[t14] w fun t15 w =>
  ld1 t23 w (fun u => u = t24) ∧
  ld1 t19 w (fun u => u = t20) ∧
  ld1 t16 w (fun u => u = t17) ∧
  callG Tryz.prog 64 #[t17] w fun t18 w =>
  ld1 t23 w (fun u => u = t24) ∧
  ld1 t19 w (fun u => u = t20) ∧
  callG Tryz.prog 67 #[t20] w fun t21 w =>
  ld1 t23 w (fun u => u = t24) ∧
  callG Tryz.prog 63 #[t21] w fun t22 w =>
  ld1 t23 w (fun u => u = t24) ∧
  callG Tryz.prog 66 #[t24] w fun t25 w =>
  bsl 76 3 6 (zc Tryz.prog 76) #[(0, t9), (1, t12), (2, t15), (3, t18), (4, t22), (5, t25)] w fun t26 w =>
  callG Tryz.prog 62 #[t26] w fun t27 w =>
  R t27 w)
theorem entry_MoveRow_s0_eq (R : Value → World → Prop) : ∀ e w, lift Tryz.prog 28 (bodyOf Tryz.f27) (finK Tryz.prog Tryz.f27.results.toList R) e w = entry_MoveRow_s0 R (e 0) w := fun e w => by kernel_rfl
def entry_MoveRow (R : Value → World → Prop) (x0 : Value) (w : World) : Prop := entry_MoveRow_s0 R x0 w
theorem entry_MoveRow_call {R : Value → World → Prop} {x0 : Value} {w : World} (h : entry_MoveRow R x0 w) : callG Tryz.prog 27 #[x0] w R :=
  calls_lift_eq Tryz.mixed Tryz.func27 (args := [x0]) rfl rfl rfl rfl ((entry_MoveRow_s0_eq R) (envOf [x0]) w) (by kernel_rfl) h
end Go.Proofs

set_option linter.unusedVariables false
set_option linter.unusedSimpArgs false
namespace Go.Proofs
open Go Go.Q
set_option maxRecDepth 100000
def ledger_name_s0 (R : Value → World → Prop) (x0 : Value) (w : World) : Prop :=
  lenS x0 fun t4 =>
  qG Tryz.prog (bq .geq 3 (.tmp 4) (.const (.int .i64 1)) t4 (.int .i64 1)) w fun t5 =>
  bV t5
  (lenS x0 fun t8 =>
  qG Tryz.prog (bq .leq 3 (.tmp 8) (.const (.int .i64 64)) t8 (.int .i64 64)) w fun t9 =>
  R t9 w)
  (R (.bool false) w)
theorem ledger_name_s0_eq (R : Value → World → Prop) : ∀ e w, lift Tryz.prog 11 (bodyOf Tryz.f51) (finK Tryz.prog Tryz.f51.results.toList R) e w = ledger_name_s0 R (e 0) w := fun e w => by kernel_rfl
def ledger_name (R : Value → World → Prop) (x0 : Value) (w : World) : Prop := ledger_name_s0 R x0 w
theorem ledger_name_call {R : Value → World → Prop} {x0 : Value} {w : World} (h : ledger_name R x0 w) : callG Tryz.prog 51 #[x0] w R :=
  calls_lift_eq Tryz.mixed Tryz.func51 (args := [x0]) rfl rfl rfl rfl ((ledger_name_s0_eq R) (envOf [x0]) w) (by kernel_rfl) h
def ledger_of_s0 (R : Value → World → Prop) (x0 : Value) (w : World) : Prop :=
  newG (Value.cells x0) 48 w fun t1 w =>
  newG (zc Tryz.prog 101) 101 w fun t2 w =>
  fa 0 t1 fun t3 =>
  ld1 t3 w fun t4 =>
  fa 1 t1 fun t5 =>
  ld1 t5 w fun t6 =>
  bld [(0, 1), (1, 1)] (zc Tryz.prog 101) #[(0, t4), (1, t6)] fun t7 =>
  stn 2 t2 t7 w fun w =>
  qG Tryz.prog (do loadVar 101 (← asAddr t2)) w fun r2 =>
  R r2 w
theorem ledger_of_s0_eq (R : Value → World → Prop) : ∀ e w, lift Tryz.prog 8 (bodyOf Tryz.f53) (finK Tryz.prog Tryz.f53.results.toList R) e w = ledger_of_s0 R (e 0) w := fun e w => by kernel_rfl
def ledger_of (R : Value → World → Prop) (x0 : Value) (w : World) : Prop := ledger_of_s0 R x0 w
theorem ledger_of_call {R : Value → World → Prop} {x0 : Value} {w : World} (h : ledger_of R x0 w) : callG Tryz.prog 53 #[x0] w R :=
  calls_lift_eq Tryz.mixed Tryz.func53 (args := [x0]) rfl rfl rfl rfl ((ledger_of_s0_eq R) (envOf [x0]) w) (by kernel_rfl) h
def ledger_hold_s0 (R : Value → World → Prop) (x0 x1 : Value) (w : World) : Prop :=
  newG (Value.cells x1) 70 w fun t3 w =>
  fa 0 t3 fun t5 =>
  ld1 t5 w fun t6 =>
  qG Tryz.prog (bq .add 3 (.tmp 7) (.const (.int .i64 1)) x0 (.int .i64 1)) w fun t8 =>
  qG Tryz.prog (bq .eql 3 (.tmp 6) (.tmp 8) t6 t8) w fun t9 =>
  bV t9
  (fa 1 t3 fun t11 =>
  ld1 t11 w fun t12 =>
  callG Tryz.prog 51 #[t12] w fun t13 w =>
  bV t13
  (fa 2 t3 fun t16 =>
  ld1 t16 w fun t17 =>
  callG Tryz.prog 51 #[t17] w fun t18 w =>
  bV t18
  (fa 3 t3 fun t21 =>
  ld1 t21 w fun t22 =>
  qG Tryz.prog (bq .geq 3 (.tmp 22) (.const (.int .i64 1)) t22 (.int .i64 1)) w fun t23 =>
  bV t23
  (fa 4 t3 fun t26 =>
  ld1 t26 w fun t27 =>
  qG Tryz.prog (bq .geq 3 (.tmp 27) (.const (.int .i64 0)) t27 (.int .i64 0)) w fun t28 =>
  bV t28
  (fa 4 t3 fun t31 =>
  ld1 t31 w fun t32 =>
  qG Tryz.prog (bq .leq 3 (.tmp 32) (.const (.int .i64 2)) t32 (.int .i64 2)) w fun t33 =>
  bV t33
  (fa 5 t3 fun t36 =>
  ld1 t36 w fun t37 =>
  qG Tryz.prog (bq .geq 3 (.tmp 37) (.const (.int .i64 0)) t37 (.int .i64 0)) w fun t38 =>
  R t38 w)
  (R (.bool false) w))
  (R (.bool false) w))
  (R (.bool false) w))
  (R (.bool false) w))
  (R (.bool false) w))
  (R (.bool false) w)
theorem ledger_hold_s0_eq (R : Value → World → Prop) : ∀ e w, lift Tryz.prog 40 (bodyOf Tryz.f54) (finK Tryz.prog Tryz.f54.results.toList R) e w = ledger_hold_s0 R (e 0) (e 1) w := fun e w => by kernel_rfl
def ledger_hold (R : Value → World → Prop) (x0 x1 : Value) (w : World) : Prop := ledger_hold_s0 R x0 x1 w
theorem ledger_hold_call {R : Value → World → Prop} {x0 x1 : Value} {w : World} (h : ledger_hold R x0 x1 w) : callG Tryz.prog 54 #[x0, x1] w R :=
  calls_lift_eq Tryz.mixed Tryz.func54 (args := [x0, x1]) rfl rfl rfl rfl ((ledger_hold_s0_eq R) (envOf [x0, x1]) w) (by kernel_rfl) h
def ledger_move_s0 (R : Value → World → Prop) (x0 x3 : Value) (w : World) : Prop :=
  fa 0 x3 fun t19 =>
  ld1 t19 w fun t20 =>
  qG Tryz.prog (bq .add 3 (.tmp 21) (.const (.int .i64 1)) x0 (.int .i64 1)) w fun t22 =>
  qG Tryz.prog (bq .eql 3 (.tmp 20) (.tmp 22) t20 t22) w fun t23 =>
  bV t23
  (fa 1 x3 fun t25 =>
  ld1 t25 w fun t26 =>
  callG Tryz.prog 51 #[t26] w fun t27 w =>
  bV t27
  (fa 2 x3 fun t30 =>
  ld1 t30 w fun t31 =>
  callG Tryz.prog 51 #[t31] w fun t32 w =>
  bV t32
  (fa 3 x3 fun t35 =>
  ld1 t35 w fun t36 =>
  qG Tryz.prog (bq .neq 3 (.tmp 36) (.const (.int .i64 0)) t36 (.int .i64 0)) w fun t37 =>
  R t37 w)
  (R (.bool false) w))
  (R (.bool false) w))
  (R (.bool false) w)
theorem ledger_move_s0_eq (R : Value → World → Prop) : ∀ e w, lift Tryz.prog 39 (sub (bodyOf Tryz.f55) [1, 1]) (finK Tryz.prog Tryz.f55.results.toList R) e w = ledger_move_s0 R (e 0) (e 3) w := fun e w => by kernel_rfl
def ledger_move_s1 (R : Value → World → Prop) (x0 x3 x6 x7 : Value) (w : World) : Prop :=
  bV x7
  (fa 5 x3 fun t11 =>
  ld1 t11 w fun t12 =>
  qG Tryz.prog (bq .neq 3 (.tmp 12) (.const (.int .i64 0)) t12 (.int .i64 0)) w fun t13 =>
  bV t13
  (R (.bool false) w)
  (ledger_move_s0 R x0 x3 w))
  (qG Tryz.prog (bq .eql 3 (.tmp 6) (.const (.int .i64 3)) x6 (.int .i64 3)) w fun t15 =>
  bV t15
  (fa 5 x3 fun t16 =>
  ld1 t16 w fun t17 =>
  qG Tryz.prog (bq .lss 3 (.tmp 17) (.const (.int .i64 1)) t17 (.int .i64 1)) w fun t18 =>
  bV t18
  (R (.bool false) w)
  (ledger_move_s0 R x0 x3 w))
  (R (.bool false) w))
theorem ledger_move_s1_eq (R : Value → World → Prop) : ∀ e w, lift Tryz.prog 39 (sub (bodyOf Tryz.f55) [1, 0, 1, 0, 1]) (blockK 0 (seqK (fun e w => ledger_move_s0 R (e 0) (e 3) w) (finK Tryz.prog Tryz.f55.results.toList R))) e w = ledger_move_s1 R (e 0) (e 3) (e 6) (e 7) w := fun e w => by kernel_rfl
def ledger_move_s2 (R : Value → World → Prop) (x0 x3 x6 : Value) (w : World) : Prop :=
  qG Tryz.prog (bq .eql 3 (.tmp 6) (.const (.int .i64 1)) x6 (.int .i64 1)) w fun t8 =>
  bV t8
  (ledger_move_s1 R x0 x3 x6 (.bool true) w)
  (qG Tryz.prog (bq .eql 3 (.tmp 6) (.const (.int .i64 6)) x6 (.int .i64 6)) w fun t9 =>
  bV t9
  (ledger_move_s1 R x0 x3 x6 (.bool true) w)
  (qG Tryz.prog (bq .eql 3 (.tmp 6) (.const (.int .i64 7)) x6 (.int .i64 7)) w fun t10 =>
  ledger_move_s1 R x0 x3 x6 t10 w))
theorem ledger_move_s2_eq (R : Value → World → Prop) : ∀ e w, lift Tryz.prog 39 (sub (bodyOf Tryz.f55) [1, 0, 1, 0]) (blockK 0 (seqK (fun e w => ledger_move_s0 R (e 0) (e 3) w) (finK Tryz.prog Tryz.f55.results.toList R))) e w = ledger_move_s2 R (e 0) (e 3) (e 6) w :=
  segs_eq (l := [(sub (bodyOf Tryz.f55) [1, 0, 1, 0, 0])]) (y := (sub (bodyOf Tryz.f55) [1, 0, 1, 0, 1])) (Y := (fun e w => ledger_move_s1 R (e 0) (e 3) (e 6) (e 7) w)) (ledger_move_s1_eq R) (fun e w => by kernel_rfl)
def ledger_move_s3 (R : Value → World → Prop) (x0 x3 : Value) (w : World) : Prop :=
  fa 4 x3 fun t5 =>
  ld1 t5 w fun t6 =>
  ledger_move_s2 R x0 x3 t6 w
theorem ledger_move_s3_eq (R : Value → World → Prop) : ∀ e w, lift Tryz.prog 39 (sub (bodyOf Tryz.f55) [1, 0]) (seqK (fun e w => ledger_move_s0 R (e 0) (e 3) w) (finK Tryz.prog Tryz.f55.results.toList R)) e w = ledger_move_s3 R (e 0) (e 3) w :=
  segs_eq (l := [(sub (bodyOf Tryz.f55) [1, 0, 0])]) (y := (sub (bodyOf Tryz.f55) [1, 0, 1])) (Y := (fun e w => ledger_move_s2 R (e 0) (e 3) (e 6) w)) (ledger_move_s2_eq R) (fun e w => by kernel_rfl)
def ledger_move_s4 (R : Value → World → Prop) (x0 x1 : Value) (w : World) : Prop :=
  newG (Value.cells x1) 73 w fun t3 w =>
  ledger_move_s3 R x0 t3 w
theorem ledger_move_s4_eq (R : Value → World → Prop) : ∀ e w, lift Tryz.prog 39 (bodyOf Tryz.f55) (finK Tryz.prog Tryz.f55.results.toList R) e w = ledger_move_s4 R (e 0) (e 1) w :=
  segs_eq (l := [(sub (bodyOf Tryz.f55) [0])]) (y := (sub (bodyOf Tryz.f55) [1])) (Y := (fun e w => ledger_move_s3 R (e 0) (e 3) w)) (seq_seg (x := (sub (bodyOf Tryz.f55) [1, 0])) (y := (sub (bodyOf Tryz.f55) [1, 1])) (ledger_move_s0_eq R) (ledger_move_s3_eq R)) (fun e w => by kernel_rfl)
def ledger_move (R : Value → World → Prop) (x0 x1 : Value) (w : World) : Prop := ledger_move_s4 R x0 x1 w
theorem ledger_move_call {R : Value → World → Prop} {x0 x1 : Value} {w : World} (h : ledger_move R x0 x1 w) : callG Tryz.prog 55 #[x0, x1] w R :=
  calls_lift_eq Tryz.mixed Tryz.func55 (args := [x0, x1]) rfl rfl rfl rfl ((ledger_move_s4_eq R) (envOf [x0, x1]) w) (by kernel_rfl) h
def internal_bytealg_CompareString_s0 (R : Value → World → Prop) (x0 x1 : Value) (w : World) : Prop :=
  nG Tryz.prog (callFunc 137 #[x0, x1]) w fun t7 w =>
  R t7 w
theorem internal_bytealg_CompareString_s0_eq (R : Value → World → Prop) : ∀ e w, lift Tryz.prog 8 (bodyOf Tryz.f120) (finK Tryz.prog Tryz.f120.results.toList R) e w = internal_bytealg_CompareString_s0 R (e 0) (e 1) w := fun e w => by kernel_rfl
def internal_bytealg_CompareString (R : Value → World → Prop) (x0 x1 : Value) (w : World) : Prop := internal_bytealg_CompareString_s0 R x0 x1 w
theorem internal_bytealg_CompareString_call {R : Value → World → Prop} {x0 x1 : Value} {w : World} (h : internal_bytealg_CompareString R x0 x1 w) : callG Tryz.prog 120 #[x0, x1] w R :=
  calls_lift_eq Tryz.mixed Tryz.func120 (args := [x0, x1]) rfl rfl rfl rfl ((internal_bytealg_CompareString_s0_eq R) (envOf [x0, x1]) w) (by kernel_rfl) h
def strings_Compare_s0 (R : Value → World → Prop) (x0 x1 : Value) (w : World) : Prop :=
  callG Tryz.prog 120 #[x0, x1] w fun t7 w =>
  R t7 w
theorem strings_Compare_s0_eq (R : Value → World → Prop) : ∀ e w, lift Tryz.prog 8 (bodyOf Tryz.f99) (finK Tryz.prog Tryz.f99.results.toList R) e w = strings_Compare_s0 R (e 0) (e 1) w := fun e w => by kernel_rfl
def strings_Compare (R : Value → World → Prop) (x0 x1 : Value) (w : World) : Prop := strings_Compare_s0 R x0 x1 w
theorem strings_Compare_call {R : Value → World → Prop} {x0 x1 : Value} {w : World} (h : strings_Compare R x0 x1 w) : callG Tryz.prog 99 #[x0, x1] w R :=
  calls_lift_eq Tryz.mixed Tryz.func99 (args := [x0, x1]) rfl rfl rfl rfl ((strings_Compare_s0_eq R) (envOf [x0, x1]) w) (by kernel_rfl) h
def cmp_Or_int_s0 (R : Value → World → Prop) (x3 : Value) (w : World) : Prop :=
  R x3 w
theorem cmp_Or_int_s0_eq (R : Value → World → Prop) : ∀ e w, lift Tryz.prog 18 (sub (bodyOf Tryz.f98) [1, 1, 1]) (finK Tryz.prog Tryz.f98.results.toList R) e w = cmp_Or_int_s0 R (e 3) w := fun e w => by kernel_rfl
def cmp_Or_int_b1 (R : Value → World → Prop) (N1 : List Value → World → Prop) (x3 x6 x7 x8 : Value) (w : World) : Prop :=
  qG Tryz.prog (bq .lss 3 (.tmp 8) (.tmp 7) x8 x7) w fun t9 =>
  bV t9
  (ia 1 x6 x8 fun t10 =>
  ld1 t10 w fun t11 =>
  qG Tryz.prog (bq .neq 3 (.tmp 12) (.tmp 13) t11 x3) w fun t14 =>
  bV t14
  (R t11 w)
  (qG Tryz.prog (bq .add 3 (.tmp 8) (.const (.int .i64 1)) x8 (.int .i64 1)) w fun t16 =>
  N1 [x3, x6, x7, t16] w))
  (cmp_Or_int_s0 R x3 w)
theorem cmp_Or_int_b1_eq (R : Value → World → Prop) (N1 : List Value → World → Prop) : ∀ e w, lift Tryz.prog 18 (sub (bodyOf Tryz.f98) [1, 1, 0, 1, 0, 0]) (seqK (fun e w => N1 [e 3, e 6, e 7, e 8] w) (blockK 0 (seqK (fun e w => cmp_Or_int_s0 R (e 3) w) (finK Tryz.prog Tryz.f98.results.toList R)))) e w = cmp_Or_int_b1 R N1 (e 3) (e 6) (e 7) (e 8) w := fun e w => by kernel_rfl
def cmp_Or_int_L2F (R : Value → World → Prop) (N1 : List Value → World → Prop) (xs : List Value) (w : World) : Prop :=
  match xs with
  | [x3, x6, x7, x8] => cmp_Or_int_b1 R N1 x3 x6 x7 x8 w
  | _ => False
def cmp_Or_int_L2 (R : Value → World → Prop) (x3 x6 x7 x8 : Value) (w : World) : Prop :=
  ∃ m, loopV (cmp_Or_int_L2F R) m [x3, x6, x7, x8] w
theorem cmp_Or_int_L2_eq (R : Value → World → Prop) : ∀ e w, lift Tryz.prog 18 (sub (bodyOf Tryz.f98) [1, 1, 0, 1, 0]) (blockK 0 (seqK (fun e w => cmp_Or_int_s0 R (e 3) w) (finK Tryz.prog Tryz.f98.results.toList R))) e w = cmp_Or_int_L2 R (e 3) (e 6) (e 7) (e 8) w := loop_seg (F := cmp_Or_int_L2F R) (sel := fun e => [e 3, e 6, e 7, e 8]) fun N1 => (cmp_Or_int_b1_eq R N1)
def cmp_Or_int_s3 (R : Value → World → Prop) (x0 x3 : Value) (w : World) : Prop :=
  lenL x0 fun t7 =>
  cmp_Or_int_L2 R x3 x0 t7 (.int .i64 0) w
theorem cmp_Or_int_s3_eq (R : Value → World → Prop) : ∀ e w, lift Tryz.prog 18 (sub (bodyOf Tryz.f98) [1, 1, 0]) (seqK (fun e w => cmp_Or_int_s0 R (e 3) w) (finK Tryz.prog Tryz.f98.results.toList R)) e w = cmp_Or_int_s3 R (e 0) (e 3) w :=
  segs_eq (l := [(sub (bodyOf Tryz.f98) [1, 1, 0, 0])]) (y := (sub (bodyOf Tryz.f98) [1, 1, 0, 1])) (Y := (fun e w => cmp_Or_int_L2 R (e 3) (e 6) (e 7) (e 8) w)) (cmp_Or_int_L2_eq R) (fun e w => by kernel_rfl)
def cmp_Or_int_s4 (R : Value → World → Prop) (x0 : Value) (w : World) : Prop :=
  cmp_Or_int_s3 R x0 (.int .i64 0) w
theorem cmp_Or_int_s4_eq (R : Value → World → Prop) : ∀ e w, lift Tryz.prog 18 (bodyOf Tryz.f98) (finK Tryz.prog Tryz.f98.results.toList R) e w = cmp_Or_int_s4 R (e 0) w :=
  segs_eq (l := [(sub (bodyOf Tryz.f98) [0]), (sub (bodyOf Tryz.f98) [1, 0])]) (y := (sub (bodyOf Tryz.f98) [1, 1])) (Y := (fun e w => cmp_Or_int_s3 R (e 0) (e 3) w)) (seq_seg (x := (sub (bodyOf Tryz.f98) [1, 1, 0])) (y := (sub (bodyOf Tryz.f98) [1, 1, 1])) (cmp_Or_int_s0_eq R) (cmp_Or_int_s3_eq R)) (fun e w => by kernel_rfl)
def cmp_Or_int (R : Value → World → Prop) (x0 : Value) (w : World) : Prop := cmp_Or_int_s4 R x0 w
theorem cmp_Or_int_call {R : Value → World → Prop} {x0 : Value} {w : World} (h : cmp_Or_int R x0 w) : callG Tryz.prog 98 #[x0] w R :=
  calls_lift_eq Tryz.mixed Tryz.func98 (args := [x0]) rfl rfl rfl rfl ((cmp_Or_int_s4_eq R) (envOf [x0]) w) (by kernel_rfl) h
def ledger_order_s0 (R : Value → World → Prop) (x0 x1 : Value) (w : World) : Prop :=
  newG (Value.cells x0) 101 w fun t2 w =>
  newG (Value.cells x1) 101 w fun t3 w =>
  fa 0 t2 fun t5 =>
  ld1 t5 (World.drew w) fun t6 =>
  fa 0 t3 fun t7 =>
  ld1 t7 (World.drew w) fun t8 =>
  fa 1 t2 fun t10 =>
  ld1 t10 (World.drew w) fun t11 =>
  fa 1 t3 fun t12 =>
  ld1 t12 (World.drew w) fun t13 =>
  callG Tryz.prog 99 #[t6, t8] (World.drew w) fun t9 w =>
  ld1 t12 w (fun u => u = t13) ∧
  ld1 t10 w (fun u => u = t11) ∧
  callG Tryz.prog 99 #[t11, t13] w fun t14 w =>
  bsl 3 1 2 (zc Tryz.prog 3) #[(0, t9), (1, t14)] w fun t15 w =>
  callG Tryz.prog 98 #[t15] w fun t16 w =>
  R t16 w
theorem ledger_order_s0_eq (R : Value → World → Prop) : ∀ e w, lift Tryz.prog 17 (bodyOf Tryz.f52) (finK Tryz.prog Tryz.f52.results.toList R) e w = ledger_order_s0 R (e 0) (e 1) w := fun e w => by kernel_rfl
def ledger_order (R : Value → World → Prop) (x0 x1 : Value) (w : World) : Prop := ledger_order_s0 R x0 x1 w
theorem ledger_order_call {R : Value → World → Prop} {x0 x1 : Value} {w : World} (h : ledger_order R x0 x1 w) : callG Tryz.prog 52 #[x0, x1] w R :=
  calls_lift_eq Tryz.mixed Tryz.func52 (args := [x0, x1]) rfl rfl rfl rfl ((ledger_order_s0_eq R) (envOf [x0, x1]) w) (by kernel_rfl) h
end Go.Proofs

set_option linter.unusedVariables false
set_option linter.unusedSimpArgs false
namespace Go.Proofs
open Go Go.Q
set_option maxRecDepth 100000
def ledger_Check_s0 (R : Value → World → Prop) (w : World) : Prop :=
  R (.int .i64 0) w
theorem ledger_Check_s0_eq (R : Value → World → Prop) : ∀ e w, lift Tryz.prog 221 (sub (bodyOf Tryz.f22) [1, 1, 1, 1, 1, 1, 1]) (finK Tryz.prog Tryz.f22.results.toList R) e w = ledger_Check_s0 R w := fun e w => by kernel_rfl
def ledger_Check_b1 (R : Value → World → Prop) (N1 : List Value → World → Prop) (x3 x4 x180 x181 x182 : Value) (w : World) : Prop :=
  qG Tryz.prog (bq .lss 3 (.tmp 182) (.tmp 181) x182 x181) w fun t183 =>
  bV t183
  (ia 4 x180 x182 fun t184 =>
  ldn 4 t184 w fun t185 =>
  newG (zc Tryz.prog 48) 48 w fun t18 w =>
  stn 4 t18 t185 w fun w =>
  ldn 4 t18 w fun t188 =>
  callG Tryz.prog 53 #[t188] w fun t189 w =>
  qG Tryz.prog (Instr.lookup 97 x3 t189 false) w fun t190 =>
  callG Tryz.prog 56 #[t190] w fun t191 w =>
  qG Tryz.prog (Instr.extract t191 0) w fun t192 =>
  qG Tryz.prog (Instr.extract t191 1) w fun t193 =>
  ldn 4 t18 w fun t196 =>
  callG Tryz.prog 53 #[t196] w fun t197 w =>
  qG Tryz.prog (Instr.lookup 97 x4 t197 false) w fun t198 =>
  callG Tryz.prog 56 #[t198] w fun t199 w =>
  qG Tryz.prog (Instr.extract t199 0) w fun t200 =>
  qG Tryz.prog (Instr.extract t199 1) w fun t201 =>
  qG Tryz.prog (bq .neq 30 (.tmp 202) (.const (.int .i64 0)) t193 (.int .i64 0)) w fun t203 =>
  bV t203
  (R (.int .i64 1) w)
  (qG Tryz.prog (bq .neq 30 (.tmp 205) (.const (.int .i64 0)) t201 (.int .i64 0)) w fun t206 =>
  bV t206
  (R (.int .i64 1) w)
  (fa 3 t18 fun t210 =>
  ld1 t210 w fun t211 =>
  qG Tryz.prog (bq .neq 3 (.tmp 209) (.tmp 211) t192 t211) w fun t212 =>
  bV t212
  (R (.int .i64 1) w)
  (fa 2 t18 fun t216 =>
  ld1 t216 w fun t217 =>
  qG Tryz.prog (bq .neq 3 (.tmp 215) (.tmp 217) t200 t217) w fun t218 =>
  bV t218
  (R (.int .i64 1) w)
  (qG Tryz.prog (bq .add 3 (.tmp 182) (.const (.int .i64 1)) x182 (.int .i64 1)) w fun t220 =>
  N1 [x3, x4, x180, x181, t220] w)))))
  (ledger_Check_s0 R  w)
theorem ledger_Check_b1_eq (R : Value → World → Prop) (N1 : List Value → World → Prop) : ∀ e w, lift Tryz.prog 221 (sub (bodyOf Tryz.f22) [1, 1, 1, 1, 1, 1, 0, 1, 0, 0]) (seqK (fun e w => N1 [e 3, e 4, e 180, e 181, e 182] w) (blockK 6 (seqK (fun e w => ledger_Check_s0 R  w) (finK Tryz.prog Tryz.f22.results.toList R)))) e w = ledger_Check_b1 R N1 (e 3) (e 4) (e 180) (e 181) (e 182) w := fun e w => by kernel_rfl
def ledger_Check_L2F (R : Value → World → Prop) (N1 : List Value → World → Prop) (xs : List Value) (w : World) : Prop :=
  match xs with
  | [x3, x4, x180, x181, x182] => ledger_Check_b1 R N1 x3 x4 x180 x181 x182 w
  | _ => False
def ledger_Check_L2 (R : Value → World → Prop) (x3 x4 x180 x181 x182 : Value) (w : World) : Prop :=
  ∃ m, loopV (ledger_Check_L2F R) m [x3, x4, x180, x181, x182] w
theorem ledger_Check_L2_eq (R : Value → World → Prop) : ∀ e w, lift Tryz.prog 221 (sub (bodyOf Tryz.f22) [1, 1, 1, 1, 1, 1, 0, 1, 0]) (blockK 6 (seqK (fun e w => ledger_Check_s0 R  w) (finK Tryz.prog Tryz.f22.results.toList R))) e w = ledger_Check_L2 R (e 3) (e 4) (e 180) (e 181) (e 182) w := loop_seg (F := ledger_Check_L2F R) (sel := fun e => [e 3, e 4, e 180, e 181, e 182]) fun N1 => (ledger_Check_b1_eq R N1)
def ledger_Check_s3 (R : Value → World → Prop) (x1 x3 x4 : Value) (w : World) : Prop :=
  fa 0 x1 fun t179 =>
  ld1 t179 w fun t180 =>
  lenL t180 fun t181 =>
  ledger_Check_L2 R x3 x4 t180 t181 (.int .i64 0) w
theorem ledger_Check_s3_eq (R : Value → World → Prop) : ∀ e w, lift Tryz.prog 221 (sub (bodyOf Tryz.f22) [1, 1, 1, 1, 1, 1, 0]) (seqK (fun e w => ledger_Check_s0 R  w) (finK Tryz.prog Tryz.f22.results.toList R)) e w = ledger_Check_s3 R (e 1) (e 3) (e 4) w :=
  segs_eq (l := [(sub (bodyOf Tryz.f22) [1, 1, 1, 1, 1, 1, 0, 0])]) (y := (sub (bodyOf Tryz.f22) [1, 1, 1, 1, 1, 1, 0, 1])) (Y := (fun e w => ledger_Check_L2 R (e 3) (e 4) (e 180) (e 181) (e 182) w)) (ledger_Check_L2_eq R) (fun e w => by kernel_rfl)
def ledger_Check_s4 (R : Value → World → Prop) (N1 : List Value → World → Prop) (x1 x3 x4 x143 x144 x145 : Value) (w : World) : Prop :=
  qG Tryz.prog (bq .add 3 (.tmp 145) (.const (.int .i64 1)) x145 (.int .i64 1)) w fun t178 =>
  N1 [x1, x3, x4, x143, x144, t178] w
theorem ledger_Check_s4_eq (R : Value → World → Prop) (N1 : List Value → World → Prop) : ∀ e w, lift Tryz.prog 221 (sub (bodyOf Tryz.f22) [1, 1, 1, 1, 1, 0, 1, 0, 0, 1, 1, 1]) (seqK (fun e w => N1 [e 1, e 3, e 4, e 143, e 144, e 145] w) (blockK 4 (seqK (fun e w => ledger_Check_s3 R (e 1) (e 3) (e 4) w) (finK Tryz.prog Tryz.f22.results.toList R)))) e w = ledger_Check_s4 R N1 (e 1) (e 3) (e 4) (e 143) (e 144) (e 145) w := fun e w => by kernel_rfl
def ledger_Check_s5 (R : Value → World → Prop) (N1 : List Value → World → Prop) (x1 x3 x4 x13 x14 x143 x144 x145 : Value) (w : World) : Prop :=
  ldn 2 x14 w fun t170 =>
  fa 3 x13 fun t172 =>
  ld1 t172 w fun t173 =>
  bsl 3 1 1 (zc Tryz.prog 3) #[(0, t173)] w fun t174 w =>
  eG Tryz.prog (Instr.mapEntry 97 x4 t170) w fun t175 w =>
  qG Tryz.prog (Instr.extract t175 0) w fun t171 =>
  app 3 1 8 (zc Tryz.prog 3) t171 t174 w fun t176 w =>
  qG Tryz.prog (Instr.extract t175 1) w fun t177 =>
  uG Tryz.prog (Instr.entryStore 97 x4 t177 t176) w fun w =>
  ledger_Check_s4 R N1 x1 x3 x4 x143 x144 x145 w
theorem ledger_Check_s5_eq (R : Value → World → Prop) (N1 : List Value → World → Prop) : ∀ e w, lift Tryz.prog 221 (sub (bodyOf Tryz.f22) [1, 1, 1, 1, 1, 0, 1, 0, 0, 1, 1, 0, 0, 1, 1, 1]) (blockK 5 (seqK (fun e w => ledger_Check_s4 R N1 (e 1) (e 3) (e 4) (e 143) (e 144) (e 145) w) (seqK (fun e w => N1 [e 1, e 3, e 4, e 143, e 144, e 145] w) (blockK 4 (seqK (fun e w => ledger_Check_s3 R (e 1) (e 3) (e 4) w) (finK Tryz.prog Tryz.f22.results.toList R)))))) e w = ledger_Check_s5 R N1 (e 1) (e 3) (e 4) (e 13) (e 14) (e 143) (e 144) (e 145) w := fun e w => by kernel_rfl
def ledger_Check_s6 (R : Value → World → Prop) (N1 : List Value → World → Prop) (x1 x3 x4 x143 x144 x145 : Value) (w : World) : Prop :=
  ia 6 x143 x145 fun t148 =>
  ldn 6 t148 w fun t149 =>
  newG (zc Tryz.prog 73) 73 w fun t13 w =>
  stn 6 t13 t149 w fun w =>
  fa 1 t13 fun t150 =>
  ld1 t150 w fun t151 =>
  fa 2 t13 fun t152 =>
  ld1 t152 w fun t153 =>
  bld [(0, 1), (1, 1)] (zc Tryz.prog 101) #[(0, t151), (1, t153)] fun t154 =>
  newG (zc Tryz.prog 101) 101 w fun t14 w =>
  stn 2 t14 t154 w fun w =>
  ldn 2 t14 w fun t157 =>
  qG Tryz.prog (Instr.lookup 97 x4 t157 true) w fun t158 =>
  qG Tryz.prog (Instr.extract t158 0) w fun t159 =>
  qG Tryz.prog (Instr.extract t158 1) w fun t160 =>
  qG Tryz.prog (Op.unary .not t160) w fun t162 =>
  bV t162
  (R (.int .i64 1) w)
  (ldn 6 t13 w fun t165 =>
  callG Tryz.prog 55 #[x145, t165] w fun t166 w =>
  qG Tryz.prog (Op.unary .not t166) w fun t167 =>
  bV t167
  (R (.int .i64 1) w)
  (ledger_Check_s5 R N1 x1 x3 x4 t13 t14 x143 x144 x145 w))
theorem ledger_Check_s6_eq (R : Value → World → Prop) (N1 : List Value → World → Prop) : ∀ e w, lift Tryz.prog 221 (sub (bodyOf Tryz.f22) [1, 1, 1, 1, 1, 0, 1, 0, 0, 1, 1, 0, 0]) (blockK 5 (seqK (fun e w => ledger_Check_s4 R N1 (e 1) (e 3) (e 4) (e 143) (e 144) (e 145) w) (seqK (fun e w => N1 [e 1, e 3, e 4, e 143, e 144, e 145] w) (blockK 4 (seqK (fun e w => ledger_Check_s3 R (e 1) (e 3) (e 4) w) (finK Tryz.prog Tryz.f22.results.toList R)))))) e w = ledger_Check_s6 R N1 (e 1) (e 3) (e 4) (e 143) (e 144) (e 145) w :=
  segs_eq (l := [(sub (bodyOf Tryz.f22) [1, 1, 1, 1, 1, 0, 1, 0, 0, 1, 1, 0, 0, 0]), (sub (bodyOf Tryz.f22) [1, 1, 1, 1, 1, 0, 1, 0, 0, 1, 1, 0, 0, 1, 0]), (sub (bodyOf Tryz.f22) [1, 1, 1, 1, 1, 0, 1, 0, 0, 1, 1, 0, 0, 1, 1, 0])]) (y := (sub (bodyOf Tryz.f22) [1, 1, 1, 1, 1, 0, 1, 0, 0, 1, 1, 0, 0, 1, 1, 1])) (Y := (fun e w => ledger_Check_s5 R N1 (e 1) (e 3) (e 4) (e 13) (e 14) (e 143) (e 144) (e 145) w)) (ledger_Check_s5_eq R N1) (fun e w => by kernel_rfl)
def ledger_Check_s7 (R : Value → World → Prop) (N1 : List Value → World → Prop) (x1 x3 x4 x143 x144 x145 : Value) (w : World) : Prop :=
  qG Tryz.prog (bq .lss 3 (.tmp 145) (.tmp 144) x145 x144) w fun t146 =>
  bV t146
  (ledger_Check_s6 R N1 x1 x3 x4 x143 x144 x145 w)
  (ledger_Check_s3 R x1 x3 x4 w)
theorem ledger_Check_s7_eq (R : Value → World → Prop) (N1 : List Value → World → Prop) : ∀ e w, lift Tryz.prog 221 (sub (bodyOf Tryz.f22) [1, 1, 1, 1, 1, 0, 1, 0, 0]) (seqK (fun e w => N1 [e 1, e 3, e 4, e 143, e 144, e 145] w) (blockK 4 (seqK (fun e w => ledger_Check_s3 R (e 1) (e 3) (e 4) w) (finK Tryz.prog Tryz.f22.results.toList R)))) e w = ledger_Check_s7 R N1 (e 1) (e 3) (e 4) (e 143) (e 144) (e 145) w :=
  segs_eq (l := [(sub (bodyOf Tryz.f22) [1, 1, 1, 1, 1, 0, 1, 0, 0, 0]), (sub (bodyOf Tryz.f22) [1, 1, 1, 1, 1, 0, 1, 0, 0, 1, 0])]) (y := (sub (bodyOf Tryz.f22) [1, 1, 1, 1, 1, 0, 1, 0, 0, 1, 1])) (Y := (fun e w => ledger_Check_s6 R N1 (e 1) (e 3) (e 4) (e 143) (e 144) (e 145) w)) (seq_seg (x := (sub (bodyOf Tryz.f22) [1, 1, 1, 1, 1, 0, 1, 0, 0, 1, 1, 0])) (y := (sub (bodyOf Tryz.f22) [1, 1, 1, 1, 1, 0, 1, 0, 0, 1, 1, 1])) (ledger_Check_s4_eq R N1) (ledger_Check_s6_eq R N1)) (fun e w => by kernel_rfl)
def ledger_Check_L8F (R : Value → World → Prop) (N1 : List Value → World → Prop) (xs : List Value) (w : World) : Prop :=
  match xs with
  | [x1, x3, x4, x143, x144, x145] => ledger_Check_s7 R N1 x1 x3 x4 x143 x144 x145 w
  | _ => False
def ledger_Check_L8 (R : Value → World → Prop) (x1 x3 x4 x143 x144 x145 : Value) (w : World) : Prop :=
  ∃ m, loopV (ledger_Check_L8F R) m [x1, x3, x4, x143, x144, x145] w
theorem ledger_Check_L8_eq (R : Value → World → Prop) : ∀ e w, lift Tryz.prog 221 (sub (bodyOf Tryz.f22) [1, 1, 1, 1, 1, 0, 1, 0]) (blockK 4 (seqK (fun e w => ledger_Check_s3 R (e 1) (e 3) (e 4) w) (finK Tryz.prog Tryz.f22.results.toList R))) e w = ledger_Check_L8 R (e 1) (e 3) (e 4) (e 143) (e 144) (e 145) w := loop_seg (F := ledger_Check_L8F R) (sel := fun e => [e 1, e 3, e 4, e 143, e 144, e 145]) fun N1 => (ledger_Check_s7_eq R N1)
def ledger_Check_s9 (R : Value → World → Prop) (x1 x3 x4 : Value) (w : World) : Prop :=
  fa 2 x1 fun t142 =>
  ld1 t142 w fun t143 =>
  lenL t143 fun t144 =>
  ledger_Check_L8 R x1 x3 x4 t143 t144 (.int .i64 0) w
theorem ledger_Check_s9_eq (R : Value → World → Prop) : ∀ e w, lift Tryz.prog 221 (sub (bodyOf Tryz.f22) [1, 1, 1, 1, 1, 0]) (seqK (fun e w => ledger_Check_s3 R (e 1) (e 3) (e 4) w) (finK Tryz.prog Tryz.f22.results.toList R)) e w = ledger_Check_s9 R (e 1) (e 3) (e 4) w :=
  segs_eq (l := [(sub (bodyOf Tryz.f22) [1, 1, 1, 1, 1, 0, 0])]) (y := (sub (bodyOf Tryz.f22) [1, 1, 1, 1, 1, 0, 1])) (Y := (fun e w => ledger_Check_L8 R (e 1) (e 3) (e 4) (e 143) (e 144) (e 145) w)) (ledger_Check_L8_eq R) (fun e w => by kernel_rfl)
def ledger_Check_s10 (R : Value → World → Prop) (N1 : List Value → World → Prop) (x1 x3 x4 x98 x99 x100 : Value) (w : World) : Prop :=
  qG Tryz.prog (bq .add 3 (.tmp 100) (.const (.int .i64 1)) x100 (.int .i64 1)) w fun t141 =>
  N1 [x1, x3, x4, x98, x99, t141] w
theorem ledger_Check_s10_eq (R : Value → World → Prop) (N1 : List Value → World → Prop) : ∀ e w, lift Tryz.prog 221 (sub (bodyOf Tryz.f22) [1, 1, 1, 1, 0, 1, 0, 0, 1, 1, 1]) (seqK (fun e w => N1 [e 1, e 3, e 4, e 98, e 99, e 100] w) (blockK 2 (seqK (fun e w => ledger_Check_s9 R (e 1) (e 3) (e 4) w) (finK Tryz.prog Tryz.f22.results.toList R)))) e w = ledger_Check_s10 R N1 (e 1) (e 3) (e 4) (e 98) (e 99) (e 100) w := fun e w => by kernel_rfl
def ledger_Check_s11 (R : Value → World → Prop) (N1 : List Value → World → Prop) (x1 x3 x4 x8 x9 x98 x99 x100 : Value) (w : World) : Prop :=
  fa 4 x8 fun t129 =>
  ld1 t129 w fun t130 =>
  qG Tryz.prog (bq .eql 3 (.tmp 130) (.const (.int .i64 0)) t130 (.int .i64 0)) w fun t131 =>
  bV t131
  (ldn 2 x9 w fun t133 =>
  fa 3 x8 fun t135 =>
  ld1 t135 w fun t136 =>
  bsl 3 1 1 (zc Tryz.prog 3) #[(0, t136)] w fun t137 w =>
  eG Tryz.prog (Instr.mapEntry 97 x3 t133) w fun t138 w =>
  qG Tryz.prog (Instr.extract t138 0) w fun t134 =>
  app 3 1 8 (zc Tryz.prog 3) t134 t137 w fun t139 w =>
  qG Tryz.prog (Instr.extract t138 1) w fun t140 =>
  uG Tryz.prog (Instr.entryStore 97 x3 t140 t139) w fun w =>
  ledger_Check_s10 R N1 x1 x3 x4 x98 x99 x100 w)
  (ledger_Check_s10 R N1 x1 x3 x4 x98 x99 x100 w)
theorem ledger_Check_s11_eq (R : Value → World → Prop) (N1 : List Value → World → Prop) : ∀ e w, lift Tryz.prog 221 (sub (bodyOf Tryz.f22) [1, 1, 1, 1, 0, 1, 0, 0, 1, 1, 0, 0, 1, 1, 1, 1]) (blockK 3 (seqK (fun e w => ledger_Check_s10 R N1 (e 1) (e 3) (e 4) (e 98) (e 99) (e 100) w) (seqK (fun e w => N1 [e 1, e 3, e 4, e 98, e 99, e 100] w) (blockK 2 (seqK (fun e w => ledger_Check_s9 R (e 1) (e 3) (e 4) w) (finK Tryz.prog Tryz.f22.results.toList R)))))) e w = ledger_Check_s11 R N1 (e 1) (e 3) (e 4) (e 8) (e 9) (e 98) (e 99) (e 100) w := fun e w => by kernel_rfl
def ledger_Check_s12 (R : Value → World → Prop) (N1 : List Value → World → Prop) (x1 x3 x4 x98 x99 x100 : Value) (w : World) : Prop :=
  ia 6 x98 x100 fun t103 =>
  ldn 6 t103 w fun t104 =>
  newG (zc Tryz.prog 70) 70 w fun t8 w =>
  stn 6 t8 t104 w fun w =>
  fa 1 t8 fun t105 =>
  ld1 t105 w fun t106 =>
  fa 2 t8 fun t107 =>
  ld1 t107 w fun t108 =>
  bld [(0, 1), (1, 1)] (zc Tryz.prog 101) #[(0, t106), (1, t108)] fun t109 =>
  newG (zc Tryz.prog 101) 101 w fun t9 w =>
  stn 2 t9 t109 w fun w =>
  ldn 2 t9 w fun t112 =>
  qG Tryz.prog (Instr.lookup 97 x3 t112 true) w fun t113 =>
  qG Tryz.prog (Instr.extract t113 0) w fun t114 =>
  qG Tryz.prog (Instr.extract t113 1) w fun t115 =>
  ldn 6 t8 w fun t117 =>
  callG Tryz.prog 54 #[x100, t117] w fun t118 w =>
  qG Tryz.prog (Op.unary .not t118) w fun t119 =>
  bV t119
  (R (.int .i64 1) w)
  (fa 4 t8 fun t121 =>
  ld1 t121 w fun t122 =>
  qG Tryz.prog (bq .eql 3 (.tmp 122) (.const (.int .i64 0)) t122 (.int .i64 0)) w fun t123 =>
  bV t123
  (qG Tryz.prog (Op.unary .not t115) w fun t126 =>
  bV t126
  (R (.int .i64 1) w)
  (ledger_Check_s11 R N1 x1 x3 x4 t8 t9 x98 x99 x100 w))
  (ledger_Check_s11 R N1 x1 x3 x4 t8 t9 x98 x99 x100 w))
theorem ledger_Check_s12_eq (R : Value → World → Prop) (N1 : List Value → World → Prop) : ∀ e w, lift Tryz.prog 221 (sub (bodyOf Tryz.f22) [1, 1, 1, 1, 0, 1, 0, 0, 1, 1, 0, 0]) (blockK 3 (seqK (fun e w => ledger_Check_s10 R N1 (e 1) (e 3) (e 4) (e 98) (e 99) (e 100) w) (seqK (fun e w => N1 [e 1, e 3, e 4, e 98, e 99, e 100] w) (blockK 2 (seqK (fun e w => ledger_Check_s9 R (e 1) (e 3) (e 4) w) (finK Tryz.prog Tryz.f22.results.toList R)))))) e w = ledger_Check_s12 R N1 (e 1) (e 3) (e 4) (e 98) (e 99) (e 100) w :=
  segs_eq (l := [(sub (bodyOf Tryz.f22) [1, 1, 1, 1, 0, 1, 0, 0, 1, 1, 0, 0, 0]), (sub (bodyOf Tryz.f22) [1, 1, 1, 1, 0, 1, 0, 0, 1, 1, 0, 0, 1, 0]), (sub (bodyOf Tryz.f22) [1, 1, 1, 1, 0, 1, 0, 0, 1, 1, 0, 0, 1, 1, 0]), (sub (bodyOf Tryz.f22) [1, 1, 1, 1, 0, 1, 0, 0, 1, 1, 0, 0, 1, 1, 1, 0])]) (y := (sub (bodyOf Tryz.f22) [1, 1, 1, 1, 0, 1, 0, 0, 1, 1, 0, 0, 1, 1, 1, 1])) (Y := (fun e w => ledger_Check_s11 R N1 (e 1) (e 3) (e 4) (e 8) (e 9) (e 98) (e 99) (e 100) w)) (ledger_Check_s11_eq R N1) (fun e w => by kernel_rfl)
def ledger_Check_s13 (R : Value → World → Prop) (N1 : List Value → World → Prop) (x1 x3 x4 x98 x99 x100 : Value) (w : World) : Prop :=
  qG Tryz.prog (bq .lss 3 (.tmp 100) (.tmp 99) x100 x99) w fun t101 =>
  bV t101
  (ledger_Check_s12 R N1 x1 x3 x4 x98 x99 x100 w)
  (ledger_Check_s9 R x1 x3 x4 w)
theorem ledger_Check_s13_eq (R : Value → World → Prop) (N1 : List Value → World → Prop) : ∀ e w, lift Tryz.prog 221 (sub (bodyOf Tryz.f22) [1, 1, 1, 1, 0, 1, 0, 0]) (seqK (fun e w => N1 [e 1, e 3, e 4, e 98, e 99, e 100] w) (blockK 2 (seqK (fun e w => ledger_Check_s9 R (e 1) (e 3) (e 4) w) (finK Tryz.prog Tryz.f22.results.toList R)))) e w = ledger_Check_s13 R N1 (e 1) (e 3) (e 4) (e 98) (e 99) (e 100) w :=
  segs_eq (l := [(sub (bodyOf Tryz.f22) [1, 1, 1, 1, 0, 1, 0, 0, 0]), (sub (bodyOf Tryz.f22) [1, 1, 1, 1, 0, 1, 0, 0, 1, 0])]) (y := (sub (bodyOf Tryz.f22) [1, 1, 1, 1, 0, 1, 0, 0, 1, 1])) (Y := (fun e w => ledger_Check_s12 R N1 (e 1) (e 3) (e 4) (e 98) (e 99) (e 100) w)) (seq_seg (x := (sub (bodyOf Tryz.f22) [1, 1, 1, 1, 0, 1, 0, 0, 1, 1, 0])) (y := (sub (bodyOf Tryz.f22) [1, 1, 1, 1, 0, 1, 0, 0, 1, 1, 1])) (ledger_Check_s10_eq R N1) (ledger_Check_s12_eq R N1)) (fun e w => by kernel_rfl)
def ledger_Check_L14F (R : Value → World → Prop) (N1 : List Value → World → Prop) (xs : List Value) (w : World) : Prop :=
  match xs with
  | [x1, x3, x4, x98, x99, x100] => ledger_Check_s13 R N1 x1 x3 x4 x98 x99 x100 w
  | _ => False
def ledger_Check_L14 (R : Value → World → Prop) (x1 x3 x4 x98 x99 x100 : Value) (w : World) : Prop :=
  ∃ m, loopV (ledger_Check_L14F R) m [x1, x3, x4, x98, x99, x100] w
theorem ledger_Check_L14_eq (R : Value → World → Prop) : ∀ e w, lift Tryz.prog 221 (sub (bodyOf Tryz.f22) [1, 1, 1, 1, 0, 1, 0]) (blockK 2 (seqK (fun e w => ledger_Check_s9 R (e 1) (e 3) (e 4) w) (finK Tryz.prog Tryz.f22.results.toList R))) e w = ledger_Check_L14 R (e 1) (e 3) (e 4) (e 98) (e 99) (e 100) w := loop_seg (F := ledger_Check_L14F R) (sel := fun e => [e 1, e 3, e 4, e 98, e 99, e 100]) fun N1 => (ledger_Check_s13_eq R N1)
def ledger_Check_s15 (R : Value → World → Prop) (x1 x3 x4 : Value) (w : World) : Prop :=
  fa 1 x1 fun t97 =>
  ld1 t97 w fun t98 =>
  lenL t98 fun t99 =>
  ledger_Check_L14 R x1 x3 x4 t98 t99 (.int .i64 0) w
theorem ledger_Check_s15_eq (R : Value → World → Prop) : ∀ e w, lift Tryz.prog 221 (sub (bodyOf Tryz.f22) [1, 1, 1, 1, 0]) (seqK (fun e w => ledger_Check_s9 R (e 1) (e 3) (e 4) w) (finK Tryz.prog Tryz.f22.results.toList R)) e w = ledger_Check_s15 R (e 1) (e 3) (e 4) w :=
  segs_eq (l := [(sub (bodyOf Tryz.f22) [1, 1, 1, 1, 0, 0])]) (y := (sub (bodyOf Tryz.f22) [1, 1, 1, 1, 0, 1])) (Y := (fun e w => ledger_Check_L14 R (e 1) (e 3) (e 4) (e 98) (e 99) (e 100) w)) (ledger_Check_L14_eq R) (fun e w => by kernel_rfl)
def ledger_Check_s16 (R : Value → World → Prop) (N1 : List Value → World → Prop) (x1 x3 x4 x42 x43 x44 : Value) (w : World) : Prop :=
  qG Tryz.prog (bq .add 3 (.tmp 44) (.const (.int .i64 1)) x44 (.int .i64 1)) w fun t96 =>
  N1 [x1, x3, x4, x42, x43, t96] w
theorem ledger_Check_s16_eq (R : Value → World → Prop) (N1 : List Value → World → Prop) : ∀ e w, lift Tryz.prog 221 (sub (bodyOf Tryz.f22) [1, 1, 1, 0, 1, 0, 0, 1, 1, 1]) (seqK (fun e w => N1 [e 1, e 3, e 4, e 42, e 43, e 44] w) (blockK 0 (seqK (fun e w => ledger_Check_s15 R (e 1) (e 3) (e 4) w) (finK Tryz.prog Tryz.f22.results.toList R)))) e w = ledger_Check_s16 R N1 (e 1) (e 3) (e 4) (e 42) (e 43) (e 44) w := fun e w => by kernel_rfl
def ledger_Check_s17 (R : Value → World → Prop) (N1 : List Value → World → Prop) (x1 x3 x4 x6 x42 x43 x44 : Value) (w : World) : Prop :=
  ldn 4 x6 (World.drew w) fun t89 =>
  ldn 4 x6 (World.drew w) fun t92 =>
  callG Tryz.prog 53 #[t89] (World.drew w) fun t90 w =>
  ldn 4 x6 w (fun u => u = t92) ∧
  callG Tryz.prog 53 #[t92] w fun t93 w =>
  eG Tryz.prog (Instr.mapEntry 97 x3 t90) w fun t94 w =>
  qG Tryz.prog (Instr.extract t94 1) w fun t95 =>
  uG Tryz.prog (Instr.entryStore 97 x3 t95 (.slice none 0 0)) w fun w =>
  uG Tryz.prog (Instr.mapUpdate 97 x4 t93 (.slice none 0 0)) w fun w =>
  ledger_Check_s16 R N1 x1 x3 x4 x42 x43 x44 w
theorem ledger_Check_s17_eq (R : Value → World → Prop) (N1 : List Value → World → Prop) : ∀ e w, lift Tryz.prog 221 (sub (bodyOf Tryz.f22) [1, 1, 1, 0, 1, 0, 0, 1, 1, 0, 0, 1, 1]) (blockK 1 (seqK (fun e w => ledger_Check_s16 R N1 (e 1) (e 3) (e 4) (e 42) (e 43) (e 44) w) (seqK (fun e w => N1 [e 1, e 3, e 4, e 42, e 43, e 44] w) (blockK 0 (seqK (fun e w => ledger_Check_s15 R (e 1) (e 3) (e 4) w) (finK Tryz.prog Tryz.f22.results.toList R)))))) e w = ledger_Check_s17 R N1 (e 1) (e 3) (e 4) (e 6) (e 42) (e 43) (e 44) w := fun e w => by kernel_rfl
def ledger_Check_s18 (R : Value → World → Prop) (N1 : List Value → World → Prop) (x1 x3 x4 x42 x43 x44 : Value) (w : World) : Prop :=
  ia 4 x42 x44 fun t47 =>
  ldn 4 t47 w fun t48 =>
  newG (zc Tryz.prog 48) 48 w fun t6 w =>
  stn 4 t6 t48 w fun w =>
  fa 0 t6 fun t49 =>
  ld1 t49 (World.drew w) fun t50 =>
  callG Tryz.prog 51 #[t50] (World.drew w) fun t51 w =>
  qG Tryz.prog (Op.unary .not t51) w fun t52 =>
  bV t52
  (R (.int .i64 1) w)
  (fa 1 t6 fun t54 =>
  ld1 t54 w fun t55 =>
  callG Tryz.prog 51 #[t55] w fun t56 w =>
  qG Tryz.prog (Op.unary .not t56) w fun t57 =>
  bV t57
  (R (.int .i64 1) w)
  (fa 3 t6 fun t60 =>
  ld1 t60 w fun t61 =>
  qG Tryz.prog (bq .lss 3 (.tmp 61) (.const (.int .i64 0)) t61 (.int .i64 0)) w fun t62 =>
  bV t62
  (R (.int .i64 1) w)
  (fa 3 t6 fun t65 =>
  ld1 t65 w fun t66 =>
  fa 2 t6 fun t67 =>
  ld1 t67 w fun t68 =>
  qG Tryz.prog (bq .gtr 3 (.tmp 66) (.tmp 68) t66 t68) w fun t69 =>
  bV t69
  (R (.int .i64 1) w)
  (qG Tryz.prog (bq .gtr 3 (.tmp 72) (.const (.int .i64 0)) x44 (.int .i64 0)) w fun t73 =>
  bV t73
  (fa 0 x1 fun t75 =>
  ld1 t75 w fun t76 =>
  qG Tryz.prog (bq .sub 3 (.tmp 77) (.const (.int .i64 1)) x44 (.int .i64 1)) w fun t78 =>
  ia 4 t76 t78 fun t79 =>
  ldn 4 t79 w fun t80 =>
  ldn 4 t6 w fun t82 =>
  callG Tryz.prog 53 #[t80] w fun t81 w =>
  ldn 4 t6 w (fun u => u = t82) ∧
  callG Tryz.prog 53 #[t82] w fun t83 w =>
  callG Tryz.prog 52 #[t81, t83] w fun t84 w =>
  qG Tryz.prog (bq .geq 3 (.tmp 84) (.const (.int .i64 0)) t84 (.int .i64 0)) w fun t85 =>
  bV t85
  (R (.int .i64 1) w)
  (ledger_Check_s17 R N1 x1 x3 x4 t6 x42 x43 x44 w))
  (ledger_Check_s17 R N1 x1 x3 x4 t6 x42 x43 x44 w)))))
theorem ledger_Check_s18_eq (R : Value → World → Prop) (N1 : List Value → World → Prop) : ∀ e w, lift Tryz.prog 221 (sub (bodyOf Tryz.f22) [1, 1, 1, 0, 1, 0, 0, 1, 1, 0, 0]) (blockK 1 (seqK (fun e w => ledger_Check_s16 R N1 (e 1) (e 3) (e 4) (e 42) (e 43) (e 44) w) (seqK (fun e w => N1 [e 1, e 3, e 4, e 42, e 43, e 44] w) (blockK 0 (seqK (fun e w => ledger_Check_s15 R (e 1) (e 3) (e 4) w) (finK Tryz.prog Tryz.f22.results.toList R)))))) e w = ledger_Check_s18 R N1 (e 1) (e 3) (e 4) (e 42) (e 43) (e 44) w :=
  segs_eq (l := [(sub (bodyOf Tryz.f22) [1, 1, 1, 0, 1, 0, 0, 1, 1, 0, 0, 0]), (sub (bodyOf Tryz.f22) [1, 1, 1, 0, 1, 0, 0, 1, 1, 0, 0, 1, 0])]) (y := (sub (bodyOf Tryz.f22) [1, 1, 1, 0, 1, 0, 0, 1, 1, 0, 0, 1, 1])) (Y := (fun e w => ledger_Check_s17 R N1 (e 1) (e 3) (e 4) (e 6) (e 42) (e 43) (e 44) w)) (ledger_Check_s17_eq R N1) (fun e w => by kernel_rfl)
def ledger_Check_s19 (R : Value → World → Prop) (N1 : List Value → World → Prop) (x1 x3 x4 x42 x43 x44 : Value) (w : World) : Prop :=
  qG Tryz.prog (bq .lss 3 (.tmp 44) (.tmp 43) x44 x43) w fun t45 =>
  bV t45
  (ledger_Check_s18 R N1 x1 x3 x4 x42 x43 x44 w)
  (ledger_Check_s15 R x1 x3 x4 w)
theorem ledger_Check_s19_eq (R : Value → World → Prop) (N1 : List Value → World → Prop) : ∀ e w, lift Tryz.prog 221 (sub (bodyOf Tryz.f22) [1, 1, 1, 0, 1, 0, 0]) (seqK (fun e w => N1 [e 1, e 3, e 4, e 42, e 43, e 44] w) (blockK 0 (seqK (fun e w => ledger_Check_s15 R (e 1) (e 3) (e 4) w) (finK Tryz.prog Tryz.f22.results.toList R)))) e w = ledger_Check_s19 R N1 (e 1) (e 3) (e 4) (e 42) (e 43) (e 44) w :=
  segs_eq (l := [(sub (bodyOf Tryz.f22) [1, 1, 1, 0, 1, 0, 0, 0]), (sub (bodyOf Tryz.f22) [1, 1, 1, 0, 1, 0, 0, 1, 0])]) (y := (sub (bodyOf Tryz.f22) [1, 1, 1, 0, 1, 0, 0, 1, 1])) (Y := (fun e w => ledger_Check_s18 R N1 (e 1) (e 3) (e 4) (e 42) (e 43) (e 44) w)) (seq_seg (x := (sub (bodyOf Tryz.f22) [1, 1, 1, 0, 1, 0, 0, 1, 1, 0])) (y := (sub (bodyOf Tryz.f22) [1, 1, 1, 0, 1, 0, 0, 1, 1, 1])) (ledger_Check_s16_eq R N1) (ledger_Check_s18_eq R N1)) (fun e w => by kernel_rfl)
def ledger_Check_L20F (R : Value → World → Prop) (N1 : List Value → World → Prop) (xs : List Value) (w : World) : Prop :=
  match xs with
  | [x1, x3, x4, x42, x43, x44] => ledger_Check_s19 R N1 x1 x3 x4 x42 x43 x44 w
  | _ => False
def ledger_Check_L20 (R : Value → World → Prop) (x1 x3 x4 x42 x43 x44 : Value) (w : World) : Prop :=
  ∃ m, loopV (ledger_Check_L20F R) m [x1, x3, x4, x42, x43, x44] w
theorem ledger_Check_L20_eq (R : Value → World → Prop) : ∀ e w, lift Tryz.prog 221 (sub (bodyOf Tryz.f22) [1, 1, 1, 0, 1, 0]) (blockK 0 (seqK (fun e w => ledger_Check_s15 R (e 1) (e 3) (e 4) w) (finK Tryz.prog Tryz.f22.results.toList R))) e w = ledger_Check_L20 R (e 1) (e 3) (e 4) (e 42) (e 43) (e 44) w := loop_seg (F := ledger_Check_L20F R) (sel := fun e => [e 1, e 3, e 4, e 42, e 43, e 44]) fun N1 => (ledger_Check_s19_eq R N1)
def ledger_Check_s21 (R : Value → World → Prop) (x1 x3 x4 : Value) (w : World) : Prop :=
  fa 0 x1 fun t41 =>
  ld1 t41 w fun t42 =>
  lenL t42 fun t43 =>
  ledger_Check_L20 R x1 x3 x4 t42 t43 (.int .i64 0) w
theorem ledger_Check_s21_eq (R : Value → World → Prop) : ∀ e w, lift Tryz.prog 221 (sub (bodyOf Tryz.f22) [1, 1, 1, 0]) (seqK (fun e w => ledger_Check_s15 R (e 1) (e 3) (e 4) w) (finK Tryz.prog Tryz.f22.results.toList R)) e w = ledger_Check_s21 R (e 1) (e 3) (e 4) w :=
  segs_eq (l := [(sub (bodyOf Tryz.f22) [1, 1, 1, 0, 0])]) (y := (sub (bodyOf Tryz.f22) [1, 1, 1, 0, 1])) (Y := (fun e w => ledger_Check_L20 R (e 1) (e 3) (e 4) (e 42) (e 43) (e 44) w)) (ledger_Check_L20_eq R) (fun e w => by kernel_rfl)
def ledger_Check_s22 (R : Value → World → Prop) (x1 : Value) (w : World) : Prop :=
  eG Tryz.prog (Instr.makeMap 97 none) w fun t39 w =>
  eG Tryz.prog (Instr.makeMap 97 none) w fun t40 w =>
  ledger_Check_s21 R x1 t39 t40 w
theorem ledger_Check_s22_eq (R : Value → World → Prop) : ∀ e w, lift Tryz.prog 221 (sub (bodyOf Tryz.f22) [1, 1]) (finK Tryz.prog Tryz.f22.results.toList R) e w = ledger_Check_s22 R (e 1) w :=
  segs_eq (l := [(sub (bodyOf Tryz.f22) [1, 1, 0])]) (y := (sub (bodyOf Tryz.f22) [1, 1, 1])) (Y := (fun e w => ledger_Check_s21 R (e 1) (e 3) (e 4) w)) (seq_seg (x := (sub (bodyOf Tryz.f22) [1, 1, 1, 0])) (y := (sub (bodyOf Tryz.f22) [1, 1, 1, 1])) (seq_seg (x := (sub (bodyOf Tryz.f22) [1, 1, 1, 1, 0])) (y := (sub (bodyOf Tryz.f22) [1, 1, 1, 1, 1])) (seq_seg (x := (sub (bodyOf Tryz.f22) [1, 1, 1, 1, 1, 0])) (y := (sub (bodyOf Tryz.f22) [1, 1, 1, 1, 1, 1])) (seq_seg (x := (sub (bodyOf Tryz.f22) [1, 1, 1, 1, 1, 1, 0])) (y := (sub (bodyOf Tryz.f22) [1, 1, 1, 1, 1, 1, 1])) (ledger_Check_s0_eq R) (ledger_Check_s3_eq R)) (ledger_Check_s9_eq R)) (ledger_Check_s15_eq R)) (ledger_Check_s21_eq R)) (fun e w => by kernel_rfl)
def ledger_Check_s23 (R : Value → World → Prop) (x0 : Value) (w : World) : Prop :=
  newG (Value.cells x0) 26 w fun t1 w =>
  fa 3 t1 fun t23 =>
  ld1 t23 w fun t24 =>
  qG Tryz.prog (bq .lss 3 (.tmp 24) (.const (.int .i64 0)) t24 (.int .i64 0)) w fun t25 =>
  bV t25
  (R (.int .i64 1) w)
  (fa 0 t1 fun t27 =>
  ld1 t27 w fun t28 =>
  lenL t28 fun t29 =>
  fa 1 t1 fun t30 =>
  ld1 t30 w fun t31 =>
  lenL t31 fun t32 =>
  fa 2 t1 fun t33 =>
  ld1 t33 w fun t34 =>
  lenL t34 fun t35 =>
  qG Tryz.prog (Builtin.max_ #[3, 3, 3] 3 #[t29, t32, t35]) w fun t36 =>
  qG Tryz.prog (bq .gtr 3 (.tmp 36) (.const (.int .i64 4096)) t36 (.int .i64 4096)) w fun t37 =>
  bV t37
  (R (.int .i64 1) w)
  (ledger_Check_s22 R t1 w))
theorem ledger_Check_s23_eq (R : Value → World → Prop) : ∀ e w, lift Tryz.prog 221 (bodyOf Tryz.f22) (finK Tryz.prog Tryz.f22.results.toList R) e w = ledger_Check_s23 R (e 0) w :=
  segs_eq (l := [(sub (bodyOf Tryz.f22) [0]), (sub (bodyOf Tryz.f22) [1, 0])]) (y := (sub (bodyOf Tryz.f22) [1, 1])) (Y := (fun e w => ledger_Check_s22 R (e 1) w)) (ledger_Check_s22_eq R) (fun e w => by kernel_rfl)
def ledger_Check (R : Value → World → Prop) (x0 : Value) (w : World) : Prop := ledger_Check_s23 R x0 w
theorem ledger_Check_call {R : Value → World → Prop} {x0 : Value} {w : World} (h : ledger_Check R x0 w) : callG Tryz.prog 22 #[x0] w R :=
  calls_lift_eq Tryz.mixed Tryz.func22 (args := [x0]) rfl rfl rfl rfl ((ledger_Check_s23_eq R) (envOf [x0]) w) (by kernel_rfl) h
end Go.Proofs

