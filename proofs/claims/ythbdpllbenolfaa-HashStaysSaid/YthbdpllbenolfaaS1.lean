/- Part of the proof (S1): an engine, rules or contracts of the functions; it states nothing of the claim by itself. -/
import Derived.Test.YthbdpllbenolfaaProg
import Derived.Test.YthbdpllbenolfaaS0
import Derived.KernelRfl
import Derived.Below
import Derived.Laws.Append
import Derived.ChangeArms
import Derived.DataReads
import Derived.Laws.StructEq
import Derived.Lib.Overlaps
import Derived.MapKept
import Derived.WideKeyRuns

set_option linter.unusedVariables false
set_option linter.unusedSimpArgs false
namespace Go.Proofs
theorem Try.mixed : Try.prog.follows .mixedOrders = true := by kernel_rfl
end Go.Proofs

set_option linter.unusedVariables false
set_option linter.unusedSimpArgs false
namespace Go.Proofs
open Go Go.Q
set_option maxRecDepth 100000
/-! quayside/value.Check -/
def value_Check_s0 (R : Value → World → Prop) (x0 : Value) (w : World) : Prop :=
  newG (Value.cells x0) 24 w fun t1 w =>
  fa 0 t1 fun t4 =>
  ld1 t4 w fun t5 =>
  qG Try.prog (bq .eql 3 (.tmp 5) (.const (.int .i64 0)) t5 (.int .i64 0)) w fun t7 =>
  bV t7
  (ldn 3 t1 w fun t8 =>
  bld [(0, 1), (1, 1), (2, 1)] (zc Try.prog 24) #[] fun t9 =>
  qG Try.prog (bq .eql 24 (.tmp 8) (.tmp 9) t8 t9) w fun t10 =>
  qG Try.prog (Op.unary .not t10) w fun t40 =>
  bV t40
  (R (.int .i64 1) w)
  (R (.int .i64 0) w))
  (qG Try.prog (bq .eql 3 (.tmp 5) (.const (.int .i64 1)) t5 (.int .i64 1)) w fun t12 =>
  bV t12
  (ldn 3 t1 w fun t13 =>
  fa 1 t1 fun t14 =>
  ld1 t14 w fun t15 =>
  bld [(0, 1), (1, 1), (2, 1)] (zc Try.prog 24) #[(0, (.int .i64 1)), (1, t15)] fun t16 =>
  qG Try.prog (bq .eql 24 (.tmp 13) (.tmp 16) t13 t16) w fun t17 =>
  qG Try.prog (Op.unary .not t17) w fun t40_1 =>
  bV t40_1
  (R (.int .i64 1) w)
  (R (.int .i64 0) w))
  (qG Try.prog (bq .eql 3 (.tmp 5) (.const (.int .i64 2)) t5 (.int .i64 2)) w fun t19 =>
  bV t19
  (ldn 3 t1 w fun t20 =>
  fa 2 t1 fun t21 =>
  ld1 t21 w fun t22 =>
  bld [(0, 1), (1, 1), (2, 1)] (zc Try.prog 24) #[(0, (.int .i64 2)), (2, t22)] fun t23 =>
  qG Try.prog (bq .eql 24 (.tmp 20) (.tmp 23) t20 t23) w fun t24 =>
  bV t24
  (fa 2 t1 fun t26 =>
  ld1 t26 w fun t27 =>
  lenS t27 fun t28 =>
  qG Try.prog (bq .leq 3 (.tmp 28) (.const (.int .i64 64)) t28 (.int .i64 64)) w fun t29 =>
  qG Try.prog (Op.unary .not t29) w fun t40_2 =>
  bV t40_2
  (R (.int .i64 1) w)
  (R (.int .i64 0) w))
  (qG Try.prog (Op.unary .not (.bool false)) w fun t40_3 =>
  bV t40_3
  (R (.int .i64 1) w)
  (R (.int .i64 0) w)))
  (qG Try.prog (bq .eql 3 (.tmp 5) (.const (.int .i64 3)) t5 (.int .i64 3)) w fun t32 =>
  bV t32
  (ldn 3 t1 w fun t33 =>
  fa 1 t1 fun t34 =>
  ld1 t34 w fun t35 =>
  qG Try.prog (bq .and 3 (.tmp 35) (.const (.int .i64 1)) t35 (.int .i64 1)) w fun t36 =>
  bld [(0, 1), (1, 1), (2, 1)] (zc Try.prog 24) #[(0, (.int .i64 3)), (1, t36)] fun t37 =>
  qG Try.prog (bq .eql 24 (.tmp 33) (.tmp 37) t33 t37) w fun t38 =>
  qG Try.prog (Op.unary .not t38) w fun t40_4 =>
  bV t40_4
  (R (.int .i64 1) w)
  (R (.int .i64 0) w))
  (qG Try.prog (Op.unary .not (.bool false)) w fun t40_5 =>
  bV t40_5
  (R (.int .i64 1) w)
  (R (.int .i64 0) w)))))
theorem value_Check_s0_eq (R : Value → World → Prop) : ∀ e w, lift Try.prog 41 (bodyOf Try.f22) (finK Try.prog Try.f22.results.toList R) e w = value_Check_s0 R (e 0) w := fun e w => by kernel_rfl
def value_Check (R : Value → World → Prop) (x0 : Value) (w : World) : Prop := value_Check_s0 R x0 w
theorem value_Check_call {R : Value → World → Prop} {x0 : Value} {w : World} (h : value_Check R x0 w) : callG Try.prog 22 #[x0] w R :=
  calls_lift_eq Try.mixed Try.func22 (args := [x0]) rfl rfl rfl rfl ((value_Check_s0_eq R) (envOf [x0]) w) (by kernel_rfl) h
/-! quayside/quaysideref05.May -/
def ref05_May_s0 (R : Value → World → Prop) (x0 : Value) (w : World) : Prop :=
  newG (Value.cells x0) 24 w fun t1 w =>
  fa 0 t1 fun t3 =>
  ld1 t3 w fun t4 =>
  qG Try.prog (bq .eql 3 (.tmp 4) (.const (.int .i64 0)) t4 (.int .i64 0)) w fun t6 =>
  bV t6
  (fa 1 t1 fun t7 =>
  ld1 t7 w fun t8 =>
  qG Try.prog (bq .eql 3 (.tmp 8) (.const (.int .i64 0)) t8 (.int .i64 0)) w fun t9 =>
  bV t9
  (fa 2 t1 fun t11 =>
  ld1 t11 w fun t12 =>
  qG Try.prog (bq .eql 9 (.tmp 12) (.const (.string ⟨#[]⟩)) t12 (.string ⟨#[]⟩)) w fun t13 =>
  R t13 w)
  (R (.bool false) w))
  (qG Try.prog (bq .eql 3 (.tmp 4) (.const (.int .i64 1)) t4 (.int .i64 1)) w fun t16 =>
  bV t16
  (fa 2 t1 fun t17 =>
  ld1 t17 w fun t18 =>
  qG Try.prog (bq .eql 9 (.tmp 18) (.const (.string ⟨#[]⟩)) t18 (.string ⟨#[]⟩)) w fun t19 =>
  R t19 w)
  (qG Try.prog (bq .eql 3 (.tmp 4) (.const (.int .i64 2)) t4 (.int .i64 2)) w fun t21 =>
  bV t21
  (fa 1 t1 fun t22 =>
  ld1 t22 w fun t23 =>
  qG Try.prog (bq .eql 3 (.tmp 23) (.const (.int .i64 0)) t23 (.int .i64 0)) w fun t24 =>
  bV t24
  (fa 2 t1 fun t26 =>
  ld1 t26 w fun t27 =>
  lenS t27 fun t28 =>
  qG Try.prog (bq .leq 3 (.tmp 28) (.const (.int .i64 64)) t28 (.int .i64 64)) w fun t29 =>
  R t29 w)
  (R (.bool false) w))
  (qG Try.prog (bq .eql 3 (.tmp 4) (.const (.int .i64 3)) t4 (.int .i64 3)) w fun t32 =>
  bV t32
  (fa 1 t1 fun t33 =>
  ld1 t33 w fun t34 =>
  qG Try.prog (bq .eql 3 (.tmp 34) (.const (.int .i64 0)) t34 (.int .i64 0)) w fun t35 =>
  bV t35
  (fa 2 t1 fun t42 =>
  ld1 t42 w fun t43 =>
  qG Try.prog (bq .eql 9 (.tmp 43) (.const (.string ⟨#[]⟩)) t43 (.string ⟨#[]⟩)) w fun t44 =>
  R t44 w)
  (fa 1 t1 fun t37 =>
  ld1 t37 w fun t38 =>
  qG Try.prog (bq .eql 3 (.tmp 38) (.const (.int .i64 1)) t38 (.int .i64 1)) w fun t39 =>
  bV t39
  (fa 2 t1 fun t42_1 =>
  ld1 t42_1 w fun t43_1 =>
  qG Try.prog (bq .eql 9 (.tmp 43) (.const (.string ⟨#[]⟩)) t43_1 (.string ⟨#[]⟩)) w fun t44_1 =>
  R t44_1 w)
  (R (.bool false) w)))
  (R (.bool false) w))))
theorem ref05_May_s0_eq (R : Value → World → Prop) : ∀ e w, lift Try.prog 46 (bodyOf Try.f17) (finK Try.prog Try.f17.results.toList R) e w = ref05_May_s0 R (e 0) w := fun e w => by kernel_rfl
def ref05_May (R : Value → World → Prop) (x0 : Value) (w : World) : Prop := ref05_May_s0 R x0 w
theorem ref05_May_call {R : Value → World → Prop} {x0 : Value} {w : World} (h : ref05_May R x0 w) : callG Try.prog 17 #[x0] w R :=
  calls_lift_eq Try.mixed Try.func17 (args := [x0]) rfl rfl rfl rfl ((ref05_May_s0_eq R) (envOf [x0]) w) (by kernel_rfl) h
/-! quayside/value.bytes -/
def value_bytes_s0 (R : Value → World → Prop) (x3 : Value) (w : World) : Prop :=
  cvBS x3 w fun t52 =>
  R t52 w
theorem value_bytes_s0_eq (R : Value → World → Prop) : ∀ e w, lift Try.prog 53 (sub (bodyOf Try.f34) [1, 1, 1]) (finK Try.prog Try.f34.results.toList R) e w = value_bytes_s0 R (e 3) w := fun e w => by kernel_rfl
def value_bytes_b1 (R : Value → World → Prop) (N1 : List Value → World → Prop) (x3 x4 x18 : Value) (w : World) : Prop :=
  qG Try.prog (bq .lss 3 (.tmp 18) (.const (.int .i64 8)) x18 (.int .i64 8)) w fun t19 =>
  bV t19
  (qG Try.prog (bq .sub 3 (.const (.int .i64 7)) (.tmp 23) (.int .i64 7) x18) w fun t24 =>
  qG Try.prog (bq .mul 3 (.const (.int .i64 8)) (.tmp 24) (.int .i64 8) t24) w fun t25 =>
  qG Try.prog (bq .shr 80 (.tmp 22) (.tmp 25) x4 t25) w fun t26 =>
  cvI .u8 t26 fun t27 =>
  bsl 5 1 1 (zc Try.prog 5) #[(0, t27)] w fun t28 w =>
  app 5 1 1 (zc Try.prog 5) x3 t28 w fun t29 w =>
  qG Try.prog (bq .add 3 (.tmp 18) (.const (.int .i64 1)) x18 (.int .i64 1)) w fun t30 =>
  N1 [t29, x4, t30] w)
  (value_bytes_s0 R x3 w)
theorem value_bytes_b1_eq (R : Value → World → Prop) (N1 : List Value → World → Prop) : ∀ e w, lift Try.prog 53 (sub (bodyOf Try.f34) [1, 1, 0, 1, 0, 1, 0, 1, 1, 0, 0]) (seqK (fun e w => N1 [e 3, e 4, e 18] w) (blockK 1 (blockK 0 (seqK (fun e w => value_bytes_s0 R (e 3) w) (finK Try.prog Try.f34.results.toList R))))) e w = value_bytes_b1 R N1 (e 3) (e 4) (e 18) w := fun e w => by kernel_rfl
def value_bytes_L2F (R : Value → World → Prop) (N1 : List Value → World → Prop) (xs : List Value) (w : World) : Prop :=
  match xs with
  | [x3, x4, x18] => value_bytes_b1 R N1 x3 x4 x18 w
  | _ => False
def value_bytes_L2 (R : Value → World → Prop) (x3 x4 x18 : Value) (w : World) : Prop :=
  ∃ m, loopV (value_bytes_L2F R) m [x3, x4, x18] w
theorem value_bytes_L2_eq (R : Value → World → Prop) : ∀ e w, lift Try.prog 53 (sub (bodyOf Try.f34) [1, 1, 0, 1, 0, 1, 0, 1, 1, 0]) (blockK 1 (blockK 0 (seqK (fun e w => value_bytes_s0 R (e 3) w) (finK Try.prog Try.f34.results.toList R)))) e w = value_bytes_L2 R (e 3) (e 4) (e 18) w := loop_seg (F := value_bytes_L2F R) (sel := fun e => [e 3, e 4, e 18]) fun N1 => (value_bytes_b1_eq R N1)
def value_bytes_s3 (R : Value → World → Prop) (x1 x3 : Value) (w : World) : Prop :=
  fa 1 x1 fun t14 =>
  ld1 t14 w fun t15 =>
  cvI .u64 t15 fun t16 =>
  qG Try.prog (bq .xor 80 (.tmp 16) (.const (.int .u64 9223372036854775808)) t16 (.int .u64 9223372036854775808)) w fun t17 =>
  value_bytes_L2 R x3 t17 (.int .i64 0) w
theorem value_bytes_s3_eq (R : Value → World → Prop) : ∀ e w, lift Try.prog 53 (sub (bodyOf Try.f34) [1, 1, 0, 1, 0, 1, 0]) (blockK 0 (seqK (fun e w => value_bytes_s0 R (e 3) w) (finK Try.prog Try.f34.results.toList R))) e w = value_bytes_s3 R (e 1) (e 3) w :=
  segs_eq (l := [(sub (bodyOf Try.f34) [1, 1, 0, 1, 0, 1, 0, 0]), (sub (bodyOf Try.f34) [1, 1, 0, 1, 0, 1, 0, 1, 0])]) (y := (sub (bodyOf Try.f34) [1, 1, 0, 1, 0, 1, 0, 1, 1])) (Y := (fun e w => value_bytes_L2 R (e 3) (e 4) (e 18) w)) (value_bytes_L2_eq R) (fun e w => by kernel_rfl)
def value_bytes_s4 (R : Value → World → Prop) (x1 x3 x11 : Value) (w : World) : Prop :=
  qG Try.prog (bq .eql 3 (.tmp 11) (.const (.int .i64 2)) x11 (.int .i64 2)) w fun t32 =>
  bV t32
  (fa 2 x1 fun t34 =>
  ld1 t34 (World.drew w) fun t35 =>
  lenS t35 fun t36 =>
  cvI .u8 t36 fun t37 =>
  fa 2 x1 fun t40 =>
  ld1 t40 (World.drew w) fun t41 =>
  bsl 5 1 1 (zc Try.prog 5) #[(0, t37)] (World.drew w) fun t38 w =>
  ld1 t40 w (fun u => u = t41) ∧
  app 5 1 1 (zc Try.prog 5) x3 t38 w fun t39 w =>
  ld1 t40 w (fun u => u = t41) ∧
  app 5 1 1 (zc Try.prog 5) t39 t41 w fun t42 w =>
  value_bytes_s0 R t42 w)
  (qG Try.prog (bq .eql 3 (.tmp 11) (.const (.int .i64 3)) x11 (.int .i64 3)) w fun t44 =>
  bV t44
  (fa 1 x1 fun t46 =>
  ld1 t46 w fun t47 =>
  cvI .u8 t47 fun t48 =>
  bsl 5 1 1 (zc Try.prog 5) #[(0, t48)] w fun t49 w =>
  app 5 1 1 (zc Try.prog 5) x3 t49 w fun t50 w =>
  value_bytes_s0 R t50 w)
  (value_bytes_s0 R x3 w))
theorem value_bytes_s4_eq (R : Value → World → Prop) : ∀ e w, lift Try.prog 53 (sub (bodyOf Try.f34) [1, 1, 0, 1, 0, 1, 1]) (blockK 0 (seqK (fun e w => value_bytes_s0 R (e 3) w) (finK Try.prog Try.f34.results.toList R))) e w = value_bytes_s4 R (e 1) (e 3) (e 11) w := fun e w => by kernel_rfl
def value_bytes_s5 (R : Value → World → Prop) (x1 x3 x11 x12 : Value) (w : World) : Prop :=
  bV x12 (value_bytes_s3 R x1 x3 w) (value_bytes_s4 R x1 x3 x11 w)
theorem value_bytes_s5_eq (R : Value → World → Prop) : ∀ e w, lift Try.prog 53 (sub (bodyOf Try.f34) [1, 1, 0, 1, 0, 1]) (blockK 0 (seqK (fun e w => value_bytes_s0 R (e 3) w) (finK Try.prog Try.f34.results.toList R))) e w = value_bytes_s5 R (e 1) (e 3) (e 11) (e 12) w := fun e w => (cond_seg (value_bytes_s3_eq R) (value_bytes_s4_eq R) e w).trans (by kernel_rfl)
def value_bytes_s6 (R : Value → World → Prop) (x1 x3 x11 : Value) (w : World) : Prop :=
  qG Try.prog (bq .eql 3 (.tmp 11) (.const (.int .i64 1)) x11 (.int .i64 1)) w fun t13 =>
  value_bytes_s5 R x1 x3 x11 t13 w
theorem value_bytes_s6_eq (R : Value → World → Prop) : ∀ e w, lift Try.prog 53 (sub (bodyOf Try.f34) [1, 1, 0, 1, 0]) (blockK 0 (seqK (fun e w => value_bytes_s0 R (e 3) w) (finK Try.prog Try.f34.results.toList R))) e w = value_bytes_s6 R (e 1) (e 3) (e 11) w :=
  segs_eq (l := [(sub (bodyOf Try.f34) [1, 1, 0, 1, 0, 0])]) (y := (sub (bodyOf Try.f34) [1, 1, 0, 1, 0, 1])) (Y := (fun e w => value_bytes_s5 R (e 1) (e 3) (e 11) (e 12) w)) (value_bytes_s5_eq R) (fun e w => by kernel_rfl)
def value_bytes_s7 (R : Value → World → Prop) (x1 x3 : Value) (w : World) : Prop :=
  fa 0 x1 fun t10 =>
  ld1 t10 w fun t11 =>
  value_bytes_s6 R x1 x3 t11 w
theorem value_bytes_s7_eq (R : Value → World → Prop) : ∀ e w, lift Try.prog 53 (sub (bodyOf Try.f34) [1, 1, 0]) (seqK (fun e w => value_bytes_s0 R (e 3) w) (finK Try.prog Try.f34.results.toList R)) e w = value_bytes_s7 R (e 1) (e 3) w :=
  segs_eq (l := [(sub (bodyOf Try.f34) [1, 1, 0, 0])]) (y := (sub (bodyOf Try.f34) [1, 1, 0, 1])) (Y := (fun e w => value_bytes_s6 R (e 1) (e 3) (e 11) w)) (value_bytes_s6_eq R) (fun e w => by kernel_rfl)
def value_bytes_s8 (R : Value → World → Prop) (x0 : Value) (w : World) : Prop :=
  newG (Value.cells x0) 24 w fun t1 w =>
  fa 0 t1 fun t6 =>
  ld1 t6 w fun t7 =>
  cvI .u8 t7 fun t8 =>
  bsl 5 1 1 (zc Try.prog 5) #[(0, t8)] w fun t9 w =>
  value_bytes_s7 R t1 t9 w
theorem value_bytes_s8_eq (R : Value → World → Prop) : ∀ e w, lift Try.prog 53 (bodyOf Try.f34) (finK Try.prog Try.f34.results.toList R) e w = value_bytes_s8 R (e 0) w :=
  segs_eq (l := [(sub (bodyOf Try.f34) [0]), (sub (bodyOf Try.f34) [1, 0])]) (y := (sub (bodyOf Try.f34) [1, 1])) (Y := (fun e w => value_bytes_s7 R (e 1) (e 3) w)) (seq_seg (x := (sub (bodyOf Try.f34) [1, 1, 0])) (y := (sub (bodyOf Try.f34) [1, 1, 1])) (value_bytes_s0_eq R) (value_bytes_s7_eq R)) (fun e w => by kernel_rfl)
def value_bytes (R : Value → World → Prop) (x0 : Value) (w : World) : Prop := value_bytes_s8 R x0 w
theorem value_bytes_call {R : Value → World → Prop} {x0 : Value} {w : World} (h : value_bytes R x0 w) : callG Try.prog 34 #[x0] w R :=
  calls_lift_eq Try.mixed Try.func34 (args := [x0]) rfl rfl rfl rfl ((value_bytes_s8_eq R) (envOf [x0]) w) (by kernel_rfl) h
end Go.Proofs

/- Rules for the printed forms: what an operation comes to when its operands are known; worlds; what is kept. -/
set_option linter.unusedVariables false
set_option linter.unusedSimpArgs false
namespace Go.Q
variable {P : Program}

theorem qG_of {s : Sem Value} {w : World} {v : Value} {K : Value → Prop} (h : s.run P w = .ok v w) : qG P s w K = K v := by
  apply propext
  constructor
  · rintro ⟨v', hr, hk⟩
    rw [h] at hr
    injection hr with h1
    subst h1; exact hk
  · exact fun hk => ⟨v, h, hk⟩
theorem stb_of {s : Sem Value} {w : World} {v u : Value} (h : s.run P w = .ok v w) : stb P s u w = (v = u) := by
  unfold stb; rw [h]; simp
/-! ### numbers -/
section
variable {T : TypeId} {xo yo : Operand} {k : IntKind} {a b : Int} {w : World} {K : Value → Prop} {u : Value}
theorem run_bq_int {op : BinOp} {s : Sem Value} (hop : ∀ w : World, (binOp op T (.int k a) (.int k b)).run P w = s.run P w) : (bq op T xo yo (.int k a) (.int k b)).run P w = s.run P w := by
  cases op <;> exact hop w
theorem run_add : (bq .add T xo yo (.int k a) (.int k b)).run P w = .ok (.int k (k.wrap (a + b))) w := run_bq_int (s := .pure _) fun w => by simp [binOp, Op.intArith]
theorem run_sub : (bq .sub T xo yo (.int k a) (.int k b)).run P w = .ok (.int k (k.wrap (a - b))) w := run_bq_int (s := .pure _) fun w => by simp [binOp, Op.intArith]
theorem run_mul : (bq .mul T xo yo (.int k a) (.int k b)).run P w = .ok (.int k (k.wrap (a * b))) w := run_bq_int (s := .pure _) fun w => by simp [binOp, Op.intArith]
theorem run_lss : (bq .lss T xo yo (.int k a) (.int k b)).run P w = .ok (.bool (decide (a < b))) w := run_bq_int (s := .pure _) fun w => by simp [binOp, Op.intCmp]
theorem run_leq : (bq .leq T xo yo (.int k a) (.int k b)).run P w = .ok (.bool (decide (a ≤ b))) w := run_bq_int (s := .pure _) fun w => by simp [binOp, Op.intCmp]
theorem run_gtr : (bq .gtr T xo yo (.int k a) (.int k b)).run P w = .ok (.bool (decide (a > b))) w := run_bq_int (s := .pure _) fun w => by simp [binOp, Op.intCmp]
theorem run_geq : (bq .geq T xo yo (.int k a) (.int k b)).run P w = .ok (.bool (decide (a ≥ b))) w := run_bq_int (s := .pure _) fun w => by simp [binOp, Op.intCmp]
theorem run_eql : (bq .eql T xo yo (.int k a) (.int k b)).run P w = .ok (.bool (decide (a = b))) w := run_bq_int (s := .pure _) fun w => by simp [binOp, Op.intCmp]; rfl
theorem run_neq : (bq .neq T xo yo (.int k a) (.int k b)).run P w = .ok (.bool (decide (a ≠ b))) w := run_bq_int (s := .pure _) fun w => by simp [binOp, Op.intCmp, bne]; rfl
@[simp] theorem bq_add : qG P (bq .add T xo yo (.int k a) (.int k b)) w K = K (.int k (k.wrap (a + b))) := qG_of run_add
@[simp] theorem bq_sub : qG P (bq .sub T xo yo (.int k a) (.int k b)) w K = K (.int k (k.wrap (a - b))) := qG_of run_sub
@[simp] theorem bq_mul : qG P (bq .mul T xo yo (.int k a) (.int k b)) w K = K (.int k (k.wrap (a * b))) := qG_of run_mul
@[simp] theorem bq_lss : qG P (bq .lss T xo yo (.int k a) (.int k b)) w K = K (.bool (decide (a < b))) := qG_of run_lss
@[simp] theorem bq_leq : qG P (bq .leq T xo yo (.int k a) (.int k b)) w K = K (.bool (decide (a ≤ b))) := qG_of run_leq
@[simp] theorem bq_gtr : qG P (bq .gtr T xo yo (.int k a) (.int k b)) w K = K (.bool (decide (a > b))) := qG_of run_gtr
@[simp] theorem bq_geq : qG P (bq .geq T xo yo (.int k a) (.int k b)) w K = K (.bool (decide (a ≥ b))) := qG_of run_geq
@[simp] theorem bq_eql : qG P (bq .eql T xo yo (.int k a) (.int k b)) w K = K (.bool (decide (a = b))) := qG_of run_eql
@[simp] theorem bq_neq : qG P (bq .neq T xo yo (.int k a) (.int k b)) w K = K (.bool (decide (a ≠ b))) := qG_of run_neq
@[simp] theorem stb_add : stb P (bq .add T xo yo (.int k a) (.int k b)) u w = (.int k (k.wrap (a + b)) = u) := stb_of run_add
@[simp] theorem stb_sub : stb P (bq .sub T xo yo (.int k a) (.int k b)) u w = (.int k (k.wrap (a - b)) = u) := stb_of run_sub
@[simp] theorem stb_mul : stb P (bq .mul T xo yo (.int k a) (.int k b)) u w = (.int k (k.wrap (a * b)) = u) := stb_of run_mul
@[simp] theorem stb_lss : stb P (bq .lss T xo yo (.int k a) (.int k b)) u w = (.bool (decide (a < b)) = u) := stb_of run_lss
@[simp] theorem stb_eql : stb P (bq .eql T xo yo (.int k a) (.int k b)) u w = (.bool (decide (a = b)) = u) := stb_of run_eql
@[simp] theorem stb_neq : stb P (bq .neq T xo yo (.int k a) (.int k b)) u w = (.bool (decide (a ≠ b)) = u) := stb_of run_neq
end
theorem run_not {b : Bool} {w : World} : (Op.unary .not (.bool b)).run P w = .ok (.bool !b) w := rfl
@[simp] theorem un_not {b : Bool} {w : World} {K : Value → Prop} : qG P (Op.unary .not (.bool b)) w K = K (.bool !b) := qG_of run_not
@[simp] theorem stb_not {b : Bool} {w : World} {u : Value} : stb P (Op.unary .not (.bool b)) u w = (.bool (!b) = u) := stb_of run_not
theorem run_extract {vs : Array Value} {i : Nat} {v : Value} {w : World} (h : vs[i]? = some v) : (Instr.extract (.tuple vs) i).run P w = .ok v w := by simp [Instr.extract, h]
@[simp] theorem ex0 {a b : Value} {w : World} {K : Value → Prop} : qG P (Instr.extract (.tuple #[a, b]) 0) w K = K a := qG_of (run_extract rfl)
@[simp] theorem ex1 {a b : Value} {w : World} {K : Value → Prop} : qG P (Instr.extract (.tuple #[a, b]) 1) w K = K b := qG_of (run_extract rfl)
@[simp] theorem ex30 {a b c : Value} {w : World} {K : Value → Prop} : qG P (Instr.extract (.tuple #[a, b, c]) 0) w K = K a := qG_of (run_extract rfl)
@[simp] theorem ex31 {a b c : Value} {w : World} {K : Value → Prop} : qG P (Instr.extract (.tuple #[a, b, c]) 1) w K = K b := qG_of (run_extract rfl)
@[simp] theorem ex32 {a b c : Value} {w : World} {K : Value → Prop} : qG P (Instr.extract (.tuple #[a, b, c]) 2) w K = K c := qG_of (run_extract rfl)
@[simp] theorem stb_ex0 {a b u : Value} {w : World} : stb P (Instr.extract (.tuple #[a, b]) 0) u w = (a = u) := stb_of (run_extract rfl)
@[simp] theorem stb_ex1 {a b u : Value} {w : World} : stb P (Instr.extract (.tuple #[a, b]) 1) u w = (b = u) := stb_of (run_extract rfl)
@[simp] theorem stb_ex30 {a b c u : Value} {w : World} : stb P (Instr.extract (.tuple #[a, b, c]) 0) u w = (a = u) := stb_of (run_extract rfl)
@[simp] theorem stb_ex31 {a b c u : Value} {w : World} : stb P (Instr.extract (.tuple #[a, b, c]) 1) u w = (b = u) := stb_of (run_extract rfl)
@[simp] theorem stb_ex32 {a b c u : Value} {w : World} : stb P (Instr.extract (.tuple #[a, b, c]) 2) u w = (c = u) := stb_of (run_extract rfl)
theorem run_max {ts : Array TypeId} {t : TypeId} {k : IntKind} {a b : Int} {w : World} : (Builtin.max_ ts t #[.int k a, .int k b]).run P w = .ok (.int k (max a b)) w := by
  simp only [Builtin.max_, List.foldlM_cons, List.foldlM_nil, Builtin.max2, pure_bind]
  show Result.ok _ _ = _
  congr 2; omega
theorem run_min {ts : Array TypeId} {t : TypeId} {k : IntKind} {a b : Int} {w : World} : (Builtin.min_ ts t #[.int k a, .int k b]).run P w = .ok (.int k (min a b)) w := by
  simp only [Builtin.min_, List.foldlM_cons, List.foldlM_nil, Builtin.min2, pure_bind]
  show Result.ok _ _ = _
  congr 2; omega
@[simp] theorem q_max {ts : Array TypeId} {t : TypeId} {k : IntKind} {a b : Int} {w : World} {K : Value → Prop} : qG P (Builtin.max_ ts t #[.int k a, .int k b]) w K = K (.int k (max a b)) := qG_of run_max
@[simp] theorem q_min {ts : Array TypeId} {t : TypeId} {k : IntKind} {a b : Int} {w : World} {K : Value → Prop} : qG P (Builtin.min_ ts t #[.int k a, .int k b]) w K = K (.int k (min a b)) := qG_of run_min
/-! ### strings, bools, pointers against nil -/
theorem toList_beq (s t : ByteArray) : (s.toList == t.toList) = decide (s = t) := by
  by_cases h : s = t
  · subst h; simp
  · have : s.toList ≠ t.toList := by
      intro h'
      apply h
      rw [ByteArray.toList_eq, ByteArray.toList_eq] at h'
      cases s; cases t
      simp only [ByteArray.mk.injEq]
      exact Array.toList_inj.1 h'
    rw [decide_eq_false h]
    exact beq_false_of_ne this
def sLt (s t : ByteArray) : Bool := Op.bytesLess s.toList t.toList
section
variable {T : TypeId} {xo yo : Operand} {a b : ByteArray} {w : World} {K : Value → Prop} {u : Value}
theorem run_bq_str {op : BinOp} {s : Sem Value} (hop : ∀ w : World, (binOp op T (.string a) (.string b)).run P w = s.run P w) : (bq op T xo yo (.string a) (.string b)).run P w = s.run P w := by
  cases op <;> exact hop w
theorem run_seql : (bq .eql T xo yo (.string a) (.string b)).run P w = .ok (.bool (decide (a = b))) w := run_bq_str (s := .pure _) fun w => by simp only [binOp, Op.stringOp, toList_beq]; rfl
theorem run_sneq : (bq .neq T xo yo (.string a) (.string b)).run P w = .ok (.bool (!decide (a = b))) w := run_bq_str (s := .pure _) fun w => by simp only [binOp, Op.stringOp, toList_beq]; rfl
theorem run_slss : (bq .lss T xo yo (.string a) (.string b)).run P w = .ok (.bool (sLt a b)) w := run_bq_str (s := .pure _) fun _ => rfl
@[simp] theorem bq_seql : qG P (bq .eql T xo yo (.string a) (.string b)) w K = K (.bool (decide (a = b))) := qG_of run_seql
@[simp] theorem bq_sneq : qG P (bq .neq T xo yo (.string a) (.string b)) w K = K (.bool (!decide (a = b))) := qG_of run_sneq
@[simp] theorem bq_slss : qG P (bq .lss T xo yo (.string a) (.string b)) w K = K (.bool (sLt a b)) := qG_of run_slss
@[simp] theorem stb_seql : stb P (bq .eql T xo yo (.string a) (.string b)) u w = (.bool (decide (a = b)) = u) := stb_of run_seql
@[simp] theorem stb_sneq : stb P (bq .neq T xo yo (.string a) (.string b)) u w = (.bool (!decide (a = b)) = u) := stb_of run_sneq
end
def isPtr (P : Program) (T : TypeId) : Bool := match P.underlying T with | some (.pointer _) => true | _ => false
def isBoolT (P : Program) (T : TypeId) : Bool := match P.underlying T with | some .bool => true | _ => false
def isSl (P : Program) (T : TypeId) : Bool := match P.underlying T with | some (.slice _) => true | _ => false
theorem run_equal1 {T : TypeId} {x y : Value} {w : World} {b : Bool} (h : (Op.equal T x y).run P w = .ok b w) (hx : ∀ c d, ¬ (x = .agg c ∧ y = .agg d)) (hn : ¬ (x = .nilIface ∧ y = .nilIface)) (xo yo : Operand)
    (he : binOp .eql T x y = (do pure (.bool (← Op.equal T x y)))) (hne : binOp .neq T x y = (do pure (.bool (!(← Op.equal T x y))))) :
    (bq .eql T xo yo x y).run P w = .ok (.bool b) w ∧ (bq .neq T xo yo x y).run P w = .ok (.bool !b) w := by
  have hg : ∀ op, op = .eql ∨ op = .neq → (eqGuard op T xo yo x y).run P w = .ok () w := by
    rintro op (rfl | rfl)
    all_goals
      unfold eqGuard
      simp only [Bool.not_true, Bool.false_eq_true, if_false]
      split
      · exact absurd ⟨rfl, rfl⟩ hn
      · exact absurd ⟨rfl, rfl⟩ (hx _ _)
      · rfl
  constructor
  · unfold bq; rw [Sem.run_bind, hg _ (.inl rfl)]; simp only [Result.andThen_ok, he, Sem.run_bind, h]; rfl
  · unfold bq; rw [Sem.run_bind, hg _ (.inr rfl)]; simp only [Result.andThen_ok, hne, Sem.run_bind, h]; rfl
section
variable {T : TypeId} {xo yo : Operand} {w : World} {K : Value → Prop} {u : Value}
theorem run_pnil (a : Option Addr) (hT : isPtr P T = true) : (bq .eql T xo yo (.pointer a) (.pointer none)).run P w = .ok (.bool a.isNone) w ∧ (bq .neq T xo yo (.pointer a) (.pointer none)).run P w = .ok (.bool !a.isNone) w := by
  unfold isPtr at hT
  split at hT
  · rename_i e hu
    refine run_equal1 ?_ (fun _ _ h => by cases h.1) (fun h => by cases h.1) xo yo (by cases a <;> rfl) (by cases a <;> rfl)
    unfold Op.equal Op.maxDepth Op.equalIn
    simp only [Sem.run_bind, run_underlying hu, Result.andThen_ok]
    cases a <;> rfl
  · cases hT
@[simp] theorem bq_peql (a : Option Addr) (hT : isPtr P T = true) : qG P (bq .eql T xo yo (.pointer a) (.pointer none)) w K = K (.bool a.isNone) := qG_of (run_pnil a hT).1
@[simp] theorem bq_pneq (a : Option Addr) (hT : isPtr P T = true) : qG P (bq .neq T xo yo (.pointer a) (.pointer none)) w K = K (.bool !a.isNone) := qG_of (run_pnil a hT).2
@[simp] theorem stb_peql (a : Option Addr) (hT : isPtr P T = true) : stb P (bq .eql T xo yo (.pointer a) (.pointer none)) u w = (.bool a.isNone = u) := stb_of (run_pnil a hT).1
@[simp] theorem stb_pneq (a : Option Addr) (hT : isPtr P T = true) : stb P (bq .neq T xo yo (.pointer a) (.pointer none)) u w = (.bool (!a.isNone) = u) := stb_of (run_pnil a hT).2
theorem run_bools (a b : Bool) (hT : isBoolT P T = true) : (bq .eql T xo yo (.bool a) (.bool b)).run P w = .ok (.bool (a == b)) w ∧ (bq .neq T xo yo (.bool a) (.bool b)).run P w = .ok (.bool !(a == b)) w := by
  unfold isBoolT at hT
  split at hT
  · rename_i hu
    refine run_equal1 ?_ (fun _ _ h => by cases h.1) (fun h => by cases h.1) xo yo rfl rfl
    unfold Op.equal Op.maxDepth Op.equalIn
    simp only [Sem.run_bind, run_underlying hu, Result.andThen_ok]
    rfl
  · cases hT
@[simp] theorem bq_beql (a b : Bool) (hT : isBoolT P T = true) : qG P (bq .eql T xo yo (.bool a) (.bool b)) w K = K (.bool (a == b)) := qG_of (run_bools a b hT).1
@[simp] theorem bq_bneq (a b : Bool) (hT : isBoolT P T = true) : qG P (bq .neq T xo yo (.bool a) (.bool b)) w K = K (.bool !(a == b)) := qG_of (run_bools a b hT).2
@[simp] theorem stb_beql (a b : Bool) (hT : isBoolT P T = true) : stb P (bq .eql T xo yo (.bool a) (.bool b)) u w = (.bool (a == b) = u) := stb_of (run_bools a b hT).1
@[simp] theorem stb_bneq (a b : Bool) (hT : isBoolT P T = true) : stb P (bq .neq T xo yo (.bool a) (.bool b)) u w = (.bool (!(a == b)) = u) := stb_of (run_bools a b hT).2
theorem run_slnil (a : Option Addr) (n c n' c' : Nat) (hT : isSl P T = true) : (bq .eql T xo yo (.slice a n c) (.slice none n' c')).run P w = .ok (.bool a.isNone) w ∧ (bq .neq T xo yo (.slice a n c) (.slice none n' c')).run P w = .ok (.bool !a.isNone) w := by
  unfold isSl at hT
  split at hT
  · rename_i e hu
    refine run_equal1 ?_ (fun _ _ h => by cases h.1) (fun h => by cases h.1) xo yo (by cases a <;> rfl) (by cases a <;> rfl)
    unfold Op.equal Op.maxDepth Op.equalIn
    simp only [Sem.run_bind, run_underlying hu, Result.andThen_ok]
    cases a <;> rfl
  · cases hT
@[simp] theorem bq_sleql (a : Option Addr) (n c n' c' : Nat) (hT : isSl P T = true) : qG P (bq .eql T xo yo (.slice a n c) (.slice none n' c')) w K = K (.bool a.isNone) := qG_of (run_slnil a n c n' c' hT).1
@[simp] theorem bq_slneq (a : Option Addr) (n c n' c' : Nat) (hT : isSl P T = true) : qG P (bq .neq T xo yo (.slice a n c) (.slice none n' c')) w K = K (.bool !a.isNone) := qG_of (run_slnil a n c n' c' hT).2
end

/-! ### the forms, their operands known -/
@[simp] theorem pk_b {t : Bool} {a b : Value} {K : Value → Prop} : pk (.bool t) a b K = K (bif t then a else b) := rfl
@[simp] theorem nk_p {a : Addr} {K : Value → Prop} : nk (.pointer (some a)) K = K (.pointer (some a)) := rfl
@[simp] theorem bV_b {t : Bool} {T F : Prop} : bV (.bool t) T F = ((t = true → T) ∧ (t = false → F)) := by cases t <;> simp [bV]
@[simp] theorem ld1_p {a : Addr} {w : World} {K : Value → Prop} : ld1 (.pointer (some a)) w K = rd1 w a K := rfl
@[simp] theorem ldn_p {n : Nat} {a : Addr} {w : World} {K : Value → Prop} : ldn n (.pointer (some a)) w K = rdN w a n fun cs => K (.agg cs) := rfl
@[simp] theorem st1_p {a : Addr} {v : Value} {w : World} {K : World → Prop} : st1 (.pointer (some a)) v w K = (one v = true ∧ wr1 w a v K) := rfl
@[simp] theorem stn_p {n : Nat} {a : Addr} {cs : Array Value} {w : World} {K : World → Prop} : stn n (.pointer (some a)) (.agg cs) w K = (cs.size = n ∧ wrN w a cs K) := rfl
@[simp] theorem add_mk {b o n : Nat} : (⟨b, o, none⟩ : Addr).add n = ⟨b, o + n, none⟩ := add_none rfl n
@[simp] theorem fa_p {off b o : Nat} {K : Value → Prop} : fa off (.pointer (some ⟨b, o, none⟩)) K = K (.pointer (some ⟨b, o + off, none⟩)) := by unfold fa; simp
@[simp] theorem ia_p {n b o len cap : Nat} {k : IntKind} {j : Int} {K : Value → Prop} : ia n (.slice (some ⟨b, o, none⟩) len cap) (.int k j) K = ((0 ≤ j ∧ j < len) ∧ K (.pointer (some ⟨b, o + j.toNat * n, none⟩))) := by unfold ia; simp
@[simp] theorem iaA_p {len n b o : Nat} {k : IntKind} {j : Int} {K : Value → Prop} : iaA len n (.pointer (some ⟨b, o, none⟩)) (.int k j) K = ((0 ≤ j ∧ j < len) ∧ K (.pointer (some ⟨b, o + j.toNat * n, none⟩))) := by unfold iaA; simp
@[simp] theorem slL_p {n len cap : Nat} {a : Option Addr} {lo hi : Option Value} {K : Value → Prop} : slL n (.slice a len cap) lo hi K = bnd hi len cap fun h => bnd lo 0 h fun l => K (.slice (if cap = l then a else a.map (·.add (l * n))) (h - l) (cap - l)) := rfl
@[simp] theorem slA_p {len n b o : Nat} {lo hi : Option Value} {K : Value → Prop} : slA len n (.pointer (some ⟨b, o, none⟩)) lo hi K = bnd hi len len fun h => bnd lo 0 h fun l => K (.slice (some ⟨b, (if len = l then o else o + l * n), none⟩) (h - l) (len - l)) := by
  unfold slA
  have : ∀ l, (if len = l then (⟨b, o, none⟩ : Addr) else (⟨b, o, none⟩ : Addr).add (l * n)) = ⟨b, (if len = l then o else o + l * n), none⟩ := by intro l; split <;> simp
  simp only [this]
@[simp] theorem slS_p {s : ByteArray} {lo hi : Option Value} {K : Value → Prop} : slS (.string s) lo hi K = bnd hi s.size s.size fun h => bnd lo 0 h fun l => K (.string (s.extract l h)) := rfl
@[simp] theorem bnd_none {d y : Nat} {K : Nat → Prop} : bnd none d y K = K d := rfl
@[simp] theorem bnd_some {k : IntKind} {i : Int} {d y : Nat} {K : Nat → Prop} : bnd (some (.int k i)) d y K = ((0 ≤ i ∧ i ≤ y) ∧ K i.toNat) := rfl
@[simp] theorem lenS_s {s : ByteArray} {K : Value → Prop} : lenS (.string s) K = K (.int .i64 s.size) := rfl
@[simp] theorem lenL_s {a : Option Addr} {n c : Nat} {K : Value → Prop} : lenL (.slice a n c) K = K (.int .i64 n) := rfl
@[simp] theorem cvI_i {kd k : IntKind} {n : Int} {K : Value → Prop} : cvI kd (.int k n) K = K (.int kd (kd.wrap n)) := rfl
@[simp] theorem cvSS_s {s : ByteArray} {K : Value → Prop} : cvSS (.string s) K = K (.string s) := rfl
@[simp] theorem fld_a {agg : Bool} {off n : Nat} {cs : Array Value} {K : Value → Prop} : fld agg off n (.agg cs) K = partG agg off n cs K := rfl
@[simp] theorem part_t {off n : Nat} {cs : Array Value} {K : Value → Prop} : partG true off n cs K = K (.agg (cs.extract off (off + n))) := rfl
@[simp] theorem part_f {off n : Nat} {cs : Array Value} {K : Value → Prop} : partG false off n cs K = match cs[off]? with | some v => K v | none => False := rfl
@[simp] theorem newG_k {c : Array Value} {T : TypeId} {w : World} {K : Value → World → Prop} : newG c T w K = K (.pointer (some ⟨w.heap.size, 0, none⟩)) (w.alloc (.cells c T)) := rfl
@[simp] theorem rd1_mk {w : World} {b o : Nat} {K : Value → Prop} : rd1 w ⟨b, o, none⟩ K = match w.heap[b]? with | some (.cells c _ _) => (match c[o]? with | some v => K v | none => False) | _ => False := by
  unfold rd1
  cases h : w.heap[b]? with
  | none => rfl
  | some x => cases x <;> first | rfl | (simp only [true_and]; rfl)
@[simp] theorem rdN_mk {w : World} {b o n : Nat} {K : Array Value → Prop} : rdN w ⟨b, o, none⟩ n K = match w.heap[b]? with | some (.cells c _ _) => o + n ≤ c.size ∧ K (c.extract o (o + n)) | _ => False := by
  unfold rdN; split <;> simp_all
@[simp] theorem wr1_mk {w : World} {b o : Nat} {v : Value} {K : World → Prop} : wr1 w ⟨b, o, none⟩ v K = match w.heap[b]? with | some (.cells c T fr) => (o < c.size ∧ okFr fr o 1) ∧ K (setBlk w b (.cells (c.setIfInBounds o v) T fr)) | _ => False := by
  unfold wr1; split <;> simp_all
@[simp] theorem wrN_mk {w : World} {b o : Nat} {vs : Array Value} {K : World → Prop} : wrN w ⟨b, o, none⟩ vs K = match w.heap[b]? with | some (.cells c T fr) => (o + vs.size ≤ c.size ∧ okFr fr o vs.size ∧ vs.all one = true) ∧ K (setBlk w b (.cells (splice c o vs) T fr)) | _ => False := by
  unfold wrN; split <;> simp_all
@[simp] theorem okFr0 {o n : Nat} : okFr (0, 0) o n = True := by simp [okFr]
@[simp] theorem one_int {k : IntKind} {n : Int} : one (.int k n) = true := rfl
@[simp] theorem one_bool {b : Bool} : one (.bool b) = true := rfl
@[simp] theorem one_str {s : ByteArray} : one (.string s) = true := rfl
@[simp] theorem one_ptr {a : Option Addr} : one (.pointer a) = true := rfl
@[simp] theorem one_sl {a : Option Addr} {n c : Nat} : one (.slice a n c) = true := rfl
/-! ### worlds -/
@[simp] theorem heap_drew {w : World} : w.drew.heap = w.heap := rfl
@[simp] theorem size_setBlk {w : World} {b : Nat} {o : Obj} : (setBlk w b o).heap.size = w.heap.size := by simp [setBlk]
theorem heap_setBlk {w : World} {b b' : Nat} {o : Obj} : (setBlk w b o).heap[b']? = if b = b' then (if b < w.heap.size then some o else none) else w.heap[b']? := by
  simp only [setBlk, Array.getElem?_setIfInBounds]
/-- there is such a block -/
def Live (w : World) (b : Nat) : Prop := b < w.heap.size
theorem live_of {w : World} {b : Nat} {o : Obj} (h : w.heap[b]? = some o) : Live w b := (Array.getElem?_eq_some_iff.1 h).1
theorem heap_self {w : World} {b : Nat} {o : Obj} (h : Live w b) : (setBlk w b o).heap[b]? = some o := by
  unfold Live at h; rw [heap_setBlk, if_pos rfl, if_pos h]
theorem heap_ne {w : World} {b b' : Nat} {o : Obj} (h : ¬ b = b') : (setBlk w b o).heap[b']? = w.heap[b']? := by
  rw [heap_setBlk, if_neg h]
@[simp] theorem live_setBlk {w : World} {b b' : Nat} {o : Obj} : Live (setBlk w b o) b' = Live w b' := by simp [Live]
@[simp] theorem live_drew {w : World} {b : Nat} : Live w.drew b = Live w b := rfl
theorem heap_new {w : World} {o : Obj} : (w.alloc o).heap[w.heap.size]? = some o := by
  show (w.heap.push o)[w.heap.size]? = _
  simp
@[simp] theorem setBlk_new {w : World} {o o' : Obj} : Q.setBlk (w.alloc o) w.heap.size o' = w.alloc o' := by
  unfold Q.setBlk World.alloc
  simp only [World.mk.injEq, and_true]
  apply Array.ext_getElem?
  intro j
  rw [Array.getElem?_setIfInBounds, Array.getElem?_push, Array.getElem?_push]
  by_cases hj : w.heap.size = j
  · subst hj; simp
  · have : ¬ j = w.heap.size := fun h => hj h.symm
    simp [hj, this]
theorem heap_alloc {w : World} {b' : Nat} {o : Obj} : (w.alloc o).heap[b']? = if b' = w.heap.size then some o else w.heap[b']? := by
  show (w.heap.push o)[b']? = _
  rw [Array.getElem?_push]
@[simp] theorem setBlk2 {w : World} {b : Nat} {o o' : Obj} : setBlk (setBlk w b o) b o' = setBlk w b o' := setBlk_setBlk w b o o'
@[simp] theorem setBlk_drew {w : World} {b : Nat} {o : Obj} : setBlk w.drew b o = (setBlk w b o).drew := rfl
@[simp] theorem alloc_drew' {w : World} {o : Obj} : w.drew.alloc o = (w.alloc o).drew := rfl
theorem lt_of_blk {w : World} {b : Nat} {o : Obj} (h : w.heap[b]? = some o) : b < w.heap.size := (Array.getElem?_eq_some_iff.1 h).1
/-- outside the blocks 'S' what there was is as it was -/
structure Kp (S : List Nat) (w w' : World) : Prop where
  os : w'.os = w.os
  tape : w'.tape = w.tape
  output : w'.output = w.output
  size : w.heap.size ≤ w'.heap.size
  keep : ∀ b, b < w.heap.size → b ∉ S → w'.heap[b]? = w.heap[b]?
theorem Kp.refl (S : List Nat) (w : World) : Kp S w w := ⟨rfl, rfl, rfl, Nat.le_refl _, fun _ _ _ => rfl⟩
theorem Kp.trans {S S' : List Nat} {w w1 w2 : World} (h : Kp S w w1) (h' : Kp S' w1 w2) (hS : ∀ b, b ∈ S' → b < w.heap.size → b ∈ S) : Kp S w w2 :=
  ⟨h'.os.trans h.os, h'.tape.trans h.tape, h'.output.trans h.output, Nat.le_trans h.size h'.size, fun b hb hn => (h'.keep b (Nat.lt_of_lt_of_le hb h.size) (fun hm => hn (hS b hm hb))).trans (h.keep b hb hn)⟩
theorem Kp.trans' {S : List Nat} {w w1 w2 : World} (h : Kp S w w1) (h' : Kp S w1 w2) : Kp S w w2 := h.trans h' fun _ h _ => h
theorem Kp.mono {S S' : List Nat} {w w' : World} (h : Kp S w w') (hS : ∀ b, b ∈ S → b < w.heap.size → b ∈ S') : Kp S' w w' := (Kp.refl S' w).trans h hS
theorem Kp.drew {S : List Nat} {w w' : World} (h : Kp S w w') : Kp S w w'.drew := ⟨h.os, h.tape, h.output, h.size, h.keep⟩
theorem Kp.alloc {S : List Nat} {w w' : World} (h : Kp S w w') (o : Obj) : Kp S w (w'.alloc o) :=
  ⟨h.os, h.tape, h.output, by simp; have := h.size; omega, fun b hb hn => by
    rw [heap_alloc, if_neg (by have := h.size; omega)]; exact h.keep b hb hn⟩
theorem Kp.setBlk {S : List Nat} {w w' : World} (h : Kp S w w') {b : Nat} (hb : b ∈ S ∨ w.heap.size ≤ b) (o : Obj) : Kp S w (setBlk w' b o) :=
  ⟨h.os, h.tape, h.output, by simpa using h.size, fun b' hb' hn => by
    rw [heap_setBlk, if_neg (by intro hh; subst hh; rcases hb with hb | hb; exact hn hb; omega)]; exact h.keep b' hb' hn⟩
theorem Kp.get {S : List Nat} {w w' : World} (h : Kp S w w') {b : Nat} {o : Obj} (hb : w.heap[b]? = some o) (hn : b ∉ S) : w'.heap[b]? = some o := by
  rw [h.keep b (lt_of_blk hb) hn]; exact hb
theorem Kp.below {w w' : World} (h : Kp [] w w') : Go.RowKit.Below w.heap.size w w' := ⟨h.os, h.tape, h.output, h.size, fun k hk => h.keep k hk (by simp)⟩
theorem callG.mono {f : FuncId} {args : Array Value} {w : World} {K K' : Value → World → Prop} (h : callG P f args w K) (hk : ∀ v w', K v w' → K' v w') : callG P f args w K' :=
  Calls.mono h fun _ _ ⟨v, he, hv⟩ => ⟨v, he, hk v _ hv⟩
/-! ### numbers that fit -/
theorem w64 {x : Int} (h0 : -9223372036854775808 ≤ x) (h1 : x < 9223372036854775808) : IntKind.i64.wrap x = x := wrap64 x h0 h1
/-! ### loops: what holds at a round's head, and how many rounds are left -/
theorem loop_inv {F : (List Value → World → Prop) → List Value → World → Prop} (I : Nat → List Value → World → Prop) (hF : ∀ m N xs w, I m xs w → (∀ m' xs' w', m' < m → I m' xs' w' → N xs' w') → F N xs w)
    {m : Nat} {xs : List Value} {w : World} (h : I m xs w) : ∃ k, loopV F k xs w := by
  have key : ∀ k m, m < k → ∀ xs w, I m xs w → loopV F k xs w := by
    intro k
    induction k with
    | zero => intro m hm; omega
    | succ k ih => intro m hm xs w h; exact hF m _ xs w h fun m' xs' w' hlt h' => ih m' (by omega) xs' w' h'
  exact ⟨m + 1, key (m + 1) m (by omega) xs w h⟩
end Go.Q

/- Rules for the printed forms: bits, shifts, quotients. -/
set_option linter.unusedVariables false
set_option linter.unusedSimpArgs false
namespace Go.Q
variable {P : Program} {T : TypeId} {xo yo : Operand} {w : World} {K : Value → Prop} {u : Value}
theorem and_mask (x : Int) (m : Nat) (hm : m < 63) : IntKind.i64.wrap ((BitVec.ofInt 64 x &&& BitVec.ofInt 64 (2 ^ m - 1)).toNat : Int) = x % 2 ^ m := by
  have hp : (2 : Nat) ^ m ≤ 2 ^ 62 := Nat.pow_le_pow_right (by omega) (by omega)
  have hpos : 0 < (2 : Nat) ^ m := Nat.two_pow_pos m
  have h1 : (BitVec.ofInt 64 ((2 : Int) ^ m - 1)).toNat = 2 ^ m - 1 := by
    rw [BitVec.toNat_ofInt]
    have : ((2 : Int) ^ m - 1) = ((2 ^ m - 1 : Nat) : Int) := by
      rw [Int.ofNat_sub hpos]; simp
    rw [this]
    have hlt : 2 ^ m - 1 < 2 ^ 64 := by omega
    omega
  have h2 : ((BitVec.ofInt 64 x).toNat : Int) = x % 2 ^ 64 := by
    rw [BitVec.toNat_ofInt, Int.toNat_of_nonneg (Int.emod_nonneg _ (by decide))]
    rfl
  rw [BitVec.toNat_and, h1, Nat.and_two_pow_sub_one_eq_mod]
  have hd : ((2 : Int) ^ m) ∣ 2 ^ 64 := ⟨2 ^ (64 - m), by rw [← Int.pow_add, show m + (64 - m) = 64 by omega]⟩
  have h3 : (((BitVec.ofInt 64 x).toNat % 2 ^ m : Nat) : Int) = x % 2 ^ m := by
    rw [Int.natCast_emod, h2]
    have : ((2 ^ m : Nat) : Int) = (2 : Int) ^ m := by simp
    rw [this]
    exact Int.emod_emod_of_dvd x hd
  rw [h3]
  have hp' : (2 : Int) ^ m ≤ 2 ^ 62 := by
    have : ((2 ^ m : Nat) : Int) = (2 : Int) ^ m := by simp
    rw [← this]; omega
  have hpos' : (0 : Int) < 2 ^ m := Int.pow_pos (by omega)
  have := Int.emod_nonneg x (Int.ne_of_gt hpos')
  have := Int.emod_lt_of_pos x hpos'
  exact wrap64 _ (by omega) (by omega)
theorem run_and_mask {x c : Int} (m : Nat) (hm : m < 63) (hc : c = 2 ^ m - 1) : (bq .and T xo yo (.int .i64 x) (.int .i64 c)).run P w = .ok (.int .i64 (x % 2 ^ m)) w :=
  run_bq_int (s := .pure _) fun w => by
    have := and_mask x m hm
    rw [← hc] at this
    simp only [binOp, ne_eq, not_true_eq_false, if_false, Op.intBits]
    show Result.ok _ _ = Result.ok _ _
    congr 2
theorem and_of {x c : Int} (m : Nat) (hm : m < 63) (hc : c = 2 ^ m - 1) : qG P (bq .and T xo yo (.int .i64 x) (.int .i64 c)) w K = K (.int .i64 (x % 2 ^ m)) := qG_of (run_and_mask m hm hc)
theorem sand_of {x c : Int} (m : Nat) (hm : m < 63) (hc : c = 2 ^ m - 1) : stb P (bq .and T xo yo (.int .i64 x) (.int .i64 c)) u w = (.int .i64 (x % 2 ^ m) = u) := stb_of (run_and_mask m hm hc)
@[simp] theorem and1 {x : Int} : qG P (bq .and T xo yo (.int .i64 x) (.int .i64 1)) w K = K (.int .i64 (x % 2)) := and_of 1 (by omega) (by decide)
@[simp] theorem and7 {x : Int} : qG P (bq .and T xo yo (.int .i64 x) (.int .i64 7)) w K = K (.int .i64 (x % 8)) := and_of 3 (by omega) (by decide)
@[simp] theorem and15 {x : Int} : qG P (bq .and T xo yo (.int .i64 x) (.int .i64 15)) w K = K (.int .i64 (x % 16)) := and_of 4 (by omega) (by decide)
@[simp] theorem and127 {x : Int} : qG P (bq .and T xo yo (.int .i64 x) (.int .i64 127)) w K = K (.int .i64 (x % 128)) := and_of 7 (by omega) (by decide)
@[simp] theorem and255 {x : Int} : qG P (bq .and T xo yo (.int .i64 x) (.int .i64 255)) w K = K (.int .i64 (x % 256)) := and_of 8 (by omega) (by decide)
@[simp] theorem and511 {x : Int} : qG P (bq .and T xo yo (.int .i64 x) (.int .i64 511)) w K = K (.int .i64 (x % 512)) := and_of 9 (by omega) (by decide)
@[simp] theorem and65535 {x : Int} : qG P (bq .and T xo yo (.int .i64 x) (.int .i64 65535)) w K = K (.int .i64 (x % 65536)) := and_of 16 (by omega) (by decide)
@[simp] theorem sand1 {x : Int} : stb P (bq .and T xo yo (.int .i64 x) (.int .i64 1)) u w = (.int .i64 (x % 2) = u) := sand_of 1 (by omega) (by decide)
@[simp] theorem sand7 {x : Int} : stb P (bq .and T xo yo (.int .i64 x) (.int .i64 7)) u w = (.int .i64 (x % 8) = u) := sand_of 3 (by omega) (by decide)
@[simp] theorem sand255 {x : Int} : stb P (bq .and T xo yo (.int .i64 x) (.int .i64 255)) u w = (.int .i64 (x % 256) = u) := sand_of 8 (by omega) (by decide)
theorem run_shr {x y : Int} {k yk : IntKind} (h0 : 0 ≤ y) (h1 : y < k.bits) : (bq .shr T xo yo (.int k x) (.int yk y)).run P w = .ok (.int k (x / 2 ^ y.toNat)) w := by
  show (Op.shift .shr k x yk y).run P w = _
  have hn : ¬ y < 0 := by omega
  have hm : min y.toNat k.bits = y.toNat := by omega
  simp only [Op.shift, hn, if_false, hm]
  show Result.ok _ _ = Result.ok _ _
  congr 2
  exact (Int.fdiv_eq_ediv_of_nonneg x (Int.le_of_lt (Int.pow_pos (by omega))))
theorem shr_of {x y : Int} {k yk : IntKind} (h0 : 0 ≤ y) (h1 : y < k.bits) : qG P (bq .shr T xo yo (.int k x) (.int yk y)) w K = K (.int k (x / 2 ^ y.toNat)) := qG_of (run_shr h0 h1)
theorem run_rem {x y : Int} {k : IntKind} (hx : 0 ≤ x) (hy : 0 < y) : (bq .rem T xo yo (.int k x) (.int k y)).run P w = .ok (.int k (x % y)) w :=
  run_bq_int (s := .pure _) fun w => by
    have : ¬ y = 0 := by omega
    simp only [binOp, ne_eq, not_true_eq_false, if_false, Op.intDiv, this]
    show Result.ok _ _ = Result.ok _ _
    rw [Int.tmod_eq_emod_of_nonneg hx]
theorem rem_of {x y : Int} {k : IntKind} (hx : 0 ≤ x) (hy : 0 < y) : qG P (bq .rem T xo yo (.int k x) (.int k y)) w K = K (.int k (x % y)) := qG_of (run_rem hx hy)
end Go.Q

/- Rules for the printed forms: or, xor and and of natural numbers, shifts to the left, negation and complement of 32 bits. -/
set_option linter.unusedVariables false
set_option linter.unusedSimpArgs false
namespace Go.Q
variable {P : Program} {T : TypeId} {xo yo : Operand} {w : World} {K : Value → Prop} {u : Value}
theorem ofInt_nat (n : Nat) (b : Nat) : (BitVec.ofInt b (n : Int)).toNat = n % 2 ^ b := by simp [BitVec.toNat_ofInt]
theorem wrap_nat64 {n : Nat} (h : n < 2 ^ 63) : IntKind.i64.wrap (n : Int) = n := wrap64 _ (by omega) (by omega)
theorem wrap_nat32 {n : Nat} (h : n < 2 ^ 32) : IntKind.u32.wrap (n : Int) = n := by
  simp [IntKind.wrap, IntKind.bits, IntKind.signed]; omega
theorem xor32_of {x y : Nat} (hx : x < 2 ^ 32) (hy : y < 2 ^ 32) : qG P (bq .xor T xo yo (.int .u32 x) (.int .u32 y)) w K = K (.int .u32 ((x ^^^ y : Nat) : Int)) :=
  qG_of (run_bq_int (s := .pure _) fun w => by
    have h2 : IntKind.u32.wrap ((BitVec.ofInt 32 (x : Int) ^^^ BitVec.ofInt 32 (y : Int)).toNat : Int) = ((x ^^^ y : Nat) : Int) := by
      rw [BitVec.toNat_xor, ofInt_nat, ofInt_nat, Nat.mod_eq_of_lt (by omega), Nat.mod_eq_of_lt (by omega)]; exact wrap_nat32 (Nat.xor_lt_two_pow hx hy)
    simp only [binOp, ne_eq, not_true_eq_false, if_false, Op.intBits]
    show Result.ok _ _ = Result.ok _ _
    congr 2)
theorem and32_of {x y : Nat} (hx : x < 2 ^ 32) (hy : y < 2 ^ 32) : qG P (bq .and T xo yo (.int .u32 x) (.int .u32 y)) w K = K (.int .u32 ((x &&& y : Nat) : Int)) :=
  qG_of (run_bq_int (s := .pure _) fun w => by
    have h2 : IntKind.u32.wrap ((BitVec.ofInt 32 (x : Int) &&& BitVec.ofInt 32 (y : Int)).toNat : Int) = ((x &&& y : Nat) : Int) := by
      rw [BitVec.toNat_and, ofInt_nat, ofInt_nat, Nat.mod_eq_of_lt (by omega), Nat.mod_eq_of_lt (by omega)]; exact wrap_nat32 (Nat.and_lt_two_pow _ hy)
    simp only [binOp, ne_eq, not_true_eq_false, if_false, Op.intBits]
    show Result.ok _ _ = Result.ok _ _
    congr 2)
theorem neg32_of {x : Nat} (hx : x < 2 ^ 32) : qG P (Op.unary .neg (.int .u32 x)) w K = K (.int .u32 (((2 ^ 32 - x) % 2 ^ 32 : Nat) : Int)) :=
  qG_of (by
    have : IntKind.u32.wrap (0 - (x : Int)) = (((2 ^ 32 - x) % 2 ^ 32 : Nat) : Int) := by
      simp [IntKind.wrap, IntKind.bits, IntKind.signed]; omega
    show Result.ok _ _ = Result.ok _ _
    congr 2)
theorem not32_of {x : Nat} (hx : x < 2 ^ 32) : qG P (Op.unary .xor (.int .u32 x)) w K = K (.int .u32 (((2 ^ 32 - 1) ^^^ x : Nat) : Int)) :=
  qG_of (by
    have h2 : IntKind.u32.wrap ((BitVec.ofInt 32 IntKind.u32.max ^^^ BitVec.ofInt 32 (x : Int)).toNat : Int) = (((2 ^ 32 - 1) ^^^ x : Nat) : Int) := by
      have hm : IntKind.u32.max = ((2 ^ 32 - 1 : Nat) : Int) := by decide
      rw [hm, BitVec.toNat_xor, ofInt_nat, ofInt_nat, Nat.mod_eq_of_lt (by omega), Nat.mod_eq_of_lt (by omega)]; exact wrap_nat32 (Nat.xor_lt_two_pow (by omega) hx)
    show Result.ok _ _ = Result.ok _ _
    congr 2)
end Go.Q

/- Rules for the printed forms: or and xor of 64 bits without a sign; a number shifted, or a byte. -/
set_option linter.unusedVariables false
set_option linter.unusedSimpArgs false
namespace Go.Q
variable {P : Program} {T : TypeId} {xo yo : Operand} {w : World} {K : Value → Prop} {u : Value}
theorem wrap_natu64 {n : Nat} (h : n < 2 ^ 64) : IntKind.u64.wrap (n : Int) = n := by
  simp [IntKind.wrap, IntKind.bits, IntKind.signed]; omega
theorem xoru64_of {x y : Nat} (hx : x < 2 ^ 64) (hy : y < 2 ^ 64) : qG P (bq .xor T xo yo (.int .u64 x) (.int .u64 y)) w K = K (.int .u64 ((x ^^^ y : Nat) : Int)) :=
  qG_of (run_bq_int (s := .pure _) fun w => by
    have h2 : IntKind.u64.wrap ((BitVec.ofInt 64 (x : Int) ^^^ BitVec.ofInt 64 (y : Int)).toNat : Int) = ((x ^^^ y : Nat) : Int) := by
      rw [BitVec.toNat_xor, ofInt_nat, ofInt_nat, Nat.mod_eq_of_lt (by omega), Nat.mod_eq_of_lt (by omega)]; exact wrap_natu64 (Nat.xor_lt_two_pow hx hy)
    simp only [binOp, ne_eq, not_true_eq_false, if_false, Op.intBits]
    show Result.ok _ _ = Result.ok _ _
    congr 2)
/-- the highest bit turned -/
theorem xor_top {x : Nat} (hx : x < 2 ^ 64) : x ^^^ 2 ^ 63 = (x + 2 ^ 63) % 2 ^ 64 := by
  have key : ∀ y, y < 2 ^ 63 → 2 ^ 63 + y = 2 ^ 63 ||| y := fun y hy => by
    have := Nat.two_pow_add_eq_or_of_lt hy 1
    rw [Nat.mul_one] at this
    exact this
  apply Nat.eq_of_testBit_eq
  intro i
  rw [Nat.testBit_xor, Nat.testBit_two_pow]
  have hx2 : x = (x / 2 ^ 63) * 2 ^ 63 + x % 2 ^ 63 := by omega
  have hr : x % 2 ^ 63 < 2 ^ 63 := Nat.mod_lt _ (by decide)
  have hq : x / 2 ^ 63 = 0 ∨ x / 2 ^ 63 = 1 := by omega
  rcases hq with hq | hq
  · have e : (x + 2 ^ 63) % 2 ^ 64 = 2 ^ 63 + x := by omega
    rw [e, key x (by omega)]
    rw [Nat.testBit_or]
    have hb : (2 ^ 63 : Nat).testBit i = decide (63 = i) := Nat.testBit_two_pow
    rw [hb]
    by_cases hi : 63 = i
    · subst hi
      have : x.testBit 63 = false := Nat.testBit_lt_two_pow (by omega)
      simp [this]
    · simp [hi]
  · have e : (x + 2 ^ 63) % 2 ^ 64 = x - 2 ^ 63 := by omega
    rw [e]
    obtain ⟨y, hy⟩ : ∃ y, y = x - 2 ^ 63 := ⟨_, rfl⟩
    have hxy : x = 2 ^ 63 + y := by omega
    have hylt : y < 2 ^ 63 := by omega
    rw [← hy, hxy, key y hylt]
    rw [Nat.testBit_or]
    have hb : (2 ^ 63 : Nat).testBit i = decide (63 = i) := Nat.testBit_two_pow
    rw [hb]
    by_cases hi : 63 = i
    · subst hi
      have : y.testBit 63 = false := Nat.testBit_lt_two_pow hylt
      simp [this]
    · simp [hi]
end Go.Q

/- Rows of cells: a block that is a list of rows of one length; lists of bytes as cells. Plain. -/
set_option linter.unusedVariables false
set_option linter.unusedSimpArgs false
namespace Go.Q

theorem flat_len {α : Type} {k : Nat} : ∀ {F : List (List α)}, (∀ x ∈ F, x.length = k) → F.flatten.length = F.length * k := by
  intro F
  induction F with
  | nil => intro _; simp
  | cons x r ih =>
    intro h
    rw [List.flatten_cons, List.length_append, ih fun y hy => h y (by simp [hy]), h x (by simp), List.length_cons, Nat.succ_mul]; omega
theorem flat_drop {α : Type} {k : Nat} : ∀ {F : List (List α)} (i : Nat), (∀ x ∈ F, x.length = k) → F.flatten.drop (i * k) = (F.drop i).flatten := by
  intro F
  induction F with
  | nil => intro i _; simp
  | cons x r ih =>
    intro i h
    cases i with
    | zero => simp
    | succ i =>
      have hx := h x (by simp)
      rw [List.flatten_cons, List.drop_succ_cons, ← ih i fun y hy => h y (by simp [hy])]
      have e : (i + 1) * k = k + i * k := by rw [Nat.succ_mul]; omega
      rw [e, ← List.drop_drop, ← hx, List.drop_left]
theorem flat_take {α : Type} {k : Nat} : ∀ {F : List (List α)} (i : Nat), (∀ x ∈ F, x.length = k) → F.flatten.take (i * k) = (F.take i).flatten := by
  intro F
  induction F with
  | nil => intro i _; simp
  | cons x r ih =>
    intro i h
    cases i with
    | zero => simp
    | succ i =>
      have hx := h x (by simp)
      rw [List.flatten_cons, List.take_succ_cons, List.flatten_cons, ← ih i fun y hy => h y (by simp [hy])]
      rw [List.take_append, hx, Nat.succ_mul, List.take_of_length_le (by omega)]
      congr 2; omega
theorem flat_get {α : Type} {k : Nat} {F : List (List α)} {i : Nat} (h : ∀ x ∈ F, x.length = k) (hi : i < F.length) : (F.flatten.drop (i * k)).take k = F[i] := by
  rw [flat_drop i h, List.drop_eq_getElem_cons hi, List.flatten_cons]
  rw [List.take_append_of_le_length (by rw [h _ (List.getElem_mem hi)]; omega)]
  rw [List.take_of_length_le (by rw [h _ (List.getElem_mem hi)]; omega)]
theorem flat_splice_many {α : Type} {k : Nat} {F G : List (List α)} {i : Nat} (h : ∀ x ∈ F, x.length = k) (hG : ∀ x ∈ G, x.length = k) (_hi : i + G.length ≤ F.length) :
    F.flatten.take (i * k) ++ G.flatten ++ F.flatten.drop (i * k + G.flatten.length) = (F.take i ++ G ++ F.drop (i + G.length)).flatten := by
  rw [flat_take i h, flat_len hG, ← Nat.add_mul, flat_drop _ h]
  simp
/-- bytes as cells -/
def u8c (l : List UInt8) : List Value := l.map fun c => .int .u8 c.toNat
@[simp] theorem u8c_len (l : List UInt8) : (u8c l).length = l.length := by simp [u8c]
theorem bytesOf_u8c (l : List UInt8) : bytesOf (u8c l) = some l := by
  induction l with
  | nil => rfl
  | cons c r ih =>
    show (bytesOf (u8c r)).map _ = _
    rw [ih]
    simp
theorem one_u8c (l : List UInt8) : (u8c l).toArray.all one = true := by
  rw [List.all_toArray, List.all_eq_true]
  intro v hv
  unfold u8c at hv
  rw [List.mem_map] at hv
  obtain ⟨c, _, rfl⟩ := hv
  rfl
theorem u8s_eq (s : ByteArray) : u8s s = (u8c s.data.toList).toArray := by
  unfold u8s u8c
  apply Array.toList_inj.1
  simp
theorem splice_list (c : List Value) (o : Nat) (vs : List Value) : splice c.toArray o vs.toArray = (c.take o ++ vs ++ c.drop (o + vs.length)).toArray := by
  simp [splice]
theorem extract_list {α : Type} (c : List α) (o n : Nat) : (c.toArray).extract o (o + n) = ((c.drop o).take n).toArray := by
  simp
/-- a string of a list of bytes -/
def str (l : List UInt8) : ByteArray := ⟨l.toArray⟩
@[simp] theorem str_data (l : List UInt8) : (str l).data.toList = l := rfl
@[simp] theorem str_size (l : List UInt8) : (str l).size = l.length := by simp [str, ByteArray.size]
theorem str_of (s : ByteArray) : str s.data.toList = s := by cases s; simp [str]
theorem str_inj {l m : List UInt8} : str l = str m ↔ l = m := by
  constructor
  · intro h; have := congrArg (fun s : ByteArray => s.data.toList) h; simpa using this
  · intro h; rw [h]
@[simp] theorem str_eq (l m : List UInt8) : (str l = str m) = (l = m) := propext str_inj
@[simp] theorem str_append (l m : List UInt8) : str l ++ str m = str (l ++ m) := by
  have : (str l ++ str m).data.toList = l ++ m := by simp [str, ByteArray.data_append]
  rw [← str_of (str l ++ str m), this]
theorem str_extract (l : List UInt8) (i j : Nat) : (str l).extract i j = str ((l.take j).drop i) := by
  have : ((str l).extract i j).data.toList = (l.take j).drop i := by
    simp [str, ByteArray.data_extract, List.drop_take]
  rw [← str_of ((str l).extract i j), this]
end Go.Q

/- Slices whose elements are rows of cells: owned ones (which start at their block's head), appended to; and ones that are only read. -/
set_option linter.unusedVariables false
set_option linter.unusedSimpArgs false
namespace Go.Q

/-- a slice that owns its block -/
def RowsAt (w : World) (v : Value) (k : Nat) (rows : List (List Value)) (S : List Nat) : Prop :=
  (v = .slice none 0 0 ∧ rows = [] ∧ S = []) ∨
  ∃ (bl : Nat) (F : List (List Value)) (T : Nat), v = .slice (some ⟨bl, 0, none⟩) rows.length F.length ∧ S = [bl] ∧ w.heap[bl]? = some (.cells F.flatten.toArray T (0, 0)) ∧ (∀ x ∈ F, x.length = k) ∧ F.take rows.length = rows ∧ rows.length ≤ F.length
theorem RowsAt.keep {w w' : World} {v : Value} {k : Nat} {rows : List (List Value)} {S S' : List Nat} (h : RowsAt w v k rows S) (hk : Kp S' w w') (hd : ∀ x ∈ S, x ∉ S') : RowsAt w' v k rows S := by
  rcases h with h | ⟨bl, F, T, h1, h2, h3, h4, h5, h6⟩
  · exact .inl h
  · subst h2
    exact .inr ⟨bl, F, T, h1, rfl, hk.get h3 (hd bl (by simp)), h4, h5, h6⟩
theorem RowsAt.len {w : World} {v : Value} {k : Nat} {rows : List (List Value)} {S : List Nat} (h : RowsAt w v k rows S) : ∃ a c, v = .slice a rows.length c ∧ rows.length ≤ c := by
  rcases h with ⟨h1, h2, h3⟩ | ⟨bl, F, T, h1, h2, h3, h4, h5, h6⟩
  · exact ⟨none, 0, by rw [h1, h2]; rfl, by simp [h2]⟩
  · exact ⟨_, _, h1, h6⟩
theorem RowsAt.row {w : World} {v : Value} {k : Nat} {rows : List (List Value)} {S : List Nat} (h : RowsAt w v k rows S) {x : List Value} (hx : x ∈ rows) : x.length = k := by
  rcases h with ⟨h1, h2, h3⟩ | ⟨bl, F, T, h1, h2, h3, h4, h5, h6⟩
  · rw [h2] at hx; cases hx
  · rw [← h5] at hx; exact h4 x (List.mem_of_mem_take hx)
theorem RowsAt.nodup {w : World} {v : Value} {k : Nat} {rows : List (List Value)} {S : List Nat} (h : RowsAt w v k rows S) : S.Nodup := by
  rcases h with ⟨h1, h2, h3⟩ | ⟨bl, F, T, h1, h2, h3⟩
  · rw [h3]; simp
  · rw [h2]; simp
theorem RowsAt.lt {w : World} {v : Value} {k : Nat} {rows : List (List Value)} {S : List Nat} (h : RowsAt w v k rows S) : ∀ x ∈ S, x < w.heap.size := by
  rcases h with ⟨h1, h2, h3⟩ | ⟨bl, F, T, h1, h2, h3, h4⟩
  · rw [h3]; simp
  · rw [h2]; simp; exact live_of h3
theorem next_le {need old : Nat} (h : old < need) : Builtin.nextslicecap need old ≤ 2 * need := nextslicecap_le h
/-- rows are appended -/
theorem rows_app {e k bytes : Nat} {z : List Value} {v x : Value} {w : World} {rows G : List (List Value)} {S : List Nat} (h : RowsAt w v k rows S) (hk : 0 < k) (hz : z.length = k)
    (hG : ∀ y ∈ G, y.length = k) (hone : G.flatten.all one = true) (hsrc : ∀ K' : Nat → Array Value → Prop, K' G.length G.flatten.toArray → srcA k x w K')
    (hb : 2 * (rows.length + G.length) * bytes ≤ 2 ^ 48) (hb2 : rows.length + G.length < 2 ^ 62) {K : Value → World → Prop}
    (hK : ∀ v' w' S', RowsAt w' v' k (rows ++ G) S' → Kp S w w' → (∀ y ∈ S', y ∈ S ∨ w.heap.size ≤ y) → K v' w') : app e k bytes z.toArray v x w K := by
  have grow : ∀ (old : Array Value) (cap : Nat) , old = rows.flatten.toArray → (∀ y ∈ rows, y.length = k) → rows.length + G.length ≤ cap →
      K (.slice (some ⟨w.heap.size, 0, none⟩) (rows.length + G.length) cap) (w.drew.alloc (.cells (old ++ G.flatten.toArray ++ rep z.toArray ((cap - (rows.length + G.length)) * k)) e)) := by
    intro old cap hold hr hc
    have hF : (old ++ G.flatten.toArray ++ rep z.toArray ((cap - (rows.length + G.length)) * k)) = (rows ++ G ++ List.replicate (cap - (rows.length + G.length)) z).flatten.toArray := by
      rw [hold]
      have : rep z.toArray ((cap - (rows.length + G.length)) * k) = (List.replicate (cap - (rows.length + G.length)) z).flatten.toArray := by
        apply Array.ext
        · simp [rep, hz]
        · intro i h1 h2
          have hi : i < (cap - (rows.length + G.length)) * k := by simpa [rep] using h1
          simp only [rep, Array.getElem_map, Array.getElem_range, List.size_toArray, hz]
          have hm : i % k < k := Nat.mod_lt _ hk
          have hd : i / k < cap - (rows.length + G.length) := (Nat.div_lt_iff_lt_mul hk).2 hi
          have hfl : ((List.replicate (cap - (rows.length + G.length)) z).flatten.drop ((i / k) * k)).take k = z := by
            rw [flat_get (k := k) (by intro x hx; rw [List.mem_replicate] at hx; rw [hx.2, hz]) (by simpa using hd)]
            simp
          have hidx : i / k * k + i % k = i := by rw [Nat.mul_comm]; exact Nat.div_add_mod i k
          have e2 := congrArg (fun l => l[i % k]?) hfl
          simp only [List.getElem?_take_of_lt hm, List.getElem?_drop, hidx] at e2
          have h2' : i < (List.replicate (cap - (rows.length + G.length)) z).flatten.length := by simpa using h2
          rw [List.getElem?_eq_getElem h2', List.getElem?_eq_getElem (by omega)] at e2
          injection e2 with e2
          rw [List.getElem_toArray, e2]
          simp [hz, hm]
      rw [this]; simp
    refine hK _ _ [w.heap.size] (.inr ⟨w.heap.size, rows ++ G ++ List.replicate (cap - (rows.length + G.length)) z, e, ?_, rfl, ?_, ?_, ?_, ?_⟩) ((Kp.refl _ _).drew.alloc _) (by simp)
    · simp; omega
    · rw [← hF]; exact heap_new
    · intro y hy
      rw [List.mem_append, List.mem_append] at hy
      rcases hy with (hy | hy) | hy
      · exact hr y hy
      · exact hG y hy
      · rw [List.mem_replicate] at hy; rw [hy.2, hz]
    · rw [List.take_left]
    · simp
  have hrow : ∀ y ∈ rows, y.length = k := fun y hy => h.row hy
  unfold app
  rcases h with ⟨h1, h2, h3⟩ | ⟨bl, F, T, h1, h2, h3, h4, h5, h6⟩
  · subst h1; subst h3
    rw [h2] at hb hb2 hK grow
    simp only [List.length_nil, Nat.zero_add] at hb hb2 grow ⊢
    refine hsrc _ ⟨fun hle => ?_, fun hlt => ⟨⟨?_, by omega⟩, fun cap hc _ => grow #[] cap rfl (by simp) hc⟩⟩
    · have hG0 : G = [] := List.length_eq_zero_iff.1 (by omega)
      rw [hG0]
      exact hK _ w [] (.inl ⟨rfl, by simp [hG0], rfl⟩) (Kp.refl _ _) (by simp)
    · have := next_le hlt
      calc _ ≤ (2 * G.length) * bytes := Nat.mul_le_mul_right _ this
        _ ≤ _ := hb
  · subst h1; subst h2
    refine hsrc _ ⟨fun hle => ?_, fun hlt => ⟨⟨?_, by omega⟩, ?_⟩⟩
    · simp only [wrO, add_mk, wrN_mk, h3, okFr0, true_and, Nat.zero_add, List.size_toArray]
      have hfl := flat_len h4
      have hgl := flat_len hG
      have hsp := flat_splice_many (i := rows.length) h4 hG (by omega)
      refine ⟨⟨?_, by simpa using hone⟩, ?_⟩
      · rw [hfl, hgl, ← Nat.add_mul]; exact Nat.mul_le_mul_right _ hle
      · have hF' : splice F.flatten.toArray (rows.length * k) G.flatten.toArray = (F.take rows.length ++ G ++ F.drop (rows.length + G.length)).flatten.toArray := by
          rw [splice_list, hsp]
        rw [hF']
        refine hK _ _ [bl] (.inr ⟨bl, F.take rows.length ++ G ++ F.drop (rows.length + G.length), T, ?_, rfl, heap_self (live_of h3), ?_, ?_, ?_⟩) ((Kp.refl _ _).setBlk (.inl (by simp)) _) (fun y hy => .inl hy)
        · have : (F.take rows.length ++ G ++ F.drop (rows.length + G.length)).length = F.length := by simp; omega
          rw [this]; simp
        · intro y hy
          rw [List.mem_append, List.mem_append] at hy
          rcases hy with (hy | hy) | hy
          · exact h4 y (List.mem_of_mem_take hy)
          · exact hG y hy
          · exact h4 y (List.mem_of_mem_drop hy)
        · rw [h5, List.take_left]
        · simp; omega
    · have := next_le hlt
      calc _ ≤ (2 * (rows.length + G.length)) * bytes := Nat.mul_le_mul_right _ this
        _ ≤ _ := hb
    · simp only [base, rdN_mk, h3, Nat.zero_add, List.size_toArray]
      have hfl := flat_len h4
      refine ⟨by rw [hfl]; exact Nat.mul_le_mul_right _ h6, fun cap hc _ => grow _ cap ?_ hrow hc⟩
      have := extract_list F.flatten 0 (rows.length * k)
      rw [Nat.zero_add] at this
      rw [this, List.drop_zero, flat_take _ h4, h5]
/-- a row is looked at -/
theorem RowsAt.at {w : World} {v : Value} {k : Nat} {rows : List (List Value)} {S : List Nat} (h : RowsAt w v k rows S) {i : Nat} (hi : i < rows.length) :
    ∃ bl T c, bl ∈ S ∧ w.heap[bl]? = some (.cells c T (0, 0)) ∧ (∀ kd K, ia k v (.int kd i) K = K (.pointer (some ⟨bl, i * k, none⟩))) ∧ i * k + k ≤ c.size ∧ c.extract (i * k) (i * k + k) = rows[i].toArray ∧
      ∀ j, j < k → c[i * k + j]? = rows[i][j]? := by
  rcases h with ⟨h1, h2, h3⟩ | ⟨bl, F, T, h1, h2, h3, h4, h5, h6⟩
  · rw [h2] at hi; cases hi
  · have hiF : i < F.length := by omega
    have hrow : F[i] = rows[i] := by
      have e : rows[i]? = F[i]? := by rw [← h5, List.getElem?_take_of_lt (by omega)]
      rw [List.getElem?_eq_getElem hi, List.getElem?_eq_getElem hiF] at e
      injection e with e
      exact e.symm
    have hfl := flat_len h4
    have hget := flat_get h4 hiF
    have hle : i * k + k ≤ F.flatten.length := by rw [hfl, ← Nat.succ_mul]; exact Nat.mul_le_mul_right _ hiF
    refine ⟨bl, T, F.flatten.toArray, by rw [h2]; simp, h3, ?_, by simpa [-List.length_flatten] using hle, ?_, ?_⟩
    · intro kd K
      have hlt : (i : Int) < rows.length := by omega
      rw [h1]; simp only [ia_p, Nat.zero_add, Int.toNat_natCast]
      have : (0 ≤ (i : Int) ∧ (i : Int) < rows.length) = True := by simp; omega
      rw [this, true_and]
    · rw [extract_list, hget, hrow]
    · intro j hj
      rw [List.getElem?_toArray, ← List.getElem?_drop, ← hrow, ← hget, List.getElem?_take_of_lt hj]
/-! ### structs and literals of slices, laid part by part -/
theorem fold_set (off : Nat) : ∀ (l : List Value) (k : Nat) (c : Array Value), off + k + l.length ≤ c.size →
    (l.zipIdx k).foldl (fun cs p => cs.setIfInBounds (off + p.2) p.1) c = splice c (off + k) l.toArray := by
  intro l
  induction l with
  | nil => intro k c _; simp [splice]
  | cons v r ih =>
    intro k c h
    simp only [List.length_cons] at h
    rw [List.zipIdx_cons, List.foldl_cons]
    have := ih (k + 1) (c.setIfInBounds (off + k) v) (by simp; omega)
    simp only at this ⊢
    rw [this]
    unfold splice
    congr 1
    have e := list_seg_step c.toList (off + k) v r (by simp; omega)
    simpa [Array.toList_setIfInBounds, Nat.add_assoc] using e
theorem fill_step {place : Nat → Option (Nat × Nat)} {c : Array Value} {i off size : Nat} {v : Value} {rest : List (Nat × Value)} (hp : place i = some (off, size)) (hv : v.cells.size = size) (hc : off + size ≤ c.size) :
    Instr.fill place c ((i, v) :: rest) = Instr.fill place (splice c off v.cells) rest := by
  have h1 : v.cells.size = size := hv
  conv => lhs; unfold Instr.fill
  rw [hp]
  simp only [h1, ne_eq, not_true_eq_false, decide_false, Bool.false_or, decide_eq_true_eq]
  rw [if_neg (by omega)]
  congr 1
  have := fold_set off v.cells.toList 0 c (by simp; omega)
  simp only [Nat.add_zero, Array.toArray_toList] at this
  rw [← this]
  rw [← Array.foldl_toList, Array.toList_zipIdx]
theorem splice_size {c : Array Value} {o : Nat} {vs : Array Value} (h : o + vs.size ≤ c.size) : (splice c o vs).size = c.size := by
  unfold splice; simp; omega
/-- a slice of numbers that is only read -/
def IntsAt (w : World) (v : Value) (ks : List Int) (S : List Nat) : Prop :=
  ∃ a cap, v = .slice a ks.length cap ∧ (ks = [] ∨ ∃ bl o c T fr, a = some ⟨bl, o, none⟩ ∧ S = [bl] ∧ w.heap[bl]? = some (.cells c T fr) ∧ ∀ i, i < ks.length → c[o + i]? = some (.int .i64 (ks.getD i 0)))
theorem IntsAt.keep {w w' : World} {v : Value} {ks : List Int} {S S' : List Nat} (h : IntsAt w v ks S) (hk : Kp S' w w') (hd : ∀ x ∈ S, x ∉ S') : IntsAt w' v ks S := by
  obtain ⟨a, cap, h1, h2⟩ := h
  refine ⟨a, cap, h1, h2.imp id ?_⟩
  rintro ⟨bl, o, c, T, fr, g1, g2, g3, g4⟩
  subst g2
  exact ⟨bl, o, c, T, fr, g1, rfl, hk.get g3 (hd bl (by simp)), g4⟩
theorem IntsAt.at {w : World} {v : Value} {ks : List Int} {S : List Nat} (h : IntsAt w v ks S) {i : Nat} (hi : i < ks.length) :
    ∃ bl o c T fr, bl ∈ S ∧ w.heap[bl]? = some (.cells c T fr) ∧ (∀ kd K, ia 1 v (.int kd i) K = K (.pointer (some ⟨bl, o, none⟩))) ∧ c[o]? = some (.int .i64 (ks.getD i 0)) := by
  obtain ⟨a, cap, h1, h2⟩ := h
  rcases h2 with h2 | ⟨bl, o, c, T, fr, g1, g2, g3, g4⟩
  · rw [h2] at hi; cases hi
  · refine ⟨bl, o + i, c, T, fr, by rw [g2]; simp, g3, ?_, g4 i hi⟩
    intro kd K
    rw [h1, g1]
    have : (0 ≤ (i : Int) ∧ (i : Int) < ks.length) = True := by simp; omega
    simp only [ia_p, Int.toNat_natCast, Nat.mul_one, this, true_and]
theorem IntsAt.len {w : World} {v : Value} {ks : List Int} {S : List Nat} (h : IntsAt w v ks S) : ∃ a cap, v = .slice a ks.length cap := by
  obtain ⟨a, cap, h1, _⟩ := h
  exact ⟨a, cap, h1⟩
theorem rep_size (z : Array Value) (n : Nat) : (rep z n).size = n := by simp [rep]
theorem splice_all {c vs : Array Value} (h : c.size = vs.size) : splice c 0 vs = vs := by
  have : c.toList.drop vs.size = [] := List.drop_of_length_le (by simp [h])
  simp [splice, this]
end Go.Q

/- Slices that are read: rows of cells from anywhere in a block; parts of them; what is appended from them. -/
set_option linter.unusedVariables false
set_option linter.unusedSimpArgs false
namespace Go.Q
/-- a slice that reads as these rows -/
def RdAt (w : World) (v : Value) (k : Nat) (rows : List (List Value)) (S : List Nat) : Prop :=
  (v = .slice none 0 0 ∧ rows = []) ∨
  ∃ (bl o cap : Nat) (c : Array Value) (T : TypeId) (fr : Nat × Nat), v = .slice (some ⟨bl, o, none⟩) rows.length cap ∧ S = [bl] ∧ w.heap[bl]? = some (.cells c T fr) ∧ (∀ x ∈ rows, x.length = k) ∧
    o + rows.length * k ≤ c.size ∧ (c.toList.drop o).take (rows.length * k) = rows.flatten ∧ rows.length ≤ cap
section
variable {w : World} {v : Value} {k : Nat} {rows : List (List Value)} {S : List Nat}
theorem RowsAt.rd (h : RowsAt w v k rows S) : RdAt w v k rows S := by
  rcases h with ⟨h1, h2, h3⟩ | ⟨bl, F, T, h1, h2, h3, h4, h5, h6⟩
  · exact .inl ⟨h1, h2⟩
  · refine .inr ⟨bl, 0, F.length, _, T, _, h1, h2, h3, ?_, ?_, ?_, h6⟩
    · intro x hx; rw [← h5] at hx; exact h4 x (List.mem_of_mem_take hx)
    · have := flat_len h4
      simp only [List.size_toArray, this, Nat.zero_add]
      exact Nat.mul_le_mul_right _ h6
    · rw [List.drop_zero, flat_take _ h4, h5]
theorem RdAt.keep {w' : World} {S' : List Nat} (h : RdAt w v k rows S) (hk : Kp S' w w') (hd : ∀ x ∈ S, x ∉ S') : RdAt w' v k rows S := by
  rcases h with h | ⟨bl, o, cap, c, T, fr, h1, h2, h3, h4⟩
  · exact .inl h
  · subst h2
    exact .inr ⟨bl, o, cap, c, T, fr, h1, rfl, hk.get h3 (hd bl (by simp)), h4⟩
theorem RdAt.len (h : RdAt w v k rows S) : ∃ a c, v = .slice a rows.length c ∧ rows.length ≤ c := by
  rcases h with ⟨h1, h2⟩ | ⟨bl, o, cap, c, T, fr, h1, h2, h3, h4, h5, h6, h7⟩
  · exact ⟨none, 0, by rw [h1, h2]; rfl, by simp [h2]⟩
  · exact ⟨_, _, h1, h7⟩
theorem RdAt.lenL (h : RdAt w v k rows S) {K : Value → Prop} : lenL v K = K (.int .i64 rows.length) := by
  obtain ⟨a, c, h1, _⟩ := h.len
  rw [h1]; rfl
theorem RdAt.row (h : RdAt w v k rows S) {x : List Value} (hx : x ∈ rows) : x.length = k := by
  rcases h with ⟨h1, h2⟩ | ⟨bl, o, cap, c, T, fr, h1, h2, h3, h4, _⟩
  · rw [h2] at hx; cases hx
  · exact h4 x hx
theorem extract_toList (c : Array Value) (o n : Nat) : c.extract o (o + n) = ((c.toList.drop o).take n).toArray := by
  apply Array.toList_inj.1
  simp [List.take_drop]
theorem RdAt.src (h : RdAt w v k rows S) (K' : Nat → Array Value → Prop) (hK : K' rows.length rows.flatten.toArray) : Q.srcA k v w K' := by
  rcases h with ⟨h1, h2⟩ | ⟨bl, o, cap, c, T, fr, h1, h2, h3, h4, h5, h6, h7⟩
  · subst h1; subst h2; exact hK
  · subst h1
    simp only [Q.srcA]
    split
    · rename_i h0
      have : rows.flatten = [] := by rw [← h6, h0]; simp
      rw [this] at hK
      exact hK
    · simp only [rdN_mk, h3]
      refine ⟨h5, ?_⟩
      rw [extract_toList, h6]; exact hK
theorem RdAt.take (h : RdAt w v k rows S) {p : Nat} (hp : p ≤ rows.length) {kd : IntKind} : ∃ v', RdAt w v' k (rows.take p) S ∧ ∀ K, slL k v none (some (.int kd p)) K = K v' := by
  rcases h with ⟨h1, h2⟩ | ⟨bl, o, cap, c, T, fr, h1, h2, h3, h4, h5, h6, h7⟩
  · subst h1; subst h2
    have : p = 0 := by simpa using hp
    subst this
    exact ⟨_, .inl ⟨rfl, by simp⟩, fun K => by simp⟩
  · subst h1
    have hl : (rows.take p).length = p := by simp; omega
    have hle : p * k ≤ rows.length * k := Nat.mul_le_mul_right _ hp
    refine ⟨.slice (some ⟨bl, o, none⟩) p cap, .inr ⟨bl, o, cap, c, T, fr, by rw [hl], h2, h3, fun x hx => h4 x (List.mem_of_mem_take hx), by rw [hl]; omega, ?_, by omega⟩, fun K => ?_⟩
    · rw [hl]
      have h8 : (c.toList.drop o).take (p * k) = ((c.toList.drop o).take (rows.length * k)).take (p * k) := by rw [List.take_take, Nat.min_eq_left hle]
      rw [h8, h6]
      exact flat_take p h4
    · have : (p : Int) ≤ cap := by omega
      simp [this]
theorem RdAt.drop (h : RdAt w v k rows S) {p : Nat} (hp : p ≤ rows.length) {kd : IntKind} : ∃ v', RdAt w v' k (rows.drop p) S ∧ ∀ K, slL k v (some (.int kd p)) none K = K v' := by
  rcases h with ⟨h1, h2⟩ | ⟨bl, o, cap, c, T, fr, h1, h2, h3, h4, h5, h6, h7⟩
  · subst h1; subst h2
    have : p = 0 := by simpa using hp
    subst this
    exact ⟨_, .inl ⟨rfl, by simp⟩, fun K => by simp⟩
  · subst h1
    have hl : (rows.drop p).length = rows.length - p := by simp
    have hsum : p * k + (rows.length - p) * k = rows.length * k := by rw [← Nat.add_mul]; congr 1; omega
    have hfl : rows.flatten.drop (p * k) = (rows.drop p).flatten := flat_drop p h4
    by_cases hc : cap = p
    · have hr : rows.length = p := by omega
      have hd : rows.drop p = [] := by rw [← hr]; simp
      refine ⟨.slice (some ⟨bl, o, none⟩) (rows.drop p).length (cap - p), .inr ⟨bl, o, cap - p, c, T, fr, rfl, h2, h3, by rw [hd]; simp, by rw [hd]; simp; omega, by rw [hd]; simp, by rw [hd]; simp⟩, fun K => ?_⟩
      have : (p : Int) ≤ rows.length := by omega
      simp [hc, this, hr]
    · refine ⟨.slice (some ⟨bl, o + p * k, none⟩) (rows.drop p).length (cap - p), .inr ⟨bl, o + p * k, cap - p, c, T, fr, rfl, h2, h3, fun x hx => h4 x (List.mem_of_mem_drop hx), by rw [hl]; omega, ?_, by rw [hl]; omega⟩, fun K => ?_⟩
      · rw [hl, ← hfl, ← h6, ← List.drop_drop, List.drop_take]
        congr 1
        omega
      · have : (p : Int) ≤ rows.length := by omega
        simp [hc, this, hp]
theorem RdAt.at (h : RdAt w v k rows S) {i : Nat} (hi : i < rows.length) :
    ∃ bl o T c fr, bl ∈ S ∧ w.heap[bl]? = some (.cells c T fr) ∧ (∀ kd K, ia k v (.int kd i) K = K (.pointer (some ⟨bl, o, none⟩))) ∧ o + k ≤ c.size ∧ c.extract o (o + k) = rows[i].toArray ∧
      ∀ j, j < k → c[o + j]? = rows[i][j]? := by
  rcases h with ⟨h1, h2⟩ | ⟨bl, o, cap, c, T, fr, h1, h2, h3, h4, h5, h6, h7⟩
  · subst h2; cases hi
  · subst h1
    have hle : i * k + k ≤ rows.length * k := by rw [← Nat.succ_mul]; exact Nat.mul_le_mul_right _ hi
    have hget := flat_get h4 hi
    have hrow : (c.toList.drop (o + i * k)).take k = rows[i] := by
      rw [← hget, ← h6, List.drop_take, List.take_take, List.drop_drop]
      congr 1
      omega
    refine ⟨bl, o + i * k, T, c, fr, by rw [h2]; simp, h3, ?_, by omega, by rw [extract_toList, hrow], ?_⟩
    · intro kd K
      simp only [ia_p, Int.toNat_natCast]
      have : (0 ≤ (i : Int) ∧ (i : Int) < rows.length) = True := by simp; omega
      rw [this, true_and]
    · intro j hj
      rw [← Array.getElem?_toList, ← List.getElem?_drop, ← hrow, List.getElem?_take_of_lt hj]
end
end Go.Q

/- What a row says of a slice that came in, in the words of the contracts. -/
set_option linter.unusedVariables false
set_option linter.unusedSimpArgs false
namespace Go.Q
theorem wf64 {n : Int} (h : (Lit.int .i64 n).wf = true) : -9223372036854775808 ≤ n ∧ n < 9223372036854775808 := by
  simp [Lit.wf, IntKind.min, IntKind.max, IntKind.bits, IntKind.signed] at h
  omega
theorem cell_block {w : World} {x : Addr} {v : Value} (h : w.cell? x = some v) : x.spot = none ∧ ∃ c T fr, w.heap[x.block]? = some (.cells c T fr) ∧ c[x.off]? = some v := by
  unfold World.cell? at h
  split at h
  · rename_i c T fr hh
    split at h
    · cases h
    · rename_i hs
      exact ⟨by simpa using hs, c, T, fr, hh, h⟩
  · cases h
end Go.Q

/- Slices that came in, whatever their elements are: rows of cells, each of which the statement's own reading took. -/
set_option linter.unusedVariables false
set_option linter.unusedSimpArgs false
namespace Go.Q
/-- a slice that came in -/
def ArgAt (w : World) (v : Value) (k : Nat) (rows : List (List Value)) (S : List Nat) : Prop :=
  (∃ a cap, v = .slice a 0 cap ∧ rows = []) ∨ RdAt w v k rows S
section
variable {w : World} {v : Value} {k : Nat} {rows : List (List Value)} {S : List Nat}
theorem ArgAt.keep {w' : World} {S' : List Nat} (h : ArgAt w v k rows S) (hk : Kp S' w w') (hd : ∀ x ∈ S, x ∉ S') : ArgAt w' v k rows S := h.imp id fun h => h.keep hk hd
theorem ArgAt.lenL (h : ArgAt w v k rows S) {K : Value → Prop} : lenL v K = K (.int .i64 rows.length) := by
  rcases h with ⟨a, cap, h1, h2⟩ | h
  · rw [h1, h2]; rfl
  · exact h.lenL
theorem ArgAt.src (h : ArgAt w v k rows S) (K' : Nat → Array Value → Prop) (hK : K' rows.length rows.flatten.toArray) : Q.srcA k v w K' := by
  rcases h with ⟨a, cap, h1, h2⟩ | h
  · subst h1; subst h2
    cases a with
    | none => exact hK
    | some a =>
      simp only [Q.srcA, Nat.zero_mul, if_true]
      exact hK
  · exact h.src K' hK
theorem ArgAt.take (h : ArgAt w v k rows S) {p : Nat} (hp : p ≤ rows.length) {kd : IntKind} : ∃ v', ArgAt w v' k (rows.take p) S ∧ ∀ K, slL k v none (some (.int kd p)) K = K v' := by
  rcases h with ⟨a, cap, h1, h2⟩ | h
  · subst h1; subst h2
    have : p = 0 := by simpa using hp
    subst this
    exact ⟨.slice (if cap = 0 then a else a.map (·.add (0 * k))) 0 (cap - 0), .inl ⟨_, _, rfl, by simp⟩, fun K => by simp [slL, bnd]⟩
  · obtain ⟨v', h1, h2⟩ := h.take hp (kd := kd)
    exact ⟨v', .inr h1, h2⟩
theorem ArgAt.drop (h : ArgAt w v k rows S) {p : Nat} (hp : p ≤ rows.length) {kd : IntKind} : ∃ v', ArgAt w v' k (rows.drop p) S ∧ ∀ K, slL k v (some (.int kd p)) none K = K v' := by
  rcases h with ⟨a, cap, h1, h2⟩ | h
  · subst h1; subst h2
    have : p = 0 := by simpa using hp
    subst this
    exact ⟨.slice (if cap = 0 then a else a.map (·.add (0 * k))) 0 (cap - 0), .inl ⟨_, _, rfl, by simp⟩, fun K => by simp [slL, bnd]⟩
  · obtain ⟨v', h1, h2⟩ := h.drop hp (kd := kd)
    exact ⟨v', .inr h1, h2⟩
theorem ArgAt.row (h : ArgAt w v k rows S) {x : List Value} (hx : x ∈ rows) : x.length = k := by
  rcases h with ⟨a, cap, h1, h2⟩ | h
  · rw [h2] at hx; cases hx
  · exact h.row hx
theorem ArgAt.at (h : ArgAt w v k rows S) {i : Nat} (hi : i < rows.length) :
    ∃ bl o T c fr, bl ∈ S ∧ w.heap[bl]? = some (.cells c T fr) ∧ (∀ kd K, ia k v (.int kd i) K = K (.pointer (some ⟨bl, o, none⟩))) ∧ o + k ≤ c.size ∧ c.extract o (o + k) = rows[i].toArray ∧
      ∀ j, j < k → c[o + j]? = rows[i][j]? := by
  rcases h with ⟨a, cap, h1, h2⟩ | h
  · rw [h2] at hi; cases hi
  · exact h.at hi
theorem chop_flat (l : List Value) (k : Nat) : ∀ n, ((List.range n).map fun i => (l.drop (i * k)).take k).flatten = l.take (n * k) := by
  intro n
  induction n with
  | zero => simp
  | succ n ih =>
    rw [List.range_succ, List.map_append, List.flatten_append, ih]
    simp only [List.map_cons, List.map_nil, List.flatten_cons, List.flatten_nil, List.append_nil]
    rw [Nat.succ_mul, List.take_add]
end
section
variable {H : Type} {enc : TypeId × Value → H} {P : Program} {w : World} {base : Nat} {spare : Nat → Bool} {held : Bool}
theorem arg_slice {t e : TypeId} {n fuel : Nat} {cs : List Value} {x : DataW H × List MemPlace} (ht : P.underlying t = some (.slice e)) (hc : P.cellsOf e = n) (hn : 0 < n)
    (h : DataW.trod enc P w base spare held fuel t cs = some x) :
    ∃ v rows SK, cs = [v] ∧ ArgAt w v n rows SK ∧ (∀ b ∈ SK, b < w.heap.size) ∧ rows.length ≤ maxLen ∧ ∀ r ∈ rows, ∃ f y, DataW.trod enc P w base spare held f e r = some y := by
  rcases DataW.trod_slice ht h with ⟨h1, _⟩ | ⟨a, len, cap, elems, rest, m, _, rfl, _, hb, hl, hm, hlen, hel, _, _⟩
  · exact ⟨_, [], [], h1, .inl ⟨none, 0, rfl, rfl⟩, by simp, by simp, by simp⟩
  · rw [hc] at hel
    by_cases h0 : len = 0
    · subst h0
      exact ⟨_, [], [], rfl, .inl ⟨some a, cap, rfl, rfl⟩, by simp, by simp, by simp⟩
    · have each : ∀ i, i < len → ∃ cs y, w.cells? base (a.add (i * n)) n = some cs ∧ DataW.trod enc P w base spare held m e cs = some y := by
        intro i hi
        have h1 := hel i hi
        have h2 : elems[i]? = some elems[i] := List.getElem?_eq_getElem (by omega)
        rw [h2, Option.bind_eq_some_iff] at h1
        obtain ⟨cs, h3, h4⟩ := h1
        exact ⟨cs, _, h3, h4⟩
      obtain ⟨cs0, y0, h3, h4⟩ := each 0 (by omega)
      obtain ⟨_, hl0, hc0⟩ := World.cells?_some h3
      have h5 := hc0 0 hn
      rw [Nat.zero_mul, List.getElem?_eq_getElem (by omega)] at h5
      have h6 : w.cell? a = some cs0[0] := by simpa [Addr.add] using h5
      obtain ⟨hs, c, T, fr, hh, _⟩ := cell_block h6
      obtain ⟨b, o, s⟩ := a
      simp only at hs hh
      subst hs
      have cell : ∀ i j, i < len → j < n → ∃ cs y, w.cells? base (Addr.add ⟨b, o, none⟩ (i * n)) n = some cs ∧ DataW.trod enc P w base spare held m e cs = some y ∧ cs.length = n ∧ c[o + i * n + j]? = cs[j]? ∧ o + i * n + j < c.size := by
        intro i j hi hj
        obtain ⟨cs, y, g1, g2⟩ := each i hi
        obtain ⟨_, g3, g4⟩ := World.cells?_some g1
        have g5 := g4 j hj
        simp only [add_mk] at g5
        have g6 : w.cell? ⟨b, o + i * n + j, none⟩ = c[o + i * n + j]? := by simp [World.cell?, hh]
        rw [g6] at g5
        refine ⟨cs, y, g1, g2, g3, g5, ?_⟩
        rw [List.getElem?_eq_getElem (by omega)] at g5
        exact (Array.getElem?_eq_some_iff.mp g5).1
      have hsz : o + len * n ≤ c.size := by
        obtain ⟨_, _, _, _, _, _, g⟩ := cell (len - 1) (n - 1) (by omega) (by omega)
        have : len * n = (len - 1) * n + n := by rw [← Nat.succ_mul]; congr 1; omega
        omega
      have hrow : ∀ i, i < len → (c.toList.drop o |>.drop (i * n)).take n = (c.toList.drop (o + i * n)).take n := fun i _ => by rw [List.drop_drop]
      refine ⟨_, (List.range len).map fun i => ((c.toList.drop o).drop (i * n)).take n, [b], rfl, .inr (.inr ⟨b, o, cap, c, T, fr, by simp, rfl, hh, ?_, by simpa using hsz, ?_, by simpa using hl⟩), ?_, ?_, ?_⟩
      · intro r hr
        simp only [List.mem_map, List.mem_range] at hr
        obtain ⟨i, hi, rfl⟩ := hr
        have : (i + 1) * n ≤ len * n := Nat.mul_le_mul_right _ hi
        rw [Nat.succ_mul] at this
        simp; omega
      · rw [chop_flat]; simp
      · intro y hy
        simp only [List.mem_singleton] at hy
        subst hy
        exact lt_of_blk hh
      · simp; omega
      · intro r hr
        simp only [List.mem_map, List.mem_range] at hr
        obtain ⟨i, hi, rfl⟩ := hr
        obtain ⟨cs, y, g1, g2, g3, _, _⟩ := cell i 0 hi hn
        refine ⟨m, y, ?_⟩
        have he : ((c.toList.drop o).drop (i * n)).take n = cs := by
          apply List.ext_getElem?
          intro j
          by_cases hj : j < n
          · obtain ⟨cs', y', g1', _, _, g4', _⟩ := cell i j hi hj
            rw [g1] at g1'
            injection g1' with g1'
            subst g1'
            rw [List.getElem?_take_of_lt hj, List.drop_drop, List.getElem?_drop, Array.getElem?_toList, g4']
          · rw [List.getElem?_eq_none (by simp; omega), List.getElem?_eq_none (by omega)]
        rw [he]; exact g2
end
end Go.Q

/- '==' of structs whose fields are numbers, texts and bools: one Bool. -/
set_option linter.unusedVariables false
set_option linter.unusedSimpArgs false
namespace Go.Q
def eqV : Value → Value → Bool
  | .int _ x, .int _ y => decide (x = y)
  | .string s, .string t => decide (s = t)
  | .bool a, .bool b => a == b
  | _, _ => false
def eqC : List Value → List Value → Bool
  | a :: r, b :: s => eqV a b && eqC r s
  | _, _ => true
@[simp] theorem eqV_int {k k' : IntKind} {x y : Int} : eqV (.int k x) (.int k' y) = decide (x = y) := rfl
@[simp] theorem eqV_str {s t : ByteArray} : eqV (.string s) (.string t) = decide (s = t) := rfl
@[simp] theorem eqV_bool {s t : Bool} : eqV (.bool s) (.bool t) = (s == t) := rfl
@[simp] theorem eqC_cons {a b : Value} {r s : List Value} : eqC (a :: r) (b :: s) = (eqV a b && eqC r s) := rfl
@[simp] theorem eqC_nil : eqC [] [] = true := rfl
def eqK : Option TypeDesc → Value → Value → Bool
  | some (.int _), .int k _, .int k' _ => k == k'
  | some .string, .string _, .string _ => true
  | some .bool, .bool _, .bool _ => true
  | _, _, _ => false
def flatF (P : Program) : List Field → List Value → List Value → Nat → Bool
  | [], _, _, _ => true
  | f :: fs, a :: aas, b :: bbs, i => !(f.name == "_") && Nat.beq f.offset i && (match aggO P f.type with | some false => true | _ => false) && eqK (P.underlying f.type) a b && flatF P fs aas bbs (i + 1)
  | _, _, _, _ => false
def aggEq (P : Program) (T : TypeId) (xs ys : List Value) : Bool :=
  match P.underlying T with
  | some (.struct fs) => !P.stoodInHeld T && !P.eqGuardType P.depth T && flatF P fs.toList xs ys 0 && Nat.beq fs.size xs.length && Nat.beq fs.size ys.length
  | _ => false
variable {P : Program}
theorem eqV_run {d : Nat} {T : TypeId} {a b : Value} {w : World} (h : eqK (P.underlying T) a b = true) : (Op.equalIn (d + 1) T a b).run P w = .ok (eqV a b) w := by
  unfold eqK at h
  split at h
  · rename_i hu
    have hk := eq_of_beq h
    subst hk
    rw [run_equalIn_int w d T _ _ _ _ hu]
    rfl
  · rename_i hu
    rw [run_equalIn_string w d T _ _ hu]
    rw [toList_beq]; rfl
  · rename_i hu
    rw [run_equalIn_bool' w d T _ _ hu]; rfl
  · cases h
theorem flat_run {d : Nat} {xs ys : Array Value} {w : World} : ∀ (fs : List Field) (aas bbs : List Value) (i : Nat), flatF P fs aas bbs i = true → xs.toList.drop i = aas → ys.toList.drop i = bbs → aas.length = fs.length → bbs.length = fs.length →
    (Op.eqFields (d + 1) xs ys fs).run P w = .ok (eqC aas bbs) w := by
  intro fs
  induction fs with
  | nil =>
    intro aas bbs i _ _ _ h1 h2
    have ha : aas = [] := List.length_eq_zero_iff.1 h1
    have hb : bbs = [] := List.length_eq_zero_iff.1 h2
    rw [ha, hb]
    simp [Op.eqFields]
  | cons f fs ih =>
    intro aas bbs i h h1 h2 h3 h4
    cases aas with
    | nil => simp at h3
    | cons a aas =>
      cases bbs with
      | nil => simp at h4
      | cons b bbs =>
        simp only [flatF, Bool.and_eq_true, Bool.not_eq_true'] at h
        obtain ⟨⟨⟨⟨g1, g2⟩, g3⟩, g4⟩, g5⟩ := h
        have hn : f.name ≠ "_" := by simpa using g1
        have ho : f.offset = i := Nat.eq_of_beq_eq_true g2
        have ha : aggO P f.type = some false := by
          revert g3
          cases aggO P f.type with
          | none => intro h; cases h
          | some t => cases t <;> intro h <;> simp at h ⊢
        have hx : xs[i]? = some a := by rw [← Array.getElem?_toList, ← List.head?_drop, h1]; rfl
        have hy : ys[i]? = some b := by rw [← Array.getElem?_toList, ← List.head?_drop, h2]; rfl
        have p1 : (part f.type xs f.offset).run P w = .ok a w := by rw [ho]; simp [part, aggO_run ha, hx, pure, Sem.run]
        have p2 : (part f.type ys f.offset).run P w = .ok b w := by rw [ho]; simp [part, aggO_run ha, hy, pure, Sem.run]
        have hr := ih aas bbs (i + 1) g5 (by rw [← List.drop_drop, h1]; rfl) (by rw [← List.drop_drop, h2]; rfl) (by simpa using h3) (by simpa using h4)
        rw [Op.eqFields]
        simp only [if_pos hn, Sem.run_bind, p1, p2, eqV_run g4, Result.andThen_ok]
        cases hv : eqV a b
        · simp [hv]
        · simp [hv]; exact hr
theorem run_aggs {T : TypeId} {xs ys : Array Value} {xo yo : Operand} {w : World} (h : aggEq P T xs.toList ys.toList = true) :
    (bq .eql T xo yo (.agg xs) (.agg ys)).run P w = .ok (.bool (eqC xs.toList ys.toList)) w ∧ (bq .neq T xo yo (.agg xs) (.agg ys)).run P w = .ok (.bool !eqC xs.toList ys.toList) w := by
  unfold aggEq at h
  split at h
  · rename_i fs hu
    simp only [Bool.and_eq_true, Bool.not_eq_true'] at h
    obtain ⟨⟨⟨⟨h1, h2⟩, h3⟩, h4⟩, h5⟩ := h
    have h4 := Nat.eq_of_beq_eq_true h4
    have h5 := Nat.eq_of_beq_eq_true h5
    have hf : P.fieldsOf T = fs := by simp [Program.fieldsOf, hu]
    have hr := flat_run (d := 9998) (xs := xs) (ys := ys) (w := w) fs.toList xs.toList ys.toList 0 h3 rfl rfl (by simpa using h4.symm) (by simpa using h5.symm)
    have he : (Op.equalIn 10000 T (.agg xs) (.agg ys)).run P w = .ok (eqC xs.toList ys.toList) w := by
      rw [run_equalIn_agg w 9999 T xs ys (by rw [hf]; exact hu) h1, hf]
      exact hr
    constructor
    · unfold bq
      rw [Sem.run_bind, run_eqGuard_agg w _ _ _ _ _ _ h2]
      simp only [Result.andThen_ok]
      rw [run_eql_struct, he]; rfl
    · unfold bq
      rw [Sem.run_bind, run_eqGuard_agg w _ _ _ _ _ _ h2]
      simp only [Result.andThen_ok]
      rw [run_neq_struct, he]; rfl
  · cases h
@[simp] theorem bq_aggeql {T : TypeId} {xs ys : List Value} {xo yo : Operand} {w : World} {K : Value → Prop} (h : aggEq P T xs ys = true) : qG P (bq .eql T xo yo (.agg xs.toArray) (.agg ys.toArray)) w K = K (.bool (eqC xs ys)) := qG_of (run_aggs h).1
@[simp] theorem bq_aggneq {T : TypeId} {xs ys : List Value} {xo yo : Operand} {w : World} {K : Value → Prop} (h : aggEq P T xs ys = true) : qG P (bq .neq T xo yo (.agg xs.toArray) (.agg ys.toArray)) w K = K (.bool !eqC xs ys) := qG_of (run_aggs h).2
end Go.Q

/- Slices of a call's own, and slices that are only read, without a list of their blocks. -/
set_option linter.unusedVariables false
set_option linter.unusedSimpArgs false
namespace Go.Q
/-- a slice that reads so -/
def Rd (w : World) (v : Value) (k : Nat) (rows : List (List Value)) : Prop := ∃ S, ArgAt w v k rows S
/-- a slice that owns its block, which was made behind 'w0' -/
structure Fr (w0 w : World) (v : Value) (k : Nat) (rows : List (List Value)) : Prop where
  ex : ∃ S, RowsAt w v k rows S ∧ ∀ x ∈ S, w0.heap.size ≤ x
  kp : Kp [] w0 w
section
variable {w0 w w' : World} {v : Value} {k : Nat} {rows : List (List Value)}
theorem Rd.keep (h : Rd w v k rows) (hk : Kp [] w w') : Rd w' v k rows := by
  obtain ⟨S, h⟩ := h
  exact ⟨S, h.keep hk (by simp)⟩
theorem Rd.lenL (h : Rd w v k rows) {K : Value → Prop} : lenL v K = K (.int .i64 rows.length) := by
  obtain ⟨S, h⟩ := h
  exact h.lenL
theorem Rd.row (h : Rd w v k rows) {x : List Value} (hx : x ∈ rows) : x.length = k := by
  obtain ⟨S, h⟩ := h
  exact h.row hx
theorem Rd.src (h : Rd w v k rows) (K' : Nat → Array Value → Prop) (hK : K' rows.length rows.flatten.toArray) : Q.srcA k v w K' := by
  obtain ⟨S, h⟩ := h
  exact h.src K' hK
theorem Rd.at (h : Rd w v k rows) {i : Nat} (hi : i < rows.length) :
    ∃ bl o T c fr, w.heap[bl]? = some (.cells c T fr) ∧ (∀ kd K, ia k v (.int kd i) K = K (.pointer (some ⟨bl, o, none⟩))) ∧ o + k ≤ c.size ∧ c.extract o (o + k) = rows[i].toArray ∧ ∀ j, j < k → c[o + j]? = rows[i][j]? := by
  obtain ⟨S, h⟩ := h
  obtain ⟨bl, o, T, c, fr, _, h1, h2, h3, h4, h5⟩ := h.at hi
  exact ⟨bl, o, T, c, fr, h1, h2, h3, h4, h5⟩
theorem Rd.take (h : Rd w v k rows) {p : Nat} (hp : p ≤ rows.length) {kd : IntKind} : ∃ v', Rd w v' k (rows.take p) ∧ ∀ K, slL k v none (some (.int kd p)) K = K v' := by
  obtain ⟨S, h⟩ := h
  obtain ⟨v', h1, h2⟩ := h.take hp (kd := kd)
  exact ⟨v', ⟨S, h1⟩, h2⟩
theorem Rd.drop (h : Rd w v k rows) {p : Nat} (hp : p ≤ rows.length) {kd : IntKind} : ∃ v', Rd w v' k (rows.drop p) ∧ ∀ K, slL k v (some (.int kd p)) none K = K v' := by
  obtain ⟨S, h⟩ := h
  obtain ⟨v', h1, h2⟩ := h.drop hp (kd := kd)
  exact ⟨v', ⟨S, h1⟩, h2⟩
/-- a row is read whole -/
theorem Rd.get (h : Rd w v k rows) {i : Nat} (hi : i < rows.length) :
    ∃ p, (∀ kd K, ia k v (.int kd i) K = K p) ∧ (∀ K : Value → Prop, ldn k p w K = K (.agg rows[i].toArray)) ∧ ∀ j (hj : j < rows[i].length), ∀ K : Value → Prop, fa j p (fun q => ld1 q w K) = K rows[i][j] := by
  have hr := h.row (List.getElem_mem hi)
  obtain ⟨bl, o, T, c, fr, h1, h2, h3, h4, h5⟩ := h.at hi
  refine ⟨_, h2, fun K => ?_, fun j hj K => ?_⟩
  · simp only [ldn_p, rdN_mk, h1, h3, h4, true_and]
  · have := h5 j (by omega)
    rw [List.getElem?_eq_getElem hj] at this
    simp [-getElem?_pos, -Array.getElem?_eq_getElem, h1, this]
/-- a row of one cell is read -/
theorem Rd.one (h : Rd w v 1 rows) {i : Nat} (hi : i < rows.length) {x : Value} (hx : rows[i] = [x]) : ∃ p, (∀ kd K, ia 1 v (.int kd i) K = K p) ∧ ∀ K : Value → Prop, ld1 p w K = K x := by
  obtain ⟨bl, o, T, c, fr, h1, h2, h3, h4, h5⟩ := h.at hi
  refine ⟨_, h2, fun K => ?_⟩
  have := h5 0 (by omega)
  rw [hx, Nat.add_zero, List.getElem?_cons_zero] at this
  simp [-getElem?_pos, -Array.getElem?_eq_getElem, h1, this]
theorem Rd.slice (h : Rd w v k rows) : ∃ a c, v = .slice a rows.length c := by
  obtain ⟨S, ⟨a, c, h1, h2⟩ | h⟩ := h
  · exact ⟨a, c, by rw [h1, h2]; rfl⟩
  · obtain ⟨a, c, h1, _⟩ := h.len
    exact ⟨a, c, h1⟩
theorem Fr.rd (h : Fr w0 w v k rows) : Rd w v k rows := by
  obtain ⟨S, h1, h2⟩ := h.ex
  exact ⟨S, .inr h1.rd⟩
theorem Fr.keep (h : Fr w0 w v k rows) (hk : Kp [] w w') : Fr w0 w' v k rows := by
  obtain ⟨S, h1, h2⟩ := h.ex
  exact ⟨⟨S, h1.keep hk (by simp), h2⟩, h.kp.trans' hk⟩
/-- an elder base -/
theorem Fr.base {wb : World} (h : Fr w0 w v k rows) (hk : Kp [] wb w0) : Fr wb w v k rows := by
  obtain ⟨S, h1, h2⟩ := h.ex
  exact ⟨⟨S, h1, fun x hx => by have := h2 x hx; have := hk.size; omega⟩, hk.trans' h.kp⟩
theorem Fr.one (h : Fr w0 w v k rows) : Q.one v = true := by
  obtain ⟨S, h1, h2⟩ := h.ex
  obtain ⟨a, c, hv, _⟩ := h1.len
  rw [hv]; rfl
theorem fr_nil (hk : Kp [] w0 w) : Fr w0 w (.slice none 0 0) k [] := ⟨⟨[], .inl ⟨rfl, rfl, rfl⟩, by simp⟩, hk⟩
theorem fr_app {e bytes : Nat} {z : List Value} {x : Value} {G : List (List Value)} (h : Fr w0 w v k rows) (hk : 0 < k) (hz : z.length = k) (hG : ∀ y ∈ G, y.length = k) (hone : G.flatten.all Q.one = true)
    (hsrc : ∀ K' : Nat → Array Value → Prop, K' G.length G.flatten.toArray → srcA k x w K') (hb : 2 * (rows.length + G.length) * bytes ≤ 2 ^ 48) (hb2 : rows.length + G.length < 2 ^ 62) {K : Value → World → Prop}
    (hK : ∀ v' w', Fr w0 w' v' k (rows ++ G) → K v' w') : app e k bytes z.toArray v x w K := by
  obtain ⟨S, h1, h2⟩ := h.ex
  refine rows_app h1 hk hz hG hone hsrc hb hb2 fun v' w' S' h' hk' hS' => ?_
  have hs := h.kp.size
  refine hK v' w' ⟨⟨S', h', fun x hx => ?_⟩, h.kp.trans hk' fun x hx hlt => by have := h2 x hx; omega⟩
  rcases hS' x hx with h | h
  · exact h2 x h
  · omega
/-- a literal of one row is a slice of its own -/
theorem bsl_rowN {e n : Nat} {z : Array Value} {x : Value} {cs : List Value} (hn : 0 < n) (hc : x.cells = cs.toArray) (hl : cs.length = n) {w : World} {K : Value → World → Prop}
    (hK : ∀ v' w', Fr w w' v' n [cs] → K v' w') : bsl e n 1 z #[(0, x)] w K := by
  have hb : bsl e n 1 z #[(0, x)] w K = K (.slice (some ⟨w.heap.size, 0, none⟩) 1 1) (w.alloc (.cells cs.toArray e)) := by
    unfold bsl
    show (match Instr.fill (fun i => some (i * n, n)) (rep z (1 * n)) [(0, x)] with | some cs => K (Value.slice (some ⟨w.heap.size, 0, none⟩) 1 1) (w.alloc (Obj.cells cs e)) | none => False) = _
    rw [fill_step (off := 0) (size := n) (by simp) (by rw [hc]; simpa using hl) (by rw [rep_size]; omega), hc, splice_all (by rw [rep_size]; simp [hl])]
    rfl
  rw [hb]
  refine hK _ _ ⟨⟨[w.heap.size], .inr ⟨w.heap.size, [cs], e, rfl, rfl, ?_, by simpa using hl, by simp, by simp⟩, by simp⟩, (Kp.refl [] w).alloc _⟩
  rw [heap_new]; simp
/-- one row is appended -/
theorem fr_push {e bytes : Nat} {z : List Value} {x : Value} {y : List Value} {wx : World} (h : Fr w0 w v k rows) (hx : Rd w x k [y]) (hk : 0 < k) (hz : z.length = k) (hone : y.all Q.one = true)
    (hb : 2 * (rows.length + 1) * bytes ≤ 2 ^ 48) (hb2 : rows.length + 1 < 2 ^ 62) {K : Value → World → Prop}
    (hK : ∀ v' w', Fr w0 w' v' k (rows ++ [y]) → K v' w') : app e k bytes z.toArray v x w K := by
  have hy : y.length = k := hx.row (by simp)
  refine fr_app h hk hz (G := [y]) (by simpa using hy) (by simpa using hone) (fun K' hK' => hx.src K' hK') hb hb2 hK
end
/-! ### bytes -/
def byteV (c : UInt8) : List Value := [.int .u8 c.toNat]
theorem byteV_flat (l : List UInt8) : (l.map byteV).flatten = u8c l := by
  induction l with
  | nil => rfl
  | cons c l ih => simp only [List.map_cons, List.flatten_cons, ih]; rfl
theorem byteV_one (l : List UInt8) : ((l.map byteV).flatten).all one = true := by
  rw [byteV_flat]; have := one_u8c l; rw [List.all_toArray] at this; exact this
theorem srcA_str {l : List UInt8} {w : World} (K' : Nat → Array Value → Prop) (hK : K' (l.map byteV).length (l.map byteV).flatten.toArray) : srcA 1 (.string (str l)) w K' := by
  have he : u8s ((str l).extract 0 l.length) = (u8c l).toArray := by rw [str_extract, List.take_length, List.drop_zero, u8s_eq]; rfl
  rw [byteV_flat, List.length_map] at hK
  simp only [srcA, str_size, he]
  exact hK
/-- a text of bytes -/
theorem Rd.text {w : World} {v : Value} {l : List UInt8} (h : Rd w v 1 (l.map byteV)) (hn : (∃ a c, v = .slice a 0 c) → v = .slice none 0 0 ∨ ∃ S, RdAt w v 1 (l.map byteV) S) {K : Value → Prop} : cvBS v w K = K (.string (str l)) := by
  have main : ∀ S, RdAt w v 1 (l.map byteV) S → cvBS v w K = K (.string (str l)) := by
    intro S h
    rcases h with ⟨h1, h2⟩ | ⟨bl, o, cap, c, T, fr, h1, h2, h3, h4, h5, h6, h7⟩
    · have : l = [] := by simpa using h2
      subst this; subst h1
      rfl
    · subst h1
      have hb := bytesOf_u8c l
      simp only [List.length_map, Nat.mul_one] at h5 h6 h7
      have hx : c.extract o (o + l.length) = (u8c l).toArray := by rw [extract_toList, h6, byteV_flat]
      simp only [cvBS, rdN_mk, List.length_map, h3, hx, h5, true_and, hb]
      rfl
  obtain ⟨S, ⟨a, c, h1, h2⟩ | h⟩ := h
  · rcases hn ⟨a, c, h1⟩ with h3 | ⟨S, h3⟩
    · have : l = [] := by simpa using h2
      subst this; subst h3
      rfl
    · exact main S h3
  · exact main S h
theorem Fr.text {w0 w : World} {v : Value} {l : List UInt8} (h : Fr w0 w v 1 (l.map byteV)) {K : Value → Prop} : cvBS v w K = K (.string (str l)) := by
  obtain ⟨S, h1, h2⟩ := h.ex
  exact Rd.text h.rd fun _ => .inr ⟨S, h1.rd⟩
theorem bytes_app {w0 w : World} {v : Value} {l : List UInt8} {e : Nat} {z : Array Value} (hz : z = #[.int .u8 0]) (h : Fr w0 w v 1 (l.map byteV)) (s : List UInt8) (hl : l.length + s.length < 2 ^ 40) {K : Value → World → Prop}
    (hK : ∀ v' w', Fr w0 w' v' 1 ((l ++ s).map byteV) → K v' w') : app e 1 1 z v (.string (Q.str s)) w K := by
  subst hz
  refine fr_app (z := [.int .u8 0]) (G := s.map byteV) h (by omega) rfl (by simp [byteV]) (byteV_one s) (fun K' hK' => srcA_str K' hK') (by simp; omega) (by simp; omega) fun v' w' h' => hK v' w' (by rw [List.map_append]; exact h')
theorem byte_app {w0 w : World} {v x : Value} {l : List UInt8} {c : UInt8} {e : Nat} {z : Array Value} (hz : z = #[.int .u8 0]) (h : Fr w0 w v 1 (l.map byteV)) (hx : Rd w x 1 [byteV c]) (hl : l.length < 2 ^ 40) {K : Value → World → Prop}
    (hK : ∀ v' w', Fr w0 w' v' 1 ((l ++ [c]).map byteV) → K v' w') : app e 1 1 z v x w K := by
  subst hz
  refine fr_app (z := [.int .u8 0]) (G := [byteV c]) h (by omega) rfl (by simp [byteV]) (byteV_one [c]) (fun K' hK' => hx.src K' hK') (by simp; omega) (by simp; omega) fun v' w' h' => hK v' w' (by rw [List.map_append]; exact h')
end Go.Q

/- Plain: values and rows, as bytes and back. -/
set_option linter.unusedVariables false
set_option linter.unusedSimpArgs false
namespace Go.Q
structure V3 where
  k : Int
  n : Int
  s : List UInt8
  deriving DecidableEq
def valV (v : V3) : List Value := [.int .i64 v.k, .int .i64 v.n, .string (str v.s)]
def V3.ok (v : V3) : Bool :=
  if v.k = 0 then decide (v.n = 0 ∧ v.s = []) else if v.k = 1 then decide (v.s = []) else if v.k = 2 then decide (v.n = 0 ∧ v.s.length ≤ 64)
  else if v.k = 3 then decide ((v.n = 0 ∨ v.n = 1) ∧ v.s = []) else false
structure V3.Wf (v : V3) : Prop where
  k0 : -9223372036854775808 ≤ v.k
  k1 : v.k < 9223372036854775808
  n0 : -9223372036854775808 ≤ v.n
  n1 : v.n < 9223372036854775808
  s : v.s.length < 2 ^ 39
def bOf (x : Int) : UInt8 := UInt8.ofNat (x % 256).toNat
/-- digits, the greatest first -/
def be (m N : Nat) : List UInt8 := (List.range m).map fun i => UInt8.ofNat (N / 256 ^ (m - 1 - i) % 256)
theorem be_len (m N : Nat) : (be m N).length = m := by simp [be]
theorem be_get {m N i : Nat} (h : i < m) : (be m N)[i]? = some (UInt8.ofNat (N / 256 ^ (m - 1 - i) % 256)) := by simp [be, h]
def be8 (n : Int) : List UInt8 := be 8 (n + 9223372036854775808).toNat
theorem be8_len (n : Int) : (be8 n).length = 8 := be_len _ _
/-! ### values as bytes -/
def V3.bytes (v : V3) : List UInt8 := bOf v.k :: (if v.k = 1 then be8 v.n else if v.k = 2 then bOf v.s.length :: v.s else if v.k = 3 then [bOf v.n] else [])
end Go.Q

/- Structs laid part by part; cells of values. -/
set_option linter.unusedVariables false
set_option linter.unusedSimpArgs false
namespace Go.Q
theorem bld_step {places : List (Nat × Nat)} {z : List Value} {i off : Nat} {v : Value} {rest : List (Nat × Value)} {k : Value → Prop} (h : places[i]? = some (off, 1)) (hv : one v = true) (ho : off < z.length) :
    bld places z.toArray ((i, v) :: rest).toArray k = bld places (z.set off v).toArray rest.toArray k := by
  have hc := cells_one hv
  unfold bld
  show (match Instr.fill (places[·]?) z.toArray ((i, v) :: rest) with | some cs => k (.agg cs) | none => False) = (match Instr.fill (places[·]?) (z.set off v).toArray rest with | some cs => k (.agg cs) | none => False)
  rw [fill_step (off := off) (size := 1) h (by rw [hc]; rfl) (by simp only [List.size_toArray]; omega), hc]
  have : splice z.toArray off #[v] = (z.set off v).toArray := by
    have := splice_list z off [v]
    rw [this, List.set_eq_take_append_cons_drop, if_pos ho]
    simp
  rw [this]
def offAt : List (Nat × Nat) → Nat → Option Nat
  | [], _ => none
  | (o, n) :: r, i => if i = 0 then (if n = 1 then some o else none) else offAt r (i - 1)
theorem offAt_get : ∀ {places : List (Nat × Nat)} {i off : Nat}, offAt places i = some off → places[i]? = some (off, 1) := by
  intro places
  induction places with
  | nil => intro i off h; cases h
  | cons p r ih =>
    intro i off h
    obtain ⟨o, n⟩ := p
    unfold offAt at h
    split at h
    · rename_i hi
      split at h
      · rename_i hn
        injection h with h
        subst h; subst hn; subst hi
        rfl
      · cases h
    · rename_i hi
      have := ih h
      obtain ⟨j, rfl⟩ : ∃ j, i = j + 1 := ⟨i - 1, by omega⟩
      rw [List.getElem?_cons_succ]
      simpa using this
/-- one part more -/
def putAt (places : List (Nat × Nat)) (z : List Value) (i : Nat) (v : Value) : List Value := match offAt places i with | some o => z.set o v | none => z
theorem bld_at {places : List (Nat × Nat)} {z : List Value} {i : Nat} {v : Value} {rest : List (Nat × Value)} {k : Value → Prop} (hv : one v = true)
    (ho : (match offAt places i with | some o => decide (o < z.length) | none => false) = true) :
    bld places z.toArray ((i, v) :: rest).toArray k = bld places (putAt places z i v).toArray rest.toArray k := by
  unfold putAt
  cases h : offAt places i with
  | none => rw [h] at ho; cases ho
  | some o =>
    rw [h] at ho
    exact bld_step (offAt_get h) hv (by simpa using ho)
def bld0 (places : List (Nat × Nat)) (z : Array Value) (ps : Array (Nat × Value)) (k : Value → Prop) : Prop := bld places z ps k
theorem bld_if {places : List (Nat × Nat)} {z : List Value} {i : Nat} {v : Value} {rest : List (Nat × Value)} {k : Value → Prop} :
    bld places z.toArray ((i, v) :: rest).toArray k = if one v = true ∧ (match offAt places i with | some o => decide (o < z.length) | none => false) = true then bld places (putAt places z i v).toArray rest.toArray k else bld0 places z.toArray ((i, v) :: rest).toArray k := by
  by_cases h : one v = true ∧ (match offAt places i with | some o => decide (o < z.length) | none => false) = true
  · rw [if_pos h]; exact bld_at h.1 h.2
  · rw [if_neg h]; rfl
theorem bld_done {places : List (Nat × Nat)} {z : Array Value} {k : Value → Prop} : bld places z #[] k = k (.agg z) := rfl
@[simp] theorem cells_agg {cs : Array Value} : Value.cells (.agg cs) = cs := rfl
@[simp] theorem cells_int {k : IntKind} {n : Int} : Value.cells (.int k n) = #[.int k n] := rfl
@[simp] theorem cells_str {s : ByteArray} : Value.cells (.string s) = #[.string s] := rfl
@[simp] theorem all_cons1 {a : Value} {l : List Value} : (List.toArray (a :: l)).all one = (one a && (List.toArray l).all one) := by simp
@[simp] theorem all_nil1 : (List.toArray ([] : List Value)).all one = true := by simp
@[simp] theorem splice_lit {l vs : List Value} (h : l.length = vs.length) : splice l.toArray 0 vs.toArray = vs.toArray := splice_all (by simpa using h)
theorem loadVar_of {P : Program} {t : TypeId} {n b : Nat} {w : World} {c : Array Value} {T : TypeId} {fr : Nat × Nat} (ha : aggO P t = some true) (hn : szO P t = some n) (hh : w.heap[b]? = some (.cells c T fr)) (hs : c.size = n) {K : Value → Prop} :
    qG P (do loadVar t (← asAddr (.pointer (some ⟨b, 0, none⟩)))) w K = K (.agg c) := by
  refine qG_of ?_
  have h : ldn n (.pointer (some ⟨b, 0, none⟩)) w (fun v => v = .agg c) := by
    rw [ldn_p]; unfold rdN; simp only [hh, true_and, hs, Nat.zero_add, Nat.le_refl]
    have : c.extract 0 n = c := by rw [← hs]; simp
    rw [this]
  obtain ⟨v, hr, hv⟩ := ldn_q (P := P) ha hn h
  subst hv
  exact hr
/-! bytes of numbers -/
theorem wrap_u8 (x : Int) : IntKind.u8.wrap x = ((bOf x).toNat : Int) := by
  have h1 : (bOf x).toNat = (x % 256).toNat := by unfold bOf; simp; omega
  rw [h1]
  simp [IntKind.wrap, IntKind.bits, IntKind.signed]
  omega
theorem top_u64 {P : Program} {T : TypeId} {xo yo : Operand} {w : World} {K : Value → Prop} {n : Int} (h0 : -9223372036854775808 ≤ n) (h1 : n < 9223372036854775808) :
    qG P (bq .xor T xo yo (.int .u64 (IntKind.u64.wrap n)) (.int .u64 9223372036854775808)) w K = K (.int .u64 ((n + 9223372036854775808).toNat : Nat)) := by
  have e1 : IntKind.u64.wrap n = (((n % 18446744073709551616).toNat : Nat) : Int) := by
    simp [IntKind.wrap, IntKind.bits, IntKind.signed]; omega
  have e2 : Value.int .u64 9223372036854775808 = .int .u64 ((2 ^ 63 : Nat) : Int) := rfl
  have e3 : ((n % 18446744073709551616).toNat + 2 ^ 63) % 2 ^ 64 = (n + 9223372036854775808).toNat := by omega
  rw [e1, e2, xoru64_of (by omega) (by omega), xor_top (by omega), e3]
theorem bOf_shift {N i : Nat} (hi : i < 8) : bOf ((N : Int) / 2 ^ (8 * (7 - (i : Int))).toNat) = UInt8.ofNat (N / 256 ^ (8 - 1 - i) % 256) := by
  have e : (8 * (7 - (i : Int))).toNat = 8 * (8 - 1 - i) := by omega
  rw [e]
  have e2 : ((2 : Int) ^ (8 * (8 - 1 - i))) = ((256 ^ (8 - 1 - i) : Nat) : Int) := by rw [Int.pow_mul]; simp
  rw [e2, ← Int.natCast_ediv]
  generalize N / 256 ^ (8 - 1 - i) = q
  unfold bOf
  congr 1
theorem bsl_byte {e : Nat} {z : Array Value} (c : UInt8) {w : World} {K : Value → World → Prop} (hK : ∀ v' w', Fr w w' v' 1 ([c].map byteV) → K v' w') : bsl e 1 1 z #[(0, .int .u8 c.toNat)] w K :=
  bsl_rowN (n := 1) (cs := byteV c) (by omega) rfl rfl hK
theorem take_snoc {α : Type} {l : List α} {i : Nat} {x : α} (h : l[i]? = some x) : l.take i ++ [x] = l.take (i + 1) := by
  obtain ⟨hi, hx⟩ := List.getElem?_eq_some_iff.1 h
  rw [List.take_succ_eq_append_getElem hi, hx]
theorem str_nil : (⟨#[]⟩ : ByteArray) = str [] := rfl
theorem kp_alloc {w : World} {o : Obj} : Kp [] w (w.alloc o) := (Kp.refl [] w).alloc o
theorem kp_drew {w : World} : Kp [] w w.drew := (Kp.refl [] w).drew
theorem ex_w {w' : World} : ∃ w, w = w' := ⟨_, rfl⟩
end Go.Q

/- Layer 5: values and rows, as bytes and back: what each function does. -/
set_option linter.unusedVariables false
set_option linter.unusedSimpArgs false
namespace Go.Proofs
open Go Go.Q
theorem zcV : zc Try.prog 24 = #[.int .i64 0, .int .i64 0, .string ⟨#[]⟩] := by kernel_rfl
theorem zcVl : zc Try.prog 24 = [.int .i64 0, .int .i64 0, .string ⟨#[]⟩].toArray := by kernel_rfl
theorem eqVal {a b a' b' : Int} {s s' : ByteArray} : aggEq Try.prog 24 [.int .i64 a, .int .i64 b, .string s] [.int .i64 a', .int .i64 b', .string s'] = true := by kernel_rfl
theorem mod2 {n : Int} : (n = n % 2) = (n = 0 ∨ n = 1) := by apply propext; omega
theorem le64 {s : List UInt8} : ((s.length : Int) ≤ 64) = (s.length ≤ 64) := by apply propext; omega
theorem lt64 {s : List UInt8} : (64 < (s.length : Int)) = ¬ (s.length ≤ 64) := by apply propext; omega
theorem Check_spec {w : World} (v : V3) {K : Value → World → Prop} (hK : ∀ w', Kp [] w w' → K (.int .i64 (if v.ok = true then 0 else 1)) w') : callG Try.prog 22 #[.agg #[.int .i64 v.k, .int .i64 v.n, .string (str v.s)]] w K := by
  refine value_Check_call ?_
  obtain ⟨k, n, s⟩ := v
  simp only [value_Check, value_Check_s0]
  have hk := hK _ (kp_alloc (w := w) (o := .cells #[.int .i64 k, .int .i64 n, .string (str s)] 24))
  simp [-getElem?_pos, -Array.all_eq_true, -Array.getElem?_eq_getElem, -List.length_flatten, List.getElem?_cons_zero, List.getElem?_cons_succ, heap_new, zcVl, bld_done, bld_if, offAt, putAt, eqVal, str_nil, mod2, le64, lt64]
  generalize w.alloc _ = W at hk ⊢
  unfold V3.ok at hk
  simp only at hk
  by_cases h0 : k = 0
  · by_cases c : n = 0 ∧ s = [] <;> simp_all
  by_cases h1 : k = 1
  · by_cases c : s = [] <;> simp_all
  by_cases h2 : k = 2
  · by_cases c : n = 0 ∧ s.length ≤ 64 <;> simp_all
    · intros; omega
    · intro a b; have := c a; omega
  by_cases h3 : k = 3
  · by_cases c : (n = 0 ∨ n = 1) ∧ s = [] <;> simp_all
    · intros; omega
    · intro a b; exact absurd b (c (by omega))
  simp_all
theorem May_spec {w : World} (v : V3) {K : Value → World → Prop} (hK : ∀ w', Kp [] w w' → K (.bool v.ok) w') : callG Try.prog 17 #[.agg #[.int .i64 v.k, .int .i64 v.n, .string (str v.s)]] w K := by
  refine ref05_May_call ?_
  obtain ⟨k, n, s⟩ := v
  simp only [ref05_May, ref05_May_s0]
  have hk := hK _ (kp_alloc (w := w) (o := .cells #[.int .i64 k, .int .i64 n, .string (str s)] 24))
  simp [-getElem?_pos, -Array.all_eq_true, -Array.getElem?_eq_getElem, -List.length_flatten, List.getElem?_cons_zero, List.getElem?_cons_succ, heap_new, str_nil, le64]
  generalize w.alloc _ = W at hk ⊢
  unfold V3.ok at hk
  simp only at hk
  by_cases h0 : k = 0
  · by_cases c : n = 0 <;> simp_all
  by_cases h1 : k = 1
  · by_cases c : s = [] <;> simp_all
  by_cases h2 : k = 2
  · by_cases c : n = 0 <;> simp_all
  by_cases h3 : k = 3
  · by_cases c : n = 0 <;> by_cases c2 : n = 1 <;> simp_all
  simp_all
theorem bytes_spec {w : World} (v : V3) (hw : v.Wf) {K : Value → World → Prop} (hK : ∀ w', Kp [] w w' → K (.string (str v.bytes)) w') : callG Try.prog 34 #[.agg #[.int .i64 v.k, .int .i64 v.n, .string (str v.s)]] w K := by
  refine value_bytes_call ?_
  have hs := hw.s
  have hn0 := hw.n0
  have hn1 := hw.n1
  obtain ⟨k, n, s⟩ := v
  simp only at hs hn0 hn1
  simp only [value_bytes, value_bytes_s8, newG_k, cells_agg]
  obtain ⟨w1, hw1⟩ := ex_w (w' := w.alloc (.cells #[.int .i64 k, .int .i64 n, .string (str s)] 24))
  have hk1 : Kp [] w w1 := by rw [hw1]; exact kp_alloc
  have hb1 : w1.heap[w.heap.size]? = some (.cells #[.int .i64 k, .int .i64 n, .string (str s)] 24) := by rw [hw1]; exact heap_new
  rw [← hw1]
  simp [-getElem?_pos, -Array.all_eq_true, -Array.getElem?_eq_getElem, -List.length_flatten, List.getElem?_cons_zero, List.getElem?_cons_succ, hb1, wrap_u8]
  refine bsl_byte _ fun v2 w2 h2 => ?_
  have hb2 := h2.kp.get hb1 (by simp)
  unfold value_bytes_s7 value_bytes_s6 value_bytes_s5
  simp [-getElem?_pos, -Array.all_eq_true, -Array.getElem?_eq_getElem, -List.length_flatten, List.getElem?_cons_zero, List.getElem?_cons_succ, hb2]
  have fin : ∀ w' v' l, Fr w1 w' v' 1 (l.map byteV) → V3.bytes ⟨k, n, s⟩ = l → value_bytes_s0 K v' w' := by
    intro w' v' l h' hl
    unfold value_bytes_s0
    rw [h'.text, ← hl]
    exact hK w' (hk1.trans' h'.kp)
  refine ⟨fun hk => ?_, fun hk => ?_⟩
  · subst hk
    unfold value_bytes_s3
    simp [-getElem?_pos, -Array.all_eq_true, -Array.getElem?_eq_getElem, -List.length_flatten, List.getElem?_cons_zero, List.getElem?_cons_succ, hb2]
    rw [top_u64 hn0 hn1]
    obtain ⟨N, hN⟩ : ∃ N, N = (n + 9223372036854775808).toNat := ⟨_, rfl⟩
    rw [← hN]
    unfold value_bytes_L2
    refine loop_inv (fun m xs wi => ∃ i vi, i ≤ 8 ∧ m = 8 - i ∧ xs = [vi, .int .u64 N, .int .i64 (i : Nat)] ∧ Fr w1 wi vi 1 ((bOf 1 :: (be8 n).take i).map byteV)) ?_ (m := 8) ⟨0, v2, by omega, rfl, rfl, h2⟩
    rintro m N1 xs wi ⟨i, vi, hi, rfl, rfl, hf⟩ hN1
    simp only [value_bytes_L2F, value_bytes_b1, bq_lss, bV_b]
    refine ⟨fun hlt => ?_, fun hge => ?_⟩
    · have hi : i < 8 := by simp at hlt; omega
      have e1 : IntKind.i64.wrap (7 - (i : Int)) = 7 - (i : Int) := w64 (by omega) (by omega)
      have e2 : IntKind.i64.wrap (8 * (7 - (i : Int))) = 8 * (7 - (i : Int)) := w64 (by omega) (by omega)
      have e3 : IntKind.i64.wrap ((i : Int) + 1) = ((i + 1 : Nat) : Int) := by rw [w64 (by omega) (by omega)]; simp
      simp only [bq_sub, bq_mul, bq_add, e1, e2, e3]
      rw [shr_of (by omega) (by simp [IntKind.bits]; omega)]
      simp only [cvI_i, wrap_u8]
      rw [bOf_shift hi]
      refine bsl_byte _ fun v3 w3 h3 => ?_
      have hf3 := hf.keep h3.kp
      refine byte_app (by kernel_rfl) hf3 h3.rd (by simp [be8_len]; omega) fun v4 w4 h4 => ?_
      have hg : (be8 n)[i]? = some (UInt8.ofNat (N / 256 ^ (8 - 1 - i) % 256)) := by rw [hN]; exact be_get hi
      rw [List.cons_append, take_snoc hg] at h4
      exact hN1 (8 - (i + 1)) _ _ (by omega) ⟨i + 1, v4, by omega, rfl, rfl, h4⟩
    · have hie : i = 8 := by simp at hge; omega
      subst hie
      rw [List.take_of_length_le (by simp [be8_len])] at hf
      exact fin _ _ _ hf rfl
  · unfold value_bytes_s4
    simp [-getElem?_pos, -Array.all_eq_true, -Array.getElem?_eq_getElem, -List.length_flatten, List.getElem?_cons_zero, List.getElem?_cons_succ, hb2]
    refine ⟨fun hk2 => ?_, fun hk2 => ⟨fun hk3 => ?_, fun hk3 => ?_⟩⟩
    · subst hk2
      rw [wrap_u8]
      have hb2d : w2.drew.heap[w.heap.size]? = some (.cells #[.int .i64 2, .int .i64 n, .string (str s)] 24) := hb2
      refine bsl_byte _ fun v3 w3 h3 => ?_
      have h2d := h2.keep kp_drew
      have hb3 := h3.kp.get hb2d (by simp)
      simp [-getElem?_pos, -Array.all_eq_true, -Array.getElem?_eq_getElem, -List.length_flatten, List.getElem?_cons_zero, List.getElem?_cons_succ, hb3]
      refine byte_app (by kernel_rfl) (h2d.keep h3.kp) h3.rd (by simp) fun v4 w4 h4 => ?_
      have hb4 := h4.kp.get hb1 (by simp)
      simp [-getElem?_pos, -Array.all_eq_true, -Array.getElem?_eq_getElem, -List.length_flatten, List.getElem?_cons_zero, List.getElem?_cons_succ, hb4]
      refine bytes_app (by kernel_rfl) h4 s (by simp; omega) fun v5 w5 h5 => ?_
      exact fin _ _ _ h5 rfl
    · subst hk3
      rw [wrap_u8]
      refine bsl_byte _ fun v3 w3 h3 => ?_
      refine byte_app (by kernel_rfl) (h2.keep h3.kp) h3.rd (by simp) fun v4 w4 h4 => ?_
      exact fin _ _ _ h4 rfl
    · exact fin _ _ _ h2 (by simp [V3.bytes, hk, hk2, hk3])
end Go.Proofs

set_option linter.unusedVariables false
set_option linter.unusedSimpArgs false
namespace Go.Proofs
open Go Go.Q
@[simp] theorem Try.isBool4 : isBoolT Try.prog 4 = true := by kernel_rfl
@[simp] theorem Try.isPtr15 : isPtr Try.prog 15 = true := by kernel_rfl
@[simp] theorem Try.isPtr16 : isPtr Try.prog 16 = true := by kernel_rfl
@[simp] theorem Try.isPtr17 : isPtr Try.prog 17 = true := by kernel_rfl
@[simp] theorem Try.isSl22 : isSl Try.prog 22 = true := by kernel_rfl
@[simp] theorem Try.isSl25 : isSl Try.prog 25 = true := by kernel_rfl
@[simp] theorem Try.isSl28 : isSl Try.prog 28 = true := by kernel_rfl
@[simp] theorem Try.isSl36 : isSl Try.prog 36 = true := by kernel_rfl
@[simp] theorem Try.isSl40 : isSl Try.prog 40 = true := by kernel_rfl
@[simp] theorem Try.isSl41 : isSl Try.prog 41 = true := by kernel_rfl
@[simp] theorem Try.isSl49 : isSl Try.prog 49 = true := by kernel_rfl
@[simp] theorem Try.isSl82 : isSl Try.prog 82 = true := by kernel_rfl
@[simp] theorem Try.isPtr87 : isPtr Try.prog 87 = true := by kernel_rfl
@[simp] theorem Try.isPtr89 : isPtr Try.prog 89 = true := by kernel_rfl
@[simp] theorem Try.isPtr101 : isPtr Try.prog 101 = true := by kernel_rfl
end Go.Proofs

set_option linter.unusedVariables false
set_option linter.unusedSimpArgs false
namespace Go.Proofs
open Go Go.Q
set_option maxRecDepth 100000
/-! quayside/crc.More -/
def crc_More_s0 (R : Value → World → Prop) (x5 : Value) (w : World) : Prop :=
  qG Try.prog (Op.unary .xor x5) w fun t33 =>
  cvI .i64 t33 fun t34 =>
  R t34 w
theorem crc_More_s0_eq (R : Value → World → Prop) : ∀ e w, lift Try.prog 35 (sub (bodyOf Try.f45) [1, 1, 1]) (finK Try.prog Try.f45.results.toList R) e w = crc_More_s0 R (e 5) w := fun e w => by kernel_rfl
def crc_More_s1 (R : Value → World → Prop) (N1 : List Value → World → Prop) (x1 x5 x11 x12 : Value) (w : World) : Prop :=
  qG Try.prog (bq .add 3 (.tmp 12) (.const (.int .i64 1)) x12 (.int .i64 1)) w fun t31 =>
  N1 [x1, x5, x11, t31] w
theorem crc_More_s1_eq (R : Value → World → Prop) (N1 : List Value → World → Prop) : ∀ e w, lift Try.prog 35 (sub (bodyOf Try.f45) [1, 1, 0, 1, 0, 0, 1, 1, 1]) (seqK (fun e w => N1 [e 1, e 5, e 11, e 12] w) (blockK 0 (seqK (fun e w => crc_More_s0 R (e 5) w) (finK Try.prog Try.f45.results.toList R)))) e w = crc_More_s1 R N1 (e 1) (e 5) (e 11) (e 12) w := fun e w => by kernel_rfl
def crc_More_b2 (R : Value → World → Prop) (N1 : List Value → World → Prop) (N2 : List Value → World → Prop) (x1 x5 x11 x12 x21 : Value) (w : World) : Prop :=
  qG Try.prog (bq .lss 3 (.tmp 21) (.const (.int .i64 8)) x21 (.int .i64 8)) w fun t22 =>
  bV t22
  (qG Try.prog (bq .shr 78 (.tmp 23) (.const (.int .u64 1)) x5 (.int .u64 1)) w fun t24 =>
  qG Try.prog (bq .and 78 (.tmp 25) (.const (.int .u32 1)) x5 (.int .u32 1)) w fun t26 =>
  qG Try.prog (Op.unary .neg t26) w fun t27 =>
  qG Try.prog (bq .and 78 (.const (.int .u32 3988292384)) (.tmp 27) (.int .u32 3988292384) t27) w fun t28 =>
  qG Try.prog (bq .xor 78 (.tmp 24) (.tmp 28) t24 t28) w fun t29 =>
  qG Try.prog (bq .add 3 (.tmp 21) (.const (.int .i64 1)) x21 (.int .i64 1)) w fun t30 =>
  N2 [x1, t29, x11, x12, t30] w)
  (crc_More_s1 R N1 x1 x5 x11 x12 w)
theorem crc_More_b2_eq (R : Value → World → Prop) (N1 : List Value → World → Prop) (N2 : List Value → World → Prop) : ∀ e w, lift Try.prog 35 (sub (bodyOf Try.f45) [1, 1, 0, 1, 0, 0, 1, 1, 0, 0, 1, 1, 1, 0, 0]) (seqK (fun e w => N2 [e 1, e 5, e 11, e 12, e 21] w) (blockK 2 (blockK 1 (seqK (fun e w => crc_More_s1 R N1 (e 1) (e 5) (e 11) (e 12) w) (seqK (fun e w => N1 [e 1, e 5, e 11, e 12] w) (blockK 0 (seqK (fun e w => crc_More_s0 R (e 5) w) (finK Try.prog Try.f45.results.toList R)))))))) e w = crc_More_b2 R N1 N2 (e 1) (e 5) (e 11) (e 12) (e 21) w := fun e w => by kernel_rfl
def crc_More_L3F (R : Value → World → Prop) (N1 : List Value → World → Prop) (N2 : List Value → World → Prop) (xs : List Value) (w : World) : Prop :=
  match xs with
  | [x1, x5, x11, x12, x21] => crc_More_b2 R N1 N2 x1 x5 x11 x12 x21 w
  | _ => False
def crc_More_L3 (R : Value → World → Prop) (N1 : List Value → World → Prop) (x1 x5 x11 x12 x21 : Value) (w : World) : Prop :=
  ∃ m, loopV (crc_More_L3F R N1) m [x1, x5, x11, x12, x21] w
theorem crc_More_L3_eq (R : Value → World → Prop) (N1 : List Value → World → Prop) : ∀ e w, lift Try.prog 35 (sub (bodyOf Try.f45) [1, 1, 0, 1, 0, 0, 1, 1, 0, 0, 1, 1, 1, 0]) (blockK 2 (blockK 1 (seqK (fun e w => crc_More_s1 R N1 (e 1) (e 5) (e 11) (e 12) w) (seqK (fun e w => N1 [e 1, e 5, e 11, e 12] w) (blockK 0 (seqK (fun e w => crc_More_s0 R (e 5) w) (finK Try.prog Try.f45.results.toList R))))))) e w = crc_More_L3 R N1 (e 1) (e 5) (e 11) (e 12) (e 21) w := loop_seg (F := crc_More_L3F R N1) (sel := fun e => [e 1, e 5, e 11, e 12, e 21]) fun N2 => (crc_More_b2_eq R N1 N2)
def crc_More_s4 (R : Value → World → Prop) (N1 : List Value → World → Prop) (x1 x5 x11 x12 : Value) (w : World) : Prop :=
  ixS x1 x12 fun t18 =>
  cvI .u32 t18 fun t19 =>
  qG Try.prog (bq .xor 78 (.tmp 15) (.tmp 19) x5 t19) w fun t20 =>
  crc_More_L3 R N1 x1 t20 x11 x12 (.int .i64 0) w
theorem crc_More_s4_eq (R : Value → World → Prop) (N1 : List Value → World → Prop) : ∀ e w, lift Try.prog 35 (sub (bodyOf Try.f45) [1, 1, 0, 1, 0, 0, 1, 1, 0, 0]) (blockK 1 (seqK (fun e w => crc_More_s1 R N1 (e 1) (e 5) (e 11) (e 12) w) (seqK (fun e w => N1 [e 1, e 5, e 11, e 12] w) (blockK 0 (seqK (fun e w => crc_More_s0 R (e 5) w) (finK Try.prog Try.f45.results.toList R)))))) e w = crc_More_s4 R N1 (e 1) (e 5) (e 11) (e 12) w :=
  segs_eq (l := [(sub (bodyOf Try.f45) [1, 1, 0, 1, 0, 0, 1, 1, 0, 0, 0]), (sub (bodyOf Try.f45) [1, 1, 0, 1, 0, 0, 1, 1, 0, 0, 1, 0]), (sub (bodyOf Try.f45) [1, 1, 0, 1, 0, 0, 1, 1, 0, 0, 1, 1, 0])]) (y := (sub (bodyOf Try.f45) [1, 1, 0, 1, 0, 0, 1, 1, 0, 0, 1, 1, 1])) (Y := (fun e w => crc_More_L3 R N1 (e 1) (e 5) (e 11) (e 12) (e 21) w)) (crc_More_L3_eq R N1) (fun e w => by kernel_rfl)
def crc_More_s5 (R : Value → World → Prop) (N1 : List Value → World → Prop) (x1 x5 x11 x12 : Value) (w : World) : Prop :=
  qG Try.prog (bq .lss 3 (.tmp 12) (.tmp 11) x12 x11) w fun t13 =>
  bV t13
  (crc_More_s4 R N1 x1 x5 x11 x12 w)
  (crc_More_s0 R x5 w)
theorem crc_More_s5_eq (R : Value → World → Prop) (N1 : List Value → World → Prop) : ∀ e w, lift Try.prog 35 (sub (bodyOf Try.f45) [1, 1, 0, 1, 0, 0]) (seqK (fun e w => N1 [e 1, e 5, e 11, e 12] w) (blockK 0 (seqK (fun e w => crc_More_s0 R (e 5) w) (finK Try.prog Try.f45.results.toList R)))) e w = crc_More_s5 R N1 (e 1) (e 5) (e 11) (e 12) w :=
  segs_eq (l := [(sub (bodyOf Try.f45) [1, 1, 0, 1, 0, 0, 0]), (sub (bodyOf Try.f45) [1, 1, 0, 1, 0, 0, 1, 0])]) (y := (sub (bodyOf Try.f45) [1, 1, 0, 1, 0, 0, 1, 1])) (Y := (fun e w => crc_More_s4 R N1 (e 1) (e 5) (e 11) (e 12) w)) (seq_seg (x := (sub (bodyOf Try.f45) [1, 1, 0, 1, 0, 0, 1, 1, 0])) (y := (sub (bodyOf Try.f45) [1, 1, 0, 1, 0, 0, 1, 1, 1])) (crc_More_s1_eq R N1) (crc_More_s4_eq R N1)) (fun e w => by kernel_rfl)
def crc_More_L6F (R : Value → World → Prop) (N1 : List Value → World → Prop) (xs : List Value) (w : World) : Prop :=
  match xs with
  | [x1, x5, x11, x12] => crc_More_s5 R N1 x1 x5 x11 x12 w
  | _ => False
def crc_More_L6 (R : Value → World → Prop) (x1 x5 x11 x12 : Value) (w : World) : Prop :=
  ∃ m, loopV (crc_More_L6F R) m [x1, x5, x11, x12] w
theorem crc_More_L6_eq (R : Value → World → Prop) : ∀ e w, lift Try.prog 35 (sub (bodyOf Try.f45) [1, 1, 0, 1, 0]) (blockK 0 (seqK (fun e w => crc_More_s0 R (e 5) w) (finK Try.prog Try.f45.results.toList R))) e w = crc_More_L6 R (e 1) (e 5) (e 11) (e 12) w := loop_seg (F := crc_More_L6F R) (sel := fun e => [e 1, e 5, e 11, e 12]) fun N1 => (crc_More_s5_eq R N1)
def crc_More_s7 (R : Value → World → Prop) (x1 x5 : Value) (w : World) : Prop :=
  lenS x1 fun t11 =>
  crc_More_L6 R x1 x5 t11 (.int .i64 0) w
theorem crc_More_s7_eq (R : Value → World → Prop) : ∀ e w, lift Try.prog 35 (sub (bodyOf Try.f45) [1, 1, 0]) (seqK (fun e w => crc_More_s0 R (e 5) w) (finK Try.prog Try.f45.results.toList R)) e w = crc_More_s7 R (e 1) (e 5) w :=
  segs_eq (l := [(sub (bodyOf Try.f45) [1, 1, 0, 0])]) (y := (sub (bodyOf Try.f45) [1, 1, 0, 1])) (Y := (fun e w => crc_More_L6 R (e 1) (e 5) (e 11) (e 12) w)) (crc_More_L6_eq R) (fun e w => by kernel_rfl)
def crc_More_s8 (R : Value → World → Prop) (x0 x1 : Value) (w : World) : Prop :=
  cvI .u32 x0 fun t8 =>
  qG Try.prog (Op.unary .xor t8) w fun t9 =>
  crc_More_s7 R x1 t9 w
theorem crc_More_s8_eq (R : Value → World → Prop) : ∀ e w, lift Try.prog 35 (bodyOf Try.f45) (finK Try.prog Try.f45.results.toList R) e w = crc_More_s8 R (e 0) (e 1) w :=
  segs_eq (l := [(sub (bodyOf Try.f45) [0]), (sub (bodyOf Try.f45) [1, 0])]) (y := (sub (bodyOf Try.f45) [1, 1])) (Y := (fun e w => crc_More_s7 R (e 1) (e 5) w)) (seq_seg (x := (sub (bodyOf Try.f45) [1, 1, 0])) (y := (sub (bodyOf Try.f45) [1, 1, 1])) (crc_More_s0_eq R) (crc_More_s7_eq R)) (fun e w => by kernel_rfl)
def crc_More (R : Value → World → Prop) (x0 x1 : Value) (w : World) : Prop := crc_More_s8 R x0 x1 w
theorem crc_More_call {R : Value → World → Prop} {x0 x1 : Value} {w : World} (h : crc_More R x0 x1 w) : callG Try.prog 45 #[x0, x1] w R :=
  calls_lift_eq Try.mixed Try.func45 (args := [x0, x1]) rfl rfl rfl rfl ((crc_More_s8_eq R) (envOf [x0, x1]) w) (by kernel_rfl) h
/-! quayside/crc.Sum -/
def crc_Sum_s0 (R : Value → World → Prop) (x0 : Value) (w : World) : Prop :=
  callG Try.prog 45 #[(.int .i64 0), x0] w fun t4 w =>
  R t4 w
theorem crc_Sum_s0_eq (R : Value → World → Prop) : ∀ e w, lift Try.prog 5 (bodyOf Try.f33) (finK Try.prog Try.f33.results.toList R) e w = crc_Sum_s0 R (e 0) w := fun e w => by kernel_rfl
def crc_Sum (R : Value → World → Prop) (x0 : Value) (w : World) : Prop := crc_Sum_s0 R x0 w
theorem crc_Sum_call {R : Value → World → Prop} {x0 : Value} {w : World} (h : crc_Sum R x0 w) : callG Try.prog 33 #[x0] w R :=
  calls_lift_eq Try.mixed Try.func33 (args := [x0]) rfl rfl rfl rfl ((crc_Sum_s0_eq R) (envOf [x0]) w) (by kernel_rfl) h
end Go.Proofs

/- Plain: sums of texts; a value's number. -/
set_option linter.unusedVariables false
set_option linter.unusedSimpArgs false
namespace Go.Q
def crcBit (c : Nat) : Nat := if c % 2 = 1 then (c / 2) ^^^ 3988292384 else c / 2
def crcBits : Nat → Nat → Nat
  | 0, c => c
  | n + 1, c => crcBit (crcBits n c)
def crcByte (c : Nat) (b : UInt8) : Nat := crcBits 8 (c ^^^ b.toNat)
def crcRun (c : Nat) (s : List UInt8) : Nat := s.foldl crcByte c
def crcMore (sum : Int) (s : List UInt8) : Nat := 4294967295 ^^^ crcRun (4294967295 ^^^ (sum % 4294967296).toNat) s
theorem crcBit_lt {c : Nat} (h : c < 2 ^ 32) : crcBit c < 2 ^ 32 := by
  unfold crcBit
  split
  · exact Nat.xor_lt_two_pow (by omega) (by omega)
  · omega
theorem crcBits_lt {c : Nat} (h : c < 2 ^ 32) : ∀ n, crcBits n c < 2 ^ 32 := by
  intro n
  induction n with
  | zero => exact h
  | succ n ih => exact crcBit_lt ih
theorem crcByte_lt {c : Nat} (h : c < 2 ^ 32) (b : UInt8) : crcByte c b < 2 ^ 32 := crcBits_lt (Nat.xor_lt_two_pow h (by have := b.toNat_lt; omega)) 8
theorem crcRun_lt {s : List UInt8} : ∀ {c : Nat}, c < 2 ^ 32 → crcRun c s < 2 ^ 32 := by
  induction s with
  | nil => intro c h; exact h
  | cons b s ih => intro c h; exact ih (crcByte_lt h b)
theorem crcRun_take {c : Nat} {s : List UInt8} {i : Nat} (hi : i < s.length) : crcRun c (s.take (i + 1)) = crcByte (crcRun c (s.take i)) s[i] := by
  rw [List.take_succ_eq_append_getElem hi]
  unfold crcRun
  rw [List.foldl_append]; rfl
/-- eight bits, as the program goes -/
theorem crc_step {c : Nat} (h : c < 2 ^ 32) : (c / 2) ^^^ (3988292384 &&& ((2 ^ 32 - c % 2) % 2 ^ 32)) = crcBit c := by
  unfold crcBit
  rcases Nat.mod_two_eq_zero_or_one c with h0 | h0
  · rw [h0, if_neg (by omega)]; simp
  · rw [h0, if_pos rfl]
    have : (2 ^ 32 - 1) % 2 ^ 32 = 4294967295 := by decide
    rw [this]
    rfl
/-- a number of a value -/
def hashV (v : V3) : Nat := if v.ok = true then crcMore 0 v.bytes else 0
end Go.Q

/- Layer 2, sums of texts: what each function computes. -/
set_option linter.unusedVariables false
set_option linter.unusedSimpArgs false
namespace Go.Proofs
open Go Go.Q
theorem ixS_str {s : List UInt8} {kd : IntKind} {i : Nat} (hi : i < s.length) {K : Value → Prop} : ixS (.string (str s)) (.int kd i) K = K (.int .u8 s[i].toNat) := by
  have : (str s)[i]? = some s[i] := by
    have h : i < (str s).size := by simpa using hi
    rw [getElem?_pos (str s) i h]
    rfl
  unfold ixS
  simp only [Int.toNat_natCast, this]
  simp
theorem More_spec {w : World} (sum : Int) (s : List UInt8) (hs : s.length < 2 ^ 62) {K : Value → World → Prop} (hK : K (.int .i64 (crcMore sum s)) w) : callG Try.prog 45 #[.int .i64 sum, .string (str s)] w K := by
  refine crc_More_call ?_
  simp only [crc_More, crc_More_s8]
  obtain ⟨c0, hc0⟩ : ∃ c0, c0 = (sum % 4294967296).toNat := ⟨_, rfl⟩
  have hlt0 : c0 < 2 ^ 32 := by omega
  have hw : IntKind.u32.wrap sum = (c0 : Int) := by
    simp [IntKind.wrap, IntKind.bits, IntKind.signed]; omega
  simp only [cvI_i, hw]
  rw [not32_of hlt0]
  obtain ⟨c, hc⟩ : ∃ c, c = 4294967295 ^^^ c0 := ⟨_, rfl⟩
  have hlt : c < 2 ^ 32 := by rw [hc]; exact Nat.xor_lt_two_pow (by omega) hlt0
  have hcm : crcMore sum s = 4294967295 ^^^ crcRun c s := by unfold crcMore; rw [hc, hc0]
  have hc2 : (2 ^ 32 - 1) ^^^ c0 = c := by rw [hc]
  rw [hc2]
  rw [hcm] at hK
  unfold crc_More_s7 crc_More_L6
  simp only [lenS_s, str_size]
  refine loop_inv (fun m xs w' => ∃ i, i ≤ s.length ∧ m = s.length - i ∧ xs = [.string (str s), .int .u32 (crcRun c (s.take i)), .int .i64 s.length, .int .i64 (i : Nat)] ∧ w' = w)
    ?_ (m := s.length) ⟨0, by omega, rfl, rfl, rfl⟩
  rintro m N xs w' ⟨i, hi, rfl, rfl, rfl⟩ hN
  simp only [crc_More_L6F, crc_More_s5, bq_lss, bV_b]
  have hri := crcRun_lt (s := s.take i) hlt
  refine ⟨fun h => ?_, fun h => ?_⟩
  · have hi : i < s.length := by simpa using h
    have hN' := hN (s.length - (i + 1)) _ w' (by omega) ⟨i + 1, by omega, rfl, rfl, rfl⟩
    have hiw : IntKind.i64.wrap ((i : Int) + 1) = ((i + 1 : Nat) : Int) := by rw [w64 (by omega) (by omega)]; simp
    rw [crcRun_take hi] at hN'
    obtain ⟨r, hr⟩ : ∃ r, r = crcRun c (s.take i) := ⟨_, rfl⟩
    rw [← hr] at hri hN' ⊢
    unfold crc_More_s4
    rw [ixS_str hi]
    have hb := s[i].toNat_lt
    simp only [cvI_i, wrap_nat32 (show s[i].toNat < 2 ^ 32 by omega)]
    rw [xor32_of hri (by omega)]
    unfold crc_More_L3
    have hx : r ^^^ s[i].toNat < 2 ^ 32 := Nat.xor_lt_two_pow hri (by omega)
    obtain ⟨x, hxe⟩ : ∃ x, x = r ^^^ s[i].toNat := ⟨_, rfl⟩
    have hby : crcByte r s[i] = crcBits 8 x := by rw [hxe]; rfl
    rw [hby] at hN'
    rw [← hxe] at hx ⊢
    refine loop_inv (fun m xs w'' => ∃ j, j ≤ 8 ∧ m = 8 - j ∧ xs = [.string (str s), .int .u32 (crcBits j x), .int .i64 s.length, .int .i64 (i : Nat), .int .i64 (j : Nat)] ∧ w'' = w')
      ?_ (m := 8) ⟨0, by omega, rfl, rfl, rfl⟩
    rintro m N2 xs w'' ⟨j, hj, rfl, rfl, rfl⟩ hN2
    simp only [crc_More_L3F, crc_More_b2, bq_lss, bV_b]
    have hbl := crcBits_lt hx j
    refine ⟨fun h => ?_, fun h => ?_⟩
    · have hj : j < 8 := by simp at h; omega
      have hN2' := hN2 (8 - (j + 1)) _ w'' (by omega) ⟨j + 1, by omega, rfl, rfl, rfl⟩
      have hjw : IntKind.i64.wrap ((j : Int) + 1) = ((j + 1 : Nat) : Int) := by rw [w64 (by omega) (by omega)]; simp
      have hst := crc_step hbl
      have hcj : crcBits (j + 1) x = crcBit (crcBits j x) := rfl
      rw [hcj, ← hst] at hN2'
      obtain ⟨y, hy⟩ : ∃ y, y = crcBits j x := ⟨_, rfl⟩
      rw [← hy] at hbl hN2' ⊢
      rw [shr_of (by omega) (by decide)]
      have h1 : ((y : Int) / 2 ^ (1 : Int).toNat) = ((y / 2 : Nat) : Int) := by simp
      rw [h1]
      rw [show ((1 : Int)) = ((1 : Nat) : Int) from rfl, and32_of hbl (by omega), Nat.and_one_is_mod, neg32_of (by omega)]
      rw [show ((3988292384 : Int)) = ((3988292384 : Nat) : Int) from rfl, and32_of (by omega) (by omega)]
      have ha : 3988292384 &&& ((2 ^ 32 - y % 2) % 2 ^ 32) < 2 ^ 32 := Nat.and_lt_two_pow _ (by omega)
      rw [xor32_of (by omega) ha]
      simp only [bq_add]
      rw [show ((1 : Nat) : Int) = 1 from rfl, hjw]
      exact hN2'
    · have hje : j = 8 := by simp at h; omega
      subst hje
      unfold crc_More_s1
      simp only [bq_add, hiw]
      exact hN'
  · have hie : i = s.length := by simp at h; omega
    subst hie
    rw [List.take_length] at hri ⊢
    unfold crc_More_s0
    rw [not32_of hri]
    simp only [cvI_i]
    have hx : (2 ^ 32 - 1) ^^^ crcRun c s < 2 ^ 32 := Nat.xor_lt_two_pow (by omega) hri
    rw [wrap_nat64 (by omega)]
    exact hK
theorem Sum_spec {w : World} (s : List UInt8) (hs : s.length < 2 ^ 62) {K : Value → World → Prop} (hK : K (.int .i64 (crcMore 0 s)) w) : callG Try.prog 33 #[.string (str s)] w K := by
  refine crc_Sum_call ?_
  simp only [crc_Sum, crc_Sum_s0]
  exact More_spec 0 s hs hK
end Go.Proofs

set_option linter.unusedVariables false
set_option linter.unusedSimpArgs false
namespace Go.Proofs
open Go Go.Q
set_option maxRecDepth 100000
/-! quayside/value.Hash -/
def value_Hash_s0 (R : Value → World → Prop) (x0 : Value) (w : World) : Prop :=
  newG (Value.cells x0) 24 w fun t1 w =>
  ldn 3 t1 w fun t3 =>
  callG Try.prog 22 #[t3] w fun t4 w =>
  qG Try.prog (bq .neq 55 (.tmp 4) (.const (.int .i64 0)) t4 (.int .i64 0)) w fun t5 =>
  bV t5
  (R (.int .i64 0) w)
  (ldn 3 t1 w fun t6 =>
  callG Try.prog 34 #[t6] w fun t7 w =>
  callG Try.prog 33 #[t7] w fun t8 w =>
  R t8 w)
theorem value_Hash_s0_eq (R : Value → World → Prop) : ∀ e w, lift Try.prog 9 (bodyOf Try.f28) (finK Try.prog Try.f28.results.toList R) e w = value_Hash_s0 R (e 0) w := fun e w => by kernel_rfl
def value_Hash (R : Value → World → Prop) (x0 : Value) (w : World) : Prop := value_Hash_s0 R x0 w
theorem value_Hash_call {R : Value → World → Prop} {x0 : Value} {w : World} (h : value_Hash R x0 w) : callG Try.prog 28 #[x0] w R :=
  calls_lift_eq Try.mixed Try.func28 (args := [x0]) rfl rfl rfl rfl ((value_Hash_s0_eq R) (envOf [x0]) w) (by kernel_rfl) h
end Go.Proofs

set_option linter.unusedVariables false
set_option linter.unusedSimpArgs false
namespace Go.Proofs
open Go Go.Q
set_option maxRecDepth 100000
/-! slices.Clone[[][]quayside/hash.entry,[]quayside/hash.entry] -/
def slices_Clone_hash_entry_hash_entry_s0 (R : Value → World → Prop) (x0 : Value) (w : World) : Prop :=
  qG Try.prog (bq .eql 25 (.tmp 3) (.const (.slice none 0 0)) x0 (.slice none 0 0)) w fun t4 =>
  bV t4
  (R (.slice none 0 0) w)
  (bsl 49 1 0 (zc Try.prog 49) #[] w fun t5 w =>
  app 49 1 24 (zc Try.prog 49) t5 x0 w fun t7 w =>
  R t7 w)
theorem slices_Clone_hash_entry_hash_entry_s0_eq (R : Value → World → Prop) : ∀ e w, lift Try.prog 8 (bodyOf Try.f24) (finK Try.prog Try.f24.results.toList R) e w = slices_Clone_hash_entry_hash_entry_s0 R (e 0) w := fun e w => by kernel_rfl
def slices_Clone_hash_entry_hash_entry (R : Value → World → Prop) (x0 : Value) (w : World) : Prop := slices_Clone_hash_entry_hash_entry_s0 R x0 w
theorem slices_Clone_hash_entry_hash_entry_call {R : Value → World → Prop} {x0 : Value} {w : World} (h : slices_Clone_hash_entry_hash_entry R x0 w) : callG Try.prog 24 #[x0] w R :=
  calls_lift_eq Try.mixed Try.func24 (args := [x0]) rfl rfl rfl rfl ((slices_Clone_hash_entry_hash_entry_s0_eq R) (envOf [x0]) w) (by kernel_rfl) h
/-! slices.Clone[[]quayside/hash.entry,quayside/hash.entry] -/
def slices_Clone_hash_entry_hash_entry_26_s0 (R : Value → World → Prop) (x0 : Value) (w : World) : Prop :=
  qG Try.prog (bq .eql 49 (.tmp 3) (.const (.slice none 0 0)) x0 (.slice none 0 0)) w fun t4 =>
  bV t4
  (R (.slice none 0 0) w)
  (bsl 52 4 0 (zc Try.prog 52) #[] w fun t5 w =>
  app 52 4 40 (zc Try.prog 52) t5 x0 w fun t7 w =>
  R t7 w)
theorem slices_Clone_hash_entry_hash_entry_26_s0_eq (R : Value → World → Prop) : ∀ e w, lift Try.prog 8 (bodyOf Try.f26) (finK Try.prog Try.f26.results.toList R) e w = slices_Clone_hash_entry_hash_entry_26_s0 R (e 0) w := fun e w => by kernel_rfl
def slices_Clone_hash_entry_hash_entry_26 (R : Value → World → Prop) (x0 : Value) (w : World) : Prop := slices_Clone_hash_entry_hash_entry_26_s0 R x0 w
theorem slices_Clone_hash_entry_hash_entry_26_call {R : Value → World → Prop} {x0 : Value} {w : World} (h : slices_Clone_hash_entry_hash_entry_26 R x0 w) : callG Try.prog 26 #[x0] w R :=
  calls_lift_eq Try.mixed Try.func26 (args := [x0]) rfl rfl rfl rfl ((slices_Clone_hash_entry_hash_entry_26_s0_eq R) (envOf [x0]) w) (by kernel_rfl) h
/-! slices.Index[[]quayside/hash.entry,quayside/hash.entry] -/
def slices_Index_hash_entry_hash_entry_s0 (R : Value → World → Prop) (w : World) : Prop :=
  R (.int .i64 (-1)) w
theorem slices_Index_hash_entry_hash_entry_s0_eq (R : Value → World → Prop) : ∀ e w, lift Try.prog 19 (sub (bodyOf Try.f32) [1, 1]) (finK Try.prog Try.f32.results.toList R) e w = slices_Index_hash_entry_hash_entry_s0 R w := fun e w => by kernel_rfl
def slices_Index_hash_entry_hash_entry_b1 (R : Value → World → Prop) (N1 : List Value → World → Prop) (x0 x3 x7 x8 : Value) (w : World) : Prop :=
  qG Try.prog (bq .lss 3 (.tmp 8) (.tmp 7) x8 x7) w fun t9 =>
  bV t9
  (ldn 4 x3 (World.drew w) fun t11 =>
  ia 4 x0 x8 fun t14 =>
  ldn 4 t14 (World.drew w) fun t15 =>
  qG Try.prog (bq .eql 52 (.tmp 11) (.tmp 15) t11 t15) (World.drew w) fun t16 =>
  bV t16
  (R x8 (World.drew w))
  (qG Try.prog (bq .add 3 (.tmp 8) (.const (.int .i64 1)) x8 (.int .i64 1)) (World.drew w) fun t18 =>
  N1 [x0, x3, x7, t18] (World.drew w)))
  (slices_Index_hash_entry_hash_entry_s0 R  w)
theorem slices_Index_hash_entry_hash_entry_b1_eq (R : Value → World → Prop) (N1 : List Value → World → Prop) : ∀ e w, lift Try.prog 19 (sub (bodyOf Try.f32) [1, 0, 1, 0, 0]) (seqK (fun e w => N1 [e 0, e 3, e 7, e 8] w) (blockK 0 (seqK (fun e w => slices_Index_hash_entry_hash_entry_s0 R  w) (finK Try.prog Try.f32.results.toList R)))) e w = slices_Index_hash_entry_hash_entry_b1 R N1 (e 0) (e 3) (e 7) (e 8) w := fun e w => by kernel_rfl
def slices_Index_hash_entry_hash_entry_L2F (R : Value → World → Prop) (N1 : List Value → World → Prop) (xs : List Value) (w : World) : Prop :=
  match xs with
  | [x0, x3, x7, x8] => slices_Index_hash_entry_hash_entry_b1 R N1 x0 x3 x7 x8 w
  | _ => False
def slices_Index_hash_entry_hash_entry_L2 (R : Value → World → Prop) (x0 x3 x7 x8 : Value) (w : World) : Prop :=
  ∃ m, loopV (slices_Index_hash_entry_hash_entry_L2F R) m [x0, x3, x7, x8] w
theorem slices_Index_hash_entry_hash_entry_L2_eq (R : Value → World → Prop) : ∀ e w, lift Try.prog 19 (sub (bodyOf Try.f32) [1, 0, 1, 0]) (blockK 0 (seqK (fun e w => slices_Index_hash_entry_hash_entry_s0 R  w) (finK Try.prog Try.f32.results.toList R))) e w = slices_Index_hash_entry_hash_entry_L2 R (e 0) (e 3) (e 7) (e 8) w := loop_seg (F := slices_Index_hash_entry_hash_entry_L2F R) (sel := fun e => [e 0, e 3, e 7, e 8]) fun N1 => (slices_Index_hash_entry_hash_entry_b1_eq R N1)
def slices_Index_hash_entry_hash_entry_s3 (R : Value → World → Prop) (x0 x3 : Value) (w : World) : Prop :=
  lenL x0 fun t7 =>
  slices_Index_hash_entry_hash_entry_L2 R x0 x3 t7 (.int .i64 0) w
theorem slices_Index_hash_entry_hash_entry_s3_eq (R : Value → World → Prop) : ∀ e w, lift Try.prog 19 (sub (bodyOf Try.f32) [1, 0]) (seqK (fun e w => slices_Index_hash_entry_hash_entry_s0 R  w) (finK Try.prog Try.f32.results.toList R)) e w = slices_Index_hash_entry_hash_entry_s3 R (e 0) (e 3) w :=
  segs_eq (l := [(sub (bodyOf Try.f32) [1, 0, 0])]) (y := (sub (bodyOf Try.f32) [1, 0, 1])) (Y := (fun e w => slices_Index_hash_entry_hash_entry_L2 R (e 0) (e 3) (e 7) (e 8) w)) (slices_Index_hash_entry_hash_entry_L2_eq R) (fun e w => by kernel_rfl)
def slices_Index_hash_entry_hash_entry_s4 (R : Value → World → Prop) (x0 x1 : Value) (w : World) : Prop :=
  newG (Value.cells x1) 52 w fun t3 w =>
  slices_Index_hash_entry_hash_entry_s3 R x0 t3 w
theorem slices_Index_hash_entry_hash_entry_s4_eq (R : Value → World → Prop) : ∀ e w, lift Try.prog 19 (bodyOf Try.f32) (finK Try.prog Try.f32.results.toList R) e w = slices_Index_hash_entry_hash_entry_s4 R (e 0) (e 1) w :=
  segs_eq (l := [(sub (bodyOf Try.f32) [0])]) (y := (sub (bodyOf Try.f32) [1])) (Y := (fun e w => slices_Index_hash_entry_hash_entry_s3 R (e 0) (e 3) w)) (seq_seg (x := (sub (bodyOf Try.f32) [1, 0])) (y := (sub (bodyOf Try.f32) [1, 1])) (slices_Index_hash_entry_hash_entry_s0_eq R) (slices_Index_hash_entry_hash_entry_s3_eq R)) (fun e w => by kernel_rfl)
def slices_Index_hash_entry_hash_entry (R : Value → World → Prop) (x0 x1 : Value) (w : World) : Prop := slices_Index_hash_entry_hash_entry_s4 R x0 x1 w
theorem slices_Index_hash_entry_hash_entry_call {R : Value → World → Prop} {x0 x1 : Value} {w : World} (h : slices_Index_hash_entry_hash_entry R x0 x1 w) : callG Try.prog 32 #[x0, x1] w R :=
  calls_lift_eq Try.mixed Try.func32 (args := [x0, x1]) rfl rfl rfl rfl ((slices_Index_hash_entry_hash_entry_s4_eq R) (envOf [x0, x1]) w) (by kernel_rfl) h
/-! slices.Delete[[]quayside/hash.entry,quayside/hash.entry] -/
def slices_Delete_hash_entry_hash_entry_s0 (R : Value → World → Prop) (x0 x1 x2 : Value) (w : World) : Prop :=
  lenL x0 fun t12 =>
  qG Try.prog (Instr.sliceAt 49 x0 (some x1) (some x2) (some t12)) w fun t13 =>
  qG Try.prog (bq .eql 3 (.tmp 14) (.tmp 15) x1 x2) w fun t16 =>
  bV t16
  (R x0 w)
  (lenL x0 fun t19 =>
  slL 4 x0 none (some x1) fun t22 =>
  slL 4 x0 (some x2) none fun t25 =>
  app 52 4 40 (zc Try.prog 52) t22 t25 (World.drew w) fun t26 w =>
  lenL t26 fun t29 =>
  slL 4 t26 (some t29) (some t19) fun t31 =>
  clr 4 (zc Try.prog 52) t31 w fun _ w =>
  R t26 w)
theorem slices_Delete_hash_entry_hash_entry_s0_eq (R : Value → World → Prop) : ∀ e w, lift Try.prog 33 (bodyOf Try.f27) (finK Try.prog Try.f27.results.toList R) e w = slices_Delete_hash_entry_hash_entry_s0 R (e 0) (e 1) (e 2) w := fun e w => by kernel_rfl
def slices_Delete_hash_entry_hash_entry (R : Value → World → Prop) (x0 x1 x2 : Value) (w : World) : Prop := slices_Delete_hash_entry_hash_entry_s0 R x0 x1 x2 w
theorem slices_Delete_hash_entry_hash_entry_call {R : Value → World → Prop} {x0 x1 x2 : Value} {w : World} (h : slices_Delete_hash_entry_hash_entry R x0 x1 x2 w) : callG Try.prog 27 #[x0, x1, x2] w R :=
  calls_lift_eq Try.mixed Try.func27 (args := [x0, x1, x2]) rfl rfl rfl rfl ((slices_Delete_hash_entry_hash_entry_s0_eq R) (envOf [x0, x1, x2]) w) (by kernel_rfl) h
/-! cmp.isNaN[int] -/
def cmp_isNaN_int_s0 (R : Value → World → Prop) (x0 : Value) (w : World) : Prop :=
  qG Try.prog (bq .neq 3 (.tmp 3) (.tmp 4) x0 x0) w fun t5 =>
  R t5 w
theorem cmp_isNaN_int_s0_eq (R : Value → World → Prop) : ∀ e w, lift Try.prog 6 (bodyOf Try.f31) (finK Try.prog Try.f31.results.toList R) e w = cmp_isNaN_int_s0 R (e 0) w := fun e w => by kernel_rfl
def cmp_isNaN_int (R : Value → World → Prop) (x0 : Value) (w : World) : Prop := cmp_isNaN_int_s0 R x0 w
theorem cmp_isNaN_int_call {R : Value → World → Prop} {x0 : Value} {w : World} (h : cmp_isNaN_int R x0 w) : callG Try.prog 31 #[x0] w R :=
  calls_lift_eq Try.mixed Try.func31 (args := [x0]) rfl rfl rfl rfl ((cmp_isNaN_int_s0_eq R) (envOf [x0]) w) (by kernel_rfl) h
/-! cmp.Compare[int] -/
def cmp_Compare_int_s0 (R : Value → World → Prop) (x0 x1 : Value) (w : World) : Prop :=
  callG Try.prog 31 #[x0] w fun t8 w =>
  callG Try.prog 31 #[x1] w fun t10 w =>
  bV t8
  (bV t10
  (R (.int .i64 0) w)
  (R (.int .i64 (-1)) w))
  (bV t10
  (R (.int .i64 1) w)
  (qG Try.prog (bq .lss 3 (.tmp 14) (.tmp 15) x0 x1) w fun t16 =>
  bV t16
  (R (.int .i64 (-1)) w)
  (qG Try.prog (bq .gtr 3 (.tmp 17) (.tmp 18) x0 x1) w fun t19 =>
  bV t19
  (R (.int .i64 1) w)
  (R (.int .i64 0) w))))
theorem cmp_Compare_int_s0_eq (R : Value → World → Prop) : ∀ e w, lift Try.prog 20 (bodyOf Try.f21) (finK Try.prog Try.f21.results.toList R) e w = cmp_Compare_int_s0 R (e 0) (e 1) w := fun e w => by kernel_rfl
def cmp_Compare_int (R : Value → World → Prop) (x0 x1 : Value) (w : World) : Prop := cmp_Compare_int_s0 R x0 x1 w
theorem cmp_Compare_int_call {R : Value → World → Prop} {x0 x1 : Value} {w : World} (h : cmp_Compare_int R x0 x1 w) : callG Try.prog 21 #[x0, x1] w R :=
  calls_lift_eq Try.mixed Try.func21 (args := [x0, x1]) rfl rfl rfl rfl ((cmp_Compare_int_s0_eq R) (envOf [x0, x1]) w) (by kernel_rfl) h
end Go.Proofs

set_option linter.unusedVariables false
set_option linter.unusedSimpArgs false
namespace Go.Proofs
open Go Go.Q
set_option maxRecDepth 100000
/-! (quayside/hash.Index).Len -/
def hash_Index_Len_s0 (R : Value → World → Prop) (x0 : Value) (w : World) : Prop :=
  newG (Value.cells x0) 27 w fun t1 w =>
  fa 1 t1 fun t3 =>
  ld1 t3 w fun t4 =>
  R t4 w
theorem hash_Index_Len_s0_eq (R : Value → World → Prop) : ∀ e w, lift Try.prog 5 (bodyOf Try.f10) (finK Try.prog Try.f10.results.toList R) e w = hash_Index_Len_s0 R (e 0) w := fun e w => by kernel_rfl
def hash_Index_Len (R : Value → World → Prop) (x0 : Value) (w : World) : Prop := hash_Index_Len_s0 R x0 w
theorem hash_Index_Len_call {R : Value → World → Prop} {x0 : Value} {w : World} (h : hash_Index_Len R x0 w) : callG Try.prog 10 #[x0] w R :=
  calls_lift_eq Try.mixed Try.func10 (args := [x0]) rfl rfl rfl rfl ((hash_Index_Len_s0_eq R) (envOf [x0]) w) (by kernel_rfl) h
/-! (quayside/hash.Index).Buckets -/
def hash_Index_Buckets_s0 (R : Value → World → Prop) (x0 : Value) (w : World) : Prop :=
  newG (Value.cells x0) 27 w fun t1 w =>
  fa 0 t1 fun t3 =>
  ld1 t3 w fun t4 =>
  lenL t4 fun t5 =>
  R t5 w
theorem hash_Index_Buckets_s0_eq (R : Value → World → Prop) : ∀ e w, lift Try.prog 6 (bodyOf Try.f11) (finK Try.prog Try.f11.results.toList R) e w = hash_Index_Buckets_s0 R (e 0) w := fun e w => by kernel_rfl
def hash_Index_Buckets (R : Value → World → Prop) (x0 : Value) (w : World) : Prop := hash_Index_Buckets_s0 R x0 w
theorem hash_Index_Buckets_call {R : Value → World → Prop} {x0 : Value} {w : World} (h : hash_Index_Buckets R x0 w) : callG Try.prog 11 #[x0] w R :=
  calls_lift_eq Try.mixed Try.func11 (args := [x0]) rfl rfl rfl rfl ((hash_Index_Buckets_s0_eq R) (envOf [x0]) w) (by kernel_rfl) h
/-! (quayside/hash.Index).bucket -/
def hash_Index_bucket_s0 (R : Value → World → Prop) (x0 x1 : Value) (w : World) : Prop :=
  newG (Value.cells x0) 27 w fun t2 w =>
  newG (Value.cells x1) 24 w fun t3 w =>
  ldn 3 t3 (World.drew w) fun t5 =>
  fa 0 t2 fun t7 =>
  ld1 t7 (World.drew w) fun t8 =>
  lenL t8 fun t9 =>
  callG Try.prog 28 #[t5] (World.drew w) fun t6 w =>
  ld1 t7 w (fun u => u = t8) ∧
  qG Try.prog (bq .rem 3 (.tmp 6) (.tmp 9) t6 t9) w fun t10 =>
  R t10 w
theorem hash_Index_bucket_s0_eq (R : Value → World → Prop) : ∀ e w, lift Try.prog 11 (bodyOf Try.f18) (finK Try.prog Try.f18.results.toList R) e w = hash_Index_bucket_s0 R (e 0) (e 1) w := fun e w => by kernel_rfl
def hash_Index_bucket (R : Value → World → Prop) (x0 x1 : Value) (w : World) : Prop := hash_Index_bucket_s0 R x0 x1 w
theorem hash_Index_bucket_call {R : Value → World → Prop} {x0 x1 : Value} {w : World} (h : hash_Index_bucket R x0 x1 w) : callG Try.prog 18 #[x0, x1] w R :=
  calls_lift_eq Try.mixed Try.func18 (args := [x0, x1]) rfl rfl rfl rfl ((hash_Index_bucket_s0_eq R) (envOf [x0, x1]) w) (by kernel_rfl) h
/-! (quayside/hash.Index).where -/
def hash_Index_where_s0 (R : Value → World → Prop) (x0 x1 x2 : Value) (w : World) : Prop :=
  newG (Value.cells x0) 27 w fun t3 w =>
  newG (Value.cells x1) 24 w fun t4 w =>
  fa 0 t3 fun t7 =>
  ld1 t7 w fun t8 =>
  lenL t8 fun t9 =>
  qG Try.prog (bq .eql 3 (.tmp 9) (.const (.int .i64 0)) t9 (.int .i64 0)) w fun t10 =>
  bV t10
  (R (.int .i64 (-1)) w)
  (fa 0 t3 fun t11 =>
  ld1 t11 (World.drew w) fun t12 =>
  ldn 2 t3 (World.drew w) fun t13 =>
  ldn 3 t4 (World.drew w) fun t14 =>
  ldn 3 t4 (World.drew w) fun t18 =>
  bld [(0, 3), (3, 1)] (zc Try.prog 52) #[(0, t18), (1, x2)] fun t20 =>
  callG Try.prog 18 #[t13, t14] (World.drew w) fun t15 w =>
  ldn 3 t4 w (fun u => u = t18) ∧
  ld1 t11 w (fun u => u = t12) ∧
  ia 1 t12 t15 fun t16 =>
  ld1 t16 w fun t17 =>
  callG Try.prog 32 #[t17, t20] w fun t21 w =>
  R t21 w)
theorem hash_Index_where_s0_eq (R : Value → World → Prop) : ∀ e w, lift Try.prog 22 (bodyOf Try.f23) (finK Try.prog Try.f23.results.toList R) e w = hash_Index_where_s0 R (e 0) (e 1) (e 2) w := fun e w => by kernel_rfl
def hash_Index_where (R : Value → World → Prop) (x0 x1 x2 : Value) (w : World) : Prop := hash_Index_where_s0 R x0 x1 x2 w
theorem hash_Index_where_call {R : Value → World → Prop} {x0 x1 x2 : Value} {w : World} (h : hash_Index_where R x0 x1 x2 w) : callG Try.prog 23 #[x0, x1, x2] w R :=
  calls_lift_eq Try.mixed Try.func23 (args := [x0, x1, x2]) rfl rfl rfl rfl ((hash_Index_where_s0_eq R) (envOf [x0, x1, x2]) w) (by kernel_rfl) h
/-! (quayside/hash.Index).grown -/
def hash_Index_grown_s0 (R : Value → World → Prop) (x4 x5 : Value) (w : World) : Prop :=
  ldn 2 x5 w fun t47 =>
  stn 2 x4 t47 w fun w =>
  qG Try.prog (do loadVar 27 (← asAddr x4)) w fun r4 =>
  R r4 w
theorem hash_Index_grown_s0_eq (R : Value → World → Prop) : ∀ e w, lift Try.prog 48 (sub (bodyOf Try.f25) [1, 1, 1]) (finK Try.prog Try.f25.results.toList R) e w = hash_Index_grown_s0 R (e 4) (e 5) w := fun e w => by kernel_rfl
def hash_Index_grown_s1 (R : Value → World → Prop) (N1 : List Value → World → Prop) (x4 x5 x17 x18 x19 : Value) (w : World) : Prop :=
  qG Try.prog (bq .add 3 (.tmp 19) (.const (.int .i64 1)) x19 (.int .i64 1)) w fun t46 =>
  N1 [x4, x5, x17, x18, t46] w
theorem hash_Index_grown_s1_eq (R : Value → World → Prop) (N1 : List Value → World → Prop) : ∀ e w, lift Try.prog 48 (sub (bodyOf Try.f25) [1, 1, 0, 1, 0, 0, 1, 1, 1]) (seqK (fun e w => N1 [e 4, e 5, e 17, e 18, e 19] w) (blockK 0 (seqK (fun e w => hash_Index_grown_s0 R (e 4) (e 5) w) (finK Try.prog Try.f25.results.toList R)))) e w = hash_Index_grown_s1 R N1 (e 4) (e 5) (e 17) (e 18) (e 19) w := fun e w => by kernel_rfl
def hash_Index_grown_b2 (R : Value → World → Prop) (N1 : List Value → World → Prop) (N2 : List Value → World → Prop) (x4 x5 x17 x18 x19 x23 x24 x25 : Value) (w : World) : Prop :=
  qG Try.prog (bq .lss 3 (.tmp 25) (.tmp 24) x25 x24) w fun t26 =>
  bV t26
  (ia 4 x23 x25 fun t27 =>
  ldn 4 t27 w fun t28 =>
  newG (zc Try.prog 52) 52 w fun t9 w =>
  stn 4 t9 t28 w fun w =>
  ldn 2 x5 w fun t29 =>
  fa 0 t9 fun t30 =>
  ldn 3 t30 w fun t31 =>
  callG Try.prog 18 #[t29, t31] w fun t32 w =>
  fa 0 x5 fun t33 =>
  ld1 t33 (World.drew w) fun t34 =>
  fa 0 x5 fun t36 =>
  ld1 t36 (World.drew w) fun t37 =>
  ia 1 t37 t32 fun t39 =>
  ld1 t39 (World.drew w) fun t40 =>
  ldn 4 t9 (World.drew w) fun t41 =>
  bsl 52 4 1 (zc Try.prog 52) #[(0, t41)] (World.drew w) fun t42 w =>
  ld1 t39 w (fun u => u = t40) ∧
  ld1 t36 w (fun u => u = t37) ∧
  ld1 t33 w (fun u => u = t34) ∧
  app 52 4 40 (zc Try.prog 52) t40 t42 w fun t43 w =>
  ld1 t33 w (fun u => u = t34) ∧
  ia 1 t34 t32 fun t44 =>
  st1 t44 t43 w fun w =>
  qG Try.prog (bq .add 3 (.tmp 25) (.const (.int .i64 1)) x25 (.int .i64 1)) w fun t45 =>
  N2 [x4, x5, x17, x18, x19, x23, x24, t45] w)
  (hash_Index_grown_s1 R N1 x4 x5 x17 x18 x19 w)
theorem hash_Index_grown_b2_eq (R : Value → World → Prop) (N1 : List Value → World → Prop) (N2 : List Value → World → Prop) : ∀ e w, lift Try.prog 48 (sub (bodyOf Try.f25) [1, 1, 0, 1, 0, 0, 1, 1, 0, 0, 1, 1, 0, 0]) (seqK (fun e w => N2 [e 4, e 5, e 17, e 18, e 19, e 23, e 24, e 25] w) (blockK 2 (blockK 1 (seqK (fun e w => hash_Index_grown_s1 R N1 (e 4) (e 5) (e 17) (e 18) (e 19) w) (seqK (fun e w => N1 [e 4, e 5, e 17, e 18, e 19] w) (blockK 0 (seqK (fun e w => hash_Index_grown_s0 R (e 4) (e 5) w) (finK Try.prog Try.f25.results.toList R)))))))) e w = hash_Index_grown_b2 R N1 N2 (e 4) (e 5) (e 17) (e 18) (e 19) (e 23) (e 24) (e 25) w := fun e w => by kernel_rfl
def hash_Index_grown_L3F (R : Value → World → Prop) (N1 : List Value → World → Prop) (N2 : List Value → World → Prop) (xs : List Value) (w : World) : Prop :=
  match xs with
  | [x4, x5, x17, x18, x19, x23, x24, x25] => hash_Index_grown_b2 R N1 N2 x4 x5 x17 x18 x19 x23 x24 x25 w
  | _ => False
def hash_Index_grown_L3 (R : Value → World → Prop) (N1 : List Value → World → Prop) (x4 x5 x17 x18 x19 x23 x24 x25 : Value) (w : World) : Prop :=
  ∃ m, loopV (hash_Index_grown_L3F R N1) m [x4, x5, x17, x18, x19, x23, x24, x25] w
theorem hash_Index_grown_L3_eq (R : Value → World → Prop) (N1 : List Value → World → Prop) : ∀ e w, lift Try.prog 48 (sub (bodyOf Try.f25) [1, 1, 0, 1, 0, 0, 1, 1, 0, 0, 1, 1, 0]) (blockK 2 (blockK 1 (seqK (fun e w => hash_Index_grown_s1 R N1 (e 4) (e 5) (e 17) (e 18) (e 19) w) (seqK (fun e w => N1 [e 4, e 5, e 17, e 18, e 19] w) (blockK 0 (seqK (fun e w => hash_Index_grown_s0 R (e 4) (e 5) w) (finK Try.prog Try.f25.results.toList R))))))) e w = hash_Index_grown_L3 R N1 (e 4) (e 5) (e 17) (e 18) (e 19) (e 23) (e 24) (e 25) w := loop_seg (F := hash_Index_grown_L3F R N1) (sel := fun e => [e 4, e 5, e 17, e 18, e 19, e 23, e 24, e 25]) fun N2 => (hash_Index_grown_b2_eq R N1 N2)
def hash_Index_grown_s4 (R : Value → World → Prop) (N1 : List Value → World → Prop) (x4 x5 x17 x18 x19 : Value) (w : World) : Prop :=
  ia 1 x17 x19 fun t21 =>
  ld1 t21 w fun t22 =>
  lenL t22 fun t24 =>
  hash_Index_grown_L3 R N1 x4 x5 x17 x18 x19 t22 t24 (.int .i64 0) w
theorem hash_Index_grown_s4_eq (R : Value → World → Prop) (N1 : List Value → World → Prop) : ∀ e w, lift Try.prog 48 (sub (bodyOf Try.f25) [1, 1, 0, 1, 0, 0, 1, 1, 0, 0]) (blockK 1 (seqK (fun e w => hash_Index_grown_s1 R N1 (e 4) (e 5) (e 17) (e 18) (e 19) w) (seqK (fun e w => N1 [e 4, e 5, e 17, e 18, e 19] w) (blockK 0 (seqK (fun e w => hash_Index_grown_s0 R (e 4) (e 5) w) (finK Try.prog Try.f25.results.toList R)))))) e w = hash_Index_grown_s4 R N1 (e 4) (e 5) (e 17) (e 18) (e 19) w :=
  segs_eq (l := [(sub (bodyOf Try.f25) [1, 1, 0, 1, 0, 0, 1, 1, 0, 0, 0]), (sub (bodyOf Try.f25) [1, 1, 0, 1, 0, 0, 1, 1, 0, 0, 1, 0])]) (y := (sub (bodyOf Try.f25) [1, 1, 0, 1, 0, 0, 1, 1, 0, 0, 1, 1])) (Y := (fun e w => hash_Index_grown_L3 R N1 (e 4) (e 5) (e 17) (e 18) (e 19) (e 23) (e 24) (e 25) w)) (hash_Index_grown_L3_eq R N1) (fun e w => by kernel_rfl)
def hash_Index_grown_s5 (R : Value → World → Prop) (N1 : List Value → World → Prop) (x4 x5 x17 x18 x19 : Value) (w : World) : Prop :=
  qG Try.prog (bq .lss 3 (.tmp 19) (.tmp 18) x19 x18) w fun t20 =>
  bV t20
  (hash_Index_grown_s4 R N1 x4 x5 x17 x18 x19 w)
  (hash_Index_grown_s0 R x4 x5 w)
theorem hash_Index_grown_s5_eq (R : Value → World → Prop) (N1 : List Value → World → Prop) : ∀ e w, lift Try.prog 48 (sub (bodyOf Try.f25) [1, 1, 0, 1, 0, 0]) (seqK (fun e w => N1 [e 4, e 5, e 17, e 18, e 19] w) (blockK 0 (seqK (fun e w => hash_Index_grown_s0 R (e 4) (e 5) w) (finK Try.prog Try.f25.results.toList R)))) e w = hash_Index_grown_s5 R N1 (e 4) (e 5) (e 17) (e 18) (e 19) w :=
  segs_eq (l := [(sub (bodyOf Try.f25) [1, 1, 0, 1, 0, 0, 0]), (sub (bodyOf Try.f25) [1, 1, 0, 1, 0, 0, 1, 0])]) (y := (sub (bodyOf Try.f25) [1, 1, 0, 1, 0, 0, 1, 1])) (Y := (fun e w => hash_Index_grown_s4 R N1 (e 4) (e 5) (e 17) (e 18) (e 19) w)) (seq_seg (x := (sub (bodyOf Try.f25) [1, 1, 0, 1, 0, 0, 1, 1, 0])) (y := (sub (bodyOf Try.f25) [1, 1, 0, 1, 0, 0, 1, 1, 1])) (hash_Index_grown_s1_eq R N1) (hash_Index_grown_s4_eq R N1)) (fun e w => by kernel_rfl)
def hash_Index_grown_L6F (R : Value → World → Prop) (N1 : List Value → World → Prop) (xs : List Value) (w : World) : Prop :=
  match xs with
  | [x4, x5, x17, x18, x19] => hash_Index_grown_s5 R N1 x4 x5 x17 x18 x19 w
  | _ => False
def hash_Index_grown_L6 (R : Value → World → Prop) (x4 x5 x17 x18 x19 : Value) (w : World) : Prop :=
  ∃ m, loopV (hash_Index_grown_L6F R) m [x4, x5, x17, x18, x19] w
theorem hash_Index_grown_L6_eq (R : Value → World → Prop) : ∀ e w, lift Try.prog 48 (sub (bodyOf Try.f25) [1, 1, 0, 1, 0]) (blockK 0 (seqK (fun e w => hash_Index_grown_s0 R (e 4) (e 5) w) (finK Try.prog Try.f25.results.toList R))) e w = hash_Index_grown_L6 R (e 4) (e 5) (e 17) (e 18) (e 19) w := loop_seg (F := hash_Index_grown_L6F R) (sel := fun e => [e 4, e 5, e 17, e 18, e 19]) fun N1 => (hash_Index_grown_s5_eq R N1)
def hash_Index_grown_s7 (R : Value → World → Prop) (x2 x4 x5 : Value) (w : World) : Prop :=
  fa 0 x2 fun t16 =>
  ld1 t16 w fun t17 =>
  lenL t17 fun t18 =>
  hash_Index_grown_L6 R x4 x5 t17 t18 (.int .i64 0) w
theorem hash_Index_grown_s7_eq (R : Value → World → Prop) : ∀ e w, lift Try.prog 48 (sub (bodyOf Try.f25) [1, 1, 0]) (seqK (fun e w => hash_Index_grown_s0 R (e 4) (e 5) w) (finK Try.prog Try.f25.results.toList R)) e w = hash_Index_grown_s7 R (e 2) (e 4) (e 5) w :=
  segs_eq (l := [(sub (bodyOf Try.f25) [1, 1, 0, 0])]) (y := (sub (bodyOf Try.f25) [1, 1, 0, 1])) (Y := (fun e w => hash_Index_grown_L6 R (e 4) (e 5) (e 17) (e 18) (e 19) w)) (hash_Index_grown_L6_eq R) (fun e w => by kernel_rfl)
def hash_Index_grown_s8 (R : Value → World → Prop) (x0 x1 : Value) (w : World) : Prop :=
  newG (Value.cells x0) 27 w fun t2 w =>
  newG (zc Try.prog 27) 27 w fun t4 w =>
  fa 1 t2 fun t13 =>
  ld1 t13 (World.drew w) fun t14 =>
  (mkG 49 1 24 (zc Try.prog 49) x1 x1 (World.drew w) fun t12 w =>
  ld1 t13 w (fun u => u = t14) ∧
  bld [(0, 1), (1, 1)] (zc Try.prog 27) #[(0, t12), (1, t14)] fun t15 =>
  newG (zc Try.prog 27) 27 w fun t5 w =>
  ld1 t13 w (fun u => u = t14) ∧
  stn 2 t5 t15 w fun w =>
  hash_Index_grown_s7 R t2 t4 t5 w) ∧
  (newG (zc Try.prog 27) 27 (World.drew w) fun t5_1 w =>
  ld1 t13 w (fun u => u = t14) ∧
  mkG 49 1 24 (zc Try.prog 49) x1 x1 w fun t12_1 w =>
  ld1 t13 w (fun u => u = t14) ∧
  bld [(0, 1), (1, 1)] (zc Try.prog 27) #[(0, t12_1), (1, t14)] fun t15_1 =>
  stn 2 t5_1 t15_1 w fun w =>
  hash_Index_grown_s7 R t2 t4 t5_1 w)
theorem hash_Index_grown_s8_eq (R : Value → World → Prop) : ∀ e w, lift Try.prog 48 (bodyOf Try.f25) (finK Try.prog Try.f25.results.toList R) e w = hash_Index_grown_s8 R (e 0) (e 1) w :=
  segs_eq (l := [(sub (bodyOf Try.f25) [0]), (sub (bodyOf Try.f25) [1, 0])]) (y := (sub (bodyOf Try.f25) [1, 1])) (Y := (fun e w => hash_Index_grown_s7 R (e 2) (e 4) (e 5) w)) (seq_seg (x := (sub (bodyOf Try.f25) [1, 1, 0])) (y := (sub (bodyOf Try.f25) [1, 1, 1])) (hash_Index_grown_s0_eq R) (hash_Index_grown_s7_eq R)) (fun e w => by kernel_rfl)
def hash_Index_grown (R : Value → World → Prop) (x0 x1 : Value) (w : World) : Prop := hash_Index_grown_s8 R x0 x1 w
theorem hash_Index_grown_call {R : Value → World → Prop} {x0 x1 : Value} {w : World} (h : hash_Index_grown R x0 x1 w) : callG Try.prog 25 #[x0, x1] w R :=
  calls_lift_eq Try.mixed Try.func25 (args := [x0, x1]) rfl rfl rfl rfl ((hash_Index_grown_s8_eq R) (envOf [x0, x1]) w) (by kernel_rfl) h
/-! (quayside/hash.Index).With -/
def hash_Index_With_s0 (R : Value → World → Prop) (x2 x4 x6 x7 : Value) (w : World) : Prop :=
  ldn 2 x7 w fun t41 =>
  ldn 3 x4 w fun t42 =>
  callG Try.prog 18 #[t41, t42] w fun t43 w =>
  fa 0 x7 fun t44 =>
  ld1 t44 (World.drew w) fun t45 =>
  fa 0 x7 fun t47 =>
  ld1 t47 (World.drew w) fun t48 =>
  ia 1 t48 t43 fun t50 =>
  ld1 t50 (World.drew w) fun t51 =>
  ldn 3 x4 (World.drew w) fun t53 =>
  bld [(0, 3), (3, 1)] (zc Try.prog 52) #[(0, t53), (1, x2)] fun t55 =>
  (callG Try.prog 26 #[t51] (World.drew w) fun t52 w =>
  ldn 3 x4 w (fun u => u = t53) ∧
  ld1 t44 w (fun u => u = t45) ∧
  bsl 52 4 1 (zc Try.prog 52) #[(0, t55)] w fun t56 w =>
  ld1 t50 w (fun u => u = t51) ∧
  ld1 t47 w (fun u => u = t48) ∧
  ld1 t44 w (fun u => u = t45) ∧
  app 52 4 40 (zc Try.prog 52) t52 t56 w fun t57 w =>
  ld1 t44 w (fun u => u = t45) ∧
  ia 1 t45 t43 fun t58 =>
  st1 t58 t57 w fun w =>
  ldn 2 x7 w fun t59 =>
  stn 2 x6 t59 w fun w =>
  qG Try.prog (do loadVar 27 (← asAddr x6)) w fun r6 =>
  R r6 w) ∧
  (bsl 52 4 1 (zc Try.prog 52) #[(0, t55)] (World.drew w) fun t56_1 w =>
  ld1 t50 w (fun u => u = t51) ∧
  ld1 t47 w (fun u => u = t48) ∧
  ld1 t44 w (fun u => u = t45) ∧
  callG Try.prog 26 #[t51] w fun t52_1 w =>
  ldn 3 x4 w (fun u => u = t53) ∧
  ld1 t44 w (fun u => u = t45) ∧
  app 52 4 40 (zc Try.prog 52) t52_1 t56_1 w fun t57_1 w =>
  ld1 t44 w (fun u => u = t45) ∧
  ia 1 t45 t43 fun t58_1 =>
  st1 t58_1 t57_1 w fun w =>
  ldn 2 x7 w fun t59_1 =>
  stn 2 x6 t59_1 w fun w =>
  qG Try.prog (do loadVar 27 (← asAddr x6)) w fun r6_1 =>
  R r6_1 w)
theorem hash_Index_With_s0_eq (R : Value → World → Prop) : ∀ e w, lift Try.prog 60 (sub (bodyOf Try.f15) [1, 1, 1, 1]) (finK Try.prog Try.f15.results.toList R) e w = hash_Index_With_s0 R (e 2) (e 4) (e 6) (e 7) w := fun e w => by kernel_rfl
def hash_Index_With_b1 (R : Value → World → Prop) (N1 : List Value → World → Prop) (x2 x4 x6 x7 : Value) (w : World) : Prop :=
  fa 0 x7 fun t27 =>
  ld1 t27 w fun t28 =>
  lenL t28 fun t29 =>
  qG Try.prog (bq .mul 3 (.tmp 29) (.const (.int .i64 4)) t29 (.int .i64 4)) w fun t30 =>
  fa 1 x7 fun t31 =>
  ld1 t31 w fun t32 =>
  qG Try.prog (bq .lss 3 (.tmp 30) (.tmp 32) t30 t32) w fun t33 =>
  bV t33
  (ldn 2 x7 w fun t34 =>
  fa 0 x7 fun t35 =>
  ld1 t35 w fun t36 =>
  lenL t36 fun t37 =>
  qG Try.prog (bq .mul 3 (.const (.int .i64 2)) (.tmp 37) (.int .i64 2) t37) w fun t38 =>
  qG Try.prog (Builtin.max_ #[3, 3] 3 #[(.int .i64 8), t38]) w fun t39 =>
  callG Try.prog 25 #[t34, t39] w fun t40 w =>
  stn 2 x7 t40 w fun w =>
  N1 [x2, x4, x6, x7] w)
  (hash_Index_With_s0 R x2 x4 x6 x7 w)
theorem hash_Index_With_b1_eq (R : Value → World → Prop) (N1 : List Value → World → Prop) : ∀ e w, lift Try.prog 60 (sub (bodyOf Try.f15) [1, 1, 1, 0, 0, 0]) (seqK (fun e w => N1 [e 2, e 4, e 6, e 7] w) (blockK 0 (seqK (fun e w => hash_Index_With_s0 R (e 2) (e 4) (e 6) (e 7) w) (finK Try.prog Try.f15.results.toList R)))) e w = hash_Index_With_b1 R N1 (e 2) (e 4) (e 6) (e 7) w := fun e w => by kernel_rfl
def hash_Index_With_L2F (R : Value → World → Prop) (N1 : List Value → World → Prop) (xs : List Value) (w : World) : Prop :=
  match xs with
  | [x2, x4, x6, x7] => hash_Index_With_b1 R N1 x2 x4 x6 x7 w
  | _ => False
def hash_Index_With_L2 (R : Value → World → Prop) (x2 x4 x6 x7 : Value) (w : World) : Prop :=
  ∃ m, loopV (hash_Index_With_L2F R) m [x2, x4, x6, x7] w
theorem hash_Index_With_L2_eq (R : Value → World → Prop) : ∀ e w, lift Try.prog 60 (sub (bodyOf Try.f15) [1, 1, 1, 0, 0]) (blockK 0 (seqK (fun e w => hash_Index_With_s0 R (e 2) (e 4) (e 6) (e 7) w) (finK Try.prog Try.f15.results.toList R))) e w = hash_Index_With_L2 R (e 2) (e 4) (e 6) (e 7) w := loop_seg (F := hash_Index_With_L2F R) (sel := fun e => [e 2, e 4, e 6, e 7]) fun N1 => (hash_Index_With_b1_eq R N1)
def hash_Index_With_s3 (R : Value → World → Prop) (x2 x3 x4 x6 : Value) (w : World) : Prop :=
  fa 0 x3 fun t20 =>
  ld1 t20 (World.drew w) fun t21 =>
  fa 1 x3 fun t23 =>
  ld1 t23 (World.drew w) fun t24 =>
  qG Try.prog (bq .add 3 (.tmp 24) (.const (.int .i64 1)) t24 (.int .i64 1)) (World.drew w) fun t25 =>
  (callG Try.prog 24 #[t21] (World.drew w) fun t22 w =>
  stb Try.prog (bq .add 3 (.tmp 24) (.const (.int .i64 1)) t24 (.int .i64 1)) t25 w ∧
  ld1 t23 w (fun u => u = t24) ∧
  bld [(0, 1), (1, 1)] (zc Try.prog 27) #[(0, t22), (1, t25)] fun t26 =>
  newG (zc Try.prog 27) 27 w fun t7 w =>
  stb Try.prog (bq .add 3 (.tmp 24) (.const (.int .i64 1)) t24 (.int .i64 1)) t25 w ∧
  ld1 t23 w (fun u => u = t24) ∧
  ld1 t20 w (fun u => u = t21) ∧
  stn 2 t7 t26 w fun w =>
  hash_Index_With_L2 R x2 x4 x6 t7 w) ∧
  (newG (zc Try.prog 27) 27 (World.drew w) fun t7_1 w =>
  stb Try.prog (bq .add 3 (.tmp 24) (.const (.int .i64 1)) t24 (.int .i64 1)) t25 w ∧
  ld1 t23 w (fun u => u = t24) ∧
  ld1 t20 w (fun u => u = t21) ∧
  callG Try.prog 24 #[t21] w fun t22_1 w =>
  stb Try.prog (bq .add 3 (.tmp 24) (.const (.int .i64 1)) t24 (.int .i64 1)) t25 w ∧
  ld1 t23 w (fun u => u = t24) ∧
  bld [(0, 1), (1, 1)] (zc Try.prog 27) #[(0, t22_1), (1, t25)] fun t26_1 =>
  stn 2 t7_1 t26_1 w fun w =>
  hash_Index_With_L2 R x2 x4 x6 t7_1 w)
theorem hash_Index_With_s3_eq (R : Value → World → Prop) : ∀ e w, lift Try.prog 60 (sub (bodyOf Try.f15) [1, 1]) (finK Try.prog Try.f15.results.toList R) e w = hash_Index_With_s3 R (e 2) (e 3) (e 4) (e 6) w :=
  segs_eq (l := [(sub (bodyOf Try.f15) [1, 1, 0])]) (y := (sub (bodyOf Try.f15) [1, 1, 1])) (Y := (fun e w => hash_Index_With_L2 R (e 2) (e 4) (e 6) (e 7) w)) (seq_seg (x := (sub (bodyOf Try.f15) [1, 1, 1, 0])) (y := (sub (bodyOf Try.f15) [1, 1, 1, 1])) (hash_Index_With_s0_eq R) (hash_Index_With_L2_eq R)) (fun e w => by kernel_rfl)
def hash_Index_With_s4 (R : Value → World → Prop) (x0 x1 x2 : Value) (w : World) : Prop :=
  newG (Value.cells x0) 27 w fun t3 w =>
  newG (Value.cells x1) 24 w fun t4 w =>
  newG (zc Try.prog 27) 27 w fun t6 w =>
  ldn 3 t4 w fun t9 =>
  callG Try.prog 22 #[t9] w fun t10 w =>
  qG Try.prog (bq .neq 55 (.tmp 10) (.const (.int .i64 0)) t10 (.int .i64 0)) w fun t11 =>
  bV t11
  (ldn 2 t3 w fun t19 =>
  stn 2 t6 t19 w fun w =>
  qG Try.prog (do loadVar 27 (← asAddr t6)) w fun r6 =>
  R r6 w)
  (ldn 2 t3 w fun t13 =>
  ldn 3 t4 w fun t14 =>
  callG Try.prog 23 #[t13, t14, x2] w fun t16 w =>
  qG Try.prog (bq .geq 3 (.tmp 16) (.const (.int .i64 0)) t16 (.int .i64 0)) w fun t17 =>
  bV t17
  (ldn 2 t3 w fun t19_1 =>
  stn 2 t6 t19_1 w fun w =>
  qG Try.prog (do loadVar 27 (← asAddr t6)) w fun r6_1 =>
  R r6_1 w)
  (hash_Index_With_s3 R x2 t3 t4 t6 w))
theorem hash_Index_With_s4_eq (R : Value → World → Prop) : ∀ e w, lift Try.prog 60 (bodyOf Try.f15) (finK Try.prog Try.f15.results.toList R) e w = hash_Index_With_s4 R (e 0) (e 1) (e 2) w :=
  segs_eq (l := [(sub (bodyOf Try.f15) [0]), (sub (bodyOf Try.f15) [1, 0])]) (y := (sub (bodyOf Try.f15) [1, 1])) (Y := (fun e w => hash_Index_With_s3 R (e 2) (e 3) (e 4) (e 6) w)) (hash_Index_With_s3_eq R) (fun e w => by kernel_rfl)
def hash_Index_With (R : Value → World → Prop) (x0 x1 x2 : Value) (w : World) : Prop := hash_Index_With_s4 R x0 x1 x2 w
theorem hash_Index_With_call {R : Value → World → Prop} {x0 x1 x2 : Value} {w : World} (h : hash_Index_With R x0 x1 x2 w) : callG Try.prog 15 #[x0, x1, x2] w R :=
  calls_lift_eq Try.mixed Try.func15 (args := [x0, x1, x2]) rfl rfl rfl rfl ((hash_Index_With_s4_eq R) (envOf [x0, x1, x2]) w) (by kernel_rfl) h
/-! (quayside/hash.Index).Without -/
def hash_Index_Without_s0 (R : Value → World → Prop) (x0 x1 x2 : Value) (w : World) : Prop :=
  newG (Value.cells x0) 27 w fun t3 w =>
  newG (Value.cells x1) 24 w fun t4 w =>
  newG (zc Try.prog 27) 27 w fun t6 w =>
  ldn 2 t3 w fun t10 =>
  ldn 3 t4 w fun t11 =>
  callG Try.prog 23 #[t10, t11, x2] w fun t13 w =>
  qG Try.prog (bq .lss 3 (.tmp 14) (.const (.int .i64 0)) t13 (.int .i64 0)) w fun t15 =>
  bV t15
  (ldn 2 t3 w fun t16 =>
  stn 2 t6 t16 w fun w =>
  qG Try.prog (do loadVar 27 (← asAddr t6)) w fun r6 =>
  R r6 w)
  (fa 0 t3 fun t17 =>
  ld1 t17 (World.drew w) fun t18 =>
  fa 1 t3 fun t20 =>
  ld1 t20 (World.drew w) fun t21 =>
  qG Try.prog (bq .sub 3 (.tmp 21) (.const (.int .i64 1)) t21 (.int .i64 1)) (World.drew w) fun t22 =>
  (callG Try.prog 24 #[t18] (World.drew w) fun t19 w =>
  stb Try.prog (bq .sub 3 (.tmp 21) (.const (.int .i64 1)) t21 (.int .i64 1)) t22 w ∧
  ld1 t20 w (fun u => u = t21) ∧
  bld [(0, 1), (1, 1)] (zc Try.prog 27) #[(0, t19), (1, t22)] fun t23 =>
  newG (zc Try.prog 27) 27 w fun t8 w =>
  stb Try.prog (bq .sub 3 (.tmp 21) (.const (.int .i64 1)) t21 (.int .i64 1)) t22 w ∧
  ld1 t20 w (fun u => u = t21) ∧
  ld1 t17 w (fun u => u = t18) ∧
  stn 2 t8 t23 w fun w =>
  ldn 2 t8 w fun t24 =>
  ldn 3 t4 w fun t25 =>
  callG Try.prog 18 #[t24, t25] w fun t26 w =>
  fa 0 t8 fun t27 =>
  ld1 t27 (World.drew w) fun t28 =>
  fa 0 t8 fun t30 =>
  ld1 t30 (World.drew w) fun t31 =>
  ia 1 t31 t26 fun t33 =>
  ld1 t33 (World.drew w) fun t34 =>
  qG Try.prog (bq .add 3 (.tmp 37) (.const (.int .i64 1)) t13 (.int .i64 1)) (World.drew w) fun t38 =>
  callG Try.prog 26 #[t34] (World.drew w) fun t35 w =>
  stb Try.prog (bq .add 3 (.tmp 37) (.const (.int .i64 1)) t13 (.int .i64 1)) t38 w ∧
  ld1 t27 w (fun u => u = t28) ∧
  callG Try.prog 27 #[t35, t13, t38] w fun t39 w =>
  ld1 t27 w (fun u => u = t28) ∧
  ia 1 t28 t26 fun t40 =>
  st1 t40 t39 w fun w =>
  ldn 2 t8 w fun t41 =>
  stn 2 t6 t41 w fun w =>
  qG Try.prog (do loadVar 27 (← asAddr t6)) w fun r6_1 =>
  R r6_1 w) ∧
  (newG (zc Try.prog 27) 27 (World.drew w) fun t8_1 w =>
  stb Try.prog (bq .sub 3 (.tmp 21) (.const (.int .i64 1)) t21 (.int .i64 1)) t22 w ∧
  ld1 t20 w (fun u => u = t21) ∧
  ld1 t17 w (fun u => u = t18) ∧
  callG Try.prog 24 #[t18] w fun t19_1 w =>
  stb Try.prog (bq .sub 3 (.tmp 21) (.const (.int .i64 1)) t21 (.int .i64 1)) t22 w ∧
  ld1 t20 w (fun u => u = t21) ∧
  bld [(0, 1), (1, 1)] (zc Try.prog 27) #[(0, t19_1), (1, t22)] fun t23_1 =>
  stn 2 t8_1 t23_1 w fun w =>
  ldn 2 t8_1 w fun t24_1 =>
  ldn 3 t4 w fun t25_1 =>
  callG Try.prog 18 #[t24_1, t25_1] w fun t26_1 w =>
  fa 0 t8_1 fun t27_1 =>
  ld1 t27_1 (World.drew w) fun t28_1 =>
  fa 0 t8_1 fun t30_1 =>
  ld1 t30_1 (World.drew w) fun t31_1 =>
  ia 1 t31_1 t26_1 fun t33_1 =>
  ld1 t33_1 (World.drew w) fun t34_1 =>
  qG Try.prog (bq .add 3 (.tmp 37) (.const (.int .i64 1)) t13 (.int .i64 1)) (World.drew w) fun t38_1 =>
  callG Try.prog 26 #[t34_1] (World.drew w) fun t35_1 w =>
  stb Try.prog (bq .add 3 (.tmp 37) (.const (.int .i64 1)) t13 (.int .i64 1)) t38_1 w ∧
  ld1 t27_1 w (fun u => u = t28_1) ∧
  callG Try.prog 27 #[t35_1, t13, t38_1] w fun t39_1 w =>
  ld1 t27_1 w (fun u => u = t28_1) ∧
  ia 1 t28_1 t26_1 fun t40_1 =>
  st1 t40_1 t39_1 w fun w =>
  ldn 2 t8_1 w fun t41_1 =>
  stn 2 t6 t41_1 w fun w =>
  qG Try.prog (do loadVar 27 (← asAddr t6)) w fun r6_2 =>
  R r6_2 w))
theorem hash_Index_Without_s0_eq (R : Value → World → Prop) : ∀ e w, lift Try.prog 42 (bodyOf Try.f16) (finK Try.prog Try.f16.results.toList R) e w = hash_Index_Without_s0 R (e 0) (e 1) (e 2) w := fun e w => by kernel_rfl
def hash_Index_Without (R : Value → World → Prop) (x0 x1 x2 : Value) (w : World) : Prop := hash_Index_Without_s0 R x0 x1 x2 w
theorem hash_Index_Without_call {R : Value → World → Prop} {x0 x1 x2 : Value} {w : World} (h : hash_Index_Without R x0 x1 x2 w) : callG Try.prog 16 #[x0, x1, x2] w R :=
  calls_lift_eq Try.mixed Try.func16 (args := [x0, x1, x2]) rfl rfl rfl rfl ((hash_Index_Without_s0_eq R) (envOf [x0, x1, x2]) w) (by kernel_rfl) h
/-! (quayside/hash.Index).Find$1 -/
def hash_Index_Find_1_s0 (R : Value → World → Prop) (x0 x1 : Value) (w : World) : Prop :=
  callG Try.prog 21 #[x0, x1] w fun t7 w =>
  R t7 w
theorem hash_Index_Find_1_s0_eq (R : Value → World → Prop) : ∀ e w, lift Try.prog 8 (bodyOf Try.f20) (finK Try.prog Try.f20.results.toList R) e w = hash_Index_Find_1_s0 R (e 0) (e 1) w := fun e w => by kernel_rfl
def hash_Index_Find_1 (R : Value → World → Prop) (x0 x1 : Value) (w : World) : Prop := hash_Index_Find_1_s0 R x0 x1 w
theorem hash_Index_Find_1_call {R : Value → World → Prop} {x0 x1 : Value} {w : World} (h : hash_Index_Find_1 R x0 x1 w) : callG Try.prog 20 #[x0, x1] w R :=
  calls_lift_eq Try.mixed Try.func20 (args := [x0, x1]) rfl rfl rfl rfl ((hash_Index_Find_1_s0_eq R) (envOf [x0, x1]) w) (by kernel_rfl) h
/-! (quayside/hash.Index).Find -/
def hash_Index_Find_s0 (R : Value → World → Prop) (x5 : Value) (w : World) : Prop :=
  callG Try.prog 19 #[x5, (.func (.func 20) #[] #[])] w fun t35 w =>
  R x5 w
theorem hash_Index_Find_s0_eq (R : Value → World → Prop) : ∀ e w, lift Try.prog 37 (sub (bodyOf Try.f13) [1, 1, 1, 1]) (finK Try.prog Try.f13.results.toList R) e w = hash_Index_Find_s0 R (e 5) w := fun e w => by kernel_rfl
def hash_Index_Find_b1 (R : Value → World → Prop) (N1 : List Value → World → Prop) (x3 x5 x18 x19 x20 : Value) (w : World) : Prop :=
  qG Try.prog (bq .lss 3 (.tmp 20) (.tmp 19) x20 x19) w fun t21 =>
  bV t21
  (ia 4 x18 x20 fun t22 =>
  ldn 4 t22 w fun t23 =>
  newG (zc Try.prog 52) 52 w fun t7 w =>
  stn 4 t7 t23 w fun w =>
  fa 0 t7 fun t24 =>
  ldn 3 t24 w fun t25 =>
  ldn 3 x3 w fun t26 =>
  qG Try.prog (bq .eql 24 (.tmp 25) (.tmp 26) t25 t26) w fun t27 =>
  bV t27
  (fa 3 t7 fun t29 =>
  ld1 t29 w fun t30 =>
  bsl 3 1 1 (zc Try.prog 3) #[(0, t30)] w fun t31 w =>
  app 3 1 8 (zc Try.prog 3) x5 t31 w fun t32 w =>
  qG Try.prog (bq .add 3 (.tmp 20) (.const (.int .i64 1)) x20 (.int .i64 1)) w fun t33 =>
  N1 [x3, t32, x18, x19, t33] w)
  (qG Try.prog (bq .add 3 (.tmp 20) (.const (.int .i64 1)) x20 (.int .i64 1)) w fun t33_1 =>
  N1 [x3, x5, x18, x19, t33_1] w))
  (hash_Index_Find_s0 R x5 w)
theorem hash_Index_Find_b1_eq (R : Value → World → Prop) (N1 : List Value → World → Prop) : ∀ e w, lift Try.prog 37 (sub (bodyOf Try.f13) [1, 1, 1, 0, 1, 0, 0]) (seqK (fun e w => N1 [e 3, e 5, e 18, e 19, e 20] w) (blockK 0 (seqK (fun e w => hash_Index_Find_s0 R (e 5) w) (finK Try.prog Try.f13.results.toList R)))) e w = hash_Index_Find_b1 R N1 (e 3) (e 5) (e 18) (e 19) (e 20) w := fun e w => by kernel_rfl
def hash_Index_Find_L2F (R : Value → World → Prop) (N1 : List Value → World → Prop) (xs : List Value) (w : World) : Prop :=
  match xs with
  | [x3, x5, x18, x19, x20] => hash_Index_Find_b1 R N1 x3 x5 x18 x19 x20 w
  | _ => False
def hash_Index_Find_L2 (R : Value → World → Prop) (x3 x5 x18 x19 x20 : Value) (w : World) : Prop :=
  ∃ m, loopV (hash_Index_Find_L2F R) m [x3, x5, x18, x19, x20] w
theorem hash_Index_Find_L2_eq (R : Value → World → Prop) : ∀ e w, lift Try.prog 37 (sub (bodyOf Try.f13) [1, 1, 1, 0, 1, 0]) (blockK 0 (seqK (fun e w => hash_Index_Find_s0 R (e 5) w) (finK Try.prog Try.f13.results.toList R))) e w = hash_Index_Find_L2 R (e 3) (e 5) (e 18) (e 19) (e 20) w := loop_seg (F := hash_Index_Find_L2F R) (sel := fun e => [e 3, e 5, e 18, e 19, e 20]) fun N1 => (hash_Index_Find_b1_eq R N1)
def hash_Index_Find_s3 (R : Value → World → Prop) (x2 x3 x5 : Value) (w : World) : Prop :=
  fa 0 x2 fun t12 =>
  ld1 t12 (World.drew w) fun t13 =>
  ldn 2 x2 (World.drew w) fun t14 =>
  ldn 3 x3 (World.drew w) fun t15 =>
  callG Try.prog 18 #[t14, t15] (World.drew w) fun t16 w =>
  ld1 t12 w (fun u => u = t13) ∧
  ia 1 t13 t16 fun t17 =>
  ld1 t17 w fun t18 =>
  lenL t18 fun t19 =>
  hash_Index_Find_L2 R x3 x5 t18 t19 (.int .i64 0) w
theorem hash_Index_Find_s3_eq (R : Value → World → Prop) : ∀ e w, lift Try.prog 37 (sub (bodyOf Try.f13) [1, 1, 1, 0]) (seqK (fun e w => hash_Index_Find_s0 R (e 5) w) (finK Try.prog Try.f13.results.toList R)) e w = hash_Index_Find_s3 R (e 2) (e 3) (e 5) w :=
  segs_eq (l := [(sub (bodyOf Try.f13) [1, 1, 1, 0, 0])]) (y := (sub (bodyOf Try.f13) [1, 1, 1, 0, 1])) (Y := (fun e w => hash_Index_Find_L2 R (e 3) (e 5) (e 18) (e 19) (e 20) w)) (hash_Index_Find_L2_eq R) (fun e w => by kernel_rfl)
def hash_Index_Find_s4 (R : Value → World → Prop) (x0 x1 : Value) (w : World) : Prop :=
  newG (Value.cells x0) 27 w fun t2 w =>
  newG (Value.cells x1) 24 w fun t3 w =>
  fa 0 t2 fun t8 =>
  ld1 t8 w fun t9 =>
  lenL t9 fun t10 =>
  qG Try.prog (bq .eql 3 (.tmp 10) (.const (.int .i64 0)) t10 (.int .i64 0)) w fun t11 =>
  bV t11
  (R (.slice none 0 0) w)
  (hash_Index_Find_s3 R t2 t3 (.slice none 0 0) w)
theorem hash_Index_Find_s4_eq (R : Value → World → Prop) : ∀ e w, lift Try.prog 37 (bodyOf Try.f13) (finK Try.prog Try.f13.results.toList R) e w = hash_Index_Find_s4 R (e 0) (e 1) w :=
  segs_eq (l := [(sub (bodyOf Try.f13) [0]), (sub (bodyOf Try.f13) [1, 0]), (sub (bodyOf Try.f13) [1, 1, 0])]) (y := (sub (bodyOf Try.f13) [1, 1, 1])) (Y := (fun e w => hash_Index_Find_s3 R (e 2) (e 3) (e 5) w)) (seq_seg (x := (sub (bodyOf Try.f13) [1, 1, 1, 0])) (y := (sub (bodyOf Try.f13) [1, 1, 1, 1])) (hash_Index_Find_s0_eq R) (hash_Index_Find_s3_eq R)) (fun e w => by kernel_rfl)
def hash_Index_Find (R : Value → World → Prop) (x0 x1 : Value) (w : World) : Prop := hash_Index_Find_s4 R x0 x1 w
theorem hash_Index_Find_call {R : Value → World → Prop} {x0 x1 : Value} {w : World} (h : hash_Index_Find R x0 x1 w) : callG Try.prog 13 #[x0, x1] w R :=
  calls_lift_eq Try.mixed Try.func13 (args := [x0, x1]) rfl rfl rfl rfl ((hash_Index_Find_s4_eq R) (envOf [x0, x1]) w) (by kernel_rfl) h
end Go.Proofs

/- Plain: operations. -/
set_option linter.unusedVariables false
set_option linter.unusedSimpArgs false
namespace Go.Q
structure OpV where
  k : Int
  sku : List UInt8
  loc : List UInt8
  to : List UInt8
  q : Int
  id : Int
  due : Int
  deriving DecidableEq
def nameOk (s : List UInt8) : Bool := decide (1 ≤ s.length ∧ s.length ≤ 64)
def OpV.ok (o : OpV) : Bool :=
  let names := nameOk o.sku && nameOk o.loc
  let none := decide (o.sku = [] ∧ o.loc = [])
  if o.k = 1 then names && decide (o.to = [] ∧ 1 ≤ o.q ∧ o.id = 0 ∧ o.due = 0)
  else if o.k = 2 then names && decide (o.to = [] ∧ 1 ≤ o.q ∧ o.id = 0 ∧ 0 ≤ o.due)
  else if o.k = 3 ∨ o.k = 4 then none && decide (o.to = [] ∧ o.q = 0 ∧ 1 ≤ o.id ∧ o.due = 0)
  else if o.k = 5 then none && decide (o.to = [] ∧ o.q = 0 ∧ o.id = 0 ∧ 0 ≤ o.due)
  else if o.k = 6 then names && nameOk o.to && decide (o.to ≠ o.loc ∧ 1 ≤ o.q ∧ o.id = 0 ∧ o.due = 0)
  else if o.k = 7 then names && decide (o.to = [] ∧ o.q ≠ 0 ∧ o.id = 0 ∧ o.due = 0)
  else false
/-- as the program asks it: what an operation may have besides is nought -/
def OpV.rest (o : OpV) : OpV :=
  if o.k = 1 ∨ o.k = 7 then ⟨o.k, o.sku, o.loc, [], o.q, 0, 0⟩
  else if o.k = 2 then ⟨o.k, o.sku, o.loc, [], o.q, 0, o.due⟩
  else if o.k = 3 ∨ o.k = 4 then ⟨o.k, [], [], [], 0, o.id, 0⟩
  else if o.k = 5 then ⟨o.k, [], [], [], 0, 0, o.due⟩
  else if o.k = 6 then ⟨o.k, o.sku, o.loc, o.to, o.q, 0, 0⟩
  else ⟨o.k, [], [], [], 0, 0, 0⟩
def OpV.may (o : OpV) (nm : Bool) : Bool :=
  if o.k = 1 then nm && decide (1 ≤ o.q)
  else if o.k = 2 then nm && decide (1 ≤ o.q ∧ 0 ≤ o.due)
  else if o.k = 3 ∨ o.k = 4 then decide (1 ≤ o.id)
  else if o.k = 5 then decide (0 ≤ o.due)
  else if o.k = 6 then nm && nameOk o.to && decide (o.to ≠ o.loc ∧ 1 ≤ o.q)
  else if o.k = 7 then nm && decide (o.q ≠ 0)
  else false
end Go.Q

/- Plain: kinds of a row; literals of several rows. -/
set_option linter.unusedVariables false
set_option linter.unusedSimpArgs false
namespace Go.Q
def intV (k : Int) : List Value := [.int .i64 k]
/-! ### literals of several rows -/
def partsFrom : Nat → List Value → List (Nat × Value)
  | _, [] => []
  | i, x :: r => (i, x) :: partsFrom (i + 1) r
theorem fill_rows {n : Nat} (hn : 0 < n) : ∀ (xs : List Value) (rows : List (List Value)) (i : Nat) (c : Array Value), xs.map Value.cells = rows.map List.toArray → (∀ y ∈ rows, y.length = n) → c.size = (i + xs.length) * n →
    Instr.fill (fun i => some (i * n, n)) c (partsFrom i xs) = some (c.toList.take (i * n) ++ rows.flatten).toArray := by
  intro xs
  induction xs with
  | nil =>
    intro rows i c h1 h2 h3
    have : rows = [] := by simpa using h1.symm
    subst this
    simp only [List.length_nil, Nat.add_zero] at h3
    have : c.toList.take (i * n) = c.toList := List.take_of_length_le (by simp [h3])
    simp [partsFrom, Instr.fill, this]
  | cons x xs ih =>
    intro rows i c h1 h2 h3
    cases rows with
    | nil => simp at h1
    | cons y rows =>
      simp only [List.map_cons, List.cons.injEq] at h1
      have hy := h2 y (by simp)
      simp only [List.length_cons] at h3
      have e1 : (i + (xs.length + 1)) * n = i * n + n + xs.length * n := by rw [Nat.add_mul, Nat.add_mul]; omega
      rw [e1] at h3
      unfold partsFrom
      rw [fill_step (off := i * n) (size := n) rfl (by rw [h1.1]; simpa using hy) (by omega), h1.1]
      have hsz : (splice c (i * n) y.toArray).size = (i + 1 + xs.length) * n := by
        rw [splice_size (by simp [hy]; omega), h3, Nat.add_mul, Nat.add_mul]; omega
      rw [ih rows (i + 1) _ h1.2 (fun z hz => h2 z (by simp [hz])) hsz]
      congr 2
      have e2 : (splice c (i * n) y.toArray).toList.take ((i + 1) * n) = c.toList.take (i * n) ++ y := by
        unfold splice
        have hl : (c.toList.take (i * n)).length = i * n := by rw [List.length_take]; simp; omega
        exact List.take_left' (by rw [List.length_append, hl, Nat.add_mul]; simp [hy])
      rw [e2]
      simp
/-- a literal of rows is a slice of the call's own -/
theorem bsl_rows {e n len : Nat} {z : Array Value} {xs : List Value} {rows : List (List Value)} (hn : 0 < n) (hl : xs.length = len) (hc : xs.map Value.cells = rows.map List.toArray) (hr : ∀ y ∈ rows, y.length = n) (hpos : 0 < len) {w : World} {K : Value → World → Prop}
    (hK : ∀ v' w', Fr w w' v' n rows → K v' w') : bsl e n len z (partsFrom 0 xs).toArray w K := by
  have hlen : rows.length = len := by have := congrArg List.length hc; simp at this; omega
  have hf := fill_rows hn xs rows 0 (rep z (len * n)) hc hr (by rw [rep_size, hl, Nat.zero_add])
  simp only [Nat.zero_mul, List.take_zero, List.nil_append] at hf
  unfold bsl
  have hf' : Instr.fill (fun i => some (i * n, n)) (rep z (len * n)) (partsFrom 0 xs).toArray.toList = some rows.flatten.toArray := hf
  rw [hf']
  refine hK _ _ ⟨⟨[w.heap.size], .inr ⟨w.heap.size, rows, e, by rw [hlen], rfl, heap_new, hr, List.take_length, Nat.le_refl _⟩, by simp⟩, kp_alloc⟩
end Go.Q

/- Rows of a block written over and read; a row's cell turned; slices.Insert of one row. -/
set_option linter.unusedVariables false
set_option linter.unusedSimpArgs false
namespace Go.Q
variable {P : Program}
section
variable {w : World} {k : Nat} {F G : List (List Value)} {T : Nat}
theorem wr_rows {b i : Nat} (h : w.heap[b]? = some (.cells F.flatten.toArray T (0, 0))) (hF : ∀ x ∈ F, x.length = k) (hG : ∀ x ∈ G, x.length = k) (hi : i + G.length ≤ F.length) (hone : G.flatten.all one = true) {K : World → Prop} :
    wrN w ⟨b, i * k, none⟩ G.flatten.toArray K = K (setBlk w b (.cells (F.take i ++ G ++ F.drop (i + G.length)).flatten.toArray T)) := by
  rw [wrN_mk, h]
  simp only
  have h1 := flat_len hF
  have h2 := flat_len hG
  have h3 : i * k + G.flatten.length ≤ F.flatten.length := by rw [h1, h2, ← Nat.add_mul]; exact Nat.mul_le_mul_right _ hi
  rw [splice_list, flat_splice_many hF hG hi]
  apply propext
  constructor
  · rintro ⟨_, h⟩; exact h
  · intro hk
    refine ⟨⟨by simpa [-List.length_flatten] using h3, by rw [okFr0]; trivial, by rw [List.all_toArray]; exact hone⟩, hk⟩
end
theorem set_flat {k : Nat} : ∀ {F : List (List Value)} {i j : Nat} {v : Value}, (∀ x ∈ F, x.length = k) → (hi : i < F.length) → j < k → F.flatten.set (i * k + j) v = (F.set i (F[i].set j v)).flatten := by
  intro F
  induction F with
  | nil => intro i j v _ h; simp at h
  | cons x r ih =>
    intro i j v h hi hj
    have hx := h x (by simp)
    cases i with
    | zero =>
      simp only [List.flatten_cons, Nat.zero_mul, Nat.zero_add, List.set_cons_zero, List.getElem_cons_zero]
      rw [List.set_append_left _ _ (by omega)]
    | succ i =>
      simp only [List.flatten_cons, List.set_cons_succ, List.getElem_cons_succ]
      rw [List.set_append_right _ _ (by rw [hx, Nat.succ_mul]; omega)]
      rw [show (i + 1) * k + j - x.length = i * k + j by rw [hx, Nat.succ_mul]; omega]
      rw [ih (fun y hy => h y (by simp [hy])) (by simpa using hi) hj]
/-- a cell of a row is turned -/
theorem RowsAt.upd {w : World} {v : Value} {k : Nat} {rows : List (List Value)} {S : List Nat} (h : RowsAt w v k rows S) {i : Nat} (hi : i < rows.length) :
    ∃ bl, S = [bl] ∧ (∀ kd K, ia k v (.int kd i) K = K (.pointer (some ⟨bl, i * k, none⟩))) ∧ (∀ j (hj : j < rows[i].length) K, rd1 w ⟨bl, i * k + j, none⟩ K = K rows[i][j]) ∧
      ∀ j, j < k → ∀ y, one y = true → ∀ K : World → Prop, (∀ w', Kp S w w' → RowsAt w' v k (rows.set i (rows[i].set j y)) S → K w') → wr1 w ⟨bl, i * k + j, none⟩ y K := by
  have hrow := h.row (List.getElem_mem hi)
  obtain ⟨bl', T', c', hb', hh', hia', _, _, hat'⟩ := h.at hi
  rcases h with ⟨h1, h2, h3⟩ | ⟨bl, F, T, h1, h2, h3, h4, h5, h6⟩
  · rw [h2] at hi; cases hi
  · rw [h2] at hb'
    simp only [List.mem_singleton] at hb'
    subst hb'
    refine ⟨bl', h2, hia', fun j hj K => ?_, fun j hj y hy K hK => ?_⟩
    · have := hat' j (by omega)
      rw [List.getElem?_eq_getElem hj] at this
      rw [rd1_mk, hh']
      simp only [this]
    · have hiF : i < F.length := by omega
      have hfl := flat_len h4
      have hlt : i * k + j < F.flatten.length := by
        have : (i + 1) * k ≤ F.length * k := Nat.mul_le_mul_right _ hiF
        rw [Nat.succ_mul] at this
        omega
      have hrowF : F[i] = rows[i] := by
        have e : rows[i]? = F[i]? := by rw [← h5, List.getElem?_take_of_lt (by omega)]
        rw [List.getElem?_eq_getElem hi, List.getElem?_eq_getElem hiF] at e
        injection e with e
        exact e.symm
      rw [wr1_mk, h3]
      refine ⟨⟨by simpa [-List.length_flatten] using hlt, by rw [okFr0]; trivial⟩, ?_⟩
      have e : F.flatten.toArray.setIfInBounds (i * k + j) y = (F.set i (F[i].set j y)).flatten.toArray := by
        rw [← set_flat h4 hiF hj]; simp
      rw [e]
      refine hK _ ((Kp.refl _ _).setBlk (.inl (by rw [h2]; simp)) _) (.inr ⟨bl', F.set i (F[i].set j y), T, by rw [h1]; simp, h2, heap_self (live_of h3), fun x hx => ?_, ?_, by simpa using h6⟩)
      · rcases List.mem_or_eq_of_mem_set hx with hx | hx
        · exact h4 x hx
        · rw [hx, List.length_set]; exact h4 _ (List.getElem_mem hiF)
      · rw [List.length_set, List.take_set, h5, hrowF]
/-- the same of rows of things -/
theorem RowsAt.updM {α : Type} {f : α → List Value} {L : List α} {w : World} {v : Value} {k : Nat} {S : List Nat} (h : RowsAt w v k (L.map f) S) {i : Nat} (hi : i < L.length) :
    ∃ bl, S = [bl] ∧ (∀ K, ia k v (.int .i64 i) K = K (.pointer (some ⟨bl, i * k, none⟩))) ∧ (∀ j x, (f L[i])[j]? = some x → ∀ K, ld1 (.pointer (some ⟨bl, i * k + j, none⟩)) w K = K x) ∧
      ∀ j, j < k → ∀ y a, one y = true → f a = (f L[i]).set j y → ∀ K : World → Prop, (∀ w', Kp S w w' → RowsAt w' v k ((L.set i a).map f) S → K w') → st1 (.pointer (some ⟨bl, i * k + j, none⟩)) y w K := by
  have hi' : i < (L.map f).length := by simpa using hi
  obtain ⟨bl, h1, h2, h3, h4⟩ := h.upd hi'
  have e : (L.map f)[i] = f L[i] := by simp
  refine ⟨bl, h1, fun K => h2 .i64 K, fun j x hx K => ?_, fun j hj y a hy hf K hK => ?_⟩
  · obtain ⟨hj, hx⟩ := List.getElem?_eq_some_iff.1 hx
    rw [ld1_p, h3 j (by rw [e]; exact hj)]
    have : (L.map f)[i][j]'(by rw [e]; exact hj) = x := by rw [← hx]; congr 1
    rw [this]
  · rw [st1_p]
    refine ⟨hy, h4 j hj y hy K fun w' hk hr => hK w' hk ?_⟩
    rw [List.map_set, hf, ← e]
    exact hr
/-- the same, later -/
theorem RowsAt.updK {α : Type} {f : α → List Value} {L : List α} {w : World} {v : Value} {k : Nat} {S : List Nat} (h : RowsAt w v k (L.map f) S) {i : Nat} (hi : i < L.length) :
    ∃ bl, S = [bl] ∧ (∀ K, ia k v (.int .i64 i) K = K (.pointer (some ⟨bl, i * k, none⟩))) ∧ (∀ w1, Kp [] w w1 → ∀ j x, (f L[i])[j]? = some x → ∀ K, ld1 (.pointer (some ⟨bl, i * k + j, none⟩)) w1 K = K x) ∧
      ∀ w1, Kp [] w w1 → ∀ j, j < k → ∀ y a, one y = true → f a = (f L[i]).set j y → ∀ K : World → Prop, (∀ w', Kp S w1 w' → RowsAt w' v k ((L.set i a).map f) S → K w') → st1 (.pointer (some ⟨bl, i * k + j, none⟩)) y w1 K := by
  obtain ⟨bl, h1, h2, _, _⟩ := h.updM hi
  refine ⟨bl, h1, h2, fun w1 hk j x hx K => ?_, fun w1 hk j hj y a hy hf K hK => ?_⟩
  · obtain ⟨bl', g1, _, g3, _⟩ := (h.keep hk (by simp)).updM hi
    have : bl' = bl := by rw [h1] at g1; simpa using g1.symm
    subst this
    exact g3 j x hx K
  · obtain ⟨bl', g1, _, _, g4⟩ := (h.keep hk (by simp)).updM hi
    have : bl' = bl := by rw [h1] at g1; simpa using g1.symm
    subst this
    exact g4 j hj y a hy hf K hK
theorem rep_rows {k : Nat} {z : List Value} (hk : 0 < k) (hz : z.length = k) (n : Nat) : rep z.toArray (n * k) = (List.replicate n z).flatten.toArray := by
  apply Array.ext
  · simp [rep, hz]
  · intro i h1 h2
    have hi : i < n * k := by simpa [rep] using h1
    simp only [rep, Array.getElem_map, Array.getElem_range, List.size_toArray, hz]
    have hm : i % k < k := Nat.mod_lt _ hk
    have hd : i / k < n := (Nat.div_lt_iff_lt_mul hk).2 hi
    have hfl : ((List.replicate n z).flatten.drop ((i / k) * k)).take k = z := by
      rw [flat_get (k := k) (by intro x hx; rw [List.mem_replicate] at hx; rw [hx.2, hz]) (by simpa using hd)]
      simp
    have hidx : i / k * k + i % k = i := by rw [Nat.mul_comm]; exact Nat.div_add_mod i k
    have e2 := congrArg (fun l => l[i % k]?) hfl
    simp only [List.getElem?_take_of_lt hm, List.getElem?_drop, hidx] at e2
    have h2' : i < (List.replicate n z).flatten.length := by simpa using h2
    rw [List.getElem?_eq_getElem h2', List.getElem?_eq_getElem (by omega)] at e2
    injection e2 with e2
    rw [List.getElem_toArray, e2]
    simp [hz, hm]
end Go.Q

/- Maps whose keys are pairs of texts: what each operation does. -/
set_option linter.unusedVariables false
set_option linter.unusedSimpArgs false
namespace Go.Q
open Go
structure ME where
  a : List UInt8
  b : List UInt8
  v : Value
def keyV (a b : List UInt8) : Value := .agg #[.string (str a), .string (str b)]
def entsFrom : Nat → List ME → List MapEntry
  | _, [] => []
  | i, e :: r => ⟨keyV e.a e.b, e.v, i⟩ :: entsFrom (i + 1) r
/-- a map's entries, in the order in which they came -/
def MapIs (w : World) (n : Nat) (m : List ME) : Prop := w.heap[n]? = some (.map (entsFrom 0 m).toArray m.length)
/-- what is asked of the types of a map -/
structure MapT (P : Program) (T kt et : TypeId) (z : Value) : Prop where
  hm : P.underlying T = some (.map kt et)
  wide : (match P.underlying kt with | some (.array _ _) | some (.struct _) => true | _ => false) = true
  ck : ∀ e a b w, (Instr.checkKey e 10000 kt (keyV a b)).run P w = .ok () w
  eq : ∀ a b c d w, (Op.equal kt (keyV a b) (keyV c d)).run P w = .ok (decide (a = c ∧ b = d)) w
  zv : ∀ w, (zeroValue et).run P w = .ok z w
def findE (a b : List UInt8) : List ME → Nat → Option (Nat × Value)
  | [], _ => none
  | e :: r, i => if a = e.a ∧ b = e.b then some (i, e.v) else findE a b r (i + 1)
section
variable {P : Program} {T kt et : TypeId} {z : Value} {w : World} {n : Nat} {m : List ME} {a b : List UInt8}
theorem MapIs.keep {w' : World} {S : List Nat} (h : MapIs w n m) (hk : Kp S w w') (hn : n ∉ S) : MapIs w' n m := hk.get h hn
theorem asking (h : MapT P T kt et z) : ∀ (m : List ME) (i j : Nat), (Instr.findAsking kt (keyV a b) (entsFrom i m) j).run P w = .ok (findE a b m j) w := by
  intro m
  induction m with
  | nil => intro i j; rfl
  | cons e r ih =>
    intro i j
    simp only [entsFrom, Instr.findAsking, Sem.run_bind, h.eq, Result.andThen_ok, findE]
    by_cases hc : a = e.a ∧ b = e.b
    · simp [hc, Sem.run, pure]
    · simp [hc, ih]
theorem finding (h : MapT P T kt et z) : (Instr.findKey kt (keyV a b) (entsFrom 0 m)).run P w = .ok (findE a b m 0) w := by
  rw [run_findKey_eq w h.wide, asking h]
end
end Go.Q

/- Plain: operations as rows, and back. -/
set_option linter.unusedVariables false
set_option linter.unusedSimpArgs false
namespace Go.Q
structure OpV.Wf (o : OpV) : Prop where
  k0 : -9223372036854775808 ≤ o.k
  k1 : o.k < 9223372036854775808
  q0 : -9223372036854775808 ≤ o.q
  q1 : o.q < 9223372036854775808
  i0 : -9223372036854775808 ≤ o.id
  i1 : o.id < 9223372036854775808
  d0 : -9223372036854775808 ≤ o.due
  d1 : o.due < 9223372036854775808
end Go.Q

/- Plain: holds, movements and stocks as rows, and back. -/
set_option linter.unusedVariables false
set_option linter.unusedSimpArgs false
namespace Go.Q
structure HV where
  id : Int
  sku : List UInt8
  loc : List UInt8
  q : Int
  st : Int
  due : Int
  deriving DecidableEq
structure SV where
  sku : List UInt8
  loc : List UInt8
  hand : Int
  held : Int
  deriving DecidableEq
def v0 : V3 := ⟨0, 0, []⟩
end Go.Q

/- Plain: a ledger of stocks, holds and movements; what an operation makes of it. -/
set_option linter.unusedVariables false
set_option linter.unusedSimpArgs false
namespace Go.Q
def lexL (a b : List UInt8) : Bool := Op.bytesLess a b
theorem lexL_nil (a : List UInt8) : lexL a [] = false := by cases a <;> rfl
theorem lexL_cons (a b : UInt8) (x y : List UInt8) : lexL (a :: x) (b :: y) = (decide (a < b) || (a == b && lexL x y)) := rfl
theorem lexL_irrefl : ∀ a : List UInt8, lexL a a = false := by
  intro a
  induction a with
  | nil => rfl
  | cons a x ih => rw [lexL_cons, ih]; simp
theorem lexL_trans : ∀ {a b c : List UInt8}, lexL a b = true → lexL b c = true → lexL a c = true := by
  intro a
  induction a with
  | nil =>
    intro b c h1 h2
    cases c with
    | nil => rw [lexL_nil] at h2; cases h2
    | cons c z => rfl
  | cons a x ih =>
    intro b c h1 h2
    cases b with
    | nil => rw [lexL_nil] at h1; cases h1
    | cons b y =>
      cases c with
      | nil => rw [lexL_nil] at h2; cases h2
      | cons c z =>
        rw [lexL_cons] at h1 h2 ⊢
        simp only [Bool.or_eq_true, decide_eq_true_eq, Bool.and_eq_true, beq_iff_eq] at h1 h2 ⊢
        rcases h1 with h1 | ⟨rfl, h1⟩ <;> rcases h2 with h2 | ⟨rfl, h2⟩
        · exact .inl (UInt8.lt_trans h1 h2)
        · exact .inl h1
        · exact .inl h2
        · exact .inr ⟨rfl, ih h1 h2⟩
theorem lexL_tri : ∀ {a b : List UInt8}, lexL a b = false → lexL b a = false → a = b := by
  intro a
  induction a with
  | nil =>
    intro b h1 h2
    cases b with
    | nil => rfl
    | cons b y => cases h1
  | cons a x ih =>
    intro b h1 h2
    cases b with
    | nil => cases h2
    | cons b y =>
      rw [lexL_cons] at h1 h2
      simp only [Bool.or_eq_false_iff, decide_eq_false_iff_not, Bool.and_eq_false_iff, beq_eq_false_iff_ne] at h1 h2
      have hab : a = b := by
        have g1 := UInt8.not_lt.1 h1.1
        have g2 := UInt8.not_lt.1 h2.1
        exact UInt8.le_antisymm g2 g1
      subst hab
      have e1 : lexL x y = false := by
        rcases h1.2 with h | h
        · exact absurd rfl h
        · exact h
      have e2 : lexL y x = false := by
        rcases h2.2 with h | h
        · exact absurd rfl h
        · exact h
      rw [ih e1 e2]
/-! ### places -/
def ahead (a b : SV) : Bool := lexL a.sku b.sku || (decide (a.sku = b.sku) && lexL a.loc b.loc)
def atP (s : SV) (sku loc : List UInt8) : Bool := decide (s.sku = sku ∧ s.loc = loc)
theorem ahead_irrefl (a : SV) : ahead a a = false := by simp [ahead, lexL_irrefl]
theorem ahead_trans {a b c : SV} (h1 : ahead a b = true) (h2 : ahead b c = true) : ahead a c = true := by
  simp only [ahead, Bool.or_eq_true, Bool.and_eq_true, decide_eq_true_eq] at h1 h2 ⊢
  rcases h1 with h1 | ⟨e1, h1⟩ <;> rcases h2 with h2 | ⟨e2, h2⟩
  · exact .inl (lexL_trans h1 h2)
  · exact .inl (e2 ▸ h1)
  · exact .inl (e1 ▸ h2)
  · exact .inr ⟨e1.trans e2, lexL_trans h1 h2⟩
theorem ahead_tri {a b : SV} (h1 : ahead a b = false) (h2 : ahead b a = false) : a.sku = b.sku ∧ a.loc = b.loc := by
  simp only [ahead, Bool.or_eq_false_iff, Bool.and_eq_false_iff, decide_eq_false_iff_not] at h1 h2
  have e := lexL_tri h1.1 h2.1
  refine ⟨e, ?_⟩
  have g1 : lexL a.loc b.loc = false := by
    rcases h1.2 with h | h
    · exact absurd e h
    · exact h
  have g2 : lexL b.loc a.loc = false := by
    rcases h2.2 with h | h
    · exact absurd e.symm h
    · exact h
  exact lexL_tri g1 g2
/-- places matter, numbers do not -/
theorem ahead_key {a b a' b' : SV} (h1 : a.sku = a'.sku) (h2 : a.loc = a'.loc) (h3 : b.sku = b'.sku) (h4 : b.loc = b'.loc) : ahead a b = ahead a' b' := by simp only [ahead, h1, h2, h3, h4]
def Sorted (l : List SV) : Prop := l.Pairwise fun a b => ahead a b = true
/-! ### the ledger -/
structure LV where
  st : List SV
  ho : List HV
  mo : List HV
  ops : Int
  deriving DecidableEq
def fits (n : Int) : Bool := decide (-9223372036854775808 ≤ n ∧ n ≤ 9223372036854775807)
def findS (l : List SV) (sku loc : List UInt8) : SV := (l.find? fun s => atP s sku loc).getD ⟨sku, loc, 0, 0⟩
def putS : List SV → SV → List SV
  | [], s => [s]
  | x :: r, s => if ahead x s = true then x :: putS r s else if x.sku = s.sku ∧ x.loc = s.loc then s :: r else s :: x :: r
def w64i (n : Int) : Int := IntKind.i64.wrap n
def heldL (l : LV) (sku loc : List UInt8) (n : Int) : LV := { l with st := putS l.st { findS l.st sku loc with held := w64i ((findS l.st sku loc).held + n) } }
def fullL (l : LV) : Bool := decide (4096 < l.st.length ∨ 4096 < l.ho.length ∨ 4096 < l.mo.length)
/-! ### may a ledger be? -/
def activeQ (ho : List HV) (sku loc : List UInt8) : Int := (ho.map fun h => if h.sku = sku ∧ h.loc = loc ∧ h.st = 0 then h.q else 0).sum
def movedQ (mo : List HV) (sku loc : List UInt8) : Int := (mo.map fun m => if m.sku = sku ∧ m.loc = loc then m.q else 0).sum
def stockOk (l : LV) (s : SV) : Bool := nameOk s.sku && nameOk s.loc && decide (0 ≤ s.held ∧ s.held ≤ s.hand) && fits s.hand && decide (s.held = activeQ l.ho s.sku s.loc ∧ s.hand = movedQ l.mo s.sku s.loc)
def knownL (l : LV) (sku loc : List UInt8) : Bool := l.st.any fun s => atP s sku loc
def holdOk (l : LV) (k : Nat) (h : HV) : Bool :=
  decide (h.id = (k + 1 : Nat)) && nameOk h.sku && nameOk h.loc && decide (1 ≤ h.q ∧ 0 ≤ h.st ∧ h.st ≤ 2 ∧ 0 ≤ h.due) && (decide (h.st ≠ 0) || knownL l h.sku h.loc)
def moveOk (l : LV) (k : Nat) (m : HV) : Bool :=
  decide (m.id = (k + 1 : Nat)) && nameOk m.sku && nameOk m.loc && fits m.q && decide (m.q ≠ 0) && decide (m.st = 1 ∨ m.st = 3 ∨ m.st = 6 ∨ m.st = 7) && decide (0 ≤ m.due) && (decide (m.due ≠ 0) == decide (m.st = 3)) && knownL l m.sku m.loc
/-- a ledger that may be -/
structure May (l : LV) : Prop where
  ops : 0 ≤ l.ops
  few : fullL l = false
  sorted : Sorted l.st
  stocks : ∀ s ∈ l.st, stockOk l s = true
  holds : ∀ k (h : k < l.ho.length), holdOk l k l.ho[k] = true
  moves : ∀ k (h : k < l.mo.length), moveOk l k l.mo[k] = true
/-! ### finding and putting -/
theorem findS_key (l : List SV) (sku loc : List UInt8) : (findS l sku loc).sku = sku ∧ (findS l sku loc).loc = loc := by
  unfold findS
  cases h : l.find? fun s => atP s sku loc with
  | none => exact ⟨rfl, rfl⟩
  | some s =>
    have := List.find?_some h
    simpa [atP] using this
theorem putS_mem {l : List SV} {s x : SV} (h : x ∈ putS l s) : x = s ∨ (x ∈ l) := by
  induction l with
  | nil => simp [putS] at h; exact .inl h
  | cons y r ih =>
    unfold putS at h
    split at h
    · rcases List.mem_cons.1 h with rfl | h
      · exact .inr (by simp)
      · rcases ih h with h | h
        · exact .inl h
        · exact .inr (by simp [h])
    · split at h
      · rcases List.mem_cons.1 h with rfl | h
        · exact .inl rfl
        · exact .inr (by simp [h])
      · rcases List.mem_cons.1 h with rfl | h
        · exact .inl rfl
        · exact .inr h
theorem putS_self (l : List SV) (s : SV) : s ∈ putS l s := by
  induction l with
  | nil => simp [putS]
  | cons y r ih =>
    unfold putS
    split
    · simp [ih]
    · split <;> simp
/-- what stands elsewhere stays -/
theorem putS_keep {l : List SV} {s x : SV} (h : x ∈ l) (hk : ¬(x.sku = s.sku ∧ x.loc = s.loc)) : x ∈ putS l s := by
  induction l with
  | nil => cases h
  | cons y r ih =>
    unfold putS
    rcases List.mem_cons.1 h with rfl | h
    · split
      · simp
      · first | (rw [if_neg hk]; simp) | simp
    · split
      · simp [ih h]
      · split
        · simp [h]
        · simp [h]
theorem putS_sorted {l : List SV} {s : SV} (h : Sorted l) : Sorted (putS l s) := by
  induction l with
  | nil => simp [putS, Sorted]
  | cons y r ih =>
    have hr := List.pairwise_cons.1 h
    unfold putS
    split
    · rename_i hy
      refine List.pairwise_cons.2 ⟨fun x hx => ?_, ih hr.2⟩
      rcases putS_mem hx with rfl | hx
      · exact hy
      · exact hr.1 x hx
    · rename_i hy
      have hy : ahead y s = false := by simpa using hy
      split
      · rename_i hk
        refine List.pairwise_cons.2 ⟨fun x hx => ?_, hr.2⟩
        have := hr.1 x hx
        rwa [ahead_key (b' := x) hk.1 hk.2 rfl rfl] at this
      · rename_i hk
        have hsy : ahead s y = true := by
          cases hc : ahead s y with
          | true => rfl
          | false => exact absurd (ahead_tri hy hc) hk
        refine List.pairwise_cons.2 ⟨fun x hx => ?_, h⟩
        rcases List.mem_cons.1 hx with rfl | hx
        · exact hsy
        · exact ahead_trans hsy (hr.1 x hx)
/-- in a sorted list a place stands once -/
theorem sorted_uniq {l : List SV} (h : Sorted l) {a b : SV} (ha : a ∈ l) (hb : b ∈ l) (hk : a.sku = b.sku ∧ a.loc = b.loc) : a = b := by
  induction l with
  | nil => cases ha
  | cons y r ih =>
    have hr := List.pairwise_cons.1 h
    have ne : ∀ x ∈ r, ¬(y.sku = x.sku ∧ y.loc = x.loc) := fun x hx hk => by
      have := hr.1 x hx
      rw [ahead_key (a' := x) (b' := x) hk.1 hk.2 rfl rfl, ahead_irrefl] at this
      cases this
    rcases List.mem_cons.1 ha with rfl | ha <;> rcases List.mem_cons.1 hb with rfl | hb
    · rfl
    · exact absurd hk (ne b hb)
    · exact absurd ⟨hk.1.symm, hk.2.symm⟩ (ne a (by assumption))
    · exact ih hr.2 ha hb
theorem findS_of_mem {l : List SV} (h : Sorted l) {s : SV} (hs : s ∈ l) : findS l s.sku s.loc = s := by
  unfold findS
  cases hf : l.find? fun x => atP x s.sku s.loc with
  | none =>
    have := List.find?_eq_none.1 hf s hs
    simp [atP] at this
  | some x =>
    have h1 := List.mem_of_find?_eq_some hf
    have h2 := List.find?_some hf
    simp only [atP, decide_eq_true_eq] at h2
    exact sorted_uniq h h1 hs h2
theorem findS_none {l : List SV} {sku loc : List UInt8} (h : ∀ s ∈ l, ¬(s.sku = sku ∧ s.loc = loc)) : findS l sku loc = ⟨sku, loc, 0, 0⟩ := by
  unfold findS
  rw [List.find?_eq_none.2 (fun x hx => by simpa [atP] using h x hx)]
  rfl
theorem known_find {l : LV} {sku loc : List UInt8} : knownL l sku loc = true ↔ ∃ s ∈ l.st, s.sku = sku ∧ s.loc = loc := by simp [knownL, atP]
end Go.Q

/- Plain: a ledger that may be is one that may be behind each operation. -/
set_option linter.unusedVariables false
set_option linter.unusedSimpArgs false
namespace Go.Q
abbrev Pl := List UInt8 → List UInt8 → Int
/-- stocks that are as two sums say -/
structure MayF (st : List SV) (H M : Pl) : Prop where
  sorted : Sorted st
  ok : ∀ s ∈ st, nameOk s.sku = true ∧ nameOk s.loc = true ∧ fits s.hand = true ∧ 0 ≤ s.held ∧ s.held ≤ s.hand ∧ s.held = H s.sku s.loc ∧ s.hand = M s.sku s.loc
  none : ∀ sku loc, (∀ s ∈ st, ¬(s.sku = sku ∧ s.loc = loc)) → H sku loc = 0 ∧ M sku loc = 0
theorem MayF.find {st : List SV} {H M : Pl} (h : MayF st H M) (sku loc : List UInt8) :
    (findS st sku loc).held = H sku loc ∧ (findS st sku loc).hand = M sku loc ∧ 0 ≤ (findS st sku loc).held ∧ (findS st sku loc).held ≤ (findS st sku loc).hand ∧ fits (findS st sku loc).hand = true := by
  by_cases hx : ∃ s ∈ st, s.sku = sku ∧ s.loc = loc
  · obtain ⟨s, hs, rfl, rfl⟩ := hx
    rw [findS_of_mem h.sorted hs]
    obtain ⟨_, _, h1, h2, h3, h4, h5⟩ := h.ok s hs
    exact ⟨h4, h5, h2, h3, h1⟩
  · have hx' : ∀ s ∈ st, ¬(s.sku = sku ∧ s.loc = loc) := fun s hs hk => hx ⟨s, hs, hk⟩
    rw [findS_none hx']
    have := h.none sku loc hx'
    exact ⟨this.1.symm, this.2.symm, Int.le_refl _, Int.le_refl _, rfl⟩
def updP (H : Pl) (sku loc : List UInt8) (n : Int) : Pl := fun a b => if sku = a ∧ loc = b then n else H a b
theorem MayF.put {st : List SV} {H M : Pl} (h : MayF st H M) (s : SV) (h1 : nameOk s.sku = true) (h2 : nameOk s.loc = true) (h3 : fits s.hand = true) (h4 : 0 ≤ s.held) (h5 : s.held ≤ s.hand) :
    MayF (putS st s) (updP H s.sku s.loc s.held) (updP M s.sku s.loc s.hand) := by
  refine ⟨putS_sorted h.sorted, fun x hx => ?_, fun sku loc hn => ?_⟩
  · by_cases hk : s.sku = x.sku ∧ s.loc = x.loc
    · have : x = s := sorted_uniq (putS_sorted h.sorted) hx (putS_self st s) ⟨hk.1.symm, hk.2.symm⟩
      subst this
      exact ⟨h1, h2, h3, h4, h5, by simp [updP], by simp [updP]⟩
    · rcases putS_mem hx with rfl | hx
      · exact absurd ⟨rfl, rfl⟩ hk
      · obtain ⟨g1, g2, g3, g4, g5, g6, g7⟩ := h.ok x hx
        exact ⟨g1, g2, g3, g4, g5, by rw [updP, if_neg hk]; exact g6, by rw [updP, if_neg hk]; exact g7⟩
  · have hk : ¬(s.sku = sku ∧ s.loc = loc) := hn s (putS_self st s)
    have := h.none sku loc fun x hx hxk => hn x (putS_keep hx fun hh => hk ⟨hh.1.symm.trans hxk.1, hh.2.symm.trans hxk.2⟩) hxk
    exact ⟨by rw [updP, if_neg hk]; exact this.1, by rw [updP, if_neg hk]; exact this.2⟩
theorem MayF.congr {st : List SV} {H M H' M' : Pl} (h : MayF st H M) (hH : ∀ a b, H a b = H' a b) (hM : ∀ a b, M a b = M' a b) : MayF st H' M' := by
  have e1 : H = H' := funext fun a => funext fun b => hH a b
  have e2 : M = M' := funext fun a => funext fun b => hM a b
  exact e1 ▸ e2 ▸ h
theorem fits_iff {n : Int} : fits n = true ↔ -9223372036854775808 ≤ n ∧ n ≤ 9223372036854775807 := by simp [fits]
theorem w64i_eq {n : Int} (h : fits n = true) : w64i n = n := by
  have := fits_iff.1 h
  exact wrap64 _ (by omega) (by omega)
/-! ### sums -/
/-! ### a ledger that may be, in these words -/
theorem May.f {l : LV} (h : May l) : MayF l.st (activeQ l.ho) (movedQ l.mo) := by
  refine ⟨h.sorted, fun s hs => ?_, fun sku loc hn => ⟨?_, ?_⟩⟩
  · have := h.stocks s hs
    simp only [stockOk, Bool.and_eq_true, decide_eq_true_eq] at this
    obtain ⟨⟨⟨⟨h1, h2⟩, h3, h4⟩, h5⟩, h6, h7⟩ := this
    exact ⟨h1, h2, h5, h3, h4, h6, h7⟩
  · have : ∀ x ∈ l.ho, (if x.sku = sku ∧ x.loc = loc ∧ x.st = 0 then x.q else 0) = 0 := by
      intro x hx
      obtain ⟨k, hk, rfl⟩ := List.getElem_of_mem hx
      rw [if_neg]
      rintro ⟨h1, h2, h3⟩
      have := h.holds k hk
      simp only [holdOk, Bool.and_eq_true, Bool.or_eq_true, decide_eq_true_eq] at this
      rcases this.2 with h4 | h4
      · exact h4 h3
      · obtain ⟨s, hs, h5, h6⟩ := known_find.1 h4
        exact hn s hs ⟨h5.trans h1, h6.trans h2⟩
    unfold activeQ
    rw [List.map_congr_left this]
    generalize l.ho = z
    induction z with
    | nil => rfl
    | cons y r ih => simp at ih ⊢; exact ih
  · have : ∀ x ∈ l.mo, (if x.sku = sku ∧ x.loc = loc then x.q else 0) = 0 := by
      intro x hx
      obtain ⟨k, hk, rfl⟩ := List.getElem_of_mem hx
      rw [if_neg]
      rintro ⟨h1, h2⟩
      have := h.moves k hk
      simp only [moveOk, Bool.and_eq_true, decide_eq_true_eq] at this
      obtain ⟨s, hs, h5, h6⟩ := known_find.1 this.2
      exact hn s hs ⟨h5.trans h1, h6.trans h2⟩
    unfold movedQ
    rw [List.map_congr_left this]
    generalize l.mo = z
    induction z with
    | nil => rfl
    | cons y r ih => simp at ih ⊢; exact ih
/-- all but how many there are -/
structure Mst (l : LV) (H M : Pl) : Prop where
  f : MayF l.st H M
  holds : ∀ k (h : k < l.ho.length), holdOk l k l.ho[k] = true
  moves : ∀ k (h : k < l.mo.length), moveOk l k l.mo[k] = true
theorem May.m {l : LV} (h : May l) : Mst l (activeQ l.ho) (movedQ l.mo) := ⟨h.f, h.holds, h.moves⟩
theorem Mst.may {l : LV} (h : Mst l (activeQ l.ho) (movedQ l.mo)) (ho : 0 ≤ l.ops) (hf : fullL l = false) : May l := by
  refine ⟨ho, hf, h.f.sorted, fun s hs => ?_, h.holds, h.moves⟩
  obtain ⟨h1, h2, h3, h4, h5, h6, h7⟩ := h.f.ok s hs
  simp [stockOk, h1, h2, h3, h4, h5, ← h6, ← h7]
theorem known_put {l : LV} {s : SV} {sku loc : List UInt8} (h : knownL l sku loc = true) : knownL { l with st := putS l.st s } sku loc = true := by
  obtain ⟨x, hx, h1, h2⟩ := known_find.1 h
  by_cases hk : x.sku = s.sku ∧ x.loc = s.loc
  · exact known_find.2 ⟨s, putS_self _ _, hk.1.symm.trans h1, hk.2.symm.trans h2⟩
  · exact known_find.2 ⟨x, putS_keep hx hk, h1, h2⟩
theorem holdOk_put {l : LV} {s : SV} {k : Nat} {h : HV} (hh : holdOk l k h = true) : holdOk { l with st := putS l.st s } k h = true := by
  simp only [holdOk, Bool.and_eq_true, Bool.or_eq_true] at hh ⊢
  exact ⟨hh.1, hh.2.imp id known_put⟩
theorem moveOk_put {l : LV} {s : SV} {k : Nat} {h : HV} (hh : moveOk l k h = true) : moveOk { l with st := putS l.st s } k h = true := by
  simp only [moveOk, Bool.and_eq_true] at hh ⊢
  exact ⟨hh.1, known_put hh.2⟩
theorem Mst.put {l : LV} {H M : Pl} (h : Mst l H M) (s : SV) (h1 : nameOk s.sku = true) (h2 : nameOk s.loc = true) (h3 : fits s.hand = true) (h4 : 0 ≤ s.held) (h5 : s.held ≤ s.hand) :
    Mst { l with st := putS l.st s } (updP H s.sku s.loc s.held) (updP M s.sku s.loc s.hand) :=
  ⟨h.f.put s h1 h2 h3 h4 h5, fun k hk => holdOk_put (h.holds k hk), fun k hk => moveOk_put (h.moves k hk)⟩
theorem Mst.find_eq {l : LV} {H M : Pl} (h : Mst l H M) (sku loc : List UInt8) : findS l.st sku loc = ⟨sku, loc, M sku loc, H sku loc⟩ := by
  obtain ⟨g1, g2, _⟩ := h.f.find sku loc
  obtain ⟨k1, k2⟩ := findS_key l.st sku loc
  cases hs : findS l.st sku loc with
  | mk a b c d => rw [hs] at g1 g2 k1 k2; simp only at g1 g2 k1 k2; rw [g1, g2, k1, k2]
/-- so many more, or fewer, are held -/
theorem Mst.held {l : LV} {H M : Pl} (h : Mst l H M) {sku loc : List UInt8} (h1 : nameOk sku = true) (h2 : nameOk loc = true) {n : Int} (h4 : 0 ≤ H sku loc + n) (h5 : H sku loc + n ≤ M sku loc) :
    Mst (heldL l sku loc n) (updP H sku loc (H sku loc + n)) M ∧ heldL l sku loc n = { l with st := putS l.st ⟨sku, loc, M sku loc, H sku loc + n⟩ } := by
  obtain ⟨g1, g2, g3, g4, g5⟩ := h.f.find sku loc
  have g6 := fits_iff.1 g5
  rw [g2] at g5 g6
  have hw : w64i (H sku loc + n) = H sku loc + n := w64i_eq (fits_iff.2 (by omega))
  have e : heldL l sku loc n = { l with st := putS l.st ⟨sku, loc, M sku loc, H sku loc + n⟩ } := by
    unfold heldL
    rw [h.find_eq]
    simp only [hw]
  have := h.put ⟨sku, loc, M sku loc, H sku loc + n⟩ h1 h2 g5 h4 h5
  rw [e]
  refine ⟨⟨this.f.congr (fun _ _ => rfl) fun a b => ?_, this.holds, this.moves⟩, rfl⟩
  unfold updP
  split
  · rename_i hk; obtain ⟨rfl, rfl⟩ := hk; rfl
  · rfl
end Go.Q

/- Plain: each operation leaves a ledger that may be one that may be. -/
set_option linter.unusedVariables false
set_option linter.unusedSimpArgs false
namespace Go.Q
theorem Mst.congr {l : LV} {H M H' M' : Pl} (h : Mst l H M) (hH : ∀ a b, H a b = H' a b) (hM : ∀ a b, M a b = M' a b) : Mst l H' M' := ⟨h.f.congr hH hM, h.holds, h.moves⟩
end Go.Q

/- Maps from places to lists of numbers. -/
set_option linter.unusedVariables false
set_option linter.unusedSimpArgs false
namespace Go.Q
open Go
structure IE where
  a : List UInt8
  b : List UInt8
  ks : List Int
  v : Value
  S : List Nat
def IE.me (e : IE) : ME := ⟨e.a, e.b, e.v⟩
def blksI (R : List IE) : List Nat := (R.map (·.S)).flatten
structure IMap (wb w : World) (n : Nat) (R : List IE) : Prop where
  map : MapIs w n (R.map IE.me)
  rows : ∀ e ∈ R, RowsAt w e.v 1 (e.ks.map intV) e.S
  nd : (blksI R).Nodup
  new : ∀ x ∈ blksI R, wb.heap.size ≤ x
  old : n < wb.heap.size
  kp : Kp [n] wb w
section
variable {P : Program} {T kt et : TypeId} {z : Value} {wb w : World} {n : Nat} {R : List IE}
theorem IMap.keep {w' : World} (h : IMap wb w n R) (hk : Kp [] w w') : IMap wb w' n R :=
  ⟨h.map.keep hk (by simp), fun e he => (h.rows e he).keep hk (by simp), h.nd, h.new, h.old, h.kp.trans hk (by simp)⟩
end
/-- at each place of a list of stocks so many numbers -/
def Shape (R : List IE) (st : List SV) (f : List UInt8 → List UInt8 → List Int) : Prop := R.map (fun e => (e.a, e.b, e.ks)) = st.map fun s => (s.sku, s.loc, f s.sku s.loc)
theorem Shape.len {R : List IE} {st : List SV} {f : List UInt8 → List UInt8 → List Int} (h : Shape R st f) : R.length = st.length := by
  have := congrArg List.length h
  simpa using this
theorem Shape.at {R : List IE} {st : List SV} {f : List UInt8 → List UInt8 → List Int} (h : Shape R st f) {i : Nat} (hi : i < R.length) (hs : i < st.length) : R[i].a = st[i].sku ∧ R[i].b = st[i].loc ∧ R[i].ks = f st[i].sku st[i].loc := by
  have := congrArg (fun l => l[i]?) h
  simp only [List.getElem?_map, List.getElem?_eq_getElem hi, List.getElem?_eq_getElem hs, Option.map_some, Option.some.injEq, Prod.mk.injEq] at this
  exact this
theorem sorted_get {st : List SV} (h : Sorted st) {i j : Nat} (hi : i < st.length) (hj : j < st.length) (hne : i ≠ j) : ¬(st[i].sku = st[j].sku ∧ st[i].loc = st[j].loc) := by
  intro hk
  rcases Nat.lt_or_gt_of_ne hne with hlt | hlt
  · have := List.pairwise_iff_getElem.1 h i j hi hj hlt
    rw [ahead_key (a' := st[j]) (b' := st[j]) hk.1 hk.2 rfl rfl, ahead_irrefl] at this
    cases this
  · have := List.pairwise_iff_getElem.1 h j i hj hi hlt
    rw [ahead_key (a' := st[i]) (b' := st[i]) hk.1.symm hk.2.symm rfl rfl, ahead_irrefl] at this
    cases this
theorem Shape.uniq {R : List IE} {st : List SV} {f : List UInt8 → List UInt8 → List Int} (h : Shape R st f) (hs : Sorted st) {i j : Nat} (hi : i < R.length) (hj : j < R.length) (hne : i ≠ j) : ¬(R[i].a = R[j].a ∧ R[i].b = R[j].b) := by
  have hl := h.len
  obtain ⟨a1, b1, _⟩ := h.at hi (by omega)
  obtain ⟨a2, b2, _⟩ := h.at hj (by omega)
  rw [a1, b1, a2, b2]
  exact sorted_get hs _ _ hne
/-- a number more at one place -/
theorem Shape.add {R : List IE} {st : List SV} {f : List UInt8 → List UInt8 → List Int} (h : Shape R st f) (hs : Sorted st) {j : Nat} (hj : j < R.length) (q : Int) (v : Value) (S : List Nat) :
    Shape (R.set j { R[j] with ks := R[j].ks ++ [q], v := v, S := S }) st (fun x y => f x y ++ if R[j].a = x ∧ R[j].b = y then [q] else []) := by
  have hl := h.len
  unfold Shape
  apply List.ext_getElem?
  intro i
  simp only [List.getElem?_map]
  by_cases hi : i < st.length
  · have hiR : i < R.length := by omega
    obtain ⟨a1, b1, k1⟩ := h.at hiR hi
    rw [List.getElem?_eq_getElem hi, List.getElem?_eq_getElem (by simpa using hiR)]
    simp only [Option.map_some, Option.some.injEq, Prod.mk.injEq]
    by_cases hij : j = i
    · subst hij
      simp only [List.getElem_set_self]
      exact ⟨a1, b1, by rw [k1, if_pos ⟨a1, b1⟩]⟩
    · simp only [List.getElem_set_ne hij]
      refine ⟨a1, b1, ?_⟩
      rw [k1, if_neg]
      · simp
      · rintro ⟨e1, e2⟩
        exact h.uniq hs hj hiR hij ⟨e1.trans a1.symm, e2.trans b1.symm⟩
  · rw [List.getElem?_eq_none (by rw [List.length_set]; omega), List.getElem?_eq_none (by omega)]
    rfl
end Go.Q

/- A struct in a variable, of which some parts are slices of its own. -/
set_option linter.unusedVariables false
set_option linter.unusedSimpArgs false
namespace Go.Q
/-- a part of a struct is read -/
theorem ldF {w : World} {b j : Nat} {c : Array Value} {T : TypeId} {fr : Nat × Nat} {x : Value} (h : w.heap[b]? = some (.cells c T fr)) (hx : c[j]? = some x) {K : Value → Prop} : ld1 (.pointer (some ⟨b, j, none⟩)) w K = K x := by
  rw [ld1_p, rd1_mk, h]
  simp only [hx]
structure Cmp where
  v : Value
  k : Nat
  rows : List (List Value)
  S : List Nat
def blksC (cs : List Cmp) : List Nat := (cs.map (·.S)).flatten
structure BoxAt (w : World) (x : Nat) (T : Nat) (cs : List Cmp) (tl : List Value) : Prop where
  cell : w.heap[x]? = some (.cells (cs.map (·.v) ++ tl).toArray T)
  rows : ∀ i (h : i < cs.length), RowsAt w cs[i].v cs[i].k cs[i].rows cs[i].S
  nd : (x :: blksC cs).Nodup
section
variable {w w' : World} {x T : Nat} {cs : List Cmp} {tl : List Value}
theorem blksC_mem {i : Nat} (hi : i < cs.length) {q : Nat} (hq : q ∈ cs[i].S) : q ∈ blksC cs := List.mem_flatten.2 ⟨_, List.mem_map.2 ⟨_, List.getElem_mem hi, rfl⟩, hq⟩
theorem blksC_set {i : Nat} {c : Cmp} {q : Nat} (h : q ∈ blksC (cs.set i c)) : q ∈ c.S ∨ ∃ j, ∃ hj : j < cs.length, j ≠ i ∧ q ∈ cs[j].S := by
  obtain ⟨r, hr, hq⟩ := List.mem_flatten.1 h
  obtain ⟨d, hd, rfl⟩ := List.mem_map.1 hr
  obtain ⟨j, hj, rfl⟩ := List.getElem_of_mem hd
  simp only [List.length_set] at hj
  by_cases he : i = j
  · subst he
    rw [List.getElem_set_self] at hq
    exact .inl hq
  · rw [List.getElem_set_ne he] at hq
    exact .inr ⟨j, hj, fun h => he h.symm, hq⟩
theorem nodup_flat {L : List (List Nat)} : L.flatten.Nodup ↔ (∀ l ∈ L, l.Nodup) ∧ L.Pairwise fun a b => ∀ x ∈ a, ∀ y ∈ b, x ≠ y := List.pairwise_flatten
theorem BoxAt.apart (h : BoxAt w x T cs tl) {i j : Nat} (hi : i < cs.length) (hj : j < cs.length) (hne : i ≠ j) {q : Nat} (hq : q ∈ cs[i].S) : q ∉ cs[j].S := by
  have h1 := (List.nodup_cons.1 h.nd).2
  have h2 := (nodup_flat.1 h1).2
  rw [List.pairwise_map] at h2
  intro hq'
  rcases Nat.lt_or_gt_of_ne hne with hlt | hlt
  · exact (List.pairwise_iff_getElem.1 h2 i j hi hj hlt) q hq q hq' rfl
  · exact (List.pairwise_iff_getElem.1 h2 j i hj hi hlt) q hq' q hq rfl
theorem BoxAt.x_not (h : BoxAt w x T cs tl) {i : Nat} (hi : i < cs.length) : x ∉ cs[i].S := fun hq => (List.nodup_cons.1 h.nd).1 (blksC_mem hi hq)
theorem BoxAt.lt (h : BoxAt w x T cs tl) : ∀ q ∈ x :: blksC cs, q < w.heap.size := by
  intro q hq
  rcases List.mem_cons.1 hq with rfl | hq
  · exact lt_of_blk h.cell
  · obtain ⟨r, hr, hq⟩ := List.mem_flatten.1 hq
    obtain ⟨d, hd, rfl⟩ := List.mem_map.1 hr
    obtain ⟨j, hj, rfl⟩ := List.getElem_of_mem hd
    exact (h.rows j hj).lt q hq
theorem BoxAt.keepS {S : List Nat} (h : BoxAt w x T cs tl) (hk : Kp S w w') (hS : ∀ q ∈ x :: blksC cs, q ∉ S) : BoxAt w' x T cs tl :=
  ⟨hk.get h.cell (hS x (by simp)), fun i hi => (h.rows i hi).keep hk fun q hq => hS q (by simp [blksC_mem hi hq]), h.nd⟩
theorem BoxAt.keep (h : BoxAt w x T cs tl) (hk : Kp [] w w') : BoxAt w' x T cs tl := h.keepS hk (by simp)
theorem BoxAt.rd (h : BoxAt w x T cs tl) {i : Nat} (hi : i < cs.length) {w1 : World} (hk : Kp cs[i].S w w1) {K : Value → Prop} : ld1 (.pointer (some ⟨x, i, none⟩)) w1 K = K cs[i].v := by
  have hc : ((cs.map (·.v) ++ tl).toArray)[i]? = some cs[i].v := by
    rw [List.getElem?_toArray, List.getElem?_append_left (by simpa using hi)]; simp [hi]
  rw [ld1_p, rd1_mk, hk.get h.cell (h.x_not hi)]
  simp only [hc]
/-- a part is another one -/
theorem BoxAt.store (h : BoxAt w x T cs tl) {i : Nat} (hi : i < cs.length) {w1 : World} (hk : Kp cs[i].S w w1) {v' : Value} {rows' : List (List Value)} {S' : List Nat} (hr : RowsAt w1 v' cs[i].k rows' S') (hS : ∀ q ∈ S', q ∈ cs[i].S ∨ w.heap.size ≤ q) {K : World → Prop}
    (hK : ∀ w2, BoxAt w2 x T (cs.set i ⟨v', cs[i].k, rows', S'⟩) tl → Kp (x :: cs[i].S) w w2 → Kp [x] w1 w2 → (∀ q ∈ blksC (cs.set i ⟨v', cs[i].k, rows', S'⟩), q ∈ blksC cs ∨ w.heap.size ≤ q) → K w2) : st1 (.pointer (some ⟨x, i, none⟩)) v' w1 K := by
  have hlt := h.lt
  have g1 := hk.get h.cell (h.x_not hi)
  have l1 := live_of g1
  have hone : one v' = true := by obtain ⟨a, c, hv, _⟩ := hr.len; rw [hv]; rfl
  have k1 : ∀ o, Kp [x] w1 (setBlk w1 x o) := fun o => (Kp.refl _ _).setBlk (.inl (by simp)) o
  have k2 : ∀ o, Kp (x :: cs[i].S) w (setBlk w1 x o) := fun o => (hk.mono (fun q hq _ => by simp [hq])).setBlk (.inl (by simp)) o
  have hx' : x ∉ S' := fun hh => by
    rcases hS x hh with hh | hh
    · exact h.x_not hi hh
    · have := hlt x (by simp); omega
  have hnot : ∀ j (hj : j < cs.length), j ≠ i → ∀ q ∈ cs[j].S, q ∉ x :: cs[i].S := fun j hj hne q hq hh => by
    rcases List.mem_cons.1 hh with rfl | hh
    · exact h.x_not hj hq
    · exact h.apart hj hi hne hq hh
  have hdis : ∀ j (hj : j < cs.length), j ≠ i → ∀ q ∈ cs[j].S, q ∉ S' := fun j hj hne q hq hh => by
    rcases hS q hh with hh | hh
    · exact h.apart hj hi hne hq hh
    · have := hlt q (by simp [blksC_mem hj hq]); omega
  have hin : ∀ q ∈ blksC (cs.set i ⟨v', cs[i].k, rows', S'⟩), q ∈ S' ∨ q ∈ blksC cs := fun q hq => by
    rcases blksC_set hq with hq | ⟨j, hj, _, hq⟩
    · exact .inl hq
    · exact .inr (blksC_mem hj hq)
  rw [st1_p, wr1_mk, g1]
  refine ⟨hone, ⟨by simp; omega, by rw [okFr0]; trivial⟩, ?_⟩
  have hc : (cs.map (·.v) ++ tl).toArray.setIfInBounds i v' = ((cs.set i ⟨v', cs[i].k, rows', S'⟩).map (·.v) ++ tl).toArray := by
    rw [List.map_set]
    simp [List.set_append_left, hi]
  rw [hc]
  refine hK _ ⟨heap_self l1, fun j hj => ?_, ?_⟩ (k2 _) (k1 _) fun q hq => ?_
  · simp only [List.length_set] at hj
    by_cases he : i = j
    · subst he; rw [List.getElem_set_self]; exact hr.keep (k1 _) fun q hq => by simp; intro e; exact hx' (e ▸ hq)
    · rw [List.getElem_set_ne he]
      exact (h.rows j hj).keep (k2 _) fun q hq => hnot j hj (fun e => he e.symm) q hq
  · refine List.nodup_cons.2 ⟨fun hq => ?_, ?_⟩
    · rcases hin x hq with hq | hq
      · exact hx' hq
      · exact (List.nodup_cons.1 h.nd).1 hq
    · have h1 := (List.nodup_cons.1 h.nd).2
      obtain ⟨h2, h3⟩ := nodup_flat.1 h1
      refine nodup_flat.2 ⟨fun r hr' => ?_, ?_⟩
      · obtain ⟨d, hd, rfl⟩ := List.mem_map.1 hr'
        rcases List.mem_or_eq_of_mem_set hd with hd | rfl
        · exact h2 _ (List.mem_map.2 ⟨d, hd, rfl⟩)
        · exact hr.nodup
      · rw [List.pairwise_map] at h3 ⊢
        rw [List.pairwise_iff_getElem] at h3 ⊢
        intro a b ha hb hab
        simp only [List.length_set] at ha hb
        by_cases ea : i = a
        · subst ea
          rw [List.getElem_set_self, List.getElem_set_ne (by omega)]
          exact fun q hq q' hq' he => hdis b hb (by omega) q (he ▸ hq') hq
        · by_cases eb : i = b
          · subst eb
            rw [List.getElem_set_self, List.getElem_set_ne ea]
            exact fun q hq q' hq' he => hdis a ha (by omega) q hq (he ▸ hq')
          · rw [List.getElem_set_ne ea, List.getElem_set_ne eb]
            exact h3 a b ha hb hab
  · rcases hin q hq with hq | hq
    · rcases hS q hq with hq | hq
      · exact .inl (blksC_mem hi hq)
      · exact .inr hq
    · exact .inl hq
end
end Go.Q

/- '==' of structs whose fields are numbers, texts, bools, and structs of such: one Bool. -/
set_option linter.unusedVariables false
set_option linter.unusedSimpArgs false
namespace Go.Q
def flatA (P : Program) (T : TypeId) (xs ys : List Value) : Bool :=
  match P.underlying T with
  | some (.struct fs) => !P.stoodInHeld T && flatF P fs.toList xs ys 0 && Nat.beq fs.size xs.length && Nat.beq fs.size ys.length
  | _ => false
def nestF (P : Program) : List Field → List Value → List Value → Nat → Bool
  | [], xas, xbs, _ => Nat.beq xas.length 0 && Nat.beq xbs.length 0
  | f :: fs, xas, xbs, i => !(f.name == "_") && Nat.beq f.offset i &&
    (match aggO P f.type with
    | some false => (match xas, xbs with
      | a :: xas, b :: xbs => eqK (P.underlying f.type) a b && nestF P fs xas xbs (i + 1)
      | _, _ => false)
    | some true => (match szO P f.type with
      | some m => flatA P f.type (xas.take m) (xbs.take m) && Nat.ble m xas.length && Nat.ble m xbs.length && nestF P fs (xas.drop m) (xbs.drop m) (i + m)
      | none => false)
    | none => false)
def nestEq (P : Program) (T : TypeId) (xs ys : List Value) : Bool :=
  match P.underlying T with
  | some (.struct fs) => !P.stoodInHeld T && !P.eqGuardType P.depth T && nestF P fs.toList xs ys 0
  | _ => false
variable {P : Program}
theorem eqC_app : ∀ {a b : List Value} (c d : List Value), a.length = b.length → eqC (a ++ c) (b ++ d) = (eqC a b && eqC c d) := by
  intro a
  induction a with
  | nil => intro b c d h; have : b = [] := List.length_eq_zero_iff.1 h.symm; subst this; simp
  | cons x a ih =>
    intro b c d h
    cases b with
    | nil => simp at h
    | cons y b =>
      simp only [List.cons_append, eqC_cons, ih c d (by simpa using h), Bool.and_assoc]
theorem flatA_run {d : Nat} {T : TypeId} {xs ys : Array Value} {w : World} (h : flatA P T xs.toList ys.toList = true) : (Op.equalIn (d + 2) T (.agg xs) (.agg ys)).run P w = .ok (eqC xs.toList ys.toList) w ∧ xs.size = ys.size := by
  unfold flatA at h
  split at h
  · rename_i fs hu
    simp only [Bool.and_eq_true, Bool.not_eq_true'] at h
    obtain ⟨⟨⟨h1, h3⟩, h4⟩, h5⟩ := h
    have h4 := Nat.eq_of_beq_eq_true h4
    have h5 := Nat.eq_of_beq_eq_true h5
    have hf : P.fieldsOf T = fs := by simp [Program.fieldsOf, hu]
    have hr := flat_run (d := d) (xs := xs) (ys := ys) (w := w) fs.toList xs.toList ys.toList 0 h3 rfl rfl (by simpa using h4.symm) (by simpa using h5.symm)
    refine ⟨?_, by simp only [Array.length_toList] at h4 h5; omega⟩
    rw [run_equalIn_agg w (d + 1) T xs ys (by rw [hf]; exact hu) h1, hf]
    exact hr
  · cases h
theorem nest_run {d : Nat} {xs ys : Array Value} {w : World} : ∀ (fs : List Field) (aas bbs : List Value) (i : Nat), nestF P fs aas bbs i = true → xs.toList.drop i = aas → ys.toList.drop i = bbs →
    (Op.eqFields (d + 2) xs ys fs).run P w = .ok (eqC aas bbs) w := by
  intro fs
  induction fs with
  | nil =>
    intro aas bbs i h h1 h2
    simp only [nestF, Bool.and_eq_true] at h
    have ha : aas = [] := List.length_eq_zero_iff.1 (Nat.eq_of_beq_eq_true h.1)
    have hb : bbs = [] := List.length_eq_zero_iff.1 (Nat.eq_of_beq_eq_true h.2)
    rw [ha, hb]
    simp [Op.eqFields]
  | cons f fs ih =>
    intro aas bbs i h h1 h2
    simp only [nestF, Bool.and_eq_true, Bool.not_eq_true'] at h
    obtain ⟨⟨g1, g2⟩, g3⟩ := h
    have hn : f.name ≠ "_" := by simpa using g1
    have ho : f.offset = i := Nat.eq_of_beq_eq_true g2
    split at g3
    · rename_i ha
      split at g3
      · rename_i a aas b bbs
        simp only [Bool.and_eq_true] at g3
        have hx : xs[i]? = some a := by rw [← Array.getElem?_toList, ← List.head?_drop, h1]; rfl
        have hy : ys[i]? = some b := by rw [← Array.getElem?_toList, ← List.head?_drop, h2]; rfl
        have p1 : (part f.type xs f.offset).run P w = .ok a w := by rw [ho]; simp [part, aggO_run ha, hx, pure, Sem.run]
        have p2 : (part f.type ys f.offset).run P w = .ok b w := by rw [ho]; simp [part, aggO_run ha, hy, pure, Sem.run]
        have hr := ih aas bbs (i + 1) g3.2 (by rw [← List.drop_drop, h1]; rfl) (by rw [← List.drop_drop, h2]; rfl)
        rw [Op.eqFields]
        simp only [if_pos hn, Sem.run_bind, p1, p2, eqV_run g3.1, Result.andThen_ok]
        cases hv : eqV a b
        · simp [hv]
        · simp [hv]; exact hr
      · cases g3
    · rename_i ha
      split at g3
      · rename_i m hm
        simp only [Bool.and_eq_true] at g3
        obtain ⟨⟨⟨g4, g5⟩, g6⟩, g7⟩ := g3
        have g5 := Nat.le_of_ble_eq_true g5
        have g6 := Nat.le_of_ble_eq_true g6
        have hx : (xs.extract i (i + m)).toList = aas.take m := by rw [← h1]; simp [List.take_drop]
        have hy : (ys.extract i (i + m)).toList = bbs.take m := by rw [← h2]; simp [List.take_drop]
        have p1 : (part f.type xs f.offset).run P w = .ok (.agg (xs.extract i (i + m))) w := by rw [ho]; simp [part, aggO_run ha, szO_some hm, pure, Sem.run]
        have p2 : (part f.type ys f.offset).run P w = .ok (.agg (ys.extract i (i + m))) w := by rw [ho]; simp [part, aggO_run ha, szO_some hm, pure, Sem.run]
        obtain ⟨q1, _⟩ := flatA_run (d := d) (xs := xs.extract i (i + m)) (ys := ys.extract i (i + m)) (w := w) (T := f.type) (by rw [hx, hy]; exact g4)
        rw [hx, hy] at q1
        have hr := ih (aas.drop m) (bbs.drop m) (i + m) g7 (by rw [← List.drop_drop, h1]) (by rw [← List.drop_drop, h2])
        have he : eqC aas bbs = (eqC (aas.take m) (bbs.take m) && eqC (aas.drop m) (bbs.drop m)) := by
          have := eqC_app (a := aas.take m) (b := bbs.take m) (aas.drop m) (bbs.drop m) (by simp; omega)
          rw [List.take_append_drop, List.take_append_drop] at this
          exact this
        rw [Op.eqFields, he]
        simp only [if_pos hn, Sem.run_bind, p1, p2, q1, Result.andThen_ok]
        cases hv : eqC (aas.take m) (bbs.take m)
        · simp [hv]
        · simp [hv]; exact hr
      · cases g3
    · cases g3
theorem run_nest {T : TypeId} {xs ys : Array Value} {xo yo : Operand} {w : World} (h : nestEq P T xs.toList ys.toList = true) :
    (bq .eql T xo yo (.agg xs) (.agg ys)).run P w = .ok (.bool (eqC xs.toList ys.toList)) w ∧ (bq .neq T xo yo (.agg xs) (.agg ys)).run P w = .ok (.bool !eqC xs.toList ys.toList) w := by
  unfold nestEq at h
  split at h
  · rename_i fs hu
    simp only [Bool.and_eq_true, Bool.not_eq_true'] at h
    obtain ⟨⟨h1, h2⟩, h3⟩ := h
    have hf : P.fieldsOf T = fs := by simp [Program.fieldsOf, hu]
    have hr := nest_run (d := 9997) (xs := xs) (ys := ys) (w := w) fs.toList xs.toList ys.toList 0 h3 rfl rfl
    have he : (Op.equalIn 10000 T (.agg xs) (.agg ys)).run P w = .ok (eqC xs.toList ys.toList) w := by
      rw [run_equalIn_agg w 9999 T xs ys (by rw [hf]; exact hu) h1, hf]
      exact hr
    constructor
    · unfold bq
      rw [Sem.run_bind, run_eqGuard_agg w _ _ _ _ _ _ h2]
      simp only [Result.andThen_ok]
      rw [run_eql_struct, he]; rfl
    · unfold bq
      rw [Sem.run_bind, run_eqGuard_agg w _ _ _ _ _ _ h2]
      simp only [Result.andThen_ok]
      rw [run_neq_struct, he]; rfl
  · cases h
theorem bq_nesteql {T : TypeId} {xs ys : List Value} {xo yo : Operand} {w : World} {K : Value → Prop} (h : nestEq P T xs ys = true) : qG P (bq .eql T xo yo (.agg xs.toArray) (.agg ys.toArray)) w K = K (.bool (eqC xs ys)) := qG_of (run_nest h).1
end Go.Q

