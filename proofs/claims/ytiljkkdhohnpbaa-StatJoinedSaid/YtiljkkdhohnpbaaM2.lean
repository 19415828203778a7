/- Part of the proof (M2): an engine, rules or contracts of the functions; it states nothing of the claim by itself. -/
import Derived.Test.YtiljkkdhohnpbaaM1

set_option linter.unusedVariables false
set_option linter.unusedSimpArgs false
namespace Go.Proofs
open Go Go.Q
set_option maxRecDepth 100000
/-! quayside/stat.column -/
def stat_column_s0 (R : Value → World → Prop) (x4 x5 : Value) (w : World) : Prop :=
  ldn 3 x5 w fun t71 =>
  stn 3 x4 t71 w fun w =>
  qG Try.prog (do loadVar 32 (← asAddr x4)) w fun r4 =>
  R r4 w
theorem stat_column_s0_eq (R : Value → World → Prop) : ∀ e w, lift Try.prog 72 (sub (bodyOf Try.f22) [1, 1, 1, 1, 1, 1, 1, 1]) (finK Try.prog Try.f22.results.toList R) e w = stat_column_s0 R (e 4) (e 5) w := fun e w => by kernel_rfl
def stat_column_b1 (R : Value → World → Prop) (N1 : List Value → World → Prop) (x4 x5 x6 x53 : Value) (w : World) : Prop :=
  qG Try.prog (bq .lss 3 (.tmp 53) (.const (.int .i64 9)) x53 (.int .i64 9)) w fun t54 =>
  bV t54
  (fa 2 x5 fun t56 =>
  ld1 t56 (World.drew w) fun t57 =>
  lenL x6 fun t61 =>
  qG Try.prog (bq .sub 3 (.tmp 61) (.const (.int .i64 1)) t61 (.int .i64 1)) (World.drew w) fun t62 =>
  qG Try.prog (bq .mul 3 (.tmp 59) (.tmp 62) x53 t62) (World.drew w) fun t63 =>
  qG Try.prog (bq .quo 3 (.tmp 63) (.const (.int .i64 8)) t63 (.int .i64 8)) (World.drew w) fun t64 =>
  ia 3 x6 t64 fun t65 =>
  ldn 3 t65 (World.drew w) fun t66 =>
  bsl 35 3 1 (zc Try.prog 35) #[(0, t66)] (World.drew w) fun t67 w =>
  ld1 t56 w (fun u => u = t57) ∧
  app 35 3 32 (zc Try.prog 35) t57 t67 w fun t68 w =>
  fa 2 x5 fun t69 =>
  st1 t69 t68 w fun w =>
  qG Try.prog (bq .add 3 (.tmp 53) (.const (.int .i64 1)) x53 (.int .i64 1)) w fun t70 =>
  N1 [x4, x5, x6, t70] w)
  (stat_column_s0 R x4 x5 w)
theorem stat_column_b1_eq (R : Value → World → Prop) (N1 : List Value → World → Prop) : ∀ e w, lift Try.prog 72 (sub (bodyOf Try.f22) [1, 1, 1, 1, 1, 1, 1, 0, 1, 0, 0]) (seqK (fun e w => N1 [e 4, e 5, e 6, e 53] w) (blockK 2 (seqK (fun e w => stat_column_s0 R (e 4) (e 5) w) (finK Try.prog Try.f22.results.toList R)))) e w = stat_column_b1 R N1 (e 4) (e 5) (e 6) (e 53) w := fun e w => by kernel_rfl
def stat_column_L2F (R : Value → World → Prop) (N1 : List Value → World → Prop) (xs : List Value) (w : World) : Prop :=
  match xs with
  | [x4, x5, x6, x53] => stat_column_b1 R N1 x4 x5 x6 x53 w
  | _ => False
def stat_column_L2 (R : Value → World → Prop) (x4 x5 x6 x53 : Value) (w : World) : Prop :=
  ∃ m, loopV (stat_column_L2F R) m [x4, x5, x6, x53] w
theorem stat_column_L2_eq (R : Value → World → Prop) : ∀ e w, lift Try.prog 72 (sub (bodyOf Try.f22) [1, 1, 1, 1, 1, 1, 1, 0, 1, 0]) (blockK 2 (seqK (fun e w => stat_column_s0 R (e 4) (e 5) w) (finK Try.prog Try.f22.results.toList R))) e w = stat_column_L2 R (e 4) (e 5) (e 6) (e 53) w := loop_seg (F := stat_column_L2F R) (sel := fun e => [e 4, e 5, e 6, e 53]) fun N1 => (stat_column_b1_eq R N1)
def stat_column_s3 (R : Value → World → Prop) (x4 x5 x6 : Value) (w : World) : Prop :=
  stat_column_L2 R x4 x5 x6 (.int .i64 0) w
theorem stat_column_s3_eq (R : Value → World → Prop) : ∀ e w, lift Try.prog 72 (sub (bodyOf Try.f22) [1, 1, 1, 1, 1, 1, 1, 0]) (seqK (fun e w => stat_column_s0 R (e 4) (e 5) w) (finK Try.prog Try.f22.results.toList R)) e w = stat_column_s3 R (e 4) (e 5) (e 6) w :=
  segs_eq (l := [(sub (bodyOf Try.f22) [1, 1, 1, 1, 1, 1, 1, 0, 0])]) (y := (sub (bodyOf Try.f22) [1, 1, 1, 1, 1, 1, 1, 0, 1])) (Y := (fun e w => stat_column_L2 R (e 4) (e 5) (e 6) (e 53) w)) (stat_column_L2_eq R) (fun e w => by kernel_rfl)
def stat_column_s4 (R : Value → World → Prop) (x4 x5 x6 : Value) (w : World) : Prop :=
  callG Try.prog 34 #[x6, (.func (.func 25) #[] #[])] w fun t41 w =>
  callG Try.prog 36 #[x6] w fun t43 w =>
  callG Try.prog 35 #[t43] w fun t44 w =>
  lenL t44 fun t45 =>
  fa 1 x5 fun t46 =>
  st1 t46 t45 w fun w =>
  lenL x6 fun t48 =>
  qG Try.prog (bq .leq 3 (.tmp 48) (.const (.int .i64 9)) t48 (.int .i64 9)) w fun t49 =>
  bV t49
  (fa 2 x5 fun t51 =>
  st1 t51 x6 w fun w =>
  ldn 3 x5 w fun t52 =>
  stn 3 x4 t52 w fun w =>
  qG Try.prog (do loadVar 32 (← asAddr x4)) w fun r4 =>
  R r4 w)
  (stat_column_s3 R x4 x5 x6 w)
theorem stat_column_s4_eq (R : Value → World → Prop) : ∀ e w, lift Try.prog 72 (sub (bodyOf Try.f22) [1, 1, 1, 1]) (finK Try.prog Try.f22.results.toList R) e w = stat_column_s4 R (e 4) (e 5) (e 6) w :=
  segs_eq (l := [(sub (bodyOf Try.f22) [1, 1, 1, 1, 0]), (sub (bodyOf Try.f22) [1, 1, 1, 1, 1, 0]), (sub (bodyOf Try.f22) [1, 1, 1, 1, 1, 1, 0])]) (y := (sub (bodyOf Try.f22) [1, 1, 1, 1, 1, 1, 1])) (Y := (fun e w => stat_column_s3 R (e 4) (e 5) (e 6) w)) (seq_seg (x := (sub (bodyOf Try.f22) [1, 1, 1, 1, 1, 1, 1, 0])) (y := (sub (bodyOf Try.f22) [1, 1, 1, 1, 1, 1, 1, 1])) (stat_column_s0_eq R) (stat_column_s3_eq R)) (fun e w => by kernel_rfl)
def stat_column_s5 (R : Value → World → Prop) (N1 : List Value → World → Prop) (x0 x4 x5 x6 x10 x11 x12 : Value) (w : World) : Prop :=
  qG Try.prog (bq .add 3 (.tmp 12) (.const (.int .i64 1)) x12 (.int .i64 1)) w fun t39 =>
  N1 [x0, x4, x5, x6, x10, x11, t39] w
theorem stat_column_s5_eq (R : Value → World → Prop) (N1 : List Value → World → Prop) : ∀ e w, lift Try.prog 72 (sub (bodyOf Try.f22) [1, 1, 1, 0, 1, 0, 0, 1, 1, 1]) (seqK (fun e w => N1 [e 0, e 4, e 5, e 6, e 10, e 11, e 12] w) (blockK 0 (seqK (fun e w => stat_column_s4 R (e 4) (e 5) (e 6) w) (finK Try.prog Try.f22.results.toList R)))) e w = stat_column_s5 R N1 (e 0) (e 4) (e 5) (e 6) (e 10) (e 11) (e 12) w := fun e w => by kernel_rfl
def stat_column_s6 (R : Value → World → Prop) (N1 : List Value → World → Prop) (x0 x4 x5 x6 x8 x10 x11 x12 x27 : Value) (w : World) : Prop :=
  bV x27
  (fa 0 x5 fun t28 =>
  ld1 t28 w fun t29 =>
  qG Try.prog (bq .add 3 (.tmp 29) (.const (.int .i64 1)) t29 (.int .i64 1)) w fun t30 =>
  fa 0 x5 fun t31 =>
  st1 t31 t30 w fun w =>
  stat_column_s5 R N1 x0 x4 x5 x6 x10 x11 x12 w)
  (ia 3 x8 x0 fun t35 =>
  ldn 3 t35 w fun t36 =>
  bsl 35 3 1 (zc Try.prog 35) #[(0, t36)] w fun t37 w =>
  app 35 3 32 (zc Try.prog 35) x6 t37 w fun t38 w =>
  stat_column_s5 R N1 x0 x4 x5 t38 x10 x11 x12 w)
theorem stat_column_s6_eq (R : Value → World → Prop) (N1 : List Value → World → Prop) : ∀ e w, lift Try.prog 72 (sub (bodyOf Try.f22) [1, 1, 1, 0, 1, 0, 0, 1, 1, 0, 0, 1, 1]) (blockK 1 (seqK (fun e w => stat_column_s5 R N1 (e 0) (e 4) (e 5) (e 6) (e 10) (e 11) (e 12) w) (seqK (fun e w => N1 [e 0, e 4, e 5, e 6, e 10, e 11, e 12] w) (blockK 0 (seqK (fun e w => stat_column_s4 R (e 4) (e 5) (e 6) w) (finK Try.prog Try.f22.results.toList R)))))) e w = stat_column_s6 R N1 (e 0) (e 4) (e 5) (e 6) (e 8) (e 10) (e 11) (e 12) (e 27) w := fun e w => by kernel_rfl
def stat_column_s7 (R : Value → World → Prop) (N1 : List Value → World → Prop) (x0 x4 x5 x6 x10 x11 x12 : Value) (w : World) : Prop :=
  ia 1 x10 x12 fun t14 =>
  ld1 t14 w fun t15 =>
  lenL t15 fun t18 =>
  qG Try.prog (bq .geq 3 (.tmp 16) (.tmp 18) x0 t18) w fun t19 =>
  bV t19
  (stat_column_s6 R N1 x0 x4 x5 x6 t15 x10 x11 x12 (.bool true) w)
  (ia 3 t15 x0 fun t23 =>
  fa 0 t23 fun t24 =>
  ld1 t24 w fun t25 =>
  qG Try.prog (bq .eql 3 (.tmp 25) (.const (.int .i64 0)) t25 (.int .i64 0)) w fun t26 =>
  stat_column_s6 R N1 x0 x4 x5 x6 t15 x10 x11 x12 t26 w)
theorem stat_column_s7_eq (R : Value → World → Prop) (N1 : List Value → World → Prop) : ∀ e w, lift Try.prog 72 (sub (bodyOf Try.f22) [1, 1, 1, 0, 1, 0, 0, 1, 1, 0, 0]) (blockK 1 (seqK (fun e w => stat_column_s5 R N1 (e 0) (e 4) (e 5) (e 6) (e 10) (e 11) (e 12) w) (seqK (fun e w => N1 [e 0, e 4, e 5, e 6, e 10, e 11, e 12] w) (blockK 0 (seqK (fun e w => stat_column_s4 R (e 4) (e 5) (e 6) w) (finK Try.prog Try.f22.results.toList R)))))) e w = stat_column_s7 R N1 (e 0) (e 4) (e 5) (e 6) (e 10) (e 11) (e 12) w :=
  segs_eq (l := [(sub (bodyOf Try.f22) [1, 1, 1, 0, 1, 0, 0, 1, 1, 0, 0, 0]), (sub (bodyOf Try.f22) [1, 1, 1, 0, 1, 0, 0, 1, 1, 0, 0, 1, 0])]) (y := (sub (bodyOf Try.f22) [1, 1, 1, 0, 1, 0, 0, 1, 1, 0, 0, 1, 1])) (Y := (fun e w => stat_column_s6 R N1 (e 0) (e 4) (e 5) (e 6) (e 8) (e 10) (e 11) (e 12) (e 27) w)) (stat_column_s6_eq R N1) (fun e w => by kernel_rfl)
def stat_column_s8 (R : Value → World → Prop) (N1 : List Value → World → Prop) (x0 x4 x5 x6 x10 x11 x12 : Value) (w : World) : Prop :=
  qG Try.prog (bq .lss 3 (.tmp 12) (.tmp 11) x12 x11) w fun t13 =>
  bV t13
  (stat_column_s7 R N1 x0 x4 x5 x6 x10 x11 x12 w)
  (stat_column_s4 R x4 x5 x6 w)
theorem stat_column_s8_eq (R : Value → World → Prop) (N1 : List Value → World → Prop) : ∀ e w, lift Try.prog 72 (sub (bodyOf Try.f22) [1, 1, 1, 0, 1, 0, 0]) (seqK (fun e w => N1 [e 0, e 4, e 5, e 6, e 10, e 11, e 12] w) (blockK 0 (seqK (fun e w => stat_column_s4 R (e 4) (e 5) (e 6) w) (finK Try.prog Try.f22.results.toList R)))) e w = stat_column_s8 R N1 (e 0) (e 4) (e 5) (e 6) (e 10) (e 11) (e 12) w :=
  segs_eq (l := [(sub (bodyOf Try.f22) [1, 1, 1, 0, 1, 0, 0, 0]), (sub (bodyOf Try.f22) [1, 1, 1, 0, 1, 0, 0, 1, 0])]) (y := (sub (bodyOf Try.f22) [1, 1, 1, 0, 1, 0, 0, 1, 1])) (Y := (fun e w => stat_column_s7 R N1 (e 0) (e 4) (e 5) (e 6) (e 10) (e 11) (e 12) w)) (seq_seg (x := (sub (bodyOf Try.f22) [1, 1, 1, 0, 1, 0, 0, 1, 1, 0])) (y := (sub (bodyOf Try.f22) [1, 1, 1, 0, 1, 0, 0, 1, 1, 1])) (stat_column_s5_eq R N1) (stat_column_s7_eq R N1)) (fun e w => by kernel_rfl)
def stat_column_L9F (R : Value → World → Prop) (N1 : List Value → World → Prop) (xs : List Value) (w : World) : Prop :=
  match xs with
  | [x0, x4, x5, x6, x10, x11, x12] => stat_column_s8 R N1 x0 x4 x5 x6 x10 x11 x12 w
  | _ => False
def stat_column_L9 (R : Value → World → Prop) (x0 x4 x5 x6 x10 x11 x12 : Value) (w : World) : Prop :=
  ∃ m, loopV (stat_column_L9F R) m [x0, x4, x5, x6, x10, x11, x12] w
theorem stat_column_L9_eq (R : Value → World → Prop) : ∀ e w, lift Try.prog 72 (sub (bodyOf Try.f22) [1, 1, 1, 0, 1, 0]) (blockK 0 (seqK (fun e w => stat_column_s4 R (e 4) (e 5) (e 6) w) (finK Try.prog Try.f22.results.toList R))) e w = stat_column_L9 R (e 0) (e 4) (e 5) (e 6) (e 10) (e 11) (e 12) w := loop_seg (F := stat_column_L9F R) (sel := fun e => [e 0, e 4, e 5, e 6, e 10, e 11, e 12]) fun N1 => (stat_column_s8_eq R N1)
def stat_column_s10 (R : Value → World → Prop) (x0 x1 x4 x5 x6 : Value) (w : World) : Prop :=
  lenL x1 fun t11 =>
  stat_column_L9 R x0 x4 x5 x6 x1 t11 (.int .i64 0) w
theorem stat_column_s10_eq (R : Value → World → Prop) : ∀ e w, lift Try.prog 72 (sub (bodyOf Try.f22) [1, 1, 1, 0]) (seqK (fun e w => stat_column_s4 R (e 4) (e 5) (e 6) w) (finK Try.prog Try.f22.results.toList R)) e w = stat_column_s10 R (e 0) (e 1) (e 4) (e 5) (e 6) w :=
  segs_eq (l := [(sub (bodyOf Try.f22) [1, 1, 1, 0, 0])]) (y := (sub (bodyOf Try.f22) [1, 1, 1, 0, 1])) (Y := (fun e w => stat_column_L9 R (e 0) (e 4) (e 5) (e 6) (e 10) (e 11) (e 12) w)) (stat_column_L9_eq R) (fun e w => by kernel_rfl)
def stat_column_s11 (R : Value → World → Prop) (x0 x1 : Value) (w : World) : Prop :=
  newG (zc Try.prog 32) 32 w fun t4 w =>
  newG (zc Try.prog 32) 32 w fun t5 w =>
  stat_column_s10 R x0 x1 t4 t5 (.slice none 0 0) w
theorem stat_column_s11_eq (R : Value → World → Prop) : ∀ e w, lift Try.prog 72 (bodyOf Try.f22) (finK Try.prog Try.f22.results.toList R) e w = stat_column_s11 R (e 0) (e 1) w :=
  segs_eq (l := [(sub (bodyOf Try.f22) [0]), (sub (bodyOf Try.f22) [1, 0]), (sub (bodyOf Try.f22) [1, 1, 0])]) (y := (sub (bodyOf Try.f22) [1, 1, 1])) (Y := (fun e w => stat_column_s10 R (e 0) (e 1) (e 4) (e 5) (e 6) w)) (seq_seg (x := (sub (bodyOf Try.f22) [1, 1, 1, 0])) (y := (sub (bodyOf Try.f22) [1, 1, 1, 1])) (stat_column_s4_eq R) (stat_column_s10_eq R)) (fun e w => by kernel_rfl)
def stat_column (R : Value → World → Prop) (x0 x1 : Value) (w : World) : Prop := stat_column_s11 R x0 x1 w
theorem stat_column_call {R : Value → World → Prop} {x0 x1 : Value} {w : World} (h : stat_column R x0 x1 w) : callG Try.prog 22 #[x0, x1] w R :=
  calls_lift_eq Try.mixed Try.func22 (args := [x0, x1]) rfl rfl rfl rfl ((stat_column_s11_eq R) (envOf [x0, x1]) w) (by kernel_rfl) h
/-! quayside/stat.Of -/
def stat_Of_s0 (R : Value → World → Prop) (x4 x5 : Value) (w : World) : Prop :=
  ldn 2 x5 w fun t25 =>
  stn 2 x4 t25 w fun w =>
  qG Try.prog (do loadVar 27 (← asAddr x4)) w fun r4 =>
  R r4 w
theorem stat_Of_s0_eq (R : Value → World → Prop) : ∀ e w, lift Try.prog 26 (sub (bodyOf Try.f9) [1, 1, 1]) (finK Try.prog Try.f9.results.toList R) e w = stat_Of_s0 R (e 4) (e 5) w := fun e w => by kernel_rfl
def stat_Of_b1 (R : Value → World → Prop) (N1 : List Value → World → Prop) (x1 x4 x5 x12 x13 : Value) (w : World) : Prop :=
  qG Try.prog (bq .lss 3 (.tmp 13) (.tmp 12) x13 x12) w fun t14 =>
  bV t14
  (fa 1 x5 fun t16 =>
  ld1 t16 (World.drew w) fun t17 =>
  callG Try.prog 22 #[x13, x1] (World.drew w) fun t20 w =>
  ld1 t16 w (fun u => u = t17) ∧
  bsl 32 3 1 (zc Try.prog 32) #[(0, t20)] w fun t21 w =>
  ld1 t16 w (fun u => u = t17) ∧
  app 32 3 40 (zc Try.prog 32) t17 t21 w fun t22 w =>
  fa 1 x5 fun t23 =>
  st1 t23 t22 w fun w =>
  qG Try.prog (bq .add 3 (.tmp 13) (.const (.int .i64 1)) x13 (.int .i64 1)) w fun t24 =>
  N1 [x1, x4, x5, x12, t24] w)
  (stat_Of_s0 R x4 x5 w)
theorem stat_Of_b1_eq (R : Value → World → Prop) (N1 : List Value → World → Prop) : ∀ e w, lift Try.prog 26 (sub (bodyOf Try.f9) [1, 1, 0, 1, 0, 0]) (seqK (fun e w => N1 [e 1, e 4, e 5, e 12, e 13] w) (blockK 0 (seqK (fun e w => stat_Of_s0 R (e 4) (e 5) w) (finK Try.prog Try.f9.results.toList R)))) e w = stat_Of_b1 R N1 (e 1) (e 4) (e 5) (e 12) (e 13) w := fun e w => by kernel_rfl
def stat_Of_L2F (R : Value → World → Prop) (N1 : List Value → World → Prop) (xs : List Value) (w : World) : Prop :=
  match xs with
  | [x1, x4, x5, x12, x13] => stat_Of_b1 R N1 x1 x4 x5 x12 x13 w
  | _ => False
def stat_Of_L2 (R : Value → World → Prop) (x1 x4 x5 x12 x13 : Value) (w : World) : Prop :=
  ∃ m, loopV (stat_Of_L2F R) m [x1, x4, x5, x12, x13] w
theorem stat_Of_L2_eq (R : Value → World → Prop) : ∀ e w, lift Try.prog 26 (sub (bodyOf Try.f9) [1, 1, 0, 1, 0]) (blockK 0 (seqK (fun e w => stat_Of_s0 R (e 4) (e 5) w) (finK Try.prog Try.f9.results.toList R))) e w = stat_Of_L2 R (e 1) (e 4) (e 5) (e 12) (e 13) w := loop_seg (F := stat_Of_L2F R) (sel := fun e => [e 1, e 4, e 5, e 12, e 13]) fun N1 => (stat_Of_b1_eq R N1)
def stat_Of_s3 (R : Value → World → Prop) (x0 x1 x4 x5 : Value) (w : World) : Prop :=
  qG Try.prog (Builtin.min_ #[3, 3] 3 #[x0, (.int .i64 64)]) w fun t11 =>
  qG Try.prog (Builtin.max_ #[3, 3] 3 #[(.int .i64 0), t11]) w fun t12 =>
  stat_Of_L2 R x1 x4 x5 t12 (.int .i64 0) w
theorem stat_Of_s3_eq (R : Value → World → Prop) : ∀ e w, lift Try.prog 26 (sub (bodyOf Try.f9) [1, 1, 0]) (seqK (fun e w => stat_Of_s0 R (e 4) (e 5) w) (finK Try.prog Try.f9.results.toList R)) e w = stat_Of_s3 R (e 0) (e 1) (e 4) (e 5) w :=
  segs_eq (l := [(sub (bodyOf Try.f9) [1, 1, 0, 0])]) (y := (sub (bodyOf Try.f9) [1, 1, 0, 1])) (Y := (fun e w => stat_Of_L2 R (e 1) (e 4) (e 5) (e 12) (e 13) w)) (stat_Of_L2_eq R) (fun e w => by kernel_rfl)
def stat_Of_s4 (R : Value → World → Prop) (x0 x1 : Value) (w : World) : Prop :=
  newG (zc Try.prog 27) 27 w fun t4 w =>
  lenL x1 fun t8 =>
  bld [(0, 1), (1, 1)] (zc Try.prog 27) #[(0, t8)] fun t9 =>
  newG (zc Try.prog 27) 27 w fun t5 w =>
  stn 2 t5 t9 w fun w =>
  stat_Of_s3 R x0 x1 t4 t5 w
theorem stat_Of_s4_eq (R : Value → World → Prop) : ∀ e w, lift Try.prog 26 (bodyOf Try.f9) (finK Try.prog Try.f9.results.toList R) e w = stat_Of_s4 R (e 0) (e 1) w :=
  segs_eq (l := [(sub (bodyOf Try.f9) [0]), (sub (bodyOf Try.f9) [1, 0])]) (y := (sub (bodyOf Try.f9) [1, 1])) (Y := (fun e w => stat_Of_s3 R (e 0) (e 1) (e 4) (e 5) w)) (seq_seg (x := (sub (bodyOf Try.f9) [1, 1, 0])) (y := (sub (bodyOf Try.f9) [1, 1, 1])) (stat_Of_s0_eq R) (stat_Of_s3_eq R)) (fun e w => by kernel_rfl)
def stat_Of (R : Value → World → Prop) (x0 x1 : Value) (w : World) : Prop := stat_Of_s4 R x0 x1 w
theorem stat_Of_call {R : Value → World → Prop} {x0 x1 : Value} {w : World} (h : stat_Of R x0 x1 w) : callG Try.prog 9 #[x0, x1] w R :=
  calls_lift_eq Try.mixed Try.func9 (args := [x0, x1]) rfl rfl rfl rfl ((stat_Of_s4_eq R) (envOf [x0, x1]) w) (by kernel_rfl) h
/-! quayside/stat.of -/
def stat_of_s0 (R : Value → World → Prop) (x1 x2 x4 : Value) (w : World) : Prop :=
  fa 1 x2 fun t16 =>
  ld1 t16 (World.drew w) fun t17 =>
  ia 3 t17 x1 fun t19 =>
  ldn 3 t19 (World.drew w) fun t20 =>
  fa 1 x2 fun t21 =>
  ld1 t21 (World.drew w) fun t22 =>
  ia 3 t22 x1 fun t24 =>
  fa 2 t24 fun t25 =>
  ld1 t25 (World.drew w) fun t26 =>
  lenL t26 fun t27 =>
  qG Try.prog (bq .gtr 3 (.tmp 27) (.const (.int .i64 0)) t27 (.int .i64 0)) (World.drew w) fun t28 =>
  stn 3 x4 t20 (World.drew w) fun w =>
  stb Try.prog (bq .gtr 3 (.tmp 27) (.const (.int .i64 0)) t27 (.int .i64 0)) t28 w ∧
  ld1 t25 w (fun u => u = t26) ∧
  ld1 t21 w (fun u => u = t22) ∧
  qG Try.prog (do loadVar 32 (← asAddr x4)) w fun r4 =>
  R (.tuple #[r4, t28]) w
theorem stat_of_s0_eq (R : Value → World → Prop) : ∀ e w, lift Try.prog 29 (sub (bodyOf Try.f24) [1, 1]) (finK Try.prog Try.f24.results.toList R) e w = stat_of_s0 R (e 1) (e 2) (e 4) w := fun e w => by kernel_rfl
def stat_of_s1 (R : Value → World → Prop) (x0 x1 : Value) (w : World) : Prop :=
  newG (Value.cells x0) 27 w fun t2 w =>
  newG (zc Try.prog 32) 32 w fun t4 w =>
  qG Try.prog (bq .lss 3 (.tmp 6) (.const (.int .i64 0)) x1 (.int .i64 0)) w fun t7 =>
  bV t7
  (bld [(0, 1), (1, 1), (2, 1)] (zc Try.prog 32) #[] fun t15 =>
  stn 3 t4 t15 w fun w =>
  qG Try.prog (do loadVar 32 (← asAddr t4)) w fun r4 =>
  R (.tuple #[r4, (.bool false)]) w)
  (fa 1 t2 fun t10 =>
  ld1 t10 w fun t11 =>
  lenL t11 fun t12 =>
  qG Try.prog (bq .geq 3 (.tmp 9) (.tmp 12) x1 t12) w fun t13 =>
  bV t13
  (bld [(0, 1), (1, 1), (2, 1)] (zc Try.prog 32) #[] fun t15_1 =>
  stn 3 t4 t15_1 w fun w =>
  qG Try.prog (do loadVar 32 (← asAddr t4)) w fun r4_1 =>
  R (.tuple #[r4_1, (.bool false)]) w)
  (stat_of_s0 R x1 t2 t4 w))
theorem stat_of_s1_eq (R : Value → World → Prop) : ∀ e w, lift Try.prog 29 (bodyOf Try.f24) (finK Try.prog Try.f24.results.toList R) e w = stat_of_s1 R (e 0) (e 1) w :=
  segs_eq (l := [(sub (bodyOf Try.f24) [0]), (sub (bodyOf Try.f24) [1, 0])]) (y := (sub (bodyOf Try.f24) [1, 1])) (Y := (fun e w => stat_of_s0 R (e 1) (e 2) (e 4) w)) (stat_of_s0_eq R) (fun e w => by kernel_rfl)
def stat_of (R : Value → World → Prop) (x0 x1 : Value) (w : World) : Prop := stat_of_s1 R x0 x1 w
theorem stat_of_call {R : Value → World → Prop} {x0 x1 : Value} {w : World} (h : stat_of R x0 x1 w) : callG Try.prog 24 #[x0, x1] w R :=
  calls_lift_eq Try.mixed Try.func24 (args := [x0, x1]) rfl rfl rfl rfl ((stat_of_s1_eq R) (envOf [x0, x1]) w) (by kernel_rfl) h
/-! quayside/stat.Same -/
def stat_Same_s0 (R : Value → World → Prop) (x3 x7 : Value) (w : World) : Prop :=
  fa 0 x3 fun t44 =>
  ld1 t44 w fun t45 =>
  fa 0 x7 fun t46 =>
  ld1 t46 w fun t47 =>
  qG Try.prog (bq .sub 3 (.tmp 45) (.tmp 47) t45 t47) w fun t48 =>
  fa 1 x7 fun t49 =>
  ld1 t49 w fun t50 =>
  qG Try.prog (Builtin.max_ #[3, 3] 3 #[(.int .i64 1), t50]) w fun t51 =>
  qG Try.prog (bq .quo 3 (.tmp 48) (.tmp 51) t48 t51) w fun t52 =>
  qG Try.prog (Builtin.max_ #[3, 3] 3 #[(.int .i64 1), t52]) w fun t53 =>
  R t53 w
theorem stat_Same_s0_eq (R : Value → World → Prop) : ∀ e w, lift Try.prog 54 (sub (bodyOf Try.f12) [1, 1, 1]) (finK Try.prog Try.f12.results.toList R) e w = stat_Same_s0 R (e 3) (e 7) w := fun e w => by kernel_rfl
def stat_Same_s1 (R : Value → World → Prop) (x0 x1 x2 : Value) (w : World) : Prop :=
  newG (Value.cells x0) 27 w fun t3 w =>
  newG (Value.cells x2) 35 w fun t5 w =>
  ldn 2 t3 w fun t10 =>
  callG Try.prog 24 #[t10, x1] w fun t12 w =>
  qG Try.prog (Instr.extract t12 0) w fun t13 =>
  qG Try.prog (Instr.extract t12 1) w fun t14 =>
  newG (zc Try.prog 32) 32 w fun t7 w =>
  stn 3 t7 t13 w fun w =>
  qG Try.prog (Op.unary .not t14) (World.drew w) fun t16 =>
  bV t16
  (R (.int .i64 0) (World.drew w))
  (fa 0 t5 fun t18 =>
  ld1 t18 (World.drew w) fun t19 =>
  qG Try.prog (bq .eql 3 (.tmp 19) (.const (.int .i64 0)) t19 (.int .i64 0)) (World.drew w) fun t20 =>
  bV t20
  (R (.int .i64 0) (World.drew w))
  (ldn 3 t5 (World.drew w) fun t23 =>
  fa 2 t7 fun t24 =>
  ld1 t24 (World.drew w) fun t25 =>
  ia 3 t25 (.int .i64 0) fun t26 =>
  ldn 3 t26 (World.drew w) fun t27 =>
  callG Try.prog 25 #[t23, t27] (World.drew w) fun t28 w =>
  qG Try.prog (bq .lss 3 (.tmp 28) (.const (.int .i64 0)) t28 (.int .i64 0)) w fun t29 =>
  bV t29
  (R (.int .i64 0) w)
  (ldn 3 t5 w fun t32 =>
  fa 2 t7 fun t33 =>
  ld1 t33 w fun t34 =>
  fa 2 t7 fun t35 =>
  ld1 t35 w fun t36 =>
  lenL t36 fun t37 =>
  qG Try.prog (bq .sub 3 (.tmp 37) (.const (.int .i64 1)) t37 (.int .i64 1)) w fun t38 =>
  ia 3 t34 t38 fun t39 =>
  ldn 3 t39 w fun t40 =>
  callG Try.prog 25 #[t32, t40] w fun t41 w =>
  qG Try.prog (bq .gtr 3 (.tmp 41) (.const (.int .i64 0)) t41 (.int .i64 0)) w fun t42 =>
  bV t42
  (R (.int .i64 0) w)
  (stat_Same_s0 R t3 t7 w))))
theorem stat_Same_s1_eq (R : Value → World → Prop) : ∀ e w, lift Try.prog 54 (bodyOf Try.f12) (finK Try.prog Try.f12.results.toList R) e w = stat_Same_s1 R (e 0) (e 1) (e 2) w :=
  segs_eq (l := [(sub (bodyOf Try.f12) [0]), (sub (bodyOf Try.f12) [1, 0]), (sub (bodyOf Try.f12) [1, 1, 0])]) (y := (sub (bodyOf Try.f12) [1, 1, 1])) (Y := (fun e w => stat_Same_s0 R (e 3) (e 7) w)) (stat_Same_s0_eq R) (fun e w => by kernel_rfl)
def stat_Same (R : Value → World → Prop) (x0 x1 x2 : Value) (w : World) : Prop := stat_Same_s1 R x0 x1 x2 w
theorem stat_Same_call {R : Value → World → Prop} {x0 x1 x2 : Value} {w : World} (h : stat_Same R x0 x1 x2 w) : callG Try.prog 12 #[x0, x1, x2] w R :=
  calls_lift_eq Try.mixed Try.func12 (args := [x0, x1, x2]) rfl rfl rfl rfl ((stat_Same_s1_eq R) (envOf [x0, x1, x2]) w) (by kernel_rfl) h
/-! quayside/simplify.tighter -/
def simplify_tighter_s0 (R : Value → World → Prop) (x0 x1 x2 : Value) (w : World) : Prop :=
  newG (Value.cells x0) 37 w fun t3 w =>
  newG (Value.cells x1) 37 w fun t4 w =>
  newG (zc Try.prog 37) 37 w fun t6 w =>
  fa 0 t3 fun t9 =>
  ld1 t9 w fun t10 =>
  qG Try.prog (Op.unary .not t10) w fun t11 =>
  bV t11
  (ldn 5 t4 w fun t12 =>
  stn 5 t6 t12 w fun w =>
  qG Try.prog (do loadVar 37 (← asAddr t6)) w fun r6 =>
  R r6 w)
  (fa 0 t4 fun t14 =>
  ld1 t14 w fun t15 =>
  qG Try.prog (Op.unary .not t15) w fun t16 =>
  bV t16
  (ldn 5 t3 w fun t17 =>
  stn 5 t6 t17 w fun w =>
  qG Try.prog (do loadVar 37 (← asAddr t6)) w fun r6_1 =>
  R r6_1 w)
  (fa 2 t3 fun t18 =>
  ldn 3 t18 w fun t19 =>
  fa 2 t4 fun t20 =>
  ldn 3 t20 w fun t21 =>
  callG Try.prog 25 #[t19, t21] w fun t22 w =>
  qG Try.prog (bq .mul 3 (.tmp 22) (.tmp 23) t22 x2) w fun t24 =>
  qG Try.prog (bq .lss 3 (.tmp 26) (.const (.int .i64 0)) t24 (.int .i64 0)) w fun t27 =>
  bV t27
  (ldn 5 t4 w fun t28 =>
  stn 5 t6 t28 w fun w =>
  qG Try.prog (do loadVar 37 (← asAddr t6)) w fun r6_2 =>
  R r6_2 w)
  (qG Try.prog (bq .eql 3 (.tmp 30) (.const (.int .i64 0)) t24 (.int .i64 0)) w fun t31 =>
  bV t31
  (fa 1 t3 fun t32 =>
  ld1 t32 w fun t33 =>
  bV t33
  (fa 1 t3 fun t38 =>
  st1 t38 (.bool true) w fun w =>
  ldn 5 t3 w fun t39 =>
  stn 5 t6 t39 w fun w =>
  qG Try.prog (do loadVar 37 (← asAddr t6)) w fun r6_3 =>
  R r6_3 w)
  (fa 1 t4 fun t35 =>
  ld1 t35 w fun t36 =>
  fa 1 t3 fun t38_1 =>
  st1 t38_1 t36 w fun w =>
  ldn 5 t3 w fun t39_1 =>
  stn 5 t6 t39_1 w fun w =>
  qG Try.prog (do loadVar 37 (← asAddr t6)) w fun r6_4 =>
  R r6_4 w))
  (ldn 5 t3 w fun t39_2 =>
  stn 5 t6 t39_2 w fun w =>
  qG Try.prog (do loadVar 37 (← asAddr t6)) w fun r6_5 =>
  R r6_5 w))))
theorem simplify_tighter_s0_eq (R : Value → World → Prop) : ∀ e w, lift Try.prog 40 (bodyOf Try.f41) (finK Try.prog Try.f41.results.toList R) e w = simplify_tighter_s0 R (e 0) (e 1) (e 2) w := fun e w => by kernel_rfl
def simplify_tighter (R : Value → World → Prop) (x0 x1 x2 : Value) (w : World) : Prop := simplify_tighter_s0 R x0 x1 x2 w
theorem simplify_tighter_call {R : Value → World → Prop} {x0 x1 x2 : Value} {w : World} (h : simplify_tighter R x0 x1 x2 w) : callG Try.prog 41 #[x0, x1, x2] w R :=
  calls_lift_eq Try.mixed Try.func41 (args := [x0, x1, x2]) rfl rfl rfl rfl ((simplify_tighter_s0_eq R) (envOf [x0, x1, x2]) w) (by kernel_rfl) h
/-! quayside/simplify.Narrow -/
def simplify_Narrow_s0 (R : Value → World → Prop) (x8 x9 x11 x12 : Value) (w : World) : Prop :=
  fa 2 x11 fun t30 =>
  ldn 3 t30 w fun t31 =>
  fa 2 x12 fun t32 =>
  ldn 3 t32 w fun t33 =>
  callG Try.prog 25 #[t31, t33] w fun t34 w =>
  ldn 5 x11 (World.drew w) fun t35 =>
  ldn 5 x12 (World.drew w) fun t36 =>
  qG Try.prog (bq .lss 3 (.tmp 37) (.const (.int .i64 0)) t34 (.int .i64 0)) (World.drew w) fun t38 =>
  bV t38
  (stn 5 x8 t35 (World.drew w) fun w =>
  ldn 5 x12 w (fun u => u = t36) ∧
  stn 5 x9 t36 w fun w =>
  qG Try.prog (do loadVar 37 (← asAddr x8)) w fun r8 =>
  qG Try.prog (do loadVar 37 (← asAddr x9)) w fun r9 =>
  R (.tuple #[r8, r9, (.bool true)]) w)
  (qG Try.prog (bq .eql 3 (.tmp 40) (.const (.int .i64 0)) t34 (.int .i64 0)) (World.drew w) fun t41 =>
  bV t41
  (fa 1 x11 fun t43 =>
  ld1 t43 (World.drew w) fun t44 =>
  qG Try.prog (Op.unary .not t44) (World.drew w) fun t45 =>
  bV t45
  (fa 1 x12 fun t48 =>
  ld1 t48 (World.drew w) fun t49 =>
  qG Try.prog (Op.unary .not t49) (World.drew w) fun t50 =>
  stn 5 x8 t35 (World.drew w) fun w =>
  stb Try.prog (Op.unary .not t49) t50 w ∧
  ld1 t48 w (fun u => u = t49) ∧
  ldn 5 x12 w (fun u => u = t36) ∧
  stn 5 x9 t36 w fun w =>
  stb Try.prog (Op.unary .not t49) t50 w ∧
  ld1 t48 w (fun u => u = t49) ∧
  qG Try.prog (do loadVar 37 (← asAddr x8)) w fun r8_1 =>
  qG Try.prog (do loadVar 37 (← asAddr x9)) w fun r9_1 =>
  R (.tuple #[r8_1, r9_1, t50]) w)
  (stn 5 x8 t35 (World.drew w) fun w =>
  ldn 5 x12 w (fun u => u = t36) ∧
  stn 5 x9 t36 w fun w =>
  qG Try.prog (do loadVar 37 (← asAddr x8)) w fun r8_2 =>
  qG Try.prog (do loadVar 37 (← asAddr x9)) w fun r9_2 =>
  R (.tuple #[r8_2, r9_2, (.bool false)]) w))
  (stn 5 x8 t35 (World.drew w) fun w =>
  ldn 5 x12 w (fun u => u = t36) ∧
  stn 5 x9 t36 w fun w =>
  qG Try.prog (do loadVar 37 (← asAddr x8)) w fun r8_3 =>
  qG Try.prog (do loadVar 37 (← asAddr x9)) w fun r9_3 =>
  R (.tuple #[r8_3, r9_3, (.bool false)]) w))
theorem simplify_Narrow_s0_eq (R : Value → World → Prop) : ∀ e w, lift Try.prog 53 (sub (bodyOf Try.f26) [1, 1, 1]) (finK Try.prog Try.f26.results.toList R) e w = simplify_Narrow_s0 R (e 8) (e 9) (e 11) (e 12) w := fun e w => by kernel_rfl
def simplify_Narrow_s1 (R : Value → World → Prop) (x0 x1 x2 x3 : Value) (w : World) : Prop :=
  newG (Value.cells x0) 37 w fun t4 w =>
  newG (Value.cells x1) 37 w fun t5 w =>
  newG (Value.cells x2) 37 w fun t6 w =>
  newG (Value.cells x3) 37 w fun t7 w =>
  newG (zc Try.prog 37) 37 w fun t8 w =>
  newG (zc Try.prog 37) 37 w fun t9 w =>
  ldn 5 t4 (World.drew w) fun t14 =>
  ldn 5 t6 (World.drew w) fun t15 =>
  ldn 5 t5 (World.drew w) fun t17 =>
  ldn 5 t7 (World.drew w) fun t18 =>
  (callG Try.prog 41 #[t14, t15, (.int .i64 1)] (World.drew w) fun t16 w =>
  ldn 5 t7 w (fun u => u = t18) ∧
  ldn 5 t5 w (fun u => u = t17) ∧
  (callG Try.prog 41 #[t17, t18, (.int .i64 (-1))] w fun t19 w =>
  (newG (zc Try.prog 37) 37 w fun t11 w =>
  ldn 5 t7 w (fun u => u = t18) ∧
  ldn 5 t5 w (fun u => u = t17) ∧
  ldn 5 t6 w (fun u => u = t15) ∧
  ldn 5 t4 w (fun u => u = t14) ∧
  newG (zc Try.prog 37) 37 w fun t12 w =>
  ldn 5 t7 w (fun u => u = t18) ∧
  ldn 5 t5 w (fun u => u = t17) ∧
  ldn 5 t6 w (fun u => u = t15) ∧
  ldn 5 t4 w (fun u => u = t14) ∧
  stn 5 t11 t16 w fun w =>
  stn 5 t12 t19 w fun w =>
  fa 0 t11 fun t20 =>
  ld1 t20 w fun t21 =>
  qG Try.prog (Op.unary .not t21) w fun t22 =>
  bV t22
  (ldn 5 t11 (World.drew w) fun t28 =>
  ldn 5 t12 (World.drew w) fun t29 =>
  stn 5 t8 t28 (World.drew w) fun w =>
  ldn 5 t12 w (fun u => u = t29) ∧
  stn 5 t9 t29 w fun w =>
  qG Try.prog (do loadVar 37 (← asAddr t8)) w fun r8 =>
  qG Try.prog (do loadVar 37 (← asAddr t9)) w fun r9 =>
  R (.tuple #[r8, r9, (.bool true)]) w)
  (fa 0 t12 fun t24 =>
  ld1 t24 w fun t25 =>
  qG Try.prog (Op.unary .not t25) w fun t26 =>
  bV t26
  (ldn 5 t11 (World.drew w) fun t28_1 =>
  ldn 5 t12 (World.drew w) fun t29_1 =>
  stn 5 t8 t28_1 (World.drew w) fun w =>
  ldn 5 t12 w (fun u => u = t29_1) ∧
  stn 5 t9 t29_1 w fun w =>
  qG Try.prog (do loadVar 37 (← asAddr t8)) w fun r8_1 =>
  qG Try.prog (do loadVar 37 (← asAddr t9)) w fun r9_1 =>
  R (.tuple #[r8_1, r9_1, (.bool true)]) w)
  (simplify_Narrow_s0 R t8 t9 t11 t12 w))) ∧
  (newG (zc Try.prog 37) 37 w fun t12_1 w =>
  ldn 5 t7 w (fun u => u = t18) ∧
  ldn 5 t5 w (fun u => u = t17) ∧
  ldn 5 t6 w (fun u => u = t15) ∧
  ldn 5 t4 w (fun u => u = t14) ∧
  newG (zc Try.prog 37) 37 w fun t11_1 w =>
  ldn 5 t7 w (fun u => u = t18) ∧
  ldn 5 t5 w (fun u => u = t17) ∧
  ldn 5 t6 w (fun u => u = t15) ∧
  ldn 5 t4 w (fun u => u = t14) ∧
  stn 5 t11_1 t16 w fun w =>
  stn 5 t12_1 t19 w fun w =>
  fa 0 t11_1 fun t20_1 =>
  ld1 t20_1 w fun t21_1 =>
  qG Try.prog (Op.unary .not t21_1) w fun t22_1 =>
  bV t22_1
  (ldn 5 t11_1 (World.drew w) fun t28_2 =>
  ldn 5 t12_1 (World.drew w) fun t29_2 =>
  stn 5 t8 t28_2 (World.drew w) fun w =>
  ldn 5 t12_1 w (fun u => u = t29_2) ∧
  stn 5 t9 t29_2 w fun w =>
  qG Try.prog (do loadVar 37 (← asAddr t8)) w fun r8_2 =>
  qG Try.prog (do loadVar 37 (← asAddr t9)) w fun r9_2 =>
  R (.tuple #[r8_2, r9_2, (.bool true)]) w)
  (fa 0 t12_1 fun t24_1 =>
  ld1 t24_1 w fun t25_1 =>
  qG Try.prog (Op.unary .not t25_1) w fun t26_1 =>
  bV t26_1
  (ldn 5 t11_1 (World.drew w) fun t28_3 =>
  ldn 5 t12_1 (World.drew w) fun t29_3 =>
  stn 5 t8 t28_3 (World.drew w) fun w =>
  ldn 5 t12_1 w (fun u => u = t29_3) ∧
  stn 5 t9 t29_3 w fun w =>
  qG Try.prog (do loadVar 37 (← asAddr t8)) w fun r8_3 =>
  qG Try.prog (do loadVar 37 (← asAddr t9)) w fun r9_3 =>
  R (.tuple #[r8_3, r9_3, (.bool true)]) w)
  (simplify_Narrow_s0 R t8 t9 t11_1 t12_1 w)))) ∧
  (newG (zc Try.prog 37) 37 w fun t11_2 w =>
  ldn 5 t7 w (fun u => u = t18) ∧
  ldn 5 t5 w (fun u => u = t17) ∧
  ldn 5 t6 w (fun u => u = t15) ∧
  ldn 5 t4 w (fun u => u = t14) ∧
  (callG Try.prog 41 #[t17, t18, (.int .i64 (-1))] w fun t19_1 w =>
  newG (zc Try.prog 37) 37 w fun t12_2 w =>
  ldn 5 t7 w (fun u => u = t18) ∧
  ldn 5 t5 w (fun u => u = t17) ∧
  ldn 5 t6 w (fun u => u = t15) ∧
  ldn 5 t4 w (fun u => u = t14) ∧
  stn 5 t11_2 t16 w fun w =>
  stn 5 t12_2 t19_1 w fun w =>
  fa 0 t11_2 fun t20_2 =>
  ld1 t20_2 w fun t21_2 =>
  qG Try.prog (Op.unary .not t21_2) w fun t22_2 =>
  bV t22_2
  (ldn 5 t11_2 (World.drew w) fun t28_4 =>
  ldn 5 t12_2 (World.drew w) fun t29_4 =>
  stn 5 t8 t28_4 (World.drew w) fun w =>
  ldn 5 t12_2 w (fun u => u = t29_4) ∧
  stn 5 t9 t29_4 w fun w =>
  qG Try.prog (do loadVar 37 (← asAddr t8)) w fun r8_4 =>
  qG Try.prog (do loadVar 37 (← asAddr t9)) w fun r9_4 =>
  R (.tuple #[r8_4, r9_4, (.bool true)]) w)
  (fa 0 t12_2 fun t24_2 =>
  ld1 t24_2 w fun t25_2 =>
  qG Try.prog (Op.unary .not t25_2) w fun t26_2 =>
  bV t26_2
  (ldn 5 t11_2 (World.drew w) fun t28_5 =>
  ldn 5 t12_2 (World.drew w) fun t29_5 =>
  stn 5 t8 t28_5 (World.drew w) fun w =>
  ldn 5 t12_2 w (fun u => u = t29_5) ∧
  stn 5 t9 t29_5 w fun w =>
  qG Try.prog (do loadVar 37 (← asAddr t8)) w fun r8_5 =>
  qG Try.prog (do loadVar 37 (← asAddr t9)) w fun r9_5 =>
  R (.tuple #[r8_5, r9_5, (.bool true)]) w)
  (simplify_Narrow_s0 R t8 t9 t11_2 t12_2 w))) ∧
  (newG (zc Try.prog 37) 37 w fun t12_3 w =>
  ldn 5 t7 w (fun u => u = t18) ∧
  ldn 5 t5 w (fun u => u = t17) ∧
  ldn 5 t6 w (fun u => u = t15) ∧
  ldn 5 t4 w (fun u => u = t14) ∧
  callG Try.prog 41 #[t17, t18, (.int .i64 (-1))] w fun t19_2 w =>
  stn 5 t11_2 t16 w fun w =>
  stn 5 t12_3 t19_2 w fun w =>
  fa 0 t11_2 fun t20_3 =>
  ld1 t20_3 w fun t21_3 =>
  qG Try.prog (Op.unary .not t21_3) w fun t22_3 =>
  bV t22_3
  (ldn 5 t11_2 (World.drew w) fun t28_6 =>
  ldn 5 t12_3 (World.drew w) fun t29_6 =>
  stn 5 t8 t28_6 (World.drew w) fun w =>
  ldn 5 t12_3 w (fun u => u = t29_6) ∧
  stn 5 t9 t29_6 w fun w =>
  qG Try.prog (do loadVar 37 (← asAddr t8)) w fun r8_6 =>
  qG Try.prog (do loadVar 37 (← asAddr t9)) w fun r9_6 =>
  R (.tuple #[r8_6, r9_6, (.bool true)]) w)
  (fa 0 t12_3 fun t24_3 =>
  ld1 t24_3 w fun t25_3 =>
  qG Try.prog (Op.unary .not t25_3) w fun t26_3 =>
  bV t26_3
  (ldn 5 t11_2 (World.drew w) fun t28_7 =>
  ldn 5 t12_3 (World.drew w) fun t29_7 =>
  stn 5 t8 t28_7 (World.drew w) fun w =>
  ldn 5 t12_3 w (fun u => u = t29_7) ∧
  stn 5 t9 t29_7 w fun w =>
  qG Try.prog (do loadVar 37 (← asAddr t8)) w fun r8_7 =>
  qG Try.prog (do loadVar 37 (← asAddr t9)) w fun r9_7 =>
  R (.tuple #[r8_7, r9_7, (.bool true)]) w)
  (simplify_Narrow_s0 R t8 t9 t11_2 t12_3 w)))) ∧
  (newG (zc Try.prog 37) 37 w fun t12_4 w =>
  ldn 5 t7 w (fun u => u = t18) ∧
  ldn 5 t5 w (fun u => u = t17) ∧
  ldn 5 t6 w (fun u => u = t15) ∧
  ldn 5 t4 w (fun u => u = t14) ∧
  (callG Try.prog 41 #[t17, t18, (.int .i64 (-1))] w fun t19_3 w =>
  newG (zc Try.prog 37) 37 w fun t11_3 w =>
  ldn 5 t7 w (fun u => u = t18) ∧
  ldn 5 t5 w (fun u => u = t17) ∧
  ldn 5 t6 w (fun u => u = t15) ∧
  ldn 5 t4 w (fun u => u = t14) ∧
  stn 5 t11_3 t16 w fun w =>
  stn 5 t12_4 t19_3 w fun w =>
  fa 0 t11_3 fun t20_4 =>
  ld1 t20_4 w fun t21_4 =>
  qG Try.prog (Op.unary .not t21_4) w fun t22_4 =>
  bV t22_4
  (ldn 5 t11_3 (World.drew w) fun t28_8 =>
  ldn 5 t12_4 (World.drew w) fun t29_8 =>
  stn 5 t8 t28_8 (World.drew w) fun w =>
  ldn 5 t12_4 w (fun u => u = t29_8) ∧
  stn 5 t9 t29_8 w fun w =>
  qG Try.prog (do loadVar 37 (← asAddr t8)) w fun r8_8 =>
  qG Try.prog (do loadVar 37 (← asAddr t9)) w fun r9_8 =>
  R (.tuple #[r8_8, r9_8, (.bool true)]) w)
  (fa 0 t12_4 fun t24_4 =>
  ld1 t24_4 w fun t25_4 =>
  qG Try.prog (Op.unary .not t25_4) w fun t26_4 =>
  bV t26_4
  (ldn 5 t11_3 (World.drew w) fun t28_9 =>
  ldn 5 t12_4 (World.drew w) fun t29_9 =>
  stn 5 t8 t28_9 (World.drew w) fun w =>
  ldn 5 t12_4 w (fun u => u = t29_9) ∧
  stn 5 t9 t29_9 w fun w =>
  qG Try.prog (do loadVar 37 (← asAddr t8)) w fun r8_9 =>
  qG Try.prog (do loadVar 37 (← asAddr t9)) w fun r9_9 =>
  R (.tuple #[r8_9, r9_9, (.bool true)]) w)
  (simplify_Narrow_s0 R t8 t9 t11_3 t12_4 w))) ∧
  (newG (zc Try.prog 37) 37 w fun t11_4 w =>
  ldn 5 t7 w (fun u => u = t18) ∧
  ldn 5 t5 w (fun u => u = t17) ∧
  ldn 5 t6 w (fun u => u = t15) ∧
  ldn 5 t4 w (fun u => u = t14) ∧
  callG Try.prog 41 #[t17, t18, (.int .i64 (-1))] w fun t19_4 w =>
  stn 5 t11_4 t16 w fun w =>
  stn 5 t12_4 t19_4 w fun w =>
  fa 0 t11_4 fun t20_5 =>
  ld1 t20_5 w fun t21_5 =>
  qG Try.prog (Op.unary .not t21_5) w fun t22_5 =>
  bV t22_5
  (ldn 5 t11_4 (World.drew w) fun t28_10 =>
  ldn 5 t12_4 (World.drew w) fun t29_10 =>
  stn 5 t8 t28_10 (World.drew w) fun w =>
  ldn 5 t12_4 w (fun u => u = t29_10) ∧
  stn 5 t9 t29_10 w fun w =>
  qG Try.prog (do loadVar 37 (← asAddr t8)) w fun r8_10 =>
  qG Try.prog (do loadVar 37 (← asAddr t9)) w fun r9_10 =>
  R (.tuple #[r8_10, r9_10, (.bool true)]) w)
  (fa 0 t12_4 fun t24_5 =>
  ld1 t24_5 w fun t25_5 =>
  qG Try.prog (Op.unary .not t25_5) w fun t26_5 =>
  bV t26_5
  (ldn 5 t11_4 (World.drew w) fun t28_11 =>
  ldn 5 t12_4 (World.drew w) fun t29_11 =>
  stn 5 t8 t28_11 (World.drew w) fun w =>
  ldn 5 t12_4 w (fun u => u = t29_11) ∧
  stn 5 t9 t29_11 w fun w =>
  qG Try.prog (do loadVar 37 (← asAddr t8)) w fun r8_11 =>
  qG Try.prog (do loadVar 37 (← asAddr t9)) w fun r9_11 =>
  R (.tuple #[r8_11, r9_11, (.bool true)]) w)
  (simplify_Narrow_s0 R t8 t9 t11_4 t12_4 w))))) ∧
  (newG (zc Try.prog 37) 37 (World.drew w) fun t11_5 w =>
  ldn 5 t7 w (fun u => u = t18) ∧
  ldn 5 t5 w (fun u => u = t17) ∧
  ldn 5 t6 w (fun u => u = t15) ∧
  ldn 5 t4 w (fun u => u = t14) ∧
  (callG Try.prog 41 #[t14, t15, (.int .i64 1)] w fun t16_1 w =>
  ldn 5 t7 w (fun u => u = t18) ∧
  ldn 5 t5 w (fun u => u = t17) ∧
  (callG Try.prog 41 #[t17, t18, (.int .i64 (-1))] w fun t19_5 w =>
  newG (zc Try.prog 37) 37 w fun t12_5 w =>
  ldn 5 t7 w (fun u => u = t18) ∧
  ldn 5 t5 w (fun u => u = t17) ∧
  ldn 5 t6 w (fun u => u = t15) ∧
  ldn 5 t4 w (fun u => u = t14) ∧
  stn 5 t11_5 t16_1 w fun w =>
  stn 5 t12_5 t19_5 w fun w =>
  fa 0 t11_5 fun t20_6 =>
  ld1 t20_6 w fun t21_6 =>
  qG Try.prog (Op.unary .not t21_6) w fun t22_6 =>
  bV t22_6
  (ldn 5 t11_5 (World.drew w) fun t28_12 =>
  ldn 5 t12_5 (World.drew w) fun t29_12 =>
  stn 5 t8 t28_12 (World.drew w) fun w =>
  ldn 5 t12_5 w (fun u => u = t29_12) ∧
  stn 5 t9 t29_12 w fun w =>
  qG Try.prog (do loadVar 37 (← asAddr t8)) w fun r8_12 =>
  qG Try.prog (do loadVar 37 (← asAddr t9)) w fun r9_12 =>
  R (.tuple #[r8_12, r9_12, (.bool true)]) w)
  (fa 0 t12_5 fun t24_6 =>
  ld1 t24_6 w fun t25_6 =>
  qG Try.prog (Op.unary .not t25_6) w fun t26_6 =>
  bV t26_6
  (ldn 5 t11_5 (World.drew w) fun t28_13 =>
  ldn 5 t12_5 (World.drew w) fun t29_13 =>
  stn 5 t8 t28_13 (World.drew w) fun w =>
  ldn 5 t12_5 w (fun u => u = t29_13) ∧
  stn 5 t9 t29_13 w fun w =>
  qG Try.prog (do loadVar 37 (← asAddr t8)) w fun r8_13 =>
  qG Try.prog (do loadVar 37 (← asAddr t9)) w fun r9_13 =>
  R (.tuple #[r8_13, r9_13, (.bool true)]) w)
  (simplify_Narrow_s0 R t8 t9 t11_5 t12_5 w))) ∧
  (newG (zc Try.prog 37) 37 w fun t12_6 w =>
  ldn 5 t7 w (fun u => u = t18) ∧
  ldn 5 t5 w (fun u => u = t17) ∧
  ldn 5 t6 w (fun u => u = t15) ∧
  ldn 5 t4 w (fun u => u = t14) ∧
  callG Try.prog 41 #[t17, t18, (.int .i64 (-1))] w fun t19_6 w =>
  stn 5 t11_5 t16_1 w fun w =>
  stn 5 t12_6 t19_6 w fun w =>
  fa 0 t11_5 fun t20_7 =>
  ld1 t20_7 w fun t21_7 =>
  qG Try.prog (Op.unary .not t21_7) w fun t22_7 =>
  bV t22_7
  (ldn 5 t11_5 (World.drew w) fun t28_14 =>
  ldn 5 t12_6 (World.drew w) fun t29_14 =>
  stn 5 t8 t28_14 (World.drew w) fun w =>
  ldn 5 t12_6 w (fun u => u = t29_14) ∧
  stn 5 t9 t29_14 w fun w =>
  qG Try.prog (do loadVar 37 (← asAddr t8)) w fun r8_14 =>
  qG Try.prog (do loadVar 37 (← asAddr t9)) w fun r9_14 =>
  R (.tuple #[r8_14, r9_14, (.bool true)]) w)
  (fa 0 t12_6 fun t24_7 =>
  ld1 t24_7 w fun t25_7 =>
  qG Try.prog (Op.unary .not t25_7) w fun t26_7 =>
  bV t26_7
  (ldn 5 t11_5 (World.drew w) fun t28_15 =>
  ldn 5 t12_6 (World.drew w) fun t29_15 =>
  stn 5 t8 t28_15 (World.drew w) fun w =>
  ldn 5 t12_6 w (fun u => u = t29_15) ∧
  stn 5 t9 t29_15 w fun w =>
  qG Try.prog (do loadVar 37 (← asAddr t8)) w fun r8_15 =>
  qG Try.prog (do loadVar 37 (← asAddr t9)) w fun r9_15 =>
  R (.tuple #[r8_15, r9_15, (.bool true)]) w)
  (simplify_Narrow_s0 R t8 t9 t11_5 t12_6 w)))) ∧
  (newG (zc Try.prog 37) 37 w fun t12_7 w =>
  ldn 5 t7 w (fun u => u = t18) ∧
  ldn 5 t5 w (fun u => u = t17) ∧
  ldn 5 t6 w (fun u => u = t15) ∧
  ldn 5 t4 w (fun u => u = t14) ∧
  callG Try.prog 41 #[t14, t15, (.int .i64 1)] w fun t16_2 w =>
  ldn 5 t7 w (fun u => u = t18) ∧
  ldn 5 t5 w (fun u => u = t17) ∧
  callG Try.prog 41 #[t17, t18, (.int .i64 (-1))] w fun t19_7 w =>
  stn 5 t11_5 t16_2 w fun w =>
  stn 5 t12_7 t19_7 w fun w =>
  fa 0 t11_5 fun t20_8 =>
  ld1 t20_8 w fun t21_8 =>
  qG Try.prog (Op.unary .not t21_8) w fun t22_8 =>
  bV t22_8
  (ldn 5 t11_5 (World.drew w) fun t28_16 =>
  ldn 5 t12_7 (World.drew w) fun t29_16 =>
  stn 5 t8 t28_16 (World.drew w) fun w =>
  ldn 5 t12_7 w (fun u => u = t29_16) ∧
  stn 5 t9 t29_16 w fun w =>
  qG Try.prog (do loadVar 37 (← asAddr t8)) w fun r8_16 =>
  qG Try.prog (do loadVar 37 (← asAddr t9)) w fun r9_16 =>
  R (.tuple #[r8_16, r9_16, (.bool true)]) w)
  (fa 0 t12_7 fun t24_8 =>
  ld1 t24_8 w fun t25_8 =>
  qG Try.prog (Op.unary .not t25_8) w fun t26_8 =>
  bV t26_8
  (ldn 5 t11_5 (World.drew w) fun t28_17 =>
  ldn 5 t12_7 (World.drew w) fun t29_17 =>
  stn 5 t8 t28_17 (World.drew w) fun w =>
  ldn 5 t12_7 w (fun u => u = t29_17) ∧
  stn 5 t9 t29_17 w fun w =>
  qG Try.prog (do loadVar 37 (← asAddr t8)) w fun r8_17 =>
  qG Try.prog (do loadVar 37 (← asAddr t9)) w fun r9_17 =>
  R (.tuple #[r8_17, r9_17, (.bool true)]) w)
  (simplify_Narrow_s0 R t8 t9 t11_5 t12_7 w)))) ∧
  (newG (zc Try.prog 37) 37 (World.drew w) fun t12_8 w =>
  ldn 5 t7 w (fun u => u = t18) ∧
  ldn 5 t5 w (fun u => u = t17) ∧
  ldn 5 t6 w (fun u => u = t15) ∧
  ldn 5 t4 w (fun u => u = t14) ∧
  (callG Try.prog 41 #[t14, t15, (.int .i64 1)] w fun t16_3 w =>
  ldn 5 t7 w (fun u => u = t18) ∧
  ldn 5 t5 w (fun u => u = t17) ∧
  (callG Try.prog 41 #[t17, t18, (.int .i64 (-1))] w fun t19_8 w =>
  newG (zc Try.prog 37) 37 w fun t11_6 w =>
  ldn 5 t7 w (fun u => u = t18) ∧
  ldn 5 t5 w (fun u => u = t17) ∧
  ldn 5 t6 w (fun u => u = t15) ∧
  ldn 5 t4 w (fun u => u = t14) ∧
  stn 5 t11_6 t16_3 w fun w =>
  stn 5 t12_8 t19_8 w fun w =>
  fa 0 t11_6 fun t20_9 =>
  ld1 t20_9 w fun t21_9 =>
  qG Try.prog (Op.unary .not t21_9) w fun t22_9 =>
  bV t22_9
  (ldn 5 t11_6 (World.drew w) fun t28_18 =>
  ldn 5 t12_8 (World.drew w) fun t29_18 =>
  stn 5 t8 t28_18 (World.drew w) fun w =>
  ldn 5 t12_8 w (fun u => u = t29_18) ∧
  stn 5 t9 t29_18 w fun w =>
  qG Try.prog (do loadVar 37 (← asAddr t8)) w fun r8_18 =>
  qG Try.prog (do loadVar 37 (← asAddr t9)) w fun r9_18 =>
  R (.tuple #[r8_18, r9_18, (.bool true)]) w)
  (fa 0 t12_8 fun t24_9 =>
  ld1 t24_9 w fun t25_9 =>
  qG Try.prog (Op.unary .not t25_9) w fun t26_9 =>
  bV t26_9
  (ldn 5 t11_6 (World.drew w) fun t28_19 =>
  ldn 5 t12_8 (World.drew w) fun t29_19 =>
  stn 5 t8 t28_19 (World.drew w) fun w =>
  ldn 5 t12_8 w (fun u => u = t29_19) ∧
  stn 5 t9 t29_19 w fun w =>
  qG Try.prog (do loadVar 37 (← asAddr t8)) w fun r8_19 =>
  qG Try.prog (do loadVar 37 (← asAddr t9)) w fun r9_19 =>
  R (.tuple #[r8_19, r9_19, (.bool true)]) w)
  (simplify_Narrow_s0 R t8 t9 t11_6 t12_8 w))) ∧
  (newG (zc Try.prog 37) 37 w fun t11_7 w =>
  ldn 5 t7 w (fun u => u = t18) ∧
  ldn 5 t5 w (fun u => u = t17) ∧
  ldn 5 t6 w (fun u => u = t15) ∧
  ldn 5 t4 w (fun u => u = t14) ∧
  callG Try.prog 41 #[t17, t18, (.int .i64 (-1))] w fun t19_9 w =>
  stn 5 t11_7 t16_3 w fun w =>
  stn 5 t12_8 t19_9 w fun w =>
  fa 0 t11_7 fun t20_10 =>
  ld1 t20_10 w fun t21_10 =>
  qG Try.prog (Op.unary .not t21_10) w fun t22_10 =>
  bV t22_10
  (ldn 5 t11_7 (World.drew w) fun t28_20 =>
  ldn 5 t12_8 (World.drew w) fun t29_20 =>
  stn 5 t8 t28_20 (World.drew w) fun w =>
  ldn 5 t12_8 w (fun u => u = t29_20) ∧
  stn 5 t9 t29_20 w fun w =>
  qG Try.prog (do loadVar 37 (← asAddr t8)) w fun r8_20 =>
  qG Try.prog (do loadVar 37 (← asAddr t9)) w fun r9_20 =>
  R (.tuple #[r8_20, r9_20, (.bool true)]) w)
  (fa 0 t12_8 fun t24_10 =>
  ld1 t24_10 w fun t25_10 =>
  qG Try.prog (Op.unary .not t25_10) w fun t26_10 =>
  bV t26_10
  (ldn 5 t11_7 (World.drew w) fun t28_21 =>
  ldn 5 t12_8 (World.drew w) fun t29_21 =>
  stn 5 t8 t28_21 (World.drew w) fun w =>
  ldn 5 t12_8 w (fun u => u = t29_21) ∧
  stn 5 t9 t29_21 w fun w =>
  qG Try.prog (do loadVar 37 (← asAddr t8)) w fun r8_21 =>
  qG Try.prog (do loadVar 37 (← asAddr t9)) w fun r9_21 =>
  R (.tuple #[r8_21, r9_21, (.bool true)]) w)
  (simplify_Narrow_s0 R t8 t9 t11_7 t12_8 w)))) ∧
  (newG (zc Try.prog 37) 37 w fun t11_8 w =>
  ldn 5 t7 w (fun u => u = t18) ∧
  ldn 5 t5 w (fun u => u = t17) ∧
  ldn 5 t6 w (fun u => u = t15) ∧
  ldn 5 t4 w (fun u => u = t14) ∧
  callG Try.prog 41 #[t14, t15, (.int .i64 1)] w fun t16_4 w =>
  ldn 5 t7 w (fun u => u = t18) ∧
  ldn 5 t5 w (fun u => u = t17) ∧
  callG Try.prog 41 #[t17, t18, (.int .i64 (-1))] w fun t19_10 w =>
  stn 5 t11_8 t16_4 w fun w =>
  stn 5 t12_8 t19_10 w fun w =>
  fa 0 t11_8 fun t20_11 =>
  ld1 t20_11 w fun t21_11 =>
  qG Try.prog (Op.unary .not t21_11) w fun t22_11 =>
  bV t22_11
  (ldn 5 t11_8 (World.drew w) fun t28_22 =>
  ldn 5 t12_8 (World.drew w) fun t29_22 =>
  stn 5 t8 t28_22 (World.drew w) fun w =>
  ldn 5 t12_8 w (fun u => u = t29_22) ∧
  stn 5 t9 t29_22 w fun w =>
  qG Try.prog (do loadVar 37 (← asAddr t8)) w fun r8_22 =>
  qG Try.prog (do loadVar 37 (← asAddr t9)) w fun r9_22 =>
  R (.tuple #[r8_22, r9_22, (.bool true)]) w)
  (fa 0 t12_8 fun t24_11 =>
  ld1 t24_11 w fun t25_11 =>
  qG Try.prog (Op.unary .not t25_11) w fun t26_11 =>
  bV t26_11
  (ldn 5 t11_8 (World.drew w) fun t28_23 =>
  ldn 5 t12_8 (World.drew w) fun t29_23 =>
  stn 5 t8 t28_23 (World.drew w) fun w =>
  ldn 5 t12_8 w (fun u => u = t29_23) ∧
  stn 5 t9 t29_23 w fun w =>
  qG Try.prog (do loadVar 37 (← asAddr t8)) w fun r8_23 =>
  qG Try.prog (do loadVar 37 (← asAddr t9)) w fun r9_23 =>
  R (.tuple #[r8_23, r9_23, (.bool true)]) w)
  (simplify_Narrow_s0 R t8 t9 t11_8 t12_8 w))))
theorem simplify_Narrow_s1_eq (R : Value → World → Prop) : ∀ e w, lift Try.prog 53 (bodyOf Try.f26) (finK Try.prog Try.f26.results.toList R) e w = simplify_Narrow_s1 R (e 0) (e 1) (e 2) (e 3) w :=
  segs_eq (l := [(sub (bodyOf Try.f26) [0]), (sub (bodyOf Try.f26) [1, 0]), (sub (bodyOf Try.f26) [1, 1, 0])]) (y := (sub (bodyOf Try.f26) [1, 1, 1])) (Y := (fun e w => simplify_Narrow_s0 R (e 8) (e 9) (e 11) (e 12) w)) (simplify_Narrow_s0_eq R) (fun e w => by kernel_rfl)
def simplify_Narrow (R : Value → World → Prop) (x0 x1 x2 x3 : Value) (w : World) : Prop := simplify_Narrow_s1 R x0 x1 x2 x3 w
theorem simplify_Narrow_call {R : Value → World → Prop} {x0 x1 x2 x3 : Value} {w : World} (h : simplify_Narrow R x0 x1 x2 x3 w) : callG Try.prog 26 #[x0, x1, x2, x3] w R :=
  calls_lift_eq Try.mixed Try.func26 (args := [x0, x1, x2, x3]) rfl rfl rfl rfl ((simplify_Narrow_s1_eq R) (envOf [x0, x1, x2, x3]) w) (by kernel_rfl) h
/-! quayside/stat.in -/
def stat_in_s0 (R : Value → World → Prop) (x0 x1 x2 : Value) (w : World) : Prop :=
  newG (Value.cells x0) 35 w fun t3 w =>
  newG (Value.cells x1) 37 w fun t4 w =>
  newG (Value.cells x2) 37 w fun t5 w =>
  ldn 3 t3 w fun t11 =>
  bld [(0, 1), (1, 1), (2, 3)] (zc Try.prog 37) #[(0, (.bool true)), (2, t11)] fun t12 =>
  newG (zc Try.prog 37) 37 w fun t7 w =>
  stn 5 t7 t12 w fun w =>
  ldn 5 t4 w fun t14 =>
  ldn 5 t5 w fun t15 =>
  ldn 5 t7 w fun t16 =>
  ldn 5 t7 w fun t17 =>
  callG Try.prog 26 #[t14, t15, t16, t17] w fun t18 w =>
  qG Try.prog (Instr.extract t18 0) w fun t19 =>
  qG Try.prog (Instr.extract t18 1) w fun t20 =>
  qG Try.prog (Instr.extract t18 2) w fun t21 =>
  newG (zc Try.prog 37) 37 w fun t8 w =>
  newG (zc Try.prog 37) 37 w fun t9 w =>
  stn 5 t8 t19 w fun w =>
  stn 5 t9 t20 w fun w =>
  R t21 w
theorem stat_in_s0_eq (R : Value → World → Prop) : ∀ e w, lift Try.prog 23 (bodyOf Try.f27) (finK Try.prog Try.f27.results.toList R) e w = stat_in_s0 R (e 0) (e 1) (e 2) w := fun e w => by kernel_rfl
def stat_in (R : Value → World → Prop) (x0 x1 x2 : Value) (w : World) : Prop := stat_in_s0 R x0 x1 x2 w
theorem stat_in_call {R : Value → World → Prop} {x0 x1 x2 : Value} {w : World} (h : stat_in R x0 x1 x2 w) : callG Try.prog 27 #[x0, x1, x2] w R :=
  calls_lift_eq Try.mixed Try.func27 (args := [x0, x1, x2]) rfl rfl rfl rfl ((stat_in_s0_eq R) (envOf [x0, x1, x2]) w) (by kernel_rfl) h
/-! quayside/stat.share -/
def stat_share_s0 (R : Value → World → Prop) (x0 x1 x2 : Value) (w : World) : Prop :=
  qG Try.prog (bq .quo 3 (.tmp 7) (.tmp 8) x0 x2) (World.drew w) fun t9 =>
  qG Try.prog (bq .mul 3 (.tmp 9) (.tmp 10) t9 x1) (World.drew w) fun t11 =>
  qG Try.prog (bq .rem 3 (.tmp 12) (.tmp 13) x0 x2) (World.drew w) fun t14 =>
  qG Try.prog (bq .mul 3 (.tmp 14) (.tmp 15) t14 x1) (World.drew w) fun t16 =>
  qG Try.prog (bq .quo 3 (.tmp 16) (.tmp 17) t16 x2) (World.drew w) fun t18 =>
  qG Try.prog (bq .add 3 (.tmp 11) (.tmp 18) t11 t18) (World.drew w) fun t19 =>
  R t19 (World.drew w)
theorem stat_share_s0_eq (R : Value → World → Prop) : ∀ e w, lift Try.prog 20 (bodyOf Try.f28) (finK Try.prog Try.f28.results.toList R) e w = stat_share_s0 R (e 0) (e 1) (e 2) w := fun e w => by kernel_rfl
def stat_share (R : Value → World → Prop) (x0 x1 x2 : Value) (w : World) : Prop := stat_share_s0 R x0 x1 x2 w
theorem stat_share_call {R : Value → World → Prop} {x0 x1 x2 : Value} {w : World} (h : stat_share R x0 x1 x2 w) : callG Try.prog 28 #[x0, x1, x2] w R :=
  calls_lift_eq Try.mixed Try.func28 (args := [x0, x1, x2]) rfl rfl rfl rfl ((stat_share_s0_eq R) (envOf [x0, x1, x2]) w) (by kernel_rfl) h
/-! quayside/stat.Between -/
def stat_Between_s0 (R : Value → World → Prop) (x4 x9 x14 : Value) (w : World) : Prop :=
  fa 0 x4 fun t52 =>
  ld1 t52 w fun t53 =>
  fa 0 x9 fun t54 =>
  ld1 t54 w fun t55 =>
  qG Try.prog (bq .sub 3 (.tmp 53) (.tmp 55) t53 t55) w fun t56 =>
  qG Try.prog (bq .sub 3 (.tmp 56) (.const (.int .i64 1)) t56 (.int .i64 1)) w fun t57 =>
  fa 2 x9 fun t59 =>
  ld1 t59 w fun t60 =>
  lenL t60 fun t61 =>
  callG Try.prog 28 #[t57, x14, t61] w fun t62 w =>
  qG Try.prog (bq .add 3 (.const (.int .i64 1)) (.tmp 62) (.int .i64 1) t62) w fun t63 =>
  R t63 w
theorem stat_Between_s0_eq (R : Value → World → Prop) : ∀ e w, lift Try.prog 64 (sub (bodyOf Try.f13) [1, 1, 1, 1, 1, 1]) (finK Try.prog Try.f13.results.toList R) e w = stat_Between_s0 R (e 4) (e 9) (e 14) w := fun e w => by kernel_rfl
def stat_Between_b1 (R : Value → World → Prop) (N1 : List Value → World → Prop) (x4 x6 x7 x9 x14 x39 x40 x41 : Value) (w : World) : Prop :=
  qG Try.prog (bq .lss 3 (.tmp 41) (.tmp 40) x41 x40) w fun t42 =>
  bV t42
  (ia 3 x39 x41 fun t43 =>
  ldn 3 t43 w fun t44 =>
  newG (zc Try.prog 35) 35 w fun t16 w =>
  stn 3 t16 t44 w fun w =>
  ldn 3 t16 w fun t45 =>
  ldn 5 x6 w fun t46 =>
  ldn 5 x7 w fun t47 =>
  callG Try.prog 27 #[t45, t46, t47] w fun t48 w =>
  bV t48
  (qG Try.prog (bq .add 3 (.tmp 49) (.const (.int .i64 1)) x14 (.int .i64 1)) w fun t50 =>
  qG Try.prog (bq .add 3 (.tmp 41) (.const (.int .i64 1)) x41 (.int .i64 1)) w fun t51 =>
  N1 [x4, x6, x7, x9, t50, x39, x40, t51] w)
  (qG Try.prog (bq .add 3 (.tmp 41) (.const (.int .i64 1)) x41 (.int .i64 1)) w fun t51_1 =>
  N1 [x4, x6, x7, x9, x14, x39, x40, t51_1] w))
  (stat_Between_s0 R x4 x9 x14 w)
theorem stat_Between_b1_eq (R : Value → World → Prop) (N1 : List Value → World → Prop) : ∀ e w, lift Try.prog 64 (sub (bodyOf Try.f13) [1, 1, 1, 1, 1, 0, 1, 0, 0]) (seqK (fun e w => N1 [e 4, e 6, e 7, e 9, e 14, e 39, e 40, e 41] w) (blockK 0 (seqK (fun e w => stat_Between_s0 R (e 4) (e 9) (e 14) w) (finK Try.prog Try.f13.results.toList R)))) e w = stat_Between_b1 R N1 (e 4) (e 6) (e 7) (e 9) (e 14) (e 39) (e 40) (e 41) w := fun e w => by kernel_rfl
def stat_Between_L2F (R : Value → World → Prop) (N1 : List Value → World → Prop) (xs : List Value) (w : World) : Prop :=
  match xs with
  | [x4, x6, x7, x9, x14, x39, x40, x41] => stat_Between_b1 R N1 x4 x6 x7 x9 x14 x39 x40 x41 w
  | _ => False
def stat_Between_L2 (R : Value → World → Prop) (x4 x6 x7 x9 x14 x39 x40 x41 : Value) (w : World) : Prop :=
  ∃ m, loopV (stat_Between_L2F R) m [x4, x6, x7, x9, x14, x39, x40, x41] w
theorem stat_Between_L2_eq (R : Value → World → Prop) : ∀ e w, lift Try.prog 64 (sub (bodyOf Try.f13) [1, 1, 1, 1, 1, 0, 1, 0]) (blockK 0 (seqK (fun e w => stat_Between_s0 R (e 4) (e 9) (e 14) w) (finK Try.prog Try.f13.results.toList R))) e w = stat_Between_L2 R (e 4) (e 6) (e 7) (e 9) (e 14) (e 39) (e 40) (e 41) w := loop_seg (F := stat_Between_L2F R) (sel := fun e => [e 4, e 6, e 7, e 9, e 14, e 39, e 40, e 41]) fun N1 => (stat_Between_b1_eq R N1)
def stat_Between_s3 (R : Value → World → Prop) (x4 x6 x7 x9 x14 : Value) (w : World) : Prop :=
  fa 2 x9 fun t38 =>
  ld1 t38 w fun t39 =>
  lenL t39 fun t40 =>
  stat_Between_L2 R x4 x6 x7 x9 x14 t39 t40 (.int .i64 0) w
theorem stat_Between_s3_eq (R : Value → World → Prop) : ∀ e w, lift Try.prog 64 (sub (bodyOf Try.f13) [1, 1, 1, 1, 1, 0]) (seqK (fun e w => stat_Between_s0 R (e 4) (e 9) (e 14) w) (finK Try.prog Try.f13.results.toList R)) e w = stat_Between_s3 R (e 4) (e 6) (e 7) (e 9) (e 14) w :=
  segs_eq (l := [(sub (bodyOf Try.f13) [1, 1, 1, 1, 1, 0, 0])]) (y := (sub (bodyOf Try.f13) [1, 1, 1, 1, 1, 0, 1])) (Y := (fun e w => stat_Between_L2 R (e 4) (e 6) (e 7) (e 9) (e 14) (e 39) (e 40) (e 41) w)) (stat_Between_L2_eq R) (fun e w => by kernel_rfl)
def stat_Between_s4 (R : Value → World → Prop) (x4 x6 x7 x9 : Value) (w : World) : Prop :=
  stat_Between_s3 R x4 x6 x7 x9 (.int .i64 0) w
theorem stat_Between_s4_eq (R : Value → World → Prop) : ∀ e w, lift Try.prog 64 (sub (bodyOf Try.f13) [1, 1, 1, 1]) (finK Try.prog Try.f13.results.toList R) e w = stat_Between_s4 R (e 4) (e 6) (e 7) (e 9) w :=
  segs_eq (l := [(sub (bodyOf Try.f13) [1, 1, 1, 1, 0])]) (y := (sub (bodyOf Try.f13) [1, 1, 1, 1, 1])) (Y := (fun e w => stat_Between_s3 R (e 4) (e 6) (e 7) (e 9) (e 14) w)) (seq_seg (x := (sub (bodyOf Try.f13) [1, 1, 1, 1, 1, 0])) (y := (sub (bodyOf Try.f13) [1, 1, 1, 1, 1, 1])) (stat_Between_s0_eq R) (stat_Between_s3_eq R)) (fun e w => by kernel_rfl)
def stat_Between_s5 (R : Value → World → Prop) (x0 x1 x2 x3 : Value) (w : World) : Prop :=
  newG (Value.cells x0) 27 w fun t4 w =>
  newG (Value.cells x2) 37 w fun t6 w =>
  newG (Value.cells x3) 37 w fun t7 w =>
  ldn 2 t4 w fun t18 =>
  callG Try.prog 24 #[t18, x1] w fun t20 w =>
  qG Try.prog (Instr.extract t20 0) w fun t21 =>
  qG Try.prog (Instr.extract t20 1) w fun t22 =>
  newG (zc Try.prog 32) 32 w fun t9 w =>
  stn 3 t9 t21 w fun w =>
  ldn 5 t6 w fun t24 =>
  ldn 5 t7 w fun t25 =>
  bld [(0, 1), (1, 1), (2, 3)] (zc Try.prog 37) #[] fun t26 =>
  bld [(0, 1), (1, 1), (2, 3)] (zc Try.prog 37) #[] fun t27 =>
  callG Try.prog 26 #[t24, t25, t26, t27] w fun t28 w =>
  qG Try.prog (Instr.extract t28 0) w fun t29 =>
  qG Try.prog (Instr.extract t28 1) w fun t30 =>
  qG Try.prog (Instr.extract t28 2) w fun t31 =>
  newG (zc Try.prog 37) 37 w fun t11 w =>
  newG (zc Try.prog 37) 37 w fun t12 w =>
  stn 5 t11 t29 w fun w =>
  stn 5 t12 t30 w fun w =>
  qG Try.prog (Op.unary .not t22) w fun t33 =>
  bV t33
  (R (.int .i64 0) w)
  (qG Try.prog (Op.unary .not t31) w fun t36 =>
  bV t36
  (R (.int .i64 0) w)
  (stat_Between_s4 R t4 t6 t7 t9 w))
theorem stat_Between_s5_eq (R : Value → World → Prop) : ∀ e w, lift Try.prog 64 (bodyOf Try.f13) (finK Try.prog Try.f13.results.toList R) e w = stat_Between_s5 R (e 0) (e 1) (e 2) (e 3) w :=
  segs_eq (l := [(sub (bodyOf Try.f13) [0]), (sub (bodyOf Try.f13) [1, 0]), (sub (bodyOf Try.f13) [1, 1, 0]), (sub (bodyOf Try.f13) [1, 1, 1, 0])]) (y := (sub (bodyOf Try.f13) [1, 1, 1, 1])) (Y := (fun e w => stat_Between_s4 R (e 4) (e 6) (e 7) (e 9) w)) (stat_Between_s4_eq R) (fun e w => by kernel_rfl)
def stat_Between (R : Value → World → Prop) (x0 x1 x2 x3 : Value) (w : World) : Prop := stat_Between_s5 R x0 x1 x2 x3 w
theorem stat_Between_call {R : Value → World → Prop} {x0 x1 x2 x3 : Value} {w : World} (h : stat_Between R x0 x1 x2 x3 w) : callG Try.prog 13 #[x0, x1, x2, x3] w R :=
  calls_lift_eq Try.mixed Try.func13 (args := [x0, x1, x2, x3]) rfl rfl rfl rfl ((stat_Between_s5_eq R) (envOf [x0, x1, x2, x3]) w) (by kernel_rfl) h
/-! quayside/stat.Kept -/
def stat_Kept_s0 (R : Value → World → Prop) (x5 : Value) (w : World) : Prop :=
  R x5 w
theorem stat_Kept_s0_eq (R : Value → World → Prop) : ∀ e w, lift Try.prog 46 (sub (bodyOf Try.f21) [1, 1, 1]) (finK Try.prog Try.f21.results.toList R) e w = stat_Kept_s0 R (e 5) w := fun e w => by kernel_rfl
def stat_Kept_b1 (R : Value → World → Prop) (N1 : List Value → World → Prop) (x2 x5 x15 x16 x17 : Value) (w : World) : Prop :=
  qG Try.prog (bq .lss 3 (.tmp 17) (.tmp 16) x17 x16) w fun t18 =>
  bV t18
  (ia 12 x15 x17 fun t19 =>
  ldn 12 t19 w fun t20 =>
  newG (zc Try.prog 62) 62 w fun t7 w =>
  stn 12 t7 t20 w fun w =>
  qG Try.prog (bq .eql 3 (.tmp 21) (.const (.int .i64 0)) x5 (.int .i64 0)) w fun t22 =>
  bV t22
  (stat_Kept_s0 R x5 w)
  (ldn 12 t7 w fun t24 =>
  callG Try.prog 33 #[t24] w fun t25 w =>
  qG Try.prog (Instr.extract t25 0) w fun t26 =>
  qG Try.prog (Instr.extract t25 1) w fun t27 =>
  qG Try.prog (Instr.extract t25 2) w fun t28 =>
  qG Try.prog (Instr.extract t25 3) w fun t29 =>
  newG (zc Try.prog 37) 37 w fun t9 w =>
  newG (zc Try.prog 37) 37 w fun t10 w =>
  stn 5 t9 t27 w fun w =>
  stn 5 t10 t28 w fun w =>
  bV t29
  (ldn 2 x2 (World.drew w) fun t32 =>
  ldn 5 t9 (World.drew w) fun t34 =>
  ldn 5 t10 (World.drew w) fun t35 =>
  fa 0 x2 fun t37 =>
  ld1 t37 (World.drew w) fun t38 =>
  callG Try.prog 13 #[t32, t26, t34, t35] (World.drew w) fun t36 w =>
  ld1 t37 w (fun u => u = t38) ∧
  callG Try.prog 28 #[x5, t36, t38] w fun t39 w =>
  qG Try.prog (bq .add 3 (.tmp 17) (.const (.int .i64 1)) x17 (.int .i64 1)) w fun t44 =>
  N1 [x2, t39, x15, x16, t44] w)
  (qG Try.prog (bq .quo 3 (.tmp 41) (.const (.int .i64 2)) x5 (.int .i64 2)) w fun t42 =>
  qG Try.prog (bq .sub 3 (.tmp 40) (.tmp 42) x5 t42) w fun t43 =>
  qG Try.prog (bq .add 3 (.tmp 17) (.const (.int .i64 1)) x17 (.int .i64 1)) w fun t44_1 =>
  N1 [x2, t43, x15, x16, t44_1] w)))
  (stat_Kept_s0 R x5 w)
theorem stat_Kept_b1_eq (R : Value → World → Prop) (N1 : List Value → World → Prop) : ∀ e w, lift Try.prog 46 (sub (bodyOf Try.f21) [1, 1, 0, 1, 0, 0]) (seqK (fun e w => N1 [e 2, e 5, e 15, e 16, e 17] w) (blockK 0 (seqK (fun e w => stat_Kept_s0 R (e 5) w) (finK Try.prog Try.f21.results.toList R)))) e w = stat_Kept_b1 R N1 (e 2) (e 5) (e 15) (e 16) (e 17) w := fun e w => by kernel_rfl
def stat_Kept_L2F (R : Value → World → Prop) (N1 : List Value → World → Prop) (xs : List Value) (w : World) : Prop :=
  match xs with
  | [x2, x5, x15, x16, x17] => stat_Kept_b1 R N1 x2 x5 x15 x16 x17 w
  | _ => False
def stat_Kept_L2 (R : Value → World → Prop) (x2 x5 x15 x16 x17 : Value) (w : World) : Prop :=
  ∃ m, loopV (stat_Kept_L2F R) m [x2, x5, x15, x16, x17] w
theorem stat_Kept_L2_eq (R : Value → World → Prop) : ∀ e w, lift Try.prog 46 (sub (bodyOf Try.f21) [1, 1, 0, 1, 0]) (blockK 0 (seqK (fun e w => stat_Kept_s0 R (e 5) w) (finK Try.prog Try.f21.results.toList R))) e w = stat_Kept_L2 R (e 2) (e 5) (e 15) (e 16) (e 17) w := loop_seg (F := stat_Kept_L2F R) (sel := fun e => [e 2, e 5, e 15, e 16, e 17]) fun N1 => (stat_Kept_b1_eq R N1)
def stat_Kept_s3 (R : Value → World → Prop) (x1 x2 x5 : Value) (w : World) : Prop :=
  lenL x1 fun t16 =>
  stat_Kept_L2 R x2 x5 x1 t16 (.int .i64 0) w
theorem stat_Kept_s3_eq (R : Value → World → Prop) : ∀ e w, lift Try.prog 46 (sub (bodyOf Try.f21) [1, 1, 0]) (seqK (fun e w => stat_Kept_s0 R (e 5) w) (finK Try.prog Try.f21.results.toList R)) e w = stat_Kept_s3 R (e 1) (e 2) (e 5) w :=
  segs_eq (l := [(sub (bodyOf Try.f21) [1, 1, 0, 0])]) (y := (sub (bodyOf Try.f21) [1, 1, 0, 1])) (Y := (fun e w => stat_Kept_L2 R (e 2) (e 5) (e 15) (e 16) (e 17) w)) (stat_Kept_L2_eq R) (fun e w => by kernel_rfl)
def stat_Kept_s4 (R : Value → World → Prop) (x0 x1 : Value) (w : World) : Prop :=
  newG (Value.cells x0) 27 w fun t2 w =>
  fa 0 t2 fun t12 =>
  ld1 t12 w fun t13 =>
  qG Try.prog (Builtin.max_ #[3, 3] 3 #[(.int .i64 0), t13]) w fun t14 =>
  stat_Kept_s3 R x1 t2 t14 w
theorem stat_Kept_s4_eq (R : Value → World → Prop) : ∀ e w, lift Try.prog 46 (bodyOf Try.f21) (finK Try.prog Try.f21.results.toList R) e w = stat_Kept_s4 R (e 0) (e 1) w :=
  segs_eq (l := [(sub (bodyOf Try.f21) [0]), (sub (bodyOf Try.f21) [1, 0])]) (y := (sub (bodyOf Try.f21) [1, 1])) (Y := (fun e w => stat_Kept_s3 R (e 1) (e 2) (e 5) w)) (seq_seg (x := (sub (bodyOf Try.f21) [1, 1, 0])) (y := (sub (bodyOf Try.f21) [1, 1, 1])) (stat_Kept_s0_eq R) (stat_Kept_s3_eq R)) (fun e w => by kernel_rfl)
def stat_Kept (R : Value → World → Prop) (x0 x1 : Value) (w : World) : Prop := stat_Kept_s4 R x0 x1 w
theorem stat_Kept_call {R : Value → World → Prop} {x0 x1 : Value} {w : World} (h : stat_Kept R x0 x1 w) : callG Try.prog 21 #[x0, x1] w R :=
  calls_lift_eq Try.mixed Try.func21 (args := [x0, x1]) rfl rfl rfl rfl ((stat_Kept_s4_eq R) (envOf [x0, x1]) w) (by kernel_rfl) h
/-! quayside/stat.Joined -/
def stat_Joined_s0 (R : Value → World → Prop) (x2 x5 x13 x15 : Value) (w : World) : Prop :=
  qG Try.prog (Builtin.min_ #[3, 3] 3 #[x2, (.int .i64 1073741824)]) w fun t44 =>
  qG Try.prog (Builtin.min_ #[3, 3] 3 #[x5, (.int .i64 1073741824)]) w fun t46 =>
  qG Try.prog (bq .mul 3 (.tmp 44) (.tmp 46) t44 t46) w fun t47 =>
  fa 1 x13 fun t48 =>
  ld1 t48 w fun t49 =>
  fa 1 x15 fun t50 =>
  ld1 t50 w fun t51 =>
  qG Try.prog (Builtin.max_ #[3, 3, 3] 3 #[(.int .i64 1), t49, t51]) w fun t52 =>
  qG Try.prog (bq .quo 3 (.tmp 47) (.tmp 52) t47 t52) w fun t53 =>
  qG Try.prog (Builtin.max_ #[3, 3] 3 #[(.int .i64 1), t53]) w fun t54 =>
  qG Try.prog (Builtin.min_ #[3, 3] 3 #[(.int .i64 1099511627776), t54]) w fun t55 =>
  R t55 w
theorem stat_Joined_s0_eq (R : Value → World → Prop) : ∀ e w, lift Try.prog 56 (sub (bodyOf Try.f17) [1, 1, 1, 1]) (finK Try.prog Try.f17.results.toList R) e w = stat_Joined_s0 R (e 2) (e 5) (e 13) (e 15) w := fun e w => by kernel_rfl
def stat_Joined_s1 (R : Value → World → Prop) (x0 x1 x2 x3 x4 x5 : Value) (w : World) : Prop :=
  newG (Value.cells x0) 27 w fun t6 w =>
  newG (Value.cells x3) 27 w fun t9 w =>
  ldn 2 t6 w fun t18 =>
  callG Try.prog 24 #[t18, x1] w fun t20 w =>
  qG Try.prog (Instr.extract t20 0) w fun t21 =>
  qG Try.prog (Instr.extract t20 1) w fun t22 =>
  newG (zc Try.prog 32) 32 w fun t13 w =>
  stn 3 t13 t21 w fun w =>
  ldn 2 t9 w fun t24 =>
  callG Try.prog 24 #[t24, x4] w fun t26 w =>
  qG Try.prog (Instr.extract t26 0) w fun t27 =>
  qG Try.prog (Instr.extract t26 1) w fun t28 =>
  newG (zc Try.prog 32) 32 w fun t15 w =>
  stn 3 t15 t27 w fun w =>
  qG Try.prog (Op.unary .not t22) w fun t30 =>
  bV t30
  (R (.int .i64 0) w)
  (qG Try.prog (Op.unary .not t28) w fun t33 =>
  bV t33
  (R (.int .i64 0) w)
  (qG Try.prog (bq .lss 3 (.tmp 36) (.const (.int .i64 1)) x2 (.int .i64 1)) w fun t37 =>
  bV t37
  (R (.int .i64 0) w)
  (qG Try.prog (bq .lss 3 (.tmp 40) (.const (.int .i64 1)) x5 (.int .i64 1)) w fun t41 =>
  bV t41
  (R (.int .i64 0) w)
  (stat_Joined_s0 R x2 x5 t13 t15 w))))
theorem stat_Joined_s1_eq (R : Value → World → Prop) : ∀ e w, lift Try.prog 56 (bodyOf Try.f17) (finK Try.prog Try.f17.results.toList R) e w = stat_Joined_s1 R (e 0) (e 1) (e 2) (e 3) (e 4) (e 5) w :=
  segs_eq (l := [(sub (bodyOf Try.f17) [0]), (sub (bodyOf Try.f17) [1, 0]), (sub (bodyOf Try.f17) [1, 1, 0]), (sub (bodyOf Try.f17) [1, 1, 1, 0])]) (y := (sub (bodyOf Try.f17) [1, 1, 1, 1])) (Y := (fun e w => stat_Joined_s0 R (e 2) (e 5) (e 13) (e 15) w)) (stat_Joined_s0_eq R) (fun e w => by kernel_rfl)
def stat_Joined (R : Value → World → Prop) (x0 x1 x2 x3 x4 x5 : Value) (w : World) : Prop := stat_Joined_s1 R x0 x1 x2 x3 x4 x5 w
theorem stat_Joined_call {R : Value → World → Prop} {x0 x1 x2 x3 x4 x5 : Value} {w : World} (h : stat_Joined R x0 x1 x2 x3 x4 x5 w) : callG Try.prog 17 #[x0, x1, x2, x3, x4, x5] w R :=
  calls_lift_eq Try.mixed Try.func17 (args := [x0, x1, x2, x3, x4, x5]) rfl rfl rfl rfl ((stat_Joined_s1_eq R) (envOf [x0, x1, x2, x3, x4, x5]) w) (by kernel_rfl) h
end Go.Proofs

/- Layer 22: the tighter end of two. -/
set_option maxRecDepth 100000
set_option linter.unusedVariables false
set_option linter.unusedSimpArgs false
namespace Go.Proofs
open Go Go.Q
def bC (b : Bd) : List Value := [.bool b.has, .bool b.open_] ++ valV b.val
def bdA (b : Bd) : Value := .agg (bC b).toArray
theorem zcBd : zc Try.prog 37 = [.bool false, .bool false, .int .i64 0, .int .i64 0, .string (str [])].toArray := by kernel_rfl
theorem bd_val (b : Bd) : (bC b).toArray.extract 2 (2 + 3) = (valV b.val).toArray := rfl
theorem bC_one (b : Bd) : (bC b).toArray.all Q.one = true := by simp [bC, valV]
theorem tighter_spec {w : World} (a b : Bd) {sg : Int} (hs : sg = 1 ∨ sg = -1) {R : Value → World → Prop} (hK : ∀ w', Kp [] w w' → R (bdA (tightV a b sg)) w') : callG Try.prog 41 #[bdA a, bdA b, .int .i64 sg] w R := by
  refine simplify_tighter_call ?_
  unfold simplify_tighter simplify_tighter_s0 bdA
  refine argB fun p w1 hp h1 k1 => ?_
  refine argB fun q w2 hq h2 k2 => ?_
  refine newB fun z w3 hz h3 k3 => ?_
  have s1 := k1.size
  have s2 := k2.size
  have l1 := lt_of_blk h1
  have l2 := lt_of_blk h2
  have k03 := (k1.trans' k2).trans' k3
  have h13 := k3.get (k2.get h1 (by simp)) (by simp)
  have h23 := k3.get h2 (by simp)
  have ret : ∀ (w' : World) (c : Bd), Kp [] w w' → w'.heap[z]? = some (.cells (zc Try.prog 37) 37) → tightV a b sg = c → stn 5 (.pointer (some ⟨z, 0, none⟩)) (.agg (bC c).toArray) w' fun w => qG Try.prog (do loadVar 37 (← asAddr (.pointer (some ⟨z, 0, none⟩)))) w fun r6 => R r6 w := by
    intro w' c hk' hz' hc
    refine retB (by kernel_rfl) (by kernel_rfl) hz' (by rw [zcBd]; rfl) rfl (bC_one c) fun w6 hk6 => ?_
    have := hK w6 (hk'.trans hk6 fun x hx hlt => by simp at hx; omega)
    rw [hc] at this
    exact this
  rw [fa_p, ldF (x := .bool a.has) h13 rfl]
  simp only [un_not, bV_b]
  refine ⟨fun ha => ?_, fun ha => ?_⟩
  · have ha : a.has = false := by simpa using ha
    rw [ldA (k := 5) h23 rfl]
    exact ret w3 b k03 h3 (by unfold tightV; rw [if_pos ha])
  · have ha : a.has = true := by simpa using ha
    rw [fa_p, ldF (x := .bool b.has) h23 rfl]
    simp only [un_not, bV_b]
    refine ⟨fun hb => ?_, fun hb => ?_⟩
    · have hb : b.has = false := by simpa using hb
      rw [ldA (k := 5) h13 rfl]
      exact ret w3 a k03 h3 (by unfold tightV; rw [if_neg (by simp [ha]), if_pos hb])
    · have hb : b.has = true := by simpa using hb
      have hb0 := cmpV_bnd a.val b.val
      rw [fa_p, ldP (k := 3) h13 (bd_val a) (by simp [bC, valV]), fa_p, ldP (k := 3) h23 (bd_val b) (by simp [bC, valV])]
      refine vCompare_spec a.val b.val fun w4 _ k4 => ?_
      have hw : IntKind.i64.wrap (cmpV a.val b.val * sg) = cmpV a.val b.val * sg := by
        rcases hs with rfl | rfl
        · exact w64 (by omega) (by omega)
        · exact w64 (by omega) (by omega)
      have h14 := k4.get h13 (by simp)
      have h24 := k4.get h23 (by simp)
      have h34 := k4.get h3 (by simp)
      have k04 := k03.trans' k4
      simp only [bq_mul, hw, bq_lss, bV_b, decide_eq_true_eq, decide_eq_false_iff_not, bq_eql]
      have e : tightV a b sg = if cmpV a.val b.val * sg < 0 then b else if cmpV a.val b.val * sg = 0 then ⟨a.has, a.open_ || b.open_, a.val⟩ else a := by
        unfold tightV; rw [if_neg (by simp [ha]), if_neg (by simp [hb])]
      refine ⟨fun hc => ?_, fun hc => ⟨fun h0 => ?_, fun h0 => ?_⟩⟩
      · rw [ldA (k := 5) h24 rfl]
        exact ret w4 b k04 h34 (by rw [e, if_pos hc])
      · have fin : ∀ x : Bool, x = (a.open_ || b.open_) → st1 (.pointer (some ⟨p, 0 + 1, none⟩)) (.bool x) w4 fun w => ldn 5 (.pointer (some ⟨p, 0, none⟩)) w fun t39 => stn 5 (.pointer (some ⟨z, 0, none⟩)) t39 w fun w => qG Try.prog (do loadVar 37 (← asAddr (.pointer (some ⟨z, 0, none⟩)))) w fun r6 => R r6 w := by
          intro x hx
          rw [stF (j := 0 + 1) h14 (by simp [bC, valV]) rfl]
          have ec : (bC a).toArray.setIfInBounds (0 + 1) (.bool x) = (bC ⟨a.has, x, a.val⟩).toArray := rfl
          rw [ec, ldA (k := 5) (heap_self (live_of h14)) rfl]
          have hpz : ¬ p = z := by omega
          exact ret _ ⟨a.has, x, a.val⟩ (k04.setBlk (.inr hp) _) (by rw [heap_ne hpz]; exact h34) (by rw [e, if_neg hc, if_pos h0, hx])
        rw [fa_p, ldF (x := .bool a.open_) h14 rfl]
        simp only [bV_b]
        refine ⟨fun ho => ?_, fun ho => ?_⟩
        · rw [fa_p]
          exact fin true (by rw [ho]; rfl)
        · rw [fa_p, ldF (x := .bool b.open_) h24 rfl, fa_p]
          exact fin b.open_ (by rw [ho]; rfl)
      · rw [ldA (k := 5) h14 rfl]
        exact ret w4 a k04 h34 (by rw [e, if_neg hc, if_neg h0])
end Go.Proofs

/- Layer 22: the orders in which Narrow may go. (Written by gen_nw22.py.) -/
set_option maxRecDepth 100000
set_option linter.unusedVariables false
set_option linter.unusedSimpArgs false
namespace Go.Proofs
open Go Go.Q
def nwF (R : Value → World → Prop) (t8 t9 t11 t12 t16 t19 : Value) (w : World) : Prop :=
  stn 5 t11 t16 w fun w =>
  stn 5 t12 t19 w fun w =>
  fa 0 t11 fun t20 =>
  ld1 t20 w fun t21 =>
  qG Try.prog (Op.unary .not t21) w fun t22 =>
  bV t22
  (ldn 5 t11 (World.drew w) fun t28 =>
  ldn 5 t12 (World.drew w) fun t29 =>
  stn 5 t8 t28 (World.drew w) fun w =>
  ldn 5 t12 w (fun u => u = t29) ∧
  stn 5 t9 t29 w fun w =>
  qG Try.prog (do loadVar 37 (← asAddr t8)) w fun r8 =>
  qG Try.prog (do loadVar 37 (← asAddr t9)) w fun r9 =>
  R (.tuple #[r8, r9, (.bool true)]) w)
  (fa 0 t12 fun t24 =>
  ld1 t24 w fun t25 =>
  qG Try.prog (Op.unary .not t25) w fun t26 =>
  bV t26
  (ldn 5 t11 (World.drew w) fun t28_1 =>
  ldn 5 t12 (World.drew w) fun t29_1 =>
  stn 5 t8 t28_1 (World.drew w) fun w =>
  ldn 5 t12 w (fun u => u = t29_1) ∧
  stn 5 t9 t29_1 w fun w =>
  qG Try.prog (do loadVar 37 (← asAddr t8)) w fun r8_1 =>
  qG Try.prog (do loadVar 37 (← asAddr t9)) w fun r9_1 =>
  R (.tuple #[r8_1, r9_1, (.bool true)]) w)
  (simplify_Narrow_s0 R t8 t9 t11 t12 w))
theorem narrow_orders {w : World} {a b c d : Bd} {R : Value → World → Prop} (hF : ∀ (wb w' : World) x8 x9 x11 x12, Kp [] w wb → Kp [] wb w' → x8 < x9 → w.heap.size ≤ x8 → x9 < wb.heap.size → wb.heap[x8]? = some (.cells (zc Try.prog 37) 37) → wb.heap[x9]? = some (.cells (zc Try.prog 37) 37) → w'.heap[x11]? = some (.cells (zc Try.prog 37) 37) → w'.heap[x12]? = some (.cells (zc Try.prog 37) 37) → wb.heap.size ≤ x11 → wb.heap.size ≤ x12 → x11 ≠ x12 →
    nwF R (.pointer (some ⟨x8, 0, none⟩)) (.pointer (some ⟨x9, 0, none⟩)) (.pointer (some ⟨x11, 0, none⟩)) (.pointer (some ⟨x12, 0, none⟩)) (bdA (tightV a c 1)) (bdA (tightV b d (-1))) w') : callG Try.prog 26 #[bdA a, bdA b, bdA c, bdA d] w R := by
  refine simplify_Narrow_call ?_
  unfold simplify_Narrow simplify_Narrow_s1
  have e0 : ∀ (v : Bd) (w : World) (k : Value → World → Prop), newG (Value.cells (bdA v)) 37 w k = newG (Value.cells (.agg (bC v).toArray)) 37 w k := fun _ _ _ => rfl
  rw [e0]
  refine argB fun x4 w1 hx4 h4 k1 => ?_
  rw [e0]
  refine argB fun x5 w2 hx5 h5 k2 => ?_
  rw [e0]
  refine argB fun x6 w3 hx6 h6 k3 => ?_
  rw [e0]
  refine argB fun x7 w4 hx7 h7 k4 => ?_
  refine newB fun x8 w5 hx8 h8 k5 => ?_
  refine newB fun x9 w6 hx9 h9 k6 => ?_
  have l8 := lt_of_blk h8
  have l9 := lt_of_blk h9
  have k06 : Kp [] w w6 := ((((k1.trans' k2).trans' k3).trans' k4).trans' k5).trans' k6
  have b4 := (((((k2.trans' k3).trans' k4).trans' k5).trans' k6)).get h4 (by simp)
  have b5 := ((((k3.trans' k4).trans' k5).trans' k6)).get h5 (by simp)
  have b6 := (((k4.trans' k5).trans' k6)).get h6 (by simp)
  have b7 := ((k5.trans' k6)).get h7 (by simp)
  have b8 := k6.get h8 (by simp)
  have s4 := ((k1.trans' k2).trans' k3).trans' k4 |>.size
  have r4 : ∀ w', Kp [] w6 w' → ∀ K : Value → Prop, ldn 5 (.pointer (some ⟨x4, 0, none⟩)) w' K = K (bdA a) := fun w' hk' K => ldA (hk'.get b4 (by simp)) rfl
  have r5 : ∀ w', Kp [] w6 w' → ∀ K : Value → Prop, ldn 5 (.pointer (some ⟨x5, 0, none⟩)) w' K = K (bdA b) := fun w' hk' K => ldA (hk'.get b5 (by simp)) rfl
  have r6 : ∀ w', Kp [] w6 w' → ∀ K : Value → Prop, ldn 5 (.pointer (some ⟨x6, 0, none⟩)) w' K = K (bdA c) := fun w' hk' K => ldA (hk'.get b6 (by simp)) rfl
  have r7 : ∀ w', Kp [] w6 w' → ∀ K : Value → Prop, ldn 5 (.pointer (some ⟨x7, 0, none⟩)) w' K = K (bdA d) := fun w' hk' K => ldA (hk'.get b7 (by simp)) rfl
  have g0 : Kp [] w6 w6.drew := kp_drew
  have zd : w6.drew.heap.size = w6.heap.size := rfl
  rw [r4 _ g0, r6 _ g0, r5 _ g0, r7 _ g0]
  refine ⟨?_, ?_, ?_⟩
  · refine tighter_spec a c (.inl rfl) fun v1 j1 => ?_
    have g1 := g0.trans' j1
    have sz1 := j1.size
    have szg1 := g0.size
    rw [r7 _ g1, r5 _ g1]
    refine ⟨rfl, rfl, ?_⟩
    refine ⟨?_, ?_, ?_⟩
    · refine tighter_spec b d (.inr rfl) fun v2 j2 => ?_
      have g2 := g1.trans' j2
      have sz2 := j2.size
      have szg2 := g1.size
      refine ⟨?_, ?_⟩
      · refine newB fun y3 v3 hy3 hb3 j3 => ?_
        have g3 := g2.trans' j3
        have sz3 := j3.size
        have szg3 := g2.size
        have lt3 := lt_of_blk hb3
        rw [r7 _ g3, r5 _ g3, r6 _ g3, r4 _ g3]
        refine ⟨rfl, rfl, rfl, rfl, ?_⟩
        refine newB fun y4 v4 hy4 hb4 j4 => ?_
        have g4 := g3.trans' j4
        have sz4 := j4.size
        have szg4 := g3.size
        have lt4 := lt_of_blk hb4
        rw [r7 _ g4, r5 _ g4, r6 _ g4, r4 _ g4]
        refine ⟨rfl, rfl, rfl, rfl, ?_⟩
        exact hF w6 _ _ _ _ _ k06 g4 (by omega) (by omega) (by omega) b8 h9 (j4.get hb3 (by simp)) hb4 (by omega) (by omega) (by omega)
      · refine newB fun y3 v3 hy3 hb3 j3 => ?_
        have g3 := g2.trans' j3
        have sz3 := j3.size
        have szg3 := g2.size
        have lt3 := lt_of_blk hb3
        rw [r7 _ g3, r5 _ g3, r6 _ g3, r4 _ g3]
        refine ⟨rfl, rfl, rfl, rfl, ?_⟩
        refine newB fun y4 v4 hy4 hb4 j4 => ?_
        have g4 := g3.trans' j4
        have sz4 := j4.size
        have szg4 := g3.size
        have lt4 := lt_of_blk hb4
        rw [r7 _ g4, r5 _ g4, r6 _ g4, r4 _ g4]
        refine ⟨rfl, rfl, rfl, rfl, ?_⟩
        exact hF w6 _ _ _ _ _ k06 g4 (by omega) (by omega) (by omega) b8 h9 hb4 (j4.get hb3 (by simp)) (by omega) (by omega) (by omega)
    · refine newB fun y2 v2 hy2 hb2 j2 => ?_
      have g2 := g1.trans' j2
      have sz2 := j2.size
      have szg2 := g1.size
      have lt2 := lt_of_blk hb2
      rw [r7 _ g2, r5 _ g2, r6 _ g2, r4 _ g2]
      refine ⟨rfl, rfl, rfl, rfl, ?_⟩
      refine ⟨?_, ?_⟩
      · refine tighter_spec b d (.inr rfl) fun v3 j3 => ?_
        have g3 := g2.trans' j3
        have sz3 := j3.size
        have szg3 := g2.size
        refine newB fun y4 v4 hy4 hb4 j4 => ?_
        have g4 := g3.trans' j4
        have sz4 := j4.size
        have szg4 := g3.size
        have lt4 := lt_of_blk hb4
        rw [r7 _ g4, r5 _ g4, r6 _ g4, r4 _ g4]
        refine ⟨rfl, rfl, rfl, rfl, ?_⟩
        exact hF w6 _ _ _ _ _ k06 g4 (by omega) (by omega) (by omega) b8 h9 (j4.get (j3.get hb2 (by simp)) (by simp)) hb4 (by omega) (by omega) (by omega)
      · refine newB fun y3 v3 hy3 hb3 j3 => ?_
        have g3 := g2.trans' j3
        have sz3 := j3.size
        have szg3 := g2.size
        have lt3 := lt_of_blk hb3
        rw [r7 _ g3, r5 _ g3, r6 _ g3, r4 _ g3]
        refine ⟨rfl, rfl, rfl, rfl, ?_⟩
        refine tighter_spec b d (.inr rfl) fun v4 j4 => ?_
        have g4 := g3.trans' j4
        have sz4 := j4.size
        have szg4 := g3.size
        exact hF w6 _ _ _ _ _ k06 g4 (by omega) (by omega) (by omega) b8 h9 (j4.get (j3.get hb2 (by simp)) (by simp)) (j4.get hb3 (by simp)) (by omega) (by omega) (by omega)
    · refine newB fun y2 v2 hy2 hb2 j2 => ?_
      have g2 := g1.trans' j2
      have sz2 := j2.size
      have szg2 := g1.size
      have lt2 := lt_of_blk hb2
      rw [r7 _ g2, r5 _ g2, r6 _ g2, r4 _ g2]
      refine ⟨rfl, rfl, rfl, rfl, ?_⟩
      refine ⟨?_, ?_⟩
      · refine tighter_spec b d (.inr rfl) fun v3 j3 => ?_
        have g3 := g2.trans' j3
        have sz3 := j3.size
        have szg3 := g2.size
        refine newB fun y4 v4 hy4 hb4 j4 => ?_
        have g4 := g3.trans' j4
        have sz4 := j4.size
        have szg4 := g3.size
        have lt4 := lt_of_blk hb4
        rw [r7 _ g4, r5 _ g4, r6 _ g4, r4 _ g4]
        refine ⟨rfl, rfl, rfl, rfl, ?_⟩
        exact hF w6 _ _ _ _ _ k06 g4 (by omega) (by omega) (by omega) b8 h9 hb4 (j4.get (j3.get hb2 (by simp)) (by simp)) (by omega) (by omega) (by omega)
      · refine newB fun y3 v3 hy3 hb3 j3 => ?_
        have g3 := g2.trans' j3
        have sz3 := j3.size
        have szg3 := g2.size
        have lt3 := lt_of_blk hb3
        rw [r7 _ g3, r5 _ g3, r6 _ g3, r4 _ g3]
        refine ⟨rfl, rfl, rfl, rfl, ?_⟩
        refine tighter_spec b d (.inr rfl) fun v4 j4 => ?_
        have g4 := g3.trans' j4
        have sz4 := j4.size
        have szg4 := g3.size
        exact hF w6 _ _ _ _ _ k06 g4 (by omega) (by omega) (by omega) b8 h9 (j4.get hb3 (by simp)) (j4.get (j3.get hb2 (by simp)) (by simp)) (by omega) (by omega) (by omega)
  · refine newB fun y1 v1 hy1 hb1 j1 => ?_
    have g1 := g0.trans' j1
    have sz1 := j1.size
    have szg1 := g0.size
    have lt1 := lt_of_blk hb1
    rw [r7 _ g1, r5 _ g1, r6 _ g1, r4 _ g1]
    refine ⟨rfl, rfl, rfl, rfl, ?_⟩
    refine ⟨?_, ?_⟩
    · refine tighter_spec a c (.inl rfl) fun v2 j2 => ?_
      have g2 := g1.trans' j2
      have sz2 := j2.size
      have szg2 := g1.size
      rw [r7 _ g2, r5 _ g2]
      refine ⟨rfl, rfl, ?_⟩
      refine ⟨?_, ?_⟩
      · refine tighter_spec b d (.inr rfl) fun v3 j3 => ?_
        have g3 := g2.trans' j3
        have sz3 := j3.size
        have szg3 := g2.size
        refine newB fun y4 v4 hy4 hb4 j4 => ?_
        have g4 := g3.trans' j4
        have sz4 := j4.size
        have szg4 := g3.size
        have lt4 := lt_of_blk hb4
        rw [r7 _ g4, r5 _ g4, r6 _ g4, r4 _ g4]
        refine ⟨rfl, rfl, rfl, rfl, ?_⟩
        exact hF w6 _ _ _ _ _ k06 g4 (by omega) (by omega) (by omega) b8 h9 (j4.get (j3.get (j2.get hb1 (by simp)) (by simp)) (by simp)) hb4 (by omega) (by omega) (by omega)
      · refine newB fun y3 v3 hy3 hb3 j3 => ?_
        have g3 := g2.trans' j3
        have sz3 := j3.size
        have szg3 := g2.size
        have lt3 := lt_of_blk hb3
        rw [r7 _ g3, r5 _ g3, r6 _ g3, r4 _ g3]
        refine ⟨rfl, rfl, rfl, rfl, ?_⟩
        refine tighter_spec b d (.inr rfl) fun v4 j4 => ?_
        have g4 := g3.trans' j4
        have sz4 := j4.size
        have szg4 := g3.size
        exact hF w6 _ _ _ _ _ k06 g4 (by omega) (by omega) (by omega) b8 h9 (j4.get (j3.get (j2.get hb1 (by simp)) (by simp)) (by simp)) (j4.get hb3 (by simp)) (by omega) (by omega) (by omega)
    · refine newB fun y2 v2 hy2 hb2 j2 => ?_
      have g2 := g1.trans' j2
      have sz2 := j2.size
      have szg2 := g1.size
      have lt2 := lt_of_blk hb2
      rw [r7 _ g2, r5 _ g2, r6 _ g2, r4 _ g2]
      refine ⟨rfl, rfl, rfl, rfl, ?_⟩
      refine tighter_spec a c (.inl rfl) fun v3 j3 => ?_
      have g3 := g2.trans' j3
      have sz3 := j3.size
      have szg3 := g2.size
      rw [r7 _ g3, r5 _ g3]
      refine ⟨rfl, rfl, ?_⟩
      refine tighter_spec b d (.inr rfl) fun v4 j4 => ?_
      have g4 := g3.trans' j4
      have sz4 := j4.size
      have szg4 := g3.size
      exact hF w6 _ _ _ _ _ k06 g4 (by omega) (by omega) (by omega) b8 h9 (j4.get (j3.get (j2.get hb1 (by simp)) (by simp)) (by simp)) (j4.get (j3.get hb2 (by simp)) (by simp)) (by omega) (by omega) (by omega)
  · refine newB fun y1 v1 hy1 hb1 j1 => ?_
    have g1 := g0.trans' j1
    have sz1 := j1.size
    have szg1 := g0.size
    have lt1 := lt_of_blk hb1
    rw [r7 _ g1, r5 _ g1, r6 _ g1, r4 _ g1]
    refine ⟨rfl, rfl, rfl, rfl, ?_⟩
    refine ⟨?_, ?_⟩
    · refine tighter_spec a c (.inl rfl) fun v2 j2 => ?_
      have g2 := g1.trans' j2
      have sz2 := j2.size
      have szg2 := g1.size
      rw [r7 _ g2, r5 _ g2]
      refine ⟨rfl, rfl, ?_⟩
      refine ⟨?_, ?_⟩
      · refine tighter_spec b d (.inr rfl) fun v3 j3 => ?_
        have g3 := g2.trans' j3
        have sz3 := j3.size
        have szg3 := g2.size
        refine newB fun y4 v4 hy4 hb4 j4 => ?_
        have g4 := g3.trans' j4
        have sz4 := j4.size
        have szg4 := g3.size
        have lt4 := lt_of_blk hb4
        rw [r7 _ g4, r5 _ g4, r6 _ g4, r4 _ g4]
        refine ⟨rfl, rfl, rfl, rfl, ?_⟩
        exact hF w6 _ _ _ _ _ k06 g4 (by omega) (by omega) (by omega) b8 h9 hb4 (j4.get (j3.get (j2.get hb1 (by simp)) (by simp)) (by simp)) (by omega) (by omega) (by omega)
      · refine newB fun y3 v3 hy3 hb3 j3 => ?_
        have g3 := g2.trans' j3
        have sz3 := j3.size
        have szg3 := g2.size
        have lt3 := lt_of_blk hb3
        rw [r7 _ g3, r5 _ g3, r6 _ g3, r4 _ g3]
        refine ⟨rfl, rfl, rfl, rfl, ?_⟩
        refine tighter_spec b d (.inr rfl) fun v4 j4 => ?_
        have g4 := g3.trans' j4
        have sz4 := j4.size
        have szg4 := g3.size
        exact hF w6 _ _ _ _ _ k06 g4 (by omega) (by omega) (by omega) b8 h9 (j4.get hb3 (by simp)) (j4.get (j3.get (j2.get hb1 (by simp)) (by simp)) (by simp)) (by omega) (by omega) (by omega)
    · refine newB fun y2 v2 hy2 hb2 j2 => ?_
      have g2 := g1.trans' j2
      have sz2 := j2.size
      have szg2 := g1.size
      have lt2 := lt_of_blk hb2
      rw [r7 _ g2, r5 _ g2, r6 _ g2, r4 _ g2]
      refine ⟨rfl, rfl, rfl, rfl, ?_⟩
      refine tighter_spec a c (.inl rfl) fun v3 j3 => ?_
      have g3 := g2.trans' j3
      have sz3 := j3.size
      have szg3 := g2.size
      rw [r7 _ g3, r5 _ g3]
      refine ⟨rfl, rfl, ?_⟩
      refine tighter_spec b d (.inr rfl) fun v4 j4 => ?_
      have g4 := g3.trans' j4
      have sz4 := j4.size
      have szg4 := g3.size
      exact hF w6 _ _ _ _ _ k06 g4 (by omega) (by omega) (by omega) b8 h9 (j4.get (j3.get hb2 (by simp)) (by simp)) (j4.get (j3.get (j2.get hb1 (by simp)) (by simp)) (by simp)) (by omega) (by omega) (by omega)
end Go.Proofs

/- Layer 22: what two ranges say together. -/
set_option maxRecDepth 100000
set_option linter.unusedVariables false
set_option linter.unusedSimpArgs false
namespace Go.Proofs
open Go Go.Q
theorem lvBd {w : World} {b : Nat} {v : Bd} {T : TypeId} {fr : Nat × Nat} (hh : w.heap[b]? = some (.cells (bC v).toArray T fr)) {K : Value → Prop} :
    qG Try.prog (do loadVar 37 (← asAddr (.pointer (some ⟨b, 0, none⟩)))) w K = K (bdA v) := loadVar_of (by kernel_rfl) (by kernel_rfl) hh rfl
section
variable {w wj : World} {x8 x9 x11 x12 : Nat} {A B : Bd} {R : Value → World → Prop}
structure NB (w wj : World) (x8 x9 x11 x12 : Nat) (A B : Bd) : Prop where
  kp : Kp [] w wj
  b8 : wj.heap[x8]? = some (.cells (zc Try.prog 37) 37)
  b9 : wj.heap[x9]? = some (.cells (zc Try.prog 37) 37)
  b11 : wj.heap[x11]? = some (.cells (bC A).toArray 37)
  b12 : wj.heap[x12]? = some (.cells (bC B).toArray 37)
  l8 : w.heap.size ≤ x8
  l89 : x8 < x9
  l11 : x9 < x11
  l12 : x9 < x12
theorem NB.keep {w' : World} (h : NB w wj x8 x9 x11 x12 A B) (hk : Kp [] wj w') : NB w w' x8 x9 x11 x12 A B :=
  ⟨h.kp.trans' hk, hk.get h.b8 (by simp), hk.get h.b9 (by simp), hk.get h.b11 (by simp), hk.get h.b12 (by simp), h.l8, h.l89, h.l11, h.l12⟩
/-- the results' variables, once written -/
theorem NB.st (h : NB w wj x8 x9 x11 x12 A B) {K : World → Prop} (hK : ∀ w', Kp [] w w' → w'.heap[x8]? = some (.cells (bC A).toArray 37) → w'.heap[x9]? = some (.cells (zc Try.prog 37) 37) → w'.heap[x12]? = some (.cells (bC B).toArray 37) → K w') : stn 5 (.pointer (some ⟨x8, 0, none⟩)) (bdA A) wj K := by
  unfold bdA
  have := h.l89
  have := h.l11
  have := h.l12
  rw [stA (k := 5) h.b8 (by rw [zcBd]; rfl) rfl (bC_one A)]
  exact hK _ (h.kp.setBlk (.inr h.l8) _) (heap_self (live_of h.b8)) (by rw [heap_ne (by omega)]; exact h.b9) (by rw [heap_ne (by omega)]; exact h.b12)
theorem nw_ret (h : NB w wj x8 x9 x11 x12 A B) {t : Value} (hR : ∀ w', Kp [] w w' → R (.tuple #[bdA A, bdA B, t]) w') :
    stn 5 (.pointer (some ⟨x8, 0, none⟩)) (bdA A) wj fun w =>
    ldn 5 (.pointer (some ⟨x12, 0, none⟩)) w (fun u => u = bdA B) ∧
    stn 5 (.pointer (some ⟨x9, 0, none⟩)) (bdA B) w fun w =>
    qG Try.prog (do loadVar 37 (← asAddr (.pointer (some ⟨x8, 0, none⟩)))) w fun r8 =>
    qG Try.prog (do loadVar 37 (← asAddr (.pointer (some ⟨x9, 0, none⟩)))) w fun r9 =>
    R (.tuple #[r8, r9, t]) w := by
  refine h.st fun w1 k1 c8 c9 c12 => ?_
  have := h.l89
  have := h.l8
  rw [ldA (k := 5) c12 rfl]
  refine ⟨rfl, ?_⟩
  unfold bdA
  rw [stA (k := 5) c9 (by rw [zcBd]; rfl) rfl (bC_one B), lvBd (v := A) (by rw [heap_ne (by omega)]; exact c8), lvBd (v := B) (heap_self (live_of c9))]
  exact hR _ (k1.setBlk (.inr (by omega)) _)
theorem narrow_s0 (h : NB w wj x8 x9 x11 x12 A B) (ha : A.has = true) (hb : B.has = true) (hR : ∀ w', Kp [] w w' → R (.tuple #[bdA A, bdA B, .bool (bothV A B)]) w') :
    simplify_Narrow_s0 R (.pointer (some ⟨x8, 0, none⟩)) (.pointer (some ⟨x9, 0, none⟩)) (.pointer (some ⟨x11, 0, none⟩)) (.pointer (some ⟨x12, 0, none⟩)) wj := by
  unfold simplify_Narrow_s0
  rw [fa_p, ldP (k := 3) h.b11 (bd_val A) (by simp [bC, valV]), fa_p, ldP (k := 3) h.b12 (bd_val B) (by simp [bC, valV])]
  refine vCompare_spec A.val B.val fun w1 _ k1 => ?_
  have h1 := (h.keep k1).keep kp_drew
  have e : bothV A B = decide (cmpV A.val B.val < 0 ∨ cmpV A.val B.val = 0 ∧ A.open_ = false ∧ B.open_ = false) := by
    unfold bothV; rw [if_neg (by simp [ha, hb])]
  rw [e] at hR
  rw [ldA (k := 5) h1.b11 rfl, ldA (k := 5) h1.b12 rfl]
  simp only [bq_lss, bV_b, decide_eq_true_eq, decide_eq_false_iff_not, bq_eql]
  refine ⟨fun hc => ?_, fun hc => ⟨fun h0 => ?_, fun h0 => ?_⟩⟩
  · refine nw_ret h1 fun w' hk' => ?_
    have := hR w' hk'
    rw [decide_eq_true (.inl hc)] at this
    exact this
  · rw [fa_p, ldF (x := .bool A.open_) h1.b11 rfl]
    simp only [un_not, bV_b]
    refine ⟨fun ho => ?_, fun ho => ?_⟩
    · have ho : A.open_ = false := by simpa using ho
      rw [fa_p, ldF (x := .bool B.open_) h1.b12 rfl]
      simp only [un_not, stb_not]
      refine h1.st fun w2 k2 c8 c9 c12 => ?_
      have := h.l89
      have := h.l8
      have := h.l12
      rw [ldF (x := .bool B.open_) c12 rfl, ldA (k := 5) c12 rfl]
      refine ⟨trivial, rfl, rfl, ?_⟩
      rw [stA (k := 5) c9 (by rw [zcBd]; rfl) rfl (bC_one B)]
      have hne : ¬ x9 = x12 := by omega
      rw [ldF (x := .bool B.open_) (by rw [heap_ne hne]; exact c12) rfl, lvBd (v := A) (by rw [heap_ne (by omega)]; exact c8), lvBd (v := B) (heap_self (live_of c9))]
      refine ⟨trivial, rfl, ?_⟩
      have := hR _ (k2.setBlk (.inr (show w.heap.size ≤ x9 by omega)) (.cells (bC B).toArray 37))
      have e2 : decide (cmpV A.val B.val < 0 ∨ cmpV A.val B.val = 0 ∧ A.open_ = false ∧ B.open_ = false) = !B.open_ := by
        cases hbo : B.open_
        · rw [decide_eq_true (.inr ⟨h0, ho, rfl⟩)]; rfl
        · rw [decide_eq_false (by rintro (hh | ⟨_, _, hh⟩); exact hc hh; cases hh)]; rfl
      rw [e2] at this
      exact this
    · have ho : A.open_ = true := by simpa using ho
      refine nw_ret h1 fun w' hk' => ?_
      have := hR w' hk'
      rw [decide_eq_false (by rintro (hh | ⟨_, hh, _⟩); exact hc hh; rw [ho] at hh; cases hh)] at this
      exact this
  · refine nw_ret h1 fun w' hk' => ?_
    have := hR w' hk'
    rw [decide_eq_false (by rintro (hh | ⟨hh, _⟩); exact hc hh; exact h0 hh)] at this
    exact this
end
theorem narrow_spec {w : World} (a b c d : Bd) {R : Value → World → Prop} (hR : ∀ w', Kp [] w w' → R (.tuple #[bdA (tightV a c 1), bdA (tightV b d (-1)), .bool (narrowV a b c d)]) w') : callG Try.prog 26 #[bdA a, bdA b, bdA c, bdA d] w R := by
  refine narrow_orders fun wb w' x8 x9 x11 x12 kb k' l89 l8 l9 b8 b9 b11 b12 l11 l12 ne => ?_
  unfold narrowV at hR
  generalize tightV a c 1 = A at hR ⊢
  generalize tightV b d (-1) = B at hR ⊢
  unfold nwF
  have kk := kb.trans' k'
  have s' := kb.size
  have st1' : ∀ K : World → Prop, stn 5 (.pointer (some ⟨x11, 0, none⟩)) (bdA A) w' K = K (setBlk w' x11 (.cells (bC A).toArray 37)) := fun K => stA b11 (by rw [zcBd]; rfl) rfl (bC_one A)
  rw [st1']
  obtain ⟨w1, hw1⟩ : ∃ w1, w1 = setBlk w' x11 (.cells (bC A).toArray 37) := ⟨_, rfl⟩
  have c12 : w1.heap[x12]? = some (.cells (zc Try.prog 37) 37) := by rw [hw1, heap_ne ne]; exact b12
  have c11 : w1.heap[x11]? = some (.cells (bC A).toArray 37) := by rw [hw1]; exact heap_self (live_of b11)
  have k1 : Kp [] wb w1 := by rw [hw1]; exact k'.setBlk (.inr l11) _
  rw [← hw1]
  have st2' : ∀ K : World → Prop, stn 5 (.pointer (some ⟨x12, 0, none⟩)) (bdA B) w1 K = K (setBlk w1 x12 (.cells (bC B).toArray 37)) := fun K => stA c12 (by rw [zcBd]; rfl) rfl (bC_one B)
  rw [st2']
  obtain ⟨w2, hw2⟩ : ∃ w2, w2 = setBlk w1 x12 (.cells (bC B).toArray 37) := ⟨_, rfl⟩
  have d11 : w2.heap[x11]? = some (.cells (bC A).toArray 37) := by rw [hw2, heap_ne (Ne.symm ne)]; exact c11
  have d12 : w2.heap[x12]? = some (.cells (bC B).toArray 37) := by rw [hw2]; exact heap_self (live_of c12)
  have k2 : Kp [] wb w2 := by rw [hw2]; exact k1.setBlk (.inr l12) _
  rw [← hw2]
  have hn : NB w w2 x8 x9 x11 x12 A B := ⟨kb.trans' k2, k2.get b8 (by simp), k2.get b9 (by simp), d11, d12, l8, l89, by omega, by omega⟩
  have hnd := hn.keep kp_drew
  have rest : bothV A B = true → (ldn 5 (.pointer (some ⟨x11, 0, none⟩)) w2.drew fun t28 => ldn 5 (.pointer (some ⟨x12, 0, none⟩)) w2.drew fun t29 => stn 5 (.pointer (some ⟨x8, 0, none⟩)) t28 w2.drew fun w =>
      ldn 5 (.pointer (some ⟨x12, 0, none⟩)) w (fun u => u = t29) ∧
      stn 5 (.pointer (some ⟨x9, 0, none⟩)) t29 w fun w =>
      qG Try.prog (do loadVar 37 (← asAddr (.pointer (some ⟨x8, 0, none⟩)))) w fun r8 =>
      qG Try.prog (do loadVar 37 (← asAddr (.pointer (some ⟨x9, 0, none⟩)))) w fun r9 =>
      R (.tuple #[r8, r9, .bool true]) w) := by
    intro hb
    rw [ldA (k := 5) hnd.b11 rfl, ldA (k := 5) hnd.b12 rfl]
    rw [hb] at hR
    exact nw_ret hnd hR
  rw [fa_p, ldF (x := .bool A.has) d11 rfl]
  simp only [un_not, bV_b]
  refine ⟨fun ha => rest (by unfold bothV; rw [if_pos (.inl (by simpa using ha))]), fun ha => ?_⟩
  rw [fa_p, ldF (x := .bool B.has) d12 rfl]
  simp only [un_not, bV_b]
  refine ⟨fun hb => rest (by unfold bothV; rw [if_pos (.inr (by simpa using hb))]), fun hb => ?_⟩
  exact narrow_s0 hn (by simpa using ha) (by simpa using hb) hR
end Go.Proofs

/- Layer 22: is a value in a range; shares. -/
set_option maxRecDepth 100000
set_option linter.unusedVariables false
set_option linter.unusedSimpArgs false
namespace Go.Proofs
open Go Go.Q
theorem bld_at_val (v : V3) {K : Value → Prop} : bld [(0, 1), (1, 1), (2, 3)] (zc Try.prog 37) #[(0, (.bool true)), (2, valA v)] K = K (bdA (bAt v)) := by
  rw [zcBd]; rfl
theorem in_spec {w : World} (v : V3) (lo hi : Bd) {R : Value → World → Prop} (hR : ∀ w', Kp [] w w' → R (.bool (inV v lo hi)) w') : callG Try.prog 27 #[valA v, bdA lo, bdA hi] w R := by
  refine stat_in_call ?_
  unfold stat_in stat_in_s0
  have e0 : ∀ (v : V3) (w : World) (k : Value → World → Prop), newG (Value.cells (valA v)) 35 w k = newG (Value.cells (.agg (valV v).toArray)) 35 w k := fun _ _ _ => rfl
  have e1 : ∀ (v : Bd) (w : World) (k : Value → World → Prop), newG (Value.cells (bdA v)) 37 w k = newG (Value.cells (.agg (bC v).toArray)) 37 w k := fun _ _ _ => rfl
  rw [e0]
  refine argB fun x3 w1 hx3 h3 k1 => ?_
  rw [e1]
  refine argB fun x4 w2 hx4 h4 k2 => ?_
  rw [e1]
  refine argB fun x5 w3 hx5 h5 k3 => ?_
  have b3 := k3.get (k2.get h3 (by simp)) (by simp)
  have b4 := k3.get h4 (by simp)
  have k03 := (k1.trans' k2).trans' k3
  rw [show ∀ K : Value → Prop, ldn 3 (.pointer (some ⟨x3, 0, none⟩)) w3 K = K (valA v) from fun K => ldA b3 rfl, bld_at_val]
  refine newB fun x7 w4 hx7 h7 k4 => ?_
  unfold bdA
  rw [stA (k := 5) h7 (by rw [zcBd]; rfl) rfl (bC_one _)]
  obtain ⟨w5, hw5⟩ : ∃ w5, w5 = setBlk w4 x7 (.cells (bC (bAt v)).toArray 37) := ⟨_, rfl⟩
  have c7 : w5.heap[x7]? = some (.cells (bC (bAt v)).toArray 37) := by rw [hw5]; exact heap_self (live_of h7)
  have k35 : Kp [] w3 w5 := by rw [hw5]; exact k4.setBlk (.inr hx7) _
  rw [← hw5, ldA (k := 5) (k35.get b4 (by simp)) rfl, ldA (k := 5) (k35.get h5 (by simp)) rfl, ldA (k := 5) c7 rfl, ldA (k := 5) c7 rfl]
  refine narrow_spec lo hi (bAt v) (bAt v) fun w6 k6 => ?_
  rw [ex30, ex31, ex32]
  refine newB fun x8 w7 hx8 h8 k7 => ?_
  refine newB fun x9 w8 hx9 h9 k8 => ?_
  have h88 := k8.get h8 (by simp)
  have l8 := lt_of_blk h8
  unfold bdA
  rw [stA (k := 5) h88 (by rw [zcBd]; rfl) rfl (bC_one _), stA (k := 5) (by rw [heap_ne (by omega)]; exact h9) (by rw [zcBd]; rfl) rfl (bC_one _)]
  have s7 := k7.size
  exact hR _ (((k03.trans' k35).trans' k6).trans' (((k7.trans' k8).setBlk (.inr hx8) _).setBlk (.inr (by omega)) _))
theorem share_spec {w : World} (a b c : Nat) (hc : 0 < c) (ha : a < 2 ^ 30) (hb : b < 2 ^ 30) (hc2 : c < 2 ^ 30) {R : Value → World → Prop} (hR : R (.int .i64 (shareN a b c)) w.drew) : callG Try.prog 28 #[.int .i64 a, .int .i64 b, .int .i64 c] w R := by
  refine stat_share_call ?_
  unfold stat_share stat_share_s0
  have h1 : a / c ≤ a := Nat.div_le_self _ _
  have h2 : a % c < c := Nat.mod_lt _ hc
  have h3 : a / c * b ≤ 2 ^ 30 * 2 ^ 30 := Nat.mul_le_mul (by omega) (by omega)
  have h4 : a % c * b ≤ 2 ^ 30 * 2 ^ 30 := Nat.mul_le_mul (by omega) (by omega)
  have h5 : a % c * b / c ≤ a % c * b := Nat.div_le_self _ _
  have q1 : ((a : Int) / (c : Int)) = ((a / c : Nat) : Int) := by simp
  have q2 : ((a : Int) % (c : Int)) = ((a % c : Nat) : Int) := by simp
  have q3 : ((a / c : Nat) : Int) * (b : Int) = ((a / c * b : Nat) : Int) := by simp
  have q4 : ((a % c : Nat) : Int) * (b : Int) = ((a % c * b : Nat) : Int) := by simp
  have q5 : (((a % c * b : Nat) : Int) / (c : Int)) = ((a % c * b / c : Nat) : Int) := by simp
  have q6 : ((a / c * b : Nat) : Int) + ((a % c * b / c : Nat) : Int) = ((shareN a b c : Nat) : Int) := by unfold shareN; simp
  have h6 : shareN a b c ≤ 2 ^ 30 * 2 ^ 30 + 2 ^ 30 * 2 ^ 30 := by unfold shareN; exact Nat.add_le_add h3 (Nat.le_trans h5 h4)
  rw [quo_of (by omega) (by omega), q1, wrap_nat64 (by omega)]
  simp only [bq_mul]
  rw [q3, wrap_nat64 (Nat.lt_of_le_of_lt h3 (by decide)), rem_of (by omega) (by omega), q2]
  simp only [bq_mul]
  rw [q4, wrap_nat64 (Nat.lt_of_le_of_lt h4 (by decide)), quo_of (Int.natCast_nonneg _) (by omega), q5, wrap_nat64 (Nat.lt_of_le_of_lt (Nat.le_trans h5 h4) (by decide))]
  simp only [bq_add]
  rw [q6, wrap_nat64 (Nat.lt_of_le_of_lt h6 (by decide))]
  exact hR
end Go.Proofs

set_option linter.unusedVariables false
set_option linter.unusedSimpArgs false
namespace Go.Proofs
open Go Go.Q
set_option maxRecDepth 100000
/-! quayside/quaysideref22.sorted -/
def ref22_sorted_s0 (R : Value → World → Prop) (x0 x3 x5 : Value) (w : World) : Prop :=
  slL 3 x0 none (some x5) fun t25 =>
  app 35 3 32 (zc Try.prog 35) (.slice none 0 0) t25 w fun t26 w =>
  ldn 3 x3 w fun t28 =>
  bsl 35 3 1 (zc Try.prog 35) #[(0, t28)] w fun t29 w =>
  app 35 3 32 (zc Try.prog 35) t26 t29 w fun t30 w =>
  slL 3 x0 (some x5) none fun t34 =>
  app 35 3 32 (zc Try.prog 35) t30 t34 w fun t35 w =>
  R t35 w
theorem ref22_sorted_s0_eq (R : Value → World → Prop) : ∀ e w, lift Try.prog 36 (sub (bodyOf Try.f37) [1, 1, 1]) (finK Try.prog Try.f37.results.toList R) e w = ref22_sorted_s0 R (e 0) (e 3) (e 5) w := fun e w => by kernel_rfl
def ref22_sorted_b1 (R : Value → World → Prop) (N1 : List Value → World → Prop) (x0 x3 x5 : Value) (w : World) : Prop :=
  lenL x0 fun t9 =>
  qG Try.prog (bq .lss 3 (.tmp 7) (.tmp 9) x5 t9) (World.drew w) fun t10 =>
  bV t10
  (ia 3 x0 x5 fun t14 =>
  ldn 3 t14 (World.drew w) fun t15 =>
  ldn 3 x3 (World.drew w) fun t16 =>
  callG Try.prog 16 #[t15, t16] (World.drew w) fun t17 w =>
  qG Try.prog (bq .leq 3 (.tmp 17) (.const (.int .i64 0)) t17 (.int .i64 0)) w fun t18 =>
  bV t18
  (qG Try.prog (bq .add 3 (.tmp 20) (.const (.int .i64 1)) x5 (.int .i64 1)) w fun t21 =>
  N1 [x0, x3, t21] w)
  (ref22_sorted_s0 R x0 x3 x5 w))
  (ref22_sorted_s0 R x0 x3 x5 (World.drew w))
theorem ref22_sorted_b1_eq (R : Value → World → Prop) (N1 : List Value → World → Prop) : ∀ e w, lift Try.prog 36 (sub (bodyOf Try.f37) [1, 1, 0, 0, 0]) (seqK (fun e w => N1 [e 0, e 3, e 5] w) (blockK 0 (seqK (fun e w => ref22_sorted_s0 R (e 0) (e 3) (e 5) w) (finK Try.prog Try.f37.results.toList R)))) e w = ref22_sorted_b1 R N1 (e 0) (e 3) (e 5) w := fun e w => by kernel_rfl
def ref22_sorted_L2F (R : Value → World → Prop) (N1 : List Value → World → Prop) (xs : List Value) (w : World) : Prop :=
  match xs with
  | [x0, x3, x5] => ref22_sorted_b1 R N1 x0 x3 x5 w
  | _ => False
def ref22_sorted_L2 (R : Value → World → Prop) (x0 x3 x5 : Value) (w : World) : Prop :=
  ∃ m, loopV (ref22_sorted_L2F R) m [x0, x3, x5] w
theorem ref22_sorted_L2_eq (R : Value → World → Prop) : ∀ e w, lift Try.prog 36 (sub (bodyOf Try.f37) [1, 1, 0, 0]) (blockK 0 (seqK (fun e w => ref22_sorted_s0 R (e 0) (e 3) (e 5) w) (finK Try.prog Try.f37.results.toList R))) e w = ref22_sorted_L2 R (e 0) (e 3) (e 5) w := loop_seg (F := ref22_sorted_L2F R) (sel := fun e => [e 0, e 3, e 5]) fun N1 => (ref22_sorted_b1_eq R N1)
def ref22_sorted_s3 (R : Value → World → Prop) (x0 x1 : Value) (w : World) : Prop :=
  newG (Value.cells x1) 35 w fun t3 w =>
  ref22_sorted_L2 R x0 t3 (.int .i64 0) w
theorem ref22_sorted_s3_eq (R : Value → World → Prop) : ∀ e w, lift Try.prog 36 (bodyOf Try.f37) (finK Try.prog Try.f37.results.toList R) e w = ref22_sorted_s3 R (e 0) (e 1) w :=
  segs_eq (l := [(sub (bodyOf Try.f37) [0]), (sub (bodyOf Try.f37) [1, 0])]) (y := (sub (bodyOf Try.f37) [1, 1])) (Y := (fun e w => ref22_sorted_L2 R (e 0) (e 3) (e 5) w)) (seq_seg (x := (sub (bodyOf Try.f37) [1, 1, 0])) (y := (sub (bodyOf Try.f37) [1, 1, 1])) (ref22_sorted_s0_eq R) (ref22_sorted_L2_eq R)) (fun e w => by kernel_rfl)
def ref22_sorted (R : Value → World → Prop) (x0 x1 : Value) (w : World) : Prop := ref22_sorted_s3 R x0 x1 w
theorem ref22_sorted_call {R : Value → World → Prop} {x0 x1 : Value} {w : World} (h : ref22_sorted R x0 x1 w) : callG Try.prog 37 #[x0, x1] w R :=
  calls_lift_eq Try.mixed Try.func37 (args := [x0, x1]) rfl rfl rfl rfl ((ref22_sorted_s3_eq R) (envOf [x0, x1]) w) (by kernel_rfl) h
/-! quayside/quaysideref22.column -/
def ref22_column_s0 (R : Value → World → Prop) (x4 x5 : Value) (w : World) : Prop :=
  ldn 3 x5 w fun t97 =>
  stn 3 x4 t97 w fun w =>
  qG Try.prog (do loadVar 32 (← asAddr x4)) w fun r4 =>
  R r4 w
theorem ref22_column_s0_eq (R : Value → World → Prop) : ∀ e w, lift Try.prog 98 (sub (bodyOf Try.f23) [1, 1, 1, 1, 1, 1, 1]) (finK Try.prog Try.f23.results.toList R) e w = ref22_column_s0 R (e 4) (e 5) w := fun e w => by kernel_rfl
def ref22_column_b1 (R : Value → World → Prop) (N1 : List Value → World → Prop) (x4 x5 x6 x9 : Value) (w : World) : Prop :=
  qG Try.prog (bq .lss 3 (.tmp 79) (.const (.int .i64 9)) x9 (.int .i64 9)) w fun t80 =>
  bV t80
  (fa 2 x5 fun t83 =>
  ld1 t83 (World.drew w) fun t84 =>
  lenL x6 fun t88 =>
  qG Try.prog (bq .sub 3 (.tmp 88) (.const (.int .i64 1)) t88 (.int .i64 1)) (World.drew w) fun t89 =>
  qG Try.prog (bq .mul 3 (.tmp 86) (.tmp 89) x9 t89) (World.drew w) fun t90 =>
  qG Try.prog (bq .quo 3 (.tmp 90) (.const (.int .i64 8)) t90 (.int .i64 8)) (World.drew w) fun t91 =>
  ia 3 x6 t91 fun t92 =>
  ldn 3 t92 (World.drew w) fun t93 =>
  bsl 35 3 1 (zc Try.prog 35) #[(0, t93)] (World.drew w) fun t94 w =>
  ld1 t83 w (fun u => u = t84) ∧
  app 35 3 32 (zc Try.prog 35) t84 t94 w fun t95 w =>
  fa 2 x5 fun t96 =>
  st1 t96 t95 w fun w =>
  qG Try.prog (bq .add 3 (.tmp 81) (.const (.int .i64 1)) x9 (.int .i64 1)) w fun t82 =>
  N1 [x4, x5, x6, t82] w)
  (ref22_column_s0 R x4 x5 w)
theorem ref22_column_b1_eq (R : Value → World → Prop) (N1 : List Value → World → Prop) : ∀ e w, lift Try.prog 98 (sub (bodyOf Try.f23) [1, 1, 1, 1, 1, 1, 0, 1, 0, 0]) (seqK (fun e w => N1 [e 4, e 5, e 6, e 9] w) (blockK 4 (seqK (fun e w => ref22_column_s0 R (e 4) (e 5) w) (finK Try.prog Try.f23.results.toList R)))) e w = ref22_column_b1 R N1 (e 4) (e 5) (e 6) (e 9) w := fun e w => by kernel_rfl
def ref22_column_L2F (R : Value → World → Prop) (N1 : List Value → World → Prop) (xs : List Value) (w : World) : Prop :=
  match xs with
  | [x4, x5, x6, x9] => ref22_column_b1 R N1 x4 x5 x6 x9 w
  | _ => False
def ref22_column_L2 (R : Value → World → Prop) (x4 x5 x6 x9 : Value) (w : World) : Prop :=
  ∃ m, loopV (ref22_column_L2F R) m [x4, x5, x6, x9] w
theorem ref22_column_L2_eq (R : Value → World → Prop) : ∀ e w, lift Try.prog 98 (sub (bodyOf Try.f23) [1, 1, 1, 1, 1, 1, 0, 1, 0]) (blockK 4 (seqK (fun e w => ref22_column_s0 R (e 4) (e 5) w) (finK Try.prog Try.f23.results.toList R))) e w = ref22_column_L2 R (e 4) (e 5) (e 6) (e 9) w := loop_seg (F := ref22_column_L2F R) (sel := fun e => [e 4, e 5, e 6, e 9]) fun N1 => (ref22_column_b1_eq R N1)
def ref22_column_s3 (R : Value → World → Prop) (x4 x5 x6 : Value) (w : World) : Prop :=
  ref22_column_L2 R x4 x5 x6 (.int .i64 0) w
theorem ref22_column_s3_eq (R : Value → World → Prop) : ∀ e w, lift Try.prog 98 (sub (bodyOf Try.f23) [1, 1, 1, 1, 1, 1, 0]) (seqK (fun e w => ref22_column_s0 R (e 4) (e 5) w) (finK Try.prog Try.f23.results.toList R)) e w = ref22_column_s3 R (e 4) (e 5) (e 6) w :=
  segs_eq (l := [(sub (bodyOf Try.f23) [1, 1, 1, 1, 1, 1, 0, 0])]) (y := (sub (bodyOf Try.f23) [1, 1, 1, 1, 1, 1, 0, 1])) (Y := (fun e w => ref22_column_L2 R (e 4) (e 5) (e 6) (e 9) w)) (ref22_column_L2_eq R) (fun e w => by kernel_rfl)
def ref22_column_s4 (R : Value → World → Prop) (x4 x5 x6 : Value) (w : World) : Prop :=
  lenL x6 fun t74 =>
  qG Try.prog (bq .leq 3 (.tmp 74) (.const (.int .i64 9)) t74 (.int .i64 9)) w fun t75 =>
  bV t75
  (fa 2 x5 fun t77 =>
  st1 t77 x6 w fun w =>
  ldn 3 x5 w fun t78 =>
  stn 3 x4 t78 w fun w =>
  qG Try.prog (do loadVar 32 (← asAddr x4)) w fun r4 =>
  R r4 w)
  (ref22_column_s3 R x4 x5 x6 w)
theorem ref22_column_s4_eq (R : Value → World → Prop) : ∀ e w, lift Try.prog 98 (sub (bodyOf Try.f23) [1, 1, 1, 1, 1]) (finK Try.prog Try.f23.results.toList R) e w = ref22_column_s4 R (e 4) (e 5) (e 6) w :=
  segs_eq (l := [(sub (bodyOf Try.f23) [1, 1, 1, 1, 1, 0])]) (y := (sub (bodyOf Try.f23) [1, 1, 1, 1, 1, 1])) (Y := (fun e w => ref22_column_s3 R (e 4) (e 5) (e 6) w)) (seq_seg (x := (sub (bodyOf Try.f23) [1, 1, 1, 1, 1, 1, 0])) (y := (sub (bodyOf Try.f23) [1, 1, 1, 1, 1, 1, 1])) (ref22_column_s0_eq R) (ref22_column_s3_eq R)) (fun e w => by kernel_rfl)
def ref22_column_b5 (R : Value → World → Prop) (N1 : List Value → World → Prop) (x4 x5 x6 x8 : Value) (w : World) : Prop :=
  lenL x6 fun t50 =>
  qG Try.prog (bq .lss 3 (.tmp 48) (.tmp 50) x8 t50) w fun t51 =>
  bV t51
  (qG Try.prog (bq .eql 3 (.tmp 54) (.const (.int .i64 0)) x8 (.int .i64 0)) (World.drew w) fun t55 =>
  bV t55
  (fa 1 x5 fun t69 =>
  ld1 t69 (World.drew w) fun t70 =>
  qG Try.prog (bq .add 3 (.tmp 70) (.const (.int .i64 1)) t70 (.int .i64 1)) (World.drew w) fun t71 =>
  fa 1 x5 fun t72 =>
  st1 t72 t71 (World.drew w) fun w =>
  qG Try.prog (bq .add 3 (.tmp 52) (.const (.int .i64 1)) x8 (.int .i64 1)) w fun t53 =>
  N1 [x4, x5, x6, t53] w)
  (qG Try.prog (bq .sub 3 (.tmp 58) (.const (.int .i64 1)) x8 (.int .i64 1)) (World.drew w) fun t59 =>
  ia 3 x6 t59 fun t60 =>
  ldn 3 t60 (World.drew w) fun t61 =>
  ia 3 x6 x8 fun t64 =>
  ldn 3 t64 (World.drew w) fun t65 =>
  callG Try.prog 16 #[t61, t65] (World.drew w) fun t66 w =>
  qG Try.prog (bq .neq 3 (.tmp 66) (.const (.int .i64 0)) t66 (.int .i64 0)) w fun t67 =>
  bV t67
  (fa 1 x5 fun t69_1 =>
  ld1 t69_1 w fun t70_1 =>
  qG Try.prog (bq .add 3 (.tmp 70) (.const (.int .i64 1)) t70_1 (.int .i64 1)) w fun t71_1 =>
  fa 1 x5 fun t72_1 =>
  st1 t72_1 t71_1 w fun w =>
  qG Try.prog (bq .add 3 (.tmp 52) (.const (.int .i64 1)) x8 (.int .i64 1)) w fun t53_1 =>
  N1 [x4, x5, x6, t53_1] w)
  (qG Try.prog (bq .add 3 (.tmp 52) (.const (.int .i64 1)) x8 (.int .i64 1)) w fun t53_2 =>
  N1 [x4, x5, x6, t53_2] w)))
  (ref22_column_s4 R x4 x5 x6 w)
theorem ref22_column_b5_eq (R : Value → World → Prop) (N1 : List Value → World → Prop) : ∀ e w, lift Try.prog 98 (sub (bodyOf Try.f23) [1, 1, 1, 1, 0, 1, 0, 0]) (seqK (fun e w => N1 [e 4, e 5, e 6, e 8] w) (blockK 2 (seqK (fun e w => ref22_column_s4 R (e 4) (e 5) (e 6) w) (finK Try.prog Try.f23.results.toList R)))) e w = ref22_column_b5 R N1 (e 4) (e 5) (e 6) (e 8) w := fun e w => by kernel_rfl
def ref22_column_L6F (R : Value → World → Prop) (N1 : List Value → World → Prop) (xs : List Value) (w : World) : Prop :=
  match xs with
  | [x4, x5, x6, x8] => ref22_column_b5 R N1 x4 x5 x6 x8 w
  | _ => False
def ref22_column_L6 (R : Value → World → Prop) (x4 x5 x6 x8 : Value) (w : World) : Prop :=
  ∃ m, loopV (ref22_column_L6F R) m [x4, x5, x6, x8] w
theorem ref22_column_L6_eq (R : Value → World → Prop) : ∀ e w, lift Try.prog 98 (sub (bodyOf Try.f23) [1, 1, 1, 1, 0, 1, 0]) (blockK 2 (seqK (fun e w => ref22_column_s4 R (e 4) (e 5) (e 6) w) (finK Try.prog Try.f23.results.toList R))) e w = ref22_column_L6 R (e 4) (e 5) (e 6) (e 8) w := loop_seg (F := ref22_column_L6F R) (sel := fun e => [e 4, e 5, e 6, e 8]) fun N1 => (ref22_column_b5_eq R N1)
def ref22_column_s7 (R : Value → World → Prop) (x4 x5 x6 : Value) (w : World) : Prop :=
  ref22_column_L6 R x4 x5 x6 (.int .i64 0) w
theorem ref22_column_s7_eq (R : Value → World → Prop) : ∀ e w, lift Try.prog 98 (sub (bodyOf Try.f23) [1, 1, 1, 1, 0]) (seqK (fun e w => ref22_column_s4 R (e 4) (e 5) (e 6) w) (finK Try.prog Try.f23.results.toList R)) e w = ref22_column_s7 R (e 4) (e 5) (e 6) w :=
  segs_eq (l := [(sub (bodyOf Try.f23) [1, 1, 1, 1, 0, 0])]) (y := (sub (bodyOf Try.f23) [1, 1, 1, 1, 0, 1])) (Y := (fun e w => ref22_column_L6 R (e 4) (e 5) (e 6) (e 8) w)) (ref22_column_L6_eq R) (fun e w => by kernel_rfl)
def ref22_column_s8 (R : Value → World → Prop) (N1 : List Value → World → Prop) (x0 x1 x4 x5 x6 x7 : Value) (w : World) : Prop :=
  qG Try.prog (bq .add 3 (.tmp 15) (.const (.int .i64 1)) x7 (.int .i64 1)) w fun t16 =>
  N1 [x0, x1, x4, x5, x6, t16] w
theorem ref22_column_s8_eq (R : Value → World → Prop) (N1 : List Value → World → Prop) : ∀ e w, lift Try.prog 98 (sub (bodyOf Try.f23) [1, 1, 1, 0, 1, 0, 0, 1, 1]) (seqK (fun e w => N1 [e 0, e 1, e 4, e 5, e 6, e 7] w) (blockK 0 (seqK (fun e w => ref22_column_s7 R (e 4) (e 5) (e 6) w) (finK Try.prog Try.f23.results.toList R)))) e w = ref22_column_s8 R N1 (e 0) (e 1) (e 4) (e 5) (e 6) (e 7) w := fun e w => by kernel_rfl
def ref22_column_s9 (R : Value → World → Prop) (N1 : List Value → World → Prop) (x0 x1 x4 x5 x6 x7 : Value) (w : World) : Prop :=
  ia 1 x1 x7 fun t42 =>
  ld1 t42 w fun t43 =>
  ia 3 t43 x0 fun t45 =>
  ldn 3 t45 w fun t46 =>
  callG Try.prog 37 #[x6, t46] w fun t47 w =>
  ref22_column_s8 R N1 x0 x1 x4 x5 t47 x7 w
theorem ref22_column_s9_eq (R : Value → World → Prop) (N1 : List Value → World → Prop) : ∀ e w, lift Try.prog 98 (sub (bodyOf Try.f23) [1, 1, 1, 0, 1, 0, 0, 1, 0, 0, 1]) (blockK 1 (seqK (fun e w => ref22_column_s8 R N1 (e 0) (e 1) (e 4) (e 5) (e 6) (e 7) w) (seqK (fun e w => N1 [e 0, e 1, e 4, e 5, e 6, e 7] w) (blockK 0 (seqK (fun e w => ref22_column_s7 R (e 4) (e 5) (e 6) w) (finK Try.prog Try.f23.results.toList R)))))) e w = ref22_column_s9 R N1 (e 0) (e 1) (e 4) (e 5) (e 6) (e 7) w := fun e w => by kernel_rfl
def ref22_column_s10 (R : Value → World → Prop) (N1 : List Value → World → Prop) (x0 x1 x4 x5 x6 x7 : Value) (w : World) : Prop :=
  ia 1 x1 x7 fun t20 =>
  ld1 t20 w fun t21 =>
  lenL t21 fun t22 =>
  qG Try.prog (bq .geq 3 (.tmp 17) (.tmp 22) x0 t22) w fun t23 =>
  bV t23
  (fa 0 x5 fun t35 =>
  ld1 t35 w fun t36 =>
  qG Try.prog (bq .add 3 (.tmp 36) (.const (.int .i64 1)) t36 (.int .i64 1)) w fun t37 =>
  fa 0 x5 fun t38 =>
  st1 t38 t37 w fun w =>
  ref22_column_s8 R N1 x0 x1 x4 x5 x6 x7 w)
  (ia 1 x1 x7 fun t27 =>
  ld1 t27 w fun t28 =>
  ia 3 t28 x0 fun t30 =>
  fa 0 t30 fun t31 =>
  ld1 t31 w fun t32 =>
  qG Try.prog (bq .eql 3 (.tmp 32) (.const (.int .i64 0)) t32 (.int .i64 0)) w fun t33 =>
  bV t33
  (fa 0 x5 fun t35_1 =>
  ld1 t35_1 w fun t36_1 =>
  qG Try.prog (bq .add 3 (.tmp 36) (.const (.int .i64 1)) t36_1 (.int .i64 1)) w fun t37_1 =>
  fa 0 x5 fun t38_1 =>
  st1 t38_1 t37_1 w fun w =>
  ref22_column_s8 R N1 x0 x1 x4 x5 x6 x7 w)
  (ref22_column_s9 R N1 x0 x1 x4 x5 x6 x7 w))
theorem ref22_column_s10_eq (R : Value → World → Prop) (N1 : List Value → World → Prop) : ∀ e w, lift Try.prog 98 (sub (bodyOf Try.f23) [1, 1, 1, 0, 1, 0, 0, 1, 0, 0]) (blockK 1 (seqK (fun e w => ref22_column_s8 R N1 (e 0) (e 1) (e 4) (e 5) (e 6) (e 7) w) (seqK (fun e w => N1 [e 0, e 1, e 4, e 5, e 6, e 7] w) (blockK 0 (seqK (fun e w => ref22_column_s7 R (e 4) (e 5) (e 6) w) (finK Try.prog Try.f23.results.toList R)))))) e w = ref22_column_s10 R N1 (e 0) (e 1) (e 4) (e 5) (e 6) (e 7) w :=
  segs_eq (l := [(sub (bodyOf Try.f23) [1, 1, 1, 0, 1, 0, 0, 1, 0, 0, 0])]) (y := (sub (bodyOf Try.f23) [1, 1, 1, 0, 1, 0, 0, 1, 0, 0, 1])) (Y := (fun e w => ref22_column_s9 R N1 (e 0) (e 1) (e 4) (e 5) (e 6) (e 7) w)) (ref22_column_s9_eq R N1) (fun e w => by kernel_rfl)
def ref22_column_s11 (R : Value → World → Prop) (N1 : List Value → World → Prop) (x0 x1 x4 x5 x6 x7 : Value) (w : World) : Prop :=
  lenL x1 fun t13 =>
  qG Try.prog (bq .lss 3 (.tmp 11) (.tmp 13) x7 t13) w fun t14 =>
  bV t14
  (ref22_column_s10 R N1 x0 x1 x4 x5 x6 x7 w)
  (ref22_column_s7 R x4 x5 x6 w)
theorem ref22_column_s11_eq (R : Value → World → Prop) (N1 : List Value → World → Prop) : ∀ e w, lift Try.prog 98 (sub (bodyOf Try.f23) [1, 1, 1, 0, 1, 0, 0]) (seqK (fun e w => N1 [e 0, e 1, e 4, e 5, e 6, e 7] w) (blockK 0 (seqK (fun e w => ref22_column_s7 R (e 4) (e 5) (e 6) w) (finK Try.prog Try.f23.results.toList R)))) e w = ref22_column_s11 R N1 (e 0) (e 1) (e 4) (e 5) (e 6) (e 7) w :=
  segs_eq (l := [(sub (bodyOf Try.f23) [1, 1, 1, 0, 1, 0, 0, 0])]) (y := (sub (bodyOf Try.f23) [1, 1, 1, 0, 1, 0, 0, 1])) (Y := (fun e w => ref22_column_s10 R N1 (e 0) (e 1) (e 4) (e 5) (e 6) (e 7) w)) (seq_seg (x := (sub (bodyOf Try.f23) [1, 1, 1, 0, 1, 0, 0, 1, 0])) (y := (sub (bodyOf Try.f23) [1, 1, 1, 0, 1, 0, 0, 1, 1])) (ref22_column_s8_eq R N1) (ref22_column_s10_eq R N1)) (fun e w => by kernel_rfl)
def ref22_column_L12F (R : Value → World → Prop) (N1 : List Value → World → Prop) (xs : List Value) (w : World) : Prop :=
  match xs with
  | [x0, x1, x4, x5, x6, x7] => ref22_column_s11 R N1 x0 x1 x4 x5 x6 x7 w
  | _ => False
def ref22_column_L12 (R : Value → World → Prop) (x0 x1 x4 x5 x6 x7 : Value) (w : World) : Prop :=
  ∃ m, loopV (ref22_column_L12F R) m [x0, x1, x4, x5, x6, x7] w
theorem ref22_column_L12_eq (R : Value → World → Prop) : ∀ e w, lift Try.prog 98 (sub (bodyOf Try.f23) [1, 1, 1, 0, 1, 0]) (blockK 0 (seqK (fun e w => ref22_column_s7 R (e 4) (e 5) (e 6) w) (finK Try.prog Try.f23.results.toList R))) e w = ref22_column_L12 R (e 0) (e 1) (e 4) (e 5) (e 6) (e 7) w := loop_seg (F := ref22_column_L12F R) (sel := fun e => [e 0, e 1, e 4, e 5, e 6, e 7]) fun N1 => (ref22_column_s11_eq R N1)
def ref22_column_s13 (R : Value → World → Prop) (x0 x1 x4 x5 x6 : Value) (w : World) : Prop :=
  ref22_column_L12 R x0 x1 x4 x5 x6 (.int .i64 0) w
theorem ref22_column_s13_eq (R : Value → World → Prop) : ∀ e w, lift Try.prog 98 (sub (bodyOf Try.f23) [1, 1, 1, 0]) (seqK (fun e w => ref22_column_s7 R (e 4) (e 5) (e 6) w) (finK Try.prog Try.f23.results.toList R)) e w = ref22_column_s13 R (e 0) (e 1) (e 4) (e 5) (e 6) w :=
  segs_eq (l := [(sub (bodyOf Try.f23) [1, 1, 1, 0, 0])]) (y := (sub (bodyOf Try.f23) [1, 1, 1, 0, 1])) (Y := (fun e w => ref22_column_L12 R (e 0) (e 1) (e 4) (e 5) (e 6) (e 7) w)) (ref22_column_L12_eq R) (fun e w => by kernel_rfl)
def ref22_column_s14 (R : Value → World → Prop) (x0 x1 : Value) (w : World) : Prop :=
  newG (zc Try.prog 32) 32 w fun t4 w =>
  bld [(0, 1), (1, 1), (2, 1)] (zc Try.prog 32) #[] fun t10 =>
  newG (zc Try.prog 32) 32 w fun t5 w =>
  stn 3 t5 t10 w fun w =>
  ref22_column_s13 R x0 x1 t4 t5 (.slice none 0 0) w
theorem ref22_column_s14_eq (R : Value → World → Prop) : ∀ e w, lift Try.prog 98 (bodyOf Try.f23) (finK Try.prog Try.f23.results.toList R) e w = ref22_column_s14 R (e 0) (e 1) w :=
  segs_eq (l := [(sub (bodyOf Try.f23) [0]), (sub (bodyOf Try.f23) [1, 0]), (sub (bodyOf Try.f23) [1, 1, 0])]) (y := (sub (bodyOf Try.f23) [1, 1, 1])) (Y := (fun e w => ref22_column_s13 R (e 0) (e 1) (e 4) (e 5) (e 6) w)) (seq_seg (x := (sub (bodyOf Try.f23) [1, 1, 1, 0])) (y := (sub (bodyOf Try.f23) [1, 1, 1, 1])) (seq_seg (x := (sub (bodyOf Try.f23) [1, 1, 1, 1, 0])) (y := (sub (bodyOf Try.f23) [1, 1, 1, 1, 1])) (ref22_column_s4_eq R) (ref22_column_s7_eq R)) (ref22_column_s13_eq R)) (fun e w => by kernel_rfl)
def ref22_column (R : Value → World → Prop) (x0 x1 : Value) (w : World) : Prop := ref22_column_s14 R x0 x1 w
theorem ref22_column_call {R : Value → World → Prop} {x0 x1 : Value} {w : World} (h : ref22_column R x0 x1 w) : callG Try.prog 23 #[x0, x1] w R :=
  calls_lift_eq Try.mixed Try.func23 (args := [x0, x1]) rfl rfl rfl rfl ((ref22_column_s14_eq R) (envOf [x0, x1]) w) (by kernel_rfl) h
/-! quayside/quaysideref22.Of -/
def ref22_Of_s0 (R : Value → World → Prop) (x4 x5 : Value) (w : World) : Prop :=
  ldn 2 x5 w fun t27 =>
  stn 2 x4 t27 w fun w =>
  qG Try.prog (do loadVar 27 (← asAddr x4)) w fun r4 =>
  R r4 w
theorem ref22_Of_s0_eq (R : Value → World → Prop) : ∀ e w, lift Try.prog 28 (sub (bodyOf Try.f10) [1, 1, 1]) (finK Try.prog Try.f10.results.toList R) e w = ref22_Of_s0 R (e 4) (e 5) w := fun e w => by kernel_rfl
def ref22_Of_s1 (R : Value → World → Prop) (N1 : List Value → World → Prop) (x0 x1 x4 x5 x6 : Value) (w : World) : Prop :=
  fa 1 x5 fun t19 =>
  ld1 t19 (World.drew w) fun t20 =>
  callG Try.prog 23 #[x6, x1] (World.drew w) fun t23 w =>
  ld1 t19 w (fun u => u = t20) ∧
  bsl 32 3 1 (zc Try.prog 32) #[(0, t23)] w fun t24 w =>
  ld1 t19 w (fun u => u = t20) ∧
  app 32 3 40 (zc Try.prog 32) t20 t24 w fun t25 w =>
  fa 1 x5 fun t26 =>
  st1 t26 t25 w fun w =>
  qG Try.prog (bq .add 3 (.tmp 17) (.const (.int .i64 1)) x6 (.int .i64 1)) w fun t18 =>
  N1 [x0, x1, x4, x5, t18] w
theorem ref22_Of_s1_eq (R : Value → World → Prop) (N1 : List Value → World → Prop) : ∀ e w, lift Try.prog 28 (sub (bodyOf Try.f10) [1, 1, 0, 1, 0, 0, 1]) (seqK (fun e w => N1 [e 0, e 1, e 4, e 5, e 6] w) (blockK 0 (seqK (fun e w => ref22_Of_s0 R (e 4) (e 5) w) (finK Try.prog Try.f10.results.toList R)))) e w = ref22_Of_s1 R N1 (e 0) (e 1) (e 4) (e 5) (e 6) w := fun e w => by kernel_rfl
def ref22_Of_s2 (R : Value → World → Prop) (N1 : List Value → World → Prop) (x0 x1 x4 x5 x6 : Value) (w : World) : Prop :=
  qG Try.prog (bq .lss 3 (.tmp 10) (.tmp 11) x6 x0) w fun t12 =>
  bV t12
  (qG Try.prog (bq .lss 3 (.tmp 14) (.const (.int .i64 64)) x6 (.int .i64 64)) w fun t15 =>
  bV t15
  (ref22_Of_s1 R N1 x0 x1 x4 x5 x6 w)
  (ref22_Of_s0 R x4 x5 w))
  (ref22_Of_s0 R x4 x5 w)
theorem ref22_Of_s2_eq (R : Value → World → Prop) (N1 : List Value → World → Prop) : ∀ e w, lift Try.prog 28 (sub (bodyOf Try.f10) [1, 1, 0, 1, 0, 0]) (seqK (fun e w => N1 [e 0, e 1, e 4, e 5, e 6] w) (blockK 0 (seqK (fun e w => ref22_Of_s0 R (e 4) (e 5) w) (finK Try.prog Try.f10.results.toList R)))) e w = ref22_Of_s2 R N1 (e 0) (e 1) (e 4) (e 5) (e 6) w :=
  segs_eq (l := [(sub (bodyOf Try.f10) [1, 1, 0, 1, 0, 0, 0])]) (y := (sub (bodyOf Try.f10) [1, 1, 0, 1, 0, 0, 1])) (Y := (fun e w => ref22_Of_s1 R N1 (e 0) (e 1) (e 4) (e 5) (e 6) w)) (ref22_Of_s1_eq R N1) (fun e w => by kernel_rfl)
def ref22_Of_L3F (R : Value → World → Prop) (N1 : List Value → World → Prop) (xs : List Value) (w : World) : Prop :=
  match xs with
  | [x0, x1, x4, x5, x6] => ref22_Of_s2 R N1 x0 x1 x4 x5 x6 w
  | _ => False
def ref22_Of_L3 (R : Value → World → Prop) (x0 x1 x4 x5 x6 : Value) (w : World) : Prop :=
  ∃ m, loopV (ref22_Of_L3F R) m [x0, x1, x4, x5, x6] w
theorem ref22_Of_L3_eq (R : Value → World → Prop) : ∀ e w, lift Try.prog 28 (sub (bodyOf Try.f10) [1, 1, 0, 1, 0]) (blockK 0 (seqK (fun e w => ref22_Of_s0 R (e 4) (e 5) w) (finK Try.prog Try.f10.results.toList R))) e w = ref22_Of_L3 R (e 0) (e 1) (e 4) (e 5) (e 6) w := loop_seg (F := ref22_Of_L3F R) (sel := fun e => [e 0, e 1, e 4, e 5, e 6]) fun N1 => (ref22_Of_s2_eq R N1)
def ref22_Of_s4 (R : Value → World → Prop) (x0 x1 x4 x5 : Value) (w : World) : Prop :=
  ref22_Of_L3 R x0 x1 x4 x5 (.int .i64 0) w
theorem ref22_Of_s4_eq (R : Value → World → Prop) : ∀ e w, lift Try.prog 28 (sub (bodyOf Try.f10) [1, 1, 0]) (seqK (fun e w => ref22_Of_s0 R (e 4) (e 5) w) (finK Try.prog Try.f10.results.toList R)) e w = ref22_Of_s4 R (e 0) (e 1) (e 4) (e 5) w :=
  segs_eq (l := [(sub (bodyOf Try.f10) [1, 1, 0, 0])]) (y := (sub (bodyOf Try.f10) [1, 1, 0, 1])) (Y := (fun e w => ref22_Of_L3 R (e 0) (e 1) (e 4) (e 5) (e 6) w)) (ref22_Of_L3_eq R) (fun e w => by kernel_rfl)
def ref22_Of_s5 (R : Value → World → Prop) (x0 x1 : Value) (w : World) : Prop :=
  newG (zc Try.prog 27) 27 w fun t4 w =>
  lenL x1 fun t8 =>
  bld [(0, 1), (1, 1)] (zc Try.prog 27) #[(0, t8)] fun t9 =>
  newG (zc Try.prog 27) 27 w fun t5 w =>
  stn 2 t5 t9 w fun w =>
  ref22_Of_s4 R x0 x1 t4 t5 w
theorem ref22_Of_s5_eq (R : Value → World → Prop) : ∀ e w, lift Try.prog 28 (bodyOf Try.f10) (finK Try.prog Try.f10.results.toList R) e w = ref22_Of_s5 R (e 0) (e 1) w :=
  segs_eq (l := [(sub (bodyOf Try.f10) [0]), (sub (bodyOf Try.f10) [1, 0])]) (y := (sub (bodyOf Try.f10) [1, 1])) (Y := (fun e w => ref22_Of_s4 R (e 0) (e 1) (e 4) (e 5) w)) (seq_seg (x := (sub (bodyOf Try.f10) [1, 1, 0])) (y := (sub (bodyOf Try.f10) [1, 1, 1])) (ref22_Of_s0_eq R) (ref22_Of_s4_eq R)) (fun e w => by kernel_rfl)
def ref22_Of (R : Value → World → Prop) (x0 x1 : Value) (w : World) : Prop := ref22_Of_s5 R x0 x1 w
theorem ref22_Of_call {R : Value → World → Prop} {x0 x1 : Value} {w : World} (h : ref22_Of R x0 x1 w) : callG Try.prog 10 #[x0, x1] w R :=
  calls_lift_eq Try.mixed Try.func10 (args := [x0, x1]) rfl rfl rfl rfl ((ref22_Of_s5_eq R) (envOf [x0, x1]) w) (by kernel_rfl) h
/-! quayside/quaysideref22.at -/
def ref22_at_s0 (R : Value → World → Prop) (x1 x2 x4 : Value) (w : World) : Prop :=
  fa 1 x2 fun t16 =>
  ld1 t16 (World.drew w) fun t17 =>
  ia 3 t17 x1 fun t19 =>
  ldn 3 t19 (World.drew w) fun t20 =>
  fa 1 x2 fun t21 =>
  ld1 t21 (World.drew w) fun t22 =>
  ia 3 t22 x1 fun t24 =>
  fa 2 t24 fun t25 =>
  ld1 t25 (World.drew w) fun t26 =>
  lenL t26 fun t27 =>
  qG Try.prog (bq .gtr 3 (.tmp 27) (.const (.int .i64 0)) t27 (.int .i64 0)) (World.drew w) fun t28 =>
  stn 3 x4 t20 (World.drew w) fun w =>
  stb Try.prog (bq .gtr 3 (.tmp 27) (.const (.int .i64 0)) t27 (.int .i64 0)) t28 w ∧
  ld1 t25 w (fun u => u = t26) ∧
  ld1 t21 w (fun u => u = t22) ∧
  qG Try.prog (do loadVar 32 (← asAddr x4)) w fun r4 =>
  R (.tuple #[r4, t28]) w
theorem ref22_at_s0_eq (R : Value → World → Prop) : ∀ e w, lift Try.prog 29 (sub (bodyOf Try.f29) [1, 1]) (finK Try.prog Try.f29.results.toList R) e w = ref22_at_s0 R (e 1) (e 2) (e 4) w := fun e w => by kernel_rfl
def ref22_at_s1 (R : Value → World → Prop) (x0 x1 : Value) (w : World) : Prop :=
  newG (Value.cells x0) 27 w fun t2 w =>
  newG (zc Try.prog 32) 32 w fun t4 w =>
  qG Try.prog (bq .lss 3 (.tmp 6) (.const (.int .i64 0)) x1 (.int .i64 0)) w fun t7 =>
  bV t7
  (bld [(0, 1), (1, 1), (2, 1)] (zc Try.prog 32) #[] fun t15 =>
  stn 3 t4 t15 w fun w =>
  qG Try.prog (do loadVar 32 (← asAddr t4)) w fun r4 =>
  R (.tuple #[r4, (.bool false)]) w)
  (fa 1 t2 fun t10 =>
  ld1 t10 w fun t11 =>
  lenL t11 fun t12 =>
  qG Try.prog (bq .geq 3 (.tmp 9) (.tmp 12) x1 t12) w fun t13 =>
  bV t13
  (bld [(0, 1), (1, 1), (2, 1)] (zc Try.prog 32) #[] fun t15_1 =>
  stn 3 t4 t15_1 w fun w =>
  qG Try.prog (do loadVar 32 (← asAddr t4)) w fun r4_1 =>
  R (.tuple #[r4_1, (.bool false)]) w)
  (ref22_at_s0 R x1 t2 t4 w))
theorem ref22_at_s1_eq (R : Value → World → Prop) : ∀ e w, lift Try.prog 29 (bodyOf Try.f29) (finK Try.prog Try.f29.results.toList R) e w = ref22_at_s1 R (e 0) (e 1) w :=
  segs_eq (l := [(sub (bodyOf Try.f29) [0]), (sub (bodyOf Try.f29) [1, 0])]) (y := (sub (bodyOf Try.f29) [1, 1])) (Y := (fun e w => ref22_at_s0 R (e 1) (e 2) (e 4) w)) (ref22_at_s0_eq R) (fun e w => by kernel_rfl)
def ref22_at (R : Value → World → Prop) (x0 x1 : Value) (w : World) : Prop := ref22_at_s1 R x0 x1 w
theorem ref22_at_call {R : Value → World → Prop} {x0 x1 : Value} {w : World} (h : ref22_at R x0 x1 w) : callG Try.prog 29 #[x0, x1] w R :=
  calls_lift_eq Try.mixed Try.func29 (args := [x0, x1]) rfl rfl rfl rfl ((ref22_at_s1_eq R) (envOf [x0, x1]) w) (by kernel_rfl) h
/-! quayside/quaysideref22.Same -/
/-! quayside/quaysideref22.share -/
/-! quayside/quaysideref21.end -/
/-! quayside/quaysideref21.Narrow -/
/-! quayside/quaysideref11.In -/
def ref11_In_s0 (R : Value → World → Prop) (x3 x5 : Value) (w : World) : Prop :=
  fa 0 x5 fun t29 =>
  ld1 t29 w fun t30 =>
  qG Try.prog (Op.unary .not t30) w fun t31 =>
  bV t31
  (R (.bool true) w)
  (ldn 3 x3 w fun t33 =>
  fa 2 x5 fun t34 =>
  ldn 3 t34 w fun t35 =>
  callG Try.prog 16 #[t33, t35] w fun t36 w =>
  qG Try.prog (bq .lss 3 (.tmp 36) (.const (.int .i64 0)) t36 (.int .i64 0)) w fun t37 =>
  bV t37
  (R (.bool true) w)
  (fa 1 x5 fun t40 =>
  ld1 t40 w fun t41 =>
  qG Try.prog (Op.unary .not t41) w fun t42 =>
  bV t42
  (ldn 3 x3 w fun t44 =>
  fa 2 x5 fun t45 =>
  ldn 3 t45 w fun t46 =>
  qG Try.prog (bq .eql 35 (.tmp 44) (.tmp 46) t44 t46) w fun t47 =>
  R t47 w)
  (R (.bool false) w)))
theorem ref11_In_s0_eq (R : Value → World → Prop) : ∀ e w, lift Try.prog 50 (sub (bodyOf Try.f19) [1, 1, 1]) (finK Try.prog Try.f19.results.toList R) e w = ref11_In_s0 R (e 3) (e 5) w := fun e w => by kernel_rfl
def ref11_In_s1 (R : Value → World → Prop) (x0 x1 x2 : Value) (w : World) : Prop :=
  newG (Value.cells x0) 35 w fun t3 w =>
  newG (Value.cells x1) 37 w fun t4 w =>
  newG (Value.cells x2) 37 w fun t5 w =>
  fa 0 t3 fun t7 =>
  ld1 t7 w fun t8 =>
  qG Try.prog (bq .eql 3 (.tmp 8) (.const (.int .i64 0)) t8 (.int .i64 0)) w fun t9 =>
  bV t9
  (R (.bool false) w)
  (fa 0 t4 fun t10 =>
  ld1 t10 w fun t11 =>
  bV t11
  (ldn 3 t3 w fun t13 =>
  fa 2 t4 fun t14 =>
  ldn 3 t14 w fun t15 =>
  callG Try.prog 16 #[t13, t15] w fun t16 w =>
  qG Try.prog (bq .lss 3 (.tmp 16) (.const (.int .i64 0)) t16 (.int .i64 0)) w fun t17 =>
  bV t17
  (R (.bool false) w)
  (fa 1 t4 fun t19 =>
  ld1 t19 w fun t20 =>
  bV t20
  (ldn 3 t3 w fun t22 =>
  fa 2 t4 fun t23 =>
  ldn 3 t23 w fun t24 =>
  qG Try.prog (bq .eql 35 (.tmp 22) (.tmp 24) t22 t24) w fun t25 =>
  bV t25
  (R (.bool false) w)
  (ref11_In_s0 R t3 t5 w))
  (ref11_In_s0 R t3 t5 w)))
  (ref11_In_s0 R t3 t5 w))
theorem ref11_In_s1_eq (R : Value → World → Prop) : ∀ e w, lift Try.prog 50 (bodyOf Try.f19) (finK Try.prog Try.f19.results.toList R) e w = ref11_In_s1 R (e 0) (e 1) (e 2) w :=
  segs_eq (l := [(sub (bodyOf Try.f19) [0]), (sub (bodyOf Try.f19) [1, 0]), (sub (bodyOf Try.f19) [1, 1, 0])]) (y := (sub (bodyOf Try.f19) [1, 1, 1])) (Y := (fun e w => ref11_In_s0 R (e 3) (e 5) w)) (ref11_In_s0_eq R) (fun e w => by kernel_rfl)
def ref11_In (R : Value → World → Prop) (x0 x1 x2 : Value) (w : World) : Prop := ref11_In_s1 R x0 x1 x2 w
theorem ref11_In_call {R : Value → World → Prop} {x0 x1 x2 : Value} {w : World} (h : ref11_In R x0 x1 x2 w) : callG Try.prog 19 #[x0, x1, x2] w R :=
  calls_lift_eq Try.mixed Try.func19 (args := [x0, x1, x2]) rfl rfl rfl rfl ((ref11_In_s1_eq R) (envOf [x0, x1, x2]) w) (by kernel_rfl) h
/-! quayside/quaysideref22.Between -/
/-! quayside/quaysideref22.Joined -/
def ref22_Joined_s0 (R : Value → World → Prop) (x2 x5 x13 x15 : Value) (w : World) : Prop :=
  fa 1 x13 fun t45 =>
  ld1 t45 w fun t46 =>
  fa 1 x15 fun t47 =>
  ld1 t47 w fun t48 =>
  qG Try.prog (Builtin.max_ #[3, 3, 3] 3 #[t46, t48, (.int .i64 1)]) w fun t49 =>
  qG Try.prog (Builtin.min_ #[3, 3] 3 #[x2, (.int .i64 1073741824)]) w fun t51 =>
  qG Try.prog (Builtin.min_ #[3, 3] 3 #[x5, (.int .i64 1073741824)]) w fun t53 =>
  qG Try.prog (bq .mul 3 (.tmp 51) (.tmp 53) t51 t53) w fun t54 =>
  qG Try.prog (bq .quo 3 (.tmp 55) (.tmp 56) t54 t49) w fun t57 =>
  qG Try.prog (Builtin.max_ #[3, 3] 3 #[(.int .i64 1), t57]) w fun t58 =>
  qG Try.prog (Builtin.min_ #[3, 3] 3 #[(.int .i64 1099511627776), t58]) w fun t59 =>
  R t59 w
theorem ref22_Joined_s0_eq (R : Value → World → Prop) : ∀ e w, lift Try.prog 60 (sub (bodyOf Try.f18) [1, 1, 1, 1]) (finK Try.prog Try.f18.results.toList R) e w = ref22_Joined_s0 R (e 2) (e 5) (e 13) (e 15) w := fun e w => by kernel_rfl
def ref22_Joined_s1 (R : Value → World → Prop) (x0 x1 x2 x3 x4 x5 : Value) (w : World) : Prop :=
  newG (Value.cells x0) 27 w fun t6 w =>
  newG (Value.cells x3) 27 w fun t9 w =>
  ldn 2 t6 w fun t20 =>
  callG Try.prog 29 #[t20, x1] w fun t22 w =>
  qG Try.prog (Instr.extract t22 0) w fun t23 =>
  qG Try.prog (Instr.extract t22 1) w fun t24 =>
  newG (zc Try.prog 32) 32 w fun t13 w =>
  stn 3 t13 t23 w fun w =>
  ldn 2 t9 w fun t26 =>
  callG Try.prog 29 #[t26, x4] w fun t28 w =>
  qG Try.prog (Instr.extract t28 0) w fun t29 =>
  qG Try.prog (Instr.extract t28 1) w fun t30 =>
  newG (zc Try.prog 32) 32 w fun t15 w =>
  stn 3 t15 t29 w fun w =>
  qG Try.prog (Op.unary .not t24) w fun t32 =>
  bV t32
  (R (.int .i64 0) w)
  (qG Try.prog (Op.unary .not t30) w fun t35 =>
  bV t35
  (R (.int .i64 0) w)
  (qG Try.prog (bq .lss 3 (.tmp 38) (.const (.int .i64 1)) x2 (.int .i64 1)) w fun t39 =>
  bV t39
  (R (.int .i64 0) w)
  (qG Try.prog (bq .lss 3 (.tmp 42) (.const (.int .i64 1)) x5 (.int .i64 1)) w fun t43 =>
  bV t43
  (R (.int .i64 0) w)
  (ref22_Joined_s0 R x2 x5 t13 t15 w))))
theorem ref22_Joined_s1_eq (R : Value → World → Prop) : ∀ e w, lift Try.prog 60 (bodyOf Try.f18) (finK Try.prog Try.f18.results.toList R) e w = ref22_Joined_s1 R (e 0) (e 1) (e 2) (e 3) (e 4) (e 5) w :=
  segs_eq (l := [(sub (bodyOf Try.f18) [0]), (sub (bodyOf Try.f18) [1, 0]), (sub (bodyOf Try.f18) [1, 1, 0]), (sub (bodyOf Try.f18) [1, 1, 1, 0])]) (y := (sub (bodyOf Try.f18) [1, 1, 1, 1])) (Y := (fun e w => ref22_Joined_s0 R (e 2) (e 5) (e 13) (e 15) w)) (ref22_Joined_s0_eq R) (fun e w => by kernel_rfl)
def ref22_Joined (R : Value → World → Prop) (x0 x1 x2 x3 x4 x5 : Value) (w : World) : Prop := ref22_Joined_s1 R x0 x1 x2 x3 x4 x5 w
theorem ref22_Joined_call {R : Value → World → Prop} {x0 x1 x2 x3 x4 x5 : Value} {w : World} (h : ref22_Joined R x0 x1 x2 x3 x4 x5 w) : callG Try.prog 18 #[x0, x1, x2, x3, x4, x5] w R :=
  calls_lift_eq Try.mixed Try.func18 (args := [x0, x1, x2, x3, x4, x5]) rfl rfl rfl rfl ((ref22_Joined_s1_eq R) (envOf [x0, x1, x2, x3, x4, x5]) w) (by kernel_rfl) h
end Go.Proofs

/- Layer 22: the document's ranges and shares. -/
set_option maxRecDepth 100000
set_option linter.unusedVariables false
set_option linter.unusedSimpArgs false
namespace Go.Proofs
open Go Go.Q
theorem rIn_s0 {wb w : World} {x3 x5 : Nat} {v : V3} {hi : Bd} (hk : Kp [] wb w) (h3 : w.heap[x3]? = some (.cells (valV v).toArray 35)) (h5 : w.heap[x5]? = some (.cells (bC hi).toArray 37)) {R : Value → World → Prop} (hR : ∀ w', Kp [] wb w' → R (.bool (decide (hi.has = false ∨ cmpV v hi.val < 0 ∨ hi.open_ = false ∧ v = hi.val))) w') :
    ref11_In_s0 R (.pointer (some ⟨x3, 0, none⟩)) (.pointer (some ⟨x5, 0, none⟩)) w := by
  unfold ref11_In_s0
  rw [fa_p, ldF (x := .bool hi.has) h5 rfl]
  simp only [un_not, bV_b]
  refine ⟨fun hh => ?_, fun hh => ?_⟩
  · have := hR w hk
    rw [decide_eq_true (.inl (by simpa using hh))] at this
    exact this
  · have hh : hi.has = true := by simpa using hh
    rw [show ∀ K : Value → Prop, ldn 3 (.pointer (some ⟨x3, 0, none⟩)) w K = K (valA v) from fun K => ldA h3 rfl, fa_p, ldP (k := 3) h5 (bd_val hi) (by simp [bC, valV])]
    refine dCompare_spec v hi.val fun w1 k1 => ?_
    have g3 := k1.get h3 (by simp)
    have g5 := k1.get h5 (by simp)
    have hR := hR w1 (hk.trans' k1)
    simp only [bq_lss, bV_b, decide_eq_true_eq, decide_eq_false_iff_not]
    refine ⟨fun hc => ?_, fun hc => ?_⟩
    · rw [decide_eq_true (.inr (.inl hc))] at hR
      exact hR
    · rw [fa_p, ldF (x := .bool hi.open_) g5 rfl]
      simp only [un_not, bV_b]
      refine ⟨fun ho => ?_, fun ho => ?_⟩
      · have ho : hi.open_ = false := by simpa using ho
        rw [ldA (k := 3) g3 rfl, fa_p, ldP (k := 3) g5 (bd_val hi) (by simp [bC, valV]), bq_val]
        have e : decide (hi.has = false ∨ cmpV v hi.val < 0 ∨ hi.open_ = false ∧ v = hi.val) = decide (v = hi.val) := by
          by_cases g : v = hi.val
          · rw [decide_eq_true g, decide_eq_true (.inr (.inr ⟨ho, g⟩))]
          · rw [decide_eq_false g, decide_eq_false]
            rintro (q | q | ⟨_, q⟩)
            · rw [hh] at q; cases q
            · exact hc q
            · exact g q
        rw [e] at hR
        exact hR
      · have ho : hi.open_ = true := by simpa using ho
        rw [decide_eq_false] at hR
        · exact hR
        · rintro (q | q | ⟨q, _⟩)
          · rw [hh] at q; cases q
          · exact hc q
          · rw [ho] at q; cases q
theorem rIn_spec {w : World} (v : V3) (lo hi : Bd) {R : Value → World → Prop} (hR : ∀ w', Kp [] w w' → R (.bool (inT v lo hi)) w') : callG Try.prog 19 #[valA v, bdA lo, bdA hi] w R := by
  refine ref11_In_call ?_
  unfold ref11_In ref11_In_s1
  have e0 : ∀ (v : V3) (w : World) (k : Value → World → Prop), newG (Value.cells (valA v)) 35 w k = newG (Value.cells (.agg (valV v).toArray)) 35 w k := fun _ _ _ => rfl
  have e1 : ∀ (v : Bd) (w : World) (k : Value → World → Prop), newG (Value.cells (bdA v)) 37 w k = newG (Value.cells (.agg (bC v).toArray)) 37 w k := fun _ _ _ => rfl
  rw [e0]
  refine argB fun x3 w1 hx3 h3 k1 => ?_
  rw [e1]
  refine argB fun x4 w2 hx4 h4 k2 => ?_
  rw [e1]
  refine argB fun x5 w3 hx5 h5 k3 => ?_
  have b3 := k3.get (k2.get h3 (by simp)) (by simp)
  have b4 := k3.get h4 (by simp)
  have k03 := (k1.trans' k2).trans' k3
  unfold inT at hR
  rw [fa_p, ldF (x := .int .i64 v.k) b3 rfl]
  simp only [bq_eql, bV_b, decide_eq_true_eq, decide_eq_false_iff_not]
  refine ⟨fun h => ?_, fun h => ?_⟩
  · rw [if_pos h] at hR; exact hR w3 k03
  · rw [if_neg h] at hR
    rw [fa_p, ldF (x := .bool lo.has) b4 rfl]
    simp only [bV_b]
    refine ⟨fun hl => ?_, fun hl => ?_⟩
    · rw [show ∀ K : Value → Prop, ldn 3 (.pointer (some ⟨x3, 0, none⟩)) w3 K = K (valA v) from fun K => ldA b3 rfl, fa_p, ldP (k := 3) b4 (bd_val lo) (by simp [bC, valV])]
      refine dCompare_spec v lo.val fun w4 k4 => ?_
      have g3 := k4.get b3 (by simp)
      have g4 := k4.get b4 (by simp)
      have g5 := k4.get h5 (by simp)
      have k04 := k03.trans' k4
      simp only [bq_lss, bV_b, decide_eq_true_eq, decide_eq_false_iff_not]
      refine ⟨fun hc => ?_, fun hc => ?_⟩
      · rw [if_pos ⟨hl, .inl hc⟩] at hR; exact hR w4 k04
      · rw [fa_p, ldF (x := .bool lo.open_) g4 rfl]
        simp only [bV_b]
        refine ⟨fun ho => ?_, fun ho => ?_⟩
        · rw [ldA (k := 3) g3 rfl, fa_p, ldP (k := 3) g4 (bd_val lo) (by simp [bC, valV]), bq_val]
          simp only [bV_b, decide_eq_true_eq, decide_eq_false_iff_not]
          refine ⟨fun he => ?_, fun he => ?_⟩
          · rw [if_pos ⟨hl, .inr ⟨ho, he⟩⟩] at hR; exact hR w4 k04
          · rw [if_neg (by rintro ⟨_, q | ⟨_, q⟩⟩; exact hc q; exact he q)] at hR
            exact rIn_s0 k04 g3 g5 hR
        · rw [if_neg (by rintro ⟨_, q | ⟨q, _⟩⟩; exact hc q; rw [ho] at q; cases q)] at hR
          exact rIn_s0 k04 g3 g5 hR
    · rw [if_neg (by rintro ⟨q, _⟩; rw [hl] at q; cases q)] at hR
      exact rIn_s0 k03 b3 h5 hR
end Go.Proofs

/- Layer 22: the document's tighter end. -/
set_option maxRecDepth 100000
set_option linter.unusedVariables false
set_option linter.unusedSimpArgs false
namespace Go.Proofs
open Go Go.Q
end Go.Proofs

/- Layer 22: the orders in which Narrow may go. (Written by gen_nw22.py.) -/
set_option maxRecDepth 100000
set_option linter.unusedVariables false
set_option linter.unusedSimpArgs false
namespace Go.Proofs
open Go Go.Q
end Go.Proofs

/- Layer 22: what two ranges say together, by the document. (Written by gen_nwr22.py.) -/
set_option maxRecDepth 100000
set_option linter.unusedVariables false
set_option linter.unusedSimpArgs false
namespace Go.Proofs
open Go Go.Q
section
variable {w wj : World} {x8 x9 x11 x12 : Nat} {A B : Bd} {R : Value → World → Prop}
end
end Go.Proofs

/- Layer 22: the document's list of values with one more. -/
set_option maxRecDepth 100000
set_option linter.unusedVariables false
set_option linter.unusedSimpArgs false
namespace Go.Proofs
open Go Go.Q
theorem tw_eqV {x : V3} : ∀ {l : List V3} {k : Nat}, k ≤ l.length → (∀ j (h : j < l.length), j < k → leV l[j] x) → (∀ h : k < l.length, ¬ leV l[k] x) → insV l x = l.take k ++ [x] ++ l.drop k := by
  have key : ∀ {l : List V3} {k : Nat}, k ≤ l.length → (∀ j (h : j < l.length), j < k → leV l[j] x) → (∀ h : k < l.length, ¬ leV l[k] x) → l.takeWhile (fun y => decide (leV y x)) = l.take k ∧ l.dropWhile (fun y => decide (leV y x)) = l.drop k := by
    intro l
    induction l with
    | nil => intro k hk _ _; simp
    | cons y r ih =>
      intro k hk h1 h2
      cases k with
      | zero =>
        have := h2 (by simp)
        simp only [List.getElem_cons_zero] at this
        rw [List.takeWhile_cons_of_neg (by simpa using this), List.dropWhile_cons_of_neg (by simpa using this)]
        simp
      | succ k =>
        have h0 := h1 0 (by simp) (by omega)
        simp only [List.getElem_cons_zero] at h0
        obtain ⟨g1, g2⟩ := ih (k := k) (by simpa using hk) (fun j hj hjk => by have := h1 (j + 1) (by simpa using hj) (by omega); simpa using this) (fun h => by have := h2 (by simpa using h); simpa using this)
        rw [List.takeWhile_cons_of_pos (by simpa using h0), List.dropWhile_cons_of_pos (by simpa using h0), g1, g2]
        simp
  intro l k hk h1 h2
  obtain ⟨g1, g2⟩ := key hk h1 h2
  unfold insV
  rw [g1, g2]
theorem cmpV_le {a b : V3} : cmpV a b ≤ 0 ↔ leV a b := by
  rcases cmpV_cases a b with ⟨h1, h2⟩ | ⟨h1, h2⟩ | ⟨h1, h2⟩
  · exact ⟨fun _ => ltV_asymm h2, fun _ => by omega⟩
  · subst h2; exact ⟨fun _ => ltV_irrefl a, fun _ => by omega⟩
  · exact ⟨fun h => by omega, fun h => absurd h2 h⟩
theorem sorted_spec {w : World} {x0 : Value} {l : List V3} (hr : Rd w x0 3 (l.map valV)) (hl : l.length < 2 ^ 30) (v : V3) {R : Value → World → Prop} (hR : ∀ out w', Fr w w' out 3 ((insV l v).map valV) → R out w') : callG Try.prog 37 #[x0, valA v] w R := by
  refine ref22_sorted_call ?_
  unfold ref22_sorted ref22_sorted_s3 valA
  refine argB fun x3 w1 hx3 h3 k1 => ?_
  unfold ref22_sorted_L2
  have hlm : (l.map valV).length = l.length := by simp
  refine loop_inv (fun m xs wi => ∃ k, k ≤ l.length ∧ m = l.length - k ∧ xs = [x0, .pointer (some ⟨x3, 0, none⟩), .int .i64 (k : Nat)] ∧ Kp [] w1 wi ∧ ∀ j (h : j < l.length), j < k → leV l[j] v) ?_ (m := l.length) ⟨0, by omega, rfl, rfl, Kp.refl _ _, fun j _ h => by omega⟩
  rintro m N xs wi ⟨k, hk, rfl, rfl, hki, hb⟩ hN
  have hkw : IntKind.i64.wrap ((k : Int) + 1) = ((k + 1 : Nat) : Int) := by rw [w64 (by omega) (by omega)]; simp
  have s0 : ∀ w', Kp [] w1 w' → (∀ h : k < l.length, ¬ leV l[k] v) → ref22_sorted_s0 R x0 (.pointer (some ⟨x3, 0, none⟩)) (.int .i64 (k : Nat)) w' := by
    intro w' hk' hst
    have hw' := k1.trans' hk'
    have hrw := hr.keep hw'
    obtain ⟨v1, r1, e1⟩ := hrw.take (p := k) (by rw [hlm]; exact hk) (kd := .i64)
    unfold ref22_sorted_s0
    rw [e1, zcVal]
    refine fr_app (k := 3) (rows := []) (bytes := 32) (z := [.int .i64 0, .int .i64 0, .string (str [])]) (x := v1) (w0 := w') (G := (l.map valV).take k) (fr_nil (Kp.refl _ _)) (by omega) rfl (fun y hy => r1.row hy) ?_ (fun K' hK' => r1.src K' hK') (by simp; omega) (by simp; omega) fun t44 w2 hf2 => ?_
    · rw [← List.map_take]; exact vC_one _
    have hk2 := hf2.kp
    rw [ldA (k := 3) ((hk'.trans' hk2).get h3 (by simp)) rfl]
    refine bsl_rowN (n := 3) (cs := valV v) (by omega) rfl rfl fun t51 w3 hf3 => ?_
    refine fr_push (wx := w3) (hf2.keep hf3.kp) hf3.rd (by omega) rfl (by simp [valV]) (by simp; omega) (by simp; omega) fun t52 w4 hf4 => ?_
    obtain ⟨v2, r2, e2⟩ := (hrw.keep hf4.kp).drop (p := k) (by rw [hlm]; exact hk) (kd := .i64)
    rw [e2]
    refine fr_app (k := 3) (bytes := 32) (z := [.int .i64 0, .int .i64 0, .string (str [])]) (x := v2) (G := (l.map valV).drop k) hf4 (by omega) rfl (fun y hy => r2.row hy) ?_ (fun K' hK' => r2.src K' hK') (by simp; omega) (by simp; omega) fun t57 w5 hf5 => ?_
    · rw [← List.map_drop]; exact vC_one _
    refine hR t57 w5 ?_
    rw [tw_eqV hk hb hst]
    simp only [List.map_append, List.map_take, List.map_drop, List.map_cons, List.map_nil]
    have := hf5.base hw'
    simpa using this
  have hri := hr.keep (k1.trans' hki)
  unfold ref22_sorted_L2F ref22_sorted_b1
  dsimp only
  rw [hri.lenL, hlm]
  simp only [bq_lss, bV_b, decide_eq_true_eq, decide_eq_false_iff_not]
  refine ⟨fun hlt => ?_, fun hge => s0 _ hki.drew fun h => by omega⟩
  have hlt : k < l.length := by omega
  obtain ⟨q, q1, q2, _⟩ := (hri.keep kp_drew).get (i := k) (by simpa using hlt)
  have hrow : (l.map valV)[k]'(by simpa using hlt) = valV l[k] := by simp
  rw [hrow] at q2
  rw [q1, q2, ldA (k := 3) (hki.drew.get h3 (by simp)) rfl]
  refine dCompare_spec l[k] v fun w4 k4 => ?_
  have g4 := hki.drew.trans' k4
  simp only [bq_leq, bV_b, decide_eq_true_eq, decide_eq_false_iff_not, bq_add, hkw]
  refine ⟨fun hc => ?_, fun hc => s0 w4 g4 fun _ hh => hc (cmpV_le.2 hh)⟩
  refine hN (l.length - (k + 1)) _ _ (by omega) ⟨k + 1, by omega, rfl, rfl, g4, fun j hj hjk => ?_⟩
  by_cases e : j = k
  · subst e; exact cmpV_le.1 hc
  · exact hb j hj (by omega)
end Go.Proofs

/- Indexes as values: buckets that can be read; buckets in a slice of one's own; buckets that are filled. -/
set_option linter.unusedVariables false
set_option linter.unusedSimpArgs false
namespace Go.Q
/-- a value whose numbers are numbers of 64 bits -/
structure V3.Rg (v : V3) : Prop where
  k0 : -9223372036854775808 ≤ v.k
  k1 : v.k < 9223372036854775808
  n0 : -9223372036854775808 ≤ v.n
  n1 : v.n < 9223372036854775808
theorem V3.Rg.wf {v : V3} (h : v.Rg) (hok : v.ok = true) : v.Wf := by
  refine ⟨h.k0, h.k1, h.n0, h.n1, ?_⟩
  unfold V3.ok at hok
  split at hok
  · simp at hok; rw [hok.2]; decide
  · split at hok
    · simp at hok; rw [hok]; decide
    · split at hok
      · simp at hok; omega
      · split at hok
        · simp at hok; rw [hok.2]; decide
        · cases hok
def cel (v : Value) : List Value := [v]
def Ix (w : World) (o : Value) (bs : List (List E)) : Prop :=
  ∃ vs : List Value, Rd w o 1 (vs.map cel) ∧ vs.length = bs.length ∧ ∀ k (h : k < bs.length) v, vs[k]? = some v → Rd w v 4 (bs[k].map eC)
def IxO (w : World) (o : Value) (bs : List (List E)) (So X : List Nat) : Prop :=
  (∃ vs : List Value, RowsAt w o 1 (vs.map cel) So ∧ vs.length = bs.length ∧ ∀ k (h : k < bs.length) v, vs[k]? = some v → ∃ S, ArgAt w v 4 (bs[k].map eC) S ∧ ∀ x ∈ S, x ∉ So ∧ x ∉ X) ∧ ∀ x ∈ So, x ∉ X
section
variable {w0 w w' : World} {o : Value} {bs : List (List E)}
theorem Ix.keep (h : Ix w o bs) (hk : Kp [] w w') : Ix w' o bs := by
  obtain ⟨vs, h1, h2, h3⟩ := h
  exact ⟨vs, h1.keep hk, h2, fun k hlt v hv => (h3 k hlt v hv).keep hk⟩
theorem Ix.lenL (h : Ix w o bs) {K : Value → Prop} : lenL o K = K (.int .i64 bs.length) := by
  obtain ⟨vs, h1, h2, h3⟩ := h
  rw [h1.lenL, List.length_map, h2]
theorem Ix.one (h : Ix w o bs) : Q.one o = true := by
  obtain ⟨vs, h1, h2, h3⟩ := h
  obtain ⟨a, c, hv⟩ := h1.slice
  rw [hv]; rfl
/-- a row of one cell is read, now or later -/
theorem Rd.oneK {v : Value} {rows : List (List Value)} (h : Rd w v 1 rows) {i : Nat} (hi : i < rows.length) {x : Value} (hx : rows[i] = [x]) : ∃ p, (∀ kd K, ia 1 v (.int kd i) K = K p) ∧ ∀ w', Kp [] w w' → ∀ K : Value → Prop, ld1 p w' K = K x := by
  obtain ⟨bl, o, T, c, fr, h1, h2, h3, h4, h5⟩ := h.at hi
  refine ⟨_, h2, fun w' hk K => ?_⟩
  have := h5 0 (by omega)
  rw [hx, Nat.add_zero, List.getElem?_cons_zero] at this
  exact ldF (hk.get h1 (by simp)) this
/-- a row is read, whole or in part, now or later -/
theorem Rd.rowK {v : Value} {k : Nat} {rows : List (List Value)} (h : Rd w v k rows) {i : Nat} (hi : i < rows.length) : ∃ bl o, (∀ kd K, ia k v (.int kd i) K = K (.pointer (some ⟨bl, o, none⟩))) ∧ ∀ w', Kp [] w w' → (∀ K : Value → Prop, ldn k (.pointer (some ⟨bl, o, none⟩)) w' K = K (.agg rows[i].toArray)) ∧
    (∀ j x, j < k → rows[i][j]? = some x → ∀ K : Value → Prop, ld1 (.pointer (some ⟨bl, o + j, none⟩)) w' K = K x) ∧ ∀ j n part, j + n ≤ k → rows[i].toArray.extract j (j + n) = part → ∀ K : Value → Prop, ldn n (.pointer (some ⟨bl, o + j, none⟩)) w' K = K (.agg part) := by
  obtain ⟨bl, o, T, c, fr, h1, h2, h3, h4, h5⟩ := h.at hi
  refine ⟨bl, o, h2, fun w' hk => ⟨fun K => ldP (hk.get h1 (by simp)) h4 h3, fun j x hj hx K => ldF (hk.get h1 (by simp)) (by rw [h5 j hj]; exact hx), fun j n part hjn hp K => ldP (hk.get h1 (by simp)) ?_ (by omega)⟩⟩
  rw [← hp, ← h4]
  apply Array.toList_inj.1
  simp only [Array.toList_extract, List.extract_eq_take_drop, List.drop_take, List.take_take, List.drop_drop]
  congr 1
  omega
theorem Ix.at (h : Ix w o bs) {k : Nat} (hk : k < bs.length) : ∃ p v, (∀ K, ia 1 o (.int .i64 k) K = K p) ∧ (∀ w', Kp [] w w' → ∀ K : Value → Prop, ld1 p w' K = K v) ∧ Rd w v 4 (bs[k].map eC) := by
  obtain ⟨vs, h1, h2, h3⟩ := h
  have hkv : k < (vs.map cel).length := by simpa [h2] using hk
  obtain ⟨p, g1, g2⟩ := h1.oneK (i := k) hkv (x := vs[k]) (by simp [cel])
  exact ⟨p, vs[k], fun K => g1 .i64 K, g2, h3 k hk _ (by simp [h2, hk])⟩
theorem IxO.ix {So X : List Nat} (h : IxO w o bs So X) : Ix w o bs := by
  obtain ⟨⟨vs, h1, h2, h3⟩, _⟩ := h
  refine ⟨vs, ⟨So, .inr h1.rd⟩, h2, fun k hlt v hv => ?_⟩
  obtain ⟨S, h4, _⟩ := h3 k hlt v hv
  exact ⟨S, h4⟩
theorem IxO.keepS {So X S : List Nat} (h : IxO w o bs So X) (hk : Kp S w w') (hS : ∀ x ∈ S, x ∈ X) : IxO w' o bs So X := by
  obtain ⟨⟨vs, h1, h2, h3⟩, h0⟩ := h
  refine ⟨⟨vs, h1.keep hk fun x hx hm => h0 x hx (hS x hm), h2, fun k hlt v hv => ?_⟩, h0⟩
  obtain ⟨S, h4, h5⟩ := h3 k hlt v hv
  exact ⟨S, h4.keep hk fun x hx hm => (h5 x hx).2 (hS x hm), h5⟩
theorem IxO.keep {So X : List Nat} (h : IxO w o bs So X) (hk : Kp [] w w') : IxO w' o bs So X := h.keepS hk (by simp)
theorem IxO.less {So X Y : List Nat} (h : IxO w o bs So X) (hY : ∀ y ∈ Y, y ∈ X) : IxO w o bs So Y := by
  obtain ⟨⟨vs, h1, h2, h3⟩, h0⟩ := h
  refine ⟨⟨vs, h1, h2, fun k hlt v hv => ?_⟩, fun x hx hm => h0 x hx (hY x hm)⟩
  obtain ⟨S, h4, h5⟩ := h3 k hlt v hv
  exact ⟨S, h4, fun x hx => ⟨(h5 x hx).1, fun hm => (h5 x hx).2 (hY x hm)⟩⟩
theorem eC_one (b : List E) : ((b.map eC).flatten).all Q.one = true := by
  rw [List.all_eq_true]
  intro x hx
  obtain ⟨r, hr, hxr⟩ := List.mem_flatten.1 hx
  obtain ⟨y, _, rfl⟩ := List.mem_map.1 hr
  simp only [eC, valV, List.cons_append, List.nil_append, List.mem_cons, List.not_mem_nil, or_false] at hxr
  rcases hxr with rfl | rfl | rfl | rfl <;> rfl
theorem argLt {v : Value} {k : Nat} {rows : List (List Value)} {S : List Nat} (h : ArgAt w v k rows S) : ∃ S', ArgAt w v k rows S' ∧ ∀ x ∈ S', x ∈ S ∧ x < w.heap.size := by
  rcases h with h | h
  · exact ⟨[], .inl h, by simp⟩
  · rcases h with h | ⟨bl, o, cap, c, T, fr, h1, h2, h3, h4⟩
    · exact ⟨[], .inr (.inl h), by simp⟩
    · exact ⟨S, .inr (.inr ⟨bl, o, cap, c, T, fr, h1, h2, h3, h4⟩), fun x hx => ⟨hx, by rw [h2] at hx; simp at hx; rw [hx]; exact lt_of_blk h3⟩⟩
/-- an index whose blocks are none of these -/
def IxX (X : List Nat) (w : World) (o : Value) (bs : List (List E)) : Prop :=
  ∃ vs : List Value, (∃ So, ArgAt w o 1 (vs.map cel) So ∧ ∀ x ∈ So, x ∉ X) ∧ vs.length = bs.length ∧ ∀ k (h : k < bs.length) v, vs[k]? = some v → ∃ S, ArgAt w v 4 (bs[k].map eC) S ∧ ∀ x ∈ S, x ∉ X
theorem IxX.ix {X : List Nat} (h : IxX X w o bs) : Ix w o bs := by
  obtain ⟨vs, ⟨So, h1, _⟩, h2, h3⟩ := h
  refine ⟨vs, ⟨So, h1⟩, h2, fun k hlt v hv => ?_⟩
  obtain ⟨S, h4, _⟩ := h3 k hlt v hv
  exact ⟨S, h4⟩
theorem IxX.keepS {X S : List Nat} (h : IxX X w o bs) (hk : Kp S w w') (hS : ∀ x ∈ S, x ∈ X) : IxX X w' o bs := by
  obtain ⟨vs, ⟨So, h1, h0⟩, h2, h3⟩ := h
  refine ⟨vs, ⟨So, h1.keep hk fun x hx hm => h0 x hx (hS x hm), h0⟩, h2, fun k hlt v hv => ?_⟩
  obtain ⟨S, h4, h5⟩ := h3 k hlt v hv
  exact ⟨S, h4.keep hk fun x hx hm => h5 x hx (hS x hm), h5⟩
theorem IxX.keep {X : List Nat} (h : IxX X w o bs) (hk : Kp [] w w') : IxX X w' o bs := h.keepS hk (by simp)
theorem IxX.more {X Y : List Nat} (h : IxX X w o bs) (hY : ∀ y ∈ Y, y ∈ X ∨ w.heap.size ≤ y) : IxX Y w o bs := by
  obtain ⟨vs, ⟨So, h1, h0⟩, h2, h3⟩ := h
  obtain ⟨So', g1, g2⟩ := argLt h1
  refine ⟨vs, ⟨So', g1, fun x hx hm => ?_⟩, h2, fun k hlt v hv => ?_⟩
  · rcases hY x hm with hm | hm
    · exact h0 x (g2 x hx).1 hm
    · have := (g2 x hx).2; omega
  · obtain ⟨S, h4, h5⟩ := h3 k hlt v hv
    obtain ⟨S', g3, g4⟩ := argLt h4
    refine ⟨S', g3, fun x hx hm => ?_⟩
    rcases hY x hm with hm | hm
    · exact h5 x (g4 x hx).1 hm
    · have := (g4 x hx).2; omega
/-- a bucket of one's own is turned -/
theorem IxO.upd {So X : List Nat} (h : IxO w o bs So X) {k : Nat} (hk : k < bs.length) : ∃ p v, (∀ K, ia 1 o (.int .i64 k) K = K p) ∧ (∀ w1, Kp [] w w1 → ∀ K : Value → Prop, ld1 p w1 K = K v) ∧ Rd w v 4 (bs[k].map eC) ∧
    ∀ w2, Kp [] w w2 → ∀ v' b' S', ArgAt w2 v' 4 (b'.map eC) S' → Q.one v' = true → (∀ x ∈ S', x ∉ So ∧ x ∉ X) → ∀ K : World → Prop, (∀ w3, Kp So w2 w3 → IxO w3 o (bs.set k b') So X → K w3) → st1 p v' w2 K := by
  obtain ⟨⟨vs, h1, h2, h3⟩, h0⟩ := h
  have hkv : k < vs.length := by omega
  obtain ⟨bl, g1, g2, g3, g4⟩ := h1.updK (f := cel) hkv
  obtain ⟨S, g5, g6⟩ := h3 k hk vs[k] (by simp [hkv])
  refine ⟨_, vs[k], g2, fun w1 hk1 K => g3 w1 hk1 0 vs[k] rfl K, ⟨S, g5⟩, fun w2 hk2 v' b' S' hv' hone hS' K hK => ?_⟩
  refine g4 w2 hk2 0 (by omega) v' v' hone rfl K fun w3 hk3 hr => hK w3 hk3 ⟨⟨vs.set k v', hr, by simp [h2], fun j hj v hv => ?_⟩, h0⟩
  simp only [List.length_set] at hj
  by_cases he : k = j
  · subst he
    rw [List.getElem?_set_self hkv] at hv
    injection hv with hv
    subst hv
    refine ⟨S', ?_, hS'⟩
    rw [List.getElem_set_self]
    exact hv'.keep hk3 fun x hx => (hS' x hx).1
  · rw [List.getElem?_set_ne he] at hv
    obtain ⟨S2, q1, q2⟩ := h3 j hj v hv
    refine ⟨S2, ?_, q2⟩
    rw [List.getElem_set_ne he]
    exact (q1.keep hk2 (by simp)).keep hk3 fun x hx => (q2 x hx).1
/-! ### buckets that are filled -/
structure Gro (w0 w : World) (y : Nat) (o : Value) (bs : List (List E)) (So : List Nat) (B : Nat → List Nat) : Prop where
  ex : ∃ vs : List Value, RowsAt w o 1 (vs.map cel) So ∧ vs.length = bs.length ∧ ∀ k (h : k < bs.length) v, vs[k]? = some v → RowsAt w v 4 (bs[k].map eC) (B k)
  so : ∀ x ∈ So, w0.heap.size ≤ x ∧ x ≠ y
  b : ∀ k x, x ∈ B k → w0.heap.size ≤ x ∧ x < w.heap.size ∧ x ∉ So ∧ x ≠ y
  nd : ∀ j k x, j ≠ k → x ∈ B j → x ∉ B k
theorem Gro.keep {y : Nat} {So : List Nat} {B : Nat → List Nat} (h : Gro w0 w y o bs So B) (hk : Kp [] w w') : Gro w0 w' y o bs So B := by
  obtain ⟨⟨vs, h1, h2, h3⟩, h4, h5, h6⟩ := h
  exact ⟨⟨vs, h1.keep hk (by simp), h2, fun k hlt v hv => (h3 k hlt v hv).keep hk (by simp)⟩, h4, fun k x hx => by
    obtain ⟨a, b, c⟩ := h5 k x hx
    exact ⟨a, Nat.lt_of_lt_of_le b hk.size, c⟩, h6⟩
theorem Gro.keepS {y : Nat} {So S : List Nat} {B : Nat → List Nat} (h : Gro w0 w y o bs So B) (hk : Kp S w w') (hS : ∀ x ∈ S, x < w0.heap.size ∨ x = y) : Gro w0 w' y o bs So B := by
  obtain ⟨⟨vs, h1, h2, h3⟩, h4, h5, h6⟩ := h
  exact ⟨⟨vs, h1.keep hk fun x hx hm => by have := h4 x hx; have := hS x hm; omega, h2, fun k hlt v hv => (h3 k hlt v hv).keep hk fun x hx hm => by have := h5 k x hx; have := hS x hm; omega⟩, h4, fun k x hx => by
    obtain ⟨a, b, c⟩ := h5 k x hx
    exact ⟨a, Nat.lt_of_lt_of_le b hk.size, c⟩, h6⟩
theorem Gro.push {e bytes : Nat} {z : List Value} {y : Nat} {So : List Nat} {B : Nat → List Nat} (h : Gro w0 w y o bs So B) (hy : y < w.heap.size) (hz : z.length = 4) (hb : bytes ≤ 64) {k : Nat} (hk : k < bs.length) : ∃ p v, (∀ K, ia 1 o (.int .i64 k) K = K p) ∧ (∀ w1, Kp [] w w1 → ∀ K : Value → Prop, ld1 p w1 K = K v) ∧
    ∀ w1, Kp [] w w1 → ∀ x a, Rd w1 x 4 [eC a] → bs[k].length < 2 ^ 30 → ∀ K : Value → World → Prop, (∀ v' w2 B', Kp (B k) w1 w2 → (∀ K2 : World → Prop, (∀ w3, Kp So w2 w3 → Gro w0 w3 y o (bs.set k (bs[k] ++ [a])) So B' → K2 w3) → st1 p v' w2 K2) → K v' w2) → app e 4 bytes z.toArray v x w1 K := by
  obtain ⟨⟨vs, h1, h2, h3⟩, h4, h5, h6⟩ := h
  have hkv : k < vs.length := by omega
  obtain ⟨bl, g1, g2, g3, g4⟩ := h1.updK (f := cel) hkv
  have g5 := h3 k hk vs[k] (by simp [hkv])
  refine ⟨_, vs[k], g2, fun w1 hk1 K => g3 w1 hk1 0 vs[k] rfl K, fun w1 hk1 x a hx hl K hK => ?_⟩
  have hs1 := hk1.size
  have hm : 2 * (bs[k].length + 1) * bytes ≤ 2 ^ 32 * 64 := Nat.mul_le_mul (by omega) hb
  refine rows_app (g5.keep hk1 (by simp)) (by omega) hz (G := [eC a]) (by simp [eC, valV]) (by simpa using eC_one [a]) (fun K' hK' => hx.src K' hK') (by simp; omega) (by simp; omega) fun v' w2 S' hr hk2 hS' => ?_
  have hs2 := hk2.size
  obtain ⟨va, vc, hva, _⟩ := hr.len
  have hone : Q.one v' = true := by rw [hva]; rfl
  have hS2 : ∀ q ∈ S', w0.heap.size ≤ q ∧ q ∉ So ∧ q ≠ y ∧ ∀ j, j ≠ k → q ∉ B j := by
    intro q hq
    rcases hS' q hq with hq | hq
    · obtain ⟨a1, a2, a3, a4⟩ := h5 k q hq
      exact ⟨a1, a3, a4, fun j hj => h6 k j q (fun h => hj h.symm) hq⟩
    · have hso := h1.lt
      refine ⟨?_, fun hm => by have := hso q hm; omega, by omega, fun j hj hm => by have := (h5 j q hm).2.1; omega⟩
      have := (h4 bl (by rw [g1]; simp)).1
      have := hso bl (by rw [g1]; simp)
      omega
  have hnS : ∀ q ∈ So, q ∉ B k := fun q hq hm => (h5 k q hm).2.2.1 hq
  have hso2 := (h1.keep hk1 (by simp)).keep hk2 hnS
  obtain ⟨bl', g1', g2', g3', g4'⟩ := hso2.updK (f := cel) hkv
  have hbl : bl' = bl := by rw [g1] at g1'; simpa using g1'.symm
  subst hbl
  refine hK v' w2 (fun j => if j = k then S' else B j) hk2 fun K2 hK2 => ?_
  refine g4' w2 (Kp.refl _ _) 0 (by omega) v' v' hone rfl K2 fun w3 hk3 hr3 => hK2 w3 hk3 ⟨⟨vs.set k v', hr3, by simp [h2], fun j hj v hv => ?_⟩, h4, fun j q hq => ?_, fun i j q hij hq => ?_⟩
  · simp only [List.length_set] at hj
    by_cases he : k = j
    · subst he
      rw [List.getElem?_set_self hkv] at hv
      injection hv with hv
      subst hv
      simp only [if_true]
      rw [List.getElem_set_self, List.map_append]
      exact hr.keep hk3 fun q hq => (hS2 q hq).2.1
    · rw [List.getElem?_set_ne he] at hv
      rw [List.getElem_set_ne he]
      have hjk : ¬ j = k := fun h => he h.symm
      simp only [if_neg hjk]
      exact (((h3 j hj v hv).keep hk1 (by simp)).keep hk2 fun q hq => h6 j k q hjk hq).keep hk3 fun q hq => (h5 j q hq).2.2.1
  · have hs3 := hk3.size
    by_cases hj : j = k
    · simp only [if_pos hj] at hq
      obtain ⟨a1, a2, a3, a4⟩ := hS2 q hq
      have := hr.lt q hq
      exact ⟨a1, by omega, a2, a3⟩
    · simp only [if_neg hj] at hq
      obtain ⟨a1, a2, a3, a4⟩ := h5 j q hq
      exact ⟨a1, by omega, a3, a4⟩
  · by_cases hi : i = k
    · have hj : ¬ j = k := fun h => hij (hi.trans h.symm)
      simp only [if_pos hi] at hq
      simp only [if_neg hj]
      exact (hS2 q hq).2.2.2 j hj
    · simp only [if_neg hi] at hq
      by_cases hj : j = k
      · simp only [if_pos hj]
        intro hm
        exact (hS2 q hm).2.2.2 i hi hq
      · simp only [if_neg hj]
        exact h6 i j q hij hq
end
end Go.Q

/- Slices of slices that are read; a block that is written while a slice stands; columns as values. -/
set_option linter.unusedVariables false
set_option linter.unusedSimpArgs false
namespace Go.Q
section
variable {α : Type} {k : Nat} {f : α → List Value} {w0 w w' : World} {o v : Value} {bs : List (List α)} {rows : List (List Value)}
def Nst (k : Nat) (f : α → List Value) (w : World) (o : Value) (bs : List (List α)) : Prop :=
  ∃ vs : List Value, Rd w o 1 (vs.map cel) ∧ vs.length = bs.length ∧ ∀ i (h : i < bs.length) v, vs[i]? = some v → Rd w v k (bs[i].map f)
theorem Nst.keep (h : Nst k f w o bs) (hk : Kp [] w w') : Nst k f w' o bs := by
  obtain ⟨vs, h1, h2, h3⟩ := h
  exact ⟨vs, h1.keep hk, h2, fun i hi v hv => (h3 i hi v hv).keep hk⟩
theorem Nst.lenL (h : Nst k f w o bs) {K : Value → Prop} : lenL o K = K (.int .i64 bs.length) := by
  obtain ⟨vs, h1, h2, h3⟩ := h
  rw [h1.lenL, List.length_map, h2]
theorem Nst.at (h : Nst k f w o bs) {i : Nat} (hi : i < bs.length) : ∃ p v, (∀ K, ia 1 o (.int .i64 i) K = K p) ∧ (∀ w', Kp [] w w' → ∀ K : Value → Prop, ld1 p w' K = K v) ∧ Rd w v k (bs[i].map f) := by
  obtain ⟨vs, h1, h2, h3⟩ := h
  have hkv : i < (vs.map cel).length := by simpa [h2] using hi
  obtain ⟨p, g1, g2⟩ := h1.oneK (i := i) hkv (x := vs[i]'(by omega)) (by simp [cel])
  exact ⟨p, vs[i]'(by omega), fun K => g1 .i64 K, g2, h3 i hi _ (by simp [h2, hi])⟩
/-- a slice of one's own stands while other blocks, elder ones, are written -/
theorem Fr.keepS {S : List Nat} {wb : World} (h : Fr w0 w v k rows) (hk : Kp S w w') (hS : ∀ x ∈ S, x < w0.heap.size) (hb : Kp [] wb w') (hs : wb.heap.size ≤ w0.heap.size) : Fr wb w' v k rows := by
  obtain ⟨Sv, h1, h2⟩ := h.ex
  exact ⟨⟨Sv, h1.keep hk fun x hx hm => by have := h2 x hx; have := hS x hm; omega, fun x hx => by have := h2 x hx; omega⟩, hb⟩
theorem kp_turn {b : Nat} {o o' : Obj} (h : Kp [] (setBlk w0 b o) w) (hb : b < w0.heap.size) : Kp [] (setBlk w0 b o') (setBlk w b o') := by
  have hs := h.size
  simp only [size_setBlk] at hs
  refine ⟨h.os, h.tape, h.output, by simpa using hs, fun c hc _ => ?_⟩
  simp only [size_setBlk] at hc
  by_cases e : b = c
  · subst e
    rw [heap_self (by unfold Live; omega), heap_self (by unfold Live; omega)]
  · have := h.keep c (by simpa using hc) (by simp)
    rw [heap_ne e] at this
    rw [heap_ne e, heap_ne e, this]
theorem Fr.turn {b : Nat} {o o' : Obj} (h : Fr (setBlk w0 b o) w v k rows) (hb : b < w0.heap.size) : Fr (setBlk w0 b o') (setBlk w b o') v k rows :=
  h.keepS (S := [b]) ((Kp.refl _ _).setBlk (.inl (by simp)) _) (by simpa using hb) (kp_turn h.kp hb) (by simp)
theorem kp_in {b : Nat} {o : Obj} (h : Kp [] (setBlk w0 b o) w) (hb : b < w0.heap.size) : w.heap[b]? = some o := h.get (heap_self hb) (by simp)
end
/-! ### columns as values -/
def cC (n d : Int) (v : Value) : List Value := [.int .i64 n, .int .i64 d, v]
def ColX (X : List Nat) (w : World) (cs : List Value) (c : ColV) : Prop := ∃ v, cs = cC c.nulls c.distinct v ∧ one v = true ∧ ∃ S, ArgAt w v 3 (c.steps.map valV) S ∧ ∀ x ∈ S, x ∉ X
section
variable {w w' : World} {X Y S : List Nat} {cs : List Value} {c : ColV}
theorem ColX.keepS (h : ColX X w cs c) (hk : Kp S w w') (hS : ∀ x ∈ S, x ∈ X) : ColX X w' cs c := by
  obtain ⟨v, h1, h0, Sv, h2, h3⟩ := h
  exact ⟨v, h1, h0, Sv, h2.keep hk fun x hx hm => h3 x hx (hS x hm), h3⟩
theorem ColX.keep (h : ColX X w cs c) (hk : Kp [] w w') : ColX X w' cs c := h.keepS hk (by simp)
theorem ColX.more (h : ColX X w cs c) (hY : ∀ y ∈ Y, y ∈ X ∨ w.heap.size ≤ y) : ColX Y w cs c := by
  obtain ⟨v, h1, h0, Sv, h2, h3⟩ := h
  obtain ⟨S', g1, g2⟩ := argLt h2
  refine ⟨v, h1, h0, S', g1, fun x hx hm => ?_⟩
  rcases hY x hm with hm | hm
  · exact h3 x (g2 x hx).1 hm
  · have := (g2 x hx).2; omega
theorem ColX.step (h : ColX X w cs c) (hk : Kp S w w') (hS : ∀ x ∈ S, x ∈ X) (hY : ∀ y ∈ Y, y ∈ X ∨ w.heap.size ≤ y) : ColX Y w' cs c := by
  have h1 : ColX (X ++ Y) w cs c := h.more fun y hy => by
    rcases List.mem_append.1 hy with hy | hy
    · exact .inl hy
    · exact hY y hy
  exact (h1.keepS hk fun x hx => List.mem_append_left _ (hS x hx)).more fun y hy => .inl (List.mem_append_right _ hy)
theorem ColX.len (h : ColX X w cs c) : cs.length = 3 := by obtain ⟨v, h1, _⟩ := h; rw [h1]; rfl
theorem ColX.ones (h : ColX X w cs c) : cs.all one = true := by obtain ⟨v, h1, h2, _⟩ := h; rw [h1]; simp [cC, h2]
/-- what is known of rows, as a value -/
def StatAt (w : World) (val : Value) (st : StatV) : Prop := ∃ o css, val = .agg #[.int .i64 st.rows, o] ∧ one o = true ∧ Rd w o 3 css ∧ css.length = st.cols.length ∧ ∀ i (h : i < st.cols.length) cs, css[i]? = some cs → ColX [] w cs st.cols[i]
theorem StatAt.keep {val : Value} {st : StatV} (h : StatAt w val st) (hk : Kp [] w w') : StatAt w' val st := by
  obtain ⟨o, css, h1, h0, h2, h3, h4⟩ := h
  exact ⟨o, css, h1, h0, h2.keep hk, h3, fun i hi cs hcs => (h4 i hi cs hcs).keep hk⟩
end
end Go.Q

/- Layer 22: the end of a column, as both sides have it: its steps. -/
set_option maxRecDepth 100000
set_option linter.unusedVariables false
set_option linter.unusedSimpArgs false
namespace Go.Proofs
open Go Go.Q
theorem zcCol : zc Try.prog 32 = (cC 0 0 (.slice none 0 0)).toArray := by kernel_rfl
/-- a world in which a column stands in a variable -/
def cB (w2 : World) (x5 : Nat) (n d : Int) (v : Value) : World := setBlk w2 x5 (.cells (cC n d v).toArray 32)
structure CBs (w w2 : World) (x4 x5 : Nat) : Prop where
  kp : Kp [] w w2
  h4 : w2.heap[x4]? = some (.cells (zc Try.prog 32) 32)
  l4 : w.heap.size ≤ x4
  l5 : w.heap.size ≤ x5
  ne : ¬ x5 = x4
  lt : x5 < w2.heap.size
section
variable {w w2 wi : World} {x4 x5 : Nat} {n d : Int} {v v6 : Value} {l : List V3} {R : Value → World → Prop}
theorem CBs.base (hb : CBs w w2 x4 x5) (h : Kp [] (cB w2 x5 n d v) wi) : Kp [] w wi := (hb.kp.setBlk (.inr hb.l5) _).trans' h
theorem CBs.in (hb : CBs w w2 x4 x5) (h : Kp [] (cB w2 x5 n d v) wi) : wi.heap[x5]? = some (.cells (cC n d v).toArray 32) := kp_in h hb.lt
theorem CBs.in4 (hb : CBs w w2 x4 x5) (h : Kp [] (cB w2 x5 n d v) wi) : wi.heap[x4]? = some (.cells (zc Try.prog 32) 32) := h.get (by unfold cB; rw [heap_ne hb.ne]; exact hb.h4) (by simp)
theorem col_ret (hb : CBs w w2 x4 x5) (h1 : Q.one v = true) (hf : Fr (cB w2 x5 n d v) wi v6 3 (l.map valV)) (hR : ∀ w', Fr w w' v6 3 (l.map valV) → R (.agg (cC n d v).toArray) w') :
    ldn 3 (.pointer (some ⟨x5, 0, none⟩)) wi fun t => stn 3 (.pointer (some ⟨x4, 0, none⟩)) t wi fun w => qG Try.prog (do loadVar 32 (← asAddr (.pointer (some ⟨x4, 0, none⟩)))) w fun r4 => R r4 w := by
  have lt4 := lt_of_blk hb.h4
  rw [ldA (k := 3) (hb.in hf.kp) rfl]
  refine retB (by kernel_rfl) (by kernel_rfl) (hb.in4 hf.kp) (by rw [zcCol]; rfl) rfl (by simp [cC, h1]) fun w6 hk6 => ?_
  refine hR w6 (hf.keepS hk6 (by simpa [cB] using lt4) ((hb.base hf.kp).trans hk6 fun x hx hlt => ?_) (by simpa [cB] using hb.kp.size))
  have := hb.l4
  simp at hx
  omega
theorem col_few {xo yo : Operand} {T : TypeId} (hb : CBs w w2 x4 x5) (hf : Fr (cB w2 x5 n d v) wi v6 3 (l.map valV)) {P : Prop} (hP : 9 < l.length → P) (hR : l.length ≤ 9 → ∀ w', Fr w w' v6 3 (l.map valV) → R (.agg (cC n d v6).toArray) w') :
    lenL v6 fun t48 =>
    qG Try.prog (bq .leq T xo yo t48 (.int .i64 9)) wi fun t49 =>
    bV t49
    (fa 2 (.pointer (some ⟨x5, 0, none⟩)) fun t51 =>
    st1 t51 v6 wi fun w =>
    ldn 3 (.pointer (some ⟨x5, 0, none⟩)) w fun t52 =>
    stn 3 (.pointer (some ⟨x4, 0, none⟩)) t52 w fun w =>
    qG Try.prog (do loadVar 32 (← asAddr (.pointer (some ⟨x4, 0, none⟩)))) w fun r4 =>
    R r4 w) P := by
  rw [hf.rd.lenL, List.length_map]
  simp only [bq_leq, bV_b, decide_eq_true_eq, decide_eq_false_iff_not]
  refine ⟨fun h => ?_, fun h => hP (by omega)⟩
  rw [fa_p, stF (hb.in hf.kp) (by simp [cC]) hf.one]
  have e : (cC n d v).toArray.setIfInBounds (0 + 2) v6 = (cC n d v6).toArray := rfl
  rw [e]
  exact col_ret hb hf.one (hf.turn (o' := .cells (cC n d v6).toArray 32) hb.lt) (hR (by omega))
end
section
variable {w w2 wi : World} {x4 x5 : Nat} {n d : Int} {v6 : Value} {l : List V3} {R : Value → World → Prop}
theorem col_many (hb : CBs w w2 x4 x5) (hf : Fr (cB w2 x5 n d (.slice none 0 0)) wi v6 3 (l.map valV)) (hl : 9 < l.length) (hl2 : l.length < 2 ^ 40) (hR : ∀ v w', Fr w w' v 3 ((stepsV l).map valV) → R (.agg (cC n d v).toArray) w') :
    stat_column_s3 R (.pointer (some ⟨x4, 0, none⟩)) (.pointer (some ⟨x5, 0, none⟩)) v6 wi := by
  unfold stat_column_s3 stat_column_L2
  have hs2 := hf.kp.size
  simp only [cB, size_setBlk] at hs2
  have hlt := hb.lt
  have hl4 := lt_of_blk hb.h4
  have hbi : CBs w wi x4 x5 := ⟨hb.base hf.kp, hb.in4 hf.kp, hb.l4, hb.l5, hb.ne, by omega⟩
  have rd6 : ∀ o, Rd (setBlk wi x5 o) v6 3 (l.map valV) := fun o => (hf.turn (o' := o) hb.lt).rd
  have e0 : cB wi x5 n d (.slice none 0 0) = wi := by
    have hh := hb.in hf.kp
    unfold cB setBlk
    have : wi.heap.setIfInBounds x5 (.cells (cC n d (.slice none 0 0)).toArray 32) = wi.heap := by
      apply Array.ext_getElem?
      intro j
      rw [Array.getElem?_setIfInBounds]
      split
      · rename_i h; subst h; split
        · exact hh.symm
        · rename_i h2; exact absurd (show x5 < wi.heap.size by omega) h2
      · rfl
    rw [this]
  refine loop_inv (fun m xs wj => ∃ k v, k ≤ 9 ∧ m = 9 - k ∧ xs = [.pointer (some ⟨x4, 0, none⟩), .pointer (some ⟨x5, 0, none⟩), v6, .int .i64 (k : Nat)] ∧ Fr (cB wi x5 n d v) wj v 3 (((List.range k).map fun k => l.getD (k * (l.length - 1) / 8) ⟨0, 0, []⟩).map valV)) ?_ (m := 9) ⟨0, .slice none 0 0, by omega, by omega, rfl, by rw [e0]; exact fr_nil (Kp.refl _ _)⟩
  rintro m N xs wj ⟨k, v, hk, rfl, rfl, hv⟩ hN
  unfold stat_column_L2F stat_column_b1
  dsimp only
  simp only [bq_lss, bV_b, decide_eq_true_eq, decide_eq_false_iff_not]
  refine ⟨fun hk9 => ?_, fun hk9 => ?_⟩
  · have hk9 : k < 9 := by omega
    have hvd := hv.keep kp_drew
    have h5 := hbi.in hvd.kp
    rw [fa_p, ldF (x := v) h5 rfl]
    have r6 : ∀ w', Kp [] wj.drew w' → Rd w' v6 3 (l.map valV) := fun w' hk' => (rd6 _).keep (hvd.kp.trans' hk')
    have hp : k * (l.length - 1) < 9 * 2 ^ 40 := Nat.lt_of_le_of_lt (Nat.mul_le_mul_left k (show l.length - 1 ≤ 2 ^ 40 by omega)) (by have : k * 2 ^ 40 < 9 * 2 ^ 40 := Nat.mul_lt_mul_of_pos_right hk9 (by decide); exact this)
    have q1 : IntKind.i64.wrap ((l.length : Int) - 1) = ((l.length - 1 : Nat) : Int) := by rw [w64 (by omega) (by omega)]; omega
    have q2 : ((k : Nat) : Int) * ((l.length - 1 : Nat) : Int) = ((k * (l.length - 1) : Nat) : Int) := by simp
    have q3 : ((k * (l.length - 1) : Nat) : Int) / 8 = ((k * (l.length - 1) / 8 : Nat) : Int) := by simp
    have hkw : IntKind.i64.wrap ((k : Int) + 1) = ((k + 1 : Nat) : Int) := by rw [w64 (by omega) (by omega)]; simp
    have hix : k * (l.length - 1) / 8 < l.length := by
      have : k * (l.length - 1) ≤ 8 * (l.length - 1) := Nat.mul_le_mul_right _ (by omega)
      omega
    rw [(r6 _ (Kp.refl _ _)).lenL, List.length_map]
    simp only [bq_sub, q1, bq_mul, q2]
    rw [wrap_nat64 (by omega), quo_of (Int.natCast_nonneg _) (by omega), q3, wrap_nat64 (by omega)]
    obtain ⟨p, p1, p2, _⟩ := (r6 _ (Kp.refl _ _)).get (i := k * (l.length - 1) / 8) (by simpa using hix)
    have hrow : (l.map valV)[k * (l.length - 1) / 8]'(by simpa using hix) = valV l[k * (l.length - 1) / 8] := by simp
    rw [hrow] at p2
    rw [p1, p2]
    refine bsl_rowN (n := 3) (cs := valV l[k * (l.length - 1) / 8]) (by omega) rfl rfl fun t67 w3 hf3 => ?_
    have hv3 := hvd.keep hf3.kp
    rw [ldF (x := v) (hbi.in hv3.kp) rfl, zcVal]
    refine ⟨rfl, ?_⟩
    refine fr_push (wx := w3) hv3 hf3.rd (by omega) rfl (by simp [valV]) (by simp; omega) (by simp; omega) fun t68 w4 hf4 => ?_
    rw [fa_p, stF (hbi.in hf4.kp) (by simp [cC]) hf4.one]
    have e : (cC n d v).toArray.setIfInBounds (0 + 2) t68 = (cC n d t68).toArray := rfl
    rw [e]
    simp only [bq_add, hkw]
    refine hN (9 - (k + 1)) _ _ (by omega) ⟨k + 1, t68, by omega, rfl, rfl, ?_⟩
    have := hf4.turn (o' := .cells (cC n d t68).toArray 32) hbi.lt
    rw [List.range_succ, List.map_append, List.map_append]
    have hg : l.getD (k * (l.length - 1) / 8) ⟨0, 0, []⟩ = l[k * (l.length - 1) / 8] := by simp [List.getD, hix]
    simp only [List.map_cons, List.map_nil, hg]
    exact this
  · have hk9 : k = 9 := by omega
    subst hk9
    unfold stat_column_s0
    refine col_ret hbi hv.one hv fun w' hf' => ?_
    refine hR v w' ?_
    unfold stepsV
    rw [if_neg (by omega)]
    exact hf'
end
end Go.Proofs

/- Layer 22: what is known of a column, and of rows. -/
set_option maxRecDepth 100000
set_option linter.unusedVariables false
set_option linter.unusedSimpArgs false
namespace Go.Proofs
open Go Go.Q
def cellV (r : List V3) (c : Nat) : List V3 := match r[c]? with | some v => if v.k = 0 then [] else [v] | none => []
theorem cellV_none {r : List V3} {c : Nat} (h : r.length ≤ c) : cellV r c = [] := by unfold cellV; rw [List.getElem?_eq_none h]
theorem colVals_snoc {c : Nat} {rows : List (List V3)} {i : Nat} (hi : i < rows.length) : colVals c (rows.take (i + 1)) = colVals c (rows.take i) ++ cellV rows[i] c := by
  unfold colVals cellV
  rw [List.take_succ_eq_append_getElem hi, List.filterMap_append]
  congr 1
  rw [List.filterMap_cons, List.filterMap_nil]
  cases rows[i][c]? with
  | none => rfl
  | some v => by_cases h : v.k = 0
              · simp [h]
              · simp [h]
theorem colVals_take_le {c : Nat} {rows : List (List V3)} {i : Nat} (hi : i ≤ rows.length) : (colVals c (rows.take i)).length ≤ i := by
  have := colVals_le c (rows.take i)
  rw [List.length_take] at this
  omega
section
variable {w w2 wi : World} {x4 x5 : Nat} {R : Value → World → Prop}
theorem column_spec {x1 : Value} {rows : List (List V3)} (hx : Nst 3 valV w x1 rows) (hl : rows.length < 2 ^ 20) (hw8 : ∀ r ∈ rows, r.length < 2 ^ 30) (c : Nat) (hc : c < 2 ^ 20) (hR : ∀ v w', Fr w w' v 3 ((colV c rows).steps.map valV) → R (.agg (cC (colV c rows).nulls (colV c rows).distinct v).toArray) w') : callG Try.prog 22 #[.int .i64 (c : Nat), x1] w R := by
  refine stat_column_call ?_
  unfold stat_column stat_column_s11
  refine newB fun x4 w1 hx4 h4 k1 => ?_
  refine newB fun x5 w2 hx5 h5 k2 => ?_
  have hs1 := k1.size
  have l4 := lt_of_blk h4
  have hb : CBs w w2 x4 x5 := ⟨k1.trans' k2, k2.get h4 (by simp), hx4, by omega, by omega, lt_of_blk h5⟩
  unfold stat_column_s10 stat_column_L9
  rw [hx.lenL]
  have e0 : cB w2 x5 0 0 (.slice none 0 0) = w2 := by
    unfold cB setBlk
    have : w2.heap.setIfInBounds x5 (.cells (cC 0 0 (.slice none 0 0)).toArray 32) = w2.heap := by
      apply Array.ext_getElem?
      intro j
      rw [Array.getElem?_setIfInBounds]
      split
      · rename_i h; subst h; split
        · rw [h5, zcCol]
        · rename_i h2; exact absurd (lt_of_blk h5) h2
      · rfl
    rw [this]
  refine loop_inv (fun m xs wi => ∃ i v6, i ≤ rows.length ∧ m = rows.length - i ∧ xs = [.int .i64 (c : Nat), .pointer (some ⟨x4, 0, none⟩), .pointer (some ⟨x5, 0, none⟩), v6, x1, .int .i64 rows.length, .int .i64 (i : Nat)] ∧
    Fr (cB w2 x5 ((i - (colVals c (rows.take i)).length : Nat) : Int) 0 (.slice none 0 0)) wi v6 3 ((colVals c (rows.take i)).map valV)) ?_ (m := rows.length) ⟨0, .slice none 0 0, by omega, by omega, rfl, by
      have : ((0 - (colVals c (rows.take 0)).length : Nat) : Int) = 0 := by simp
      rw [this, e0]; exact fr_nil (Kp.refl _ _)⟩
  rintro m N xs wi ⟨i, v6, hi, rfl, rfl, hv⟩ hN
  have hiw : IntKind.i64.wrap ((i : Int) + 1) = ((i + 1 : Nat) : Int) := by rw [w64 (by omega) (by omega)]; simp
  have hcl := colVals_take_le (c := c) hi
  have hxi := hx.keep (hb.base hv.kp)
  unfold stat_column_L9F stat_column_s8
  dsimp only
  simp only [bq_lss, bV_b, decide_eq_true_eq, decide_eq_false_iff_not]
  refine ⟨fun hlt => ?_, fun hge => ?_⟩
  · have hlt : i < rows.length := by omega
    have hsn := colVals_snoc (c := c) hlt
    obtain ⟨p, r, p1, p2, p3⟩ := hxi.at hlt
    have hr8 := hw8 _ (List.getElem_mem hlt)
    unfold stat_column_s7
    rw [p1, p2 _ (Kp.refl _ _), p3.lenL, List.length_map]
    -- none
    have none_ : cellV rows[i] c = [] → stat_column_s6 R N (.int .i64 (c : Nat)) (.pointer (some ⟨x4, 0, none⟩)) (.pointer (some ⟨x5, 0, none⟩)) v6 r x1 (.int .i64 rows.length) (.int .i64 (i : Nat)) (.bool true) wi := by
      intro hno
      rw [hno, List.append_nil] at hsn
      unfold stat_column_s6
      rw [fa_p, ldF (x := .int .i64 ((i - (colVals c (rows.take i)).length : Nat) : Int)) (hb.in hv.kp) rfl]
      have hnw : IntKind.i64.wrap (((i - (colVals c (rows.take i)).length : Nat) : Int) + 1) = ((i + 1 - (colVals c (rows.take (i + 1))).length : Nat) : Int) := by rw [hsn, w64 (by omega) (by omega)]; omega
      simp only [bV_b, bq_add, hnw]
      refine ⟨fun _ => ?_, fun h => by simp at h⟩
      rw [fa_p, stF (hb.in hv.kp) (by simp [cC]) rfl]
      have e : (cC ((i - (colVals c (rows.take i)).length : Nat) : Int) 0 (.slice none 0 0)).toArray.setIfInBounds (0 + 0) (.int .i64 ((i + 1 - (colVals c (rows.take (i + 1))).length : Nat) : Int)) = (cC ((i + 1 - (colVals c (rows.take (i + 1))).length : Nat) : Int) 0 (.slice none 0 0)).toArray := rfl
      rw [e]
      unfold stat_column_s5
      simp only [bq_add, hiw]
      refine hN (rows.length - (i + 1)) _ _ (by omega) ⟨i + 1, v6, by omega, rfl, rfl, ?_⟩
      have := hv.turn (o' := .cells (cC ((i + 1 - (colVals c (rows.take (i + 1))).length : Nat) : Int) 0 (.slice none 0 0)).toArray 32) hb.lt
      rw [← hsn] at this
      exact this
    simp only [bq_geq, bV_b, decide_eq_true_eq, decide_eq_false_iff_not]
    refine ⟨fun hge => none_ ?_, fun hclt => ?_⟩
    · exact cellV_none (by omega)
    · have hclt : c < rows[i].length := by omega
      obtain ⟨q, q1, q2, q3⟩ := p3.get (i := c) (by simpa using hclt)
      have hrow : (rows[i].map valV)[c]'(by simpa using hclt) = valV rows[i][c] := by simp
      have hsn2 : rows[i][c]? = some rows[i][c] := by simp [hclt]
      rw [q1, q3 0 (by rw [hrow]; simp [valV])]
      simp only [hrow]
      have hk0 : (valV rows[i][c])[0]'(by simp [valV]) = .int .i64 rows[i][c].k := rfl
      rw [hk0]
      simp only [bq_eql]
      by_cases hk : rows[i][c].k = 0
      · rw [decide_eq_true hk]
        exact none_ (by unfold cellV; rw [hsn2]; simp [hk])
      · rw [decide_eq_false hk]
        unfold cellV at hsn
        rw [hsn2] at hsn
        simp only [if_neg hk] at hsn
        unfold stat_column_s6
        simp only [bV_b]
        refine ⟨fun h => by simp at h, fun _ => ?_⟩
        rw [q1, q2, hrow]
        refine bsl_rowN (n := 3) (cs := valV rows[i][c]) (by omega) rfl rfl fun t37 w3 hf3 => ?_
        rw [zcVal]
        refine fr_push (wx := w3) (hv.keep hf3.kp) hf3.rd (by omega) rfl (by simp [valV]) (by simp; omega) (by simp; omega) fun t38 w4 hf4 => ?_
        unfold stat_column_s5
        simp only [bq_add, hiw]
        refine hN (rows.length - (i + 1)) _ _ (by omega) ⟨i + 1, t38, by omega, rfl, rfl, ?_⟩
        have hn : i + 1 - (colVals c (rows.take (i + 1))).length = i - (colVals c (rows.take i)).length := by rw [hsn]; simp
        rw [hn, hsn, List.map_append]
        exact hf4
  · have hie : i = rows.length := by omega
    subst hie
    rw [List.take_length] at hv
    have hcl2 := colVals_le c rows
    unfold stat_column_s4
    refine SortV_spec hv (by omega) fun w3 hf3 => ?_
    have hsl := sortV_len (colVals c rows)
    refine cloneV_spec hf3.rd (by omega) fun t43 w4 hf4 => ?_
    refine compact_spec hf4 (by omega) fun t44 w5 k5 hlen => ?_
    have hf5 := hf3.keep k5
    rw [hlen, fa_p, stF (hb.in hf5.kp) (by simp [cC]) rfl]
    have e : ∀ nn : Int, (cC nn 0 (.slice none 0 0)).toArray.setIfInBounds (0 + 1) (.int .i64 (distV (sortV (colVals c rows)))) = (cC nn (distV (sortV (colVals c rows))) (.slice none 0 0)).toArray := fun _ => rfl
    rw [e]
    have hf6 := hf5.turn (o' := .cells (cC ((rows.length - (colVals c rows).length : Nat) : Int) (distV (sortV (colVals c rows))) (.slice none 0 0)).toArray 32) hb.lt
    refine col_few hb hf6 (fun h9 => col_many hb hf6 h9 (by omega) hR) fun h9 w' hf' => ?_
    refine hR v6 w' ?_
    have : (colV c rows).steps = sortV (colVals c rows) := by unfold colV stepsV; simp only; rw [if_pos h9]
    rw [this]; exact hf'
end
end Go.Proofs

/- Layer 22: the end of the document's column. -/
set_option maxRecDepth 100000
set_option linter.unusedVariables false
set_option linter.unusedSimpArgs false
namespace Go.Proofs
open Go Go.Q
section
variable {w w2 wi : World} {x4 x5 : Nat} {n d : Int} {v6 : Value} {l : List V3} {R : Value → World → Prop}
theorem rcol_many (hb : CBs w w2 x4 x5) (hf : Fr (cB w2 x5 n d (.slice none 0 0)) wi v6 3 (l.map valV)) (hl : 9 < l.length) (hl2 : l.length < 2 ^ 40) (hR : ∀ v w', Fr w w' v 3 ((stepsV l).map valV) → R (.agg (cC n d v).toArray) w') :
    ref22_column_s3 R (.pointer (some ⟨x4, 0, none⟩)) (.pointer (some ⟨x5, 0, none⟩)) v6 wi := by
  unfold ref22_column_s3 ref22_column_L2
  have hs2 := hf.kp.size
  simp only [cB, size_setBlk] at hs2
  have hlt := hb.lt
  have hl4 := lt_of_blk hb.h4
  have hbi : CBs w wi x4 x5 := ⟨hb.base hf.kp, hb.in4 hf.kp, hb.l4, hb.l5, hb.ne, by omega⟩
  have rd6 : ∀ o, Rd (setBlk wi x5 o) v6 3 (l.map valV) := fun o => (hf.turn (o' := o) hb.lt).rd
  have e0 : cB wi x5 n d (.slice none 0 0) = wi := by
    have hh := hb.in hf.kp
    unfold cB setBlk
    have : wi.heap.setIfInBounds x5 (.cells (cC n d (.slice none 0 0)).toArray 32) = wi.heap := by
      apply Array.ext_getElem?
      intro j
      rw [Array.getElem?_setIfInBounds]
      split
      · rename_i h; subst h; split
        · exact hh.symm
        · rename_i h2; exact absurd (show x5 < wi.heap.size by omega) h2
      · rfl
    rw [this]
  refine loop_inv (fun m xs wj => ∃ k v, k ≤ 9 ∧ m = 9 - k ∧ xs = [.pointer (some ⟨x4, 0, none⟩), .pointer (some ⟨x5, 0, none⟩), v6, .int .i64 (k : Nat)] ∧ Fr (cB wi x5 n d v) wj v 3 (((List.range k).map fun k => l.getD (k * (l.length - 1) / 8) ⟨0, 0, []⟩).map valV)) ?_ (m := 9) ⟨0, .slice none 0 0, by omega, by omega, rfl, by rw [e0]; exact fr_nil (Kp.refl _ _)⟩
  rintro m N xs wj ⟨k, v, hk, rfl, rfl, hv⟩ hN
  unfold ref22_column_L2F ref22_column_b1
  dsimp only
  simp only [bq_lss, bV_b, decide_eq_true_eq, decide_eq_false_iff_not]
  refine ⟨fun hk9 => ?_, fun hk9 => ?_⟩
  · have hk9 : k < 9 := by omega
    have hvd := hv.keep kp_drew
    have h5 := hbi.in hvd.kp
    rw [fa_p, ldF (x := v) h5 rfl]
    have r6 : ∀ w', Kp [] wj.drew w' → Rd w' v6 3 (l.map valV) := fun w' hk' => (rd6 _).keep (hvd.kp.trans' hk')
    have hp : k * (l.length - 1) < 9 * 2 ^ 40 := Nat.lt_of_le_of_lt (Nat.mul_le_mul_left k (show l.length - 1 ≤ 2 ^ 40 by omega)) (by have : k * 2 ^ 40 < 9 * 2 ^ 40 := Nat.mul_lt_mul_of_pos_right hk9 (by decide); exact this)
    have q1 : IntKind.i64.wrap ((l.length : Int) - 1) = ((l.length - 1 : Nat) : Int) := by rw [w64 (by omega) (by omega)]; omega
    have q2 : ((k : Nat) : Int) * ((l.length - 1 : Nat) : Int) = ((k * (l.length - 1) : Nat) : Int) := by simp
    have q3 : ((k * (l.length - 1) : Nat) : Int) / 8 = ((k * (l.length - 1) / 8 : Nat) : Int) := by simp
    have hkw : IntKind.i64.wrap ((k : Int) + 1) = ((k + 1 : Nat) : Int) := by rw [w64 (by omega) (by omega)]; simp
    have hix : k * (l.length - 1) / 8 < l.length := by
      have : k * (l.length - 1) ≤ 8 * (l.length - 1) := Nat.mul_le_mul_right _ (by omega)
      omega
    rw [(r6 _ (Kp.refl _ _)).lenL, List.length_map]
    simp only [bq_sub, q1, bq_mul, q2]
    rw [wrap_nat64 (by omega), quo_of (Int.natCast_nonneg _) (by omega), q3, wrap_nat64 (by omega)]
    obtain ⟨p, p1, p2, _⟩ := (r6 _ (Kp.refl _ _)).get (i := k * (l.length - 1) / 8) (by simpa using hix)
    have hrow : (l.map valV)[k * (l.length - 1) / 8]'(by simpa using hix) = valV l[k * (l.length - 1) / 8] := by simp
    rw [hrow] at p2
    rw [p1, p2]
    refine bsl_rowN (n := 3) (cs := valV l[k * (l.length - 1) / 8]) (by omega) rfl rfl fun t67 w3 hf3 => ?_
    have hv3 := hvd.keep hf3.kp
    rw [ldF (x := v) (hbi.in hv3.kp) rfl, zcVal]
    refine ⟨rfl, ?_⟩
    refine fr_push (wx := w3) hv3 hf3.rd (by omega) rfl (by simp [valV]) (by simp; omega) (by simp; omega) fun t68 w4 hf4 => ?_
    rw [fa_p, stF (hbi.in hf4.kp) (by simp [cC]) hf4.one]
    have e : (cC n d v).toArray.setIfInBounds (0 + 2) t68 = (cC n d t68).toArray := rfl
    rw [e]
    simp only [bq_add, hkw]
    refine hN (9 - (k + 1)) _ _ (by omega) ⟨k + 1, t68, by omega, rfl, rfl, ?_⟩
    have := hf4.turn (o' := .cells (cC n d t68).toArray 32) hbi.lt
    rw [List.range_succ, List.map_append, List.map_append]
    have hg : l.getD (k * (l.length - 1) / 8) ⟨0, 0, []⟩ = l[k * (l.length - 1) / 8] := by simp [List.getD, hix]
    simp only [List.map_cons, List.map_nil, hg]
    exact this
  · have hk9 : k = 9 := by omega
    subst hk9
    unfold ref22_column_s0
    refine col_ret hbi hv.one hv fun w' hf' => ?_
    refine hR v w' ?_
    unfold stepsV
    rw [if_neg (by omega)]
    exact hf'
end
end Go.Proofs

/- Layer 22: what is known of a column: the document's. -/
set_option maxRecDepth 100000
set_option linter.unusedVariables false
set_option linter.unusedSimpArgs false
namespace Go.Proofs
open Go Go.Q
theorem sortV_snoc (l : List V3) (x : V3) : sortV (l ++ [x]) = insV (sortV l) x := by simp [sortV, List.foldl_append]
theorem bld_col0 {K : Value → Prop} : bld [(0, 1), (1, 1), (2, 1)] (zc Try.prog 32) #[] K = K (.agg (cC 0 0 (.slice none 0 0)).toArray) := by
  rw [zcCol]; rfl
section
variable {w w2 wi : World} {x4 x5 : Nat} {R : Value → World → Prop}
theorem rcol_L6 {n : Int} {v6 : Value} {l : List V3} (hb : CBs w w2 x4 x5) (hf : Fr (cB w2 x5 n 0 (.slice none 0 0)) wi v6 3 (l.map valV)) (hl : l.length < 2 ^ 20) (hR : ∀ v w', Fr w w' v 3 ((stepsV l).map valV) → R (.agg (cC n (distV l) v).toArray) w') :
    ref22_column_s7 R (.pointer (some ⟨x4, 0, none⟩)) (.pointer (some ⟨x5, 0, none⟩)) v6 wi := by
  unfold ref22_column_s7 ref22_column_L6
  refine loop_inv (fun m xs wj => ∃ i, i ≤ l.length ∧ m = l.length - i ∧ xs = [.pointer (some ⟨x4, 0, none⟩), .pointer (some ⟨x5, 0, none⟩), v6, .int .i64 (i : Nat)] ∧ Fr (cB w2 x5 n (distV (l.take i)) (.slice none 0 0)) wj v6 3 (l.map valV)) ?_ (m := l.length) ⟨0, by omega, rfl, rfl, hf⟩
  rintro m N xs wj ⟨i, hi, rfl, rfl, hv⟩ hN
  have hiw : IntKind.i64.wrap ((i : Int) + 1) = ((i + 1 : Nat) : Int) := by rw [w64 (by omega) (by omega)]; simp
  have his : 0 < i → IntKind.i64.wrap ((i : Int) - 1) = ((i - 1 : Nat) : Int) := fun h => by rw [w64 (by omega) (by omega)]; omega
  unfold ref22_column_L6F ref22_column_b5
  dsimp only
  rw [hv.rd.lenL, List.length_map]
  simp only [bq_lss, bV_b, decide_eq_true_eq, decide_eq_false_iff_not]
  refine ⟨fun hlt => ?_, fun hge => ?_⟩
  · have hlt : i < l.length := by omega
    have ht := distV_take hlt
    have hdl := distV_le (l.take i)
    rw [List.length_take] at hdl
    have hvd := hv.keep kp_drew
    have inc : ∀ w', Fr (cB w2 x5 n (distV (l.take i)) (.slice none 0 0)) w' v6 3 (l.map valV) → distV (l.take (i + 1)) = distV (l.take i) + 1 → ∀ {xo yo xo' yo' : Operand},
        (fa 1 (.pointer (some ⟨x5, 0, none⟩)) fun t69 => ld1 t69 w' fun t70 => qG Try.prog (bq .add 3 xo yo t70 (.int .i64 1)) w' fun t71 => fa 1 (.pointer (some ⟨x5, 0, none⟩)) fun t72 => st1 t72 t71 w' fun w =>
          qG Try.prog (bq .add 3 xo' yo' (.int .i64 (i : Nat)) (.int .i64 1)) w fun t53 => N [.pointer (some ⟨x4, 0, none⟩), .pointer (some ⟨x5, 0, none⟩), v6, t53] w) := by
      intro w' hf' hd _ _ _ _
      rw [fa_p, ldF (x := .int .i64 (distV (l.take i))) (hb.in hf'.kp) rfl]
      have hdw : IntKind.i64.wrap (((distV (l.take i) : Nat) : Int) + 1) = ((distV (l.take (i + 1)) : Nat) : Int) := by rw [hd, w64 (by omega) (by omega)]; simp
      simp only [bq_add, hdw]
      rw [fa_p, stF (hb.in hf'.kp) (by simp [cC]) rfl]
      have e : (cC n (distV (l.take i)) (.slice none 0 0)).toArray.setIfInBounds (0 + 1) (.int .i64 ((distV (l.take (i + 1)) : Nat) : Int)) = (cC n (distV (l.take (i + 1))) (.slice none 0 0)).toArray := rfl
      rw [e]
      simp only [hiw]
      exact hN (l.length - (i + 1)) _ _ (by omega) ⟨i + 1, by omega, rfl, rfl, hf'.turn (o' := .cells (cC n (distV (l.take (i + 1))) (.slice none 0 0)).toArray 32) hb.lt⟩
    simp only [bq_eql, bV_b, decide_eq_true_eq, decide_eq_false_iff_not]
    refine ⟨fun h0 => ?_, fun h0 => ?_⟩
    · refine inc _ hvd ?_
      rw [ht, dif_pos (by omega)]
    · have hpos : 0 < i := by omega
      rw [dif_neg (by omega)] at ht
      obtain ⟨p, p1, p2, _⟩ := hvd.rd.get (i := i - 1) (by simp; omega)
      obtain ⟨q, q1, q2, _⟩ := hvd.rd.get (i := i) (by simpa using hlt)
      have r1 : (l.map valV)[i - 1]'(by simp; omega) = valV (l[i - 1]'(by omega)) := by simp
      have r2 : (l.map valV)[i]'(by simpa using hlt) = valV l[i] := by simp
      rw [r1] at p2
      rw [r2] at q2
      simp only [bq_sub, his hpos]
      rw [p1, p2, q1, q2]
      refine dCompare_spec _ _ fun w3 k3 => ?_
      have hv3 := hvd.keep k3
      simp only [bq_neq, bV_b, decide_eq_true_eq, decide_eq_false_iff_not]
      refine ⟨fun hne => ?_, fun heq => ?_⟩
      · refine inc _ hv3 ?_
        rw [if_neg fun hh => hne (cmpV_zero.2 hh)] at ht
        exact ht
      · have heq : l[i - 1]'(by omega) = l[i] := cmpV_zero.1 (by simpa using heq)
        rw [if_pos heq] at ht
        simp only [bq_add, hiw]
        refine hN (l.length - (i + 1)) _ _ (by omega) ⟨i + 1, by omega, rfl, rfl, ?_⟩
        rw [ht]; exact hv3
  · have hie : i = l.length := by omega
    subst hie
    rw [List.take_length] at hv
    unfold ref22_column_s4
    refine col_few hb hv (fun h9 => rcol_many hb hv h9 (by omega) hR) fun h9 w' hf' => ?_
    refine hR v6 w' ?_
    unfold stepsV
    rw [if_pos h9]; exact hf'
theorem rcolumn_spec {x1 : Value} {rows : List (List V3)} (hx : Nst 3 valV w x1 rows) (hl : rows.length < 2 ^ 20) (hw8 : ∀ r ∈ rows, r.length < 2 ^ 30) (c : Nat) (hc : c < 2 ^ 20) (hR : ∀ v w', Fr w w' v 3 ((colV c rows).steps.map valV) → R (.agg (cC (colV c rows).nulls (colV c rows).distinct v).toArray) w') : callG Try.prog 23 #[.int .i64 (c : Nat), x1] w R := by
  refine ref22_column_call ?_
  unfold ref22_column ref22_column_s14
  refine newB fun x4 w1 hx4 h4 k1 => ?_
  rw [bld_col0]
  refine newB fun x5 w2 hx5 h5 k2 => ?_
  have hs1 := k1.size
  have l4 := lt_of_blk h4
  have hb : CBs w w2 x4 x5 := ⟨k1.trans' k2, k2.get h4 (by simp), hx4, by omega, by omega, lt_of_blk h5⟩
  rw [stA (k := 3) h5 (by rw [zcCol]; rfl) rfl (by simp [cC])]
  unfold ref22_column_s13 ref22_column_L12
  refine loop_inv (fun m xs wi => ∃ i v6, i ≤ rows.length ∧ m = rows.length - i ∧ xs = [.int .i64 (c : Nat), x1, .pointer (some ⟨x4, 0, none⟩), .pointer (some ⟨x5, 0, none⟩), v6, .int .i64 (i : Nat)] ∧
    Fr (cB w2 x5 ((i - (colVals c (rows.take i)).length : Nat) : Int) 0 (.slice none 0 0)) wi v6 3 ((sortV (colVals c (rows.take i))).map valV)) ?_ (m := rows.length) ⟨0, .slice none 0 0, by omega, by omega, rfl, by
      have : ((0 - (colVals c (rows.take 0)).length : Nat) : Int) = 0 := by simp
      rw [this]; exact fr_nil (Kp.refl _ _)⟩
  rintro m N xs wi ⟨i, v6, hi, rfl, rfl, hv⟩ hN
  have hiw : IntKind.i64.wrap ((i : Int) + 1) = ((i + 1 : Nat) : Int) := by rw [w64 (by omega) (by omega)]; simp
  have hcl := colVals_take_le (c := c) hi
  have hxi := hx.keep (hb.base hv.kp)
  unfold ref22_column_L12F ref22_column_s11
  dsimp only
  rw [hxi.lenL]
  simp only [bq_lss, bV_b, decide_eq_true_eq, decide_eq_false_iff_not]
  refine ⟨fun hlt => ?_, fun hge => ?_⟩
  · have hlt : i < rows.length := by omega
    have hsn := colVals_snoc (c := c) hlt
    obtain ⟨p, r, p1, p2, p3⟩ := hxi.at hlt
    have hr8 := hw8 _ (List.getElem_mem hlt)
    unfold ref22_column_s10
    rw [p1, p2 _ (Kp.refl _ _), p3.lenL, List.length_map]
    have none_ : cellV rows[i] c = [] → ∀ {xo yo : Operand},
      (fa 0 (.pointer (some ⟨x5, 0, none⟩)) fun t35 => ld1 t35 wi fun t36 => qG Try.prog (bq .add 3 xo yo t36 (.int .i64 1)) wi fun t37 => fa 0 (.pointer (some ⟨x5, 0, none⟩)) fun t38 => st1 t38 t37 wi fun w =>
        ref22_column_s8 R N (.int .i64 (c : Nat)) x1 (.pointer (some ⟨x4, 0, none⟩)) (.pointer (some ⟨x5, 0, none⟩)) v6 (.int .i64 (i : Nat)) w) := by
      intro hno _ _
      rw [hno, List.append_nil] at hsn
      rw [fa_p, ldF (x := .int .i64 ((i - (colVals c (rows.take i)).length : Nat) : Int)) (hb.in hv.kp) rfl]
      have hnw : IntKind.i64.wrap (((i - (colVals c (rows.take i)).length : Nat) : Int) + 1) = ((i + 1 - (colVals c (rows.take (i + 1))).length : Nat) : Int) := by rw [hsn, w64 (by omega) (by omega)]; omega
      simp only [bq_add, hnw]
      rw [fa_p, stF (hb.in hv.kp) (by simp [cC]) rfl]
      have e : (cC ((i - (colVals c (rows.take i)).length : Nat) : Int) 0 (.slice none 0 0)).toArray.setIfInBounds (0 + 0) (.int .i64 ((i + 1 - (colVals c (rows.take (i + 1))).length : Nat) : Int)) = (cC ((i + 1 - (colVals c (rows.take (i + 1))).length : Nat) : Int) 0 (.slice none 0 0)).toArray := rfl
      rw [e]
      unfold ref22_column_s8
      simp only [bq_add, hiw]
      refine hN (rows.length - (i + 1)) _ _ (by omega) ⟨i + 1, v6, by omega, rfl, rfl, ?_⟩
      have := hv.turn (o' := .cells (cC ((i + 1 - (colVals c (rows.take (i + 1))).length : Nat) : Int) 0 (.slice none 0 0)).toArray 32) hb.lt
      rw [← hsn] at this
      exact this
    simp only [bq_geq, bV_b, decide_eq_true_eq, decide_eq_false_iff_not]
    refine ⟨fun hge => none_ ?_, fun hclt => ?_⟩
    · exact cellV_none (by omega)
    · have hclt : c < rows[i].length := by omega
      obtain ⟨q, q1, q2, q3⟩ := p3.get (i := c) (by simpa using hclt)
      have hrow : (rows[i].map valV)[c]'(by simpa using hclt) = valV rows[i][c] := by simp
      have hsn2 : rows[i][c]? = some rows[i][c] := by simp [hclt]
      rw [p1, p2 _ (Kp.refl _ _), q1, q3 0 (by rw [hrow]; simp [valV])]
      simp only [hrow]
      have hk0 : (valV rows[i][c])[0]'(by simp [valV]) = .int .i64 rows[i][c].k := rfl
      rw [hk0]
      simp only [bq_eql, bV_b, decide_eq_true_eq, decide_eq_false_iff_not]
      refine ⟨fun hk => none_ (by unfold cellV; rw [hsn2]; simp [hk]), fun hk => ?_⟩
      unfold cellV at hsn
      rw [hsn2] at hsn
      simp only [if_neg hk] at hsn
      unfold ref22_column_s9
      rw [p1, p2 _ (Kp.refl _ _), q1, q2, hrow]
      have hsl := sortV_len (colVals c (rows.take i))
      refine sorted_spec hv.rd (by omega) rows[i][c] fun out w3 hf3 => ?_
      unfold ref22_column_s8
      simp only [bq_add, hiw]
      refine hN (rows.length - (i + 1)) _ _ (by omega) ⟨i + 1, out, by omega, rfl, rfl, ?_⟩
      have hn : i + 1 - (colVals c (rows.take (i + 1))).length = i - (colVals c (rows.take i)).length := by rw [hsn]; simp
      rw [hn, hsn, sortV_snoc]
      exact hf3.base hv.kp
  · have hie : i = rows.length := by omega
    subst hie
    rw [List.take_length] at hv
    have hcl2 := colVals_le c rows
    have hsl := sortV_len (colVals c rows)
    exact rcol_L6 hb hv (by omega) hR
end
end Go.Proofs

/- Layer 22: what is known of rows. -/
set_option maxRecDepth 100000
set_option linter.unusedVariables false
set_option linter.unusedSimpArgs false
namespace Go.Proofs
open Go Go.Q
theorem zcSt : zc Try.prog 27 = #[.int .i64 0, .slice none 0 0] := by kernel_rfl
theorem bld_st {n : Int} {K : Value → Prop} : bld [(0, 1), (1, 1)] (zc Try.prog 27) #[(0, .int .i64 n)] K = K (.agg #[.int .i64 n, .slice none 0 0]) := by
  rw [zcSt]; rfl
structure OSt (w : World) (x4 x5 : Nat) (wi : World) (r : Int) (cols : List ColV) (o : Value) (css : List (List Value)) (S : List Nat) : Prop where
  kp : Kp [] w wi
  h4 : wi.heap[x4]? = some (.cells (zc Try.prog 27) 27)
  h5 : wi.heap[x5]? = some (.cells #[.int .i64 r, o] 27)
  rows : RowsAt wi o 3 css S
  ns : ∀ x ∈ S, x ≠ x4 ∧ x ≠ x5 ∧ w.heap.size ≤ x
  len : css.length = cols.length
  col : ∀ i (h : i < cols.length) cs, css[i]? = some cs → ColX (x4 :: x5 :: S) wi cs cols[i]
  l4 : w.heap.size ≤ x4
  l5 : w.heap.size ≤ x5
  ne : x4 ≠ x5
section
variable {w wi : World} {x4 x5 : Nat} {r : Int} {cols : List ColV} {o : Value} {css : List (List Value)} {S : List Nat} {R : Value → World → Prop}
theorem RowsAt.one' {v : Value} {k : Nat} {rows : List (List Value)} (h : RowsAt w v k rows S) : Q.one v = true := by
  obtain ⟨a, c, hv, _⟩ := h.len
  rw [hv]; rfl
theorem OSt.keep (h : OSt w x4 x5 wi r cols o css S) {w' : World} (hk : Kp [] wi w') : OSt w x4 x5 w' r cols o css S :=
  ⟨h.kp.trans' hk, hk.get h.h4 (by simp), hk.get h.h5 (by simp), h.rows.keep hk (by simp), h.ns, h.len, fun i hi cs hcs => (h.col i hi cs hcs).keep hk, h.l4, h.l5, h.ne⟩
theorem of_ret (h : OSt w x4 x5 wi r cols o css S) {n : Nat} (hr : r = n) (hR : ∀ w' val, Kp [] w w' → StatAt w' val ⟨n, cols⟩ → R val w') :
    ldn 2 (.pointer (some ⟨x5, 0, none⟩)) wi fun t => stn 2 (.pointer (some ⟨x4, 0, none⟩)) t wi fun w => qG Try.prog (do loadVar 27 (← asAddr (.pointer (some ⟨x4, 0, none⟩)))) w fun r4 => R r4 w := by
  subst hr
  have h1 := RowsAt.one' h.rows
  rw [ldA (k := 2) h.h5 rfl]
  refine retB (by kernel_rfl) (by kernel_rfl) h.h4 (by rw [zcSt]; rfl) rfl (by simp [h1]) fun w6 hk6 => ?_
  refine hR w6 _ (h.kp.trans hk6 fun x hx hlt => by have := h.l4; simp at hx; omega) ⟨o, css, rfl, h1, ⟨S, .inr (h.rows.keep hk6 fun x hx hm => (h.ns x hx).1 (by simpa using hm)).rd⟩, h.len, fun i hi cs hcs => ?_⟩
  exact (h.col i hi cs hcs).step hk6 (by simp) (by simp)
theorem of_push {x1 : Value} {rows : List (List V3)} {f : FuncId} {c : Nat} (h : OSt w x4 x5 wi r cols o css S) (hx : Nst 3 valV w x1 rows) (hcl : cols.length < 2 ^ 20)
    (hC : ∀ (w' : World) (R' : Value → World → Prop), Nst 3 valV w' x1 rows → (∀ v w'', Fr w' w'' v 3 ((colV c rows).steps.map valV) → R' (.agg (cC (colV c rows).nulls (colV c rows).distinct v).toArray) w'') → callG Try.prog f #[.int .i64 (c : Nat), x1] w' R')
    {REST : World → Prop} (hK : ∀ w' o' css' S', OSt w x4 x5 w' r (cols ++ [colV c rows]) o' css' S' → REST w') :
    fa 1 (.pointer (some ⟨x5, 0, none⟩)) fun t16 =>
    ld1 t16 (World.drew wi) fun t17 =>
    callG Try.prog f #[.int .i64 (c : Nat), x1] (World.drew wi) fun t20 w =>
    ld1 t16 w (fun u => u = t17) ∧
    bsl 32 3 1 (zc Try.prog 32) #[(0, t20)] w fun t21 w =>
    ld1 t16 w (fun u => u = t17) ∧
    app 32 3 40 (zc Try.prog 32) t17 t21 w fun t22 w =>
    fa 1 (.pointer (some ⟨x5, 0, none⟩)) fun t23 =>
    st1 t23 t22 w fun w => REST w := by
  have hd := h.keep kp_drew
  rw [fa_p, ldF (x := o) hd.h5 rfl]
  refine hC _ _ (hx.keep hd.kp) fun v w3 hf3 => ?_
  have h3 := hd.keep hf3.kp
  rw [ldF (x := o) h3.h5 rfl]
  refine ⟨rfl, ?_⟩
  have hv1 := hf3.one
  refine bsl_rowN (n := 3) (cs := cC (colV c rows).nulls (colV c rows).distinct v) (by omega) rfl rfl fun t21 w4 hf4 => ?_
  have h4 := h3.keep hf4.kp
  rw [ldF (x := o) h4.h5 rfl, zcCol]
  refine ⟨rfl, ?_⟩
  have hlen := h4.len
  have hlt4 := h4.rows.lt
  have hcx : ColX (x4 :: x5 :: S) w4 (cC (colV c rows).nulls (colV c rows).distinct v) (colV c rows) := by
    obtain ⟨Sv, g1, g2⟩ := (hf3.keep hf4.kp).ex
    refine ⟨v, rfl, hv1, Sv, .inr g1.rd, fun x hx hm => ?_⟩
    have := g2 x hx
    have hdl := hd.rows.lt
    simp only [List.mem_cons] at hm
    have l4 := lt_of_blk hd.h4
    have l5 := lt_of_blk hd.h5
    rcases hm with hm | hm | hm
    · omega
    · omega
    · have := hdl x hm; omega
  refine rows_app (G := [cC (colV c rows).nulls (colV c rows).distinct v]) h4.rows (by omega) rfl (by simp [cC]) (by simp [cC, hv1]) (fun K' hK' => hf4.rd.src K' hK') (by simp; omega) (by simp; omega) fun o' w5 S' hr5 hk5 hS5 => ?_
  have h5k : w5.heap[x5]? = some (.cells #[.int .i64 r, o] 27) := hk5.get h4.h5 fun hm => (h4.ns x5 hm).2.1 rfl
  have h4k : w5.heap[x4]? = some (.cells (zc Try.prog 27) 27) := hk5.get h4.h4 fun hm => (h4.ns x4 hm).1 rfl
  have ho' := RowsAt.one' hr5
  rw [fa_p, stF h5k (by simp) ho']
  have e : (#[.int .i64 r, o] : Array Value).setIfInBounds (0 + 1) o' = #[.int .i64 r, o'] := rfl
  rw [e]
  have l4 := lt_of_blk h4.h4
  have l5 := lt_of_blk h4.h5
  have hne := h.ne
  have hsz := h4.kp.size
  have ns' : ∀ x ∈ S', x ≠ x4 ∧ x ≠ x5 ∧ w.heap.size ≤ x := fun x hx => by
    rcases hS5 x hx with hx | hx
    · exact h4.ns x hx
    · exact ⟨by omega, by omega, by omega⟩
  have hkx : Kp [x5] w5 (setBlk w5 x5 (.cells #[.int .i64 r, o'] 27)) := (Kp.refl _ _).setBlk (.inl (by simp)) _
  have hY : ∀ y ∈ x4 :: x5 :: S', y ∈ x4 :: x5 :: S ∨ w4.heap.size ≤ y := fun y hy => by
    simp only [List.mem_cons] at hy ⊢
    rcases hy with hy | hy | hy
    · exact .inl (.inl hy)
    · exact .inl (.inr (.inl hy))
    · exact (hS5 y hy).imp (fun h => .inr (.inr h)) id
  have hcs : ∀ (cs : List Value) (c : ColV), ColX (x4 :: x5 :: S) w4 cs c → ColX (x4 :: x5 :: S') (setBlk w5 x5 (.cells #[.int .i64 r, o'] 27)) cs c := fun cs c hc =>
    ((hc.step hk5 (fun x hx => by simp [hx]) hY).keepS hkx (by simp))
  refine hK _ o' (css ++ [cC (colV c rows).nulls (colV c rows).distinct v]) S' ⟨(h4.kp.trans hk5 fun x hx hlt => by have := (h4.ns x hx).2.2; omega).setBlk (.inr h.l5) _, by rw [heap_ne (Ne.symm hne)]; exact h4k, heap_self (live_of h5k), hr5.keep hkx fun x hx hm => (ns' x hx).2.1 (by simpa using hm), ns', by simp [hlen], fun i hi cs hcsi => ?_, h.l4, h.l5, h.ne⟩
  refine hcs cs _ ?_
  by_cases hil : i < cols.length
  · rw [List.getElem?_append_left (by omega)] at hcsi
    rw [List.getElem_append_left hil]
    exact h4.col i hil cs hcsi
  · have hie : i = cols.length := by simp at hi; omega
    subst hie
    rw [List.getElem?_append_right (by omega), hlen, Nat.sub_self] at hcsi
    simp at hcsi
    rw [List.getElem_append_right (by omega)]
    simp
    rw [← hcsi]
    exact hcx
theorem of_new {n : Nat} {REST : Value → Value → World → Prop} (hK : ∀ x4 x5 w', OSt w x4 x5 w' n [] (.slice none 0 0) [] [] → REST (.pointer (some ⟨x4, 0, none⟩)) (.pointer (some ⟨x5, 0, none⟩)) w') :
    newG (zc Try.prog 27) 27 w fun t4 w =>
    bld [(0, 1), (1, 1)] (zc Try.prog 27) #[(0, .int .i64 n)] fun t9 =>
    newG (zc Try.prog 27) 27 w fun t5 w =>
    stn 2 t5 t9 w fun w => REST t4 t5 w := by
  refine newB fun x4 w1 hx4 h4 k1 => ?_
  rw [bld_st]
  refine newB fun x5 w2 hx5 h5 k2 => ?_
  have hs1 := k1.size
  have l4 := lt_of_blk h4
  rw [stA (k := 2) h5 (by rw [zcSt]; rfl) rfl (by simp)]
  exact hK x4 x5 _ ⟨(k1.trans' k2).setBlk (.inr (by omega)) _, by rw [heap_ne (by omega)]; exact k2.get h4 (by simp), heap_self (live_of h5), .inl ⟨rfl, rfl, rfl⟩, by simp, rfl, by simp, hx4, by omega, by omega⟩
end
section
variable {w : World} {x1 : Value} {rows : List (List V3)} {R : Value → World → Prop}
theorem range_snoc {i : Nat} : (List.range (i + 1)).map (fun c => colV c rows) = (List.range i).map (fun c => colV c rows) ++ [colV i rows] := by rw [List.range_succ, List.map_append]; rfl
theorem Of_spec (hx : Nst 3 valV w x1 rows) (hl : rows.length < 2 ^ 20) (hw8 : ∀ r ∈ rows, r.length < 2 ^ 30) (n : Int) (hR : ∀ w' val, Kp [] w w' → StatAt w' val (statV n rows) → R val w') : callG Try.prog 9 #[.int .i64 n, x1] w R := by
  refine stat_Of_call ?_
  unfold stat_Of stat_Of_s4
  simp only [hx.lenL]
  refine of_new fun x4 x5 w1 h0 => ?_
  unfold stat_Of_s3 stat_Of_L2
  rw [q_min, q_max]
  have e : max 0 (min n 64) = ((min n.toNat 64 : Nat) : Int) := by omega
  rw [e]
  have hm : min n.toNat 64 ≤ 64 := Nat.min_le_right _ _
  generalize hmm : min n.toNat 64 = m at *
  refine loop_inv (fun mm xs wi => ∃ i o css S, i ≤ m ∧ mm = m - i ∧ xs = [x1, .pointer (some ⟨x4, 0, none⟩), .pointer (some ⟨x5, 0, none⟩), .int .i64 (m : Nat), .int .i64 (i : Nat)] ∧ OSt w x4 x5 wi rows.length ((List.range i).map fun c => colV c rows) o css S) ?_ (m := m) ⟨0, _, _, _, by omega, by omega, rfl, h0⟩
  rintro mm N xs wi ⟨i, o, css, S, hi, rfl, rfl, h⟩ hN
  have hiw : IntKind.i64.wrap ((i : Int) + 1) = ((i + 1 : Nat) : Int) := by rw [w64 (by omega) (by omega)]; simp
  unfold stat_Of_L2F stat_Of_b1
  dsimp only
  simp only [bq_lss, bV_b, decide_eq_true_eq, decide_eq_false_iff_not]
  refine ⟨fun hlt => ?_, fun hge => ?_⟩
  · refine of_push (c := i) h hx (by simp; omega) (fun w' R' hx' hR' => column_spec hx' hl hw8 i (by omega) hR') fun w' o' css' S' h' => ?_
    simp only [bq_add, hiw]
    exact hN (m - (i + 1)) _ _ (by omega) ⟨i + 1, o', css', S', by omega, rfl, rfl, by rw [range_snoc]; exact h'⟩
  · have : i = m := by omega
    subst this
    unfold stat_Of_s0
    refine of_ret h rfl fun w' val hk hs => hR w' val hk ?_
    unfold statV
    rw [hmm]; exact hs
theorem rOf_spec (hx : Nst 3 valV w x1 rows) (hl : rows.length < 2 ^ 20) (hw8 : ∀ r ∈ rows, r.length < 2 ^ 30) (n : Int) (hR : ∀ w' val, Kp [] w w' → StatAt w' val (statV n rows) → R val w') : callG Try.prog 10 #[.int .i64 n, x1] w R := by
  refine ref22_Of_call ?_
  unfold ref22_Of ref22_Of_s5
  simp only [hx.lenL]
  refine of_new fun x4 x5 w1 h0 => ?_
  unfold ref22_Of_s4 ref22_Of_L3
  refine loop_inv (fun mm xs wi => ∃ i o css S, i ≤ min n.toNat 64 ∧ mm = 64 - i ∧ xs = [.int .i64 n, x1, .pointer (some ⟨x4, 0, none⟩), .pointer (some ⟨x5, 0, none⟩), .int .i64 (i : Nat)] ∧ OSt w x4 x5 wi rows.length ((List.range i).map fun c => colV c rows) o css S) ?_ (m := 64) ⟨0, _, _, _, by omega, by omega, rfl, h0⟩
  rintro mm N xs wi ⟨i, o, css, S, hi, rfl, rfl, h⟩ hN
  have hiw : IntKind.i64.wrap ((i : Int) + 1) = ((i + 1 : Nat) : Int) := by rw [w64 (by omega) (by omega)]; simp
  have done : i = min n.toNat 64 → ref22_Of_s0 R (.pointer (some ⟨x4, 0, none⟩)) (.pointer (some ⟨x5, 0, none⟩)) wi := by
    rintro rfl
    unfold ref22_Of_s0
    exact of_ret h rfl fun w' val hk hs => hR w' val hk hs
  unfold ref22_Of_L3F ref22_Of_s2
  dsimp only
  simp only [bq_lss, bV_b, decide_eq_true_eq, decide_eq_false_iff_not]
  refine ⟨fun hlt => ⟨fun hlt2 => ?_, fun hge => done (by omega)⟩, fun hge => done (by omega)⟩
  unfold ref22_Of_s1
  refine of_push (c := i) h hx (by simp; omega) (fun w' R' hx' hR' => rcolumn_spec hx' hl hw8 i (by omega) hR') fun w' o' css' S' h' => ?_
  simp only [bq_add, hiw]
  exact hN (64 - (i + 1)) _ _ (by omega) ⟨i + 1, o', css', S', by omega, rfl, rfl, by rw [range_snoc]; exact h'⟩
end
end Go.Proofs

/- Layer 22: a column of what is known; about how many have a value. -/
set_option maxRecDepth 100000
set_option linter.unusedVariables false
set_option linter.unusedSimpArgs false
namespace Go.Proofs
open Go Go.Q
section
variable {w : World} {R : Value → World → Prop}
theorem vCompareK_spec (a b : V3) (hK : ∀ w', Kp [] w w' → R (.int .i64 (cmpV a b)) w') : callG Try.prog 25 #[valA a, valA b] w R := vCompare_spec a b fun w' _ h => hK w' h
theorem of_spec {val : Value} {st : StatV} (h : StatAt w val st) (hl : st.cols.length < 2 ^ 30) (col : Int) (hN : atV st col = none → ∀ w' c, c.size = 3 → c.all Q.one = true → Kp [] w w' → R (.tuple #[.agg c, .bool false]) w')
    (hS : ∀ c, atV st col = some c → ∀ w' cs, Kp [] w w' → ColX [] w' cs c → R (.tuple #[.agg cs.toArray, .bool true]) w') : callG Try.prog 24 #[val, .int .i64 col] w R := by
  obtain ⟨o, css, rfl, ho, hrd, hlen, hcol⟩ := h
  refine stat_of_call ?_
  unfold stat_of stat_of_s1
  refine argB fun x2 w1 hx2 h2 k1 => ?_
  refine newB fun x4 w2 hx4 h4 k2 => ?_
  have k02 := k1.trans' k2
  have h22 := k2.get h2 (by simp)
  have s1 := k1.size
  have zero : atV st col = none → (bld [(0, 1), (1, 1), (2, 1)] (zc Try.prog 32) #[] fun t15 => stn 3 (.pointer (some ⟨x4, 0, none⟩)) t15 w2 fun w => qG Try.prog (do loadVar 32 (← asAddr (.pointer (some ⟨x4, 0, none⟩)))) w fun r4 => R (.tuple #[r4, (.bool false)]) w) := by
    intro hno
    rw [bld_col0]
    refine retB (R := fun r4 w => R (.tuple #[r4, (.bool false)]) w) (by kernel_rfl) (by kernel_rfl) h4 (by first | (rw [zcCol]; done) | (rw [zcCol]; rfl)) rfl (by simp [cC]) fun w6 hk6 => ?_
    exact hN hno w6 _ rfl (by simp [cC]) (k02.trans hk6 fun x hx hlt => by simp at hx; omega)
  simp only [bq_lss, bV_b, decide_eq_true_eq, decide_eq_false_iff_not]
  refine ⟨fun hneg => zero (by unfold atV; rw [if_neg (by omega)]), fun hge => ?_⟩
  rw [fa_p, ldF (x := o) h22 rfl, hrd.lenL, hlen]
  simp only [bq_geq, bV_b, decide_eq_true_eq, decide_eq_false_iff_not]
  refine ⟨fun hbig => zero (by unfold atV; rw [if_neg (by omega)]), fun hlt => ?_⟩
  obtain ⟨k, rfl⟩ : ∃ k : Nat, col = k := ⟨col.toNat, by omega⟩
  have hk : k < st.cols.length := by omega
  have hat : atV st k = if st.cols[k].steps = [] then none else some st.cols[k] := by
    unfold atV
    rw [if_pos (by omega)]
    simp [hk]
  have hkc : k < css.length := by omega
  obtain ⟨v, hv, hv1, S, hv2, _⟩ := hcol k hk css[k] (by simp [hkc])
  obtain ⟨bl, off, r1, r2⟩ := hrd.rowK (i := k) hkc
  have kd := k02.drew
  have h22d : w2.drew.heap[x2]? = some (.cells #[.int .i64 st.rows, o] 27) := h22
  have hst : ∀ K : Value → Prop, lenL v K = K (.int .i64 st.cols[k].steps.length) := fun K => by rw [hv2.lenL, List.length_map]
  unfold stat_of_s0
  rw [fa_p, ldF (x := o) h22d rfl, r1, (r2 _ kd).1, fa_p, ldF (x := o) h22d rfl, r1, fa_p, (r2 _ kd).2.1 2 v (by omega) (by rw [hv]; rfl), hst]
  simp only [bq_gtr]
  rw [stA (k := 3) (show w2.drew.heap[x4]? = _ from h4) (by rw [zcCol]; rfl) (by simp [hv, cC]) (by rw [hv]; simp [cC, hv1])]
  obtain ⟨w3, hw3⟩ : ∃ w3, w3 = setBlk w2.drew x4 (.cells css[k].toArray 32) := ⟨_, rfl⟩
  have k3 : Kp [] w w3 := by rw [hw3]; exact kd.setBlk (.inr (by omega)) _
  have g2 : w3.heap[x2]? = some (.cells #[.int .i64 st.rows, o] 27) := by rw [hw3, heap_ne (by have := lt_of_blk h2; omega)]; exact h22d
  have g4 : w3.heap[x4]? = some (.cells css[k].toArray 32) := by rw [hw3]; exact heap_self (live_of (show w2.drew.heap[x4]? = _ from h4))
  rw [← hw3, (r2 _ k3).2.1 2 v (by omega) (by rw [hv]; rfl), ldF (x := o) g2 rfl, loadVar_of (n := 3) (by kernel_rfl) (by kernel_rfl) g4 (by simp [hv, cC])]
  refine ⟨by rw [stb_of run_gtr], rfl, rfl, ?_⟩
  have hcx : ColX [] w3 css[k] st.cols[k] := ⟨v, hv, hv1, S, hv2.keep k3 (by simp), by simp⟩
  by_cases hs : st.cols[k].steps = []
  · rw [if_pos hs] at hat
    rw [hs]
    exact hN hat w3 _ (by simp [hv, cC]) (by rw [hv]; simp [cC, hv1]) k3
  · rw [if_neg hs] at hat
    have : decide ((st.cols[k].steps.length : Int) > ((0 : Nat) : Int)) = true := decide_eq_true (by have := List.length_pos_iff.2 hs; omega)
    have := hS _ hat w3 _ k3 hcx
    simpa [List.length_pos_iff.2 hs] using this
/-- how many of a column, by how many different ones -/
theorem same_s0 {wb : World} {x3 x7 : Nat} {r n d : Nat} {v o : Value} {T T' : TypeId} {fr fr' : Nat × Nat} (h3 : w.heap[x3]? = some (.cells #[.int .i64 r, o] T fr)) (h7 : w.heap[x7]? = some (.cells (cC n d v).toArray T' fr')) (hn : n ≤ r) (hr : r < 2 ^ 30) (hd : d < 2 ^ 30) (hR : R (.int .i64 ((max 1 ((r - n) / max 1 d) : Nat) : Int)) w) :
    stat_Same_s0 R (.pointer (some ⟨x3, 0, none⟩)) (.pointer (some ⟨x7, 0, none⟩)) w := by
  unfold stat_Same_s0
  rw [fa_p, ldF (x := .int .i64 r) h3 rfl, fa_p, ldF (x := .int .i64 n) h7 rfl]
  have e1 : IntKind.i64.wrap ((r : Int) - (n : Int)) = ((r - n : Nat) : Int) := by rw [w64 (by omega) (by omega)]; omega
  simp only [bq_sub, e1]
  rw [fa_p, ldF (x := .int .i64 d) h7 rfl, q_max]
  have e2 : max (1 : Int) (d : Int) = ((max 1 d : Nat) : Int) := by omega
  have e3 : ((r - n : Nat) : Int) / ((max 1 d : Nat) : Int) = (((r - n) / max 1 d : Nat) : Int) := by simp
  have h4 : (r - n) / max 1 d ≤ r - n := Nat.div_le_self _ _
  rw [e2, quo_of (by omega) (by omega), e3, wrap_nat64 (by omega), q_max]
  have e5 : max (1 : Int) (((r - n) / max 1 d : Nat) : Int) = ((max 1 ((r - n) / max 1 d) : Nat) : Int) := by omega
  rw [e5]
  exact hR
theorem Same_spec {val : Value} {n : Int} {rows : List (List V3)} (h : StatAt w val (statV n rows)) (hl : rows.length < 2 ^ 20) (col : Int) (v : V3) (hR : ∀ w', Kp [] w w' → R (.int .i64 (sameQ (statV n rows) col v)) w') : callG Try.prog 12 #[val, .int .i64 col, valA v] w R := by
  have hh := h
  obtain ⟨o, css, hval, ho, hrd, hlen, hcol⟩ := hh
  refine stat_Same_call ?_
  unfold stat_Same stat_Same_s1
  rw [hval]
  refine argB fun x3 w1 hx3 h3 k1 => ?_
  have e0 : ∀ (v : V3) (w : World) (k : Value → World → Prop), newG (Value.cells (valA v)) 35 w k = newG (Value.cells (.agg (valV v).toArray)) 35 w k := fun _ _ _ => rfl
  rw [e0]
  refine argB fun x5 w2 hx5 h5 k2 => ?_
  have k02 := k1.trans' k2
  have h32 := k2.get h3 (by simp)
  rw [ldA (k := 2) h32 rfl, ← hval]
  refine of_spec (h.keep k02) (by simp only [statV, List.length_map, List.length_range]; omega) col ?_ ?_
  · intro hno w3 c hc3 hc1 k3
    have k03 := k02.trans' k3
    rw [ex0, ex1]
    refine newB fun x7 w4 hx7 h7 k4 => ?_
    rw [stA (k := 3) h7 (by rw [zcCol]; rfl) hc3 hc1]
    simp only [un_not, bV_b]
    refine ⟨fun _ => ?_, fun h => by simp at h⟩
    have := hR (setBlk w4 x7 (.cells c 32)).drew ((k03.trans' (k4.setBlk (.inr hx7) _)).drew)
    unfold sameQ at this
    rw [hno] at this
    exact this
  · intro c hc w3 cs k3 hcx
    obtain ⟨k, rfl, hk, rfl, hv0⟩ := atV_stat hc
    obtain ⟨sv, hcs, hsv1, S, hsv, _⟩ := hcx
    have k03 := k02.trans' k3
    rw [ex0, ex1]
    refine newB fun x7 w4 hx7 h7 k4 => ?_
    rw [stA (k := 3) h7 (by rw [zcCol]; rfl) (by rw [hcs]; rfl) (by rw [hcs]; simp [cC, hsv1])]
    obtain ⟨w5, hw5⟩ : ∃ w5, w5 = (setBlk w4 x7 (.cells cs.toArray 32)).drew := ⟨_, rfl⟩
    have k35 : Kp [] w3 w5 := by rw [hw5]; exact (k4.setBlk (.inr hx7) _).drew
    have h75 : w5.heap[x7]? = some (.cells (cC (colV k rows).nulls (colV k rows).distinct sv).toArray 32) := by rw [hw5, heap_drew, heap_self (live_of h7), hcs]
    rw [← hw5]
    have k25 := k3.trans' k35
    have k05 := k02.trans' k25
    have h35 := k25.get h32 (by simp)
    have h55 := k25.get h5 (by simp)
    have rs : Rd w5 sv 3 ((colV k rows).steps.map valV) := ⟨S, hsv.keep k35 (by simp)⟩
    have hpos : 0 < (colV k rows).steps.length := List.length_pos_iff.2 fun hh => hv0 (colV_nil.1 hh)
    have hR : ∀ w' (q : Nat), Kp [] w w' → sameQ (statV n rows) k v = q → R (.int .i64 (q : Int)) w' := fun w' q hk' hq => by rw [← hq]; exact hR w' hk'
    have hsQ : sameQ (statV n rows) k v = if v.k = 0 ∨ cmpV v ((colV k rows).steps.getD 0 ⟨0, 0, []⟩) < 0 ∨ cmpV v ((colV k rows).steps.getD ((colV k rows).steps.length - 1) ⟨0, 0, []⟩) > 0 then 0 else max 1 (((statV n rows).rows - (colV k rows).nulls) / max 1 (colV k rows).distinct) := by
      unfold sameQ; rw [hc]
    have hsl : (colV k rows).steps.length ≤ rows.length ∨ (colV k rows).steps.length ≤ 9 := by
      unfold colV stepsV
      simp only
      split
      · right; assumption
      · right; simp
    simp only [un_not, bV_b]
    refine ⟨fun h => by simp at h, fun _ => ?_⟩
    rw [fa_p, ldF (x := .int .i64 v.k) h55 rfl]
    simp only [bq_eql, bV_b, decide_eq_true_eq, decide_eq_false_iff_not]
    refine ⟨fun hk0 => hR w5 0 k05 (by rw [hsQ, if_pos (.inl hk0)]), fun hk0 => ?_⟩
    rw [show ∀ K : Value → Prop, ldn 3 (.pointer (some ⟨x5, 0, none⟩)) w5 K = K (valA v) from fun K => ldA h55 rfl, fa_p, ldF (x := sv) h75 rfl]
    obtain ⟨p, p1, p2, _⟩ := rs.get (i := 0) (by simpa using hpos)
    have r0 : ((colV k rows).steps.map valV)[0]'(by simpa using hpos) = valV ((colV k rows).steps.getD 0 ⟨0, 0, []⟩) := by simp [List.getD, hpos]
    rw [r0] at p2
    have p1' : ∀ K, ia 3 sv (.int .i64 0) K = K p := fun K => p1 .i64 K
    rw [p1', p2]
    refine vCompareK_spec _ _ fun w6 k6 => ?_
    have k06 := k05.trans' k6
    simp only [bq_lss, bV_b, decide_eq_true_eq, decide_eq_false_iff_not]
    refine ⟨fun hlo => hR w6 0 k06 (by rw [hsQ, if_pos (.inr (.inl hlo))]), fun hlo => ?_⟩
    have h56 := k6.get h55 (by simp)
    have h76 := k6.get h75 (by simp)
    have h36 := k6.get h35 (by simp)
    rw [show ∀ K : Value → Prop, ldn 3 (.pointer (some ⟨x5, 0, none⟩)) w6 K = K (valA v) from fun K => ldA h56 rfl, fa_p, ldF (x := sv) h76 rfl, fa_p, ldF (x := sv) h76 rfl, rs.lenL, List.length_map]
    have e1 : IntKind.i64.wrap (((colV k rows).steps.length : Int) - 1) = (((colV k rows).steps.length - 1 : Nat) : Int) := by rw [w64 (by omega) (by omega)]; omega
    simp only [bq_sub, e1]
    obtain ⟨q, q1, q2, _⟩ := (rs.keep k6).get (i := (colV k rows).steps.length - 1) (by simp; omega)
    have r1 : ((colV k rows).steps.map valV)[(colV k rows).steps.length - 1]'(by simp; omega) = valV ((colV k rows).steps.getD ((colV k rows).steps.length - 1) ⟨0, 0, []⟩) := by
      have : (colV k rows).steps.length - 1 < (colV k rows).steps.length := by omega
      simp [List.getD, this]
    rw [r1] at q2
    rw [q1, q2]
    refine vCompareK_spec _ _ fun w7 k7 => ?_
    have k07 := k06.trans' k7
    simp only [bq_gtr, bV_b, decide_eq_true_eq, decide_eq_false_iff_not]
    refine ⟨fun hhi => hR w7 0 k07 (by rw [hsQ, if_pos (.inr (.inr hhi))]), fun hhi => ?_⟩
    have hnl : (colV k rows).nulls ≤ rows.length := by unfold colV; simp only; omega
    have hdl : (colV k rows).distinct ≤ rows.length := by
      have h1 := distV_le (sortV (colVals k rows))
      have h2 := sortV_len (colVals k rows)
      have h3 := colVals_le k rows
      unfold colV; simp only; omega
    refine same_s0 (wb := w7) (k7.get h36 (by simp)) (k7.get h76 (by simp)) hnl (show rows.length < 2 ^ 30 by omega) (by omega) ?_
    exact hR w7 _ k07 (by rw [hsQ, if_neg (by rintro (g | g | g); exact hk0 g; exact hlo g; exact hhi g)])
end
end Go.Proofs

/- Layer 22: the same of the document. -/
set_option maxRecDepth 100000
set_option linter.unusedVariables false
set_option linter.unusedSimpArgs false
namespace Go.Proofs
open Go Go.Q
section
variable {w : World} {R : Value → World → Prop}
theorem at_spec {val : Value} {st : StatV} (h : StatAt w val st) (hl : st.cols.length < 2 ^ 30) (col : Int) (hN : atV st col = none → ∀ w' c, c.size = 3 → c.all Q.one = true → Kp [] w w' → R (.tuple #[.agg c, .bool false]) w')
    (hS : ∀ c, atV st col = some c → ∀ w' cs, Kp [] w w' → ColX [] w' cs c → R (.tuple #[.agg cs.toArray, .bool true]) w') : callG Try.prog 29 #[val, .int .i64 col] w R := by
  obtain ⟨o, css, rfl, ho, hrd, hlen, hcol⟩ := h
  refine ref22_at_call ?_
  unfold ref22_at ref22_at_s1
  refine argB fun x2 w1 hx2 h2 k1 => ?_
  refine newB fun x4 w2 hx4 h4 k2 => ?_
  have k02 := k1.trans' k2
  have h22 := k2.get h2 (by simp)
  have s1 := k1.size
  have zero : atV st col = none → (bld [(0, 1), (1, 1), (2, 1)] (zc Try.prog 32) #[] fun t15 => stn 3 (.pointer (some ⟨x4, 0, none⟩)) t15 w2 fun w => qG Try.prog (do loadVar 32 (← asAddr (.pointer (some ⟨x4, 0, none⟩)))) w fun r4 => R (.tuple #[r4, (.bool false)]) w) := by
    intro hno
    rw [bld_col0]
    refine retB (R := fun r4 w => R (.tuple #[r4, (.bool false)]) w) (by kernel_rfl) (by kernel_rfl) h4 (by first | (rw [zcCol]; done) | (rw [zcCol]; rfl)) rfl (by simp [cC]) fun w6 hk6 => ?_
    exact hN hno w6 _ rfl (by simp [cC]) (k02.trans hk6 fun x hx hlt => by simp at hx; omega)
  simp only [bq_lss, bV_b, decide_eq_true_eq, decide_eq_false_iff_not]
  refine ⟨fun hneg => zero (by unfold atV; rw [if_neg (by omega)]), fun hge => ?_⟩
  rw [fa_p, ldF (x := o) h22 rfl, hrd.lenL, hlen]
  simp only [bq_geq, bV_b, decide_eq_true_eq, decide_eq_false_iff_not]
  refine ⟨fun hbig => zero (by unfold atV; rw [if_neg (by omega)]), fun hlt => ?_⟩
  obtain ⟨k, rfl⟩ : ∃ k : Nat, col = k := ⟨col.toNat, by omega⟩
  have hk : k < st.cols.length := by omega
  have hat : atV st k = if st.cols[k].steps = [] then none else some st.cols[k] := by
    unfold atV
    rw [if_pos (by omega)]
    simp [hk]
  have hkc : k < css.length := by omega
  obtain ⟨v, hv, hv1, S, hv2, _⟩ := hcol k hk css[k] (by simp [hkc])
  obtain ⟨bl, off, r1, r2⟩ := hrd.rowK (i := k) hkc
  have kd := k02.drew
  have h22d : w2.drew.heap[x2]? = some (.cells #[.int .i64 st.rows, o] 27) := h22
  have hst : ∀ K : Value → Prop, lenL v K = K (.int .i64 st.cols[k].steps.length) := fun K => by rw [hv2.lenL, List.length_map]
  unfold ref22_at_s0
  rw [fa_p, ldF (x := o) h22d rfl, r1, (r2 _ kd).1, fa_p, ldF (x := o) h22d rfl, r1, fa_p, (r2 _ kd).2.1 2 v (by omega) (by rw [hv]; rfl), hst]
  simp only [bq_gtr]
  rw [stA (k := 3) (show w2.drew.heap[x4]? = _ from h4) (by rw [zcCol]; rfl) (by simp [hv, cC]) (by rw [hv]; simp [cC, hv1])]
  obtain ⟨w3, hw3⟩ : ∃ w3, w3 = setBlk w2.drew x4 (.cells css[k].toArray 32) := ⟨_, rfl⟩
  have k3 : Kp [] w w3 := by rw [hw3]; exact kd.setBlk (.inr (by omega)) _
  have g2 : w3.heap[x2]? = some (.cells #[.int .i64 st.rows, o] 27) := by rw [hw3, heap_ne (by have := lt_of_blk h2; omega)]; exact h22d
  have g4 : w3.heap[x4]? = some (.cells css[k].toArray 32) := by rw [hw3]; exact heap_self (live_of (show w2.drew.heap[x4]? = _ from h4))
  rw [← hw3, (r2 _ k3).2.1 2 v (by omega) (by rw [hv]; rfl), ldF (x := o) g2 rfl, loadVar_of (n := 3) (by kernel_rfl) (by kernel_rfl) g4 (by simp [hv, cC])]
  refine ⟨by rw [stb_of run_gtr], rfl, rfl, ?_⟩
  have hcx : ColX [] w3 css[k] st.cols[k] := ⟨v, hv, hv1, S, hv2.keep k3 (by simp), by simp⟩
  by_cases hs : st.cols[k].steps = []
  · rw [if_pos hs] at hat
    rw [hs]
    exact hN hat w3 _ (by simp [hv, cC]) (by rw [hv]; simp [cC, hv1]) k3
  · rw [if_neg hs] at hat
    have : decide ((st.cols[k].steps.length : Int) > ((0 : Nat) : Int)) = true := decide_eq_true (by have := List.length_pos_iff.2 hs; omega)
    have := hS _ hat w3 _ k3 hcx
    simpa [List.length_pos_iff.2 hs] using this
end
end Go.Proofs

/- Layer 22: about how many are between two. -/
set_option maxRecDepth 100000
set_option linter.unusedVariables false
set_option linter.unusedSimpArgs false
namespace Go.Proofs
open Go Go.Q
theorem bld_bd0 {K : Value → Prop} : bld [(0, 1), (1, 1), (2, 3)] (zc Try.prog 37) #[] K = K (bdA bNone) := by
  rw [zcBd]; rfl
structure BSt (w wj : World) (x4 x6 x7 x9 : Nat) (rows : Nat) (c : ColV) (lo hi : Bd) (o sv : Value) : Prop where
  kp : Kp [] w wj
  h4 : wj.heap[x4]? = some (.cells #[.int .i64 rows, o] 27)
  h6 : wj.heap[x6]? = some (.cells (bC lo).toArray 37)
  h7 : wj.heap[x7]? = some (.cells (bC hi).toArray 37)
  h9 : wj.heap[x9]? = some (.cells (cC c.nulls c.distinct sv).toArray 32)
  rs : Rd wj sv 3 (c.steps.map valV)
section
variable {w wj : World} {x4 x6 x7 x9 rows : Nat} {c : ColV} {lo hi : Bd} {o sv : Value} {R : Value → World → Prop}
theorem BSt.keep (h : BSt w wj x4 x6 x7 x9 rows c lo hi o sv) {w' : World} (hk : Kp [] wj w') : BSt w w' x4 x6 x7 x9 rows c lo hi o sv :=
  ⟨h.kp.trans' hk, hk.get h.h4 (by simp), hk.get h.h6 (by simp), hk.get h.h7 (by simp), hk.get h.h9 (by simp), h.rs.keep hk⟩
theorem steps_len (l : List V3) : (stepsV l).length ≤ 9 := by
  unfold stepsV
  split
  · assumption
  · simp
theorem nulls_lt {k : Nat} {l : List (List V3)} (h : colVals k l ≠ []) : (colV k l).nulls < l.length := by
  have h1 := pos_left h
  have h2 := colVals_le k l
  unfold colV
  simp only
  omega
end
--BEGIN
section
variable {w wj : World} {x4 x6 x7 x9 : Nat} {lo hi : Bd} {o sv : Value} {R : Value → World → Prop}
theorem btw_s0 {k n : Nat} {l : List (List V3)} (h : BSt w wj x4 x6 x7 x9 l.length (colV k l) lo hi o sv) (hl : l.length < 2 ^ 20) (hv0 : colVals k l ≠ []) (hn : n ≤ (colV k l).steps.length)
    (hR : ∀ w', Kp [] w w' → R (.int .i64 ((1 + shareN (l.length - (colV k l).nulls - 1) n (colV k l).steps.length : Nat) : Int)) w') : stat_Between_s0 R (.pointer (some ⟨x4, 0, none⟩)) (.pointer (some ⟨x9, 0, none⟩)) (.int .i64 (n : Nat)) wj := by
  have hnl := nulls_lt hv0
  have hs9 : (colV k l).steps.length ≤ 9 := steps_len _
  have hpos : 0 < (colV k l).steps.length := List.length_pos_iff.2 fun hh => hv0 (colV_nil.1 hh)
  unfold stat_Between_s0
  rw [fa_p, ldF (x := .int .i64 l.length) h.h4 rfl, fa_p, ldF (x := .int .i64 (colV k l).nulls) h.h9 rfl]
  have e1 : IntKind.i64.wrap ((l.length : Int) - ((colV k l).nulls : Int)) = ((l.length - (colV k l).nulls : Nat) : Int) := by rw [w64 (by omega) (by omega)]; omega
  have e2 : IntKind.i64.wrap (((l.length - (colV k l).nulls : Nat) : Int) - 1) = ((l.length - (colV k l).nulls - 1 : Nat) : Int) := by rw [w64 (by omega) (by omega)]; omega
  simp only [bq_sub, e1, e2]
  rw [fa_p, ldF (x := sv) h.h9 rfl, h.rs.lenL, List.length_map]
  refine share_spec _ _ _ hpos (by omega) (by omega) (by omega) ?_
  have h3 := shareN_mono (a := l.length - (colV k l).nulls - 1) (c := (colV k l).steps.length) hn
  rw [shareN_all hpos] at h3
  have e3 : IntKind.i64.wrap (1 + ((shareN (l.length - (colV k l).nulls - 1) n (colV k l).steps.length : Nat) : Int)) = ((1 + shareN (l.length - (colV k l).nulls - 1) n (colV k l).steps.length : Nat) : Int) := by rw [w64 (by omega) (by omega)]; omega
  simp only [bq_add, e3]
  exact hR _ h.kp.drew
theorem btw_head {val : Value} {n : Int} {l : List (List V3)} (h : StatAt w val (statV n l)) (hl : l.length < 2 ^ 20) (col : Int) (lo hi : Bd) (hR : ∀ w', Kp [] w w' → R (.int .i64 (betweenQ (statV n l) col lo hi)) w')
    (hK : ∀ k wj x4 x6 x7 x9 o sv, colVals k l ≠ [] → betweenQ (statV n l) col lo hi = 1 + shareN (l.length - (colV k l).nulls - 1) (inN (colV k l).steps lo hi) (colV k l).steps.length → BSt w wj x4 x6 x7 x9 l.length (colV k l) lo hi o sv →
      stat_Between_s4 R (.pointer (some ⟨x4, 0, none⟩)) (.pointer (some ⟨x6, 0, none⟩)) (.pointer (some ⟨x7, 0, none⟩)) (.pointer (some ⟨x9, 0, none⟩)) wj) :
    callG Try.prog 13 #[val, .int .i64 col, bdA lo, bdA hi] w R := by
  have hh := h
  obtain ⟨o, css, hval, ho, hrd, hlen, hcol⟩ := hh
  refine stat_Between_call ?_
  unfold stat_Between stat_Between_s5
  rw [hval]
  have e1 : ∀ (v : Bd) (w : World) (k : Value → World → Prop), newG (Value.cells (bdA v)) 37 w k = newG (Value.cells (.agg (bC v).toArray)) 37 w k := fun _ _ _ => rfl
  refine argB fun x4 w1 hx4 h4 k1 => ?_
  rw [e1]
  refine argB fun x6 w2 hx6 h6 k2 => ?_
  rw [e1]
  refine argB fun x7 w3 hx7 h7 k3 => ?_
  have k03 := (k1.trans' k2).trans' k3
  have h43 := k3.get (k2.get h4 (by simp)) (by simp)
  have h63 := k3.get h6 (by simp)
  rw [ldA (k := 2) h43 rfl, ← hval]
  have fin : ∀ (w4 : World) (c : Array Value) (t : Bool), c.size = 3 → c.all Q.one = true → Kp [] w3 w4 → (t = false → betweenQ (statV n l) col lo hi = 0) → (t = true → ∃ k sv, colVals k l ≠ [] ∧ atV (statV n l) col = some (colV k l) ∧ c = (cC (colV k l).nulls (colV k l).distinct sv).toArray ∧ Rd w4 sv 3 ((colV k l).steps.map valV)) →
      (qG Try.prog (Instr.extract (.tuple #[.agg c, .bool t]) 0) w4 fun t21 =>
      qG Try.prog (Instr.extract (.tuple #[.agg c, .bool t]) 1) w4 fun t22 =>
      newG (zc Try.prog 32) 32 w4 fun t9 w =>
      stn 3 t9 t21 w fun w =>
      ldn 5 (.pointer (some ⟨x6, 0, none⟩)) w fun t24 =>
      ldn 5 (.pointer (some ⟨x7, 0, none⟩)) w fun t25 =>
      bld [(0, 1), (1, 1), (2, 3)] (zc Try.prog 37) #[] fun t26 =>
      bld [(0, 1), (1, 1), (2, 3)] (zc Try.prog 37) #[] fun t27 =>
      callG Try.prog 26 #[t24, t25, t26, t27] w fun t28 w =>
      qG Try.prog (Instr.extract t28 0) w fun t29 =>
      qG Try.prog (Instr.extract t28 1) w fun t30 =>
      qG Try.prog (Instr.extract t28 2) w fun t31 =>
      newG (zc Try.prog 37) 37 w fun t11 w =>
      newG (zc Try.prog 37) 37 w fun t12 w =>
      stn 5 t11 t29 w fun w =>
      stn 5 t12 t30 w fun w =>
      qG Try.prog (Op.unary .not t22) w fun t33 =>
      bV t33
      (R (.int .i64 0) w)
      (qG Try.prog (Op.unary .not t31) w fun t36 =>
      bV t36
      (R (.int .i64 0) w)
      (stat_Between_s4 R (.pointer (some ⟨x4, 0, none⟩)) (.pointer (some ⟨x6, 0, none⟩)) (.pointer (some ⟨x7, 0, none⟩)) t9 w))) := by
    intro w4 c t hc3 hc1 k4 hno hyes
    rw [ex0, ex1]
    refine newB fun x9 w5 hx9 h9 k5 => ?_
    rw [stA (k := 3) h9 (by rw [zcCol]; rfl) hc3 hc1]
    obtain ⟨w6, hw6⟩ : ∃ w6, w6 = setBlk w5 x9 (.cells c 32) := ⟨_, rfl⟩
    have k46 : Kp [] w4 w6 := by rw [hw6]; exact k5.setBlk (.inr hx9) _
    have g9 : w6.heap[x9]? = some (.cells c 32) := by rw [hw6]; exact heap_self (live_of h9)
    rw [← hw6]
    have k36 := k4.trans' k46
    rw [ldA (k := 5) (k36.get h63 (by simp)) rfl, ldA (k := 5) (k36.get h7 (by simp)) rfl, bld_bd0, bld_bd0]
    refine narrow_spec lo hi bNone bNone fun w7 k7 => ?_
    rw [ex30, ex31, ex32]
    refine newB fun x11 w8 hx11 h11 k8 => ?_
    refine newB fun x12 w9 hx12 h12 k9 => ?_
    have h119 := k9.get h11 (by simp)
    have l11 := lt_of_blk h11
    unfold bdA
    rw [stA (k := 5) h119 (by rw [zcBd]; rfl) rfl (bC_one _), stA (k := 5) (by rw [heap_ne (by omega)]; exact h12) (by rw [zcBd]; rfl) rfl (bC_one _)]
    have s8 := k8.size
    obtain ⟨wa, hwa⟩ : ∃ wa, wa = setBlk (setBlk w9 x11 (.cells (bC (tightV lo bNone 1)).toArray 37)) x12 (.cells (bC (tightV hi bNone (-1))).toArray 37) := ⟨_, rfl⟩
    have k7a : Kp [] w7 wa := by rw [hwa]; exact ((k8.trans' k9).setBlk (.inr hx11) _).setBlk (.inr (by omega)) _
    rw [← hwa]
    have k6a := k7.trans' k7a
    have k0a := k03.trans' (k36.trans' k6a)
    simp only [un_not, bV_b]
    refine ⟨fun h => ?_, fun h => ⟨fun h2 => ?_, fun h2 => ?_⟩⟩
    · have := hR wa k0a
      rw [hno (by simpa using h)] at this
      exact this
    · have := hR wa k0a
      obtain ⟨k, sv, hv0, hat, _, _⟩ := hyes (by simpa using h)
      unfold betweenQ at this
      rw [hat] at this
      simp only at this
      rw [if_neg (by simpa using h2)] at this
      exact this
    · obtain ⟨k, sv, hv0, hat, hc, hsv⟩ := hyes (by simpa using h)
      refine hK k wa x4 x6 x7 x9 o sv hv0 ?_ ⟨k0a, (k36.trans' k6a).get h43 (by simp), (k36.trans' k6a).get h63 (by simp), (k36.trans' k6a).get h7 (by simp), ?_, (hsv.keep k46).keep k6a⟩
      · unfold betweenQ
        rw [hat]
        simp only
        rw [if_pos (by simpa using h2)]; rfl
      · rw [← hc]; exact k6a.get g9 (by simp)
  refine of_spec (h.keep k03) (by simp only [statV, List.length_map, List.length_range]; omega) col ?_ ?_
  · intro hno w4 c hc3 hc1 k4
    exact fin w4 c false hc3 hc1 k4 (fun _ => by unfold betweenQ; rw [hno]) (fun h => by cases h)
  · intro c hc w4 cs k4 hcx
    obtain ⟨k, hk0, hk, rfl, hv0⟩ := atV_stat hc
    obtain ⟨sv, hcs, hsv1, S, hsv, _⟩ := hcx
    exact fin w4 _ true (by rw [hcs]; rfl) (by rw [hcs]; simp [cC, hsv1]) k4 (fun h => by cases h) fun _ => ⟨k, sv, hv0, hc, by rw [hcs], ⟨S, hsv⟩⟩
end
--END
section
variable {w : World} {R : Value → World → Prop}
theorem filt_snoc {α : Type} (p : α → Bool) {l : List α} {i : Nat} (hi : i < l.length) : ((l.take (i + 1)).filter p).length = ((l.take i).filter p).length + if p l[i] = true then 1 else 0 := by
  rw [List.take_succ_eq_append_getElem hi, List.filter_append, List.length_append]
  by_cases h : p l[i] = true <;> simp [h]
theorem Between_spec {val : Value} {n : Int} {l : List (List V3)} (h : StatAt w val (statV n l)) (hl : l.length < 2 ^ 20) (col : Int) (lo hi : Bd) (hR : ∀ w', Kp [] w w' → R (.int .i64 (betweenQ (statV n l) col lo hi)) w') : callG Try.prog 13 #[val, .int .i64 col, bdA lo, bdA hi] w R := by
  refine btw_head h hl col lo hi hR fun k wj x4 x6 x7 x9 o sv hv0 hq hb => ?_
  rw [hq] at hR
  have hs9 : (colV k l).steps.length ≤ 9 := steps_len _
  unfold stat_Between_s4 stat_Between_s3 stat_Between_L2
  rw [fa_p, ldF (x := sv) hb.h9 rfl, hb.rs.lenL, List.length_map]
  generalize hst : (colV k l).steps = st at *
  refine loop_inv (fun m xs wi => ∃ i, i ≤ st.length ∧ m = st.length - i ∧ xs = [.pointer (some ⟨x4, 0, none⟩), .pointer (some ⟨x6, 0, none⟩), .pointer (some ⟨x7, 0, none⟩), .pointer (some ⟨x9, 0, none⟩), .int .i64 ((((st.take i).filter fun v => inV v lo hi).length : Nat) : Int), sv, .int .i64 (st.length : Nat), .int .i64 (i : Nat)] ∧ BSt w wi x4 x6 x7 x9 l.length (colV k l) lo hi o sv) ?_ (m := st.length) ⟨0, by omega, rfl, rfl, hb⟩
  rintro m N xs wi ⟨i, hi', rfl, rfl, hbi⟩ hN
  have hrs := hbi.rs
  rw [hst] at hrs
  have hiw : IntKind.i64.wrap ((i : Int) + 1) = ((i + 1 : Nat) : Int) := by rw [w64 (by omega) (by omega)]; simp
  unfold stat_Between_L2F stat_Between_b1
  dsimp only
  simp only [bq_lss, bV_b, decide_eq_true_eq, decide_eq_false_iff_not]
  refine ⟨fun hlt => ?_, fun hge => ?_⟩
  · have hlt : i < st.length := by omega
    have hfl := filt_snoc (fun v => inV v lo hi) hlt
    obtain ⟨p, p1, p2, _⟩ := hrs.get (i := i) (by simpa using hlt)
    have hrow : (st.map valV)[i]'(by simpa using hlt) = valV st[i] := by simp
    rw [hrow] at p2
    rw [p1, p2]
    refine newB fun x16 w2 hx16 h16 k2 => ?_
    rw [stA (k := 3) h16 (by rw [zcVal]; rfl) rfl (by simp [valV])]
    obtain ⟨w3, hw3⟩ : ∃ w3, w3 = setBlk w2 x16 (.cells (valV st[i]).toArray 35) := ⟨_, rfl⟩
    have k3 : Kp [] wi w3 := by rw [hw3]; exact k2.setBlk (.inr hx16) _
    have g16 : w3.heap[x16]? = some (.cells (valV st[i]).toArray 35) := by rw [hw3]; exact heap_self (live_of h16)
    have h3 := hbi.keep k3
    rw [← hw3, show ∀ K : Value → Prop, ldn 3 (.pointer (some ⟨x16, 0, none⟩)) w3 K = K (valA st[i]) from fun K => ldA g16 rfl, ldA (k := 5) h3.h6 rfl, ldA (k := 5) h3.h7 rfl]
    refine in_spec st[i] lo _ fun w4 k4 => ?_
    have h4 := h3.keep k4
    have hbd : ((st.take i).filter fun v => inV v lo hi).length ≤ i := by
      have := List.length_filter_le (fun v => inV v lo hi) (st.take i)
      rw [List.length_take] at this
      omega
    simp only [bV_b, bq_add, hiw]
    refine ⟨fun hin => ?_, fun hin => ?_⟩
    · rw [if_pos hin] at hfl
      have hnw : IntKind.i64.wrap (((((st.take i).filter fun v => inV v lo hi).length : Nat) : Int) + 1) = ((((st.take (i + 1)).filter fun v => inV v lo hi).length : Nat) : Int) := by rw [hfl, w64 (by omega) (by omega)]; simp
      rw [hnw]
      exact hN (st.length - (i + 1)) _ _ (by omega) ⟨i + 1, by omega, rfl, rfl, h4⟩
    · rw [if_neg (by simp [hin])] at hfl
      refine hN (st.length - (i + 1)) _ _ (by omega) ⟨i + 1, by omega, rfl, ?_, h4⟩
      rw [hfl]; rfl
  · have hie : i = st.length := by omega
    subst hie
    rw [List.take_length]
    refine btw_s0 hbi hl hv0 (by rw [hst]; exact List.length_filter_le _ _) fun w' hk => ?_
    rw [hst]
    exact hR w' hk
end
end Go.Proofs

/- Layer 22: about how many are between two: the document's. -/
set_option maxRecDepth 100000
set_option linter.unusedVariables false
set_option linter.unusedSimpArgs false
namespace Go.Proofs
open Go Go.Q
section
variable {w wj : World} {x4 x6 x7 x9 : Nat} {lo hi : Bd} {o sv : Value} {R : Value → World → Prop}
end
section
variable {w : World} {R : Value → World → Prop}
end
end Go.Proofs

