/- Part of the proof (text XRef3): an engine, rules or contracts of the functions; it states nothing of the claim by itself. -/
import Derived.Test.YtnmooeoajgckmaaXLaw3
set_option linter.unusedVariables false
set_option linter.unusedSimpArgs false
namespace Go.Proofs
open Go Go.Q
set_option maxRecDepth 100000
/-! quayside/quaysideref03.burns -/
def ref03_burns_s0 (R : Value → World → Prop) (x1 x2 : Value) (w : World) : Prop :=
  fa 2 x1 fun t14 =>
  ld1 t14 w fun t15 =>
  qG Try.prog (bq .gtr 3 (.tmp 15) (.const (.int .i64 0)) t15 (.int .i64 0)) w fun t16 =>
  bV t16
  (fa 2 x1 fun t17 =>
  ld1 t17 w fun t18 =>
  qG Try.prog (bq .sub 3 (.tmp 18) (.const (.int .i64 1)) t18 (.int .i64 1)) w fun t19 =>
  fa 2 x1 fun t20 =>
  st1 t20 t19 w fun w =>
  ldn 4 x1 w fun t21 =>
  stn 4 x2 t21 w fun w =>
  qG Try.prog (do loadVar 39 (← asAddr x2)) w fun r2 =>
  R (.tuple #[r2, (.bool true)]) w)
  (ldn 4 x1 w fun t21_1 =>
  stn 4 x2 t21_1 w fun w =>
  qG Try.prog (do loadVar 39 (← asAddr x2)) w fun r2_1 =>
  R (.tuple #[r2_1, (.bool true)]) w)

theorem ref03_burns_s0_eq (R : Value → World → Prop) : ∀ e w, lift Try.prog 22 (sub (bodyOf Try.f47) [1, 1]) (finK Try.prog Try.f47.results.toList R) e w = ref03_burns_s0 R (e 1) (e 2) w := fun e w => by kernel_rfl

def ref03_burns_s1 (R : Value → World → Prop) (x1 x2 x10 : Value) (w : World) : Prop :=
  bV x10
  (fa 3 x1 fun t11 =>
  st1 t11 (.bool true) w fun w =>
  fa 2 x1 fun t12 =>
  st1 t12 (.int .i64 (-1)) w fun w =>
  ldn 4 x1 w fun t13 =>
  stn 4 x2 t13 w fun w =>
  qG Try.prog (do loadVar 39 (← asAddr x2)) w fun r2 =>
  R (.tuple #[r2, (.bool false)]) w)
  (ref03_burns_s0 R x1 x2 w)

theorem ref03_burns_s1_eq (R : Value → World → Prop) : ∀ e w, lift Try.prog 22 (sub (bodyOf Try.f47) [1, 0, 1]) (seqK (fun e w => ref03_burns_s0 R (e 1) (e 2) w) (finK Try.prog Try.f47.results.toList R)) e w = ref03_burns_s1 R (e 1) (e 2) (e 10) w := fun e w => by kernel_rfl

def ref03_burns_s2 (R : Value → World → Prop) (x1 x2 : Value) (w : World) : Prop :=
  fa 3 x1 fun t4 =>
  ld1 t4 w fun t5 =>
  bV t5
  (ref03_burns_s1 R x1 x2 (.bool true) w)
  (fa 2 x1 fun t7 =>
  ld1 t7 w fun t8 =>
  qG Try.prog (bq .eql 3 (.tmp 8) (.const (.int .i64 0)) t8 (.int .i64 0)) w fun t9 =>
  ref03_burns_s1 R x1 x2 t9 w)

theorem ref03_burns_s2_eq (R : Value → World → Prop) : ∀ e w, lift Try.prog 22 (sub (bodyOf Try.f47) [1, 0]) (seqK (fun e w => ref03_burns_s0 R (e 1) (e 2) w) (finK Try.prog Try.f47.results.toList R)) e w = ref03_burns_s2 R (e 1) (e 2) w :=
  segs_eq (l := [(sub (bodyOf Try.f47) [1, 0, 0])]) (y := (sub (bodyOf Try.f47) [1, 0, 1])) (Y := (fun e w => ref03_burns_s1 R (e 1) (e 2) (e 10) w)) (ref03_burns_s1_eq R) (fun e w => by kernel_rfl)

def ref03_burns_s3 (R : Value → World → Prop) (x0 : Value) (w : World) : Prop :=
  newG (Value.cells x0) 39 w fun t1 w =>
  newG (zc Try.prog 39) 39 w fun t2 w =>
  ref03_burns_s2 R t1 t2 w

theorem ref03_burns_s3_eq (R : Value → World → Prop) : ∀ e w, lift Try.prog 22 (bodyOf Try.f47) (finK Try.prog Try.f47.results.toList R) e w = ref03_burns_s3 R (e 0) w :=
  segs_eq (l := [(sub (bodyOf Try.f47) [0])]) (y := (sub (bodyOf Try.f47) [1])) (Y := (fun e w => ref03_burns_s2 R (e 1) (e 2) w)) (seq_seg (x := (sub (bodyOf Try.f47) [1, 0])) (y := (sub (bodyOf Try.f47) [1, 1])) (ref03_burns_s0_eq R) (ref03_burns_s2_eq R)) (fun e w => by kernel_rfl)

def ref03_burns (R : Value → World → Prop) (x0 : Value) (w : World) : Prop := ref03_burns_s3 R x0 w
theorem ref03_burns_call {R : Value → World → Prop} {x0 : Value} {w : World} (h : ref03_burns R x0 w) : callG Try.prog 47 #[x0] w R :=
  calls_lift_eq Try.mixed Try.func47 (args := [x0]) rfl rfl rfl rfl ((ref03_burns_s3_eq R) (envOf [x0]) w) (by kernel_rfl) h
/-! quayside/quaysideref03.with -/
def ref03_with_s0 (R : Value → World → Prop) (x0 x1 x2 : Value) (w : World) : Prop :=
  slL 1 x0 none (some x1) fun t11 =>
  app 9 1 16 (zc Try.prog 9) (.slice none 0 0) t11 w fun t12 w =>
  bsl 9 1 1 (zc Try.prog 9) #[(0, x2)] w fun t15 w =>
  app 9 1 16 (zc Try.prog 9) t12 t15 w fun t16 w =>
  qG Try.prog (bq .add 3 (.tmp 19) (.const (.int .i64 1)) x1 (.int .i64 1)) w fun t20 =>
  slL 1 x0 (some t20) none fun t21 =>
  app 9 1 16 (zc Try.prog 9) t16 t21 w fun t22 w =>
  R t22 w

theorem ref03_with_s0_eq (R : Value → World → Prop) : ∀ e w, lift Try.prog 23 (bodyOf Try.f48) (finK Try.prog Try.f48.results.toList R) e w = ref03_with_s0 R (e 0) (e 1) (e 2) w := fun e w => by kernel_rfl

def ref03_with (R : Value → World → Prop) (x0 x1 x2 : Value) (w : World) : Prop := ref03_with_s0 R x0 x1 x2 w
theorem ref03_with_call {R : Value → World → Prop} {x0 x1 x2 : Value} {w : World} (h : ref03_with R x0 x1 x2 w) : callG Try.prog 48 #[x0, x1, x2] w R :=
  calls_lift_eq Try.mixed Try.func48 (args := [x0, x1, x2]) rfl rfl rfl rfl ((ref03_with_s0_eq R) (envOf [x0, x1, x2]) w) (by kernel_rfl) h
/-! quayside/quaysideref03.New -/
def ref03_New_s0 (R : Value → World → Prop) (x2 x4 : Value) (w : World) : Prop :=
  bld [(0, 1), (1, 1), (2, 1), (3, 1)] (zc Try.prog 39) #[(0, x4), (2, (.int .i64 (-1)))] fun t26 =>
  stn 4 x2 t26 w fun w =>
  qG Try.prog (do loadVar 39 (← asAddr x2)) w fun r2 =>
  R (.tuple #[r2, (.int .i64 0)]) w

theorem ref03_New_s0_eq (R : Value → World → Prop) : ∀ e w, lift Try.prog 27 (sub (bodyOf Try.f19) [1, 1, 1, 1]) (finK Try.prog Try.f19.results.toList R) e w = ref03_New_s0 R (e 2) (e 4) w := fun e w => by kernel_rfl

def ref03_New_b1 (R : Value → World → Prop) (N1 : List Value → World → Prop) (x0 x2 x4 x5 : Value) (w : World) : Prop :=
  qG Try.prog (bq .lss 3 (.tmp 15) (.tmp 16) x5 x0) w fun t17 =>
  bV t17
  (mkG 5 1 1 (zc Try.prog 5) (.int .i64 32) (.int .i64 32) w fun t22 w =>
  cvBS t22 w fun t23 =>
  ia 1 x4 x5 fun t24 =>
  st1 t24 t23 w fun w =>
  qG Try.prog (bq .add 3 (.tmp 18) (.const (.int .i64 1)) x5 (.int .i64 1)) w fun t19 =>
  N1 [x0, x2, x4, t19] w)
  (ref03_New_s0 R x2 x4 w)

theorem ref03_New_b1_eq (R : Value → World → Prop) (N1 : List Value → World → Prop) : ∀ e w, lift Try.prog 27 (sub (bodyOf Try.f19) [1, 1, 1, 0, 1, 0, 0]) (seqK (fun e w => N1 [e 0, e 2, e 4, e 5] w) (blockK 0 (seqK (fun e w => ref03_New_s0 R (e 2) (e 4) w) (finK Try.prog Try.f19.results.toList R)))) e w = ref03_New_b1 R N1 (e 0) (e 2) (e 4) (e 5) w := fun e w => by kernel_rfl

def ref03_New_L2F (R : Value → World → Prop) (N1 : List Value → World → Prop) (xs : List Value) (w : World) : Prop :=
  match xs with
  | [x0, x2, x4, x5] => ref03_New_b1 R N1 x0 x2 x4 x5 w
  | _ => False

def ref03_New_L2 (R : Value → World → Prop) (x0 x2 x4 x5 : Value) (w : World) : Prop :=
  ∃ m, loopV (ref03_New_L2F R) m [x0, x2, x4, x5] w

theorem ref03_New_L2_eq (R : Value → World → Prop) : ∀ e w, lift Try.prog 27 (sub (bodyOf Try.f19) [1, 1, 1, 0, 1, 0]) (blockK 0 (seqK (fun e w => ref03_New_s0 R (e 2) (e 4) w) (finK Try.prog Try.f19.results.toList R))) e w = ref03_New_L2 R (e 0) (e 2) (e 4) (e 5) w := loop_seg (F := ref03_New_L2F R) (sel := fun e => [e 0, e 2, e 4, e 5]) fun N1 => (ref03_New_b1_eq R N1)

def ref03_New_s3 (R : Value → World → Prop) (x0 x2 x4 : Value) (w : World) : Prop :=
  ref03_New_L2 R x0 x2 x4 (.int .i64 0) w

theorem ref03_New_s3_eq (R : Value → World → Prop) : ∀ e w, lift Try.prog 27 (sub (bodyOf Try.f19) [1, 1, 1, 0]) (seqK (fun e w => ref03_New_s0 R (e 2) (e 4) w) (finK Try.prog Try.f19.results.toList R)) e w = ref03_New_s3 R (e 0) (e 2) (e 4) w :=
  segs_eq (l := [(sub (bodyOf Try.f19) [1, 1, 1, 0, 0])]) (y := (sub (bodyOf Try.f19) [1, 1, 1, 0, 1])) (Y := (fun e w => ref03_New_L2 R (e 0) (e 2) (e 4) (e 5) w)) (ref03_New_L2_eq R) (fun e w => by kernel_rfl)

def ref03_New_s4 (R : Value → World → Prop) (x0 x2 : Value) (w : World) : Prop :=
  mkG 9 1 16 (zc Try.prog 9) x0 x0 w fun t14 w =>
  ref03_New_s3 R x0 x2 t14 w

theorem ref03_New_s4_eq (R : Value → World → Prop) : ∀ e w, lift Try.prog 27 (sub (bodyOf Try.f19) [1, 1]) (finK Try.prog Try.f19.results.toList R) e w = ref03_New_s4 R (e 0) (e 2) w :=
  segs_eq (l := [(sub (bodyOf Try.f19) [1, 1, 0])]) (y := (sub (bodyOf Try.f19) [1, 1, 1])) (Y := (fun e w => ref03_New_s3 R (e 0) (e 2) (e 4) w)) (seq_seg (x := (sub (bodyOf Try.f19) [1, 1, 1, 0])) (y := (sub (bodyOf Try.f19) [1, 1, 1, 1])) (ref03_New_s0_eq R) (ref03_New_s3_eq R)) (fun e w => by kernel_rfl)

def ref03_New_s5 (R : Value → World → Prop) (x0 : Value) (w : World) : Prop :=
  newG (zc Try.prog 39) 39 w fun t2 w =>
  qG Try.prog (bq .lss 3 (.tmp 6) (.const (.int .i64 1)) x0 (.int .i64 1)) w fun t7 =>
  bV t7
  (bld [(0, 1), (1, 1), (2, 1), (3, 1)] (zc Try.prog 39) #[] fun t12 =>
  stn 4 t2 t12 w fun w =>
  qG Try.prog (do loadVar 39 (← asAddr t2)) w fun r2 =>
  R (.tuple #[r2, (.int .i64 1)]) w)
  (qG Try.prog (bq .gtr 3 (.tmp 9) (.const (.int .i64 4096)) x0 (.int .i64 4096)) w fun t10 =>
  bV t10
  (bld [(0, 1), (1, 1), (2, 1), (3, 1)] (zc Try.prog 39) #[] fun t12_1 =>
  stn 4 t2 t12_1 w fun w =>
  qG Try.prog (do loadVar 39 (← asAddr t2)) w fun r2_1 =>
  R (.tuple #[r2_1, (.int .i64 1)]) w)
  (ref03_New_s4 R x0 t2 w))

theorem ref03_New_s5_eq (R : Value → World → Prop) : ∀ e w, lift Try.prog 27 (bodyOf Try.f19) (finK Try.prog Try.f19.results.toList R) e w = ref03_New_s5 R (e 0) w :=
  segs_eq (l := [(sub (bodyOf Try.f19) [0]), (sub (bodyOf Try.f19) [1, 0])]) (y := (sub (bodyOf Try.f19) [1, 1])) (Y := (fun e w => ref03_New_s4 R (e 0) (e 2) w)) (ref03_New_s4_eq R) (fun e w => by kernel_rfl)

def ref03_New (R : Value → World → Prop) (x0 : Value) (w : World) : Prop := ref03_New_s5 R x0 w
theorem ref03_New_call {R : Value → World → Prop} {x0 : Value} {w : World} (h : ref03_New R x0 w) : callG Try.prog 19 #[x0] w R :=
  calls_lift_eq Try.mixed Try.func19 (args := [x0]) rfl rfl rfl rfl ((ref03_New_s5_eq R) (envOf [x0]) w) (by kernel_rfl) h
/-! quayside/quaysideref03.Write -/
def ref03_Write_s0 (R : Value → World → Prop) (x1 x2 x3 x6 : Value) (w : World) : Prop :=
  ldn 4 x3 w fun t26 =>
  callG Try.prog 47 #[t26] w fun t27 w =>
  qG Try.prog (Instr.extract t27 0) w fun t28 =>
  qG Try.prog (Instr.extract t27 1) w fun t29 =>
  stn 4 x3 t28 w fun w =>
  qG Try.prog (Op.unary .not t29) w fun t31 =>
  bV t31
  (ldn 4 x3 w fun t32 =>
  stn 4 x6 t32 w fun w =>
  qG Try.prog (do loadVar 39 (← asAddr x6)) w fun r6 =>
  R (.tuple #[r6, (.int .i64 30)]) w)
  (fa 1 x3 fun t34 =>
  ld1 t34 w fun t35 =>
  app 97 2 24 (zc Try.prog 97) (.slice none 0 0) t35 w fun t36 w =>
  bld [(0, 1), (1, 1)] (zc Try.prog 97) #[(0, x1), (1, x2)] fun t40 =>
  bsl 97 2 1 (zc Try.prog 97) #[(0, t40)] w fun t41 w =>
  app 97 2 24 (zc Try.prog 97) t36 t41 w fun t42 w =>
  fa 1 x3 fun t43 =>
  st1 t43 t42 w fun w =>
  ldn 4 x3 w fun t44 =>
  stn 4 x6 t44 w fun w =>
  qG Try.prog (do loadVar 39 (← asAddr x6)) w fun r6_1 =>
  R (.tuple #[r6_1, (.int .i64 0)]) w)

theorem ref03_Write_s0_eq (R : Value → World → Prop) : ∀ e w, lift Try.prog 45 (sub (bodyOf Try.f20) [1, 1]) (finK Try.prog Try.f20.results.toList R) e w = ref03_Write_s0 R (e 1) (e 2) (e 3) (e 6) w := fun e w => by kernel_rfl

def ref03_Write_s1 (R : Value → World → Prop) (x0 x1 x2 : Value) (w : World) : Prop :=
  newG (Value.cells x0) 39 w fun t3 w =>
  newG (zc Try.prog 39) 39 w fun t6 w =>
  qG Try.prog (bq .lss 3 (.tmp 10) (.const (.int .i64 0)) x1 (.int .i64 0)) w fun t11 =>
  bV t11
  (ldn 4 t3 w fun t24 =>
  stn 4 t6 t24 w fun w =>
  qG Try.prog (do loadVar 39 (← asAddr t6)) w fun r6 =>
  R (.tuple #[r6, (.int .i64 1)]) w)
  (fa 0 t3 fun t14 =>
  ld1 t14 w fun t15 =>
  lenL t15 fun t16 =>
  qG Try.prog (bq .geq 3 (.tmp 13) (.tmp 16) x1 t16) w fun t17 =>
  bV t17
  (ldn 4 t3 w fun t24_1 =>
  stn 4 t6 t24_1 w fun w =>
  qG Try.prog (do loadVar 39 (← asAddr t6)) w fun r6_1 =>
  R (.tuple #[r6_1, (.int .i64 1)]) w)
  (lenS x2 fun t21 =>
  qG Try.prog (bq .neq 3 (.tmp 21) (.const (.int .i64 32)) t21 (.int .i64 32)) w fun t22 =>
  bV t22
  (ldn 4 t3 w fun t24_2 =>
  stn 4 t6 t24_2 w fun w =>
  qG Try.prog (do loadVar 39 (← asAddr t6)) w fun r6_2 =>
  R (.tuple #[r6_2, (.int .i64 1)]) w)
  (ref03_Write_s0 R x1 x2 t3 t6 w)))

theorem ref03_Write_s1_eq (R : Value → World → Prop) : ∀ e w, lift Try.prog 45 (bodyOf Try.f20) (finK Try.prog Try.f20.results.toList R) e w = ref03_Write_s1 R (e 0) (e 1) (e 2) w :=
  segs_eq (l := [(sub (bodyOf Try.f20) [0]), (sub (bodyOf Try.f20) [1, 0])]) (y := (sub (bodyOf Try.f20) [1, 1])) (Y := (fun e w => ref03_Write_s0 R (e 1) (e 2) (e 3) (e 6) w)) (ref03_Write_s0_eq R) (fun e w => by kernel_rfl)

def ref03_Write (R : Value → World → Prop) (x0 x1 x2 : Value) (w : World) : Prop := ref03_Write_s1 R x0 x1 x2 w
theorem ref03_Write_call {R : Value → World → Prop} {x0 x1 x2 : Value} {w : World} (h : ref03_Write R x0 x1 x2 w) : callG Try.prog 20 #[x0, x1, x2] w R :=
  calls_lift_eq Try.mixed Try.func20 (args := [x0, x1, x2]) rfl rfl rfl rfl ((ref03_Write_s1_eq R) (envOf [x0, x1, x2]) w) (by kernel_rfl) h
/-! quayside/quaysideref03.Read -/
def ref03_Read_s0 (R : Value → World → Prop) (x6 : Value) (w : World) : Prop :=
  R (.tuple #[x6, (.int .i64 0)]) w

theorem ref03_Read_s0_eq (R : Value → World → Prop) : ∀ e w, lift Try.prog 46 (sub (bodyOf Try.f21) [1, 1, 1, 1, 1]) (finK Try.prog Try.f21.results.toList R) e w = ref03_Read_s0 R (e 6) w := fun e w => by kernel_rfl

def ref03_Read_b1 (R : Value → World → Prop) (N1 : List Value → World → Prop) (x1 x2 x6 x7 : Value) (w : World) : Prop :=
  fa 1 x2 fun t25 =>
  ld1 t25 w fun t26 =>
  lenL t26 fun t27 =>
  qG Try.prog (bq .lss 3 (.tmp 24) (.tmp 27) x7 t27) w fun t28 =>
  bV t28
  (fa 1 x2 fun t31 =>
  ld1 t31 w fun t32 =>
  ia 2 t32 x7 fun t34 =>
  fa 0 t34 fun t35 =>
  ld1 t35 w fun t36 =>
  qG Try.prog (bq .eql 3 (.tmp 36) (.tmp 37) t36 x1) w fun t38 =>
  bV t38
  (fa 1 x2 fun t39 =>
  ld1 t39 w fun t40 =>
  ia 2 t40 x7 fun t42 =>
  fa 1 t42 fun t43 =>
  ld1 t43 w fun t44 =>
  qG Try.prog (bq .add 3 (.tmp 29) (.const (.int .i64 1)) x7 (.int .i64 1)) w fun t30 =>
  N1 [x1, x2, t44, t30] w)
  (qG Try.prog (bq .add 3 (.tmp 29) (.const (.int .i64 1)) x7 (.int .i64 1)) w fun t30_1 =>
  N1 [x1, x2, x6, t30_1] w))
  (ref03_Read_s0 R x6 w)

theorem ref03_Read_b1_eq (R : Value → World → Prop) (N1 : List Value → World → Prop) : ∀ e w, lift Try.prog 46 (sub (bodyOf Try.f21) [1, 1, 1, 1, 0, 1, 0, 0]) (seqK (fun e w => N1 [e 1, e 2, e 6, e 7] w) (blockK 0 (seqK (fun e w => ref03_Read_s0 R (e 6) w) (finK Try.prog Try.f21.results.toList R)))) e w = ref03_Read_b1 R N1 (e 1) (e 2) (e 6) (e 7) w := fun e w => by kernel_rfl

def ref03_Read_L2F (R : Value → World → Prop) (N1 : List Value → World → Prop) (xs : List Value) (w : World) : Prop :=
  match xs with
  | [x1, x2, x6, x7] => ref03_Read_b1 R N1 x1 x2 x6 x7 w
  | _ => False

def ref03_Read_L2 (R : Value → World → Prop) (x1 x2 x6 x7 : Value) (w : World) : Prop :=
  ∃ m, loopV (ref03_Read_L2F R) m [x1, x2, x6, x7] w

theorem ref03_Read_L2_eq (R : Value → World → Prop) : ∀ e w, lift Try.prog 46 (sub (bodyOf Try.f21) [1, 1, 1, 1, 0, 1, 0]) (blockK 0 (seqK (fun e w => ref03_Read_s0 R (e 6) w) (finK Try.prog Try.f21.results.toList R))) e w = ref03_Read_L2 R (e 1) (e 2) (e 6) (e 7) w := loop_seg (F := ref03_Read_L2F R) (sel := fun e => [e 1, e 2, e 6, e 7]) fun N1 => (ref03_Read_b1_eq R N1)

def ref03_Read_s3 (R : Value → World → Prop) (x1 x2 x6 : Value) (w : World) : Prop :=
  ref03_Read_L2 R x1 x2 x6 (.int .i64 0) w

theorem ref03_Read_s3_eq (R : Value → World → Prop) : ∀ e w, lift Try.prog 46 (sub (bodyOf Try.f21) [1, 1, 1, 1, 0]) (seqK (fun e w => ref03_Read_s0 R (e 6) w) (finK Try.prog Try.f21.results.toList R)) e w = ref03_Read_s3 R (e 1) (e 2) (e 6) w :=
  segs_eq (l := [(sub (bodyOf Try.f21) [1, 1, 1, 1, 0, 0])]) (y := (sub (bodyOf Try.f21) [1, 1, 1, 1, 0, 1])) (Y := (fun e w => ref03_Read_L2 R (e 1) (e 2) (e 6) (e 7) w)) (ref03_Read_L2_eq R) (fun e w => by kernel_rfl)

def ref03_Read_s4 (R : Value → World → Prop) (x1 x2 : Value) (w : World) : Prop :=
  fa 3 x2 fun t17 =>
  ld1 t17 w fun t18 =>
  bV t18
  (R (.tuple #[(.string ⟨#[]⟩), (.int .i64 30)]) w)
  (fa 0 x2 fun t19 =>
  ld1 t19 w fun t20 =>
  ia 1 t20 x1 fun t22 =>
  ld1 t22 w fun t23 =>
  ref03_Read_s3 R x1 x2 t23 w)

theorem ref03_Read_s4_eq (R : Value → World → Prop) : ∀ e w, lift Try.prog 46 (sub (bodyOf Try.f21) [1, 1]) (finK Try.prog Try.f21.results.toList R) e w = ref03_Read_s4 R (e 1) (e 2) w :=
  segs_eq (l := [(sub (bodyOf Try.f21) [1, 1, 0]), (sub (bodyOf Try.f21) [1, 1, 1, 0])]) (y := (sub (bodyOf Try.f21) [1, 1, 1, 1])) (Y := (fun e w => ref03_Read_s3 R (e 1) (e 2) (e 6) w)) (seq_seg (x := (sub (bodyOf Try.f21) [1, 1, 1, 1, 0])) (y := (sub (bodyOf Try.f21) [1, 1, 1, 1, 1])) (ref03_Read_s0_eq R) (ref03_Read_s3_eq R)) (fun e w => by kernel_rfl)

def ref03_Read_s5 (R : Value → World → Prop) (x0 x1 : Value) (w : World) : Prop :=
  newG (Value.cells x0) 39 w fun t2 w =>
  qG Try.prog (bq .lss 3 (.tmp 8) (.const (.int .i64 0)) x1 (.int .i64 0)) w fun t9 =>
  bV t9
  (R (.tuple #[(.string ⟨#[]⟩), (.int .i64 1)]) w)
  (fa 0 t2 fun t12 =>
  ld1 t12 w fun t13 =>
  lenL t13 fun t14 =>
  qG Try.prog (bq .geq 3 (.tmp 11) (.tmp 14) x1 t14) w fun t15 =>
  bV t15
  (R (.tuple #[(.string ⟨#[]⟩), (.int .i64 1)]) w)
  (ref03_Read_s4 R x1 t2 w))

theorem ref03_Read_s5_eq (R : Value → World → Prop) : ∀ e w, lift Try.prog 46 (bodyOf Try.f21) (finK Try.prog Try.f21.results.toList R) e w = ref03_Read_s5 R (e 0) (e 1) w :=
  segs_eq (l := [(sub (bodyOf Try.f21) [0]), (sub (bodyOf Try.f21) [1, 0])]) (y := (sub (bodyOf Try.f21) [1, 1])) (Y := (fun e w => ref03_Read_s4 R (e 1) (e 2) w)) (ref03_Read_s4_eq R) (fun e w => by kernel_rfl)

def ref03_Read (R : Value → World → Prop) (x0 x1 : Value) (w : World) : Prop := ref03_Read_s5 R x0 x1 w
theorem ref03_Read_call {R : Value → World → Prop} {x0 x1 : Value} {w : World} (h : ref03_Read R x0 x1 w) : callG Try.prog 21 #[x0, x1] w R :=
  calls_lift_eq Try.mixed Try.func21 (args := [x0, x1]) rfl rfl rfl rfl ((ref03_Read_s5_eq R) (envOf [x0, x1]) w) (by kernel_rfl) h
/-! quayside/quaysideref03.Flush -/
def ref03_Flush_s0 (R : Value → World → Prop) (x1 x2 : Value) (w : World) : Prop :=
  fa 1 x1 fun t37 =>
  st1 t37 (.slice none 0 0) w fun w =>
  ldn 4 x1 w fun t38 =>
  stn 4 x2 t38 w fun w =>
  qG Try.prog (do loadVar 39 (← asAddr x2)) w fun r2 =>
  R (.tuple #[r2, (.int .i64 0)]) w

theorem ref03_Flush_s0_eq (R : Value → World → Prop) : ∀ e w, lift Try.prog 39 (sub (bodyOf Try.f22) [1, 1, 1, 1]) (finK Try.prog Try.f22.results.toList R) e w = ref03_Flush_s0 R (e 1) (e 2) w := fun e w => by kernel_rfl

def ref03_Flush_b1 (R : Value → World → Prop) (N1 : List Value → World → Prop) (x1 x2 x5 : Value) (w : World) : Prop :=
  fa 1 x1 fun t15 =>
  ld1 t15 w fun t16 =>
  lenL t16 fun t17 =>
  qG Try.prog (bq .lss 3 (.tmp 14) (.tmp 17) x5 t17) w fun t18 =>
  bV t18
  (fa 0 x1 fun t21 =>
  ld1 t21 (World.drew w) fun t22 =>
  fa 1 x1 fun t23 =>
  ld1 t23 (World.drew w) fun t24 =>
  ia 2 t24 x5 fun t26 =>
  fa 0 t26 fun t27 =>
  ld1 t27 (World.drew w) fun t28 =>
  fa 1 x1 fun t29 =>
  ld1 t29 (World.drew w) fun t30 =>
  ia 2 t30 x5 fun t32 =>
  fa 1 t32 fun t33 =>
  ld1 t33 (World.drew w) fun t34 =>
  callG Try.prog 48 #[t22, t28, t34] (World.drew w) fun t35 w =>
  fa 0 x1 fun t36 =>
  st1 t36 t35 w fun w =>
  qG Try.prog (bq .add 3 (.tmp 19) (.const (.int .i64 1)) x5 (.int .i64 1)) w fun t20 =>
  N1 [x1, x2, t20] w)
  (ref03_Flush_s0 R x1 x2 w)

theorem ref03_Flush_b1_eq (R : Value → World → Prop) (N1 : List Value → World → Prop) : ∀ e w, lift Try.prog 39 (sub (bodyOf Try.f22) [1, 1, 1, 0, 1, 0, 0]) (seqK (fun e w => N1 [e 1, e 2, e 5] w) (blockK 0 (seqK (fun e w => ref03_Flush_s0 R (e 1) (e 2) w) (finK Try.prog Try.f22.results.toList R)))) e w = ref03_Flush_b1 R N1 (e 1) (e 2) (e 5) w := fun e w => by kernel_rfl

def ref03_Flush_L2F (R : Value → World → Prop) (N1 : List Value → World → Prop) (xs : List Value) (w : World) : Prop :=
  match xs with
  | [x1, x2, x5] => ref03_Flush_b1 R N1 x1 x2 x5 w
  | _ => False

def ref03_Flush_L2 (R : Value → World → Prop) (x1 x2 x5 : Value) (w : World) : Prop :=
  ∃ m, loopV (ref03_Flush_L2F R) m [x1, x2, x5] w

theorem ref03_Flush_L2_eq (R : Value → World → Prop) : ∀ e w, lift Try.prog 39 (sub (bodyOf Try.f22) [1, 1, 1, 0, 1, 0]) (blockK 0 (seqK (fun e w => ref03_Flush_s0 R (e 1) (e 2) w) (finK Try.prog Try.f22.results.toList R))) e w = ref03_Flush_L2 R (e 1) (e 2) (e 5) w := loop_seg (F := ref03_Flush_L2F R) (sel := fun e => [e 1, e 2, e 5]) fun N1 => (ref03_Flush_b1_eq R N1)

def ref03_Flush_s3 (R : Value → World → Prop) (x1 x2 : Value) (w : World) : Prop :=
  ref03_Flush_L2 R x1 x2 (.int .i64 0) w

theorem ref03_Flush_s3_eq (R : Value → World → Prop) : ∀ e w, lift Try.prog 39 (sub (bodyOf Try.f22) [1, 1, 1, 0]) (seqK (fun e w => ref03_Flush_s0 R (e 1) (e 2) w) (finK Try.prog Try.f22.results.toList R)) e w = ref03_Flush_s3 R (e 1) (e 2) w :=
  segs_eq (l := [(sub (bodyOf Try.f22) [1, 1, 1, 0, 0])]) (y := (sub (bodyOf Try.f22) [1, 1, 1, 0, 1])) (Y := (fun e w => ref03_Flush_L2 R (e 1) (e 2) (e 5) w)) (ref03_Flush_L2_eq R) (fun e w => by kernel_rfl)

def ref03_Flush_s4 (R : Value → World → Prop) (x0 : Value) (w : World) : Prop :=
  newG (Value.cells x0) 39 w fun t1 w =>
  newG (zc Try.prog 39) 39 w fun t2 w =>
  ldn 4 t1 w fun t7 =>
  callG Try.prog 47 #[t7] w fun t8 w =>
  qG Try.prog (Instr.extract t8 0) w fun t9 =>
  qG Try.prog (Instr.extract t8 1) w fun t10 =>
  stn 4 t1 t9 w fun w =>
  qG Try.prog (Op.unary .not t10) w fun t12 =>
  bV t12
  (ldn 4 t1 w fun t13 =>
  stn 4 t2 t13 w fun w =>
  qG Try.prog (do loadVar 39 (← asAddr t2)) w fun r2 =>
  R (.tuple #[r2, (.int .i64 30)]) w)
  (ref03_Flush_s3 R t1 t2 w)

theorem ref03_Flush_s4_eq (R : Value → World → Prop) : ∀ e w, lift Try.prog 39 (bodyOf Try.f22) (finK Try.prog Try.f22.results.toList R) e w = ref03_Flush_s4 R (e 0) w :=
  segs_eq (l := [(sub (bodyOf Try.f22) [0]), (sub (bodyOf Try.f22) [1, 0]), (sub (bodyOf Try.f22) [1, 1, 0])]) (y := (sub (bodyOf Try.f22) [1, 1, 1])) (Y := (fun e w => ref03_Flush_s3 R (e 1) (e 2) w)) (seq_seg (x := (sub (bodyOf Try.f22) [1, 1, 1, 0])) (y := (sub (bodyOf Try.f22) [1, 1, 1, 1])) (ref03_Flush_s0_eq R) (ref03_Flush_s3_eq R)) (fun e w => by kernel_rfl)

def ref03_Flush (R : Value → World → Prop) (x0 : Value) (w : World) : Prop := ref03_Flush_s4 R x0 w
theorem ref03_Flush_call {R : Value → World → Prop} {x0 : Value} {w : World} (h : ref03_Flush R x0 w) : callG Try.prog 22 #[x0] w R :=
  calls_lift_eq Try.mixed Try.func22 (args := [x0]) rfl rfl rfl rfl ((ref03_Flush_s4_eq R) (envOf [x0]) w) (by kernel_rfl) h
/-! quayside/quaysideref03.Fuse -/
def ref03_Fuse_s0 (R : Value → World → Prop) (x0 x1 : Value) (w : World) : Prop :=
  newG (Value.cells x0) 39 w fun t2 w =>
  newG (zc Try.prog 39) 39 w fun t4 w =>
  qG Try.prog (Builtin.max_ #[3, 3] 3 #[x1, (.int .i64 (-1))]) w fun t6 =>
  fa 2 t2 fun t7 =>
  st1 t7 t6 w fun w =>
  ldn 4 t2 w fun t8 =>
  stn 4 t4 t8 w fun w =>
  qG Try.prog (do loadVar 39 (← asAddr t4)) w fun r4 =>
  R r4 w

theorem ref03_Fuse_s0_eq (R : Value → World → Prop) : ∀ e w, lift Try.prog 9 (bodyOf Try.f24) (finK Try.prog Try.f24.results.toList R) e w = ref03_Fuse_s0 R (e 0) (e 1) w := fun e w => by kernel_rfl

def ref03_Fuse (R : Value → World → Prop) (x0 x1 : Value) (w : World) : Prop := ref03_Fuse_s0 R x0 x1 w
theorem ref03_Fuse_call {R : Value → World → Prop} {x0 x1 : Value} {w : World} (h : ref03_Fuse R x0 x1 w) : callG Try.prog 24 #[x0, x1] w R :=
  calls_lift_eq Try.mixed Try.func24 (args := [x0, x1]) rfl rfl rfl rfl ((ref03_Fuse_s0_eq R) (envOf [x0, x1]) w) (by kernel_rfl) h
/-! quayside/quaysideref03.Crash -/
def ref03_Crash_s0 (R : Value → World → Prop) (x2 x4 : Value) (w : World) : Prop :=
  fa 0 x2 fun t51 =>
  ld1 t51 w fun t52 =>
  bld [(0, 1), (1, 1), (2, 1), (3, 1)] (zc Try.prog 39) #[(0, t52), (2, (.int .i64 (-1)))] fun t53 =>
  stn 4 x4 t53 w fun w =>
  qG Try.prog (do loadVar 39 (← asAddr x4)) w fun r4 =>
  R r4 w

theorem ref03_Crash_s0_eq (R : Value → World → Prop) : ∀ e w, lift Try.prog 54 (sub (bodyOf Try.f25) [1, 1]) (finK Try.prog Try.f25.results.toList R) e w = ref03_Crash_s0 R (e 2) (e 4) w := fun e w => by kernel_rfl

def ref03_Crash_s1 (R : Value → World → Prop) (N1 : List Value → World → Prop) (x1 x2 x4 x5 : Value) (w : World) : Prop :=
  ia 1 x1 x5 fun t23 =>
  ld1 t23 w fun t24 =>
  qG Try.prog (Builtin.min_ #[3, 3] 3 #[t24, (.int .i64 32)]) w fun t25 =>
  qG Try.prog (Builtin.max_ #[3, 3] 3 #[(.int .i64 0), t25]) w fun t26 =>
  fa 1 x2 fun t27 =>
  ld1 t27 w fun t28 =>
  ia 2 t28 x5 fun t30 =>
  ldn 2 t30 w fun t31 =>
  newG (zc Try.prog 97) 97 w fun t7 w =>
  stn 2 t7 t31 w fun w =>
  fa 0 x2 fun t32 =>
  ld1 t32 (World.drew w) fun t33 =>
  fa 0 t7 fun t34 =>
  ld1 t34 (World.drew w) fun t35 =>
  fa 1 t7 fun t36 =>
  ld1 t36 (World.drew w) fun t37 =>
  slS t37 none (some t26) fun t39 =>
  fa 0 x2 fun t40 =>
  ld1 t40 (World.drew w) fun t41 =>
  fa 0 t7 fun t42 =>
  ld1 t42 (World.drew w) fun t43 =>
  ia 1 t41 t43 fun t44 =>
  ld1 t44 (World.drew w) fun t45 =>
  slS t45 (some t26) none fun t47 =>
  qG Try.prog (bq .add 9 (.tmp 39) (.tmp 47) t39 t47) (World.drew w) fun t48 =>
  callG Try.prog 48 #[t33, t35, t48] (World.drew w) fun t49 w =>
  fa 0 x2 fun t50 =>
  st1 t50 t49 w fun w =>
  qG Try.prog (bq .add 3 (.tmp 19) (.const (.int .i64 1)) x5 (.int .i64 1)) w fun t20 =>
  N1 [x1, x2, x4, t20] w

theorem ref03_Crash_s1_eq (R : Value → World → Prop) (N1 : List Value → World → Prop) : ∀ e w, lift Try.prog 54 (sub (bodyOf Try.f25) [1, 0, 1, 0, 0, 1]) (seqK (fun e w => N1 [e 1, e 2, e 4, e 5] w) (blockK 0 (seqK (fun e w => ref03_Crash_s0 R (e 2) (e 4) w) (finK Try.prog Try.f25.results.toList R)))) e w = ref03_Crash_s1 R N1 (e 1) (e 2) (e 4) (e 5) w := fun e w => by kernel_rfl

def ref03_Crash_s2 (R : Value → World → Prop) (N1 : List Value → World → Prop) (x1 x2 x4 x5 : Value) (w : World) : Prop :=
  fa 1 x2 fun t9 =>
  ld1 t9 w fun t10 =>
  lenL t10 fun t11 =>
  qG Try.prog (bq .lss 3 (.tmp 8) (.tmp 11) x5 t11) w fun t12 =>
  bV t12
  (lenL x1 fun t16 =>
  qG Try.prog (bq .lss 3 (.tmp 14) (.tmp 16) x5 t16) w fun t17 =>
  bV t17
  (ref03_Crash_s1 R N1 x1 x2 x4 x5 w)
  (ref03_Crash_s0 R x2 x4 w))
  (ref03_Crash_s0 R x2 x4 w)

theorem ref03_Crash_s2_eq (R : Value → World → Prop) (N1 : List Value → World → Prop) : ∀ e w, lift Try.prog 54 (sub (bodyOf Try.f25) [1, 0, 1, 0, 0]) (seqK (fun e w => N1 [e 1, e 2, e 4, e 5] w) (blockK 0 (seqK (fun e w => ref03_Crash_s0 R (e 2) (e 4) w) (finK Try.prog Try.f25.results.toList R)))) e w = ref03_Crash_s2 R N1 (e 1) (e 2) (e 4) (e 5) w :=
  segs_eq (l := [(sub (bodyOf Try.f25) [1, 0, 1, 0, 0, 0])]) (y := (sub (bodyOf Try.f25) [1, 0, 1, 0, 0, 1])) (Y := (fun e w => ref03_Crash_s1 R N1 (e 1) (e 2) (e 4) (e 5) w)) (ref03_Crash_s1_eq R N1) (fun e w => by kernel_rfl)

def ref03_Crash_L3F (R : Value → World → Prop) (N1 : List Value → World → Prop) (xs : List Value) (w : World) : Prop :=
  match xs with
  | [x1, x2, x4, x5] => ref03_Crash_s2 R N1 x1 x2 x4 x5 w
  | _ => False

def ref03_Crash_L3 (R : Value → World → Prop) (x1 x2 x4 x5 : Value) (w : World) : Prop :=
  ∃ m, loopV (ref03_Crash_L3F R) m [x1, x2, x4, x5] w

theorem ref03_Crash_L3_eq (R : Value → World → Prop) : ∀ e w, lift Try.prog 54 (sub (bodyOf Try.f25) [1, 0, 1, 0]) (blockK 0 (seqK (fun e w => ref03_Crash_s0 R (e 2) (e 4) w) (finK Try.prog Try.f25.results.toList R))) e w = ref03_Crash_L3 R (e 1) (e 2) (e 4) (e 5) w := loop_seg (F := ref03_Crash_L3F R) (sel := fun e => [e 1, e 2, e 4, e 5]) fun N1 => (ref03_Crash_s2_eq R N1)

def ref03_Crash_s4 (R : Value → World → Prop) (x1 x2 x4 : Value) (w : World) : Prop :=
  ref03_Crash_L3 R x1 x2 x4 (.int .i64 0) w

theorem ref03_Crash_s4_eq (R : Value → World → Prop) : ∀ e w, lift Try.prog 54 (sub (bodyOf Try.f25) [1, 0]) (seqK (fun e w => ref03_Crash_s0 R (e 2) (e 4) w) (finK Try.prog Try.f25.results.toList R)) e w = ref03_Crash_s4 R (e 1) (e 2) (e 4) w :=
  segs_eq (l := [(sub (bodyOf Try.f25) [1, 0, 0])]) (y := (sub (bodyOf Try.f25) [1, 0, 1])) (Y := (fun e w => ref03_Crash_L3 R (e 1) (e 2) (e 4) (e 5) w)) (ref03_Crash_L3_eq R) (fun e w => by kernel_rfl)

def ref03_Crash_s5 (R : Value → World → Prop) (x0 x1 : Value) (w : World) : Prop :=
  newG (Value.cells x0) 39 w fun t2 w =>
  newG (zc Try.prog 39) 39 w fun t4 w =>
  ref03_Crash_s4 R x1 t2 t4 w

theorem ref03_Crash_s5_eq (R : Value → World → Prop) : ∀ e w, lift Try.prog 54 (bodyOf Try.f25) (finK Try.prog Try.f25.results.toList R) e w = ref03_Crash_s5 R (e 0) (e 1) w :=
  segs_eq (l := [(sub (bodyOf Try.f25) [0])]) (y := (sub (bodyOf Try.f25) [1])) (Y := (fun e w => ref03_Crash_s4 R (e 1) (e 2) (e 4) w)) (seq_seg (x := (sub (bodyOf Try.f25) [1, 0])) (y := (sub (bodyOf Try.f25) [1, 1])) (ref03_Crash_s0_eq R) (ref03_Crash_s4_eq R)) (fun e w => by kernel_rfl)

def ref03_Crash (R : Value → World → Prop) (x0 x1 : Value) (w : World) : Prop := ref03_Crash_s5 R x0 x1 w
theorem ref03_Crash_call {R : Value → World → Prop} {x0 x1 : Value} {w : World} (h : ref03_Crash R x0 x1 w) : callG Try.prog 25 #[x0, x1] w R :=
  calls_lift_eq Try.mixed Try.func25 (args := [x0, x1]) rfl rfl rfl rfl ((ref03_Crash_s5_eq R) (envOf [x0, x1]) w) (by kernel_rfl) h
/-! quayside/quaysidelaw03.DiskPlays -/
def law03_DiskPlays_s0 (R : Value → World → Prop) (w : World) : Prop :=
  callG Try.prog 18 #[] w fun t165 w =>
  R t165 w

theorem law03_DiskPlays_s0_eq (R : Value → World → Prop) : ∀ e w, lift Try.prog 166 (sub (bodyOf Try.f4) [1, 1, 1, 1, 1, 1]) (finK Try.prog Try.f4.results.toList R) e w = law03_DiskPlays_s0 R w := fun e w => by kernel_rfl

def law03_DiskPlays_s1 (R : Value → World → Prop) (N1 : List Value → World → Prop) (x1 x5 x7 x9 : Value) (w : World) : Prop :=
  qG Try.prog (bq .add 3 (.tmp 53) (.const (.int .i64 1)) x9 (.int .i64 1)) w fun t54 =>
  N1 [x1, x5, x7, t54] w

theorem law03_DiskPlays_s1_eq (R : Value → World → Prop) (N1 : List Value → World → Prop) : ∀ e w, lift Try.prog 166 (sub (bodyOf Try.f4) [1, 1, 1, 1, 1, 0, 1, 0, 0, 1, 1]) (seqK (fun e w => N1 [e 1, e 5, e 7, e 9] w) (blockK 0 (seqK (fun e w => law03_DiskPlays_s0 R  w) (finK Try.prog Try.f4.results.toList R)))) e w = law03_DiskPlays_s1 R N1 (e 1) (e 5) (e 7) (e 9) w := fun e w => by kernel_rfl

def law03_DiskPlays_s2 (R : Value → World → Prop) (N1 : List Value → World → Prop) (x1 x5 x7 x9 x11 x12 : Value) (w : World) : Prop :=
  qG Try.prog (bq .neq 24 (.tmp 139) (.tmp 140) x11 x12) (World.drew w) fun t141 =>
  bV t141
  (R (.bool false) (World.drew w))
  (fa 3 x7 fun t145 =>
  ld1 t145 (World.drew w) fun t146 =>
  callG Try.prog 26 #[x5] (World.drew w) fun t144 w =>
  ld1 t145 w (fun u => u = t146) ∧
  qG Try.prog (bq .neq 4 (.tmp 144) (.tmp 146) t144 t146) w fun t147 =>
  bV t147
  (R (.bool false) w)
  (fa 1 x7 fun t152 =>
  ld1 t152 w fun t153 =>
  lenL t153 fun t154 =>
  callG Try.prog 27 #[x5] w fun t151 w =>
  ld1 t152 w (fun u => u = t153) ∧
  qG Try.prog (bq .neq 3 (.tmp 151) (.tmp 154) t151 t154) w fun t155 =>
  bV t155
  (R (.bool false) w)
  (fa 0 x7 fun t160 =>
  ld1 t160 w fun t161 =>
  lenL t161 fun t162 =>
  callG Try.prog 28 #[x5] w fun t159 w =>
  ld1 t160 w (fun u => u = t161) ∧
  qG Try.prog (bq .neq 3 (.tmp 159) (.tmp 162) t159 t162) w fun t163 =>
  bV t163
  (R (.bool false) w)
  (law03_DiskPlays_s1 R N1 x1 x5 x7 x9 w))))

theorem law03_DiskPlays_s2_eq (R : Value → World → Prop) (N1 : List Value → World → Prop) : ∀ e w, lift Try.prog 166 (sub (bodyOf Try.f4) [1, 1, 1, 1, 1, 0, 1, 0, 0, 1, 0, 0, 1, 1, 1, 1]) (blockK 1 (seqK (fun e w => law03_DiskPlays_s1 R N1 (e 1) (e 5) (e 7) (e 9) w) (seqK (fun e w => N1 [e 1, e 5, e 7, e 9] w) (blockK 0 (seqK (fun e w => law03_DiskPlays_s0 R  w) (finK Try.prog Try.f4.results.toList R)))))) e w = law03_DiskPlays_s2 R N1 (e 1) (e 5) (e 7) (e 9) (e 11) (e 12) w := fun e w => by kernel_rfl

def law03_DiskPlays_s3 (R : Value → World → Prop) (N1 : List Value → World → Prop) (x1 x5 x7 x9 x10 x13 : Value) (w : World) : Prop :=
  fa 1 x10 fun t84 =>
  ld1 t84 w fun t85 =>
  callG Try.prog 13 #[x5, t85, x13] w fun t87 w =>
  ldn 4 x7 w fun t89 =>
  fa 1 x10 fun t90 =>
  ld1 t90 w fun t91 =>
  callG Try.prog 20 #[t89, t91, x13] w fun t93 w =>
  qG Try.prog (Instr.extract t93 0) w fun t94 =>
  qG Try.prog (Instr.extract t93 1) w fun t95 =>
  stn 4 x7 t94 w fun w =>
  law03_DiskPlays_s2 R N1 x1 x5 x7 x9 t87 t95 w

theorem law03_DiskPlays_s3_eq (R : Value → World → Prop) (N1 : List Value → World → Prop) : ∀ e w, lift Try.prog 166 (sub (bodyOf Try.f4) [1, 1, 1, 1, 1, 0, 1, 0, 0, 1, 0, 0, 1, 1, 1, 0, 1, 0, 1, 0, 1, 1]) (blockK 2 (seqK (fun e w => law03_DiskPlays_s2 R N1 (e 1) (e 5) (e 7) (e 9) (e 11) (e 12) w) (blockK 1 (seqK (fun e w => law03_DiskPlays_s1 R N1 (e 1) (e 5) (e 7) (e 9) w) (seqK (fun e w => N1 [e 1, e 5, e 7, e 9] w) (blockK 0 (seqK (fun e w => law03_DiskPlays_s0 R  w) (finK Try.prog Try.f4.results.toList R)))))))) e w = law03_DiskPlays_s3 R N1 (e 1) (e 5) (e 7) (e 9) (e 10) (e 13) w := fun e w => by kernel_rfl

def law03_DiskPlays_s4 (R : Value → World → Prop) (N1 : List Value → World → Prop) (x1 x5 x7 x9 x10 : Value) (w : World) : Prop :=
  fa 3 x10 fun t76 =>
  ld1 t76 w fun t77 =>
  qG Try.prog (bq .eql 9 (.tmp 78) (.const (.string ⟨#[]⟩)) t77 (.string ⟨#[]⟩)) w fun t79 =>
  bV t79
  (fa 2 x10 fun t80 =>
  ld1 t80 w fun t81 =>
  callG Try.prog 14 #[t81] w fun t82 w =>
  law03_DiskPlays_s3 R N1 x1 x5 x7 x9 x10 t82 w)
  (law03_DiskPlays_s3 R N1 x1 x5 x7 x9 x10 t77 w)

theorem law03_DiskPlays_s4_eq (R : Value → World → Prop) (N1 : List Value → World → Prop) : ∀ e w, lift Try.prog 166 (sub (bodyOf Try.f4) [1, 1, 1, 1, 1, 0, 1, 0, 0, 1, 0, 0, 1, 1, 1, 0, 1, 0, 1, 0]) (blockK 2 (seqK (fun e w => law03_DiskPlays_s2 R N1 (e 1) (e 5) (e 7) (e 9) (e 11) (e 12) w) (blockK 1 (seqK (fun e w => law03_DiskPlays_s1 R N1 (e 1) (e 5) (e 7) (e 9) w) (seqK (fun e w => N1 [e 1, e 5, e 7, e 9] w) (blockK 0 (seqK (fun e w => law03_DiskPlays_s0 R  w) (finK Try.prog Try.f4.results.toList R)))))))) e w = law03_DiskPlays_s4 R N1 (e 1) (e 5) (e 7) (e 9) (e 10) w :=
  segs_eq (l := [(sub (bodyOf Try.f4) [1, 1, 1, 1, 1, 0, 1, 0, 0, 1, 0, 0, 1, 1, 1, 0, 1, 0, 1, 0, 0]), (sub (bodyOf Try.f4) [1, 1, 1, 1, 1, 0, 1, 0, 0, 1, 0, 0, 1, 1, 1, 0, 1, 0, 1, 0, 1, 0])]) (y := (sub (bodyOf Try.f4) [1, 1, 1, 1, 1, 0, 1, 0, 0, 1, 0, 0, 1, 1, 1, 0, 1, 0, 1, 0, 1, 1])) (Y := (fun e w => law03_DiskPlays_s3 R N1 (e 1) (e 5) (e 7) (e 9) (e 10) (e 13) w)) (law03_DiskPlays_s3_eq R N1) (fun e w => by kernel_rfl)

def law03_DiskPlays_s5 (R : Value → World → Prop) (N1 : List Value → World → Prop) (x1 x5 x7 x9 x10 x11 x12 x65 : Value) (w : World) : Prop :=
  qG Try.prog (bq .eql 3 (.tmp 65) (.const (.int .i64 2)) x65 (.int .i64 2)) w fun t97 =>
  bV t97
  (fa 1 x10 fun t100 =>
  ld1 t100 w fun t101 =>
  callG Try.prog 17 #[x5, t101] w fun t102 w =>
  qG Try.prog (Instr.extract t102 0) w fun t103 =>
  qG Try.prog (Instr.extract t102 1) w fun t104 =>
  ldn 4 x7 w fun t106 =>
  fa 1 x10 fun t107 =>
  ld1 t107 w fun t108 =>
  callG Try.prog 21 #[t106, t108] w fun t109 w =>
  qG Try.prog (Instr.extract t109 0) w fun t110 =>
  qG Try.prog (Instr.extract t109 1) w fun t111 =>
  qG Try.prog (bq .neq 9 (.tmp 112) (.tmp 113) t103 t110) w fun t114 =>
  bV t114
  (R (.bool false) w)
  (qG Try.prog (bq .neq 24 (.tmp 116) (.tmp 117) t104 t111) w fun t118 =>
  bV t118
  (R (.bool false) w)
  (law03_DiskPlays_s2 R N1 x1 x5 x7 x9 x11 x12 w)))
  (qG Try.prog (bq .eql 3 (.tmp 65) (.const (.int .i64 3)) x65 (.int .i64 3)) w fun t121 =>
  bV t121
  (callG Try.prog 15 #[x5] w fun t123 w =>
  ldn 4 x7 w fun t125 =>
  callG Try.prog 22 #[t125] w fun t126 w =>
  qG Try.prog (Instr.extract t126 0) w fun t127 =>
  qG Try.prog (Instr.extract t126 1) w fun t128 =>
  stn 4 x7 t127 w fun w =>
  law03_DiskPlays_s2 R N1 x1 x5 x7 x9 t123 t128 w)
  (qG Try.prog (bq .eql 3 (.tmp 65) (.const (.int .i64 4)) x65 (.int .i64 4)) w fun t130 =>
  bV t130
  (fa 1 x10 fun t132 =>
  ld1 t132 w fun t133 =>
  callG Try.prog 23 #[x5, t133] w fun t134 w =>
  ldn 4 x7 w fun t135 =>
  fa 1 x10 fun t136 =>
  ld1 t136 w fun t137 =>
  callG Try.prog 24 #[t135, t137] w fun t138 w =>
  stn 4 x7 t138 w fun w =>
  law03_DiskPlays_s2 R N1 x1 x5 x7 x9 t134 x12 w)
  (fa 4 x10 fun t67 =>
  ld1 t67 w fun t68 =>
  callG Try.prog 16 #[x5, t68] w fun t69 w =>
  ldn 4 x7 w fun t70 =>
  fa 4 x10 fun t71 =>
  ld1 t71 w fun t72 =>
  callG Try.prog 25 #[t70, t72] w fun t73 w =>
  stn 4 x7 t73 w fun w =>
  law03_DiskPlays_s2 R N1 x1 x5 x7 x9 t69 x12 w)))

theorem law03_DiskPlays_s5_eq (R : Value → World → Prop) (N1 : List Value → World → Prop) : ∀ e w, lift Try.prog 166 (sub (bodyOf Try.f4) [1, 1, 1, 1, 1, 0, 1, 0, 0, 1, 0, 0, 1, 1, 1, 0, 1, 0, 1, 1]) (blockK 2 (seqK (fun e w => law03_DiskPlays_s2 R N1 (e 1) (e 5) (e 7) (e 9) (e 11) (e 12) w) (blockK 1 (seqK (fun e w => law03_DiskPlays_s1 R N1 (e 1) (e 5) (e 7) (e 9) w) (seqK (fun e w => N1 [e 1, e 5, e 7, e 9] w) (blockK 0 (seqK (fun e w => law03_DiskPlays_s0 R  w) (finK Try.prog Try.f4.results.toList R)))))))) e w = law03_DiskPlays_s5 R N1 (e 1) (e 5) (e 7) (e 9) (e 10) (e 11) (e 12) (e 65) w := fun e w => by kernel_rfl

def law03_DiskPlays_s6 (R : Value → World → Prop) (N1 : List Value → World → Prop) (x1 x5 x7 x9 x10 x11 x12 x65 x74 : Value) (w : World) : Prop :=
  bV x74 (law03_DiskPlays_s4 R N1 x1 x5 x7 x9 x10 w) (law03_DiskPlays_s5 R N1 x1 x5 x7 x9 x10 x11 x12 x65 w)

theorem law03_DiskPlays_s6_eq (R : Value → World → Prop) (N1 : List Value → World → Prop) : ∀ e w, lift Try.prog 166 (sub (bodyOf Try.f4) [1, 1, 1, 1, 1, 0, 1, 0, 0, 1, 0, 0, 1, 1, 1, 0, 1, 0, 1]) (blockK 2 (seqK (fun e w => law03_DiskPlays_s2 R N1 (e 1) (e 5) (e 7) (e 9) (e 11) (e 12) w) (blockK 1 (seqK (fun e w => law03_DiskPlays_s1 R N1 (e 1) (e 5) (e 7) (e 9) w) (seqK (fun e w => N1 [e 1, e 5, e 7, e 9] w) (blockK 0 (seqK (fun e w => law03_DiskPlays_s0 R  w) (finK Try.prog Try.f4.results.toList R)))))))) e w = law03_DiskPlays_s6 R N1 (e 1) (e 5) (e 7) (e 9) (e 10) (e 11) (e 12) (e 65) (e 74) w := fun e w => (cond_seg (law03_DiskPlays_s4_eq R N1) (law03_DiskPlays_s5_eq R N1) e w).trans (by kernel_rfl)

def law03_DiskPlays_s7 (R : Value → World → Prop) (N1 : List Value → World → Prop) (x1 x5 x7 x9 x10 x11 x12 x65 : Value) (w : World) : Prop :=
  qG Try.prog (bq .eql 3 (.tmp 65) (.const (.int .i64 1)) x65 (.int .i64 1)) w fun t75 =>
  law03_DiskPlays_s6 R N1 x1 x5 x7 x9 x10 x11 x12 x65 t75 w

theorem law03_DiskPlays_s7_eq (R : Value → World → Prop) (N1 : List Value → World → Prop) : ∀ e w, lift Try.prog 166 (sub (bodyOf Try.f4) [1, 1, 1, 1, 1, 0, 1, 0, 0, 1, 0, 0, 1, 1, 1, 0, 1, 0]) (blockK 2 (seqK (fun e w => law03_DiskPlays_s2 R N1 (e 1) (e 5) (e 7) (e 9) (e 11) (e 12) w) (blockK 1 (seqK (fun e w => law03_DiskPlays_s1 R N1 (e 1) (e 5) (e 7) (e 9) w) (seqK (fun e w => N1 [e 1, e 5, e 7, e 9] w) (blockK 0 (seqK (fun e w => law03_DiskPlays_s0 R  w) (finK Try.prog Try.f4.results.toList R)))))))) e w = law03_DiskPlays_s7 R N1 (e 1) (e 5) (e 7) (e 9) (e 10) (e 11) (e 12) (e 65) w :=
  segs_eq (l := [(sub (bodyOf Try.f4) [1, 1, 1, 1, 1, 0, 1, 0, 0, 1, 0, 0, 1, 1, 1, 0, 1, 0, 0])]) (y := (sub (bodyOf Try.f4) [1, 1, 1, 1, 1, 0, 1, 0, 0, 1, 0, 0, 1, 1, 1, 0, 1, 0, 1])) (Y := (fun e w => law03_DiskPlays_s6 R N1 (e 1) (e 5) (e 7) (e 9) (e 10) (e 11) (e 12) (e 65) (e 74) w)) (law03_DiskPlays_s6_eq R N1) (fun e w => by kernel_rfl)

def law03_DiskPlays_s8 (R : Value → World → Prop) (N1 : List Value → World → Prop) (x1 x5 x7 x9 x10 x11 x12 : Value) (w : World) : Prop :=
  fa 0 x10 fun t64 =>
  ld1 t64 w fun t65 =>
  law03_DiskPlays_s7 R N1 x1 x5 x7 x9 x10 x11 x12 t65 w

theorem law03_DiskPlays_s8_eq (R : Value → World → Prop) (N1 : List Value → World → Prop) : ∀ e w, lift Try.prog 166 (sub (bodyOf Try.f4) [1, 1, 1, 1, 1, 0, 1, 0, 0, 1, 0, 0, 1, 1, 1, 0]) (seqK (fun e w => law03_DiskPlays_s2 R N1 (e 1) (e 5) (e 7) (e 9) (e 11) (e 12) w) (blockK 1 (seqK (fun e w => law03_DiskPlays_s1 R N1 (e 1) (e 5) (e 7) (e 9) w) (seqK (fun e w => N1 [e 1, e 5, e 7, e 9] w) (blockK 0 (seqK (fun e w => law03_DiskPlays_s0 R  w) (finK Try.prog Try.f4.results.toList R))))))) e w = law03_DiskPlays_s8 R N1 (e 1) (e 5) (e 7) (e 9) (e 10) (e 11) (e 12) w :=
  segs_eq (l := [(sub (bodyOf Try.f4) [1, 1, 1, 1, 1, 0, 1, 0, 0, 1, 0, 0, 1, 1, 1, 0, 0])]) (y := (sub (bodyOf Try.f4) [1, 1, 1, 1, 1, 0, 1, 0, 0, 1, 0, 0, 1, 1, 1, 0, 1])) (Y := (fun e w => law03_DiskPlays_s7 R N1 (e 1) (e 5) (e 7) (e 9) (e 10) (e 11) (e 12) (e 65) w)) (law03_DiskPlays_s7_eq R N1) (fun e w => by kernel_rfl)

def law03_DiskPlays_s9 (R : Value → World → Prop) (N1 : List Value → World → Prop) (x1 x5 x7 x9 : Value) (w : World) : Prop :=
  ia 5 x1 x9 fun t57 =>
  ldn 5 t57 w fun t58 =>
  newG (zc Try.prog 43) 43 w fun t10 w =>
  stn 5 t10 t58 w fun w =>
  fa 3 t10 fun t59 =>
  ld1 t59 w fun t60 =>
  lenS t60 fun t61 =>
  qG Try.prog (bq .gtr 3 (.tmp 61) (.const (.int .i64 100)) t61 (.int .i64 100)) w fun t62 =>
  bV t62
  (callG Try.prog 18 #[] w fun t63 w =>
  R t63 w)
  (law03_DiskPlays_s8 R N1 x1 x5 x7 x9 t10 (.int .i64 0) (.int .i64 0) w)

theorem law03_DiskPlays_s9_eq (R : Value → World → Prop) (N1 : List Value → World → Prop) : ∀ e w, lift Try.prog 166 (sub (bodyOf Try.f4) [1, 1, 1, 1, 1, 0, 1, 0, 0, 1, 0, 0]) (blockK 1 (seqK (fun e w => law03_DiskPlays_s1 R N1 (e 1) (e 5) (e 7) (e 9) w) (seqK (fun e w => N1 [e 1, e 5, e 7, e 9] w) (blockK 0 (seqK (fun e w => law03_DiskPlays_s0 R  w) (finK Try.prog Try.f4.results.toList R)))))) e w = law03_DiskPlays_s9 R N1 (e 1) (e 5) (e 7) (e 9) w :=
  segs_eq (l := [(sub (bodyOf Try.f4) [1, 1, 1, 1, 1, 0, 1, 0, 0, 1, 0, 0, 0]), (sub (bodyOf Try.f4) [1, 1, 1, 1, 1, 0, 1, 0, 0, 1, 0, 0, 1, 0]), (sub (bodyOf Try.f4) [1, 1, 1, 1, 1, 0, 1, 0, 0, 1, 0, 0, 1, 1, 0])]) (y := (sub (bodyOf Try.f4) [1, 1, 1, 1, 1, 0, 1, 0, 0, 1, 0, 0, 1, 1, 1])) (Y := (fun e w => law03_DiskPlays_s8 R N1 (e 1) (e 5) (e 7) (e 9) (e 10) (e 11) (e 12) w)) (seq_seg (x := (sub (bodyOf Try.f4) [1, 1, 1, 1, 1, 0, 1, 0, 0, 1, 0, 0, 1, 1, 1, 0])) (y := (sub (bodyOf Try.f4) [1, 1, 1, 1, 1, 0, 1, 0, 0, 1, 0, 0, 1, 1, 1, 1])) (law03_DiskPlays_s2_eq R N1) (law03_DiskPlays_s8_eq R N1)) (fun e w => by kernel_rfl)

def law03_DiskPlays_s10 (R : Value → World → Prop) (N1 : List Value → World → Prop) (x1 x5 x7 x9 : Value) (w : World) : Prop :=
  lenL x1 fun t47 =>
  qG Try.prog (bq .lss 3 (.tmp 45) (.tmp 47) x9 t47) w fun t48 =>
  bV t48
  (qG Try.prog (bq .lss 3 (.tmp 50) (.const (.int .i64 80)) x9 (.int .i64 80)) w fun t51 =>
  bV t51
  (law03_DiskPlays_s9 R N1 x1 x5 x7 x9 w)
  (law03_DiskPlays_s0 R  w))
  (law03_DiskPlays_s0 R  w)

theorem law03_DiskPlays_s10_eq (R : Value → World → Prop) (N1 : List Value → World → Prop) : ∀ e w, lift Try.prog 166 (sub (bodyOf Try.f4) [1, 1, 1, 1, 1, 0, 1, 0, 0]) (seqK (fun e w => N1 [e 1, e 5, e 7, e 9] w) (blockK 0 (seqK (fun e w => law03_DiskPlays_s0 R  w) (finK Try.prog Try.f4.results.toList R)))) e w = law03_DiskPlays_s10 R N1 (e 1) (e 5) (e 7) (e 9) w :=
  segs_eq (l := [(sub (bodyOf Try.f4) [1, 1, 1, 1, 1, 0, 1, 0, 0, 0])]) (y := (sub (bodyOf Try.f4) [1, 1, 1, 1, 1, 0, 1, 0, 0, 1])) (Y := (fun e w => law03_DiskPlays_s9 R N1 (e 1) (e 5) (e 7) (e 9) w)) (seq_seg (x := (sub (bodyOf Try.f4) [1, 1, 1, 1, 1, 0, 1, 0, 0, 1, 0])) (y := (sub (bodyOf Try.f4) [1, 1, 1, 1, 1, 0, 1, 0, 0, 1, 1])) (law03_DiskPlays_s1_eq R N1) (law03_DiskPlays_s9_eq R N1)) (fun e w => by kernel_rfl)

def law03_DiskPlays_L11F (R : Value → World → Prop) (N1 : List Value → World → Prop) (xs : List Value) (w : World) : Prop :=
  match xs with
  | [x1, x5, x7, x9] => law03_DiskPlays_s10 R N1 x1 x5 x7 x9 w
  | _ => False

def law03_DiskPlays_L11 (R : Value → World → Prop) (x1 x5 x7 x9 : Value) (w : World) : Prop :=
  ∃ m, loopV (law03_DiskPlays_L11F R) m [x1, x5, x7, x9] w

theorem law03_DiskPlays_L11_eq (R : Value → World → Prop) : ∀ e w, lift Try.prog 166 (sub (bodyOf Try.f4) [1, 1, 1, 1, 1, 0, 1, 0]) (blockK 0 (seqK (fun e w => law03_DiskPlays_s0 R  w) (finK Try.prog Try.f4.results.toList R))) e w = law03_DiskPlays_L11 R (e 1) (e 5) (e 7) (e 9) w := loop_seg (F := law03_DiskPlays_L11F R) (sel := fun e => [e 1, e 5, e 7, e 9]) fun N1 => (law03_DiskPlays_s10_eq R N1)

def law03_DiskPlays_s12 (R : Value → World → Prop) (x1 x5 x7 : Value) (w : World) : Prop :=
  law03_DiskPlays_L11 R x1 x5 x7 (.int .i64 0) w

theorem law03_DiskPlays_s12_eq (R : Value → World → Prop) : ∀ e w, lift Try.prog 166 (sub (bodyOf Try.f4) [1, 1, 1, 1, 1, 0]) (seqK (fun e w => law03_DiskPlays_s0 R  w) (finK Try.prog Try.f4.results.toList R)) e w = law03_DiskPlays_s12 R (e 1) (e 5) (e 7) w :=
  segs_eq (l := [(sub (bodyOf Try.f4) [1, 1, 1, 1, 1, 0, 0])]) (y := (sub (bodyOf Try.f4) [1, 1, 1, 1, 1, 0, 1])) (Y := (fun e w => law03_DiskPlays_L11 R (e 1) (e 5) (e 7) (e 9) w)) (law03_DiskPlays_L11_eq R) (fun e w => by kernel_rfl)

def law03_DiskPlays_s13 (R : Value → World → Prop) (x0 x1 x5 x7 : Value) (w : World) : Prop :=
  qG Try.prog (bq .eql 23 (.tmp 38) (.const (.pointer none)) x5 (.pointer none)) w fun t39 =>
  bV t39
  (callG Try.prog 18 #[] w fun t44 w =>
  R t44 w)
  (qG Try.prog (bq .gtr 3 (.tmp 41) (.const (.int .i64 64)) x0 (.int .i64 64)) w fun t42 =>
  bV t42
  (callG Try.prog 18 #[] w fun t44_1 w =>
  R t44_1 w)
  (law03_DiskPlays_s12 R x1 x5 x7 w))

theorem law03_DiskPlays_s13_eq (R : Value → World → Prop) : ∀ e w, lift Try.prog 166 (sub (bodyOf Try.f4) [1, 1, 1, 1]) (finK Try.prog Try.f4.results.toList R) e w = law03_DiskPlays_s13 R (e 0) (e 1) (e 5) (e 7) w :=
  segs_eq (l := [(sub (bodyOf Try.f4) [1, 1, 1, 1, 0])]) (y := (sub (bodyOf Try.f4) [1, 1, 1, 1, 1])) (Y := (fun e w => law03_DiskPlays_s12 R (e 1) (e 5) (e 7) w)) (seq_seg (x := (sub (bodyOf Try.f4) [1, 1, 1, 1, 1, 0])) (y := (sub (bodyOf Try.f4) [1, 1, 1, 1, 1, 1])) (law03_DiskPlays_s0_eq R) (law03_DiskPlays_s12_eq R)) (fun e w => by kernel_rfl)

def law03_DiskPlays_s14 (R : Value → World → Prop) (x0 x1 : Value) (w : World) : Prop :=
  callG Try.prog 12 #[x0] w fun t20 w =>
  qG Try.prog (Instr.extract t20 0) w fun t21 =>
  qG Try.prog (Instr.extract t20 1) w fun t22 =>
  callG Try.prog 19 #[x0] w fun t25 w =>
  qG Try.prog (Instr.extract t25 0) w fun t26 =>
  qG Try.prog (Instr.extract t25 1) w fun t27 =>
  newG (zc Try.prog 39) 39 w fun t7 w =>
  stn 4 t7 t26 w fun w =>
  qG Try.prog (bq .neq 24 (.tmp 28) (.tmp 29) t22 t27) w fun t30 =>
  bV t30
  (R (.bool false) w)
  (qG Try.prog (bq .neq 23 (.tmp 32) (.const (.pointer none)) t21 (.pointer none)) w fun t33 =>
  qG Try.prog (bq .eql 24 (.tmp 34) (.const (.int .i64 0)) t27 (.int .i64 0)) w fun t35 =>
  qG Try.prog (bq .neq 4 (.tmp 33) (.tmp 35) t33 t35) w fun t36 =>
  bV t36
  (R (.bool false) w)
  (law03_DiskPlays_s13 R x0 x1 t21 t7 w))

theorem law03_DiskPlays_s14_eq (R : Value → World → Prop) : ∀ e w, lift Try.prog 166 (bodyOf Try.f4) (finK Try.prog Try.f4.results.toList R) e w = law03_DiskPlays_s14 R (e 0) (e 1) w :=
  segs_eq (l := [(sub (bodyOf Try.f4) [0]), (sub (bodyOf Try.f4) [1, 0]), (sub (bodyOf Try.f4) [1, 1, 0]), (sub (bodyOf Try.f4) [1, 1, 1, 0])]) (y := (sub (bodyOf Try.f4) [1, 1, 1, 1])) (Y := (fun e w => law03_DiskPlays_s13 R (e 0) (e 1) (e 5) (e 7) w)) (law03_DiskPlays_s13_eq R) (fun e w => by kernel_rfl)

def law03_DiskPlays (R : Value → World → Prop) (x0 x1 : Value) (w : World) : Prop := law03_DiskPlays_s14 R x0 x1 w
theorem law03_DiskPlays_call {R : Value → World → Prop} {x0 x1 : Value} {w : World} (h : law03_DiskPlays R x0 x1 w) : callG Try.prog 4 #[x0, x1] w R :=
  calls_lift_eq Try.mixed Try.func4 (args := [x0, x1]) rfl rfl rfl rfl ((law03_DiskPlays_s14_eq R) (envOf [x0, x1]) w) (by kernel_rfl) h
end Go.Proofs
