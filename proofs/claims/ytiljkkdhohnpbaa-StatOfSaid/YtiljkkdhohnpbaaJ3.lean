/- Part of the proof (J3): an engine, rules or contracts of the functions; it states nothing of the claim by itself. -/
import Derived.Test.YtiljkkdhohnpbaaJ2
import Derived.Test.YtiljkkdhohnpbaaJ1
import Derived.OpenShut
import Derived.WideShapes
import Derived.ChangeSlices

set_option linter.unusedVariables false
set_option linter.unusedSimpArgs false
namespace Go.Proofs
open Go Go.Q
set_option maxRecDepth 100000
/-! quayside/quaysidelaw22.num -/
def law22_num_s0 (R : Value → World → Prop) (x0 : Value) (w : World) : Prop :=
  newG (zc Try.prog 35) 35 w fun t2 w =>
  bld [(0, 1), (1, 1), (2, 1)] (zc Try.prog 35) #[(0, (.int .i64 1)), (1, x0)] fun t4 =>
  stn 3 t2 t4 w fun w =>
  qG Try.prog (do loadVar 35 (← asAddr t2)) w fun r2 =>
  R r2 w
theorem law22_num_s0_eq (R : Value → World → Prop) : ∀ e w, lift Try.prog 5 (bodyOf Try.f20) (finK Try.prog Try.f20.results.toList R) e w = law22_num_s0 R (e 0) w := fun e w => by kernel_rfl
def law22_num (R : Value → World → Prop) (x0 : Value) (w : World) : Prop := law22_num_s0 R x0 w
theorem law22_num_call {R : Value → World → Prop} {x0 : Value} {w : World} (h : law22_num R x0 w) : callG Try.prog 20 #[x0] w R :=
  calls_lift_eq Try.mixed Try.func20 (args := [x0]) rfl rfl rfl rfl ((law22_num_s0_eq R) (envOf [x0]) w) (by kernel_rfl) h
/-! quayside/quaysidelaw22.light -/
def law22_light_s0 (R : Value → World → Prop) (x0 : Value) (w : World) : Prop :=
  lenL x0 fun t41 =>
  qG Try.prog (bq .leq 3 (.tmp 41) (.const (.int .i64 100)) t41 (.int .i64 100)) w fun t42 =>
  R t42 w
theorem law22_light_s0_eq (R : Value → World → Prop) : ∀ e w, lift Try.prog 43 (sub (bodyOf Try.f7) [1, 1]) (finK Try.prog Try.f7.results.toList R) e w = law22_light_s0 R (e 0) w := fun e w => by kernel_rfl
def law22_light_s1 (R : Value → World → Prop) (N1 : List Value → World → Prop) (x0 x3 : Value) (w : World) : Prop :=
  qG Try.prog (bq .add 3 (.tmp 13) (.const (.int .i64 1)) x3 (.int .i64 1)) w fun t14 =>
  N1 [x0, t14] w
theorem law22_light_s1_eq (R : Value → World → Prop) (N1 : List Value → World → Prop) : ∀ e w, lift Try.prog 43 (sub (bodyOf Try.f7) [1, 0, 1, 0, 0, 1, 1]) (seqK (fun e w => N1 [e 0, e 3] w) (blockK 0 (seqK (fun e w => law22_light_s0 R (e 0) w) (finK Try.prog Try.f7.results.toList R)))) e w = law22_light_s1 R N1 (e 0) (e 3) w := fun e w => by kernel_rfl
def law22_light_b2 (R : Value → World → Prop) (N1 : List Value → World → Prop) (N2 : List Value → World → Prop) (x0 x3 x4 : Value) (w : World) : Prop :=
  ia 1 x0 x3 fun t24 =>
  ld1 t24 w fun t25 =>
  lenL t25 fun t26 =>
  qG Try.prog (bq .lss 3 (.tmp 21) (.tmp 26) x4 t26) w fun t27 =>
  bV t27
  (ia 1 x0 x3 fun t32 =>
  ld1 t32 w fun t33 =>
  ia 3 t33 x4 fun t35 =>
  fa 2 t35 fun t36 =>
  ld1 t36 w fun t37 =>
  lenS t37 fun t38 =>
  qG Try.prog (bq .gtr 3 (.tmp 38) (.const (.int .i64 100)) t38 (.int .i64 100)) w fun t39 =>
  bV t39
  (R (.bool false) w)
  (qG Try.prog (bq .add 3 (.tmp 28) (.const (.int .i64 1)) x4 (.int .i64 1)) w fun t29 =>
  N2 [x0, x3, t29] w))
  (law22_light_s1 R N1 x0 x3 w)
theorem law22_light_b2_eq (R : Value → World → Prop) (N1 : List Value → World → Prop) (N2 : List Value → World → Prop) : ∀ e w, lift Try.prog 43 (sub (bodyOf Try.f7) [1, 0, 1, 0, 0, 1, 0, 0, 1, 1, 0, 0]) (seqK (fun e w => N2 [e 0, e 3, e 4] w) (blockK 2 (blockK 1 (seqK (fun e w => law22_light_s1 R N1 (e 0) (e 3) w) (seqK (fun e w => N1 [e 0, e 3] w) (blockK 0 (seqK (fun e w => law22_light_s0 R (e 0) w) (finK Try.prog Try.f7.results.toList R)))))))) e w = law22_light_b2 R N1 N2 (e 0) (e 3) (e 4) w := fun e w => by kernel_rfl
def law22_light_L3F (R : Value → World → Prop) (N1 : List Value → World → Prop) (N2 : List Value → World → Prop) (xs : List Value) (w : World) : Prop :=
  match xs with
  | [x0, x3, x4] => law22_light_b2 R N1 N2 x0 x3 x4 w
  | _ => False
def law22_light_L3 (R : Value → World → Prop) (N1 : List Value → World → Prop) (x0 x3 x4 : Value) (w : World) : Prop :=
  ∃ m, loopV (law22_light_L3F R N1) m [x0, x3, x4] w
theorem law22_light_L3_eq (R : Value → World → Prop) (N1 : List Value → World → Prop) : ∀ e w, lift Try.prog 43 (sub (bodyOf Try.f7) [1, 0, 1, 0, 0, 1, 0, 0, 1, 1, 0]) (blockK 2 (blockK 1 (seqK (fun e w => law22_light_s1 R N1 (e 0) (e 3) w) (seqK (fun e w => N1 [e 0, e 3] w) (blockK 0 (seqK (fun e w => law22_light_s0 R (e 0) w) (finK Try.prog Try.f7.results.toList R))))))) e w = law22_light_L3 R N1 (e 0) (e 3) (e 4) w := loop_seg (F := law22_light_L3F R N1) (sel := fun e => [e 0, e 3, e 4]) fun N2 => (law22_light_b2_eq R N1 N2)
def law22_light_s4 (R : Value → World → Prop) (N1 : List Value → World → Prop) (x0 x3 : Value) (w : World) : Prop :=
  ia 1 x0 x3 fun t17 =>
  ld1 t17 w fun t18 =>
  lenL t18 fun t19 =>
  qG Try.prog (bq .gtr 3 (.tmp 19) (.const (.int .i64 8)) t19 (.int .i64 8)) w fun t20 =>
  bV t20
  (R (.bool false) w)
  (law22_light_L3 R N1 x0 x3 (.int .i64 0) w)
theorem law22_light_s4_eq (R : Value → World → Prop) (N1 : List Value → World → Prop) : ∀ e w, lift Try.prog 43 (sub (bodyOf Try.f7) [1, 0, 1, 0, 0, 1, 0, 0]) (blockK 1 (seqK (fun e w => law22_light_s1 R N1 (e 0) (e 3) w) (seqK (fun e w => N1 [e 0, e 3] w) (blockK 0 (seqK (fun e w => law22_light_s0 R (e 0) w) (finK Try.prog Try.f7.results.toList R)))))) e w = law22_light_s4 R N1 (e 0) (e 3) w :=
  segs_eq (l := [(sub (bodyOf Try.f7) [1, 0, 1, 0, 0, 1, 0, 0, 0]), (sub (bodyOf Try.f7) [1, 0, 1, 0, 0, 1, 0, 0, 1, 0])]) (y := (sub (bodyOf Try.f7) [1, 0, 1, 0, 0, 1, 0, 0, 1, 1])) (Y := (fun e w => law22_light_L3 R N1 (e 0) (e 3) (e 4) w)) (law22_light_L3_eq R N1) (fun e w => by kernel_rfl)
def law22_light_s5 (R : Value → World → Prop) (N1 : List Value → World → Prop) (x0 x3 : Value) (w : World) : Prop :=
  lenL x0 fun t7 =>
  qG Try.prog (bq .lss 3 (.tmp 5) (.tmp 7) x3 t7) w fun t8 =>
  bV t8
  (qG Try.prog (bq .lss 3 (.tmp 10) (.const (.int .i64 100)) x3 (.int .i64 100)) w fun t11 =>
  bV t11
  (law22_light_s4 R N1 x0 x3 w)
  (law22_light_s0 R x0 w))
  (law22_light_s0 R x0 w)
theorem law22_light_s5_eq (R : Value → World → Prop) (N1 : List Value → World → Prop) : ∀ e w, lift Try.prog 43 (sub (bodyOf Try.f7) [1, 0, 1, 0, 0]) (seqK (fun e w => N1 [e 0, e 3] w) (blockK 0 (seqK (fun e w => law22_light_s0 R (e 0) w) (finK Try.prog Try.f7.results.toList R)))) e w = law22_light_s5 R N1 (e 0) (e 3) w :=
  segs_eq (l := [(sub (bodyOf Try.f7) [1, 0, 1, 0, 0, 0])]) (y := (sub (bodyOf Try.f7) [1, 0, 1, 0, 0, 1])) (Y := (fun e w => law22_light_s4 R N1 (e 0) (e 3) w)) (seq_seg (x := (sub (bodyOf Try.f7) [1, 0, 1, 0, 0, 1, 0])) (y := (sub (bodyOf Try.f7) [1, 0, 1, 0, 0, 1, 1])) (law22_light_s1_eq R N1) (law22_light_s4_eq R N1)) (fun e w => by kernel_rfl)
def law22_light_L6F (R : Value → World → Prop) (N1 : List Value → World → Prop) (xs : List Value) (w : World) : Prop :=
  match xs with
  | [x0, x3] => law22_light_s5 R N1 x0 x3 w
  | _ => False
def law22_light_L6 (R : Value → World → Prop) (x0 x3 : Value) (w : World) : Prop :=
  ∃ m, loopV (law22_light_L6F R) m [x0, x3] w
theorem law22_light_L6_eq (R : Value → World → Prop) : ∀ e w, lift Try.prog 43 (sub (bodyOf Try.f7) [1, 0, 1, 0]) (blockK 0 (seqK (fun e w => law22_light_s0 R (e 0) w) (finK Try.prog Try.f7.results.toList R))) e w = law22_light_L6 R (e 0) (e 3) w := loop_seg (F := law22_light_L6F R) (sel := fun e => [e 0, e 3]) fun N1 => (law22_light_s5_eq R N1)
def law22_light_s7 (R : Value → World → Prop) (x0 : Value) (w : World) : Prop :=
  law22_light_L6 R x0 (.int .i64 0) w
theorem law22_light_s7_eq (R : Value → World → Prop) : ∀ e w, lift Try.prog 43 (sub (bodyOf Try.f7) [1, 0]) (seqK (fun e w => law22_light_s0 R (e 0) w) (finK Try.prog Try.f7.results.toList R)) e w = law22_light_s7 R (e 0) w :=
  segs_eq (l := [(sub (bodyOf Try.f7) [1, 0, 0])]) (y := (sub (bodyOf Try.f7) [1, 0, 1])) (Y := (fun e w => law22_light_L6 R (e 0) (e 3) w)) (law22_light_L6_eq R) (fun e w => by kernel_rfl)
def law22_light_s8 (R : Value → World → Prop) (x0 : Value) (w : World) : Prop :=
  law22_light_s7 R x0 w
theorem law22_light_s8_eq (R : Value → World → Prop) : ∀ e w, lift Try.prog 43 (bodyOf Try.f7) (finK Try.prog Try.f7.results.toList R) e w = law22_light_s8 R (e 0) w :=
  segs_eq (l := [(sub (bodyOf Try.f7) [0])]) (y := (sub (bodyOf Try.f7) [1])) (Y := (fun e w => law22_light_s7 R (e 0) w)) (seq_seg (x := (sub (bodyOf Try.f7) [1, 0])) (y := (sub (bodyOf Try.f7) [1, 1])) (law22_light_s0_eq R) (law22_light_s7_eq R)) (fun e w => by kernel_rfl)
def law22_light (R : Value → World → Prop) (x0 : Value) (w : World) : Prop := law22_light_s8 R x0 w
theorem law22_light_call {R : Value → World → Prop} {x0 : Value} {w : World} (h : law22_light R x0 w) : callG Try.prog 7 #[x0] w R :=
  calls_lift_eq Try.mixed Try.func7 (args := [x0]) rfl rfl rfl rfl ((law22_light_s8_eq R) (envOf [x0]) w) (by kernel_rfl) h
/-! quayside/quaysidelaw22.same -/
def law22_same_s0 (R : Value → World → Prop) (w : World) : Prop :=
  R (.bool true) w
theorem law22_same_s0_eq (R : Value → World → Prop) : ∀ e w, lift Try.prog 45 (sub (bodyOf Try.f11) [1, 1, 1]) (finK Try.prog Try.f11.results.toList R) e w = law22_same_s0 R w := fun e w => by kernel_rfl
def law22_same_b1 (R : Value → World → Prop) (N1 : List Value → World → Prop) (x2 x3 x5 : Value) (w : World) : Prop :=
  fa 2 x2 fun t28 =>
  ld1 t28 w fun t29 =>
  lenL t29 fun t30 =>
  qG Try.prog (bq .lss 3 (.tmp 27) (.tmp 30) x5 t30) w fun t31 =>
  bV t31
  (fa 2 x2 fun t34 =>
  ld1 t34 (World.drew w) fun t35 =>
  ia 3 t35 x5 fun t37 =>
  ldn 3 t37 (World.drew w) fun t38 =>
  fa 2 x3 fun t39 =>
  ld1 t39 (World.drew w) fun t40 =>
  ia 3 t40 x5 fun t42 =>
  ldn 3 t42 (World.drew w) fun t43 =>
  qG Try.prog (bq .neq 35 (.tmp 38) (.tmp 43) t38 t43) (World.drew w) fun t44 =>
  bV t44
  (R (.bool false) (World.drew w))
  (qG Try.prog (bq .add 3 (.tmp 32) (.const (.int .i64 1)) x5 (.int .i64 1)) (World.drew w) fun t33 =>
  N1 [x2, x3, t33] (World.drew w)))
  (law22_same_s0 R  w)
theorem law22_same_b1_eq (R : Value → World → Prop) (N1 : List Value → World → Prop) : ∀ e w, lift Try.prog 45 (sub (bodyOf Try.f11) [1, 1, 0, 1, 0, 0]) (seqK (fun e w => N1 [e 2, e 3, e 5] w) (blockK 0 (seqK (fun e w => law22_same_s0 R  w) (finK Try.prog Try.f11.results.toList R)))) e w = law22_same_b1 R N1 (e 2) (e 3) (e 5) w := fun e w => by kernel_rfl
def law22_same_L2F (R : Value → World → Prop) (N1 : List Value → World → Prop) (xs : List Value) (w : World) : Prop :=
  match xs with
  | [x2, x3, x5] => law22_same_b1 R N1 x2 x3 x5 w
  | _ => False
def law22_same_L2 (R : Value → World → Prop) (x2 x3 x5 : Value) (w : World) : Prop :=
  ∃ m, loopV (law22_same_L2F R) m [x2, x3, x5] w
theorem law22_same_L2_eq (R : Value → World → Prop) : ∀ e w, lift Try.prog 45 (sub (bodyOf Try.f11) [1, 1, 0, 1, 0]) (blockK 0 (seqK (fun e w => law22_same_s0 R  w) (finK Try.prog Try.f11.results.toList R))) e w = law22_same_L2 R (e 2) (e 3) (e 5) w := loop_seg (F := law22_same_L2F R) (sel := fun e => [e 2, e 3, e 5]) fun N1 => (law22_same_b1_eq R N1)
def law22_same_s3 (R : Value → World → Prop) (x2 x3 : Value) (w : World) : Prop :=
  law22_same_L2 R x2 x3 (.int .i64 0) w
theorem law22_same_s3_eq (R : Value → World → Prop) : ∀ e w, lift Try.prog 45 (sub (bodyOf Try.f11) [1, 1, 0]) (seqK (fun e w => law22_same_s0 R  w) (finK Try.prog Try.f11.results.toList R)) e w = law22_same_s3 R (e 2) (e 3) w :=
  segs_eq (l := [(sub (bodyOf Try.f11) [1, 1, 0, 0])]) (y := (sub (bodyOf Try.f11) [1, 1, 0, 1])) (Y := (fun e w => law22_same_L2 R (e 2) (e 3) (e 5) w)) (law22_same_L2_eq R) (fun e w => by kernel_rfl)
def law22_same_s4 (R : Value → World → Prop) (x0 x1 : Value) (w : World) : Prop :=
  newG (Value.cells x0) 32 w fun t2 w =>
  newG (Value.cells x1) 32 w fun t3 w =>
  fa 0 t2 fun t6 =>
  ld1 t6 w fun t7 =>
  fa 0 t3 fun t8 =>
  ld1 t8 w fun t9 =>
  qG Try.prog (bq .neq 3 (.tmp 7) (.tmp 9) t7 t9) w fun t10 =>
  bV t10
  (R (.bool false) w)
  (fa 1 t2 fun t12 =>
  ld1 t12 w fun t13 =>
  fa 1 t3 fun t14 =>
  ld1 t14 w fun t15 =>
  qG Try.prog (bq .neq 3 (.tmp 13) (.tmp 15) t13 t15) w fun t16 =>
  bV t16
  (R (.bool false) w)
  (fa 2 t2 fun t19 =>
  ld1 t19 w fun t20 =>
  lenL t20 fun t21 =>
  fa 2 t3 fun t22 =>
  ld1 t22 w fun t23 =>
  lenL t23 fun t24 =>
  qG Try.prog (bq .neq 3 (.tmp 21) (.tmp 24) t21 t24) w fun t25 =>
  bV t25
  (R (.bool false) w)
  (law22_same_s3 R t2 t3 w)))
theorem law22_same_s4_eq (R : Value → World → Prop) : ∀ e w, lift Try.prog 45 (bodyOf Try.f11) (finK Try.prog Try.f11.results.toList R) e w = law22_same_s4 R (e 0) (e 1) w :=
  segs_eq (l := [(sub (bodyOf Try.f11) [0]), (sub (bodyOf Try.f11) [1, 0])]) (y := (sub (bodyOf Try.f11) [1, 1])) (Y := (fun e w => law22_same_s3 R (e 2) (e 3) w)) (seq_seg (x := (sub (bodyOf Try.f11) [1, 1, 0])) (y := (sub (bodyOf Try.f11) [1, 1, 1])) (law22_same_s0_eq R) (law22_same_s3_eq R)) (fun e w => by kernel_rfl)
def law22_same (R : Value → World → Prop) (x0 x1 : Value) (w : World) : Prop := law22_same_s4 R x0 x1 w
theorem law22_same_call {R : Value → World → Prop} {x0 x1 : Value} {w : World} (h : law22_same R x0 x1 w) : callG Try.prog 11 #[x0, x1] w R :=
  calls_lift_eq Try.mixed Try.func11 (args := [x0, x1]) rfl rfl rfl rfl ((law22_same_s4_eq R) (envOf [x0, x1]) w) (by kernel_rfl) h
/-! quayside/quaysidelaw22.awake -/
def law22_awake_s0 (R : Value → World → Prop) (w : World) : Prop :=
  callG Try.prog 20 #[(.int .i64 1)] w fun t3 w =>
  bsl 35 3 1 (zc Try.prog 35) #[(0, t3)] w fun t4 w =>
  callG Try.prog 20 #[(.int .i64 2)] w fun t5 w =>
  bsl 35 3 1 (zc Try.prog 35) #[(0, t5)] w fun t6 w =>
  callG Try.prog 20 #[(.int .i64 2)] w fun t7 w =>
  bsl 35 3 1 (zc Try.prog 35) #[(0, t7)] w fun t8 w =>
  bld [(0, 1), (1, 1), (2, 1)] (zc Try.prog 35) #[] fun t9 =>
  bsl 35 3 1 (zc Try.prog 35) #[(0, t9)] w fun t10 w =>
  bsl 44 1 4 (zc Try.prog 44) #[(0, t4), (1, t6), (2, t8), (3, t10)] w fun t11 w =>
  callG Try.prog 9 #[(.int .i64 1), t11] w fun t12 w =>
  newG (zc Try.prog 27) 27 w fun t1 w =>
  stn 2 t1 t12 w fun w =>
  callG Try.prog 20 #[(.int .i64 2)] w fun t13 w =>
  bld [(0, 1), (1, 1), (2, 3)] (zc Try.prog 37) #[(0, (.bool true)), (2, t13)] fun t14 =>
  newG (zc Try.prog 37) 37 w fun t2 w =>
  stn 5 t2 t14 w fun w =>
  fa 0 t1 fun t15 =>
  ld1 t15 (World.drew w) fun t16 =>
  qG Try.prog (bq .eql 3 (.tmp 16) (.const (.int .i64 4)) t16 (.int .i64 4)) (World.drew w) fun t17 =>
  bV t17
  (fa 1 t1 fun t19 =>
  ld1 t19 (World.drew w) fun t20 =>
  lenL t20 fun t21 =>
  qG Try.prog (bq .eql 3 (.tmp 21) (.const (.int .i64 1)) t21 (.int .i64 1)) (World.drew w) fun t22 =>
  bV t22
  (fa 1 t1 fun t25 =>
  ld1 t25 (World.drew w) fun t26 =>
  ia 3 t26 (.int .i64 0) fun t27 =>
  fa 0 t27 fun t28 =>
  ld1 t28 (World.drew w) fun t29 =>
  qG Try.prog (bq .eql 3 (.tmp 29) (.const (.int .i64 1)) t29 (.int .i64 1)) (World.drew w) fun t30 =>
  bV t30
  (fa 1 t1 fun t33 =>
  ld1 t33 (World.drew w) fun t34 =>
  ia 3 t34 (.int .i64 0) fun t35 =>
  fa 1 t35 fun t36 =>
  ld1 t36 (World.drew w) fun t37 =>
  qG Try.prog (bq .eql 3 (.tmp 37) (.const (.int .i64 2)) t37 (.int .i64 2)) (World.drew w) fun t38 =>
  bV t38
  (fa 1 t1 fun t41 =>
  ld1 t41 (World.drew w) fun t42 =>
  ia 3 t42 (.int .i64 0) fun t43 =>
  fa 2 t43 fun t44 =>
  ld1 t44 (World.drew w) fun t45 =>
  lenL t45 fun t46 =>
  qG Try.prog (bq .eql 3 (.tmp 46) (.const (.int .i64 3)) t46 (.int .i64 3)) (World.drew w) fun t47 =>
  bV t47
  (ldn 2 t1 (World.drew w) fun t50 =>
  callG Try.prog 20 #[(.int .i64 2)] (World.drew w) fun t51 w =>
  ldn 2 t1 w (fun u => u = t50) ∧
  callG Try.prog 12 #[t50, (.int .i64 0), t51] w fun t52 w =>
  qG Try.prog (bq .eql 3 (.tmp 52) (.const (.int .i64 1)) t52 (.int .i64 1)) w fun t53 =>
  bV t53
  (ldn 2 t1 w fun t56 =>
  ldn 5 t2 w fun t57 =>
  ldn 5 t2 w fun t58 =>
  callG Try.prog 13 #[t56, (.int .i64 0), t57, t58] w fun t59 w =>
  qG Try.prog (bq .eql 3 (.tmp 59) (.const (.int .i64 2)) t59 (.int .i64 2)) w fun t60 =>
  bV t60
  (ldn 2 t1 w fun t63 =>
  callG Try.prog 21 #[t63, (.slice none 0 0)] w fun t64 w =>
  qG Try.prog (bq .eql 3 (.tmp 64) (.const (.int .i64 4)) t64 (.int .i64 4)) w fun t65 =>
  bV t65
  (ldn 2 t1 w fun t68 =>
  ldn 2 t1 w fun t69 =>
  callG Try.prog 17 #[t68, (.int .i64 0), (.int .i64 4), t69, (.int .i64 0), (.int .i64 4)] w fun t70 w =>
  qG Try.prog (bq .eql 3 (.tmp 70) (.const (.int .i64 8)) t70 (.int .i64 8)) w fun t71 =>
  R t71 w)
  (R (.bool false) w))
  (R (.bool false) w))
  (R (.bool false) w))
  (R (.bool false) (World.drew w)))
  (R (.bool false) (World.drew w)))
  (R (.bool false) (World.drew w)))
  (R (.bool false) (World.drew w)))
  (R (.bool false) (World.drew w))
theorem law22_awake_s0_eq (R : Value → World → Prop) : ∀ e w, lift Try.prog 73 (bodyOf Try.f8) (finK Try.prog Try.f8.results.toList R) e w = law22_awake_s0 R w := fun e w => by kernel_rfl
def law22_awake (R : Value → World → Prop) (w : World) : Prop := law22_awake_s0 R  w
theorem law22_awake_call {R : Value → World → Prop} {w : World} (h : law22_awake R w) : callG Try.prog 8 #[] w R :=
  calls_lift_eq Try.mixed Try.func8 (args := []) rfl rfl rfl rfl ((law22_awake_s0_eq R) (envOf []) w) (by kernel_rfl) h
/-! quayside/quaysidelaw22.StatOf -/
def law22_StatOf_s0 (R : Value → World → Prop) (w : World) : Prop :=
  callG Try.prog 8 #[] w fun t51 w =>
  R t51 w
theorem law22_StatOf_s0_eq (R : Value → World → Prop) : ∀ e w, lift Try.prog 52 (sub (bodyOf Try.f3) [1, 1, 1, 1, 1]) (finK Try.prog Try.f3.results.toList R) e w = law22_StatOf_s0 R w := fun e w => by kernel_rfl
def law22_StatOf_b1 (R : Value → World → Prop) (N1 : List Value → World → Prop) (x5 x6 x7 : Value) (w : World) : Prop :=
  fa 1 x5 fun t33 =>
  ld1 t33 w fun t34 =>
  lenL t34 fun t35 =>
  qG Try.prog (bq .lss 3 (.tmp 32) (.tmp 35) x7 t35) w fun t36 =>
  bV t36
  (fa 1 x5 fun t39 =>
  ld1 t39 (World.drew w) fun t40 =>
  ia 3 t40 x7 fun t42 =>
  ldn 3 t42 (World.drew w) fun t43 =>
  fa 1 x6 fun t44 =>
  ld1 t44 (World.drew w) fun t45 =>
  ia 3 t45 x7 fun t47 =>
  ldn 3 t47 (World.drew w) fun t48 =>
  callG Try.prog 11 #[t43, t48] (World.drew w) fun t49 w =>
  qG Try.prog (Op.unary .not t49) w fun t50 =>
  bV t50
  (R (.bool false) w)
  (qG Try.prog (bq .add 3 (.tmp 37) (.const (.int .i64 1)) x7 (.int .i64 1)) w fun t38 =>
  N1 [x5, x6, t38] w))
  (law22_StatOf_s0 R  w)
theorem law22_StatOf_b1_eq (R : Value → World → Prop) (N1 : List Value → World → Prop) : ∀ e w, lift Try.prog 52 (sub (bodyOf Try.f3) [1, 1, 1, 1, 0, 1, 0, 0]) (seqK (fun e w => N1 [e 5, e 6, e 7] w) (blockK 0 (seqK (fun e w => law22_StatOf_s0 R  w) (finK Try.prog Try.f3.results.toList R)))) e w = law22_StatOf_b1 R N1 (e 5) (e 6) (e 7) w := fun e w => by kernel_rfl
def law22_StatOf_L2F (R : Value → World → Prop) (N1 : List Value → World → Prop) (xs : List Value) (w : World) : Prop :=
  match xs with
  | [x5, x6, x7] => law22_StatOf_b1 R N1 x5 x6 x7 w
  | _ => False
def law22_StatOf_L2 (R : Value → World → Prop) (x5 x6 x7 : Value) (w : World) : Prop :=
  ∃ m, loopV (law22_StatOf_L2F R) m [x5, x6, x7] w
theorem law22_StatOf_L2_eq (R : Value → World → Prop) : ∀ e w, lift Try.prog 52 (sub (bodyOf Try.f3) [1, 1, 1, 1, 0, 1, 0]) (blockK 0 (seqK (fun e w => law22_StatOf_s0 R  w) (finK Try.prog Try.f3.results.toList R))) e w = law22_StatOf_L2 R (e 5) (e 6) (e 7) w := loop_seg (F := law22_StatOf_L2F R) (sel := fun e => [e 5, e 6, e 7]) fun N1 => (law22_StatOf_b1_eq R N1)
def law22_StatOf_s3 (R : Value → World → Prop) (x5 x6 : Value) (w : World) : Prop :=
  law22_StatOf_L2 R x5 x6 (.int .i64 0) w
theorem law22_StatOf_s3_eq (R : Value → World → Prop) : ∀ e w, lift Try.prog 52 (sub (bodyOf Try.f3) [1, 1, 1, 1, 0]) (seqK (fun e w => law22_StatOf_s0 R  w) (finK Try.prog Try.f3.results.toList R)) e w = law22_StatOf_s3 R (e 5) (e 6) w :=
  segs_eq (l := [(sub (bodyOf Try.f3) [1, 1, 1, 1, 0, 0])]) (y := (sub (bodyOf Try.f3) [1, 1, 1, 1, 0, 1])) (Y := (fun e w => law22_StatOf_L2 R (e 5) (e 6) (e 7) w)) (law22_StatOf_L2_eq R) (fun e w => by kernel_rfl)
def law22_StatOf_s4 (R : Value → World → Prop) (x0 x1 : Value) (w : World) : Prop :=
  callG Try.prog 7 #[x1] w fun t9 w =>
  qG Try.prog (Op.unary .not t9) w fun t10 =>
  bV t10
  (callG Try.prog 8 #[] w fun t11 w =>
  R t11 w)
  (callG Try.prog 9 #[x0, x1] w fun t14 w =>
  callG Try.prog 10 #[x0, x1] w fun t17 w =>
  newG (zc Try.prog 27) 27 w fun t5 w =>
  newG (zc Try.prog 27) 27 w fun t6 w =>
  stn 2 t5 t14 w fun w =>
  stn 2 t6 t17 w fun w =>
  fa 0 t5 fun t18 =>
  ld1 t18 w fun t19 =>
  fa 0 t6 fun t20 =>
  ld1 t20 w fun t21 =>
  qG Try.prog (bq .neq 3 (.tmp 19) (.tmp 21) t19 t21) w fun t22 =>
  bV t22
  (R (.bool false) w)
  (fa 1 t5 fun t24 =>
  ld1 t24 w fun t25 =>
  lenL t25 fun t26 =>
  fa 1 t6 fun t27 =>
  ld1 t27 w fun t28 =>
  lenL t28 fun t29 =>
  qG Try.prog (bq .neq 3 (.tmp 26) (.tmp 29) t26 t29) w fun t30 =>
  bV t30
  (R (.bool false) w)
  (law22_StatOf_s3 R t5 t6 w)))
theorem law22_StatOf_s4_eq (R : Value → World → Prop) : ∀ e w, lift Try.prog 52 (bodyOf Try.f3) (finK Try.prog Try.f3.results.toList R) e w = law22_StatOf_s4 R (e 0) (e 1) w :=
  segs_eq (l := [(sub (bodyOf Try.f3) [0]), (sub (bodyOf Try.f3) [1, 0]), (sub (bodyOf Try.f3) [1, 1, 0]), (sub (bodyOf Try.f3) [1, 1, 1, 0])]) (y := (sub (bodyOf Try.f3) [1, 1, 1, 1])) (Y := (fun e w => law22_StatOf_s3 R (e 5) (e 6) w)) (seq_seg (x := (sub (bodyOf Try.f3) [1, 1, 1, 1, 0])) (y := (sub (bodyOf Try.f3) [1, 1, 1, 1, 1])) (law22_StatOf_s0_eq R) (law22_StatOf_s3_eq R)) (fun e w => by kernel_rfl)
def law22_StatOf (R : Value → World → Prop) (x0 x1 : Value) (w : World) : Prop := law22_StatOf_s4 R x0 x1 w
theorem law22_StatOf_call {R : Value → World → Prop} {x0 x1 : Value} {w : World} (h : law22_StatOf R x0 x1 w) : callG Try.prog 3 #[x0, x1] w R :=
  calls_lift_eq Try.mixed Try.func3 (args := [x0, x1]) rfl rfl rfl rfl ((law22_StatOf_s4_eq R) (envOf [x0, x1]) w) (by kernel_rfl) h
/-! quayside/quaysidelaw22.StatFinds -/
/-! quayside/quaysidelaw22.StatWiders -/
/-! quayside/quaysidelaw22.StatJoined -/
end Go.Proofs

/- Layer 22: the statements' own functions; what must come. -/
set_option maxRecDepth 100000
set_option linter.unusedVariables false
set_option linter.unusedSimpArgs false
namespace Go.Proofs
open Go Go.Q
section
variable {w : World} {R : Value → World → Prop}
def nV (n : Int) : V3 := ⟨1, n, []⟩
theorem bld_num {z : Int} {K : Value → Prop} : bld [(0, 1), (1, 1), (2, 1)] (zc Try.prog 35) #[(0, (.int .i64 1)), (1, .int .i64 z)] K = K (valA (nV z)) := by
  rw [zcVal]; rfl
theorem num_spec (z : Int) (hR : ∀ w', Kp [] w w' → R (valA (nV z)) w') : callG Try.prog 20 #[.int .i64 z] w R := by
  refine law22_num_call ?_
  unfold law22_num law22_num_s0
  refine newB fun x2 w1 hx2 h2 k1 => ?_
  rw [bld_num]
  unfold valA
  refine retB (by kernel_rfl) (by kernel_rfl) h2 (by rw [zcVal]; rfl) rfl (by simp [valV]) fun w6 hk6 => ?_
  exact hR w6 (k1.trans hk6 fun x hx hlt => by simp at hx; omega)
theorem light_spec {x0 : Value} {rows : List (List V3)} (hx : Nst 3 valV w x0 rows) (hT : rows.length ≤ 100 → (∀ r ∈ rows, r.length ≤ 8) → ∀ w', Kp [] w w' → R (.bool true) w') (hF : ∀ w', Kp [] w w' → R (.bool false) w') : callG Try.prog 7 #[x0] w R := by
  refine law22_light_call ?_
  unfold law22_light law22_light_s8 law22_light_s7 law22_light_L6
  have fin : ∀ w', Kp [] w w' → (rows.length ≤ 100 → ∀ r ∈ rows, r.length ≤ 8) → law22_light_s0 R x0 w' := by
    intro w' hk' h8
    unfold law22_light_s0
    rw [hx.lenL]
    simp only [bq_leq]
    by_cases h : (rows.length : Int) ≤ 100
    · rw [decide_eq_true h]; exact hT (by omega) (h8 (by omega)) w' hk'
    · rw [decide_eq_false h]; exact hF w' hk'
  refine loop_inv (fun m xs wi => ∃ i, i ≤ 100 ∧ i ≤ rows.length ∧ m = 100 - i ∧ xs = [x0, .int .i64 (i : Nat)] ∧ Kp [] w wi ∧ ∀ j (h : j < rows.length), j < i → rows[j].length ≤ 8) ?_ (m := 100) ⟨0, by omega, by omega, by omega, rfl, Kp.refl _ _, fun j _ h => by omega⟩
  rintro m N xs wi ⟨i, hi, hil, rfl, rfl, hk, h8⟩ hN
  have hxi := hx.keep hk
  have hiw : IntKind.i64.wrap ((i : Int) + 1) = ((i + 1 : Nat) : Int) := by rw [w64 (by omega) (by omega)]; simp
  unfold law22_light_L6F law22_light_s5
  dsimp only
  rw [hxi.lenL]
  simp only [bq_lss, bV_b, decide_eq_true_eq, decide_eq_false_iff_not]
  refine ⟨fun hlt => ⟨fun hlt2 => ?_, fun hge => fin wi hk fun hle r hr => ?_⟩, fun hge => fin wi hk fun hle r hr => ?_⟩
  · have hlt : i < rows.length := by omega
    obtain ⟨p, r, p1, p2, p3⟩ := hxi.at hlt
    unfold law22_light_s4
    rw [p1, p2 _ (Kp.refl _ _), p3.lenL, List.length_map]
    simp only [bq_gtr, bV_b, decide_eq_true_eq, decide_eq_false_iff_not]
    refine ⟨fun _ => hF wi hk, fun hr8 => ?_⟩
    have hr8 : rows[i].length ≤ 8 := by omega
    unfold law22_light_L3
    refine loop_inv (fun m2 xs wj => ∃ k, k ≤ rows[i].length ∧ m2 = rows[i].length - k ∧ xs = [x0, .int .i64 (i : Nat), .int .i64 (k : Nat)] ∧ wj = wi) ?_ (m := rows[i].length) ⟨0, by omega, rfl, rfl, rfl⟩
    rintro m2 N2 xs wj ⟨k, hkl, rfl, rfl, rfl⟩ hN2
    have hkw : IntKind.i64.wrap ((k : Int) + 1) = ((k + 1 : Nat) : Int) := by rw [w64 (by omega) (by omega)]; simp
    unfold law22_light_L3F law22_light_b2
    dsimp only
    rw [p1, p2 _ (Kp.refl _ _), p3.lenL, List.length_map]
    simp only [bq_lss, bV_b, decide_eq_true_eq, decide_eq_false_iff_not]
    refine ⟨fun hklt => ?_, fun _ => ?_⟩
    · have hklt : k < rows[i].length := by omega
      obtain ⟨q, q1, q2, q3⟩ := p3.get (i := k) (by simpa using hklt)
      have hrow : (rows[i].map valV)[k]'(by simpa using hklt) = valV rows[i][k] := by simp
      have hs : ((rows[i].map valV)[k]'(by simpa using hklt))[2]'(by rw [hrow]; simp [valV]) = .string (str rows[i][k].s) := by simp only [hrow]; rfl
      rw [p1, p2 _ (Kp.refl _ _), q1, q3 2 (by rw [hrow]; simp [valV]), hs]
      simp only [lenS_s, bq_gtr, bV_b, decide_eq_true_eq, decide_eq_false_iff_not, bq_add, hkw]
      refine ⟨fun _ => hF _ hk, fun _ => hN2 (rows[i].length - (k + 1)) _ _ (by omega) ⟨k + 1, by omega, rfl, rfl, rfl⟩⟩
    · unfold law22_light_s1
      simp only [bq_add, hiw]
      refine hN (100 - (i + 1)) _ _ (by omega) ⟨i + 1, by omega, by omega, rfl, rfl, hk, fun j hj hji => ?_⟩
      by_cases e : j = i
      · subst e; exact hr8
      · exact h8 j hj (by omega)
  · obtain ⟨j, hj, rfl⟩ := List.getElem_of_mem hr
    exact h8 j hj (by omega)
  · obtain ⟨j, hj, rfl⟩ := List.getElem_of_mem hr
    exact h8 j hj (by omega)
theorem same22_spec {c : ColV} {ca cb : List Value} (hbig : c.steps.length < 2 ^ 40) (ha : ColX [] w ca c) (hb : ColX [] w cb c) (hR : ∀ w', Kp [] w w' → R (.bool true) w') : callG Try.prog 11 #[.agg ca.toArray, .agg cb.toArray] w R := by
  obtain ⟨sa, hca, hsa1, Sa, hsa, _⟩ := ha
  obtain ⟨sb, hcb, hsb1, Sb, hsb, _⟩ := hb
  refine law22_same_call ?_
  unfold law22_same law22_same_s4
  refine argB fun x2 w1 hx2 h2 k1 => ?_
  refine argB fun x3 w2 hx3 h3 k2 => ?_
  have k02 := k1.trans' k2
  have g2 : w2.heap[x2]? = some (.cells (cC c.nulls c.distinct sa).toArray 32) := by rw [← hca]; exact k2.get h2 (by simp)
  have g3 : w2.heap[x3]? = some (.cells (cC c.nulls c.distinct sb).toArray 32) := by rw [← hcb]; exact h3
  have ra : Rd w sa 3 (c.steps.map valV) := ⟨Sa, hsa⟩
  have rb : Rd w sb 3 (c.steps.map valV) := ⟨Sb, hsb⟩
  rw [fa_p, ldF (x := .int .i64 c.nulls) g2 rfl, fa_p, ldF (x := .int .i64 c.nulls) g3 rfl]
  simp only [bq_neq, bV_b, decide_eq_true_eq, decide_eq_false_iff_not]
  refine ⟨fun h => absurd rfl h, fun _ => ?_⟩
  rw [fa_p, ldF (x := .int .i64 c.distinct) g2 rfl, fa_p, ldF (x := .int .i64 c.distinct) g3 rfl]
  simp only [bq_neq, bV_b, decide_eq_true_eq, decide_eq_false_iff_not]
  refine ⟨fun h => absurd rfl h, fun _ => ?_⟩
  rw [fa_p, ldF (x := sa) g2 rfl, ra.lenL, fa_p, ldF (x := sb) g3 rfl, rb.lenL]
  simp only [bq_neq, bV_b, decide_eq_true_eq, decide_eq_false_iff_not]
  refine ⟨fun h => absurd rfl h, fun _ => ?_⟩
  unfold law22_same_s3 law22_same_L2
  refine loop_inv (fun m xs wi => ∃ i, i ≤ c.steps.length ∧ m = c.steps.length - i ∧ xs = [.pointer (some ⟨x2, 0, none⟩), .pointer (some ⟨x3, 0, none⟩), .int .i64 (i : Nat)] ∧ Kp [] w2 wi) ?_ (m := c.steps.length) ⟨0, by omega, rfl, rfl, Kp.refl _ _⟩
  rintro m N xs wi ⟨i, hi, rfl, rfl, hk⟩ hN
  have hiw : IntKind.i64.wrap ((i : Int) + 1) = ((i + 1 : Nat) : Int) := by rw [w64 (by omega) (by omega)]; simp
  have hkd := hk.drew
  unfold law22_same_L2F law22_same_b1
  dsimp only
  rw [fa_p, ldF (x := sa) (hk.get g2 (by simp)) rfl, ra.lenL, List.length_map]
  simp only [bq_lss, bV_b, decide_eq_true_eq, decide_eq_false_iff_not]
  refine ⟨fun hlt => ?_, fun _ => ?_⟩
  · have hlt : i < c.steps.length := by omega
    obtain ⟨p, p1, p2, _⟩ := (ra.keep (k02.trans' hkd)).get (i := i) (by simpa using hlt)
    obtain ⟨q, q1, q2, _⟩ := (rb.keep (k02.trans' hkd)).get (i := i) (by simpa using hlt)
    have hrow : (c.steps.map valV)[i]'(by simpa using hlt) = valV c.steps[i] := by simp
    rw [hrow] at p2 q2
    rw [fa_p, ldF (x := sa) (hkd.get g2 (by simp)) rfl, p1, p2, fa_p, ldF (x := sb) (hkd.get g3 (by simp)) rfl, q1, q2, bq_valn]
    simp only [bV_b, bq_add, hiw]
    refine ⟨fun h => by simp at h, fun _ => hN (c.steps.length - (i + 1)) _ _ (by omega) ⟨i + 1, by omega, rfl, rfl, hkd⟩⟩
  · unfold law22_same_s0
    exact hR _ (k02.trans' hk)
end

def rows0 : List (List V3) := [[nV 1], [nV 2], [nV 2], [⟨0, 0, []⟩]]
theorem stat0 : statV 1 rows0 = ⟨4, [⟨1, 2, [nV 1, nV 2, nV 2]⟩]⟩ := by rfl
theorem same0 : sameQ (statV 1 rows0) 0 (nV 2) = 1 := by decide
theorem btw0 : betweenQ (statV 1 rows0) 0 (bAt (nV 2)) (bAt (nV 2)) = 2 := by decide
theorem joined0 : joinedQ (statV 1 rows0) 0 4 (statV 1 rows0) 0 4 = 8 := by decide
section
variable {w : World} {R : Value → World → Prop}
theorem awake22 (hR : ∀ w', Kp [] w w' → R (.bool true) w') : callG Try.prog 8 #[] w R := by
  refine law22_awake_call ?_
  unfold law22_awake law22_awake_s0
  refine num_spec 1 fun w1 k1 => ?_
  refine bsl_rowN (n := 3) (cs := valV (nV 1)) (by omega) rfl rfl fun t4 w2 f4 => ?_
  refine num_spec 2 fun w3 k3 => ?_
  refine bsl_rowN (n := 3) (cs := valV (nV 2)) (by omega) rfl rfl fun t6 w4 f6 => ?_
  refine num_spec 2 fun w5 k5 => ?_
  refine bsl_rowN (n := 3) (cs := valV (nV 2)) (by omega) rfl rfl fun t8 w6 f8 => ?_
  have bz : ∀ K : Value → Prop, bld [(0, 1), (1, 1), (2, 1)] (zc Try.prog 35) #[] K = K (valA ⟨0, 0, []⟩) := fun K => by rw [zcVal]; rfl
  rw [bz]
  refine bsl_rowN (n := 3) (cs := valV ⟨0, 0, []⟩) (by omega) rfl rfl fun t10 w7 f10 => ?_
  have o4 := f4.one
  have o6 := f6.one
  have o8 := f8.one
  have o10 := f10.one
  have c1 : ∀ v : Value, Q.one v = true → Value.cells v = [v].toArray := fun v h => by cases v <;> simp [Q.one] at h <;> rfl
  refine bsl_rowsX (n := 1) (len := 4) (xs := [t4, t6, t8, t10]) (rows := [t4, t6, t8, t10].map cel) (by omega) rfl (by simp [cel, c1 _ o4, c1 _ o6, c1 _ o8, c1 _ o10]) (by simp [cel]) (by omega) fun t11 o hf => ?_
  obtain ⟨w8, hw8⟩ : ∃ w8, w8 = w7.alloc o := ⟨_, rfl⟩
  rw [← hw8] at hf ⊢
  have k78 := hf.kp
  have k68 := f10.kp.trans' k78
  have k48 := (k5.trans' f8.kp).trans' k68
  have k28 := (k3.trans' f6.kp).trans' k48
  have k08 := k1.trans' (f4.kp.trans' k28)
  have hx : Nst 3 valV w8 t11 rows0 := by
    refine ⟨[t4, t6, t8, t10], hf.rd, rfl, fun i hi v hv => ?_⟩
    have hi : i < 4 := hi
    match i, hi with
    | 0, _ => simp at hv; subst hv; exact f4.rd.keep k28
    | 1, _ => simp at hv; subst hv; exact f6.rd.keep k48
    | 2, _ => simp at hv; subst hv; exact f8.rd.keep k68
    | 3, _ => simp at hv; subst hv; exact f10.rd.keep k78
  refine Of_spec hx (by decide) (by decide) 1 fun w9 val k9 hst => ?_
  have hst0 := hst
  rw [stat0] at hst0
  obtain ⟨o, css, hval, ho, hrd, hlen, hcol⟩ := hst0
  have hlen : css.length = 1 := hlen
  have hval : val = .agg #[.int .i64 ((4 : Nat) : Int), o] := hval
  obtain ⟨sv, hcs, hsv1, Ssv, hsv, _⟩ := hcol 0 (by decide) (css[0]'(by omega)) (by simp [hlen])
  have hcs : css[0]'(by omega) = cC 1 2 sv := hcs
  refine newB fun x1 wa hx1 h1 ka => ?_
  rw [hval, stA (k := 2) h1 (by rw [zcSt]; rfl) rfl (by simp [ho])]
  obtain ⟨wb, hwb⟩ : ∃ wb, wb = setBlk wa x1 (.cells #[.int .i64 ((4 : Nat) : Int), o] 27) := ⟨_, rfl⟩
  have kb : Kp [] w9 wb := by rw [hwb]; exact ka.setBlk (.inr hx1) _
  have g1 : wb.heap[x1]? = some (.cells #[.int .i64 ((4 : Nat) : Int), o] 27) := by rw [hwb]; exact heap_self (live_of h1)
  rw [← hwb]
  refine num_spec 2 fun wc kc => ?_
  rw [bld_at_val]
  refine newB fun x2 wd hx2 h2 kd => ?_
  unfold bdA
  rw [stA (k := 5) h2 (by rw [zcBd]; rfl) rfl (bC_one _)]
  obtain ⟨we, hwe⟩ : ∃ we, we = setBlk wd x2 (.cells (bC (bAt (nV 2))).toArray 37) := ⟨_, rfl⟩
  have ke : Kp [] wc we := by rw [hwe]; exact kd.setBlk (.inr hx2) _
  have g2 : we.heap[x2]? = some (.cells (bC (bAt (nV 2))).toArray 37) := by rw [hwe]; exact heap_self (live_of h2)
  rw [← hwe]
  have kbe := (kc.trans' ke).drew
  have k9e := kb.trans' kbe
  have k0e : Kp [] w we.drew := (k08.trans' k9).trans' k9e
  have g1e := kbe.get g1 (by simp)
  have g2e : we.drew.heap[x2]? = some (.cells (bC (bAt (nV 2))).toArray 37) := g2
  have hste := hst.keep k9e
  have hrde := hrd.keep k9e
  have hsve : Rd we.drew sv 3 ([nV 1, nV 2, nV 2].map valV) := Rd.keep ⟨Ssv, hsv⟩ k9e
  generalize we.drew = wf at k0e g1e g2e hste hrde hsve ⊢
  have ld1' : ∀ w', Kp [] wf w' → ∀ K : Value → Prop, ldn 2 (.pointer (some ⟨x1, 0, none⟩)) w' K = K val := fun w' hk' K => by rw [ldA (k := 2) (hk'.get g1e (by simp)) rfl, hval]
  obtain ⟨p, p1, p2, p3⟩ := hrde.get (i := 0) (by omega)
  have p1' : ∀ K, ia 3 o (.int .i64 0) K = K p := fun K => p1 .i64 K
  have f0 : ∀ K : Value → Prop, (fa 0 p fun q => ld1 q wf K) = K (.int .i64 1) := fun K => by rw [p3 0 (by rw [hcs]; simp [cC])]; simp only [hcs]; rfl
  have f1 : ∀ K : Value → Prop, (fa 1 p fun q => ld1 q wf K) = K (.int .i64 2) := fun K => by rw [p3 1 (by rw [hcs]; simp [cC])]; simp only [hcs]; rfl
  have f2 : ∀ K : Value → Prop, (fa 2 p fun q => ld1 q wf K) = K sv := fun K => by rw [p3 2 (by rw [hcs]; simp [cC])]; simp only [hcs]; rfl
  rw [fa_p, ldF (x := .int .i64 ((4 : Nat) : Int)) g1e rfl]
  simp only [bq_eql, bV_b, decide_eq_true_eq, decide_eq_false_iff_not]
  refine ⟨fun _ => ?_, fun h => absurd (by first | trivial | rfl | decide) h⟩
  rw [fa_p, ldF (x := o) g1e rfl, hrde.lenL, hlen]
  simp only [bq_eql, bV_b, decide_eq_true_eq, decide_eq_false_iff_not]
  refine ⟨fun _ => ?_, fun h => absurd (by first | trivial | rfl | decide) h⟩
  rw [fa_p, ldF (x := o) g1e rfl, p1', f0]
  simp only [bq_eql, bV_b, decide_eq_true_eq, decide_eq_false_iff_not]
  refine ⟨fun _ => ?_, fun h => absurd (by first | trivial | rfl | decide) h⟩
  rw [fa_p, ldF (x := o) g1e rfl, p1', f1]
  simp only [bq_eql, bV_b, decide_eq_true_eq, decide_eq_false_iff_not]
  refine ⟨fun _ => ?_, fun h => absurd (by first | trivial | rfl | decide) h⟩
  rw [fa_p, ldF (x := o) g1e rfl, p1', f2, hsve.lenL]
  simp only [bq_eql, bV_b, decide_eq_true_eq, decide_eq_false_iff_not]
  refine ⟨fun _ => ?_, fun h => absurd (by first | trivial | rfl | decide) h⟩
  rw [ld1' _ (Kp.refl _ _)]
  refine num_spec 2 fun wg kg => ?_
  rw [ld1' _ kg]
  refine ⟨rfl, ?_⟩
  refine Same_spec (hste.keep kg) (by decide) 0 (nV 2) fun wh kh => ?_
  rw [same0]
  simp only [bq_eql, bV_b, decide_eq_true_eq, decide_eq_false_iff_not]
  refine ⟨fun _ => ?_, fun h => absurd (by first | trivial | rfl | decide) h⟩
  have k2 := kg.trans' kh
  rw [ld1' _ k2, ldA (k := 5) (k2.get g2e (by simp)) rfl, ldA (k := 5) (k2.get g2e (by simp)) rfl]
  refine Between_spec (hste.keep k2) (by decide) 0 (bAt (nV 2)) (bAt (nV 2)) fun wi ki => ?_
  rw [btw0]
  simp only [bq_eql, bV_b, decide_eq_true_eq, decide_eq_false_iff_not]
  refine ⟨fun _ => ?_, fun h => absurd (by first | trivial | rfl | decide) h⟩
  have k3 := k2.trans' ki
  rw [ld1' _ k3]
  refine Kept0_spec (hste.keep k3) fun wj kj => ?_
  simp only [bq_eql, bV_b, decide_eq_true_eq, decide_eq_false_iff_not]
  refine ⟨fun _ => ?_, fun h => absurd (by first | trivial | rfl | decide) h⟩
  have k4 := k3.trans' kj
  rw [ld1' _ k4, ld1' _ k4]
  refine Joined_spec (hste.keep k4) (hste.keep k4) 0 4 0 4 fun wk kk => ?_
  rw [joined0]
  simp only [bq_eql]
  exact hR wk (k0e.trans' (k4.trans' kk))
end
end Go.Proofs

/- Layer 22: the four statements. -/
set_option maxRecDepth 100000
set_option linter.unusedVariables false
set_option linter.unusedSimpArgs false
namespace Go.Proofs
open Go Go.Q
section
variable {w : World} {R : Value → World → Prop}
theorem statOf_spec {x1 : Value} {rows : List (List V3)} (hx : Nst 3 valV w x1 rows) (n : Int) (hR : ∀ w', Kp [] w w' → R (.bool true) w') : callG Try.prog 3 #[.int .i64 n, x1] w R := by
  refine law22_StatOf_call ?_
  unfold law22_StatOf law22_StatOf_s4
  refine light_spec hx (fun hl h8 w1 k1 => ?_) fun w1 k1 => ?_
  · simp only [un_not, bV_b]
    refine ⟨fun h => by simp at h, fun _ => ?_⟩
    have h30 : ∀ r ∈ rows, r.length < 2 ^ 30 := fun r hr => by have := h8 r hr; omega
    refine Of_spec (hx.keep k1) (by omega) h30 n fun w2 va k2 ha => ?_
    have k02 := k1.trans' k2
    refine rOf_spec (hx.keep k02) (by omega) h30 n fun w3 vb k3 hb => ?_
    have k03 := k02.trans' k3
    have ha3 := ha.keep k3
    obtain ⟨oa, ca, hva, hoa, hra, hla, hca⟩ := ha3
    obtain ⟨ob, cb, hvb, hob, hrb, hlb, hcb⟩ := hb
    refine newB fun x5 w4 hx5 h5 k4 => ?_
    refine newB fun x6 w5 hx6 h6 k5 => ?_
    have h55 := k5.get h5 (by simp)
    have l5 := lt_of_blk h5
    have s4 := k4.size
    rw [hva, hvb, stA (k := 2) h55 (by rw [zcSt]; rfl) rfl (by simp [hoa]), stA (k := 2) (by rw [heap_ne (by omega)]; exact h6) (by rw [zcSt]; rfl) rfl (by simp [hob])]
    obtain ⟨w6, hw6⟩ : ∃ w6, w6 = setBlk (setBlk w5 x5 (.cells #[.int .i64 (statV n rows).rows, oa] 27)) x6 (.cells #[.int .i64 (statV n rows).rows, ob] 27) := ⟨_, rfl⟩
    have k36 : Kp [] w3 w6 := by rw [hw6]; exact ((k4.trans' k5).setBlk (.inr hx5) _).setBlk (.inr (by omega)) _
    have g5 : w6.heap[x5]? = some (.cells #[.int .i64 (statV n rows).rows, oa] 27) := by rw [hw6, heap_ne (by omega), heap_self (live_of h55)]
    have g6 : w6.heap[x6]? = some (.cells #[.int .i64 (statV n rows).rows, ob] 27) := by rw [hw6]; exact heap_self (by have := lt_of_blk h6; unfold Live; simpa using this)
    rw [← hw6]
    have hm : (statV n rows).cols.length ≤ 64 := by simp only [statV, List.length_map, List.length_range]; omega
    rw [fa_p, ldF (x := .int .i64 (statV n rows).rows) g5 rfl, fa_p, ldF (x := .int .i64 (statV n rows).rows) g6 rfl]
    simp only [bq_neq, bV_b, decide_eq_true_eq, decide_eq_false_iff_not]
    refine ⟨fun h => absurd rfl h, fun _ => ?_⟩
    rw [fa_p, ldF (x := oa) g5 rfl, hra.lenL, fa_p, ldF (x := ob) g6 rfl, hrb.lenL, hla, hlb]
    simp only [bq_neq, bV_b, decide_eq_true_eq, decide_eq_false_iff_not]
    refine ⟨fun h => absurd rfl h, fun _ => ?_⟩
    unfold law22_StatOf_s3 law22_StatOf_L2
    refine loop_inv (fun m xs wi => ∃ i, i ≤ (statV n rows).cols.length ∧ m = (statV n rows).cols.length - i ∧ xs = [.pointer (some ⟨x5, 0, none⟩), .pointer (some ⟨x6, 0, none⟩), .int .i64 (i : Nat)] ∧ Kp [] w6 wi) ?_ (m := (statV n rows).cols.length) ⟨0, by omega, rfl, rfl, Kp.refl _ _⟩
    rintro m N xs wi ⟨i, hi, rfl, rfl, hk⟩ hN
    have hiw : IntKind.i64.wrap ((i : Int) + 1) = ((i + 1 : Nat) : Int) := by rw [w64 (by omega) (by omega)]; simp
    have hkd := hk.drew
    unfold law22_StatOf_L2F law22_StatOf_b1
    dsimp only
    rw [fa_p, ldF (x := oa) (hk.get g5 (by simp)) rfl, hra.lenL, hla]
    simp only [bq_lss, bV_b, decide_eq_true_eq, decide_eq_false_iff_not]
    refine ⟨fun hlt => ?_, fun _ => ?_⟩
    · have hlt : i < (statV n rows).cols.length := by omega
      have k3d := k36.trans' hkd
      obtain ⟨p, p1, p2, _⟩ := (hra.keep k3d).get (i := i) (by omega)
      obtain ⟨q, q1, q2, _⟩ := (hrb.keep k3d).get (i := i) (by omega)
      rw [fa_p, ldF (x := oa) (hkd.get g5 (by simp)) rfl, p1, p2, fa_p, ldF (x := ob) (hkd.get g6 (by simp)) rfl, q1, q2]
      have c1 := (hca i hlt (ca[i]'(by omega)) (by simp [hla, hlt])).keep k3d
      have c2 := (hcb i hlt (cb[i]'(by omega)) (by simp [hlb, hlt])).keep k3d
      refine same22_spec ?_ c1 c2 fun w7 k7 => ?_
      · have : ∃ k, (statV n rows).cols[i] = colV k rows := ⟨i, by simp [statV]⟩
        obtain ⟨k, hk⟩ := this
        rw [hk]
        have := steps_len (sortV (colVals k rows))
        show (stepsV (sortV (colVals k rows))).length < 2 ^ 40
        omega
      · simp only [un_not, bV_b, bq_add, hiw]
        exact ⟨fun h => by simp at h, fun _ => hN ((statV n rows).cols.length - (i + 1)) _ _ (by omega) ⟨i + 1, by omega, rfl, rfl, hkd.trans' k7⟩⟩
    · unfold law22_StatOf_s0
      exact awake22 fun w' hk' => hR w' (((k03.trans' k36).trans' hk).trans' hk')
  · simp only [un_not, bV_b]
    refine ⟨fun _ => ?_, fun h => by simp at h⟩
    exact awake22 fun w' hk' => hR w' (k1.trans' hk')
theorem and255 {xo yo : Operand} {w : World} {T : TypeId} {x : Int} {K : Value → Prop} (hK : ∀ c : Nat, c < 256 → K (.int .i64 c)) : qG Try.prog (bq .and T xo yo (.int .i64 x) (.int .i64 255)) w K := by
  have h : (bq .and T xo yo (.int .i64 x) (.int .i64 255)).run Try.prog w = .ok (.int .i64 (IntKind.i64.wrap ((BitVec.ofInt 64 x &&& BitVec.ofInt 64 255).toNat : Int))) w := run_bq_int (s := .pure _) fun w => by
    simp only [binOp, ne_eq, not_true_eq_false, if_false, Op.intBits]
    rfl
  have hle : (BitVec.ofInt 64 x &&& BitVec.ofInt 64 255).toNat ≤ 255 := by
    rw [BitVec.toNat_and]
    exact Nat.and_le_right
  rw [qG_of h, wrap_nat64 (by omega)]
  exact hK _ (by omega)
end
end Go.Proofs

/- Arrays that came in. -/
set_option linter.unusedVariables false
set_option linter.unusedSimpArgs false
namespace Go.Q
end Go.Q

/- What the statement's own reading says of the arguments that came in: rows, ranges, values, numbers. -/
set_option linter.unusedVariables false
set_option linter.unusedSimpArgs false
namespace Go.Proofs
open Go Go.Q
/-- an argument that the statement's own reading took -/
def Taken (w : World) (t : TypeId) (v : Value) : Prop :=
  ∃ (H : Type) (enc : TypeId × Value → H) (fuel : Nat) (x : DataW H × List MemPlace), DataW.trod enc Try.prog w 0 (fun _ => true) true fuel t v.cells.toList = some x
section
variable {H : Type} {enc : TypeId × Value → H} {w : World} {fuel n : Nat} {cs : List Value} {x : DataW H × List MemPlace}
theorem str_all (s : ByteArray) : s = str s.data.toList := by cases s; simp [str]
theorem one_celA {i : Nat} (hi : i < cs.length) : (cs.drop i).take 1 = [cs[i]] := by rw [List.drop_eq_getElem_cons hi]; rfl
theorem fld_int {i : Nat} {q : Option (DataW H × List MemPlace)} (h : DataW.trod enc Try.prog w 0 (fun _ => true) true n 3 ((cs.drop i).take (Try.prog.cellsOf 3)) = q) (hq : q.isSome = true) (hi : i < cs.length) : ∃ z : Int, cs[i] = .int .i64 z := by
  obtain ⟨y, rfl⟩ := Option.isSome_iff_exists.1 hq
  rw [show Try.prog.cellsOf 3 = 1 by kernel_rfl, one_celA hi] at h
  obtain ⟨z, e, _, hw⟩ := DataW.trod_int Try.underlying3 h
  injection e with e _
  exact ⟨z, e⟩
theorem fld_str {i : Nat} {q : Option (DataW H × List MemPlace)} (h : DataW.trod enc Try.prog w 0 (fun _ => true) true n 9 ((cs.drop i).take (Try.prog.cellsOf 9)) = q) (hq : q.isSome = true) (hi : i < cs.length) : ∃ s : List UInt8, cs[i] = .string (str s) := by
  obtain ⟨y, rfl⟩ := Option.isSome_iff_exists.1 hq
  rw [show Try.prog.cellsOf 9 = 1 by kernel_rfl, one_celA hi] at h
  obtain ⟨s, e, _, hw⟩ := DataW.trod_string Try.underlying9 h
  injection e with e _
  exact ⟨s.data.toList, by rw [e]; exact congrArg Value.string (str_all s)⟩
theorem list3 {α : Type} {r : List α} (h : r.length = 3) : ∃ a b c, r = [a, b, c] := by
  match r, h with
  | [a, b, c], _ => exact ⟨a, b, c, rfl⟩
theorem val_in (h : DataW.trod enc Try.prog w 0 (fun _ => true) true fuel 35 cs = some x) : ∃ v : V3, cs = valV v := by
  obtain ⟨xs, n, rfl, _, hl, hx, hf⟩ := DataW.trod_struct Try.underlying35 h
  rw [show Try.prog.cellsOf 35 = 3 by kernel_rfl] at hl
  have hx3 : xs.length = 3 := hx
  have g0 : DataW.trod enc Try.prog w 0 (fun _ => true) true n 3 ((cs.drop 0).take (Try.prog.cellsOf 3)) = xs[0]? := hf 0 _ rfl
  obtain ⟨z0, e0⟩ := fld_int g0 (by simp; omega) (by omega)
  have g1 : DataW.trod enc Try.prog w 0 (fun _ => true) true n 3 ((cs.drop 1).take (Try.prog.cellsOf 3)) = xs[1]? := hf 1 _ rfl
  obtain ⟨z1, e1⟩ := fld_int g1 (by simp; omega) (by omega)
  have g2 : DataW.trod enc Try.prog w 0 (fun _ => true) true n 9 ((cs.drop 2).take (Try.prog.cellsOf 9)) = xs[2]? := hf 2 _ rfl
  obtain ⟨z2, e2⟩ := fld_str g2 (by simp; omega) (by omega)
  obtain ⟨c0, c1, c2, rfl⟩ := list3 hl
  simp only [List.getElem_cons_zero, List.getElem_cons_succ] at e0 e1 e2
  subst e0 e1 e2
  exact ⟨⟨z0, z1, z2⟩, rfl⟩
theorem all_in {α : Type} {f : α → List Value} {rows : List (List Value)} (h : ∀ r ∈ rows, ∃ a, r = f a) : ∃ l : List α, rows = l.map f := by
  induction rows with
  | nil => exact ⟨[], rfl⟩
  | cons r rows ih =>
    obtain ⟨l, h1⟩ := ih fun x hx => h x (by simp [hx])
    obtain ⟨s, h3⟩ := h r (by simp)
    exact ⟨s :: l, by rw [h1, h3]; rfl⟩
theorem row_in (h : DataW.trod enc Try.prog w 0 (fun _ => true) true fuel 44 cs = some x) : ∃ (v : Value) (r : List V3), cs = [v] ∧ Rd w v 3 (r.map valV) := by
  obtain ⟨v, rows, SK, hv, harg, hlt, hlen, hr⟩ := arg_slice Try.underlying44 (n := 3) (by kernel_rfl) (by omega) h
  obtain ⟨l, hl⟩ := all_in (f := valV) (rows := rows) fun r hm => by
    obtain ⟨f, y, hy⟩ := hr r hm
    exact val_in hy
  subst hl
  exact ⟨v, l, hv, ⟨SK, harg⟩⟩
end
theorem rows_of {w : World} {rows : List (List Value)} (h : ∀ r ∈ rows, ∃ (v : Value) (l : List V3), r = [v] ∧ Rd w v 3 (l.map valV)) : ∃ (vs : List Value) (bs : List (List V3)), rows = vs.map cel ∧ vs.length = bs.length ∧ ∀ i (h : i < bs.length) v, vs[i]? = some v → Rd w v 3 (bs[i].map valV) := by
  induction rows with
  | nil => exact ⟨[], [], rfl, rfl, by simp⟩
  | cons r rows ih =>
    obtain ⟨vs, bs, h1, h2, h3⟩ := ih fun x hx => h x (by simp [hx])
    obtain ⟨v, l, h4, h5⟩ := h r (by simp)
    refine ⟨v :: vs, l :: bs, by rw [h1, h4]; rfl, by simp [h2], fun i hi u hu => ?_⟩
    cases i with
    | zero => simp at hu; subst hu; exact h5
    | succ i => exact h3 i (by simpa using hi) u (by simpa using hu)
theorem rows_taken {w : World} {a : Option Addr} {l c : Nat} (h : Taken w 22 (.slice a l c)) : ∃ rows : List (List V3), Nst 3 valV w (.slice a l c) rows := by
  obtain ⟨H, enc, fuel, x, h⟩ := h
  obtain ⟨v, rows, SK, hv, harg, hlt, hlen, hr⟩ := arg_slice Try.underlying22 (n := 1) (by kernel_rfl) (by omega) h
  obtain ⟨vs, bs, h1, h2, h3⟩ := rows_of (w := w) (rows := rows) fun r hm => by
    obtain ⟨f, y, hy⟩ := hr r hm
    exact row_in hy
  injection hv with e _
  subst e
  subst h1
  exact ⟨bs, vs, ⟨SK, harg⟩, h2, h3⟩
end Go.Proofs

