/- Part of the proof (L3): an engine, rules or contracts of the functions; it states nothing of the claim by itself. -/
import Derived.Test.YtcekhmkhagakiaaL1
import Derived.Test.YtcekhmkhagakiaaL2
import Derived.Lib.Overlaps

set_option linter.unusedVariables false
set_option linter.unusedSimpArgs false
namespace Go.Proofs
open Go Go.Q
set_option maxRecDepth 100000
/-! quayside/quaysideref07.ahead -/
def ref07_ahead_s0 (R : Value → World → Prop) (x0 x1 : Value) (w : World) : Prop :=
  newG (Value.cells x0) 44 w fun t2 w =>
  newG (Value.cells x1) 44 w fun t3 w =>
  fa 0 t2 fun t5 =>
  ld1 t5 w fun t6 =>
  fa 0 t3 fun t7 =>
  ld1 t7 w fun t8 =>
  qG Try.prog (bq .lss 9 (.tmp 6) (.tmp 8) t6 t8) w fun t9 =>
  bV t9
  (R (.bool true) w)
  (fa 0 t2 fun t11 =>
  ld1 t11 w fun t12 =>
  fa 0 t3 fun t13 =>
  ld1 t13 w fun t14 =>
  qG Try.prog (bq .eql 9 (.tmp 12) (.tmp 14) t12 t14) w fun t15 =>
  bV t15
  (fa 1 t2 fun t17 =>
  ld1 t17 w fun t18 =>
  fa 1 t3 fun t19 =>
  ld1 t19 w fun t20 =>
  qG Try.prog (bq .lss 9 (.tmp 18) (.tmp 20) t18 t20) w fun t21 =>
  R t21 w)
  (R (.bool false) w))
theorem ref07_ahead_s0_eq (R : Value → World → Prop) : ∀ e w, lift Try.prog 24 (bodyOf Try.f70) (finK Try.prog Try.f70.results.toList R) e w = ref07_ahead_s0 R (e 0) (e 1) w := fun e w => by kernel_rfl
def ref07_ahead (R : Value → World → Prop) (x0 x1 : Value) (w : World) : Prop := ref07_ahead_s0 R x0 x1 w
theorem ref07_ahead_call {R : Value → World → Prop} {x0 x1 : Value} {w : World} (h : ref07_ahead R x0 x1 w) : callG Try.prog 70 #[x0, x1] w R :=
  calls_lift_eq Try.mixed Try.func70 (args := [x0, x1]) rfl rfl rfl rfl ((ref07_ahead_s0_eq R) (envOf [x0, x1]) w) (by kernel_rfl) h
/-! quayside/quaysideref07.index -/
def ref07_index_s0 (R : Value → World → Prop) (w : World) : Prop :=
  R (.int .i64 (-1)) w
theorem ref07_index_s0_eq (R : Value → World → Prop) : ∀ e w, lift Try.prog 34 (sub (bodyOf Try.f99) [1, 1]) (finK Try.prog Try.f99.results.toList R) e w = ref07_index_s0 R w := fun e w => by kernel_rfl
def ref07_index_b1 (R : Value → World → Prop) (N1 : List Value → World → Prop) (x1 x2 x3 x7 : Value) (w : World) : Prop :=
  fa 0 x3 fun t9 =>
  ld1 t9 w fun t10 =>
  lenL t10 fun t11 =>
  qG Try.prog (bq .lss 3 (.tmp 8) (.tmp 11) x7 t11) w fun t12 =>
  bV t12
  (fa 0 x3 fun t15 =>
  ld1 t15 w fun t16 =>
  ia 4 t16 x7 fun t18 =>
  fa 0 t18 fun t19 =>
  ld1 t19 w fun t20 =>
  qG Try.prog (bq .eql 9 (.tmp 20) (.tmp 21) t20 x1) w fun t22 =>
  bV t22
  (fa 0 x3 fun t24 =>
  ld1 t24 w fun t25 =>
  ia 4 t25 x7 fun t27 =>
  fa 1 t27 fun t28 =>
  ld1 t28 w fun t29 =>
  qG Try.prog (bq .eql 9 (.tmp 29) (.tmp 30) t29 x2) w fun t31 =>
  bV t31
  (R x7 w)
  (qG Try.prog (bq .add 3 (.tmp 13) (.const (.int .i64 1)) x7 (.int .i64 1)) w fun t14 =>
  N1 [x1, x2, x3, t14] w))
  (qG Try.prog (bq .add 3 (.tmp 13) (.const (.int .i64 1)) x7 (.int .i64 1)) w fun t14_1 =>
  N1 [x1, x2, x3, t14_1] w))
  (ref07_index_s0 R  w)
theorem ref07_index_b1_eq (R : Value → World → Prop) (N1 : List Value → World → Prop) : ∀ e w, lift Try.prog 34 (sub (bodyOf Try.f99) [1, 0, 1, 0, 0]) (seqK (fun e w => N1 [e 1, e 2, e 3, e 7] w) (blockK 0 (seqK (fun e w => ref07_index_s0 R  w) (finK Try.prog Try.f99.results.toList R)))) e w = ref07_index_b1 R N1 (e 1) (e 2) (e 3) (e 7) w := fun e w => by kernel_rfl
def ref07_index_L2F (R : Value → World → Prop) (N1 : List Value → World → Prop) (xs : List Value) (w : World) : Prop :=
  match xs with
  | [x1, x2, x3, x7] => ref07_index_b1 R N1 x1 x2 x3 x7 w
  | _ => False
def ref07_index_L2 (R : Value → World → Prop) (x1 x2 x3 x7 : Value) (w : World) : Prop :=
  ∃ m, loopV (ref07_index_L2F R) m [x1, x2, x3, x7] w
theorem ref07_index_L2_eq (R : Value → World → Prop) : ∀ e w, lift Try.prog 34 (sub (bodyOf Try.f99) [1, 0, 1, 0]) (blockK 0 (seqK (fun e w => ref07_index_s0 R  w) (finK Try.prog Try.f99.results.toList R))) e w = ref07_index_L2 R (e 1) (e 2) (e 3) (e 7) w := loop_seg (F := ref07_index_L2F R) (sel := fun e => [e 1, e 2, e 3, e 7]) fun N1 => (ref07_index_b1_eq R N1)
def ref07_index_s3 (R : Value → World → Prop) (x1 x2 x3 : Value) (w : World) : Prop :=
  ref07_index_L2 R x1 x2 x3 (.int .i64 0) w
theorem ref07_index_s3_eq (R : Value → World → Prop) : ∀ e w, lift Try.prog 34 (sub (bodyOf Try.f99) [1, 0]) (seqK (fun e w => ref07_index_s0 R  w) (finK Try.prog Try.f99.results.toList R)) e w = ref07_index_s3 R (e 1) (e 2) (e 3) w :=
  segs_eq (l := [(sub (bodyOf Try.f99) [1, 0, 0])]) (y := (sub (bodyOf Try.f99) [1, 0, 1])) (Y := (fun e w => ref07_index_L2 R (e 1) (e 2) (e 3) (e 7) w)) (ref07_index_L2_eq R) (fun e w => by kernel_rfl)
def ref07_index_s4 (R : Value → World → Prop) (x0 x1 x2 : Value) (w : World) : Prop :=
  newG (Value.cells x0) 60 w fun t3 w =>
  ref07_index_s3 R x1 x2 t3 w
theorem ref07_index_s4_eq (R : Value → World → Prop) : ∀ e w, lift Try.prog 34 (bodyOf Try.f99) (finK Try.prog Try.f99.results.toList R) e w = ref07_index_s4 R (e 0) (e 1) (e 2) w :=
  segs_eq (l := [(sub (bodyOf Try.f99) [0])]) (y := (sub (bodyOf Try.f99) [1])) (Y := (fun e w => ref07_index_s3 R (e 1) (e 2) (e 3) w)) (seq_seg (x := (sub (bodyOf Try.f99) [1, 0])) (y := (sub (bodyOf Try.f99) [1, 1])) (ref07_index_s0_eq R) (ref07_index_s3_eq R)) (fun e w => by kernel_rfl)
def ref07_index (R : Value → World → Prop) (x0 x1 x2 : Value) (w : World) : Prop := ref07_index_s4 R x0 x1 x2 w
theorem ref07_index_call {R : Value → World → Prop} {x0 x1 x2 : Value} {w : World} (h : ref07_index R x0 x1 x2 w) : callG Try.prog 99 #[x0, x1, x2] w R :=
  calls_lift_eq Try.mixed Try.func99 (args := [x0, x1, x2]) rfl rfl rfl rfl ((ref07_index_s4_eq R) (envOf [x0, x1, x2]) w) (by kernel_rfl) h
/-! quayside/quaysideref07.sums -/
def ref07_sums_s0 (R : Value → World → Prop) (x3 x5 x6 : Value) (w : World) : Prop :=
  callG Try.prog 74 #[x5] w fun t86 w =>
  qG Try.prog (Instr.extract t86 0) w fun t87 =>
  qG Try.prog (Instr.extract t86 1) w fun t88 =>
  callG Try.prog 74 #[x6] w fun t91 w =>
  qG Try.prog (Instr.extract t91 0) w fun t92 =>
  qG Try.prog (Instr.extract t91 1) w fun t93 =>
  qG Try.prog (bq .eql 26 (.tmp 94) (.const (.int .i64 0)) t88 (.int .i64 0)) w fun t95 =>
  bV t95
  (qG Try.prog (bq .eql 26 (.tmp 97) (.const (.int .i64 0)) t93 (.int .i64 0)) w fun t98 =>
  bV t98
  (fa 3 x3 fun t102 =>
  ld1 t102 w fun t103 =>
  qG Try.prog (bq .eql 3 (.tmp 101) (.tmp 103) t87 t103) w fun t104 =>
  bV t104
  (fa 2 x3 fun t108 =>
  ld1 t108 w fun t109 =>
  qG Try.prog (bq .eql 3 (.tmp 107) (.tmp 109) t92 t109) w fun t110 =>
  R t110 w)
  (R (.bool false) w))
  (R (.bool false) w))
  (R (.bool false) w)
theorem ref07_sums_s0_eq (R : Value → World → Prop) : ∀ e w, lift Try.prog 112 (sub (bodyOf Try.f71) [1, 1, 1, 1]) (finK Try.prog Try.f71.results.toList R) e w = ref07_sums_s0 R (e 3) (e 5) (e 6) w := fun e w => by kernel_rfl
def ref07_sums_s1 (R : Value → World → Prop) (N1 : List Value → World → Prop) (x2 x3 x5 x6 x9 : Value) (w : World) : Prop :=
  qG Try.prog (bq .add 3 (.tmp 53) (.const (.int .i64 1)) x9 (.int .i64 1)) w fun t54 =>
  N1 [x2, x3, x5, x6, t54] w
theorem ref07_sums_s1_eq (R : Value → World → Prop) (N1 : List Value → World → Prop) : ∀ e w, lift Try.prog 112 (sub (bodyOf Try.f71) [1, 1, 1, 0, 1, 0, 0, 1, 1]) (seqK (fun e w => N1 [e 2, e 3, e 5, e 6, e 9] w) (blockK 2 (seqK (fun e w => ref07_sums_s0 R (e 3) (e 5) (e 6) w) (finK Try.prog Try.f71.results.toList R)))) e w = ref07_sums_s1 R N1 (e 2) (e 3) (e 5) (e 6) (e 9) w := fun e w => by kernel_rfl
def ref07_sums_s2 (R : Value → World → Prop) (N1 : List Value → World → Prop) (x2 x3 x5 x6 x9 x74 : Value) (w : World) : Prop :=
  bV x74
  (fa 2 x2 fun t76 =>
  ld1 t76 w fun t77 =>
  ia 6 t77 x9 fun t79 =>
  fa 3 t79 fun t80 =>
  ld1 t80 w fun t81 =>
  bsl 3 1 1 (zc Try.prog 3) #[(0, t81)] w fun t82 w =>
  app 3 1 8 (zc Try.prog 3) x6 t82 w fun t83 w =>
  ref07_sums_s1 R N1 x2 x3 x5 t83 x9 w)
  (ref07_sums_s1 R N1 x2 x3 x5 x6 x9 w)
theorem ref07_sums_s2_eq (R : Value → World → Prop) (N1 : List Value → World → Prop) : ∀ e w, lift Try.prog 112 (sub (bodyOf Try.f71) [1, 1, 1, 0, 1, 0, 0, 1, 0, 0, 1]) (blockK 3 (seqK (fun e w => ref07_sums_s1 R N1 (e 2) (e 3) (e 5) (e 6) (e 9) w) (seqK (fun e w => N1 [e 2, e 3, e 5, e 6, e 9] w) (blockK 2 (seqK (fun e w => ref07_sums_s0 R (e 3) (e 5) (e 6) w) (finK Try.prog Try.f71.results.toList R)))))) e w = ref07_sums_s2 R N1 (e 2) (e 3) (e 5) (e 6) (e 9) (e 74) w := fun e w => by kernel_rfl
def ref07_sums_s3 (R : Value → World → Prop) (N1 : List Value → World → Prop) (x2 x3 x5 x6 x9 : Value) (w : World) : Prop :=
  fa 2 x2 fun t55 =>
  ld1 t55 (World.drew w) fun t56 =>
  ia 6 t56 x9 fun t58 =>
  fa 1 t58 fun t59 =>
  ld1 t59 (World.drew w) fun t60 =>
  fa 0 x3 fun t61 =>
  ld1 t61 (World.drew w) fun t62 =>
  qG Try.prog (bq .eql 9 (.tmp 60) (.tmp 62) t60 t62) (World.drew w) fun t63 =>
  bV t63
  (fa 2 x2 fun t65 =>
  ld1 t65 (World.drew w) fun t66 =>
  ia 6 t66 x9 fun t68 =>
  fa 2 t68 fun t69 =>
  ld1 t69 (World.drew w) fun t70 =>
  fa 1 x3 fun t71 =>
  ld1 t71 (World.drew w) fun t72 =>
  qG Try.prog (bq .eql 9 (.tmp 70) (.tmp 72) t70 t72) (World.drew w) fun t73 =>
  ref07_sums_s2 R N1 x2 x3 x5 x6 x9 t73 (World.drew w))
  (ref07_sums_s2 R N1 x2 x3 x5 x6 x9 (.bool false) (World.drew w))
theorem ref07_sums_s3_eq (R : Value → World → Prop) (N1 : List Value → World → Prop) : ∀ e w, lift Try.prog 112 (sub (bodyOf Try.f71) [1, 1, 1, 0, 1, 0, 0, 1, 0, 0]) (blockK 3 (seqK (fun e w => ref07_sums_s1 R N1 (e 2) (e 3) (e 5) (e 6) (e 9) w) (seqK (fun e w => N1 [e 2, e 3, e 5, e 6, e 9] w) (blockK 2 (seqK (fun e w => ref07_sums_s0 R (e 3) (e 5) (e 6) w) (finK Try.prog Try.f71.results.toList R)))))) e w = ref07_sums_s3 R N1 (e 2) (e 3) (e 5) (e 6) (e 9) w :=
  segs_eq (l := [(sub (bodyOf Try.f71) [1, 1, 1, 0, 1, 0, 0, 1, 0, 0, 0])]) (y := (sub (bodyOf Try.f71) [1, 1, 1, 0, 1, 0, 0, 1, 0, 0, 1])) (Y := (fun e w => ref07_sums_s2 R N1 (e 2) (e 3) (e 5) (e 6) (e 9) (e 74) w)) (ref07_sums_s2_eq R N1) (fun e w => by kernel_rfl)
def ref07_sums_s4 (R : Value → World → Prop) (N1 : List Value → World → Prop) (x2 x3 x5 x6 x9 : Value) (w : World) : Prop :=
  fa 2 x2 fun t49 =>
  ld1 t49 w fun t50 =>
  lenL t50 fun t51 =>
  qG Try.prog (bq .lss 3 (.tmp 48) (.tmp 51) x9 t51) w fun t52 =>
  bV t52
  (ref07_sums_s3 R N1 x2 x3 x5 x6 x9 w)
  (ref07_sums_s0 R x3 x5 x6 w)
theorem ref07_sums_s4_eq (R : Value → World → Prop) (N1 : List Value → World → Prop) : ∀ e w, lift Try.prog 112 (sub (bodyOf Try.f71) [1, 1, 1, 0, 1, 0, 0]) (seqK (fun e w => N1 [e 2, e 3, e 5, e 6, e 9] w) (blockK 2 (seqK (fun e w => ref07_sums_s0 R (e 3) (e 5) (e 6) w) (finK Try.prog Try.f71.results.toList R)))) e w = ref07_sums_s4 R N1 (e 2) (e 3) (e 5) (e 6) (e 9) w :=
  segs_eq (l := [(sub (bodyOf Try.f71) [1, 1, 1, 0, 1, 0, 0, 0])]) (y := (sub (bodyOf Try.f71) [1, 1, 1, 0, 1, 0, 0, 1])) (Y := (fun e w => ref07_sums_s3 R N1 (e 2) (e 3) (e 5) (e 6) (e 9) w)) (seq_seg (x := (sub (bodyOf Try.f71) [1, 1, 1, 0, 1, 0, 0, 1, 0])) (y := (sub (bodyOf Try.f71) [1, 1, 1, 0, 1, 0, 0, 1, 1])) (ref07_sums_s1_eq R N1) (ref07_sums_s3_eq R N1)) (fun e w => by kernel_rfl)
def ref07_sums_L5F (R : Value → World → Prop) (N1 : List Value → World → Prop) (xs : List Value) (w : World) : Prop :=
  match xs with
  | [x2, x3, x5, x6, x9] => ref07_sums_s4 R N1 x2 x3 x5 x6 x9 w
  | _ => False
def ref07_sums_L5 (R : Value → World → Prop) (x2 x3 x5 x6 x9 : Value) (w : World) : Prop :=
  ∃ m, loopV (ref07_sums_L5F R) m [x2, x3, x5, x6, x9] w
theorem ref07_sums_L5_eq (R : Value → World → Prop) : ∀ e w, lift Try.prog 112 (sub (bodyOf Try.f71) [1, 1, 1, 0, 1, 0]) (blockK 2 (seqK (fun e w => ref07_sums_s0 R (e 3) (e 5) (e 6) w) (finK Try.prog Try.f71.results.toList R))) e w = ref07_sums_L5 R (e 2) (e 3) (e 5) (e 6) (e 9) w := loop_seg (F := ref07_sums_L5F R) (sel := fun e => [e 2, e 3, e 5, e 6, e 9]) fun N1 => (ref07_sums_s4_eq R N1)
def ref07_sums_s6 (R : Value → World → Prop) (x2 x3 x5 x6 : Value) (w : World) : Prop :=
  ref07_sums_L5 R x2 x3 x5 x6 (.int .i64 0) w
theorem ref07_sums_s6_eq (R : Value → World → Prop) : ∀ e w, lift Try.prog 112 (sub (bodyOf Try.f71) [1, 1, 1, 0]) (seqK (fun e w => ref07_sums_s0 R (e 3) (e 5) (e 6) w) (finK Try.prog Try.f71.results.toList R)) e w = ref07_sums_s6 R (e 2) (e 3) (e 5) (e 6) w :=
  segs_eq (l := [(sub (bodyOf Try.f71) [1, 1, 1, 0, 0])]) (y := (sub (bodyOf Try.f71) [1, 1, 1, 0, 1])) (Y := (fun e w => ref07_sums_L5 R (e 2) (e 3) (e 5) (e 6) (e 9) w)) (ref07_sums_L5_eq R) (fun e w => by kernel_rfl)
def ref07_sums_b7 (R : Value → World → Prop) (N1 : List Value → World → Prop) (x2 x3 x5 x6 x7 : Value) (w : World) : Prop :=
  fa 1 x2 fun t15 =>
  ld1 t15 w fun t16 =>
  lenL t16 fun t17 =>
  qG Try.prog (bq .lss 3 (.tmp 14) (.tmp 17) x7 t17) w fun t18 =>
  bV t18
  (fa 1 x2 fun t21 =>
  ld1 t21 w fun t22 =>
  ia 6 t22 x7 fun t24 =>
  ldn 6 t24 w fun t25 =>
  newG (zc Try.prog 34) 34 w fun t8 w =>
  stn 6 t8 t25 w fun w =>
  fa 1 t8 fun t26 =>
  ld1 t26 w fun t27 =>
  fa 0 x3 fun t28 =>
  ld1 t28 w fun t29 =>
  qG Try.prog (bq .eql 9 (.tmp 27) (.tmp 29) t27 t29) w fun t30 =>
  bV t30
  (fa 2 t8 fun t32 =>
  ld1 t32 w fun t33 =>
  fa 1 x3 fun t34 =>
  ld1 t34 w fun t35 =>
  qG Try.prog (bq .eql 9 (.tmp 33) (.tmp 35) t33 t35) w fun t36 =>
  bV t36
  (fa 4 t8 fun t39 =>
  ld1 t39 w fun t40 =>
  qG Try.prog (bq .eql 3 (.tmp 40) (.const (.int .i64 0)) t40 (.int .i64 0)) w fun t41 =>
  bV t41
  (fa 3 t8 fun t44 =>
  ld1 t44 w fun t45 =>
  bsl 3 1 1 (zc Try.prog 3) #[(0, t45)] w fun t46 w =>
  app 3 1 8 (zc Try.prog 3) x5 t46 w fun t47 w =>
  qG Try.prog (bq .add 3 (.tmp 19) (.const (.int .i64 1)) x7 (.int .i64 1)) w fun t20 =>
  N1 [x2, x3, t47, x6, t20] w)
  (qG Try.prog (bq .add 3 (.tmp 19) (.const (.int .i64 1)) x7 (.int .i64 1)) w fun t20_1 =>
  N1 [x2, x3, x5, x6, t20_1] w))
  (qG Try.prog (bq .add 3 (.tmp 19) (.const (.int .i64 1)) x7 (.int .i64 1)) w fun t20_2 =>
  N1 [x2, x3, x5, x6, t20_2] w))
  (qG Try.prog (bq .add 3 (.tmp 19) (.const (.int .i64 1)) x7 (.int .i64 1)) w fun t20_3 =>
  N1 [x2, x3, x5, x6, t20_3] w))
  (ref07_sums_s6 R x2 x3 x5 x6 w)
theorem ref07_sums_b7_eq (R : Value → World → Prop) (N1 : List Value → World → Prop) : ∀ e w, lift Try.prog 112 (sub (bodyOf Try.f71) [1, 1, 0, 1, 0, 0]) (seqK (fun e w => N1 [e 2, e 3, e 5, e 6, e 7] w) (blockK 0 (seqK (fun e w => ref07_sums_s6 R (e 2) (e 3) (e 5) (e 6) w) (finK Try.prog Try.f71.results.toList R)))) e w = ref07_sums_b7 R N1 (e 2) (e 3) (e 5) (e 6) (e 7) w := fun e w => by kernel_rfl
def ref07_sums_L8F (R : Value → World → Prop) (N1 : List Value → World → Prop) (xs : List Value) (w : World) : Prop :=
  match xs with
  | [x2, x3, x5, x6, x7] => ref07_sums_b7 R N1 x2 x3 x5 x6 x7 w
  | _ => False
def ref07_sums_L8 (R : Value → World → Prop) (x2 x3 x5 x6 x7 : Value) (w : World) : Prop :=
  ∃ m, loopV (ref07_sums_L8F R) m [x2, x3, x5, x6, x7] w
theorem ref07_sums_L8_eq (R : Value → World → Prop) : ∀ e w, lift Try.prog 112 (sub (bodyOf Try.f71) [1, 1, 0, 1, 0]) (blockK 0 (seqK (fun e w => ref07_sums_s6 R (e 2) (e 3) (e 5) (e 6) w) (finK Try.prog Try.f71.results.toList R))) e w = ref07_sums_L8 R (e 2) (e 3) (e 5) (e 6) (e 7) w := loop_seg (F := ref07_sums_L8F R) (sel := fun e => [e 2, e 3, e 5, e 6, e 7]) fun N1 => (ref07_sums_b7_eq R N1)
def ref07_sums_s9 (R : Value → World → Prop) (x2 x3 x5 x6 : Value) (w : World) : Prop :=
  ref07_sums_L8 R x2 x3 x5 x6 (.int .i64 0) w
theorem ref07_sums_s9_eq (R : Value → World → Prop) : ∀ e w, lift Try.prog 112 (sub (bodyOf Try.f71) [1, 1, 0]) (seqK (fun e w => ref07_sums_s6 R (e 2) (e 3) (e 5) (e 6) w) (finK Try.prog Try.f71.results.toList R)) e w = ref07_sums_s9 R (e 2) (e 3) (e 5) (e 6) w :=
  segs_eq (l := [(sub (bodyOf Try.f71) [1, 1, 0, 0])]) (y := (sub (bodyOf Try.f71) [1, 1, 0, 1])) (Y := (fun e w => ref07_sums_L8 R (e 2) (e 3) (e 5) (e 6) (e 7) w)) (ref07_sums_L8_eq R) (fun e w => by kernel_rfl)
def ref07_sums_s10 (R : Value → World → Prop) (x0 x1 : Value) (w : World) : Prop :=
  newG (Value.cells x0) 60 w fun t2 w =>
  newG (Value.cells x1) 44 w fun t3 w =>
  ref07_sums_s9 R t2 t3 (.slice none 0 0) (.slice none 0 0) w
theorem ref07_sums_s10_eq (R : Value → World → Prop) : ∀ e w, lift Try.prog 112 (bodyOf Try.f71) (finK Try.prog Try.f71.results.toList R) e w = ref07_sums_s10 R (e 0) (e 1) w :=
  segs_eq (l := [(sub (bodyOf Try.f71) [0]), (sub (bodyOf Try.f71) [1, 0])]) (y := (sub (bodyOf Try.f71) [1, 1])) (Y := (fun e w => ref07_sums_s9 R (e 2) (e 3) (e 5) (e 6) w)) (seq_seg (x := (sub (bodyOf Try.f71) [1, 1, 0])) (y := (sub (bodyOf Try.f71) [1, 1, 1])) (seq_seg (x := (sub (bodyOf Try.f71) [1, 1, 1, 0])) (y := (sub (bodyOf Try.f71) [1, 1, 1, 1])) (ref07_sums_s0_eq R) (ref07_sums_s6_eq R)) (ref07_sums_s9_eq R)) (fun e w => by kernel_rfl)
def ref07_sums (R : Value → World → Prop) (x0 x1 : Value) (w : World) : Prop := ref07_sums_s10 R x0 x1 w
theorem ref07_sums_call {R : Value → World → Prop} {x0 x1 : Value} {w : World} (h : ref07_sums R x0 x1 w) : callG Try.prog 71 #[x0, x1] w R :=
  calls_lift_eq Try.mixed Try.func71 (args := [x0, x1]) rfl rfl rfl rfl ((ref07_sums_s10_eq R) (envOf [x0, x1]) w) (by kernel_rfl) h
/-! quayside/quaysideref07.holds -/
def ref07_holds_s0 (R : Value → World → Prop) (w : World) : Prop :=
  R (.bool true) w
theorem ref07_holds_s0_eq (R : Value → World → Prop) : ∀ e w, lift Try.prog 66 (sub (bodyOf Try.f72) [1, 1]) (finK Try.prog Try.f72.results.toList R) e w = ref07_holds_s0 R w := fun e w => by kernel_rfl
def ref07_holds_s1 (R : Value → World → Prop) (N1 : List Value → World → Prop) (x1 x3 : Value) (w : World) : Prop :=
  qG Try.prog (bq .add 3 (.tmp 10) (.const (.int .i64 1)) x3 (.int .i64 1)) w fun t11 =>
  N1 [x1, t11] w
theorem ref07_holds_s1_eq (R : Value → World → Prop) (N1 : List Value → World → Prop) : ∀ e w, lift Try.prog 66 (sub (bodyOf Try.f72) [1, 0, 1, 0, 0, 1, 1]) (seqK (fun e w => N1 [e 1, e 3] w) (blockK 0 (seqK (fun e w => ref07_holds_s0 R  w) (finK Try.prog Try.f72.results.toList R)))) e w = ref07_holds_s1 R N1 (e 1) (e 3) w := fun e w => by kernel_rfl
def ref07_holds_s2 (R : Value → World → Prop) (N1 : List Value → World → Prop) (x1 x3 x4 : Value) (w : World) : Prop :=
  fa 4 x4 fun t54 =>
  ld1 t54 w fun t55 =>
  qG Try.prog (bq .eql 3 (.tmp 55) (.const (.int .i64 0)) t55 (.int .i64 0)) w fun t56 =>
  bV t56
  (ldn 4 x1 w fun t58 =>
  fa 1 x4 fun t59 =>
  ld1 t59 w fun t60 =>
  fa 2 x4 fun t61 =>
  ld1 t61 w fun t62 =>
  callG Try.prog 99 #[t58, t60, t62] w fun t63 w =>
  qG Try.prog (bq .lss 3 (.tmp 63) (.const (.int .i64 0)) t63 (.int .i64 0)) w fun t64 =>
  bV t64
  (R (.bool false) w)
  (ref07_holds_s1 R N1 x1 x3 w))
  (ref07_holds_s1 R N1 x1 x3 w)
theorem ref07_holds_s2_eq (R : Value → World → Prop) (N1 : List Value → World → Prop) : ∀ e w, lift Try.prog 66 (sub (bodyOf Try.f72) [1, 0, 1, 0, 0, 1, 0, 0, 1, 1]) (blockK 1 (seqK (fun e w => ref07_holds_s1 R N1 (e 1) (e 3) w) (seqK (fun e w => N1 [e 1, e 3] w) (blockK 0 (seqK (fun e w => ref07_holds_s0 R  w) (finK Try.prog Try.f72.results.toList R)))))) e w = ref07_holds_s2 R N1 (e 1) (e 3) (e 4) w := fun e w => by kernel_rfl
def ref07_holds_s3 (R : Value → World → Prop) (N1 : List Value → World → Prop) (x1 x3 : Value) (w : World) : Prop :=
  fa 1 x1 fun t12 =>
  ld1 t12 w fun t13 =>
  ia 6 t13 x3 fun t15 =>
  ldn 6 t15 w fun t16 =>
  newG (zc Try.prog 34) 34 w fun t4 w =>
  stn 6 t4 t16 w fun w =>
  fa 0 t4 fun t17 =>
  ld1 t17 w fun t18 =>
  qG Try.prog (bq .sub 3 (.tmp 18) (.const (.int .i64 1)) t18 (.int .i64 1)) w fun t19 =>
  qG Try.prog (bq .neq 3 (.tmp 19) (.tmp 20) t19 x3) w fun t21 =>
  bV t21
  (R (.bool false) w)
  (fa 1 t4 fun t23 =>
  ld1 t23 w fun t24 =>
  callG Try.prog 69 #[t24] w fun t25 w =>
  qG Try.prog (Op.unary .not t25) w fun t26 =>
  bV t26
  (R (.bool false) w)
  (fa 2 t4 fun t29 =>
  ld1 t29 w fun t30 =>
  callG Try.prog 69 #[t30] w fun t31 w =>
  qG Try.prog (Op.unary .not t31) w fun t32 =>
  bV t32
  (R (.bool false) w)
  (fa 3 t4 fun t35 =>
  ld1 t35 w fun t36 =>
  qG Try.prog (bq .lss 3 (.tmp 36) (.const (.int .i64 1)) t36 (.int .i64 1)) w fun t37 =>
  bV t37
  (R (.bool false) w)
  (fa 4 t4 fun t40 =>
  ld1 t40 w fun t41 =>
  qG Try.prog (bq .lss 3 (.tmp 41) (.const (.int .i64 0)) t41 (.int .i64 0)) w fun t42 =>
  bV t42
  (R (.bool false) w)
  (fa 4 t4 fun t45 =>
  ld1 t45 w fun t46 =>
  qG Try.prog (bq .gtr 3 (.tmp 46) (.const (.int .i64 2)) t46 (.int .i64 2)) w fun t47 =>
  bV t47
  (R (.bool false) w)
  (fa 5 t4 fun t50 =>
  ld1 t50 w fun t51 =>
  qG Try.prog (bq .lss 3 (.tmp 51) (.const (.int .i64 0)) t51 (.int .i64 0)) w fun t52 =>
  bV t52
  (R (.bool false) w)
  (ref07_holds_s2 R N1 x1 x3 t4 w)))))))
theorem ref07_holds_s3_eq (R : Value → World → Prop) (N1 : List Value → World → Prop) : ∀ e w, lift Try.prog 66 (sub (bodyOf Try.f72) [1, 0, 1, 0, 0, 1, 0, 0]) (blockK 1 (seqK (fun e w => ref07_holds_s1 R N1 (e 1) (e 3) w) (seqK (fun e w => N1 [e 1, e 3] w) (blockK 0 (seqK (fun e w => ref07_holds_s0 R  w) (finK Try.prog Try.f72.results.toList R)))))) e w = ref07_holds_s3 R N1 (e 1) (e 3) w :=
  segs_eq (l := [(sub (bodyOf Try.f72) [1, 0, 1, 0, 0, 1, 0, 0, 0]), (sub (bodyOf Try.f72) [1, 0, 1, 0, 0, 1, 0, 0, 1, 0])]) (y := (sub (bodyOf Try.f72) [1, 0, 1, 0, 0, 1, 0, 0, 1, 1])) (Y := (fun e w => ref07_holds_s2 R N1 (e 1) (e 3) (e 4) w)) (ref07_holds_s2_eq R N1) (fun e w => by kernel_rfl)
def ref07_holds_s4 (R : Value → World → Prop) (N1 : List Value → World → Prop) (x1 x3 : Value) (w : World) : Prop :=
  fa 1 x1 fun t6 =>
  ld1 t6 w fun t7 =>
  lenL t7 fun t8 =>
  qG Try.prog (bq .lss 3 (.tmp 5) (.tmp 8) x3 t8) w fun t9 =>
  bV t9
  (ref07_holds_s3 R N1 x1 x3 w)
  (ref07_holds_s0 R  w)
theorem ref07_holds_s4_eq (R : Value → World → Prop) (N1 : List Value → World → Prop) : ∀ e w, lift Try.prog 66 (sub (bodyOf Try.f72) [1, 0, 1, 0, 0]) (seqK (fun e w => N1 [e 1, e 3] w) (blockK 0 (seqK (fun e w => ref07_holds_s0 R  w) (finK Try.prog Try.f72.results.toList R)))) e w = ref07_holds_s4 R N1 (e 1) (e 3) w :=
  segs_eq (l := [(sub (bodyOf Try.f72) [1, 0, 1, 0, 0, 0])]) (y := (sub (bodyOf Try.f72) [1, 0, 1, 0, 0, 1])) (Y := (fun e w => ref07_holds_s3 R N1 (e 1) (e 3) w)) (seq_seg (x := (sub (bodyOf Try.f72) [1, 0, 1, 0, 0, 1, 0])) (y := (sub (bodyOf Try.f72) [1, 0, 1, 0, 0, 1, 1])) (ref07_holds_s1_eq R N1) (ref07_holds_s3_eq R N1)) (fun e w => by kernel_rfl)
def ref07_holds_L5F (R : Value → World → Prop) (N1 : List Value → World → Prop) (xs : List Value) (w : World) : Prop :=
  match xs with
  | [x1, x3] => ref07_holds_s4 R N1 x1 x3 w
  | _ => False
def ref07_holds_L5 (R : Value → World → Prop) (x1 x3 : Value) (w : World) : Prop :=
  ∃ m, loopV (ref07_holds_L5F R) m [x1, x3] w
theorem ref07_holds_L5_eq (R : Value → World → Prop) : ∀ e w, lift Try.prog 66 (sub (bodyOf Try.f72) [1, 0, 1, 0]) (blockK 0 (seqK (fun e w => ref07_holds_s0 R  w) (finK Try.prog Try.f72.results.toList R))) e w = ref07_holds_L5 R (e 1) (e 3) w := loop_seg (F := ref07_holds_L5F R) (sel := fun e => [e 1, e 3]) fun N1 => (ref07_holds_s4_eq R N1)
def ref07_holds_s6 (R : Value → World → Prop) (x1 : Value) (w : World) : Prop :=
  ref07_holds_L5 R x1 (.int .i64 0) w
theorem ref07_holds_s6_eq (R : Value → World → Prop) : ∀ e w, lift Try.prog 66 (sub (bodyOf Try.f72) [1, 0]) (seqK (fun e w => ref07_holds_s0 R  w) (finK Try.prog Try.f72.results.toList R)) e w = ref07_holds_s6 R (e 1) w :=
  segs_eq (l := [(sub (bodyOf Try.f72) [1, 0, 0])]) (y := (sub (bodyOf Try.f72) [1, 0, 1])) (Y := (fun e w => ref07_holds_L5 R (e 1) (e 3) w)) (ref07_holds_L5_eq R) (fun e w => by kernel_rfl)
def ref07_holds_s7 (R : Value → World → Prop) (x0 : Value) (w : World) : Prop :=
  newG (Value.cells x0) 60 w fun t1 w =>
  ref07_holds_s6 R t1 w
theorem ref07_holds_s7_eq (R : Value → World → Prop) : ∀ e w, lift Try.prog 66 (bodyOf Try.f72) (finK Try.prog Try.f72.results.toList R) e w = ref07_holds_s7 R (e 0) w :=
  segs_eq (l := [(sub (bodyOf Try.f72) [0])]) (y := (sub (bodyOf Try.f72) [1])) (Y := (fun e w => ref07_holds_s6 R (e 1) w)) (seq_seg (x := (sub (bodyOf Try.f72) [1, 0])) (y := (sub (bodyOf Try.f72) [1, 1])) (ref07_holds_s0_eq R) (ref07_holds_s6_eq R)) (fun e w => by kernel_rfl)
def ref07_holds (R : Value → World → Prop) (x0 : Value) (w : World) : Prop := ref07_holds_s7 R x0 w
theorem ref07_holds_call {R : Value → World → Prop} {x0 : Value} {w : World} (h : ref07_holds R x0 w) : callG Try.prog 72 #[x0] w R :=
  calls_lift_eq Try.mixed Try.func72 (args := [x0]) rfl rfl rfl rfl ((ref07_holds_s7_eq R) (envOf [x0]) w) (by kernel_rfl) h
/-! quayside/quaysideref07.moves -/
def ref07_moves_s0 (R : Value → World → Prop) (w : World) : Prop :=
  R (.bool true) w
theorem ref07_moves_s0_eq (R : Value → World → Prop) : ∀ e w, lift Try.prog 85 (sub (bodyOf Try.f73) [1, 1]) (finK Try.prog Try.f73.results.toList R) e w = ref07_moves_s0 R w := fun e w => by kernel_rfl
def ref07_moves_s1 (R : Value → World → Prop) (N1 : List Value → World → Prop) (x1 x3 : Value) (w : World) : Prop :=
  qG Try.prog (bq .add 3 (.tmp 11) (.const (.int .i64 1)) x3 (.int .i64 1)) w fun t12 =>
  N1 [x1, t12] w
theorem ref07_moves_s1_eq (R : Value → World → Prop) (N1 : List Value → World → Prop) : ∀ e w, lift Try.prog 85 (sub (bodyOf Try.f73) [1, 0, 1, 0, 0, 1, 1]) (seqK (fun e w => N1 [e 1, e 3] w) (blockK 0 (seqK (fun e w => ref07_moves_s0 R  w) (finK Try.prog Try.f73.results.toList R)))) e w = ref07_moves_s1 R N1 (e 1) (e 3) w := fun e w => by kernel_rfl
def ref07_moves_s2 (R : Value → World → Prop) (N1 : List Value → World → Prop) (x1 x3 x4 x5 : Value) (w : World) : Prop :=
  fa 0 x4 fun t36 =>
  ld1 t36 w fun t37 =>
  qG Try.prog (bq .sub 3 (.tmp 37) (.const (.int .i64 1)) t37 (.int .i64 1)) w fun t38 =>
  qG Try.prog (bq .neq 3 (.tmp 38) (.tmp 39) t38 x3) w fun t40 =>
  bV t40
  (R (.bool false) w)
  (fa 1 x4 fun t42 =>
  ld1 t42 w fun t43 =>
  callG Try.prog 69 #[t43] w fun t44 w =>
  qG Try.prog (Op.unary .not t44) w fun t45 =>
  bV t45
  (R (.bool false) w)
  (fa 2 x4 fun t48 =>
  ld1 t48 w fun t49 =>
  callG Try.prog 69 #[t49] w fun t50 w =>
  qG Try.prog (Op.unary .not t50) w fun t51 =>
  bV t51
  (R (.bool false) w)
  (fa 3 x4 fun t54 =>
  ld1 t54 w fun t55 =>
  qG Try.prog (bq .eql 3 (.tmp 55) (.const (.int .i64 0)) t55 (.int .i64 0)) w fun t56 =>
  bV t56
  (R (.bool false) w)
  (qG Try.prog (Op.unary .not x5) w fun t60 =>
  bV t60
  (R (.bool false) w)
  (fa 5 x4 fun t63 =>
  ld1 t63 w fun t64 =>
  qG Try.prog (bq .lss 3 (.tmp 64) (.const (.int .i64 0)) t64 (.int .i64 0)) w fun t65 =>
  bV t65
  (R (.bool false) w)
  (fa 5 x4 fun t68 =>
  ld1 t68 w fun t69 =>
  qG Try.prog (bq .neq 3 (.tmp 69) (.const (.int .i64 0)) t69 (.int .i64 0)) w fun t70 =>
  fa 4 x4 fun t71 =>
  ld1 t71 w fun t72 =>
  qG Try.prog (bq .eql 3 (.tmp 72) (.const (.int .i64 3)) t72 (.int .i64 3)) w fun t73 =>
  qG Try.prog (bq .neq 4 (.tmp 70) (.tmp 73) t70 t73) w fun t74 =>
  bV t74
  (R (.bool false) w)
  (ldn 4 x1 w fun t77 =>
  fa 1 x4 fun t78 =>
  ld1 t78 w fun t79 =>
  fa 2 x4 fun t80 =>
  ld1 t80 w fun t81 =>
  callG Try.prog 99 #[t77, t79, t81] w fun t82 w =>
  qG Try.prog (bq .lss 3 (.tmp 82) (.const (.int .i64 0)) t82 (.int .i64 0)) w fun t83 =>
  bV t83
  (R (.bool false) w)
  (ref07_moves_s1 R N1 x1 x3 w))))))))
theorem ref07_moves_s2_eq (R : Value → World → Prop) (N1 : List Value → World → Prop) : ∀ e w, lift Try.prog 85 (sub (bodyOf Try.f73) [1, 0, 1, 0, 0, 1, 0, 0, 1, 1]) (blockK 1 (seqK (fun e w => ref07_moves_s1 R N1 (e 1) (e 3) w) (seqK (fun e w => N1 [e 1, e 3] w) (blockK 0 (seqK (fun e w => ref07_moves_s0 R  w) (finK Try.prog Try.f73.results.toList R)))))) e w = ref07_moves_s2 R N1 (e 1) (e 3) (e 4) (e 5) w := fun e w => by kernel_rfl
def ref07_moves_s3 (R : Value → World → Prop) (N1 : List Value → World → Prop) (x1 x3 : Value) (w : World) : Prop :=
  fa 2 x1 fun t13 =>
  ld1 t13 w fun t14 =>
  ia 6 t14 x3 fun t16 =>
  ldn 6 t16 w fun t17 =>
  newG (zc Try.prog 50) 50 w fun t4 w =>
  stn 6 t4 t17 w fun w =>
  fa 4 t4 fun t18 =>
  ld1 t18 w fun t19 =>
  qG Try.prog (bq .eql 3 (.tmp 19) (.const (.int .i64 1)) t19 (.int .i64 1)) w fun t20 =>
  bV t20
  (ref07_moves_s2 R N1 x1 x3 t4 (.bool true) w)
  (fa 4 t4 fun t22 =>
  ld1 t22 w fun t23 =>
  qG Try.prog (bq .eql 3 (.tmp 23) (.const (.int .i64 3)) t23 (.int .i64 3)) w fun t24 =>
  bV t24
  (ref07_moves_s2 R N1 x1 x3 t4 (.bool true) w)
  (fa 4 t4 fun t27 =>
  ld1 t27 w fun t28 =>
  qG Try.prog (bq .eql 3 (.tmp 28) (.const (.int .i64 6)) t28 (.int .i64 6)) w fun t29 =>
  bV t29
  (ref07_moves_s2 R N1 x1 x3 t4 (.bool true) w)
  (fa 4 t4 fun t32 =>
  ld1 t32 w fun t33 =>
  qG Try.prog (bq .eql 3 (.tmp 33) (.const (.int .i64 7)) t33 (.int .i64 7)) w fun t34 =>
  ref07_moves_s2 R N1 x1 x3 t4 t34 w)))
theorem ref07_moves_s3_eq (R : Value → World → Prop) (N1 : List Value → World → Prop) : ∀ e w, lift Try.prog 85 (sub (bodyOf Try.f73) [1, 0, 1, 0, 0, 1, 0, 0]) (blockK 1 (seqK (fun e w => ref07_moves_s1 R N1 (e 1) (e 3) w) (seqK (fun e w => N1 [e 1, e 3] w) (blockK 0 (seqK (fun e w => ref07_moves_s0 R  w) (finK Try.prog Try.f73.results.toList R)))))) e w = ref07_moves_s3 R N1 (e 1) (e 3) w :=
  segs_eq (l := [(sub (bodyOf Try.f73) [1, 0, 1, 0, 0, 1, 0, 0, 0]), (sub (bodyOf Try.f73) [1, 0, 1, 0, 0, 1, 0, 0, 1, 0])]) (y := (sub (bodyOf Try.f73) [1, 0, 1, 0, 0, 1, 0, 0, 1, 1])) (Y := (fun e w => ref07_moves_s2 R N1 (e 1) (e 3) (e 4) (e 5) w)) (ref07_moves_s2_eq R N1) (fun e w => by kernel_rfl)
def ref07_moves_s4 (R : Value → World → Prop) (N1 : List Value → World → Prop) (x1 x3 : Value) (w : World) : Prop :=
  fa 2 x1 fun t7 =>
  ld1 t7 w fun t8 =>
  lenL t8 fun t9 =>
  qG Try.prog (bq .lss 3 (.tmp 6) (.tmp 9) x3 t9) w fun t10 =>
  bV t10
  (ref07_moves_s3 R N1 x1 x3 w)
  (ref07_moves_s0 R  w)
theorem ref07_moves_s4_eq (R : Value → World → Prop) (N1 : List Value → World → Prop) : ∀ e w, lift Try.prog 85 (sub (bodyOf Try.f73) [1, 0, 1, 0, 0]) (seqK (fun e w => N1 [e 1, e 3] w) (blockK 0 (seqK (fun e w => ref07_moves_s0 R  w) (finK Try.prog Try.f73.results.toList R)))) e w = ref07_moves_s4 R N1 (e 1) (e 3) w :=
  segs_eq (l := [(sub (bodyOf Try.f73) [1, 0, 1, 0, 0, 0])]) (y := (sub (bodyOf Try.f73) [1, 0, 1, 0, 0, 1])) (Y := (fun e w => ref07_moves_s3 R N1 (e 1) (e 3) w)) (seq_seg (x := (sub (bodyOf Try.f73) [1, 0, 1, 0, 0, 1, 0])) (y := (sub (bodyOf Try.f73) [1, 0, 1, 0, 0, 1, 1])) (ref07_moves_s1_eq R N1) (ref07_moves_s3_eq R N1)) (fun e w => by kernel_rfl)
def ref07_moves_L5F (R : Value → World → Prop) (N1 : List Value → World → Prop) (xs : List Value) (w : World) : Prop :=
  match xs with
  | [x1, x3] => ref07_moves_s4 R N1 x1 x3 w
  | _ => False
def ref07_moves_L5 (R : Value → World → Prop) (x1 x3 : Value) (w : World) : Prop :=
  ∃ m, loopV (ref07_moves_L5F R) m [x1, x3] w
theorem ref07_moves_L5_eq (R : Value → World → Prop) : ∀ e w, lift Try.prog 85 (sub (bodyOf Try.f73) [1, 0, 1, 0]) (blockK 0 (seqK (fun e w => ref07_moves_s0 R  w) (finK Try.prog Try.f73.results.toList R))) e w = ref07_moves_L5 R (e 1) (e 3) w := loop_seg (F := ref07_moves_L5F R) (sel := fun e => [e 1, e 3]) fun N1 => (ref07_moves_s4_eq R N1)
def ref07_moves_s6 (R : Value → World → Prop) (x1 : Value) (w : World) : Prop :=
  ref07_moves_L5 R x1 (.int .i64 0) w
theorem ref07_moves_s6_eq (R : Value → World → Prop) : ∀ e w, lift Try.prog 85 (sub (bodyOf Try.f73) [1, 0]) (seqK (fun e w => ref07_moves_s0 R  w) (finK Try.prog Try.f73.results.toList R)) e w = ref07_moves_s6 R (e 1) w :=
  segs_eq (l := [(sub (bodyOf Try.f73) [1, 0, 0])]) (y := (sub (bodyOf Try.f73) [1, 0, 1])) (Y := (fun e w => ref07_moves_L5 R (e 1) (e 3) w)) (ref07_moves_L5_eq R) (fun e w => by kernel_rfl)
def ref07_moves_s7 (R : Value → World → Prop) (x0 : Value) (w : World) : Prop :=
  newG (Value.cells x0) 60 w fun t1 w =>
  ref07_moves_s6 R t1 w
theorem ref07_moves_s7_eq (R : Value → World → Prop) : ∀ e w, lift Try.prog 85 (bodyOf Try.f73) (finK Try.prog Try.f73.results.toList R) e w = ref07_moves_s7 R (e 0) w :=
  segs_eq (l := [(sub (bodyOf Try.f73) [0])]) (y := (sub (bodyOf Try.f73) [1])) (Y := (fun e w => ref07_moves_s6 R (e 1) w)) (seq_seg (x := (sub (bodyOf Try.f73) [1, 0])) (y := (sub (bodyOf Try.f73) [1, 1])) (ref07_moves_s0_eq R) (ref07_moves_s6_eq R)) (fun e w => by kernel_rfl)
def ref07_moves (R : Value → World → Prop) (x0 : Value) (w : World) : Prop := ref07_moves_s7 R x0 w
theorem ref07_moves_call {R : Value → World → Prop} {x0 : Value} {w : World} (h : ref07_moves R x0 w) : callG Try.prog 73 #[x0] w R :=
  calls_lift_eq Try.mixed Try.func73 (args := [x0]) rfl rfl rfl rfl ((ref07_moves_s7_eq R) (envOf [x0]) w) (by kernel_rfl) h
/-! quayside/quaysideref07.May -/
def ref07_May_s0 (R : Value → World → Prop) (x1 : Value) (w : World) : Prop :=
  ldn 4 x1 w fun t81 =>
  callG Try.prog 72 #[t81] w fun t82 w =>
  bV t82
  (ldn 4 x1 w fun t84 =>
  callG Try.prog 73 #[t84] w fun t85 w =>
  R t85 w)
  (R (.bool false) w)
theorem ref07_May_s0_eq (R : Value → World → Prop) : ∀ e w, lift Try.prog 87 (sub (bodyOf Try.f40) [1, 1, 1]) (finK Try.prog Try.f40.results.toList R) e w = ref07_May_s0 R (e 1) w := fun e w => by kernel_rfl
def ref07_May_b1 (R : Value → World → Prop) (N1 : List Value → World → Prop) (x1 x3 : Value) (w : World) : Prop :=
  fa 0 x1 fun t27 =>
  ld1 t27 w fun t28 =>
  lenL t28 fun t29 =>
  qG Try.prog (bq .lss 3 (.tmp 26) (.tmp 29) x3 t29) w fun t30 =>
  bV t30
  (fa 0 x1 fun t33 =>
  ld1 t33 w fun t34 =>
  ia 4 t34 x3 fun t36 =>
  ldn 4 t36 w fun t37 =>
  newG (zc Try.prog 44) 44 w fun t4 w =>
  stn 4 t4 t37 w fun w =>
  fa 0 t4 fun t38 =>
  ld1 t38 (World.drew w) fun t39 =>
  callG Try.prog 69 #[t39] (World.drew w) fun t40 w =>
  qG Try.prog (Op.unary .not t40) w fun t41 =>
  bV t41
  (R (.bool false) w)
  (fa 1 t4 fun t43 =>
  ld1 t43 w fun t44 =>
  callG Try.prog 69 #[t44] w fun t45 w =>
  qG Try.prog (Op.unary .not t45) w fun t46 =>
  bV t46
  (R (.bool false) w)
  (fa 3 t4 fun t49 =>
  ld1 t49 w fun t50 =>
  qG Try.prog (bq .lss 3 (.tmp 50) (.const (.int .i64 0)) t50 (.int .i64 0)) w fun t51 =>
  bV t51
  (R (.bool false) w)
  (fa 3 t4 fun t54 =>
  ld1 t54 w fun t55 =>
  fa 2 t4 fun t56 =>
  ld1 t56 w fun t57 =>
  qG Try.prog (bq .gtr 3 (.tmp 55) (.tmp 57) t55 t57) w fun t58 =>
  bV t58
  (R (.bool false) w)
  (qG Try.prog (bq .gtr 3 (.tmp 61) (.const (.int .i64 0)) x3 (.int .i64 0)) w fun t62 =>
  bV t62
  (fa 0 x1 fun t64 =>
  ld1 t64 w fun t65 =>
  qG Try.prog (bq .sub 3 (.tmp 66) (.const (.int .i64 1)) x3 (.int .i64 1)) w fun t67 =>
  ia 4 t65 t67 fun t68 =>
  ldn 4 t68 w fun t69 =>
  ldn 4 t4 w fun t70 =>
  callG Try.prog 70 #[t69, t70] w fun t71 w =>
  qG Try.prog (Op.unary .not t71) w fun t72 =>
  bV t72
  (R (.bool false) w)
  (ldn 4 x1 w fun t76 =>
  ldn 4 t4 w fun t77 =>
  callG Try.prog 71 #[t76, t77] w fun t78 w =>
  qG Try.prog (Op.unary .not t78) w fun t79 =>
  bV t79
  (R (.bool false) w)
  (qG Try.prog (bq .add 3 (.tmp 31) (.const (.int .i64 1)) x3 (.int .i64 1)) w fun t32 =>
  N1 [x1, t32] w)))
  (ldn 4 x1 w fun t76_1 =>
  ldn 4 t4 w fun t77_1 =>
  callG Try.prog 71 #[t76_1, t77_1] w fun t78_1 w =>
  qG Try.prog (Op.unary .not t78_1) w fun t79_1 =>
  bV t79_1
  (R (.bool false) w)
  (qG Try.prog (bq .add 3 (.tmp 31) (.const (.int .i64 1)) x3 (.int .i64 1)) w fun t32_1 =>
  N1 [x1, t32_1] w)))))))
  (ref07_May_s0 R x1 w)
theorem ref07_May_b1_eq (R : Value → World → Prop) (N1 : List Value → World → Prop) : ∀ e w, lift Try.prog 87 (sub (bodyOf Try.f40) [1, 1, 0, 1, 0, 0]) (seqK (fun e w => N1 [e 1, e 3] w) (blockK 0 (seqK (fun e w => ref07_May_s0 R (e 1) w) (finK Try.prog Try.f40.results.toList R)))) e w = ref07_May_b1 R N1 (e 1) (e 3) w := fun e w => by kernel_rfl
def ref07_May_L2F (R : Value → World → Prop) (N1 : List Value → World → Prop) (xs : List Value) (w : World) : Prop :=
  match xs with
  | [x1, x3] => ref07_May_b1 R N1 x1 x3 w
  | _ => False
def ref07_May_L2 (R : Value → World → Prop) (x1 x3 : Value) (w : World) : Prop :=
  ∃ m, loopV (ref07_May_L2F R) m [x1, x3] w
theorem ref07_May_L2_eq (R : Value → World → Prop) : ∀ e w, lift Try.prog 87 (sub (bodyOf Try.f40) [1, 1, 0, 1, 0]) (blockK 0 (seqK (fun e w => ref07_May_s0 R (e 1) w) (finK Try.prog Try.f40.results.toList R))) e w = ref07_May_L2 R (e 1) (e 3) w := loop_seg (F := ref07_May_L2F R) (sel := fun e => [e 1, e 3]) fun N1 => (ref07_May_b1_eq R N1)
def ref07_May_s3 (R : Value → World → Prop) (x1 : Value) (w : World) : Prop :=
  ref07_May_L2 R x1 (.int .i64 0) w
theorem ref07_May_s3_eq (R : Value → World → Prop) : ∀ e w, lift Try.prog 87 (sub (bodyOf Try.f40) [1, 1, 0]) (seqK (fun e w => ref07_May_s0 R (e 1) w) (finK Try.prog Try.f40.results.toList R)) e w = ref07_May_s3 R (e 1) w :=
  segs_eq (l := [(sub (bodyOf Try.f40) [1, 1, 0, 0])]) (y := (sub (bodyOf Try.f40) [1, 1, 0, 1])) (Y := (fun e w => ref07_May_L2 R (e 1) (e 3) w)) (ref07_May_L2_eq R) (fun e w => by kernel_rfl)
def ref07_May_s4 (R : Value → World → Prop) (x0 : Value) (w : World) : Prop :=
  newG (Value.cells x0) 60 w fun t1 w =>
  fa 3 t1 fun t5 =>
  ld1 t5 w fun t6 =>
  qG Try.prog (bq .lss 3 (.tmp 6) (.const (.int .i64 0)) t6 (.int .i64 0)) w fun t7 =>
  bV t7
  (R (.bool false) w)
  (fa 0 t1 fun t9 =>
  ld1 t9 w fun t10 =>
  lenL t10 fun t11 =>
  qG Try.prog (bq .gtr 3 (.tmp 11) (.const (.int .i64 4096)) t11 (.int .i64 4096)) w fun t12 =>
  bV t12
  (R (.bool false) w)
  (fa 1 t1 fun t15 =>
  ld1 t15 w fun t16 =>
  lenL t16 fun t17 =>
  qG Try.prog (bq .gtr 3 (.tmp 17) (.const (.int .i64 4096)) t17 (.int .i64 4096)) w fun t18 =>
  bV t18
  (R (.bool false) w)
  (fa 2 t1 fun t21 =>
  ld1 t21 w fun t22 =>
  lenL t22 fun t23 =>
  qG Try.prog (bq .gtr 3 (.tmp 23) (.const (.int .i64 4096)) t23 (.int .i64 4096)) w fun t24 =>
  bV t24
  (R (.bool false) w)
  (ref07_May_s3 R t1 w))))
theorem ref07_May_s4_eq (R : Value → World → Prop) : ∀ e w, lift Try.prog 87 (bodyOf Try.f40) (finK Try.prog Try.f40.results.toList R) e w = ref07_May_s4 R (e 0) w :=
  segs_eq (l := [(sub (bodyOf Try.f40) [0]), (sub (bodyOf Try.f40) [1, 0])]) (y := (sub (bodyOf Try.f40) [1, 1])) (Y := (fun e w => ref07_May_s3 R (e 1) w)) (seq_seg (x := (sub (bodyOf Try.f40) [1, 1, 0])) (y := (sub (bodyOf Try.f40) [1, 1, 1])) (ref07_May_s0_eq R) (ref07_May_s3_eq R)) (fun e w => by kernel_rfl)
def ref07_May (R : Value → World → Prop) (x0 : Value) (w : World) : Prop := ref07_May_s4 R x0 w
theorem ref07_May_call {R : Value → World → Prop} {x0 : Value} {w : World} (h : ref07_May R x0 w) : callG Try.prog 40 #[x0] w R :=
  calls_lift_eq Try.mixed Try.func40 (args := [x0]) rfl rfl rfl rfl ((ref07_May_s4_eq R) (envOf [x0]) w) (by kernel_rfl) h
/-! quayside/quaysideref07.Find -/
def ref07_Find_s0 (R : Value → World → Prop) (x0 x1 x2 : Value) (w : World) : Prop :=
  newG (Value.cells x0) 60 w fun t3 w =>
  newG (zc Try.prog 44) 44 w fun t6 w =>
  ldn 4 t3 w fun t8 =>
  callG Try.prog 99 #[t8, x1, x2] w fun t11 w =>
  qG Try.prog (bq .geq 3 (.tmp 12) (.const (.int .i64 0)) t11 (.int .i64 0)) w fun t13 =>
  bV t13
  (fa 0 t3 fun t14 =>
  ld1 t14 w fun t15 =>
  ia 4 t15 t11 fun t17 =>
  ldn 4 t17 w fun t18 =>
  stn 4 t6 t18 w fun w =>
  qG Try.prog (do loadVar 44 (← asAddr t6)) w fun r6 =>
  R r6 w)
  (bld [(0, 1), (1, 1), (2, 1), (3, 1)] (zc Try.prog 44) #[(0, x1), (1, x2)] fun t21 =>
  stn 4 t6 t21 w fun w =>
  qG Try.prog (do loadVar 44 (← asAddr t6)) w fun r6_1 =>
  R r6_1 w)
theorem ref07_Find_s0_eq (R : Value → World → Prop) : ∀ e w, lift Try.prog 22 (bodyOf Try.f117) (finK Try.prog Try.f117.results.toList R) e w = ref07_Find_s0 R (e 0) (e 1) (e 2) w := fun e w => by kernel_rfl
def ref07_Find (R : Value → World → Prop) (x0 x1 x2 : Value) (w : World) : Prop := ref07_Find_s0 R x0 x1 x2 w
theorem ref07_Find_call {R : Value → World → Prop} {x0 x1 x2 : Value} {w : World} (h : ref07_Find R x0 x1 x2 w) : callG Try.prog 117 #[x0, x1, x2] w R :=
  calls_lift_eq Try.mixed Try.func117 (args := [x0, x1, x2]) rfl rfl rfl rfl ((ref07_Find_s0_eq R) (envOf [x0, x1, x2]) w) (by kernel_rfl) h
/-! quayside/quaysideref07.Free -/
def ref07_Free_s0 (R : Value → World → Prop) (x0 x1 x2 : Value) (w : World) : Prop :=
  newG (Value.cells x0) 60 w fun t3 w =>
  ldn 4 t3 w fun t10 =>
  callG Try.prog 117 #[t10, x1, x2] w fun t13 w =>
  newG (zc Try.prog 44) 44 w fun t7 w =>
  stn 4 t7 t13 w fun w =>
  fa 2 t7 fun t15 =>
  ld1 t15 w fun t16 =>
  fa 3 t7 fun t17 =>
  ld1 t17 w fun t18 =>
  callG Try.prog 125 #[t16, t18] w fun t19 w =>
  qG Try.prog (Instr.extract t19 0) w fun t20 =>
  qG Try.prog (Instr.extract t19 1) w fun t21 =>
  R t20 w
theorem ref07_Free_s0_eq (R : Value → World → Prop) : ∀ e w, lift Try.prog 23 (bodyOf Try.f113) (finK Try.prog Try.f113.results.toList R) e w = ref07_Free_s0 R (e 0) (e 1) (e 2) w := fun e w => by kernel_rfl
def ref07_Free (R : Value → World → Prop) (x0 x1 x2 : Value) (w : World) : Prop := ref07_Free_s0 R x0 x1 x2 w
theorem ref07_Free_call {R : Value → World → Prop} {x0 x1 x2 : Value} {w : World} (h : ref07_Free R x0 x1 x2 w) : callG Try.prog 113 #[x0, x1, x2] w R :=
  calls_lift_eq Try.mixed Try.func113 (args := [x0, x1, x2]) rfl rfl rfl rfl ((ref07_Free_s0_eq R) (envOf [x0, x1, x2]) w) (by kernel_rfl) h
/-! quayside/quaysideref07.put -/
def ref07_put_s0 (R : Value → World → Prop) (x2 x3 x4 x5 x6 : Value) (w : World) : Prop :=
  qG Try.prog (Op.unary .not x6) w fun t60 =>
  bV t60
  (ldn 4 x3 w fun t62 =>
  bsl 44 4 1 (zc Try.prog 44) #[(0, t62)] w fun t63 w =>
  app 44 4 48 (zc Try.prog 44) x5 t63 w fun t64 w =>
  fa 0 x2 fun t66 =>
  st1 t66 t64 w fun w =>
  ldn 4 x2 w fun t67 =>
  stn 4 x4 t67 w fun w =>
  qG Try.prog (do loadVar 60 (← asAddr x4)) w fun r4 =>
  R r4 w)
  (fa 0 x2 fun t66_1 =>
  st1 t66_1 x5 w fun w =>
  ldn 4 x2 w fun t67_1 =>
  stn 4 x4 t67_1 w fun w =>
  qG Try.prog (do loadVar 60 (← asAddr x4)) w fun r4_1 =>
  R r4_1 w)
theorem ref07_put_s0_eq (R : Value → World → Prop) : ∀ e w, lift Try.prog 68 (sub (bodyOf Try.f124) [1, 1, 1, 1]) (finK Try.prog Try.f124.results.toList R) e w = ref07_put_s0 R (e 2) (e 3) (e 4) (e 5) (e 6) w := fun e w => by kernel_rfl
def ref07_put_s1 (R : Value → World → Prop) (N1 : List Value → World → Prop) (x2 x3 x4 x5 x6 x7 : Value) (w : World) : Prop :=
  qG Try.prog (bq .add 3 (.tmp 13) (.const (.int .i64 1)) x7 (.int .i64 1)) w fun t14 =>
  N1 [x2, x3, x4, x5, x6, t14] w
theorem ref07_put_s1_eq (R : Value → World → Prop) (N1 : List Value → World → Prop) : ∀ e w, lift Try.prog 68 (sub (bodyOf Try.f124) [1, 1, 1, 0, 1, 0, 0, 1, 1]) (seqK (fun e w => N1 [e 2, e 3, e 4, e 5, e 6, e 7] w) (blockK 0 (seqK (fun e w => ref07_put_s0 R (e 2) (e 3) (e 4) (e 5) (e 6) w) (finK Try.prog Try.f124.results.toList R)))) e w = ref07_put_s1 R N1 (e 2) (e 3) (e 4) (e 5) (e 6) (e 7) w := fun e w => by kernel_rfl
def ref07_put_s2 (R : Value → World → Prop) (N1 : List Value → World → Prop) (x2 x3 x4 x5 x6 x7 x50 : Value) (w : World) : Prop :=
  bV x50
  (fa 0 x2 fun t52 =>
  ld1 t52 w fun t53 =>
  ia 4 t53 x7 fun t55 =>
  ldn 4 t55 w fun t56 =>
  bsl 44 4 1 (zc Try.prog 44) #[(0, t56)] w fun t57 w =>
  app 44 4 48 (zc Try.prog 44) x5 t57 w fun t58 w =>
  ref07_put_s1 R N1 x2 x3 x4 t58 x6 x7 w)
  (ref07_put_s1 R N1 x2 x3 x4 x5 x6 x7 w)
theorem ref07_put_s2_eq (R : Value → World → Prop) (N1 : List Value → World → Prop) : ∀ e w, lift Try.prog 68 (sub (bodyOf Try.f124) [1, 1, 1, 0, 1, 0, 0, 1, 0, 0, 1, 1]) (blockK 1 (seqK (fun e w => ref07_put_s1 R N1 (e 2) (e 3) (e 4) (e 5) (e 6) (e 7) w) (seqK (fun e w => N1 [e 2, e 3, e 4, e 5, e 6, e 7] w) (blockK 0 (seqK (fun e w => ref07_put_s0 R (e 2) (e 3) (e 4) (e 5) (e 6) w) (finK Try.prog Try.f124.results.toList R)))))) e w = ref07_put_s2 R N1 (e 2) (e 3) (e 4) (e 5) (e 6) (e 7) (e 50) w := fun e w => by kernel_rfl
def ref07_put_s3 (R : Value → World → Prop) (N1 : List Value → World → Prop) (x2 x3 x4 x5 x6 x7 : Value) (w : World) : Prop :=
  fa 0 x2 fun t31 =>
  ld1 t31 (World.drew w) fun t32 =>
  ia 4 t32 x7 fun t34 =>
  fa 0 t34 fun t35 =>
  ld1 t35 (World.drew w) fun t36 =>
  fa 0 x3 fun t37 =>
  ld1 t37 (World.drew w) fun t38 =>
  qG Try.prog (bq .neq 9 (.tmp 36) (.tmp 38) t36 t38) (World.drew w) fun t39 =>
  bV t39
  (ref07_put_s2 R N1 x2 x3 x4 x5 x6 x7 (.bool true) (World.drew w))
  (fa 0 x2 fun t41 =>
  ld1 t41 (World.drew w) fun t42 =>
  ia 4 t42 x7 fun t44 =>
  fa 1 t44 fun t45 =>
  ld1 t45 (World.drew w) fun t46 =>
  fa 1 x3 fun t47 =>
  ld1 t47 (World.drew w) fun t48 =>
  qG Try.prog (bq .neq 9 (.tmp 46) (.tmp 48) t46 t48) (World.drew w) fun t49 =>
  ref07_put_s2 R N1 x2 x3 x4 x5 x6 x7 t49 (World.drew w))
theorem ref07_put_s3_eq (R : Value → World → Prop) (N1 : List Value → World → Prop) : ∀ e w, lift Try.prog 68 (sub (bodyOf Try.f124) [1, 1, 1, 0, 1, 0, 0, 1, 0, 0, 1]) (blockK 1 (seqK (fun e w => ref07_put_s1 R N1 (e 2) (e 3) (e 4) (e 5) (e 6) (e 7) w) (seqK (fun e w => N1 [e 2, e 3, e 4, e 5, e 6, e 7] w) (blockK 0 (seqK (fun e w => ref07_put_s0 R (e 2) (e 3) (e 4) (e 5) (e 6) w) (finK Try.prog Try.f124.results.toList R)))))) e w = ref07_put_s3 R N1 (e 2) (e 3) (e 4) (e 5) (e 6) (e 7) w :=
  segs_eq (l := [(sub (bodyOf Try.f124) [1, 1, 1, 0, 1, 0, 0, 1, 0, 0, 1, 0])]) (y := (sub (bodyOf Try.f124) [1, 1, 1, 0, 1, 0, 0, 1, 0, 0, 1, 1])) (Y := (fun e w => ref07_put_s2 R N1 (e 2) (e 3) (e 4) (e 5) (e 6) (e 7) (e 50) w)) (ref07_put_s2_eq R N1) (fun e w => by kernel_rfl)
def ref07_put_s4 (R : Value → World → Prop) (N1 : List Value → World → Prop) (x2 x3 x4 x5 x6 x7 : Value) (w : World) : Prop :=
  qG Try.prog (Op.unary .not x6) (World.drew w) fun t16 =>
  bV t16
  (fa 0 x2 fun t18 =>
  ld1 t18 (World.drew w) fun t19 =>
  ia 4 t19 x7 fun t21 =>
  ldn 4 t21 (World.drew w) fun t22 =>
  ldn 4 x3 (World.drew w) fun t23 =>
  callG Try.prog 70 #[t22, t23] (World.drew w) fun t24 w =>
  qG Try.prog (Op.unary .not t24) w fun t25 =>
  bV t25
  (ldn 4 x3 w fun t28 =>
  bsl 44 4 1 (zc Try.prog 44) #[(0, t28)] w fun t29 w =>
  app 44 4 48 (zc Try.prog 44) x5 t29 w fun t30 w =>
  ref07_put_s3 R N1 x2 x3 x4 t30 (.bool true) x7 w)
  (ref07_put_s3 R N1 x2 x3 x4 x5 x6 x7 w))
  (ref07_put_s3 R N1 x2 x3 x4 x5 x6 x7 (World.drew w))
theorem ref07_put_s4_eq (R : Value → World → Prop) (N1 : List Value → World → Prop) : ∀ e w, lift Try.prog 68 (sub (bodyOf Try.f124) [1, 1, 1, 0, 1, 0, 0, 1, 0, 0]) (blockK 1 (seqK (fun e w => ref07_put_s1 R N1 (e 2) (e 3) (e 4) (e 5) (e 6) (e 7) w) (seqK (fun e w => N1 [e 2, e 3, e 4, e 5, e 6, e 7] w) (blockK 0 (seqK (fun e w => ref07_put_s0 R (e 2) (e 3) (e 4) (e 5) (e 6) w) (finK Try.prog Try.f124.results.toList R)))))) e w = ref07_put_s4 R N1 (e 2) (e 3) (e 4) (e 5) (e 6) (e 7) w :=
  segs_eq (l := [(sub (bodyOf Try.f124) [1, 1, 1, 0, 1, 0, 0, 1, 0, 0, 0])]) (y := (sub (bodyOf Try.f124) [1, 1, 1, 0, 1, 0, 0, 1, 0, 0, 1])) (Y := (fun e w => ref07_put_s3 R N1 (e 2) (e 3) (e 4) (e 5) (e 6) (e 7) w)) (ref07_put_s3_eq R N1) (fun e w => by kernel_rfl)
def ref07_put_s5 (R : Value → World → Prop) (N1 : List Value → World → Prop) (x2 x3 x4 x5 x6 x7 : Value) (w : World) : Prop :=
  fa 0 x2 fun t9 =>
  ld1 t9 w fun t10 =>
  lenL t10 fun t11 =>
  qG Try.prog (bq .lss 3 (.tmp 8) (.tmp 11) x7 t11) w fun t12 =>
  bV t12
  (ref07_put_s4 R N1 x2 x3 x4 x5 x6 x7 w)
  (ref07_put_s0 R x2 x3 x4 x5 x6 w)
theorem ref07_put_s5_eq (R : Value → World → Prop) (N1 : List Value → World → Prop) : ∀ e w, lift Try.prog 68 (sub (bodyOf Try.f124) [1, 1, 1, 0, 1, 0, 0]) (seqK (fun e w => N1 [e 2, e 3, e 4, e 5, e 6, e 7] w) (blockK 0 (seqK (fun e w => ref07_put_s0 R (e 2) (e 3) (e 4) (e 5) (e 6) w) (finK Try.prog Try.f124.results.toList R)))) e w = ref07_put_s5 R N1 (e 2) (e 3) (e 4) (e 5) (e 6) (e 7) w :=
  segs_eq (l := [(sub (bodyOf Try.f124) [1, 1, 1, 0, 1, 0, 0, 0])]) (y := (sub (bodyOf Try.f124) [1, 1, 1, 0, 1, 0, 0, 1])) (Y := (fun e w => ref07_put_s4 R N1 (e 2) (e 3) (e 4) (e 5) (e 6) (e 7) w)) (seq_seg (x := (sub (bodyOf Try.f124) [1, 1, 1, 0, 1, 0, 0, 1, 0])) (y := (sub (bodyOf Try.f124) [1, 1, 1, 0, 1, 0, 0, 1, 1])) (ref07_put_s1_eq R N1) (ref07_put_s4_eq R N1)) (fun e w => by kernel_rfl)
def ref07_put_L6F (R : Value → World → Prop) (N1 : List Value → World → Prop) (xs : List Value) (w : World) : Prop :=
  match xs with
  | [x2, x3, x4, x5, x6, x7] => ref07_put_s5 R N1 x2 x3 x4 x5 x6 x7 w
  | _ => False
def ref07_put_L6 (R : Value → World → Prop) (x2 x3 x4 x5 x6 x7 : Value) (w : World) : Prop :=
  ∃ m, loopV (ref07_put_L6F R) m [x2, x3, x4, x5, x6, x7] w
theorem ref07_put_L6_eq (R : Value → World → Prop) : ∀ e w, lift Try.prog 68 (sub (bodyOf Try.f124) [1, 1, 1, 0, 1, 0]) (blockK 0 (seqK (fun e w => ref07_put_s0 R (e 2) (e 3) (e 4) (e 5) (e 6) w) (finK Try.prog Try.f124.results.toList R))) e w = ref07_put_L6 R (e 2) (e 3) (e 4) (e 5) (e 6) (e 7) w := loop_seg (F := ref07_put_L6F R) (sel := fun e => [e 2, e 3, e 4, e 5, e 6, e 7]) fun N1 => (ref07_put_s5_eq R N1)
def ref07_put_s7 (R : Value → World → Prop) (x2 x3 x4 x5 x6 : Value) (w : World) : Prop :=
  ref07_put_L6 R x2 x3 x4 x5 x6 (.int .i64 0) w
theorem ref07_put_s7_eq (R : Value → World → Prop) : ∀ e w, lift Try.prog 68 (sub (bodyOf Try.f124) [1, 1, 1, 0]) (seqK (fun e w => ref07_put_s0 R (e 2) (e 3) (e 4) (e 5) (e 6) w) (finK Try.prog Try.f124.results.toList R)) e w = ref07_put_s7 R (e 2) (e 3) (e 4) (e 5) (e 6) w :=
  segs_eq (l := [(sub (bodyOf Try.f124) [1, 1, 1, 0, 0])]) (y := (sub (bodyOf Try.f124) [1, 1, 1, 0, 1])) (Y := (fun e w => ref07_put_L6 R (e 2) (e 3) (e 4) (e 5) (e 6) (e 7) w)) (ref07_put_L6_eq R) (fun e w => by kernel_rfl)
def ref07_put_s8 (R : Value → World → Prop) (x0 x1 : Value) (w : World) : Prop :=
  newG (Value.cells x0) 60 w fun t2 w =>
  newG (Value.cells x1) 44 w fun t3 w =>
  newG (zc Try.prog 60) 60 w fun t4 w =>
  ref07_put_s7 R t2 t3 t4 (.slice none 0 0) (.bool false) w
theorem ref07_put_s8_eq (R : Value → World → Prop) : ∀ e w, lift Try.prog 68 (bodyOf Try.f124) (finK Try.prog Try.f124.results.toList R) e w = ref07_put_s8 R (e 0) (e 1) w :=
  segs_eq (l := [(sub (bodyOf Try.f124) [0]), (sub (bodyOf Try.f124) [1, 0]), (sub (bodyOf Try.f124) [1, 1, 0])]) (y := (sub (bodyOf Try.f124) [1, 1, 1])) (Y := (fun e w => ref07_put_s7 R (e 2) (e 3) (e 4) (e 5) (e 6) w)) (seq_seg (x := (sub (bodyOf Try.f124) [1, 1, 1, 0])) (y := (sub (bodyOf Try.f124) [1, 1, 1, 1])) (ref07_put_s0_eq R) (ref07_put_s7_eq R)) (fun e w => by kernel_rfl)
def ref07_put (R : Value → World → Prop) (x0 x1 : Value) (w : World) : Prop := ref07_put_s8 R x0 x1 w
theorem ref07_put_call {R : Value → World → Prop} {x0 x1 : Value} {w : World} (h : ref07_put R x0 x1 w) : callG Try.prog 124 #[x0, x1] w R :=
  calls_lift_eq Try.mixed Try.func124 (args := [x0, x1]) rfl rfl rfl rfl ((ref07_put_s8_eq R) (envOf [x0, x1]) w) (by kernel_rfl) h
/-! quayside/quaysideref07.state -/
def ref07_state_s0 (R : Value → World → Prop) (x0 x1 x2 : Value) (w : World) : Prop :=
  newG (Value.cells x0) 60 w fun t3 w =>
  newG (zc Try.prog 60) 60 w fun t6 w =>
  fa 1 t3 fun t10 =>
  ld1 t10 w fun t11 =>
  slL 6 t11 none (some x1) fun t13 =>
  app 34 6 64 (zc Try.prog 34) (.slice none 0 0) t13 w fun t14 w =>
  fa 1 t3 fun t15 =>
  ld1 t15 w fun t16 =>
  ia 6 t16 x1 fun t18 =>
  ldn 6 t18 w fun t19 =>
  newG (zc Try.prog 34) 34 w fun t8 w =>
  stn 6 t8 t19 w fun w =>
  fa 4 t8 fun t21 =>
  st1 t21 x2 w fun w =>
  ldn 6 t8 w fun t23 =>
  bsl 34 6 1 (zc Try.prog 34) #[(0, t23)] w fun t24 w =>
  app 34 6 64 (zc Try.prog 34) t14 t24 w fun t25 w =>
  fa 1 t3 fun t27 =>
  ld1 t27 w fun t28 =>
  qG Try.prog (bq .add 3 (.tmp 29) (.const (.int .i64 1)) x1 (.int .i64 1)) w fun t30 =>
  slL 6 t28 (some t30) none fun t31 =>
  app 34 6 64 (zc Try.prog 34) t25 t31 w fun t32 w =>
  fa 1 t3 fun t33 =>
  st1 t33 t32 w fun w =>
  ldn 4 t3 w fun t34 =>
  stn 4 t6 t34 w fun w =>
  qG Try.prog (do loadVar 60 (← asAddr t6)) w fun r6 =>
  R r6 w
theorem ref07_state_s0_eq (R : Value → World → Prop) : ∀ e w, lift Try.prog 35 (bodyOf Try.f126) (finK Try.prog Try.f126.results.toList R) e w = ref07_state_s0 R (e 0) (e 1) (e 2) w := fun e w => by kernel_rfl
def ref07_state (R : Value → World → Prop) (x0 x1 x2 : Value) (w : World) : Prop := ref07_state_s0 R x0 x1 x2 w
theorem ref07_state_call {R : Value → World → Prop} {x0 x1 x2 : Value} {w : World} (h : ref07_state R x0 x1 x2 w) : callG Try.prog 126 #[x0, x1, x2] w R :=
  calls_lift_eq Try.mixed Try.func126 (args := [x0, x1, x2]) rfl rfl rfl rfl ((ref07_state_s0_eq R) (envOf [x0, x1, x2]) w) (by kernel_rfl) h
/-! quayside/quaysideref07.full -/
def ref07_full_s0 (R : Value → World → Prop) (x0 : Value) (w : World) : Prop :=
  newG (Value.cells x0) 60 w fun t1 w =>
  fa 0 t1 fun t3 =>
  ld1 t3 w fun t4 =>
  lenL t4 fun t5 =>
  qG Try.prog (bq .gtr 3 (.tmp 5) (.const (.int .i64 4096)) t5 (.int .i64 4096)) w fun t6 =>
  bV t6
  (R (.bool true) w)
  (fa 1 t1 fun t8 =>
  ld1 t8 w fun t9 =>
  lenL t9 fun t10 =>
  qG Try.prog (bq .gtr 3 (.tmp 10) (.const (.int .i64 4096)) t10 (.int .i64 4096)) w fun t11 =>
  bV t11
  (R (.bool true) w)
  (fa 2 t1 fun t14 =>
  ld1 t14 w fun t15 =>
  lenL t15 fun t16 =>
  qG Try.prog (bq .gtr 3 (.tmp 16) (.const (.int .i64 4096)) t16 (.int .i64 4096)) w fun t17 =>
  R t17 w))
theorem ref07_full_s0_eq (R : Value → World → Prop) : ∀ e w, lift Try.prog 19 (bodyOf Try.f98) (finK Try.prog Try.f98.results.toList R) e w = ref07_full_s0 R (e 0) w := fun e w => by kernel_rfl
def ref07_full (R : Value → World → Prop) (x0 : Value) (w : World) : Prop := ref07_full_s0 R x0 w
theorem ref07_full_call {R : Value → World → Prop} {x0 : Value} {w : World} (h : ref07_full R x0 w) : callG Try.prog 98 #[x0] w R :=
  calls_lift_eq Try.mixed Try.func98 (args := [x0]) rfl rfl rfl rfl ((ref07_full_s0_eq R) (envOf [x0]) w) (by kernel_rfl) h
/-! quayside/quaysideref07.more -/
def ref07_more_s0 (R : Value → World → Prop) (x0 x1 x2 x3 : Value) (w : World) : Prop :=
  newG (Value.cells x0) 60 w fun t4 w =>
  ldn 4 t4 w fun t10 =>
  callG Try.prog 117 #[t10, x1, x2] w fun t13 w =>
  fld false 2 1 t13 fun t14 =>
  callG Try.prog 123 #[t14, x3] w fun t16 w =>
  qG Try.prog (Instr.extract t16 0) w fun t17 =>
  qG Try.prog (Instr.extract t16 1) w fun t18 =>
  R (.tuple #[t17, t18]) w
theorem ref07_more_s0_eq (R : Value → World → Prop) : ∀ e w, lift Try.prog 19 (bodyOf Try.f111) (finK Try.prog Try.f111.results.toList R) e w = ref07_more_s0 R (e 0) (e 1) (e 2) (e 3) w := fun e w => by kernel_rfl
def ref07_more (R : Value → World → Prop) (x0 x1 x2 x3 : Value) (w : World) : Prop := ref07_more_s0 R x0 x1 x2 x3 w
theorem ref07_more_call {R : Value → World → Prop} {x0 x1 x2 x3 : Value} {w : World} (h : ref07_more R x0 x1 x2 x3 w) : callG Try.prog 111 #[x0, x1, x2, x3] w R :=
  calls_lift_eq Try.mixed Try.func111 (args := [x0, x1, x2, x3]) rfl rfl rfl rfl ((ref07_more_s0_eq R) (envOf [x0, x1, x2, x3]) w) (by kernel_rfl) h
end Go.Proofs

/- Layer 7: the document's ledger: order, finding, and what is free. -/
set_option linter.unusedVariables false
set_option linter.unusedSimpArgs false
namespace Go.Proofs
open Go Go.Q
theorem sLt_str (a b : List UInt8) : sLt (str a) (str b) = lexL a b := by
  unfold sLt lexL
  rw [ByteArray.toList_eq, ByteArray.toList_eq]
  rfl
theorem refAhead_spec {w : World} (a b : SV) {K : Value → World → Prop} (hK : ∀ w', Kp [] w w' → K (.bool (Q.ahead a b)) w') : callG Try.prog 70 #[sA a, sA b] w K := by
  refine ref07_ahead_call ?_
  unfold ref07_ahead ref07_ahead_s0
  refine argBox (cs := sC a) fun p w1 hp hh hk => ?_
  refine argBox (cs := sC b) fun q w2 hq hh2 hk2 => ?_
  have h1 := hk2.get hh (by simp)
  have hK := hK w2 (hk.trans' hk2)
  unfold Q.ahead at hK
  unfold sC at h1 hh2
  simp [-getElem?_pos, -Array.all_eq_true, -Array.getElem?_eq_getElem, -List.length_flatten, List.getElem?_cons_zero, List.getElem?_cons_succ, h1, hh2, sLt_str]
  refine ⟨fun e => by simpa [e] using hK, fun e => ⟨fun e2 => ?_, fun e2 => ?_⟩⟩
  · simpa [e, e2, lexL_irrefl] using hK
  · simpa [e, e2] using hK
theorem refIndex_spec {w : World} {v : Value} {l : LV} (hv : LedAt w v l) (hl : l.st.length < 2 ^ 40) (sku loc : List UInt8) {K : Value → World → Prop}
    (hK1 : ∀ i w', Kp [] w w' → ∀ h : i < l.st.length, findS l.st sku loc = l.st[i] → atP l.st[i] sku loc = true → K (.int .i64 (i : Nat)) w') (hK2 : ∀ w', Kp [] w w' → findS l.st sku loc = ⟨sku, loc, 0, 0⟩ → knownL l sku loc = false → K (.int .i64 (-1)) w') :
    callG Try.prog 99 #[v, .string (str sku), .string (str loc)] w K := by
  refine ref07_index_call ?_
  obtain ⟨a, b, c, rfl, h1, h2, h3⟩ := hv
  unfold ref07_index ref07_index_s4
  refine argBox (cs := [a, b, c, .int .i64 l.ops]) fun x w1 hx1 hh1 hk1 => ?_
  have r1 := h1.keep hk1
  unfold ref07_index_s3 ref07_index_L2
  refine loop_inv (fun m xs wi => ∃ i, i ≤ l.st.length ∧ m = l.st.length - i ∧ xs = [.string (str sku), .string (str loc), .pointer (some ⟨x, 0, none⟩), .int .i64 (i : Nat)] ∧ wi = w1 ∧ ∀ j (hj : j < l.st.length), j < i → atP l.st[j] sku loc = false) ?_ (m := l.st.length) ⟨0, by omega, rfl, rfl, rfl, fun j _ h => by omega⟩
  rintro m N xs wi ⟨i, hi, rfl, rfl, rfl, hno⟩ hN
  have hiw : IntKind.i64.wrap ((i : Int) + 1) = ((i + 1 : Nat) : Int) := by rw [w64 (by omega) (by omega)]; simp
  unfold ref07_index_L2F ref07_index_b1
  simp [-getElem?_pos, -Array.all_eq_true, -Array.getElem?_eq_getElem, -List.length_flatten, List.getElem?_cons_zero, List.getElem?_cons_succ, hh1, r1.lenL]
  refine ⟨fun hlt => ?_, fun hge => ?_⟩
  · obtain ⟨p, q1, _, q3⟩ := r1.get (i := i) (by simpa using hlt)
    have q1' : ∀ K : Value → Prop, ia 4 a (.int .i64 i) K = K p := fun K => q1 .i64 K
    have f0 : ∀ K : Value → Prop, fa 0 p (fun q => ld1 q wi K) = K (.string (str l.st[i].sku)) := fun K => by have := q3 0 (by simp [sC]) K; simpa [sC] using this
    have f1 : ∀ K : Value → Prop, fa 1 p (fun q => ld1 q wi K) = K (.string (str l.st[i].loc)) := fun K => by have := q3 1 (by simp [sC]) K; simpa [sC] using this
    have hnext : atP l.st[i] sku loc = false → N [.string (str sku), .string (str loc), .pointer (some ⟨x, 0, none⟩), .int .i64 ((i + 1 : Nat) : Int)] wi := fun hc => hN (l.st.length - (i + 1)) _ wi (by omega) ⟨i + 1, by omega, rfl, rfl, rfl, fun j hj hji => by
      by_cases he : j = i
      · subst he; exact hc
      · exact hno j hj (by omega)⟩
    rw [q1', f0]
    simp [-getElem?_pos, -Array.all_eq_true, -Array.getElem?_eq_getElem, -List.length_flatten, List.getElem?_cons_zero, List.getElem?_cons_succ, hh1]
    rw [hiw]
    refine ⟨fun e1 => ?_, fun e1 => hnext (by simp [atP, e1])⟩
    rw [q1', f1]
    simp [-getElem?_pos, -Array.all_eq_true, -Array.getElem?_eq_getElem, -List.length_flatten, List.getElem?_cons_zero, List.getElem?_cons_succ, ]
    refine ⟨fun e2 => ?_, fun e2 => ?_⟩
    · have hat : atP l.st[i] sku loc = true := by simp [atP, e1, e2]
      exact hK1 i wi hk1 hlt (idxS.1 i hlt hat hno) hat
    · have := hnext (by simp [atP, e2])
      first | exact this | simpa using this
  · unfold ref07_index_s0
    refine hK2 wi hk1 (idxS.2 fun j hj => hno j hj (by omega)) ?_
    rw [Bool.eq_false_iff]
    intro hk
    obtain ⟨s, hs, e1, e2⟩ := known_find.1 hk
    obtain ⟨j, hj, rfl⟩ := List.getElem_of_mem hs
    have := hno j hj (by omega)
    simp [atP, e1, e2] at this
theorem refFind_spec {w : World} {v : Value} {l : LV} (hv : LedAt w v l) (hl : l.st.length < 2 ^ 40) (sku loc : List UInt8) {K : Value → World → Prop} (hK : ∀ w', Kp [] w w' → K (sA (findS l.st sku loc)) w') : callG Try.prog 117 #[v, .string (str sku), .string (str loc)] w K := by
  refine ref07_Find_call ?_
  obtain ⟨a, b, c, rfl, h1, h2, h3⟩ := hv
  unfold ref07_Find ref07_Find_s0
  refine argBox (cs := [a, b, c, .int .i64 l.ops]) fun x w1 hx1 hh1 hk1 => ?_
  simp only [newG_k, zc44s]
  obtain ⟨r, hr⟩ : ∃ r, r = w1.heap.size := ⟨_, rfl⟩
  obtain ⟨w4, hw4⟩ := ex_w (w' := w1.alloc (.cells [.string (str []), .string (str []), .int .i64 0, .int .i64 0].toArray 44))
  have hk4 : Kp [] w1 w4 := by rw [hw4]; exact kp_alloc
  have hb4 : w4.heap[r]? = some (.cells [.string (str []), .string (str []), .int .i64 0, .int .i64 0].toArray 44) := by rw [hw4, hr]; exact heap_new
  rw [← hw4, ← hr]
  have g1 := hk4.get hh1 (by simp)
  have kk := hk1.trans' hk4
  have hrs : w.heap.size ≤ r := by have := hk1.size; omega
  rw [ldAll (k := 4) g1 rfl]
  refine refIndex_spec (l := l) ⟨a, b, c, rfl, h1.keep kk, h2.keep kk, h3.keep kk⟩ hl sku loc (fun i w5 hk5 hi hf _ => ?_) (fun w5 hk5 hf _ => ?_)
  · have e1 := hk5.get g1 (by simp)
    have e4 := hk5.get hb4 (by simp)
    have l4 := live_of e4
    obtain ⟨pp, i1, i2⟩ := rd_stock (h1.keep (kk.trans' hk5)) hi
    have hpos : (0 : Int) ≤ (i : Int) := by omega
    simp [-getElem?_pos, -Array.all_eq_true, -Array.getElem?_eq_getElem, -List.length_flatten, List.getElem?_cons_zero, List.getElem?_cons_succ, e1, hpos, -ldn_p, -stn_p]
    rw [i1, i2]
    have := hK (setBlk w5 r (.cells (sC l.st[i]).toArray 44)) ((kk.trans' hk5).setBlk (.inr hrs) _)
    rw [hf] at this
    unfold sA at this ⊢
    unfold sC at this
    simp [-getElem?_pos, -Array.all_eq_true, -Array.getElem?_eq_getElem, -List.length_flatten, List.getElem?_cons_zero, List.getElem?_cons_succ, e4, lvStock, l4]
    exact this
  · have e4 := hk5.get hb4 (by simp)
    have l4 := live_of e4
    have := hK (setBlk w5 r (.cells (sC ⟨sku, loc, 0, 0⟩).toArray 44)) ((kk.trans' hk5).setBlk (.inr hrs) _)
    rw [hf] at this
    unfold sA sC at this
    simp [-getElem?_pos, -Array.all_eq_true, -Array.getElem?_eq_getElem, -List.length_flatten, List.getElem?_cons_zero, List.getElem?_cons_succ, e4, zcStock, str_nil, bld_done, bld_if, offAt, putAt, lvStock, l4]
    exact this
theorem refFree_spec {w : World} {v : Value} {l : LV} (hm : May l) (hv : LedAt w v l) (sku loc : List UInt8) {K : Value → World → Prop} (hK : ∀ w', Kp [] w w' → K (.int .i64 (freeL l sku loc)) w') : callG Try.prog 113 #[v, .string (str sku), .string (str loc)] w K := by
  refine ref07_Free_call ?_
  obtain ⟨a, b, c, hve, h1, h2, h3⟩ := hv
  have hfew := hm.few
  simp only [fullL, decide_eq_false_iff_not, not_or] at hfew
  obtain ⟨g1, g2, g3, g4, g5⟩ := hm.f.find sku loc
  have gf := fits_iff.1 g5
  unfold ref07_Free ref07_Free_s0
  subst hve
  refine argBox (cs := [a, b, c, .int .i64 l.ops]) fun x w1 hx1 hh1 hk1 => ?_
  rw [ldAll (k := 4) hh1 rfl]
  refine refFind_spec (l := l) ⟨a, b, c, rfl, h1.keep hk1, h2.keep hk1, h3.keep hk1⟩ (by omega) sku loc fun w2 hk2 => ?_
  refine boxStock (o := findS l.st sku loc) (by kernel_rfl) fun p w3 hp hh3 hk3 => ?_
  unfold sC at hh3
  simp [-getElem?_pos, -Array.all_eq_true, -Array.getElem?_eq_getElem, -List.length_flatten, List.getElem?_cons_zero, List.getElem?_cons_succ, hh3]
  refine refSub1_spec (by unfold rngI; omega) (by unfold rngI; omega) (by omega) fun w4 hk4 => ?_
  simp [-getElem?_pos, -Array.all_eq_true, -Array.getElem?_eq_getElem, -List.length_flatten, List.getElem?_cons_zero, List.getElem?_cons_succ, ]
  exact hK w4 (((hk1.trans' hk2).trans' hk3).trans' hk4)
theorem refMore_spec {w : World} {v : Value} {l : LV} (hm : May l) (hv : LedAt w v l) (sku loc : List UInt8) {n : Int} (hn : rngI n) {K : Value → World → Prop} (hK : ∀ w', Kp [] w w' → K (.tuple #[.int .i64 (moreL l sku loc n).1, .int .i64 (moreL l sku loc n).2]) w') :
    callG Try.prog 111 #[v, .string (str sku), .string (str loc), .int .i64 n] w K := by
  refine ref07_more_call ?_
  obtain ⟨a, b, c, hve, h1, h2, h3⟩ := hv
  have hfew := hm.few
  simp only [fullL, decide_eq_false_iff_not, not_or] at hfew
  obtain ⟨g1, g2, g3, g4, g5⟩ := hm.f.find sku loc
  have gf := fits_iff.1 g5
  unfold ref07_more ref07_more_s0
  subst hve
  refine argBox (cs := [a, b, c, .int .i64 l.ops]) fun x w1 hx1 hh1 hk1 => ?_
  rw [ldAll (k := 4) hh1 rfl]
  refine refFind_spec (l := l) ⟨a, b, c, rfl, h1.keep hk1, h2.keep hk1, h3.keep hk1⟩ (by omega) sku loc fun w2 hk2 => ?_
  unfold sA
  simp [-getElem?_pos, -Array.all_eq_true, -Array.getElem?_eq_getElem, -List.length_flatten, List.getElem?_cons_zero, List.getElem?_cons_succ, ]
  refine refAdd1_spec (by unfold rngI; omega) hn fun w4 hk4 => ?_
  simp [-getElem?_pos, -Array.all_eq_true, -Array.getElem?_eq_getElem, -List.length_flatten, List.getElem?_cons_zero, List.getElem?_cons_succ, ]
  exact hK w4 ((hk1.trans' hk2).trans' hk4)
theorem refFull_spec {w : World} {v : Value} {l : LV} (hv : LedAt w v l) {K : Value → World → Prop} (hK : ∀ w', Kp [] w w' → K (.bool (fullL l)) w') : callG Try.prog 98 #[v] w K := by
  refine ref07_full_call ?_
  obtain ⟨a, b, c, rfl, h1, h2, h3⟩ := hv
  unfold ref07_full ref07_full_s0
  refine argBox (cs := [a, b, c, .int .i64 l.ops]) fun x w1 hx1 hh1 hk1 => ?_
  have hK := hK w1 hk1
  unfold fullL at hK
  simp [-getElem?_pos, -Array.all_eq_true, -Array.getElem?_eq_getElem, -List.length_flatten, List.getElem?_cons_zero, List.getElem?_cons_succ, hh1, (h1.keep hk1).lenL, (h2.keep hk1).lenL, (h3.keep hk1).lenL]
  refine ⟨fun e => ?_, fun e => ⟨fun e2 => ?_, fun e2 => ?_⟩⟩
  · rw [decide_eq_true (.inl (by omega))] at hK; exact hK
  · rw [decide_eq_true (.inr (.inl (by omega)))] at hK; exact hK
  · have : decide (4096 < l.st.length ∨ 4096 < l.ho.length ∨ 4096 < l.mo.length) = decide ((4096 : Int) < l.mo.length) := by
      rw [Bool.eq_iff_iff]; simp only [decide_eq_true_eq]; omega
    rw [this] at hK; exact hK
end Go.Proofs

/- Plain: how the document puts a stock in its place. -/
set_option linter.unusedVariables false
set_option linter.unusedSimpArgs false
namespace Go.Q
def sameP (x s : SV) : Bool := decide (x.sku = s.sku ∧ x.loc = s.loc)
/-- what comes of the rest of a list -/
def putD (s : SV) : List SV → Bool → List SV
  | [], done => if done = true then [] else [s]
  | x :: r, done => (if done = false ∧ ahead x s = false then [s] else []) ++ (if sameP x s = false then [x] else []) ++ putD s r (done || !ahead x s)
theorem putD_done {s : SV} : ∀ {l : List SV}, (∀ x ∈ l, sameP x s = false) → putD s l true = l := by
  intro l
  induction l with
  | nil => intro _; rfl
  | cons x r ih =>
    intro h
    unfold putD
    rw [if_neg (by simp), if_pos (h x (by simp)), Bool.true_or, ih fun y hy => h y (by simp [hy])]
    rfl
theorem putD_putS {s : SV} : ∀ {l : List SV}, Sorted l → putD s l false = putS l s := by
  intro l
  induction l with
  | nil => intro _; rfl
  | cons x r ih =>
    intro h
    have hr := List.pairwise_cons.1 h
    unfold putD putS
    cases ha : ahead x s with
    | true =>
      have hne : sameP x s = false := by
        unfold sameP
        rw [decide_eq_false]
        rintro ⟨e1, e2⟩
        rw [ahead_key (a' := s) (b' := s) e1 e2 rfl rfl, ahead_irrefl] at ha
        cases ha
      rw [if_neg (by simp), if_pos hne, if_pos rfl]
      simp [ih hr.2]
    | false =>
      have hrest : ∀ y ∈ r, sameP y s = false := by
        intro y hy
        unfold sameP
        rw [decide_eq_false]
        rintro ⟨e1, e2⟩
        have := hr.1 y hy
        rw [ahead_key (b' := s) rfl rfl e1 e2, ha] at this
        cases this
      by_cases hk : x.sku = s.sku ∧ x.loc = s.loc
      · have hs : sameP x s = true := by unfold sameP; exact decide_eq_true hk
        simp [hs, hk, putD_done hrest]
      · have hs : sameP x s = false := by unfold sameP; exact decide_eq_false hk
        simp [hs, hk, putD_done hrest]
end Go.Q

/- Layer 7: the document's ledger with a stock in its place. -/
set_option linter.unusedVariables false
set_option linter.unusedSimpArgs false
namespace Go.Proofs
open Go Go.Q
theorem zcLed : zc Try.prog 60 = [.slice none 0 0, .slice none 0 0, .slice none 0 0, .int .i64 0].toArray := by kernel_rfl
theorem aggLed : aggO Try.prog 60 = some true := by kernel_rfl
theorem szLed : szO Try.prog 60 = some 4 := by kernel_rfl
theorem lvLed {b : Nat} {w : World} {c : Array Value} {T : TypeId} {fr : Nat × Nat} (hb : Live w b) (hs : c.size = 4) {K : Value → Prop} :
    qG Try.prog (do loadVar 60 (← asAddr (.pointer (some ⟨b, 0, none⟩)))) (setBlk w b (.cells c T fr)) K = K (.agg c) := loadVar_of aggLed szLed (heap_self hb) hs
theorem sC_one (s : SV) : (sC s).all Q.one = true := rfl
theorem stAll {b k : Nat} {old c : Array Value} {T : TypeId} {w : World} (h : w.heap[b]? = some (.cells old T)) (ho : old.size = k) (hc : c.size = k) (hone : c.all one = true) {K : World → Prop} :
    stn k (.pointer (some ⟨b, 0, none⟩)) (.agg c) w K = K (setBlk w b (.cells c T)) := by
  rw [stn_p, wrN_mk, h]
  have hsp : splice old 0 c = c := splice_all (by rw [ho, hc])
  apply propext
  constructor
  · rintro ⟨_, _, hk⟩
    rw [hsp] at hk
    exact hk
  · intro hk
    refine ⟨hc, ⟨by omega, by rw [okFr0]; trivial, hone⟩, ?_⟩
    rw [hsp]; exact hk
/-- one stock more -/
theorem push_stock {w0 w : World} {v : Value} {out : List SV} (h : Fr w0 w v 4 (out.map sC)) (hl : out.length < 2 ^ 30) (s : SV) {K : Value → World → Prop} (hK : ∀ v' w', Fr w0 w' v' 4 ((out ++ [s]).map sC) → K v' w') :
    bsl 44 4 1 (zc Try.prog 44) #[(0, sA s)] w fun t63 w => app 44 4 48 (zc Try.prog 44) v t63 w K := by
  refine bsl_rowN (n := 4) (cs := sC s) (by omega) rfl rfl fun v1 w1 f1 => ?_
  rw [zcStock, str_nil]
  refine fr_push (wx := w1) (h.keep f1.kp) f1.rd (by omega) rfl (sC_one s) (by simp; omega) (by simp; omega) fun v' w' h' => hK v' w' (by rw [List.map_append]; exact h')
theorem putD_cons (s x : SV) (r : List SV) (done : Bool) : putD s (x :: r) done = (if done = false ∧ Q.ahead x s = false then [s] else []) ++ (if sameP x s = false then [x] else []) ++ putD s r (done || !Q.ahead x s) := rfl
/-- a ledger, with the blocks in which its lists lie -/
structure LedS (w : World) (v : Value) (l : LV) (S : List Nat) : Prop where
  ex : ∃ a b c SA SB SC, v = .agg #[a, b, c, .int .i64 l.ops] ∧ ArgAt w a 4 (l.st.map sC) SA ∧ ArgAt w b 6 (l.ho.map hC) SB ∧ ArgAt w c 6 (l.mo.map hC) SC ∧ S = SA ++ (SB ++ SC)
  lt : ∀ x ∈ S, x < w.heap.size
theorem LedS.at {w : World} {v : Value} {l : LV} {S : List Nat} (h : LedS w v l S) : LedAt w v l := by
  obtain ⟨a, b, c, SA, SB, SC, e, h1, h2, h3, _⟩ := h.ex
  exact ⟨a, b, c, e, ⟨_, h1⟩, ⟨_, h2⟩, ⟨_, h3⟩⟩
theorem LedS.keep {w w' : World} {v : Value} {l : LV} {S S' : List Nat} (h : LedS w v l S) (hk : Kp S' w w') (hd : ∀ x ∈ S, x ∉ S') : LedS w' v l S := by
  have hsz := hk.size
  refine ⟨?_, fun x hx => by have := h.lt x hx; omega⟩
  obtain ⟨a, b, c, SA, SB, SC, e, h1, h2, h3, rfl⟩ := h.ex
  exact ⟨a, b, c, SA, SB, SC, e, h1.keep hk (fun x hx => hd x (by simp [hx])), h2.keep hk (fun x hx => hd x (by simp [hx])), h3.keep hk (fun x hx => hd x (by simp [hx])), rfl⟩
theorem refPut_spec7 {w : World} {v : Value} {l : LV} {S0 : List Nat} (hv : LedS w v l S0) (hl : l.st.length < 2 ^ 20) (s : SV) {K : Value → World → Prop} (hK : ∀ v' w' S', Kp [] w w' → LedS w' v' { l with st := putD s l.st false } S' → (∀ x ∈ S', x ∈ S0 ∨ w.heap.size ≤ x) → K v' w') :
    callG Try.prog 124 #[v, sA s] w K := by
  refine ref07_put_call ?_
  have hlt0 := hv.lt
  obtain ⟨a, b, c, SA, SB, SC, rfl, ha1, hb1, hc1, hS0⟩ := hv.ex
  have h1 : Rd w a 4 (l.st.map sC) := ⟨SA, ha1⟩
  have h2 : Rd w b 6 (l.ho.map hC) := ⟨SB, hb1⟩
  have h3 : Rd w c 6 (l.mo.map hC) := ⟨SC, hc1⟩
  unfold ref07_put ref07_put_s8
  refine argBox (cs := [a, b, c, .int .i64 l.ops]) fun x w1 hx1 hh1 hk1 => ?_
  refine argBox (cs := sC s) fun y w2 hy hh2 hk2 => ?_
  rw [newG_k, zcLed]
  obtain ⟨z, hz⟩ : ∃ z, z = w2.heap.size := ⟨_, rfl⟩
  obtain ⟨w3, hw3⟩ := ex_w (w' := w2.alloc (.cells [.slice none 0 0, .slice none 0 0, .slice none 0 0, .int .i64 0].toArray 60))
  have hk3 : Kp [] w2 w3 := by rw [hw3]; exact kp_alloc
  have hz3 : w3.heap[z]? = some (.cells [.slice none 0 0, .slice none 0 0, .slice none 0 0, .int .i64 0].toArray 60) := by rw [hw3, hz]; exact heap_new
  rw [← hw3, ← hz]
  have hx3 := (hk2.trans' hk3).get hh1 (by simp)
  have hy3 := hk3.get hh2 (by simp)
  have hk03 := (hk1.trans' hk2).trans' hk3
  have hxz : x ≠ z := by have := lt_of_blk hh1; have := hk2.size; omega
  have hxw : w.heap.size ≤ x := hx1
  have hzw : w.heap.size ≤ z := by have := hk1.size; have := hk2.size; omega
  have hxl3 := lt_of_blk hx3
  have hzl3 := lt_of_blk hz3
  unfold ref07_put_s7 ref07_put_L6
  refine loop_inv (fun m xs wi => ∃ i outv out done, i ≤ l.st.length ∧ m = l.st.length - i ∧ xs = [.pointer (some ⟨x, 0, none⟩), .pointer (some ⟨y, 0, none⟩), .pointer (some ⟨z, 0, none⟩), outv, .bool done, .int .i64 (i : Nat)] ∧ Fr w3 wi outv 4 (out.map sC) ∧ out.length ≤ 2 * i ∧ putD s l.st false = out ++ putD s (l.st.drop i) done) ?_ (m := l.st.length)
    ⟨0, .slice none 0 0, [], false, by omega, rfl, rfl, fr_nil (Kp.refl _ _), by simp, by simp⟩
  rintro m N xs wi ⟨i, outv, out, done, hi, rfl, rfl, hf, hol, he⟩ hN
  have hiw : IntKind.i64.wrap ((i : Int) + 1) = ((i + 1 : Nat) : Int) := by rw [w64 (by omega) (by omega)]; simp
  have hxi := hf.kp.get hx3 (by simp)
  have hyi := hf.kp.get hy3 (by simp)
  have hzi := hf.kp.get hz3 (by simp)
  have hri := h1.keep (hk03.trans' hf.kp)
  unfold ref07_put_L6F ref07_put_s5
  simp [-getElem?_pos, -Array.all_eq_true, -Array.getElem?_eq_getElem, -List.length_flatten, List.getElem?_cons_zero, List.getElem?_cons_succ, hxi, hri.lenL]
  refine ⟨fun hlt => ?_, fun hge => ?_⟩
  · rw [List.drop_eq_getElem_cons hlt, putD_cons] at he
    have hs3 : ∀ outv' out' wj done', Fr w3 wj outv' 4 (out'.map sC) → out'.length ≤ 2 * i + 1 → putD s l.st false = out' ++ ((if sameP l.st[i] s = false then [l.st[i]] else []) ++ putD s (l.st.drop (i + 1)) done') →
        ref07_put_s3 K N (.pointer (some ⟨x, 0, none⟩)) (.pointer (some ⟨y, 0, none⟩)) (.pointer (some ⟨z, 0, none⟩)) outv' (.bool done') (.int .i64 i) wj := by
      intro outv' out' wj done' hfj hlj hej
      have hfd : Fr w3 wj.drew outv' 4 (out'.map sC) := hfj.keep kp_drew
      have hxj := hfj.kp.get hx3 (by simp)
      have hyj := hfj.kp.get hy3 (by simp)
      have hxd := hfd.kp.get hx3 (by simp)
      have hrd := h1.keep (hk03.trans' hfd.kp)
      obtain ⟨p, q1, _, q3⟩ := hrd.get (i := i) (by simpa using hlt)
      have q1' : ∀ K : Value → Prop, ia 4 a (.int .i64 i) K = K p := fun K => q1 .i64 K
      have f0 : ∀ K : Value → Prop, fa 0 p (fun q => ld1 q wj.drew K) = K (.string (str l.st[i].sku)) := fun K => by have := q3 0 (by simp [sC]) K; simpa [sC] using this
      have f1 : ∀ K : Value → Prop, fa 1 p (fun q => ld1 q wj.drew K) = K (.string (str l.st[i].loc)) := fun K => by have := q3 1 (by simp [sC]) K; simpa [sC] using this
      obtain ⟨pp, i1, i2⟩ := rd_stock hrd hlt
      have hs2 : sameP l.st[i] s = false → ref07_put_s2 K N (.pointer (some ⟨x, 0, none⟩)) (.pointer (some ⟨y, 0, none⟩)) (.pointer (some ⟨z, 0, none⟩)) outv' (.bool done') (.int .i64 i) (.bool true) wj.drew := by
        intro hc
        rw [if_pos hc] at hej
        unfold ref07_put_s2
        simp [-getElem?_pos, -Array.all_eq_true, -Array.getElem?_eq_getElem, -List.length_flatten, List.getElem?_cons_zero, List.getElem?_cons_succ, hxj, hxd, -ldn_p, -stn_p]
        rw [i1, i2]
        refine push_stock hfd (by omega) l.st[i] fun v' w' h' => ?_
        unfold ref07_put_s1
        simp [-getElem?_pos, -Array.all_eq_true, -Array.getElem?_eq_getElem, -List.length_flatten, List.getElem?_cons_zero, List.getElem?_cons_succ, hiw]
        refine hN (l.st.length - (i + 1)) _ w' (by omega) ⟨i + 1, v', _, done', by omega, rfl, by simp, h', by simp; omega, by rw [hej]; simp⟩
      have hs2f : sameP l.st[i] s = true → ref07_put_s2 K N (.pointer (some ⟨x, 0, none⟩)) (.pointer (some ⟨y, 0, none⟩)) (.pointer (some ⟨z, 0, none⟩)) outv' (.bool done') (.int .i64 i) (.bool false) wj.drew := by
        intro hc
        rw [if_neg (by simp [hc])] at hej
        unfold ref07_put_s2 ref07_put_s1
        simp [-getElem?_pos, -Array.all_eq_true, -Array.getElem?_eq_getElem, -List.length_flatten, List.getElem?_cons_zero, List.getElem?_cons_succ, hiw]
        refine hN (l.st.length - (i + 1)) _ wj.drew (by omega) ⟨i + 1, outv', out', done', by omega, rfl, by simp, hfd, by omega, by rw [hej]; simp⟩
      unfold ref07_put_s3
      simp [-getElem?_pos, -Array.all_eq_true, -Array.getElem?_eq_getElem, -List.length_flatten, List.getElem?_cons_zero, List.getElem?_cons_succ, hxj]
      rw [q1', f0]
      unfold sC at hyj
      simp [-getElem?_pos, -Array.all_eq_true, -Array.getElem?_eq_getElem, -List.length_flatten, List.getElem?_cons_zero, List.getElem?_cons_succ, hxj, hyj]
      refine ⟨fun e1 => hs2 (by unfold sameP; exact decide_eq_false (fun hh => e1 hh.1)), fun e1 => ?_⟩
      rw [q1', f1]
      simp [-getElem?_pos, -Array.all_eq_true, -Array.getElem?_eq_getElem, -List.length_flatten, List.getElem?_cons_zero, List.getElem?_cons_succ, hyj]
      by_cases e2 : l.st[i].loc = s.loc
      · rw [show (!decide (l.st[i].loc = s.loc)) = false by simp [e2]]
        exact hs2f (by unfold sameP; exact decide_eq_true ⟨e1, e2⟩)
      · rw [show (!decide (l.st[i].loc = s.loc)) = true by simp [e2]]
        exact hs2 (by unfold sameP; exact decide_eq_false (fun hh => e2 hh.2))
    unfold ref07_put_s4
    cases done with
    | true =>
      simp [-getElem?_pos, -Array.all_eq_true, -Array.getElem?_eq_getElem, -List.length_flatten, List.getElem?_cons_zero, List.getElem?_cons_succ, -ldn_p, -stn_p]
      exact hs3 outv out _ true (hf.keep kp_drew) (by omega) (by rw [he]; simp)
    | false =>
      have hfd : Fr w3 wi.drew outv 4 (out.map sC) := hf.keep kp_drew
      have hrd := h1.keep (hk03.trans' hfd.kp)
      obtain ⟨pp, i1, i2⟩ := rd_stock hrd hlt
      have hyd := hfd.kp.get hy3 (by simp)
      have hld : ∀ {w' : World}, w'.heap[y]? = some (.cells (sC s).toArray 44) → ∀ {K' : Value → Prop}, ldn 4 (.pointer (some ⟨y, 0, none⟩)) w' K' = K' (sA s) := by
        intro w' h K'
        exact ldAll h rfl
      simp [-getElem?_pos, -Array.all_eq_true, -Array.getElem?_eq_getElem, -List.length_flatten, List.getElem?_cons_zero, List.getElem?_cons_succ, hxi, -ldn_p, -stn_p]
      rw [i1, i2, hld hyd]
      refine refAhead_spec l.st[i] s fun w5 hk5 => ?_
      have hf5 := hfd.keep hk5
      cases ha : Q.ahead l.st[i] s with
      | true =>
        simp [-getElem?_pos, -Array.all_eq_true, -Array.getElem?_eq_getElem, -List.length_flatten, List.getElem?_cons_zero, List.getElem?_cons_succ, -ldn_p, -stn_p]
        exact hs3 outv out _ false hf5 (by omega) (by rw [he]; simp [ha])
      | false =>
        simp [-getElem?_pos, -Array.all_eq_true, -Array.getElem?_eq_getElem, -List.length_flatten, List.getElem?_cons_zero, List.getElem?_cons_succ, -ldn_p, -stn_p]
        rw [hld (hk5.get hyd (by simp))]
        exact push_stock hf5 (by omega) s fun v' w' h' => hs3 v' _ w' true h' (by simp; omega) (by rw [he]; simp [ha])
  · have hie : i = l.st.length := by omega
    subst hie
    rw [List.drop_length] at he
    unfold ref07_put_s0
    have fin : ∀ outv' out' wj, Fr w3 wj outv' 4 (out'.map sC) → putD s l.st false = out' →
        fa 0 (.pointer (some ⟨x, 0, none⟩)) fun t66 => st1 t66 outv' wj fun w => ldn 4 (.pointer (some ⟨x, 0, none⟩)) w fun t67 => stn 4 (.pointer (some ⟨z, 0, none⟩)) t67 w fun w => qG Try.prog (do loadVar 60 (← asAddr (.pointer (some ⟨z, 0, none⟩)))) w fun r4 => K r4 w := by
      intro outv' out' wj hfj ho
      have hxj := hfj.kp.get hx3 (by simp)
      have hzj := hfj.kp.get hz3 (by simp)
      have lx := live_of hxj
      have lz := live_of hzj
      obtain ⟨S, hS, hSn⟩ := hfj.ex
      obtain ⟨o1, o2, o3, o4⟩ : one outv' = true ∧ one b = true ∧ one c = true ∧ True := by
        obtain ⟨_, _, e2⟩ := h2.slice
        obtain ⟨_, _, e3⟩ := h3.slice
        exact ⟨hfj.one, by rw [e2]; rfl, by rw [e3]; rfl, trivial⟩
      simp [-getElem?_pos, -Array.all_eq_true, -Array.getElem?_eq_getElem, -List.length_flatten, List.getElem?_cons_zero, List.getElem?_cons_succ, hxj, o1, heap_self lx, -stn_p]
      have hz2 : (setBlk wj x (.cells #[outv', b, c, .int .i64 l.ops] 60)).heap[z]? = some (.cells [.slice none 0 0, .slice none 0 0, .slice none 0 0, .int .i64 0].toArray 60) := by rw [heap_ne hxz]; exact hzj
      rw [stAll (k := 4) hz2 rfl rfl (by simp only [all_cons1, all_nil1, o1, o2, o3]; rfl)]
      rw [lvLed (live_of hz2) rfl]
      have kS : Kp [x, z] wj (setBlk (setBlk wj x (.cells #[outv', b, c, .int .i64 l.ops] 60)) z (.cells #[outv', b, c, .int .i64 l.ops] 60)) := ((Kp.refl _ wj).setBlk (.inl (by simp)) _).setBlk (.inl (by simp)) _
      have k0 : Kp [] w (setBlk (setBlk wj x (.cells #[outv', b, c, .int .i64 l.ops] 60)) z (.cells #[outv', b, c, .int .i64 l.ops] 60)) := (hk03.trans' hfj.kp).trans kS fun q hq hlt => by simp at hq; omega
      rw [ho] at hK
      have hsz3 := hk03.size
      have hszj := kS.size
      have hlS := hS.lt
      refine hK _ _ (S ++ (SB ++ SC)) k0 ⟨⟨outv', b, c, S, SB, SC, rfl, .inr (hS.keep kS fun q hq => by have := hSn q hq; simp; omega).rd, hb1.keep k0 (by simp), hc1.keep k0 (by simp), rfl⟩, fun q hq => ?_⟩ fun q hq => ?_
      · rcases List.mem_append.1 hq with hq | hq
        · have := hlS q hq; omega
        · have := hlt0 q (by rw [hS0]; simp only [List.mem_append] at hq ⊢; exact .inr hq); have := k0.size; omega
      · rcases List.mem_append.1 hq with hq | hq
        · have := hSn q hq; exact .inr (by omega)
        · exact .inl (by rw [hS0]; simp only [List.mem_append] at hq ⊢; exact .inr hq)
    cases done with
    | true =>
      have := fin outv out wi hf (by rw [he]; simp [putD])
      simp [-getElem?_pos, -Array.all_eq_true, -Array.getElem?_eq_getElem, -List.length_flatten, List.getElem?_cons_zero, List.getElem?_cons_succ, -ldn_p, -stn_p] at this ⊢
      exact this
    | false =>
      simp [-getElem?_pos, -Array.all_eq_true, -Array.getElem?_eq_getElem, -List.length_flatten, List.getElem?_cons_zero, List.getElem?_cons_succ, -ldn_p, -stn_p]
      have hld : ∀ {K' : Value → Prop}, ldn 4 (.pointer (some ⟨y, 0, none⟩)) wi K' = K' (sA s) := fun {K'} => ldAll hyi rfl
      rw [hld]
      have hp := push_stock hf (by omega) s (K := fun t64 w => fa 0 (.pointer (some ⟨x, 0, none⟩)) fun t66 => st1 t66 t64 w fun w => ldn 4 (.pointer (some ⟨x, 0, none⟩)) w fun t67 => stn 4 (.pointer (some ⟨z, 0, none⟩)) t67 w fun w => qG Try.prog (do loadVar 60 (← asAddr (.pointer (some ⟨z, 0, none⟩)))) w fun r4 => K r4 w) (fun v' w' h' => fin v' _ w' h' (by rw [he]; simp [putD]))
      first | exact hp | (simp [-getElem?_pos, -Array.all_eq_true, -Array.getElem?_eq_getElem, -List.length_flatten, List.getElem?_cons_zero, List.getElem?_cons_succ, -ldn_p, -stn_p] at hp ⊢; exact hp)
end Go.Proofs

set_option linter.unusedVariables false
set_option linter.unusedSimpArgs false
namespace Go.Proofs
open Go Go.Q
set_option maxRecDepth 100000
/-! quayside/quaysideref07.moved -/
def ref07_moved_s0 (R : Value → World → Prop) (x0 x1 x2 x3 : Value) (w : World) : Prop :=
  newG (Value.cells x0) 60 w fun t4 w =>
  newG (Value.cells x1) 44 w fun t5 w =>
  newG (Value.cells x3) 50 w fun t7 w =>
  newG (zc Try.prog 60) 60 w fun t8 w =>
  ldn 4 t4 w fun t11 =>
  fa 0 t5 fun t12 =>
  ld1 t12 w fun t13 =>
  fa 1 t5 fun t14 =>
  ld1 t14 w fun t15 =>
  callG Try.prog 117 #[t11, t13, t15] w fun t16 w =>
  newG (zc Try.prog 44) 44 w fun t9 w =>
  stn 4 t9 t16 w fun w =>
  fa 2 t9 fun t17 =>
  ld1 t17 w fun t18 =>
  qG Try.prog (bq .add 3 (.tmp 18) (.tmp 19) t18 x2) w fun t20 =>
  fa 2 t9 fun t21 =>
  st1 t21 t20 w fun w =>
  ldn 4 t4 w fun t22 =>
  ldn 4 t9 w fun t23 =>
  callG Try.prog 124 #[t22, t23] w fun t24 w =>
  stn 4 t4 t24 w fun w =>
  fa 2 t4 fun t26 =>
  ld1 t26 w fun t27 =>
  app 50 6 64 (zc Try.prog 50) (.slice none 0 0) t27 w fun t28 w =>
  fa 2 t4 fun t30 =>
  ld1 t30 w fun t31 =>
  lenL t31 fun t32 =>
  qG Try.prog (bq .add 3 (.tmp 32) (.const (.int .i64 1)) t32 (.int .i64 1)) w fun t33 =>
  fa 0 t5 fun t34 =>
  ld1 t34 w fun t35 =>
  fa 1 t5 fun t36 =>
  ld1 t36 w fun t37 =>
  fa 4 t7 fun t39 =>
  ld1 t39 w fun t40 =>
  fa 5 t7 fun t41 =>
  ld1 t41 w fun t42 =>
  bld [(0, 1), (1, 1), (2, 1), (3, 1), (4, 1), (5, 1)] (zc Try.prog 50) #[(0, t33), (1, t35), (2, t37), (3, x2), (4, t40), (5, t42)] fun t43 =>
  bsl 50 6 1 (zc Try.prog 50) #[(0, t43)] w fun t44 w =>
  app 50 6 64 (zc Try.prog 50) t28 t44 w fun t45 w =>
  fa 2 t4 fun t46 =>
  st1 t46 t45 w fun w =>
  ldn 4 t4 w fun t47 =>
  stn 4 t8 t47 w fun w =>
  qG Try.prog (do loadVar 60 (← asAddr t8)) w fun r8 =>
  R r8 w
theorem ref07_moved_s0_eq (R : Value → World → Prop) : ∀ e w, lift Try.prog 48 (bodyOf Try.f112) (finK Try.prog Try.f112.results.toList R) e w = ref07_moved_s0 R (e 0) (e 1) (e 2) (e 3) w := fun e w => by kernel_rfl
def ref07_moved (R : Value → World → Prop) (x0 x1 x2 x3 : Value) (w : World) : Prop := ref07_moved_s0 R x0 x1 x2 x3 w
theorem ref07_moved_call {R : Value → World → Prop} {x0 x1 x2 x3 : Value} {w : World} (h : ref07_moved R x0 x1 x2 x3 w) : callG Try.prog 112 #[x0, x1, x2, x3] w R :=
  calls_lift_eq Try.mixed Try.func112 (args := [x0, x1, x2, x3]) rfl rfl rfl rfl ((ref07_moved_s0_eq R) (envOf [x0, x1, x2, x3]) w) (by kernel_rfl) h
/-! quayside/quaysideref07.held -/
def ref07_held_s0 (R : Value → World → Prop) (x0 x1 x2 : Value) (w : World) : Prop :=
  newG (Value.cells x0) 60 w fun t3 w =>
  newG (Value.cells x1) 44 w fun t4 w =>
  newG (zc Try.prog 60) 60 w fun t6 w =>
  ldn 4 t3 w fun t8 =>
  fa 0 t4 fun t9 =>
  ld1 t9 w fun t10 =>
  fa 1 t4 fun t11 =>
  ld1 t11 w fun t12 =>
  callG Try.prog 117 #[t8, t10, t12] w fun t13 w =>
  newG (zc Try.prog 44) 44 w fun t7 w =>
  stn 4 t7 t13 w fun w =>
  fa 3 t7 fun t14 =>
  ld1 t14 w fun t15 =>
  qG Try.prog (bq .add 3 (.tmp 15) (.tmp 16) t15 x2) w fun t17 =>
  fa 3 t7 fun t18 =>
  st1 t18 t17 w fun w =>
  ldn 4 t3 w fun t19 =>
  ldn 4 t7 w fun t20 =>
  callG Try.prog 124 #[t19, t20] w fun t21 w =>
  stn 4 t6 t21 w fun w =>
  qG Try.prog (do loadVar 60 (← asAddr t6)) w fun r6 =>
  R r6 w
theorem ref07_held_s0_eq (R : Value → World → Prop) : ∀ e w, lift Try.prog 22 (bodyOf Try.f114) (finK Try.prog Try.f114.results.toList R) e w = ref07_held_s0 R (e 0) (e 1) (e 2) w := fun e w => by kernel_rfl
def ref07_held (R : Value → World → Prop) (x0 x1 x2 : Value) (w : World) : Prop := ref07_held_s0 R x0 x1 x2 w
theorem ref07_held_call {R : Value → World → Prop} {x0 x1 x2 : Value} {w : World} (h : ref07_held R x0 x1 x2 w) : callG Try.prog 114 #[x0, x1, x2] w R :=
  calls_lift_eq Try.mixed Try.func114 (args := [x0, x1, x2]) rfl rfl rfl rfl ((ref07_held_s0_eq R) (envOf [x0, x1, x2]) w) (by kernel_rfl) h
/-! quayside/quaysideref07.over -/
def ref07_over_s0 (R : Value → World → Prop) (x2 x3 x4 : Value) (w : World) : Prop :=
  fa 1 x2 fun t26 =>
  ld1 t26 w fun t27 =>
  fa 5 x3 fun t28 =>
  ld1 t28 w fun t29 =>
  qG Try.prog (bq .sub 3 (.tmp 29) (.const (.int .i64 1)) t29 (.int .i64 1)) w fun t30 =>
  ia 6 t27 t30 fun t31 =>
  ldn 6 t31 w fun t32 =>
  newG (zc Try.prog 34) 34 w fun t6 w =>
  stn 6 t6 t32 w fun w =>
  fa 1 t6 fun t33 =>
  ld1 t33 w fun t34 =>
  fa 2 t6 fun t35 =>
  ld1 t35 w fun t36 =>
  bld [(0, 1), (1, 1), (2, 1), (3, 1)] (zc Try.prog 44) #[(0, t34), (1, t36)] fun t37 =>
  newG (zc Try.prog 44) 44 w fun t7 w =>
  stn 4 t7 t37 w fun w =>
  ldn 4 x2 w fun t38 =>
  ldn 4 t7 w fun t39 =>
  fa 3 t6 fun t40 =>
  ld1 t40 w fun t41 =>
  qG Try.prog (Op.unary .neg t41) w fun t42 =>
  callG Try.prog 114 #[t38, t39, t42] w fun t43 w =>
  stn 4 x2 t43 w fun w =>
  fa 0 x3 fun t44 =>
  ld1 t44 w fun t45 =>
  qG Try.prog (bq .eql 3 (.tmp 45) (.const (.int .i64 4)) t45 (.int .i64 4)) w fun t46 =>
  bV t46
  (ldn 4 x2 w fun t47 =>
  fa 5 x3 fun t48 =>
  ld1 t48 w fun t49 =>
  qG Try.prog (bq .sub 3 (.tmp 49) (.const (.int .i64 1)) t49 (.int .i64 1)) w fun t50 =>
  callG Try.prog 126 #[t47, t50, (.int .i64 2)] w fun t51 w =>
  stn 4 x4 t51 w fun w =>
  qG Try.prog (do loadVar 60 (← asAddr x4)) w fun r4 =>
  R (.tuple #[r4, (.int .i64 0)]) w)
  (ldn 4 x2 (World.drew w) fun t52 =>
  fa 5 x3 fun t53 =>
  ld1 t53 (World.drew w) fun t54 =>
  qG Try.prog (bq .sub 3 (.tmp 54) (.const (.int .i64 1)) t54 (.int .i64 1)) (World.drew w) fun t55 =>
  ldn 4 t7 (World.drew w) fun t57 =>
  fa 3 t6 fun t58 =>
  ld1 t58 (World.drew w) fun t59 =>
  qG Try.prog (Op.unary .neg t59) (World.drew w) fun t60 =>
  fa 0 x3 fun t61 =>
  ld1 t61 (World.drew w) fun t62 =>
  fa 0 t6 fun t63 =>
  ld1 t63 (World.drew w) fun t64 =>
  bld [(0, 1), (1, 1), (2, 1), (3, 1), (4, 1), (5, 1)] (zc Try.prog 50) #[(4, t62), (5, t64)] fun t65 =>
  callG Try.prog 126 #[t52, t55, (.int .i64 1)] (World.drew w) fun t56 w =>
  ld1 t63 w (fun u => u = t64) ∧
  ld1 t61 w (fun u => u = t62) ∧
  stb Try.prog (Op.unary .neg t59) t60 w ∧
  ld1 t58 w (fun u => u = t59) ∧
  ldn 4 t7 w (fun u => u = t57) ∧
  callG Try.prog 112 #[t56, t57, t60, t65] w fun t66 w =>
  stn 4 x4 t66 w fun w =>
  qG Try.prog (do loadVar 60 (← asAddr x4)) w fun r4_1 =>
  R (.tuple #[r4_1, (.int .i64 0)]) w)
theorem ref07_over_s0_eq (R : Value → World → Prop) : ∀ e w, lift Try.prog 67 (sub (bodyOf Try.f115) [1, 1]) (finK Try.prog Try.f115.results.toList R) e w = ref07_over_s0 R (e 2) (e 3) (e 4) w := fun e w => by kernel_rfl
def ref07_over_s1 (R : Value → World → Prop) (x0 x1 : Value) (w : World) : Prop :=
  newG (Value.cells x0) 60 w fun t2 w =>
  newG (Value.cells x1) 23 w fun t3 w =>
  newG (zc Try.prog 60) 60 w fun t4 w =>
  fa 5 t3 fun t8 =>
  ld1 t8 w fun t9 =>
  fa 1 t2 fun t10 =>
  ld1 t10 w fun t11 =>
  lenL t11 fun t12 =>
  qG Try.prog (bq .gtr 3 (.tmp 9) (.tmp 12) t9 t12) w fun t13 =>
  bV t13
  (ldn 4 t2 w fun t25 =>
  stn 4 t4 t25 w fun w =>
  qG Try.prog (do loadVar 60 (← asAddr t4)) w fun r4 =>
  R (.tuple #[r4, (.int .i64 71)]) w)
  (fa 1 t2 fun t15 =>
  ld1 t15 w fun t16 =>
  fa 5 t3 fun t17 =>
  ld1 t17 w fun t18 =>
  qG Try.prog (bq .sub 3 (.tmp 18) (.const (.int .i64 1)) t18 (.int .i64 1)) w fun t19 =>
  ia 6 t16 t19 fun t20 =>
  fa 4 t20 fun t21 =>
  ld1 t21 w fun t22 =>
  qG Try.prog (bq .neq 3 (.tmp 22) (.const (.int .i64 0)) t22 (.int .i64 0)) w fun t23 =>
  bV t23
  (ldn 4 t2 w fun t25_1 =>
  stn 4 t4 t25_1 w fun w =>
  qG Try.prog (do loadVar 60 (← asAddr t4)) w fun r4_1 =>
  R (.tuple #[r4_1, (.int .i64 71)]) w)
  (ref07_over_s0 R t2 t3 t4 w))
theorem ref07_over_s1_eq (R : Value → World → Prop) : ∀ e w, lift Try.prog 67 (bodyOf Try.f115) (finK Try.prog Try.f115.results.toList R) e w = ref07_over_s1 R (e 0) (e 1) w :=
  segs_eq (l := [(sub (bodyOf Try.f115) [0]), (sub (bodyOf Try.f115) [1, 0])]) (y := (sub (bodyOf Try.f115) [1, 1])) (Y := (fun e w => ref07_over_s0 R (e 2) (e 3) (e 4) w)) (ref07_over_s0_eq R) (fun e w => by kernel_rfl)
def ref07_over (R : Value → World → Prop) (x0 x1 : Value) (w : World) : Prop := ref07_over_s1 R x0 x1 w
theorem ref07_over_call {R : Value → World → Prop} {x0 x1 : Value} {w : World} (h : ref07_over R x0 x1 w) : callG Try.prog 115 #[x0, x1] w R :=
  calls_lift_eq Try.mixed Try.func115 (args := [x0, x1]) rfl rfl rfl rfl ((ref07_over_s1_eq R) (envOf [x0, x1]) w) (by kernel_rfl) h
/-! quayside/quaysideref07.expire -/
def ref07_expire_s0 (R : Value → World → Prop) (x2 x4 : Value) (w : World) : Prop :=
  ldn 4 x2 w fun t45 =>
  stn 4 x4 t45 w fun w =>
  qG Try.prog (do loadVar 60 (← asAddr x4)) w fun r4 =>
  R r4 w
theorem ref07_expire_s0_eq (R : Value → World → Prop) : ∀ e w, lift Try.prog 46 (sub (bodyOf Try.f116) [1, 1]) (finK Try.prog Try.f116.results.toList R) e w = ref07_expire_s0 R (e 2) (e 4) w := fun e w => by kernel_rfl
def ref07_expire_s1 (R : Value → World → Prop) (N1 : List Value → World → Prop) (x1 x2 x4 x5 : Value) (w : World) : Prop :=
  qG Try.prog (bq .add 3 (.tmp 12) (.const (.int .i64 1)) x5 (.int .i64 1)) w fun t13 =>
  N1 [x1, x2, x4, t13] w
theorem ref07_expire_s1_eq (R : Value → World → Prop) (N1 : List Value → World → Prop) : ∀ e w, lift Try.prog 46 (sub (bodyOf Try.f116) [1, 0, 1, 0, 0, 1, 1]) (seqK (fun e w => N1 [e 1, e 2, e 4, e 5] w) (blockK 0 (seqK (fun e w => ref07_expire_s0 R (e 2) (e 4) w) (finK Try.prog Try.f116.results.toList R)))) e w = ref07_expire_s1 R N1 (e 1) (e 2) (e 4) (e 5) w := fun e w => by kernel_rfl
def ref07_expire_s2 (R : Value → World → Prop) (N1 : List Value → World → Prop) (x1 x2 x4 x5 x6 x32 : Value) (w : World) : Prop :=
  bV x32
  (ldn 4 x2 w fun t33 =>
  fa 1 x6 fun t34 =>
  ld1 t34 w fun t35 =>
  fa 2 x6 fun t36 =>
  ld1 t36 w fun t37 =>
  bld [(0, 1), (1, 1), (2, 1), (3, 1)] (zc Try.prog 44) #[(0, t35), (1, t37)] fun t38 =>
  fa 3 x6 fun t39 =>
  ld1 t39 w fun t40 =>
  qG Try.prog (Op.unary .neg t40) w fun t41 =>
  callG Try.prog 114 #[t33, t38, t41] w fun t42 w =>
  callG Try.prog 126 #[t42, x5, (.int .i64 2)] w fun t44 w =>
  stn 4 x2 t44 w fun w =>
  ref07_expire_s1 R N1 x1 x2 x4 x5 w)
  (ref07_expire_s1 R N1 x1 x2 x4 x5 w)
theorem ref07_expire_s2_eq (R : Value → World → Prop) (N1 : List Value → World → Prop) : ∀ e w, lift Try.prog 46 (sub (bodyOf Try.f116) [1, 0, 1, 0, 0, 1, 0, 0, 1, 1]) (blockK 1 (seqK (fun e w => ref07_expire_s1 R N1 (e 1) (e 2) (e 4) (e 5) w) (seqK (fun e w => N1 [e 1, e 2, e 4, e 5] w) (blockK 0 (seqK (fun e w => ref07_expire_s0 R (e 2) (e 4) w) (finK Try.prog Try.f116.results.toList R)))))) e w = ref07_expire_s2 R N1 (e 1) (e 2) (e 4) (e 5) (e 6) (e 32) w := fun e w => by kernel_rfl
def ref07_expire_s3 (R : Value → World → Prop) (N1 : List Value → World → Prop) (x1 x2 x4 x5 : Value) (w : World) : Prop :=
  fa 1 x2 fun t14 =>
  ld1 t14 w fun t15 =>
  ia 6 t15 x5 fun t17 =>
  ldn 6 t17 w fun t18 =>
  newG (zc Try.prog 34) 34 w fun t6 w =>
  stn 6 t6 t18 w fun w =>
  fa 4 t6 fun t19 =>
  ld1 t19 w fun t20 =>
  qG Try.prog (bq .eql 3 (.tmp 20) (.const (.int .i64 0)) t20 (.int .i64 0)) w fun t21 =>
  bV t21
  (fa 5 t6 fun t23 =>
  ld1 t23 w fun t24 =>
  qG Try.prog (bq .gtr 3 (.tmp 24) (.const (.int .i64 0)) t24 (.int .i64 0)) w fun t25 =>
  bV t25
  (fa 5 t6 fun t28 =>
  ld1 t28 w fun t29 =>
  qG Try.prog (bq .leq 3 (.tmp 29) (.tmp 30) t29 x1) w fun t31 =>
  ref07_expire_s2 R N1 x1 x2 x4 x5 t6 t31 w)
  (ref07_expire_s2 R N1 x1 x2 x4 x5 t6 (.bool false) w))
  (ref07_expire_s2 R N1 x1 x2 x4 x5 t6 (.bool false) w)
theorem ref07_expire_s3_eq (R : Value → World → Prop) (N1 : List Value → World → Prop) : ∀ e w, lift Try.prog 46 (sub (bodyOf Try.f116) [1, 0, 1, 0, 0, 1, 0, 0]) (blockK 1 (seqK (fun e w => ref07_expire_s1 R N1 (e 1) (e 2) (e 4) (e 5) w) (seqK (fun e w => N1 [e 1, e 2, e 4, e 5] w) (blockK 0 (seqK (fun e w => ref07_expire_s0 R (e 2) (e 4) w) (finK Try.prog Try.f116.results.toList R)))))) e w = ref07_expire_s3 R N1 (e 1) (e 2) (e 4) (e 5) w :=
  segs_eq (l := [(sub (bodyOf Try.f116) [1, 0, 1, 0, 0, 1, 0, 0, 0]), (sub (bodyOf Try.f116) [1, 0, 1, 0, 0, 1, 0, 0, 1, 0])]) (y := (sub (bodyOf Try.f116) [1, 0, 1, 0, 0, 1, 0, 0, 1, 1])) (Y := (fun e w => ref07_expire_s2 R N1 (e 1) (e 2) (e 4) (e 5) (e 6) (e 32) w)) (ref07_expire_s2_eq R N1) (fun e w => by kernel_rfl)
def ref07_expire_s4 (R : Value → World → Prop) (N1 : List Value → World → Prop) (x1 x2 x4 x5 : Value) (w : World) : Prop :=
  fa 1 x2 fun t8 =>
  ld1 t8 w fun t9 =>
  lenL t9 fun t10 =>
  qG Try.prog (bq .lss 3 (.tmp 7) (.tmp 10) x5 t10) w fun t11 =>
  bV t11
  (ref07_expire_s3 R N1 x1 x2 x4 x5 w)
  (ref07_expire_s0 R x2 x4 w)
theorem ref07_expire_s4_eq (R : Value → World → Prop) (N1 : List Value → World → Prop) : ∀ e w, lift Try.prog 46 (sub (bodyOf Try.f116) [1, 0, 1, 0, 0]) (seqK (fun e w => N1 [e 1, e 2, e 4, e 5] w) (blockK 0 (seqK (fun e w => ref07_expire_s0 R (e 2) (e 4) w) (finK Try.prog Try.f116.results.toList R)))) e w = ref07_expire_s4 R N1 (e 1) (e 2) (e 4) (e 5) w :=
  segs_eq (l := [(sub (bodyOf Try.f116) [1, 0, 1, 0, 0, 0])]) (y := (sub (bodyOf Try.f116) [1, 0, 1, 0, 0, 1])) (Y := (fun e w => ref07_expire_s3 R N1 (e 1) (e 2) (e 4) (e 5) w)) (seq_seg (x := (sub (bodyOf Try.f116) [1, 0, 1, 0, 0, 1, 0])) (y := (sub (bodyOf Try.f116) [1, 0, 1, 0, 0, 1, 1])) (ref07_expire_s1_eq R N1) (ref07_expire_s3_eq R N1)) (fun e w => by kernel_rfl)
def ref07_expire_L5F (R : Value → World → Prop) (N1 : List Value → World → Prop) (xs : List Value) (w : World) : Prop :=
  match xs with
  | [x1, x2, x4, x5] => ref07_expire_s4 R N1 x1 x2 x4 x5 w
  | _ => False
def ref07_expire_L5 (R : Value → World → Prop) (x1 x2 x4 x5 : Value) (w : World) : Prop :=
  ∃ m, loopV (ref07_expire_L5F R) m [x1, x2, x4, x5] w
theorem ref07_expire_L5_eq (R : Value → World → Prop) : ∀ e w, lift Try.prog 46 (sub (bodyOf Try.f116) [1, 0, 1, 0]) (blockK 0 (seqK (fun e w => ref07_expire_s0 R (e 2) (e 4) w) (finK Try.prog Try.f116.results.toList R))) e w = ref07_expire_L5 R (e 1) (e 2) (e 4) (e 5) w := loop_seg (F := ref07_expire_L5F R) (sel := fun e => [e 1, e 2, e 4, e 5]) fun N1 => (ref07_expire_s4_eq R N1)
def ref07_expire_s6 (R : Value → World → Prop) (x1 x2 x4 : Value) (w : World) : Prop :=
  ref07_expire_L5 R x1 x2 x4 (.int .i64 0) w
theorem ref07_expire_s6_eq (R : Value → World → Prop) : ∀ e w, lift Try.prog 46 (sub (bodyOf Try.f116) [1, 0]) (seqK (fun e w => ref07_expire_s0 R (e 2) (e 4) w) (finK Try.prog Try.f116.results.toList R)) e w = ref07_expire_s6 R (e 1) (e 2) (e 4) w :=
  segs_eq (l := [(sub (bodyOf Try.f116) [1, 0, 0])]) (y := (sub (bodyOf Try.f116) [1, 0, 1])) (Y := (fun e w => ref07_expire_L5 R (e 1) (e 2) (e 4) (e 5) w)) (ref07_expire_L5_eq R) (fun e w => by kernel_rfl)
def ref07_expire_s7 (R : Value → World → Prop) (x0 x1 : Value) (w : World) : Prop :=
  newG (Value.cells x0) 60 w fun t2 w =>
  newG (zc Try.prog 60) 60 w fun t4 w =>
  ref07_expire_s6 R x1 t2 t4 w
theorem ref07_expire_s7_eq (R : Value → World → Prop) : ∀ e w, lift Try.prog 46 (bodyOf Try.f116) (finK Try.prog Try.f116.results.toList R) e w = ref07_expire_s7 R (e 0) (e 1) w :=
  segs_eq (l := [(sub (bodyOf Try.f116) [0])]) (y := (sub (bodyOf Try.f116) [1])) (Y := (fun e w => ref07_expire_s6 R (e 1) (e 2) (e 4) w)) (seq_seg (x := (sub (bodyOf Try.f116) [1, 0])) (y := (sub (bodyOf Try.f116) [1, 1])) (ref07_expire_s0_eq R) (ref07_expire_s6_eq R)) (fun e w => by kernel_rfl)
def ref07_expire (R : Value → World → Prop) (x0 x1 : Value) (w : World) : Prop := ref07_expire_s7 R x0 x1 w
theorem ref07_expire_call {R : Value → World → Prop} {x0 x1 : Value} {w : World} (h : ref07_expire R x0 x1 w) : callG Try.prog 116 #[x0, x1] w R :=
  calls_lift_eq Try.mixed Try.func116 (args := [x0, x1]) rfl rfl rfl rfl ((ref07_expire_s7_eq R) (envOf [x0, x1]) w) (by kernel_rfl) h
/-! quayside/quaysideref07.does -/
def ref07_does_s0 (R : Value → World → Prop) (x2 x3 x4 x6 : Value) (w : World) : Prop :=
  ldn 4 x2 w fun t148 =>
  fa 1 x3 fun t149 =>
  ld1 t149 w fun t150 =>
  fa 2 x3 fun t151 =>
  ld1 t151 w fun t152 =>
  fa 4 x3 fun t153 =>
  ld1 t153 w fun t154 =>
  callG Try.prog 111 #[t148, t150, t152, t154] w fun t155 w =>
  qG Try.prog (Instr.extract t155 0) w fun t156 =>
  qG Try.prog (Instr.extract t155 1) w fun t157 =>
  qG Try.prog (bq .neq 26 (.tmp 158) (.const (.int .i64 0)) t157 (.int .i64 0)) w fun t159 =>
  bV t159
  (ldn 4 x2 w fun t160 =>
  stn 4 x4 t160 w fun w =>
  qG Try.prog (do loadVar 60 (← asAddr x4)) w fun r4 =>
  R (.tuple #[r4, t157]) w)
  (ldn 4 x2 w fun t163 =>
  fa 1 x3 fun t164 =>
  ld1 t164 w fun t165 =>
  fa 2 x3 fun t166 =>
  ld1 t166 w fun t167 =>
  callG Try.prog 117 #[t163, t165, t167] w fun t168 w =>
  fld false 3 1 t168 fun t169 =>
  qG Try.prog (bq .lss 3 (.tmp 162) (.tmp 169) t156 t169) w fun t170 =>
  bV t170
  (ldn 4 x2 w fun t171 =>
  stn 4 x4 t171 w fun w =>
  qG Try.prog (do loadVar 60 (← asAddr x4)) w fun r4_1 =>
  R (.tuple #[r4_1, (.int .i64 70)]) w)
  (ldn 4 x2 w fun t172 =>
  ldn 4 x6 w fun t173 =>
  fa 4 x3 fun t174 =>
  ld1 t174 w fun t175 =>
  fa 0 x3 fun t176 =>
  ld1 t176 w fun t177 =>
  bld [(0, 1), (1, 1), (2, 1), (3, 1), (4, 1), (5, 1)] (zc Try.prog 50) #[(4, t177)] fun t178 =>
  callG Try.prog 112 #[t172, t173, t175, t178] w fun t179 w =>
  stn 4 x4 t179 w fun w =>
  qG Try.prog (do loadVar 60 (← asAddr x4)) w fun r4_2 =>
  R (.tuple #[r4_2, (.int .i64 0)]) w))
theorem ref07_does_s0_eq (R : Value → World → Prop) : ∀ e w, lift Try.prog 180 (sub (bodyOf Try.f97) [1, 1, 1]) (finK Try.prog Try.f97.results.toList R) e w = ref07_does_s0 R (e 2) (e 3) (e 4) (e 6) w := fun e w => by kernel_rfl
def ref07_does_s1 (R : Value → World → Prop) (x2 x3 x4 x6 : Value) (w : World) : Prop :=
  ldn 4 x2 w fun t24 =>
  fa 1 x3 fun t25 =>
  ld1 t25 w fun t26 =>
  fa 2 x3 fun t27 =>
  ld1 t27 w fun t28 =>
  fa 4 x3 fun t29 =>
  ld1 t29 w fun t30 =>
  callG Try.prog 111 #[t24, t26, t28, t30] w fun t31 w =>
  qG Try.prog (Instr.extract t31 0) w fun t32 =>
  qG Try.prog (Instr.extract t31 1) w fun t33 =>
  qG Try.prog (bq .neq 26 (.tmp 34) (.const (.int .i64 0)) t33 (.int .i64 0)) w fun t35 =>
  bV t35
  (ldn 4 x2 w fun t36 =>
  stn 4 x4 t36 w fun w =>
  qG Try.prog (do loadVar 60 (← asAddr x4)) w fun r4 =>
  R (.tuple #[r4, t33]) w)
  (ldn 4 x2 w fun t38 =>
  ldn 4 x6 w fun t39 =>
  fa 4 x3 fun t40 =>
  ld1 t40 w fun t41 =>
  fa 0 x3 fun t42 =>
  ld1 t42 w fun t43 =>
  bld [(0, 1), (1, 1), (2, 1), (3, 1), (4, 1), (5, 1)] (zc Try.prog 50) #[(4, t43)] fun t44 =>
  callG Try.prog 112 #[t38, t39, t41, t44] w fun t45 w =>
  stn 4 x4 t45 w fun w =>
  qG Try.prog (do loadVar 60 (← asAddr x4)) w fun r4_1 =>
  R (.tuple #[r4_1, (.int .i64 0)]) w)
theorem ref07_does_s1_eq (R : Value → World → Prop) : ∀ e w, lift Try.prog 180 (sub (bodyOf Try.f97) [1, 1, 0, 1, 0, 1, 0]) (blockK 0 (seqK (fun e w => ref07_does_s0 R (e 2) (e 3) (e 4) (e 6) w) (finK Try.prog Try.f97.results.toList R))) e w = ref07_does_s1 R (e 2) (e 3) (e 4) (e 6) w := fun e w => by kernel_rfl
def ref07_does_s2 (R : Value → World → Prop) (x2 x3 x4 x6 : Value) (w : World) : Prop :=
  ldn 4 x2 (World.drew w) fun t48 =>
  fa 1 x3 fun t49 =>
  ld1 t49 (World.drew w) fun t50 =>
  fa 2 x3 fun t51 =>
  ld1 t51 (World.drew w) fun t52 =>
  fa 4 x3 fun t54 =>
  ld1 t54 (World.drew w) fun t55 =>
  callG Try.prog 113 #[t48, t50, t52] (World.drew w) fun t53 w =>
  ld1 t54 w (fun u => u = t55) ∧
  qG Try.prog (bq .lss 3 (.tmp 53) (.tmp 55) t53 t55) w fun t56 =>
  bV t56
  (ldn 4 x2 w fun t57 =>
  stn 4 x4 t57 w fun w =>
  qG Try.prog (do loadVar 60 (← asAddr x4)) w fun r4 =>
  R (.tuple #[r4, (.int .i64 70)]) w)
  (ldn 4 x2 w fun t58 =>
  ldn 4 x6 w fun t59 =>
  fa 4 x3 fun t60 =>
  ld1 t60 w fun t61 =>
  callG Try.prog 114 #[t58, t59, t61] w fun t62 w =>
  stn 4 x2 t62 w fun w =>
  fa 1 x2 fun t64 =>
  ld1 t64 w fun t65 =>
  app 34 6 64 (zc Try.prog 34) (.slice none 0 0) t65 w fun t66 w =>
  fa 1 x2 fun t68 =>
  ld1 t68 w fun t69 =>
  lenL t69 fun t70 =>
  qG Try.prog (bq .add 3 (.tmp 70) (.const (.int .i64 1)) t70 (.int .i64 1)) w fun t71 =>
  fa 1 x3 fun t72 =>
  ld1 t72 w fun t73 =>
  fa 2 x3 fun t74 =>
  ld1 t74 w fun t75 =>
  fa 4 x3 fun t76 =>
  ld1 t76 w fun t77 =>
  fa 6 x3 fun t78 =>
  ld1 t78 w fun t79 =>
  bld [(0, 1), (1, 1), (2, 1), (3, 1), (4, 1), (5, 1)] (zc Try.prog 34) #[(0, t71), (1, t73), (2, t75), (3, t77), (5, t79)] fun t80 =>
  bsl 34 6 1 (zc Try.prog 34) #[(0, t80)] w fun t81 w =>
  app 34 6 64 (zc Try.prog 34) t66 t81 w fun t82 w =>
  fa 1 x2 fun t83 =>
  st1 t83 t82 w fun w =>
  ldn 4 x2 w fun t84 =>
  stn 4 x4 t84 w fun w =>
  qG Try.prog (do loadVar 60 (← asAddr x4)) w fun r4_1 =>
  R (.tuple #[r4_1, (.int .i64 0)]) w)
theorem ref07_does_s2_eq (R : Value → World → Prop) : ∀ e w, lift Try.prog 180 (sub (bodyOf Try.f97) [1, 1, 0, 1, 0, 1, 1, 1, 0]) (blockK 0 (seqK (fun e w => ref07_does_s0 R (e 2) (e 3) (e 4) (e 6) w) (finK Try.prog Try.f97.results.toList R))) e w = ref07_does_s2 R (e 2) (e 3) (e 4) (e 6) w := fun e w => by kernel_rfl
def ref07_does_s3 (R : Value → World → Prop) (x2 x3 x4 x6 x20 x85 : Value) (w : World) : Prop :=
  bV x85
  (ldn 4 x2 w fun t88 =>
  ldn 7 x3 w fun t89 =>
  callG Try.prog 115 #[t88, t89] w fun t90 w =>
  qG Try.prog (Instr.extract t90 0) w fun t91 =>
  qG Try.prog (Instr.extract t90 1) w fun t92 =>
  stn 4 x4 t91 w fun w =>
  qG Try.prog (do loadVar 60 (← asAddr x4)) w fun r4 =>
  R (.tuple #[r4, t92]) w)
  (qG Try.prog (bq .eql 3 (.tmp 20) (.const (.int .i64 5)) x20 (.int .i64 5)) w fun t94 =>
  bV t94
  (ldn 4 x2 w fun t95 =>
  fa 6 x3 fun t96 =>
  ld1 t96 w fun t97 =>
  callG Try.prog 116 #[t95, t97] w fun t98 w =>
  stn 4 x4 t98 w fun w =>
  qG Try.prog (do loadVar 60 (← asAddr x4)) w fun r4_1 =>
  R (.tuple #[r4_1, (.int .i64 0)]) w)
  (qG Try.prog (bq .eql 3 (.tmp 20) (.const (.int .i64 6)) x20 (.int .i64 6)) w fun t100 =>
  bV t100
  (ldn 4 x2 (World.drew w) fun t101 =>
  fa 1 x3 fun t102 =>
  ld1 t102 (World.drew w) fun t103 =>
  fa 2 x3 fun t104 =>
  ld1 t104 (World.drew w) fun t105 =>
  fa 4 x3 fun t107 =>
  ld1 t107 (World.drew w) fun t108 =>
  callG Try.prog 113 #[t101, t103, t105] (World.drew w) fun t106 w =>
  ld1 t107 w (fun u => u = t108) ∧
  qG Try.prog (bq .lss 3 (.tmp 106) (.tmp 108) t106 t108) w fun t109 =>
  bV t109
  (ldn 4 x2 w fun t110 =>
  stn 4 x4 t110 w fun w =>
  qG Try.prog (do loadVar 60 (← asAddr x4)) w fun r4_2 =>
  R (.tuple #[r4_2, (.int .i64 70)]) w)
  (ldn 4 x2 w fun t112 =>
  fa 1 x3 fun t113 =>
  ld1 t113 w fun t114 =>
  fa 3 x3 fun t115 =>
  ld1 t115 w fun t116 =>
  fa 4 x3 fun t117 =>
  ld1 t117 w fun t118 =>
  callG Try.prog 111 #[t112, t114, t116, t118] w fun t119 w =>
  qG Try.prog (Instr.extract t119 0) w fun t120 =>
  qG Try.prog (Instr.extract t119 1) w fun t121 =>
  qG Try.prog (bq .neq 26 (.tmp 122) (.const (.int .i64 0)) t121 (.int .i64 0)) w fun t123 =>
  bV t123
  (ldn 4 x2 w fun t124 =>
  stn 4 x4 t124 w fun w =>
  qG Try.prog (do loadVar 60 (← asAddr x4)) w fun r4_3 =>
  R (.tuple #[r4_3, t121]) w)
  (ldn 4 x2 w fun t126 =>
  ldn 4 x6 w fun t127 =>
  fa 4 x3 fun t128 =>
  ld1 t128 w fun t129 =>
  qG Try.prog (Op.unary .neg t129) w fun t130 =>
  fa 0 x3 fun t131 =>
  ld1 t131 w fun t132 =>
  bld [(0, 1), (1, 1), (2, 1), (3, 1), (4, 1), (5, 1)] (zc Try.prog 50) #[(4, t132)] fun t133 =>
  callG Try.prog 112 #[t126, t127, t130, t133] w fun t134 w =>
  stn 4 x2 t134 w fun w =>
  ldn 4 x2 w fun t135 =>
  fa 1 x3 fun t136 =>
  ld1 t136 w fun t137 =>
  fa 3 x3 fun t138 =>
  ld1 t138 w fun t139 =>
  bld [(0, 1), (1, 1), (2, 1), (3, 1)] (zc Try.prog 44) #[(0, t137), (1, t139)] fun t140 =>
  fa 4 x3 fun t141 =>
  ld1 t141 w fun t142 =>
  fa 0 x3 fun t143 =>
  ld1 t143 w fun t144 =>
  bld [(0, 1), (1, 1), (2, 1), (3, 1), (4, 1), (5, 1)] (zc Try.prog 50) #[(4, t144)] fun t145 =>
  callG Try.prog 112 #[t135, t140, t142, t145] w fun t146 w =>
  stn 4 x4 t146 w fun w =>
  qG Try.prog (do loadVar 60 (← asAddr x4)) w fun r4_4 =>
  R (.tuple #[r4_4, (.int .i64 0)]) w)))
  (ref07_does_s0 R x2 x3 x4 x6 w)))
theorem ref07_does_s3_eq (R : Value → World → Prop) : ∀ e w, lift Try.prog 180 (sub (bodyOf Try.f97) [1, 1, 0, 1, 0, 1, 1, 1, 1, 1]) (blockK 0 (seqK (fun e w => ref07_does_s0 R (e 2) (e 3) (e 4) (e 6) w) (finK Try.prog Try.f97.results.toList R))) e w = ref07_does_s3 R (e 2) (e 3) (e 4) (e 6) (e 20) (e 85) w := fun e w => by kernel_rfl
def ref07_does_s4 (R : Value → World → Prop) (x2 x3 x4 x6 x20 : Value) (w : World) : Prop :=
  qG Try.prog (bq .eql 3 (.tmp 20) (.const (.int .i64 3)) x20 (.int .i64 3)) w fun t86 =>
  bV t86
  (ref07_does_s3 R x2 x3 x4 x6 x20 (.bool true) w)
  (qG Try.prog (bq .eql 3 (.tmp 20) (.const (.int .i64 4)) x20 (.int .i64 4)) w fun t87 =>
  ref07_does_s3 R x2 x3 x4 x6 x20 t87 w)
theorem ref07_does_s4_eq (R : Value → World → Prop) : ∀ e w, lift Try.prog 180 (sub (bodyOf Try.f97) [1, 1, 0, 1, 0, 1, 1, 1, 1]) (blockK 0 (seqK (fun e w => ref07_does_s0 R (e 2) (e 3) (e 4) (e 6) w) (finK Try.prog Try.f97.results.toList R))) e w = ref07_does_s4 R (e 2) (e 3) (e 4) (e 6) (e 20) w :=
  segs_eq (l := [(sub (bodyOf Try.f97) [1, 1, 0, 1, 0, 1, 1, 1, 1, 0])]) (y := (sub (bodyOf Try.f97) [1, 1, 0, 1, 0, 1, 1, 1, 1, 1])) (Y := (fun e w => ref07_does_s3 R (e 2) (e 3) (e 4) (e 6) (e 20) (e 85) w)) (ref07_does_s3_eq R) (fun e w => by kernel_rfl)
def ref07_does_s5 (R : Value → World → Prop) (x2 x3 x4 x6 x20 x46 : Value) (w : World) : Prop :=
  bV x46 (ref07_does_s2 R x2 x3 x4 x6 w) (ref07_does_s4 R x2 x3 x4 x6 x20 w)
theorem ref07_does_s5_eq (R : Value → World → Prop) : ∀ e w, lift Try.prog 180 (sub (bodyOf Try.f97) [1, 1, 0, 1, 0, 1, 1, 1]) (blockK 0 (seqK (fun e w => ref07_does_s0 R (e 2) (e 3) (e 4) (e 6) w) (finK Try.prog Try.f97.results.toList R))) e w = ref07_does_s5 R (e 2) (e 3) (e 4) (e 6) (e 20) (e 46) w := fun e w => (cond_seg (ref07_does_s2_eq R) (ref07_does_s4_eq R) e w).trans (by kernel_rfl)
def ref07_does_s6 (R : Value → World → Prop) (x2 x3 x4 x6 x20 : Value) (w : World) : Prop :=
  qG Try.prog (bq .eql 3 (.tmp 20) (.const (.int .i64 2)) x20 (.int .i64 2)) w fun t47 =>
  ref07_does_s5 R x2 x3 x4 x6 x20 t47 w
theorem ref07_does_s6_eq (R : Value → World → Prop) : ∀ e w, lift Try.prog 180 (sub (bodyOf Try.f97) [1, 1, 0, 1, 0, 1, 1]) (blockK 0 (seqK (fun e w => ref07_does_s0 R (e 2) (e 3) (e 4) (e 6) w) (finK Try.prog Try.f97.results.toList R))) e w = ref07_does_s6 R (e 2) (e 3) (e 4) (e 6) (e 20) w :=
  segs_eq (l := [(sub (bodyOf Try.f97) [1, 1, 0, 1, 0, 1, 1, 0])]) (y := (sub (bodyOf Try.f97) [1, 1, 0, 1, 0, 1, 1, 1])) (Y := (fun e w => ref07_does_s5 R (e 2) (e 3) (e 4) (e 6) (e 20) (e 46) w)) (ref07_does_s5_eq R) (fun e w => by kernel_rfl)
def ref07_does_s7 (R : Value → World → Prop) (x2 x3 x4 x6 x20 x21 : Value) (w : World) : Prop :=
  bV x21 (ref07_does_s1 R x2 x3 x4 x6 w) (ref07_does_s6 R x2 x3 x4 x6 x20 w)
theorem ref07_does_s7_eq (R : Value → World → Prop) : ∀ e w, lift Try.prog 180 (sub (bodyOf Try.f97) [1, 1, 0, 1, 0, 1]) (blockK 0 (seqK (fun e w => ref07_does_s0 R (e 2) (e 3) (e 4) (e 6) w) (finK Try.prog Try.f97.results.toList R))) e w = ref07_does_s7 R (e 2) (e 3) (e 4) (e 6) (e 20) (e 21) w := fun e w => (cond_seg (ref07_does_s1_eq R) (ref07_does_s6_eq R) e w).trans (by kernel_rfl)
def ref07_does_s8 (R : Value → World → Prop) (x2 x3 x4 x6 x20 : Value) (w : World) : Prop :=
  qG Try.prog (bq .eql 3 (.tmp 20) (.const (.int .i64 1)) x20 (.int .i64 1)) w fun t22 =>
  ref07_does_s7 R x2 x3 x4 x6 x20 t22 w
theorem ref07_does_s8_eq (R : Value → World → Prop) : ∀ e w, lift Try.prog 180 (sub (bodyOf Try.f97) [1, 1, 0, 1, 0]) (blockK 0 (seqK (fun e w => ref07_does_s0 R (e 2) (e 3) (e 4) (e 6) w) (finK Try.prog Try.f97.results.toList R))) e w = ref07_does_s8 R (e 2) (e 3) (e 4) (e 6) (e 20) w :=
  segs_eq (l := [(sub (bodyOf Try.f97) [1, 1, 0, 1, 0, 0])]) (y := (sub (bodyOf Try.f97) [1, 1, 0, 1, 0, 1])) (Y := (fun e w => ref07_does_s7 R (e 2) (e 3) (e 4) (e 6) (e 20) (e 21) w)) (ref07_does_s7_eq R) (fun e w => by kernel_rfl)
def ref07_does_s9 (R : Value → World → Prop) (x2 x3 x4 x6 : Value) (w : World) : Prop :=
  fa 0 x3 fun t19 =>
  ld1 t19 w fun t20 =>
  ref07_does_s8 R x2 x3 x4 x6 t20 w
theorem ref07_does_s9_eq (R : Value → World → Prop) : ∀ e w, lift Try.prog 180 (sub (bodyOf Try.f97) [1, 1, 0]) (seqK (fun e w => ref07_does_s0 R (e 2) (e 3) (e 4) (e 6) w) (finK Try.prog Try.f97.results.toList R)) e w = ref07_does_s9 R (e 2) (e 3) (e 4) (e 6) w :=
  segs_eq (l := [(sub (bodyOf Try.f97) [1, 1, 0, 0])]) (y := (sub (bodyOf Try.f97) [1, 1, 0, 1])) (Y := (fun e w => ref07_does_s8 R (e 2) (e 3) (e 4) (e 6) (e 20) w)) (ref07_does_s8_eq R) (fun e w => by kernel_rfl)
def ref07_does_s10 (R : Value → World → Prop) (x0 x1 : Value) (w : World) : Prop :=
  newG (Value.cells x0) 60 w fun t2 w =>
  newG (Value.cells x1) 23 w fun t3 w =>
  newG (zc Try.prog 60) 60 w fun t4 w =>
  fa 1 t3 fun t14 =>
  ld1 t14 w fun t15 =>
  fa 2 t3 fun t16 =>
  ld1 t16 w fun t17 =>
  bld [(0, 1), (1, 1), (2, 1), (3, 1)] (zc Try.prog 44) #[(0, t15), (1, t17)] fun t18 =>
  newG (zc Try.prog 44) 44 w fun t6 w =>
  stn 4 t6 t18 w fun w =>
  ref07_does_s9 R t2 t3 t4 t6 w
theorem ref07_does_s10_eq (R : Value → World → Prop) : ∀ e w, lift Try.prog 180 (bodyOf Try.f97) (finK Try.prog Try.f97.results.toList R) e w = ref07_does_s10 R (e 0) (e 1) w :=
  segs_eq (l := [(sub (bodyOf Try.f97) [0]), (sub (bodyOf Try.f97) [1, 0])]) (y := (sub (bodyOf Try.f97) [1, 1])) (Y := (fun e w => ref07_does_s9 R (e 2) (e 3) (e 4) (e 6) w)) (seq_seg (x := (sub (bodyOf Try.f97) [1, 1, 0])) (y := (sub (bodyOf Try.f97) [1, 1, 1])) (ref07_does_s0_eq R) (ref07_does_s9_eq R)) (fun e w => by kernel_rfl)
def ref07_does (R : Value → World → Prop) (x0 x1 : Value) (w : World) : Prop := ref07_does_s10 R x0 x1 w
theorem ref07_does_call {R : Value → World → Prop} {x0 x1 : Value} {w : World} (h : ref07_does R x0 x1 w) : callG Try.prog 97 #[x0, x1] w R :=
  calls_lift_eq Try.mixed Try.func97 (args := [x0, x1]) rfl rfl rfl rfl ((ref07_does_s10_eq R) (envOf [x0, x1]) w) (by kernel_rfl) h
/-! quayside/quaysideref07.Step -/
def ref07_Step_s0 (R : Value → World → Prop) (x2 x4 x6 : Value) (w : World) : Prop :=
  fa 3 x2 fun t30 =>
  ld1 t30 w fun t31 =>
  qG Try.prog (bq .add 3 (.tmp 31) (.const (.int .i64 1)) t31 (.int .i64 1)) w fun t32 =>
  fa 3 x6 fun t33 =>
  st1 t33 t32 w fun w =>
  ldn 4 x6 w fun t34 =>
  stn 4 x4 t34 w fun w =>
  qG Try.prog (do loadVar 60 (← asAddr x4)) w fun r4 =>
  R (.tuple #[r4, (.int .i64 0)]) w
theorem ref07_Step_s0_eq (R : Value → World → Prop) : ∀ e w, lift Try.prog 35 (sub (bodyOf Try.f68) [1, 1, 1, 1, 1]) (finK Try.prog Try.f68.results.toList R) e w = ref07_Step_s0 R (e 2) (e 4) (e 6) w := fun e w => by kernel_rfl
def ref07_Step_s1 (R : Value → World → Prop) (x0 x1 : Value) (w : World) : Prop :=
  newG (Value.cells x0) 60 w fun t2 w =>
  newG (Value.cells x1) 23 w fun t3 w =>
  newG (zc Try.prog 60) 60 w fun t4 w =>
  ldn 7 t3 w fun t8 =>
  callG Try.prog 50 #[t8] w fun t9 w =>
  qG Try.prog (Op.unary .not t9) w fun t10 =>
  bV t10
  (ldn 4 t2 w fun t11 =>
  stn 4 t4 t11 w fun w =>
  qG Try.prog (do loadVar 60 (← asAddr t4)) w fun r4 =>
  R (.tuple #[r4, (.int .i64 1)]) w)
  (ldn 4 t2 w fun t13 =>
  ldn 7 t3 w fun t14 =>
  callG Try.prog 97 #[t13, t14] w fun t15 w =>
  qG Try.prog (Instr.extract t15 0) w fun t16 =>
  qG Try.prog (Instr.extract t15 1) w fun t17 =>
  newG (zc Try.prog 60) 60 w fun t6 w =>
  stn 4 t6 t16 w fun w =>
  qG Try.prog (bq .neq 26 (.tmp 18) (.const (.int .i64 0)) t17 (.int .i64 0)) w fun t19 =>
  bV t19
  (ldn 4 t2 w fun t20 =>
  stn 4 t4 t20 w fun w =>
  qG Try.prog (do loadVar 60 (← asAddr t4)) w fun r4_1 =>
  R (.tuple #[r4_1, t17]) w)
  (ldn 4 t6 w fun t22 =>
  callG Try.prog 98 #[t22] w fun t23 w =>
  bV t23
  (ldn 4 t2 w fun t29 =>
  stn 4 t4 t29 w fun w =>
  qG Try.prog (do loadVar 60 (← asAddr t4)) w fun r4_2 =>
  R (.tuple #[r4_2, (.int .i64 2)]) w)
  (fa 3 t2 fun t25 =>
  ld1 t25 w fun t26 =>
  qG Try.prog (bq .geq 3 (.tmp 26) (.const (.int .i64 4611686018427387904)) t26 (.int .i64 4611686018427387904)) w fun t27 =>
  bV t27
  (ldn 4 t2 w fun t29_1 =>
  stn 4 t4 t29_1 w fun w =>
  qG Try.prog (do loadVar 60 (← asAddr t4)) w fun r4_3 =>
  R (.tuple #[r4_3, (.int .i64 2)]) w)
  (ref07_Step_s0 R t2 t4 t6 w))))
theorem ref07_Step_s1_eq (R : Value → World → Prop) : ∀ e w, lift Try.prog 35 (bodyOf Try.f68) (finK Try.prog Try.f68.results.toList R) e w = ref07_Step_s1 R (e 0) (e 1) w :=
  segs_eq (l := [(sub (bodyOf Try.f68) [0]), (sub (bodyOf Try.f68) [1, 0]), (sub (bodyOf Try.f68) [1, 1, 0]), (sub (bodyOf Try.f68) [1, 1, 1, 0]), (sub (bodyOf Try.f68) [1, 1, 1, 1, 0])]) (y := (sub (bodyOf Try.f68) [1, 1, 1, 1, 1])) (Y := (fun e w => ref07_Step_s0 R (e 2) (e 4) (e 6) w)) (ref07_Step_s0_eq R) (fun e w => by kernel_rfl)
def ref07_Step (R : Value → World → Prop) (x0 x1 : Value) (w : World) : Prop := ref07_Step_s1 R x0 x1 w
theorem ref07_Step_call {R : Value → World → Prop} {x0 x1 : Value} {w : World} (h : ref07_Step R x0 x1 w) : callG Try.prog 68 #[x0, x1] w R :=
  calls_lift_eq Try.mixed Try.func68 (args := [x0, x1]) rfl rfl rfl rfl ((ref07_Step_s1_eq R) (envOf [x0, x1]) w) (by kernel_rfl) h
/-! quayside/quaysideref07.Replay -/
def ref07_Replay_s0 (R : Value → World → Prop) (x1 x2 x4 : Value) (w : World) : Prop :=
  ldn 4 x2 w fun t35 =>
  lenL x1 fun t37 =>
  stn 4 x4 t35 w fun w =>
  qG Try.prog (do loadVar 60 (← asAddr x4)) w fun r4 =>
  R (.tuple #[r4, t37, (.int .i64 0)]) w
theorem ref07_Replay_s0_eq (R : Value → World → Prop) : ∀ e w, lift Try.prog 38 (sub (bodyOf Try.f37) [1, 1, 1]) (finK Try.prog Try.f37.results.toList R) e w = ref07_Replay_s0 R (e 1) (e 2) (e 4) w := fun e w => by kernel_rfl
def ref07_Replay_b1 (R : Value → World → Prop) (N1 : List Value → World → Prop) (x1 x2 x4 x7 : Value) (w : World) : Prop :=
  lenL x1 fun t16 =>
  qG Try.prog (bq .lss 3 (.tmp 14) (.tmp 16) x7 t16) w fun t17 =>
  bV t17
  (ldn 4 x2 (World.drew w) fun t21 =>
  ia 7 x1 x7 fun t24 =>
  ldn 7 t24 (World.drew w) fun t25 =>
  (callG Try.prog 68 #[t21, t25] (World.drew w) fun t26 w =>
  qG Try.prog (Instr.extract t26 0) w fun t27 =>
  qG Try.prog (Instr.extract t26 1) w fun t28 =>
  newG (zc Try.prog 60) 60 w fun t8 w =>
  stb Try.prog (Instr.extract t26 1) t28 w ∧
  stb Try.prog (Instr.extract t26 0) t27 w ∧
  ldn 7 t24 w (fun u => u = t25) ∧
  ldn 4 x2 w (fun u => u = t21) ∧
  stn 4 t8 t27 w fun w =>
  stb Try.prog (Instr.extract t26 1) t28 w ∧
  qG Try.prog (bq .neq 26 (.tmp 29) (.const (.int .i64 0)) t28 (.int .i64 0)) w fun t30 =>
  bV t30
  (ldn 4 x2 w fun t31 =>
  stn 4 x4 t31 w fun w =>
  qG Try.prog (do loadVar 60 (← asAddr x4)) w fun r4 =>
  R (.tuple #[r4, x7, t28]) w)
  (ldn 4 t8 w fun t34 =>
  stn 4 x2 t34 w fun w =>
  qG Try.prog (bq .add 3 (.tmp 18) (.const (.int .i64 1)) x7 (.int .i64 1)) w fun t19 =>
  N1 [x1, x2, x4, t19] w)) ∧
  (newG (zc Try.prog 60) 60 (World.drew w) fun t8_1 w =>
  ldn 7 t24 w (fun u => u = t25) ∧
  ldn 4 x2 w (fun u => u = t21) ∧
  callG Try.prog 68 #[t21, t25] w fun t26_1 w =>
  qG Try.prog (Instr.extract t26_1 0) w fun t27_1 =>
  qG Try.prog (Instr.extract t26_1 1) w fun t28_1 =>
  stn 4 t8_1 t27_1 w fun w =>
  stb Try.prog (Instr.extract t26_1 1) t28_1 w ∧
  qG Try.prog (bq .neq 26 (.tmp 29) (.const (.int .i64 0)) t28_1 (.int .i64 0)) w fun t30_1 =>
  bV t30_1
  (ldn 4 x2 w fun t31_1 =>
  stn 4 x4 t31_1 w fun w =>
  qG Try.prog (do loadVar 60 (← asAddr x4)) w fun r4_1 =>
  R (.tuple #[r4_1, x7, t28_1]) w)
  (ldn 4 t8_1 w fun t34_1 =>
  stn 4 x2 t34_1 w fun w =>
  qG Try.prog (bq .add 3 (.tmp 18) (.const (.int .i64 1)) x7 (.int .i64 1)) w fun t19_1 =>
  N1 [x1, x2, x4, t19_1] w)))
  (ref07_Replay_s0 R x1 x2 x4 w)
theorem ref07_Replay_b1_eq (R : Value → World → Prop) (N1 : List Value → World → Prop) : ∀ e w, lift Try.prog 38 (sub (bodyOf Try.f37) [1, 1, 0, 1, 0, 0]) (seqK (fun e w => N1 [e 1, e 2, e 4, e 7] w) (blockK 0 (seqK (fun e w => ref07_Replay_s0 R (e 1) (e 2) (e 4) w) (finK Try.prog Try.f37.results.toList R)))) e w = ref07_Replay_b1 R N1 (e 1) (e 2) (e 4) (e 7) w := fun e w => by kernel_rfl
def ref07_Replay_L2F (R : Value → World → Prop) (N1 : List Value → World → Prop) (xs : List Value) (w : World) : Prop :=
  match xs with
  | [x1, x2, x4, x7] => ref07_Replay_b1 R N1 x1 x2 x4 x7 w
  | _ => False
def ref07_Replay_L2 (R : Value → World → Prop) (x1 x2 x4 x7 : Value) (w : World) : Prop :=
  ∃ m, loopV (ref07_Replay_L2F R) m [x1, x2, x4, x7] w
theorem ref07_Replay_L2_eq (R : Value → World → Prop) : ∀ e w, lift Try.prog 38 (sub (bodyOf Try.f37) [1, 1, 0, 1, 0]) (blockK 0 (seqK (fun e w => ref07_Replay_s0 R (e 1) (e 2) (e 4) w) (finK Try.prog Try.f37.results.toList R))) e w = ref07_Replay_L2 R (e 1) (e 2) (e 4) (e 7) w := loop_seg (F := ref07_Replay_L2F R) (sel := fun e => [e 1, e 2, e 4, e 7]) fun N1 => (ref07_Replay_b1_eq R N1)
def ref07_Replay_s3 (R : Value → World → Prop) (x1 x2 x4 : Value) (w : World) : Prop :=
  ref07_Replay_L2 R x1 x2 x4 (.int .i64 0) w
theorem ref07_Replay_s3_eq (R : Value → World → Prop) : ∀ e w, lift Try.prog 38 (sub (bodyOf Try.f37) [1, 1, 0]) (seqK (fun e w => ref07_Replay_s0 R (e 1) (e 2) (e 4) w) (finK Try.prog Try.f37.results.toList R)) e w = ref07_Replay_s3 R (e 1) (e 2) (e 4) w :=
  segs_eq (l := [(sub (bodyOf Try.f37) [1, 1, 0, 0])]) (y := (sub (bodyOf Try.f37) [1, 1, 0, 1])) (Y := (fun e w => ref07_Replay_L2 R (e 1) (e 2) (e 4) (e 7) w)) (ref07_Replay_L2_eq R) (fun e w => by kernel_rfl)
def ref07_Replay_s4 (R : Value → World → Prop) (x0 x1 : Value) (w : World) : Prop :=
  newG (Value.cells x0) 60 w fun t2 w =>
  newG (zc Try.prog 60) 60 w fun t4 w =>
  ldn 4 t2 w fun t10 =>
  callG Try.prog 40 #[t10] w fun t11 w =>
  qG Try.prog (Op.unary .not t11) w fun t12 =>
  bV t12
  (bld [(0, 1), (1, 1), (2, 1), (3, 1)] (zc Try.prog 60) #[] fun t13 =>
  stn 4 t4 t13 w fun w =>
  qG Try.prog (do loadVar 60 (← asAddr t4)) w fun r4 =>
  R (.tuple #[r4, (.int .i64 0), (.int .i64 1)]) w)
  (ref07_Replay_s3 R x1 t2 t4 w)
theorem ref07_Replay_s4_eq (R : Value → World → Prop) : ∀ e w, lift Try.prog 38 (bodyOf Try.f37) (finK Try.prog Try.f37.results.toList R) e w = ref07_Replay_s4 R (e 0) (e 1) w :=
  segs_eq (l := [(sub (bodyOf Try.f37) [0]), (sub (bodyOf Try.f37) [1, 0])]) (y := (sub (bodyOf Try.f37) [1, 1])) (Y := (fun e w => ref07_Replay_s3 R (e 1) (e 2) (e 4) w)) (seq_seg (x := (sub (bodyOf Try.f37) [1, 1, 0])) (y := (sub (bodyOf Try.f37) [1, 1, 1])) (ref07_Replay_s0_eq R) (ref07_Replay_s3_eq R)) (fun e w => by kernel_rfl)
def ref07_Replay (R : Value → World → Prop) (x0 x1 : Value) (w : World) : Prop := ref07_Replay_s4 R x0 x1 w
theorem ref07_Replay_call {R : Value → World → Prop} {x0 x1 : Value} {w : World} (h : ref07_Replay R x0 x1 w) : callG Try.prog 37 #[x0, x1] w R :=
  calls_lift_eq Try.mixed Try.func37 (args := [x0, x1]) rfl rfl rfl rfl ((ref07_Replay_s4_eq R) (envOf [x0, x1]) w) (by kernel_rfl) h
/-! quayside/quaysideref07.Same -/
def ref07_Same_s0 (R : Value → World → Prop) (w : World) : Prop :=
  R (.bool true) w
theorem ref07_Same_s0_eq (R : Value → World → Prop) : ∀ e w, lift Try.prog 94 (sub (bodyOf Try.f38) [1, 1, 1, 1, 1]) (finK Try.prog Try.f38.results.toList R) e w = ref07_Same_s0 R w := fun e w => by kernel_rfl
def ref07_Same_b1 (R : Value → World → Prop) (N1 : List Value → World → Prop) (x2 x3 x7 : Value) (w : World) : Prop :=
  fa 2 x2 fun t77 =>
  ld1 t77 w fun t78 =>
  lenL t78 fun t79 =>
  qG Try.prog (bq .lss 3 (.tmp 76) (.tmp 79) x7 t79) w fun t80 =>
  bV t80
  (fa 2 x2 fun t83 =>
  ld1 t83 (World.drew w) fun t84 =>
  ia 6 t84 x7 fun t86 =>
  ldn 6 t86 (World.drew w) fun t87 =>
  fa 2 x3 fun t88 =>
  ld1 t88 (World.drew w) fun t89 =>
  ia 6 t89 x7 fun t91 =>
  ldn 6 t91 (World.drew w) fun t92 =>
  qG Try.prog (bq .neq 50 (.tmp 87) (.tmp 92) t87 t92) (World.drew w) fun t93 =>
  bV t93
  (R (.bool false) (World.drew w))
  (qG Try.prog (bq .add 3 (.tmp 81) (.const (.int .i64 1)) x7 (.int .i64 1)) (World.drew w) fun t82 =>
  N1 [x2, x3, t82] (World.drew w)))
  (ref07_Same_s0 R  w)
theorem ref07_Same_b1_eq (R : Value → World → Prop) (N1 : List Value → World → Prop) : ∀ e w, lift Try.prog 94 (sub (bodyOf Try.f38) [1, 1, 1, 1, 0, 1, 0, 0]) (seqK (fun e w => N1 [e 2, e 3, e 7] w) (blockK 4 (seqK (fun e w => ref07_Same_s0 R  w) (finK Try.prog Try.f38.results.toList R)))) e w = ref07_Same_b1 R N1 (e 2) (e 3) (e 7) w := fun e w => by kernel_rfl
def ref07_Same_L2F (R : Value → World → Prop) (N1 : List Value → World → Prop) (xs : List Value) (w : World) : Prop :=
  match xs with
  | [x2, x3, x7] => ref07_Same_b1 R N1 x2 x3 x7 w
  | _ => False
def ref07_Same_L2 (R : Value → World → Prop) (x2 x3 x7 : Value) (w : World) : Prop :=
  ∃ m, loopV (ref07_Same_L2F R) m [x2, x3, x7] w
theorem ref07_Same_L2_eq (R : Value → World → Prop) : ∀ e w, lift Try.prog 94 (sub (bodyOf Try.f38) [1, 1, 1, 1, 0, 1, 0]) (blockK 4 (seqK (fun e w => ref07_Same_s0 R  w) (finK Try.prog Try.f38.results.toList R))) e w = ref07_Same_L2 R (e 2) (e 3) (e 7) w := loop_seg (F := ref07_Same_L2F R) (sel := fun e => [e 2, e 3, e 7]) fun N1 => (ref07_Same_b1_eq R N1)
def ref07_Same_s3 (R : Value → World → Prop) (x2 x3 : Value) (w : World) : Prop :=
  ref07_Same_L2 R x2 x3 (.int .i64 0) w
theorem ref07_Same_s3_eq (R : Value → World → Prop) : ∀ e w, lift Try.prog 94 (sub (bodyOf Try.f38) [1, 1, 1, 1, 0]) (seqK (fun e w => ref07_Same_s0 R  w) (finK Try.prog Try.f38.results.toList R)) e w = ref07_Same_s3 R (e 2) (e 3) w :=
  segs_eq (l := [(sub (bodyOf Try.f38) [1, 1, 1, 1, 0, 0])]) (y := (sub (bodyOf Try.f38) [1, 1, 1, 1, 0, 1])) (Y := (fun e w => ref07_Same_L2 R (e 2) (e 3) (e 7) w)) (ref07_Same_L2_eq R) (fun e w => by kernel_rfl)
def ref07_Same_b4 (R : Value → World → Prop) (N1 : List Value → World → Prop) (x2 x3 x6 : Value) (w : World) : Prop :=
  fa 1 x2 fun t59 =>
  ld1 t59 w fun t60 =>
  lenL t60 fun t61 =>
  qG Try.prog (bq .lss 3 (.tmp 58) (.tmp 61) x6 t61) w fun t62 =>
  bV t62
  (fa 1 x2 fun t65 =>
  ld1 t65 (World.drew w) fun t66 =>
  ia 6 t66 x6 fun t68 =>
  ldn 6 t68 (World.drew w) fun t69 =>
  fa 1 x3 fun t70 =>
  ld1 t70 (World.drew w) fun t71 =>
  ia 6 t71 x6 fun t73 =>
  ldn 6 t73 (World.drew w) fun t74 =>
  qG Try.prog (bq .neq 34 (.tmp 69) (.tmp 74) t69 t74) (World.drew w) fun t75 =>
  bV t75
  (R (.bool false) (World.drew w))
  (qG Try.prog (bq .add 3 (.tmp 63) (.const (.int .i64 1)) x6 (.int .i64 1)) (World.drew w) fun t64 =>
  N1 [x2, x3, t64] (World.drew w)))
  (ref07_Same_s3 R x2 x3 w)
theorem ref07_Same_b4_eq (R : Value → World → Prop) (N1 : List Value → World → Prop) : ∀ e w, lift Try.prog 94 (sub (bodyOf Try.f38) [1, 1, 1, 0, 1, 0, 0]) (seqK (fun e w => N1 [e 2, e 3, e 6] w) (blockK 2 (seqK (fun e w => ref07_Same_s3 R (e 2) (e 3) w) (finK Try.prog Try.f38.results.toList R)))) e w = ref07_Same_b4 R N1 (e 2) (e 3) (e 6) w := fun e w => by kernel_rfl
def ref07_Same_L5F (R : Value → World → Prop) (N1 : List Value → World → Prop) (xs : List Value) (w : World) : Prop :=
  match xs with
  | [x2, x3, x6] => ref07_Same_b4 R N1 x2 x3 x6 w
  | _ => False
def ref07_Same_L5 (R : Value → World → Prop) (x2 x3 x6 : Value) (w : World) : Prop :=
  ∃ m, loopV (ref07_Same_L5F R) m [x2, x3, x6] w
theorem ref07_Same_L5_eq (R : Value → World → Prop) : ∀ e w, lift Try.prog 94 (sub (bodyOf Try.f38) [1, 1, 1, 0, 1, 0]) (blockK 2 (seqK (fun e w => ref07_Same_s3 R (e 2) (e 3) w) (finK Try.prog Try.f38.results.toList R))) e w = ref07_Same_L5 R (e 2) (e 3) (e 6) w := loop_seg (F := ref07_Same_L5F R) (sel := fun e => [e 2, e 3, e 6]) fun N1 => (ref07_Same_b4_eq R N1)
def ref07_Same_s6 (R : Value → World → Prop) (x2 x3 : Value) (w : World) : Prop :=
  ref07_Same_L5 R x2 x3 (.int .i64 0) w
theorem ref07_Same_s6_eq (R : Value → World → Prop) : ∀ e w, lift Try.prog 94 (sub (bodyOf Try.f38) [1, 1, 1, 0]) (seqK (fun e w => ref07_Same_s3 R (e 2) (e 3) w) (finK Try.prog Try.f38.results.toList R)) e w = ref07_Same_s6 R (e 2) (e 3) w :=
  segs_eq (l := [(sub (bodyOf Try.f38) [1, 1, 1, 0, 0])]) (y := (sub (bodyOf Try.f38) [1, 1, 1, 0, 1])) (Y := (fun e w => ref07_Same_L5 R (e 2) (e 3) (e 6) w)) (ref07_Same_L5_eq R) (fun e w => by kernel_rfl)
def ref07_Same_b7 (R : Value → World → Prop) (N1 : List Value → World → Prop) (x2 x3 x5 : Value) (w : World) : Prop :=
  fa 0 x2 fun t41 =>
  ld1 t41 w fun t42 =>
  lenL t42 fun t43 =>
  qG Try.prog (bq .lss 3 (.tmp 40) (.tmp 43) x5 t43) w fun t44 =>
  bV t44
  (fa 0 x2 fun t47 =>
  ld1 t47 (World.drew w) fun t48 =>
  ia 4 t48 x5 fun t50 =>
  ldn 4 t50 (World.drew w) fun t51 =>
  fa 0 x3 fun t52 =>
  ld1 t52 (World.drew w) fun t53 =>
  ia 4 t53 x5 fun t55 =>
  ldn 4 t55 (World.drew w) fun t56 =>
  qG Try.prog (bq .neq 44 (.tmp 51) (.tmp 56) t51 t56) (World.drew w) fun t57 =>
  bV t57
  (R (.bool false) (World.drew w))
  (qG Try.prog (bq .add 3 (.tmp 45) (.const (.int .i64 1)) x5 (.int .i64 1)) (World.drew w) fun t46 =>
  N1 [x2, x3, t46] (World.drew w)))
  (ref07_Same_s6 R x2 x3 w)
theorem ref07_Same_b7_eq (R : Value → World → Prop) (N1 : List Value → World → Prop) : ∀ e w, lift Try.prog 94 (sub (bodyOf Try.f38) [1, 1, 0, 1, 0, 0]) (seqK (fun e w => N1 [e 2, e 3, e 5] w) (blockK 0 (seqK (fun e w => ref07_Same_s6 R (e 2) (e 3) w) (finK Try.prog Try.f38.results.toList R)))) e w = ref07_Same_b7 R N1 (e 2) (e 3) (e 5) w := fun e w => by kernel_rfl
def ref07_Same_L8F (R : Value → World → Prop) (N1 : List Value → World → Prop) (xs : List Value) (w : World) : Prop :=
  match xs with
  | [x2, x3, x5] => ref07_Same_b7 R N1 x2 x3 x5 w
  | _ => False
def ref07_Same_L8 (R : Value → World → Prop) (x2 x3 x5 : Value) (w : World) : Prop :=
  ∃ m, loopV (ref07_Same_L8F R) m [x2, x3, x5] w
theorem ref07_Same_L8_eq (R : Value → World → Prop) : ∀ e w, lift Try.prog 94 (sub (bodyOf Try.f38) [1, 1, 0, 1, 0]) (blockK 0 (seqK (fun e w => ref07_Same_s6 R (e 2) (e 3) w) (finK Try.prog Try.f38.results.toList R))) e w = ref07_Same_L8 R (e 2) (e 3) (e 5) w := loop_seg (F := ref07_Same_L8F R) (sel := fun e => [e 2, e 3, e 5]) fun N1 => (ref07_Same_b7_eq R N1)
def ref07_Same_s9 (R : Value → World → Prop) (x2 x3 : Value) (w : World) : Prop :=
  ref07_Same_L8 R x2 x3 (.int .i64 0) w
theorem ref07_Same_s9_eq (R : Value → World → Prop) : ∀ e w, lift Try.prog 94 (sub (bodyOf Try.f38) [1, 1, 0]) (seqK (fun e w => ref07_Same_s6 R (e 2) (e 3) w) (finK Try.prog Try.f38.results.toList R)) e w = ref07_Same_s9 R (e 2) (e 3) w :=
  segs_eq (l := [(sub (bodyOf Try.f38) [1, 1, 0, 0])]) (y := (sub (bodyOf Try.f38) [1, 1, 0, 1])) (Y := (fun e w => ref07_Same_L8 R (e 2) (e 3) (e 5) w)) (ref07_Same_L8_eq R) (fun e w => by kernel_rfl)
def ref07_Same_s10 (R : Value → World → Prop) (x0 x1 : Value) (w : World) : Prop :=
  newG (Value.cells x0) 60 w fun t2 w =>
  newG (Value.cells x1) 60 w fun t3 w =>
  fa 0 t2 fun t8 =>
  ld1 t8 w fun t9 =>
  lenL t9 fun t10 =>
  fa 0 t3 fun t11 =>
  ld1 t11 w fun t12 =>
  lenL t12 fun t13 =>
  qG Try.prog (bq .neq 3 (.tmp 10) (.tmp 13) t10 t13) w fun t14 =>
  bV t14
  (R (.bool false) w)
  (fa 1 t2 fun t16 =>
  ld1 t16 w fun t17 =>
  lenL t17 fun t18 =>
  fa 1 t3 fun t19 =>
  ld1 t19 w fun t20 =>
  lenL t20 fun t21 =>
  qG Try.prog (bq .neq 3 (.tmp 18) (.tmp 21) t18 t21) w fun t22 =>
  bV t22
  (R (.bool false) w)
  (fa 2 t2 fun t25 =>
  ld1 t25 w fun t26 =>
  lenL t26 fun t27 =>
  fa 2 t3 fun t28 =>
  ld1 t28 w fun t29 =>
  lenL t29 fun t30 =>
  qG Try.prog (bq .neq 3 (.tmp 27) (.tmp 30) t27 t30) w fun t31 =>
  bV t31
  (R (.bool false) w)
  (fa 3 t2 fun t34 =>
  ld1 t34 w fun t35 =>
  fa 3 t3 fun t36 =>
  ld1 t36 w fun t37 =>
  qG Try.prog (bq .neq 3 (.tmp 35) (.tmp 37) t35 t37) w fun t38 =>
  bV t38
  (R (.bool false) w)
  (ref07_Same_s9 R t2 t3 w))))
theorem ref07_Same_s10_eq (R : Value → World → Prop) : ∀ e w, lift Try.prog 94 (bodyOf Try.f38) (finK Try.prog Try.f38.results.toList R) e w = ref07_Same_s10 R (e 0) (e 1) w :=
  segs_eq (l := [(sub (bodyOf Try.f38) [0]), (sub (bodyOf Try.f38) [1, 0])]) (y := (sub (bodyOf Try.f38) [1, 1])) (Y := (fun e w => ref07_Same_s9 R (e 2) (e 3) w)) (seq_seg (x := (sub (bodyOf Try.f38) [1, 1, 0])) (y := (sub (bodyOf Try.f38) [1, 1, 1])) (seq_seg (x := (sub (bodyOf Try.f38) [1, 1, 1, 0])) (y := (sub (bodyOf Try.f38) [1, 1, 1, 1])) (seq_seg (x := (sub (bodyOf Try.f38) [1, 1, 1, 1, 0])) (y := (sub (bodyOf Try.f38) [1, 1, 1, 1, 1])) (ref07_Same_s0_eq R) (ref07_Same_s3_eq R)) (ref07_Same_s6_eq R)) (ref07_Same_s9_eq R)) (fun e w => by kernel_rfl)
def ref07_Same (R : Value → World → Prop) (x0 x1 : Value) (w : World) : Prop := ref07_Same_s10 R x0 x1 w
theorem ref07_Same_call {R : Value → World → Prop} {x0 x1 : Value} {w : World} (h : ref07_Same R x0 x1 w) : callG Try.prog 38 #[x0, x1] w R :=
  calls_lift_eq Try.mixed Try.func38 (args := [x0, x1]) rfl rfl rfl rfl ((ref07_Same_s10_eq R) (envOf [x0, x1]) w) (by kernel_rfl) h
end Go.Proofs

/- Layer 7: the document's ledger: held. -/
set_option linter.unusedVariables false
set_option linter.unusedSimpArgs false
namespace Go.Proofs
open Go Go.Q
theorem LedAt.ones {w : World} {a b c : Value} {l : LV} (h1 : Rd w a 4 (l.st.map sC)) (h2 : Rd w b 6 (l.ho.map hC)) (h3 : Rd w c 6 (l.mo.map hC)) : ([a, b, c, .int .i64 l.ops].toArray).all one = true := by
  obtain ⟨_, _, e1⟩ := h1.slice
  obtain ⟨_, _, e2⟩ := h2.slice
  obtain ⟨_, _, e3⟩ := h3.slice
  rw [e1, e2, e3]
  simp only [all_cons1, all_nil1]
  rfl
theorem lvLedw {b : Nat} {w : World} {c : Array Value} {T : TypeId} {fr : Nat × Nat} (hh : w.heap[b]? = some (.cells c T fr)) (hs : c.size = 4) {K : Value → Prop} :
    qG Try.prog (do loadVar 60 (← asAddr (.pointer (some ⟨b, 0, none⟩)))) w K = K (.agg c) := loadVar_of aggLed szLed hh hs
theorem refHeld_spec {w : World} {v : Value} {l : LV} {S0 : List Nat} (hs : Sorted l.st) (hv : LedS w v l S0) (hl : l.st.length < 2 ^ 19) (at_ : SV) (n : Int) {K : Value → World → Prop} (hK : ∀ v' w' S', Kp [] w w' → LedS w' v' (heldL l at_.sku at_.loc n) S' → (∀ x ∈ S', x ∈ S0 ∨ w.heap.size ≤ x) → K v' w') :
    callG Try.prog 114 #[v, sA at_, .int .i64 n] w K := by
  refine ref07_held_call ?_
  have hlt0 := hv.lt
  have hv0 := hv
  obtain ⟨a, b, c, SA, SB, SC, rfl, ha1, hb1, hc1, hS0⟩ := hv.ex
  have h1 : Rd w a 4 (l.st.map sC) := ⟨SA, ha1⟩
  have h2 : Rd w b 6 (l.ho.map hC) := ⟨SB, hb1⟩
  have h3 : Rd w c 6 (l.mo.map hC) := ⟨SC, hc1⟩
  unfold ref07_held ref07_held_s0
  refine argBox (cs := [a, b, c, .int .i64 l.ops]) fun x w1 hx1 hh1 hk1 => ?_
  refine argBox (cs := sC at_) fun y w2 hy hh2 hk2 => ?_
  rw [newG_k, zcLed]
  obtain ⟨z, hz⟩ : ∃ z, z = w2.heap.size := ⟨_, rfl⟩
  obtain ⟨w3, hw3⟩ := ex_w (w' := w2.alloc (.cells [.slice none 0 0, .slice none 0 0, .slice none 0 0, .int .i64 0].toArray 60))
  have hk3 : Kp [] w2 w3 := by rw [hw3]; exact kp_alloc
  have hz3 : w3.heap[z]? = some (.cells [.slice none 0 0, .slice none 0 0, .slice none 0 0, .int .i64 0].toArray 60) := by rw [hw3, hz]; exact heap_new
  rw [← hw3, ← hz]
  have hx3 := (hk2.trans' hk3).get hh1 (by simp)
  have hy3 := hk3.get hh2 (by simp)
  unfold sC at hy3
  have hk03 := (hk1.trans' hk2).trans' hk3
  have hzw : w.heap.size ≤ z := by have := hk1.size; have := hk2.size; omega
  have hzl := lt_of_blk hz3
  rw [ldAll (k := 4) hx3 rfl]
  simp [-getElem?_pos, -Array.all_eq_true, -Array.getElem?_eq_getElem, -List.length_flatten, List.getElem?_cons_zero, List.getElem?_cons_succ, hy3, -ldn_p, -stn_p, -newG_k]
  refine refFind_spec (l := l) ⟨a, b, c, rfl, h1.keep hk03, h2.keep hk03, h3.keep hk03⟩ (by omega) at_.sku at_.loc fun w4 hk4 => ?_
  refine boxStock (o := findS l.st at_.sku at_.loc) (by kernel_rfl) fun p w5 hp hh5 hk5 => ?_
  have hh5' := hh5
  unfold sC at hh5'
  have l5 := live_of hh5
  obtain ⟨f, hf⟩ : ∃ f, f = findS l.st at_.sku at_.loc := ⟨_, rfl⟩
  rw [← hf] at hh5 hh5'
  simp [-getElem?_pos, -Array.all_eq_true, -Array.getElem?_eq_getElem, -List.length_flatten, List.getElem?_cons_zero, List.getElem?_cons_succ, hh5', l5, -ldn_p, -stn_p, -newG_k]
  obtain ⟨w6, hw6⟩ := ex_w (w' := setBlk w5 p (.cells #[.string (str f.sku), .string (str f.loc), .int .i64 f.hand, .int .i64 (IntKind.i64.wrap (f.held + n))] 44))
  have hp6 : w6.heap[p]? = some (.cells (sC { f with held := w64i (f.held + n) }).toArray 44) := by rw [hw6]; exact heap_self l5
  have hk6 : Kp [p] w5 w6 := by rw [hw6]; exact (Kp.refl _ w5).setBlk (.inl (by simp)) _
  rw [← hw6]
  have k35 := hk4.trans' hk5
  have hpn : w3.heap.size ≤ p := by have := hk4.size; omega
  have k36 : Kp [] w3 w6 := k35.trans hk6 fun q hq hlt => by simp at hq; omega
  have k06 := hk03.trans' k36
  rw [ldAll (k := 4) (k36.get hx3 (by simp)) rfl, ldStock hp6]
  refine refPut_spec7 (hv0.keep k06 (by simp)) (by omega) _ fun v7 w7 S7 hk7 hv7 hS7 => ?_
  have hz7 := (k36.trans' hk7).get hz3 (by simp)
  have k07 := k06.trans' hk7
  have hs6 := k36.size
  have hzS : z ∉ S7 := fun hm => by
    rcases hS7 z hm with h | h
    · have := hlt0 z h; omega
    · omega
  have hvz := hv7.keep (S' := [z]) (w' := setBlk w7 z (.cells #[v7] 60)) ((Kp.refl _ w7).setBlk (.inl (by simp)) _) (fun q hq => by simp; intro h; exact hzS (h ▸ hq))
  clear hvz
  obtain ⟨a', b', c', SA', SB', SC', rfl, r1, r2, r3, hSe⟩ := hv7.ex
  have hone := LedAt.ones (l := { l with st := putD { f with held := w64i (f.held + n) } l.st false }) ⟨_, r1⟩ ⟨_, r2⟩ ⟨_, r3⟩
  rw [stAll (k := 4) hz7 rfl rfl hone, lvLedw (heap_self (live_of hz7)) rfl]
  have kz : Kp [] w (setBlk w7 z (.cells #[a', b', c', .int .i64 l.ops] 60)) := k07.setBlk (.inr hzw) _
  have hfin := hv7.keep (S' := [z]) (w' := setBlk w7 z (.cells #[a', b', c', .int .i64 l.ops] 60)) ((Kp.refl _ w7).setBlk (.inl (by simp)) _) (fun q hq => by simp; intro h; exact hzS (h ▸ hq))
  refine hK _ _ S7 kz ?_ (fun q hq => (hS7 q hq).imp id fun h => by have := k06.size; omega)
  have e : heldL l at_.sku at_.loc n = { l with st := putD { f with held := w64i (f.held + n) } l.st false } := by
    unfold heldL
    rw [putD_putS hs, ← hf]
  rw [e]
  exact hfin
end Go.Proofs

/- Layer 7: the document's ledger: state. -/
set_option linter.unusedVariables false
set_option linter.unusedSimpArgs false
namespace Go.Proofs
open Go Go.Q
theorem hold_zc : zc Try.prog 34 = [.int .i64 0, .string (str []), .string (str []), .int .i64 0, .int .i64 0, .int .i64 0].toArray := by kernel_rfl
theorem hC_ones (ho : List HV) : (ho.map hC).flatten.all Q.one = true := by
  rw [List.all_eq_true]
  intro x hx
  obtain ⟨r, hr, hxr⟩ := List.mem_flatten.1 hx
  obtain ⟨y, _, rfl⟩ := List.mem_map.1 hr
  simp only [hC, List.mem_cons, List.not_mem_nil, or_false] at hxr
  rcases hxr with rfl | rfl | rfl | rfl | rfl | rfl <;> rfl
/-- a list of holds is appended -/
theorem app_holds {w0 w : World} {v x : Value} {out G : List HV} (h : Fr w0 w v 6 (out.map hC)) (hx : Rd w x 6 (G.map hC)) (hl : out.length + G.length < 2 ^ 30) {K : Value → World → Prop} (hK : ∀ v' w', Fr w0 w' v' 6 ((out ++ G).map hC) → K v' w') :
    app 34 6 64 (zc Try.prog 34) v x w K := by
  rw [hold_zc]
  refine fr_app (G := G.map hC) h (by omega) rfl (fun y hy => hx.row hy) (hC_ones G) (fun K' hK' => hx.src K' hK') (by simp; omega) (by simp; omega) fun v' w' h' => hK v' w' (by rw [List.map_append]; exact h')
/-- a ledger's variable is given back -/
theorem led_ret {wj : World} {x z : Nat} {a b c : Value} {l : LV} {S : List Nat} (hx : wj.heap[x]? = some (.cells #[a, b, c, .int .i64 l.ops] 60)) (hz : wj.heap[z]? = some (.cells [.slice none 0 0, .slice none 0 0, .slice none 0 0, .int .i64 0].toArray 60))
    (hv : LedS wj (.agg #[a, b, c, .int .i64 l.ops]) l S) (hzS : z ∉ S) {K : Value → World → Prop} (hK : ∀ w', Kp [z] wj w' → LedS w' (.agg #[a, b, c, .int .i64 l.ops]) l S → K (.agg #[a, b, c, .int .i64 l.ops]) w') :
    ldn 4 (.pointer (some ⟨x, 0, none⟩)) wj fun t67 => stn 4 (.pointer (some ⟨z, 0, none⟩)) t67 wj fun w => qG Try.prog (do loadVar 60 (← asAddr (.pointer (some ⟨z, 0, none⟩)))) w fun r4 => K r4 w := by
  obtain ⟨a', b', c', SA, SB, SC, e, h1, h2, h3, _⟩ := hv.ex
  have e' : a = a' ∧ b = b' ∧ c = c' := by
    simp only [Value.agg.injEq, Array.mk.injEq, List.cons.injEq] at e
    exact ⟨e.1, e.2.1, e.2.2.1⟩
  obtain ⟨rfl, rfl, rfl⟩ := e'
  have hone := LedAt.ones (l := l) ⟨_, h1⟩ ⟨_, h2⟩ ⟨_, h3⟩
  rw [ldAll (k := 4) hx rfl, stAll (k := 4) hz rfl rfl hone, lvLedw (heap_self (live_of hz)) rfl]
  have hk : Kp [z] wj (setBlk wj z (.cells #[a, b, c, .int .i64 l.ops] 60)) := (Kp.refl _ wj).setBlk (.inl (by simp)) _
  exact hK _ hk (hv.keep hk fun q hq => by simp; intro h; exact hzS (h ▸ hq))
theorem refState_spec {w : World} {v : Value} {l : LV} {S0 : List Nat} (hv : LedS w v l S0) (hl : l.ho.length < 2 ^ 19) {k : Nat} (hk : k < l.ho.length) (n : Int) {K : Value → World → Prop} (hK : ∀ v' w' S', Kp [] w w' → LedS w' v' (stateL l k n) S' → (∀ x ∈ S', x ∈ S0 ∨ w.heap.size ≤ x) → K v' w') :
    callG Try.prog 126 #[v, .int .i64 k, .int .i64 n] w K := by
  refine ref07_state_call ?_
  have hlt0 := hv.lt
  obtain ⟨a, b, c, SA, SB, SC, rfl, ha1, hb1, hc1, hS0⟩ := hv.ex
  have h1 : Rd w a 4 (l.st.map sC) := ⟨SA, ha1⟩
  have h2 : Rd w b 6 (l.ho.map hC) := ⟨SB, hb1⟩
  have h3 : Rd w c 6 (l.mo.map hC) := ⟨SC, hc1⟩
  unfold ref07_state ref07_state_s0
  refine argBox (cs := [a, b, c, .int .i64 l.ops]) fun x w1 hx1 hh1 hk1 => ?_
  rw [newG_k, zcLed]
  obtain ⟨z, hz⟩ : ∃ z, z = w1.heap.size := ⟨_, rfl⟩
  obtain ⟨w3, hw3⟩ := ex_w (w' := w1.alloc (.cells [.slice none 0 0, .slice none 0 0, .slice none 0 0, .int .i64 0].toArray 60))
  have hk3 : Kp [] w1 w3 := by rw [hw3]; exact kp_alloc
  have hz3 : w3.heap[z]? = some (.cells [.slice none 0 0, .slice none 0 0, .slice none 0 0, .int .i64 0].toArray 60) := by rw [hw3, hz]; exact heap_new
  rw [← hw3, ← hz]
  have hx3 := hk3.get hh1 (by simp)
  have hk03 := hk1.trans' hk3
  have hxl := lt_of_blk hh1
  have hs1 := hk1.size
  have hzl := lt_of_blk hz3
  have r3 := h2.keep hk03
  obtain ⟨vt, ht1, ht2⟩ := r3.take (p := k) (by simp; omega) (kd := .i64)
  rw [← List.map_take] at ht1
  have ht2' : ∀ K : Value → Prop, slL 6 b none (some (.int .i64 k)) K = K vt := ht2
  simp [-getElem?_pos, -Array.all_eq_true, -Array.getElem?_eq_getElem, -List.length_flatten, List.getElem?_cons_zero, List.getElem?_cons_succ, hx3, ht2', -ldn_p, -stn_p, -newG_k]
  refine app_holds (out := []) (by simpa using fr_nil (Kp.refl [] w3)) ht1 (by simp; omega) fun v4 w4 f4 => ?_
  rw [List.nil_append] at f4
  have hx4 := f4.kp.get hx3 (by simp)
  obtain ⟨pp, i1, i2⟩ := rd_hold (h2.keep (hk03.trans' f4.kp)) hk
  simp [-getElem?_pos, -Array.all_eq_true, -Array.getElem?_eq_getElem, -List.length_flatten, List.getElem?_cons_zero, List.getElem?_cons_succ, hx4, -ldn_p, -stn_p, -newG_k]
  rw [i1, i2]
  refine boxHold (o := l.ho[k]) (by kernel_rfl) fun p w5 hp hh5 hk5 => ?_
  have l5 := live_of hh5
  have hh5' := hh5
  unfold hC at hh5'
  simp [-getElem?_pos, -Array.all_eq_true, -Array.getElem?_eq_getElem, -List.length_flatten, List.getElem?_cons_zero, List.getElem?_cons_succ, hh5', l5, -ldn_p, -stn_p, -newG_k]
  obtain ⟨w6, hw6⟩ := ex_w (w' := setBlk w5 p (.cells #[.int .i64 l.ho[k].id, .string (str l.ho[k].sku), .string (str l.ho[k].loc), .int .i64 l.ho[k].q, .int .i64 n, .int .i64 l.ho[k].due] 34))
  have hp6 : w6.heap[p]? = some (.cells (hC { l.ho[k] with st := n }).toArray 34) := by rw [hw6]; exact heap_self l5
  have hk6 : Kp [p] w5 w6 := by rw [hw6]; exact (Kp.refl _ w5).setBlk (.inl (by simp)) _
  rw [← hw6, ldHold hp6]
  have k46 : Kp [] w4 w6 := hk5.trans hk6 fun q hq hlt => by simp at hq; omega
  have f6 := f4.keep k46
  refine bsl_rowN (n := 6) (cs := hC { l.ho[k] with st := n }) (by omega) rfl rfl fun v7 w7 f7 => ?_
  have f7' := f6.keep f7.kp
  have hr7 : Rd w7 v7 6 ([{ l.ho[k] with st := n }].map hC) := f7.rd
  refine app_holds f7' hr7 (by simp; omega) fun v8 w8 f8 => ?_
  have hx8 := f8.kp.get hx3 (by simp)
  have hiw : IntKind.i64.wrap ((k : Int) + 1) = ((k + 1 : Nat) : Int) := by rw [w64 (by omega) (by omega)]; simp
  have r8 := h2.keep (hk03.trans' f8.kp)
  obtain ⟨vd, hd1, hd2⟩ := r8.drop (p := k + 1) (by simp; omega) (kd := .i64)
  rw [← List.map_drop] at hd1
  have hd2' : ∀ K : Value → Prop, slL 6 b (some (.int .i64 ((k + 1 : Nat) : Int))) none K = K vd := hd2
  simp [-getElem?_pos, -Array.all_eq_true, -Array.getElem?_eq_getElem, -List.length_flatten, List.getElem?_cons_zero, List.getElem?_cons_succ, hx8, -ldn_p, -stn_p, -newG_k]
  rw [hiw, hd2']
  refine app_holds f8 hd1 (by simp; omega) fun v9 w9 f9 => ?_
  have hlist : l.ho.take k ++ [{ l.ho[k] with st := n }] ++ l.ho.drop (k + 1) = l.ho.set k { l.ho[k] with st := n } := by
    rw [List.set_eq_take_append_cons_drop, if_pos hk]; simp
  rw [hlist] at f9
  have hx9 := f9.kp.get hx3 (by simp)
  have hz9 := f9.kp.get hz3 (by simp)
  have lx := live_of hx9
  obtain ⟨S, hS, hSn⟩ := f9.ex
  have hxz : x ≠ z := by omega
  have o1 : one v9 = true := f9.one
  simp [-getElem?_pos, -Array.all_eq_true, -Array.getElem?_eq_getElem, -List.length_flatten, List.getElem?_cons_zero, List.getElem?_cons_succ, hx9, o1, lx, -ldn_p, -stn_p, -newG_k]
  obtain ⟨wA, hwA⟩ := ex_w (w' := setBlk w9 x (.cells #[a, v9, c, .int .i64 l.ops] 60))
  have hxA : wA.heap[x]? = some (.cells #[a, v9, c, .int .i64 l.ops] 60) := by rw [hwA]; exact heap_self lx
  have kA : Kp [x] w9 wA := by rw [hwA]; exact (Kp.refl _ w9).setBlk (.inl (by simp)) _
  rw [← hwA]
  have k0A : Kp [] w wA := (hk03.trans' f9.kp).trans kA fun q hq hlt => by simp at hq; omega
  have hlS := hS.lt
  have hsA := kA.size
  have hs3 := hk03.size
  have hvA : LedS wA (.agg #[a, v9, c, .int .i64 (stateL l k n).ops]) (stateL l k n) (SA ++ (S ++ SC)) := by
    refine ⟨⟨a, v9, c, SA, S, SC, rfl, ha1.keep k0A (by simp), ?_, hc1.keep k0A (by simp), rfl⟩, fun q hq => ?_⟩
    · have e : (stateL l k n).ho = l.ho.set k { l.ho[k] with st := n } := by simp [stateL, List.getD, hk]
      rw [e]
      exact .inr (hS.keep kA fun q hq => by have := hSn q hq; simp; omega).rd
    · have hsz := k0A.size
      simp only [List.mem_append] at hq
      rcases hq with hq | hq | hq
      · have := hlt0 q (by rw [hS0]; simp [hq]); omega
      · have := hlS q hq; omega
      · have := hlt0 q (by rw [hS0]; simp [hq]); omega
  have hcond : ∀ q ∈ SA ++ (S ++ SC), (q ∈ S0 ∨ w3.heap.size ≤ q) := fun q hq => by
    simp only [List.mem_append] at hq
    rcases hq with hq | hq | hq
    · exact .inl (by rw [hS0]; simp [hq])
    · exact .inr (hSn q hq)
    · exact .inl (by rw [hS0]; simp [hq])
  refine led_ret (l := stateL l k n) hxA (kA.get hz9 (by simpa using Ne.symm hxz)) hvA (fun hm => ?_) fun w' hkz hvz => ?_
  · rcases hcond z hm with h | h
    · have := hlt0 z h; omega
    · omega
  · exact hK _ _ _ (k0A.trans hkz fun q hq hlt => by simp at hq; omega) hvz fun q hq => (hcond q hq).imp id fun h => by omega
end Go.Proofs

/- Layer 7: the document's ledger: moved. -/
set_option linter.unusedVariables false
set_option linter.unusedSimpArgs false
namespace Go.Proofs
open Go Go.Q
theorem move_zc : zc Try.prog 50 = [.int .i64 0, .string (str []), .string (str []), .int .i64 0, .int .i64 0, .int .i64 0].toArray := by kernel_rfl
theorem app_moves {w0 w : World} {v x : Value} {out G : List HV} (h : Fr w0 w v 6 (out.map hC)) (hx : Rd w x 6 (G.map hC)) (hl : out.length + G.length < 2 ^ 30) {K : Value → World → Prop} (hK : ∀ v' w', Fr w0 w' v' 6 ((out ++ G).map hC) → K v' w') :
    app 50 6 64 (zc Try.prog 50) v x w K := by
  rw [move_zc]
  refine fr_app (G := G.map hC) h (by omega) rfl (fun y hy => hx.row hy) (hC_ones G) (fun K' hK' => hx.src K' hK') (by simp; omega) (by simp; omega) fun v' w' h' => hK v' w' (by rw [List.map_append]; exact h')
theorem refMoved_spec {w : World} {v : Value} {l : LV} {S0 : List Nat} (hs : Sorted l.st) (hv : LedS w v l S0) (hl : l.st.length < 2 ^ 19) (hlm : l.mo.length < 2 ^ 19) (at_ : SV) (n : Int) (m : HV) {K : Value → World → Prop} (hK : ∀ v' w' S', Kp [] w w' → LedS w' v' (movedL l at_.sku at_.loc n m.st m.due) S' → (∀ x ∈ S', x ∈ S0 ∨ w.heap.size ≤ x) → K v' w') :
    callG Try.prog 112 #[v, sA at_, .int .i64 n, hA m] w K := by
  refine ref07_moved_call ?_
  have hlt0 := hv.lt
  have hv0 := hv
  obtain ⟨a, b, c, SA, SB, SC, rfl, ha1, hb1, hc1, hS0⟩ := hv.ex
  have h1 : Rd w a 4 (l.st.map sC) := ⟨SA, ha1⟩
  have h2 : Rd w b 6 (l.ho.map hC) := ⟨SB, hb1⟩
  have h3 : Rd w c 6 (l.mo.map hC) := ⟨SC, hc1⟩
  unfold ref07_moved ref07_moved_s0
  refine argBox (cs := [a, b, c, .int .i64 l.ops]) fun x w1 hx1 hh1 hk1 => ?_
  refine argBox (cs := sC at_) fun y w2 hy hh2 hk2 => ?_
  refine argBox (cs := hC m) fun t w2b ht hh2b hk2b => ?_
  rw [newG_k, zcLed]
  obtain ⟨z, hz⟩ : ∃ z, z = w2b.heap.size := ⟨_, rfl⟩
  obtain ⟨w3, hw3⟩ := ex_w (w' := w2b.alloc (.cells [.slice none 0 0, .slice none 0 0, .slice none 0 0, .int .i64 0].toArray 60))
  have hk3 : Kp [] w2b w3 := by rw [hw3]; exact kp_alloc
  have hz3 : w3.heap[z]? = some (.cells [.slice none 0 0, .slice none 0 0, .slice none 0 0, .int .i64 0].toArray 60) := by rw [hw3, hz]; exact heap_new
  rw [← hw3, ← hz]
  have hx3 := ((hk2.trans' hk2b).trans' hk3).get hh1 (by simp)
  have hy3 := (hk2b.trans' hk3).get hh2 (by simp)
  have ht3 := hk3.get hh2b (by simp)
  unfold sC at hy3
  unfold hC at ht3
  have hk03 := ((hk1.trans' hk2).trans' hk2b).trans' hk3
  have hzw : w.heap.size ≤ z := by have := hk1.size; have := hk2.size; have := hk2b.size; omega
  have hxz : x ≠ z := by have := lt_of_blk hh1; have := hk2.size; have := hk2b.size; omega
  have hzl := lt_of_blk hz3
  have hxl := lt_of_blk hx3
  rw [ldAll (k := 4) hx3 rfl]
  simp [-getElem?_pos, -Array.all_eq_true, -Array.getElem?_eq_getElem, -List.length_flatten, List.getElem?_cons_zero, List.getElem?_cons_succ, hy3, -ldn_p, -stn_p, -newG_k]
  refine refFind_spec (l := l) ⟨a, b, c, rfl, h1.keep hk03, h2.keep hk03, h3.keep hk03⟩ (by omega) at_.sku at_.loc fun w4 hk4 => ?_
  refine boxStock (o := findS l.st at_.sku at_.loc) (by kernel_rfl) fun p w5 hp hh5 hk5 => ?_
  have hh5' := hh5
  unfold sC at hh5'
  have l5 := live_of hh5
  obtain ⟨f, hf⟩ : ∃ f, f = findS l.st at_.sku at_.loc := ⟨_, rfl⟩
  rw [← hf] at hh5 hh5'
  simp [-getElem?_pos, -Array.all_eq_true, -Array.getElem?_eq_getElem, -List.length_flatten, List.getElem?_cons_zero, List.getElem?_cons_succ, hh5', l5, -ldn_p, -stn_p, -newG_k]
  obtain ⟨w6, hw6⟩ := ex_w (w' := setBlk w5 p (.cells #[.string (str f.sku), .string (str f.loc), .int .i64 (IntKind.i64.wrap (f.hand + n)), .int .i64 f.held] 44))
  have hp6 : w6.heap[p]? = some (.cells (sC { f with hand := w64i (f.hand + n) }).toArray 44) := by rw [hw6]; exact heap_self l5
  have hk6 : Kp [p] w5 w6 := by rw [hw6]; exact (Kp.refl _ w5).setBlk (.inl (by simp)) _
  rw [← hw6]
  have k35 := hk4.trans' hk5
  have hpn : w3.heap.size ≤ p := by have := hk4.size; omega
  have k36 : Kp [] w3 w6 := k35.trans hk6 fun q hq hlt => by simp at hq; omega
  have k06 := hk03.trans' k36
  have hx6 := k36.get hx3 (by simp)
  rw [ldAll (k := 4) hx6 rfl, ldStock hp6]
  refine refPut_spec7 (hv0.keep k06 (by simp)) (by omega) _ fun v7 w7 S7 hk7 hv7 hS7 => ?_
  have k07 := k06.trans' hk7
  have k37 := k36.trans' hk7
  have hx7 := k37.get hx3 (by simp)
  have hz7 := k37.get hz3 (by simp)
  have hs6 := k36.size
  have hs03 := hk03.size
  have hS7' : ∀ q ∈ S7, q ∈ S0 ∨ w6.heap.size ≤ q := hS7
  obtain ⟨a', b', c', SA', SB', SC', rfl, r1, r2, r3, hSe⟩ := hv7.ex
  have hone := LedAt.ones (l := { l with st := putD { f with hand := w64i (f.hand + n) } l.st false }) ⟨_, r1⟩ ⟨_, r2⟩ ⟨_, r3⟩
  rw [stAll (k := 4) hx7 rfl rfl hone]
  obtain ⟨w8, hw8⟩ := ex_w (w' := setBlk w7 x (.cells #[a', b', c', .int .i64 l.ops] 60))
  have hx8 : w8.heap[x]? = some (.cells #[a', b', c', .int .i64 l.ops] 60) := by rw [hw8]; exact heap_self (live_of hx7)
  have k78 : Kp [x] w7 w8 := by rw [hw8]; exact (Kp.refl _ w7).setBlk (.inl (by simp)) _
  have hw8' : setBlk w7 x (.cells #[a', b', c', .int .i64 { l with st := putD { f with hand := w64i (f.hand + n) } l.st false }.ops] 60) = w8 := by rw [hw8]
  rw [hw8']
  have hxS7 : x ∉ S7 := fun hm => by
    rcases hS7' x hm with h | h
    · have := hlt0 x h; omega
    · omega
  have hv8 := hv7.keep k78 (fun q hq => by simp; intro h; exact hxS7 (h ▸ hq))
  have k08 : Kp [] w w8 := k07.trans k78 fun q hq hlt => by simp at hq; omega
  have hmo8 : Rd w8 c' 6 (l.mo.map hC) := ⟨SC', r3.keep k78 (fun q hq => by simp; intro h; subst h; exact hxS7 (by rw [hSe]; simp [hq]))⟩
  simp [-getElem?_pos, -Array.all_eq_true, -Array.getElem?_eq_getElem, -List.length_flatten, List.getElem?_cons_zero, List.getElem?_cons_succ, hx8, -ldn_p, -stn_p, -newG_k]
  refine app_moves (out := []) (w0 := w8) (by simpa using fr_nil (Kp.refl [] w8)) hmo8 (by simp; omega) fun v9 w9 f9 => ?_
  rw [List.nil_append] at f9
  have hx9 := f9.kp.get hx8 (by simp)
  have hy9 := f9.kp.get (k78.get (k37.get hy3 (by simp)) (by simp; have := lt_of_blk hh1; omega)) (by simp)
  have ht9 := f9.kp.get (k78.get (k37.get ht3 (by simp)) (by simp; have := lt_of_blk hh1; have := hk2.size; omega)) (by simp)
  have hlw : IntKind.i64.wrap ((l.mo.length : Int) + 1) = ((l.mo.length + 1 : Nat) : Int) := by rw [w64 (by omega) (by omega)]; simp
  simp [-getElem?_pos, -Array.all_eq_true, -Array.getElem?_eq_getElem, -List.length_flatten, List.getElem?_cons_zero, List.getElem?_cons_succ, hx9, hy9, ht9, (hmo8.keep f9.kp).lenL, hlw, move_zc, bld_done, bld_if, offAt, putAt, -ldn_p, -stn_p, -newG_k]
  rw [← move_zc]
  obtain ⟨mv, hmv⟩ : ∃ mv : HV, mv = ⟨(l.mo.length + 1 : Nat), at_.sku, at_.loc, n, m.st, m.due⟩ := ⟨_, rfl⟩
  refine bsl_rowN (n := 6) (cs := hC mv) (by omega) (by rw [hmv]; simp [hC]) rfl fun v10 w10 f10 => ?_
  have f9' := f9.keep f10.kp
  have hr10 : Rd w10 v10 6 ([mv].map hC) := f10.rd
  refine app_moves f9' hr10 (by simp; omega) fun v11 w11 f11 => ?_
  have hx11 := f11.kp.get hx8 (by simp)
  have hz8 := k78.get hz7 (by simpa using Ne.symm hxz)
  have hz11 := f11.kp.get hz8 (by simp)
  have lx := live_of hx11
  have o1 : one v11 = true := f11.one
  simp [-getElem?_pos, -Array.all_eq_true, -Array.getElem?_eq_getElem, -List.length_flatten, List.getElem?_cons_zero, List.getElem?_cons_succ, hx11, o1, lx, -ldn_p, -stn_p, -newG_k]
  obtain ⟨S, hS, hSn⟩ := f11.ex
  obtain ⟨wA, hwA⟩ := ex_w (w' := setBlk w11 x (.cells #[a', b', v11, .int .i64 l.ops] 60))
  have hxA : wA.heap[x]? = some (.cells #[a', b', v11, .int .i64 l.ops] 60) := by rw [hwA]; exact heap_self lx
  have kA : Kp [x] w11 wA := by rw [hwA]; exact (Kp.refl _ w11).setBlk (.inl (by simp)) _
  rw [← hwA]
  have k8A : Kp [x] w8 wA := (f11.kp.mono (by simp)).trans' kA
  have k0A : Kp [] w wA := k08.trans k8A fun q hq hlt => by simp at hq; omega
  have hlS := hS.lt
  have hsA := kA.size
  have hsz8 := k8A.size
  have hxS8 : ∀ q ∈ S7, q ∉ [x] := fun q hq => by simp; intro h; exact hxS7 (h ▸ hq)
  have hs7 := hk7.size
  have hs78 := k78.size
  have e : movedL l at_.sku at_.loc n m.st m.due = { l with st := putD { f with hand := w64i (f.hand + n) } l.st false, mo := l.mo ++ [mv] } := by
    unfold movedL
    rw [putD_putS hs, ← hf, hmv]
  have ra := r1.keep (k78.trans' k8A) (fun q hq => hxS8 q (by rw [hSe]; simp [hq]))
  have rb := r2.keep (k78.trans' k8A) (fun q hq => hxS8 q (by rw [hSe]; simp [hq]))
  have hlt7 := hv7.lt
  have hvA : LedS wA (.agg #[a', b', v11, .int .i64 (movedL l at_.sku at_.loc n m.st m.due).ops]) (movedL l at_.sku at_.loc n m.st m.due) (SA' ++ (SB' ++ S)) := by
    rw [e]
    refine ⟨⟨a', b', v11, SA', SB', S, rfl, ra, rb, .inr (hS.keep kA fun q hq => by have := hSn q hq; simp; omega).rd, rfl⟩, fun q hq => ?_⟩
    simp only [List.mem_append] at hq
    rcases hq with hq | hq | hq
    · have := hlt7 q (by rw [hSe]; simp [hq]); omega
    · have := hlt7 q (by rw [hSe]; simp [hq]); omega
    · have := hlS q hq; omega
  have hcond : ∀ q ∈ SA' ++ (SB' ++ S), (q ∈ S0 ∨ w3.heap.size ≤ q) := fun q hq => by
    simp only [List.mem_append] at hq
    rcases hq with hq | hq | hq
    · exact (hS7' q (by rw [hSe]; simp [hq])).imp id fun h => by omega
    · exact (hS7' q (by rw [hSe]; simp [hq])).imp id fun h => by omega
    · exact .inr (by have := hSn q hq; omega)
  have hops : (movedL l at_.sku at_.loc n m.st m.due).ops = l.ops := rfl
  refine led_ret (l := movedL l at_.sku at_.loc n m.st m.due) hxA (kA.get hz11 (by simpa using Ne.symm hxz)) hvA (fun hm => ?_) fun w' hkz hvz => ?_
  · rcases hcond z hm with h | h
    · have := hlt0 z h; omega
    · omega
  · exact hK _ _ _ (k0A.trans hkz fun q hq hlt => by simp at hq; omega) hvz fun q hq => (hcond q hq).imp id fun h => by omega
end Go.Proofs

/- Rows of a block written over and read; a row's cell turned; slices.Insert of one row. -/
set_option linter.unusedVariables false
set_option linter.unusedSimpArgs false
namespace Go.Q
variable {P : Program}
section
variable {w : World} {k : Nat} {F G : List (List Value)} {T : Nat}
theorem wr_rows {b i : Nat} (h : w.heap[b]? = some (.cells F.flatten.toArray T (0, 0))) (hF : ∀ x ∈ F, x.length = k) (hG : ∀ x ∈ G, x.length = k) (hi : i + G.length ≤ F.length) (hone : G.flatten.all one = true) {K : World → Prop} :
    wrN w ⟨b, i * k, none⟩ G.flatten.toArray K = K (setBlk w b (.cells (F.take i ++ G ++ F.drop (i + G.length)).flatten.toArray T)) := by
  rw [wrN_mk, h]
  simp only
  have h1 := flat_len hF
  have h2 := flat_len hG
  have h3 : i * k + G.flatten.length ≤ F.flatten.length := by rw [h1, h2, ← Nat.add_mul]; exact Nat.mul_le_mul_right _ hi
  rw [splice_list, flat_splice_many hF hG hi]
  apply propext
  constructor
  · rintro ⟨_, h⟩; exact h
  · intro hk
    refine ⟨⟨by simpa [-List.length_flatten] using h3, by rw [okFr0]; trivial, by rw [List.all_toArray]; exact hone⟩, hk⟩
theorem rd_rows {b i m : Nat} (h : w.heap[b]? = some (.cells F.flatten.toArray T (0, 0))) (hF : ∀ x ∈ F, x.length = k) (hi : i + m ≤ F.length) {K : Array Value → Prop} :
    rdN w ⟨b, i * k, none⟩ (m * k) K = K ((F.drop i).take m).flatten.toArray := by
  rw [rdN_mk, h]
  simp only
  have h1 := flat_len hF
  have h3 : i * k + m * k ≤ F.flatten.length := by rw [h1, ← Nat.add_mul]; exact Nat.mul_le_mul_right _ hi
  rw [extract_list, flat_drop i hF, flat_take m (fun x hx => hF x (List.mem_of_mem_drop hx))]
  apply propext
  constructor
  · rintro ⟨_, h⟩; exact h
  · intro hk
    exact ⟨by simpa [-List.length_flatten] using h3, hk⟩
/-- rows are copied -/
theorem cp_rows {b b' i j dl dc sl sc T' : Nat} {F' : List (List Value)} (h : w.heap[b]? = some (.cells F.flatten.toArray T (0, 0))) (hF : ∀ x ∈ F, x.length = k) (h' : w.heap[b']? = some (.cells F'.flatten.toArray T' (0, 0))) (hF' : ∀ x ∈ F', x.length = k)
    (hi : i + Nat.min sl dl ≤ F.length) (hj : j + Nat.min sl dl ≤ F'.length) (hone : ((F'.drop j).take (Nat.min sl dl)).flatten.all one = true) {K : Value → World → Prop} :
    cp k (.slice (some ⟨b, i * k, none⟩) dl dc) (.slice (some ⟨b', j * k, none⟩) sl sc) w K = K (.int .i64 (Nat.min sl dl : Nat)) (setBlk w b (.cells (F.take i ++ (F'.drop j).take (Nat.min sl dl) ++ F.drop (i + Nat.min sl dl)).flatten.toArray T)) := by
  unfold cp
  simp only [src]
  rw [rd_rows h' hF' hj]
  simp only [wrO, add_mk, Nat.add_zero]
  have hl : ((F'.drop j).take (Nat.min sl dl)).length = Nat.min sl dl := by rw [List.length_take, List.length_drop]; exact Nat.min_eq_left (by omega)
  rw [wr_rows h hF (fun x hx => hF' x (List.mem_of_mem_drop (List.mem_of_mem_take hx))) (by rw [hl]; exact hi) hone, hl]
end
theorem set_flat {k : Nat} : ∀ {F : List (List Value)} {i j : Nat} {v : Value}, (∀ x ∈ F, x.length = k) → (hi : i < F.length) → j < k → F.flatten.set (i * k + j) v = (F.set i (F[i].set j v)).flatten := by
  intro F
  induction F with
  | nil => intro i j v _ h; simp at h
  | cons x r ih =>
    intro i j v h hi hj
    have hx := h x (by simp)
    cases i with
    | zero =>
      simp only [List.flatten_cons, Nat.zero_mul, Nat.zero_add, List.set_cons_zero, List.getElem_cons_zero]
      rw [List.set_append_left _ _ (by omega)]
    | succ i =>
      simp only [List.flatten_cons, List.set_cons_succ, List.getElem_cons_succ]
      rw [List.set_append_right _ _ (by rw [hx, Nat.succ_mul]; omega)]
      rw [show (i + 1) * k + j - x.length = i * k + j by rw [hx, Nat.succ_mul]; omega]
      rw [ih (fun y hy => h y (by simp [hy])) (by simpa using hi) hj]
/-- a cell of a row is turned -/
theorem RowsAt.upd {w : World} {v : Value} {k : Nat} {rows : List (List Value)} {S : List Nat} (h : RowsAt w v k rows S) {i : Nat} (hi : i < rows.length) :
    ∃ bl, S = [bl] ∧ (∀ kd K, ia k v (.int kd i) K = K (.pointer (some ⟨bl, i * k, none⟩))) ∧ (∀ j (hj : j < rows[i].length) K, rd1 w ⟨bl, i * k + j, none⟩ K = K rows[i][j]) ∧
      ∀ j, j < k → ∀ y, one y = true → ∀ K : World → Prop, (∀ w', Kp S w w' → RowsAt w' v k (rows.set i (rows[i].set j y)) S → K w') → wr1 w ⟨bl, i * k + j, none⟩ y K := by
  have hrow := h.row (List.getElem_mem hi)
  obtain ⟨bl', T', c', hb', hh', hia', _, _, hat'⟩ := h.at hi
  rcases h with ⟨h1, h2, h3⟩ | ⟨bl, F, T, h1, h2, h3, h4, h5, h6⟩
  · rw [h2] at hi; cases hi
  · rw [h2] at hb'
    simp only [List.mem_singleton] at hb'
    subst hb'
    refine ⟨bl', h2, hia', fun j hj K => ?_, fun j hj y hy K hK => ?_⟩
    · have := hat' j (by omega)
      rw [List.getElem?_eq_getElem hj] at this
      rw [rd1_mk, hh']
      simp only [this]
    · have hiF : i < F.length := by omega
      have hfl := flat_len h4
      have hlt : i * k + j < F.flatten.length := by
        have : (i + 1) * k ≤ F.length * k := Nat.mul_le_mul_right _ hiF
        rw [Nat.succ_mul] at this
        omega
      have hrowF : F[i] = rows[i] := by
        have e : rows[i]? = F[i]? := by rw [← h5, List.getElem?_take_of_lt (by omega)]
        rw [List.getElem?_eq_getElem hi, List.getElem?_eq_getElem hiF] at e
        injection e with e
        exact e.symm
      rw [wr1_mk, h3]
      refine ⟨⟨by simpa [-List.length_flatten] using hlt, by rw [okFr0]; trivial⟩, ?_⟩
      have e : F.flatten.toArray.setIfInBounds (i * k + j) y = (F.set i (F[i].set j y)).flatten.toArray := by
        rw [← set_flat h4 hiF hj]; simp
      rw [e]
      refine hK _ ((Kp.refl _ _).setBlk (.inl (by rw [h2]; simp)) _) (.inr ⟨bl', F.set i (F[i].set j y), T, by rw [h1]; simp, h2, heap_self (live_of h3), fun x hx => ?_, ?_, by simpa using h6⟩)
      · rcases List.mem_or_eq_of_mem_set hx with hx | hx
        · exact h4 x hx
        · rw [hx, List.length_set]; exact h4 _ (List.getElem_mem hiF)
      · rw [List.length_set, List.take_set, h5, hrowF]
/-- the same of rows of things -/
theorem RowsAt.updM {α : Type} {f : α → List Value} {L : List α} {w : World} {v : Value} {k : Nat} {S : List Nat} (h : RowsAt w v k (L.map f) S) {i : Nat} (hi : i < L.length) :
    ∃ bl, S = [bl] ∧ (∀ K, ia k v (.int .i64 i) K = K (.pointer (some ⟨bl, i * k, none⟩))) ∧ (∀ j x, (f L[i])[j]? = some x → ∀ K, ld1 (.pointer (some ⟨bl, i * k + j, none⟩)) w K = K x) ∧
      ∀ j, j < k → ∀ y a, one y = true → f a = (f L[i]).set j y → ∀ K : World → Prop, (∀ w', Kp S w w' → RowsAt w' v k ((L.set i a).map f) S → K w') → st1 (.pointer (some ⟨bl, i * k + j, none⟩)) y w K := by
  have hi' : i < (L.map f).length := by simpa using hi
  obtain ⟨bl, h1, h2, h3, h4⟩ := h.upd hi'
  have e : (L.map f)[i] = f L[i] := by simp
  refine ⟨bl, h1, fun K => h2 .i64 K, fun j x hx K => ?_, fun j hj y a hy hf K hK => ?_⟩
  · obtain ⟨hj, hx⟩ := List.getElem?_eq_some_iff.1 hx
    rw [ld1_p, h3 j (by rw [e]; exact hj)]
    have : (L.map f)[i][j]'(by rw [e]; exact hj) = x := by rw [← hx]; congr 1
    rw [this]
  · rw [st1_p]
    refine ⟨hy, h4 j hj y hy K fun w' hk hr => hK w' hk ?_⟩
    rw [List.map_set, hf, ← e]
    exact hr
/-- the same, later -/
theorem RowsAt.updK {α : Type} {f : α → List Value} {L : List α} {w : World} {v : Value} {k : Nat} {S : List Nat} (h : RowsAt w v k (L.map f) S) {i : Nat} (hi : i < L.length) :
    ∃ bl, S = [bl] ∧ (∀ K, ia k v (.int .i64 i) K = K (.pointer (some ⟨bl, i * k, none⟩))) ∧ (∀ w1, Kp [] w w1 → ∀ j x, (f L[i])[j]? = some x → ∀ K, ld1 (.pointer (some ⟨bl, i * k + j, none⟩)) w1 K = K x) ∧
      ∀ w1, Kp [] w w1 → ∀ j, j < k → ∀ y a, one y = true → f a = (f L[i]).set j y → ∀ K : World → Prop, (∀ w', Kp S w1 w' → RowsAt w' v k ((L.set i a).map f) S → K w') → st1 (.pointer (some ⟨bl, i * k + j, none⟩)) y w1 K := by
  obtain ⟨bl, h1, h2, _, _⟩ := h.updM hi
  refine ⟨bl, h1, h2, fun w1 hk j x hx K => ?_, fun w1 hk j hj y a hy hf K hK => ?_⟩
  · obtain ⟨bl', g1, _, g3, _⟩ := (h.keep hk (by simp)).updM hi
    have : bl' = bl := by rw [h1] at g1; simpa using g1.symm
    subst this
    exact g3 j x hx K
  · obtain ⟨bl', g1, _, _, g4⟩ := (h.keep hk (by simp)).updM hi
    have : bl' = bl := by rw [h1] at g1; simpa using g1.symm
    subst this
    exact g4 j hj y a hy hf K hK
theorem rep_rows {k : Nat} {z : List Value} (hk : 0 < k) (hz : z.length = k) (n : Nat) : rep z.toArray (n * k) = (List.replicate n z).flatten.toArray := by
  apply Array.ext
  · simp [rep, hz]
  · intro i h1 h2
    have hi : i < n * k := by simpa [rep] using h1
    simp only [rep, Array.getElem_map, Array.getElem_range, List.size_toArray, hz]
    have hm : i % k < k := Nat.mod_lt _ hk
    have hd : i / k < n := (Nat.div_lt_iff_lt_mul hk).2 hi
    have hfl : ((List.replicate n z).flatten.drop ((i / k) * k)).take k = z := by
      rw [flat_get (k := k) (by intro x hx; rw [List.mem_replicate] at hx; rw [hx.2, hz]) (by simpa using hd)]
      simp
    have hidx : i / k * k + i % k = i := by rw [Nat.mul_comm]; exact Nat.div_add_mod i k
    have e2 := congrArg (fun l => l[i % k]?) hfl
    simp only [List.getElem?_take_of_lt hm, List.getElem?_drop, hidx] at e2
    have h2' : i < (List.replicate n z).flatten.length := by simpa using h2
    rw [List.getElem?_eq_getElem h2', List.getElem?_eq_getElem (by omega)] at e2
    injection e2 with e2
    rw [List.getElem_toArray, e2]
    simp [hz, hm]
/-- append of noughts, where there is no room -/
theorem appZ {ts : Array TypeId} {t t1 e ty : TypeId} {k1 : IntKind} {i : TypeInfo} {bl o sl sc n : Nat} {w : World} {c : Array Value} {T : TypeId} {fr : Nat × Nat} (ht : ts[0]? = some t) (hu : P.underlying t = some (.slice e))
    (ht1 : ts[1]? = some t1) (hu1 : P.underlying t1 = some (.int k1)) (hi : P.info? e = some i) (hz : hasZ P e i.size = true) (hb : 0 < i.bytes) (hn : n < 2 ^ 40) (hsl : sl < 2 ^ 40) (hbn : i.bytes < 2 ^ 6) (hlt : sc < sl + n) (hsz : 0 < i.size)
    (hh : w.heap[bl]? = some (.cells c T fr)) (hc : o + sl * i.size ≤ c.size) (hpos : 0 < n) {K : Value → World → Prop} (hsc : (sl + n) < 2 ^ 40)
    (hK : ∀ cap, sl + n ≤ cap → cap < 2 ^ 63 → K (.slice (some ⟨w.heap.size, 0, none⟩) (sl + n) cap) (w.drew.alloc (.cells (c.extract o (o + sl * i.size) ++ rep (zc P e) (n * i.size) ++ rep (zc P e) ((cap - (sl + n)) * i.size)) e))) :
    eG P (Builtin.append_ ts ty #[.slice (some ⟨bl, o, none⟩) sl sc, .int .i64 n]) w K := by
  obtain ⟨z, hzr, hzc, hzs⟩ := hasZ_run hz w.drew
  have hns : szO P e = some i.size := by simp [szO, hi]
  let cap := (sl + n) + w.tape w.drawn (.appendCap (sl + n) sc e) % (2 ^ 63 - (sl + n))
  have hlt2 : w.tape w.drawn (.appendCap (sl + n) sc e) % (2 ^ 63 - (sl + n)) < 2 ^ 63 - (sl + n) := Nat.mod_lt _ (by omega)
  refine ⟨_, _, ?_, hK cap (Nat.le_add_right _ _) (by omega)⟩
  have hch : (choose (.appendCap (sl + n) sc e)).run P w = .ok cap w.drew := rfl
  have hrd : rdN w ⟨bl, o, none⟩ (sl * i.size) (fun cs => cs = c.extract o (o + sl * i.size)) := by rw [rdN_mk, hh]; exact ⟨hc, rfl⟩
  obtain ⟨old, hold, hoe, _⟩ := rdN_run (P := P) hrd
  subst hoe
  have hnx := nextslicecap_le hlt
  have hgt : ¬ Builtin.nextslicecap (sl + n) sc * i.bytes > 2 ^ 48 := by
    have : Builtin.nextslicecap (sl + n) sc * i.bytes ≤ (2 * (sl + n)) * 2 ^ 6 := Nat.mul_le_mul hnx (by omega)
    omega
  have hbz : ¬ i.bytes = 0 := by omega
  have hask : ∀ (b : Nat) (w : World), (askRoom b).run P w = .ok () w := by
    intro b w; unfold askRoom; split <;> simp [mark, Sem.run, pure]
  have hwn : IntKind.i64.wrap (n : Int) = n := wrap64 _ (by omega) (by omega)
  have hn0 : ¬ ((n : Int) < 0) := by omega
  have hnb : ¬ ((n : Int) * (i.bytes : Int) > 2 ^ 48) := by
    have : n * i.bytes ≤ 2 ^ 40 * 2 ^ 6 := Nat.mul_le_mul (by omega) (by omega)
    have h2 : ((n * i.bytes : Nat) : Int) ≤ ((2 ^ 40 * 2 ^ 6 : Nat) : Int) := by exact_mod_cast this
    rw [Int.natCast_mul] at h2
    omega
  have hnz : ¬ (n * i.size = 0) := by rw [Nat.mul_eq_zero]; omega
  have hmax : ¬ (((sl + n : Nat) : Int) > IntKind.i64.max) := by
    have : IntKind.i64.max = 9223372036854775807 := by decide
    rw [this]; omega
  have holdD : (loadCells ⟨bl, o, none⟩ (sl * i.size)).run P w.drew = .ok (c.extract o (o + sl * i.size)) w.drew := hold w.drew rfl
  have has : ∀ w : World, (asInt (.int .i64 (n : Int))).run P w = .ok (n : Int) w := fun _ => rfl
  unfold Builtin.append_
  simp only [ht, ht1, has, List.getElem?_toArray, List.getElem?_cons_zero, List.getElem?_cons_succ, Sem.run_bind, run_underlying hu, run_underlying hu1, Result.andThen_ok, szO_some hns, pure, Sem.run, Int.toNat_natCast,
    if_true, hwn, hn0, if_false, hnb, run_typeInfo w hi, show ¬ (sl + n ≤ sc) from by omega, hmax, false_and, hgt, run_typeInfo w.drew hi, hch, hask, Builtin.firstCells, holdD, Bool.not_true, Bool.false_eq_true, hnz, hzr, hzc, zeroCells_eq hzs, newRow_run]
  rfl
theorem nG_over {f : FuncId} {fn : Func} {tS tR e : TypeId} {n : Nat} (hf : P.funcs[f]? = some fn) (hname : (fn.name == "runtime.NumGoroutine") = false) (hb : fn.body.isNone = true) (hn : Extern.findNext fn = none) (he : Extern.find fn = some (Extern.SlicesOverlaps.overlaps #[tS, tS] #[tR]))
    (hu : P.underlying tS = some (.slice e)) (hz : szO P e = some n) {w : World} {ba oa la ca bb ob lb cb TA TB : Nat} {cA cB : Array Value} (hne : ba ≠ bb) (hA : w.heap[ba]? = some (.cells cA TA (0, 0))) (hB : w.heap[bb]? = some (.cells cB TB (0, 0))) (hcB : cB.size ≠ 0)
    {K : Value → World → Prop} (hK : K (.bool false) w) : nG P (callFunc f #[.slice (some ⟨ba, oa, none⟩) la ca, .slice (some ⟨bb, ob, none⟩) lb cb]) w K := by
  refine ⟨_, w, ?_, hK⟩
  rw [run_callFunc_extern hf hname hb hn he]
  rw [Lib.run_overlaps_apart w tS tR e hu n (fun w => szO_some hz w) ⟨ba, oa, none⟩ ⟨bb, ob, none⟩ la ca lb cb hne TA TB cA.size cB.size (by simp [World.shape?, hA]) (by simp [World.shape?, hB]) hcB (by simp [World.frozen?, hA]) (by simp [World.frozen?, hA])]
  rfl
/-- slices.Insert, as it is printed -/
def insG (P : Program) (I T k bytes ST : Nat) (fO fR : FuncId) (R : Value → World → Prop) (x0 x1 x2 : Value) (w : World) : Prop :=
  slL k x0 (some x1) none fun t12 =>
  lenL x2 fun t14 =>
  qG P (bq .eql I (.tmp 15) (.const (.int .i64 0)) t14 (.int .i64 0)) w fun t16 =>
  bV t16
  (R x0 w)
  (lenL x0 fun t19 =>
  qG P (bq .eql I (.tmp 20) (.tmp 21) x1 t19) w fun t22 =>
  bV t22
  (app T k bytes (zc P T) x0 x2 w fun t25 w =>
  R t25 w)
  (qG P (bq .add I (.tmp 26) (.tmp 27) t19 t14) w fun t28 =>
  qG P (Builtin.cap_ #[ST] I #[x0]) w fun t30 =>
  qG P (bq .gtr I (.tmp 28) (.tmp 30) t28 t30) w fun t31 =>
  bV t31
  (slL k x0 none (some x1) fun t34 =>
  qG P (bq .add I (.tmp 35) (.tmp 36) t19 t14) w fun t37 =>
  qG P (bq .sub I (.tmp 37) (.tmp 38) t37 x1) w fun t39 =>
  eG P (Builtin.append_ #[ST, I] ST #[t34, t39]) w fun t40 w =>
  slL k t40 (some x1) none fun t43 =>
  cp k t43 x2 w fun t45 w =>
  qG P (bq .add I (.tmp 47) (.tmp 48) x1 t14) (World.drew w) fun t49 =>
  slL k t40 (some t49) none fun t50 =>
  slL k x0 (some x1) none fun t53 =>
  cp k t50 t53 (World.drew w) fun t54 w =>
  R t40 w)
  (qG P (bq .add I (.tmp 57) (.tmp 58) t19 t14) w fun t59 =>
  slL k x0 none (some t59) fun t60 =>
  qG P (bq .add I (.tmp 63) (.tmp 64) x1 t14) w fun t65 =>
  slL k t60 (some t65) none fun t66 =>
  nG P (callFunc fO #[x2, t66]) w fun t67 w =>
  qG P (Op.unary .not t67) w fun t68 =>
  bV t68
  (qG P (bq .add I (.tmp 70) (.tmp 71) x1 t14) (World.drew w) fun t72 =>
  slL k t60 (some t72) none fun t73 =>
  slL k t60 (some x1) none fun t76 =>
  cp k t73 t76 (World.drew w) fun t77 w =>
  slL k t60 (some x1) none fun t80 =>
  cp k t80 x2 w fun t82 w =>
  R t60 w)
  (slL k t60 (some t19) none fun t86 =>
  cp k t86 x2 w fun t88 w =>
  slL k t60 (some x1) none fun t91 =>
  callG P fR #[t91, t14] w fun t93 w =>
  R t60 w))))
theorem run_cap {ts : Array TypeId} {t e ty : TypeId} {a : Option Addr} {n c : Nat} {w : World} (ht : ts[0]? = some t) (hu : P.underlying t = some (.slice e)) : (Builtin.cap_ ts ty #[.slice a n c]).run P w = .ok (.int .i64 c) w := by
  unfold Builtin.cap_
  simp only [ht, List.getElem?_toArray, List.getElem?_cons_zero, Sem.run_bind, run_underlying hu, Result.andThen_ok]
  rfl
theorem ins_spec {I T k bytes ST : Nat} {fO fR : FuncId} {i : TypeInfo} {z : List Value} {kd : IntKind} (hI : P.underlying I = some (.int kd)) (hST : P.underlying ST = some (.slice T)) (hi : P.info? T = some i) (hik : i.size = k) (hib : i.bytes = bytes) (hz : hasZ P T k = true) (hzc : zc P T = z.toArray) (hk : 0 < k) (hb : 0 < bytes) (hb6 : bytes < 2 ^ 6)
    (hov : ∀ (w : World) (ba oa la ca bb ob lb cb TA TB : Nat) (cA cB : Array Value), ba ≠ bb → w.heap[ba]? = some (.cells cA TA (0, 0)) → w.heap[bb]? = some (.cells cB TB (0, 0)) → cB.size ≠ 0 → ∀ K : Value → World → Prop, K (.bool false) w → nG P (callFunc fO #[.slice (some ⟨ba, oa, none⟩) la ca, .slice (some ⟨bb, ob, none⟩) lb cb]) w K)
    {w : World} {v x : Value} {rows : List (List Value)} {row : List Value} {S SX : List Nat} (h : RowsAt w v k rows S) (hx : RowsAt w x k [row] SX) (hd : ∀ q ∈ SX, q ∉ S) (hone : rows.flatten.all one = true) (hone1 : row.all one = true) (hl : rows.length < 2 ^ 30) {p : Nat} (hp : p ≤ rows.length)
    {R : Value → World → Prop} (hR : ∀ v' w' S', RowsAt w' v' k (rows.take p ++ [row] ++ rows.drop p) S' → Kp S w w' → (∀ y ∈ S', y ∈ S ∨ w.heap.size ≤ y) → R v' w') : insG P I T k bytes ST fO fR R v (.int .i64 p) x w := by
  have hzk : z.length = k := by
    obtain ⟨_, _, _, h3⟩ := hasZ_run hz w
    rw [hzc] at h3; simpa using h3
  have hrowk : row.length = k := hx.row (by simp)
  obtain ⟨vx, cx, hvx, _⟩ := hx.len
  obtain ⟨va, vc, hva, hvc⟩ := h.len
  have hxs := hx.rd.src
  unfold insG
  by_cases hpe : p = rows.length
  · subst hpe
    have happ : app T k bytes (zc P T) v x w fun t25 w => R t25 w := by
      rw [hzc]
      refine rows_app h hk hzk (G := [row]) (by simpa using hrowk) (by simpa using hone1) hxs ?_ (by simp; omega) fun v' w' S' h' hk' hS' => hR v' w' S' (by simpa using h') hk' hS'
      have : 2 * (rows.length + 1) * bytes ≤ 2 ^ 32 * 2 ^ 6 := Nat.mul_le_mul (by omega) (by omega)
      simpa using Nat.le_trans this (by decide)
    rw [hva, hvx] at happ ⊢
    have h1 : (rows.length : Int) ≤ vc := by omega
    simp [h1]
    exact happ
  · have hplt : p < rows.length := by omega
    rcases h with ⟨h1, h2, h3⟩ | ⟨bl, F, TT, h1, h2, h3, h4, h5, h6⟩
    · rw [h2] at hplt; simp at hplt
    · rcases hx with ⟨_, g2, _⟩ | ⟨xb, FX, TX, g1, g2, g3, g4, g5, g6⟩
      · simp at g2
      · simp only [List.length_cons, List.length_nil] at g1 g5 g6
        have hxbl : xb ≠ bl := by
          have := hd xb (by rw [g2]; simp)
          rw [h2] at this
          simpa using this
        have e1 : IntKind.i64.wrap ((rows.length : Int) + 1) = ((rows.length + 1 : Nat) : Int) := by rw [w64 (by omega) (by omega)]; simp
        have e2 : IntKind.i64.wrap ((p : Int) + 1) = ((p + 1 : Nat) : Int) := by rw [w64 (by omega) (by omega)]; simp
        have e3 : IntKind.i64.wrap (((rows.length + 1 : Nat) : Int) - p) = ((rows.length + 1 - p : Nat) : Int) := by rw [w64 (by omega) (by omega)]; omega
        have hrk : ∀ y ∈ rows, y.length = k := fun y hy => by rw [← h5] at hy; exact h4 y (List.mem_of_mem_take hy)
        have hFp : (F.drop p).take (rows.length - p) = rows.drop p := by rw [← h5, List.drop_take, h5]; 
        have hFt : F.take p = rows.take p := by
          have e := congrArg (List.take p) h5
          rw [List.take_take, Nat.min_eq_left (by omega)] at e
          exact e
        have hXr : (FX.drop 0).take 1 = [row] := by simpa using g5
        have honed : (rows.drop p).flatten.all one = true := by
          rw [List.all_eq_true] at hone ⊢
          intro y hy
          obtain ⟨r, hr, hyr⟩ := List.mem_flatten.1 hy
          exact hone y (List.mem_flatten.2 ⟨r, List.mem_of_mem_drop hr, hyr⟩)
        have nn : Nat.min 1 (rows.length + 1 - p) = 1 := Nat.min_eq_left (by omega)
        have nm : Nat.min (rows.length - p) (rows.length - p) = rows.length - p := Nat.min_self _
        have nm2 : Nat.min (rows.length + 1 - p) (rows.length - p) = rows.length - p := Nat.min_eq_right (by omega)
        subst h1; subst g1
        have hpF : p < F.length := by omega
        have c1 : (p : Int) ≤ F.length := by omega
        have c2 : ¬ ((p : Int) = rows.length) := by omega
        have c3 : (p : Int) ≤ rows.length := by omega
        have c4 : ¬ (F.length = p) := by omega
        have hpn : rows.length + 1 - p = rows.length - p + 1 := by omega
        by_cases hroom : rows.length + 1 ≤ F.length
        · have c5 : ¬ ((F.length : Int) < ((rows.length + 1 : Nat) : Int)) := by omega
          have c6 : ((rows.length + 1 : Nat) : Int) ≤ F.length := by omega
          have c7 : ¬ (F.length = p + 1) := by omega
          have c8 : ((p + 1 : Nat) : Int) ≤ ((rows.length + 1 : Nat) : Int) := by omega
          have hne : F.flatten.toArray.size ≠ 0 := by
            have := flat_len h4
            have h0 : 0 < F.length * k := Nat.mul_pos (by omega) hk
            simp only [List.size_toArray]
            omega
          simp [c1, c2, c3, c4, e1, e2, e3, c5, c6, c7, c8, qG_of (run_cap (ts := #[ST]) (ty := I) rfl hST), -List.length_flatten]
          refine ⟨by omega, fun hh => by omega, fun _ => ⟨⟨by omega, by omega⟩, by omega, ?_⟩⟩
          refine hov w xb 0 1 FX.length bl ((p + 1) * k) _ _ _ _ _ _ hxbl g3 h3 hne _ ?_
          simp
          refine ⟨by omega, by omega, ?_⟩
          have k1 : (F.drop p).take (Nat.min (rows.length + 1 - p) (rows.length - p)) = rows.drop p := by rw [nm2, hFp]
          rw [cp_rows (w := w.drew) h3 h4 h3 h4 (by rw [nm2]; omega) (by rw [nm2]; omega) (by rw [k1]; exact honed), k1]
          have k2 : p + 1 + Nat.min (rows.length + 1 - p) (rows.length - p) = rows.length + 1 := by rw [nm2]; omega
          rw [k2]
          obtain ⟨F2, hF2⟩ : ∃ F2, F2 = F.take (p + 1) ++ rows.drop p ++ F.drop (rows.length + 1) := ⟨_, rfl⟩
          rw [← hF2]
          obtain ⟨w2, hw2⟩ : ∃ w2, w2 = setBlk w.drew bl (.cells F2.flatten.toArray TT) := ⟨_, rfl⟩
          have q1 : w2.heap[bl]? = some (.cells F2.flatten.toArray TT (0, 0)) := by rw [hw2]; exact heap_self (live_of h3)
          have q2 : w2.heap[xb]? = some (.cells FX.flatten.toArray TX (0, 0)) := by rw [hw2, heap_ne (by omega)]; exact g3
          have k21 : Kp S w w2 := by rw [hw2]; exact (Kp.refl _ w).drew.setBlk (.inl (by rw [h2]; simp)) _
          have hF2k : ∀ y ∈ F2, y.length = k := by
            intro y hy
            rw [hF2, List.mem_append, List.mem_append] at hy
            rcases hy with (hy | hy) | hy
            · exact h4 y (List.mem_of_mem_take hy)
            · exact hrk y (List.mem_of_mem_drop hy)
            · exact h4 y (List.mem_of_mem_drop hy)
          have hF2l : F2.length = F.length := by rw [hF2]; simp; omega
          have hF2t : F2.take p = rows.take p := by
            rw [hF2, List.append_assoc, List.take_append_of_le_length (by simp; omega), List.take_take, Nat.min_eq_left (by omega), hFt]
          have hF2d : F2.drop (p + 1) = rows.drop p ++ F.drop (rows.length + 1) := by
            rw [hF2, List.append_assoc]
            exact List.drop_left' (by simp; omega)
          rw [← hw2]
          refine ⟨by omega, ?_⟩
          have z0 : (⟨xb, 0, none⟩ : Addr) = ⟨xb, 0 * k, none⟩ := by simp
          have k3 : (FX.drop 0).take (Nat.min 1 (rows.length + 1 - p)) = [row] := by rw [nn]; exact hXr
          rw [z0, cp_rows (w := w2) q1 hF2k q2 g4 (by rw [nn]; omega) (by rw [nn]; omega) (by rw [k3]; simpa using hone1), k3, nn, hF2t, hF2d]
          refine hR _ _ [bl] (.inr ⟨bl, rows.take p ++ [row] ++ (rows.drop p ++ F.drop (rows.length + 1)), TT, ?_, rfl, heap_self (live_of q1), ?_, ?_, ?_⟩) (k21.setBlk (.inl (by rw [h2]; simp)) _) (fun y hy => .inl (by rw [h2]; exact hy))
          · congr 1
            · simp; omega
            · simp; omega
          · intro y hy
            rw [List.mem_append, List.mem_append, List.mem_append] at hy
            rcases hy with (hy | hy) | hy | hy
            · exact hrk y (List.mem_of_mem_take hy)
            · rw [List.mem_singleton] at hy; rw [hy]; exact hrowk
            · exact hrk y (List.mem_of_mem_drop hy)
            · exact h4 y (List.mem_of_mem_drop hy)
          · rw [← List.append_assoc]
            exact List.take_left' rfl
          · simp
        · have c5 : ((F.length : Int) < ((rows.length + 1 : Nat) : Int)) := by omega
          have c8 : ((p + 1 : Nat) : Int) ≤ ((rows.length + 1 : Nat) : Int) := by omega
          have e3' : IntKind.i64.wrap ((rows.length : Int) + 1 - p) = ((rows.length + 1 - p : Nat) : Int) := by rw [w64 (by omega) (by omega)]; omega
          simp [c1, c2, c3, c4, e1, e2, e3, e3', c5, qG_of (run_cap (ts := #[ST]) (ty := I) rfl hST), -List.length_flatten]
          refine ⟨by omega, fun _ => ?_, fun hh => by omega⟩
          subst hik; subst hib
          refine appZ (t := ST) (e := T) (t1 := I) rfl hST rfl hI hi hz hb (by omega) (by omega) hb6 (by omega) hk h3 ?_ (by omega) (by omega) fun cap hcap hcap2 => ?_
          · have := flat_len h4
            have h0 : p * i.size ≤ F.length * i.size := Nat.mul_le_mul_right _ (by omega)
            simp only [List.size_toArray]
            omega
          have hpn2 : p + (rows.length + 1 - p) = rows.length + 1 := by omega
          rw [hpn2] at hcap ⊢
          have c9 : ¬ (cap = p) := by omega
          have c10 : ¬ (cap = p + 1) := by omega
          have hzl : ∀ m, rep (zc P T) (m * i.size) = (List.replicate m z).flatten.toArray := fun m => by rw [hzc]; exact rep_rows hk hzk m
          have hfe : F.flatten.toArray.extract 0 (0 + p * i.size) = (rows.take p).flatten.toArray := by
            rw [extract_list, List.drop_zero, flat_take p h4, hFt]
          rw [hzl, hzl, hfe]
          obtain ⟨F1, hF1⟩ : ∃ F1, F1 = rows.take p ++ List.replicate (rows.length + 1 - p) z ++ List.replicate (cap - (rows.length + 1)) z := ⟨_, rfl⟩
          have hfl : (rows.take p).flatten.toArray ++ (List.replicate (rows.length + 1 - p) z).flatten.toArray ++ (List.replicate (cap - (rows.length + 1)) z).flatten.toArray = F1.flatten.toArray := by
            rw [hF1]; apply Array.toList_inj.1; simp only [Array.toList_append, List.flatten_append]
          rw [hfl]
          obtain ⟨nb, hnb⟩ : ∃ nb, nb = w.heap.size := ⟨_, rfl⟩
          obtain ⟨w1, hw1⟩ : ∃ w1, w1 = w.drew.alloc (.cells F1.flatten.toArray T) := ⟨_, rfl⟩
          have q1 : w1.heap[nb]? = some (.cells F1.flatten.toArray T (0, 0)) := by rw [hw1, hnb]; exact heap_new
          have q2 : w1.heap[xb]? = some (.cells FX.flatten.toArray TX (0, 0)) := by rw [hw1, heap_old (by exact live_of g3)]; exact g3
          have q3 : w1.heap[bl]? = some (.cells F.flatten.toArray TT (0, 0)) := by rw [hw1, heap_old (by exact live_of h3)]; exact h3
          have k1 : Kp S w w1 := by rw [hw1]; exact (Kp.refl _ w).drew.alloc _
          rw [← hw1, ← hnb]
          have hxl := lt_of_blk g3
          have hbll := lt_of_blk h3
          have hF1k : ∀ y ∈ F1, y.length = i.size := by
            intro y hy
            rw [hF1, List.mem_append, List.mem_append] at hy
            rcases hy with (hy | hy) | hy
            · exact hrk y (List.mem_of_mem_take hy)
            · rw [List.mem_replicate] at hy; rw [hy.2, hzk]
            · rw [List.mem_replicate] at hy; rw [hy.2, hzk]
          have hF1l : F1.length = cap := by rw [hF1]; simp; omega
          have hF1t : F1.take p = rows.take p := by
            rw [hF1, List.append_assoc]; exact List.take_left' (by simp; omega)
          simp [c9, c10]
          refine ⟨by omega, ?_⟩
          have z0 : (⟨xb, 0, none⟩ : Addr) = ⟨xb, 0 * i.size, none⟩ := by simp
          have k3 : (FX.drop 0).take (Nat.min 1 (rows.length + 1 - p)) = [row] := by rw [nn]; exact hXr
          rw [z0, cp_rows (w := w1) q1 hF1k q2 g4 (by rw [nn]; omega) (by rw [nn]; omega) (by rw [k3]; simpa using hone1), k3, nn, hF1t]
          obtain ⟨F2, hF2⟩ : ∃ F2, F2 = rows.take p ++ [row] ++ F1.drop (p + 1) := ⟨_, rfl⟩
          obtain ⟨w2, hw2⟩ : ∃ w2, w2 = setBlk w1 nb (.cells F2.flatten.toArray T) := ⟨_, rfl⟩
          have r1 : w2.heap[nb]? = some (.cells F2.flatten.toArray T (0, 0)) := by rw [hw2]; exact heap_self (live_of q1)
          have r3 : w2.heap[bl]? = some (.cells F.flatten.toArray TT (0, 0)) := by rw [hw2, heap_ne (by omega)]; exact q3
          have k2 : Kp S w w2 := by rw [hw2]; exact k1.setBlk (.inr (by omega)) _
          rw [← hF2, ← hw2]
          have hF2k : ∀ y ∈ F2, y.length = i.size := by
            intro y hy
            rw [hF2, List.mem_append, List.mem_append] at hy
            rcases hy with (hy | hy) | hy
            · exact hrk y (List.mem_of_mem_take hy)
            · rw [List.mem_singleton] at hy; rw [hy]; exact hrowk
            · exact hF1k y (List.mem_of_mem_drop hy)
          have hF2l : F2.length = cap := by rw [hF2]; simp; omega
          have hF2t : F2.take (p + 1) = rows.take p ++ [row] := by
            rw [hF2]; exact List.take_left' (by simp; omega)
          have c11 : (p : Int) + 1 ≤ (rows.length : Int) + 1 := by omega
          refine ⟨by omega, by omega, ?_⟩
          have k4 : (F.drop p).take (Nat.min (rows.length - p) (rows.length - p)) = rows.drop p := by rw [nm, hFp]
          rw [cp_rows (w := w2.drew) r1 hF2k r3 h4 (by rw [nm]; omega) (by rw [nm]; omega) (by rw [k4]; exact honed), k4, hF2t, nm]
          refine hR _ _ [nb] (.inr ⟨nb, rows.take p ++ [row] ++ rows.drop p ++ F2.drop (p + 1 + (rows.length - p)), T, ?_, rfl, heap_self (live_of r1), ?_, ?_, ?_⟩) (k2.drew.setBlk (.inr (by omega)) _) (fun y hy => by simp at hy; omega)
          · congr 1
            · simp; omega
            · simp; omega
          · intro y hy
            rw [List.mem_append, List.mem_append, List.mem_append] at hy
            rcases hy with ((hy | hy) | hy) | hy
            · exact hrk y (List.mem_of_mem_take hy)
            · rw [List.mem_singleton] at hy; rw [hy]; exact hrowk
            · exact hrk y (List.mem_of_mem_drop hy)
            · exact hF2k y (List.mem_of_mem_drop hy)
          · exact List.take_left' rfl
          · simp
end Go.Q

/- A struct in a variable, of which some parts are slices of its own. -/
set_option linter.unusedVariables false
set_option linter.unusedSimpArgs false
namespace Go.Q
/-- a part of a struct is read -/
theorem ldF {w : World} {b j : Nat} {c : Array Value} {T : TypeId} {fr : Nat × Nat} {x : Value} (h : w.heap[b]? = some (.cells c T fr)) (hx : c[j]? = some x) {K : Value → Prop} : ld1 (.pointer (some ⟨b, j, none⟩)) w K = K x := by
  rw [ld1_p, rd1_mk, h]
  simp only [hx]
/-- a part of a struct is written -/
theorem stF {w : World} {b j : Nat} {c : Array Value} {T : TypeId} {x : Value} (h : w.heap[b]? = some (.cells c T (0, 0))) (hj : j < c.size) (hx : one x = true) {K : World → Prop} : st1 (.pointer (some ⟨b, j, none⟩)) x w K = K (setBlk w b (.cells (c.setIfInBounds j x) T)) := by
  rw [st1_p, wr1_mk, h]
  apply propext
  constructor
  · rintro ⟨_, _, hk⟩; exact hk
  · intro hk
    exact ⟨hx, ⟨hj, by rw [okFr0]; trivial⟩, hk⟩
structure Cmp where
  v : Value
  k : Nat
  rows : List (List Value)
  S : List Nat
def blksC (cs : List Cmp) : List Nat := (cs.map (·.S)).flatten
structure BoxAt (w : World) (x : Nat) (T : Nat) (cs : List Cmp) (tl : List Value) : Prop where
  cell : w.heap[x]? = some (.cells (cs.map (·.v) ++ tl).toArray T)
  rows : ∀ i (h : i < cs.length), RowsAt w cs[i].v cs[i].k cs[i].rows cs[i].S
  nd : (x :: blksC cs).Nodup
section
variable {w w' : World} {x T : Nat} {cs : List Cmp} {tl : List Value}
theorem blksC_mem {i : Nat} (hi : i < cs.length) {q : Nat} (hq : q ∈ cs[i].S) : q ∈ blksC cs := List.mem_flatten.2 ⟨_, List.mem_map.2 ⟨_, List.getElem_mem hi, rfl⟩, hq⟩
theorem blksC_set {i : Nat} {c : Cmp} {q : Nat} (h : q ∈ blksC (cs.set i c)) : q ∈ c.S ∨ ∃ j, ∃ hj : j < cs.length, j ≠ i ∧ q ∈ cs[j].S := by
  obtain ⟨r, hr, hq⟩ := List.mem_flatten.1 h
  obtain ⟨d, hd, rfl⟩ := List.mem_map.1 hr
  obtain ⟨j, hj, rfl⟩ := List.getElem_of_mem hd
  simp only [List.length_set] at hj
  by_cases he : i = j
  · subst he
    rw [List.getElem_set_self] at hq
    exact .inl hq
  · rw [List.getElem_set_ne he] at hq
    exact .inr ⟨j, hj, fun h => he h.symm, hq⟩
theorem nodup_flat {L : List (List Nat)} : L.flatten.Nodup ↔ (∀ l ∈ L, l.Nodup) ∧ L.Pairwise fun a b => ∀ x ∈ a, ∀ y ∈ b, x ≠ y := List.pairwise_flatten
theorem BoxAt.apart (h : BoxAt w x T cs tl) {i j : Nat} (hi : i < cs.length) (hj : j < cs.length) (hne : i ≠ j) {q : Nat} (hq : q ∈ cs[i].S) : q ∉ cs[j].S := by
  have h1 := (List.nodup_cons.1 h.nd).2
  have h2 := (nodup_flat.1 h1).2
  rw [List.pairwise_map] at h2
  intro hq'
  rcases Nat.lt_or_gt_of_ne hne with hlt | hlt
  · exact (List.pairwise_iff_getElem.1 h2 i j hi hj hlt) q hq q hq' rfl
  · exact (List.pairwise_iff_getElem.1 h2 j i hj hi hlt) q hq' q hq rfl
theorem BoxAt.x_not (h : BoxAt w x T cs tl) {i : Nat} (hi : i < cs.length) : x ∉ cs[i].S := fun hq => (List.nodup_cons.1 h.nd).1 (blksC_mem hi hq)
theorem BoxAt.lt (h : BoxAt w x T cs tl) : ∀ q ∈ x :: blksC cs, q < w.heap.size := by
  intro q hq
  rcases List.mem_cons.1 hq with rfl | hq
  · exact lt_of_blk h.cell
  · obtain ⟨r, hr, hq⟩ := List.mem_flatten.1 hq
    obtain ⟨d, hd, rfl⟩ := List.mem_map.1 hr
    obtain ⟨j, hj, rfl⟩ := List.getElem_of_mem hd
    exact (h.rows j hj).lt q hq
theorem BoxAt.keepS {S : List Nat} (h : BoxAt w x T cs tl) (hk : Kp S w w') (hS : ∀ q ∈ x :: blksC cs, q ∉ S) : BoxAt w' x T cs tl :=
  ⟨hk.get h.cell (hS x (by simp)), fun i hi => (h.rows i hi).keep hk fun q hq => hS q (by simp [blksC_mem hi hq]), h.nd⟩
theorem BoxAt.keep (h : BoxAt w x T cs tl) (hk : Kp [] w w') : BoxAt w' x T cs tl := h.keepS hk (by simp)
theorem BoxAt.ld (h : BoxAt w x T cs tl) {n : Nat} (hn : n = cs.length + tl.length) {K : Value → Prop} : ldn n (.pointer (some ⟨x, 0, none⟩)) w K = K (.agg (cs.map (·.v) ++ tl).toArray) := by
  have hs : ((cs.map (·.v) ++ tl).toArray).size = n := by simp [hn]
  rw [ldn_p, rdN_mk, h.cell]
  subst hs
  simp only [Nat.zero_add, Nat.le_refl, true_and, Array.extract_size]
theorem BoxAt.rd (h : BoxAt w x T cs tl) {i : Nat} (hi : i < cs.length) {w1 : World} (hk : Kp cs[i].S w w1) {K : Value → Prop} : ld1 (.pointer (some ⟨x, i, none⟩)) w1 K = K cs[i].v := by
  have hc : ((cs.map (·.v) ++ tl).toArray)[i]? = some cs[i].v := by
    rw [List.getElem?_toArray, List.getElem?_append_left (by simpa using hi)]; simp [hi]
  rw [ld1_p, rd1_mk, hk.get h.cell (h.x_not hi)]
  simp only [hc]
theorem blksC_same {i : Nat} (hi : i < cs.length) {c : Cmp} (hS : c.S = cs[i].S) : blksC (cs.set i c) = blksC cs := by
  unfold blksC
  congr 1
  rw [List.map_set, hS]
  apply List.ext_getElem
  · simp
  · intro j h1 h2
    by_cases he : i = j
    · subst he; simp
    · simp [List.getElem_set_ne he]
theorem map_v_same {i : Nat} (hi : i < cs.length) {c : Cmp} (hv : c.v = cs[i].v) : (cs.set i c).map (·.v) = cs.map (·.v) := by
  rw [List.map_set, hv]
  apply List.ext_getElem
  · simp
  · intro j h1 h2
    by_cases he : i = j
    · subst he; simp
    · simp [List.getElem_set_ne he]
/-- a part's rows are turned where they lie -/
theorem BoxAt.inplace (h : BoxAt w x T cs tl) {i : Nat} (hi : i < cs.length) {w1 : World} (hk : Kp cs[i].S w w1) {rows' : List (List Value)} (hr : RowsAt w1 cs[i].v cs[i].k rows' cs[i].S) :
    BoxAt w1 x T (cs.set i ⟨cs[i].v, cs[i].k, rows', cs[i].S⟩) tl ∧ blksC (cs.set i ⟨cs[i].v, cs[i].k, rows', cs[i].S⟩) = blksC cs := by
  have e1 := blksC_same hi (c := ⟨cs[i].v, cs[i].k, rows', cs[i].S⟩) rfl
  refine ⟨⟨?_, fun j hj => ?_, by rw [e1]; exact h.nd⟩, e1⟩
  · rw [map_v_same hi (c := ⟨cs[i].v, cs[i].k, rows', cs[i].S⟩) rfl]
    exact hk.get h.cell (h.x_not hi)
  · simp only [List.length_set] at hj
    by_cases he : i = j
    · subst he; rw [List.getElem_set_self]; exact hr
    · rw [List.getElem_set_ne he]
      exact (h.rows j hj).keep hk fun q hq => h.apart hj hi (fun e => he e.symm) hq
/-- a part is another one -/
theorem BoxAt.store (h : BoxAt w x T cs tl) {i : Nat} (hi : i < cs.length) {w1 : World} (hk : Kp cs[i].S w w1) {v' : Value} {rows' : List (List Value)} {S' : List Nat} (hr : RowsAt w1 v' cs[i].k rows' S') (hS : ∀ q ∈ S', q ∈ cs[i].S ∨ w.heap.size ≤ q) {K : World → Prop}
    (hK : ∀ w2, BoxAt w2 x T (cs.set i ⟨v', cs[i].k, rows', S'⟩) tl → Kp (x :: cs[i].S) w w2 → Kp [x] w1 w2 → (∀ q ∈ blksC (cs.set i ⟨v', cs[i].k, rows', S'⟩), q ∈ blksC cs ∨ w.heap.size ≤ q) → K w2) : st1 (.pointer (some ⟨x, i, none⟩)) v' w1 K := by
  have hlt := h.lt
  have g1 := hk.get h.cell (h.x_not hi)
  have l1 := live_of g1
  have hone : one v' = true := by obtain ⟨a, c, hv, _⟩ := hr.len; rw [hv]; rfl
  have k1 : ∀ o, Kp [x] w1 (setBlk w1 x o) := fun o => (Kp.refl _ _).setBlk (.inl (by simp)) o
  have k2 : ∀ o, Kp (x :: cs[i].S) w (setBlk w1 x o) := fun o => (hk.mono (fun q hq _ => by simp [hq])).setBlk (.inl (by simp)) o
  have hx' : x ∉ S' := fun hh => by
    rcases hS x hh with hh | hh
    · exact h.x_not hi hh
    · have := hlt x (by simp); omega
  have hnot : ∀ j (hj : j < cs.length), j ≠ i → ∀ q ∈ cs[j].S, q ∉ x :: cs[i].S := fun j hj hne q hq hh => by
    rcases List.mem_cons.1 hh with rfl | hh
    · exact h.x_not hj hq
    · exact h.apart hj hi hne hq hh
  have hdis : ∀ j (hj : j < cs.length), j ≠ i → ∀ q ∈ cs[j].S, q ∉ S' := fun j hj hne q hq hh => by
    rcases hS q hh with hh | hh
    · exact h.apart hj hi hne hq hh
    · have := hlt q (by simp [blksC_mem hj hq]); omega
  have hin : ∀ q ∈ blksC (cs.set i ⟨v', cs[i].k, rows', S'⟩), q ∈ S' ∨ q ∈ blksC cs := fun q hq => by
    rcases blksC_set hq with hq | ⟨j, hj, _, hq⟩
    · exact .inl hq
    · exact .inr (blksC_mem hj hq)
  rw [st1_p, wr1_mk, g1]
  refine ⟨hone, ⟨by simp; omega, by rw [okFr0]; trivial⟩, ?_⟩
  have hc : (cs.map (·.v) ++ tl).toArray.setIfInBounds i v' = ((cs.set i ⟨v', cs[i].k, rows', S'⟩).map (·.v) ++ tl).toArray := by
    rw [List.map_set]
    simp [List.set_append_left, hi]
  rw [hc]
  refine hK _ ⟨heap_self l1, fun j hj => ?_, ?_⟩ (k2 _) (k1 _) fun q hq => ?_
  · simp only [List.length_set] at hj
    by_cases he : i = j
    · subst he; rw [List.getElem_set_self]; exact hr.keep (k1 _) fun q hq => by simp; intro e; exact hx' (e ▸ hq)
    · rw [List.getElem_set_ne he]
      exact (h.rows j hj).keep (k2 _) fun q hq => hnot j hj (fun e => he e.symm) q hq
  · refine List.nodup_cons.2 ⟨fun hq => ?_, ?_⟩
    · rcases hin x hq with hq | hq
      · exact hx' hq
      · exact (List.nodup_cons.1 h.nd).1 hq
    · have h1 := (List.nodup_cons.1 h.nd).2
      obtain ⟨h2, h3⟩ := nodup_flat.1 h1
      refine nodup_flat.2 ⟨fun r hr' => ?_, ?_⟩
      · obtain ⟨d, hd, rfl⟩ := List.mem_map.1 hr'
        rcases List.mem_or_eq_of_mem_set hd with hd | rfl
        · exact h2 _ (List.mem_map.2 ⟨d, hd, rfl⟩)
        · exact hr.nodup
      · rw [List.pairwise_map] at h3 ⊢
        rw [List.pairwise_iff_getElem] at h3 ⊢
        intro a b ha hb hab
        simp only [List.length_set] at ha hb
        by_cases ea : i = a
        · subst ea
          rw [List.getElem_set_self, List.getElem_set_ne (by omega)]
          exact fun q hq q' hq' he => hdis b hb (by omega) q (he ▸ hq') hq
        · by_cases eb : i = b
          · subst eb
            rw [List.getElem_set_self, List.getElem_set_ne ea]
            exact fun q hq q' hq' he => hdis a ha (by omega) q hq (he ▸ hq')
          · rw [List.getElem_set_ne ea, List.getElem_set_ne eb]
            exact h3 a b ha hb hab
  · rcases hin q hq with hq | hq
    · rcases hS q hq with hq | hq
      · exact .inl (blksC_mem hi hq)
      · exact .inr hq
    · exact .inl hq
end
end Go.Q

/- Layer 7: a put never falls below what is held. -/
set_option linter.unusedVariables false
set_option linter.unusedSimpArgs false
namespace Go.Q
open Go
theorem put_held {l : LV} (h : Good l) {sku loc : List UInt8} {q : Int} (hq : 0 ≤ q) (he : (moreL l sku loc q).2 = 0) : ¬ (moreL l sku loc q).1 < (findS l.st sku loc).held := by
  obtain ⟨g1, g2, g3, g4, g5⟩ := h.f.find sku loc
  have := (numO_ok he).2
  unfold moreL at this ⊢
  rw [this]
  omega
end Go.Q

/- Plain, layer 7: what the program's steps make of a ledger is what the document's make. -/
set_option linter.unusedVariables false
set_option linter.unusedSimpArgs false
namespace Go.Q
open Go
def turnS (st : List SV) (sku loc : List UInt8) (n m : Int) : List SV := putS st { findS st sku loc with hand := w64i ((findS st sku loc).hand + n), held := w64i ((findS st sku loc).held + m) }
def turnL (l : LV) (sku loc : List UInt8) (n m : Int) : LV := { l with st := turnS l.st sku loc n m }
def moveW (l : LV) (sku loc : List UInt8) (n m kind hold : Int) : LV := { turnL l sku loc n m with mo := l.mo ++ [⟨(l.mo.length + 1 : Nat), sku, loc, n, kind, hold⟩] }
def overW (l : LV) (o : OpV) : LV × Int :=
  if o.id > l.ho.length ∨ (holdAt l o.id).st ≠ 0 then (l, 71)
  else
    let h := holdAt l o.id
    if o.k = 4 then (turnL (stateL l (o.id - 1).toNat 2) h.sku h.loc 0 (w64i (-h.q)), 0) else (moveW (stateL l (o.id - 1).toNat 1) h.sku h.loc (w64i (-h.q)) (w64i (-h.q)) o.k h.id, 0)
/-- where a place stands, or would -/
theorem put_idx {st : List SV} (hs : Sorted st) {sku loc : List UInt8} {k : Nat} (hk : k ≤ st.length) (h1 : ∀ j (hj : j < st.length), j < k → ahead st[j] ⟨sku, loc, 0, 0⟩ = true) (h2 : ∀ j (hj : j < st.length), k ≤ j → ahead st[j] ⟨sku, loc, 0, 0⟩ = false) :
    ((st.any fun s => atP s sku loc) = true → ∃ h : k < st.length, findS st sku loc = st[k] ∧ ∀ s : SV, s.sku = sku → s.loc = loc → putS st s = st.set k s) ∧
    ((st.any fun s => atP s sku loc) = false → findS st sku loc = ⟨sku, loc, 0, 0⟩ ∧ ∀ s : SV, s.sku = sku → s.loc = loc → putS st s = st.take k ++ [s] ++ st.drop k) := by
  induction st generalizing k with
  | nil =>
    refine ⟨fun h => by simp at h, fun _ => ⟨rfl, fun s _ _ => by simp [putS]⟩⟩
  | cons y r ih =>
    have hr := List.pairwise_cons.1 hs
    cases k with
    | zero =>
      have hy := h2 0 (by simp) (Nat.le_refl _)
      simp only [List.getElem_cons_zero] at hy
      have hno : ∀ x ∈ r, ¬ (x.sku = sku ∧ x.loc = loc) := fun x hx hk => by
        have := hr.1 x hx
        rw [ahead_key (b' := ⟨sku, loc, 0, 0⟩) rfl rfl hk.1 hk.2, hy] at this
        cases this
      by_cases hk : y.sku = sku ∧ y.loc = loc
      · refine ⟨fun _ => ⟨by simp, ?_, fun s e1 e2 => ?_⟩, fun h => ?_⟩
        · simp [findS, atP, hk]
        · have : ahead y s = false := by rw [ahead_key (b' := ⟨sku, loc, 0, 0⟩) rfl rfl e1 e2]; exact hy
          simp [putS, this, hk, e1, e2]
        · simp [atP, hk] at h
      · refine ⟨fun h => ?_, fun _ => ⟨?_, fun s e1 e2 => ?_⟩⟩
        · simp only [List.any_cons, Bool.or_eq_true, atP, decide_eq_true_eq, List.any_eq_true] at h
          rcases h with h | ⟨x, hx, h⟩
          · exact absurd h hk
          · exact absurd h (hno x hx)
        · exact findS_none fun x hx => by
            rcases List.mem_cons.1 hx with rfl | hx
            · exact hk
            · exact hno x hx
        · have : ahead y s = false := by rw [ahead_key (b' := ⟨sku, loc, 0, 0⟩) rfl rfl e1 e2]; exact hy
          have hk' : ¬ (y.sku = s.sku ∧ y.loc = s.loc) := by rw [e1, e2]; exact hk
          simp [putS, this, hk']
    | succ k =>
      have hy := h1 0 (by simp) (by omega)
      simp only [List.getElem_cons_zero] at hy
      have hk' : ¬ (y.sku = sku ∧ y.loc = loc) := fun hk => by
        rw [ahead_key (a' := ⟨sku, loc, 0, 0⟩) (b' := ⟨sku, loc, 0, 0⟩) hk.1 hk.2 rfl rfl, ahead_irrefl] at hy
        cases hy
      obtain ⟨g1, g2⟩ := ih hr.2 (k := k) (by simpa using hk) (fun j hj hjk => by have := h1 (j + 1) (by simpa using hj) (by omega); simpa using this) (fun j hj hjk => by have := h2 (j + 1) (by simpa using hj) (by omega); simpa using this)
      have ea : atP y sku loc = false := by unfold atP; exact decide_eq_false hk'
      have ef : findS (y :: r) sku loc = findS r sku loc := by unfold findS; rw [List.find?_cons_of_neg (by simp [ea])]
      have ey : ∀ s : SV, s.sku = sku → s.loc = loc → ahead y s = true := fun s e1 e2 => by rw [ahead_key (b' := ⟨sku, loc, 0, 0⟩) rfl rfl e1 e2]; exact hy
      simp only [List.any_cons, ea, Bool.false_or]
      refine ⟨fun h => ?_, fun h => ?_⟩
      · obtain ⟨hl, e1, e2⟩ := g1 h
        refine ⟨by simpa using hl, by rw [ef, e1]; rfl, fun s a b => ?_⟩
        unfold putS
        rw [if_pos (ey s a b), e2 s a b]; rfl
      · obtain ⟨e1, e2⟩ := g2 h
        refine ⟨by rw [ef, e1], fun s a b => ?_⟩
        unfold putS
        rw [if_pos (ey s a b), e2 s a b]; simp
def FitS (st : List SV) : Prop := ∀ sku loc, fits (findS st sku loc).hand = true ∧ fits (findS st sku loc).held = true
theorem fits_w (x : Int) : fits (w64i x) = true := by
  rw [fits_iff]
  unfold w64i
  simp [IntKind.wrap, IntKind.bits, IntKind.signed]
  omega
theorem w64_self {x : Int} (h : fits x = true) : w64i (x + 0) = x := by rw [Int.add_zero]; exact w64i_eq h
theorem fitS_put {st : List SV} (hs : Sorted st) (h : FitS st) {s : SV} (h1 : fits s.hand = true) (h2 : fits s.held = true) : FitS (putS st s) := by
  intro sku loc
  rw [findS_put hs]
  split
  · exact ⟨h1, h2⟩
  · exact h sku loc
theorem turn_fit {st : List SV} (hs : Sorted st) (h : FitS st) (sku loc : List UInt8) (n m : Int) : FitS (turnS st sku loc n m) ∧ Sorted (turnS st sku loc n m) := ⟨fitS_put hs h (fits_w _) (fits_w _), putS_sorted hs⟩
theorem Good.fitS {l : LV} (h : Good l) : FitS l.st := by
  intro sku loc
  obtain ⟨g1, g2, g3, g4, g5⟩ := h.f.find sku loc
  have := fits_iff.1 g5
  exact ⟨g5, fits_iff.2 (by omega)⟩
theorem held_turn {l : LV} (h : FitS l.st) (sku loc : List UInt8) (m : Int) : turnL l sku loc 0 m = heldL l sku loc m := by
  unfold turnL turnS heldL
  rw [w64_self (h sku loc).1]
theorem moved_turn {l : LV} (h : FitS l.st) (sku loc : List UInt8) (n kind hold : Int) : moveW l sku loc n 0 kind hold = movedL l sku loc n kind hold := by
  unfold moveW turnL turnS movedL
  rw [w64_self (h sku loc).2]
theorem overW_eq {l : LV} (hs : Sorted l.st) (h : FitS l.st) (o : OpV) : overW l o = overL l o := by
  unfold overW overL
  split
  · rfl
  · simp only
    split
    · have : turnL (stateL l (o.id - 1).toNat 2) (holdAt l o.id).sku (holdAt l o.id).loc 0 (w64i (-(holdAt l o.id).q)) = heldL (stateL l (o.id - 1).toNat 2) (holdAt l o.id).sku (holdAt l o.id).loc (w64i (-(holdAt l o.id).q)) := held_turn (l := stateL l (o.id - 1).toNat 2) h _ _ _
      rw [this]; rfl
    · have hf : ∀ s : SV, (findS l.st s.sku s.loc).sku = s.sku ∧ (findS l.st s.sku s.loc).loc = s.loc := fun s => findS_key _ _ _
      obtain ⟨k1, k2⟩ := findS_key l.st (holdAt l o.id).sku (holdAt l o.id).loc
      have e1 : (heldL l (holdAt l o.id).sku (holdAt l o.id).loc (w64i (-(holdAt l o.id).q))).st = putS l.st { findS l.st (holdAt l o.id).sku (holdAt l o.id).loc with held := w64i ((findS l.st (holdAt l o.id).sku (holdAt l o.id).loc).held + w64i (-(holdAt l o.id).q)) } := rfl
      unfold movedL
      simp only [stateL, e1, findS_put hs, k1, k2, and_self, if_true]
      rw [putS_put (by exact ⟨rfl, rfl⟩)]
      simp only [moveW, turnL, turnS, k1, k2, heldL]
def doesW (l : LV) (o : OpV) : LV × Int :=
  if o.k = 1 ∨ o.k = 7 then
    (if (moreL l o.sku o.loc o.q).2 ≠ 0 then (l, (moreL l o.sku o.loc o.q).2)
     else if (moreL l o.sku o.loc o.q).1 < (findS l.st o.sku o.loc).held then (l, 70) else (moveW l o.sku o.loc o.q 0 o.k 0, 0))
  else if o.k = 2 then
    (if freeL l o.sku o.loc < o.q then (l, 70)
     else
      let l1 := turnL l o.sku o.loc 0 o.q
      ({ l1 with ho := l1.ho ++ [⟨(l1.ho.length + 1 : Nat), o.sku, o.loc, o.q, 0, o.due⟩] }, 0))
  else if o.k = 5 then (expireL l o.due 0 l.ho.length, 0)
  else if o.k = 6 then
    (if freeL l o.sku o.loc < o.q then (l, 70)
     else if (moreL l o.sku o.to o.q).2 ≠ 0 then (l, (moreL l o.sku o.to o.q).2)
     else (moveW (moveW l o.sku o.loc (w64i (-o.q)) 0 o.k 0) o.sku o.to o.q 0 o.k 0, 0))
  else overW l o
theorem doesW_eq {l : LV} (hs : Sorted l.st) (h : FitS l.st) (o : OpV) : doesW l o = doesL l o := by
  unfold doesW doesL
  rw [overW_eq hs h, moved_turn h, held_turn h, moved_turn h]
  have h2 : FitS (movedL l o.sku o.loc (w64i (-o.q)) o.k 0).st := fitS_put hs h (fits_w _) (h _ _).2
  rw [moved_turn h2]
theorem expireL_ops (due : Int) : ∀ (m : Nat) (l : LV) (i : Nat), (expireL l due i m).ops = l.ops := by
  intro m
  induction m with
  | zero => intro l i; rfl
  | succ m ih =>
    intro l i
    unfold expireL
    rw [ih]
    split <;> rfl
theorem doesL_ops (l : LV) (o : OpV) : (doesL l o).1.ops = l.ops := by
  unfold doesL
  repeat' (first | rfl | split)
  · exact expireL_ops _ _ _ _
  · unfold overL
    repeat' (first | rfl | split)
end Go.Q

/- Layer 7: a ledger that is changed: its lists are its own. -/
set_option linter.unusedVariables false
set_option linter.unusedSimpArgs false
namespace Go.Proofs
open Go Go.Q
/-- a ledger that is changed, and the blocks that are its own -/
structure WorkAt (w0 w : World) (x : Nat) (l : LV) (S : List Nat) : Prop where
  ex : ∃ a b c SA SB SC, BoxAt w x 126 [⟨a, 4, l.st.map sC, SA⟩, ⟨b, 6, l.ho.map hC, SB⟩, ⟨c, 6, l.mo.map hC, SC⟩] [.int .i64 l.ops] ∧ S = x :: blksC [⟨a, 4, l.st.map sC, SA⟩, ⟨b, 6, l.ho.map hC, SB⟩, ⟨c, 6, l.mo.map hC, SC⟩]
  new : ∀ q ∈ S, w0.heap.size ≤ q
  kp : Kp [] w0 w
section
variable {w0 w : World} {x : Nat} {l : LV} {S : List Nat}
theorem WorkAt.keep {w' : World} (h : WorkAt w0 w x l S) (hk : Kp [] w w') : WorkAt w0 w' x l S := by
  obtain ⟨a, b, c, SA, SB, SC, h1, h2⟩ := h.ex
  exact ⟨⟨a, b, c, SA, SB, SC, h1.keep hk, h2⟩, h.new, h.kp.trans' hk⟩
theorem WorkAt.lt (h : WorkAt w0 w x l S) : ∀ q ∈ S, q < w.heap.size := by
  obtain ⟨a, b, c, SA, SB, SC, h1, rfl⟩ := h.ex
  exact h1.lt
theorem WorkAt.ld (h : WorkAt w0 w x l S) : ∃ v, (∀ K : Value → Prop, ldn 4 (.pointer (some ⟨x, 0, none⟩)) w K = K v) ∧ LedAt w v l := by
  obtain ⟨a, b, c, SA, SB, SC, h1, rfl⟩ := h.ex
  exact ⟨_, fun K => h1.ld rfl, a, b, c, rfl, ⟨SA, .inr (h1.rows 0 (by simp)).rd⟩, ⟨SB, .inr (h1.rows 1 (by simp)).rd⟩, ⟨SC, .inr (h1.rows 2 (by simp)).rd⟩⟩
theorem WorkAt.focusA (h : WorkAt w0 w x l S) : ∃ v T, RowsAt w v 4 (l.st.map sC) T ∧ (∀ q ∈ T, q ∈ S) ∧ x ∉ T ∧ (∀ w1, Kp T w w1 → ∀ K : Value → Prop, ld1 (.pointer (some ⟨x, 0, none⟩)) w1 K = K v) ∧
    (∀ w1 (L : List SV), Kp T w w1 → RowsAt w1 v 4 (L.map sC) T → WorkAt w0 w1 x { l with st := L } S) ∧
    ∀ w1 v' T' (L : List SV), Kp T w w1 → RowsAt w1 v' 4 (L.map sC) T' → (∀ q ∈ T', q ∈ T ∨ w.heap.size ≤ q) → ∀ K : World → Prop, (∀ w2 S', WorkAt w0 w2 x { l with st := L } S' → Kp S w w2 → Kp [x] w1 w2 → (∀ q ∈ S', q ∈ S ∨ w.heap.size ≤ q) → K w2) → st1 (.pointer (some ⟨x, 0, none⟩)) v' w1 K := by
  have hnew := h.new
  obtain ⟨a, b, c, SA, SB, SC, h1, rfl⟩ := h.ex
  have hi : 0 < [(⟨a, 4, l.st.map sC, SA⟩ : Cmp), ⟨b, 6, l.ho.map hC, SB⟩, ⟨c, 6, l.mo.map hC, SC⟩].length := by simp
  have hA : ∀ q ∈ SA, q ∈ x :: blksC [⟨a, 4, l.st.map sC, SA⟩, ⟨b, 6, l.ho.map hC, SB⟩, ⟨c, 6, l.mo.map hC, SC⟩] := fun q hq => List.mem_cons_of_mem _ (blksC_mem hi hq)
  refine ⟨a, SA, h1.rows 0 hi, hA, h1.x_not hi, fun w1 hk K => h1.rd hi hk, fun w1 L hk hr => ?_, fun w1 v' T' L hk hr hS K hK => ?_⟩
  · obtain ⟨g1, g2⟩ := h1.inplace hi hk hr
    refine ⟨⟨a, b, c, SA, SB, SC, g1, congrArg (x :: ·) g2.symm⟩, hnew, h.kp.trans hk fun q hq hlt => ?_⟩
    have := hnew q (hA q hq)
    omega
  · have hsz := h.kp.size
    refine h1.store hi hk hr hS fun w2 g1 g2 g3 g4 => hK w2 _ ⟨⟨v', b, c, T', SB, SC, g1, rfl⟩, fun q hq => ?_, h.kp.trans g2 fun q hq hlt => ?_⟩ (g2.mono fun q hq _ => ?_) g3 fun q hq => ?_
    · rcases List.mem_cons.1 hq with rfl | hq
      · exact hnew q (by simp)
      · rcases g4 q hq with hq | hq
        · exact hnew q (List.mem_cons_of_mem _ hq)
        · omega
    · rcases List.mem_cons.1 hq with rfl | hq
      · have := hnew q (by simp); omega
      · have := hnew q (hA q hq); omega
    · rcases List.mem_cons.1 hq with rfl | hq
      · simp
      · exact hA q hq
    · rcases List.mem_cons.1 hq with rfl | hq
      · exact .inl (by simp)
      · exact (g4 q hq).imp (fun hq => List.mem_cons_of_mem _ hq) id
theorem WorkAt.focusB (h : WorkAt w0 w x l S) : ∃ v T, RowsAt w v 6 (l.ho.map hC) T ∧ (∀ q ∈ T, q ∈ S) ∧ x ∉ T ∧ (∀ w1, Kp T w w1 → ∀ K : Value → Prop, ld1 (.pointer (some ⟨x, 1, none⟩)) w1 K = K v) ∧
    (∀ w1 (L : List HV), Kp T w w1 → RowsAt w1 v 6 (L.map hC) T → WorkAt w0 w1 x { l with ho := L } S) ∧
    ∀ w1 v' T' (L : List HV), Kp T w w1 → RowsAt w1 v' 6 (L.map hC) T' → (∀ q ∈ T', q ∈ T ∨ w.heap.size ≤ q) → ∀ K : World → Prop, (∀ w2 S', WorkAt w0 w2 x { l with ho := L } S' → Kp S w w2 → Kp [x] w1 w2 → (∀ q ∈ S', q ∈ S ∨ w.heap.size ≤ q) → K w2) → st1 (.pointer (some ⟨x, 1, none⟩)) v' w1 K := by
  have hnew := h.new
  obtain ⟨a, b, c, SA, SB, SC, h1, rfl⟩ := h.ex
  have hi : 1 < [(⟨a, 4, l.st.map sC, SA⟩ : Cmp), ⟨b, 6, l.ho.map hC, SB⟩, ⟨c, 6, l.mo.map hC, SC⟩].length := by simp
  have hA : ∀ q ∈ SB, q ∈ x :: blksC [⟨a, 4, l.st.map sC, SA⟩, ⟨b, 6, l.ho.map hC, SB⟩, ⟨c, 6, l.mo.map hC, SC⟩] := fun q hq => List.mem_cons_of_mem _ (blksC_mem hi hq)
  refine ⟨b, SB, h1.rows 1 hi, hA, h1.x_not hi, fun w1 hk K => h1.rd hi hk, fun w1 L hk hr => ?_, fun w1 v' T' L hk hr hS K hK => ?_⟩
  · obtain ⟨g1, g2⟩ := h1.inplace hi hk hr
    refine ⟨⟨a, b, c, SA, SB, SC, g1, congrArg (x :: ·) g2.symm⟩, hnew, h.kp.trans hk fun q hq hlt => ?_⟩
    have := hnew q (hA q hq)
    omega
  · have hsz := h.kp.size
    refine h1.store hi hk hr hS fun w2 g1 g2 g3 g4 => hK w2 _ ⟨⟨a, v', c, SA, T', SC, g1, rfl⟩, fun q hq => ?_, h.kp.trans g2 fun q hq hlt => ?_⟩ (g2.mono fun q hq _ => ?_) g3 fun q hq => ?_
    · rcases List.mem_cons.1 hq with rfl | hq
      · exact hnew q (by simp)
      · rcases g4 q hq with hq | hq
        · exact hnew q (List.mem_cons_of_mem _ hq)
        · omega
    · rcases List.mem_cons.1 hq with rfl | hq
      · have := hnew q (by simp); omega
      · have := hnew q (hA q hq); omega
    · rcases List.mem_cons.1 hq with rfl | hq
      · simp
      · exact hA q hq
    · rcases List.mem_cons.1 hq with rfl | hq
      · exact .inl (by simp)
      · exact (g4 q hq).imp (fun hq => List.mem_cons_of_mem _ hq) id
theorem WorkAt.focusC (h : WorkAt w0 w x l S) : ∃ v T, RowsAt w v 6 (l.mo.map hC) T ∧ (∀ q ∈ T, q ∈ S) ∧ x ∉ T ∧ (∀ w1, Kp T w w1 → ∀ K : Value → Prop, ld1 (.pointer (some ⟨x, 2, none⟩)) w1 K = K v) ∧
    (∀ w1 (L : List HV), Kp T w w1 → RowsAt w1 v 6 (L.map hC) T → WorkAt w0 w1 x { l with mo := L } S) ∧
    ∀ w1 v' T' (L : List HV), Kp T w w1 → RowsAt w1 v' 6 (L.map hC) T' → (∀ q ∈ T', q ∈ T ∨ w.heap.size ≤ q) → ∀ K : World → Prop, (∀ w2 S', WorkAt w0 w2 x { l with mo := L } S' → Kp S w w2 → Kp [x] w1 w2 → (∀ q ∈ S', q ∈ S ∨ w.heap.size ≤ q) → K w2) → st1 (.pointer (some ⟨x, 2, none⟩)) v' w1 K := by
  have hnew := h.new
  obtain ⟨a, b, c, SA, SB, SC, h1, rfl⟩ := h.ex
  have hi : 2 < [(⟨a, 4, l.st.map sC, SA⟩ : Cmp), ⟨b, 6, l.ho.map hC, SB⟩, ⟨c, 6, l.mo.map hC, SC⟩].length := by simp
  have hA : ∀ q ∈ SC, q ∈ x :: blksC [⟨a, 4, l.st.map sC, SA⟩, ⟨b, 6, l.ho.map hC, SB⟩, ⟨c, 6, l.mo.map hC, SC⟩] := fun q hq => List.mem_cons_of_mem _ (blksC_mem hi hq)
  refine ⟨c, SC, h1.rows 2 hi, hA, h1.x_not hi, fun w1 hk K => h1.rd hi hk, fun w1 L hk hr => ?_, fun w1 v' T' L hk hr hS K hK => ?_⟩
  · obtain ⟨g1, g2⟩ := h1.inplace hi hk hr
    refine ⟨⟨a, b, c, SA, SB, SC, g1, congrArg (x :: ·) g2.symm⟩, hnew, h.kp.trans hk fun q hq hlt => ?_⟩
    have := hnew q (hA q hq)
    omega
  · have hsz := h.kp.size
    refine h1.store hi hk hr hS fun w2 g1 g2 g3 g4 => hK w2 _ ⟨⟨a, b, v', SA, SB, T', g1, rfl⟩, fun q hq => ?_, h.kp.trans g2 fun q hq hlt => ?_⟩ (g2.mono fun q hq _ => ?_) g3 fun q hq => ?_
    · rcases List.mem_cons.1 hq with rfl | hq
      · exact hnew q (by simp)
      · rcases g4 q hq with hq | hq
        · exact hnew q (List.mem_cons_of_mem _ hq)
        · omega
    · rcases List.mem_cons.1 hq with rfl | hq
      · have := hnew q (by simp); omega
      · have := hnew q (hA q hq); omega
    · rcases List.mem_cons.1 hq with rfl | hq
      · simp
      · exact hA q hq
    · rcases List.mem_cons.1 hq with rfl | hq
      · exact .inl (by simp)
      · exact (g4 q hq).imp (fun hq => List.mem_cons_of_mem _ hq) id
end
end Go.Proofs

/- Layer 7: so many more at a place: turned, moved, more. -/
set_option linter.unusedVariables false
set_option linter.unusedSimpArgs false
namespace Go.Proofs
open Go Go.Q
theorem overl_stock (w : World) (ba oa la ca bb ob lb cb TA TB : Nat) (cA cB : Array Value) (hne : ba ≠ bb) (hA : w.heap[ba]? = some (.cells cA TA (0, 0))) (hB : w.heap[bb]? = some (.cells cB TB (0, 0))) (hcB : cB.size ≠ 0) (K : Value → World → Prop) (hK : K (.bool false) w) :
    nG Try.prog (callFunc 130 #[.slice (some ⟨ba, oa, none⟩) la ca, .slice (some ⟨bb, ob, none⟩) lb cb]) w K :=
  nG_over Try.func130 (by kernel_rfl) (by kernel_rfl) (by kernel_rfl) (tS := 56) (tR := 4) (by kernel_rfl) (e := 44) (by kernel_rfl) (n := 4) (by kernel_rfl) hne hA hB hcB hK
theorem Insert_stock {w : World} {v x : Value} {st : List SV} {s : SV} {S SX : List Nat} (h : RowsAt w v 4 (st.map sC) S) (hx : RowsAt w x 4 [sC s] SX) (hd : ∀ q ∈ SX, q ∉ S) (hl : st.length < 2 ^ 30) {p : Nat} (hp : p ≤ st.length)
    {R : Value → World → Prop} (hR : ∀ v' w' S', RowsAt w' v' 4 ((st.take p ++ [s] ++ st.drop p).map sC) S' → Kp S w w' → (∀ y ∈ S', y ∈ S ∨ w.heap.size ≤ y) → R v' w') : callG Try.prog 122 #[v, .int .i64 p, x] w R := by
  refine slices_Insert_api_Stock_api_Stock_call ?_
  have hone : (st.map sC).flatten.all one = true := by
    rw [List.all_eq_true]
    intro y hy
    obtain ⟨r, hr, hyr⟩ := List.mem_flatten.1 hy
    obtain ⟨s, _, rfl⟩ := List.mem_map.1 hr
    exact List.all_eq_true.1 (sC_one s) y hyr
  have := ins_spec (P := Try.prog) (I := 3) (T := 44) (k := 4) (bytes := 48) (ST := 56) (fO := 130) (fR := 131) (z := [.string (str []), .string (str []), .int .i64 0, .int .i64 0]) (i := (Try.prog.info? 44).getD default)
    (kd := .i64) (by kernel_rfl) (by kernel_rfl) (by kernel_rfl) (by kernel_rfl) (by kernel_rfl) (by kernel_rfl) (by kernel_rfl) (by omega) (by omega) (by omega) overl_stock h hx hd hone (sC_one s) (by simpa using hl) (p := p) (by simpa using hp) (R := R)
    (fun v' w' S' h' hk hS => hR v' w' S' (by simpa [List.map_take, List.map_drop] using h') hk hS)
  exact this
section
variable {w0 w : World} {x : Nat} {l : LV} {S : List Nat}
/-- the numbers of a stock that is there -/
theorem turned_s0 (h : WorkAt w0 w x l S) {k : Nat} (hk : k < l.st.length) (n m : Int) {R : Value → World → Prop}
    (hR : ∀ w', Kp S w w' → WorkAt w0 w' x { l with st := l.st.set k { l.st[k] with hand := w64i (l.st[k].hand + n), held := w64i (l.st[k].held + m) } } S → R (.tuple #[]) w') :
    ledger_work_turned_s0 R (.pointer (some ⟨x, 0, none⟩)) (.int .i64 n) (.int .i64 m) (.int .i64 k) w := by
  obtain ⟨a, T, r1, hT, hxT, hld, hin, _⟩ := h.focusA
  obtain ⟨bl, hbl, hia, hrd, hwr⟩ := r1.updM hk
  unfold ledger_work_turned_s0
  simp only [nk_p, fa_p, Nat.add_zero]
  rw [hld w (Kp.refl _ _), hia]
  simp only [fa_p]
  rw [hrd 2 (.int .i64 l.st[k].hand) rfl]
  simp only [bq_add]
  rw [hia]
  simp only [fa_p]
  refine hwr 2 (by omega) _ { l.st[k] with hand := w64i (l.st[k].hand + n) } rfl rfl _ fun w1 k1 r2 => ?_
  rw [hld w1 k1]
  have hk2 : k < (l.st.set k { l.st[k] with hand := w64i (l.st[k].hand + n) }).length := by simpa using hk
  obtain ⟨bl2, hbl2, hia2, hrd2, hwr2⟩ := r2.updM hk2
  have ebl : bl2 = bl := by rw [hbl] at hbl2; simpa using hbl2.symm
  subst ebl
  simp only [List.getElem_set_self] at hrd2 hwr2
  rw [hia]
  simp only [fa_p]
  rw [hrd2 3 (.int .i64 l.st[k].held) rfl]
  simp only [bq_add]
  rw [hia]
  simp only [fa_p]
  refine hwr2 3 (by omega) _ { l.st[k] with hand := w64i (l.st[k].hand + n), held := w64i (l.st[k].held + m) } rfl rfl _ fun w2 k2 r3 => ?_
  rw [List.set_set] at r3
  have k02 := k1.trans' k2
  exact hR w2 (k02.mono fun q hq _ => hT q hq) (hin w2 _ k02 r3)
theorem turned_spec (h : WorkAt w0 w x l S) (hs : Sorted l.st) (hl : l.st.length < 2 ^ 20) (sku loc : List UInt8) (n m : Int) {K : Value → World → Prop}
    (hK : ∀ w' S', WorkAt w0 w' x (turnL l sku loc n m) S' → Kp S w w' → (∀ q ∈ S', q ∈ S ∨ w.heap.size ≤ q) → K (.tuple #[]) w') :
    callG Try.prog 109 #[.pointer (some ⟨x, 0, none⟩), keyV sku loc, .int .i64 n, .int .i64 m] w K := by
  refine ledger_work_turned_call ?_
  unfold ledger_work_turned ledger_work_turned_s1
  refine argBox (cs := [.string (str sku), .string (str loc)]) fun p w1 hp hh1 hk1 => ?_
  have hlt := h.lt
  have h1 := (h.keep hk1).keep kp_drew
  have hpS : p ∉ S := fun hm => by have := hlt p hm; omega
  obtain ⟨a, T, r1, hT, hxT, hld, hin, hst⟩ := h1.focusA
  simp only [nk_p, fa_p, Nat.add_zero]
  rw [hld _ (Kp.refl _ _), ldPl (kp_drew.get hh1 (by simp))]
  refine index_spec hs ⟨T, .inr r1.rd⟩ (by omega) sku loc fun k w2 hk2 hkl hlow hhigh => ?_
  obtain ⟨hyes, hno⟩ := put_idx hs hkl hlow hhigh
  have h2 := h1.keep hk2
  have hh2 := hk2.get (kp_drew.get hh1 (by simp)) (by simp)
  have k02 := (hk1.trans' kp_drew).trans' hk2
  cases hc : (l.st.any fun s => atP s sku loc) with
  | true =>
    obtain ⟨hlt', e1, e2⟩ := hyes hc
    obtain ⟨q1, q2⟩ := findS_key l.st sku loc
    simp [-getElem?_pos, -Array.all_eq_true, -Array.getElem?_eq_getElem, -List.length_flatten, List.getElem?_cons_zero, List.getElem?_cons_succ, ]
    refine turned_s0 h2 hlt' n m fun w3 k3 h3 => hK w3 S ?_ ((k02.mono (by simp)).trans' k3) fun q hq => .inl hq
    have e : turnL l sku loc n m = { l with st := l.st.set k { l.st[k] with hand := w64i (l.st[k].hand + n), held := w64i (l.st[k].held + m) } } := by
      unfold turnL turnS
      rw [e2 { findS l.st sku loc with hand := w64i ((findS l.st sku loc).hand + n), held := w64i ((findS l.st sku loc).held + m) } q1 q2, e1]
    rw [e]
    exact h3
  | false =>
    obtain ⟨e1, e2⟩ := hno hc
    have h2d := h2.keep kp_drew
    have hh2d := kp_drew.get hh2 (by simp)
    obtain ⟨a, T, r1, hT, hxT, hld, hin, hst⟩ := h2d.focusA
    simp only [ex0, ex1, un_not, bV_b, Bool.not_false, true_implies, Bool.true_eq_false, false_implies, and_true, nk_p, fa_p, Nat.add_zero]
    rw [hld _ (Kp.refl _ _)]
    rw [ldF hh2d (j := 0) rfl, ldF hh2d (j := 1) rfl]
    simp [-getElem?_pos, -Array.all_eq_true, -Array.getElem?_eq_getElem, -List.length_flatten, List.getElem?_cons_zero, List.getElem?_cons_succ, zcStock, str_nil, bld_done, bld_if, offAt, putAt, -ld1_p, -st1_p]
    refine bsl_rowN (n := 4) (cs := sC ⟨sku, loc, 0, 0⟩) (by omega) (by rfl) rfl fun v3 w3 f3 => ?_
    rw [hld w3 (f3.kp.mono (by simp))]
    obtain ⟨SX, rx, hnx⟩ := f3.ex
    have r1' := r1.keep f3.kp (by simp)
    have hlT := r1.lt
    refine ⟨rfl, Insert_stock r1' rx (fun q hq hq' => ?_) (by omega) hkl fun v4 w4 T4 r4 k4 hT4 => ?_⟩
    · have := hnx q hq
      have := hlT q hq'
      omega
    have k24 : Kp T w2.drew w4 := (f3.kp.mono (by simp)).trans' k4
    have hs3 := f3.kp.size
    refine hst w4 v4 T4 _ k24 r4 (fun q hq => (hT4 q hq).imp id fun hh => by omega) _ fun w5 S5 h5 k5 k5x hS5 => ?_
    have hk' : k < (l.st.take k ++ [(⟨sku, loc, 0, 0⟩ : SV)] ++ l.st.drop k).length := by simp; omega
    have eg : (l.st.take k ++ [(⟨sku, loc, 0, 0⟩ : SV)] ++ l.st.drop k)[k] = ⟨sku, loc, 0, 0⟩ := by
      rw [List.getElem_append_left (by simp; omega), List.getElem_append_right (by simp; omega)]
      simp
    refine turned_s0 h5 hk' n m fun w6 k6 h6 => ?_
    have k05 : Kp S w w5 := (((k02.trans' kp_drew)).mono (by simp)).trans' k5
    have hsz := k02.size
    refine hK w6 S5 ?_ (k05.trans k6 fun q hq hlt' => ?_) fun q hq => (hS5 q hq).imp id fun hh => ?_
    · have e : turnL l sku loc n m = { l with st := (l.st.take k ++ [(⟨sku, loc, 0, 0⟩ : SV)] ++ l.st.drop k).set k ⟨sku, loc, w64i (0 + n), w64i (0 + m)⟩ } := by
        unfold turnL turnS
        rw [e1, e2 _ rfl rfl]
        congr 1
        rw [List.append_assoc, List.append_assoc, List.set_append_right _ _ (by simp; omega)]
        have : k - (List.take k l.st).length = 0 := by simp; omega
        rw [this]; rfl
      rw [e]
      have h6' := h6
      simp only [eg] at h6'
      exact h6'
    · rcases hS5 q hq with hh | hh
      · exact hh
      · have : w2.drew.heap.size = w2.heap.size := rfl
        omega
    · have : w2.drew.heap.size = w2.heap.size := rfl
      omega
end
end Go.Proofs

/- Layer 7: so many more at a place, and the movement; how many there would be. -/
set_option linter.unusedVariables false
set_option linter.unusedSimpArgs false
namespace Go.Proofs
open Go Go.Q
/-- one row more, of a call's own, behind rows -/
theorem rows_push {e k bytes : Nat} {z : List Value} {v y : Value} {w : World} {rows : List (List Value)} {r : List Value} {S : List Nat} (h : RowsAt w v k rows S) (hk : 0 < k) (hz : z.length = k) (hx : Rd w y k [r]) (hone : r.all one = true)
    (hb : bytes ≤ 2 ^ 10) (hl : rows.length < 2 ^ 30) {K : Value → World → Prop}
    (hK : ∀ v' w' S', RowsAt w' v' k (rows ++ [r]) S' → Kp S w w' → (∀ q ∈ S', q ∈ S ∨ w.heap.size ≤ q) → K v' w') : app e k bytes z.toArray v y w K := by
  have hr : r.length = k := hx.row (by simp)
  refine rows_app h hk hz (G := [r]) (by simpa using hr) (by simpa using hone) (fun K' hK' => hx.src K' hK') ?_ (by simp; omega) hK
  have : 2 * (rows.length + 1) * bytes ≤ 2 ^ 32 * 2 ^ 10 := Nat.mul_le_mul (by omega) hb
  simpa using Nat.le_trans this (by decide)
section
variable {w0 w : World} {x : Nat} {l : LV} {S : List Nat}
theorem moved_spec (h : WorkAt w0 w x l S) (hs : Sorted l.st) (hl : l.st.length < 2 ^ 20) (hlm : l.mo.length < 2 ^ 20) (sku loc : List UInt8) (n m : Int) (mv : HV) {K : Value → World → Prop}
    (hK : ∀ w' S', WorkAt w0 w' x (moveW l sku loc n m mv.st mv.due) S' → Kp S w w' → (∀ q ∈ S', q ∈ S ∨ w.heap.size ≤ q) → K (.tuple #[]) w') :
    callG Try.prog 108 #[.pointer (some ⟨x, 0, none⟩), keyV sku loc, .int .i64 n, .int .i64 m, hA mv] w K := by
  refine ledger_work_moved_call ?_
  unfold ledger_work_moved ledger_work_moved_s0
  have hlt := h.lt
  refine argBox (cs := [.string (str sku), .string (str loc)]) fun p w1 hp hh1 hk1 => ?_
  refine argBox (cs := hC mv) fun y w2 hy hh2 hk2 => ?_
  have hp2 := hk2.get hh1 (by simp)
  have h2 := (h.keep hk1).keep hk2
  have k02 := hk1.trans' hk2
  have hs1 := hk1.size
  have hs2 := hk2.size
  have hpl := lt_of_blk hh1
  have hpS : p ∉ S := fun hm => by have := hlt p hm; omega
  have hyS : y ∉ S := fun hm => by have := hlt y hm; omega
  have hpy : y ≠ p := by omega
  rw [ldPl hp2]
  refine turned_spec h2 hs hl sku loc n m fun w3 S3 h3 k3 hS3 => ?_
  have hlm3 : (turnL l sku loc n m).mo.length < 2 ^ 20 := hlm
  have hp3 := (k3.get hp2 hpS)
  have hy3 := (k3.get hh2 hyS)
  have h3d := h3.keep kp_drew
  have hp3d := kp_drew.get hp3 (by simp)
  have hy3d := kp_drew.get hy3 (by simp)
  have hpl2 := lt_of_blk hp2
  have hyl2 := lt_of_blk hh2
  have hp3S : p ∉ S3 := fun hm => by
    rcases hS3 p hm with e | e
    · exact hpS e
    · omega
  have hy3S : y ∉ S3 := fun hm => by
    rcases hS3 y hm with e | e
    · exact hyS e
    · omega
  obtain ⟨W, hW⟩ : ∃ W, W = w3.drew := ⟨_, rfl⟩
  have hWs : W.heap.size = w3.heap.size := by rw [hW]; rfl
  have hk3W : Kp [] w3 W := by rw [hW]; exact kp_drew
  rw [← hW] at h3d hp3d hy3d
  rw [← hW]
  obtain ⟨c, T, r1, hT, hxT, hld, hin, hst⟩ := h3d.focusC
  have hlr := r1.len
  obtain ⟨ca, cc, hcv, _⟩ := hlr
  have hlw : IntKind.i64.wrap ((l.mo.length : Int) + 1) = ((l.mo.length + 1 : Nat) : Int) := by rw [w64 (by omega) (by omega)]; simp
  simp only [nk_p, fa_p, Nat.add_zero, Nat.zero_add]
  rw [hld _ (Kp.refl _ _)]
  have hlen : ∀ K : Value → Prop, lenL c K = K (.int .i64 l.mo.length) := fun K => by rw [hcv, lenL_s]; simp [turnL]
  rw [hlen]
  simp only [bq_add, hlw]
  rw [ldF hp3d (j := 0) (x := .string (str sku)) rfl, ldF hp3d (j := 1) (x := .string (str loc)) rfl]
  have rp : ∀ o K, ∀ j v, ([.string (str sku), .string (str loc)] : List Value)[j]? = some v → ld1 (.pointer (some ⟨p, j, none⟩)) (setBlk W y o) K = K v := fun o K j v hj => ldF (c := [.string (str sku), .string (str loc)].toArray) (by rw [heap_ne hpy]; exact hp3d) (by simpa using hj)
  have ly := live_of hy3d
  rw [stF hy3d (by simp [hC]) rfl]
  rw [rp _ _ 1 (.string (str loc)) rfl, rp _ _ 0 (.string (str sku)) rfl]
  refine ⟨rfl, rfl, ?_⟩
  rw [stF (heap_self ly) (by simp [hC]) rfl, setBlk2, rp _ _ 1 (.string (str loc)) rfl]
  refine ⟨rfl, ?_⟩
  rw [stF (heap_self ly) (by simp [hC]) rfl, setBlk2, stF (heap_self ly) (by simp [hC]) rfl, setBlk2]
  obtain ⟨nv, hnv⟩ : ∃ nv : HV, nv = ⟨(l.mo.length + 1 : Nat), sku, loc, n, mv.st, mv.due⟩ := ⟨_, rfl⟩
  have hcells : (((((hC mv).toArray.setIfInBounds 0 (.int .i64 ((l.mo.length + 1 : Nat) : Int))).setIfInBounds 1 (.string (str sku))).setIfInBounds 2 (.string (str loc))).setIfInBounds 3 (.int .i64 n)) = (hC nv).toArray := by rw [hnv]; rfl
  rw [hcells]
  have kW : Kp [y] W (setBlk W y (.cells (hC nv).toArray 50)) := (Kp.refl _ _).setBlk (.inl (by simp)) _
  obtain ⟨W2, hW2⟩ : ∃ W2, W2 = (setBlk W y (.cells (hC nv).toArray 50)).drew := ⟨_, rfl⟩
  have kW2 : Kp [y] W W2 := by rw [hW2]; exact kW.drew
  have hyW2 : W2.heap[y]? = some (.cells (hC nv).toArray 50) := by rw [hW2]; exact heap_self ly
  rw [← hW2]
  have hyT : y ∉ T := fun hm => hy3S (hT y hm)
  have hWl := h3d.lt
  -- the ledger lies as it was
  have h4 : WorkAt w0 W2 x (turnL l sku loc n m) S3 := by
    obtain ⟨a', b', c', SA, SB, SC, g1, g2⟩ := h3d.ex
    have hs0 := h3d.kp.size
    refine ⟨⟨a', b', c', SA, SB, SC, g1.keepS kW2 (fun q hq => by rw [← g2] at hq; simp; intro e; exact hy3S (e ▸ hq)), g2⟩, h3d.new, h3d.kp.trans kW2 fun q hq hlt' => ?_⟩
    simp at hq
    have := h.kp.size
    omega
  obtain ⟨c2, T2, r2, hT2, hxT2, hld2, hin2, hst2⟩ := h4.focusC
  rw [hld2 _ (Kp.refl _ _), ldHold hyW2]
  refine bsl_rowN (n := 6) (cs := hC nv) (by omega) (by rfl) rfl fun v5 w5 f5 => ?_
  have k25 := f5.kp
  rw [hld2 _ (k25.mono (by simp))]
  refine ⟨rfl, ?_⟩
  rw [move_zc]
  refine rows_push (r2.keep k25 (by simp)) (by omega) rfl f5.rd rfl (by omega) (by simp; omega) fun v6 w6 T6 r6 k6 hT6 => ?_
  have k26 : Kp T2 W2 w6 := (k25.mono (by simp)).trans' k6
  have hs5 := k25.size
  refine hst2 w6 v6 T6 ((turnL l sku loc n m).mo ++ [nv]) k26 (by rw [List.map_append]; exact r6) (fun q hq => (hT6 q hq).imp id fun e => by omega) _ fun w7 S7 h7 k7 _ hS7 => ?_
  have hsW2 : W2.heap.size = w3.heap.size := by rw [hW2]; simp [hWs]
  have hs3 := k3.size
  refine hK w7 S7 (by rw [hnv] at h7; exact h7) ?_ fun q hq => ?_
  · have k3' : Kp S w w3 := (k02.mono (by simp)).trans' k3
    refine ((k3'.trans' (hk3W.mono (by simp))).trans kW2 fun q hq hlt' => ?_).trans k7 fun q hq hlt' => ?_
    · simp at hq; omega
    · rcases hS3 q hq with e | e
      · exact e
      · omega
  · rcases hS7 q hq with e | e
    · rcases hS3 q e with e | e
      · exact .inl e
      · exact .inr (by omega)
    · exact .inr (by omega)
end
end Go.Proofs

