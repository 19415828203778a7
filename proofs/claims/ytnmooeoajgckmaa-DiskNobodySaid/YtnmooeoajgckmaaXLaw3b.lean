/- Part of the proof (text XLaw3b): an engine, rules or contracts of the functions; it states nothing of the claim by itself. -/
import Derived.Test.YtnmooeoajgckmaaXLaw3
set_option linter.unusedVariables false
set_option linter.unusedSimpArgs false
namespace Go.Proofs
open Go Go.Q
set_option maxRecDepth 100000
/-! quayside/quaysidelaw03.DiskFuses -/
def law03_DiskFuses_s0 (R : Value → World → Prop) (x5 : Value) (w : World) : Prop :=
  callG Try.prog 17 #[x5, (.int .i64 0)] w fun t75 w =>
  qG Try.prog (Instr.extract t75 0) w fun t76 =>
  qG Try.prog (Instr.extract t75 1) w fun t77 =>
  qG Try.prog (bq .eql 24 (.tmp 78) (.const (.int .i64 30)) t77 (.int .i64 30)) w fun t79 =>
  callG Try.prog 26 #[x5] w fun t81 w =>
  qG Try.prog (bq .eql 4 (.tmp 79) (.tmp 81) t79 t81) w fun t82 =>
  bV t82
  (callG Try.prog 16 #[x5, (.slice none 0 0)] w fun t85 w =>
  qG Try.prog (bq .eql 24 (.tmp 85) (.const (.int .i64 0)) t85 (.int .i64 0)) w fun t86 =>
  bV t86
  (callG Try.prog 26 #[x5] w fun t90 w =>
  qG Try.prog (Op.unary .not t90) w fun t91 =>
  bV t91
  (callG Try.prog 18 #[] w fun t94 w =>
  R t94 w)
  (R (.bool false) w))
  (R (.bool false) w))
  (R (.bool false) w)

theorem law03_DiskFuses_s0_eq (R : Value → World → Prop) : ∀ e w, lift Try.prog 96 (sub (bodyOf Try.f5) [1, 1, 1, 1, 1]) (finK Try.prog Try.f5.results.toList R) e w = law03_DiskFuses_s0 R (e 5) w := fun e w => by kernel_rfl

def law03_DiskFuses_s1 (R : Value → World → Prop) (N1 : List Value → World → Prop) (x0 x5 x7 x8 : Value) (w : World) : Prop :=
  qG Try.prog (bq .add 3 (.tmp 42) (.const (.int .i64 1)) x8 (.int .i64 1)) w fun t43 =>
  N1 [x0, x5, x7, t43] w

theorem law03_DiskFuses_s1_eq (R : Value → World → Prop) (N1 : List Value → World → Prop) : ∀ e w, lift Try.prog 96 (sub (bodyOf Try.f5) [1, 1, 1, 1, 0, 1, 0, 0, 1, 1]) (seqK (fun e w => N1 [e 0, e 5, e 7, e 8] w) (blockK 0 (seqK (fun e w => law03_DiskFuses_s0 R (e 5) w) (finK Try.prog Try.f5.results.toList R)))) e w = law03_DiskFuses_s1 R N1 (e 0) (e 5) (e 7) (e 8) w := fun e w => by kernel_rfl

def law03_DiskFuses_s2 (R : Value → World → Prop) (N1 : List Value → World → Prop) (x0 x5 x7 x8 x9 x10 : Value) (w : World) : Prop :=
  qG Try.prog (bq .neq 24 (.tmp 59) (.tmp 60) x10 x9) w fun t61 =>
  bV t61
  (R (.bool false) w)
  (callG Try.prog 26 #[x5] w fun t64 w =>
  qG Try.prog (bq .eql 24 (.tmp 65) (.const (.int .i64 30)) x9 (.int .i64 30)) w fun t66 =>
  qG Try.prog (bq .neq 4 (.tmp 64) (.tmp 66) t64 t66) w fun t67 =>
  bV t67
  (R (.bool false) w)
  (qG Try.prog (bq .gtr 3 (.tmp 69) (.const (.int .i64 0)) x7 (.int .i64 0)) w fun t70 =>
  bV t70
  (qG Try.prog (bq .sub 3 (.tmp 71) (.const (.int .i64 1)) x7 (.int .i64 1)) w fun t72 =>
  law03_DiskFuses_s1 R N1 x0 x5 t72 x8 w)
  (law03_DiskFuses_s1 R N1 x0 x5 x7 x8 w)))

theorem law03_DiskFuses_s2_eq (R : Value → World → Prop) (N1 : List Value → World → Prop) : ∀ e w, lift Try.prog 96 (sub (bodyOf Try.f5) [1, 1, 1, 1, 0, 1, 0, 0, 1, 0, 0, 1, 1, 1, 1]) (blockK 1 (seqK (fun e w => law03_DiskFuses_s1 R N1 (e 0) (e 5) (e 7) (e 8) w) (seqK (fun e w => N1 [e 0, e 5, e 7, e 8] w) (blockK 0 (seqK (fun e w => law03_DiskFuses_s0 R (e 5) w) (finK Try.prog Try.f5.results.toList R)))))) e w = law03_DiskFuses_s2 R N1 (e 0) (e 5) (e 7) (e 8) (e 9) (e 10) w := fun e w => by kernel_rfl

def law03_DiskFuses_s3 (R : Value → World → Prop) (N1 : List Value → World → Prop) (x0 x5 x7 x8 x9 : Value) (w : World) : Prop :=
  qG Try.prog (bq .rem 3 (.tmp 46) (.const (.int .i64 6)) x8 (.int .i64 6)) w fun t47 =>
  qG Try.prog (bq .eql 3 (.tmp 47) (.const (.int .i64 5)) t47 (.int .i64 5)) w fun t48 =>
  bV t48
  (callG Try.prog 15 #[x5] w fun t50 w =>
  law03_DiskFuses_s2 R N1 x0 x5 x7 x8 x9 t50 w)
  (ia 1 x0 x8 fun t54 =>
  ld1 t54 (World.drew w) fun t55 =>
  qG Try.prog (bq .and 3 (.tmp 55) (.const (.int .i64 7)) t55 (.int .i64 7)) (World.drew w) fun t56 =>
  callG Try.prog 14 #[(.int .u8 120)] (World.drew w) fun t57 w =>
  stb Try.prog (bq .and 3 (.tmp 55) (.const (.int .i64 7)) t55 (.int .i64 7)) t56 w ∧
  ld1 t54 w (fun u => u = t55) ∧
  callG Try.prog 13 #[x5, t56, t57] w fun t58 w =>
  law03_DiskFuses_s2 R N1 x0 x5 x7 x8 x9 t58 w)

theorem law03_DiskFuses_s3_eq (R : Value → World → Prop) (N1 : List Value → World → Prop) : ∀ e w, lift Try.prog 96 (sub (bodyOf Try.f5) [1, 1, 1, 1, 0, 1, 0, 0, 1, 0, 0, 1, 1]) (blockK 1 (seqK (fun e w => law03_DiskFuses_s1 R N1 (e 0) (e 5) (e 7) (e 8) w) (seqK (fun e w => N1 [e 0, e 5, e 7, e 8] w) (blockK 0 (seqK (fun e w => law03_DiskFuses_s0 R (e 5) w) (finK Try.prog Try.f5.results.toList R)))))) e w = law03_DiskFuses_s3 R N1 (e 0) (e 5) (e 7) (e 8) (e 9) w :=
  segs_eq (l := [(sub (bodyOf Try.f5) [1, 1, 1, 1, 0, 1, 0, 0, 1, 0, 0, 1, 1, 0]), (sub (bodyOf Try.f5) [1, 1, 1, 1, 0, 1, 0, 0, 1, 0, 0, 1, 1, 1, 0])]) (y := (sub (bodyOf Try.f5) [1, 1, 1, 1, 0, 1, 0, 0, 1, 0, 0, 1, 1, 1, 1])) (Y := (fun e w => law03_DiskFuses_s2 R N1 (e 0) (e 5) (e 7) (e 8) (e 9) (e 10) w)) (law03_DiskFuses_s2_eq R N1) (fun e w => by kernel_rfl)

def law03_DiskFuses_s4 (R : Value → World → Prop) (N1 : List Value → World → Prop) (x0 x5 x7 x8 : Value) (w : World) : Prop :=
  qG Try.prog (bq .eql 3 (.tmp 44) (.const (.int .i64 0)) x7 (.int .i64 0)) w fun t45 =>
  bV t45
  (law03_DiskFuses_s3 R N1 x0 x5 x7 x8 (.int .i64 30) w)
  (law03_DiskFuses_s3 R N1 x0 x5 x7 x8 (.int .i64 0) w)

theorem law03_DiskFuses_s4_eq (R : Value → World → Prop) (N1 : List Value → World → Prop) : ∀ e w, lift Try.prog 96 (sub (bodyOf Try.f5) [1, 1, 1, 1, 0, 1, 0, 0, 1, 0, 0]) (blockK 1 (seqK (fun e w => law03_DiskFuses_s1 R N1 (e 0) (e 5) (e 7) (e 8) w) (seqK (fun e w => N1 [e 0, e 5, e 7, e 8] w) (blockK 0 (seqK (fun e w => law03_DiskFuses_s0 R (e 5) w) (finK Try.prog Try.f5.results.toList R)))))) e w = law03_DiskFuses_s4 R N1 (e 0) (e 5) (e 7) (e 8) w :=
  segs_eq (l := [(sub (bodyOf Try.f5) [1, 1, 1, 1, 0, 1, 0, 0, 1, 0, 0, 0]), (sub (bodyOf Try.f5) [1, 1, 1, 1, 0, 1, 0, 0, 1, 0, 0, 1, 0])]) (y := (sub (bodyOf Try.f5) [1, 1, 1, 1, 0, 1, 0, 0, 1, 0, 0, 1, 1])) (Y := (fun e w => law03_DiskFuses_s3 R N1 (e 0) (e 5) (e 7) (e 8) (e 9) w)) (law03_DiskFuses_s3_eq R N1) (fun e w => by kernel_rfl)

def law03_DiskFuses_s5 (R : Value → World → Prop) (N1 : List Value → World → Prop) (x0 x5 x7 x8 : Value) (w : World) : Prop :=
  lenL x0 fun t36 =>
  qG Try.prog (bq .lss 3 (.tmp 34) (.tmp 36) x8 t36) w fun t37 =>
  bV t37
  (qG Try.prog (bq .lss 3 (.tmp 39) (.const (.int .i64 30)) x8 (.int .i64 30)) w fun t40 =>
  bV t40
  (law03_DiskFuses_s4 R N1 x0 x5 x7 x8 w)
  (law03_DiskFuses_s0 R x5 w))
  (law03_DiskFuses_s0 R x5 w)

theorem law03_DiskFuses_s5_eq (R : Value → World → Prop) (N1 : List Value → World → Prop) : ∀ e w, lift Try.prog 96 (sub (bodyOf Try.f5) [1, 1, 1, 1, 0, 1, 0, 0]) (seqK (fun e w => N1 [e 0, e 5, e 7, e 8] w) (blockK 0 (seqK (fun e w => law03_DiskFuses_s0 R (e 5) w) (finK Try.prog Try.f5.results.toList R)))) e w = law03_DiskFuses_s5 R N1 (e 0) (e 5) (e 7) (e 8) w :=
  segs_eq (l := [(sub (bodyOf Try.f5) [1, 1, 1, 1, 0, 1, 0, 0, 0])]) (y := (sub (bodyOf Try.f5) [1, 1, 1, 1, 0, 1, 0, 0, 1])) (Y := (fun e w => law03_DiskFuses_s4 R N1 (e 0) (e 5) (e 7) (e 8) w)) (seq_seg (x := (sub (bodyOf Try.f5) [1, 1, 1, 1, 0, 1, 0, 0, 1, 0])) (y := (sub (bodyOf Try.f5) [1, 1, 1, 1, 0, 1, 0, 0, 1, 1])) (law03_DiskFuses_s1_eq R N1) (law03_DiskFuses_s4_eq R N1)) (fun e w => by kernel_rfl)

def law03_DiskFuses_L6F (R : Value → World → Prop) (N1 : List Value → World → Prop) (xs : List Value) (w : World) : Prop :=
  match xs with
  | [x0, x5, x7, x8] => law03_DiskFuses_s5 R N1 x0 x5 x7 x8 w
  | _ => False

def law03_DiskFuses_L6 (R : Value → World → Prop) (x0 x5 x7 x8 : Value) (w : World) : Prop :=
  ∃ m, loopV (law03_DiskFuses_L6F R) m [x0, x5, x7, x8] w

theorem law03_DiskFuses_L6_eq (R : Value → World → Prop) : ∀ e w, lift Try.prog 96 (sub (bodyOf Try.f5) [1, 1, 1, 1, 0, 1, 0]) (blockK 0 (seqK (fun e w => law03_DiskFuses_s0 R (e 5) w) (finK Try.prog Try.f5.results.toList R))) e w = law03_DiskFuses_L6 R (e 0) (e 5) (e 7) (e 8) w := loop_seg (F := law03_DiskFuses_L6F R) (sel := fun e => [e 0, e 5, e 7, e 8]) fun N1 => (law03_DiskFuses_s5_eq R N1)

def law03_DiskFuses_s7 (R : Value → World → Prop) (x0 x5 x7 : Value) (w : World) : Prop :=
  law03_DiskFuses_L6 R x0 x5 x7 (.int .i64 0) w

theorem law03_DiskFuses_s7_eq (R : Value → World → Prop) : ∀ e w, lift Try.prog 96 (sub (bodyOf Try.f5) [1, 1, 1, 1, 0]) (seqK (fun e w => law03_DiskFuses_s0 R (e 5) w) (finK Try.prog Try.f5.results.toList R)) e w = law03_DiskFuses_s7 R (e 0) (e 5) (e 7) w :=
  segs_eq (l := [(sub (bodyOf Try.f5) [1, 1, 1, 1, 0, 0])]) (y := (sub (bodyOf Try.f5) [1, 1, 1, 1, 0, 1])) (Y := (fun e w => law03_DiskFuses_L6 R (e 0) (e 5) (e 7) (e 8) w)) (law03_DiskFuses_L6_eq R) (fun e w => by kernel_rfl)

def law03_DiskFuses_s8 (R : Value → World → Prop) (x0 x1 x5 : Value) (w : World) : Prop :=
  qG Try.prog (bq .and 3 (.tmp 31) (.const (.int .i64 255)) x1 (.int .i64 255)) w fun t32 =>
  qG Try.prog (bq .rem 3 (.tmp 32) (.const (.int .i64 40)) t32 (.int .i64 40)) w fun t33 =>
  law03_DiskFuses_s7 R x0 x5 t33 w

theorem law03_DiskFuses_s8_eq (R : Value → World → Prop) : ∀ e w, lift Try.prog 96 (sub (bodyOf Try.f5) [1, 1, 1]) (finK Try.prog Try.f5.results.toList R) e w = law03_DiskFuses_s8 R (e 0) (e 1) (e 5) w :=
  segs_eq (l := [(sub (bodyOf Try.f5) [1, 1, 1, 0])]) (y := (sub (bodyOf Try.f5) [1, 1, 1, 1])) (Y := (fun e w => law03_DiskFuses_s7 R (e 0) (e 5) (e 7) w)) (seq_seg (x := (sub (bodyOf Try.f5) [1, 1, 1, 1, 0])) (y := (sub (bodyOf Try.f5) [1, 1, 1, 1, 1])) (law03_DiskFuses_s0_eq R) (law03_DiskFuses_s7_eq R)) (fun e w => by kernel_rfl)

def law03_DiskFuses_s9 (R : Value → World → Prop) (x0 x1 : Value) (w : World) : Prop :=
  callG Try.prog 12 #[(.int .i64 8)] w fun t14 w =>
  qG Try.prog (Instr.extract t14 0) w fun t15 =>
  qG Try.prog (Instr.extract t14 1) w fun t16 =>
  qG Try.prog (bq .neq 24 (.tmp 17) (.const (.int .i64 0)) t16 (.int .i64 0)) w fun t18 =>
  bV t18
  (R (.bool false) w)
  (qG Try.prog (bq .eql 23 (.tmp 20) (.const (.pointer none)) t15 (.pointer none)) w fun t21 =>
  bV t21
  (R (.bool false) w)
  (qG Try.prog (bq .and 3 (.tmp 25) (.const (.int .i64 255)) x1 (.int .i64 255)) w fun t26 =>
  qG Try.prog (bq .rem 3 (.tmp 26) (.const (.int .i64 40)) t26 (.int .i64 40)) w fun t27 =>
  callG Try.prog 23 #[t15, t27] w fun t28 w =>
  qG Try.prog (bq .neq 24 (.tmp 28) (.const (.int .i64 0)) t28 (.int .i64 0)) w fun t29 =>
  bV t29
  (R (.bool false) w)
  (law03_DiskFuses_s8 R x0 x1 t15 w)))

theorem law03_DiskFuses_s9_eq (R : Value → World → Prop) : ∀ e w, lift Try.prog 96 (bodyOf Try.f5) (finK Try.prog Try.f5.results.toList R) e w = law03_DiskFuses_s9 R (e 0) (e 1) w :=
  segs_eq (l := [(sub (bodyOf Try.f5) [0]), (sub (bodyOf Try.f5) [1, 0]), (sub (bodyOf Try.f5) [1, 1, 0])]) (y := (sub (bodyOf Try.f5) [1, 1, 1])) (Y := (fun e w => law03_DiskFuses_s8 R (e 0) (e 1) (e 5) w)) (law03_DiskFuses_s8_eq R) (fun e w => by kernel_rfl)

def law03_DiskFuses (R : Value → World → Prop) (x0 x1 : Value) (w : World) : Prop := law03_DiskFuses_s9 R x0 x1 w
theorem law03_DiskFuses_call {R : Value → World → Prop} {x0 x1 : Value} {w : World} (h : law03_DiskFuses R x0 x1 w) : callG Try.prog 5 #[x0, x1] w R :=
  calls_lift_eq Try.mixed Try.func5 (args := [x0, x1]) rfl rfl rfl rfl ((law03_DiskFuses_s9_eq R) (envOf [x0, x1]) w) (by kernel_rfl) h
/-! quayside/quaysidelaw03.DiskNobody -/
def law03_DiskNobody_s0 (R : Value → World → Prop) (w : World) : Prop :=
  callG Try.prog 18 #[] w fun t91 w =>
  R t91 w

theorem law03_DiskNobody_s0_eq (R : Value → World → Prop) : ∀ e w, lift Try.prog 92 (sub (bodyOf Try.f6) [1, 1, 1]) (finK Try.prog Try.f6.results.toList R) e w = law03_DiskNobody_s0 R w := fun e w => by kernel_rfl

def law03_DiskNobody_b1 (R : Value → World → Prop) (N1 : List Value → World → Prop) (x0 x1 x5 x6 : Value) (w : World) : Prop :=
  lenL x5 fun t14 =>
  qG Try.prog (bq .lss 3 (.tmp 12) (.tmp 14) x6 t14) w fun t15 =>
  bV t15
  (ia 1 x5 x6 fun t21 =>
  ld1 t21 w fun t22 =>
  callG Try.prog 17 #[t22, x0] w fun t24 w =>
  qG Try.prog (Instr.extract t24 0) w fun t25 =>
  qG Try.prog (Instr.extract t24 1) w fun t26 =>
  ia 1 x5 x6 fun t29 =>
  ld1 t29 w fun t30 =>
  callG Try.prog 28 #[t30] w fun t31 w =>
  qG Try.prog (bq .neq 3 (.tmp 31) (.const (.int .i64 0)) t31 (.int .i64 0)) w fun t32 =>
  bV t32
  (R (.bool false) w)
  (ia 1 x5 x6 fun t36 =>
  ld1 t36 w fun t37 =>
  callG Try.prog 13 #[t37, x0, x1] w fun t40 w =>
  qG Try.prog (bq .neq 24 (.tmp 40) (.const (.int .i64 1)) t40 (.int .i64 1)) w fun t41 =>
  bV t41
  (R (.bool false) w)
  (qG Try.prog (bq .neq 9 (.tmp 44) (.const (.string ⟨#[]⟩)) t25 (.string ⟨#[]⟩)) w fun t45 =>
  bV t45
  (R (.bool false) w)
  (qG Try.prog (bq .neq 24 (.tmp 48) (.const (.int .i64 1)) t26 (.int .i64 1)) w fun t49 =>
  bV t49
  (R (.bool false) w)
  (ia 1 x5 x6 fun t54 =>
  ld1 t54 w fun t55 =>
  callG Try.prog 15 #[t55] w fun t56 w =>
  qG Try.prog (bq .neq 24 (.tmp 56) (.const (.int .i64 1)) t56 (.int .i64 1)) w fun t57 =>
  bV t57
  (R (.bool false) w)
  (ia 1 x5 x6 fun t62 =>
  ld1 t62 w fun t63 =>
  callG Try.prog 27 #[t63] w fun t64 w =>
  qG Try.prog (bq .neq 3 (.tmp 64) (.const (.int .i64 0)) t64 (.int .i64 0)) w fun t65 =>
  bV t65
  (R (.bool false) w)
  (ia 1 x5 x6 fun t70 =>
  ld1 t70 w fun t71 =>
  callG Try.prog 23 #[t71, x0] w fun t73 w =>
  qG Try.prog (bq .neq 24 (.tmp 73) (.const (.int .i64 1)) t73 (.int .i64 1)) w fun t74 =>
  bV t74
  (R (.bool false) w)
  (ia 1 x5 x6 fun t79 =>
  ld1 t79 w fun t80 =>
  callG Try.prog 26 #[t80] w fun t81 w =>
  bV t81
  (R (.bool false) w)
  (ia 1 x5 x6 fun t86 =>
  ld1 t86 w fun t87 =>
  callG Try.prog 16 #[t87, (.slice none 0 0)] w fun t88 w =>
  qG Try.prog (bq .neq 24 (.tmp 88) (.const (.int .i64 1)) t88 (.int .i64 1)) w fun t89 =>
  bV t89
  (R (.bool false) w)
  (qG Try.prog (bq .add 3 (.tmp 16) (.const (.int .i64 1)) x6 (.int .i64 1)) w fun t17 =>
  N1 [x0, x1, x5, t17] w))))))))))
  (law03_DiskNobody_s0 R  w)

theorem law03_DiskNobody_b1_eq (R : Value → World → Prop) (N1 : List Value → World → Prop) : ∀ e w, lift Try.prog 92 (sub (bodyOf Try.f6) [1, 1, 0, 1, 0, 0]) (seqK (fun e w => N1 [e 0, e 1, e 5, e 6] w) (blockK 0 (seqK (fun e w => law03_DiskNobody_s0 R  w) (finK Try.prog Try.f6.results.toList R)))) e w = law03_DiskNobody_b1 R N1 (e 0) (e 1) (e 5) (e 6) w := fun e w => by kernel_rfl

def law03_DiskNobody_L2F (R : Value → World → Prop) (N1 : List Value → World → Prop) (xs : List Value) (w : World) : Prop :=
  match xs with
  | [x0, x1, x5, x6] => law03_DiskNobody_b1 R N1 x0 x1 x5 x6 w
  | _ => False

def law03_DiskNobody_L2 (R : Value → World → Prop) (x0 x1 x5 x6 : Value) (w : World) : Prop :=
  ∃ m, loopV (law03_DiskNobody_L2F R) m [x0, x1, x5, x6] w

theorem law03_DiskNobody_L2_eq (R : Value → World → Prop) : ∀ e w, lift Try.prog 92 (sub (bodyOf Try.f6) [1, 1, 0, 1, 0]) (blockK 0 (seqK (fun e w => law03_DiskNobody_s0 R  w) (finK Try.prog Try.f6.results.toList R))) e w = law03_DiskNobody_L2 R (e 0) (e 1) (e 5) (e 6) w := loop_seg (F := law03_DiskNobody_L2F R) (sel := fun e => [e 0, e 1, e 5, e 6]) fun N1 => (law03_DiskNobody_b1_eq R N1)

def law03_DiskNobody_s3 (R : Value → World → Prop) (x0 x1 x5 : Value) (w : World) : Prop :=
  law03_DiskNobody_L2 R x0 x1 x5 (.int .i64 0) w

theorem law03_DiskNobody_s3_eq (R : Value → World → Prop) : ∀ e w, lift Try.prog 92 (sub (bodyOf Try.f6) [1, 1, 0]) (seqK (fun e w => law03_DiskNobody_s0 R  w) (finK Try.prog Try.f6.results.toList R)) e w = law03_DiskNobody_s3 R (e 0) (e 1) (e 5) w :=
  segs_eq (l := [(sub (bodyOf Try.f6) [1, 1, 0, 0])]) (y := (sub (bodyOf Try.f6) [1, 1, 0, 1])) (Y := (fun e w => law03_DiskNobody_L2 R (e 0) (e 1) (e 5) (e 6) w)) (law03_DiskNobody_L2_eq R) (fun e w => by kernel_rfl)

def law03_DiskNobody_s4 (R : Value → World → Prop) (x0 x1 : Value) (w : World) : Prop :=
  bld [(0, 1), (1, 1), (2, 1), (3, 1), (4, 1)] (zc Try.prog 56) #[] fun t9 =>
  newG (Value.cells t9) 56 w fun t10 w =>
  bsl 23 1 2 (zc Try.prog 23) #[(0, (.pointer none)), (1, t10)] w fun t11 w =>
  law03_DiskNobody_s3 R x0 x1 t11 w

theorem law03_DiskNobody_s4_eq (R : Value → World → Prop) : ∀ e w, lift Try.prog 92 (bodyOf Try.f6) (finK Try.prog Try.f6.results.toList R) e w = law03_DiskNobody_s4 R (e 0) (e 1) w :=
  segs_eq (l := [(sub (bodyOf Try.f6) [0]), (sub (bodyOf Try.f6) [1, 0])]) (y := (sub (bodyOf Try.f6) [1, 1])) (Y := (fun e w => law03_DiskNobody_s3 R (e 0) (e 1) (e 5) w)) (seq_seg (x := (sub (bodyOf Try.f6) [1, 1, 0])) (y := (sub (bodyOf Try.f6) [1, 1, 1])) (law03_DiskNobody_s0_eq R) (law03_DiskNobody_s3_eq R)) (fun e w => by kernel_rfl)

def law03_DiskNobody (R : Value → World → Prop) (x0 x1 : Value) (w : World) : Prop := law03_DiskNobody_s4 R x0 x1 w
theorem law03_DiskNobody_call {R : Value → World → Prop} {x0 x1 : Value} {w : World} (h : law03_DiskNobody R x0 x1 w) : callG Try.prog 6 #[x0, x1] w R :=
  calls_lift_eq Try.mixed Try.func6 (args := [x0, x1]) rfl rfl rfl rfl ((law03_DiskNobody_s4_eq R) (envOf [x0, x1]) w) (by kernel_rfl) h
end Go.Proofs
