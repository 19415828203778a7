/- Part of the proof (R3): an engine, rules or contracts of the functions; it states nothing of the claim by itself. -/
import Derived.Test.YthalloeiidpfeaaGreatR2
import Derived.Test.YthalloeiidpfeaaGreatR1
import Derived.Laws.Append
import Derived.ChangeArms
import Derived.DataReads
import Derived.Laws.StructEq
import Derived.Lib.Builder
import Derived.Laws.Externs
import Derived.Lib.UnsafeStr

set_option linter.unusedVariables false
set_option linter.unusedSimpArgs false
namespace Go.Proofs
open Go Go.Q Tryz
set_option maxRecDepth 100000
def Fn89_s0 (R : KW) (x0 : Value) (w : World) : Prop :=
 newG (Value.cells x0) 26 w fun t1 w =>
 fa 0 t1 fun t3 =>
 ld1 t3 w fun t4 =>
 lenL t4 fun t5 =>
 qG prog (bq .leq 3 (.tmp 5) (.const (.int .i64 30)) t5 (.int .i64 30)) w fun t6 =>
 bV t6
 (fa 1 t1 fun t8 =>
 ld1 t8 w fun t9 =>
 lenL t9 fun t10 =>
 qG prog (bq .leq 3 (.tmp 10) (.const (.int .i64 30)) t10 (.int .i64 30)) w fun t11 =>
 bV t11
 (fa 2 t1 fun t14 =>
 ld1 t14 w fun t15 =>
 lenL t15 fun t16 =>
 qG prog (bq .leq 3 (.tmp 16) (.const (.int .i64 60)) t16 (.int .i64 60)) w fun t17 =>
 R t17 w)
 (R (.bool false) w))
 (R (.bool false) w)
theorem Fn89_s0_eq (R : KW) : ∀ e w, liK 19 (bodyOf f6) (fiK f6 R) e w = Fn89_s0 R (e 0) w := fun e w => by kernel_rfl
def Fn89 (R : KW) (x0 : Value) (w : World) : Prop := Fn89_s0 R x0 w
theorem Fn89_call {R : KW} {x0 : Value} {w : World} (h : Fn89 R x0 w) : callG prog 6 #[x0] w R :=
 calls_lift_eq mixed func6 (args := [x0]) rfl rfl rfl rfl ((Fn89_s0_eq R) (envOf [x0]) w) (by kernel_rfl) h
def Fn97_s0 (R : KW) (x0 x1 : Value) (w : World) : Prop :=
 callG prog 73 #[x1] w fun t9 w =>
 qG prog (Instr.extract t9 0) w fun t10 =>
 qG prog (Instr.extract t9 1) w fun t11 =>
 qG prog (bq .add 9 (.tmp 12) (.tmp 13) x0 t10) w fun t14 =>
 R t14 w
theorem Fn97_s0_eq (R : KW) : ∀ e w, liK 15 (bodyOf f29) (fiK f29 R) e w = Fn97_s0 R (e 0) (e 1) w := fun e w => by kernel_rfl
def Fn97 (R : KW) (x0 x1 : Value) (w : World) : Prop := Fn97_s0 R x0 x1 w
theorem Fn97_call {R : KW} {x0 x1 : Value} {w : World} (h : Fn97 R x0 x1 w) : callG prog 29 #[x0, x1] w R :=
 calls_lift_eq mixed func29 (args := [x0, x1]) rfl rfl rfl rfl ((Fn97_s0_eq R) (envOf [x0, x1]) w) (by kernel_rfl) h
def Fn96_s0 (R : KW) (x1 x4 : Value) (w : World) : Prop :=
 fa 3 x1 fun t63 =>
 ld1 t63 w fun t64 =>
 bld [(0, 1), (1, 1), (2, 1)] (zc prog 76) #[(0, (.int .i64 1)), (1, t64)] fun t65 =>
 bsl 76 3 1 (zc prog 76) #[(0, t65)] w fun t66 w =>
 callG prog 29 #[(.string ⟨#[69]⟩), t66] w fun t67 w =>
 bsl 9 1 1 (zc prog 9) #[(0, t67)] w fun t68 w =>
 app 9 1 16 (zc prog 9) x4 t68 w fun t69 w =>
 R (.tuple #[t69, (.int .i64 0)]) w
theorem Fn96_s0_eq (R : KW) : ∀ e w, liK 70 (sbK f9 [1, 1, 1, 1, 1, 1]) (fiK f9 R) e w = Fn96_s0 R (e 1) (e 4) w := fun e w => by kernel_rfl
def Fn96_b1 (R : KW) (N1 : KL) (x1 x4 x7 : Value) (w : World) : Prop :=
 fa 2 x1 fun t46 =>
 ld1 t46 w fun t47 =>
 lenL t47 fun t48 =>
 qG prog (bq .lss 3 (.tmp 45) (.tmp 48) x7 t48) w fun t49 =>
 bV t49
 (fa 2 x1 fun t53 =>
 ld1 t53 w fun t54 =>
 ia 6 t54 x7 fun t56 =>
 ldn 6 t56 w fun t57 =>
 callG prog 32 #[t57] w fun t58 w =>
 callG prog 29 #[(.string ⟨#[77]⟩), t58] w fun t59 w =>
 bsl 9 1 1 (zc prog 9) #[(0, t59)] w fun t60 w =>
 app 9 1 16 (zc prog 9) x4 t60 w fun t61 w =>
 qG prog (bq .add 3 (.tmp 50) (.const (.int .i64 1)) x7 (.int .i64 1)) w fun t51 =>
 N1 [x1, t61, t51] w)
 (Fn96_s0 R x1 x4 w)
theorem Fn96_b1_eq (R : KW) (N1 : KL) : ∀ e w, liK 70 (sbK f9 [1, 1, 1, 1, 1, 0, 1, 0, 0]) (seqK (fun e w => N1 [e 1, e 4, e 7] w) (blockK 4 (seqK (fun e w => Fn96_s0 R (e 1) (e 4) w) (fiK f9 R)))) e w = Fn96_b1 R N1 (e 1) (e 4) (e 7) w := fun e w => by kernel_rfl
def Fn96_L2F (R : KW) (N1 : KL) (xs : List Value) (w : World) : Prop :=
 match xs with
 | [x1, x4, x7] => Fn96_b1 R N1 x1 x4 x7 w
 | _ => False
def Fn96_L2 (R : KW) (x1 x4 x7 : Value) (w : World) : Prop :=
 ∃ m, loopV (Fn96_L2F R) m [x1, x4, x7] w
theorem Fn96_L2_eq (R : KW) : ∀ e w, liK 70 (sbK f9 [1, 1, 1, 1, 1, 0, 1, 0]) (blockK 4 (seqK (fun e w => Fn96_s0 R (e 1) (e 4) w) (fiK f9 R))) e w = Fn96_L2 R (e 1) (e 4) (e 7) w := loop_seg (F := Fn96_L2F R) (sel := fun e => [e 1, e 4, e 7]) fun N1 => (Fn96_b1_eq R N1)
def Fn96_s3 (R : KW) (x1 x4 : Value) (w : World) : Prop :=
 Fn96_L2 R x1 x4 (.int .i64 0) w
theorem Fn96_s3_eq (R : KW) : ∀ e w, liK 70 (sbK f9 [1, 1, 1, 1, 1, 0]) (seqK (fun e w => Fn96_s0 R (e 1) (e 4) w) (fiK f9 R)) e w = Fn96_s3 R (e 1) (e 4) w :=
 segs_eq (l := [(sbK f9 [1, 1, 1, 1, 1, 0, 0])]) (y := (sbK f9 [1, 1, 1, 1, 1, 0, 1])) (Y := (fun e w => Fn96_L2 R (e 1) (e 4) (e 7) w)) (Fn96_L2_eq R) (fun e w => by kernel_rfl)
def Fn96_b4 (R : KW) (N1 : KL) (x1 x4 x6 : Value) (w : World) : Prop :=
 fa 1 x1 fun t29 =>
 ld1 t29 w fun t30 =>
 lenL t30 fun t31 =>
 qG prog (bq .lss 3 (.tmp 28) (.tmp 31) x6 t31) w fun t32 =>
 bV t32
 (fa 1 x1 fun t36 =>
 ld1 t36 w fun t37 =>
 ia 6 t37 x6 fun t39 =>
 ldn 6 t39 w fun t40 =>
 callG prog 31 #[t40] w fun t41 w =>
 callG prog 29 #[(.string ⟨#[72]⟩), t41] w fun t42 w =>
 bsl 9 1 1 (zc prog 9) #[(0, t42)] w fun t43 w =>
 app 9 1 16 (zc prog 9) x4 t43 w fun t44 w =>
 qG prog (bq .add 3 (.tmp 33) (.const (.int .i64 1)) x6 (.int .i64 1)) w fun t34 =>
 N1 [x1, t44, t34] w)
 (Fn96_s3 R x1 x4 w)
theorem Fn96_b4_eq (R : KW) (N1 : KL) : ∀ e w, liK 70 (sbK f9 [1, 1, 1, 1, 0, 1, 0, 0]) (seqK (fun e w => N1 [e 1, e 4, e 6] w) (blockK 2 (seqK (fun e w => Fn96_s3 R (e 1) (e 4) w) (fiK f9 R)))) e w = Fn96_b4 R N1 (e 1) (e 4) (e 6) w := fun e w => by kernel_rfl
def Fn96_L5F (R : KW) (N1 : KL) (xs : List Value) (w : World) : Prop :=
 match xs with
 | [x1, x4, x6] => Fn96_b4 R N1 x1 x4 x6 w
 | _ => False
def Fn96_L5 (R : KW) (x1 x4 x6 : Value) (w : World) : Prop :=
 ∃ m, loopV (Fn96_L5F R) m [x1, x4, x6] w
theorem Fn96_L5_eq (R : KW) : ∀ e w, liK 70 (sbK f9 [1, 1, 1, 1, 0, 1, 0]) (blockK 2 (seqK (fun e w => Fn96_s3 R (e 1) (e 4) w) (fiK f9 R))) e w = Fn96_L5 R (e 1) (e 4) (e 6) w := loop_seg (F := Fn96_L5F R) (sel := fun e => [e 1, e 4, e 6]) fun N1 => (Fn96_b4_eq R N1)
def Fn96_s6 (R : KW) (x1 x4 : Value) (w : World) : Prop :=
 Fn96_L5 R x1 x4 (.int .i64 0) w
theorem Fn96_s6_eq (R : KW) : ∀ e w, liK 70 (sbK f9 [1, 1, 1, 1, 0]) (seqK (fun e w => Fn96_s3 R (e 1) (e 4) w) (fiK f9 R)) e w = Fn96_s6 R (e 1) (e 4) w :=
 segs_eq (l := [(sbK f9 [1, 1, 1, 1, 0, 0])]) (y := (sbK f9 [1, 1, 1, 1, 0, 1])) (Y := (fun e w => Fn96_L5 R (e 1) (e 4) (e 6) w)) (Fn96_L5_eq R) (fun e w => by kernel_rfl)
def Fn96_b7 (R : KW) (N1 : KL) (x1 x4 x5 : Value) (w : World) : Prop :=
 fa 0 x1 fun t12 =>
 ld1 t12 w fun t13 =>
 lenL t13 fun t14 =>
 qG prog (bq .lss 3 (.tmp 11) (.tmp 14) x5 t14) w fun t15 =>
 bV t15
 (fa 0 x1 fun t19 =>
 ld1 t19 w fun t20 =>
 ia 4 t20 x5 fun t22 =>
 ldn 4 t22 w fun t23 =>
 callG prog 30 #[t23] w fun t24 w =>
 callG prog 29 #[(.string ⟨#[83]⟩), t24] w fun t25 w =>
 bsl 9 1 1 (zc prog 9) #[(0, t25)] w fun t26 w =>
 app 9 1 16 (zc prog 9) x4 t26 w fun t27 w =>
 qG prog (bq .add 3 (.tmp 16) (.const (.int .i64 1)) x5 (.int .i64 1)) w fun t17 =>
 N1 [x1, t27, t17] w)
 (Fn96_s6 R x1 x4 w)
theorem Fn96_b7_eq (R : KW) (N1 : KL) : ∀ e w, liK 70 (sbK f9 [1, 1, 1, 0, 1, 0, 0]) (seqK (fun e w => N1 [e 1, e 4, e 5] w) (blockK 0 (seqK (fun e w => Fn96_s6 R (e 1) (e 4) w) (fiK f9 R)))) e w = Fn96_b7 R N1 (e 1) (e 4) (e 5) w := fun e w => by kernel_rfl
def Fn96_L8F (R : KW) (N1 : KL) (xs : List Value) (w : World) : Prop :=
 match xs with
 | [x1, x4, x5] => Fn96_b7 R N1 x1 x4 x5 w
 | _ => False
def Fn96_L8 (R : KW) (x1 x4 x5 : Value) (w : World) : Prop :=
 ∃ m, loopV (Fn96_L8F R) m [x1, x4, x5] w
theorem Fn96_L8_eq (R : KW) : ∀ e w, liK 70 (sbK f9 [1, 1, 1, 0, 1, 0]) (blockK 0 (seqK (fun e w => Fn96_s6 R (e 1) (e 4) w) (fiK f9 R))) e w = Fn96_L8 R (e 1) (e 4) (e 5) w := loop_seg (F := Fn96_L8F R) (sel := fun e => [e 1, e 4, e 5]) fun N1 => (Fn96_b7_eq R N1)
def Fn96_s9 (R : KW) (x1 x4 : Value) (w : World) : Prop :=
 Fn96_L8 R x1 x4 (.int .i64 0) w
theorem Fn96_s9_eq (R : KW) : ∀ e w, liK 70 (sbK f9 [1, 1, 1, 0]) (seqK (fun e w => Fn96_s6 R (e 1) (e 4) w) (fiK f9 R)) e w = Fn96_s9 R (e 1) (e 4) w :=
 segs_eq (l := [(sbK f9 [1, 1, 1, 0, 0])]) (y := (sbK f9 [1, 1, 1, 0, 1])) (Y := (fun e w => Fn96_L8 R (e 1) (e 4) (e 5) w)) (Fn96_L8_eq R) (fun e w => by kernel_rfl)
def Fn96_s10 (R : KW) (x0 : Value) (w : World) : Prop :=
 newG (Value.cells x0) 26 w fun t1 w =>
 ldn 4 t1 w fun t8 =>
 callG prog 28 #[t8] w fun t9 w =>
 qG prog (Op.unary .not t9) w fun t10 =>
 bV t10
 (R (.tuple #[(.slice none 0 0), (.int .i64 1)]) w)
 (Fn96_s9 R t1 (.slice none 0 0) w)
theorem Fn96_s10_eq (R : KW) : ∀ e w, liK 70 (bodyOf f9) (fiK f9 R) e w = Fn96_s10 R (e 0) w :=
 segs_eq (l := [(sbK f9 [0]), (sbK f9 [1, 0]), (sbK f9 [1, 1, 0])]) (y := (sbK f9 [1, 1, 1])) (Y := (fun e w => Fn96_s9 R (e 1) (e 4) w)) (seq_seg (x := (sbK f9 [1, 1, 1, 0])) (y := (sbK f9 [1, 1, 1, 1])) (seq_seg (x := (sbK f9 [1, 1, 1, 1, 0])) (y := (sbK f9 [1, 1, 1, 1, 1])) (seq_seg (x := (sbK f9 [1, 1, 1, 1, 1, 0])) (y := (sbK f9 [1, 1, 1, 1, 1, 1])) (Fn96_s0_eq R) (Fn96_s3_eq R)) (Fn96_s6_eq R)) (Fn96_s9_eq R)) (fun e w => by kernel_rfl)
def Fn96 (R : KW) (x0 : Value) (w : World) : Prop := Fn96_s10 R x0 w
theorem Fn96_call {R : KW} {x0 : Value} {w : World} (h : Fn96 R x0 w) : callG prog 9 #[x0] w R :=
 calls_lift_eq mixed func9 (args := [x0]) rfl rfl rfl rfl ((Fn96_s10_eq R) (envOf [x0]) w) (by kernel_rfl) h
def Fn47_s0 (R : KW) (x0 : Value) (w : World) : Prop :=
 newG (zc prog 42) 42 w fun t2 w =>
 bld [(0, 1), (1, 1), (2, 1), (3, 1), (4, 1), (5, 1), (6, 1)] (zc prog 42) #[(0, (.int .i64 1)), (1, (.string ⟨#[115]⟩)), (2, (.string ⟨#[120]⟩)), (4, x0)] fun t4 =>
 stn 7 t2 t4 w fun w =>
 qG prog (do loadVar 42 (← asAddr t2)) w fun r2 =>
 R r2 w
theorem Fn47_s0_eq (R : KW) : ∀ e w, liK 5 (bodyOf f20) (fiK f20 R) e w = Fn47_s0 R (e 0) w := fun e w => by kernel_rfl
def Fn47 (R : KW) (x0 : Value) (w : World) : Prop := Fn47_s0 R x0 w
theorem Fn47_call {R : KW} {x0 : Value} {w : World} (h : Fn47 R x0 w) : callG prog 20 #[x0] w R :=
 calls_lift_eq mixed func20 (args := [x0]) rfl rfl rfl rfl ((Fn47_s0_eq R) (envOf [x0]) w) (by kernel_rfl) h
def Fn46_s0 (R : KW) (x1 : Value) (w : World) : Prop :=
 callG prog 11 #[x1] w fun t50 w =>
 qG prog (Instr.extract t50 0) w fun t51 =>
 qG prog (Instr.extract t50 1) w fun t52 =>
 qG prog (bq .eql 30 (.tmp 53) (.const (.int .i64 0)) t52 (.int .i64 0)) w fun t54 =>
 bV t54
 (qG prog (bq .neq 37 (.tmp 56) (.const (.pointer none)) t51 (.pointer none)) w fun t57 =>
 bV t57
 (callG prog 13 #[t51] w fun t61 w =>
 callG prog 17 #[t61, (.string ⟨#[115]⟩), (.string ⟨#[120]⟩)] w fun t62 w =>
 fld false 2 1 t62 fun t63 =>
 qG prog (bq .eql 3 (.tmp 63) (.const (.int .i64 5)) t63 (.int .i64 5)) w fun t64 =>
 bV t64
 (callG prog 16 #[t51] w fun t68 w =>
 qG prog (bq .eql 3 (.tmp 68) (.const (.int .i64 2)) t68 (.int .i64 2)) w fun t69 =>
 bV t69
 (callG prog 13 #[t51] w fun t73 w =>
 fld false 2 1 t73 fun t74 =>
 lenL t74 fun t75 =>
 qG prog (bq .eql 3 (.tmp 75) (.const (.int .i64 1)) t75 (.int .i64 1)) w fun t76 =>
 R t76 w)
 (R (.bool false) w))
 (R (.bool false) w))
 (R (.bool false) w))
 (R (.bool false) w)
theorem Fn46_s0_eq (R : KW) : ∀ e w, liK 78 (sbK f7 [1, 1, 1, 1]) (fiK f7 R) e w = Fn46_s0 R (e 1) w := fun e w => by kernel_rfl
def Fn46_s1 (R : KW) (w : World) : Prop :=
 callG prog 10 #[(.int .i64 40)] w fun t8 w =>
 qG prog (Instr.extract t8 0) w fun t9 =>
 qG prog (Instr.extract t8 1) w fun t10 =>
 callG prog 11 #[t9] w fun t13 w =>
 qG prog (Instr.extract t13 0) w fun t14 =>
 qG prog (Instr.extract t13 1) w fun t15 =>
 qG prog (bq .neq 30 (.tmp 16) (.const (.int .i64 0)) t10 (.int .i64 0)) w fun t17 =>
 bV t17
 (R (.bool false) w)
 (qG prog (bq .neq 30 (.tmp 19) (.const (.int .i64 0)) t15 (.int .i64 0)) w fun t20 =>
 bV t20
 (R (.bool false) w)
 (qG prog (bq .eql 37 (.tmp 23) (.const (.pointer none)) t14 (.pointer none)) w fun t24 =>
 bV t24
 (R (.bool false) w)
 (callG prog 20 #[(.int .i64 5)] w fun t28 w =>
 callG prog 12 #[t14, t28] w fun t29 w =>
 qG prog (bq .neq 30 (.tmp 29) (.const (.int .i64 0)) t29 (.int .i64 0)) w fun t30 =>
 bV t30
 (R (.bool false) w)
 (callG prog 19 #[t14] w fun t34 w =>
 qG prog (bq .neq 30 (.tmp 34) (.const (.int .i64 0)) t34 (.int .i64 0)) w fun t35 =>
 bV t35
 (R (.bool false) w)
 (callG prog 20 #[(.int .i64 2)] w fun t39 w =>
 callG prog 12 #[t14, t39] w fun t40 w =>
 qG prog (bq .neq 30 (.tmp 40) (.const (.int .i64 0)) t40 (.int .i64 0)) w fun t41 =>
 bV t41
 (R (.bool false) w)
 (callG prog 21 #[t9, (.slice none 0 0)] w fun t45 w =>
 qG prog (bq .neq 30 (.tmp 45) (.const (.int .i64 0)) t45 (.int .i64 0)) w fun t46 =>
 bV t46
 (R (.bool false) w)
 (Fn46_s0 R t9 w)))))))
theorem Fn46_s1_eq (R : KW) : ∀ e w, liK 78 (bodyOf f7) (fiK f7 R) e w = Fn46_s1 R w :=
 segs_eq (l := [(sbK f7 [0]), (sbK f7 [1, 0]), (sbK f7 [1, 1, 0]), (sbK f7 [1, 1, 1, 0])]) (y := (sbK f7 [1, 1, 1, 1])) (Y := (fun e w => Fn46_s0 R (e 1) w)) (Fn46_s0_eq R) (fun e w => by kernel_rfl)
def Fn46 (R : KW) (w : World) : Prop := Fn46_s1 R  w
theorem Fn46_call {R : KW} {w : World} (h : Fn46 R w) : callG prog 7 #[] w R :=
 calls_lift_eq mixed func7 (args := []) rfl rfl rfl rfl ((Fn46_s1_eq R) (envOf []) w) (by kernel_rfl) h
def Fn45_s0 (R : KW) (w : World) : Prop :=
 callG prog 7 #[] w fun t47 w =>
 R t47 w
theorem Fn45_s0_eq (R : KW) : ∀ e w, liK 48 (sbK f3 [1, 1, 1, 1, 1, 1]) (fiK f3 R) e w = Fn45_s0 R w := fun e w => by kernel_rfl
def Fn45_b1 (R : KW) (N1 : KL) (x3 x5 x7 : Value) (w : World) : Prop :=
 lenL x3 fun t34 =>
 qG prog (bq .lss 3 (.tmp 32) (.tmp 34) x7 t34) w fun t35 =>
 bV t35
 (ia 1 x3 x7 fun t40 =>
 ld1 t40 (World.drew w) fun t41 =>
 ia 1 x5 x7 fun t44 =>
 ld1 t44 (World.drew w) fun t45 =>
 qG prog (bq .neq 9 (.tmp 41) (.tmp 45) t41 t45) (World.drew w) fun t46 =>
 bV t46
 (R (.bool false) (World.drew w))
 (qG prog (bq .add 3 (.tmp 36) (.const (.int .i64 1)) x7 (.int .i64 1)) (World.drew w) fun t37 =>
 N1 [x3, x5, t37] (World.drew w)))
 (Fn45_s0 R  w)
theorem Fn45_b1_eq (R : KW) (N1 : KL) : ∀ e w, liK 48 (sbK f3 [1, 1, 1, 1, 1, 0, 1, 0, 0]) (seqK (fun e w => N1 [e 3, e 5, e 7] w) (blockK 0 (seqK (fun e w => Fn45_s0 R  w) (fiK f3 R)))) e w = Fn45_b1 R N1 (e 3) (e 5) (e 7) w := fun e w => by kernel_rfl
def Fn45_L2F (R : KW) (N1 : KL) (xs : List Value) (w : World) : Prop :=
 match xs with
 | [x3, x5, x7] => Fn45_b1 R N1 x3 x5 x7 w
 | _ => False
def Fn45_L2 (R : KW) (x3 x5 x7 : Value) (w : World) : Prop :=
 ∃ m, loopV (Fn45_L2F R) m [x3, x5, x7] w
theorem Fn45_L2_eq (R : KW) : ∀ e w, liK 48 (sbK f3 [1, 1, 1, 1, 1, 0, 1, 0]) (blockK 0 (seqK (fun e w => Fn45_s0 R  w) (fiK f3 R))) e w = Fn45_L2 R (e 3) (e 5) (e 7) w := loop_seg (F := Fn45_L2F R) (sel := fun e => [e 3, e 5, e 7]) fun N1 => (Fn45_b1_eq R N1)
def Fn45_s3 (R : KW) (x3 x5 : Value) (w : World) : Prop :=
 Fn45_L2 R x3 x5 (.int .i64 0) w
theorem Fn45_s3_eq (R : KW) : ∀ e w, liK 48 (sbK f3 [1, 1, 1, 1, 1, 0]) (seqK (fun e w => Fn45_s0 R  w) (fiK f3 R)) e w = Fn45_s3 R (e 3) (e 5) w :=
 segs_eq (l := [(sbK f3 [1, 1, 1, 1, 1, 0, 0])]) (y := (sbK f3 [1, 1, 1, 1, 1, 0, 1])) (Y := (fun e w => Fn45_L2 R (e 3) (e 5) (e 7) w)) (Fn45_L2_eq R) (fun e w => by kernel_rfl)
def Fn45_s4 (R : KW) (x0 : Value) (w : World) : Prop :=
 newG (Value.cells x0) 26 w fun t1 w =>
 ldn 4 t1 w fun t8 =>
 callG prog 6 #[t8] w fun t9 w =>
 qG prog (Op.unary .not t9) w fun t10 =>
 bV t10
 (callG prog 7 #[] w fun t11 w =>
 R t11 w)
 (ldn 4 t1 w fun t13 =>
 callG prog 8 #[t13] w fun t14 w =>
 qG prog (Instr.extract t14 0) w fun t15 =>
 qG prog (Instr.extract t14 1) w fun t16 =>
 ldn 4 t1 w fun t18 =>
 callG prog 9 #[t18] w fun t19 w =>
 qG prog (Instr.extract t19 0) w fun t20 =>
 qG prog (Instr.extract t19 1) w fun t21 =>
 qG prog (bq .neq 30 (.tmp 22) (.tmp 23) t16 t21) w fun t24 =>
 bV t24
 (R (.bool false) w)
 (lenL t15 fun t27 =>
 lenL t20 fun t29 =>
 qG prog (bq .neq 3 (.tmp 27) (.tmp 29) t27 t29) w fun t30 =>
 bV t30
 (R (.bool false) w)
 (Fn45_s3 R t15 t20 w)))
theorem Fn45_s4_eq (R : KW) : ∀ e w, liK 48 (bodyOf f3) (fiK f3 R) e w = Fn45_s4 R (e 0) w :=
 segs_eq (l := [(sbK f3 [0]), (sbK f3 [1, 0]), (sbK f3 [1, 1, 0]), (sbK f3 [1, 1, 1, 0]), (sbK f3 [1, 1, 1, 1, 0])]) (y := (sbK f3 [1, 1, 1, 1, 1])) (Y := (fun e w => Fn45_s3 R (e 3) (e 5) w)) (seq_seg (x := (sbK f3 [1, 1, 1, 1, 1, 0])) (y := (sbK f3 [1, 1, 1, 1, 1, 1])) (Fn45_s0_eq R) (Fn45_s3_eq R)) (fun e w => by kernel_rfl)
def Fn45 (R : KW) (x0 : Value) (w : World) : Prop := Fn45_s4 R x0 w
theorem Fn45_call {R : KW} {x0 : Value} {w : World} (h : Fn45 R x0 w) : callG prog 3 #[x0] w R :=
 calls_lift_eq mixed func3 (args := [x0]) rfl rfl rfl rfl ((Fn45_s4_eq R) (envOf [x0]) w) (by kernel_rfl) h
end Go.Proofs

set_option linter.unusedVariables false
set_option linter.unusedSimpArgs false
namespace Go.Q
theorem flat_len {α : Type} {k : Nat} : ∀ {F : List (List α)}, (∀ x ∈ F, x.length = k) → F.flatten.length = F.length * k := by
  intro F
  induction F with
  | nil => intro _; simp
  | cons x r ih =>
    intro h
    rw [List.flatten_cons, List.length_append, ih fun y hy => h y (by simp [hy]), h x (by simp), List.length_cons, Nat.succ_mul]; omega
theorem flat_drop {α : Type} {k : Nat} : ∀ {F : List (List α)} (i : Nat), (∀ x ∈ F, x.length = k) → F.flatten.drop (i * k) = (F.drop i).flatten := by
  intro F
  induction F with
  | nil => intro i _; simp
  | cons x r ih =>
    intro i h
    cases i with
    | zero => simp
    | succ i =>
      have hx := h x (by simp)
      rw [List.flatten_cons, List.drop_succ_cons, ← ih i fun y hy => h y (by simp [hy])]
      have e : (i + 1) * k = k + i * k := by rw [Nat.succ_mul]; omega
      rw [e, ← List.drop_drop, ← hx, List.drop_left]
theorem flat_take {α : Type} {k : Nat} : ∀ {F : List (List α)} (i : Nat), (∀ x ∈ F, x.length = k) → F.flatten.take (i * k) = (F.take i).flatten := by
  intro F
  induction F with
  | nil => intro i _; simp
  | cons x r ih =>
    intro i h
    cases i with
    | zero => simp
    | succ i =>
      have hx := h x (by simp)
      rw [List.flatten_cons, List.take_succ_cons, List.flatten_cons, ← ih i fun y hy => h y (by simp [hy])]
      rw [List.take_append, hx, Nat.succ_mul, List.take_of_length_le (by omega)]
      congr 2; omega
theorem flat_get {α : Type} {k : Nat} {F : List (List α)} {i : Nat} (h : ∀ x ∈ F, x.length = k) (hi : i < F.length) : (F.flatten.drop (i * k)).take k = F[i] := by
  rw [flat_drop i h, List.drop_eq_getElem_cons hi, List.flatten_cons]
  rw [List.take_append_of_le_length (by rw [h _ (List.getElem_mem hi)]; omega)]
  rw [List.take_of_length_le (by rw [h _ (List.getElem_mem hi)]; omega)]
theorem flat_splice {α : Type} {k : Nat} {F : List (List α)} {i : Nat} (h : ∀ x ∈ F, x.length = k) (hi : i < F.length) {pre : List α} (hp : pre.length ≤ k) :
    F.flatten.take (i * k) ++ pre ++ F.flatten.drop (i * k + pre.length) = (F.set i (pre ++ (F[i]).drop pre.length)).flatten := by
  have hF : F.drop i = F[i] :: F.drop (i + 1) := List.drop_eq_getElem_cons hi
  rw [flat_take i h, ← List.drop_drop, flat_drop i h, hF, List.flatten_cons]
  rw [List.drop_append_of_le_length (by rw [h _ (List.getElem_mem hi)]; omega)]
  rw [List.set_eq_take_append_cons_drop, if_pos hi, List.flatten_append, List.flatten_cons]
  simp
theorem flat_splice_many {α : Type} {k : Nat} {F G : List (List α)} {i : Nat} (h : ∀ x ∈ F, x.length = k) (hG : ∀ x ∈ G, x.length = k) (_hi : i + G.length ≤ F.length) :
    F.flatten.take (i * k) ++ G.flatten ++ F.flatten.drop (i * k + G.flatten.length) = (F.take i ++ G ++ F.drop (i + G.length)).flatten := by
  rw [flat_take i h, flat_len hG, ← Nat.add_mul, flat_drop _ h]
  simp
def u8c (l : List UInt8) : List Value := l.map fun c => .int .u8 c.toNat
@[simp] theorem u8c_len (l : List UInt8) : (u8c l).length = l.length := by simp [u8c]
theorem u8c_take (l : List UInt8) (n : Nat) : (u8c l).take n = u8c (l.take n) := by simp [u8c]
theorem u8c_drop (l : List UInt8) (n : Nat) : (u8c l).drop n = u8c (l.drop n) := by simp [u8c]
theorem u8c_append (l m : List UInt8) : u8c (l ++ m) = u8c l ++ u8c m := by simp [u8c]
theorem bytesOf_u8c (l : List UInt8) : bytesOf (u8c l) = some l := by
  induction l with
  | nil => rfl
  | cons c r ih =>
    show (bytesOf (u8c r)).map _ = _
    rw [ih]
    simp
theorem one_u8c (l : List UInt8) : (u8c l).toArray.all one = true := by
  rw [List.all_toArray, List.all_eq_true]
  intro v hv
  unfold u8c at hv
  rw [List.mem_map] at hv
  obtain ⟨c, _, rfl⟩ := hv
  rfl
theorem u8s_eq (s : ByteArray) : u8s s = (u8c s.data.toList).toArray := by
  unfold u8s u8c
  apply Array.toList_inj.1
  simp
theorem splice_list (c : List Value) (o : Nat) (vs : List Value) : splice c.toArray o vs.toArray = (c.take o ++ vs ++ c.drop (o + vs.length)).toArray := by
  simp [splice]
theorem extract_list {α : Type} (c : List α) (o n : Nat) : (c.toArray).extract o (o + n) = ((c.drop o).take n).toArray := by
  simp
def str (l : List UInt8) : ByteArray := ⟨l.toArray⟩
@[simp] theorem str_data (l : List UInt8) : (str l).data.toList = l := rfl
@[simp] theorem str_size (l : List UInt8) : (str l).size = l.length := by simp [str, ByteArray.size]
theorem str_of (s : ByteArray) : str s.data.toList = s := by cases s; simp [str]
theorem str_inj {l m : List UInt8} : str l = str m ↔ l = m := by
  constructor
  · intro h; have := congrArg (fun s : ByteArray => s.data.toList) h; simpa using this
  · intro h; rw [h]
@[simp] theorem str_eq (l m : List UInt8) : (str l = str m) = (l = m) := propext str_inj
@[simp] theorem str_append (l m : List UInt8) : str l ++ str m = str (l ++ m) := by
  have : (str l ++ str m).data.toList = l ++ m := by simp [str, ByteArray.data_append]
  rw [← str_of (str l ++ str m), this]
theorem str_extract (l : List UInt8) (i j : Nat) : (str l).extract i j = str ((l.take j).drop i) := by
  have : ((str l).extract i j).data.toList = (l.take j).drop i := by
    simp [str, ByteArray.data_extract, List.drop_take]
  rw [← str_of ((str l).extract i j), this]
end Go.Q

set_option linter.unusedVariables false
set_option linter.unusedSimpArgs false
namespace Go.Q
def RowsAt (w : World) (v : Value) (k : Nat) (rows : List (List Value)) (S : List Nat) : Prop :=
  (v = .slice none 0 0 ∧ rows = [] ∧ S = []) ∨
  ∃ (bl : Nat) (F : List (List Value)) (T : Nat), v = .slice (some ⟨bl, 0, none⟩) rows.length F.length ∧ S = [bl] ∧ w.heap[bl]? = some (.cells F.flatten.toArray T (0, 0)) ∧ (∀ x ∈ F, x.length = k) ∧ F.take rows.length = rows ∧ rows.length ≤ F.length
theorem RowsAt.keep {w w' : World} {v : Value} {k : Nat} {rows : List (List Value)} {S S' : List Nat} (h : RowsAt w v k rows S) (hk : Kp S' w w') (hd : ∀ x ∈ S, x ∉ S') : RowsAt w' v k rows S := by
  rcases h with h | ⟨bl, F, T, h1, h2, h3, h4, h5, h6⟩
  · exact .inl h
  · subst h2
    exact .inr ⟨bl, F, T, h1, rfl, hk.get h3 (hd bl (by simp)), h4, h5, h6⟩
theorem RowsAt.len {w : World} {v : Value} {k : Nat} {rows : List (List Value)} {S : List Nat} (h : RowsAt w v k rows S) : ∃ a c, v = .slice a rows.length c ∧ rows.length ≤ c := by
  rcases h with ⟨h1, h2, h3⟩ | ⟨bl, F, T, h1, h2, h3, h4, h5, h6⟩
  · exact ⟨none, 0, by rw [h1, h2]; rfl, by simp [h2]⟩
  · exact ⟨_, _, h1, h6⟩
theorem RowsAt.row {w : World} {v : Value} {k : Nat} {rows : List (List Value)} {S : List Nat} (h : RowsAt w v k rows S) {x : List Value} (hx : x ∈ rows) : x.length = k := by
  rcases h with ⟨h1, h2, h3⟩ | ⟨bl, F, T, h1, h2, h3, h4, h5, h6⟩
  · rw [h2] at hx; cases hx
  · rw [← h5] at hx; exact h4 x (List.mem_of_mem_take hx)
theorem RowsAt.nodup {w : World} {v : Value} {k : Nat} {rows : List (List Value)} {S : List Nat} (h : RowsAt w v k rows S) : S.Nodup := by
  rcases h with ⟨h1, h2, h3⟩ | ⟨bl, F, T, h1, h2, h3⟩
  · rw [h3]; simp
  · rw [h2]; simp
theorem RowsAt.lt {w : World} {v : Value} {k : Nat} {rows : List (List Value)} {S : List Nat} (h : RowsAt w v k rows S) : ∀ x ∈ S, x < w.heap.size := by
  rcases h with ⟨h1, h2, h3⟩ | ⟨bl, F, T, h1, h2, h3, h4⟩
  · rw [h3]; simp
  · rw [h2]; simp; exact live_of h3
theorem next_le {need old : Nat} (h : old < need) : Builtin.nextslicecap need old ≤ 2 * need := nextslicecap_le h
theorem rows_app {e k bytes : Nat} {z : List Value} {v x : Value} {w : World} {rows G : List (List Value)} {S : List Nat} (h : RowsAt w v k rows S) (hk : 0 < k) (hz : z.length = k)
    (hG : ∀ y ∈ G, y.length = k) (hone : G.flatten.all one = true) (hsrc : ∀ K' : Nat → Array Value → Prop, K' G.length G.flatten.toArray → srcA k x w K')
    (hb : 2 * (rows.length + G.length) * bytes ≤ 2 ^ 48) (hb2 : rows.length + G.length < 2 ^ 62) {K : KW}
    (hK : ∀ v' w' S', RowsAt w' v' k (rows ++ G) S' → Kp S w w' → (∀ y ∈ S', y ∈ S ∨ w.heap.size ≤ y) → K v' w') : app e k bytes z.toArray v x w K := by
  have grow : ∀ (old : Array Value) (cap : Nat) , old = rows.flatten.toArray → (∀ y ∈ rows, y.length = k) → rows.length + G.length ≤ cap →
      K (.slice (some ⟨w.heap.size, 0, none⟩) (rows.length + G.length) cap) (w.drew.alloc (.cells (old ++ G.flatten.toArray ++ rep z.toArray ((cap - (rows.length + G.length)) * k)) e)) := by
    intro old cap hold hr hc
    have hF : (old ++ G.flatten.toArray ++ rep z.toArray ((cap - (rows.length + G.length)) * k)) = (rows ++ G ++ List.replicate (cap - (rows.length + G.length)) z).flatten.toArray := by
      rw [hold]
      have : rep z.toArray ((cap - (rows.length + G.length)) * k) = (List.replicate (cap - (rows.length + G.length)) z).flatten.toArray := by
        apply Array.ext
        · simp [rep, hz]
        · intro i h1 h2
          have hi : i < (cap - (rows.length + G.length)) * k := by simpa [rep] using h1
          simp only [rep, Array.getElem_map, Array.getElem_range, List.size_toArray, hz]
          have hm : i % k < k := Nat.mod_lt _ hk
          have hd : i / k < cap - (rows.length + G.length) := (Nat.div_lt_iff_lt_mul hk).2 hi
          have hfl : ((List.replicate (cap - (rows.length + G.length)) z).flatten.drop ((i / k) * k)).take k = z := by
            rw [flat_get (k := k) (by intro x hx; rw [List.mem_replicate] at hx; rw [hx.2, hz]) (by simpa using hd)]
            simp
          have hidx : i / k * k + i % k = i := by rw [Nat.mul_comm]; exact Nat.div_add_mod i k
          have e2 := congrArg (fun l => l[i % k]?) hfl
          simp only [List.getElem?_take_of_lt hm, List.getElem?_drop, hidx] at e2
          have h2' : i < (List.replicate (cap - (rows.length + G.length)) z).flatten.length := by simpa using h2
          rw [List.getElem?_eq_getElem h2', List.getElem?_eq_getElem (by omega)] at e2
          injection e2 with e2
          rw [List.getElem_toArray, e2]
          simp [hz, hm]
      rw [this]; simp
    refine hK _ _ [w.heap.size] (.inr ⟨w.heap.size, rows ++ G ++ List.replicate (cap - (rows.length + G.length)) z, e, ?_, rfl, ?_, ?_, ?_, ?_⟩) ((Kp.refl _ _).drew.alloc _) (by simp)
    · simp; omega
    · rw [← hF]; exact heap_new
    · intro y hy
      rw [List.mem_append, List.mem_append] at hy
      rcases hy with (hy | hy) | hy
      · exact hr y hy
      · exact hG y hy
      · rw [List.mem_replicate] at hy; rw [hy.2, hz]
    · rw [List.take_left]
    · simp
  have hrow : ∀ y ∈ rows, y.length = k := fun y hy => h.row hy
  unfold app
  rcases h with ⟨h1, h2, h3⟩ | ⟨bl, F, T, h1, h2, h3, h4, h5, h6⟩
  · subst h1; subst h3
    rw [h2] at hb hb2 hK grow
    simp only [List.length_nil, Nat.zero_add] at hb hb2 grow ⊢
    refine hsrc _ ⟨fun hle => ?_, fun hlt => ⟨⟨?_, by omega⟩, fun cap hc _ => grow #[] cap rfl (by simp) hc⟩⟩
    · have hG0 : G = [] := List.length_eq_zero_iff.1 (by omega)
      rw [hG0]
      exact hK _ w [] (.inl ⟨rfl, by simp [hG0], rfl⟩) (Kp.refl _ _) (by simp)
    · have := next_le hlt
      calc _ ≤ (2 * G.length) * bytes := Nat.mul_le_mul_right _ this
        _ ≤ _ := hb
  · subst h1; subst h2
    refine hsrc _ ⟨fun hle => ?_, fun hlt => ⟨⟨?_, by omega⟩, ?_⟩⟩
    · simp only [wrO, add_mk, wrN_mk, h3, okFr0, true_and, Nat.zero_add, List.size_toArray]
      have hfl := flat_len h4
      have hgl := flat_len hG
      have hsp := flat_splice_many (i := rows.length) h4 hG (by omega)
      refine ⟨⟨?_, by simpa using hone⟩, ?_⟩
      · rw [hfl, hgl, ← Nat.add_mul]; exact Nat.mul_le_mul_right _ hle
      · have hF' : splice F.flatten.toArray (rows.length * k) G.flatten.toArray = (F.take rows.length ++ G ++ F.drop (rows.length + G.length)).flatten.toArray := by
          rw [splice_list, hsp]
        rw [hF']
        refine hK _ _ [bl] (.inr ⟨bl, F.take rows.length ++ G ++ F.drop (rows.length + G.length), T, ?_, rfl, heap_self (live_of h3), ?_, ?_, ?_⟩) ((Kp.refl _ _).setBlk (.inl (by simp)) _) (fun y hy => .inl hy)
        · have : (F.take rows.length ++ G ++ F.drop (rows.length + G.length)).length = F.length := by simp; omega
          rw [this]; simp
        · intro y hy
          rw [List.mem_append, List.mem_append] at hy
          rcases hy with (hy | hy) | hy
          · exact h4 y (List.mem_of_mem_take hy)
          · exact hG y hy
          · exact h4 y (List.mem_of_mem_drop hy)
        · rw [h5, List.take_left]
        · simp; omega
    · have := next_le hlt
      calc _ ≤ (2 * (rows.length + G.length)) * bytes := Nat.mul_le_mul_right _ this
        _ ≤ _ := hb
    · simp only [base, rdN_mk, h3, Nat.zero_add, List.size_toArray]
      have hfl := flat_len h4
      refine ⟨by rw [hfl]; exact Nat.mul_le_mul_right _ h6, fun cap hc _ => grow _ cap ?_ hrow hc⟩
      have := extract_list F.flatten 0 (rows.length * k)
      rw [Nat.zero_add] at this
      rw [this, List.drop_zero, flat_take _ h4, h5]
theorem RowsAt.at {w : World} {v : Value} {k : Nat} {rows : List (List Value)} {S : List Nat} (h : RowsAt w v k rows S) {i : Nat} (hi : i < rows.length) :
    ∃ bl T c, bl ∈ S ∧ w.heap[bl]? = some (.cells c T (0, 0)) ∧ (∀ kd K, ia k v (.int kd i) K = K (.pointer (some ⟨bl, i * k, none⟩))) ∧ i * k + k ≤ c.size ∧ c.extract (i * k) (i * k + k) = rows[i].toArray ∧
      ∀ j, j < k → c[i * k + j]? = rows[i][j]? := by
  rcases h with ⟨h1, h2, h3⟩ | ⟨bl, F, T, h1, h2, h3, h4, h5, h6⟩
  · rw [h2] at hi; cases hi
  · have hiF : i < F.length := by omega
    have hrow : F[i] = rows[i] := by
      have e : rows[i]? = F[i]? := by rw [← h5, List.getElem?_take_of_lt (by omega)]
      rw [List.getElem?_eq_getElem hi, List.getElem?_eq_getElem hiF] at e
      injection e with e
      exact e.symm
    have hfl := flat_len h4
    have hget := flat_get h4 hiF
    have hle : i * k + k ≤ F.flatten.length := by rw [hfl, ← Nat.succ_mul]; exact Nat.mul_le_mul_right _ hiF
    refine ⟨bl, T, F.flatten.toArray, by rw [h2]; simp, h3, ?_, by simpa [-List.length_flatten] using hle, ?_, ?_⟩
    · intro kd K
      have hlt : (i : Int) < rows.length := by omega
      rw [h1]; simp only [ia_p, Nat.zero_add, Int.toNat_natCast]
      have : (0 ≤ (i : Int) ∧ (i : Int) < rows.length) = True := by simp; omega
      rw [this, true_and]
    · rw [extract_list, hget, hrow]
    · intro j hj
      rw [List.getElem?_toArray, ← List.getElem?_drop, ← hrow, ← hget, List.getElem?_take_of_lt hj]
theorem fold_set (off : Nat) : ∀ (l : List Value) (k : Nat) (c : Array Value), off + k + l.length ≤ c.size →
    (l.zipIdx k).foldl (fun cs p => cs.setIfInBounds (off + p.2) p.1) c = splice c (off + k) l.toArray := by
  intro l
  induction l with
  | nil => intro k c _; simp [splice]
  | cons v r ih =>
    intro k c h
    simp only [List.length_cons] at h
    rw [List.zipIdx_cons, List.foldl_cons]
    have := ih (k + 1) (c.setIfInBounds (off + k) v) (by simp; omega)
    simp only at this ⊢
    rw [this]
    unfold splice
    congr 1
    have e := list_seg_step c.toList (off + k) v r (by simp; omega)
    simpa [Array.toList_setIfInBounds, Nat.add_assoc] using e
theorem fill_step {place : Nat → Option (Nat × Nat)} {c : Array Value} {i off size : Nat} {v : Value} {rest : List (Nat × Value)} (hp : place i = some (off, size)) (hv : v.cells.size = size) (hc : off + size ≤ c.size) :
    Instr.fill place c ((i, v) :: rest) = Instr.fill place (splice c off v.cells) rest := by
  have h1 : v.cells.size = size := hv
  conv => lhs; unfold Instr.fill
  rw [hp]
  simp only [h1, ne_eq, not_true_eq_false, decide_false, Bool.false_or, decide_eq_true_eq]
  rw [if_neg (by omega)]
  congr 1
  have := fold_set off v.cells.toList 0 c (by simp; omega)
  simp only [Nat.add_zero, Array.toArray_toList] at this
  rw [← this]
  rw [← Array.foldl_toList, Array.toList_zipIdx]
theorem splice_size {c : Array Value} {o : Nat} {vs : Array Value} (h : o + vs.size ≤ c.size) : (splice c o vs).size = c.size := by
  unfold splice; simp; omega
def IntsAt (w : World) (v : Value) (ks : List Int) (S : List Nat) : Prop :=
  ∃ a cap, v = .slice a ks.length cap ∧ (ks = [] ∨ ∃ bl o c T fr, a = some ⟨bl, o, none⟩ ∧ S = [bl] ∧ w.heap[bl]? = some (.cells c T fr) ∧ ∀ i, i < ks.length → c[o + i]? = some (.int .i64 (ks.getD i 0)))
theorem IntsAt.keep {w w' : World} {v : Value} {ks : List Int} {S S' : List Nat} (h : IntsAt w v ks S) (hk : Kp S' w w') (hd : ∀ x ∈ S, x ∉ S') : IntsAt w' v ks S := by
  obtain ⟨a, cap, h1, h2⟩ := h
  refine ⟨a, cap, h1, h2.imp id ?_⟩
  rintro ⟨bl, o, c, T, fr, g1, g2, g3, g4⟩
  subst g2
  exact ⟨bl, o, c, T, fr, g1, rfl, hk.get g3 (hd bl (by simp)), g4⟩
theorem IntsAt.at {w : World} {v : Value} {ks : List Int} {S : List Nat} (h : IntsAt w v ks S) {i : Nat} (hi : i < ks.length) :
    ∃ bl o c T fr, bl ∈ S ∧ w.heap[bl]? = some (.cells c T fr) ∧ (∀ kd K, ia 1 v (.int kd i) K = K (.pointer (some ⟨bl, o, none⟩))) ∧ c[o]? = some (.int .i64 (ks.getD i 0)) := by
  obtain ⟨a, cap, h1, h2⟩ := h
  rcases h2 with h2 | ⟨bl, o, c, T, fr, g1, g2, g3, g4⟩
  · rw [h2] at hi; cases hi
  · refine ⟨bl, o + i, c, T, fr, by rw [g2]; simp, g3, ?_, g4 i hi⟩
    intro kd K
    rw [h1, g1]
    have : (0 ≤ (i : Int) ∧ (i : Int) < ks.length) = True := by simp; omega
    simp only [ia_p, Int.toNat_natCast, Nat.mul_one, this, true_and]
theorem IntsAt.len {w : World} {v : Value} {ks : List Int} {S : List Nat} (h : IntsAt w v ks S) : ∃ a cap, v = .slice a ks.length cap := by
  obtain ⟨a, cap, h1, _⟩ := h
  exact ⟨a, cap, h1⟩
theorem rep_size (z : Array Value) (n : Nat) : (rep z n).size = n := by simp [rep]
theorem splice_all {c vs : Array Value} (h : c.size = vs.size) : splice c 0 vs = vs := by
  have : c.toList.drop vs.size = [] := List.drop_of_length_le (by simp [h])
  simp [splice, this]
theorem bsl_one {e : Nat} {z : Array Value} {v : Value} (hv : one v = true) {w : World} {k : KW} : bsl e 1 1 z #[(0, v)] w k = k (.slice (some ⟨w.heap.size, 0, none⟩) 1 1) (w.alloc (.cells #[v] e)) := by
  have hc := cells_one hv
  unfold bsl
  show (match Instr.fill (fun i => some (i * 1, 1)) (rep z (1 * 1)) [(0, v)] with | some cs => k (Value.slice (some ⟨w.heap.size, 0, none⟩) 1 1) (w.alloc (Obj.cells cs e)) | none => False) = _
  rw [fill_step (off := 0) (size := 1) rfl (by rw [hc]; rfl) (by rw [rep_size]; omega), hc, splice_all (by rw [rep_size]; rfl)]
  rfl
end Go.Q

set_option linter.unusedVariables false
set_option linter.unusedSimpArgs false
namespace Go.Q
def RdAt (w : World) (v : Value) (k : Nat) (rows : List (List Value)) (S : List Nat) : Prop :=
  (v = .slice none 0 0 ∧ rows = []) ∨
  ∃ (bl o cap : Nat) (c : Array Value) (T : TypeId) (fr : Nat × Nat), v = .slice (some ⟨bl, o, none⟩) rows.length cap ∧ S = [bl] ∧ w.heap[bl]? = some (.cells c T fr) ∧ (∀ x ∈ rows, x.length = k) ∧
    o + rows.length * k ≤ c.size ∧ (c.toList.drop o).take (rows.length * k) = rows.flatten ∧ rows.length ≤ cap
section
variable {w : World} {v : Value} {k : Nat} {rows : List (List Value)} {S : List Nat}
theorem RowsAt.rd (h : RowsAt w v k rows S) : RdAt w v k rows S := by
  rcases h with ⟨h1, h2, h3⟩ | ⟨bl, F, T, h1, h2, h3, h4, h5, h6⟩
  · exact .inl ⟨h1, h2⟩
  · refine .inr ⟨bl, 0, F.length, _, T, _, h1, h2, h3, ?_, ?_, ?_, h6⟩
    · intro x hx; rw [← h5] at hx; exact h4 x (List.mem_of_mem_take hx)
    · have := flat_len h4
      simp only [List.size_toArray, this, Nat.zero_add]
      exact Nat.mul_le_mul_right _ h6
    · rw [List.drop_zero, flat_take _ h4, h5]
theorem RdAt.keep {w' : World} {S' : List Nat} (h : RdAt w v k rows S) (hk : Kp S' w w') (hd : ∀ x ∈ S, x ∉ S') : RdAt w' v k rows S := by
  rcases h with h | ⟨bl, o, cap, c, T, fr, h1, h2, h3, h4⟩
  · exact .inl h
  · subst h2
    exact .inr ⟨bl, o, cap, c, T, fr, h1, rfl, hk.get h3 (hd bl (by simp)), h4⟩
theorem RdAt.len (h : RdAt w v k rows S) : ∃ a c, v = .slice a rows.length c ∧ rows.length ≤ c := by
  rcases h with ⟨h1, h2⟩ | ⟨bl, o, cap, c, T, fr, h1, h2, h3, h4, h5, h6, h7⟩
  · exact ⟨none, 0, by rw [h1, h2]; rfl, by simp [h2]⟩
  · exact ⟨_, _, h1, h7⟩
theorem RdAt.lenL (h : RdAt w v k rows S) {K : Value → Prop} : lenL v K = K (.int .i64 rows.length) := by
  obtain ⟨a, c, h1, _⟩ := h.len
  rw [h1]; rfl
theorem RdAt.row (h : RdAt w v k rows S) {x : List Value} (hx : x ∈ rows) : x.length = k := by
  rcases h with ⟨h1, h2⟩ | ⟨bl, o, cap, c, T, fr, h1, h2, h3, h4, _⟩
  · rw [h2] at hx; cases hx
  · exact h4 x hx
theorem extract_toList (c : Array Value) (o n : Nat) : c.extract o (o + n) = ((c.toList.drop o).take n).toArray := by
  apply Array.toList_inj.1
  simp [List.take_drop]
theorem RdAt.src (h : RdAt w v k rows S) (K' : Nat → Array Value → Prop) (hK : K' rows.length rows.flatten.toArray) : Q.srcA k v w K' := by
  rcases h with ⟨h1, h2⟩ | ⟨bl, o, cap, c, T, fr, h1, h2, h3, h4, h5, h6, h7⟩
  · subst h1; subst h2; exact hK
  · subst h1
    simp only [Q.srcA]
    split
    · rename_i h0
      have : rows.flatten = [] := by rw [← h6, h0]; simp
      rw [this] at hK
      exact hK
    · simp only [rdN_mk, h3]
      refine ⟨h5, ?_⟩
      rw [extract_toList, h6]; exact hK
theorem RdAt.take (h : RdAt w v k rows S) {p : Nat} (hp : p ≤ rows.length) {kd : IntKind} : ∃ v', RdAt w v' k (rows.take p) S ∧ ∀ K, slL k v none (some (.int kd p)) K = K v' := by
  rcases h with ⟨h1, h2⟩ | ⟨bl, o, cap, c, T, fr, h1, h2, h3, h4, h5, h6, h7⟩
  · subst h1; subst h2
    have : p = 0 := by simpa using hp
    subst this
    exact ⟨_, .inl ⟨rfl, by simp⟩, fun K => by simp⟩
  · subst h1
    have hl : (rows.take p).length = p := by simp; omega
    have hle : p * k ≤ rows.length * k := Nat.mul_le_mul_right _ hp
    refine ⟨.slice (some ⟨bl, o, none⟩) p cap, .inr ⟨bl, o, cap, c, T, fr, by rw [hl], h2, h3, fun x hx => h4 x (List.mem_of_mem_take hx), by rw [hl]; omega, ?_, by omega⟩, fun K => ?_⟩
    · rw [hl]
      have h8 : (c.toList.drop o).take (p * k) = ((c.toList.drop o).take (rows.length * k)).take (p * k) := by rw [List.take_take, Nat.min_eq_left hle]
      rw [h8, h6]
      exact flat_take p h4
    · have : (p : Int) ≤ cap := by omega
      simp [this]
theorem RdAt.drop (h : RdAt w v k rows S) {p : Nat} (hp : p ≤ rows.length) {kd : IntKind} : ∃ v', RdAt w v' k (rows.drop p) S ∧ ∀ K, slL k v (some (.int kd p)) none K = K v' := by
  rcases h with ⟨h1, h2⟩ | ⟨bl, o, cap, c, T, fr, h1, h2, h3, h4, h5, h6, h7⟩
  · subst h1; subst h2
    have : p = 0 := by simpa using hp
    subst this
    exact ⟨_, .inl ⟨rfl, by simp⟩, fun K => by simp⟩
  · subst h1
    have hl : (rows.drop p).length = rows.length - p := by simp
    have hsum : p * k + (rows.length - p) * k = rows.length * k := by rw [← Nat.add_mul]; congr 1; omega
    have hfl : rows.flatten.drop (p * k) = (rows.drop p).flatten := flat_drop p h4
    by_cases hc : cap = p
    · have hr : rows.length = p := by omega
      have hd : rows.drop p = [] := by rw [← hr]; simp
      refine ⟨.slice (some ⟨bl, o, none⟩) (rows.drop p).length (cap - p), .inr ⟨bl, o, cap - p, c, T, fr, rfl, h2, h3, by rw [hd]; simp, by rw [hd]; simp; omega, by rw [hd]; simp, by rw [hd]; simp⟩, fun K => ?_⟩
      have : (p : Int) ≤ rows.length := by omega
      simp [hc, this, hr]
    · refine ⟨.slice (some ⟨bl, o + p * k, none⟩) (rows.drop p).length (cap - p), .inr ⟨bl, o + p * k, cap - p, c, T, fr, rfl, h2, h3, fun x hx => h4 x (List.mem_of_mem_drop hx), by rw [hl]; omega, ?_, by rw [hl]; omega⟩, fun K => ?_⟩
      · rw [hl, ← hfl, ← h6, ← List.drop_drop, List.drop_take]
        congr 1
        omega
      · have : (p : Int) ≤ rows.length := by omega
        simp [hc, this, hp]
theorem RdAt.at (h : RdAt w v k rows S) {i : Nat} (hi : i < rows.length) :
    ∃ bl o T c fr, bl ∈ S ∧ w.heap[bl]? = some (.cells c T fr) ∧ (∀ kd K, ia k v (.int kd i) K = K (.pointer (some ⟨bl, o, none⟩))) ∧ o + k ≤ c.size ∧ c.extract o (o + k) = rows[i].toArray ∧
      ∀ j, j < k → c[o + j]? = rows[i][j]? := by
  rcases h with ⟨h1, h2⟩ | ⟨bl, o, cap, c, T, fr, h1, h2, h3, h4, h5, h6, h7⟩
  · subst h2; cases hi
  · subst h1
    have hle : i * k + k ≤ rows.length * k := by rw [← Nat.succ_mul]; exact Nat.mul_le_mul_right _ hi
    have hget := flat_get h4 hi
    have hrow : (c.toList.drop (o + i * k)).take k = rows[i] := by
      rw [← hget, ← h6, List.drop_take, List.take_take, List.drop_drop]
      congr 1
      omega
    refine ⟨bl, o + i * k, T, c, fr, by rw [h2]; simp, h3, ?_, by omega, by rw [extract_toList, hrow], ?_⟩
    · intro kd K
      simp only [ia_p, Int.toNat_natCast]
      have : (0 ≤ (i : Int) ∧ (i : Int) < rows.length) = True := by simp; omega
      rw [this, true_and]
    · intro j hj
      rw [← Array.getElem?_toList, ← List.getElem?_drop, ← hrow, List.getElem?_take_of_lt hj]
end
end Go.Q

set_option linter.unusedVariables false
set_option linter.unusedSimpArgs false
namespace Go.Q
def RowsT (w : World) (v : Value) (k : Nat) (e : TypeId) (rows : List (List Value)) (S : List Nat) : Prop :=
  (v = .slice none 0 0 ∧ rows = [] ∧ S = []) ∨
  ∃ (bl : Nat) (F : List (List Value)), v = .slice (some ⟨bl, 0, none⟩) rows.length F.length ∧ S = [bl] ∧ w.heap[bl]? = some (.cells F.flatten.toArray e (0, 0)) ∧ (∀ x ∈ F, x.length = k) ∧ F.take rows.length = rows ∧ rows.length ≤ F.length
theorem RowsT.at_ {w : World} {v : Value} {k : Nat} {e : TypeId} {rows : List (List Value)} {S : List Nat} (h : RowsT w v k e rows S) : RowsAt w v k rows S := by
  rcases h with h | ⟨bl, F, h⟩
  · exact .inl h
  · exact .inr ⟨bl, F, e, h⟩
theorem RowsT.row {w : World} {v : Value} {k : Nat} {e : TypeId} {rows : List (List Value)} {S : List Nat} (h : RowsT w v k e rows S) {x : List Value} (hx : x ∈ rows) : x.length = k := h.at_.row hx
theorem RowsT.keep {w w' : World} {v : Value} {k : Nat} {e : TypeId} {rows : List (List Value)} {S S' : List Nat} (h : RowsT w v k e rows S) (hk : Kp S' w w') (hd : ∀ x ∈ S, x ∉ S') : RowsT w' v k e rows S := by
  rcases h with h | ⟨bl, F, h1, h2, h3, h4⟩
  · exact .inl h
  · subst h2
    exact .inr ⟨bl, F, h1, rfl, hk.get h3 (hd bl (by simp)), h4⟩
theorem rowsT_app {e k bytes : Nat} {z : List Value} {v x : Value} {w : World} {rows G : List (List Value)} {S : List Nat} (h : RowsT w v k e rows S) (hk : 0 < k) (hz : z.length = k)
    (hG : ∀ y ∈ G, y.length = k) (hone : G.flatten.all one = true) (hsrc : ∀ K' : Nat → Array Value → Prop, K' G.length G.flatten.toArray → srcA k x w K')
    (hb : 2 * (rows.length + G.length) * bytes ≤ 2 ^ 48) (hb2 : rows.length + G.length < 2 ^ 62) {K : KW}
    (hK : ∀ v' w' S', RowsT w' v' k e (rows ++ G) S' → Kp S w w' → (∀ y ∈ S', y ∈ S ∨ w.heap.size ≤ y) → K v' w') : app e k bytes z.toArray v x w K := by
  have grow : ∀ (old : Array Value) (cap : Nat) , old = rows.flatten.toArray → (∀ y ∈ rows, y.length = k) → rows.length + G.length ≤ cap →
      K (.slice (some ⟨w.heap.size, 0, none⟩) (rows.length + G.length) cap) (w.drew.alloc (.cells (old ++ G.flatten.toArray ++ rep z.toArray ((cap - (rows.length + G.length)) * k)) e)) := by
    intro old cap hold hr hc
    have hF : (old ++ G.flatten.toArray ++ rep z.toArray ((cap - (rows.length + G.length)) * k)) = (rows ++ G ++ List.replicate (cap - (rows.length + G.length)) z).flatten.toArray := by
      rw [hold]
      have : rep z.toArray ((cap - (rows.length + G.length)) * k) = (List.replicate (cap - (rows.length + G.length)) z).flatten.toArray := by
        apply Array.ext
        · simp [rep, hz]
        · intro i h1 h2
          have hi : i < (cap - (rows.length + G.length)) * k := by simpa [rep] using h1
          simp only [rep, Array.getElem_map, Array.getElem_range, List.size_toArray, hz]
          have hm : i % k < k := Nat.mod_lt _ hk
          have hd : i / k < cap - (rows.length + G.length) := (Nat.div_lt_iff_lt_mul hk).2 hi
          have hfl : ((List.replicate (cap - (rows.length + G.length)) z).flatten.drop ((i / k) * k)).take k = z := by
            rw [flat_get (k := k) (by intro x hx; rw [List.mem_replicate] at hx; rw [hx.2, hz]) (by simpa using hd)]
            simp
          have hidx : i / k * k + i % k = i := by rw [Nat.mul_comm]; exact Nat.div_add_mod i k
          have e2 := congrArg (fun l => l[i % k]?) hfl
          simp only [List.getElem?_take_of_lt hm, List.getElem?_drop, hidx] at e2
          have h2' : i < (List.replicate (cap - (rows.length + G.length)) z).flatten.length := by simpa using h2
          rw [List.getElem?_eq_getElem h2', List.getElem?_eq_getElem (by omega)] at e2
          injection e2 with e2
          rw [List.getElem_toArray, e2]
          simp [hz, hm]
      rw [this]; simp
    refine hK _ _ [w.heap.size] (.inr ⟨w.heap.size, rows ++ G ++ List.replicate (cap - (rows.length + G.length)) z, ?_, rfl, ?_, ?_, ?_, ?_⟩) ((Kp.refl _ _).drew.alloc _) (by simp)
    · simp; omega
    · rw [← hF]; exact heap_new
    · intro y hy
      rw [List.mem_append, List.mem_append] at hy
      rcases hy with (hy | hy) | hy
      · exact hr y hy
      · exact hG y hy
      · rw [List.mem_replicate] at hy; rw [hy.2, hz]
    · rw [List.take_left]
    · simp
  have hrow : ∀ y ∈ rows, y.length = k := fun y hy => h.row hy
  unfold app
  rcases h with ⟨h1, h2, h3⟩ | ⟨bl, F, h1, h2, h3, h4, h5, h6⟩
  · subst h1; subst h3
    rw [h2] at hb hb2 hK grow
    simp only [List.length_nil, Nat.zero_add] at hb hb2 grow ⊢
    refine hsrc _ ⟨fun hle => ?_, fun hlt => ⟨⟨?_, by omega⟩, fun cap hc _ => grow #[] cap rfl (by simp) hc⟩⟩
    · have hG0 : G = [] := List.length_eq_zero_iff.1 (by omega)
      rw [hG0]
      exact hK _ w [] (.inl ⟨rfl, by simp [hG0], rfl⟩) (Kp.refl _ _) (by simp)
    · have := next_le hlt
      calc _ ≤ (2 * G.length) * bytes := Nat.mul_le_mul_right _ this
        _ ≤ _ := hb
  · subst h1; subst h2
    refine hsrc _ ⟨fun hle => ?_, fun hlt => ⟨⟨?_, by omega⟩, ?_⟩⟩
    · simp only [wrO, add_mk, wrN_mk, h3, okFr0, true_and, Nat.zero_add, List.size_toArray]
      have hfl := flat_len h4
      have hgl := flat_len hG
      have hsp := flat_splice_many (i := rows.length) h4 hG (by omega)
      refine ⟨⟨?_, by simpa using hone⟩, ?_⟩
      · rw [hfl, hgl, ← Nat.add_mul]; exact Nat.mul_le_mul_right _ hle
      · have hF' : splice F.flatten.toArray (rows.length * k) G.flatten.toArray = (F.take rows.length ++ G ++ F.drop (rows.length + G.length)).flatten.toArray := by
          rw [splice_list, hsp]
        rw [hF']
        refine hK _ _ [bl] (.inr ⟨bl, F.take rows.length ++ G ++ F.drop (rows.length + G.length), ?_, rfl, heap_self (live_of h3), ?_, ?_, ?_⟩) ((Kp.refl _ _).setBlk (.inl (by simp)) _) (fun y hy => .inl hy)
        · have : (F.take rows.length ++ G ++ F.drop (rows.length + G.length)).length = F.length := by simp; omega
          rw [this]; simp
        · intro y hy
          rw [List.mem_append, List.mem_append] at hy
          rcases hy with (hy | hy) | hy
          · exact h4 y (List.mem_of_mem_take hy)
          · exact hG y hy
          · exact h4 y (List.mem_of_mem_drop hy)
        · rw [h5, List.take_left]
        · simp; omega
    · have := next_le hlt
      calc _ ≤ (2 * (rows.length + G.length)) * bytes := Nat.mul_le_mul_right _ this
        _ ≤ _ := hb
    · simp only [base, rdN_mk, h3, Nat.zero_add, List.size_toArray]
      have hfl := flat_len h4
      refine ⟨by rw [hfl]; exact Nat.mul_le_mul_right _ h6, fun cap hc _ => grow _ cap ?_ hrow hc⟩
      have := extract_list F.flatten 0 (rows.length * k)
      rw [Nat.zero_add] at this
      rw [this, List.drop_zero, flat_take _ h4, h5]
end Go.Q

set_option linter.unusedVariables false
set_option linter.unusedSimpArgs false
namespace Go.Q
theorem wf64 {n : Int} (h : (Lit.int .i64 n).wf = true) : -9223372036854775808 ≤ n ∧ n < 9223372036854775808 := by
  simp [Lit.wf, IntKind.min, IntKind.max, IntKind.bits, IntKind.signed] at h
  omega
theorem cell_block {w : World} {x : Addr} {v : Value} (h : w.cell? x = some v) : x.spot = none ∧ ∃ c T fr, w.heap[x.block]? = some (.cells c T fr) ∧ c[x.off]? = some v := by
  unfold World.cell? at h
  split at h
  · rename_i c T fr hh
    split at h
    · cases h
    · rename_i hs
      exact ⟨by simpa using hs, c, T, fr, hh, h⟩
  · cases h
end Go.Q

set_option linter.unusedVariables false
set_option linter.unusedSimpArgs false
namespace Go.Q
def ArgAt (w : World) (v : Value) (k : Nat) (rows : List (List Value)) (S : List Nat) : Prop :=
  (∃ a cap, v = .slice a 0 cap ∧ rows = []) ∨ RdAt w v k rows S
section
variable {w : World} {v : Value} {k : Nat} {rows : List (List Value)} {S : List Nat}
theorem ArgAt.keep {w' : World} {S' : List Nat} (h : ArgAt w v k rows S) (hk : Kp S' w w') (hd : ∀ x ∈ S, x ∉ S') : ArgAt w' v k rows S := h.imp id fun h => h.keep hk hd
theorem ArgAt.lenL (h : ArgAt w v k rows S) {K : Value → Prop} : lenL v K = K (.int .i64 rows.length) := by
  rcases h with ⟨a, cap, h1, h2⟩ | h
  · rw [h1, h2]; rfl
  · exact h.lenL
theorem ArgAt.src (h : ArgAt w v k rows S) (K' : Nat → Array Value → Prop) (hK : K' rows.length rows.flatten.toArray) : Q.srcA k v w K' := by
  rcases h with ⟨a, cap, h1, h2⟩ | h
  · subst h1; subst h2
    cases a with
    | none => exact hK
    | some a =>
      simp only [Q.srcA, Nat.zero_mul, if_true]
      exact hK
  · exact h.src K' hK
theorem ArgAt.take (h : ArgAt w v k rows S) {p : Nat} (hp : p ≤ rows.length) {kd : IntKind} : ∃ v', ArgAt w v' k (rows.take p) S ∧ ∀ K, slL k v none (some (.int kd p)) K = K v' := by
  rcases h with ⟨a, cap, h1, h2⟩ | h
  · subst h1; subst h2
    have : p = 0 := by simpa using hp
    subst this
    exact ⟨.slice (if cap = 0 then a else a.map (·.add (0 * k))) 0 (cap - 0), .inl ⟨_, _, rfl, by simp⟩, fun K => by simp [slL, bnd]⟩
  · obtain ⟨v', h1, h2⟩ := h.take hp (kd := kd)
    exact ⟨v', .inr h1, h2⟩
theorem ArgAt.drop (h : ArgAt w v k rows S) {p : Nat} (hp : p ≤ rows.length) {kd : IntKind} : ∃ v', ArgAt w v' k (rows.drop p) S ∧ ∀ K, slL k v (some (.int kd p)) none K = K v' := by
  rcases h with ⟨a, cap, h1, h2⟩ | h
  · subst h1; subst h2
    have : p = 0 := by simpa using hp
    subst this
    exact ⟨.slice (if cap = 0 then a else a.map (·.add (0 * k))) 0 (cap - 0), .inl ⟨_, _, rfl, by simp⟩, fun K => by simp [slL, bnd]⟩
  · obtain ⟨v', h1, h2⟩ := h.drop hp (kd := kd)
    exact ⟨v', .inr h1, h2⟩
theorem ArgAt.row (h : ArgAt w v k rows S) {x : List Value} (hx : x ∈ rows) : x.length = k := by
  rcases h with ⟨a, cap, h1, h2⟩ | h
  · rw [h2] at hx; cases hx
  · exact h.row hx
theorem ArgAt.at (h : ArgAt w v k rows S) {i : Nat} (hi : i < rows.length) :
    ∃ bl o T c fr, bl ∈ S ∧ w.heap[bl]? = some (.cells c T fr) ∧ (∀ kd K, ia k v (.int kd i) K = K (.pointer (some ⟨bl, o, none⟩))) ∧ o + k ≤ c.size ∧ c.extract o (o + k) = rows[i].toArray ∧
      ∀ j, j < k → c[o + j]? = rows[i][j]? := by
  rcases h with ⟨a, cap, h1, h2⟩ | h
  · rw [h2] at hi; cases hi
  · exact h.at hi
theorem chop_flat (l : List Value) (k : Nat) : ∀ n, ((List.range n).map fun i => (l.drop (i * k)).take k).flatten = l.take (n * k) := by
  intro n
  induction n with
  | zero => simp
  | succ n ih =>
    rw [List.range_succ, List.map_append, List.flatten_append, ih]
    simp only [List.map_cons, List.map_nil, List.flatten_cons, List.flatten_nil, List.append_nil]
    rw [Nat.succ_mul, List.take_add]
end
section
variable {H : Type} {enc : TypeId × Value → H} {P : Program} {w : World} {base : Nat} {spare : Nat → Bool} {held : Bool}
theorem arg_slice {t e : TypeId} {n fuel : Nat} {cs : List Value} {x : DataW H × List MemPlace} (ht : P.underlying t = some (.slice e)) (hc : P.cellsOf e = n) (hn : 0 < n)
    (h : DataW.trod enc P w base spare held fuel t cs = some x) :
    ∃ v rows SK, cs = [v] ∧ ArgAt w v n rows SK ∧ (∀ b ∈ SK, b < w.heap.size) ∧ rows.length ≤ maxLen ∧ ∀ r ∈ rows, ∃ f y, DataW.trod enc P w base spare held f e r = some y := by
  rcases DataW.trod_slice ht h with ⟨h1, _⟩ | ⟨a, len, cap, elems, rest, m, _, rfl, _, hb, hl, hm, hlen, hel, _, _⟩
  · exact ⟨_, [], [], h1, .inl ⟨none, 0, rfl, rfl⟩, by simp, by simp, by simp⟩
  · rw [hc] at hel
    by_cases h0 : len = 0
    · subst h0
      exact ⟨_, [], [], rfl, .inl ⟨some a, cap, rfl, rfl⟩, by simp, by simp, by simp⟩
    · have each : ∀ i, i < len → ∃ cs y, w.cells? base (a.add (i * n)) n = some cs ∧ DataW.trod enc P w base spare held m e cs = some y := by
        intro i hi
        have h1 := hel i hi
        have h2 : elems[i]? = some elems[i] := List.getElem?_eq_getElem (by omega)
        rw [h2, Option.bind_eq_some_iff] at h1
        obtain ⟨cs, h3, h4⟩ := h1
        exact ⟨cs, _, h3, h4⟩
      obtain ⟨cs0, y0, h3, h4⟩ := each 0 (by omega)
      obtain ⟨_, hl0, hc0⟩ := World.cells?_some h3
      have h5 := hc0 0 hn
      rw [Nat.zero_mul, List.getElem?_eq_getElem (by omega)] at h5
      have h6 : w.cell? a = some cs0[0] := by simpa [Addr.add] using h5
      obtain ⟨hs, c, T, fr, hh, _⟩ := cell_block h6
      obtain ⟨b, o, s⟩ := a
      simp only at hs hh
      subst hs
      have cell : ∀ i j, i < len → j < n → ∃ cs y, w.cells? base (Addr.add ⟨b, o, none⟩ (i * n)) n = some cs ∧ DataW.trod enc P w base spare held m e cs = some y ∧ cs.length = n ∧ c[o + i * n + j]? = cs[j]? ∧ o + i * n + j < c.size := by
        intro i j hi hj
        obtain ⟨cs, y, g1, g2⟩ := each i hi
        obtain ⟨_, g3, g4⟩ := World.cells?_some g1
        have g5 := g4 j hj
        simp only [add_mk] at g5
        have g6 : w.cell? ⟨b, o + i * n + j, none⟩ = c[o + i * n + j]? := by simp [World.cell?, hh]
        rw [g6] at g5
        refine ⟨cs, y, g1, g2, g3, g5, ?_⟩
        rw [List.getElem?_eq_getElem (by omega)] at g5
        exact (Array.getElem?_eq_some_iff.mp g5).1
      have hsz : o + len * n ≤ c.size := by
        obtain ⟨_, _, _, _, _, _, g⟩ := cell (len - 1) (n - 1) (by omega) (by omega)
        have : len * n = (len - 1) * n + n := by rw [← Nat.succ_mul]; congr 1; omega
        omega
      have hrow : ∀ i, i < len → (c.toList.drop o |>.drop (i * n)).take n = (c.toList.drop (o + i * n)).take n := fun i _ => by rw [List.drop_drop]
      refine ⟨_, (List.range len).map fun i => ((c.toList.drop o).drop (i * n)).take n, [b], rfl, .inr (.inr ⟨b, o, cap, c, T, fr, by simp, rfl, hh, ?_, by simpa using hsz, ?_, by simpa using hl⟩), ?_, ?_, ?_⟩
      · intro r hr
        simp only [List.mem_map, List.mem_range] at hr
        obtain ⟨i, hi, rfl⟩ := hr
        have : (i + 1) * n ≤ len * n := Nat.mul_le_mul_right _ hi
        rw [Nat.succ_mul] at this
        simp; omega
      · rw [chop_flat]; simp
      · intro y hy
        simp only [List.mem_singleton] at hy
        subst hy
        exact lt_of_blk hh
      · simp; omega
      · intro r hr
        simp only [List.mem_map, List.mem_range] at hr
        obtain ⟨i, hi, rfl⟩ := hr
        obtain ⟨cs, y, g1, g2, g3, _, _⟩ := cell i 0 hi hn
        refine ⟨m, y, ?_⟩
        have he : ((c.toList.drop o).drop (i * n)).take n = cs := by
          apply List.ext_getElem?
          intro j
          by_cases hj : j < n
          · obtain ⟨cs', y', g1', _, _, g4', _⟩ := cell i j hi hj
            rw [g1] at g1'
            injection g1' with g1'
            subst g1'
            rw [List.getElem?_take_of_lt hj, List.drop_drop, List.getElem?_drop, Array.getElem?_toList, g4']
          · rw [List.getElem?_eq_none (by simp; omega), List.getElem?_eq_none (by omega)]
        rw [he]; exact g2
end
end Go.Q

set_option linter.unusedVariables false
set_option linter.unusedSimpArgs false
namespace Go.Q
def eqV : Value → Value → Bool
  | .int _ x, .int _ y => decide (x = y)
  | .string s, .string t => decide (s = t)
  | .bool a, .bool b => a == b
  | _, _ => false
def eqC : List Value → List Value → Bool
  | a :: r, b :: s => eqV a b && eqC r s
  | _, _ => true
@[simp] theorem eqV_int {k k' : IntKind} {x y : Int} : eqV (.int k x) (.int k' y) = decide (x = y) := rfl
@[simp] theorem eqV_str {s t : ByteArray} : eqV (.string s) (.string t) = decide (s = t) := rfl
@[simp] theorem eqV_bool {s t : Bool} : eqV (.bool s) (.bool t) = (s == t) := rfl
@[simp] theorem eqC_cons {a b : Value} {r s : List Value} : eqC (a :: r) (b :: s) = (eqV a b && eqC r s) := rfl
@[simp] theorem eqC_nil : eqC [] [] = true := rfl
def eqK : Option TypeDesc → Value → Value → Bool
  | some (.int _), .int k _, .int k' _ => k == k'
  | some .string, .string _, .string _ => true
  | some .bool, .bool _, .bool _ => true
  | _, _, _ => false
def flatF (P : Program) : List Field → List Value → List Value → Nat → Bool
  | [], _, _, _ => true
  | f :: fs, a :: aas, b :: bbs, i => !(f.name == "_") && Nat.beq f.offset i && (match aggO P f.type with | some false => true | _ => false) && eqK (P.underlying f.type) a b && flatF P fs aas bbs (i + 1)
  | _, _, _, _ => false
def aggEq (P : Program) (T : TypeId) (xs ys : List Value) : Bool :=
  match P.underlying T with
  | some (.struct fs) => !P.stoodInHeld T && !P.eqGuardType P.depth T && flatF P fs.toList xs ys 0 && Nat.beq fs.size xs.length && Nat.beq fs.size ys.length
  | _ => false
variable {P : Program}
theorem eqV_run {d : Nat} {T : TypeId} {a b : Value} {w : World} (h : eqK (P.underlying T) a b = true) : (Op.equalIn (d + 1) T a b).run P w = .ok (eqV a b) w := by
  unfold eqK at h
  split at h
  · rename_i hu
    have hk := eq_of_beq h
    subst hk
    rw [run_equalIn_int w d T _ _ _ _ hu]
    rfl
  · rename_i hu
    rw [run_equalIn_string w d T _ _ hu]
    rw [toList_beq]; rfl
  · rename_i hu
    rw [run_equalIn_bool' w d T _ _ hu]; rfl
  · cases h
theorem flat_run {d : Nat} {xs ys : Array Value} {w : World} : ∀ (fs : List Field) (aas bbs : List Value) (i : Nat), flatF P fs aas bbs i = true → xs.toList.drop i = aas → ys.toList.drop i = bbs → aas.length = fs.length → bbs.length = fs.length →
    (Op.eqFields (d + 1) xs ys fs).run P w = .ok (eqC aas bbs) w := by
  intro fs
  induction fs with
  | nil =>
    intro aas bbs i _ _ _ h1 h2
    have ha : aas = [] := List.length_eq_zero_iff.1 h1
    have hb : bbs = [] := List.length_eq_zero_iff.1 h2
    rw [ha, hb]
    simp [Op.eqFields]
  | cons f fs ih =>
    intro aas bbs i h h1 h2 h3 h4
    cases aas with
    | nil => simp at h3
    | cons a aas =>
      cases bbs with
      | nil => simp at h4
      | cons b bbs =>
        simp only [flatF, Bool.and_eq_true, Bool.not_eq_true'] at h
        obtain ⟨⟨⟨⟨g1, g2⟩, g3⟩, g4⟩, g5⟩ := h
        have hn : f.name ≠ "_" := by simpa using g1
        have ho : f.offset = i := Nat.eq_of_beq_eq_true g2
        have ha : aggO P f.type = some false := by
          revert g3
          cases aggO P f.type with
          | none => intro h; cases h
          | some t => cases t <;> intro h <;> simp at h ⊢
        have hx : xs[i]? = some a := by rw [← Array.getElem?_toList, ← List.head?_drop, h1]; rfl
        have hy : ys[i]? = some b := by rw [← Array.getElem?_toList, ← List.head?_drop, h2]; rfl
        have p1 : (part f.type xs f.offset).run P w = .ok a w := by rw [ho]; simp [part, aggO_run ha, hx, pure, Sem.run]
        have p2 : (part f.type ys f.offset).run P w = .ok b w := by rw [ho]; simp [part, aggO_run ha, hy, pure, Sem.run]
        have hr := ih aas bbs (i + 1) g5 (by rw [← List.drop_drop, h1]; rfl) (by rw [← List.drop_drop, h2]; rfl) (by simpa using h3) (by simpa using h4)
        rw [Op.eqFields]
        simp only [if_pos hn, Sem.run_bind, p1, p2, eqV_run g4, Result.andThen_ok]
        cases hv : eqV a b
        · simp [hv]
        · simp [hv]; exact hr
theorem run_aggs {T : TypeId} {xs ys : Array Value} {xo yo : Operand} {w : World} (h : aggEq P T xs.toList ys.toList = true) :
    (bq .eql T xo yo (.agg xs) (.agg ys)).run P w = .ok (.bool (eqC xs.toList ys.toList)) w ∧ (bq .neq T xo yo (.agg xs) (.agg ys)).run P w = .ok (.bool !eqC xs.toList ys.toList) w := by
  unfold aggEq at h
  split at h
  · rename_i fs hu
    simp only [Bool.and_eq_true, Bool.not_eq_true'] at h
    obtain ⟨⟨⟨⟨h1, h2⟩, h3⟩, h4⟩, h5⟩ := h
    have h4 := Nat.eq_of_beq_eq_true h4
    have h5 := Nat.eq_of_beq_eq_true h5
    have hf : P.fieldsOf T = fs := by simp [Program.fieldsOf, hu]
    have hr := flat_run (d := 9998) (xs := xs) (ys := ys) (w := w) fs.toList xs.toList ys.toList 0 h3 rfl rfl (by simpa using h4.symm) (by simpa using h5.symm)
    have he : (Op.equalIn 10000 T (.agg xs) (.agg ys)).run P w = .ok (eqC xs.toList ys.toList) w := by
      rw [run_equalIn_agg w 9999 T xs ys (by rw [hf]; exact hu) h1, hf]
      exact hr
    constructor
    · unfold bq
      rw [Sem.run_bind, run_eqGuard_agg w _ _ _ _ _ _ h2]
      simp only [Result.andThen_ok]
      rw [run_eql_struct, he]; rfl
    · unfold bq
      rw [Sem.run_bind, run_eqGuard_agg w _ _ _ _ _ _ h2]
      simp only [Result.andThen_ok]
      rw [run_neq_struct, he]; rfl
  · cases h
@[simp] theorem bq_aggeql {T : TypeId} {xs ys : List Value} {xo yo : Operand} {w : World} {K : Value → Prop} (h : aggEq P T xs ys = true) : qG P (bq .eql T xo yo (.agg xs.toArray) (.agg ys.toArray)) w K = K (.bool (eqC xs ys)) := qG_of (run_aggs h).1
@[simp] theorem bq_aggneq {T : TypeId} {xs ys : List Value} {xo yo : Operand} {w : World} {K : Value → Prop} (h : aggEq P T xs ys = true) : qG P (bq .neq T xo yo (.agg xs.toArray) (.agg ys.toArray)) w K = K (.bool !eqC xs ys) := qG_of (run_aggs h).2
end Go.Q

set_option linter.unusedVariables false
set_option linter.unusedSimpArgs false
namespace Go.Q
def Rd (w : World) (v : Value) (k : Nat) (rows : List (List Value)) : Prop := ∃ S, ArgAt w v k rows S
structure Fr (w0 w : World) (v : Value) (k : Nat) (rows : List (List Value)) : Prop where
  ex : ∃ S, RowsAt w v k rows S ∧ ∀ x ∈ S, w0.heap.size ≤ x
  kp : Kp [] w0 w
section
variable {w0 w w' : World} {v : Value} {k : Nat} {rows : List (List Value)}
theorem Rd.keep (h : Rd w v k rows) (hk : Kp [] w w') : Rd w' v k rows := by
  obtain ⟨S, h⟩ := h
  exact ⟨S, h.keep hk (by simp)⟩
theorem Rd.lenL (h : Rd w v k rows) {K : Value → Prop} : lenL v K = K (.int .i64 rows.length) := by
  obtain ⟨S, h⟩ := h
  exact h.lenL
theorem Rd.row (h : Rd w v k rows) {x : List Value} (hx : x ∈ rows) : x.length = k := by
  obtain ⟨S, h⟩ := h
  exact h.row hx
theorem Rd.src (h : Rd w v k rows) (K' : Nat → Array Value → Prop) (hK : K' rows.length rows.flatten.toArray) : Q.srcA k v w K' := by
  obtain ⟨S, h⟩ := h
  exact h.src K' hK
theorem Rd.at (h : Rd w v k rows) {i : Nat} (hi : i < rows.length) :
    ∃ bl o T c fr, w.heap[bl]? = some (.cells c T fr) ∧ (∀ kd K, ia k v (.int kd i) K = K (.pointer (some ⟨bl, o, none⟩))) ∧ o + k ≤ c.size ∧ c.extract o (o + k) = rows[i].toArray ∧ ∀ j, j < k → c[o + j]? = rows[i][j]? := by
  obtain ⟨S, h⟩ := h
  obtain ⟨bl, o, T, c, fr, _, h1, h2, h3, h4, h5⟩ := h.at hi
  exact ⟨bl, o, T, c, fr, h1, h2, h3, h4, h5⟩
theorem Rd.take (h : Rd w v k rows) {p : Nat} (hp : p ≤ rows.length) {kd : IntKind} : ∃ v', Rd w v' k (rows.take p) ∧ ∀ K, slL k v none (some (.int kd p)) K = K v' := by
  obtain ⟨S, h⟩ := h
  obtain ⟨v', h1, h2⟩ := h.take hp (kd := kd)
  exact ⟨v', ⟨S, h1⟩, h2⟩
theorem Rd.drop (h : Rd w v k rows) {p : Nat} (hp : p ≤ rows.length) {kd : IntKind} : ∃ v', Rd w v' k (rows.drop p) ∧ ∀ K, slL k v (some (.int kd p)) none K = K v' := by
  obtain ⟨S, h⟩ := h
  obtain ⟨v', h1, h2⟩ := h.drop hp (kd := kd)
  exact ⟨v', ⟨S, h1⟩, h2⟩
theorem Rd.get (h : Rd w v k rows) {i : Nat} (hi : i < rows.length) :
    ∃ p, (∀ kd K, ia k v (.int kd i) K = K p) ∧ (∀ K : Value → Prop, ldn k p w K = K (.agg rows[i].toArray)) ∧ ∀ j (hj : j < rows[i].length), ∀ K : Value → Prop, fa j p (fun q => ld1 q w K) = K rows[i][j] := by
  have hr := h.row (List.getElem_mem hi)
  obtain ⟨bl, o, T, c, fr, h1, h2, h3, h4, h5⟩ := h.at hi
  refine ⟨_, h2, fun K => ?_, fun j hj K => ?_⟩
  · simp only [ldn_p, rdN_mk, h1, h3, h4, true_and]
  · have := h5 j (by omega)
    rw [List.getElem?_eq_getElem hj] at this
    simp [-getElem?_pos, -Array.getElem?_eq_getElem, h1, this]
theorem Rd.one (h : Rd w v 1 rows) {i : Nat} (hi : i < rows.length) {x : Value} (hx : rows[i] = [x]) : ∃ p, (∀ kd K, ia 1 v (.int kd i) K = K p) ∧ ∀ K : Value → Prop, ld1 p w K = K x := by
  obtain ⟨bl, o, T, c, fr, h1, h2, h3, h4, h5⟩ := h.at hi
  refine ⟨_, h2, fun K => ?_⟩
  have := h5 0 (by omega)
  rw [hx, Nat.add_zero, List.getElem?_cons_zero] at this
  simp [-getElem?_pos, -Array.getElem?_eq_getElem, h1, this]
theorem rd_nil : Rd w (.slice none 0 0) k [] := ⟨[], .inl ⟨none, 0, rfl, rfl⟩⟩
theorem Rd.slice (h : Rd w v k rows) : ∃ a c, v = .slice a rows.length c := by
  obtain ⟨S, ⟨a, c, h1, h2⟩ | h⟩ := h
  · exact ⟨a, c, by rw [h1, h2]; rfl⟩
  · obtain ⟨a, c, h1, _⟩ := h.len
    exact ⟨a, c, h1⟩
theorem Fr.rd (h : Fr w0 w v k rows) : Rd w v k rows := by
  obtain ⟨S, h1, h2⟩ := h.ex
  exact ⟨S, .inr h1.rd⟩
theorem Fr.keep (h : Fr w0 w v k rows) (hk : Kp [] w w') : Fr w0 w' v k rows := by
  obtain ⟨S, h1, h2⟩ := h.ex
  exact ⟨⟨S, h1.keep hk (by simp), h2⟩, h.kp.trans' hk⟩
theorem Fr.one (h : Fr w0 w v k rows) : Q.one v = true := by
  obtain ⟨S, h1, h2⟩ := h.ex
  obtain ⟨a, c, hv, _⟩ := h1.len
  rw [hv]; rfl
theorem fr_nil (hk : Kp [] w0 w) : Fr w0 w (.slice none 0 0) k [] := ⟨⟨[], .inl ⟨rfl, rfl, rfl⟩, by simp⟩, hk⟩
theorem fr_app {e bytes : Nat} {z : List Value} {x : Value} {G : List (List Value)} (h : Fr w0 w v k rows) (hk : 0 < k) (hz : z.length = k) (hG : ∀ y ∈ G, y.length = k) (hone : G.flatten.all Q.one = true)
    (hsrc : ∀ K' : Nat → Array Value → Prop, K' G.length G.flatten.toArray → srcA k x w K') (hb : 2 * (rows.length + G.length) * bytes ≤ 2 ^ 48) (hb2 : rows.length + G.length < 2 ^ 62) {K : KW}
    (hK : ∀ v' w', Fr w0 w' v' k (rows ++ G) → K v' w') : app e k bytes z.toArray v x w K := by
  obtain ⟨S, h1, h2⟩ := h.ex
  refine rows_app h1 hk hz hG hone hsrc hb hb2 fun v' w' S' h' hk' hS' => ?_
  have hs := h.kp.size
  refine hK v' w' ⟨⟨S', h', fun x hx => ?_⟩, h.kp.trans hk' fun x hx hlt => by have := h2 x hx; omega⟩
  rcases hS' x hx with h | h
  · exact h2 x h
  · omega
theorem bsl_rowN {e n : Nat} {z : Array Value} {x : Value} {cs : List Value} (hn : 0 < n) (hc : x.cells = cs.toArray) (hl : cs.length = n) {w : World} {K : KW}
    (hK : ∀ v' w', Fr w w' v' n [cs] → K v' w') : bsl e n 1 z #[(0, x)] w K := by
  have hb : bsl e n 1 z #[(0, x)] w K = K (.slice (some ⟨w.heap.size, 0, none⟩) 1 1) (w.alloc (.cells cs.toArray e)) := by
    unfold bsl
    show (match Instr.fill (fun i => some (i * n, n)) (rep z (1 * n)) [(0, x)] with | some cs => K (Value.slice (some ⟨w.heap.size, 0, none⟩) 1 1) (w.alloc (Obj.cells cs e)) | none => False) = _
    rw [fill_step (off := 0) (size := n) (by simp) (by rw [hc]; simpa using hl) (by rw [rep_size]; omega), hc, splice_all (by rw [rep_size]; simp [hl])]
    rfl
  rw [hb]
  refine hK _ _ ⟨⟨[w.heap.size], .inr ⟨w.heap.size, [cs], e, rfl, rfl, ?_, by simpa using hl, by simp, by simp⟩, by simp⟩, (Kp.refl [] w).alloc _⟩
  rw [heap_new]; simp
theorem fr_push {e bytes : Nat} {z : List Value} {x : Value} {y : List Value} {wx : World} (h : Fr w0 w v k rows) (hx : Rd w x k [y]) (hk : 0 < k) (hz : z.length = k) (hone : y.all Q.one = true)
    (hb : 2 * (rows.length + 1) * bytes ≤ 2 ^ 48) (hb2 : rows.length + 1 < 2 ^ 62) {K : KW}
    (hK : ∀ v' w', Fr w0 w' v' k (rows ++ [y]) → K v' w') : app e k bytes z.toArray v x w K := by
  have hy : y.length = k := hx.row (by simp)
  refine fr_app h hk hz (G := [y]) (by simpa using hy) (by simpa using hone) (fun K' hK' => hx.src K' hK') hb hb2 hK
end
def byteV (c : UInt8) : List Value := [.int .u8 c.toNat]
theorem byteV_flat (l : List UInt8) : (l.map byteV).flatten = u8c l := by
  induction l with
  | nil => rfl
  | cons c l ih => simp only [List.map_cons, List.flatten_cons, ih]; rfl
theorem byteV_one (l : List UInt8) : ((l.map byteV).flatten).all one = true := by
  rw [byteV_flat]; have := one_u8c l; rw [List.all_toArray] at this; exact this
theorem srcA_str {l : List UInt8} {w : World} (K' : Nat → Array Value → Prop) (hK : K' (l.map byteV).length (l.map byteV).flatten.toArray) : srcA 1 (.string (str l)) w K' := by
  have he : u8s ((str l).extract 0 l.length) = (u8c l).toArray := by rw [str_extract, List.take_length, List.drop_zero, u8s_eq]; rfl
  rw [byteV_flat, List.length_map] at hK
  simp only [srcA, str_size, he]
  exact hK
theorem Rd.text {w : World} {v : Value} {l : List UInt8} (h : Rd w v 1 (l.map byteV)) (hn : (∃ a c, v = .slice a 0 c) → v = .slice none 0 0 ∨ ∃ S, RdAt w v 1 (l.map byteV) S) {K : Value → Prop} : cvBS v w K = K (.string (str l)) := by
  have main : ∀ S, RdAt w v 1 (l.map byteV) S → cvBS v w K = K (.string (str l)) := by
    intro S h
    rcases h with ⟨h1, h2⟩ | ⟨bl, o, cap, c, T, fr, h1, h2, h3, h4, h5, h6, h7⟩
    · have : l = [] := by simpa using h2
      subst this; subst h1
      rfl
    · subst h1
      have hb := bytesOf_u8c l
      simp only [List.length_map, Nat.mul_one] at h5 h6 h7
      have hx : c.extract o (o + l.length) = (u8c l).toArray := by rw [extract_toList, h6, byteV_flat]
      simp only [cvBS, rdN_mk, List.length_map, h3, hx, h5, true_and, hb]
      rfl
  obtain ⟨S, ⟨a, c, h1, h2⟩ | h⟩ := h
  · rcases hn ⟨a, c, h1⟩ with h3 | ⟨S, h3⟩
    · have : l = [] := by simpa using h2
      subst this; subst h3
      rfl
    · exact main S h3
  · exact main S h
theorem Fr.text {w0 w : World} {v : Value} {l : List UInt8} (h : Fr w0 w v 1 (l.map byteV)) {K : Value → Prop} : cvBS v w K = K (.string (str l)) := by
  obtain ⟨S, h1, h2⟩ := h.ex
  exact Rd.text h.rd fun _ => .inr ⟨S, h1.rd⟩
theorem bytes_app {w0 w : World} {v : Value} {l : List UInt8} {e : Nat} {z : Array Value} (hz : z = #[.int .u8 0]) (h : Fr w0 w v 1 (l.map byteV)) (s : List UInt8) (hl : l.length + s.length < 2 ^ 40) {K : KW}
    (hK : ∀ v' w', Fr w0 w' v' 1 ((l ++ s).map byteV) → K v' w') : app e 1 1 z v (.string (Q.str s)) w K := by
  subst hz
  refine fr_app (z := [.int .u8 0]) (G := s.map byteV) h (by omega) rfl (by simp [byteV]) (byteV_one s) (fun K' hK' => srcA_str K' hK') (by simp; omega) (by simp; omega) fun v' w' h' => hK v' w' (by rw [List.map_append]; exact h')
theorem byte_app {w0 w : World} {v x : Value} {l : List UInt8} {c : UInt8} {e : Nat} {z : Array Value} (hz : z = #[.int .u8 0]) (h : Fr w0 w v 1 (l.map byteV)) (hx : Rd w x 1 [byteV c]) (hl : l.length < 2 ^ 40) {K : KW}
    (hK : ∀ v' w', Fr w0 w' v' 1 ((l ++ [c]).map byteV) → K v' w') : app e 1 1 z v x w K := by
  subst hz
  refine fr_app (z := [.int .u8 0]) (G := [byteV c]) h (by omega) rfl (by simp [byteV]) (byteV_one [c]) (fun K' hK' => hx.src K' hK') (by simp; omega) (by simp; omega) fun v' w' h' => hK v' w' (by rw [List.map_append]; exact h')
end Go.Q

set_option linter.unusedVariables false
set_option linter.unusedSimpArgs false
namespace Go.Proofs
open Go Go.Q
open Tryz (prog)
theorem rows_one {w : World} {v : Value} {k : Nat} {rows : List (List Value)} {S : List Nat} (h : RowsAt w v k rows S) : Q.one v = true := by
  obtain ⟨a, c, hv, _⟩ := h.len
  rw [hv]; rfl
theorem info_some {t : TypeId} {n : Nat} (h : szO prog t = some n) : ∃ j, prog.info? t = some j ∧ j.size = n := by
  unfold szO at h
  cases hi : prog.info? t with
  | none => rw [hi] at h; cases h
  | some j => rw [hi] at h; exact ⟨j, rfl, by simpa using h⟩
theorem Tryz.szB : szO prog 110 = some 2 := by kernel_rfl
theorem Tryz.cellsOf5 : prog.cellsOf 5 = 1 := by kernel_rfl
theorem bq_psame {xo yo : Operand} {w : World} {a : Addr} {K : Value → Prop} : qG prog (bq .neq 108 xo yo (.pointer (some a)) (.pointer (some a))) w K = K (.bool false) := by
  obtain ⟨j, hj, _⟩ := info_some Tryz.szB
  refine qG_of ((run_equal1 (P := prog) (T := 108) (x := .pointer (some a)) (y := .pointer (some a)) (w := w) (b := true) ?_ (fun _ _ h => by cases h.1) (fun h => by cases h.1) xo yo rfl rfl).2)
  have h := Go.Lib.run_neq_ptr_same (P := prog) w a Tryz.underlying108 hj
  have h2 : ∀ d : Nat, (Op.equalIn (d + 1) 108 (.pointer (some a)) (.pointer (some a))).run prog w = .ok true w := fun d => by
    simp [Op.equalIn, Go.run_underlying Tryz.underlying108, sizeOf, typeInfo, hj, Go.run_sameAddr_same]
  simp [Op.equal, Op.maxDepth, h2 9999]
theorem to_unsafe {w : World} {b : Nat} {cs : Array Value} {fr : Nat × Nat} (hb : w.heap[b]? = some (.cells cs 110 fr)) (hs : cs.size = 2) {K : KW} (hK : K (.pointer (some ⟨b, 0, none⟩)) w) :
    eG prog (convert 108 170 (.pointer (some ⟨b, 0, none⟩))) w K := by
  obtain ⟨j, hj, hsz⟩ := info_some Tryz.szB
  exact ⟨_, w, Go.Lib.run_to_unsafe (P := prog) (cells := 2) (e := 110) w ⟨b, 0, none⟩ Tryz.underlying108 Tryz.underlying170 hj (by omega) (by simp [World.shape?, hb, hs]) (Nat.zero_lt_succ 1), hK⟩
theorem from_unsafe {w : World} {b : Nat} {cs : Array Value} {fr : Nat × Nat} (hb : w.heap[b]? = some (.cells cs 110 fr)) (hs : cs.size = 2) {K : KW} (hK : K (.pointer (some ⟨b, 0, none⟩)) w) :
    eG prog (convert 170 108 (.pointer (some ⟨b, 0, none⟩))) w K := by
  obtain ⟨j, hj, hsz⟩ := info_some Tryz.szB
  exact ⟨_, w, Go.Lib.run_from_unsafe (P := prog) (cells := 2) (e := 110) w ⟨b, 0, none⟩ Tryz.underlying170 Tryz.underlying108 hj (by simp [World.shape?, hb, hs]) (by kernel_rfl), hK⟩
theorem no_escape {w : World} {x : Value} {K : KW} (hK : K x w) : nG prog (callFunc 121 #[x]) w K := by
  refine ⟨x, w, ?_, hK⟩
  rw [run_callFunc_extern (e := Extern.AbiNoEscape.same) Tryz.func121 (by kernel_rfl) rfl (by kernel_rfl) (by kernel_rfl)]
  rfl
def BufT (w : World) (v : Value) (l : List UInt8) (S : List Nat) : Prop :=
  (v = .slice none 0 0 ∧ l = [] ∧ S = []) ∨
  ∃ (bl cap : Nat) (c : Array Value) (fr : Nat × Nat), v = .slice (some ⟨bl, 0, none⟩) l.length cap ∧ S = [bl] ∧ w.heap[bl]? = some (.cells c 5 fr) ∧ l ≠ [] ∧ l.length ≤ c.size ∧ l.length ≤ cap ∧ c.toList.take l.length = u8c l
def Bld (w : World) (b : Nat) (l : List UInt8) (S : List Nat) : Prop :=
  ∃ p v SB, w.heap[b]? = some (.cells #[p, v] 110) ∧ (p = .pointer none ∨ p = .pointer (some ⟨b, 0, none⟩)) ∧ RowsT w v 1 5 (l.map byteV) SB ∧ (l = [] → v = .slice none 0 0) ∧ S = b :: SB ∧ b ∉ SB
def BldD (w : World) (b : Nat) (l : List UInt8) (S : List Nat) : Prop :=
  ∃ p v SB, w.heap[b]? = some (.cells #[p, v] 110) ∧ BufT w v l SB ∧ S = b :: SB ∧ b ∉ SB
theorem Bld.keep {w w' : World} {b : Nat} {l : List UInt8} {S S' : List Nat} (h : Bld w b l S) (hk : Kp S' w w') (hd : ∀ x ∈ S, x ∉ S') : Bld w' b l S := by
  obtain ⟨p, v, SB, h1, h2, h3, h4, rfl, h5⟩ := h
  exact ⟨p, v, SB, hk.get h1 (hd b (by simp)), h2, h3.keep hk (fun x hx => hd x (by simp [hx])), h4, rfl, h5⟩
theorem BufT.keep {w w' : World} {v : Value} {l : List UInt8} {S S' : List Nat} (h : BufT w v l S) (hk : Kp S' w w') (hd : ∀ x ∈ S, x ∉ S') : BufT w' v l S := by
  rcases h with h | ⟨bl, cap, c, fr, h1, rfl, h3, h4⟩
  · exact .inl h
  · exact .inr ⟨bl, cap, c, fr, h1, rfl, hk.get h3 (hd bl (by simp)), h4⟩
theorem BldD.keep {w w' : World} {b : Nat} {l : List UInt8} {S S' : List Nat} (h : BldD w b l S) (hk : Kp S' w w') (hd : ∀ x ∈ S, x ∉ S') : BldD w' b l S := by
  obtain ⟨p, v, SB, h1, h2, rfl, h5⟩ := h
  exact ⟨p, v, SB, hk.get h1 (hd b (by simp)), h2.keep hk (fun x hx => hd x (by simp [hx])), rfl, h5⟩
theorem Bld.done {w : World} {b : Nat} {l : List UInt8} {S : List Nat} (h : Bld w b l S) : BldD w b l S := by
  obtain ⟨p, v, SB, h1, h2, h3, h4, rfl, h5⟩ := h
  refine ⟨p, v, SB, h1, ?_, rfl, h5⟩
  by_cases hl : l = []
  · have hv := h4 hl
    subst hl
    rcases h3 with ⟨_, _, h6⟩ | ⟨bl, F, h7, _⟩
    · exact .inl ⟨hv, rfl, h6⟩
    · rw [hv] at h7; cases h7
  · rcases h3 with ⟨_, h6, _⟩ | ⟨bl, F, h7, h8, h9, h10, h11, h12⟩
    · exact absurd (by simpa using h6) hl
    · have hfl := flat_len h10
      simp only [List.length_map] at h7 h11 h12
      refine .inr ⟨bl, F.length, F.flatten.toArray, (0, 0), by rw [h7], h8, h9, hl, ?_, h12, ?_⟩
      · simp only [List.size_toArray, hfl]; omega
      · have := flat_take l.length h10
        rw [Nat.mul_one] at this
        rw [this, h11, byteV_flat]
theorem Bld.live {w : World} {b : Nat} {l : List UInt8} {S : List Nat} (h : Bld w b l S) : ∀ x ∈ S, x < w.heap.size := by
  obtain ⟨p, v, SB, h1, h2, h3, h4, rfl, h5⟩ := h
  intro x hx
  rcases List.mem_cons.1 hx with rfl | hx
  · exact lt_of_blk h1
  · exact h3.at_.lt x hx
theorem bld_new {w : World} : Bld (w.alloc (.cells #[.pointer none, .slice none 0 0] 110)) w.heap.size [] [w.heap.size] :=
  ⟨.pointer none, .slice none 0 0, [], heap_new, .inl rfl, .inl ⟨rfl, rfl, rfl⟩, fun _ => rfl, rfl, by simp⟩
theorem copy_spec {w : World} {b : Nat} {l : List UInt8} {S : List Nat} (h : Bld w b l S) {K : KW} (hK : ∀ w', Bld w' b l S → Kp S w w' → K (.tuple #[]) w') : callG prog 101 #[.pointer (some ⟨b, 0, none⟩)] w K := by
  refine Fn111_call ?_
  have h0 := h
  obtain ⟨p, v, SB, h1, h2, h3, h4, rfl, h5⟩ := h
  simp only [Fn111, Fn111_s0]
  rcases h2 with rfl | rfl
  · simp [-getElem?_pos, -Array.all_eq_true, -Array.getElem?_eq_getElem, -List.length_flatten, gz0, gz1, h1]
    refine to_unsafe h1 rfl ?_
    refine no_escape ?_
    refine from_unsafe h1 rfl ?_
    have lb := live_of h1
    simp [-getElem?_pos, -Array.all_eq_true, -Array.getElem?_eq_getElem, -List.length_flatten, gz0, gz1, h1, lb]
    have hk : Kp [b] w (setBlk w b (.cells #[.pointer (some ⟨b, 0, none⟩), v] 110)) := (Kp.refl _ w).setBlk (.inl (by simp)) _
    refine hK _ ⟨_, v, SB, heap_self lb, .inr rfl, h3.keep hk (fun x hx => by simp; intro hh; exact h5 (hh ▸ hx)), h4, rfl, h5⟩ (hk.mono fun x hx _ => by simp at hx; simp [hx])
  · simp [-getElem?_pos, -Array.all_eq_true, -Array.getElem?_eq_getElem, -List.length_flatten, gz0, gz1, h1]
    rw [bq_psame]
    simp [-getElem?_pos, -Array.all_eq_true, -Array.getElem?_eq_getElem, -List.length_flatten, gz0, gz1]
    exact hK w h0 (Kp.refl _ _)
theorem app_nothing {w : World} {z : Array Value} {K : KW} (hK : K (.slice none 0 0) w) : app 5 1 1 z (.slice none 0 0) (.string (str [])) w K := by
  unfold app
  simp [srcA]
  exact hK
theorem zc5l : zc prog 5 = [Value.int .u8 0].toArray := by kernel_rfl
theorem WriteString_spec {w : World} {b : Nat} {l : List UInt8} {S : List Nat} (h : Bld w b l S) (s : List UInt8) (hl : l.length + s.length < 2 ^ 40) {K : KW}
    (hK : ∀ w' S', Bld w' b (l ++ s) S' → Kp S w w' → (∀ x ∈ S', x ∈ S ∨ w.heap.size ≤ x) → K (.tuple #[.int .i64 s.length, .nilIface]) w') : callG prog 59 #[.pointer (some ⟨b, 0, none⟩), .string (str s)] w K := by
  refine Fn110_call ?_
  simp only [Fn110, Fn110_s0]
  refine copy_spec h fun w1 h1 hk1 => ?_
  obtain ⟨p, v, SB, g1, g2, g3, g4, rfl, g5⟩ := h1
  have lb := live_of g1
  have hsz := hk1.size
  simp [-getElem?_pos, -Array.all_eq_true, -Array.getElem?_eq_getElem, -List.length_flatten, gz0, gz1, g1]
  by_cases h0 : l = [] ∧ s = []
  · obtain ⟨rfl, rfl⟩ := h0
    have hv := g4 rfl
    subst hv
    refine app_nothing ?_
    simp [-getElem?_pos, -Array.all_eq_true, -Array.getElem?_eq_getElem, -List.length_flatten, gz0, gz1, g1, lb]
    have hk : Kp [b] w1 (setBlk w1 b (.cells #[p, .slice none 0 0] 110)) := (Kp.refl _ w1).setBlk (.inl (by simp)) _
    refine hK _ (b :: SB) ⟨p, _, SB, heap_self lb, g2, g3.keep hk (fun x hx => by simp; intro hh; exact g5 (hh ▸ hx)), fun _ => rfl, rfl, g5⟩ (hk1.trans hk fun x hx _ => by simp at hx; simp [hx]) (fun x hx => .inl hx)
  · have hone : ((s.map byteV).flatten).all Q.one = true := by rw [byteV_flat]; have := one_u8c s; rw [List.all_toArray] at this; exact this
    have hsrc : ∀ K' : Nat → Array Value → Prop, K' (s.map byteV).length (s.map byteV).flatten.toArray → srcA 1 (.string (str s)) w1 K' := by
      intro K' hK'
      have he : u8s ((str s).extract 0 s.length) = (u8c s).toArray := by rw [str_extract, List.take_length, List.drop_zero, u8s_eq]; rfl
      rw [byteV_flat, List.length_map] at hK'
      simp only [srcA, str_size, he]
      exact hK'
    rw [zc5l]
    refine rowsT_app (k := 1) (z := [Value.int .u8 0]) (G := s.map byteV) g3 (by omega) rfl (by simp [byteV]) hone hsrc (by simp; omega) (by simp; omega) fun v2 w2 S2 h2 hk2 hS2 => ?_
    have gg := hk2.get g1 g5
    have lb2 := live_of gg
    have hv2 := rows_one h2.at_
    have hbS2 : b ∉ S2 := fun hm => by
      rcases hS2 b hm with h | h
      · exact g5 h
      · have : b < w1.heap.size := lb
        omega
    have hk : Kp [b] w2 (setBlk w2 b (.cells #[p, v2] 110)) := (Kp.refl _ w2).setBlk (.inl (by simp)) _
    simp [-getElem?_pos, -Array.all_eq_true, -Array.getElem?_eq_getElem, -List.length_flatten, gz0, gz1, gg, lb2, hv2]
    refine hK _ (b :: S2) ⟨p, v2, S2, heap_self lb2, g2, ?_, ?_, rfl, hbS2⟩ ?_ ?_
    · rw [List.map_append]
      exact h2.keep hk (fun x hx => by simp; intro hh; exact hbS2 (hh ▸ hx))
    · intro hn
      exact absurd (by simpa using hn) h0
    · exact (hk1.trans hk2 fun x hx _ => by simp [hx]).trans hk fun x hx _ => by simp at hx; simp [hx]
    · intro x hx
      rcases List.mem_cons.1 hx with rfl | hx
      · exact .inl (by simp)
      · rcases hS2 x hx with h | h
        · exact .inl (by simp [h])
        · exact .inr (by omega)
theorem BufT.lenL {w : World} {v : Value} {l : List UInt8} {S : List Nat} (h : BufT w v l S) {K : Value → Prop} : lenL v K = K (.int .i64 l.length) := by
  rcases h with ⟨h1, h2, _⟩ | ⟨bl, cap, c, fr, h1, _⟩
  · rw [h1, h2]; rfl
  · rw [h1]; rfl
theorem Len_spec {w : World} {b : Nat} {l : List UInt8} {S : List Nat} (h : BldD w b l S) {K : KW} (hK : K (.int .i64 l.length) w) : callG prog 95 #[.pointer (some ⟨b, 0, none⟩)] w K := by
  refine Fn107_call ?_
  obtain ⟨p, v, SB, h1, h2, rfl, h5⟩ := h
  simp only [Fn107, Fn107_s0]
  simp [-getElem?_pos, -Array.all_eq_true, -Array.getElem?_eq_getElem, -List.length_flatten, gz0, gz1, h1]
  rw [BufT.lenL h2]
  exact hK
theorem freeze_blk {w : World} {bl n : Nat} {c : Array Value} {T : TypeId} {fr : Nat × Nat} (h : w.heap[bl]? = some (.cells c T fr)) (hn : n ≠ 0) : ∃ fr', w.freeze ⟨bl, 0, none⟩ n = setBlk w bl (.cells c T fr') := by
  obtain ⟨lo, hi⟩ := fr
  refine ⟨if lo == hi then (0, 0 + n) else (min lo 0, max hi (0 + n)), ?_⟩
  unfold World.freeze
  rw [if_neg hn]
  unfold setBlk
  congr 1
  apply Array.ext_getElem?
  intro j
  rw [Array.getElem?_modify, Array.getElem?_setIfInBounds]
  by_cases hj : bl = j
  · subst hj
    rw [if_pos rfl, if_pos rfl, h]
    have := (Array.getElem?_eq_some_iff.1 h).1
    rw [if_pos this]
    rfl
  · rw [if_neg hj, if_neg hj]
theorem String_spec {w : World} {b : Nat} {l : List UInt8} {S : List Nat} (h : BldD w b l S) (hl : l.length < 2 ^ 62) {K : KW}
    (hK : ∀ w', BldD w' b l S → Kp S w w' → K (.string (str l)) w') : callG prog 61 #[.pointer (some ⟨b, 0, none⟩)] w K := by
  refine Fn108_call ?_
  have h0 := h
  obtain ⟨p, v, SB, h1, h2, rfl, h5⟩ := h
  simp only [Fn108, Fn108_s0]
  simp [-getElem?_pos, -Array.all_eq_true, -Array.getElem?_eq_getElem, -List.length_flatten, gz0, gz1, h1]
  rw [BufT.lenL h2]
  have hkd : Kp (b :: SB) w w.drew := (Kp.refl _ _).drew
  rcases h2 with ⟨rfl, rfl, rfl⟩ | ⟨bl, cap, c, fr, rfl, rfl, g3, g4, g5, g6, g7⟩
  · refine ⟨_, _, Go.Lib.run_unsafeSliceData_nil _ _ _ _ _, ?_⟩
    simp [-getElem?_pos, -Array.all_eq_true, -Array.getElem?_eq_getElem, -List.length_flatten, gz0, gz1, h1]
    refine ⟨_, _, Go.Lib.run_unsafeString_none _ _ _ _ _, ?_⟩
    exact hK w.drew h0 hkd
  · have hpos : l.length ≠ 0 := by simpa using g4
    refine ⟨_, _, Go.Lib.run_unsafeSliceData_row _ _ _ _ _ _ (by omega), ?_⟩
    simp [-getElem?_pos, -Array.all_eq_true, -Array.getElem?_eq_getElem, -List.length_flatten, gz0, gz1, h1]
    refine ⟨_, _, Go.Lib.run_unsafeString_row (e := 5) w.drew 150 3 9 Tryz.underlying150 Tryz.cellsOf5 bl c.size (by simp [World.shape?, g3]) l g4 g5 (by omega) ?_, ?_⟩
    · intro j x hx
      have hj : j < l.length := (List.getElem?_eq_some_iff.1 hx).1
      have : c.toList[j]? = (u8c l)[j]? := by rw [← g7, List.getElem?_take_of_lt hj]
      simp only [add_mk, World.cell?, heap_drew, g3, Nat.zero_add]
      rw [← Array.getElem?_toList, this]
      simp [u8c, hx]
    · obtain ⟨fr', hf⟩ := freeze_blk (w := w.drew) (bl := bl) (n := l.length) g3 hpos
      rw [hf]
      have hk : Kp [bl] w.drew (setBlk w.drew bl (.cells c 5 fr')) := (Kp.refl _ _).setBlk (.inl (by simp)) _
      have hne : ¬ b = bl := by simpa using h5
      refine hK _ ⟨p, _, [bl], by rw [heap_ne (fun h => hne h.symm)]; exact h1, .inr ⟨bl, cap, c, fr', rfl, rfl, heap_self (live_of g3), g4, g5, g6, g7⟩, rfl, h5⟩ (hkd.trans hk fun x hx _ => by simp at hx; simp [hx])
theorem WriteByte_spec {w : World} {b : Nat} {l : List UInt8} {S : List Nat} (h : Bld w b l S) (c : UInt8) (hl : l.length < 2 ^ 40) {K : KW}
    (hK : ∀ w' S', Bld w' b (l ++ [c]) S' → Kp S w w' → (∀ x ∈ S', x ∈ S ∨ w.heap.size ≤ x) → K .nilIface w') : callG prog 57 #[.pointer (some ⟨b, 0, none⟩), .int .u8 c.toNat] w K := by
  refine Fn109_call ?_
  simp only [Fn109, Fn109_s0]
  refine copy_spec h fun w1 h1 hk1 => ?_
  obtain ⟨p, v, SB, g1, g2, g3, g4, rfl, g5⟩ := h1
  have hsz := hk1.size
  have lb0 : b < w1.heap.size := lt_of_blk g1
  simp [-getElem?_pos, -Array.all_eq_true, -Array.getElem?_eq_getElem, -List.length_flatten, gz0, gz1, g1]
  rw [bsl_one rfl]
  obtain ⟨wa, hwa⟩ : ∃ wa, wa = w1.alloc (.cells #[.int .u8 c.toNat] 5) := ⟨_, rfl⟩
  have hka : Kp [] w1 wa := by rw [hwa]; exact (Kp.refl [] w1).alloc _
  have hba : wa.heap[w1.heap.size]? = some (.cells #[.int .u8 c.toNat] 5) := by rw [hwa]; exact heap_new
  rw [← hwa]
  have hrd : RdAt wa (.slice (some ⟨w1.heap.size, 0, none⟩) 1 1) 1 ([c].map byteV) [w1.heap.size] :=
    .inr ⟨_, 0, 1, _, _, _, rfl, rfl, hba, by simp [byteV], by simp, by simp [byteV], by simp⟩
  have g3a := g3.keep hka (by simp)
  have g1a := hka.get g1 (by simp)
  have hsza := hka.size
  rw [zc5l]
  refine rowsT_app (k := 1) (z := [Value.int .u8 0]) (G := [c].map byteV) g3a (by omega) rfl (by simp [byteV]) (byteV_one [c]) (fun K' hK' => hrd.src K' hK') (by simp; omega) (by simp; omega) fun v2 w2 S2 h2 hk2 hS2 => ?_
  have gg := hk2.get g1a g5
  have lb2 := live_of gg
  have hv2 := rows_one h2.at_
  have hbS2 : b ∉ S2 := fun hm => by
    rcases hS2 b hm with h | h
    · exact g5 h
    · omega
  have hk : Kp [b] w2 (setBlk w2 b (.cells #[p, v2] 110)) := (Kp.refl _ w2).setBlk (.inl (by simp)) _
  simp [-getElem?_pos, -Array.all_eq_true, -Array.getElem?_eq_getElem, -List.length_flatten, gz0, gz1, gg, lb2, hv2]
  refine hK _ (b :: S2) ⟨p, v2, S2, heap_self lb2, g2, ?_, ?_, rfl, hbS2⟩ ?_ ?_
  · rw [List.map_append]
    exact h2.keep hk (fun x hx => by simp; intro hh; exact hbS2 (hh ▸ hx))
  · intro hn
    simp at hn
  · exact ((hk1.trans' (hka.mono (by simp))).trans hk2 fun x hx _ => by simp [hx]).trans hk fun x hx _ => by simp at hx; simp [hx]
  · intro x hx
    rcases List.mem_cons.1 hx with rfl | hx
    · exact .inl (by simp)
    · rcases hS2 x hx with h | h
      · exact .inl (by simp [h])
      · exact .inr (by omega)
structure Bd (w0 w : World) (b : Nat) (l : List UInt8) : Prop where
  ex : ∃ S, Bld w b l S ∧ ∀ x ∈ S, w0.heap.size ≤ x
  kp : Kp [] w0 w
theorem Bd.keep {w0 w w' : World} {b : Nat} {l : List UInt8} (h : Bd w0 w b l) (hk : Kp [] w w') : Bd w0 w' b l := by
  obtain ⟨S, h1, h2⟩ := h.ex
  exact ⟨⟨S, h1.keep hk (by simp), h2⟩, h.kp.trans' hk⟩
theorem bd_new {w : World} : Bd w (w.alloc (.cells #[.pointer none, .slice none 0 0] 110)) w.heap.size [] := ⟨⟨_, bld_new, by simp⟩, (Kp.refl [] w).alloc _⟩
theorem zcB : zc prog 110 = #[.pointer none, .slice none 0 0] := by kernel_rfl
theorem bd_string {w0 w : World} {b : Nat} {l : List UInt8} (h : Bd w0 w b l) (s : List UInt8) (hl : l.length + s.length < 2 ^ 40) {K : KW}
    (hK : ∀ w', Bd w0 w' b (l ++ s) → K (.tuple #[.int .i64 s.length, .nilIface]) w') : callG prog 59 #[.pointer (some ⟨b, 0, none⟩), .string (str s)] w K := by
  obtain ⟨S, h1, h2⟩ := h.ex
  refine WriteString_spec h1 s hl fun w' S' h' hk hS => ?_
  have hs := h.kp.size
  refine hK w' ⟨⟨S', h', fun x hx => ?_⟩, h.kp.trans hk fun x hx hlt => by have := h2 x hx; omega⟩
  rcases hS x hx with h | h
  · exact h2 x h
  · omega
theorem bd_byte {w0 w : World} {b : Nat} {l : List UInt8} (h : Bd w0 w b l) (c : UInt8) (hl : l.length < 2 ^ 40) {K : KW}
    (hK : ∀ w', Bd w0 w' b (l ++ [c]) → K .nilIface w') : callG prog 57 #[.pointer (some ⟨b, 0, none⟩), .int .u8 c.toNat] w K := by
  obtain ⟨S, h1, h2⟩ := h.ex
  refine WriteByte_spec h1 c hl fun w' S' h' hk hS => ?_
  have hs := h.kp.size
  refine hK w' ⟨⟨S', h', fun x hx => ?_⟩, h.kp.trans hk fun x hx hlt => by have := h2 x hx; omega⟩
  rcases hS x hx with h | h
  · exact h2 x h
  · omega
theorem bd_text {w0 w : World} {b : Nat} {l : List UInt8} (h : Bd w0 w b l) (hl : l.length < 2 ^ 62) {K : KW} (hK : ∀ w', Kp [] w0 w' → K (.string (str l)) w') :
    callG prog 61 #[.pointer (some ⟨b, 0, none⟩)] w K := by
  obtain ⟨S, h1, h2⟩ := h.ex
  exact String_spec h1.done hl fun w' _ hk => hK w' (h.kp.trans hk fun x hx hlt => by have := h2 x hx; omega)
end Go.Proofs

set_option linter.unusedVariables false
set_option linter.unusedSimpArgs false
namespace Go.Q
variable {P : Program} {T : TypeId} {xo yo : Operand} {w : World} {K : Value → Prop} {u : Value}
theorem and_mask (x : Int) (m : Nat) (hm : m < 63) : IntKind.i64.wrap ((BitVec.ofInt 64 x &&& BitVec.ofInt 64 (2 ^ m - 1)).toNat : Int) = x % 2 ^ m := by
  have hp : (2 : Nat) ^ m ≤ 2 ^ 62 := Nat.pow_le_pow_right (by omega) (by omega)
  have hpos : 0 < (2 : Nat) ^ m := Nat.two_pow_pos m
  have h1 : (BitVec.ofInt 64 ((2 : Int) ^ m - 1)).toNat = 2 ^ m - 1 := by
    rw [BitVec.toNat_ofInt]
    have : ((2 : Int) ^ m - 1) = ((2 ^ m - 1 : Nat) : Int) := by
      rw [Int.ofNat_sub hpos]; simp
    rw [this]
    have hlt : 2 ^ m - 1 < 2 ^ 64 := by omega
    omega
  have h2 : ((BitVec.ofInt 64 x).toNat : Int) = x % 2 ^ 64 := by
    rw [BitVec.toNat_ofInt, Int.toNat_of_nonneg (Int.emod_nonneg _ (by decide))]
    rfl
  rw [BitVec.toNat_and, h1, Nat.and_two_pow_sub_one_eq_mod]
  have hd : ((2 : Int) ^ m) ∣ 2 ^ 64 := ⟨2 ^ (64 - m), by rw [← Int.pow_add, show m + (64 - m) = 64 by omega]⟩
  have h3 : (((BitVec.ofInt 64 x).toNat % 2 ^ m : Nat) : Int) = x % 2 ^ m := by
    rw [Int.natCast_emod, h2]
    have : ((2 ^ m : Nat) : Int) = (2 : Int) ^ m := by simp
    rw [this]
    exact Int.emod_emod_of_dvd x hd
  rw [h3]
  have hp' : (2 : Int) ^ m ≤ 2 ^ 62 := by
    have : ((2 ^ m : Nat) : Int) = (2 : Int) ^ m := by simp
    rw [← this]; omega
  have hpos' : (0 : Int) < 2 ^ m := Int.pow_pos (by omega)
  have := Int.emod_nonneg x (Int.ne_of_gt hpos')
  have := Int.emod_lt_of_pos x hpos'
  exact wrap64 _ (by omega) (by omega)
theorem run_and_mask {x c : Int} (m : Nat) (hm : m < 63) (hc : c = 2 ^ m - 1) : (bq .and T xo yo (.int .i64 x) (.int .i64 c)).run P w = .ok (.int .i64 (x % 2 ^ m)) w :=
  run_bq_int (s := .pure _) fun w => by
    have := and_mask x m hm
    rw [← hc] at this
    simp only [binOp, ne_eq, not_true_eq_false, if_false, Op.intBits]
    show Result.ok _ _ = Result.ok _ _
    congr 2
theorem and_of {x c : Int} (m : Nat) (hm : m < 63) (hc : c = 2 ^ m - 1) : qG P (bq .and T xo yo (.int .i64 x) (.int .i64 c)) w K = K (.int .i64 (x % 2 ^ m)) := qG_of (run_and_mask m hm hc)
theorem sand_of {x c : Int} (m : Nat) (hm : m < 63) (hc : c = 2 ^ m - 1) : stb P (bq .and T xo yo (.int .i64 x) (.int .i64 c)) u w = (.int .i64 (x % 2 ^ m) = u) := stb_of (run_and_mask m hm hc)
@[simp] theorem and1 {x : Int} : qG P (bq .and T xo yo (.int .i64 x) (.int .i64 1)) w K = K (.int .i64 (x % 2)) := and_of 1 (by omega) (by decide)
@[simp] theorem and7 {x : Int} : qG P (bq .and T xo yo (.int .i64 x) (.int .i64 7)) w K = K (.int .i64 (x % 8)) := and_of 3 (by omega) (by decide)
@[simp] theorem and15 {x : Int} : qG P (bq .and T xo yo (.int .i64 x) (.int .i64 15)) w K = K (.int .i64 (x % 16)) := and_of 4 (by omega) (by decide)
@[simp] theorem and127 {x : Int} : qG P (bq .and T xo yo (.int .i64 x) (.int .i64 127)) w K = K (.int .i64 (x % 128)) := and_of 7 (by omega) (by decide)
@[simp] theorem and255 {x : Int} : qG P (bq .and T xo yo (.int .i64 x) (.int .i64 255)) w K = K (.int .i64 (x % 256)) := and_of 8 (by omega) (by decide)
@[simp] theorem and511 {x : Int} : qG P (bq .and T xo yo (.int .i64 x) (.int .i64 511)) w K = K (.int .i64 (x % 512)) := and_of 9 (by omega) (by decide)
@[simp] theorem and65535 {x : Int} : qG P (bq .and T xo yo (.int .i64 x) (.int .i64 65535)) w K = K (.int .i64 (x % 65536)) := and_of 16 (by omega) (by decide)
@[simp] theorem sand1 {x : Int} : stb P (bq .and T xo yo (.int .i64 x) (.int .i64 1)) u w = (.int .i64 (x % 2) = u) := sand_of 1 (by omega) (by decide)
@[simp] theorem sand7 {x : Int} : stb P (bq .and T xo yo (.int .i64 x) (.int .i64 7)) u w = (.int .i64 (x % 8) = u) := sand_of 3 (by omega) (by decide)
@[simp] theorem sand255 {x : Int} : stb P (bq .and T xo yo (.int .i64 x) (.int .i64 255)) u w = (.int .i64 (x % 256) = u) := sand_of 8 (by omega) (by decide)
theorem run_shr {x y : Int} {k yk : IntKind} (h0 : 0 ≤ y) (h1 : y < k.bits) : (bq .shr T xo yo (.int k x) (.int yk y)).run P w = .ok (.int k (x / 2 ^ y.toNat)) w := by
  show (Op.shift .shr k x yk y).run P w = _
  have hn : ¬ y < 0 := by omega
  have hm : min y.toNat k.bits = y.toNat := by omega
  simp only [Op.shift, hn, if_false, hm]
  show Result.ok _ _ = Result.ok _ _
  congr 2
  exact (Int.fdiv_eq_ediv_of_nonneg x (Int.le_of_lt (Int.pow_pos (by omega))))
theorem shr_of {x y : Int} {k yk : IntKind} (h0 : 0 ≤ y) (h1 : y < k.bits) : qG P (bq .shr T xo yo (.int k x) (.int yk y)) w K = K (.int k (x / 2 ^ y.toNat)) := qG_of (run_shr h0 h1)
theorem run_rem {x y : Int} {k : IntKind} (hx : 0 ≤ x) (hy : 0 < y) : (bq .rem T xo yo (.int k x) (.int k y)).run P w = .ok (.int k (x % y)) w :=
  run_bq_int (s := .pure _) fun w => by
    have : ¬ y = 0 := by omega
    simp only [binOp, ne_eq, not_true_eq_false, if_false, Op.intDiv, this]
    show Result.ok _ _ = Result.ok _ _
    rw [Int.tmod_eq_emod_of_nonneg hx]
theorem rem_of {x y : Int} {k : IntKind} (hx : 0 ≤ x) (hy : 0 < y) : qG P (bq .rem T xo yo (.int k x) (.int k y)) w K = K (.int k (x % y)) := qG_of (run_rem hx hy)
theorem run_quo {x y : Int} {k : IntKind} (hx : 0 ≤ x) (hy : 0 < y) : (bq .quo T xo yo (.int k x) (.int k y)).run P w = .ok (.int k (k.wrap (x / y))) w :=
  run_bq_int (s := .pure _) fun w => by
    have : ¬ y = 0 := by omega
    simp only [binOp, ne_eq, not_true_eq_false, if_false, Op.intDiv, this]
    show Result.ok _ _ = Result.ok _ _
    rw [Int.tdiv_eq_ediv_of_nonneg hx]
theorem quo_of {x y : Int} {k : IntKind} (hx : 0 ≤ x) (hy : 0 < y) : qG P (bq .quo T xo yo (.int k x) (.int k y)) w K = K (.int k (k.wrap (x / y))) := qG_of (run_quo hx hy)
end Go.Q

set_option linter.unusedVariables false
set_option linter.unusedSimpArgs false
namespace Go.Q
variable {P : Program} {T : TypeId} {xo yo : Operand} {w : World} {K : Value → Prop} {u : Value}
theorem ofInt_nat (n : Nat) (b : Nat) : (BitVec.ofInt b (n : Int)).toNat = n % 2 ^ b := by simp [BitVec.toNat_ofInt]
theorem wrap_nat64 {n : Nat} (h : n < 2 ^ 63) : IntKind.i64.wrap (n : Int) = n := wrap64 _ (by omega) (by omega)
theorem wrap_nat32 {n : Nat} (h : n < 2 ^ 32) : IntKind.u32.wrap (n : Int) = n := by
  simp [IntKind.wrap, IntKind.bits, IntKind.signed]; omega
theorem xor64_of {x y : Nat} (hx : x < 2 ^ 63) (hy : y < 2 ^ 63) : qG P (bq .xor T xo yo (.int .i64 x) (.int .i64 y)) w K = K (.int .i64 ((x ^^^ y : Nat) : Int)) :=
  qG_of (run_bq_int (s := .pure _) fun w => by
    have h2 : IntKind.i64.wrap ((BitVec.ofInt 64 (x : Int) ^^^ BitVec.ofInt 64 (y : Int)).toNat : Int) = ((x ^^^ y : Nat) : Int) := by
      rw [BitVec.toNat_xor, ofInt_nat, ofInt_nat, Nat.mod_eq_of_lt (by omega), Nat.mod_eq_of_lt (by omega)]; exact wrap_nat64 (Nat.xor_lt_two_pow hx hy)
    simp only [binOp, ne_eq, not_true_eq_false, if_false, Op.intBits]
    show Result.ok _ _ = Result.ok _ _
    congr 2)
theorem or64_of {x y : Nat} (hx : x < 2 ^ 63) (hy : y < 2 ^ 63) : qG P (bq .or T xo yo (.int .i64 x) (.int .i64 y)) w K = K (.int .i64 ((x ||| y : Nat) : Int)) :=
  qG_of (run_bq_int (s := .pure _) fun w => by
    have h2 : IntKind.i64.wrap ((BitVec.ofInt 64 (x : Int) ||| BitVec.ofInt 64 (y : Int)).toNat : Int) = ((x ||| y : Nat) : Int) := by
      rw [BitVec.toNat_or, ofInt_nat, ofInt_nat, Nat.mod_eq_of_lt (by omega), Nat.mod_eq_of_lt (by omega)]; exact wrap_nat64 (Nat.or_lt_two_pow hx hy)
    simp only [binOp, ne_eq, not_true_eq_false, if_false, Op.intBits]
    show Result.ok _ _ = Result.ok _ _
    congr 2)
theorem xor32_of {x y : Nat} (hx : x < 2 ^ 32) (hy : y < 2 ^ 32) : qG P (bq .xor T xo yo (.int .u32 x) (.int .u32 y)) w K = K (.int .u32 ((x ^^^ y : Nat) : Int)) :=
  qG_of (run_bq_int (s := .pure _) fun w => by
    have h2 : IntKind.u32.wrap ((BitVec.ofInt 32 (x : Int) ^^^ BitVec.ofInt 32 (y : Int)).toNat : Int) = ((x ^^^ y : Nat) : Int) := by
      rw [BitVec.toNat_xor, ofInt_nat, ofInt_nat, Nat.mod_eq_of_lt (by omega), Nat.mod_eq_of_lt (by omega)]; exact wrap_nat32 (Nat.xor_lt_two_pow hx hy)
    simp only [binOp, ne_eq, not_true_eq_false, if_false, Op.intBits]
    show Result.ok _ _ = Result.ok _ _
    congr 2)
theorem and32_of {x y : Nat} (hx : x < 2 ^ 32) (hy : y < 2 ^ 32) : qG P (bq .and T xo yo (.int .u32 x) (.int .u32 y)) w K = K (.int .u32 ((x &&& y : Nat) : Int)) :=
  qG_of (run_bq_int (s := .pure _) fun w => by
    have h2 : IntKind.u32.wrap ((BitVec.ofInt 32 (x : Int) &&& BitVec.ofInt 32 (y : Int)).toNat : Int) = ((x &&& y : Nat) : Int) := by
      rw [BitVec.toNat_and, ofInt_nat, ofInt_nat, Nat.mod_eq_of_lt (by omega), Nat.mod_eq_of_lt (by omega)]; exact wrap_nat32 (Nat.and_lt_two_pow _ hy)
    simp only [binOp, ne_eq, not_true_eq_false, if_false, Op.intBits]
    show Result.ok _ _ = Result.ok _ _
    congr 2)
theorem neg32_of {x : Nat} (hx : x < 2 ^ 32) : qG P (Op.unary .neg (.int .u32 x)) w K = K (.int .u32 (((2 ^ 32 - x) % 2 ^ 32 : Nat) : Int)) :=
  qG_of (by
    have : IntKind.u32.wrap (0 - (x : Int)) = (((2 ^ 32 - x) % 2 ^ 32 : Nat) : Int) := by
      simp [IntKind.wrap, IntKind.bits, IntKind.signed]; omega
    show Result.ok _ _ = Result.ok _ _
    congr 2)
theorem not32_of {x : Nat} (hx : x < 2 ^ 32) : qG P (Op.unary .xor (.int .u32 x)) w K = K (.int .u32 (((2 ^ 32 - 1) ^^^ x : Nat) : Int)) :=
  qG_of (by
    have h2 : IntKind.u32.wrap ((BitVec.ofInt 32 IntKind.u32.max ^^^ BitVec.ofInt 32 (x : Int)).toNat : Int) = (((2 ^ 32 - 1) ^^^ x : Nat) : Int) := by
      have hm : IntKind.u32.max = ((2 ^ 32 - 1 : Nat) : Int) := by decide
      rw [hm, BitVec.toNat_xor, ofInt_nat, ofInt_nat, Nat.mod_eq_of_lt (by omega), Nat.mod_eq_of_lt (by omega)]; exact wrap_nat32 (Nat.xor_lt_two_pow (by omega) hx)
    show Result.ok _ _ = Result.ok _ _
    congr 2)
theorem shl_of {x y : Int} {k yk : IntKind} (h0 : 0 ≤ y) (h1 : y < k.bits) : qG P (bq .shl T xo yo (.int k x) (.int yk y)) w K = K (.int k (k.wrap (x * 2 ^ y.toNat))) := by
  refine qG_of ?_
  show (Op.shift .shl k x yk y).run P w = _
  have hn : ¬ y < 0 := by omega
  have hm : min y.toNat k.bits = y.toNat := by omega
  simp only [Op.shift, hn, if_false, hm]
  rfl
end Go.Q

set_option linter.unusedVariables false
set_option linter.unusedSimpArgs false
namespace Go.Q
variable {P : Program} {T : TypeId} {xo yo : Operand} {w : World} {K : Value → Prop} {u : Value}
theorem wrap_natu64 {n : Nat} (h : n < 2 ^ 64) : IntKind.u64.wrap (n : Int) = n := by
  simp [IntKind.wrap, IntKind.bits, IntKind.signed]; omega
theorem wrap_natu8 {n : Nat} (h : n < 2 ^ 8) : IntKind.u8.wrap (n : Int) = n := by
  simp [IntKind.wrap, IntKind.bits, IntKind.signed]; omega
theorem oru64_of {x y : Nat} (hx : x < 2 ^ 64) (hy : y < 2 ^ 64) : qG P (bq .or T xo yo (.int .u64 x) (.int .u64 y)) w K = K (.int .u64 ((x ||| y : Nat) : Int)) :=
  qG_of (run_bq_int (s := .pure _) fun w => by
    have h2 : IntKind.u64.wrap ((BitVec.ofInt 64 (x : Int) ||| BitVec.ofInt 64 (y : Int)).toNat : Int) = ((x ||| y : Nat) : Int) := by
      rw [BitVec.toNat_or, ofInt_nat, ofInt_nat, Nat.mod_eq_of_lt (by omega), Nat.mod_eq_of_lt (by omega)]; exact wrap_natu64 (Nat.or_lt_two_pow hx hy)
    simp only [binOp, ne_eq, not_true_eq_false, if_false, Op.intBits]
    show Result.ok _ _ = Result.ok _ _
    congr 2)
theorem xoru64_of {x y : Nat} (hx : x < 2 ^ 64) (hy : y < 2 ^ 64) : qG P (bq .xor T xo yo (.int .u64 x) (.int .u64 y)) w K = K (.int .u64 ((x ^^^ y : Nat) : Int)) :=
  qG_of (run_bq_int (s := .pure _) fun w => by
    have h2 : IntKind.u64.wrap ((BitVec.ofInt 64 (x : Int) ^^^ BitVec.ofInt 64 (y : Int)).toNat : Int) = ((x ^^^ y : Nat) : Int) := by
      rw [BitVec.toNat_xor, ofInt_nat, ofInt_nat, Nat.mod_eq_of_lt (by omega), Nat.mod_eq_of_lt (by omega)]; exact wrap_natu64 (Nat.xor_lt_two_pow hx hy)
    simp only [binOp, ne_eq, not_true_eq_false, if_false, Op.intBits]
    show Result.ok _ _ = Result.ok _ _
    congr 2)
theorem xoru8_of {x y : Nat} (hx : x < 2 ^ 8) (hy : y < 2 ^ 8) : qG P (bq .xor T xo yo (.int .u8 x) (.int .u8 y)) w K = K (.int .u8 ((x ^^^ y : Nat) : Int)) :=
  qG_of (run_bq_int (s := .pure _) fun w => by
    have h2 : IntKind.u8.wrap ((BitVec.ofInt 8 (x : Int) ^^^ BitVec.ofInt 8 (y : Int)).toNat : Int) = ((x ^^^ y : Nat) : Int) := by
      rw [BitVec.toNat_xor, ofInt_nat, ofInt_nat, Nat.mod_eq_of_lt (by omega), Nat.mod_eq_of_lt (by omega)]; exact wrap_natu8 (Nat.xor_lt_two_pow hx hy)
    simp only [binOp, ne_eq, not_true_eq_false, if_false, Op.intBits]
    show Result.ok _ _ = Result.ok _ _
    congr 2)
theorem or_mul {x y k : Nat} (hx : x < 2 ^ k) : (y * 2 ^ k) ||| x = y * 2 ^ k + x := by
  rw [Nat.mul_comm y, Nat.two_pow_add_eq_or_of_lt hx]
theorem xor_top {x : Nat} (hx : x < 2 ^ 64) : x ^^^ 2 ^ 63 = (x + 2 ^ 63) % 2 ^ 64 := by
  have key : ∀ y, y < 2 ^ 63 → 2 ^ 63 + y = 2 ^ 63 ||| y := fun y hy => by
    have := Nat.two_pow_add_eq_or_of_lt hy 1
    rw [Nat.mul_one] at this
    exact this
  apply Nat.eq_of_testBit_eq
  intro i
  rw [Nat.testBit_xor, Nat.testBit_two_pow]
  have hx2 : x = (x / 2 ^ 63) * 2 ^ 63 + x % 2 ^ 63 := by omega
  have hr : x % 2 ^ 63 < 2 ^ 63 := Nat.mod_lt _ (by decide)
  have hq : x / 2 ^ 63 = 0 ∨ x / 2 ^ 63 = 1 := by omega
  rcases hq with hq | hq
  · have e : (x + 2 ^ 63) % 2 ^ 64 = 2 ^ 63 + x := by omega
    rw [e, key x (by omega)]
    rw [Nat.testBit_or]
    have hb : (2 ^ 63 : Nat).testBit i = decide (63 = i) := Nat.testBit_two_pow
    rw [hb]
    by_cases hi : 63 = i
    · subst hi
      have : x.testBit 63 = false := Nat.testBit_lt_two_pow (by omega)
      simp [this]
    · simp [hi]
  · have e : (x + 2 ^ 63) % 2 ^ 64 = x - 2 ^ 63 := by omega
    rw [e]
    obtain ⟨y, hy⟩ : ∃ y, y = x - 2 ^ 63 := ⟨_, rfl⟩
    have hxy : x = 2 ^ 63 + y := by omega
    have hylt : y < 2 ^ 63 := by omega
    rw [← hy, hxy, key y hylt]
    rw [Nat.testBit_or]
    have hb : (2 ^ 63 : Nat).testBit i = decide (63 = i) := Nat.testBit_two_pow
    rw [hb]
    by_cases hi : 63 = i
    · subst hi
      have : y.testBit 63 = false := Nat.testBit_lt_two_pow hylt
      simp [this]
    · simp [hi]
theorem xor_top8 {x : Nat} (hx : x < 2 ^ 8) : x ^^^ 128 = (x + 128) % 256 := by
  have : ∀ y : Fin 256, y.val ^^^ 128 = (y.val + 128) % 256 := by decide +kernel
  exact this ⟨x, hx⟩
end Go.Q

set_option linter.unusedVariables false
set_option linter.unusedSimpArgs false
namespace Go.Q
structure V3 where
  k : Int
  n : Int
  s : List UInt8
  deriving DecidableEq
def valV (v : V3) : List Value := [.int .i64 v.k, .int .i64 v.n, .string (str v.s)]
def V3.ok (v : V3) : Bool :=
  if v.k = 0 then decide (v.n = 0 ∧ v.s = []) else if v.k = 1 then decide (v.s = []) else if v.k = 2 then decide (v.n = 0 ∧ v.s.length ≤ 64)
  else if v.k = 3 then decide ((v.n = 0 ∨ v.n = 1) ∧ v.s = []) else false
structure V3.Wf (v : V3) : Prop where
  k0 : -9223372036854775808 ≤ v.k
  k1 : v.k < 9223372036854775808
  n0 : -9223372036854775808 ≤ v.n
  n1 : v.n < 9223372036854775808
  s : v.s.length < 2 ^ 39
def bOf (x : Int) : UInt8 := UInt8.ofNat (x % 256).toNat
def be (m N : Nat) : List UInt8 := (List.range m).map fun i => UInt8.ofNat (N / 256 ^ (m - 1 - i) % 256)
def beN (l : List UInt8) : Nat := l.foldl (fun a c => a * 256 + c.toNat) 0
theorem be_len (m N : Nat) : (be m N).length = m := by simp [be]
theorem be_get {m N i : Nat} (h : i < m) : (be m N)[i]? = some (UInt8.ofNat (N / 256 ^ (m - 1 - i) % 256)) := by simp [be, h]
theorem be_succ (m N : Nat) : be (m + 1) N = be m (N / 256) ++ [UInt8.ofNat (N % 256)] := by
  unfold be
  rw [List.range_succ, List.map_append]
  congr 1
  · apply List.map_congr_left
    intro i hi
    rw [List.mem_range] at hi
    rw [Nat.div_div_eq_div_mul]
    have : m + 1 - 1 - i = (m - 1 - i) + 1 := by omega
    rw [this, Nat.pow_succ, Nat.mul_comm]
  · simp
theorem beN_snoc (l : List UInt8) (c : UInt8) : beN (l ++ [c]) = beN l * 256 + c.toNat := by simp [beN]
theorem beN_lt (l : List UInt8) : beN l < 256 ^ l.length := by
  have key : ∀ (l : List UInt8) (a b : Nat), a < b → l.foldl (fun a c => a * 256 + c.toNat) a < b * 256 ^ l.length := by
    intro l
    induction l with
    | nil => intro a b h; simpa using h
    | cons c l ih =>
      intro a b h
      have hc := c.toNat_lt
      have := ih (a * 256 + c.toNat) (b * 256) (by omega)
      rw [List.foldl_cons, List.length_cons, Nat.pow_succ, Nat.mul_comm (256 ^ l.length) 256, ← Nat.mul_assoc]
      exact this
  have := key l 0 1 (by omega)
  simpa [beN] using this
theorem be_beN : ∀ (m : Nat) (l : List UInt8), l.length = m → be m (beN l) = l := by
  intro m
  induction m with
  | zero => intro l h; have : l = [] := List.length_eq_zero_iff.1 h; subst this; rfl
  | succ m ih =>
    intro l h
    rcases List.eq_nil_or_concat l with h0 | ⟨l', c, h0⟩
    · subst h0; simp at h
    · rw [List.concat_eq_append] at h0
      subst h0
      have hl : l'.length = m := by simpa using h
      have hc := c.toNat_lt
      rw [be_succ, beN_snoc]
      have e1 : (beN l' * 256 + c.toNat) / 256 = beN l' := by omega
      have e2 : (beN l' * 256 + c.toNat) % 256 = c.toNat := by omega
      rw [e1, e2, ih l' hl]
      simp
def be8 (n : Int) : List UInt8 := be 8 (n + 9223372036854775808).toNat
def unbe8 (l : List UInt8) : Int := (beN l : Int) - 9223372036854775808
theorem be8_len (n : Int) : (be8 n).length = 8 := be_len _ _
theorem be8_unbe8 {l : List UInt8} (h : l.length = 8) : be8 (unbe8 l) = l := by
  unfold unbe8 be8
  have : ((beN l : Int) - 9223372036854775808 + 9223372036854775808).toNat = beN l := by omega
  rw [this, be_beN 8 l h]
theorem unbe8_wf {l : List UInt8} (h : l.length = 8) : -9223372036854775808 ≤ unbe8 l ∧ unbe8 l < 9223372036854775808 := by
  have := beN_lt l
  rw [h] at this
  unfold unbe8
  omega
def V3.bytes (v : V3) : List UInt8 := bOf v.k :: (if v.k = 1 then be8 v.n else if v.k = 2 then bOf v.s.length :: v.s else if v.k = 3 then [bOf v.n] else [])
def rowB (r : List V3) : List UInt8 := (r.map V3.bytes).flatten
def putRow (r : List V3) : List UInt8 × Int := if r.length ≤ 255 ∧ r.all V3.ok = true then (bOf r.length :: rowB r, 0) else ([], 1)
def oneV (s : List UInt8) : Option (V3 × Nat) :=
  match s with
  | [] => none
  | c :: t =>
    if c = 0 then some (⟨0, 0, []⟩, 1)
    else if c = 1 then (if t.length < 8 then none else some (⟨1, unbe8 (t.take 8), []⟩, 9))
    else if c = 2 then
      match t with
      | [] => none
      | d :: u => if u.length < d.toNat ∨ 64 < d.toNat then none else some (⟨2, 0, u.take d.toNat⟩, 2 + d.toNat)
    else if c = 3 then
      match t with
      | [] => none
      | d :: _ => if 1 < d.toNat then none else some (⟨3, d.toNat, []⟩, 2)
    else none
def takeL : Nat → List UInt8 → Option (List V3 × List UInt8)
  | 0, s => some ([], s)
  | n + 1, s =>
    match oneV s with
    | none => none
    | some (v, k) =>
      match takeL n (s.drop k) with
      | none => none
      | some (l, r) => some (v :: l, r)
def takeRow (s : List UInt8) : List V3 × Int :=
  match s with
  | [] => ([], 50)
  | c :: t =>
    match takeL c.toNat t with
    | some (l, []) => (l, 0)
    | _ => ([], 50)
theorem bOf_nat {n : Nat} (h : n < 256) : (bOf (n : Int)).toNat = n := by unfold bOf; simp; omega
theorem oneV_some {s : List UInt8} {v : V3} {k : Nat} (h : oneV s = some (v, k)) : v.ok = true ∧ v.Wf ∧ s = v.bytes ++ s.drop k ∧ k = v.bytes.length ∧ 0 < k ∧ k ≤ s.length := by
  cases s with
  | nil => simp [oneV] at h
  | cons c t =>
    unfold oneV at h
    simp only at h
    by_cases h0 : c = 0
    · subst h0
      rw [if_pos rfl] at h
      injection h with h; injection h with h1 h2; subst h1; subst h2
      exact ⟨rfl, ⟨by decide, by decide, by decide, by decide, by decide⟩, rfl, rfl, by omega, by simp⟩
    rw [if_neg h0] at h
    by_cases h1 : c = 1
    · subst h1
      rw [if_pos rfl] at h
      split at h
      · cases h
      · rename_i hl
        injection h with h; injection h with h1 h2; subst h1; subst h2
        have hl8 : (t.take 8).length = 8 := by rw [List.length_take]; omega
        have hw := unbe8_wf hl8
        have hb : V3.bytes ⟨1, unbe8 (t.take 8), []⟩ = 1 :: t.take 8 := by
          show (1 : UInt8) :: be8 (unbe8 (t.take 8)) = _
          rw [be8_unbe8 hl8]
        refine ⟨rfl, ⟨by simp, by simp, hw.1, hw.2, by simp⟩, ?_, ?_, by omega, by simp; omega⟩
        · rw [hb]; simp
        · rw [hb]; simp; omega
    rw [if_neg h1] at h
    by_cases h2 : c = 2
    · subst h2
      rw [if_pos rfl] at h
      cases t with
      | nil => cases h
      | cons d u =>
        simp only at h
        split at h
        · cases h
        · rename_i hl
          injection h with h; injection h with h1 h2; subst h1; subst h2
          have hlt : (u.take d.toNat).length = d.toNat := by rw [List.length_take]; omega
          have hb : V3.bytes ⟨2, 0, u.take d.toNat⟩ = 2 :: d :: u.take d.toNat := by
            show (2 : UInt8) :: bOf (u.take d.toNat).length :: u.take d.toNat = _
            rw [hlt]
            have : bOf (d.toNat : Int) = d := by
              apply UInt8.toNat_inj.1
              exact bOf_nat d.toNat_lt
            rw [this]
          refine ⟨?_, ⟨by simp, by simp, by simp, by simp, by simp only [hlt]; omega⟩, ?_, ?_, by omega, by simp; omega⟩
          · simp [V3.ok]; omega
          · rw [hb, show 2 + d.toNat = d.toNat + 1 + 1 by omega]; simp
          · rw [hb]; simp [hlt]; omega
    rw [if_neg h2] at h
    by_cases h3 : c = 3
    · subst h3
      rw [if_pos rfl] at h
      cases t with
      | nil => cases h
      | cons d u =>
        simp only at h
        split at h
        · cases h
        · rename_i hl
          injection h with h; injection h with h1 h2; subst h1; subst h2
          have hd : d.toNat = 0 ∨ d.toNat = 1 := by omega
          have hb : bOf (d.toNat : Int) = d := by
            apply UInt8.toNat_inj.1
            exact bOf_nat d.toNat_lt
          refine ⟨?_, ⟨by simp, by simp, by simp only; omega, by simp only; omega, by simp⟩, ?_, rfl, by omega, by simp⟩
          · simp [V3.ok]; omega
          · show _ = [(3 : UInt8), bOf (d.toNat : Int)] ++ _
            rw [hb]; rfl
    rw [if_neg h3] at h
    cases h
theorem takeL_some : ∀ (n : Nat) {s : List UInt8} {l : List V3} {r : List UInt8}, takeL n s = some (l, r) → l.length = n ∧ l.all V3.ok = true ∧ (∀ v ∈ l, v.Wf) ∧ s = rowB l ++ r := by
  intro n
  induction n with
  | zero =>
    intro s l r h
    unfold takeL at h
    injection h with h; injection h with h1 h2; subst h1; subst h2
    exact ⟨rfl, rfl, by simp, rfl⟩
  | succ n ih =>
    intro s l r h
    unfold takeL at h
    split at h
    · cases h
    · rename_i v k hv
      obtain ⟨h1, h2, h3, h4, h5, h6⟩ := oneV_some hv
      split at h
      · cases h
      · rename_i l' r' hl
        injection h with h; injection h with e1 e2; subst e1; subst e2
        obtain ⟨g1, g2, g3, g4⟩ := ih hl
        refine ⟨by simp [g1], by simp [h1, g2], fun x hx => ?_, ?_⟩
        · rcases List.mem_cons.1 hx with rfl | hx
          · exact h2
          · exact g3 x hx
        · rw [h3, g4]; simp [rowB]
theorem oneV_len {s : List UInt8} {v : V3} {k : Nat} (h : oneV s = some (v, k)) : k ≤ s.length := (oneV_some h).2.2.2.2.2
end Go.Q

set_option linter.unusedVariables false
set_option linter.unusedSimpArgs false
namespace Go.Q
theorem bld_step {places : List (Nat × Nat)} {z : List Value} {i off : Nat} {v : Value} {rest : List (Nat × Value)} {k : Value → Prop} (h : places[i]? = some (off, 1)) (hv : one v = true) (ho : off < z.length) :
    bld places z.toArray ((i, v) :: rest).toArray k = bld places (z.set off v).toArray rest.toArray k := by
  have hc := cells_one hv
  unfold bld
  show (match Instr.fill (places[·]?) z.toArray ((i, v) :: rest) with | some cs => k (.agg cs) | none => False) = (match Instr.fill (places[·]?) (z.set off v).toArray rest with | some cs => k (.agg cs) | none => False)
  rw [fill_step (off := off) (size := 1) h (by rw [hc]; rfl) (by simp only [List.size_toArray]; omega), hc]
  have : splice z.toArray off #[v] = (z.set off v).toArray := by
    have := splice_list z off [v]
    rw [this, List.set_eq_take_append_cons_drop, if_pos ho]
    simp
  rw [this]
def offAt : List (Nat × Nat) → Nat → Option Nat
  | [], _ => none
  | (o, n) :: r, i => if i = 0 then (if n = 1 then some o else none) else offAt r (i - 1)
theorem offAt_get : ∀ {places : List (Nat × Nat)} {i off : Nat}, offAt places i = some off → places[i]? = some (off, 1) := by
  intro places
  induction places with
  | nil => intro i off h; cases h
  | cons p r ih =>
    intro i off h
    obtain ⟨o, n⟩ := p
    unfold offAt at h
    split at h
    · rename_i hi
      split at h
      · rename_i hn
        injection h with h
        subst h; subst hn; subst hi
        rfl
      · cases h
    · rename_i hi
      have := ih h
      obtain ⟨j, rfl⟩ : ∃ j, i = j + 1 := ⟨i - 1, by omega⟩
      rw [List.getElem?_cons_succ]
      simpa using this
def putAt (places : List (Nat × Nat)) (z : List Value) (i : Nat) (v : Value) : List Value := match offAt places i with | some o => z.set o v | none => z
theorem bld_at {places : List (Nat × Nat)} {z : List Value} {i : Nat} {v : Value} {rest : List (Nat × Value)} {k : Value → Prop} (hv : one v = true)
    (ho : (match offAt places i with | some o => decide (o < z.length) | none => false) = true) :
    bld places z.toArray ((i, v) :: rest).toArray k = bld places (putAt places z i v).toArray rest.toArray k := by
  unfold putAt
  cases h : offAt places i with
  | none => rw [h] at ho; cases ho
  | some o =>
    rw [h] at ho
    exact bld_step (offAt_get h) hv (by simpa using ho)
def bld0 (places : List (Nat × Nat)) (z : Array Value) (ps : Array (Nat × Value)) (k : Value → Prop) : Prop := bld places z ps k
theorem bld_if {places : List (Nat × Nat)} {z : List Value} {i : Nat} {v : Value} {rest : List (Nat × Value)} {k : Value → Prop} :
    bld places z.toArray ((i, v) :: rest).toArray k = if one v = true ∧ (match offAt places i with | some o => decide (o < z.length) | none => false) = true then bld places (putAt places z i v).toArray rest.toArray k else bld0 places z.toArray ((i, v) :: rest).toArray k := by
  by_cases h : one v = true ∧ (match offAt places i with | some o => decide (o < z.length) | none => false) = true
  · rw [if_pos h]; exact bld_at h.1 h.2
  · rw [if_neg h]; rfl
theorem bld_done {places : List (Nat × Nat)} {z : Array Value} {k : Value → Prop} : bld places z #[] k = k (.agg z) := rfl
@[simp] theorem cells_agg {cs : Array Value} : Value.cells (.agg cs) = cs := rfl
@[simp] theorem cells_int {k : IntKind} {n : Int} : Value.cells (.int k n) = #[.int k n] := rfl
@[simp] theorem cells_str {s : ByteArray} : Value.cells (.string s) = #[.string s] := rfl
@[simp] theorem all_cons1 {a : Value} {l : List Value} : (List.toArray (a :: l)).all one = (one a && (List.toArray l).all one) := by simp
@[simp] theorem all_nil1 : (List.toArray ([] : List Value)).all one = true := by simp
@[simp] theorem splice_lit {l vs : List Value} (h : l.length = vs.length) : splice l.toArray 0 vs.toArray = vs.toArray := splice_all (by simpa using h)
theorem ixS_lit {s : List UInt8} {kd : IntKind} {i : Nat} (hi : i < s.length) {K : Value → Prop} : ixS (.string (str s)) (.int kd i) K = K (.int .u8 s[i].toNat) := by
  have : (str s)[i]? = some s[i] := by
    have h : i < (str s).size := by simpa using hi
    rw [getElem?_pos (str s) i h]
    rfl
  unfold ixS
  simp only [Int.toNat_natCast, this]
  simp
theorem loadVar_of {P : Program} {t : TypeId} {n b : Nat} {w : World} {c : Array Value} {T : TypeId} {fr : Nat × Nat} (ha : aggO P t = some true) (hn : szO P t = some n) (hh : w.heap[b]? = some (.cells c T fr)) (hs : c.size = n) {K : Value → Prop} :
    qG P (do loadVar t (← asAddr (.pointer (some ⟨b, 0, none⟩)))) w K = K (.agg c) := by
  refine qG_of ?_
  have h : ldn n (.pointer (some ⟨b, 0, none⟩)) w (fun v => v = .agg c) := by
    rw [ldn_p]; unfold rdN; simp only [hh, true_and, hs, Nat.zero_add, Nat.le_refl]
    have : c.extract 0 n = c := by rw [← hs]; simp
    rw [this]
  obtain ⟨v, hr, hv⟩ := ldn_q (P := P) ha hn h
  subst hv
  exact hr
theorem wrap_u8 (x : Int) : IntKind.u8.wrap x = ((bOf x).toNat : Int) := by
  have h1 : (bOf x).toNat = (x % 256).toNat := by unfold bOf; simp; omega
  rw [h1]
  simp [IntKind.wrap, IntKind.bits, IntKind.signed]
  omega
theorem bOf_mod (x : Int) : bOf (x % 256) = bOf x := by unfold bOf; rw [Int.emod_emod_of_dvd x (Int.dvd_refl 256)]
theorem top_u64 {P : Program} {T : TypeId} {xo yo : Operand} {w : World} {K : Value → Prop} {n : Int} (h0 : -9223372036854775808 ≤ n) (h1 : n < 9223372036854775808) :
    qG P (bq .xor T xo yo (.int .u64 (IntKind.u64.wrap n)) (.int .u64 9223372036854775808)) w K = K (.int .u64 ((n + 9223372036854775808).toNat : Nat)) := by
  have e1 : IntKind.u64.wrap n = (((n % 18446744073709551616).toNat : Nat) : Int) := by
    simp [IntKind.wrap, IntKind.bits, IntKind.signed]; omega
  have e2 : Value.int .u64 9223372036854775808 = .int .u64 ((2 ^ 63 : Nat) : Int) := rfl
  have e3 : ((n % 18446744073709551616).toNat + 2 ^ 63) % 2 ^ 64 = (n + 9223372036854775808).toNat := by omega
  rw [e1, e2, xoru64_of (by omega) (by omega), xor_top (by omega), e3]
theorem top2_u64 {P : Program} {T : TypeId} {xo yo : Operand} {w : World} {K : Value → Prop} {x : Nat} (hx : x < 2 ^ 64) :
    qG P (bq .xor T xo yo (.int .u64 x) (.int .u64 9223372036854775808)) w K = K (.int .u64 ((x + 2 ^ 63) % 2 ^ 64 : Nat)) := by
  have e2 : Value.int .u64 9223372036854775808 = .int .u64 ((2 ^ 63 : Nat) : Int) := rfl
  rw [e2, xoru64_of hx (by omega), xor_top hx]
theorem p256_8 : (256 : Nat) ^ 8 = 2 ^ 64 := by decide
theorem bOf_shift {N i : Nat} (hi : i < 8) : bOf ((N : Int) / 2 ^ (8 * (7 - (i : Int))).toNat) = UInt8.ofNat (N / 256 ^ (8 - 1 - i) % 256) := by
  have e : (8 * (7 - (i : Int))).toNat = 8 * (8 - 1 - i) := by omega
  rw [e]
  have e2 : ((2 : Int) ^ (8 * (8 - 1 - i))) = ((256 ^ (8 - 1 - i) : Nat) : Int) := by rw [Int.pow_mul]; simp
  rw [e2, ← Int.natCast_ediv]
  generalize N / 256 ^ (8 - 1 - i) = q
  unfold bOf
  congr 1
theorem be8_get {n : Int} (h0 : -9223372036854775808 ≤ n) (h1 : n < 9223372036854775808) {i : Nat} (hi : i < 8) : (be8 n)[i]? = some (bOf (n / 2 ^ (8 * (7 - i)) + if i = 0 then 128 else 0)) := by
  unfold be8
  rw [be_get hi]
  congr 1
  apply UInt8.toNat_inj.1
  unfold bOf
  rcases (by omega : i = 0 ∨ i = 1 ∨ i = 2 ∨ i = 3 ∨ i = 4 ∨ i = 5 ∨ i = 6 ∨ i = 7) with rfl | rfl | rfl | rfl | rfl | rfl | rfl | rfl <;> simp <;> omega
theorem bsl_byte {e : Nat} {z : Array Value} (c : UInt8) {w : World} {K : KW} (hK : ∀ v' w', Fr w w' v' 1 ([c].map byteV) → K v' w') : bsl e 1 1 z #[(0, .int .u8 c.toNat)] w K :=
  bsl_rowN (n := 1) (cs := byteV c) (by omega) rfl rfl hK
theorem take_snoc {α : Type} {l : List α} {i : Nat} {x : α} (h : l[i]? = some x) : l.take i ++ [x] = l.take (i + 1) := by
  obtain ⟨hi, hx⟩ := List.getElem?_eq_some_iff.1 h
  rw [List.take_succ_eq_append_getElem hi, hx]
theorem V3.bytes_ok {v : V3} (h : v.ok = true) : v.bytes.length ≤ 66 := by
  obtain ⟨k, n, s⟩ := v
  unfold V3.ok at h
  unfold V3.bytes
  simp only at h ⊢
  by_cases h1 : k = 1
  · simp [h1, be8_len]
  · by_cases h2 : k = 2
    · simp [h2] at h ⊢; omega
    · by_cases h3 : k = 3
      · simp [h3]
      · simp [h1, h2, h3]
theorem rowB_len {r : List V3} (h : r.all V3.ok = true) : (rowB r).length ≤ 66 * r.length := by
  induction r with
  | nil => simp [rowB]
  | cons v r ih =>
    simp only [List.all_cons, Bool.and_eq_true] at h
    have h1 := ih h.2
    have h2 := V3.bytes_ok h.1
    have e : rowB (v :: r) = v.bytes ++ rowB r := by simp [rowB]
    rw [e, List.length_append, List.length_cons]
    omega
theorem rowB_snoc (r : List V3) (v : V3) : rowB (r ++ [v]) = rowB r ++ v.bytes := by simp [rowB]
theorem putRow_bad {r : List V3} {v : V3} (h : v ∈ r) (hv : v.ok = false) : putRow r = ([], 1) := by
  unfold putRow
  rw [if_neg]
  rintro ⟨_, h2⟩
  rw [List.all_eq_true] at h2
  rw [h2 v h] at hv
  cases hv
theorem str_nil : (⟨#[]⟩ : ByteArray) = str [] := rfl
theorem kp_alloc {w : World} {o : Obj} : Kp [] w (w.alloc o) := (Kp.refl [] w).alloc o
theorem kp_drew {w : World} : Kp [] w w.drew := (Kp.refl [] w).drew
theorem ex_w {w' : World} : ∃ w, w = w' := ⟨_, rfl⟩
end Go.Q

set_option linter.unusedVariables false
set_option linter.unusedSimpArgs false
namespace Go.Proofs
open Go Go.Q
open Tryz (prog)
theorem zcV : zc prog 76 = #[.int .i64 0, .int .i64 0, .string ⟨#[]⟩] := by kernel_rfl
theorem zcVl : zc prog 76 = [.int .i64 0, .int .i64 0, .string ⟨#[]⟩].toArray := by kernel_rfl
theorem eqVal {a b a' b' : Int} {s s' : ByteArray} : aggEq prog 76 [.int .i64 a, .int .i64 b, .string s] [.int .i64 a', .int .i64 b', .string s'] = true := by kernel_rfl
theorem mod2 {n : Int} : (n = n % 2) = (n = 0 ∨ n = 1) := by apply propext; omega
theorem le64 {s : List UInt8} : ((s.length : Int) ≤ 64) = (s.length ≤ 64) := by apply propext; omega
theorem lt64 {s : List UInt8} : (64 < (s.length : Int)) = ¬ (s.length ≤ 64) := by apply propext; omega
theorem Check_spec {w : World} (v : V3) {K : KW} (hK : ∀ w', Kp [] w w' → K (.int .i64 (if v.ok = true then 0 else 1)) w') : callG prog 58 #[.agg #[.int .i64 v.k, .int .i64 v.n, .string (str v.s)]] w K := by
  refine Fn115_call ?_
  obtain ⟨k, n, s⟩ := v
  simp only [Fn115, Fn115_s0]
  have hk := hK _ (kp_alloc (w := w) (o := .cells #[.int .i64 k, .int .i64 n, .string (str s)] 76))
  simp [-getElem?_pos, -Array.all_eq_true, -Array.getElem?_eq_getElem, -List.length_flatten, gz0, gz1, heap_new, zcVl, bld_done, bld_if, offAt, putAt, eqVal, str_nil, mod2, le64, lt64]
  generalize w.alloc _ = W at hk ⊢
  unfold V3.ok at hk
  simp only at hk
  by_cases h0 : k = 0
  · by_cases c : n = 0 ∧ s = [] <;> simp_all
  by_cases h1 : k = 1
  · by_cases c : s = [] <;> simp_all
  by_cases h2 : k = 2
  · by_cases c : n = 0 ∧ s.length ≤ 64 <;> simp_all
    · intros; omega
    · intro a b; have := c a; omega
  by_cases h3 : k = 3
  · by_cases c : (n = 0 ∨ n = 1) ∧ s = [] <;> simp_all
    · intros; omega
    · intro a b; exact absurd b (c (by omega))
  simp_all
theorem May_spec {w : World} (v : V3) {K : KW} (hK : ∀ w', Kp [] w w' → K (.bool v.ok) w') : callG prog 103 #[.agg #[.int .i64 v.k, .int .i64 v.n, .string (str v.s)]] w K := by
  refine Fn76_call ?_
  obtain ⟨k, n, s⟩ := v
  simp only [Fn76, Fn76_s0]
  have hk := hK _ (kp_alloc (w := w) (o := .cells #[.int .i64 k, .int .i64 n, .string (str s)] 76))
  simp [-getElem?_pos, -Array.all_eq_true, -Array.getElem?_eq_getElem, -List.length_flatten, gz0, gz1, heap_new, str_nil, le64]
  generalize w.alloc _ = W at hk ⊢
  unfold V3.ok at hk
  simp only at hk
  by_cases h0 : k = 0
  · by_cases c : n = 0 <;> simp_all
  by_cases h1 : k = 1
  · by_cases c : s = [] <;> simp_all
  by_cases h2 : k = 2
  · by_cases c : n = 0 <;> simp_all
  by_cases h3 : k = 3
  · by_cases c : n = 0 <;> by_cases c2 : n = 1 <;> simp_all
  simp_all
theorem bytes_spec {w : World} (v : V3) (hw : v.Wf) {K : KW} (hK : ∀ w', Kp [] w w' → K (.string (str v.bytes)) w') : callG prog 60 #[.agg #[.int .i64 v.k, .int .i64 v.n, .string (str v.s)]] w K := by
  refine Fn118_call ?_
  have hs := hw.s
  have hn0 := hw.n0
  have hn1 := hw.n1
  obtain ⟨k, n, s⟩ := v
  simp only at hs hn0 hn1
  simp only [Fn118, Fn118_s8, newG_k, cells_agg]
  obtain ⟨w1, hw1⟩ := ex_w (w' := w.alloc (.cells #[.int .i64 k, .int .i64 n, .string (str s)] 76))
  have hk1 : Kp [] w w1 := by rw [hw1]; exact kp_alloc
  have hb1 : w1.heap[w.heap.size]? = some (.cells #[.int .i64 k, .int .i64 n, .string (str s)] 76) := by rw [hw1]; exact heap_new
  rw [← hw1]
  simp [-getElem?_pos, -Array.all_eq_true, -Array.getElem?_eq_getElem, -List.length_flatten, gz0, gz1, hb1, wrap_u8]
  refine bsl_byte _ fun v2 w2 h2 => ?_
  have hb2 := h2.kp.get hb1 (by simp)
  unfold Fn118_s7 Fn118_s6 Fn118_s5
  simp [-getElem?_pos, -Array.all_eq_true, -Array.getElem?_eq_getElem, -List.length_flatten, gz0, gz1, hb2]
  have fin : ∀ w' v' l, Fr w1 w' v' 1 (l.map byteV) → V3.bytes ⟨k, n, s⟩ = l → Fn118_s0 K v' w' := by
    intro w' v' l h' hl
    unfold Fn118_s0
    rw [h'.text, ← hl]
    exact hK w' (hk1.trans' h'.kp)
  refine ⟨fun hk => ?_, fun hk => ?_⟩
  · subst hk
    unfold Fn118_s3
    simp [-getElem?_pos, -Array.all_eq_true, -Array.getElem?_eq_getElem, -List.length_flatten, gz0, gz1, hb2]
    rw [top_u64 hn0 hn1]
    obtain ⟨N, hN⟩ : ∃ N, N = (n + 9223372036854775808).toNat := ⟨_, rfl⟩
    rw [← hN]
    unfold Fn118_L2
    refine loop_inv (fun m xs wi => ∃ i vi, i ≤ 8 ∧ m = 8 - i ∧ xs = [vi, .int .u64 N, .int .i64 (i : Nat)] ∧ Fr w1 wi vi 1 ((bOf 1 :: (be8 n).take i).map byteV)) ?_ (m := 8) ⟨0, v2, by omega, rfl, rfl, h2⟩
    rintro m N1 xs wi ⟨i, vi, hi, rfl, rfl, hf⟩ hN1
    simp only [Fn118_L2F, Fn118_b1, bq_lss, bV_b]
    refine ⟨fun hlt => ?_, fun hge => ?_⟩
    · have hi : i < 8 := by simp at hlt; omega
      have e1 : IntKind.i64.wrap (7 - (i : Int)) = 7 - (i : Int) := w64 (by omega) (by omega)
      have e2 : IntKind.i64.wrap (8 * (7 - (i : Int))) = 8 * (7 - (i : Int)) := w64 (by omega) (by omega)
      have e3 : IntKind.i64.wrap ((i : Int) + 1) = ((i + 1 : Nat) : Int) := by rw [w64 (by omega) (by omega)]; simp
      simp only [bq_sub, bq_mul, bq_add, e1, e2, e3]
      rw [shr_of (by omega) (by simp [IntKind.bits]; omega)]
      simp only [cvI_i, wrap_u8]
      rw [bOf_shift hi]
      refine bsl_byte _ fun v3 w3 h3 => ?_
      have hf3 := hf.keep h3.kp
      refine byte_app (by kernel_rfl) hf3 h3.rd (by simp [be8_len]; omega) fun v4 w4 h4 => ?_
      have hg : (be8 n)[i]? = some (UInt8.ofNat (N / 256 ^ (8 - 1 - i) % 256)) := by rw [hN]; exact be_get hi
      rw [List.cons_append, take_snoc hg] at h4
      exact hN1 (8 - (i + 1)) _ _ (by omega) ⟨i + 1, v4, by omega, rfl, rfl, h4⟩
    · have hie : i = 8 := by simp at hge; omega
      subst hie
      rw [List.take_of_length_le (by simp [be8_len])] at hf
      exact fin _ _ _ hf rfl
  · unfold Fn118_s4
    simp [-getElem?_pos, -Array.all_eq_true, -Array.getElem?_eq_getElem, -List.length_flatten, gz0, gz1, hb2]
    refine ⟨fun hk2 => ?_, fun hk2 => ⟨fun hk3 => ?_, fun hk3 => ?_⟩⟩
    · subst hk2
      rw [wrap_u8]
      have hb2d : w2.drew.heap[w.heap.size]? = some (.cells #[.int .i64 2, .int .i64 n, .string (str s)] 76) := hb2
      refine bsl_byte _ fun v3 w3 h3 => ?_
      have h2d := h2.keep kp_drew
      have hb3 := h3.kp.get hb2d (by simp)
      simp [-getElem?_pos, -Array.all_eq_true, -Array.getElem?_eq_getElem, -List.length_flatten, gz0, gz1, hb3]
      refine byte_app (by kernel_rfl) (h2d.keep h3.kp) h3.rd (by simp) fun v4 w4 h4 => ?_
      have hb4 := h4.kp.get hb1 (by simp)
      simp [-getElem?_pos, -Array.all_eq_true, -Array.getElem?_eq_getElem, -List.length_flatten, gz0, gz1, hb4]
      refine bytes_app (by kernel_rfl) h4 s (by simp; omega) fun v5 w5 h5 => ?_
      exact fin _ _ _ h5 rfl
    · subst hk3
      rw [wrap_u8]
      refine bsl_byte _ fun v3 w3 h3 => ?_
      refine byte_app (by kernel_rfl) (h2.keep h3.kp) h3.rd (by simp) fun v4 w4 h4 => ?_
      exact fin _ _ _ h4 rfl
    · exact fin _ _ _ h2 (by simp [V3.bytes, hk, hk2, hk3])
theorem refBytes_spec {w : World} (v : V3) (hw : v.Wf) {K : KW} (hK : ∀ w', Kp [] w w' → K (.string (str v.bytes)) w') : callG prog 104 #[.agg #[.int .i64 v.k, .int .i64 v.n, .string (str v.s)]] w K := by
  refine Fn78_call ?_
  have hs := hw.s
  have hn0 := hw.n0
  have hn1 := hw.n1
  obtain ⟨k, n, s⟩ := v
  simp only at hs hn0 hn1
  simp only [Fn78, Fn78_s8, newG_k, cells_agg]
  obtain ⟨w1, hw1⟩ := ex_w (w' := w.alloc (.cells #[.int .i64 k, .int .i64 n, .string (str s)] 76))
  have hk1 : Kp [] w w1 := by rw [hw1]; exact kp_alloc
  have hb1 : w1.heap[w.heap.size]? = some (.cells #[.int .i64 k, .int .i64 n, .string (str s)] 76) := by rw [hw1]; exact heap_new
  rw [← hw1]
  simp [-getElem?_pos, -Array.all_eq_true, -Array.getElem?_eq_getElem, -List.length_flatten, gz0, gz1, hb1, wrap_u8, bOf_mod]
  refine bsl_byte _ fun v2 w2 h2 => ?_
  have hb2 := h2.kp.get hb1 (by simp)
  unfold Fn78_s7 Fn78_s6 Fn78_s5
  simp [-getElem?_pos, -Array.all_eq_true, -Array.getElem?_eq_getElem, -List.length_flatten, gz0, gz1, hb2]
  have fin : ∀ w' v' l, Fr w1 w' v' 1 (l.map byteV) → V3.bytes ⟨k, n, s⟩ = l → Fn78_s0 K v' w' := by
    intro w' v' l h' hl
    unfold Fn78_s0
    rw [h'.text, ← hl]
    exact hK w' (hk1.trans' h'.kp)
  refine ⟨fun hk => ?_, fun hk => ?_⟩
  · subst hk
    unfold Fn78_s3 Fn78_L2
    refine loop_inv (fun m xs wi => ∃ i vi, i ≤ 8 ∧ m = 8 - i ∧ xs = [.pointer (some ⟨w.heap.size, 0, none⟩), vi, .int .i64 (7 - (i : Int))] ∧ Fr w1 wi vi 1 ((bOf 1 :: (be8 n).take i).map byteV)) ?_ (m := 8) ⟨0, v2, by omega, rfl, rfl, h2⟩
    rintro m N1 xs wi ⟨i, vi, hi, rfl, rfl, hf⟩ hN1
    simp only [Fn78_L2F, Fn78_b1, bq_geq, bV_b]
    refine ⟨fun hlt => ?_, fun hge => ?_⟩
    · have hi : i < 8 := by simp at hlt; omega
      have e2 : IntKind.i64.wrap (8 * (7 - (i : Int))) = 8 * (7 - (i : Int)) := w64 (by omega) (by omega)
      have e3 : IntKind.i64.wrap (7 - (i : Int) - 1) = 7 - ((i + 1 : Nat) : Int) := by rw [w64 (by omega) (by omega)]; omega
      have hbi := hf.kp.get hb1 (by simp)
      have hg := be8_get hn0 hn1 hi
      have e4 : (8 * (7 - (i : Int))).toNat = 8 * (7 - i) := by omega
      simp [-getElem?_pos, -Array.all_eq_true, -Array.getElem?_eq_getElem, -List.length_flatten, gz0, gz1, hbi, e2]
      rw [shr_of (by omega) (by simp [IntKind.bits]; omega), e4]
      simp [-getElem?_pos, -Array.all_eq_true, -Array.getElem?_eq_getElem, -List.length_flatten, gz0, gz1, wrap_u8, bOf_mod, e3]
      refine ⟨fun h7 => ?_, fun h7 => ?_⟩
      · have hi0 : i = 0 := by omega
        subst hi0
        have hx := (bOf (n / 2 ^ (8 * (7 - 0)))).toNat_lt
        rw [show (128 : Int) = ((128 : Nat) : Int) from rfl, xoru8_of hx (by omega), xor_top8 hx]
        have e5 : (((bOf (n / 2 ^ (8 * (7 - 0)))).toNat + 128) % 256 : Nat) = (bOf (n / 2 ^ (8 * (7 - 0)) + 128)).toNat := by
          unfold bOf
          simp
          omega
        rw [e5]
        refine bsl_byte _ fun v3 w3 h3 => ?_
        refine byte_app (by kernel_rfl) (hf.keep h3.kp) h3.rd (by simp) fun v4 w4 h4 => ?_
        rw [if_pos rfl] at hg
        rw [List.cons_append, take_snoc hg] at h4
        exact hN1 (8 - (0 + 1)) _ _ (by omega) ⟨0 + 1, v4, by omega, rfl, rfl, h4⟩
      · rw [if_neg (by omega), Int.add_zero] at hg
        refine bsl_byte _ fun v3 w3 h3 => ?_
        refine byte_app (by kernel_rfl) (hf.keep h3.kp) h3.rd (by simp [be8_len]; omega) fun v4 w4 h4 => ?_
        rw [List.cons_append, take_snoc hg] at h4
        exact hN1 (8 - (i + 1)) _ _ (by omega) ⟨i + 1, v4, by omega, rfl, rfl, h4⟩
    · have hie : i = 8 := by simp at hge; omega
      subst hie
      rw [List.take_of_length_le (by simp [be8_len])] at hf
      exact fin _ _ _ hf rfl
  · unfold Fn78_s4
    simp [-getElem?_pos, -Array.all_eq_true, -Array.getElem?_eq_getElem, -List.length_flatten, gz0, gz1, hb2]
    refine ⟨fun hk2 => ?_, fun hk2 => ⟨fun hk3 => ?_, fun hk3 => ?_⟩⟩
    · subst hk2
      rw [wrap_u8, bOf_mod]
      refine bsl_byte _ fun v3 w3 h3 => ?_
      refine byte_app (by kernel_rfl) (h2.keep h3.kp) h3.rd (by simp) fun v4 w4 h4 => ?_
      have hb4 := h4.kp.get hb1 (by simp)
      simp [-getElem?_pos, -Array.all_eq_true, -Array.getElem?_eq_getElem, -List.length_flatten, gz0, gz1, hb4]
      refine bytes_app (by kernel_rfl) h4 s (by simp; omega) fun v5 w5 h5 => ?_
      exact fin _ _ _ h5 rfl
    · subst hk3
      rw [wrap_u8, bOf_mod]
      refine bsl_byte _ fun v3 w3 h3 => ?_
      refine byte_app (by kernel_rfl) (h2.keep h3.kp) h3.rd (by simp) fun v4 w4 h4 => ?_
      exact fin _ _ _ h4 rfl
    · exact fin _ _ _ h2 (by simp [V3.bytes, hk, hk2, hk3])
end Go.Proofs

set_option linter.unusedVariables false
set_option linter.unusedSimpArgs false
namespace Go.Proofs
open Go Go.Q
open Tryz (prog)
theorem aggValT : aggO prog 76 = some true := by kernel_rfl
theorem szValT : szO prog 76 = some 3 := by kernel_rfl
section
variable {w0 : World} {a b : Nat} {R : KW}
theorem one_s0 {w : World} {ca : Array Value} {v : V3} {t : List UInt8} {p : Nat} (hp : p ≤ t.length) (ha : w.heap[a]? = some (.cells ca 76)) (hsz : ca.size = 3) (hb : w.heap[b]? = some (.cells #[.int .i64 v.k, .int .i64 v.n, .string (str v.s)] 76))
    (ha0 : w0.heap.size ≤ a) (hk : Kp [] w0 w) (hR : ∀ w', Kp [] w0 w' → R (.tuple #[.agg #[.int .i64 v.k, .int .i64 v.n, .string (str v.s)], .string (str (t.drop p)), .bool v.ok]) w') :
    Fn119_s0 R (.string (str t)) (.pointer (some ⟨a, 0, none⟩)) (.pointer (some ⟨b, 0, none⟩)) (.int .i64 p) w := by
  unfold Fn119_s0
  have hx : (str t).extract p t.length = str (t.drop p) := by rw [str_extract, List.take_length]
  simp [-getElem?_pos, -Array.all_eq_true, -Array.getElem?_eq_getElem, -List.length_flatten, gz0, gz1, hb, hx, hp]
  refine Check_spec v fun w1 hk1 => ?_
  have hkd : Kp [] w w1 := kp_drew.trans' hk1
  have ha1 := hkd.get ha (by simp)
  have hb1 := hkd.get hb (by simp)
  have la := live_of ha1
  have hok : (decide ((if v.ok = true then (0 : Int) else 1) = 0)) = v.ok := by cases v.ok <;> rfl
  simp only [bq_eql, stb_eql, hok]
  simp [-getElem?_pos, -Array.all_eq_true, -Array.getElem?_eq_getElem, -List.length_flatten, gz0, gz1, hb1, ha1, hsz]
  rw [splice_all (by simp [hsz]), loadVar_of aggValT szValT (heap_self la) rfl]
  exact hR _ ((hk.trans' hkd).setBlk (.inr ha0) _)
theorem wrap_top {x : Nat} (h : x < 2 ^ 64) : IntKind.i64.wrap (((x + 2 ^ 63) % 2 ^ 64 : Nat) : Int) = (x : Int) - 9223372036854775808 := by
  rcases Nat.lt_or_ge x (2 ^ 63) with h1 | h1
  · obtain ⟨y, hy⟩ : ∃ y, y = (x + 2 ^ 63) % 2 ^ 64 := ⟨_, rfl⟩
    have hy2 : y = x + 9223372036854775808 := by omega
    rw [← hy, hy2]
    simp only [IntKind.wrap, IntKind.bits, IntKind.signed]
    simp
    omega
  · obtain ⟨y, hy⟩ : ∃ y, y = (x + 2 ^ 63) % 2 ^ 64 := ⟨_, rfl⟩
    have hy2 : y = x - 9223372036854775808 := by omega
    rw [← hy, hy2, w64 (by omega) (by omega)]
    omega
theorem lvV {b : Nat} {w : World} {c : Array Value} {T : TypeId} {fr : Nat × Nat} (hb : Live w b) (hs : c.size = 3) {K : Value → Prop} :
    qG prog (do loadVar 76 (← asAddr (.pointer (some ⟨b, 0, none⟩)))) (setBlk w b (.cells c T fr)) K = K (.agg c) := loadVar_of aggValT szValT (heap_self hb) hs
theorem one_loop {w : World} {ca : Array Value} {t : List UInt8} (h8 : 8 ≤ t.length) (hl : t.length < 2 ^ 39) (ha : w.heap[a]? = some (.cells ca 76)) (hsz : ca.size = 3) (hb : w.heap[b]? = some (.cells #[.int .i64 1, .int .i64 0, .string (str [])] 76))
    (hab : ¬ b = a) (ha0 : w0.heap.size ≤ a) (hb0 : w0.heap.size ≤ b) (hk : Kp [] w0 w) (hR : ∀ w', Kp [] w0 w' → R (.tuple #[.agg #[.int .i64 1, .int .i64 (unbe8 (t.take 8)), .string (str [])], .string (str (t.drop 8)), .bool true]) w') :
    Fn119_s5 R (.string (str t)) (.pointer (some ⟨a, 0, none⟩)) (.pointer (some ⟨b, 0, none⟩)) (.int .i64 8) w := by
  unfold Fn119_s5 Fn119_s4 Fn119_L3
  refine loop_inv (fun m xs wi => ∃ i, i ≤ 8 ∧ m = 8 - i ∧ xs = [.string (str t), .pointer (some ⟨a, 0, none⟩), .pointer (some ⟨b, 0, none⟩), .int .i64 8, .int .u64 (beN (t.take i) : Nat), .int .i64 (i : Nat)] ∧ wi = w) ?_ (m := 8) ⟨0, by omega, rfl, rfl, rfl⟩
  rintro m N xs wi ⟨i, hi, rfl, rfl, rfl⟩ hN
  simp only [Fn119_L3F, Fn119_b2, bq_lss, bV_b]
  refine ⟨fun hlt => ?_, fun hge => ?_⟩
  · have hi : i < 8 := by simp at hlt; omega
    have hit : i < t.length := by omega
    have e3 : IntKind.i64.wrap ((i : Int) + 1) = ((i + 1 : Nat) : Int) := by rw [w64 (by omega) (by omega)]; simp
    have hbl := beN_lt (t.take i)
    rw [List.length_take, Nat.min_eq_left (by omega)] at hbl
    have hpow : 256 ^ i ≤ 256 ^ 7 := Nat.pow_le_pow_right (by omega) (by omega)
    have hc := t[i].toNat_lt
    rw [shl_of (by omega) (by decide)]
    have e1 : IntKind.u64.wrap (((beN (t.take i) : Nat) : Int) * 2 ^ (8 : Int).toNat) = ((beN (t.take i) * 2 ^ 8 : Nat) : Int) := by
      rw [show (((beN (t.take i) : Nat) : Int) * 2 ^ (8 : Int).toNat) = ((beN (t.take i) * 2 ^ 8 : Nat) : Int) by rw [Int.natCast_mul]; rfl]
      exact wrap_natu64 (by omega)
    rw [e1, ixS_lit hit]
    have e2 : IntKind.u64.wrap (t[i].toNat : Int) = (t[i].toNat : Int) := wrap_natu64 (by omega)
    simp only [cvI_i, e2]
    rw [oru64_of (by omega) (by omega), or_mul (by omega)]
    simp only [bq_add, e3]
    refine hN (8 - (i + 1)) _ _ (by omega) ⟨i + 1, by omega, rfl, ?_, rfl⟩
    have e4 : beN (t.take (i + 1)) = beN (t.take i) * 2 ^ 8 + t[i].toNat := by rw [List.take_succ_eq_append_getElem hit, beN_snoc]
    rw [e4]
  · have hie : i = 8 := by simp at hge; omega
    subst hie
    unfold Fn119_s1
    have hbl := beN_lt (t.take 8)
    rw [List.length_take, Nat.min_eq_left (by omega)] at hbl
    rw [top2_u64 (p256_8 ▸ hbl)]
    have e1 : IntKind.i64.wrap (((beN (t.take 8) + 2 ^ 63) % 2 ^ 64 : Nat) : Int) = unbe8 (t.take 8) := by
      unfold unbe8
      exact wrap_top (p256_8 ▸ hbl)
    have lb := live_of hb
    rw [cvI_i, e1]
    simp [-getElem?_pos, -Array.all_eq_true, -Array.getElem?_eq_getElem, -List.length_flatten, gz0, gz1, hb]
    generalize unbe8 (t.take 8) = N8 at hR ⊢
    have q1 : (setBlk wi b (.cells #[.int .i64 1, .int .i64 N8, .string (str [])] 76)).heap[a]? = some (.cells ca 76) := by rw [heap_ne hab]; exact ha
    have q2 : (setBlk wi b (.cells #[.int .i64 1, .int .i64 N8, .string (str [])] 76)).heap[b]? = some (.cells #[.int .i64 1, .int .i64 N8, .string (str [])] 76) := heap_self lb
    have q3 := hk.setBlk (.inr hb0) (.cells #[.int .i64 1, .int .i64 N8, .string (str [])] 76)
    have q4 := one_s0 (v := ⟨1, N8, []⟩) h8 q1 hsz q2 ha0 q3 hR
    exact q4
theorem one_spec {w : World} (s : List UInt8) (hl : s.length < 2 ^ 39) {K : KW}
    (hY : ∀ v k w', oneV s = some (v, k) → Kp [] w w' → K (.tuple #[.agg #[.int .i64 v.k, .int .i64 v.n, .string (str v.s)], .string (str (s.drop k)), .bool true]) w')
    (hN : ∀ v : V3, ∀ y w', oneV s = none → Kp [] w w' → K (.tuple #[.agg #[.int .i64 v.k, .int .i64 v.n, .string (str v.s)], y, .bool false]) w') : callG prog 129 #[.string (str s)] w K := by
  refine Fn119_call ?_
  simp only [Fn119, Fn119_s11, newG_k]
  obtain ⟨w1, hw1⟩ := ex_w (w' := w.alloc (.cells (zc prog 76) 76))
  have hk1 : Kp [] w w1 := by rw [hw1]; exact kp_alloc
  have ha1 : w1.heap[w.heap.size]? = some (.cells #[.int .i64 0, .int .i64 0, .string ⟨#[]⟩] 76) := by rw [hw1, zcV]; exact heap_new
  have hs1 : w1.heap.size = w.heap.size + 1 := by rw [hw1]; simp
  rw [← hw1]
  cases s with
  | nil =>
    have la := live_of ha1
    simp [-getElem?_pos, -Array.all_eq_true, -Array.getElem?_eq_getElem, -List.length_flatten, gz0, gz1, str_nil, zcVl, bld_done, ha1]
    rw [loadVar_of aggValT szValT (heap_self la) rfl]
    exact hN ⟨0, 0, []⟩ _ _ rfl (hk1.setBlk (.inr (Nat.le_refl _)) _)
  | cons c t =>
    have hne : (str (c :: t) = str []) = False := by simp
    have hx : (str (c :: t)).extract 1 (t.length + 1) = str t := by rw [str_extract]; simp
    simp only [List.length_cons] at hl
    have hc := c.toNat_lt
    have ekind : IntKind.i64.wrap (c.toNat : Int) = (c.toNat : Int) := w64 (by omega) (by omega)
    have e0 : ∀ K : Value → Prop, ixS (.string (str (c :: t))) (.int .i64 0) K = K (.int .u8 c.toNat) := fun K => ixS_lit (s := c :: t) (i := 0) (by simp)
    obtain ⟨w2, hw2⟩ := ex_w (w' := w1.alloc (.cells #[.int .i64 c.toNat, .int .i64 0, .string (str [])] 76))
    have hk2 : Kp [] w1 w2 := by rw [hw2]; exact kp_alloc
    have hb2 : w2.heap[w1.heap.size]? = some (.cells #[.int .i64 c.toNat, .int .i64 0, .string (str [])] 76) := by rw [hw2]; exact heap_new
    have ha2 := hk2.get ha1 (by simp)
    have hk02 := hk1.trans' hk2
    simp [-getElem?_pos, -Array.all_eq_true, -Array.getElem?_eq_getElem, -List.length_flatten, gz0, gz1, str_nil, e0, ekind, zcVl, bld_done, bld_if, offAt, putAt, hne, heap_new, hx]
    rw [← hw2]
    have l2 := live_of ha2
    simp [-getElem?_pos, -Array.all_eq_true, -Array.getElem?_eq_getElem, -List.length_flatten, gz0, gz1, ha2, lvV l2]
    have hab : ¬ w1.heap.size = w.heap.size := by omega
    have lb2 := live_of hb2
    have fail : ∀ S : World, Kp [] w S → oneV (c :: t) = none → ∀ v : V3, K (.tuple #[.agg #[.int .i64 v.k, .int .i64 v.n, .string (str v.s)], .string (str []), .bool false]) S := fun S hS h v => hN v _ S h hS
    have hkS : ∀ o, Kp [] w (setBlk w2 w.heap.size o) := fun o => hk02.setBlk (.inr (Nat.le_refl _)) _
    have hkB : ∀ o, Kp [] w (setBlk w2 w1.heap.size o) := fun o => hk02.setBlk (.inr (by omega)) _
    refine ⟨by omega, fun h0 => ?_, fun h0 => ⟨fun h1 => ?_, fun h1 => ⟨fun h2 => ?_, fun h2 => ⟨fun h3 => ?_, fun h3 => ?_⟩⟩⟩⟩
    · have hc0 : c = 0 := UInt8.toNat_inj.1 h0
      subst hc0
      exact hY ⟨0, 0, []⟩ 1 _ rfl (hkS _)
    · have hc0 : c = 1 := UInt8.toNat_inj.1 (show c.toNat = 1 by omega)
      subst hc0
      have ho : oneV (1 :: t) = if t.length < 8 then none else some (⟨1, unbe8 (t.take 8), []⟩, 9) := rfl
      unfold Fn119_s10
      simp [-getElem?_pos, -Array.all_eq_true, -Array.getElem?_eq_getElem, -List.length_flatten, gz0, gz1, hb2, ha2, lvV l2]
      refine ⟨fun hlt => fail _ (hkS _) (by rw [ho, if_pos (by omega)]) ⟨1, 0, []⟩, fun hge => ?_⟩
      unfold Fn119_s9 Fn119_s8 Fn119_s7
      simp [-getElem?_pos, -Array.all_eq_true, -Array.getElem?_eq_getElem, -List.length_flatten, gz0, gz1, hb2]
      exact one_loop (w0 := w) (by omega) (by omega) ha2 rfl hb2 hab (Nat.le_refl _) (by omega) hk02 fun w' hk' => hY ⟨1, unbe8 (t.take 8), []⟩ 9 w' (by rw [ho, if_neg (by omega)]) hk'
    · have hc0 : c = 2 := UInt8.toNat_inj.1 (show c.toNat = 2 by omega)
      subst hc0
      unfold Fn119_s10
      simp [-getElem?_pos, -Array.all_eq_true, -Array.getElem?_eq_getElem, -List.length_flatten, gz0, gz1, hb2, ha2, lvV l2]
      cases t with
      | nil => simp; exact fail _ (hkS _) rfl ⟨2, 0, []⟩
      | cons d u =>
        have ho : oneV (2 :: d :: u) = if u.length < d.toNat ∨ 64 < d.toNat then none else some (⟨2, 0, u.take d.toNat⟩, 2 + d.toNat) := rfl
        have hd := d.toNat_lt
        simp only [List.length_cons] at hl
        have ed : IntKind.i64.wrap (d.toNat : Int) = (d.toNat : Int) := w64 (by omega) (by omega)
        have ed2 : IntKind.i64.wrap (1 + (d.toNat : Int)) = ((1 + d.toNat : Nat) : Int) := by rw [w64 (by omega) (by omega)]; simp
        have e0 : ∀ K : Value → Prop, ixS (.string (str (d :: u))) (.int .i64 0) K = K (.int .u8 d.toNat) := fun K => ixS_lit (s := d :: u) (i := 0) (by simp)
        refine ⟨fun hlt => by simp at hlt; omega, fun hge => ?_⟩
        unfold Fn119_s9 Fn119_s8 Fn119_s7 Fn119_s6
        simp [-getElem?_pos, -Array.all_eq_true, -Array.getElem?_eq_getElem, -List.length_flatten, gz0, gz1, hb2, e0, ed, ed2, ha2, lvV l2]
        refine ⟨fun hlt => fail _ (hkS _) (by rw [ho, if_pos (.inl (by omega))]) ⟨2, 0, []⟩, fun hge => ?_⟩
        have hx2 : (str (d :: u)).extract 1 (1 + (d.toNat : Int)).toNat = str (u.take d.toNat) := by
          rw [show (1 + (d.toNat : Int)).toNat = d.toNat + 1 by omega, str_extract, List.take_succ_cons]; rfl
        refine ⟨by omega, ?_⟩
        rw [hx2, show (1 + (d.toNat : Int)) = ((1 + d.toNat : Nat) : Int) by simp]
        refine ⟨by omega, ?_⟩
        have hok : V3.ok ⟨2, 0, u.take d.toNat⟩ = decide (d.toNat ≤ 64) := by
          have : (u.take d.toNat).length = d.toNat := by rw [List.length_take]; omega
          simp [V3.ok, this]
        refine one_s0 (w0 := w) (t := d :: u) (p := 1 + d.toNat) (v := ⟨2, 0, u.take d.toNat⟩) (by rw [List.length_cons]; omega) (by rw [heap_ne hab]; exact ha2) rfl (heap_self lb2) (Nat.le_refl _) (hkB _) fun w' hk' => ?_
        rw [hok]
        by_cases h64 : d.toNat ≤ 64
        · have := hY ⟨2, 0, u.take d.toNat⟩ (2 + d.toNat) w' (by rw [ho, if_neg (by omega)]) hk'
          rw [show 2 + d.toNat = (1 + d.toNat) + 1 by omega, List.drop_succ_cons] at this
          simpa [h64] using this
        · have := hN ⟨2, 0, u.take d.toNat⟩ (.string (str ((d :: u).drop (1 + d.toNat)))) w' (by rw [ho, if_pos (.inr (by omega))]) hk'
          simpa [h64] using this
    · have hc0 : c = 3 := UInt8.toNat_inj.1 (show c.toNat = 3 by omega)
      subst hc0
      unfold Fn119_s10
      simp [-getElem?_pos, -Array.all_eq_true, -Array.getElem?_eq_getElem, -List.length_flatten, gz0, gz1, hb2, ha2, lvV l2]
      cases t with
      | nil => simp; exact fail _ (hkS _) rfl ⟨3, 0, []⟩
      | cons d u =>
        have ho : oneV (3 :: d :: u) = if 1 < d.toNat then none else some (⟨3, d.toNat, []⟩, 2) := rfl
        have hd := d.toNat_lt
        have ed : IntKind.i64.wrap (d.toNat : Int) = (d.toNat : Int) := w64 (by omega) (by omega)
        have e0 : ∀ K : Value → Prop, ixS (.string (str (d :: u))) (.int .i64 0) K = K (.int .u8 d.toNat) := fun K => ixS_lit (s := d :: u) (i := 0) (by simp)
        refine ⟨fun hlt => by simp at hlt; omega, fun hge => ?_⟩
        unfold Fn119_s9 Fn119_s8 Fn119_s7 Fn119_s6
        simp [-getElem?_pos, -Array.all_eq_true, -Array.getElem?_eq_getElem, -List.length_flatten, gz0, gz1, hb2, e0, ed, lb2]
        have hok : V3.ok ⟨3, d.toNat, []⟩ = decide (d.toNat ≤ 1) := by
          rw [Bool.eq_iff_iff]
          simp [V3.ok]
          clear ed e0
          omega
        refine one_s0 (w0 := w) (p := 1) (v := ⟨3, d.toNat, []⟩) (by simp) (by rw [heap_ne hab]; exact ha2) rfl (heap_self lb2) (Nat.le_refl _) (hkB _) fun w' hk' => ?_
        rw [hok]
        by_cases h1 : d.toNat ≤ 1
        · have := hY ⟨3, d.toNat, []⟩ 2 w' (by rw [ho, if_neg (by omega)]) hk'
          simpa [h1] using this
        · have := hN ⟨3, d.toNat, []⟩ (.string (str ((d :: u).drop 1))) w' (by rw [ho, if_pos (by omega)]) hk'
          simpa [h1] using this
    · have ho : oneV (c :: t) = none := by
        have n0 : ¬ c = 0 := fun h => by subst h; exact h0 rfl
        have n1 : ¬ c = 1 := fun h => by subst h; exact h1 rfl
        have n2 : ¬ c = 2 := fun h => by subst h; exact h2 rfl
        have n3 : ¬ c = 3 := fun h => by subst h; exact h3 rfl
        simp [oneV, n0, n1, n2, n3]
      exact fail _ (hkS _) ho ⟨c.toNat, 0, []⟩
end
end Go.Proofs

set_option linter.unusedVariables false
set_option linter.unusedSimpArgs false
namespace Go.Proofs
open Go Go.Q
open Tryz (prog)
theorem valV_one (v : V3) : (valV v).all Q.one = true := rfl
theorem rd_val {w : World} {v : Value} {r : List V3} (h : Rd w v 3 (r.map valV)) {i : Nat} (hi : i < r.length) :
    ∃ p, (∀ kd K, ia 3 v (.int kd i) K = K p) ∧ ∀ K : Value → Prop, ldn 3 p w K = K (.agg #[.int .i64 r[i].k, .int .i64 r[i].n, .string (str r[i].s)]) := by
  obtain ⟨p, h1, h2, _⟩ := h.get (i := i) (by simpa using hi)
  refine ⟨p, h1, fun K => ?_⟩
  rw [h2 K]
  simp [valV]
theorem Put_spec {w : World} {rv : Value} {r : List V3} (hr : Rd w rv 3 (r.map valV)) (hw : ∀ v ∈ r, v.Wf) (hlen : r.length < 2 ^ 40) {K : KW}
    (hK : ∀ w', Kp [] w w' → K (.tuple #[.string (str (putRow r).1), .int .i64 (putRow r).2]) w') : callG prog 24 #[rv] w K := by
  refine Fn116_call ?_
  simp only [Fn116, Fn116_s4, hr.lenL, List.length_map, bq_gtr, bV_b]
  refine ⟨fun h => ?_, fun h => ?_⟩
  · have hb : putRow r = ([], 1) := by unfold putRow; rw [if_neg (by simp at h; omega)]
    have := hK w (Kp.refl _ _)
    rw [hb] at this
    exact this
  have hl : r.length ≤ 255 := by simp at h; omega
  rw [newG_k, zcB]
  obtain ⟨w1, hw1⟩ := ex_w (w' := w.alloc (.cells #[.pointer none, .slice none 0 0] 110))
  have hb1 : Bd w w1 w.heap.size [] := by rw [hw1]; exact bd_new
  rw [← hw1]
  have e1 : IntKind.u8.wrap (r.length : Int) = ((bOf r.length).toNat : Int) := wrap_u8 _
  simp only [cvI_i, e1]
  refine bd_byte hb1 _ (by simp) fun w2 h2 => ?_
  rw [List.nil_append] at h2
  unfold Fn116_s3
  rw [(hr.keep h2.kp).lenL]
  unfold Fn116_L2
  simp only [List.length_map]
  refine loop_inv (fun m xs wi => ∃ i, i ≤ r.length ∧ m = r.length - i ∧ xs = [.pointer (some ⟨w.heap.size, 0, none⟩), rv, .int .i64 r.length, .int .i64 (i : Nat)] ∧ Bd w wi w.heap.size (bOf r.length :: rowB (r.take i)) ∧ (r.take i).all V3.ok = true) ?_ (m := r.length)
    ⟨0, by omega, rfl, rfl, h2, rfl⟩
  rintro m N xs wi ⟨i, hi, rfl, rfl, hb, hok⟩ hN
  simp only [Fn116_L2F, Fn116_b1, bq_lss, bV_b]
  have htl : (r.take i).length = i := by rw [List.length_take]; omega
  have hrl := rowB_len hok
  rw [htl] at hrl
  refine ⟨fun hlt => ?_, fun hge => ?_⟩
  · have hi : i < r.length := by simpa using hlt
    have hiw : IntKind.i64.wrap ((i : Int) + 1) = ((i + 1 : Nat) : Int) := by rw [w64 (by omega) (by omega)]; simp
    obtain ⟨p, hp1, hp2⟩ := rd_val (hr.keep hb.kp) hi
    rw [hp1, hp2, newG_k]
    obtain ⟨w3, hw3⟩ := ex_w (w' := wi.alloc (.cells #[.int .i64 r[i].k, .int .i64 r[i].n, .string (str r[i].s)] 76))
    have hk3 : Kp [] wi w3 := by rw [hw3]; exact kp_alloc
    have hx3 : w3.heap[wi.heap.size]? = some (.cells #[.int .i64 r[i].k, .int .i64 r[i].n, .string (str r[i].s)] 76) := by rw [hw3]; exact heap_new
    simp [-getElem?_pos, -Array.all_eq_true, -Array.getElem?_eq_getElem, -List.length_flatten, gz0, gz1, heap_new, zcVl]
    rw [← hw3]
    refine Check_spec r[i] fun w4 hk4 => ?_
    have hmem : r[i] ∈ r := List.getElem_mem hi
    have hx4 := hk4.get hx3 (by simp)
    have hb4 := (hb.keep hk3).keep hk4
    cases hv : r[i].ok with
    | false =>
      simp [-getElem?_pos, -Array.all_eq_true, -Array.getElem?_eq_getElem, -List.length_flatten, gz0, gz1, hv]
      have := hK w4 hb4.kp
      rw [putRow_bad hmem hv] at this
      exact this
    | true =>
      simp [-getElem?_pos, -Array.all_eq_true, -Array.getElem?_eq_getElem, -List.length_flatten, gz0, gz1, hv, hx4]
      refine bytes_spec r[i] (hw _ hmem) fun w5 hk5 => ?_
      have hbl := V3.bytes_ok hv
      refine bd_string (hb4.keep hk5) _ (by simp only [List.length_cons]; omega) fun w6 h6 => ?_
      simp only [bq_add, hiw]
      have htk : r.take i ++ [r[i]] = r.take (i + 1) := (List.take_succ_eq_append_getElem hi).symm
      refine hN (r.length - (i + 1)) _ _ (by omega) ⟨i + 1, by omega, rfl, rfl, ?_, ?_⟩
      · rw [← htk, rowB_snoc]
        simpa using h6
      · rw [← htk, List.all_append, hok]
        simp [hv]
  · have hie : i = r.length := by simp at hge; omega
    subst hie
    rw [List.take_length] at hb hok hrl
    unfold Fn116_s0
    refine bd_text hb (by simp only [List.length_cons]; omega) fun w7 hk7 => ?_
    have := hK w7 hk7
    have hp : putRow r = (bOf r.length :: rowB r, 0) := by unfold putRow; rw [if_pos ⟨hl, hok⟩]
    rw [hp] at this
    exact this
theorem refPut_spec {w : World} {rv : Value} {r : List V3} (hr : Rd w rv 3 (r.map valV)) (hw : ∀ v ∈ r, v.Wf) (hlen : r.length < 2 ^ 40) {K : KW}
    (hK : ∀ w', Kp [] w w' → K (.tuple #[.string (str (putRow r).1), .int .i64 (putRow r).2]) w') : callG prog 73 #[rv] w K := by
  refine Fn77_call ?_
  simp only [Fn77, Fn77_s4, hr.lenL, List.length_map, bq_gtr, bV_b]
  refine ⟨fun h => ?_, fun h => ?_⟩
  · have hb : putRow r = ([], 1) := by unfold putRow; rw [if_neg (by simp at h; omega)]
    have := hK w (Kp.refl _ _)
    rw [hb] at this
    exact this
  have hl : r.length ≤ 255 := by simp at h; omega
  have e1 : IntKind.u8.wrap (r.length : Int) = ((bOf r.length).toNat : Int) := wrap_u8 _
  simp only [cvI_i, e1]
  refine bsl_byte _ fun v2 w2 h2 => ?_
  unfold Fn77_s3 Fn77_L2
  refine loop_inv (fun m xs wi => ∃ i vi, i ≤ r.length ∧ m = r.length - i ∧ xs = [rv, vi, .int .i64 (i : Nat)] ∧ Fr w wi vi 1 ((bOf r.length :: rowB (r.take i)).map byteV) ∧ (r.take i).all V3.ok = true) ?_ (m := r.length)
    ⟨0, v2, by omega, rfl, rfl, h2, rfl⟩
  rintro m N xs wi ⟨i, vi, hi, rfl, rfl, hb, hok⟩ hN
  have hri := hr.keep hb.kp
  simp only [Fn77_L2F, Fn77_b1, hri.lenL, List.length_map, bq_lss, bV_b]
  have htl : (r.take i).length = i := by rw [List.length_take]; omega
  have hrl := rowB_len hok
  rw [htl] at hrl
  refine ⟨fun hlt => ?_, fun hge => ?_⟩
  · have hi : i < r.length := by simpa using hlt
    have hiw : IntKind.i64.wrap ((i : Int) + 1) = ((i + 1 : Nat) : Int) := by rw [w64 (by omega) (by omega)]; simp
    have hmem : r[i] ∈ r := List.getElem_mem hi
    obtain ⟨p, hp1, hp2⟩ := rd_val hri hi
    rw [hp1, hp2]
    refine May_spec r[i] fun w4 hk4 => ?_
    have hb4 := hb.keep hk4
    cases hv : r[i].ok with
    | false =>
      simp [-getElem?_pos, -Array.all_eq_true, -Array.getElem?_eq_getElem, -List.length_flatten, gz0, gz1, hv]
      have := hK w4 hb4.kp
      rw [putRow_bad hmem hv] at this
      exact this
    | true =>
      obtain ⟨p, hp1, hp2⟩ := rd_val (hr.keep hb4.kp) hi
      simp only [un_not, bV_b]
      refine ⟨fun h => by simp at h, fun _ => ?_⟩
      rw [hp1, hp2]
      refine refBytes_spec r[i] (hw _ hmem) fun w5 hk5 => ?_
      have hbl := V3.bytes_ok hv
      refine bytes_app (by kernel_rfl) (hb4.keep hk5) _ (by simp only [List.length_cons]; omega) fun v6 w6 h6 => ?_
      simp only [bq_add, hiw]
      have htk : r.take i ++ [r[i]] = r.take (i + 1) := (List.take_succ_eq_append_getElem hi).symm
      refine hN (r.length - (i + 1)) _ _ (by omega) ⟨i + 1, v6, by omega, rfl, rfl, ?_, ?_⟩
      · rw [← htk, rowB_snoc]
        simpa using h6
      · rw [← htk, List.all_append, hok]
        simp [hv]
  · have hie : i = r.length := by simp at hge; omega
    subst hie
    rw [List.take_length] at hb hok hrl
    unfold Fn77_s0
    rw [hb.text]
    have := hK wi hb.kp
    have hp : putRow r = (bOf r.length :: rowB r, 0) := by unfold putRow; rw [if_pos ⟨hl, hok⟩]
    rw [hp] at this
    exact this
theorem takeRow_cons (c : UInt8) (t : List UInt8) : takeRow (c :: t) = match takeL c.toNat t with | some (l, []) => (l, 0) | _ => ([], 50) := rfl
theorem takeL_none {n : Nat} {r : List UInt8} (h : oneV r = none) : takeL (n + 1) r = none := by simp [takeL, h]
theorem takeL_some' {n k : Nat} {v : V3} {r : List UInt8} (h : oneV r = some (v, k)) : takeL (n + 1) r = (takeL n (r.drop k)).map fun p => (v :: p.1, p.2) := by
  simp only [takeL, h]
  cases takeL n (r.drop k) with
  | none => rfl
  | some p => rfl
theorem Take_spec {w : World} (s : List UInt8) (hl : s.length < 2 ^ 39) {K : KW}
    (hK : ∀ v w', Fr w w' v 3 ((takeRow s).1.map valV) → K (.tuple #[v, .int .i64 (takeRow s).2]) w') : callG prog 110 #[.string (str s)] w K := by
  refine Fn117_call ?_
  simp only [Fn117, Fn117_s4, str_nil, bq_seql, str_eq, bV_b]
  cases s with
  | nil =>
    refine ⟨fun _ => ?_, fun h => by simp at h⟩
    exact hK _ w (fr_nil (Kp.refl _ _))
  | cons c t =>
    refine ⟨fun h => by simp at h, fun _ => ?_⟩
    simp only [List.length_cons] at hl
    have hc := c.toNat_lt
    have hx : (str (c :: t)).extract 1 (t.length + 1) = str t := by rw [str_extract]; simp
    simp only [slS_p, bnd_some, bnd_none, str_size, List.length_cons, Int.toNat_one, hx]
    refine ⟨by omega, ?_⟩
    unfold Fn117_s3
    have e0 : ∀ K : Value → Prop, ixS (.string (str (c :: t))) (.int .i64 0) K = K (.int .u8 c.toNat) := fun K => ixS_lit (s := c :: t) (i := 0) (by simp)
    rw [e0]
    have bad : ∀ w', Kp [] w w' → (∀ l, takeL c.toNat t ≠ some (l, [])) → K (.tuple #[.slice none 0 0, .int .i64 50]) w' := by
      intro w' hk hno
      have hb : takeRow (c :: t) = ([], 50) := by
        rw [takeRow_cons]
        split
        · rename_i l h; exact absurd h (hno l)
        · rfl
      have := hK (.slice none 0 0) w' (by rw [hb]; exact fr_nil hk)
      rw [hb] at this
      exact this
    unfold Fn117_L2
    refine loop_inv (fun m xs wi => ∃ (i : Nat) (l : List V3) (r : List UInt8) (vo : Value), i ≤ c.toNat ∧ m = c.toNat - i ∧ xs = [vo, .string (str r), .int .u8 c.toNat, .int .u8 (i : Nat)] ∧ Fr w wi vo 3 (l.map valV) ∧ l.length = i ∧ r.length ≤ t.length ∧
        takeL c.toNat t = (takeL (c.toNat - i) r).map fun p => (l ++ p.1, p.2)) ?_ (m := c.toNat) ⟨0, [], t, .slice none 0 0, by omega, rfl, rfl, fr_nil (Kp.refl _ _), rfl, by omega, by simp [Option.map_id']⟩
    rintro m N xs wi ⟨i, l, r, vo, hi, rfl, rfl, hf, hli, hrt, htk⟩ hN
    simp only [Fn117_L2F, Fn117_b1, bq_lss, bV_b]
    refine ⟨fun hlt => ?_, fun hge => ?_⟩
    · have hi : i < c.toNat := by simpa using hlt
      have hn : c.toNat - i = (c.toNat - (i + 1)) + 1 := by omega
      rw [hn] at htk
      refine one_spec r (by omega) (fun v k w1 ho hk1 => ?_) (fun v y w1 ho hk1 => ?_)
      · rw [ex30, ex31, ex32]
        have hk := oneV_len ho
        have hf1 := hf.keep hk1
        simp [-getElem?_pos, -Array.all_eq_true, -Array.getElem?_eq_getElem, -List.length_flatten, gz0, gz1, zcVl, heap_new]
        refine bsl_rowN (n := 3) (cs := valV v) (by omega) rfl rfl fun v3 w3 h3 => ?_
        have hf3 := (hf1.keep kp_alloc).keep h3.kp
        refine fr_push hf3 h3.rd (by omega) rfl (valV_one v) (by simp [hli]; omega) (by simp [hli]; omega) (wx := w3) fun v4 w4 h4 => ?_
        have e4 : IntKind.u8.wrap ((i : Int) + 1) = ((i + 1 : Nat) : Int) := by
          rw [show ((i : Int) + 1) = ((i + 1 : Nat) : Int) by simp]; exact wrap_natu8 (by omega)
        simp only [bq_add, e4]
        refine hN (c.toNat - (i + 1)) _ _ (by omega) ⟨i + 1, l ++ [v], r.drop k, v4, by omega, rfl, rfl, by rw [List.map_append]; exact h4, by simp [hli], by rw [List.length_drop]; omega, ?_⟩
        rw [htk, takeL_some' ho, Option.map_map]
        congr 1
        funext p
        simp
      · rw [ex30, ex31, ex32]
        simp [-getElem?_pos, -Array.all_eq_true, -Array.getElem?_eq_getElem, -List.length_flatten, gz0, gz1, zcVl, heap_new]
        refine bad _ ((hf.kp.trans' hk1).trans' kp_alloc) fun l' h => ?_
        rw [htk, takeL_none ho] at h
        cases h
    · have hie : i = c.toNat := by simp at hge; omega
      subst hie
      rw [Nat.sub_self] at htk
      have h0 : takeL 0 r = some ([], r) := rfl
      rw [h0] at htk
      simp only [Option.map_some, List.append_nil] at htk
      unfold Fn117_s0
      simp only [str_nil, bq_sneq, str_eq, bV_b]
      refine ⟨fun hr => ?_, fun hr => ?_⟩
      · refine bad wi hf.kp fun l' h => ?_
        rw [htk] at h
        injection h with h; injection h with _ h
        simp [h] at hr
      · have hr0 : r = [] := by simpa using hr
        subst hr0
        have hb : takeRow (c :: t) = (l, 0) := by rw [takeRow_cons, htk]
        have := hK vo wi (by rw [hb]; exact hf)
        rw [hb] at this
        exact this
end Go.Proofs

set_option linter.unusedVariables false
set_option linter.unusedSimpArgs false
namespace Go.Q
structure OpV where
  k : Int
  sku : List UInt8
  loc : List UInt8
  to : List UInt8
  q : Int
  id : Int
  due : Int
  deriving DecidableEq
def opC (o : OpV) : List Value := [.int .i64 o.k, .string (str o.sku), .string (str o.loc), .string (str o.to), .int .i64 o.q, .int .i64 o.id, .int .i64 o.due]
def nameOk (s : List UInt8) : Bool := decide (1 ≤ s.length ∧ s.length ≤ 64)
def OpV.ok (o : OpV) : Bool :=
  let names := nameOk o.sku && nameOk o.loc
  let none := decide (o.sku = [] ∧ o.loc = [])
  if o.k = 1 then names && decide (o.to = [] ∧ 1 ≤ o.q ∧ o.id = 0 ∧ o.due = 0)
  else if o.k = 2 then names && decide (o.to = [] ∧ 1 ≤ o.q ∧ o.id = 0 ∧ 0 ≤ o.due)
  else if o.k = 3 ∨ o.k = 4 then none && decide (o.to = [] ∧ o.q = 0 ∧ 1 ≤ o.id ∧ o.due = 0)
  else if o.k = 5 then none && decide (o.to = [] ∧ o.q = 0 ∧ o.id = 0 ∧ 0 ≤ o.due)
  else if o.k = 6 then names && nameOk o.to && decide (o.to ≠ o.loc ∧ 1 ≤ o.q ∧ o.id = 0 ∧ o.due = 0)
  else if o.k = 7 then names && decide (o.to = [] ∧ o.q ≠ 0 ∧ o.id = 0 ∧ o.due = 0)
  else false
def OpV.rest (o : OpV) : OpV :=
  if o.k = 1 ∨ o.k = 7 then ⟨o.k, o.sku, o.loc, [], o.q, 0, 0⟩
  else if o.k = 2 then ⟨o.k, o.sku, o.loc, [], o.q, 0, o.due⟩
  else if o.k = 3 ∨ o.k = 4 then ⟨o.k, [], [], [], 0, o.id, 0⟩
  else if o.k = 5 then ⟨o.k, [], [], [], 0, 0, o.due⟩
  else if o.k = 6 then ⟨o.k, o.sku, o.loc, o.to, o.q, 0, 0⟩
  else ⟨o.k, [], [], [], 0, 0, 0⟩
def OpV.may (o : OpV) (nm : Bool) : Bool :=
  if o.k = 1 then nm && decide (1 ≤ o.q)
  else if o.k = 2 then nm && decide (1 ≤ o.q ∧ 0 ≤ o.due)
  else if o.k = 3 ∨ o.k = 4 then decide (1 ≤ o.id)
  else if o.k = 5 then decide (0 ≤ o.due)
  else if o.k = 6 then nm && nameOk o.to && decide (o.to ≠ o.loc ∧ 1 ≤ o.q)
  else if o.k = 7 then nm && decide (o.q ≠ 0)
  else false
theorem OpV.ok_eq (o : OpV) : (o.may (nameOk o.sku && nameOk o.loc) && decide (o.rest = o)) = o.ok := by
  obtain ⟨k, sku, loc, to, q, id, due⟩ := o
  unfold OpV.may OpV.rest OpV.ok
  simp only
  generalize nameOk sku = a
  generalize nameOk loc = b
  generalize nameOk to = c
  have sym : ∀ {α : Type} (x y : α), (x = y) = (y = x) := fun x y => propext ⟨Eq.symm, Eq.symm⟩
  rw [Bool.eq_iff_iff]
  by_cases h1 : k = 1
  · simp [h1, sym [] to, sym 0 id, sym 0 due]; grind
  by_cases h2 : k = 2
  · simp [h2, sym [] to, sym 0 id]; grind
  by_cases h3 : k = 3 ∨ k = 4
  · have h7 : ¬ k = 7 := by omega
    simp [h1, h2, h3, h7]; grind
  by_cases h5 : k = 5
  · simp [h5]; grind
  by_cases h6 : k = 6
  · simp [h6]; grind
  by_cases h7 : k = 7
  · simp [h7]; grind
  · simp [h1, h2, h3, h5, h6, h7]
end Go.Q

set_option linter.unusedVariables false
set_option linter.unusedSimpArgs false
namespace Go.Q
def kOk (k : Int) (v : V3) : Bool := (decide (v.k = k) || (decide (k = 0) && decide (v.k = 1 ∧ v.n ≠ 0))) && v.ok
def isK : List V3 → List Int → Bool
  | [], [] => true
  | v :: r, k :: ks => kOk k v && isK r ks
  | _, _ => false
theorem isK_len : ∀ {r : List V3} {ks : List Int}, isK r ks = true → r.length = ks.length := by
  intro r
  induction r with
  | nil => intro ks h; cases ks with
    | nil => rfl
    | cons k ks => cases h
  | cons v r ih => intro ks h; cases ks with
    | nil => cases h
    | cons k ks =>
      simp only [isK, Bool.and_eq_true] at h
      simp [ih h.2]
def intV (k : Int) : List Value := [.int .i64 k]
def strV (s : List UInt8) : List Value := [.string (str s)]
def partsFrom : Nat → List Value → List (Nat × Value)
  | _, [] => []
  | i, x :: r => (i, x) :: partsFrom (i + 1) r
theorem fill_rows {n : Nat} (hn : 0 < n) : ∀ (xs : List Value) (rows : List (List Value)) (i : Nat) (c : Array Value), xs.map Value.cells = rows.map List.toArray → (∀ y ∈ rows, y.length = n) → c.size = (i + xs.length) * n →
    Instr.fill (fun i => some (i * n, n)) c (partsFrom i xs) = some (c.toList.take (i * n) ++ rows.flatten).toArray := by
  intro xs
  induction xs with
  | nil =>
    intro rows i c h1 h2 h3
    have : rows = [] := by simpa using h1.symm
    subst this
    simp only [List.length_nil, Nat.add_zero] at h3
    have : c.toList.take (i * n) = c.toList := List.take_of_length_le (by simp [h3])
    simp [partsFrom, Instr.fill, this]
  | cons x xs ih =>
    intro rows i c h1 h2 h3
    cases rows with
    | nil => simp at h1
    | cons y rows =>
      simp only [List.map_cons, List.cons.injEq] at h1
      have hy := h2 y (by simp)
      simp only [List.length_cons] at h3
      have e1 : (i + (xs.length + 1)) * n = i * n + n + xs.length * n := by rw [Nat.add_mul, Nat.add_mul]; omega
      rw [e1] at h3
      unfold partsFrom
      rw [fill_step (off := i * n) (size := n) rfl (by rw [h1.1]; simpa using hy) (by omega), h1.1]
      have hsz : (splice c (i * n) y.toArray).size = (i + 1 + xs.length) * n := by
        rw [splice_size (by simp [hy]; omega), h3, Nat.add_mul, Nat.add_mul]; omega
      rw [ih rows (i + 1) _ h1.2 (fun z hz => h2 z (by simp [hz])) hsz]
      congr 2
      have e2 : (splice c (i * n) y.toArray).toList.take ((i + 1) * n) = c.toList.take (i * n) ++ y := by
        unfold splice
        have hl : (c.toList.take (i * n)).length = i * n := by rw [List.length_take]; simp; omega
        exact List.take_left' (by rw [List.length_append, hl, Nat.add_mul]; simp [hy])
      rw [e2]
      simp
theorem bsl_rows {e n len : Nat} {z : Array Value} {xs : List Value} {rows : List (List Value)} (hn : 0 < n) (hl : xs.length = len) (hc : xs.map Value.cells = rows.map List.toArray) (hr : ∀ y ∈ rows, y.length = n) (hpos : 0 < len) {w : World} {K : KW}
    (hK : ∀ v' w', Fr w w' v' n rows → K v' w') : bsl e n len z (partsFrom 0 xs).toArray w K := by
  have hlen : rows.length = len := by have := congrArg List.length hc; simp at this; omega
  have hf := fill_rows hn xs rows 0 (rep z (len * n)) hc hr (by rw [rep_size, hl, Nat.zero_add])
  simp only [Nat.zero_mul, List.take_zero, List.nil_append] at hf
  unfold bsl
  have hf' : Instr.fill (fun i => some (i * n, n)) (rep z (len * n)) (partsFrom 0 xs).toArray.toList = some rows.flatten.toArray := hf
  rw [hf']
  refine hK _ _ ⟨⟨[w.heap.size], .inr ⟨w.heap.size, rows, e, by rw [hlen], rfl, heap_new, hr, List.take_length, Nat.le_refl _⟩, by simp⟩, kp_alloc⟩
end Go.Q

set_option linter.unusedVariables false
set_option linter.unusedSimpArgs false
namespace Go.Proofs
open Go Go.Q
open Tryz (prog)
theorem zcOp : zc prog 42 = [.int .i64 0, .string ⟨#[]⟩, .string ⟨#[]⟩, .string ⟨#[]⟩, .int .i64 0, .int .i64 0, .int .i64 0].toArray := by kernel_rfl
theorem aggOpT : aggO prog 42 = some true := by kernel_rfl
theorem szOpT : szO prog 42 = some 7 := by kernel_rfl
theorem eqOp {k q i d k' q' i' d' : Int} {s l t s' l' t' : ByteArray} : aggEq prog 42 [.int .i64 k, .string s, .string l, .string t, .int .i64 q, .int .i64 i, .int .i64 d] [.int .i64 k', .string s', .string l', .string t', .int .i64 q', .int .i64 i', .int .i64 d'] = true := by kernel_rfl
def opA (o : OpV) : Value := .agg #[.int .i64 o.k, .string (str o.sku), .string (str o.loc), .string (str o.to), .int .i64 o.q, .int .i64 o.id, .int .i64 o.due]
theorem name_spec {w : World} (s : List UInt8) {K : KW} (hK : K (.bool (nameOk s)) w) : callG prog 119 #[.string (str s)] w K := by
  refine Fn23_call ?_
  unfold nameOk at hK
  have e1 : ((1 : Int) ≤ (s.length : Int)) = (1 ≤ s.length) := by apply propext; omega
  by_cases h : 1 ≤ s.length
  · simpa [Fn23, Fn23_s0, e1, le64, h] using hK
  · simpa [Fn23, Fn23_s0, e1, le64, h] using hK
theorem Name_spec {w : World} (s : List UInt8) {K : KW} (hK : K (.bool (nameOk s)) w) : callG prog 68 #[.string (str s)] w K := by
  refine Fn81_call ?_
  unfold nameOk at hK
  have e1 : ((1 : Int) ≤ (s.length : Int)) = (1 ≤ s.length) := by apply propext; omega
  by_cases h : 1 ≤ s.length
  · simpa [Fn81, Fn81_s0, e1, le64, h] using hK
  · simpa [Fn81, Fn81_s0, e1, le64, h] using hK
section
variable {w0 : World} {a b : Nat} {K : KW}
theorem check_s0 {w : World} {o r : OpV} (ha : w.heap[a]? = some (.cells #[.int .i64 o.k, .string (str o.sku), .string (str o.loc), .string (str o.to), .int .i64 o.q, .int .i64 o.id, .int .i64 o.due] 42))
    (hb : w.heap[b]? = some (.cells #[.int .i64 r.k, .string (str r.sku), .string (str r.loc), .string (str r.to), .int .i64 r.q, .int .i64 r.id, .int .i64 r.due] 42)) (hab : ¬ b = a) (hb0 : w0.heap.size ≤ b) (hk : Kp [] w0 w) (ok : Bool)
    (hK : ∀ w', Kp [] w0 w' → K (.int .i64 (if (ok && decide ({ r with k := o.k } = o)) = true then 0 else 1)) w') : Fn15_s0 K (.pointer (some ⟨a, 0, none⟩)) (.pointer (some ⟨b, 0, none⟩)) (.bool ok) w := by
  unfold Fn15_s0
  have lb := live_of hb
  have hkb : ∀ ob, Kp [] w0 (setBlk w b ob) := fun ob => hk.setBlk (.inr hb0) _
  have h := hK _ (hkb (.cells #[.int .i64 o.k, .string (str r.sku), .string (str r.loc), .string (str r.to), .int .i64 r.q, .int .i64 r.id, .int .i64 r.due] 42))
  obtain ⟨k, sku, loc, to, q, id, due⟩ := o
  obtain ⟨k', sku', loc', to', q', id', due'⟩ := r
  simp [-getElem?_pos, -Array.all_eq_true, -Array.getElem?_eq_getElem, -List.length_flatten, gz0, gz1, ha, hb, lb, heap_self lb, heap_ne hab, eqOp]
  simp only [OpV.mk.injEq, true_and] at h
  generalize setBlk w b _ = W at h ⊢
  by_cases c : sku' = sku ∧ loc' = loc ∧ to' = to ∧ q' = q ∧ id' = id ∧ due' = due
  · cases ok <;> simp_all
  · cases ok <;> simp_all
    grind
theorem check_s9 {w : World} {o : OpV} (ha : w.heap[a]? = some (.cells #[.int .i64 o.k, .string (str o.sku), .string (str o.loc), .string (str o.to), .int .i64 o.q, .int .i64 o.id, .int .i64 o.due] 42))
    (hb : w.heap[b]? = some (.cells #[.int .i64 0, .string (str []), .string (str []), .string (str []), .int .i64 0, .int .i64 0, .int .i64 0] 42)) (hab : ¬ b = a) (hb0 : w0.heap.size ≤ b) (hk : Kp [] w0 w) (nm : Bool)
    (hK : ∀ w', Kp [] w0 w' → K (.int .i64 (if (o.may nm && decide (o.rest = o)) = true then 0 else 1)) w') : Fn15_s9 K (.pointer (some ⟨a, 0, none⟩)) (.pointer (some ⟨b, 0, none⟩)) (.bool nm) w := by
  have lb := live_of hb
  have hkb : ∀ ob, Kp [] w0 (setBlk w b ob) := fun ob => hk.setBlk (.inr hb0) _
  have hfin : ∀ (W : World) (r : OpV) (ok : Bool), W.heap[a]? = some (.cells #[.int .i64 o.k, .string (str o.sku), .string (str o.loc), .string (str o.to), .int .i64 o.q, .int .i64 o.id, .int .i64 o.due] 42) →
      W.heap[b]? = some (.cells #[.int .i64 r.k, .string (str r.sku), .string (str r.loc), .string (str r.to), .int .i64 r.q, .int .i64 r.id, .int .i64 r.due] 42) → Kp [] w0 W → { r with k := o.k } = o.rest → ok = o.may nm →
      Fn15_s0 K (.pointer (some ⟨a, 0, none⟩)) (.pointer (some ⟨b, 0, none⟩)) (.bool ok) W := by
    intro W r ok h1 h2 h3 h4 h5
    refine check_s0 h1 h2 hab hb0 h3 ok fun w' hk' => ?_
    rw [h4, h5]
    exact hK w' hk'
  have hset : ∀ r : OpV, (setBlk w b (.cells #[.int .i64 r.k, .string (str r.sku), .string (str r.loc), .string (str r.to), .int .i64 r.q, .int .i64 r.id, .int .i64 r.due] 42)).heap[a]? = some (.cells #[.int .i64 o.k, .string (str o.sku), .string (str o.loc), .string (str o.to), .int .i64 o.q, .int .i64 o.id, .int .i64 o.due] 42) :=
    fun r => by rw [heap_ne hab]; exact ha
  have fin2 : ∀ (r : OpV) (ok : Bool), { r with k := o.k } = o.rest → ok = o.may nm → Fn15_s0 K (.pointer (some ⟨a, 0, none⟩)) (.pointer (some ⟨b, 0, none⟩)) (.bool ok)
      (setBlk w b (.cells #[.int .i64 r.k, .string (str r.sku), .string (str r.loc), .string (str r.to), .int .i64 r.q, .int .i64 r.id, .int .i64 r.due] 42)) := fun r ok h1 h2 => hfin _ r ok (hset r) (heap_self lb) (hkb _) h1 h2
  clear hK
  obtain ⟨k, sku, loc, to, q, id, due⟩ := o
  unfold Fn15_s9 Fn15_s8 Fn15_s7 Fn15_s6 Fn15_s5 Fn15_s4 Fn15_s3 Fn15_s1 Fn15_s2
  simp [-getElem?_pos, -Array.all_eq_true, -Array.getElem?_eq_getElem, -List.length_flatten, gz0, gz1, ha, hb, lb, heap_self lb, heap_ne hab, zcOp, str_nil, bld_done, bld_if, offAt, putAt]
  refine ⟨fun h1 => ?_, fun h1 => ⟨fun h2 => ?_, fun h2 => ?_⟩⟩
  · subst h1
    refine ⟨fun hn => fin2 ⟨0, sku, loc, [], q, 0, 0⟩ _ rfl (by simp [OpV.may, hn]), fun hn => fin2 ⟨0, sku, loc, [], q, 0, 0⟩ _ rfl (by simp [OpV.may, hn])⟩
  · subst h2
    refine ⟨fun hn => ⟨fun hq => fin2 ⟨0, sku, loc, [], q, 0, due⟩ _ rfl (by simp [OpV.may, hn, hq]), fun hq => fin2 ⟨0, sku, loc, [], q, 0, due⟩ _ rfl (by simp [OpV.may, hn]; omega)⟩, fun hn => fin2 ⟨0, sku, loc, [], q, 0, due⟩ _ rfl (by simp [OpV.may, hn])⟩
  · refine ⟨fun h3 => ?_, fun h3 => ⟨fun h4 => ?_, fun h4 => ⟨fun h5 => ?_, fun h5 => ⟨fun h6 => ?_, fun h6 => ⟨fun h7 => ?_, fun h7 => ?_⟩⟩⟩⟩⟩
    · subst h3
      exact fin2 ⟨0, [], [], [], 0, id, 0⟩ _ rfl rfl
    · subst h4
      exact fin2 ⟨0, [], [], [], 0, id, 0⟩ _ rfl rfl
    · subst h5
      exact fin2 ⟨0, [], [], [], 0, 0, due⟩ _ rfl rfl
    · subst h6
      refine ⟨fun hn => name_spec to ?_, fun hn => fin2 ⟨0, sku, loc, to, q, 0, 0⟩ _ rfl (by simp [OpV.may, hn])⟩
      have hs := hset ⟨0, sku, loc, to, q, 0, 0⟩
      simp only at hs
      simp [-getElem?_pos, -Array.all_eq_true, -Array.getElem?_eq_getElem, -List.length_flatten, gz0, gz1, hs]
      refine ⟨fun ht => ⟨fun hne => fin2 ⟨0, sku, loc, to, q, 0, 0⟩ _ rfl (by simp [OpV.may, hn, ht, hne]), fun he => fin2 ⟨0, sku, loc, to, q, 0, 0⟩ _ rfl (by simp [OpV.may, hn, ht, he])⟩, fun ht => fin2 ⟨0, sku, loc, to, q, 0, 0⟩ _ rfl (by simp [OpV.may, hn, ht])⟩
    · subst h7
      refine ⟨fun hn => fin2 ⟨0, sku, loc, [], q, 0, 0⟩ _ rfl (by simp [OpV.may, hn]), fun hn => fin2 ⟨0, sku, loc, [], q, 0, 0⟩ _ rfl (by simp [OpV.may, hn])⟩
    · have := hfin w ⟨0, [], [], [], 0, 0, 0⟩ false ha hb hk (by simp [OpV.rest, h1, h2, h3, h4, h5, h6, h7]) (by simp [OpV.may, h1, h2, h3, h4, h5, h6, h7])
      exact this
end
theorem CheckOp_spec {w : World} (o : OpV) {K : KW} (hK : ∀ w', Kp [] w w' → K (.int .i64 (if o.ok = true then 0 else 1)) w') : callG prog 93 #[opA o] w K := by
  refine Fn15_call ?_
  unfold opA
  simp only [Fn15, Fn15_s10, newG_k, cells_agg, zcOp, str_nil]
  obtain ⟨w1, hw1⟩ := ex_w (w' := w.alloc (.cells #[.int .i64 o.k, .string (str o.sku), .string (str o.loc), .string (str o.to), .int .i64 o.q, .int .i64 o.id, .int .i64 o.due] 42))
  have hk1 : Kp [] w w1 := by rw [hw1]; exact kp_alloc
  have ha1 : w1.heap[w.heap.size]? = some (.cells #[.int .i64 o.k, .string (str o.sku), .string (str o.loc), .string (str o.to), .int .i64 o.q, .int .i64 o.id, .int .i64 o.due] 42) := by rw [hw1]; exact heap_new
  have hs1 : w1.heap.size = w.heap.size + 1 := by rw [hw1]; simp
  rw [← hw1]
  obtain ⟨w2, hw2⟩ := ex_w (w' := w1.alloc (.cells #[.int .i64 0, .string (str []), .string (str []), .string (str []), .int .i64 0, .int .i64 0, .int .i64 0] 42))
  have hk2 : Kp [] w1 w2 := by rw [hw2]; exact kp_alloc
  have hb2 : w2.heap[w1.heap.size]? = some (.cells #[.int .i64 0, .string (str []), .string (str []), .string (str []), .int .i64 0, .int .i64 0, .int .i64 0] 42) := by rw [hw2]; exact heap_new
  have ha2 := hk2.get ha1 (by simp)
  rw [← hw2]
  simp [-getElem?_pos, -Array.all_eq_true, -Array.getElem?_eq_getElem, -List.length_flatten, gz0, gz1, ha2]
  refine name_spec o.sku ?_
  have fin : ∀ nm, nm = (nameOk o.sku && nameOk o.loc) → Fn15_s9 K (.pointer (some ⟨w.heap.size, 0, none⟩)) (.pointer (some ⟨w1.heap.size, 0, none⟩)) (.bool nm) w2 := by
    intro nm hnm
    refine check_s9 (w0 := w) ha2 hb2 (by omega) (by omega) (hk1.trans' hk2) nm fun w' hk' => ?_
    rw [hnm, OpV.ok_eq]
    exact hK w' hk'
  simp [-getElem?_pos, -Array.all_eq_true, -Array.getElem?_eq_getElem, -List.length_flatten, gz0, gz1, ha2]
  refine ⟨fun h => name_spec o.loc (fin _ (by rw [h]; rfl)), fun h => fin _ (by rw [h]; rfl)⟩
end Go.Proofs

set_option linter.unusedVariables false
set_option linter.unusedSimpArgs false
namespace Go.Q
def numV (n : Int) : V3 := ⟨1, n, []⟩
def textV (s : List UInt8) : V3 := ⟨2, 0, s⟩
def someV (n : Int) : V3 := if n = 0 then ⟨0, 0, []⟩ else numV n
def opRow (o : OpV) : List V3 := [numV o.k, textV o.sku, textV o.loc, textV o.to, numV o.q, numV o.id, numV o.due]
def rowOp (r : List V3) : OpV := ⟨(r.getD 0 ⟨0, 0, []⟩).n, (r.getD 1 ⟨0, 0, []⟩).s, (r.getD 2 ⟨0, 0, []⟩).s, (r.getD 3 ⟨0, 0, []⟩).s, (r.getD 4 ⟨0, 0, []⟩).n, (r.getD 5 ⟨0, 0, []⟩).n, (r.getD 6 ⟨0, 0, []⟩).n⟩
def opKinds : List Int := [1, 2, 2, 2, 1, 1, 1]
def opZ : OpV := ⟨0, [], [], [], 0, 0, 0⟩
def putOp (o : OpV) : List UInt8 × Int := if o.ok = true then putRow (opRow o) else ([], 1)
def takeOp (s : List UInt8) : OpV × Int := if (takeRow s).2 = 0 ∧ isK (takeRow s).1 opKinds = true ∧ (rowOp (takeRow s).1).ok = true then (rowOp (takeRow s).1, 0) else (opZ, 50)
structure OpV.Wf (o : OpV) : Prop where
  k0 : -9223372036854775808 ≤ o.k
  k1 : o.k < 9223372036854775808
  q0 : -9223372036854775808 ≤ o.q
  q1 : o.q < 9223372036854775808
  i0 : -9223372036854775808 ≤ o.id
  i1 : o.id < 9223372036854775808
  d0 : -9223372036854775808 ≤ o.due
  d1 : o.due < 9223372036854775808
theorem num_wf {n : Int} (h0 : -9223372036854775808 ≤ n) (h1 : n < 9223372036854775808) : (numV n).Wf := ⟨by simp [numV], by simp [numV], h0, h1, by simp [numV]⟩
theorem text_wf {s : List UInt8} (h : s.length < 2 ^ 39) : (textV s).Wf := ⟨by simp [textV], by simp [textV], by simp [textV], by simp [textV], h⟩
theorem OpV.ok_len {o : OpV} (h : o.ok = true) : o.sku.length ≤ 64 ∧ o.loc.length ≤ 64 ∧ o.to.length ≤ 64 := by
  obtain ⟨k, sku, loc, to, q, id, due⟩ := o
  unfold OpV.ok nameOk at h
  simp only at h ⊢
  have hl : ∀ l : List UInt8, l = [] → l.length ≤ 64 := fun l h => by rw [h]; simp
  by_cases h1 : k = 1
  · simp [h1] at h; have := hl to h.2.1; omega
  by_cases h2 : k = 2
  · simp [h2] at h; have := hl to h.2.1; omega
  by_cases h3 : k = 3 ∨ k = 4
  · simp [h1, h2, h3] at h; have := hl to h.2.1; have := hl sku h.1.1; have := hl loc h.1.2; omega
  by_cases h5 : k = 5
  · simp [h5] at h; have := hl to h.2.1; have := hl sku h.1.1; have := hl loc h.1.2; omega
  by_cases h6 : k = 6
  · simp [h6] at h; omega
  by_cases h7 : k = 7
  · simp [h7] at h; have := hl to h.2.1; omega
  · simp [h1, h2, h3, h5, h6, h7] at h
theorem opRow_wf {o : OpV} (h : o.ok = true) (hw : o.Wf) : ∀ v ∈ opRow o, v.Wf := by
  obtain ⟨h1, h2, h3⟩ := o.ok_len h
  intro v hv
  simp only [opRow, List.mem_cons, List.not_mem_nil, or_false] at hv
  rcases hv with rfl | rfl | rfl | rfl | rfl | rfl | rfl
  · exact num_wf hw.k0 hw.k1
  · exact text_wf (by omega)
  · exact text_wf (by omega)
  · exact text_wf (by omega)
  · exact num_wf hw.q0 hw.q1
  · exact num_wf hw.i0 hw.i1
  · exact num_wf hw.d0 hw.d1
theorem list7 {α : Type} {r : List α} (h : r.length = 7) : ∃ a b c d e f g, r = [a, b, c, d, e, f, g] := by
  match r, h with
  | [a, b, c, d, e, f, g], _ => exact ⟨a, b, c, d, e, f, g, rfl⟩
theorem list6 {α : Type} {r : List α} (h : r.length = 6) : ∃ a b c d e f, r = [a, b, c, d, e, f] := by
  match r, h with
  | [a, b, c, d, e, f], _ => exact ⟨a, b, c, d, e, f, rfl⟩
theorem list4 {α : Type} {r : List α} (h : r.length = 4) : ∃ a b c d, r = [a, b, c, d] := by
  match r, h with
  | [a, b, c, d], _ => exact ⟨a, b, c, d, rfl⟩
theorem putRow_len {r : List V3} (hl : r.length ≤ 255) : (putRow r).1.length ≤ 20000 := by
  unfold putRow
  split
  · rename_i h
    have := rowB_len h.2
    simp; omega
  · simp
end Go.Q

set_option linter.unusedVariables false
set_option linter.unusedSimpArgs false
namespace Go.Proofs
open Go Go.Q
open Tryz (prog)
def valA (v : V3) : Value := .agg #[.int .i64 v.k, .int .i64 v.n, .string (str v.s)]
theorem num_spec {w : World} (n : Int) {K : KW} (hK : ∀ w', Kp [] w w' → K (valA (numV n)) w') : callG prog 64 #[.int .i64 n] w K := by
  refine Fn24_call ?_
  simp [-getElem?_pos, -Array.all_eq_true, -Array.getElem?_eq_getElem, -List.length_flatten, gz0, gz1, Fn24, Fn24_s0, heap_new, zcVl, bld_done, bld_if, offAt, putAt]
  rw [loadVar_of aggValT szValT heap_new rfl]
  exact hK _ kp_alloc
theorem text_spec {w : World} (s : List UInt8) {K : KW} (hK : ∀ w', Kp [] w w' → K (valA (textV s)) w') : callG prog 63 #[.string (str s)] w K := by
  refine Fn28_call ?_
  simp [-getElem?_pos, -Array.all_eq_true, -Array.getElem?_eq_getElem, -List.length_flatten, gz0, gz1, Fn28, Fn28_s0, heap_new, zcVl, bld_done, bld_if, offAt, putAt]
  rw [loadVar_of aggValT szValT heap_new rfl]
  exact hK _ kp_alloc
theorem refNum_spec {w : World} (n : Int) {K : KW} (hK : ∀ w', Kp [] w w' → K (valA (numV n)) w') : callG prog 75 #[.int .i64 n] w K := by
  refine Fn84_call ?_
  simp [-getElem?_pos, -Array.all_eq_true, -Array.getElem?_eq_getElem, -List.length_flatten, gz0, gz1, Fn84, Fn84_s0, heap_new, zcVl, bld_done, bld_if, offAt, putAt]
  rw [loadVar_of aggValT szValT heap_new rfl]
  exact hK _ kp_alloc
theorem refText_spec {w : World} (s : List UInt8) {K : KW} (hK : ∀ w', Kp [] w w' → K (valA (textV s)) w') : callG prog 74 #[.string (str s)] w K := by
  refine Fn87_call ?_
  simp [-getElem?_pos, -Array.all_eq_true, -Array.getElem?_eq_getElem, -List.length_flatten, gz0, gz1, Fn87, Fn87_s0, heap_new, zcVl, bld_done, bld_if, offAt, putAt]
  rw [loadVar_of aggValT szValT heap_new rfl]
  exact hK _ kp_alloc
theorem some_spec {w : World} (n : Int) {K : KW} (hK : ∀ w', Kp [] w w' → K (valA (someV n)) w') : callG prog 66 #[.int .i64 n] w K := by
  refine Fn26_call ?_
  simp [-getElem?_pos, -Array.all_eq_true, -Array.getElem?_eq_getElem, -List.length_flatten, gz0, gz1, Fn26, Fn26_s0, heap_new, zcVl, bld_done, bld_if, offAt, putAt, str_nil]
  refine ⟨fun h => ?_, fun h => ?_⟩
  · rw [loadVar_of aggValT szValT heap_new rfl]
    have := hK _ (kp_alloc (w := w) (o := .cells #[.int .i64 0, .int .i64 0, .string (str [])] 76))
    simpa [someV, h, valA] using this
  · refine num_spec n fun w' hk => ?_
    have hb := hk.get (heap_new (w := w) (o := .cells #[.int .i64 0, .int .i64 0, .string (str [])] 76)) (by simp)
    have lb := live_of hb
    simp [-getElem?_pos, -Array.all_eq_true, -Array.getElem?_eq_getElem, -List.length_flatten, gz0, gz1, valA, numV, hb, lvV, lb]
    have := hK _ ((kp_alloc.trans' hk).setBlk (.inr (Nat.le_refl _)) (.cells #[.int .i64 1, .int .i64 n, .string (str [])] 76))
    simpa [someV, h, valA, numV] using this
theorem refSome_spec {w : World} (n : Int) {K : KW} (hK : ∀ w', Kp [] w w' → K (valA (someV n)) w') : callG prog 77 #[.int .i64 n] w K := by
  refine Fn85_call ?_
  simp [-getElem?_pos, -Array.all_eq_true, -Array.getElem?_eq_getElem, -List.length_flatten, gz0, gz1, Fn85, Fn85_s0, heap_new, zcVl, bld_done, bld_if, offAt, putAt, str_nil]
  refine ⟨fun h => ?_, fun h => ?_⟩
  · rw [loadVar_of aggValT szValT heap_new rfl]
    have := hK _ (kp_alloc (w := w) (o := .cells #[.int .i64 0, .int .i64 0, .string (str [])] 76))
    simpa [someV, h, valA] using this
  · refine refNum_spec n fun w' hk => ?_
    have hb := hk.get (heap_new (w := w) (o := .cells #[.int .i64 0, .int .i64 0, .string (str [])] 76)) (by simp)
    have lb := live_of hb
    simp [-getElem?_pos, -Array.all_eq_true, -Array.getElem?_eq_getElem, -List.length_flatten, gz0, gz1, valA, numV, hb, lvV, lb]
    have := hK _ ((kp_alloc.trans' hk).setBlk (.inr (Nat.le_refl _)) (.cells #[.int .i64 1, .int .i64 n, .string (str [])] 76))
    simpa [someV, h, valA, numV] using this
theorem row_spec {w : World} {v : Value} {K : KW} (hK : K v w) : callG prog 62 #[v] w K := Fn25_call hK
theorem isK_drop {r : List V3} {ks : List Int} (hl : r.length = ks.length) {i : Nat} (hi : i < r.length) : isK (r.drop i) (ks.drop i) = (kOk (ks[i]'(by omega)) r[i] && isK (r.drop (i + 1)) (ks.drop (i + 1))) := by
  rw [List.drop_eq_getElem_cons hi, List.drop_eq_getElem_cons (by omega : i < ks.length)]; rfl
theorem isK_bad {r : List V3} {ks : List Int} (hl : r.length ≠ ks.length) : isK r ks = false := by
  cases h : isK r ks with
  | false => rfl
  | true => exact absurd (isK_len h) hl
theorem rd_int {w : World} {v : Value} {ks : List Int} (h : Rd w v 1 (ks.map intV)) {i : Nat} (hi : i < ks.length) : ∃ bl o c T fr, w.heap[bl]? = some (.cells c T fr) ∧ (∀ kd K, ia 1 v (.int kd i) K = K (.pointer (some ⟨bl, o, none⟩))) ∧ c[o]? = some (.int .i64 ks[i]) := by
  obtain ⟨bl, o, T, c, fr, h1, h2, h3, h4, h5⟩ := h.at (i := i) (by simpa using hi)
  refine ⟨bl, o, c, T, fr, h1, h2, ?_⟩
  have := h5 0 (by omega)
  simpa [intV] using this
theorem rd_cells {w : World} {v : Value} {r : List V3} (h : Rd w v 3 (r.map valV)) {i : Nat} (hi : i < r.length) :
    ∃ bl o c T fr, w.heap[bl]? = some (.cells c T fr) ∧ (∀ kd K, ia 3 v (.int kd i) K = K (.pointer (some ⟨bl, o, none⟩))) ∧ c[o]? = some (.int .i64 r[i].k) ∧ c[o + 1]? = some (.int .i64 r[i].n) ∧ c[o + 2]? = some (.string (str r[i].s)) := by
  obtain ⟨bl, o, T, c, fr, h1, h2, h3, h4, h5⟩ := h.at (i := i) (by simpa using hi)
  have g0 := h5 0 (by omega)
  have g1 := h5 1 (by omega)
  have g2 := h5 2 (by omega)
  exact ⟨bl, o, c, T, fr, h1, h2, by simpa [valV] using g0, by simpa [valV] using g1, by simpa [valV] using g2⟩
theorem is_spec {w : World} {rv kv : Value} {r : List V3} {ks : List Int} (hr : Rd w rv 3 (r.map valV)) (hk : Rd w kv 1 (ks.map intV)) (hl : r.length < 2 ^ 40) {K : KW}
    (hK : ∀ w', Kp [] w w' → K (.bool (isK r ks)) w') : callG prog 116 #[rv, kv] w K := by
  refine Fn21_call ?_
  simp only [Fn21, Fn21_s7, hr.lenL, hk.lenL, List.length_map, bq_neq, bV_b]
  refine ⟨fun h => ?_, fun h => ?_⟩
  · have := hK w (Kp.refl _ _)
    rw [isK_bad (by intro he; simp [he] at h)] at this
    exact this
  have hlen : r.length = ks.length := by simp at h; omega
  simp only [Fn21_s6, hr.lenL, List.length_map]
  unfold Fn21_L5
  refine loop_inv (fun m xs wi => ∃ i, i ≤ r.length ∧ m = r.length - i ∧ xs = [kv, rv, .int .i64 r.length, .int .i64 (i : Nat)] ∧ Kp [] w wi ∧ isK r ks = isK (r.drop i) (ks.drop i)) ?_ (m := r.length) ⟨0, by omega, rfl, rfl, Kp.refl _ _, rfl⟩
  rintro m N xs wi ⟨i, hi, rfl, rfl, hki, he⟩ hN
  simp only [Fn21_L5F, Fn21_s4, bq_lss, bV_b]
  refine ⟨fun hlt => ?_, fun hge => ?_⟩
  · have hi : i < r.length := by simpa using hlt
    have hik : i < ks.length := by omega
    have hiw : IntKind.i64.wrap ((i : Int) + 1) = ((i + 1 : Nat) : Int) := by rw [w64 (by omega) (by omega)]; simp
    rw [isK_drop hlen hi] at he
    obtain ⟨p, hp1, hp2⟩ := rd_val (hr.keep hki) hi
    obtain ⟨w1, hw1⟩ := ex_w (w' := wi.alloc (.cells #[.int .i64 r[i].k, .int .i64 r[i].n, .string (str r[i].s)] 76))
    have hk1 : Kp [] wi w1 := by rw [hw1]; exact kp_alloc
    have hb1 : w1.heap[wi.heap.size]? = some (.cells #[.int .i64 r[i].k, .int .i64 r[i].n, .string (str r[i].s)] 76) := by rw [hw1]; exact heap_new
    have hkw := hki.trans' hk1
    obtain ⟨bl, o, c, T, fr, hh, hia, hc⟩ := rd_int (hk.keep hkw) hik
    unfold Fn21_s3
    simp [-getElem?_pos, -Array.all_eq_true, -Array.getElem?_eq_getElem, -List.length_flatten, gz0, gz1, hp1, hp2, heap_new, zcVl]
    rw [← hw1]
    have step : ∀ (b : Bool) (W : World), Kp [] w W → kOk ks[i] r[i] = (b && r[i].ok) → (b = false → False) → (callG prog 58 #[.agg #[.int .i64 r[i].k, .int .i64 r[i].n, .string (str r[i].s)]] W fun t48 w =>
        qG prog (bq .neq 30 (.tmp 48) (.const (.int .i64 0)) t48 (.int .i64 0)) w fun t49 => bV t49 (K (.bool false) w) (Fn21_s1 K N kv rv (.int .i64 r.length) (.int .i64 i) w)) := by
      intro b W hW hb hbf
      have hbt : b = true := by cases b with
        | true => rfl
        | false => exact (hbf rfl).elim
      refine Check_spec r[i] fun w2 hk2 => ?_
      rw [hbt, Bool.true_and] at hb
      cases hv : r[i].ok with
      | false =>
        rw [hv] at hb
        rw [hb, Bool.false_and] at he
        simp [-getElem?_pos, -Array.all_eq_true, -Array.getElem?_eq_getElem, -List.length_flatten, gz0, gz1]
        have := hK w2 (hW.trans' hk2)
        rw [he] at this
        exact this
      | true =>
        rw [hv] at hb
        rw [hb, Bool.true_and] at he
        simp [-getElem?_pos, -Array.all_eq_true, -Array.getElem?_eq_getElem, -List.length_flatten, gz0, gz1]
        unfold Fn21_s1
        simp only [bq_add, hiw]
        exact hN (r.length - (i + 1)) _ _ (by omega) ⟨i + 1, by omega, rfl, rfl, hW.trans' hk2, he⟩
    have fin : ∀ maybe : Bool, kOk ks[i] r[i] = ((decide (r[i].k = ks[i]) || maybe) && r[i].ok) → Fn21_s2 K N kv (.int .i64 i) (.pointer (some ⟨wi.heap.size, 0, none⟩)) (.bool maybe) rv (.int .i64 r.length) (.int .i64 i) w1 := by
      intro maybe hm
      unfold Fn21_s2
      simp [-getElem?_pos, -Array.all_eq_true, -Array.getElem?_eq_getElem, -List.length_flatten, gz0, gz1, hb1, hia, hh, hc]
      refine ⟨fun hne => ⟨fun hf => ?_, fun ht => ?_⟩, fun heq => ?_⟩
      · rw [hf] at hm
        simp only [hne, decide_false, Bool.false_or, Bool.false_and] at hm
        rw [hm, Bool.false_and] at he
        have := hK _ hkw.drew
        rw [he] at this
        exact this
      · exact step true _ hkw.drew (by rw [hm, ht]; simp) fun h => by cases h
      · exact step true _ hkw.drew (by rw [hm, heq]; simp) fun h => by cases h
    simp [-getElem?_pos, -Array.all_eq_true, -Array.getElem?_eq_getElem, -List.length_flatten, gz0, gz1, hb1, hia, hh, hc]
    refine ⟨fun h0 => ⟨fun h1 => fin _ (by simp [kOk, h0, h1]), fun h1 => fin _ (by simp [kOk, h0, h1])⟩, fun h0 => fin _ (by simp [kOk, h0])⟩
  · have hie : i = r.length := by simp at hge; omega
    subst hie
    unfold Fn21_s0
    have := hK wi hki
    rw [he, List.drop_length, hlen, List.drop_length] at this
    exact this
end Go.Proofs

set_option linter.unusedVariables false
set_option linter.unusedSimpArgs false
namespace Go.Proofs
open Go Go.Q
open Tryz (prog)
def kc (c : UInt8) : Int := if c = 109 then 0 else if c = 116 then 2 else 1
theorem PutOp_spec {w : World} (o : OpV) (hw : o.Wf) {K : KW} (hK : ∀ w', Kp [] w w' → K (.tuple #[.string (str (putOp o).1), .int .i64 (putOp o).2]) w') : callG prog 43 #[opA o] w K := by
  refine Fn18_call ?_
  unfold opA
  simp only [Fn18, Fn18_s0, newG_k, cells_agg]
  obtain ⟨w1, hw1⟩ := ex_w (w' := w.alloc (.cells #[.int .i64 o.k, .string (str o.sku), .string (str o.loc), .string (str o.to), .int .i64 o.q, .int .i64 o.id, .int .i64 o.due] 42))
  have hk1 : Kp [] w w1 := by rw [hw1]; exact kp_alloc
  have hb1 : w1.heap[w.heap.size]? = some (.cells #[.int .i64 o.k, .string (str o.sku), .string (str o.loc), .string (str o.to), .int .i64 o.q, .int .i64 o.id, .int .i64 o.due] 42) := by rw [hw1]; exact heap_new
  rw [← hw1]
  simp [-getElem?_pos, -Array.all_eq_true, -Array.getElem?_eq_getElem, -List.length_flatten, gz0, gz1, hb1]
  refine CheckOp_spec o fun w2 hk2 => ?_
  have hb2 := hk2.get hb1 (by simp)
  have hk02 := hk1.trans' hk2
  cases ho : o.ok with
  | false =>
    have hp : putOp o = ([], 1) := by unfold putOp; rw [ho]; rfl
    simp [-getElem?_pos, -Array.all_eq_true, -Array.getElem?_eq_getElem, -List.length_flatten, gz0, gz1]
    have := hK w2 hk02
    rw [hp] at this
    exact this
  | true =>
    have hp : putOp o = putRow (opRow o) := by unfold putOp; rw [if_pos ho]
    simp [-getElem?_pos, -Array.all_eq_true, -Array.getElem?_eq_getElem, -List.length_flatten, gz0, gz1, hb2]
    refine num_spec _ fun w3 hk3 => ?_
    have hb3 := hk3.get (show w2.drew.heap[w.heap.size]? = _ from hb2) (by simp)
    simp [-getElem?_pos, -Array.all_eq_true, -Array.getElem?_eq_getElem, -List.length_flatten, gz0, gz1, hb3]
    refine text_spec _ fun w4 hk4 => ?_
    have hb4 := hk4.get hb3 (by simp)
    simp [-getElem?_pos, -Array.all_eq_true, -Array.getElem?_eq_getElem, -List.length_flatten, gz0, gz1, hb4]
    refine text_spec _ fun w5 hk5 => ?_
    have hb5 := hk5.get hb4 (by simp)
    simp [-getElem?_pos, -Array.all_eq_true, -Array.getElem?_eq_getElem, -List.length_flatten, gz0, gz1, hb5]
    refine text_spec _ fun w6 hk6 => ?_
    have hb6 := hk6.get hb5 (by simp)
    simp [-getElem?_pos, -Array.all_eq_true, -Array.getElem?_eq_getElem, -List.length_flatten, gz0, gz1, hb6]
    refine num_spec _ fun w7 hk7 => ?_
    have hb7 := hk7.get hb6 (by simp)
    simp [-getElem?_pos, -Array.all_eq_true, -Array.getElem?_eq_getElem, -List.length_flatten, gz0, gz1, hb7]
    refine num_spec _ fun w8 hk8 => ?_
    have hb8 := hk8.get hb7 (by simp)
    simp [-getElem?_pos, -Array.all_eq_true, -Array.getElem?_eq_getElem, -List.length_flatten, gz0, gz1, hb8]
    refine num_spec _ fun w9 hk9 => ?_
    have hk09 := (((((((hk02.trans' kp_drew).trans' hk3).trans' hk4).trans' hk5).trans' hk6).trans' hk7).trans' hk8).trans' hk9
    refine bsl_rows (n := 3) (len := 7) (xs := [valA (numV o.k), valA (textV o.sku), valA (textV o.loc), valA (textV o.to), valA (numV o.q), valA (numV o.id), valA (numV o.due)]) (rows := (opRow o).map valV) (by omega) rfl rfl (by simp [opRow, valV]) (by omega) fun v wa ha => ?_
    refine row_spec ?_
    refine Put_spec ha.rd (opRow_wf ho hw) (by simp [opRow]) fun wb hkb => ?_
    rw [ex0, ex1, ← hp]
    exact hK wb ((hk09.trans' ha.kp).trans' hkb)
theorem lvO {b : Nat} {w : World} {c : Array Value} {T : TypeId} {fr : Nat × Nat} (hb : Live w b) (hs : c.size = 7) {K : Value → Prop} :
    qG prog (do loadVar 42 (← asAddr (.pointer (some ⟨b, 0, none⟩)))) (setBlk w b (.cells c T fr)) K = K (.agg c) := loadVar_of aggOpT szOpT (heap_self hb) hs
theorem takeRow_len {s : List UInt8} (h : s.length < 2 ^ 39) : (takeRow s).1.length < 256 := by
  cases s with
  | nil => simp [takeRow]
  | cons c t =>
    rw [takeRow_cons]
    split
    · rename_i l hl
      have := (takeL_some _ hl).1
      have := c.toNat_lt
      simp; omega
    · simp
end Go.Proofs

set_option linter.unusedVariables false
set_option linter.unusedSimpArgs false
namespace Go.Proofs
open Go Go.Q
open Tryz (prog)
theorem takeOp_bad {s : List UInt8} (h : ¬ ((takeRow s).2 = 0 ∧ isK (takeRow s).1 opKinds = true ∧ (rowOp (takeRow s).1).ok = true)) : takeOp s = (opZ, 50) := by unfold takeOp; rw [if_neg h]
theorem takeOp_good {s : List UInt8} (h : (takeRow s).2 = 0 ∧ isK (takeRow s).1 opKinds = true ∧ (rowOp (takeRow s).1).ok = true) : takeOp s = (rowOp (takeRow s).1, 0) := by unfold takeOp; rw [if_pos h]
section
variable {w0 : World} {a : Nat} {K : KW}
theorem takeOp_s0 {w : World} {v : Value} {r : List V3} (hr : Rd w v 3 (r.map valV)) (hk : isK r opKinds = true)
    (ha : w.heap[a]? = some (.cells #[.int .i64 0, .string (str []), .string (str []), .string (str []), .int .i64 0, .int .i64 0, .int .i64 0] 42)) (ha0 : w0.heap.size ≤ a) (hkp : Kp [] w0 w)
    (hK : ∀ w', Kp [] w0 w' → K (.tuple #[opA (if (rowOp r).ok = true then rowOp r else opZ), .int .i64 (if (rowOp r).ok = true then 0 else 50)]) w') : Fn20_s0 K (.pointer (some ⟨a, 0, none⟩)) v w := by
  obtain ⟨r0, r1, r2, r3, r4, r5, r6, rfl⟩ := list7 (isK_len hk)
  obtain ⟨b0, o0, c0, T0, f0, h0, i0, q0, n0, s0⟩ := rd_cells hr (i := 0) (by simp)
  obtain ⟨b1, o1, c1, T1, f1, h1, i1, q1, n1, s1⟩ := rd_cells hr (i := 1) (by simp)
  obtain ⟨b2, o2, c2, T2, f2, h2, i2, q2, n2, s2⟩ := rd_cells hr (i := 2) (by simp)
  obtain ⟨b3, o3, c3, T3, f3, h3, i3, q3, n3, s3⟩ := rd_cells hr (i := 3) (by simp)
  obtain ⟨b4, o4, c4, T4, f4, h4, i4, q4, n4, s4⟩ := rd_cells hr (i := 4) (by simp)
  obtain ⟨b5, o5, c5, T5, f5, h5, i5, q5, n5, s5⟩ := rd_cells hr (i := 5) (by simp)
  obtain ⟨b6, o6, c6, T6, f6, h6, i6, q6, n6, s6⟩ := rd_cells hr (i := 6) (by simp)
  have i0' : ∀ K : Value → Prop, ia 3 v (.int .i64 0) K = K (.pointer (some ⟨b0, o0, none⟩)) := fun K => i0 .i64 K
  have i1' : ∀ K : Value → Prop, ia 3 v (.int .i64 1) K = K (.pointer (some ⟨b1, o1, none⟩)) := fun K => i1 .i64 K
  have i2' : ∀ K : Value → Prop, ia 3 v (.int .i64 2) K = K (.pointer (some ⟨b2, o2, none⟩)) := fun K => i2 .i64 K
  have i3' : ∀ K : Value → Prop, ia 3 v (.int .i64 3) K = K (.pointer (some ⟨b3, o3, none⟩)) := fun K => i3 .i64 K
  have i4' : ∀ K : Value → Prop, ia 3 v (.int .i64 4) K = K (.pointer (some ⟨b4, o4, none⟩)) := fun K => i4 .i64 K
  have i5' : ∀ K : Value → Prop, ia 3 v (.int .i64 5) K = K (.pointer (some ⟨b5, o5, none⟩)) := fun K => i5 .i64 K
  have i6' : ∀ K : Value → Prop, ia 3 v (.int .i64 6) K = K (.pointer (some ⟨b6, o6, none⟩)) := fun K => i6 .i64 K
  clear i0 i1 i2 i3 i4 i5 i6
  simp only [List.getElem_cons_zero, List.getElem_cons_succ] at n0 s1 s2 s3 n4 n5 n6
  clear q0 q1 q2 q3 q4 q5 q6 s0 n1 n2 n3 s4 s5 s6
  obtain ⟨o, ho⟩ : ∃ o, o = rowOp [r0, r1, r2, r3, r4, r5, r6] := ⟨_, rfl⟩
  have eo : o = ⟨r0.n, r1.s, r2.s, r3.s, r4.n, r5.n, r6.n⟩ := ho
  rw [← ho] at hK
  obtain ⟨w2, hw2⟩ := ex_w (w' := w.alloc (.cells #[.int .i64 r0.n, .string (str r1.s), .string (str r2.s), .string (str r3.s), .int .i64 r4.n, .int .i64 r5.n, .int .i64 r6.n] 42))
  have hk2 : Kp [] w w2 := by rw [hw2]; exact kp_alloc
  have hb2 : w2.heap[w.heap.size]? = some (.cells #[.int .i64 r0.n, .string (str r1.s), .string (str r2.s), .string (str r3.s), .int .i64 r4.n, .int .i64 r5.n, .int .i64 r6.n] 42) := by rw [hw2]; exact heap_new
  obtain ⟨wz, hwz⟩ := ex_w (w' := w.alloc (.cells #[.int .i64 0, .string (str []), .string (str []), .string (str []), .int .i64 0, .int .i64 0, .int .i64 0] 42))
  have hkz : Kp [] w wz := by rw [hwz]; exact kp_alloc
  have hz0 := hkz.get h0 (by simp)
  have hz1 := hkz.get h1 (by simp)
  have hz2 := hkz.get h2 (by simp)
  have hz3 := hkz.get h3 (by simp)
  have hz4 := hkz.get h4 (by simp)
  have hz5 := hkz.get h5 (by simp)
  have hz6 := hkz.get h6 (by simp)
  rw [hwz] at hz0 hz1 hz2 hz3 hz4 hz5 hz6
  have ha2 := hk2.get ha (by simp)
  have ha2d : w2.drew.heap[a]? = some (.cells #[.int .i64 0, .string (str []), .string (str []), .string (str []), .int .i64 0, .int .i64 0, .int .i64 0] 42) := ha2
  unfold Fn20_s0
  simp [-getElem?_pos, -Array.all_eq_true, -Array.getElem?_eq_getElem, -List.length_flatten, gz0, gz1, i0', i1', i2', i3', i4', i5', i6', h0, h1, h2, h3, h4, h5, h6, hz0, hz1, hz2, hz3, hz4, hz5, hz6, n0, s1, s2, s3, n4, n5, n6, zcOp, str_nil, bld_done, bld_if, offAt, putAt, heap_new]
  rw [← hw2]
  have e : opA o = .agg #[.int .i64 r0.n, .string (str r1.s), .string (str r2.s), .string (str r3.s), .int .i64 r4.n, .int .i64 r5.n, .int .i64 r6.n] := by rw [eo]; rfl
  rw [← e]
  refine CheckOp_spec o fun w3 hk3 => ?_
  have ha3 := hk3.get ha2d (by simp)
  have hb3 := hk3.get (show w2.drew.heap[w.heap.size]? = _ from hb2) (by simp)
  have la := live_of ha3
  have hkk : ∀ ob, Kp [] w0 (setBlk w3 a ob) := fun ob => (((hkp.trans' hk2).trans' kp_drew).trans' hk3).setBlk (.inr ha0) _
  cases hok : o.ok with
  | true =>
    rw [hok] at hK
    simp [-getElem?_pos, -Array.all_eq_true, -Array.getElem?_eq_getElem, -List.length_flatten, gz0, gz1, hb3, ha3, la, lvO]
    have := hK _ (hkk (.cells #[.int .i64 r0.n, .string (str r1.s), .string (str r2.s), .string (str r3.s), .int .i64 r4.n, .int .i64 r5.n, .int .i64 r6.n] 42))
    simpa [opA, eo] using this
  | false =>
    rw [hok] at hK
    simp [-getElem?_pos, -Array.all_eq_true, -Array.getElem?_eq_getElem, -List.length_flatten, gz0, gz1, hb3, ha3, la, lvO, zcOp, str_nil, bld_done]
    have := hK _ (hkk (.cells #[.int .i64 0, .string (str []), .string (str []), .string (str []), .int .i64 0, .int .i64 0, .int .i64 0] 42))
    simpa [opA, opZ] using this
end
theorem TakeOp_spec {w : World} (s : List UInt8) (hl : s.length < 2 ^ 39) {K : KW} (hK : ∀ w', Kp [] w w' → K (.tuple #[opA (takeOp s).1, .int .i64 (takeOp s).2]) w') : callG prog 87 #[.string (str s)] w K := by
  refine Fn20_call ?_
  simp only [Fn20, Fn20_s1, newG_k, zcOp, str_nil]
  obtain ⟨n, hn⟩ : ∃ n, n = w.heap.size := ⟨_, rfl⟩
  obtain ⟨w1, hw1⟩ := ex_w (w' := w.alloc (.cells #[.int .i64 0, .string (str []), .string (str []), .string (str []), .int .i64 0, .int .i64 0, .int .i64 0] 42))
  have hk1 : Kp [] w w1 := by rw [hw1]; exact kp_alloc
  have ha1 : w1.heap[n]? = some (.cells #[.int .i64 0, .string (str []), .string (str []), .string (str []), .int .i64 0, .int .i64 0, .int .i64 0] 42) := by rw [hw1, hn]; exact heap_new
  rw [← hw1, ← hn]
  refine Take_spec s hl fun v w2 h2 => ?_
  rw [ex0, ex1]
  have ha2 := h2.kp.get ha1 (by simp)
  have hk02 := hk1.trans' h2.kp
  have bad : ∀ w', Kp [] w w' → ¬ ((takeRow s).2 = 0 ∧ isK (takeRow s).1 opKinds = true ∧ (rowOp (takeRow s).1).ok = true) → K (.tuple #[opA opZ, .int .i64 50]) w' := by
    intro w' hk h
    have := hK w' hk
    rw [takeOp_bad h] at this
    exact this
  have la := live_of ha2
  have hks : ∀ W, Kp [] w W → ∀ ob, Kp [] w (setBlk W n ob) := fun W hW ob => hW.setBlk (.inr (by omega)) _
  by_cases he : (takeRow s).2 = 0
  · have hlen := takeRow_len hl
    rw [he]
    simp [-getElem?_pos, -Array.all_eq_true, -Array.getElem?_eq_getElem, -List.length_flatten, gz0, gz1, ha2]
    refine bsl_rows (n := 1) (len := 7) (xs := [.int .i64 1, .int .i64 2, .int .i64 2, .int .i64 2, .int .i64 1, .int .i64 1, .int .i64 1]) (rows := opKinds.map intV) (by omega) rfl rfl (by simp [opKinds, intV]) (by omega) fun v3 wk h3 => ?_
    refine is_spec (h2.rd.keep h3.kp) h3.rd (by omega) fun w3 hk3' => ?_
    have hk3 := h3.kp.trans' hk3'
    have ha3 := hk3.get ha2 (by simp)
    have la3 := live_of ha3
    have hk03 := hk02.trans' hk3
    cases hk : isK (takeRow s).1 opKinds with
    | false =>
      simp [-getElem?_pos, -Array.all_eq_true, -Array.getElem?_eq_getElem, -List.length_flatten, gz0, gz1, ha3, bld_done, lvO, la3]
      have := bad _ (hks w3 hk03 (.cells #[.int .i64 0, .string (str []), .string (str []), .string (str []), .int .i64 0, .int .i64 0, .int .i64 0] 42)) (by rw [hk]; simp)
      simpa [opA, opZ] using this
    | true =>
      simp [-getElem?_pos, -Array.all_eq_true, -Array.getElem?_eq_getElem, -List.length_flatten, gz0, gz1]
      refine takeOp_s0 (w0 := w) (h2.rd.keep hk3) hk ha3 (by omega) hk03 fun w4 hk4 => ?_
      have := hK w4 hk4
      cases ho : (rowOp (takeRow s).1).ok with
      | true => rw [takeOp_good ⟨he, hk, ho⟩] at this; exact this
      | false => rw [takeOp_bad (by rw [ho]; simp)] at this; exact this
  · simp [-getElem?_pos, -Array.all_eq_true, -Array.getElem?_eq_getElem, -List.length_flatten, gz0, gz1, ha2, he, bld_done, lvO, la]
    have := bad _ (hks w2 hk02 (.cells #[.int .i64 0, .string (str []), .string (str []), .string (str []), .int .i64 0, .int .i64 0, .int .i64 0] 42)) (fun h => he h.1)
    simpa [opA, opZ] using this
end Go.Proofs

set_option linter.unusedVariables false
set_option linter.unusedSimpArgs false
namespace Go.Q
structure HV where
  id : Int
  sku : List UInt8
  loc : List UInt8
  q : Int
  st : Int
  due : Int
  deriving DecidableEq
structure SV where
  sku : List UInt8
  loc : List UInt8
  hand : Int
  held : Int
  deriving DecidableEq
def stateT (n : Int) : List UInt8 := if n = 0 then [97, 99, 116, 105, 118, 101] else if n = 1 then [111, 117, 116] else if n = 2 then [117, 112] else []
def kindT (n : Int) : List UInt8 := if n = 1 then [114, 101, 99, 101, 105, 118, 101] else if n = 3 then [99, 111, 109, 109, 105, 116] else if n = 6 then [116, 114, 97, 110, 115, 102, 101, 114] else if n = 7 then [97, 100, 106, 117, 115, 116] else []
def rowH (txt : Int → List UInt8) (h : HV) : List V3 := if txt h.st = [] then [] else [numV h.id, textV h.sku, textV h.loc, numV h.q, textV (txt h.st), someV h.due]
def hZ : HV := ⟨0, [], [], 0, 0, 0⟩
def v0 : V3 := ⟨0, 0, []⟩
def rowS (s : SV) : List V3 := [textV s.sku, textV s.loc, numV s.hand, numV s.held]
end Go.Q

