/- Part of the proof (JText): an engine, rules or contracts of the functions; it states nothing of the claim by itself. -/
import Derived.Test.YtnmooeoajgckmaaProg
import Derived.Test.YtnmooeoajgckmaaJEng
import Derived.KernelRfl
import Derived.Test.YtnmooeoajgckmaaJBase

set_option linter.unusedVariables false
set_option linter.unusedSimpArgs false
namespace Go.Proofs
theorem Try.mixed : Try.prog.follows .mixedOrders = true := by kernel_rfl
end Go.Proofs

set_option linter.unusedVariables false
set_option linter.unusedSimpArgs false
namespace Go.Proofs
open Go Go.Q
@[simp] theorem Try.isBool4 : isBoolT Try.prog 4 = true := by kernel_rfl
@[simp] theorem Try.isPtr15 : isPtr Try.prog 15 = true := by kernel_rfl
@[simp] theorem Try.isPtr16 : isPtr Try.prog 16 = true := by kernel_rfl
@[simp] theorem Try.isPtr17 : isPtr Try.prog 17 = true := by kernel_rfl
@[simp] theorem Try.isSl22 : isSl Try.prog 22 = true := by kernel_rfl
@[simp] theorem Try.isPtr23 : isPtr Try.prog 23 = true := by kernel_rfl
@[simp] theorem Try.isSl35 : isSl Try.prog 35 = true := by kernel_rfl
@[simp] theorem Try.isSl36 : isSl Try.prog 36 = true := by kernel_rfl
@[simp] theorem Try.isSl37 : isSl Try.prog 37 = true := by kernel_rfl
@[simp] theorem Try.isSl53 : isSl Try.prog 53 = true := by kernel_rfl
@[simp] theorem Try.isSl54 : isSl Try.prog 54 = true := by kernel_rfl
@[simp] theorem Try.isSl57 : isSl Try.prog 57 = true := by kernel_rfl
@[simp] theorem Try.isPtr64 : isPtr Try.prog 64 = true := by kernel_rfl
@[simp] theorem Try.isSl72 : isSl Try.prog 72 = true := by kernel_rfl
@[simp] theorem Try.isSl74 : isSl Try.prog 74 = true := by kernel_rfl
@[simp] theorem Try.isPtr75 : isPtr Try.prog 75 = true := by kernel_rfl
@[simp] theorem Try.isSl89 : isSl Try.prog 89 = true := by kernel_rfl
@[simp] theorem Try.isPtr105 : isPtr Try.prog 105 = true := by kernel_rfl
@[simp] theorem Try.isPtr121 : isPtr Try.prog 121 = true := by kernel_rfl
end Go.Proofs

set_option linter.unusedVariables false
set_option linter.unusedSimpArgs false
namespace Go.Proofs
open Go Go.Q
set_option maxRecDepth 100000
/-! quayside/disk.New -/
def disk_New_s0 (R : Value → World → Prop) (x0 : Value) (w : World) : Prop :=
  qG Try.prog (bq .lss 3 (.tmp 4) (.const (.int .i64 1)) x0 (.int .i64 1)) w fun t5 =>
  bV t5
  (R (.tuple #[(.pointer none), (.int .i64 1)]) w)
  (qG Try.prog (bq .gtr 3 (.tmp 7) (.const (.int .i64 4096)) x0 (.int .i64 4096)) w fun t8 =>
  bV t8
  (R (.tuple #[(.pointer none), (.int .i64 1)]) w)
  ((mkG 91 32 32 (zc Try.prog 91) x0 x0 (World.drew w) fun t11 w =>
  mkG 91 32 32 (zc Try.prog 91) x0 x0 w fun t13 w =>
  bld [(0, 1), (1, 1), (2, 1), (3, 1), (4, 1)] (zc Try.prog 56) #[(0, t11), (1, t13), (3, (.int .i64 (-1)))] fun t14 =>
  newG (Value.cells t14) 56 w fun t15 w =>
  R (.tuple #[t15, (.int .i64 0)]) w) ∧
  (mkG 91 32 32 (zc Try.prog 91) x0 x0 (World.drew w) fun t13_1 w =>
  mkG 91 32 32 (zc Try.prog 91) x0 x0 w fun t11_1 w =>
  bld [(0, 1), (1, 1), (2, 1), (3, 1), (4, 1)] (zc Try.prog 56) #[(0, t11_1), (1, t13_1), (3, (.int .i64 (-1)))] fun t14_1 =>
  newG (Value.cells t14_1) 56 w fun t15_1 w =>
  R (.tuple #[t15_1, (.int .i64 0)]) w)))

theorem disk_New_s0_eq (R : Value → World → Prop) : ∀ e w, lift Try.prog 16 (bodyOf Try.f12) (finK Try.prog Try.f12.results.toList R) e w = disk_New_s0 R (e 0) w := fun e w => by kernel_rfl

def disk_New (R : Value → World → Prop) (x0 : Value) (w : World) : Prop := disk_New_s0 R x0 w
theorem disk_New_call {R : Value → World → Prop} {x0 : Value} {w : World} (h : disk_New R x0 w) : callG Try.prog 12 #[x0] w R :=
  calls_lift_eq Try.mixed Try.func12 (args := [x0]) rfl rfl rfl rfl ((disk_New_s0_eq R) (envOf [x0]) w) (by kernel_rfl) h
/-! (*quayside/disk.Disk).Write -/
def disk_Disk_Write_s0 (R : Value → World → Prop) (x0 x1 x2 : Value) (w : World) : Prop :=
  callG Try.prog 45 #[x0] w fun t17 w =>
  qG Try.prog (Op.unary .not t17) w fun t18 =>
  bV t18
  (R (.int .i64 30) w)
  (nk x0 fun t20 =>
  fa 1 t20 fun t21 =>
  ld1 t21 w fun t22 =>
  ia 32 t22 x1 fun t24 =>
  slA 32 1 t24 none none fun t25 =>
  cp 1 t25 x2 w fun t27 w =>
  nk x0 fun t30 =>
  fa 2 t30 fun t31 =>
  ld1 t31 (World.drew w) fun t32 =>
  nk x0 fun t35 =>
  fa 1 t35 fun t36 =>
  ld1 t36 (World.drew w) fun t37 =>
  ia 32 t37 x1 fun t39 =>
  ldn 32 t39 (World.drew w) fun t40 =>
  bld [(0, 1), (1, 32)] (zc Try.prog 93) #[(0, x1), (1, t40)] fun t41 =>
  bsl 93 33 1 (zc Try.prog 93) #[(0, t41)] (World.drew w) fun t42 w =>
  ld1 t31 w (fun u => u = t32) ∧
  app 93 33 40 (zc Try.prog 93) t32 t42 w fun t43 w =>
  nk x0 fun t44 =>
  fa 2 t44 fun t45 =>
  st1 t45 t43 w fun w =>
  R (.int .i64 0) w)

theorem disk_Disk_Write_s0_eq (R : Value → World → Prop) : ∀ e w, lift Try.prog 46 (sub (bodyOf Try.f13) [1, 1]) (finK Try.prog Try.f13.results.toList R) e w = disk_Disk_Write_s0 R (e 0) (e 1) (e 2) w := fun e w => by kernel_rfl

def disk_Disk_Write_s1 (R : Value → World → Prop) (x0 x1 x2 : Value) (w : World) : Prop :=
  callG Try.prog 44 #[x0, x1] w fun t9 w =>
  qG Try.prog (Op.unary .not t9) w fun t10 =>
  bV t10
  (R (.int .i64 1) w)
  (lenS x2 fun t13 =>
  qG Try.prog (bq .neq 3 (.tmp 13) (.const (.int .i64 32)) t13 (.int .i64 32)) w fun t14 =>
  bV t14
  (R (.int .i64 1) w)
  (disk_Disk_Write_s0 R x0 x1 x2 w))

theorem disk_Disk_Write_s1_eq (R : Value → World → Prop) : ∀ e w, lift Try.prog 46 (bodyOf Try.f13) (finK Try.prog Try.f13.results.toList R) e w = disk_Disk_Write_s1 R (e 0) (e 1) (e 2) w :=
  segs_eq (l := [(sub (bodyOf Try.f13) [0]), (sub (bodyOf Try.f13) [1, 0])]) (y := (sub (bodyOf Try.f13) [1, 1])) (Y := (fun e w => disk_Disk_Write_s0 R (e 0) (e 1) (e 2) w)) (disk_Disk_Write_s0_eq R) (fun e w => by kernel_rfl)

def disk_Disk_Write (R : Value → World → Prop) (x0 x1 x2 : Value) (w : World) : Prop := disk_Disk_Write_s1 R x0 x1 x2 w
theorem disk_Disk_Write_call {R : Value → World → Prop} {x0 x1 x2 : Value} {w : World} (h : disk_Disk_Write R x0 x1 x2 w) : callG Try.prog 13 #[x0, x1, x2] w R :=
  calls_lift_eq Try.mixed Try.func13 (args := [x0, x1, x2]) rfl rfl rfl rfl ((disk_Disk_Write_s1_eq R) (envOf [x0, x1, x2]) w) (by kernel_rfl) h
/-! (*quayside/disk.Disk).has -/
def disk_Disk_has_s0 (R : Value → World → Prop) (x0 x1 : Value) (w : World) : Prop :=
  qG Try.prog (bq .geq 3 (.tmp 5) (.const (.int .i64 0)) x1 (.int .i64 0)) w fun t6 =>
  bV t6
  (callG Try.prog 28 #[x0] w fun t10 w =>
  qG Try.prog (bq .lss 3 (.tmp 8) (.tmp 10) x1 t10) w fun t11 =>
  R t11 w)
  (R (.bool false) w)

theorem disk_Disk_has_s0_eq (R : Value → World → Prop) : ∀ e w, lift Try.prog 13 (bodyOf Try.f44) (finK Try.prog Try.f44.results.toList R) e w = disk_Disk_has_s0 R (e 0) (e 1) w := fun e w => by kernel_rfl

def disk_Disk_has (R : Value → World → Prop) (x0 x1 : Value) (w : World) : Prop := disk_Disk_has_s0 R x0 x1 w
theorem disk_Disk_has_call {R : Value → World → Prop} {x0 x1 : Value} {w : World} (h : disk_Disk_has R x0 x1 w) : callG Try.prog 44 #[x0, x1] w R :=
  calls_lift_eq Try.mixed Try.func44 (args := [x0, x1]) rfl rfl rfl rfl ((disk_Disk_has_s0_eq R) (envOf [x0, x1]) w) (by kernel_rfl) h
/-! (*quayside/disk.Disk).Size -/
def disk_Disk_Size_s0 (R : Value → World → Prop) (x0 : Value) (w : World) : Prop :=
  qG Try.prog (bq .eql 23 (.tmp 3) (.const (.pointer none)) x0 (.pointer none)) w fun t4 =>
  bV t4
  (R (.int .i64 0) w)
  (nk x0 fun t6 =>
  fa 1 t6 fun t7 =>
  ld1 t7 w fun t8 =>
  lenL t8 fun t9 =>
  R t9 w)

theorem disk_Disk_Size_s0_eq (R : Value → World → Prop) : ∀ e w, lift Try.prog 10 (bodyOf Try.f28) (finK Try.prog Try.f28.results.toList R) e w = disk_Disk_Size_s0 R (e 0) w := fun e w => by kernel_rfl

def disk_Disk_Size (R : Value → World → Prop) (x0 : Value) (w : World) : Prop := disk_Disk_Size_s0 R x0 w
theorem disk_Disk_Size_call {R : Value → World → Prop} {x0 : Value} {w : World} (h : disk_Disk_Size R x0 w) : callG Try.prog 28 #[x0] w R :=
  calls_lift_eq Try.mixed Try.func28 (args := [x0]) rfl rfl rfl rfl ((disk_Disk_Size_s0_eq R) (envOf [x0]) w) (by kernel_rfl) h
/-! (*quayside/disk.Disk).burns -/
def disk_Disk_burns_s0 (R : Value → World → Prop) (x0 : Value) (w : World) : Prop :=
  nk x0 fun t25 =>
  fa 3 t25 fun t26 =>
  ld1 t26 w fun t27 =>
  qG Try.prog (bq .gtr 3 (.tmp 27) (.const (.int .i64 0)) t27 (.int .i64 0)) w fun t28 =>
  bV t28
  (nk x0 fun t30 =>
  fa 3 t30 fun t31 =>
  ld1 t31 w fun t32 =>
  qG Try.prog (bq .sub 3 (.tmp 32) (.const (.int .i64 1)) t32 (.int .i64 1)) w fun t33 =>
  nk x0 fun t34 =>
  fa 3 t34 fun t35 =>
  st1 t35 t33 w fun w =>
  R (.bool true) w)
  (R (.bool true) w)

theorem disk_Disk_burns_s0_eq (R : Value → World → Prop) : ∀ e w, lift Try.prog 36 (sub (bodyOf Try.f45) [1, 1]) (finK Try.prog Try.f45.results.toList R) e w = disk_Disk_burns_s0 R (e 0) w := fun e w => by kernel_rfl

def disk_Disk_burns_s1 (R : Value → World → Prop) (x0 : Value) (w : World) : Prop :=
  nk x0 fun t18 =>
  fa 4 t18 fun t19 =>
  ld1 t19 w fun t20 =>
  bV t20
  (nk x0 fun t22 =>
  fa 3 t22 fun t23 =>
  st1 t23 (.int .i64 (-1)) w fun w =>
  R (.bool false) w)
  (disk_Disk_burns_s0 R x0 w)

theorem disk_Disk_burns_s1_eq (R : Value → World → Prop) : ∀ e w, lift Try.prog 36 (sub (bodyOf Try.f45) [1, 0, 1]) (seqK (fun e w => disk_Disk_burns_s0 R (e 0) w) (finK Try.prog Try.f45.results.toList R)) e w = disk_Disk_burns_s1 R (e 0) w := fun e w => by kernel_rfl

def disk_Disk_burns_s2 (R : Value → World → Prop) (x0 : Value) (w : World) : Prop :=
  nk x0 fun t5 =>
  fa 4 t5 fun t6 =>
  ld1 t6 w fun t7 =>
  bV t7
  (nk x0 fun t15 =>
  fa 4 t15 fun t16 =>
  st1 t16 (.bool true) w fun w =>
  disk_Disk_burns_s1 R x0 w)
  (nk x0 fun t10 =>
  fa 3 t10 fun t11 =>
  ld1 t11 w fun t12 =>
  qG Try.prog (bq .eql 3 (.tmp 12) (.const (.int .i64 0)) t12 (.int .i64 0)) w fun t13 =>
  nk x0 fun t15_1 =>
  fa 4 t15_1 fun t16_1 =>
  st1 t16_1 t13 w fun w =>
  disk_Disk_burns_s1 R x0 w)

theorem disk_Disk_burns_s2_eq (R : Value → World → Prop) : ∀ e w, lift Try.prog 36 (sub (bodyOf Try.f45) [1, 0]) (seqK (fun e w => disk_Disk_burns_s0 R (e 0) w) (finK Try.prog Try.f45.results.toList R)) e w = disk_Disk_burns_s2 R (e 0) w :=
  segs_eq (l := [(sub (bodyOf Try.f45) [1, 0, 0])]) (y := (sub (bodyOf Try.f45) [1, 0, 1])) (Y := (fun e w => disk_Disk_burns_s1 R (e 0) w)) (disk_Disk_burns_s1_eq R) (fun e w => by kernel_rfl)

def disk_Disk_burns_s3 (R : Value → World → Prop) (x0 : Value) (w : World) : Prop :=
  disk_Disk_burns_s2 R x0 w

theorem disk_Disk_burns_s3_eq (R : Value → World → Prop) : ∀ e w, lift Try.prog 36 (bodyOf Try.f45) (finK Try.prog Try.f45.results.toList R) e w = disk_Disk_burns_s3 R (e 0) w :=
  segs_eq (l := [(sub (bodyOf Try.f45) [0])]) (y := (sub (bodyOf Try.f45) [1])) (Y := (fun e w => disk_Disk_burns_s2 R (e 0) w)) (seq_seg (x := (sub (bodyOf Try.f45) [1, 0])) (y := (sub (bodyOf Try.f45) [1, 1])) (disk_Disk_burns_s0_eq R) (disk_Disk_burns_s2_eq R)) (fun e w => by kernel_rfl)

def disk_Disk_burns (R : Value → World → Prop) (x0 : Value) (w : World) : Prop := disk_Disk_burns_s3 R x0 w
theorem disk_Disk_burns_call {R : Value → World → Prop} {x0 : Value} {w : World} (h : disk_Disk_burns R x0 w) : callG Try.prog 45 #[x0] w R :=
  calls_lift_eq Try.mixed Try.func45 (args := [x0]) rfl rfl rfl rfl ((disk_Disk_burns_s3_eq R) (envOf [x0]) w) (by kernel_rfl) h
/-! (*quayside/disk.Disk).Flush -/
def disk_Disk_Flush_s0 (R : Value → World → Prop) (x0 : Value) (w : World) : Prop :=
  callG Try.prog 46 #[x0] w fun t33 w =>
  R (.int .i64 0) w

theorem disk_Disk_Flush_s0_eq (R : Value → World → Prop) : ∀ e w, lift Try.prog 34 (sub (bodyOf Try.f15) [1, 1, 1]) (finK Try.prog Try.f15.results.toList R) e w = disk_Disk_Flush_s0 R (e 0) w := fun e w => by kernel_rfl

def disk_Disk_Flush_b1 (R : Value → World → Prop) (N1 : List Value → World → Prop) (x0 x16 x17 x18 : Value) (w : World) : Prop :=
  qG Try.prog (bq .lss 3 (.tmp 18) (.tmp 17) x18 x17) w fun t19 =>
  bV t19
  (ia 33 x16 x18 fun t20 =>
  ldn 33 t20 w fun t21 =>
  newG (zc Try.prog 93) 93 w fun t4 w =>
  stn 33 t4 t21 w fun w =>
  nk x0 fun t23 =>
  fa 0 t23 fun t24 =>
  ld1 t24 (World.drew w) fun t25 =>
  fa 0 t4 fun t26 =>
  ld1 t26 (World.drew w) fun t27 =>
  fa 1 t4 fun t28 =>
  ldn 32 t28 (World.drew w) fun t29 =>
  ia 32 t25 t27 fun t30 =>
  stn 32 t30 t29 (World.drew w) fun w =>
  qG Try.prog (bq .add 3 (.tmp 18) (.const (.int .i64 1)) x18 (.int .i64 1)) w fun t31 =>
  N1 [x0, x16, x17, t31] w)
  (disk_Disk_Flush_s0 R x0 w)

theorem disk_Disk_Flush_b1_eq (R : Value → World → Prop) (N1 : List Value → World → Prop) : ∀ e w, lift Try.prog 34 (sub (bodyOf Try.f15) [1, 1, 0, 1, 0, 0]) (seqK (fun e w => N1 [e 0, e 16, e 17, e 18] w) (blockK 1 (seqK (fun e w => disk_Disk_Flush_s0 R (e 0) w) (finK Try.prog Try.f15.results.toList R)))) e w = disk_Disk_Flush_b1 R N1 (e 0) (e 16) (e 17) (e 18) w := fun e w => by kernel_rfl

def disk_Disk_Flush_L2F (R : Value → World → Prop) (N1 : List Value → World → Prop) (xs : List Value) (w : World) : Prop :=
  match xs with
  | [x0, x16, x17, x18] => disk_Disk_Flush_b1 R N1 x0 x16 x17 x18 w
  | _ => False

def disk_Disk_Flush_L2 (R : Value → World → Prop) (x0 x16 x17 x18 : Value) (w : World) : Prop :=
  ∃ m, loopV (disk_Disk_Flush_L2F R) m [x0, x16, x17, x18] w

theorem disk_Disk_Flush_L2_eq (R : Value → World → Prop) : ∀ e w, lift Try.prog 34 (sub (bodyOf Try.f15) [1, 1, 0, 1, 0]) (blockK 1 (seqK (fun e w => disk_Disk_Flush_s0 R (e 0) w) (finK Try.prog Try.f15.results.toList R))) e w = disk_Disk_Flush_L2 R (e 0) (e 16) (e 17) (e 18) w := loop_seg (F := disk_Disk_Flush_L2F R) (sel := fun e => [e 0, e 16, e 17, e 18]) fun N1 => (disk_Disk_Flush_b1_eq R N1)

def disk_Disk_Flush_s3 (R : Value → World → Prop) (x0 : Value) (w : World) : Prop :=
  nk x0 fun t14 =>
  fa 2 t14 fun t15 =>
  ld1 t15 w fun t16 =>
  lenL t16 fun t17 =>
  disk_Disk_Flush_L2 R x0 t16 t17 (.int .i64 0) w

theorem disk_Disk_Flush_s3_eq (R : Value → World → Prop) : ∀ e w, lift Try.prog 34 (sub (bodyOf Try.f15) [1, 1, 0]) (seqK (fun e w => disk_Disk_Flush_s0 R (e 0) w) (finK Try.prog Try.f15.results.toList R)) e w = disk_Disk_Flush_s3 R (e 0) w :=
  segs_eq (l := [(sub (bodyOf Try.f15) [1, 1, 0, 0])]) (y := (sub (bodyOf Try.f15) [1, 1, 0, 1])) (Y := (fun e w => disk_Disk_Flush_L2 R (e 0) (e 16) (e 17) (e 18) w)) (disk_Disk_Flush_L2_eq R) (fun e w => by kernel_rfl)

def disk_Disk_Flush_s4 (R : Value → World → Prop) (x0 : Value) (w : World) : Prop :=
  callG Try.prog 28 #[x0] w fun t7 w =>
  qG Try.prog (bq .eql 3 (.tmp 7) (.const (.int .i64 0)) t7 (.int .i64 0)) w fun t8 =>
  bV t8
  (R (.int .i64 1) w)
  (callG Try.prog 45 #[x0] w fun t11 w =>
  qG Try.prog (Op.unary .not t11) w fun t12 =>
  bV t12
  (R (.int .i64 30) w)
  (disk_Disk_Flush_s3 R x0 w))

theorem disk_Disk_Flush_s4_eq (R : Value → World → Prop) : ∀ e w, lift Try.prog 34 (bodyOf Try.f15) (finK Try.prog Try.f15.results.toList R) e w = disk_Disk_Flush_s4 R (e 0) w :=
  segs_eq (l := [(sub (bodyOf Try.f15) [0]), (sub (bodyOf Try.f15) [1, 0])]) (y := (sub (bodyOf Try.f15) [1, 1])) (Y := (fun e w => disk_Disk_Flush_s3 R (e 0) w)) (seq_seg (x := (sub (bodyOf Try.f15) [1, 1, 0])) (y := (sub (bodyOf Try.f15) [1, 1, 1])) (disk_Disk_Flush_s0_eq R) (disk_Disk_Flush_s3_eq R)) (fun e w => by kernel_rfl)

def disk_Disk_Flush (R : Value → World → Prop) (x0 : Value) (w : World) : Prop := disk_Disk_Flush_s4 R x0 w
theorem disk_Disk_Flush_call {R : Value → World → Prop} {x0 : Value} {w : World} (h : disk_Disk_Flush R x0 w) : callG Try.prog 15 #[x0] w R :=
  calls_lift_eq Try.mixed Try.func15 (args := [x0]) rfl rfl rfl rfl ((disk_Disk_Flush_s4_eq R) (envOf [x0]) w) (by kernel_rfl) h
/-! (*quayside/disk.Disk).settles -/
def disk_Disk_settles_s0 (R : Value → World → Prop) (x0 : Value) (w : World) : Prop :=
  nk x0 fun t3 =>
  fa 2 t3 fun t4 =>
  ld1 t4 w fun t5 =>
  clr 33 (zc Try.prog 93) t5 w fun _ w =>
  nk x0 fun t8 =>
  fa 2 t8 fun t9 =>
  ld1 t9 w fun t10 =>
  slL 33 t10 none (some (.int .i64 0)) fun t11 =>
  nk x0 fun t12 =>
  fa 2 t12 fun t13 =>
  st1 t13 t11 w fun w =>
  R (.tuple #[]) w

theorem disk_Disk_settles_s0_eq (R : Value → World → Prop) : ∀ e w, lift Try.prog 14 (bodyOf Try.f46) (finK Try.prog Try.f46.results.toList R) e w = disk_Disk_settles_s0 R (e 0) w := fun e w => by kernel_rfl

def disk_Disk_settles (R : Value → World → Prop) (x0 : Value) (w : World) : Prop := disk_Disk_settles_s0 R x0 w
theorem disk_Disk_settles_call {R : Value → World → Prop} {x0 : Value} {w : World} (h : disk_Disk_settles R x0 w) : callG Try.prog 46 #[x0] w R :=
  calls_lift_eq Try.mixed Try.func46 (args := [x0]) rfl rfl rfl rfl ((disk_Disk_settles_s0_eq R) (envOf [x0]) w) (by kernel_rfl) h
/-! (*quayside/disk.Disk).Crash -/
def disk_Disk_Crash_s0 (R : Value → World → Prop) (x0 : Value) (w : World) : Prop :=
  nk x0 fun t45 =>
  fa 1 t45 fun t46 =>
  ld1 t46 (World.drew w) fun t47 =>
  nk x0 fun t49 =>
  fa 0 t49 fun t50 =>
  ld1 t50 (World.drew w) fun t51 =>
  cp 32 t47 t51 (World.drew w) fun t52 w =>
  callG Try.prog 46 #[x0] w fun t54 w =>
  nk x0 fun t57 =>
  fa 4 t57 fun t58 =>
  st1 t58 (.bool false) w fun w =>
  nk x0 fun t59 =>
  fa 3 t59 fun t60 =>
  st1 t60 (.int .i64 (-1)) w fun w =>
  R (.int .i64 0) w

theorem disk_Disk_Crash_s0_eq (R : Value → World → Prop) : ∀ e w, lift Try.prog 61 (sub (bodyOf Try.f16) [1, 1, 1]) (finK Try.prog Try.f16.results.toList R) e w = disk_Disk_Crash_s0 R (e 0) w := fun e w => by kernel_rfl

def disk_Disk_Crash_b1 (R : Value → World → Prop) (N1 : List Value → World → Prop) (x0 x1 x14 x15 x16 : Value) (w : World) : Prop :=
  qG Try.prog (bq .lss 3 (.tmp 16) (.tmp 15) x16 x15) w fun t17 =>
  bV t17
  (ia 33 x14 x16 fun t19 =>
  ldn 33 t19 w fun t20 =>
  newG (zc Try.prog 93) 93 w fun t6 w =>
  stn 33 t6 t20 w fun w =>
  lenL x1 fun t23 =>
  qG Try.prog (bq .lss 3 (.tmp 21) (.tmp 23) x16 t23) w fun t24 =>
  bV t24
  (ia 1 x1 x16 fun t27 =>
  ld1 t27 w fun t28 =>
  qG Try.prog (Builtin.min_ #[3, 3] 3 #[t28, (.int .i64 32)]) w fun t29 =>
  qG Try.prog (Builtin.max_ #[3, 3] 3 #[(.int .i64 0), t29]) w fun t30 =>
  nk x0 fun t32 =>
  fa 0 t32 fun t33 =>
  ld1 t33 (World.drew w) fun t34 =>
  fa 0 t6 fun t35 =>
  ld1 t35 (World.drew w) fun t36 =>
  ia 32 t34 t36 fun t37 =>
  slA 32 1 t37 none (some t30) fun t39 =>
  fa 1 t6 fun t40 =>
  slA 32 1 t40 none none fun t41 =>
  cp 1 t39 t41 (World.drew w) fun t42 w =>
  qG Try.prog (bq .add 3 (.tmp 16) (.const (.int .i64 1)) x16 (.int .i64 1)) w fun t43 =>
  N1 [x0, x1, x14, x15, t43] w)
  (qG Try.prog (bq .add 3 (.tmp 16) (.const (.int .i64 1)) x16 (.int .i64 1)) w fun t43_1 =>
  N1 [x0, x1, x14, x15, t43_1] w))
  (disk_Disk_Crash_s0 R x0 w)

theorem disk_Disk_Crash_b1_eq (R : Value → World → Prop) (N1 : List Value → World → Prop) : ∀ e w, lift Try.prog 61 (sub (bodyOf Try.f16) [1, 1, 0, 1, 0, 0]) (seqK (fun e w => N1 [e 0, e 1, e 14, e 15, e 16] w) (blockK 0 (seqK (fun e w => disk_Disk_Crash_s0 R (e 0) w) (finK Try.prog Try.f16.results.toList R)))) e w = disk_Disk_Crash_b1 R N1 (e 0) (e 1) (e 14) (e 15) (e 16) w := fun e w => by kernel_rfl

def disk_Disk_Crash_L2F (R : Value → World → Prop) (N1 : List Value → World → Prop) (xs : List Value) (w : World) : Prop :=
  match xs with
  | [x0, x1, x14, x15, x16] => disk_Disk_Crash_b1 R N1 x0 x1 x14 x15 x16 w
  | _ => False

def disk_Disk_Crash_L2 (R : Value → World → Prop) (x0 x1 x14 x15 x16 : Value) (w : World) : Prop :=
  ∃ m, loopV (disk_Disk_Crash_L2F R) m [x0, x1, x14, x15, x16] w

theorem disk_Disk_Crash_L2_eq (R : Value → World → Prop) : ∀ e w, lift Try.prog 61 (sub (bodyOf Try.f16) [1, 1, 0, 1, 0]) (blockK 0 (seqK (fun e w => disk_Disk_Crash_s0 R (e 0) w) (finK Try.prog Try.f16.results.toList R))) e w = disk_Disk_Crash_L2 R (e 0) (e 1) (e 14) (e 15) (e 16) w := loop_seg (F := disk_Disk_Crash_L2F R) (sel := fun e => [e 0, e 1, e 14, e 15, e 16]) fun N1 => (disk_Disk_Crash_b1_eq R N1)

def disk_Disk_Crash_s3 (R : Value → World → Prop) (x0 x1 : Value) (w : World) : Prop :=
  nk x0 fun t12 =>
  fa 2 t12 fun t13 =>
  ld1 t13 w fun t14 =>
  lenL t14 fun t15 =>
  disk_Disk_Crash_L2 R x0 x1 t14 t15 (.int .i64 0) w

theorem disk_Disk_Crash_s3_eq (R : Value → World → Prop) : ∀ e w, lift Try.prog 61 (sub (bodyOf Try.f16) [1, 1, 0]) (seqK (fun e w => disk_Disk_Crash_s0 R (e 0) w) (finK Try.prog Try.f16.results.toList R)) e w = disk_Disk_Crash_s3 R (e 0) (e 1) w :=
  segs_eq (l := [(sub (bodyOf Try.f16) [1, 1, 0, 0])]) (y := (sub (bodyOf Try.f16) [1, 1, 0, 1])) (Y := (fun e w => disk_Disk_Crash_L2 R (e 0) (e 1) (e 14) (e 15) (e 16) w)) (disk_Disk_Crash_L2_eq R) (fun e w => by kernel_rfl)

def disk_Disk_Crash_s4 (R : Value → World → Prop) (x0 x1 : Value) (w : World) : Prop :=
  callG Try.prog 28 #[x0] w fun t9 w =>
  qG Try.prog (bq .eql 3 (.tmp 9) (.const (.int .i64 0)) t9 (.int .i64 0)) w fun t10 =>
  bV t10
  (R (.int .i64 1) w)
  (disk_Disk_Crash_s3 R x0 x1 w)

theorem disk_Disk_Crash_s4_eq (R : Value → World → Prop) : ∀ e w, lift Try.prog 61 (bodyOf Try.f16) (finK Try.prog Try.f16.results.toList R) e w = disk_Disk_Crash_s4 R (e 0) (e 1) w :=
  segs_eq (l := [(sub (bodyOf Try.f16) [0]), (sub (bodyOf Try.f16) [1, 0])]) (y := (sub (bodyOf Try.f16) [1, 1])) (Y := (fun e w => disk_Disk_Crash_s3 R (e 0) (e 1) w)) (seq_seg (x := (sub (bodyOf Try.f16) [1, 1, 0])) (y := (sub (bodyOf Try.f16) [1, 1, 1])) (disk_Disk_Crash_s0_eq R) (disk_Disk_Crash_s3_eq R)) (fun e w => by kernel_rfl)

def disk_Disk_Crash (R : Value → World → Prop) (x0 x1 : Value) (w : World) : Prop := disk_Disk_Crash_s4 R x0 x1 w
theorem disk_Disk_Crash_call {R : Value → World → Prop} {x0 x1 : Value} {w : World} (h : disk_Disk_Crash R x0 x1 w) : callG Try.prog 16 #[x0, x1] w R :=
  calls_lift_eq Try.mixed Try.func16 (args := [x0, x1]) rfl rfl rfl rfl ((disk_Disk_Crash_s4_eq R) (envOf [x0, x1]) w) (by kernel_rfl) h
/-! (*quayside/disk.Disk).Read -/
def disk_Disk_Read_s0 (R : Value → World → Prop) (x0 x1 : Value) (w : World) : Prop :=
  callG Try.prog 44 #[x0, x1] w fun t9 w =>
  qG Try.prog (Op.unary .not t9) w fun t10 =>
  bV t10
  (R (.tuple #[(.string ⟨#[]⟩), (.int .i64 1)]) w)
  (nk x0 fun t13 =>
  fa 4 t13 fun t14 =>
  ld1 t14 w fun t15 =>
  bV t15
  (R (.tuple #[(.string ⟨#[]⟩), (.int .i64 30)]) w)
  (nk x0 fun t17 =>
  fa 1 t17 fun t18 =>
  ld1 t18 w fun t19 =>
  ia 32 t19 x1 fun t21 =>
  slA 32 1 t21 none none fun t22 =>
  cvBS t22 w fun t23 =>
  R (.tuple #[t23, (.int .i64 0)]) w))

theorem disk_Disk_Read_s0_eq (R : Value → World → Prop) : ∀ e w, lift Try.prog 24 (bodyOf Try.f17) (finK Try.prog Try.f17.results.toList R) e w = disk_Disk_Read_s0 R (e 0) (e 1) w := fun e w => by kernel_rfl

def disk_Disk_Read (R : Value → World → Prop) (x0 x1 : Value) (w : World) : Prop := disk_Disk_Read_s0 R x0 x1 w
theorem disk_Disk_Read_call {R : Value → World → Prop} {x0 x1 : Value} {w : World} (h : disk_Disk_Read R x0 x1 w) : callG Try.prog 17 #[x0, x1] w R :=
  calls_lift_eq Try.mixed Try.func17 (args := [x0, x1]) rfl rfl rfl rfl ((disk_Disk_Read_s0_eq R) (envOf [x0, x1]) w) (by kernel_rfl) h
/-! (*quayside/disk.Disk).Waits -/
def disk_Disk_Waits_s0 (R : Value → World → Prop) (x0 : Value) (w : World) : Prop :=
  qG Try.prog (bq .eql 23 (.tmp 3) (.const (.pointer none)) x0 (.pointer none)) w fun t4 =>
  bV t4
  (R (.int .i64 0) w)
  (nk x0 fun t6 =>
  fa 2 t6 fun t7 =>
  ld1 t7 w fun t8 =>
  lenL t8 fun t9 =>
  R t9 w)

theorem disk_Disk_Waits_s0_eq (R : Value → World → Prop) : ∀ e w, lift Try.prog 10 (bodyOf Try.f27) (finK Try.prog Try.f27.results.toList R) e w = disk_Disk_Waits_s0 R (e 0) w := fun e w => by kernel_rfl

def disk_Disk_Waits (R : Value → World → Prop) (x0 : Value) (w : World) : Prop := disk_Disk_Waits_s0 R x0 w
theorem disk_Disk_Waits_call {R : Value → World → Prop} {x0 : Value} {w : World} (h : disk_Disk_Waits R x0 w) : callG Try.prog 27 #[x0] w R :=
  calls_lift_eq Try.mixed Try.func27 (args := [x0]) rfl rfl rfl rfl ((disk_Disk_Waits_s0_eq R) (envOf [x0]) w) (by kernel_rfl) h
/-! (*quayside/disk.Disk).Fuse -/
def disk_Disk_Fuse_s0 (R : Value → World → Prop) (x0 x1 : Value) (w : World) : Prop :=
  callG Try.prog 28 #[x0] w fun t6 w =>
  qG Try.prog (bq .eql 3 (.tmp 6) (.const (.int .i64 0)) t6 (.int .i64 0)) w fun t7 =>
  bV t7
  (R (.int .i64 1) w)
  (qG Try.prog (Builtin.max_ #[3, 3] 3 #[x1, (.int .i64 (-1))]) w fun t10 =>
  nk x0 fun t11 =>
  fa 3 t11 fun t12 =>
  st1 t12 t10 w fun w =>
  R (.int .i64 0) w)

theorem disk_Disk_Fuse_s0_eq (R : Value → World → Prop) : ∀ e w, lift Try.prog 13 (bodyOf Try.f23) (finK Try.prog Try.f23.results.toList R) e w = disk_Disk_Fuse_s0 R (e 0) (e 1) w := fun e w => by kernel_rfl

def disk_Disk_Fuse (R : Value → World → Prop) (x0 x1 : Value) (w : World) : Prop := disk_Disk_Fuse_s0 R x0 x1 w
theorem disk_Disk_Fuse_call {R : Value → World → Prop} {x0 x1 : Value} {w : World} (h : disk_Disk_Fuse R x0 x1 w) : callG Try.prog 23 #[x0, x1] w R :=
  calls_lift_eq Try.mixed Try.func23 (args := [x0, x1]) rfl rfl rfl rfl ((disk_Disk_Fuse_s0_eq R) (envOf [x0, x1]) w) (by kernel_rfl) h
/-! (*quayside/disk.Disk).Off -/
def disk_Disk_Off_s0 (R : Value → World → Prop) (x0 : Value) (w : World) : Prop :=
  qG Try.prog (bq .neq 23 (.tmp 3) (.const (.pointer none)) x0 (.pointer none)) w fun t4 =>
  bV t4
  (nk x0 fun t7 =>
  fa 4 t7 fun t8 =>
  ld1 t8 w fun t9 =>
  R t9 w)
  (R (.bool false) w)

theorem disk_Disk_Off_s0_eq (R : Value → World → Prop) : ∀ e w, lift Try.prog 11 (bodyOf Try.f26) (finK Try.prog Try.f26.results.toList R) e w = disk_Disk_Off_s0 R (e 0) w := fun e w => by kernel_rfl

def disk_Disk_Off (R : Value → World → Prop) (x0 : Value) (w : World) : Prop := disk_Disk_Off_s0 R x0 w
theorem disk_Disk_Off_call {R : Value → World → Prop} {x0 : Value} {w : World} (h : disk_Disk_Off R x0 w) : callG Try.prog 26 #[x0] w R :=
  calls_lift_eq Try.mixed Try.func26 (args := [x0]) rfl rfl rfl rfl ((disk_Disk_Off_s0_eq R) (envOf [x0]) w) (by kernel_rfl) h
end Go.Proofs

set_option linter.unusedVariables false
set_option linter.unusedSimpArgs false
namespace Go.Proofs
open Go Go.Q
set_option maxRecDepth 100000
/-! quayside/quaysidelaw03.filled -/
def law03_filled_s0 (R : Value → World → Prop) (x3 : Value) (w : World) : Prop :=
  cvBS x3 w fun t15 =>
  R t15 w

theorem law03_filled_s0_eq (R : Value → World → Prop) : ∀ e w, lift Try.prog 16 (sub (bodyOf Try.f14) [1, 1, 1]) (finK Try.prog Try.f14.results.toList R) e w = law03_filled_s0 R (e 3) w := fun e w => by kernel_rfl

def law03_filled_b1 (R : Value → World → Prop) (N1 : List Value → World → Prop) (x0 x3 x4 : Value) (w : World) : Prop :=
  qG Try.prog (bq .lss 3 (.tmp 6) (.const (.int .i64 32)) x4 (.int .i64 32)) w fun t7 =>
  bV t7
  (ia 1 x3 x4 fun t13 =>
  st1 t13 x0 w fun w =>
  qG Try.prog (bq .add 3 (.tmp 8) (.const (.int .i64 1)) x4 (.int .i64 1)) w fun t9 =>
  N1 [x0, x3, t9] w)
  (law03_filled_s0 R x3 w)

theorem law03_filled_b1_eq (R : Value → World → Prop) (N1 : List Value → World → Prop) : ∀ e w, lift Try.prog 16 (sub (bodyOf Try.f14) [1, 1, 0, 1, 0, 0]) (seqK (fun e w => N1 [e 0, e 3, e 4] w) (blockK 0 (seqK (fun e w => law03_filled_s0 R (e 3) w) (finK Try.prog Try.f14.results.toList R)))) e w = law03_filled_b1 R N1 (e 0) (e 3) (e 4) w := fun e w => by kernel_rfl

def law03_filled_L2F (R : Value → World → Prop) (N1 : List Value → World → Prop) (xs : List Value) (w : World) : Prop :=
  match xs with
  | [x0, x3, x4] => law03_filled_b1 R N1 x0 x3 x4 w
  | _ => False

def law03_filled_L2 (R : Value → World → Prop) (x0 x3 x4 : Value) (w : World) : Prop :=
  ∃ m, loopV (law03_filled_L2F R) m [x0, x3, x4] w

theorem law03_filled_L2_eq (R : Value → World → Prop) : ∀ e w, lift Try.prog 16 (sub (bodyOf Try.f14) [1, 1, 0, 1, 0]) (blockK 0 (seqK (fun e w => law03_filled_s0 R (e 3) w) (finK Try.prog Try.f14.results.toList R))) e w = law03_filled_L2 R (e 0) (e 3) (e 4) w := loop_seg (F := law03_filled_L2F R) (sel := fun e => [e 0, e 3, e 4]) fun N1 => (law03_filled_b1_eq R N1)

def law03_filled_s3 (R : Value → World → Prop) (x0 x3 : Value) (w : World) : Prop :=
  law03_filled_L2 R x0 x3 (.int .i64 0) w

theorem law03_filled_s3_eq (R : Value → World → Prop) : ∀ e w, lift Try.prog 16 (sub (bodyOf Try.f14) [1, 1, 0]) (seqK (fun e w => law03_filled_s0 R (e 3) w) (finK Try.prog Try.f14.results.toList R)) e w = law03_filled_s3 R (e 0) (e 3) w :=
  segs_eq (l := [(sub (bodyOf Try.f14) [1, 1, 0, 0])]) (y := (sub (bodyOf Try.f14) [1, 1, 0, 1])) (Y := (fun e w => law03_filled_L2 R (e 0) (e 3) (e 4) w)) (law03_filled_L2_eq R) (fun e w => by kernel_rfl)

def law03_filled_s4 (R : Value → World → Prop) (x0 : Value) (w : World) : Prop :=
  mkG 5 1 1 (zc Try.prog 5) (.int .i64 32) (.int .i64 32) w fun t5 w =>
  law03_filled_s3 R x0 t5 w

theorem law03_filled_s4_eq (R : Value → World → Prop) : ∀ e w, lift Try.prog 16 (bodyOf Try.f14) (finK Try.prog Try.f14.results.toList R) e w = law03_filled_s4 R (e 0) w :=
  segs_eq (l := [(sub (bodyOf Try.f14) [0]), (sub (bodyOf Try.f14) [1, 0])]) (y := (sub (bodyOf Try.f14) [1, 1])) (Y := (fun e w => law03_filled_s3 R (e 0) (e 3) w)) (seq_seg (x := (sub (bodyOf Try.f14) [1, 1, 0])) (y := (sub (bodyOf Try.f14) [1, 1, 1])) (law03_filled_s0_eq R) (law03_filled_s3_eq R)) (fun e w => by kernel_rfl)

def law03_filled (R : Value → World → Prop) (x0 : Value) (w : World) : Prop := law03_filled_s4 R x0 w
theorem law03_filled_call {R : Value → World → Prop} {x0 : Value} {w : World} (h : law03_filled R x0 w) : callG Try.prog 14 #[x0] w R :=
  calls_lift_eq Try.mixed Try.func14 (args := [x0]) rfl rfl rfl rfl ((law03_filled_s4_eq R) (envOf [x0]) w) (by kernel_rfl) h
/-! quayside/quaysidelaw03.awake -/
def law03_awake_s0 (R : Value → World → Prop) (x1 : Value) (w : World) : Prop :=
  callG Try.prog 17 #[x1, (.int .i64 0)] w fun t59 w =>
  qG Try.prog (Instr.extract t59 0) w fun t60 =>
  qG Try.prog (Instr.extract t59 1) w fun t61 =>
  callG Try.prog 14 #[(.int .u8 98)] (World.drew w) fun t63 w =>
  slS t63 none (some (.int .i64 5)) fun t64 =>
  callG Try.prog 14 #[(.int .u8 97)] w fun t65 w =>
  slS t65 (some (.int .i64 5)) none fun t66 =>
  qG Try.prog (bq .add 9 (.tmp 64) (.tmp 66) t64 t66) w fun t67 =>
  qG Try.prog (bq .eql 9 (.tmp 62) (.tmp 67) t60 t67) w fun t68 =>
  bV t68
  (qG Try.prog (bq .eql 24 (.tmp 70) (.const (.int .i64 0)) t61 (.int .i64 0)) w fun t71 =>
  bV t71
  (callG Try.prog 28 #[x1] w fun t75 w =>
  qG Try.prog (bq .eql 3 (.tmp 75) (.const (.int .i64 2)) t75 (.int .i64 2)) w fun t76 =>
  bV t76
  (callG Try.prog 27 #[x1] w fun t80 w =>
  qG Try.prog (bq .eql 3 (.tmp 80) (.const (.int .i64 0)) t80 (.int .i64 0)) w fun t81 =>
  R t81 w)
  (R (.bool false) w))
  (R (.bool false) w))
  (R (.bool false) w)

theorem law03_awake_s0_eq (R : Value → World → Prop) : ∀ e w, lift Try.prog 83 (sub (bodyOf Try.f18) [1, 1, 1, 1, 1]) (finK Try.prog Try.f18.results.toList R) e w = law03_awake_s0 R (e 1) w := fun e w => by kernel_rfl

def law03_awake_s1 (R : Value → World → Prop) (x1 : Value) (w : World) : Prop :=
  callG Try.prog 17 #[x1, (.int .i64 0)] w fun t41 w =>
  qG Try.prog (Instr.extract t41 0) w fun t42 =>
  qG Try.prog (Instr.extract t41 1) w fun t43 =>
  callG Try.prog 14 #[(.int .u8 98)] w fun t45 w =>
  qG Try.prog (bq .neq 9 (.tmp 44) (.tmp 45) t42 t45) w fun t46 =>
  bV t46
  (R (.bool false) w)
  (qG Try.prog (bq .neq 24 (.tmp 48) (.const (.int .i64 0)) t43 (.int .i64 0)) w fun t49 =>
  bV t49
  (R (.bool false) w)
  (bsl 3 1 1 (zc Try.prog 3) #[(0, (.int .i64 5))] w fun t53 w =>
  callG Try.prog 16 #[x1, t53] w fun t54 w =>
  qG Try.prog (bq .neq 24 (.tmp 54) (.const (.int .i64 0)) t54 (.int .i64 0)) w fun t55 =>
  bV t55
  (R (.bool false) w)
  (law03_awake_s0 R x1 w)))

theorem law03_awake_s1_eq (R : Value → World → Prop) : ∀ e w, lift Try.prog 83 (sub (bodyOf Try.f18) [1, 1, 1]) (finK Try.prog Try.f18.results.toList R) e w = law03_awake_s1 R (e 1) w :=
  segs_eq (l := [(sub (bodyOf Try.f18) [1, 1, 1, 0]), (sub (bodyOf Try.f18) [1, 1, 1, 1, 0])]) (y := (sub (bodyOf Try.f18) [1, 1, 1, 1, 1])) (Y := (fun e w => law03_awake_s0 R (e 1) w)) (law03_awake_s0_eq R) (fun e w => by kernel_rfl)

def law03_awake_s2 (R : Value → World → Prop) (w : World) : Prop :=
  callG Try.prog 12 #[(.int .i64 2)] w fun t8 w =>
  qG Try.prog (Instr.extract t8 0) w fun t9 =>
  qG Try.prog (Instr.extract t8 1) w fun t10 =>
  qG Try.prog (bq .neq 24 (.tmp 11) (.const (.int .i64 0)) t10 (.int .i64 0)) w fun t12 =>
  bV t12
  (R (.bool false) w)
  (qG Try.prog (bq .eql 23 (.tmp 14) (.const (.pointer none)) t9 (.pointer none)) w fun t15 =>
  bV t15
  (R (.bool false) w)
  (callG Try.prog 14 #[(.int .u8 97)] w fun t19 w =>
  callG Try.prog 13 #[t9, (.int .i64 0), t19] w fun t20 w =>
  qG Try.prog (bq .neq 24 (.tmp 20) (.const (.int .i64 0)) t20 (.int .i64 0)) w fun t21 =>
  bV t21
  (R (.bool false) w)
  (callG Try.prog 15 #[t9] w fun t25 w =>
  qG Try.prog (bq .neq 24 (.tmp 25) (.const (.int .i64 0)) t25 (.int .i64 0)) w fun t26 =>
  bV t26
  (R (.bool false) w)
  (callG Try.prog 14 #[(.int .u8 98)] w fun t30 w =>
  callG Try.prog 13 #[t9, (.int .i64 0), t30] w fun t31 w =>
  qG Try.prog (bq .neq 24 (.tmp 31) (.const (.int .i64 0)) t31 (.int .i64 0)) w fun t32 =>
  bV t32
  (R (.bool false) w)
  (callG Try.prog 27 #[t9] w fun t36 w =>
  qG Try.prog (bq .neq 3 (.tmp 36) (.const (.int .i64 1)) t36 (.int .i64 1)) w fun t37 =>
  bV t37
  (R (.bool false) w)
  (law03_awake_s1 R t9 w))))))

theorem law03_awake_s2_eq (R : Value → World → Prop) : ∀ e w, lift Try.prog 83 (bodyOf Try.f18) (finK Try.prog Try.f18.results.toList R) e w = law03_awake_s2 R w :=
  segs_eq (l := [(sub (bodyOf Try.f18) [0]), (sub (bodyOf Try.f18) [1, 0]), (sub (bodyOf Try.f18) [1, 1, 0])]) (y := (sub (bodyOf Try.f18) [1, 1, 1])) (Y := (fun e w => law03_awake_s1 R (e 1) w)) (law03_awake_s1_eq R) (fun e w => by kernel_rfl)

def law03_awake (R : Value → World → Prop) (w : World) : Prop := law03_awake_s2 R  w
theorem law03_awake_call {R : Value → World → Prop} {w : World} (h : law03_awake R w) : callG Try.prog 18 #[] w R :=
  calls_lift_eq Try.mixed Try.func18 (args := []) rfl rfl rfl rfl ((law03_awake_s2_eq R) (envOf []) w) (by kernel_rfl) h
/-! quayside/quaysidelaw03.DiskSure -/
def law03_DiskSure_s0 (R : Value → World → Prop) (w : World) : Prop :=
  callG Try.prog 18 #[] w fun t120 w =>
  R t120 w

theorem law03_DiskSure_s0_eq (R : Value → World → Prop) : ∀ e w, lift Try.prog 121 (sub (bodyOf Try.f3) [1, 1, 1, 1, 1, 1, 1, 1, 1, 1]) (finK Try.prog Try.f3.results.toList R) e w = law03_DiskSure_s0 R w := fun e w => by kernel_rfl

def law03_DiskSure_s1 (R : Value → World → Prop) (N1 : List Value → World → Prop) (x1 x2 x7 x9 x12 x13 : Value) (w : World) : Prop :=
  qG Try.prog (bq .add 3 (.tmp 71) (.const (.int .i64 1)) x13 (.int .i64 1)) w fun t72 =>
  N1 [x1, x2, x7, x9, x12, t72] w

theorem law03_DiskSure_s1_eq (R : Value → World → Prop) (N1 : List Value → World → Prop) : ∀ e w, lift Try.prog 121 (sub (bodyOf Try.f3) [1, 1, 1, 1, 1, 1, 1, 1, 1, 0, 1, 0, 0, 1, 1]) (seqK (fun e w => N1 [e 1, e 2, e 7, e 9, e 12, e 13] w) (blockK 4 (seqK (fun e w => law03_DiskSure_s0 R  w) (finK Try.prog Try.f3.results.toList R)))) e w = law03_DiskSure_s1 R N1 (e 1) (e 2) (e 7) (e 9) (e 12) (e 13) w := fun e w => by kernel_rfl

def law03_DiskSure_s2 (R : Value → World → Prop) (N1 : List Value → World → Prop) (x1 x2 x7 x9 x12 x13 x14 x15 : Value) (w : World) : Prop :=
  callG Try.prog 17 #[x7, x13] w fun t101 w =>
  qG Try.prog (Instr.extract t101 0) w fun t102 =>
  qG Try.prog (Instr.extract t101 1) w fun t103 =>
  qG Try.prog (bq .neq 24 (.tmp 104) (.const (.int .i64 0)) t103 (.int .i64 0)) (World.drew w) fun t105 =>
  bV t105
  (R (.bool false) (World.drew w))
  (qG Try.prog (bq .add 3 (.const (.int .i64 65)) (.tmp 108) (.int .i64 65) x13) (World.drew w) fun t109 =>
  cvI .u8 t109 fun t110 =>
  slS x14 (some x15) none fun t116 =>
  callG Try.prog 14 #[t110] (World.drew w) fun t111 w =>
  slS t111 none (some x15) fun t113 =>
  qG Try.prog (bq .add 9 (.tmp 113) (.tmp 116) t113 t116) w fun t117 =>
  qG Try.prog (bq .neq 9 (.tmp 107) (.tmp 117) t102 t117) w fun t118 =>
  bV t118
  (R (.bool false) w)
  (law03_DiskSure_s1 R N1 x1 x2 x7 x9 x12 x13 w))

theorem law03_DiskSure_s2_eq (R : Value → World → Prop) (N1 : List Value → World → Prop) : ∀ e w, lift Try.prog 121 (sub (bodyOf Try.f3) [1, 1, 1, 1, 1, 1, 1, 1, 1, 0, 1, 0, 0, 1, 0, 0, 1, 1, 1, 1]) (blockK 5 (seqK (fun e w => law03_DiskSure_s1 R N1 (e 1) (e 2) (e 7) (e 9) (e 12) (e 13) w) (seqK (fun e w => N1 [e 1, e 2, e 7, e 9, e 12, e 13] w) (blockK 4 (seqK (fun e w => law03_DiskSure_s0 R  w) (finK Try.prog Try.f3.results.toList R)))))) e w = law03_DiskSure_s2 R N1 (e 1) (e 2) (e 7) (e 9) (e 12) (e 13) (e 14) (e 15) w := fun e w => by kernel_rfl

def law03_DiskSure_s3 (R : Value → World → Prop) (N1 : List Value → World → Prop) (x1 x2 x7 x9 x12 x13 x14 : Value) (w : World) : Prop :=
  qG Try.prog (bq .shr 3 (.tmp 81) (.tmp 82) x1 x13) w fun t83 =>
  qG Try.prog (bq .and 3 (.tmp 83) (.const (.int .i64 1)) t83 (.int .i64 1)) w fun t84 =>
  qG Try.prog (bq .eql 3 (.tmp 84) (.const (.int .i64 1)) t84 (.int .i64 1)) w fun t85 =>
  bV t85
  (lenL x2 fun t88 =>
  qG Try.prog (bq .lss 3 (.tmp 86) (.tmp 88) x12 t88) w fun t89 =>
  bV t89
  (ia 1 x2 x12 fun t92 =>
  ld1 t92 w fun t93 =>
  qG Try.prog (Builtin.min_ #[3, 3] 3 #[t93, (.int .i64 32)]) w fun t94 =>
  qG Try.prog (Builtin.max_ #[3, 3] 3 #[(.int .i64 0), t94]) w fun t95 =>
  qG Try.prog (bq .add 3 (.tmp 96) (.const (.int .i64 1)) x12 (.int .i64 1)) w fun t97 =>
  law03_DiskSure_s2 R N1 x1 x2 x7 x9 t97 x13 x14 t95 w)
  (qG Try.prog (bq .add 3 (.tmp 96) (.const (.int .i64 1)) x12 (.int .i64 1)) w fun t97_1 =>
  law03_DiskSure_s2 R N1 x1 x2 x7 x9 t97_1 x13 x14 (.int .i64 0) w))
  (law03_DiskSure_s2 R N1 x1 x2 x7 x9 x12 x13 x14 (.int .i64 0) w)

theorem law03_DiskSure_s3_eq (R : Value → World → Prop) (N1 : List Value → World → Prop) : ∀ e w, lift Try.prog 121 (sub (bodyOf Try.f3) [1, 1, 1, 1, 1, 1, 1, 1, 1, 0, 1, 0, 0, 1, 0, 0, 1, 1]) (blockK 5 (seqK (fun e w => law03_DiskSure_s1 R N1 (e 1) (e 2) (e 7) (e 9) (e 12) (e 13) w) (seqK (fun e w => N1 [e 1, e 2, e 7, e 9, e 12, e 13] w) (blockK 4 (seqK (fun e w => law03_DiskSure_s0 R  w) (finK Try.prog Try.f3.results.toList R)))))) e w = law03_DiskSure_s3 R N1 (e 1) (e 2) (e 7) (e 9) (e 12) (e 13) (e 14) w :=
  segs_eq (l := [(sub (bodyOf Try.f3) [1, 1, 1, 1, 1, 1, 1, 1, 1, 0, 1, 0, 0, 1, 0, 0, 1, 1, 0]), (sub (bodyOf Try.f3) [1, 1, 1, 1, 1, 1, 1, 1, 1, 0, 1, 0, 0, 1, 0, 0, 1, 1, 1, 0])]) (y := (sub (bodyOf Try.f3) [1, 1, 1, 1, 1, 1, 1, 1, 1, 0, 1, 0, 0, 1, 0, 0, 1, 1, 1, 1])) (Y := (fun e w => law03_DiskSure_s2 R N1 (e 1) (e 2) (e 7) (e 9) (e 12) (e 13) (e 14) (e 15) w)) (law03_DiskSure_s2_eq R N1) (fun e w => by kernel_rfl)

def law03_DiskSure_s4 (R : Value → World → Prop) (N1 : List Value → World → Prop) (x1 x2 x7 x9 x12 x13 : Value) (w : World) : Prop :=
  callG Try.prog 14 #[(.int .u8 0)] w fun t73 w =>
  qG Try.prog (bq .lss 3 (.tmp 74) (.tmp 75) x13 x9) w fun t76 =>
  bV t76
  (qG Try.prog (bq .add 3 (.const (.int .i64 97)) (.tmp 77) (.int .i64 97) x13) w fun t78 =>
  cvI .u8 t78 fun t79 =>
  callG Try.prog 14 #[t79] w fun t80 w =>
  law03_DiskSure_s3 R N1 x1 x2 x7 x9 x12 x13 t80 w)
  (law03_DiskSure_s3 R N1 x1 x2 x7 x9 x12 x13 t73 w)

theorem law03_DiskSure_s4_eq (R : Value → World → Prop) (N1 : List Value → World → Prop) : ∀ e w, lift Try.prog 121 (sub (bodyOf Try.f3) [1, 1, 1, 1, 1, 1, 1, 1, 1, 0, 1, 0, 0, 1, 0, 0]) (blockK 5 (seqK (fun e w => law03_DiskSure_s1 R N1 (e 1) (e 2) (e 7) (e 9) (e 12) (e 13) w) (seqK (fun e w => N1 [e 1, e 2, e 7, e 9, e 12, e 13] w) (blockK 4 (seqK (fun e w => law03_DiskSure_s0 R  w) (finK Try.prog Try.f3.results.toList R)))))) e w = law03_DiskSure_s4 R N1 (e 1) (e 2) (e 7) (e 9) (e 12) (e 13) w :=
  segs_eq (l := [(sub (bodyOf Try.f3) [1, 1, 1, 1, 1, 1, 1, 1, 1, 0, 1, 0, 0, 1, 0, 0, 0]), (sub (bodyOf Try.f3) [1, 1, 1, 1, 1, 1, 1, 1, 1, 0, 1, 0, 0, 1, 0, 0, 1, 0])]) (y := (sub (bodyOf Try.f3) [1, 1, 1, 1, 1, 1, 1, 1, 1, 0, 1, 0, 0, 1, 0, 0, 1, 1])) (Y := (fun e w => law03_DiskSure_s3 R N1 (e 1) (e 2) (e 7) (e 9) (e 12) (e 13) (e 14) w)) (law03_DiskSure_s3_eq R N1) (fun e w => by kernel_rfl)

def law03_DiskSure_s5 (R : Value → World → Prop) (N1 : List Value → World → Prop) (x1 x2 x7 x9 x12 x13 : Value) (w : World) : Prop :=
  qG Try.prog (bq .lss 3 (.tmp 69) (.const (.int .i64 16)) x13 (.int .i64 16)) w fun t70 =>
  bV t70
  (law03_DiskSure_s4 R N1 x1 x2 x7 x9 x12 x13 w)
  (law03_DiskSure_s0 R  w)

theorem law03_DiskSure_s5_eq (R : Value → World → Prop) (N1 : List Value → World → Prop) : ∀ e w, lift Try.prog 121 (sub (bodyOf Try.f3) [1, 1, 1, 1, 1, 1, 1, 1, 1, 0, 1, 0, 0]) (seqK (fun e w => N1 [e 1, e 2, e 7, e 9, e 12, e 13] w) (blockK 4 (seqK (fun e w => law03_DiskSure_s0 R  w) (finK Try.prog Try.f3.results.toList R)))) e w = law03_DiskSure_s5 R N1 (e 1) (e 2) (e 7) (e 9) (e 12) (e 13) w :=
  segs_eq (l := [(sub (bodyOf Try.f3) [1, 1, 1, 1, 1, 1, 1, 1, 1, 0, 1, 0, 0, 0])]) (y := (sub (bodyOf Try.f3) [1, 1, 1, 1, 1, 1, 1, 1, 1, 0, 1, 0, 0, 1])) (Y := (fun e w => law03_DiskSure_s4 R N1 (e 1) (e 2) (e 7) (e 9) (e 12) (e 13) w)) (seq_seg (x := (sub (bodyOf Try.f3) [1, 1, 1, 1, 1, 1, 1, 1, 1, 0, 1, 0, 0, 1, 0])) (y := (sub (bodyOf Try.f3) [1, 1, 1, 1, 1, 1, 1, 1, 1, 0, 1, 0, 0, 1, 1])) (law03_DiskSure_s1_eq R N1) (law03_DiskSure_s4_eq R N1)) (fun e w => by kernel_rfl)

def law03_DiskSure_L6F (R : Value → World → Prop) (N1 : List Value → World → Prop) (xs : List Value) (w : World) : Prop :=
  match xs with
  | [x1, x2, x7, x9, x12, x13] => law03_DiskSure_s5 R N1 x1 x2 x7 x9 x12 x13 w
  | _ => False

def law03_DiskSure_L6 (R : Value → World → Prop) (x1 x2 x7 x9 x12 x13 : Value) (w : World) : Prop :=
  ∃ m, loopV (law03_DiskSure_L6F R) m [x1, x2, x7, x9, x12, x13] w

theorem law03_DiskSure_L6_eq (R : Value → World → Prop) : ∀ e w, lift Try.prog 121 (sub (bodyOf Try.f3) [1, 1, 1, 1, 1, 1, 1, 1, 1, 0, 1, 0]) (blockK 4 (seqK (fun e w => law03_DiskSure_s0 R  w) (finK Try.prog Try.f3.results.toList R))) e w = law03_DiskSure_L6 R (e 1) (e 2) (e 7) (e 9) (e 12) (e 13) w := loop_seg (F := law03_DiskSure_L6F R) (sel := fun e => [e 1, e 2, e 7, e 9, e 12, e 13]) fun N1 => (law03_DiskSure_s5_eq R N1)

def law03_DiskSure_s7 (R : Value → World → Prop) (x1 x2 x7 x9 x12 : Value) (w : World) : Prop :=
  law03_DiskSure_L6 R x1 x2 x7 x9 x12 (.int .i64 0) w

theorem law03_DiskSure_s7_eq (R : Value → World → Prop) : ∀ e w, lift Try.prog 121 (sub (bodyOf Try.f3) [1, 1, 1, 1, 1, 1, 1, 1, 1, 0]) (seqK (fun e w => law03_DiskSure_s0 R  w) (finK Try.prog Try.f3.results.toList R)) e w = law03_DiskSure_s7 R (e 1) (e 2) (e 7) (e 9) (e 12) w :=
  segs_eq (l := [(sub (bodyOf Try.f3) [1, 1, 1, 1, 1, 1, 1, 1, 1, 0, 0])]) (y := (sub (bodyOf Try.f3) [1, 1, 1, 1, 1, 1, 1, 1, 1, 0, 1])) (Y := (fun e w => law03_DiskSure_L6 R (e 1) (e 2) (e 7) (e 9) (e 12) (e 13) w)) (law03_DiskSure_L6_eq R) (fun e w => by kernel_rfl)

def law03_DiskSure_s8 (R : Value → World → Prop) (x1 x2 x7 x9 : Value) (w : World) : Prop :=
  callG Try.prog 16 #[x7, x2] w fun t67 w =>
  qG Try.prog (bq .neq 24 (.tmp 67) (.const (.int .i64 0)) t67 (.int .i64 0)) w fun t68 =>
  bV t68
  (R (.bool false) w)
  (law03_DiskSure_s7 R x1 x2 x7 x9 (.int .i64 0) w)

theorem law03_DiskSure_s8_eq (R : Value → World → Prop) : ∀ e w, lift Try.prog 121 (sub (bodyOf Try.f3) [1, 1, 1, 1, 1, 1, 1]) (finK Try.prog Try.f3.results.toList R) e w = law03_DiskSure_s8 R (e 1) (e 2) (e 7) (e 9) w :=
  segs_eq (l := [(sub (bodyOf Try.f3) [1, 1, 1, 1, 1, 1, 1, 0]), (sub (bodyOf Try.f3) [1, 1, 1, 1, 1, 1, 1, 1, 0])]) (y := (sub (bodyOf Try.f3) [1, 1, 1, 1, 1, 1, 1, 1, 1])) (Y := (fun e w => law03_DiskSure_s7 R (e 1) (e 2) (e 7) (e 9) (e 12) w)) (seq_seg (x := (sub (bodyOf Try.f3) [1, 1, 1, 1, 1, 1, 1, 1, 1, 0])) (y := (sub (bodyOf Try.f3) [1, 1, 1, 1, 1, 1, 1, 1, 1, 1])) (law03_DiskSure_s0_eq R) (law03_DiskSure_s7_eq R)) (fun e w => by kernel_rfl)

def law03_DiskSure_b9 (R : Value → World → Prop) (N1 : List Value → World → Prop) (x1 x2 x7 x9 x11 : Value) (w : World) : Prop :=
  qG Try.prog (bq .lss 3 (.tmp 46) (.const (.int .i64 16)) x11 (.int .i64 16)) w fun t47 =>
  bV t47
  (qG Try.prog (bq .shr 3 (.tmp 50) (.tmp 51) x1 x11) w fun t52 =>
  qG Try.prog (bq .and 3 (.tmp 52) (.const (.int .i64 1)) t52 (.int .i64 1)) w fun t53 =>
  qG Try.prog (bq .eql 3 (.tmp 53) (.const (.int .i64 1)) t53 (.int .i64 1)) w fun t54 =>
  bV t54
  (qG Try.prog (bq .add 3 (.const (.int .i64 65)) (.tmp 58) (.int .i64 65) x11) w fun t59 =>
  cvI .u8 t59 fun t60 =>
  callG Try.prog 14 #[t60] w fun t61 w =>
  callG Try.prog 13 #[x7, x11, t61] w fun t62 w =>
  qG Try.prog (bq .neq 24 (.tmp 62) (.const (.int .i64 0)) t62 (.int .i64 0)) w fun t63 =>
  bV t63
  (R (.bool false) w)
  (qG Try.prog (bq .add 3 (.tmp 48) (.const (.int .i64 1)) x11 (.int .i64 1)) w fun t49 =>
  N1 [x1, x2, x7, x9, t49] w))
  (qG Try.prog (bq .add 3 (.tmp 48) (.const (.int .i64 1)) x11 (.int .i64 1)) w fun t49_1 =>
  N1 [x1, x2, x7, x9, t49_1] w))
  (law03_DiskSure_s8 R x1 x2 x7 x9 w)

theorem law03_DiskSure_b9_eq (R : Value → World → Prop) (N1 : List Value → World → Prop) : ∀ e w, lift Try.prog 121 (sub (bodyOf Try.f3) [1, 1, 1, 1, 1, 1, 0, 1, 0, 0]) (seqK (fun e w => N1 [e 1, e 2, e 7, e 9, e 11] w) (blockK 2 (seqK (fun e w => law03_DiskSure_s8 R (e 1) (e 2) (e 7) (e 9) w) (finK Try.prog Try.f3.results.toList R)))) e w = law03_DiskSure_b9 R N1 (e 1) (e 2) (e 7) (e 9) (e 11) w := fun e w => by kernel_rfl

def law03_DiskSure_L10F (R : Value → World → Prop) (N1 : List Value → World → Prop) (xs : List Value) (w : World) : Prop :=
  match xs with
  | [x1, x2, x7, x9, x11] => law03_DiskSure_b9 R N1 x1 x2 x7 x9 x11 w
  | _ => False

def law03_DiskSure_L10 (R : Value → World → Prop) (x1 x2 x7 x9 x11 : Value) (w : World) : Prop :=
  ∃ m, loopV (law03_DiskSure_L10F R) m [x1, x2, x7, x9, x11] w

theorem law03_DiskSure_L10_eq (R : Value → World → Prop) : ∀ e w, lift Try.prog 121 (sub (bodyOf Try.f3) [1, 1, 1, 1, 1, 1, 0, 1, 0]) (blockK 2 (seqK (fun e w => law03_DiskSure_s8 R (e 1) (e 2) (e 7) (e 9) w) (finK Try.prog Try.f3.results.toList R))) e w = law03_DiskSure_L10 R (e 1) (e 2) (e 7) (e 9) (e 11) w := loop_seg (F := law03_DiskSure_L10F R) (sel := fun e => [e 1, e 2, e 7, e 9, e 11]) fun N1 => (law03_DiskSure_b9_eq R N1)

def law03_DiskSure_s11 (R : Value → World → Prop) (x1 x2 x7 x9 : Value) (w : World) : Prop :=
  law03_DiskSure_L10 R x1 x2 x7 x9 (.int .i64 0) w

theorem law03_DiskSure_s11_eq (R : Value → World → Prop) : ∀ e w, lift Try.prog 121 (sub (bodyOf Try.f3) [1, 1, 1, 1, 1, 1, 0]) (seqK (fun e w => law03_DiskSure_s8 R (e 1) (e 2) (e 7) (e 9) w) (finK Try.prog Try.f3.results.toList R)) e w = law03_DiskSure_s11 R (e 1) (e 2) (e 7) (e 9) w :=
  segs_eq (l := [(sub (bodyOf Try.f3) [1, 1, 1, 1, 1, 1, 0, 0])]) (y := (sub (bodyOf Try.f3) [1, 1, 1, 1, 1, 1, 0, 1])) (Y := (fun e w => law03_DiskSure_L10 R (e 1) (e 2) (e 7) (e 9) (e 11) w)) (law03_DiskSure_L10_eq R) (fun e w => by kernel_rfl)

def law03_DiskSure_s12 (R : Value → World → Prop) (x1 x2 x7 x9 : Value) (w : World) : Prop :=
  callG Try.prog 15 #[x7] w fun t44 w =>
  qG Try.prog (bq .neq 24 (.tmp 44) (.const (.int .i64 0)) t44 (.int .i64 0)) w fun t45 =>
  bV t45
  (R (.bool false) w)
  (law03_DiskSure_s11 R x1 x2 x7 x9 w)

theorem law03_DiskSure_s12_eq (R : Value → World → Prop) : ∀ e w, lift Try.prog 121 (sub (bodyOf Try.f3) [1, 1, 1, 1, 1]) (finK Try.prog Try.f3.results.toList R) e w = law03_DiskSure_s12 R (e 1) (e 2) (e 7) (e 9) w :=
  segs_eq (l := [(sub (bodyOf Try.f3) [1, 1, 1, 1, 1, 0])]) (y := (sub (bodyOf Try.f3) [1, 1, 1, 1, 1, 1])) (Y := (fun e w => law03_DiskSure_s11 R (e 1) (e 2) (e 7) (e 9) w)) (seq_seg (x := (sub (bodyOf Try.f3) [1, 1, 1, 1, 1, 1, 0])) (y := (sub (bodyOf Try.f3) [1, 1, 1, 1, 1, 1, 1])) (law03_DiskSure_s8_eq R) (law03_DiskSure_s11_eq R)) (fun e w => by kernel_rfl)

def law03_DiskSure_b13 (R : Value → World → Prop) (N1 : List Value → World → Prop) (x1 x2 x7 x9 x10 : Value) (w : World) : Prop :=
  qG Try.prog (bq .lss 3 (.tmp 30) (.tmp 31) x10 x9) w fun t32 =>
  bV t32
  (qG Try.prog (bq .add 3 (.const (.int .i64 97)) (.tmp 37) (.int .i64 97) x10) w fun t38 =>
  cvI .u8 t38 fun t39 =>
  callG Try.prog 14 #[t39] w fun t40 w =>
  callG Try.prog 13 #[x7, x10, t40] w fun t41 w =>
  qG Try.prog (bq .neq 24 (.tmp 41) (.const (.int .i64 0)) t41 (.int .i64 0)) w fun t42 =>
  bV t42
  (R (.bool false) w)
  (qG Try.prog (bq .add 3 (.tmp 33) (.const (.int .i64 1)) x10 (.int .i64 1)) w fun t34 =>
  N1 [x1, x2, x7, x9, t34] w))
  (law03_DiskSure_s12 R x1 x2 x7 x9 w)

theorem law03_DiskSure_b13_eq (R : Value → World → Prop) (N1 : List Value → World → Prop) : ∀ e w, lift Try.prog 121 (sub (bodyOf Try.f3) [1, 1, 1, 1, 0, 1, 0, 0]) (seqK (fun e w => N1 [e 1, e 2, e 7, e 9, e 10] w) (blockK 0 (seqK (fun e w => law03_DiskSure_s12 R (e 1) (e 2) (e 7) (e 9) w) (finK Try.prog Try.f3.results.toList R)))) e w = law03_DiskSure_b13 R N1 (e 1) (e 2) (e 7) (e 9) (e 10) w := fun e w => by kernel_rfl

def law03_DiskSure_L14F (R : Value → World → Prop) (N1 : List Value → World → Prop) (xs : List Value) (w : World) : Prop :=
  match xs with
  | [x1, x2, x7, x9, x10] => law03_DiskSure_b13 R N1 x1 x2 x7 x9 x10 w
  | _ => False

def law03_DiskSure_L14 (R : Value → World → Prop) (x1 x2 x7 x9 x10 : Value) (w : World) : Prop :=
  ∃ m, loopV (law03_DiskSure_L14F R) m [x1, x2, x7, x9, x10] w

theorem law03_DiskSure_L14_eq (R : Value → World → Prop) : ∀ e w, lift Try.prog 121 (sub (bodyOf Try.f3) [1, 1, 1, 1, 0, 1, 0]) (blockK 0 (seqK (fun e w => law03_DiskSure_s12 R (e 1) (e 2) (e 7) (e 9) w) (finK Try.prog Try.f3.results.toList R))) e w = law03_DiskSure_L14 R (e 1) (e 2) (e 7) (e 9) (e 10) w := loop_seg (F := law03_DiskSure_L14F R) (sel := fun e => [e 1, e 2, e 7, e 9, e 10]) fun N1 => (law03_DiskSure_b13_eq R N1)

def law03_DiskSure_s15 (R : Value → World → Prop) (x1 x2 x7 x9 : Value) (w : World) : Prop :=
  law03_DiskSure_L14 R x1 x2 x7 x9 (.int .i64 0) w

theorem law03_DiskSure_s15_eq (R : Value → World → Prop) : ∀ e w, lift Try.prog 121 (sub (bodyOf Try.f3) [1, 1, 1, 1, 0]) (seqK (fun e w => law03_DiskSure_s12 R (e 1) (e 2) (e 7) (e 9) w) (finK Try.prog Try.f3.results.toList R)) e w = law03_DiskSure_s15 R (e 1) (e 2) (e 7) (e 9) w :=
  segs_eq (l := [(sub (bodyOf Try.f3) [1, 1, 1, 1, 0, 0])]) (y := (sub (bodyOf Try.f3) [1, 1, 1, 1, 0, 1])) (Y := (fun e w => law03_DiskSure_L14 R (e 1) (e 2) (e 7) (e 9) (e 10) w)) (law03_DiskSure_L14_eq R) (fun e w => by kernel_rfl)

def law03_DiskSure_s16 (R : Value → World → Prop) (x0 x1 x2 x7 : Value) (w : World) : Prop :=
  qG Try.prog (bq .and 3 (.tmp 28) (.const (.int .i64 15)) x0 (.int .i64 15)) w fun t29 =>
  law03_DiskSure_s15 R x1 x2 x7 t29 w

theorem law03_DiskSure_s16_eq (R : Value → World → Prop) : ∀ e w, lift Try.prog 121 (sub (bodyOf Try.f3) [1, 1, 1]) (finK Try.prog Try.f3.results.toList R) e w = law03_DiskSure_s16 R (e 0) (e 1) (e 2) (e 7) w :=
  segs_eq (l := [(sub (bodyOf Try.f3) [1, 1, 1, 0])]) (y := (sub (bodyOf Try.f3) [1, 1, 1, 1])) (Y := (fun e w => law03_DiskSure_s15 R (e 1) (e 2) (e 7) (e 9) w)) (seq_seg (x := (sub (bodyOf Try.f3) [1, 1, 1, 1, 0])) (y := (sub (bodyOf Try.f3) [1, 1, 1, 1, 1])) (law03_DiskSure_s12_eq R) (law03_DiskSure_s15_eq R)) (fun e w => by kernel_rfl)

def law03_DiskSure_s17 (R : Value → World → Prop) (x0 x1 x2 : Value) (w : World) : Prop :=
  callG Try.prog 12 #[(.int .i64 16)] w fun t19 w =>
  qG Try.prog (Instr.extract t19 0) w fun t20 =>
  qG Try.prog (Instr.extract t19 1) w fun t21 =>
  qG Try.prog (bq .neq 24 (.tmp 22) (.const (.int .i64 0)) t21 (.int .i64 0)) w fun t23 =>
  bV t23
  (R (.bool false) w)
  (qG Try.prog (bq .eql 23 (.tmp 25) (.const (.pointer none)) t20 (.pointer none)) w fun t26 =>
  bV t26
  (R (.bool false) w)
  (law03_DiskSure_s16 R x0 x1 x2 t20 w))

theorem law03_DiskSure_s17_eq (R : Value → World → Prop) : ∀ e w, lift Try.prog 121 (bodyOf Try.f3) (finK Try.prog Try.f3.results.toList R) e w = law03_DiskSure_s17 R (e 0) (e 1) (e 2) w :=
  segs_eq (l := [(sub (bodyOf Try.f3) [0]), (sub (bodyOf Try.f3) [1, 0]), (sub (bodyOf Try.f3) [1, 1, 0])]) (y := (sub (bodyOf Try.f3) [1, 1, 1])) (Y := (fun e w => law03_DiskSure_s16 R (e 0) (e 1) (e 2) (e 7) w)) (law03_DiskSure_s16_eq R) (fun e w => by kernel_rfl)

def law03_DiskSure (R : Value → World → Prop) (x0 x1 x2 : Value) (w : World) : Prop := law03_DiskSure_s17 R x0 x1 x2 w
theorem law03_DiskSure_call {R : Value → World → Prop} {x0 x1 x2 : Value} {w : World} (h : law03_DiskSure R x0 x1 x2 w) : callG Try.prog 3 #[x0, x1, x2] w R :=
  calls_lift_eq Try.mixed Try.func3 (args := [x0, x1, x2]) rfl rfl rfl rfl ((law03_DiskSure_s17_eq R) (envOf [x0, x1, x2]) w) (by kernel_rfl) h
end Go.Proofs

set_option linter.unusedVariables false
set_option linter.unusedSimpArgs false
namespace Go.Proofs
open Go Go.Q
set_option maxRecDepth 100000
/-! quayside/quaysidelaw03.DiskFuses -/
def law03_DiskFuses_s0 (R : Value → World → Prop) (x5 : Value) (w : World) : Prop :=
  callG Try.prog 17 #[x5, (.int .i64 0)] w fun t75 w =>
  qG Try.prog (Instr.extract t75 0) w fun t76 =>
  qG Try.prog (Instr.extract t75 1) w fun t77 =>
  qG Try.prog (bq .eql 24 (.tmp 78) (.const (.int .i64 30)) t77 (.int .i64 30)) w fun t79 =>
  callG Try.prog 26 #[x5] w fun t81 w =>
  qG Try.prog (bq .eql 4 (.tmp 79) (.tmp 81) t79 t81) w fun t82 =>
  bV t82
  (callG Try.prog 16 #[x5, (.slice none 0 0)] w fun t85 w =>
  qG Try.prog (bq .eql 24 (.tmp 85) (.const (.int .i64 0)) t85 (.int .i64 0)) w fun t86 =>
  bV t86
  (callG Try.prog 26 #[x5] w fun t90 w =>
  qG Try.prog (Op.unary .not t90) w fun t91 =>
  bV t91
  (callG Try.prog 18 #[] w fun t94 w =>
  R t94 w)
  (R (.bool false) w))
  (R (.bool false) w))
  (R (.bool false) w)

theorem law03_DiskFuses_s0_eq (R : Value → World → Prop) : ∀ e w, lift Try.prog 96 (sub (bodyOf Try.f5) [1, 1, 1, 1, 1]) (finK Try.prog Try.f5.results.toList R) e w = law03_DiskFuses_s0 R (e 5) w := fun e w => by kernel_rfl

def law03_DiskFuses_s1 (R : Value → World → Prop) (N1 : List Value → World → Prop) (x0 x5 x7 x8 : Value) (w : World) : Prop :=
  qG Try.prog (bq .add 3 (.tmp 42) (.const (.int .i64 1)) x8 (.int .i64 1)) w fun t43 =>
  N1 [x0, x5, x7, t43] w

theorem law03_DiskFuses_s1_eq (R : Value → World → Prop) (N1 : List Value → World → Prop) : ∀ e w, lift Try.prog 96 (sub (bodyOf Try.f5) [1, 1, 1, 1, 0, 1, 0, 0, 1, 1]) (seqK (fun e w => N1 [e 0, e 5, e 7, e 8] w) (blockK 0 (seqK (fun e w => law03_DiskFuses_s0 R (e 5) w) (finK Try.prog Try.f5.results.toList R)))) e w = law03_DiskFuses_s1 R N1 (e 0) (e 5) (e 7) (e 8) w := fun e w => by kernel_rfl

def law03_DiskFuses_s2 (R : Value → World → Prop) (N1 : List Value → World → Prop) (x0 x5 x7 x8 x9 x10 : Value) (w : World) : Prop :=
  qG Try.prog (bq .neq 24 (.tmp 59) (.tmp 60) x10 x9) w fun t61 =>
  bV t61
  (R (.bool false) w)
  (callG Try.prog 26 #[x5] w fun t64 w =>
  qG Try.prog (bq .eql 24 (.tmp 65) (.const (.int .i64 30)) x9 (.int .i64 30)) w fun t66 =>
  qG Try.prog (bq .neq 4 (.tmp 64) (.tmp 66) t64 t66) w fun t67 =>
  bV t67
  (R (.bool false) w)
  (qG Try.prog (bq .gtr 3 (.tmp 69) (.const (.int .i64 0)) x7 (.int .i64 0)) w fun t70 =>
  bV t70
  (qG Try.prog (bq .sub 3 (.tmp 71) (.const (.int .i64 1)) x7 (.int .i64 1)) w fun t72 =>
  law03_DiskFuses_s1 R N1 x0 x5 t72 x8 w)
  (law03_DiskFuses_s1 R N1 x0 x5 x7 x8 w)))

theorem law03_DiskFuses_s2_eq (R : Value → World → Prop) (N1 : List Value → World → Prop) : ∀ e w, lift Try.prog 96 (sub (bodyOf Try.f5) [1, 1, 1, 1, 0, 1, 0, 0, 1, 0, 0, 1, 1, 1, 1]) (blockK 1 (seqK (fun e w => law03_DiskFuses_s1 R N1 (e 0) (e 5) (e 7) (e 8) w) (seqK (fun e w => N1 [e 0, e 5, e 7, e 8] w) (blockK 0 (seqK (fun e w => law03_DiskFuses_s0 R (e 5) w) (finK Try.prog Try.f5.results.toList R)))))) e w = law03_DiskFuses_s2 R N1 (e 0) (e 5) (e 7) (e 8) (e 9) (e 10) w := fun e w => by kernel_rfl

def law03_DiskFuses_s3 (R : Value → World → Prop) (N1 : List Value → World → Prop) (x0 x5 x7 x8 x9 : Value) (w : World) : Prop :=
  qG Try.prog (bq .rem 3 (.tmp 46) (.const (.int .i64 6)) x8 (.int .i64 6)) w fun t47 =>
  qG Try.prog (bq .eql 3 (.tmp 47) (.const (.int .i64 5)) t47 (.int .i64 5)) w fun t48 =>
  bV t48
  (callG Try.prog 15 #[x5] w fun t50 w =>
  law03_DiskFuses_s2 R N1 x0 x5 x7 x8 x9 t50 w)
  (ia 1 x0 x8 fun t54 =>
  ld1 t54 (World.drew w) fun t55 =>
  qG Try.prog (bq .and 3 (.tmp 55) (.const (.int .i64 7)) t55 (.int .i64 7)) (World.drew w) fun t56 =>
  callG Try.prog 14 #[(.int .u8 120)] (World.drew w) fun t57 w =>
  stb Try.prog (bq .and 3 (.tmp 55) (.const (.int .i64 7)) t55 (.int .i64 7)) t56 w ∧
  ld1 t54 w (fun u => u = t55) ∧
  callG Try.prog 13 #[x5, t56, t57] w fun t58 w =>
  law03_DiskFuses_s2 R N1 x0 x5 x7 x8 x9 t58 w)

theorem law03_DiskFuses_s3_eq (R : Value → World → Prop) (N1 : List Value → World → Prop) : ∀ e w, lift Try.prog 96 (sub (bodyOf Try.f5) [1, 1, 1, 1, 0, 1, 0, 0, 1, 0, 0, 1, 1]) (blockK 1 (seqK (fun e w => law03_DiskFuses_s1 R N1 (e 0) (e 5) (e 7) (e 8) w) (seqK (fun e w => N1 [e 0, e 5, e 7, e 8] w) (blockK 0 (seqK (fun e w => law03_DiskFuses_s0 R (e 5) w) (finK Try.prog Try.f5.results.toList R)))))) e w = law03_DiskFuses_s3 R N1 (e 0) (e 5) (e 7) (e 8) (e 9) w :=
  segs_eq (l := [(sub (bodyOf Try.f5) [1, 1, 1, 1, 0, 1, 0, 0, 1, 0, 0, 1, 1, 0]), (sub (bodyOf Try.f5) [1, 1, 1, 1, 0, 1, 0, 0, 1, 0, 0, 1, 1, 1, 0])]) (y := (sub (bodyOf Try.f5) [1, 1, 1, 1, 0, 1, 0, 0, 1, 0, 0, 1, 1, 1, 1])) (Y := (fun e w => law03_DiskFuses_s2 R N1 (e 0) (e 5) (e 7) (e 8) (e 9) (e 10) w)) (law03_DiskFuses_s2_eq R N1) (fun e w => by kernel_rfl)

def law03_DiskFuses_s4 (R : Value → World → Prop) (N1 : List Value → World → Prop) (x0 x5 x7 x8 : Value) (w : World) : Prop :=
  qG Try.prog (bq .eql 3 (.tmp 44) (.const (.int .i64 0)) x7 (.int .i64 0)) w fun t45 =>
  bV t45
  (law03_DiskFuses_s3 R N1 x0 x5 x7 x8 (.int .i64 30) w)
  (law03_DiskFuses_s3 R N1 x0 x5 x7 x8 (.int .i64 0) w)

theorem law03_DiskFuses_s4_eq (R : Value → World → Prop) (N1 : List Value → World → Prop) : ∀ e w, lift Try.prog 96 (sub (bodyOf Try.f5) [1, 1, 1, 1, 0, 1, 0, 0, 1, 0, 0]) (blockK 1 (seqK (fun e w => law03_DiskFuses_s1 R N1 (e 0) (e 5) (e 7) (e 8) w) (seqK (fun e w => N1 [e 0, e 5, e 7, e 8] w) (blockK 0 (seqK (fun e w => law03_DiskFuses_s0 R (e 5) w) (finK Try.prog Try.f5.results.toList R)))))) e w = law03_DiskFuses_s4 R N1 (e 0) (e 5) (e 7) (e 8) w :=
  segs_eq (l := [(sub (bodyOf Try.f5) [1, 1, 1, 1, 0, 1, 0, 0, 1, 0, 0, 0]), (sub (bodyOf Try.f5) [1, 1, 1, 1, 0, 1, 0, 0, 1, 0, 0, 1, 0])]) (y := (sub (bodyOf Try.f5) [1, 1, 1, 1, 0, 1, 0, 0, 1, 0, 0, 1, 1])) (Y := (fun e w => law03_DiskFuses_s3 R N1 (e 0) (e 5) (e 7) (e 8) (e 9) w)) (law03_DiskFuses_s3_eq R N1) (fun e w => by kernel_rfl)

def law03_DiskFuses_s5 (R : Value → World → Prop) (N1 : List Value → World → Prop) (x0 x5 x7 x8 : Value) (w : World) : Prop :=
  lenL x0 fun t36 =>
  qG Try.prog (bq .lss 3 (.tmp 34) (.tmp 36) x8 t36) w fun t37 =>
  bV t37
  (qG Try.prog (bq .lss 3 (.tmp 39) (.const (.int .i64 30)) x8 (.int .i64 30)) w fun t40 =>
  bV t40
  (law03_DiskFuses_s4 R N1 x0 x5 x7 x8 w)
  (law03_DiskFuses_s0 R x5 w))
  (law03_DiskFuses_s0 R x5 w)

theorem law03_DiskFuses_s5_eq (R : Value → World → Prop) (N1 : List Value → World → Prop) : ∀ e w, lift Try.prog 96 (sub (bodyOf Try.f5) [1, 1, 1, 1, 0, 1, 0, 0]) (seqK (fun e w => N1 [e 0, e 5, e 7, e 8] w) (blockK 0 (seqK (fun e w => law03_DiskFuses_s0 R (e 5) w) (finK Try.prog Try.f5.results.toList R)))) e w = law03_DiskFuses_s5 R N1 (e 0) (e 5) (e 7) (e 8) w :=
  segs_eq (l := [(sub (bodyOf Try.f5) [1, 1, 1, 1, 0, 1, 0, 0, 0])]) (y := (sub (bodyOf Try.f5) [1, 1, 1, 1, 0, 1, 0, 0, 1])) (Y := (fun e w => law03_DiskFuses_s4 R N1 (e 0) (e 5) (e 7) (e 8) w)) (seq_seg (x := (sub (bodyOf Try.f5) [1, 1, 1, 1, 0, 1, 0, 0, 1, 0])) (y := (sub (bodyOf Try.f5) [1, 1, 1, 1, 0, 1, 0, 0, 1, 1])) (law03_DiskFuses_s1_eq R N1) (law03_DiskFuses_s4_eq R N1)) (fun e w => by kernel_rfl)

def law03_DiskFuses_L6F (R : Value → World → Prop) (N1 : List Value → World → Prop) (xs : List Value) (w : World) : Prop :=
  match xs with
  | [x0, x5, x7, x8] => law03_DiskFuses_s5 R N1 x0 x5 x7 x8 w
  | _ => False

def law03_DiskFuses_L6 (R : Value → World → Prop) (x0 x5 x7 x8 : Value) (w : World) : Prop :=
  ∃ m, loopV (law03_DiskFuses_L6F R) m [x0, x5, x7, x8] w

theorem law03_DiskFuses_L6_eq (R : Value → World → Prop) : ∀ e w, lift Try.prog 96 (sub (bodyOf Try.f5) [1, 1, 1, 1, 0, 1, 0]) (blockK 0 (seqK (fun e w => law03_DiskFuses_s0 R (e 5) w) (finK Try.prog Try.f5.results.toList R))) e w = law03_DiskFuses_L6 R (e 0) (e 5) (e 7) (e 8) w := loop_seg (F := law03_DiskFuses_L6F R) (sel := fun e => [e 0, e 5, e 7, e 8]) fun N1 => (law03_DiskFuses_s5_eq R N1)

def law03_DiskFuses_s7 (R : Value → World → Prop) (x0 x5 x7 : Value) (w : World) : Prop :=
  law03_DiskFuses_L6 R x0 x5 x7 (.int .i64 0) w

theorem law03_DiskFuses_s7_eq (R : Value → World → Prop) : ∀ e w, lift Try.prog 96 (sub (bodyOf Try.f5) [1, 1, 1, 1, 0]) (seqK (fun e w => law03_DiskFuses_s0 R (e 5) w) (finK Try.prog Try.f5.results.toList R)) e w = law03_DiskFuses_s7 R (e 0) (e 5) (e 7) w :=
  segs_eq (l := [(sub (bodyOf Try.f5) [1, 1, 1, 1, 0, 0])]) (y := (sub (bodyOf Try.f5) [1, 1, 1, 1, 0, 1])) (Y := (fun e w => law03_DiskFuses_L6 R (e 0) (e 5) (e 7) (e 8) w)) (law03_DiskFuses_L6_eq R) (fun e w => by kernel_rfl)

def law03_DiskFuses_s8 (R : Value → World → Prop) (x0 x1 x5 : Value) (w : World) : Prop :=
  qG Try.prog (bq .and 3 (.tmp 31) (.const (.int .i64 255)) x1 (.int .i64 255)) w fun t32 =>
  qG Try.prog (bq .rem 3 (.tmp 32) (.const (.int .i64 40)) t32 (.int .i64 40)) w fun t33 =>
  law03_DiskFuses_s7 R x0 x5 t33 w

theorem law03_DiskFuses_s8_eq (R : Value → World → Prop) : ∀ e w, lift Try.prog 96 (sub (bodyOf Try.f5) [1, 1, 1]) (finK Try.prog Try.f5.results.toList R) e w = law03_DiskFuses_s8 R (e 0) (e 1) (e 5) w :=
  segs_eq (l := [(sub (bodyOf Try.f5) [1, 1, 1, 0])]) (y := (sub (bodyOf Try.f5) [1, 1, 1, 1])) (Y := (fun e w => law03_DiskFuses_s7 R (e 0) (e 5) (e 7) w)) (seq_seg (x := (sub (bodyOf Try.f5) [1, 1, 1, 1, 0])) (y := (sub (bodyOf Try.f5) [1, 1, 1, 1, 1])) (law03_DiskFuses_s0_eq R) (law03_DiskFuses_s7_eq R)) (fun e w => by kernel_rfl)

def law03_DiskFuses_s9 (R : Value → World → Prop) (x0 x1 : Value) (w : World) : Prop :=
  callG Try.prog 12 #[(.int .i64 8)] w fun t14 w =>
  qG Try.prog (Instr.extract t14 0) w fun t15 =>
  qG Try.prog (Instr.extract t14 1) w fun t16 =>
  qG Try.prog (bq .neq 24 (.tmp 17) (.const (.int .i64 0)) t16 (.int .i64 0)) w fun t18 =>
  bV t18
  (R (.bool false) w)
  (qG Try.prog (bq .eql 23 (.tmp 20) (.const (.pointer none)) t15 (.pointer none)) w fun t21 =>
  bV t21
  (R (.bool false) w)
  (qG Try.prog (bq .and 3 (.tmp 25) (.const (.int .i64 255)) x1 (.int .i64 255)) w fun t26 =>
  qG Try.prog (bq .rem 3 (.tmp 26) (.const (.int .i64 40)) t26 (.int .i64 40)) w fun t27 =>
  callG Try.prog 23 #[t15, t27] w fun t28 w =>
  qG Try.prog (bq .neq 24 (.tmp 28) (.const (.int .i64 0)) t28 (.int .i64 0)) w fun t29 =>
  bV t29
  (R (.bool false) w)
  (law03_DiskFuses_s8 R x0 x1 t15 w)))

theorem law03_DiskFuses_s9_eq (R : Value → World → Prop) : ∀ e w, lift Try.prog 96 (bodyOf Try.f5) (finK Try.prog Try.f5.results.toList R) e w = law03_DiskFuses_s9 R (e 0) (e 1) w :=
  segs_eq (l := [(sub (bodyOf Try.f5) [0]), (sub (bodyOf Try.f5) [1, 0]), (sub (bodyOf Try.f5) [1, 1, 0])]) (y := (sub (bodyOf Try.f5) [1, 1, 1])) (Y := (fun e w => law03_DiskFuses_s8 R (e 0) (e 1) (e 5) w)) (law03_DiskFuses_s8_eq R) (fun e w => by kernel_rfl)

def law03_DiskFuses (R : Value → World → Prop) (x0 x1 : Value) (w : World) : Prop := law03_DiskFuses_s9 R x0 x1 w
theorem law03_DiskFuses_call {R : Value → World → Prop} {x0 x1 : Value} {w : World} (h : law03_DiskFuses R x0 x1 w) : callG Try.prog 5 #[x0, x1] w R :=
  calls_lift_eq Try.mixed Try.func5 (args := [x0, x1]) rfl rfl rfl rfl ((law03_DiskFuses_s9_eq R) (envOf [x0, x1]) w) (by kernel_rfl) h
/-! quayside/quaysidelaw03.DiskNobody -/
def law03_DiskNobody_s0 (R : Value → World → Prop) (w : World) : Prop :=
  callG Try.prog 18 #[] w fun t91 w =>
  R t91 w

theorem law03_DiskNobody_s0_eq (R : Value → World → Prop) : ∀ e w, lift Try.prog 92 (sub (bodyOf Try.f6) [1, 1, 1]) (finK Try.prog Try.f6.results.toList R) e w = law03_DiskNobody_s0 R w := fun e w => by kernel_rfl

def law03_DiskNobody_b1 (R : Value → World → Prop) (N1 : List Value → World → Prop) (x0 x1 x5 x6 : Value) (w : World) : Prop :=
  lenL x5 fun t14 =>
  qG Try.prog (bq .lss 3 (.tmp 12) (.tmp 14) x6 t14) w fun t15 =>
  bV t15
  (ia 1 x5 x6 fun t21 =>
  ld1 t21 w fun t22 =>
  callG Try.prog 17 #[t22, x0] w fun t24 w =>
  qG Try.prog (Instr.extract t24 0) w fun t25 =>
  qG Try.prog (Instr.extract t24 1) w fun t26 =>
  ia 1 x5 x6 fun t29 =>
  ld1 t29 w fun t30 =>
  callG Try.prog 28 #[t30] w fun t31 w =>
  qG Try.prog (bq .neq 3 (.tmp 31) (.const (.int .i64 0)) t31 (.int .i64 0)) w fun t32 =>
  bV t32
  (R (.bool false) w)
  (ia 1 x5 x6 fun t36 =>
  ld1 t36 w fun t37 =>
  callG Try.prog 13 #[t37, x0, x1] w fun t40 w =>
  qG Try.prog (bq .neq 24 (.tmp 40) (.const (.int .i64 1)) t40 (.int .i64 1)) w fun t41 =>
  bV t41
  (R (.bool false) w)
  (qG Try.prog (bq .neq 9 (.tmp 44) (.const (.string ⟨#[]⟩)) t25 (.string ⟨#[]⟩)) w fun t45 =>
  bV t45
  (R (.bool false) w)
  (qG Try.prog (bq .neq 24 (.tmp 48) (.const (.int .i64 1)) t26 (.int .i64 1)) w fun t49 =>
  bV t49
  (R (.bool false) w)
  (ia 1 x5 x6 fun t54 =>
  ld1 t54 w fun t55 =>
  callG Try.prog 15 #[t55] w fun t56 w =>
  qG Try.prog (bq .neq 24 (.tmp 56) (.const (.int .i64 1)) t56 (.int .i64 1)) w fun t57 =>
  bV t57
  (R (.bool false) w)
  (ia 1 x5 x6 fun t62 =>
  ld1 t62 w fun t63 =>
  callG Try.prog 27 #[t63] w fun t64 w =>
  qG Try.prog (bq .neq 3 (.tmp 64) (.const (.int .i64 0)) t64 (.int .i64 0)) w fun t65 =>
  bV t65
  (R (.bool false) w)
  (ia 1 x5 x6 fun t70 =>
  ld1 t70 w fun t71 =>
  callG Try.prog 23 #[t71, x0] w fun t73 w =>
  qG Try.prog (bq .neq 24 (.tmp 73) (.const (.int .i64 1)) t73 (.int .i64 1)) w fun t74 =>
  bV t74
  (R (.bool false) w)
  (ia 1 x5 x6 fun t79 =>
  ld1 t79 w fun t80 =>
  callG Try.prog 26 #[t80] w fun t81 w =>
  bV t81
  (R (.bool false) w)
  (ia 1 x5 x6 fun t86 =>
  ld1 t86 w fun t87 =>
  callG Try.prog 16 #[t87, (.slice none 0 0)] w fun t88 w =>
  qG Try.prog (bq .neq 24 (.tmp 88) (.const (.int .i64 1)) t88 (.int .i64 1)) w fun t89 =>
  bV t89
  (R (.bool false) w)
  (qG Try.prog (bq .add 3 (.tmp 16) (.const (.int .i64 1)) x6 (.int .i64 1)) w fun t17 =>
  N1 [x0, x1, x5, t17] w))))))))))
  (law03_DiskNobody_s0 R  w)

theorem law03_DiskNobody_b1_eq (R : Value → World → Prop) (N1 : List Value → World → Prop) : ∀ e w, lift Try.prog 92 (sub (bodyOf Try.f6) [1, 1, 0, 1, 0, 0]) (seqK (fun e w => N1 [e 0, e 1, e 5, e 6] w) (blockK 0 (seqK (fun e w => law03_DiskNobody_s0 R  w) (finK Try.prog Try.f6.results.toList R)))) e w = law03_DiskNobody_b1 R N1 (e 0) (e 1) (e 5) (e 6) w := fun e w => by kernel_rfl

def law03_DiskNobody_L2F (R : Value → World → Prop) (N1 : List Value → World → Prop) (xs : List Value) (w : World) : Prop :=
  match xs with
  | [x0, x1, x5, x6] => law03_DiskNobody_b1 R N1 x0 x1 x5 x6 w
  | _ => False

def law03_DiskNobody_L2 (R : Value → World → Prop) (x0 x1 x5 x6 : Value) (w : World) : Prop :=
  ∃ m, loopV (law03_DiskNobody_L2F R) m [x0, x1, x5, x6] w

theorem law03_DiskNobody_L2_eq (R : Value → World → Prop) : ∀ e w, lift Try.prog 92 (sub (bodyOf Try.f6) [1, 1, 0, 1, 0]) (blockK 0 (seqK (fun e w => law03_DiskNobody_s0 R  w) (finK Try.prog Try.f6.results.toList R))) e w = law03_DiskNobody_L2 R (e 0) (e 1) (e 5) (e 6) w := loop_seg (F := law03_DiskNobody_L2F R) (sel := fun e => [e 0, e 1, e 5, e 6]) fun N1 => (law03_DiskNobody_b1_eq R N1)

def law03_DiskNobody_s3 (R : Value → World → Prop) (x0 x1 x5 : Value) (w : World) : Prop :=
  law03_DiskNobody_L2 R x0 x1 x5 (.int .i64 0) w

theorem law03_DiskNobody_s3_eq (R : Value → World → Prop) : ∀ e w, lift Try.prog 92 (sub (bodyOf Try.f6) [1, 1, 0]) (seqK (fun e w => law03_DiskNobody_s0 R  w) (finK Try.prog Try.f6.results.toList R)) e w = law03_DiskNobody_s3 R (e 0) (e 1) (e 5) w :=
  segs_eq (l := [(sub (bodyOf Try.f6) [1, 1, 0, 0])]) (y := (sub (bodyOf Try.f6) [1, 1, 0, 1])) (Y := (fun e w => law03_DiskNobody_L2 R (e 0) (e 1) (e 5) (e 6) w)) (law03_DiskNobody_L2_eq R) (fun e w => by kernel_rfl)

def law03_DiskNobody_s4 (R : Value → World → Prop) (x0 x1 : Value) (w : World) : Prop :=
  bld [(0, 1), (1, 1), (2, 1), (3, 1), (4, 1)] (zc Try.prog 56) #[] fun t9 =>
  newG (Value.cells t9) 56 w fun t10 w =>
  bsl 23 1 2 (zc Try.prog 23) #[(0, (.pointer none)), (1, t10)] w fun t11 w =>
  law03_DiskNobody_s3 R x0 x1 t11 w

theorem law03_DiskNobody_s4_eq (R : Value → World → Prop) : ∀ e w, lift Try.prog 92 (bodyOf Try.f6) (finK Try.prog Try.f6.results.toList R) e w = law03_DiskNobody_s4 R (e 0) (e 1) w :=
  segs_eq (l := [(sub (bodyOf Try.f6) [0]), (sub (bodyOf Try.f6) [1, 0])]) (y := (sub (bodyOf Try.f6) [1, 1])) (Y := (fun e w => law03_DiskNobody_s3 R (e 0) (e 1) (e 5) w)) (seq_seg (x := (sub (bodyOf Try.f6) [1, 1, 0])) (y := (sub (bodyOf Try.f6) [1, 1, 1])) (law03_DiskNobody_s0_eq R) (law03_DiskNobody_s3_eq R)) (fun e w => by kernel_rfl)

def law03_DiskNobody (R : Value → World → Prop) (x0 x1 : Value) (w : World) : Prop := law03_DiskNobody_s4 R x0 x1 w
theorem law03_DiskNobody_call {R : Value → World → Prop} {x0 x1 : Value} {w : World} (h : law03_DiskNobody R x0 x1 w) : callG Try.prog 6 #[x0, x1] w R :=
  calls_lift_eq Try.mixed Try.func6 (args := [x0, x1]) rfl rfl rfl rfl ((law03_DiskNobody_s4_eq R) (envOf [x0, x1]) w) (by kernel_rfl) h
end Go.Proofs

set_option linter.unusedVariables false
set_option linter.unusedSimpArgs false
namespace Go.Proofs
open Go Go.Q
set_option maxRecDepth 100000
/-! quayside/quaysideref03.burns -/
def ref03_burns_s0 (R : Value → World → Prop) (x1 x2 : Value) (w : World) : Prop :=
  fa 2 x1 fun t14 =>
  ld1 t14 w fun t15 =>
  qG Try.prog (bq .gtr 3 (.tmp 15) (.const (.int .i64 0)) t15 (.int .i64 0)) w fun t16 =>
  bV t16
  (fa 2 x1 fun t17 =>
  ld1 t17 w fun t18 =>
  qG Try.prog (bq .sub 3 (.tmp 18) (.const (.int .i64 1)) t18 (.int .i64 1)) w fun t19 =>
  fa 2 x1 fun t20 =>
  st1 t20 t19 w fun w =>
  ldn 4 x1 w fun t21 =>
  stn 4 x2 t21 w fun w =>
  qG Try.prog (do loadVar 39 (← asAddr x2)) w fun r2 =>
  R (.tuple #[r2, (.bool true)]) w)
  (ldn 4 x1 w fun t21_1 =>
  stn 4 x2 t21_1 w fun w =>
  qG Try.prog (do loadVar 39 (← asAddr x2)) w fun r2_1 =>
  R (.tuple #[r2_1, (.bool true)]) w)

theorem ref03_burns_s0_eq (R : Value → World → Prop) : ∀ e w, lift Try.prog 22 (sub (bodyOf Try.f47) [1, 1]) (finK Try.prog Try.f47.results.toList R) e w = ref03_burns_s0 R (e 1) (e 2) w := fun e w => by kernel_rfl

def ref03_burns_s1 (R : Value → World → Prop) (x1 x2 x10 : Value) (w : World) : Prop :=
  bV x10
  (fa 3 x1 fun t11 =>
  st1 t11 (.bool true) w fun w =>
  fa 2 x1 fun t12 =>
  st1 t12 (.int .i64 (-1)) w fun w =>
  ldn 4 x1 w fun t13 =>
  stn 4 x2 t13 w fun w =>
  qG Try.prog (do loadVar 39 (← asAddr x2)) w fun r2 =>
  R (.tuple #[r2, (.bool false)]) w)
  (ref03_burns_s0 R x1 x2 w)

theorem ref03_burns_s1_eq (R : Value → World → Prop) : ∀ e w, lift Try.prog 22 (sub (bodyOf Try.f47) [1, 0, 1]) (seqK (fun e w => ref03_burns_s0 R (e 1) (e 2) w) (finK Try.prog Try.f47.results.toList R)) e w = ref03_burns_s1 R (e 1) (e 2) (e 10) w := fun e w => by kernel_rfl

def ref03_burns_s2 (R : Value → World → Prop) (x1 x2 : Value) (w : World) : Prop :=
  fa 3 x1 fun t4 =>
  ld1 t4 w fun t5 =>
  bV t5
  (ref03_burns_s1 R x1 x2 (.bool true) w)
  (fa 2 x1 fun t7 =>
  ld1 t7 w fun t8 =>
  qG Try.prog (bq .eql 3 (.tmp 8) (.const (.int .i64 0)) t8 (.int .i64 0)) w fun t9 =>
  ref03_burns_s1 R x1 x2 t9 w)

theorem ref03_burns_s2_eq (R : Value → World → Prop) : ∀ e w, lift Try.prog 22 (sub (bodyOf Try.f47) [1, 0]) (seqK (fun e w => ref03_burns_s0 R (e 1) (e 2) w) (finK Try.prog Try.f47.results.toList R)) e w = ref03_burns_s2 R (e 1) (e 2) w :=
  segs_eq (l := [(sub (bodyOf Try.f47) [1, 0, 0])]) (y := (sub (bodyOf Try.f47) [1, 0, 1])) (Y := (fun e w => ref03_burns_s1 R (e 1) (e 2) (e 10) w)) (ref03_burns_s1_eq R) (fun e w => by kernel_rfl)

def ref03_burns_s3 (R : Value → World → Prop) (x0 : Value) (w : World) : Prop :=
  newG (Value.cells x0) 39 w fun t1 w =>
  newG (zc Try.prog 39) 39 w fun t2 w =>
  ref03_burns_s2 R t1 t2 w

theorem ref03_burns_s3_eq (R : Value → World → Prop) : ∀ e w, lift Try.prog 22 (bodyOf Try.f47) (finK Try.prog Try.f47.results.toList R) e w = ref03_burns_s3 R (e 0) w :=
  segs_eq (l := [(sub (bodyOf Try.f47) [0])]) (y := (sub (bodyOf Try.f47) [1])) (Y := (fun e w => ref03_burns_s2 R (e 1) (e 2) w)) (seq_seg (x := (sub (bodyOf Try.f47) [1, 0])) (y := (sub (bodyOf Try.f47) [1, 1])) (ref03_burns_s0_eq R) (ref03_burns_s2_eq R)) (fun e w => by kernel_rfl)

def ref03_burns (R : Value → World → Prop) (x0 : Value) (w : World) : Prop := ref03_burns_s3 R x0 w
theorem ref03_burns_call {R : Value → World → Prop} {x0 : Value} {w : World} (h : ref03_burns R x0 w) : callG Try.prog 47 #[x0] w R :=
  calls_lift_eq Try.mixed Try.func47 (args := [x0]) rfl rfl rfl rfl ((ref03_burns_s3_eq R) (envOf [x0]) w) (by kernel_rfl) h
/-! quayside/quaysideref03.with -/
def ref03_with_s0 (R : Value → World → Prop) (x0 x1 x2 : Value) (w : World) : Prop :=
  slL 1 x0 none (some x1) fun t11 =>
  app 9 1 16 (zc Try.prog 9) (.slice none 0 0) t11 w fun t12 w =>
  bsl 9 1 1 (zc Try.prog 9) #[(0, x2)] w fun t15 w =>
  app 9 1 16 (zc Try.prog 9) t12 t15 w fun t16 w =>
  qG Try.prog (bq .add 3 (.tmp 19) (.const (.int .i64 1)) x1 (.int .i64 1)) w fun t20 =>
  slL 1 x0 (some t20) none fun t21 =>
  app 9 1 16 (zc Try.prog 9) t16 t21 w fun t22 w =>
  R t22 w

theorem ref03_with_s0_eq (R : Value → World → Prop) : ∀ e w, lift Try.prog 23 (bodyOf Try.f48) (finK Try.prog Try.f48.results.toList R) e w = ref03_with_s0 R (e 0) (e 1) (e 2) w := fun e w => by kernel_rfl

def ref03_with (R : Value → World → Prop) (x0 x1 x2 : Value) (w : World) : Prop := ref03_with_s0 R x0 x1 x2 w
theorem ref03_with_call {R : Value → World → Prop} {x0 x1 x2 : Value} {w : World} (h : ref03_with R x0 x1 x2 w) : callG Try.prog 48 #[x0, x1, x2] w R :=
  calls_lift_eq Try.mixed Try.func48 (args := [x0, x1, x2]) rfl rfl rfl rfl ((ref03_with_s0_eq R) (envOf [x0, x1, x2]) w) (by kernel_rfl) h
/-! quayside/quaysideref03.New -/
def ref03_New_s0 (R : Value → World → Prop) (x2 x4 : Value) (w : World) : Prop :=
  bld [(0, 1), (1, 1), (2, 1), (3, 1)] (zc Try.prog 39) #[(0, x4), (2, (.int .i64 (-1)))] fun t26 =>
  stn 4 x2 t26 w fun w =>
  qG Try.prog (do loadVar 39 (← asAddr x2)) w fun r2 =>
  R (.tuple #[r2, (.int .i64 0)]) w

theorem ref03_New_s0_eq (R : Value → World → Prop) : ∀ e w, lift Try.prog 27 (sub (bodyOf Try.f19) [1, 1, 1, 1]) (finK Try.prog Try.f19.results.toList R) e w = ref03_New_s0 R (e 2) (e 4) w := fun e w => by kernel_rfl

def ref03_New_b1 (R : Value → World → Prop) (N1 : List Value → World → Prop) (x0 x2 x4 x5 : Value) (w : World) : Prop :=
  qG Try.prog (bq .lss 3 (.tmp 15) (.tmp 16) x5 x0) w fun t17 =>
  bV t17
  (mkG 5 1 1 (zc Try.prog 5) (.int .i64 32) (.int .i64 32) w fun t22 w =>
  cvBS t22 w fun t23 =>
  ia 1 x4 x5 fun t24 =>
  st1 t24 t23 w fun w =>
  qG Try.prog (bq .add 3 (.tmp 18) (.const (.int .i64 1)) x5 (.int .i64 1)) w fun t19 =>
  N1 [x0, x2, x4, t19] w)
  (ref03_New_s0 R x2 x4 w)

theorem ref03_New_b1_eq (R : Value → World → Prop) (N1 : List Value → World → Prop) : ∀ e w, lift Try.prog 27 (sub (bodyOf Try.f19) [1, 1, 1, 0, 1, 0, 0]) (seqK (fun e w => N1 [e 0, e 2, e 4, e 5] w) (blockK 0 (seqK (fun e w => ref03_New_s0 R (e 2) (e 4) w) (finK Try.prog Try.f19.results.toList R)))) e w = ref03_New_b1 R N1 (e 0) (e 2) (e 4) (e 5) w := fun e w => by kernel_rfl

def ref03_New_L2F (R : Value → World → Prop) (N1 : List Value → World → Prop) (xs : List Value) (w : World) : Prop :=
  match xs with
  | [x0, x2, x4, x5] => ref03_New_b1 R N1 x0 x2 x4 x5 w
  | _ => False

def ref03_New_L2 (R : Value → World → Prop) (x0 x2 x4 x5 : Value) (w : World) : Prop :=
  ∃ m, loopV (ref03_New_L2F R) m [x0, x2, x4, x5] w

theorem ref03_New_L2_eq (R : Value → World → Prop) : ∀ e w, lift Try.prog 27 (sub (bodyOf Try.f19) [1, 1, 1, 0, 1, 0]) (blockK 0 (seqK (fun e w => ref03_New_s0 R (e 2) (e 4) w) (finK Try.prog Try.f19.results.toList R))) e w = ref03_New_L2 R (e 0) (e 2) (e 4) (e 5) w := loop_seg (F := ref03_New_L2F R) (sel := fun e => [e 0, e 2, e 4, e 5]) fun N1 => (ref03_New_b1_eq R N1)

def ref03_New_s3 (R : Value → World → Prop) (x0 x2 x4 : Value) (w : World) : Prop :=
  ref03_New_L2 R x0 x2 x4 (.int .i64 0) w

theorem ref03_New_s3_eq (R : Value → World → Prop) : ∀ e w, lift Try.prog 27 (sub (bodyOf Try.f19) [1, 1, 1, 0]) (seqK (fun e w => ref03_New_s0 R (e 2) (e 4) w) (finK Try.prog Try.f19.results.toList R)) e w = ref03_New_s3 R (e 0) (e 2) (e 4) w :=
  segs_eq (l := [(sub (bodyOf Try.f19) [1, 1, 1, 0, 0])]) (y := (sub (bodyOf Try.f19) [1, 1, 1, 0, 1])) (Y := (fun e w => ref03_New_L2 R (e 0) (e 2) (e 4) (e 5) w)) (ref03_New_L2_eq R) (fun e w => by kernel_rfl)

def ref03_New_s4 (R : Value → World → Prop) (x0 x2 : Value) (w : World) : Prop :=
  mkG 9 1 16 (zc Try.prog 9) x0 x0 w fun t14 w =>
  ref03_New_s3 R x0 x2 t14 w

theorem ref03_New_s4_eq (R : Value → World → Prop) : ∀ e w, lift Try.prog 27 (sub (bodyOf Try.f19) [1, 1]) (finK Try.prog Try.f19.results.toList R) e w = ref03_New_s4 R (e 0) (e 2) w :=
  segs_eq (l := [(sub (bodyOf Try.f19) [1, 1, 0])]) (y := (sub (bodyOf Try.f19) [1, 1, 1])) (Y := (fun e w => ref03_New_s3 R (e 0) (e 2) (e 4) w)) (seq_seg (x := (sub (bodyOf Try.f19) [1, 1, 1, 0])) (y := (sub (bodyOf Try.f19) [1, 1, 1, 1])) (ref03_New_s0_eq R) (ref03_New_s3_eq R)) (fun e w => by kernel_rfl)

def ref03_New_s5 (R : Value → World → Prop) (x0 : Value) (w : World) : Prop :=
  newG (zc Try.prog 39) 39 w fun t2 w =>
  qG Try.prog (bq .lss 3 (.tmp 6) (.const (.int .i64 1)) x0 (.int .i64 1)) w fun t7 =>
  bV t7
  (bld [(0, 1), (1, 1), (2, 1), (3, 1)] (zc Try.prog 39) #[] fun t12 =>
  stn 4 t2 t12 w fun w =>
  qG Try.prog (do loadVar 39 (← asAddr t2)) w fun r2 =>
  R (.tuple #[r2, (.int .i64 1)]) w)
  (qG Try.prog (bq .gtr 3 (.tmp 9) (.const (.int .i64 4096)) x0 (.int .i64 4096)) w fun t10 =>
  bV t10
  (bld [(0, 1), (1, 1), (2, 1), (3, 1)] (zc Try.prog 39) #[] fun t12_1 =>
  stn 4 t2 t12_1 w fun w =>
  qG Try.prog (do loadVar 39 (← asAddr t2)) w fun r2_1 =>
  R (.tuple #[r2_1, (.int .i64 1)]) w)
  (ref03_New_s4 R x0 t2 w))

theorem ref03_New_s5_eq (R : Value → World → Prop) : ∀ e w, lift Try.prog 27 (bodyOf Try.f19) (finK Try.prog Try.f19.results.toList R) e w = ref03_New_s5 R (e 0) w :=
  segs_eq (l := [(sub (bodyOf Try.f19) [0]), (sub (bodyOf Try.f19) [1, 0])]) (y := (sub (bodyOf Try.f19) [1, 1])) (Y := (fun e w => ref03_New_s4 R (e 0) (e 2) w)) (ref03_New_s4_eq R) (fun e w => by kernel_rfl)

def ref03_New (R : Value → World → Prop) (x0 : Value) (w : World) : Prop := ref03_New_s5 R x0 w
theorem ref03_New_call {R : Value → World → Prop} {x0 : Value} {w : World} (h : ref03_New R x0 w) : callG Try.prog 19 #[x0] w R :=
  calls_lift_eq Try.mixed Try.func19 (args := [x0]) rfl rfl rfl rfl ((ref03_New_s5_eq R) (envOf [x0]) w) (by kernel_rfl) h
/-! quayside/quaysideref03.Write -/
def ref03_Write_s0 (R : Value → World → Prop) (x1 x2 x3 x6 : Value) (w : World) : Prop :=
  ldn 4 x3 w fun t26 =>
  callG Try.prog 47 #[t26] w fun t27 w =>
  qG Try.prog (Instr.extract t27 0) w fun t28 =>
  qG Try.prog (Instr.extract t27 1) w fun t29 =>
  stn 4 x3 t28 w fun w =>
  qG Try.prog (Op.unary .not t29) w fun t31 =>
  bV t31
  (ldn 4 x3 w fun t32 =>
  stn 4 x6 t32 w fun w =>
  qG Try.prog (do loadVar 39 (← asAddr x6)) w fun r6 =>
  R (.tuple #[r6, (.int .i64 30)]) w)
  (fa 1 x3 fun t34 =>
  ld1 t34 w fun t35 =>
  app 97 2 24 (zc Try.prog 97) (.slice none 0 0) t35 w fun t36 w =>
  bld [(0, 1), (1, 1)] (zc Try.prog 97) #[(0, x1), (1, x2)] fun t40 =>
  bsl 97 2 1 (zc Try.prog 97) #[(0, t40)] w fun t41 w =>
  app 97 2 24 (zc Try.prog 97) t36 t41 w fun t42 w =>
  fa 1 x3 fun t43 =>
  st1 t43 t42 w fun w =>
  ldn 4 x3 w fun t44 =>
  stn 4 x6 t44 w fun w =>
  qG Try.prog (do loadVar 39 (← asAddr x6)) w fun r6_1 =>
  R (.tuple #[r6_1, (.int .i64 0)]) w)

theorem ref03_Write_s0_eq (R : Value → World → Prop) : ∀ e w, lift Try.prog 45 (sub (bodyOf Try.f20) [1, 1]) (finK Try.prog Try.f20.results.toList R) e w = ref03_Write_s0 R (e 1) (e 2) (e 3) (e 6) w := fun e w => by kernel_rfl

def ref03_Write_s1 (R : Value → World → Prop) (x0 x1 x2 : Value) (w : World) : Prop :=
  newG (Value.cells x0) 39 w fun t3 w =>
  newG (zc Try.prog 39) 39 w fun t6 w =>
  qG Try.prog (bq .lss 3 (.tmp 10) (.const (.int .i64 0)) x1 (.int .i64 0)) w fun t11 =>
  bV t11
  (ldn 4 t3 w fun t24 =>
  stn 4 t6 t24 w fun w =>
  qG Try.prog (do loadVar 39 (← asAddr t6)) w fun r6 =>
  R (.tuple #[r6, (.int .i64 1)]) w)
  (fa 0 t3 fun t14 =>
  ld1 t14 w fun t15 =>
  lenL t15 fun t16 =>
  qG Try.prog (bq .geq 3 (.tmp 13) (.tmp 16) x1 t16) w fun t17 =>
  bV t17
  (ldn 4 t3 w fun t24_1 =>
  stn 4 t6 t24_1 w fun w =>
  qG Try.prog (do loadVar 39 (← asAddr t6)) w fun r6_1 =>
  R (.tuple #[r6_1, (.int .i64 1)]) w)
  (lenS x2 fun t21 =>
  qG Try.prog (bq .neq 3 (.tmp 21) (.const (.int .i64 32)) t21 (.int .i64 32)) w fun t22 =>
  bV t22
  (ldn 4 t3 w fun t24_2 =>
  stn 4 t6 t24_2 w fun w =>
  qG Try.prog (do loadVar 39 (← asAddr t6)) w fun r6_2 =>
  R (.tuple #[r6_2, (.int .i64 1)]) w)
  (ref03_Write_s0 R x1 x2 t3 t6 w)))

theorem ref03_Write_s1_eq (R : Value → World → Prop) : ∀ e w, lift Try.prog 45 (bodyOf Try.f20) (finK Try.prog Try.f20.results.toList R) e w = ref03_Write_s1 R (e 0) (e 1) (e 2) w :=
  segs_eq (l := [(sub (bodyOf Try.f20) [0]), (sub (bodyOf Try.f20) [1, 0])]) (y := (sub (bodyOf Try.f20) [1, 1])) (Y := (fun e w => ref03_Write_s0 R (e 1) (e 2) (e 3) (e 6) w)) (ref03_Write_s0_eq R) (fun e w => by kernel_rfl)

def ref03_Write (R : Value → World → Prop) (x0 x1 x2 : Value) (w : World) : Prop := ref03_Write_s1 R x0 x1 x2 w
theorem ref03_Write_call {R : Value → World → Prop} {x0 x1 x2 : Value} {w : World} (h : ref03_Write R x0 x1 x2 w) : callG Try.prog 20 #[x0, x1, x2] w R :=
  calls_lift_eq Try.mixed Try.func20 (args := [x0, x1, x2]) rfl rfl rfl rfl ((ref03_Write_s1_eq R) (envOf [x0, x1, x2]) w) (by kernel_rfl) h
/-! quayside/quaysideref03.Read -/
def ref03_Read_s0 (R : Value → World → Prop) (x6 : Value) (w : World) : Prop :=
  R (.tuple #[x6, (.int .i64 0)]) w

theorem ref03_Read_s0_eq (R : Value → World → Prop) : ∀ e w, lift Try.prog 46 (sub (bodyOf Try.f21) [1, 1, 1, 1, 1]) (finK Try.prog Try.f21.results.toList R) e w = ref03_Read_s0 R (e 6) w := fun e w => by kernel_rfl

def ref03_Read_b1 (R : Value → World → Prop) (N1 : List Value → World → Prop) (x1 x2 x6 x7 : Value) (w : World) : Prop :=
  fa 1 x2 fun t25 =>
  ld1 t25 w fun t26 =>
  lenL t26 fun t27 =>
  qG Try.prog (bq .lss 3 (.tmp 24) (.tmp 27) x7 t27) w fun t28 =>
  bV t28
  (fa 1 x2 fun t31 =>
  ld1 t31 w fun t32 =>
  ia 2 t32 x7 fun t34 =>
  fa 0 t34 fun t35 =>
  ld1 t35 w fun t36 =>
  qG Try.prog (bq .eql 3 (.tmp 36) (.tmp 37) t36 x1) w fun t38 =>
  bV t38
  (fa 1 x2 fun t39 =>
  ld1 t39 w fun t40 =>
  ia 2 t40 x7 fun t42 =>
  fa 1 t42 fun t43 =>
  ld1 t43 w fun t44 =>
  qG Try.prog (bq .add 3 (.tmp 29) (.const (.int .i64 1)) x7 (.int .i64 1)) w fun t30 =>
  N1 [x1, x2, t44, t30] w)
  (qG Try.prog (bq .add 3 (.tmp 29) (.const (.int .i64 1)) x7 (.int .i64 1)) w fun t30_1 =>
  N1 [x1, x2, x6, t30_1] w))
  (ref03_Read_s0 R x6 w)

theorem ref03_Read_b1_eq (R : Value → World → Prop) (N1 : List Value → World → Prop) : ∀ e w, lift Try.prog 46 (sub (bodyOf Try.f21) [1, 1, 1, 1, 0, 1, 0, 0]) (seqK (fun e w => N1 [e 1, e 2, e 6, e 7] w) (blockK 0 (seqK (fun e w => ref03_Read_s0 R (e 6) w) (finK Try.prog Try.f21.results.toList R)))) e w = ref03_Read_b1 R N1 (e 1) (e 2) (e 6) (e 7) w := fun e w => by kernel_rfl

def ref03_Read_L2F (R : Value → World → Prop) (N1 : List Value → World → Prop) (xs : List Value) (w : World) : Prop :=
  match xs with
  | [x1, x2, x6, x7] => ref03_Read_b1 R N1 x1 x2 x6 x7 w
  | _ => False

def ref03_Read_L2 (R : Value → World → Prop) (x1 x2 x6 x7 : Value) (w : World) : Prop :=
  ∃ m, loopV (ref03_Read_L2F R) m [x1, x2, x6, x7] w

theorem ref03_Read_L2_eq (R : Value → World → Prop) : ∀ e w, lift Try.prog 46 (sub (bodyOf Try.f21) [1, 1, 1, 1, 0, 1, 0]) (blockK 0 (seqK (fun e w => ref03_Read_s0 R (e 6) w) (finK Try.prog Try.f21.results.toList R))) e w = ref03_Read_L2 R (e 1) (e 2) (e 6) (e 7) w := loop_seg (F := ref03_Read_L2F R) (sel := fun e => [e 1, e 2, e 6, e 7]) fun N1 => (ref03_Read_b1_eq R N1)

def ref03_Read_s3 (R : Value → World → Prop) (x1 x2 x6 : Value) (w : World) : Prop :=
  ref03_Read_L2 R x1 x2 x6 (.int .i64 0) w

theorem ref03_Read_s3_eq (R : Value → World → Prop) : ∀ e w, lift Try.prog 46 (sub (bodyOf Try.f21) [1, 1, 1, 1, 0]) (seqK (fun e w => ref03_Read_s0 R (e 6) w) (finK Try.prog Try.f21.results.toList R)) e w = ref03_Read_s3 R (e 1) (e 2) (e 6) w :=
  segs_eq (l := [(sub (bodyOf Try.f21) [1, 1, 1, 1, 0, 0])]) (y := (sub (bodyOf Try.f21) [1, 1, 1, 1, 0, 1])) (Y := (fun e w => ref03_Read_L2 R (e 1) (e 2) (e 6) (e 7) w)) (ref03_Read_L2_eq R) (fun e w => by kernel_rfl)

def ref03_Read_s4 (R : Value → World → Prop) (x1 x2 : Value) (w : World) : Prop :=
  fa 3 x2 fun t17 =>
  ld1 t17 w fun t18 =>
  bV t18
  (R (.tuple #[(.string ⟨#[]⟩), (.int .i64 30)]) w)
  (fa 0 x2 fun t19 =>
  ld1 t19 w fun t20 =>
  ia 1 t20 x1 fun t22 =>
  ld1 t22 w fun t23 =>
  ref03_Read_s3 R x1 x2 t23 w)

theorem ref03_Read_s4_eq (R : Value → World → Prop) : ∀ e w, lift Try.prog 46 (sub (bodyOf Try.f21) [1, 1]) (finK Try.prog Try.f21.results.toList R) e w = ref03_Read_s4 R (e 1) (e 2) w :=
  segs_eq (l := [(sub (bodyOf Try.f21) [1, 1, 0]), (sub (bodyOf Try.f21) [1, 1, 1, 0])]) (y := (sub (bodyOf Try.f21) [1, 1, 1, 1])) (Y := (fun e w => ref03_Read_s3 R (e 1) (e 2) (e 6) w)) (seq_seg (x := (sub (bodyOf Try.f21) [1, 1, 1, 1, 0])) (y := (sub (bodyOf Try.f21) [1, 1, 1, 1, 1])) (ref03_Read_s0_eq R) (ref03_Read_s3_eq R)) (fun e w => by kernel_rfl)

def ref03_Read_s5 (R : Value → World → Prop) (x0 x1 : Value) (w : World) : Prop :=
  newG (Value.cells x0) 39 w fun t2 w =>
  qG Try.prog (bq .lss 3 (.tmp 8) (.const (.int .i64 0)) x1 (.int .i64 0)) w fun t9 =>
  bV t9
  (R (.tuple #[(.string ⟨#[]⟩), (.int .i64 1)]) w)
  (fa 0 t2 fun t12 =>
  ld1 t12 w fun t13 =>
  lenL t13 fun t14 =>
  qG Try.prog (bq .geq 3 (.tmp 11) (.tmp 14) x1 t14) w fun t15 =>
  bV t15
  (R (.tuple #[(.string ⟨#[]⟩), (.int .i64 1)]) w)
  (ref03_Read_s4 R x1 t2 w))

theorem ref03_Read_s5_eq (R : Value → World → Prop) : ∀ e w, lift Try.prog 46 (bodyOf Try.f21) (finK Try.prog Try.f21.results.toList R) e w = ref03_Read_s5 R (e 0) (e 1) w :=
  segs_eq (l := [(sub (bodyOf Try.f21) [0]), (sub (bodyOf Try.f21) [1, 0])]) (y := (sub (bodyOf Try.f21) [1, 1])) (Y := (fun e w => ref03_Read_s4 R (e 1) (e 2) w)) (ref03_Read_s4_eq R) (fun e w => by kernel_rfl)

def ref03_Read (R : Value → World → Prop) (x0 x1 : Value) (w : World) : Prop := ref03_Read_s5 R x0 x1 w
theorem ref03_Read_call {R : Value → World → Prop} {x0 x1 : Value} {w : World} (h : ref03_Read R x0 x1 w) : callG Try.prog 21 #[x0, x1] w R :=
  calls_lift_eq Try.mixed Try.func21 (args := [x0, x1]) rfl rfl rfl rfl ((ref03_Read_s5_eq R) (envOf [x0, x1]) w) (by kernel_rfl) h
/-! quayside/quaysideref03.Flush -/
def ref03_Flush_s0 (R : Value → World → Prop) (x1 x2 : Value) (w : World) : Prop :=
  fa 1 x1 fun t37 =>
  st1 t37 (.slice none 0 0) w fun w =>
  ldn 4 x1 w fun t38 =>
  stn 4 x2 t38 w fun w =>
  qG Try.prog (do loadVar 39 (← asAddr x2)) w fun r2 =>
  R (.tuple #[r2, (.int .i64 0)]) w

theorem ref03_Flush_s0_eq (R : Value → World → Prop) : ∀ e w, lift Try.prog 39 (sub (bodyOf Try.f22) [1, 1, 1, 1]) (finK Try.prog Try.f22.results.toList R) e w = ref03_Flush_s0 R (e 1) (e 2) w := fun e w => by kernel_rfl

def ref03_Flush_b1 (R : Value → World → Prop) (N1 : List Value → World → Prop) (x1 x2 x5 : Value) (w : World) : Prop :=
  fa 1 x1 fun t15 =>
  ld1 t15 w fun t16 =>
  lenL t16 fun t17 =>
  qG Try.prog (bq .lss 3 (.tmp 14) (.tmp 17) x5 t17) w fun t18 =>
  bV t18
  (fa 0 x1 fun t21 =>
  ld1 t21 (World.drew w) fun t22 =>
  fa 1 x1 fun t23 =>
  ld1 t23 (World.drew w) fun t24 =>
  ia 2 t24 x5 fun t26 =>
  fa 0 t26 fun t27 =>
  ld1 t27 (World.drew w) fun t28 =>
  fa 1 x1 fun t29 =>
  ld1 t29 (World.drew w) fun t30 =>
  ia 2 t30 x5 fun t32 =>
  fa 1 t32 fun t33 =>
  ld1 t33 (World.drew w) fun t34 =>
  callG Try.prog 48 #[t22, t28, t34] (World.drew w) fun t35 w =>
  fa 0 x1 fun t36 =>
  st1 t36 t35 w fun w =>
  qG Try.prog (bq .add 3 (.tmp 19) (.const (.int .i64 1)) x5 (.int .i64 1)) w fun t20 =>
  N1 [x1, x2, t20] w)
  (ref03_Flush_s0 R x1 x2 w)

theorem ref03_Flush_b1_eq (R : Value → World → Prop) (N1 : List Value → World → Prop) : ∀ e w, lift Try.prog 39 (sub (bodyOf Try.f22) [1, 1, 1, 0, 1, 0, 0]) (seqK (fun e w => N1 [e 1, e 2, e 5] w) (blockK 0 (seqK (fun e w => ref03_Flush_s0 R (e 1) (e 2) w) (finK Try.prog Try.f22.results.toList R)))) e w = ref03_Flush_b1 R N1 (e 1) (e 2) (e 5) w := fun e w => by kernel_rfl

def ref03_Flush_L2F (R : Value → World → Prop) (N1 : List Value → World → Prop) (xs : List Value) (w : World) : Prop :=
  match xs with
  | [x1, x2, x5] => ref03_Flush_b1 R N1 x1 x2 x5 w
  | _ => False

def ref03_Flush_L2 (R : Value → World → Prop) (x1 x2 x5 : Value) (w : World) : Prop :=
  ∃ m, loopV (ref03_Flush_L2F R) m [x1, x2, x5] w

theorem ref03_Flush_L2_eq (R : Value → World → Prop) : ∀ e w, lift Try.prog 39 (sub (bodyOf Try.f22) [1, 1, 1, 0, 1, 0]) (blockK 0 (seqK (fun e w => ref03_Flush_s0 R (e 1) (e 2) w) (finK Try.prog Try.f22.results.toList R))) e w = ref03_Flush_L2 R (e 1) (e 2) (e 5) w := loop_seg (F := ref03_Flush_L2F R) (sel := fun e => [e 1, e 2, e 5]) fun N1 => (ref03_Flush_b1_eq R N1)

def ref03_Flush_s3 (R : Value → World → Prop) (x1 x2 : Value) (w : World) : Prop :=
  ref03_Flush_L2 R x1 x2 (.int .i64 0) w

theorem ref03_Flush_s3_eq (R : Value → World → Prop) : ∀ e w, lift Try.prog 39 (sub (bodyOf Try.f22) [1, 1, 1, 0]) (seqK (fun e w => ref03_Flush_s0 R (e 1) (e 2) w) (finK Try.prog Try.f22.results.toList R)) e w = ref03_Flush_s3 R (e 1) (e 2) w :=
  segs_eq (l := [(sub (bodyOf Try.f22) [1, 1, 1, 0, 0])]) (y := (sub (bodyOf Try.f22) [1, 1, 1, 0, 1])) (Y := (fun e w => ref03_Flush_L2 R (e 1) (e 2) (e 5) w)) (ref03_Flush_L2_eq R) (fun e w => by kernel_rfl)

def ref03_Flush_s4 (R : Value → World → Prop) (x0 : Value) (w : World) : Prop :=
  newG (Value.cells x0) 39 w fun t1 w =>
  newG (zc Try.prog 39) 39 w fun t2 w =>
  ldn 4 t1 w fun t7 =>
  callG Try.prog 47 #[t7] w fun t8 w =>
  qG Try.prog (Instr.extract t8 0) w fun t9 =>
  qG Try.prog (Instr.extract t8 1) w fun t10 =>
  stn 4 t1 t9 w fun w =>
  qG Try.prog (Op.unary .not t10) w fun t12 =>
  bV t12
  (ldn 4 t1 w fun t13 =>
  stn 4 t2 t13 w fun w =>
  qG Try.prog (do loadVar 39 (← asAddr t2)) w fun r2 =>
  R (.tuple #[r2, (.int .i64 30)]) w)
  (ref03_Flush_s3 R t1 t2 w)

theorem ref03_Flush_s4_eq (R : Value → World → Prop) : ∀ e w, lift Try.prog 39 (bodyOf Try.f22) (finK Try.prog Try.f22.results.toList R) e w = ref03_Flush_s4 R (e 0) w :=
  segs_eq (l := [(sub (bodyOf Try.f22) [0]), (sub (bodyOf Try.f22) [1, 0]), (sub (bodyOf Try.f22) [1, 1, 0])]) (y := (sub (bodyOf Try.f22) [1, 1, 1])) (Y := (fun e w => ref03_Flush_s3 R (e 1) (e 2) w)) (seq_seg (x := (sub (bodyOf Try.f22) [1, 1, 1, 0])) (y := (sub (bodyOf Try.f22) [1, 1, 1, 1])) (ref03_Flush_s0_eq R) (ref03_Flush_s3_eq R)) (fun e w => by kernel_rfl)

def ref03_Flush (R : Value → World → Prop) (x0 : Value) (w : World) : Prop := ref03_Flush_s4 R x0 w
theorem ref03_Flush_call {R : Value → World → Prop} {x0 : Value} {w : World} (h : ref03_Flush R x0 w) : callG Try.prog 22 #[x0] w R :=
  calls_lift_eq Try.mixed Try.func22 (args := [x0]) rfl rfl rfl rfl ((ref03_Flush_s4_eq R) (envOf [x0]) w) (by kernel_rfl) h
/-! quayside/quaysideref03.Fuse -/
def ref03_Fuse_s0 (R : Value → World → Prop) (x0 x1 : Value) (w : World) : Prop :=
  newG (Value.cells x0) 39 w fun t2 w =>
  newG (zc Try.prog 39) 39 w fun t4 w =>
  qG Try.prog (Builtin.max_ #[3, 3] 3 #[x1, (.int .i64 (-1))]) w fun t6 =>
  fa 2 t2 fun t7 =>
  st1 t7 t6 w fun w =>
  ldn 4 t2 w fun t8 =>
  stn 4 t4 t8 w fun w =>
  qG Try.prog (do loadVar 39 (← asAddr t4)) w fun r4 =>
  R r4 w

theorem ref03_Fuse_s0_eq (R : Value → World → Prop) : ∀ e w, lift Try.prog 9 (bodyOf Try.f24) (finK Try.prog Try.f24.results.toList R) e w = ref03_Fuse_s0 R (e 0) (e 1) w := fun e w => by kernel_rfl

def ref03_Fuse (R : Value → World → Prop) (x0 x1 : Value) (w : World) : Prop := ref03_Fuse_s0 R x0 x1 w
theorem ref03_Fuse_call {R : Value → World → Prop} {x0 x1 : Value} {w : World} (h : ref03_Fuse R x0 x1 w) : callG Try.prog 24 #[x0, x1] w R :=
  calls_lift_eq Try.mixed Try.func24 (args := [x0, x1]) rfl rfl rfl rfl ((ref03_Fuse_s0_eq R) (envOf [x0, x1]) w) (by kernel_rfl) h
/-! quayside/quaysideref03.Crash -/
def ref03_Crash_s0 (R : Value → World → Prop) (x2 x4 : Value) (w : World) : Prop :=
  fa 0 x2 fun t51 =>
  ld1 t51 w fun t52 =>
  bld [(0, 1), (1, 1), (2, 1), (3, 1)] (zc Try.prog 39) #[(0, t52), (2, (.int .i64 (-1)))] fun t53 =>
  stn 4 x4 t53 w fun w =>
  qG Try.prog (do loadVar 39 (← asAddr x4)) w fun r4 =>
  R r4 w

theorem ref03_Crash_s0_eq (R : Value → World → Prop) : ∀ e w, lift Try.prog 54 (sub (bodyOf Try.f25) [1, 1]) (finK Try.prog Try.f25.results.toList R) e w = ref03_Crash_s0 R (e 2) (e 4) w := fun e w => by kernel_rfl

def ref03_Crash_s1 (R : Value → World → Prop) (N1 : List Value → World → Prop) (x1 x2 x4 x5 : Value) (w : World) : Prop :=
  ia 1 x1 x5 fun t23 =>
  ld1 t23 w fun t24 =>
  qG Try.prog (Builtin.min_ #[3, 3] 3 #[t24, (.int .i64 32)]) w fun t25 =>
  qG Try.prog (Builtin.max_ #[3, 3] 3 #[(.int .i64 0), t25]) w fun t26 =>
  fa 1 x2 fun t27 =>
  ld1 t27 w fun t28 =>
  ia 2 t28 x5 fun t30 =>
  ldn 2 t30 w fun t31 =>
  newG (zc Try.prog 97) 97 w fun t7 w =>
  stn 2 t7 t31 w fun w =>
  fa 0 x2 fun t32 =>
  ld1 t32 (World.drew w) fun t33 =>
  fa 0 t7 fun t34 =>
  ld1 t34 (World.drew w) fun t35 =>
  fa 1 t7 fun t36 =>
  ld1 t36 (World.drew w) fun t37 =>
  slS t37 none (some t26) fun t39 =>
  fa 0 x2 fun t40 =>
  ld1 t40 (World.drew w) fun t41 =>
  fa 0 t7 fun t42 =>
  ld1 t42 (World.drew w) fun t43 =>
  ia 1 t41 t43 fun t44 =>
  ld1 t44 (World.drew w) fun t45 =>
  slS t45 (some t26) none fun t47 =>
  qG Try.prog (bq .add 9 (.tmp 39) (.tmp 47) t39 t47) (World.drew w) fun t48 =>
  callG Try.prog 48 #[t33, t35, t48] (World.drew w) fun t49 w =>
  fa 0 x2 fun t50 =>
  st1 t50 t49 w fun w =>
  qG Try.prog (bq .add 3 (.tmp 19) (.const (.int .i64 1)) x5 (.int .i64 1)) w fun t20 =>
  N1 [x1, x2, x4, t20] w

theorem ref03_Crash_s1_eq (R : Value → World → Prop) (N1 : List Value → World → Prop) : ∀ e w, lift Try.prog 54 (sub (bodyOf Try.f25) [1, 0, 1, 0, 0, 1]) (seqK (fun e w => N1 [e 1, e 2, e 4, e 5] w) (blockK 0 (seqK (fun e w => ref03_Crash_s0 R (e 2) (e 4) w) (finK Try.prog Try.f25.results.toList R)))) e w = ref03_Crash_s1 R N1 (e 1) (e 2) (e 4) (e 5) w := fun e w => by kernel_rfl

def ref03_Crash_s2 (R : Value → World → Prop) (N1 : List Value → World → Prop) (x1 x2 x4 x5 : Value) (w : World) : Prop :=
  fa 1 x2 fun t9 =>
  ld1 t9 w fun t10 =>
  lenL t10 fun t11 =>
  qG Try.prog (bq .lss 3 (.tmp 8) (.tmp 11) x5 t11) w fun t12 =>
  bV t12
  (lenL x1 fun t16 =>
  qG Try.prog (bq .lss 3 (.tmp 14) (.tmp 16) x5 t16) w fun t17 =>
  bV t17
  (ref03_Crash_s1 R N1 x1 x2 x4 x5 w)
  (ref03_Crash_s0 R x2 x4 w))
  (ref03_Crash_s0 R x2 x4 w)

theorem ref03_Crash_s2_eq (R : Value → World → Prop) (N1 : List Value → World → Prop) : ∀ e w, lift Try.prog 54 (sub (bodyOf Try.f25) [1, 0, 1, 0, 0]) (seqK (fun e w => N1 [e 1, e 2, e 4, e 5] w) (blockK 0 (seqK (fun e w => ref03_Crash_s0 R (e 2) (e 4) w) (finK Try.prog Try.f25.results.toList R)))) e w = ref03_Crash_s2 R N1 (e 1) (e 2) (e 4) (e 5) w :=
  segs_eq (l := [(sub (bodyOf Try.f25) [1, 0, 1, 0, 0, 0])]) (y := (sub (bodyOf Try.f25) [1, 0, 1, 0, 0, 1])) (Y := (fun e w => ref03_Crash_s1 R N1 (e 1) (e 2) (e 4) (e 5) w)) (ref03_Crash_s1_eq R N1) (fun e w => by kernel_rfl)

def ref03_Crash_L3F (R : Value → World → Prop) (N1 : List Value → World → Prop) (xs : List Value) (w : World) : Prop :=
  match xs with
  | [x1, x2, x4, x5] => ref03_Crash_s2 R N1 x1 x2 x4 x5 w
  | _ => False

def ref03_Crash_L3 (R : Value → World → Prop) (x1 x2 x4 x5 : Value) (w : World) : Prop :=
  ∃ m, loopV (ref03_Crash_L3F R) m [x1, x2, x4, x5] w

theorem ref03_Crash_L3_eq (R : Value → World → Prop) : ∀ e w, lift Try.prog 54 (sub (bodyOf Try.f25) [1, 0, 1, 0]) (blockK 0 (seqK (fun e w => ref03_Crash_s0 R (e 2) (e 4) w) (finK Try.prog Try.f25.results.toList R))) e w = ref03_Crash_L3 R (e 1) (e 2) (e 4) (e 5) w := loop_seg (F := ref03_Crash_L3F R) (sel := fun e => [e 1, e 2, e 4, e 5]) fun N1 => (ref03_Crash_s2_eq R N1)

def ref03_Crash_s4 (R : Value → World → Prop) (x1 x2 x4 : Value) (w : World) : Prop :=
  ref03_Crash_L3 R x1 x2 x4 (.int .i64 0) w

theorem ref03_Crash_s4_eq (R : Value → World → Prop) : ∀ e w, lift Try.prog 54 (sub (bodyOf Try.f25) [1, 0]) (seqK (fun e w => ref03_Crash_s0 R (e 2) (e 4) w) (finK Try.prog Try.f25.results.toList R)) e w = ref03_Crash_s4 R (e 1) (e 2) (e 4) w :=
  segs_eq (l := [(sub (bodyOf Try.f25) [1, 0, 0])]) (y := (sub (bodyOf Try.f25) [1, 0, 1])) (Y := (fun e w => ref03_Crash_L3 R (e 1) (e 2) (e 4) (e 5) w)) (ref03_Crash_L3_eq R) (fun e w => by kernel_rfl)

def ref03_Crash_s5 (R : Value → World → Prop) (x0 x1 : Value) (w : World) : Prop :=
  newG (Value.cells x0) 39 w fun t2 w =>
  newG (zc Try.prog 39) 39 w fun t4 w =>
  ref03_Crash_s4 R x1 t2 t4 w

theorem ref03_Crash_s5_eq (R : Value → World → Prop) : ∀ e w, lift Try.prog 54 (bodyOf Try.f25) (finK Try.prog Try.f25.results.toList R) e w = ref03_Crash_s5 R (e 0) (e 1) w :=
  segs_eq (l := [(sub (bodyOf Try.f25) [0])]) (y := (sub (bodyOf Try.f25) [1])) (Y := (fun e w => ref03_Crash_s4 R (e 1) (e 2) (e 4) w)) (seq_seg (x := (sub (bodyOf Try.f25) [1, 0])) (y := (sub (bodyOf Try.f25) [1, 1])) (ref03_Crash_s0_eq R) (ref03_Crash_s4_eq R)) (fun e w => by kernel_rfl)

def ref03_Crash (R : Value → World → Prop) (x0 x1 : Value) (w : World) : Prop := ref03_Crash_s5 R x0 x1 w
theorem ref03_Crash_call {R : Value → World → Prop} {x0 x1 : Value} {w : World} (h : ref03_Crash R x0 x1 w) : callG Try.prog 25 #[x0, x1] w R :=
  calls_lift_eq Try.mixed Try.func25 (args := [x0, x1]) rfl rfl rfl rfl ((ref03_Crash_s5_eq R) (envOf [x0, x1]) w) (by kernel_rfl) h
/-! quayside/quaysidelaw03.DiskPlays -/
def law03_DiskPlays_s0 (R : Value → World → Prop) (w : World) : Prop :=
  callG Try.prog 18 #[] w fun t165 w =>
  R t165 w

theorem law03_DiskPlays_s0_eq (R : Value → World → Prop) : ∀ e w, lift Try.prog 166 (sub (bodyOf Try.f4) [1, 1, 1, 1, 1, 1]) (finK Try.prog Try.f4.results.toList R) e w = law03_DiskPlays_s0 R w := fun e w => by kernel_rfl

def law03_DiskPlays_s1 (R : Value → World → Prop) (N1 : List Value → World → Prop) (x1 x5 x7 x9 : Value) (w : World) : Prop :=
  qG Try.prog (bq .add 3 (.tmp 53) (.const (.int .i64 1)) x9 (.int .i64 1)) w fun t54 =>
  N1 [x1, x5, x7, t54] w

theorem law03_DiskPlays_s1_eq (R : Value → World → Prop) (N1 : List Value → World → Prop) : ∀ e w, lift Try.prog 166 (sub (bodyOf Try.f4) [1, 1, 1, 1, 1, 0, 1, 0, 0, 1, 1]) (seqK (fun e w => N1 [e 1, e 5, e 7, e 9] w) (blockK 0 (seqK (fun e w => law03_DiskPlays_s0 R  w) (finK Try.prog Try.f4.results.toList R)))) e w = law03_DiskPlays_s1 R N1 (e 1) (e 5) (e 7) (e 9) w := fun e w => by kernel_rfl

def law03_DiskPlays_s2 (R : Value → World → Prop) (N1 : List Value → World → Prop) (x1 x5 x7 x9 x11 x12 : Value) (w : World) : Prop :=
  qG Try.prog (bq .neq 24 (.tmp 139) (.tmp 140) x11 x12) (World.drew w) fun t141 =>
  bV t141
  (R (.bool false) (World.drew w))
  (fa 3 x7 fun t145 =>
  ld1 t145 (World.drew w) fun t146 =>
  callG Try.prog 26 #[x5] (World.drew w) fun t144 w =>
  ld1 t145 w (fun u => u = t146) ∧
  qG Try.prog (bq .neq 4 (.tmp 144) (.tmp 146) t144 t146) w fun t147 =>
  bV t147
  (R (.bool false) w)
  (fa 1 x7 fun t152 =>
  ld1 t152 w fun t153 =>
  lenL t153 fun t154 =>
  callG Try.prog 27 #[x5] w fun t151 w =>
  ld1 t152 w (fun u => u = t153) ∧
  qG Try.prog (bq .neq 3 (.tmp 151) (.tmp 154) t151 t154) w fun t155 =>
  bV t155
  (R (.bool false) w)
  (fa 0 x7 fun t160 =>
  ld1 t160 w fun t161 =>
  lenL t161 fun t162 =>
  callG Try.prog 28 #[x5] w fun t159 w =>
  ld1 t160 w (fun u => u = t161) ∧
  qG Try.prog (bq .neq 3 (.tmp 159) (.tmp 162) t159 t162) w fun t163 =>
  bV t163
  (R (.bool false) w)
  (law03_DiskPlays_s1 R N1 x1 x5 x7 x9 w))))

theorem law03_DiskPlays_s2_eq (R : Value → World → Prop) (N1 : List Value → World → Prop) : ∀ e w, lift Try.prog 166 (sub (bodyOf Try.f4) [1, 1, 1, 1, 1, 0, 1, 0, 0, 1, 0, 0, 1, 1, 1, 1]) (blockK 1 (seqK (fun e w => law03_DiskPlays_s1 R N1 (e 1) (e 5) (e 7) (e 9) w) (seqK (fun e w => N1 [e 1, e 5, e 7, e 9] w) (blockK 0 (seqK (fun e w => law03_DiskPlays_s0 R  w) (finK Try.prog Try.f4.results.toList R)))))) e w = law03_DiskPlays_s2 R N1 (e 1) (e 5) (e 7) (e 9) (e 11) (e 12) w := fun e w => by kernel_rfl

def law03_DiskPlays_s3 (R : Value → World → Prop) (N1 : List Value → World → Prop) (x1 x5 x7 x9 x10 x13 : Value) (w : World) : Prop :=
  fa 1 x10 fun t84 =>
  ld1 t84 w fun t85 =>
  callG Try.prog 13 #[x5, t85, x13] w fun t87 w =>
  ldn 4 x7 w fun t89 =>
  fa 1 x10 fun t90 =>
  ld1 t90 w fun t91 =>
  callG Try.prog 20 #[t89, t91, x13] w fun t93 w =>
  qG Try.prog (Instr.extract t93 0) w fun t94 =>
  qG Try.prog (Instr.extract t93 1) w fun t95 =>
  stn 4 x7 t94 w fun w =>
  law03_DiskPlays_s2 R N1 x1 x5 x7 x9 t87 t95 w

theorem law03_DiskPlays_s3_eq (R : Value → World → Prop) (N1 : List Value → World → Prop) : ∀ e w, lift Try.prog 166 (sub (bodyOf Try.f4) [1, 1, 1, 1, 1, 0, 1, 0, 0, 1, 0, 0, 1, 1, 1, 0, 1, 0, 1, 0, 1, 1]) (blockK 2 (seqK (fun e w => law03_DiskPlays_s2 R N1 (e 1) (e 5) (e 7) (e 9) (e 11) (e 12) w) (blockK 1 (seqK (fun e w => law03_DiskPlays_s1 R N1 (e 1) (e 5) (e 7) (e 9) w) (seqK (fun e w => N1 [e 1, e 5, e 7, e 9] w) (blockK 0 (seqK (fun e w => law03_DiskPlays_s0 R  w) (finK Try.prog Try.f4.results.toList R)))))))) e w = law03_DiskPlays_s3 R N1 (e 1) (e 5) (e 7) (e 9) (e 10) (e 13) w := fun e w => by kernel_rfl

def law03_DiskPlays_s4 (R : Value → World → Prop) (N1 : List Value → World → Prop) (x1 x5 x7 x9 x10 : Value) (w : World) : Prop :=
  fa 3 x10 fun t76 =>
  ld1 t76 w fun t77 =>
  qG Try.prog (bq .eql 9 (.tmp 78) (.const (.string ⟨#[]⟩)) t77 (.string ⟨#[]⟩)) w fun t79 =>
  bV t79
  (fa 2 x10 fun t80 =>
  ld1 t80 w fun t81 =>
  callG Try.prog 14 #[t81] w fun t82 w =>
  law03_DiskPlays_s3 R N1 x1 x5 x7 x9 x10 t82 w)
  (law03_DiskPlays_s3 R N1 x1 x5 x7 x9 x10 t77 w)

theorem law03_DiskPlays_s4_eq (R : Value → World → Prop) (N1 : List Value → World → Prop) : ∀ e w, lift Try.prog 166 (sub (bodyOf Try.f4) [1, 1, 1, 1, 1, 0, 1, 0, 0, 1, 0, 0, 1, 1, 1, 0, 1, 0, 1, 0]) (blockK 2 (seqK (fun e w => law03_DiskPlays_s2 R N1 (e 1) (e 5) (e 7) (e 9) (e 11) (e 12) w) (blockK 1 (seqK (fun e w => law03_DiskPlays_s1 R N1 (e 1) (e 5) (e 7) (e 9) w) (seqK (fun e w => N1 [e 1, e 5, e 7, e 9] w) (blockK 0 (seqK (fun e w => law03_DiskPlays_s0 R  w) (finK Try.prog Try.f4.results.toList R)))))))) e w = law03_DiskPlays_s4 R N1 (e 1) (e 5) (e 7) (e 9) (e 10) w :=
  segs_eq (l := [(sub (bodyOf Try.f4) [1, 1, 1, 1, 1, 0, 1, 0, 0, 1, 0, 0, 1, 1, 1, 0, 1, 0, 1, 0, 0]), (sub (bodyOf Try.f4) [1, 1, 1, 1, 1, 0, 1, 0, 0, 1, 0, 0, 1, 1, 1, 0, 1, 0, 1, 0, 1, 0])]) (y := (sub (bodyOf Try.f4) [1, 1, 1, 1, 1, 0, 1, 0, 0, 1, 0, 0, 1, 1, 1, 0, 1, 0, 1, 0, 1, 1])) (Y := (fun e w => law03_DiskPlays_s3 R N1 (e 1) (e 5) (e 7) (e 9) (e 10) (e 13) w)) (law03_DiskPlays_s3_eq R N1) (fun e w => by kernel_rfl)

def law03_DiskPlays_s5 (R : Value → World → Prop) (N1 : List Value → World → Prop) (x1 x5 x7 x9 x10 x11 x12 x65 : Value) (w : World) : Prop :=
  qG Try.prog (bq .eql 3 (.tmp 65) (.const (.int .i64 2)) x65 (.int .i64 2)) w fun t97 =>
  bV t97
  (fa 1 x10 fun t100 =>
  ld1 t100 w fun t101 =>
  callG Try.prog 17 #[x5, t101] w fun t102 w =>
  qG Try.prog (Instr.extract t102 0) w fun t103 =>
  qG Try.prog (Instr.extract t102 1) w fun t104 =>
  ldn 4 x7 w fun t106 =>
  fa 1 x10 fun t107 =>
  ld1 t107 w fun t108 =>
  callG Try.prog 21 #[t106, t108] w fun t109 w =>
  qG Try.prog (Instr.extract t109 0) w fun t110 =>
  qG Try.prog (Instr.extract t109 1) w fun t111 =>
  qG Try.prog (bq .neq 9 (.tmp 112) (.tmp 113) t103 t110) w fun t114 =>
  bV t114
  (R (.bool false) w)
  (qG Try.prog (bq .neq 24 (.tmp 116) (.tmp 117) t104 t111) w fun t118 =>
  bV t118
  (R (.bool false) w)
  (law03_DiskPlays_s2 R N1 x1 x5 x7 x9 x11 x12 w)))
  (qG Try.prog (bq .eql 3 (.tmp 65) (.const (.int .i64 3)) x65 (.int .i64 3)) w fun t121 =>
  bV t121
  (callG Try.prog 15 #[x5] w fun t123 w =>
  ldn 4 x7 w fun t125 =>
  callG Try.prog 22 #[t125] w fun t126 w =>
  qG Try.prog (Instr.extract t126 0) w fun t127 =>
  qG Try.prog (Instr.extract t126 1) w fun t128 =>
  stn 4 x7 t127 w fun w =>
  law03_DiskPlays_s2 R N1 x1 x5 x7 x9 t123 t128 w)
  (qG Try.prog (bq .eql 3 (.tmp 65) (.const (.int .i64 4)) x65 (.int .i64 4)) w fun t130 =>
  bV t130
  (fa 1 x10 fun t132 =>
  ld1 t132 w fun t133 =>
  callG Try.prog 23 #[x5, t133] w fun t134 w =>
  ldn 4 x7 w fun t135 =>
  fa 1 x10 fun t136 =>
  ld1 t136 w fun t137 =>
  callG Try.prog 24 #[t135, t137] w fun t138 w =>
  stn 4 x7 t138 w fun w =>
  law03_DiskPlays_s2 R N1 x1 x5 x7 x9 t134 x12 w)
  (fa 4 x10 fun t67 =>
  ld1 t67 w fun t68 =>
  callG Try.prog 16 #[x5, t68] w fun t69 w =>
  ldn 4 x7 w fun t70 =>
  fa 4 x10 fun t71 =>
  ld1 t71 w fun t72 =>
  callG Try.prog 25 #[t70, t72] w fun t73 w =>
  stn 4 x7 t73 w fun w =>
  law03_DiskPlays_s2 R N1 x1 x5 x7 x9 t69 x12 w)))

theorem law03_DiskPlays_s5_eq (R : Value → World → Prop) (N1 : List Value → World → Prop) : ∀ e w, lift Try.prog 166 (sub (bodyOf Try.f4) [1, 1, 1, 1, 1, 0, 1, 0, 0, 1, 0, 0, 1, 1, 1, 0, 1, 0, 1, 1]) (blockK 2 (seqK (fun e w => law03_DiskPlays_s2 R N1 (e 1) (e 5) (e 7) (e 9) (e 11) (e 12) w) (blockK 1 (seqK (fun e w => law03_DiskPlays_s1 R N1 (e 1) (e 5) (e 7) (e 9) w) (seqK (fun e w => N1 [e 1, e 5, e 7, e 9] w) (blockK 0 (seqK (fun e w => law03_DiskPlays_s0 R  w) (finK Try.prog Try.f4.results.toList R)))))))) e w = law03_DiskPlays_s5 R N1 (e 1) (e 5) (e 7) (e 9) (e 10) (e 11) (e 12) (e 65) w := fun e w => by kernel_rfl

def law03_DiskPlays_s6 (R : Value → World → Prop) (N1 : List Value → World → Prop) (x1 x5 x7 x9 x10 x11 x12 x65 x74 : Value) (w : World) : Prop :=
  bV x74 (law03_DiskPlays_s4 R N1 x1 x5 x7 x9 x10 w) (law03_DiskPlays_s5 R N1 x1 x5 x7 x9 x10 x11 x12 x65 w)

theorem law03_DiskPlays_s6_eq (R : Value → World → Prop) (N1 : List Value → World → Prop) : ∀ e w, lift Try.prog 166 (sub (bodyOf Try.f4) [1, 1, 1, 1, 1, 0, 1, 0, 0, 1, 0, 0, 1, 1, 1, 0, 1, 0, 1]) (blockK 2 (seqK (fun e w => law03_DiskPlays_s2 R N1 (e 1) (e 5) (e 7) (e 9) (e 11) (e 12) w) (blockK 1 (seqK (fun e w => law03_DiskPlays_s1 R N1 (e 1) (e 5) (e 7) (e 9) w) (seqK (fun e w => N1 [e 1, e 5, e 7, e 9] w) (blockK 0 (seqK (fun e w => law03_DiskPlays_s0 R  w) (finK Try.prog Try.f4.results.toList R)))))))) e w = law03_DiskPlays_s6 R N1 (e 1) (e 5) (e 7) (e 9) (e 10) (e 11) (e 12) (e 65) (e 74) w := fun e w => (cond_seg (law03_DiskPlays_s4_eq R N1) (law03_DiskPlays_s5_eq R N1) e w).trans (by kernel_rfl)

def law03_DiskPlays_s7 (R : Value → World → Prop) (N1 : List Value → World → Prop) (x1 x5 x7 x9 x10 x11 x12 x65 : Value) (w : World) : Prop :=
  qG Try.prog (bq .eql 3 (.tmp 65) (.const (.int .i64 1)) x65 (.int .i64 1)) w fun t75 =>
  law03_DiskPlays_s6 R N1 x1 x5 x7 x9 x10 x11 x12 x65 t75 w

theorem law03_DiskPlays_s7_eq (R : Value → World → Prop) (N1 : List Value → World → Prop) : ∀ e w, lift Try.prog 166 (sub (bodyOf Try.f4) [1, 1, 1, 1, 1, 0, 1, 0, 0, 1, 0, 0, 1, 1, 1, 0, 1, 0]) (blockK 2 (seqK (fun e w => law03_DiskPlays_s2 R N1 (e 1) (e 5) (e 7) (e 9) (e 11) (e 12) w) (blockK 1 (seqK (fun e w => law03_DiskPlays_s1 R N1 (e 1) (e 5) (e 7) (e 9) w) (seqK (fun e w => N1 [e 1, e 5, e 7, e 9] w) (blockK 0 (seqK (fun e w => law03_DiskPlays_s0 R  w) (finK Try.prog Try.f4.results.toList R)))))))) e w = law03_DiskPlays_s7 R N1 (e 1) (e 5) (e 7) (e 9) (e 10) (e 11) (e 12) (e 65) w :=
  segs_eq (l := [(sub (bodyOf Try.f4) [1, 1, 1, 1, 1, 0, 1, 0, 0, 1, 0, 0, 1, 1, 1, 0, 1, 0, 0])]) (y := (sub (bodyOf Try.f4) [1, 1, 1, 1, 1, 0, 1, 0, 0, 1, 0, 0, 1, 1, 1, 0, 1, 0, 1])) (Y := (fun e w => law03_DiskPlays_s6 R N1 (e 1) (e 5) (e 7) (e 9) (e 10) (e 11) (e 12) (e 65) (e 74) w)) (law03_DiskPlays_s6_eq R N1) (fun e w => by kernel_rfl)

def law03_DiskPlays_s8 (R : Value → World → Prop) (N1 : List Value → World → Prop) (x1 x5 x7 x9 x10 x11 x12 : Value) (w : World) : Prop :=
  fa 0 x10 fun t64 =>
  ld1 t64 w fun t65 =>
  law03_DiskPlays_s7 R N1 x1 x5 x7 x9 x10 x11 x12 t65 w

theorem law03_DiskPlays_s8_eq (R : Value → World → Prop) (N1 : List Value → World → Prop) : ∀ e w, lift Try.prog 166 (sub (bodyOf Try.f4) [1, 1, 1, 1, 1, 0, 1, 0, 0, 1, 0, 0, 1, 1, 1, 0]) (seqK (fun e w => law03_DiskPlays_s2 R N1 (e 1) (e 5) (e 7) (e 9) (e 11) (e 12) w) (blockK 1 (seqK (fun e w => law03_DiskPlays_s1 R N1 (e 1) (e 5) (e 7) (e 9) w) (seqK (fun e w => N1 [e 1, e 5, e 7, e 9] w) (blockK 0 (seqK (fun e w => law03_DiskPlays_s0 R  w) (finK Try.prog Try.f4.results.toList R))))))) e w = law03_DiskPlays_s8 R N1 (e 1) (e 5) (e 7) (e 9) (e 10) (e 11) (e 12) w :=
  segs_eq (l := [(sub (bodyOf Try.f4) [1, 1, 1, 1, 1, 0, 1, 0, 0, 1, 0, 0, 1, 1, 1, 0, 0])]) (y := (sub (bodyOf Try.f4) [1, 1, 1, 1, 1, 0, 1, 0, 0, 1, 0, 0, 1, 1, 1, 0, 1])) (Y := (fun e w => law03_DiskPlays_s7 R N1 (e 1) (e 5) (e 7) (e 9) (e 10) (e 11) (e 12) (e 65) w)) (law03_DiskPlays_s7_eq R N1) (fun e w => by kernel_rfl)

def law03_DiskPlays_s9 (R : Value → World → Prop) (N1 : List Value → World → Prop) (x1 x5 x7 x9 : Value) (w : World) : Prop :=
  ia 5 x1 x9 fun t57 =>
  ldn 5 t57 w fun t58 =>
  newG (zc Try.prog 43) 43 w fun t10 w =>
  stn 5 t10 t58 w fun w =>
  fa 3 t10 fun t59 =>
  ld1 t59 w fun t60 =>
  lenS t60 fun t61 =>
  qG Try.prog (bq .gtr 3 (.tmp 61) (.const (.int .i64 100)) t61 (.int .i64 100)) w fun t62 =>
  bV t62
  (callG Try.prog 18 #[] w fun t63 w =>
  R t63 w)
  (law03_DiskPlays_s8 R N1 x1 x5 x7 x9 t10 (.int .i64 0) (.int .i64 0) w)

theorem law03_DiskPlays_s9_eq (R : Value → World → Prop) (N1 : List Value → World → Prop) : ∀ e w, lift Try.prog 166 (sub (bodyOf Try.f4) [1, 1, 1, 1, 1, 0, 1, 0, 0, 1, 0, 0]) (blockK 1 (seqK (fun e w => law03_DiskPlays_s1 R N1 (e 1) (e 5) (e 7) (e 9) w) (seqK (fun e w => N1 [e 1, e 5, e 7, e 9] w) (blockK 0 (seqK (fun e w => law03_DiskPlays_s0 R  w) (finK Try.prog Try.f4.results.toList R)))))) e w = law03_DiskPlays_s9 R N1 (e 1) (e 5) (e 7) (e 9) w :=
  segs_eq (l := [(sub (bodyOf Try.f4) [1, 1, 1, 1, 1, 0, 1, 0, 0, 1, 0, 0, 0]), (sub (bodyOf Try.f4) [1, 1, 1, 1, 1, 0, 1, 0, 0, 1, 0, 0, 1, 0]), (sub (bodyOf Try.f4) [1, 1, 1, 1, 1, 0, 1, 0, 0, 1, 0, 0, 1, 1, 0])]) (y := (sub (bodyOf Try.f4) [1, 1, 1, 1, 1, 0, 1, 0, 0, 1, 0, 0, 1, 1, 1])) (Y := (fun e w => law03_DiskPlays_s8 R N1 (e 1) (e 5) (e 7) (e 9) (e 10) (e 11) (e 12) w)) (seq_seg (x := (sub (bodyOf Try.f4) [1, 1, 1, 1, 1, 0, 1, 0, 0, 1, 0, 0, 1, 1, 1, 0])) (y := (sub (bodyOf Try.f4) [1, 1, 1, 1, 1, 0, 1, 0, 0, 1, 0, 0, 1, 1, 1, 1])) (law03_DiskPlays_s2_eq R N1) (law03_DiskPlays_s8_eq R N1)) (fun e w => by kernel_rfl)

def law03_DiskPlays_s10 (R : Value → World → Prop) (N1 : List Value → World → Prop) (x1 x5 x7 x9 : Value) (w : World) : Prop :=
  lenL x1 fun t47 =>
  qG Try.prog (bq .lss 3 (.tmp 45) (.tmp 47) x9 t47) w fun t48 =>
  bV t48
  (qG Try.prog (bq .lss 3 (.tmp 50) (.const (.int .i64 80)) x9 (.int .i64 80)) w fun t51 =>
  bV t51
  (law03_DiskPlays_s9 R N1 x1 x5 x7 x9 w)
  (law03_DiskPlays_s0 R  w))
  (law03_DiskPlays_s0 R  w)

theorem law03_DiskPlays_s10_eq (R : Value → World → Prop) (N1 : List Value → World → Prop) : ∀ e w, lift Try.prog 166 (sub (bodyOf Try.f4) [1, 1, 1, 1, 1, 0, 1, 0, 0]) (seqK (fun e w => N1 [e 1, e 5, e 7, e 9] w) (blockK 0 (seqK (fun e w => law03_DiskPlays_s0 R  w) (finK Try.prog Try.f4.results.toList R)))) e w = law03_DiskPlays_s10 R N1 (e 1) (e 5) (e 7) (e 9) w :=
  segs_eq (l := [(sub (bodyOf Try.f4) [1, 1, 1, 1, 1, 0, 1, 0, 0, 0])]) (y := (sub (bodyOf Try.f4) [1, 1, 1, 1, 1, 0, 1, 0, 0, 1])) (Y := (fun e w => law03_DiskPlays_s9 R N1 (e 1) (e 5) (e 7) (e 9) w)) (seq_seg (x := (sub (bodyOf Try.f4) [1, 1, 1, 1, 1, 0, 1, 0, 0, 1, 0])) (y := (sub (bodyOf Try.f4) [1, 1, 1, 1, 1, 0, 1, 0, 0, 1, 1])) (law03_DiskPlays_s1_eq R N1) (law03_DiskPlays_s9_eq R N1)) (fun e w => by kernel_rfl)

def law03_DiskPlays_L11F (R : Value → World → Prop) (N1 : List Value → World → Prop) (xs : List Value) (w : World) : Prop :=
  match xs with
  | [x1, x5, x7, x9] => law03_DiskPlays_s10 R N1 x1 x5 x7 x9 w
  | _ => False

def law03_DiskPlays_L11 (R : Value → World → Prop) (x1 x5 x7 x9 : Value) (w : World) : Prop :=
  ∃ m, loopV (law03_DiskPlays_L11F R) m [x1, x5, x7, x9] w

theorem law03_DiskPlays_L11_eq (R : Value → World → Prop) : ∀ e w, lift Try.prog 166 (sub (bodyOf Try.f4) [1, 1, 1, 1, 1, 0, 1, 0]) (blockK 0 (seqK (fun e w => law03_DiskPlays_s0 R  w) (finK Try.prog Try.f4.results.toList R))) e w = law03_DiskPlays_L11 R (e 1) (e 5) (e 7) (e 9) w := loop_seg (F := law03_DiskPlays_L11F R) (sel := fun e => [e 1, e 5, e 7, e 9]) fun N1 => (law03_DiskPlays_s10_eq R N1)

def law03_DiskPlays_s12 (R : Value → World → Prop) (x1 x5 x7 : Value) (w : World) : Prop :=
  law03_DiskPlays_L11 R x1 x5 x7 (.int .i64 0) w

theorem law03_DiskPlays_s12_eq (R : Value → World → Prop) : ∀ e w, lift Try.prog 166 (sub (bodyOf Try.f4) [1, 1, 1, 1, 1, 0]) (seqK (fun e w => law03_DiskPlays_s0 R  w) (finK Try.prog Try.f4.results.toList R)) e w = law03_DiskPlays_s12 R (e 1) (e 5) (e 7) w :=
  segs_eq (l := [(sub (bodyOf Try.f4) [1, 1, 1, 1, 1, 0, 0])]) (y := (sub (bodyOf Try.f4) [1, 1, 1, 1, 1, 0, 1])) (Y := (fun e w => law03_DiskPlays_L11 R (e 1) (e 5) (e 7) (e 9) w)) (law03_DiskPlays_L11_eq R) (fun e w => by kernel_rfl)

def law03_DiskPlays_s13 (R : Value → World → Prop) (x0 x1 x5 x7 : Value) (w : World) : Prop :=
  qG Try.prog (bq .eql 23 (.tmp 38) (.const (.pointer none)) x5 (.pointer none)) w fun t39 =>
  bV t39
  (callG Try.prog 18 #[] w fun t44 w =>
  R t44 w)
  (qG Try.prog (bq .gtr 3 (.tmp 41) (.const (.int .i64 64)) x0 (.int .i64 64)) w fun t42 =>
  bV t42
  (callG Try.prog 18 #[] w fun t44_1 w =>
  R t44_1 w)
  (law03_DiskPlays_s12 R x1 x5 x7 w))

theorem law03_DiskPlays_s13_eq (R : Value → World → Prop) : ∀ e w, lift Try.prog 166 (sub (bodyOf Try.f4) [1, 1, 1, 1]) (finK Try.prog Try.f4.results.toList R) e w = law03_DiskPlays_s13 R (e 0) (e 1) (e 5) (e 7) w :=
  segs_eq (l := [(sub (bodyOf Try.f4) [1, 1, 1, 1, 0])]) (y := (sub (bodyOf Try.f4) [1, 1, 1, 1, 1])) (Y := (fun e w => law03_DiskPlays_s12 R (e 1) (e 5) (e 7) w)) (seq_seg (x := (sub (bodyOf Try.f4) [1, 1, 1, 1, 1, 0])) (y := (sub (bodyOf Try.f4) [1, 1, 1, 1, 1, 1])) (law03_DiskPlays_s0_eq R) (law03_DiskPlays_s12_eq R)) (fun e w => by kernel_rfl)

def law03_DiskPlays_s14 (R : Value → World → Prop) (x0 x1 : Value) (w : World) : Prop :=
  callG Try.prog 12 #[x0] w fun t20 w =>
  qG Try.prog (Instr.extract t20 0) w fun t21 =>
  qG Try.prog (Instr.extract t20 1) w fun t22 =>
  callG Try.prog 19 #[x0] w fun t25 w =>
  qG Try.prog (Instr.extract t25 0) w fun t26 =>
  qG Try.prog (Instr.extract t25 1) w fun t27 =>
  newG (zc Try.prog 39) 39 w fun t7 w =>
  stn 4 t7 t26 w fun w =>
  qG Try.prog (bq .neq 24 (.tmp 28) (.tmp 29) t22 t27) w fun t30 =>
  bV t30
  (R (.bool false) w)
  (qG Try.prog (bq .neq 23 (.tmp 32) (.const (.pointer none)) t21 (.pointer none)) w fun t33 =>
  qG Try.prog (bq .eql 24 (.tmp 34) (.const (.int .i64 0)) t27 (.int .i64 0)) w fun t35 =>
  qG Try.prog (bq .neq 4 (.tmp 33) (.tmp 35) t33 t35) w fun t36 =>
  bV t36
  (R (.bool false) w)
  (law03_DiskPlays_s13 R x0 x1 t21 t7 w))

theorem law03_DiskPlays_s14_eq (R : Value → World → Prop) : ∀ e w, lift Try.prog 166 (bodyOf Try.f4) (finK Try.prog Try.f4.results.toList R) e w = law03_DiskPlays_s14 R (e 0) (e 1) w :=
  segs_eq (l := [(sub (bodyOf Try.f4) [0]), (sub (bodyOf Try.f4) [1, 0]), (sub (bodyOf Try.f4) [1, 1, 0]), (sub (bodyOf Try.f4) [1, 1, 1, 0])]) (y := (sub (bodyOf Try.f4) [1, 1, 1, 1])) (Y := (fun e w => law03_DiskPlays_s13 R (e 0) (e 1) (e 5) (e 7) w)) (law03_DiskPlays_s13_eq R) (fun e w => by kernel_rfl)

def law03_DiskPlays (R : Value → World → Prop) (x0 x1 : Value) (w : World) : Prop := law03_DiskPlays_s14 R x0 x1 w
theorem law03_DiskPlays_call {R : Value → World → Prop} {x0 x1 : Value} {w : World} (h : law03_DiskPlays R x0 x1 w) : callG Try.prog 4 #[x0, x1] w R :=
  calls_lift_eq Try.mixed Try.func4 (args := [x0, x1]) rfl rfl rfl rfl ((law03_DiskPlays_s14_eq R) (envOf [x0, x1]) w) (by kernel_rfl) h
end Go.Proofs

set_option linter.unusedVariables false
set_option linter.unusedSimpArgs false
namespace Go.Proofs
open Go Go.Q
set_option maxRecDepth 100000
/-! quayside/crc.More -/
def crc_More_s0 (R : Value → World → Prop) (x5 : Value) (w : World) : Prop :=
  qG Try.prog (Op.unary .xor x5) w fun t33 =>
  cvI .i64 t33 fun t34 =>
  R t34 w

theorem crc_More_s0_eq (R : Value → World → Prop) : ∀ e w, lift Try.prog 35 (sub (bodyOf Try.f51) [1, 1, 1]) (finK Try.prog Try.f51.results.toList R) e w = crc_More_s0 R (e 5) w := fun e w => by kernel_rfl

def crc_More_s1 (R : Value → World → Prop) (N1 : List Value → World → Prop) (x1 x5 x11 x12 : Value) (w : World) : Prop :=
  qG Try.prog (bq .add 3 (.tmp 12) (.const (.int .i64 1)) x12 (.int .i64 1)) w fun t31 =>
  N1 [x1, x5, x11, t31] w

theorem crc_More_s1_eq (R : Value → World → Prop) (N1 : List Value → World → Prop) : ∀ e w, lift Try.prog 35 (sub (bodyOf Try.f51) [1, 1, 0, 1, 0, 0, 1, 1, 1]) (seqK (fun e w => N1 [e 1, e 5, e 11, e 12] w) (blockK 0 (seqK (fun e w => crc_More_s0 R (e 5) w) (finK Try.prog Try.f51.results.toList R)))) e w = crc_More_s1 R N1 (e 1) (e 5) (e 11) (e 12) w := fun e w => by kernel_rfl

def crc_More_b2 (R : Value → World → Prop) (N1 : List Value → World → Prop) (N2 : List Value → World → Prop) (x1 x5 x11 x12 x21 : Value) (w : World) : Prop :=
  qG Try.prog (bq .lss 3 (.tmp 21) (.const (.int .i64 8)) x21 (.int .i64 8)) w fun t22 =>
  bV t22
  (qG Try.prog (bq .shr 120 (.tmp 23) (.const (.int .u64 1)) x5 (.int .u64 1)) w fun t24 =>
  qG Try.prog (bq .and 120 (.tmp 25) (.const (.int .u32 1)) x5 (.int .u32 1)) w fun t26 =>
  qG Try.prog (Op.unary .neg t26) w fun t27 =>
  qG Try.prog (bq .and 120 (.const (.int .u32 3988292384)) (.tmp 27) (.int .u32 3988292384) t27) w fun t28 =>
  qG Try.prog (bq .xor 120 (.tmp 24) (.tmp 28) t24 t28) w fun t29 =>
  qG Try.prog (bq .add 3 (.tmp 21) (.const (.int .i64 1)) x21 (.int .i64 1)) w fun t30 =>
  N2 [x1, t29, x11, x12, t30] w)
  (crc_More_s1 R N1 x1 x5 x11 x12 w)

theorem crc_More_b2_eq (R : Value → World → Prop) (N1 : List Value → World → Prop) (N2 : List Value → World → Prop) : ∀ e w, lift Try.prog 35 (sub (bodyOf Try.f51) [1, 1, 0, 1, 0, 0, 1, 1, 0, 0, 1, 1, 1, 0, 0]) (seqK (fun e w => N2 [e 1, e 5, e 11, e 12, e 21] w) (blockK 2 (blockK 1 (seqK (fun e w => crc_More_s1 R N1 (e 1) (e 5) (e 11) (e 12) w) (seqK (fun e w => N1 [e 1, e 5, e 11, e 12] w) (blockK 0 (seqK (fun e w => crc_More_s0 R (e 5) w) (finK Try.prog Try.f51.results.toList R)))))))) e w = crc_More_b2 R N1 N2 (e 1) (e 5) (e 11) (e 12) (e 21) w := fun e w => by kernel_rfl

def crc_More_L3F (R : Value → World → Prop) (N1 : List Value → World → Prop) (N2 : List Value → World → Prop) (xs : List Value) (w : World) : Prop :=
  match xs with
  | [x1, x5, x11, x12, x21] => crc_More_b2 R N1 N2 x1 x5 x11 x12 x21 w
  | _ => False

def crc_More_L3 (R : Value → World → Prop) (N1 : List Value → World → Prop) (x1 x5 x11 x12 x21 : Value) (w : World) : Prop :=
  ∃ m, loopV (crc_More_L3F R N1) m [x1, x5, x11, x12, x21] w

theorem crc_More_L3_eq (R : Value → World → Prop) (N1 : List Value → World → Prop) : ∀ e w, lift Try.prog 35 (sub (bodyOf Try.f51) [1, 1, 0, 1, 0, 0, 1, 1, 0, 0, 1, 1, 1, 0]) (blockK 2 (blockK 1 (seqK (fun e w => crc_More_s1 R N1 (e 1) (e 5) (e 11) (e 12) w) (seqK (fun e w => N1 [e 1, e 5, e 11, e 12] w) (blockK 0 (seqK (fun e w => crc_More_s0 R (e 5) w) (finK Try.prog Try.f51.results.toList R))))))) e w = crc_More_L3 R N1 (e 1) (e 5) (e 11) (e 12) (e 21) w := loop_seg (F := crc_More_L3F R N1) (sel := fun e => [e 1, e 5, e 11, e 12, e 21]) fun N2 => (crc_More_b2_eq R N1 N2)

def crc_More_s4 (R : Value → World → Prop) (N1 : List Value → World → Prop) (x1 x5 x11 x12 : Value) (w : World) : Prop :=
  ixS x1 x12 fun t18 =>
  cvI .u32 t18 fun t19 =>
  qG Try.prog (bq .xor 120 (.tmp 15) (.tmp 19) x5 t19) w fun t20 =>
  crc_More_L3 R N1 x1 t20 x11 x12 (.int .i64 0) w

theorem crc_More_s4_eq (R : Value → World → Prop) (N1 : List Value → World → Prop) : ∀ e w, lift Try.prog 35 (sub (bodyOf Try.f51) [1, 1, 0, 1, 0, 0, 1, 1, 0, 0]) (blockK 1 (seqK (fun e w => crc_More_s1 R N1 (e 1) (e 5) (e 11) (e 12) w) (seqK (fun e w => N1 [e 1, e 5, e 11, e 12] w) (blockK 0 (seqK (fun e w => crc_More_s0 R (e 5) w) (finK Try.prog Try.f51.results.toList R)))))) e w = crc_More_s4 R N1 (e 1) (e 5) (e 11) (e 12) w :=
  segs_eq (l := [(sub (bodyOf Try.f51) [1, 1, 0, 1, 0, 0, 1, 1, 0, 0, 0]), (sub (bodyOf Try.f51) [1, 1, 0, 1, 0, 0, 1, 1, 0, 0, 1, 0]), (sub (bodyOf Try.f51) [1, 1, 0, 1, 0, 0, 1, 1, 0, 0, 1, 1, 0])]) (y := (sub (bodyOf Try.f51) [1, 1, 0, 1, 0, 0, 1, 1, 0, 0, 1, 1, 1])) (Y := (fun e w => crc_More_L3 R N1 (e 1) (e 5) (e 11) (e 12) (e 21) w)) (crc_More_L3_eq R N1) (fun e w => by kernel_rfl)

def crc_More_s5 (R : Value → World → Prop) (N1 : List Value → World → Prop) (x1 x5 x11 x12 : Value) (w : World) : Prop :=
  qG Try.prog (bq .lss 3 (.tmp 12) (.tmp 11) x12 x11) w fun t13 =>
  bV t13
  (crc_More_s4 R N1 x1 x5 x11 x12 w)
  (crc_More_s0 R x5 w)

theorem crc_More_s5_eq (R : Value → World → Prop) (N1 : List Value → World → Prop) : ∀ e w, lift Try.prog 35 (sub (bodyOf Try.f51) [1, 1, 0, 1, 0, 0]) (seqK (fun e w => N1 [e 1, e 5, e 11, e 12] w) (blockK 0 (seqK (fun e w => crc_More_s0 R (e 5) w) (finK Try.prog Try.f51.results.toList R)))) e w = crc_More_s5 R N1 (e 1) (e 5) (e 11) (e 12) w :=
  segs_eq (l := [(sub (bodyOf Try.f51) [1, 1, 0, 1, 0, 0, 0]), (sub (bodyOf Try.f51) [1, 1, 0, 1, 0, 0, 1, 0])]) (y := (sub (bodyOf Try.f51) [1, 1, 0, 1, 0, 0, 1, 1])) (Y := (fun e w => crc_More_s4 R N1 (e 1) (e 5) (e 11) (e 12) w)) (seq_seg (x := (sub (bodyOf Try.f51) [1, 1, 0, 1, 0, 0, 1, 1, 0])) (y := (sub (bodyOf Try.f51) [1, 1, 0, 1, 0, 0, 1, 1, 1])) (crc_More_s1_eq R N1) (crc_More_s4_eq R N1)) (fun e w => by kernel_rfl)

def crc_More_L6F (R : Value → World → Prop) (N1 : List Value → World → Prop) (xs : List Value) (w : World) : Prop :=
  match xs with
  | [x1, x5, x11, x12] => crc_More_s5 R N1 x1 x5 x11 x12 w
  | _ => False

def crc_More_L6 (R : Value → World → Prop) (x1 x5 x11 x12 : Value) (w : World) : Prop :=
  ∃ m, loopV (crc_More_L6F R) m [x1, x5, x11, x12] w

theorem crc_More_L6_eq (R : Value → World → Prop) : ∀ e w, lift Try.prog 35 (sub (bodyOf Try.f51) [1, 1, 0, 1, 0]) (blockK 0 (seqK (fun e w => crc_More_s0 R (e 5) w) (finK Try.prog Try.f51.results.toList R))) e w = crc_More_L6 R (e 1) (e 5) (e 11) (e 12) w := loop_seg (F := crc_More_L6F R) (sel := fun e => [e 1, e 5, e 11, e 12]) fun N1 => (crc_More_s5_eq R N1)

def crc_More_s7 (R : Value → World → Prop) (x1 x5 : Value) (w : World) : Prop :=
  lenS x1 fun t11 =>
  crc_More_L6 R x1 x5 t11 (.int .i64 0) w

theorem crc_More_s7_eq (R : Value → World → Prop) : ∀ e w, lift Try.prog 35 (sub (bodyOf Try.f51) [1, 1, 0]) (seqK (fun e w => crc_More_s0 R (e 5) w) (finK Try.prog Try.f51.results.toList R)) e w = crc_More_s7 R (e 1) (e 5) w :=
  segs_eq (l := [(sub (bodyOf Try.f51) [1, 1, 0, 0])]) (y := (sub (bodyOf Try.f51) [1, 1, 0, 1])) (Y := (fun e w => crc_More_L6 R (e 1) (e 5) (e 11) (e 12) w)) (crc_More_L6_eq R) (fun e w => by kernel_rfl)

def crc_More_s8 (R : Value → World → Prop) (x0 x1 : Value) (w : World) : Prop :=
  cvI .u32 x0 fun t8 =>
  qG Try.prog (Op.unary .xor t8) w fun t9 =>
  crc_More_s7 R x1 t9 w

theorem crc_More_s8_eq (R : Value → World → Prop) : ∀ e w, lift Try.prog 35 (bodyOf Try.f51) (finK Try.prog Try.f51.results.toList R) e w = crc_More_s8 R (e 0) (e 1) w :=
  segs_eq (l := [(sub (bodyOf Try.f51) [0]), (sub (bodyOf Try.f51) [1, 0])]) (y := (sub (bodyOf Try.f51) [1, 1])) (Y := (fun e w => crc_More_s7 R (e 1) (e 5) w)) (seq_seg (x := (sub (bodyOf Try.f51) [1, 1, 0])) (y := (sub (bodyOf Try.f51) [1, 1, 1])) (crc_More_s0_eq R) (crc_More_s7_eq R)) (fun e w => by kernel_rfl)

def crc_More (R : Value → World → Prop) (x0 x1 : Value) (w : World) : Prop := crc_More_s8 R x0 x1 w
theorem crc_More_call {R : Value → World → Prop} {x0 x1 : Value} {w : World} (h : crc_More R x0 x1 w) : callG Try.prog 51 #[x0, x1] w R :=
  calls_lift_eq Try.mixed Try.func51 (args := [x0, x1]) rfl rfl rfl rfl ((crc_More_s8_eq R) (envOf [x0, x1]) w) (by kernel_rfl) h
/-! quayside/crc.Sum -/
def crc_Sum_s0 (R : Value → World → Prop) (x0 : Value) (w : World) : Prop :=
  callG Try.prog 51 #[(.int .i64 0), x0] w fun t4 w =>
  R t4 w

theorem crc_Sum_s0_eq (R : Value → World → Prop) : ∀ e w, lift Try.prog 5 (bodyOf Try.f52) (finK Try.prog Try.f52.results.toList R) e w = crc_Sum_s0 R (e 0) w := fun e w => by kernel_rfl

def crc_Sum (R : Value → World → Prop) (x0 : Value) (w : World) : Prop := crc_Sum_s0 R x0 w
theorem crc_Sum_call {R : Value → World → Prop} {x0 : Value} {w : World} (h : crc_Sum R x0 w) : callG Try.prog 52 #[x0] w R :=
  calls_lift_eq Try.mixed Try.func52 (args := [x0]) rfl rfl rfl rfl ((crc_Sum_s0_eq R) (envOf [x0]) w) (by kernel_rfl) h
/-! quayside/crc.Put -/
def crc_Put_s0 (R : Value → World → Prop) (x3 : Value) (w : World) : Prop :=
  slA 4 1 x3 none none fun t16 =>
  cvBS t16 w fun t17 =>
  R t17 w

theorem crc_Put_s0_eq (R : Value → World → Prop) : ∀ e w, lift Try.prog 18 (sub (bodyOf Try.f50) [1, 1, 1]) (finK Try.prog Try.f50.results.toList R) e w = crc_Put_s0 R (e 3) w := fun e w => by kernel_rfl

def crc_Put_b1 (R : Value → World → Prop) (N1 : List Value → World → Prop) (x0 x3 x5 : Value) (w : World) : Prop :=
  qG Try.prog (bq .lss 3 (.tmp 5) (.const (.int .i64 4)) x5 (.int .i64 4)) w fun t6 =>
  bV t6
  (qG Try.prog (bq .mul 3 (.const (.int .i64 8)) (.tmp 10) (.int .i64 8) x5) w fun t11 =>
  qG Try.prog (bq .shr 3 (.tmp 9) (.tmp 11) x0 t11) w fun t12 =>
  cvI .u8 t12 fun t13 =>
  iaA 4 1 x3 x5 fun t14 =>
  st1 t14 t13 w fun w =>
  qG Try.prog (bq .add 3 (.tmp 5) (.const (.int .i64 1)) x5 (.int .i64 1)) w fun t15 =>
  N1 [x0, x3, t15] w)
  (crc_Put_s0 R x3 w)

theorem crc_Put_b1_eq (R : Value → World → Prop) (N1 : List Value → World → Prop) : ∀ e w, lift Try.prog 18 (sub (bodyOf Try.f50) [1, 1, 0, 1, 0, 0]) (seqK (fun e w => N1 [e 0, e 3, e 5] w) (blockK 0 (seqK (fun e w => crc_Put_s0 R (e 3) w) (finK Try.prog Try.f50.results.toList R)))) e w = crc_Put_b1 R N1 (e 0) (e 3) (e 5) w := fun e w => by kernel_rfl

def crc_Put_L2F (R : Value → World → Prop) (N1 : List Value → World → Prop) (xs : List Value) (w : World) : Prop :=
  match xs with
  | [x0, x3, x5] => crc_Put_b1 R N1 x0 x3 x5 w
  | _ => False

def crc_Put_L2 (R : Value → World → Prop) (x0 x3 x5 : Value) (w : World) : Prop :=
  ∃ m, loopV (crc_Put_L2F R) m [x0, x3, x5] w

theorem crc_Put_L2_eq (R : Value → World → Prop) : ∀ e w, lift Try.prog 18 (sub (bodyOf Try.f50) [1, 1, 0, 1, 0]) (blockK 0 (seqK (fun e w => crc_Put_s0 R (e 3) w) (finK Try.prog Try.f50.results.toList R))) e w = crc_Put_L2 R (e 0) (e 3) (e 5) w := loop_seg (F := crc_Put_L2F R) (sel := fun e => [e 0, e 3, e 5]) fun N1 => (crc_Put_b1_eq R N1)

def crc_Put_s3 (R : Value → World → Prop) (x0 x3 : Value) (w : World) : Prop :=
  crc_Put_L2 R x0 x3 (.int .i64 0) w

theorem crc_Put_s3_eq (R : Value → World → Prop) : ∀ e w, lift Try.prog 18 (sub (bodyOf Try.f50) [1, 1, 0]) (seqK (fun e w => crc_Put_s0 R (e 3) w) (finK Try.prog Try.f50.results.toList R)) e w = crc_Put_s3 R (e 0) (e 3) w :=
  segs_eq (l := [(sub (bodyOf Try.f50) [1, 1, 0, 0])]) (y := (sub (bodyOf Try.f50) [1, 1, 0, 1])) (Y := (fun e w => crc_Put_L2 R (e 0) (e 3) (e 5) w)) (crc_Put_L2_eq R) (fun e w => by kernel_rfl)

def crc_Put_s4 (R : Value → World → Prop) (x0 : Value) (w : World) : Prop :=
  newG (zc Try.prog 119) 119 w fun t3 w =>
  crc_Put_s3 R x0 t3 w

theorem crc_Put_s4_eq (R : Value → World → Prop) : ∀ e w, lift Try.prog 18 (bodyOf Try.f50) (finK Try.prog Try.f50.results.toList R) e w = crc_Put_s4 R (e 0) w :=
  segs_eq (l := [(sub (bodyOf Try.f50) [0]), (sub (bodyOf Try.f50) [1, 0])]) (y := (sub (bodyOf Try.f50) [1, 1])) (Y := (fun e w => crc_Put_s3 R (e 0) (e 3) w)) (seq_seg (x := (sub (bodyOf Try.f50) [1, 1, 0])) (y := (sub (bodyOf Try.f50) [1, 1, 1])) (crc_Put_s0_eq R) (crc_Put_s3_eq R)) (fun e w => by kernel_rfl)

def crc_Put (R : Value → World → Prop) (x0 : Value) (w : World) : Prop := crc_Put_s4 R x0 w
theorem crc_Put_call {R : Value → World → Prop} {x0 : Value} {w : World} (h : crc_Put R x0 w) : callG Try.prog 50 #[x0] w R :=
  calls_lift_eq Try.mixed Try.func50 (args := [x0]) rfl rfl rfl rfl ((crc_Put_s4_eq R) (envOf [x0]) w) (by kernel_rfl) h
/-! quayside/crc.Take -/
def crc_Take_s0 (R : Value → World → Prop) (x3 : Value) (w : World) : Prop :=
  R x3 w

theorem crc_Take_s0_eq (R : Value → World → Prop) : ∀ e w, lift Try.prog 22 (sub (bodyOf Try.f69) [1, 1, 1, 1]) (finK Try.prog Try.f69.results.toList R) e w = crc_Take_s0 R (e 3) w := fun e w => by kernel_rfl

def crc_Take_b1 (R : Value → World → Prop) (N1 : List Value → World → Prop) (x0 x3 x8 : Value) (w : World) : Prop :=
  qG Try.prog (bq .lss 3 (.tmp 8) (.const (.int .i64 4)) x8 (.int .i64 4)) w fun t9 =>
  bV t9
  (ixS x0 x8 fun t14 =>
  cvI .i64 t14 fun t15 =>
  qG Try.prog (bq .mul 3 (.const (.int .i64 8)) (.tmp 16) (.int .i64 8) x8) w fun t17 =>
  qG Try.prog (bq .shl 3 (.tmp 15) (.tmp 17) t15 t17) w fun t18 =>
  qG Try.prog (bq .or 3 (.tmp 11) (.tmp 18) x3 t18) w fun t19 =>
  qG Try.prog (bq .add 3 (.tmp 8) (.const (.int .i64 1)) x8 (.int .i64 1)) w fun t20 =>
  N1 [x0, t19, t20] w)
  (crc_Take_s0 R x3 w)

theorem crc_Take_b1_eq (R : Value → World → Prop) (N1 : List Value → World → Prop) : ∀ e w, lift Try.prog 22 (sub (bodyOf Try.f69) [1, 1, 1, 0, 1, 0, 0]) (seqK (fun e w => N1 [e 0, e 3, e 8] w) (blockK 0 (seqK (fun e w => crc_Take_s0 R (e 3) w) (finK Try.prog Try.f69.results.toList R)))) e w = crc_Take_b1 R N1 (e 0) (e 3) (e 8) w := fun e w => by kernel_rfl

def crc_Take_L2F (R : Value → World → Prop) (N1 : List Value → World → Prop) (xs : List Value) (w : World) : Prop :=
  match xs with
  | [x0, x3, x8] => crc_Take_b1 R N1 x0 x3 x8 w
  | _ => False

def crc_Take_L2 (R : Value → World → Prop) (x0 x3 x8 : Value) (w : World) : Prop :=
  ∃ m, loopV (crc_Take_L2F R) m [x0, x3, x8] w

theorem crc_Take_L2_eq (R : Value → World → Prop) : ∀ e w, lift Try.prog 22 (sub (bodyOf Try.f69) [1, 1, 1, 0, 1, 0]) (blockK 0 (seqK (fun e w => crc_Take_s0 R (e 3) w) (finK Try.prog Try.f69.results.toList R))) e w = crc_Take_L2 R (e 0) (e 3) (e 8) w := loop_seg (F := crc_Take_L2F R) (sel := fun e => [e 0, e 3, e 8]) fun N1 => (crc_Take_b1_eq R N1)

def crc_Take_s3 (R : Value → World → Prop) (x0 x3 : Value) (w : World) : Prop :=
  crc_Take_L2 R x0 x3 (.int .i64 0) w

theorem crc_Take_s3_eq (R : Value → World → Prop) : ∀ e w, lift Try.prog 22 (sub (bodyOf Try.f69) [1, 1, 1, 0]) (seqK (fun e w => crc_Take_s0 R (e 3) w) (finK Try.prog Try.f69.results.toList R)) e w = crc_Take_s3 R (e 0) (e 3) w :=
  segs_eq (l := [(sub (bodyOf Try.f69) [1, 1, 1, 0, 0])]) (y := (sub (bodyOf Try.f69) [1, 1, 1, 0, 1])) (Y := (fun e w => crc_Take_L2 R (e 0) (e 3) (e 8) w)) (crc_Take_L2_eq R) (fun e w => by kernel_rfl)

def crc_Take_s4 (R : Value → World → Prop) (x0 : Value) (w : World) : Prop :=
  lenS x0 fun t6 =>
  qG Try.prog (bq .lss 3 (.tmp 6) (.const (.int .i64 4)) t6 (.int .i64 4)) w fun t7 =>
  bV t7
  (R (.int .i64 (-1)) w)
  (crc_Take_s3 R x0 (.int .i64 0) w)

theorem crc_Take_s4_eq (R : Value → World → Prop) : ∀ e w, lift Try.prog 22 (bodyOf Try.f69) (finK Try.prog Try.f69.results.toList R) e w = crc_Take_s4 R (e 0) w :=
  segs_eq (l := [(sub (bodyOf Try.f69) [0]), (sub (bodyOf Try.f69) [1, 0]), (sub (bodyOf Try.f69) [1, 1, 0])]) (y := (sub (bodyOf Try.f69) [1, 1, 1])) (Y := (fun e w => crc_Take_s3 R (e 0) (e 3) w)) (seq_seg (x := (sub (bodyOf Try.f69) [1, 1, 1, 0])) (y := (sub (bodyOf Try.f69) [1, 1, 1, 1])) (crc_Take_s0_eq R) (crc_Take_s3_eq R)) (fun e w => by kernel_rfl)

def crc_Take (R : Value → World → Prop) (x0 : Value) (w : World) : Prop := crc_Take_s4 R x0 w
theorem crc_Take_call {R : Value → World → Prop} {x0 : Value} {w : World} (h : crc_Take R x0 w) : callG Try.prog 69 #[x0] w R :=
  calls_lift_eq Try.mixed Try.func69 (args := [x0]) rfl rfl rfl rfl ((crc_Take_s4_eq R) (envOf [x0]) w) (by kernel_rfl) h
/-! quayside/quaysideref02.Put -/
def ref02_Put_s0 (R : Value → World → Prop) (x0 : Value) (w : World) : Prop :=
  qG Try.prog (bq .and 3 (.tmp 3) (.const (.int .i64 255)) x0 (.int .i64 255)) w fun t4 =>
  cvI .u8 t4 fun t5 =>
  qG Try.prog (bq .shr 3 (.tmp 6) (.const (.int .u64 8)) x0 (.int .u64 8)) w fun t7 =>
  qG Try.prog (bq .and 3 (.tmp 7) (.const (.int .i64 255)) t7 (.int .i64 255)) w fun t8 =>
  cvI .u8 t8 fun t9 =>
  qG Try.prog (bq .shr 3 (.tmp 10) (.const (.int .u64 16)) x0 (.int .u64 16)) w fun t11 =>
  qG Try.prog (bq .and 3 (.tmp 11) (.const (.int .i64 255)) t11 (.int .i64 255)) w fun t12 =>
  cvI .u8 t12 fun t13 =>
  qG Try.prog (bq .shr 3 (.tmp 14) (.const (.int .u64 24)) x0 (.int .u64 24)) w fun t15 =>
  qG Try.prog (bq .and 3 (.tmp 15) (.const (.int .i64 255)) t15 (.int .i64 255)) w fun t16 =>
  cvI .u8 t16 fun t17 =>
  bsl 5 1 4 (zc Try.prog 5) #[(0, t5), (1, t9), (2, t13), (3, t17)] w fun t18 w =>
  cvBS t18 w fun t19 =>
  R t19 w

theorem ref02_Put_s0_eq (R : Value → World → Prop) : ∀ e w, lift Try.prog 20 (bodyOf Try.f53) (finK Try.prog Try.f53.results.toList R) e w = ref02_Put_s0 R (e 0) w := fun e w => by kernel_rfl

def ref02_Put (R : Value → World → Prop) (x0 : Value) (w : World) : Prop := ref02_Put_s0 R x0 w
theorem ref02_Put_call {R : Value → World → Prop} {x0 : Value} {w : World} (h : ref02_Put R x0 w) : callG Try.prog 53 #[x0] w R :=
  calls_lift_eq Try.mixed Try.func53 (args := [x0]) rfl rfl rfl rfl ((ref02_Put_s0_eq R) (envOf [x0]) w) (by kernel_rfl) h
/-! quayside/quaysideref02.More -/
def ref02_More_s0 (R : Value → World → Prop) (x5 : Value) (w : World) : Prop :=
  qG Try.prog (bq .xor 3 (.tmp 35) (.const (.int .i64 4294967295)) x5 (.int .i64 4294967295)) w fun t36 =>
  R t36 w

theorem ref02_More_s0_eq (R : Value → World → Prop) : ∀ e w, lift Try.prog 37 (sub (bodyOf Try.f68) [1, 1, 1]) (finK Try.prog Try.f68.results.toList R) e w = ref02_More_s0 R (e 5) w := fun e w => by kernel_rfl

def ref02_More_s1 (R : Value → World → Prop) (N1 : List Value → World → Prop) (x1 x5 x6 : Value) (w : World) : Prop :=
  qG Try.prog (bq .add 3 (.tmp 15) (.const (.int .i64 1)) x6 (.int .i64 1)) w fun t16 =>
  N1 [x1, x5, t16] w

theorem ref02_More_s1_eq (R : Value → World → Prop) (N1 : List Value → World → Prop) : ∀ e w, lift Try.prog 37 (sub (bodyOf Try.f68) [1, 1, 0, 1, 0, 0, 1, 1]) (seqK (fun e w => N1 [e 1, e 5, e 6] w) (blockK 0 (seqK (fun e w => ref02_More_s0 R (e 5) w) (finK Try.prog Try.f68.results.toList R)))) e w = ref02_More_s1 R N1 (e 1) (e 5) (e 6) w := fun e w => by kernel_rfl

def ref02_More_b2 (R : Value → World → Prop) (N1 : List Value → World → Prop) (N2 : List Value → World → Prop) (x1 x5 x6 x7 : Value) (w : World) : Prop :=
  qG Try.prog (bq .lss 3 (.tmp 23) (.const (.int .i64 8)) x7 (.int .i64 8)) w fun t24 =>
  bV t24
  (qG Try.prog (bq .and 3 (.tmp 27) (.const (.int .i64 1)) x5 (.int .i64 1)) w fun t28 =>
  qG Try.prog (bq .eql 3 (.tmp 28) (.const (.int .i64 1)) t28 (.int .i64 1)) w fun t29 =>
  bV t29
  (qG Try.prog (bq .shr 3 (.tmp 30) (.const (.int .u64 1)) x5 (.int .u64 1)) w fun t31 =>
  qG Try.prog (bq .xor 3 (.tmp 31) (.const (.int .i64 3988292384)) t31 (.int .i64 3988292384)) w fun t32 =>
  qG Try.prog (bq .add 3 (.tmp 25) (.const (.int .i64 1)) x7 (.int .i64 1)) w fun t26 =>
  N2 [x1, t32, x6, t26] w)
  (qG Try.prog (bq .shr 3 (.tmp 33) (.const (.int .u64 1)) x5 (.int .u64 1)) w fun t34 =>
  qG Try.prog (bq .add 3 (.tmp 25) (.const (.int .i64 1)) x7 (.int .i64 1)) w fun t26_1 =>
  N2 [x1, t34, x6, t26_1] w))
  (ref02_More_s1 R N1 x1 x5 x6 w)

theorem ref02_More_b2_eq (R : Value → World → Prop) (N1 : List Value → World → Prop) (N2 : List Value → World → Prop) : ∀ e w, lift Try.prog 37 (sub (bodyOf Try.f68) [1, 1, 0, 1, 0, 0, 1, 0, 0, 1, 1, 0, 0]) (seqK (fun e w => N2 [e 1, e 5, e 6, e 7] w) (blockK 2 (blockK 1 (seqK (fun e w => ref02_More_s1 R N1 (e 1) (e 5) (e 6) w) (seqK (fun e w => N1 [e 1, e 5, e 6] w) (blockK 0 (seqK (fun e w => ref02_More_s0 R (e 5) w) (finK Try.prog Try.f68.results.toList R)))))))) e w = ref02_More_b2 R N1 N2 (e 1) (e 5) (e 6) (e 7) w := fun e w => by kernel_rfl

def ref02_More_L3F (R : Value → World → Prop) (N1 : List Value → World → Prop) (N2 : List Value → World → Prop) (xs : List Value) (w : World) : Prop :=
  match xs with
  | [x1, x5, x6, x7] => ref02_More_b2 R N1 N2 x1 x5 x6 x7 w
  | _ => False

def ref02_More_L3 (R : Value → World → Prop) (N1 : List Value → World → Prop) (x1 x5 x6 x7 : Value) (w : World) : Prop :=
  ∃ m, loopV (ref02_More_L3F R N1) m [x1, x5, x6, x7] w

theorem ref02_More_L3_eq (R : Value → World → Prop) (N1 : List Value → World → Prop) : ∀ e w, lift Try.prog 37 (sub (bodyOf Try.f68) [1, 1, 0, 1, 0, 0, 1, 0, 0, 1, 1, 0]) (blockK 2 (blockK 1 (seqK (fun e w => ref02_More_s1 R N1 (e 1) (e 5) (e 6) w) (seqK (fun e w => N1 [e 1, e 5, e 6] w) (blockK 0 (seqK (fun e w => ref02_More_s0 R (e 5) w) (finK Try.prog Try.f68.results.toList R))))))) e w = ref02_More_L3 R N1 (e 1) (e 5) (e 6) (e 7) w := loop_seg (F := ref02_More_L3F R N1) (sel := fun e => [e 1, e 5, e 6, e 7]) fun N2 => (ref02_More_b2_eq R N1 N2)

def ref02_More_s4 (R : Value → World → Prop) (N1 : List Value → World → Prop) (x1 x5 x6 : Value) (w : World) : Prop :=
  ixS x1 x6 fun t20 =>
  cvI .i64 t20 fun t21 =>
  qG Try.prog (bq .xor 3 (.tmp 17) (.tmp 21) x5 t21) w fun t22 =>
  ref02_More_L3 R N1 x1 t22 x6 (.int .i64 0) w

theorem ref02_More_s4_eq (R : Value → World → Prop) (N1 : List Value → World → Prop) : ∀ e w, lift Try.prog 37 (sub (bodyOf Try.f68) [1, 1, 0, 1, 0, 0, 1, 0, 0]) (blockK 1 (seqK (fun e w => ref02_More_s1 R N1 (e 1) (e 5) (e 6) w) (seqK (fun e w => N1 [e 1, e 5, e 6] w) (blockK 0 (seqK (fun e w => ref02_More_s0 R (e 5) w) (finK Try.prog Try.f68.results.toList R)))))) e w = ref02_More_s4 R N1 (e 1) (e 5) (e 6) w :=
  segs_eq (l := [(sub (bodyOf Try.f68) [1, 1, 0, 1, 0, 0, 1, 0, 0, 0]), (sub (bodyOf Try.f68) [1, 1, 0, 1, 0, 0, 1, 0, 0, 1, 0])]) (y := (sub (bodyOf Try.f68) [1, 1, 0, 1, 0, 0, 1, 0, 0, 1, 1])) (Y := (fun e w => ref02_More_L3 R N1 (e 1) (e 5) (e 6) (e 7) w)) (ref02_More_L3_eq R N1) (fun e w => by kernel_rfl)

def ref02_More_s5 (R : Value → World → Prop) (N1 : List Value → World → Prop) (x1 x5 x6 : Value) (w : World) : Prop :=
  lenS x1 fun t13 =>
  qG Try.prog (bq .lss 3 (.tmp 11) (.tmp 13) x6 t13) w fun t14 =>
  bV t14
  (ref02_More_s4 R N1 x1 x5 x6 w)
  (ref02_More_s0 R x5 w)

theorem ref02_More_s5_eq (R : Value → World → Prop) (N1 : List Value → World → Prop) : ∀ e w, lift Try.prog 37 (sub (bodyOf Try.f68) [1, 1, 0, 1, 0, 0]) (seqK (fun e w => N1 [e 1, e 5, e 6] w) (blockK 0 (seqK (fun e w => ref02_More_s0 R (e 5) w) (finK Try.prog Try.f68.results.toList R)))) e w = ref02_More_s5 R N1 (e 1) (e 5) (e 6) w :=
  segs_eq (l := [(sub (bodyOf Try.f68) [1, 1, 0, 1, 0, 0, 0])]) (y := (sub (bodyOf Try.f68) [1, 1, 0, 1, 0, 0, 1])) (Y := (fun e w => ref02_More_s4 R N1 (e 1) (e 5) (e 6) w)) (seq_seg (x := (sub (bodyOf Try.f68) [1, 1, 0, 1, 0, 0, 1, 0])) (y := (sub (bodyOf Try.f68) [1, 1, 0, 1, 0, 0, 1, 1])) (ref02_More_s1_eq R N1) (ref02_More_s4_eq R N1)) (fun e w => by kernel_rfl)

def ref02_More_L6F (R : Value → World → Prop) (N1 : List Value → World → Prop) (xs : List Value) (w : World) : Prop :=
  match xs with
  | [x1, x5, x6] => ref02_More_s5 R N1 x1 x5 x6 w
  | _ => False

def ref02_More_L6 (R : Value → World → Prop) (x1 x5 x6 : Value) (w : World) : Prop :=
  ∃ m, loopV (ref02_More_L6F R) m [x1, x5, x6] w

theorem ref02_More_L6_eq (R : Value → World → Prop) : ∀ e w, lift Try.prog 37 (sub (bodyOf Try.f68) [1, 1, 0, 1, 0]) (blockK 0 (seqK (fun e w => ref02_More_s0 R (e 5) w) (finK Try.prog Try.f68.results.toList R))) e w = ref02_More_L6 R (e 1) (e 5) (e 6) w := loop_seg (F := ref02_More_L6F R) (sel := fun e => [e 1, e 5, e 6]) fun N1 => (ref02_More_s5_eq R N1)

def ref02_More_s7 (R : Value → World → Prop) (x1 x5 : Value) (w : World) : Prop :=
  ref02_More_L6 R x1 x5 (.int .i64 0) w

theorem ref02_More_s7_eq (R : Value → World → Prop) : ∀ e w, lift Try.prog 37 (sub (bodyOf Try.f68) [1, 1, 0]) (seqK (fun e w => ref02_More_s0 R (e 5) w) (finK Try.prog Try.f68.results.toList R)) e w = ref02_More_s7 R (e 1) (e 5) w :=
  segs_eq (l := [(sub (bodyOf Try.f68) [1, 1, 0, 0])]) (y := (sub (bodyOf Try.f68) [1, 1, 0, 1])) (Y := (fun e w => ref02_More_L6 R (e 1) (e 5) (e 6) w)) (ref02_More_L6_eq R) (fun e w => by kernel_rfl)

def ref02_More_s8 (R : Value → World → Prop) (x0 x1 : Value) (w : World) : Prop :=
  qG Try.prog (bq .and 3 (.tmp 8) (.const (.int .i64 4294967295)) x0 (.int .i64 4294967295)) w fun t9 =>
  qG Try.prog (bq .xor 3 (.tmp 9) (.const (.int .i64 4294967295)) t9 (.int .i64 4294967295)) w fun t10 =>
  ref02_More_s7 R x1 t10 w

theorem ref02_More_s8_eq (R : Value → World → Prop) : ∀ e w, lift Try.prog 37 (bodyOf Try.f68) (finK Try.prog Try.f68.results.toList R) e w = ref02_More_s8 R (e 0) (e 1) w :=
  segs_eq (l := [(sub (bodyOf Try.f68) [0]), (sub (bodyOf Try.f68) [1, 0])]) (y := (sub (bodyOf Try.f68) [1, 1])) (Y := (fun e w => ref02_More_s7 R (e 1) (e 5) w)) (seq_seg (x := (sub (bodyOf Try.f68) [1, 1, 0])) (y := (sub (bodyOf Try.f68) [1, 1, 1])) (ref02_More_s0_eq R) (ref02_More_s7_eq R)) (fun e w => by kernel_rfl)

def ref02_More (R : Value → World → Prop) (x0 x1 : Value) (w : World) : Prop := ref02_More_s8 R x0 x1 w
theorem ref02_More_call {R : Value → World → Prop} {x0 x1 : Value} {w : World} (h : ref02_More R x0 x1 w) : callG Try.prog 68 #[x0, x1] w R :=
  calls_lift_eq Try.mixed Try.func68 (args := [x0, x1]) rfl rfl rfl rfl ((ref02_More_s8_eq R) (envOf [x0, x1]) w) (by kernel_rfl) h
/-! quayside/quaysideref02.Sum -/
def ref02_Sum_s0 (R : Value → World → Prop) (x0 : Value) (w : World) : Prop :=
  callG Try.prog 68 #[(.int .i64 0), x0] w fun t4 w =>
  R t4 w

theorem ref02_Sum_s0_eq (R : Value → World → Prop) : ∀ e w, lift Try.prog 5 (bodyOf Try.f54) (finK Try.prog Try.f54.results.toList R) e w = ref02_Sum_s0 R (e 0) w := fun e w => by kernel_rfl

def ref02_Sum (R : Value → World → Prop) (x0 : Value) (w : World) : Prop := ref02_Sum_s0 R x0 w
theorem ref02_Sum_call {R : Value → World → Prop} {x0 : Value} {w : World} (h : ref02_Sum R x0 w) : callG Try.prog 54 #[x0] w R :=
  calls_lift_eq Try.mixed Try.func54 (args := [x0]) rfl rfl rfl rfl ((ref02_Sum_s0_eq R) (envOf [x0]) w) (by kernel_rfl) h
end Go.Proofs

set_option linter.unusedVariables false
set_option linter.unusedSimpArgs false
namespace Go.Proofs
open Go Go.Q
set_option maxRecDepth 100000
/-! quayside/wal.right -/
def wal_right_s0 (R : Value → World → Prop) (x0 : Value) (w : World) : Prop :=
  qG Try.prog (bq .geq 3 (.tmp 3) (.const (.int .i64 1)) x0 (.int .i64 1)) w fun t4 =>
  bV t4
  (qG Try.prog (bq .leq 3 (.tmp 6) (.const (.int .i64 2147483647)) x0 (.int .i64 2147483647)) w fun t7 =>
  R t7 w)
  (R (.bool false) w)

theorem wal_right_s0_eq (R : Value → World → Prop) : ∀ e w, lift Try.prog 9 (bodyOf Try.f49) (finK Try.prog Try.f49.results.toList R) e w = wal_right_s0 R (e 0) w := fun e w => by kernel_rfl

def wal_right (R : Value → World → Prop) (x0 : Value) (w : World) : Prop := wal_right_s0 R x0 w
theorem wal_right_call {R : Value → World → Prop} {x0 : Value} {w : World} (h : wal_right R x0 w) : callG Try.prog 49 #[x0] w R :=
  calls_lift_eq Try.mixed Try.func49 (args := [x0]) rfl rfl rfl rfl ((wal_right_s0_eq R) (envOf [x0]) w) (by kernel_rfl) h
/-! quayside/wal.Frame -/
def wal_Frame_s0 (R : Value → World → Prop) (x0 x1 : Value) (w : World) : Prop :=
  callG Try.prog 50 #[x0] w fun t20 w =>
  lenS x1 fun t22 =>
  callG Try.prog 50 #[t22] w fun t23 w =>
  slS t23 none (some (.int .i64 2)) fun t24 =>
  qG Try.prog (bq .add 9 (.tmp 20) (.tmp 24) t20 t24) w fun t25 =>
  callG Try.prog 52 #[t25] w fun t28 w =>
  callG Try.prog 51 #[t28, x1] w fun t30 w =>
  callG Try.prog 50 #[t30] w fun t31 w =>
  qG Try.prog (bq .add 9 (.tmp 26) (.tmp 31) t25 t31) w fun t32 =>
  qG Try.prog (bq .add 9 (.tmp 32) (.tmp 33) t32 x1) w fun t34 =>
  R (.tuple #[t34, (.int .i64 0)]) w

theorem wal_Frame_s0_eq (R : Value → World → Prop) : ∀ e w, lift Try.prog 35 (sub (bodyOf Try.f30) [1, 1]) (finK Try.prog Try.f30.results.toList R) e w = wal_Frame_s0 R (e 0) (e 1) w := fun e w => by kernel_rfl

def wal_Frame_s1 (R : Value → World → Prop) (x0 x1 : Value) (w : World) : Prop :=
  callG Try.prog 49 #[x0] w fun t8 w =>
  qG Try.prog (Op.unary .not t8) w fun t9 =>
  bV t9
  (R (.tuple #[(.string ⟨#[]⟩), (.int .i64 1)]) w)
  (qG Try.prog (bq .eql 9 (.tmp 11) (.const (.string ⟨#[]⟩)) x1 (.string ⟨#[]⟩)) w fun t12 =>
  bV t12
  (R (.tuple #[(.string ⟨#[]⟩), (.int .i64 1)]) w)
  (lenS x1 fun t16 =>
  qG Try.prog (bq .gtr 3 (.tmp 16) (.const (.int .i64 1024)) t16 (.int .i64 1024)) w fun t17 =>
  bV t17
  (R (.tuple #[(.string ⟨#[]⟩), (.int .i64 1)]) w)
  (wal_Frame_s0 R x0 x1 w)))

theorem wal_Frame_s1_eq (R : Value → World → Prop) : ∀ e w, lift Try.prog 35 (bodyOf Try.f30) (finK Try.prog Try.f30.results.toList R) e w = wal_Frame_s1 R (e 0) (e 1) w :=
  segs_eq (l := [(sub (bodyOf Try.f30) [0]), (sub (bodyOf Try.f30) [1, 0])]) (y := (sub (bodyOf Try.f30) [1, 1])) (Y := (fun e w => wal_Frame_s0 R (e 0) (e 1) w)) (wal_Frame_s0_eq R) (fun e w => by kernel_rfl)

def wal_Frame (R : Value → World → Prop) (x0 x1 : Value) (w : World) : Prop := wal_Frame_s1 R x0 x1 w
theorem wal_Frame_call {R : Value → World → Prop} {x0 x1 : Value} {w : World} (h : wal_Frame R x0 x1 w) : callG Try.prog 30 #[x0, x1] w R :=
  calls_lift_eq Try.mixed Try.func30 (args := [x0, x1]) rfl rfl rfl rfl ((wal_Frame_s1_eq R) (envOf [x0, x1]) w) (by kernel_rfl) h
/-! quayside/wal.next -/
def wal_next_s0 (R : Value → World → Prop) (x1 x6 : Value) (w : World) : Prop :=
  qG Try.prog (bq .add 3 (.const (.int .i64 10)) (.tmp 44) (.int .i64 10) x6) w fun t45 =>
  slS x1 (some (.int .i64 10)) (some t45) fun t46 =>
  slS x1 (some (.int .i64 6)) none fun t49 =>
  slS x1 none (some (.int .i64 6)) fun t52 =>
  callG Try.prog 69 #[t49] (World.drew w) fun t50 w =>
  callG Try.prog 52 #[t52] w fun t53 w =>
  callG Try.prog 51 #[t53, t46] w fun t55 w =>
  qG Try.prog (bq .eql 3 (.tmp 50) (.tmp 55) t50 t55) w fun t56 =>
  R (.tuple #[t46, t56]) w

theorem wal_next_s0_eq (R : Value → World → Prop) : ∀ e w, lift Try.prog 57 (sub (bodyOf Try.f55) [1, 1, 1, 1]) (finK Try.prog Try.f55.results.toList R) e w = wal_next_s0 R (e 1) (e 6) w := fun e w => by kernel_rfl

def wal_next_s1 (R : Value → World → Prop) (x1 : Value) (w : World) : Prop :=
  ixS x1 (.int .i64 4) fun t23 =>
  cvI .i64 t23 fun t24 =>
  ixS x1 (.int .i64 5) fun t26 =>
  cvI .i64 t26 fun t27 =>
  qG Try.prog (bq .shl 3 (.tmp 27) (.const (.int .u64 8)) t27 (.int .u64 8)) (World.drew w) fun t28 =>
  qG Try.prog (bq .or 3 (.tmp 24) (.tmp 28) t24 t28) (World.drew w) fun t29 =>
  qG Try.prog (bq .lss 3 (.tmp 30) (.const (.int .i64 1)) t29 (.int .i64 1)) (World.drew w) fun t31 =>
  bV t31
  (R (.tuple #[(.string ⟨#[]⟩), (.bool false)]) (World.drew w))
  (qG Try.prog (bq .gtr 3 (.tmp 33) (.const (.int .i64 1024)) t29 (.int .i64 1024)) (World.drew w) fun t34 =>
  bV t34
  (R (.tuple #[(.string ⟨#[]⟩), (.bool false)]) (World.drew w))
  (lenS x1 fun t39 =>
  qG Try.prog (bq .sub 3 (.tmp 39) (.const (.int .i64 10)) t39 (.int .i64 10)) (World.drew w) fun t40 =>
  qG Try.prog (bq .gtr 3 (.tmp 37) (.tmp 40) t29 t40) (World.drew w) fun t41 =>
  bV t41
  (R (.tuple #[(.string ⟨#[]⟩), (.bool false)]) (World.drew w))
  (wal_next_s0 R x1 t29 (World.drew w))))

theorem wal_next_s1_eq (R : Value → World → Prop) : ∀ e w, lift Try.prog 57 (sub (bodyOf Try.f55) [1, 1]) (finK Try.prog Try.f55.results.toList R) e w = wal_next_s1 R (e 1) w :=
  segs_eq (l := [(sub (bodyOf Try.f55) [1, 1, 0]), (sub (bodyOf Try.f55) [1, 1, 1, 0])]) (y := (sub (bodyOf Try.f55) [1, 1, 1, 1])) (Y := (fun e w => wal_next_s0 R (e 1) (e 6) w)) (wal_next_s0_eq R) (fun e w => by kernel_rfl)

def wal_next_s2 (R : Value → World → Prop) (x0 x1 : Value) (w : World) : Prop :=
  lenS x1 fun t9 =>
  qG Try.prog (bq .leq 3 (.tmp 9) (.const (.int .i64 10)) t9 (.int .i64 10)) w fun t10 =>
  bV t10
  (R (.tuple #[(.string ⟨#[]⟩), (.bool false)]) w)
  (callG Try.prog 49 #[x0] w fun t13 w =>
  qG Try.prog (Op.unary .not t13) w fun t14 =>
  bV t14
  (R (.tuple #[(.string ⟨#[]⟩), (.bool false)]) w)
  (callG Try.prog 69 #[x1] w fun t18 w =>
  qG Try.prog (bq .neq 3 (.tmp 18) (.tmp 19) t18 x0) w fun t20 =>
  bV t20
  (R (.tuple #[(.string ⟨#[]⟩), (.bool false)]) w)
  (wal_next_s1 R x1 w)))

theorem wal_next_s2_eq (R : Value → World → Prop) : ∀ e w, lift Try.prog 57 (bodyOf Try.f55) (finK Try.prog Try.f55.results.toList R) e w = wal_next_s2 R (e 0) (e 1) w :=
  segs_eq (l := [(sub (bodyOf Try.f55) [0]), (sub (bodyOf Try.f55) [1, 0])]) (y := (sub (bodyOf Try.f55) [1, 1])) (Y := (fun e w => wal_next_s1 R (e 1) w)) (wal_next_s1_eq R) (fun e w => by kernel_rfl)

def wal_next (R : Value → World → Prop) (x0 x1 : Value) (w : World) : Prop := wal_next_s2 R x0 x1 w
theorem wal_next_call {R : Value → World → Prop} {x0 x1 : Value} {w : World} (h : wal_next R x0 x1 w) : callG Try.prog 55 #[x0, x1] w R :=
  calls_lift_eq Try.mixed Try.func55 (args := [x0, x1]) rfl rfl rfl rfl ((wal_next_s2_eq R) (envOf [x0, x1]) w) (by kernel_rfl) h
/-! quayside/wal.Scan -/
def wal_Scan_b0 (R : Value → World → Prop) (N1 : List Value → World → Prop) (x0 x1 x6 x7 : Value) (w : World) : Prop :=
  slS x1 (some x7) none fun t14 =>
  callG Try.prog 55 #[x0, t14] w fun t15 w =>
  qG Try.prog (Instr.extract t15 0) w fun t16 =>
  qG Try.prog (Instr.extract t15 1) w fun t17 =>
  qG Try.prog (Op.unary .not t17) w fun t19 =>
  bV t19
  (R (.tuple #[x6, x7]) w)
  (bsl 9 1 1 (zc Try.prog 9) #[(0, t16)] w fun t24 w =>
  app 9 1 16 (zc Try.prog 9) x6 t24 w fun t25 w =>
  lenS t16 fun t28 =>
  qG Try.prog (bq .add 3 (.const (.int .i64 10)) (.tmp 28) (.int .i64 10) t28) w fun t29 =>
  qG Try.prog (bq .add 3 (.tmp 26) (.tmp 29) x7 t29) w fun t30 =>
  N1 [x0, x1, t25, t30] w)

theorem wal_Scan_b0_eq (R : Value → World → Prop) (N1 : List Value → World → Prop) : ∀ e w, lift Try.prog 31 (sub (bodyOf Try.f32) [1, 1, 1, 0, 0]) (seqK (fun e w => N1 [e 0, e 1, e 6, e 7] w) (blockK 0 (finK Try.prog Try.f32.results.toList R))) e w = wal_Scan_b0 R N1 (e 0) (e 1) (e 6) (e 7) w := fun e w => by kernel_rfl

def wal_Scan_L1F (R : Value → World → Prop) (N1 : List Value → World → Prop) (xs : List Value) (w : World) : Prop :=
  match xs with
  | [x0, x1, x6, x7] => wal_Scan_b0 R N1 x0 x1 x6 x7 w
  | _ => False

def wal_Scan_L1 (R : Value → World → Prop) (x0 x1 x6 x7 : Value) (w : World) : Prop :=
  ∃ m, loopV (wal_Scan_L1F R) m [x0, x1, x6, x7] w

theorem wal_Scan_L1_eq (R : Value → World → Prop) : ∀ e w, lift Try.prog 31 (sub (bodyOf Try.f32) [1, 1, 1, 0]) (blockK 0 (finK Try.prog Try.f32.results.toList R)) e w = wal_Scan_L1 R (e 0) (e 1) (e 6) (e 7) w := loop_seg (F := wal_Scan_L1F R) (sel := fun e => [e 0, e 1, e 6, e 7]) fun N1 => (wal_Scan_b0_eq R N1)

def wal_Scan_s2 (R : Value → World → Prop) (x0 x1 : Value) (w : World) : Prop :=
  wal_Scan_L1 R x0 x1 (.slice none 0 0) (.int .i64 0) w

theorem wal_Scan_s2_eq (R : Value → World → Prop) : ∀ e w, lift Try.prog 31 (bodyOf Try.f32) (finK Try.prog Try.f32.results.toList R) e w = wal_Scan_s2 R (e 0) (e 1) w :=
  segs_eq (l := [(sub (bodyOf Try.f32) [0]), (sub (bodyOf Try.f32) [1, 0]), (sub (bodyOf Try.f32) [1, 1, 0])]) (y := (sub (bodyOf Try.f32) [1, 1, 1])) (Y := (fun e w => wal_Scan_L1 R (e 0) (e 1) (e 6) (e 7) w)) (wal_Scan_L1_eq R) (fun e w => by kernel_rfl)

def wal_Scan (R : Value → World → Prop) (x0 x1 : Value) (w : World) : Prop := wal_Scan_s2 R x0 x1 w
theorem wal_Scan_call {R : Value → World → Prop} {x0 x1 : Value} {w : World} (h : wal_Scan R x0 x1 w) : callG Try.prog 32 #[x0, x1] w R :=
  calls_lift_eq Try.mixed Try.func32 (args := [x0, x1]) rfl rfl rfl rfl ((wal_Scan_s2_eq R) (envOf [x0, x1]) w) (by kernel_rfl) h
/-! quayside/quaysideref04.Frame -/
def ref04_Frame_s0 (R : Value → World → Prop) (x0 x1 : Value) (w : World) : Prop :=
  callG Try.prog 53 #[x0] w fun t23 w =>
  lenS x1 fun t25 =>
  callG Try.prog 53 #[t25] w fun t26 w =>
  slS t26 none (some (.int .i64 2)) fun t27 =>
  qG Try.prog (bq .add 9 (.tmp 23) (.tmp 27) t23 t27) w fun t28 =>
  qG Try.prog (bq .add 9 (.tmp 30) (.tmp 31) t28 x1) w fun t32 =>
  callG Try.prog 54 #[t32] w fun t33 w =>
  callG Try.prog 53 #[t33] w fun t34 w =>
  qG Try.prog (bq .add 9 (.tmp 29) (.tmp 34) t28 t34) w fun t35 =>
  qG Try.prog (bq .add 9 (.tmp 35) (.tmp 36) t35 x1) w fun t37 =>
  R (.tuple #[t37, (.int .i64 0)]) w

theorem ref04_Frame_s0_eq (R : Value → World → Prop) : ∀ e w, lift Try.prog 38 (sub (bodyOf Try.f31) [1, 1]) (finK Try.prog Try.f31.results.toList R) e w = ref04_Frame_s0 R (e 0) (e 1) w := fun e w => by kernel_rfl

def ref04_Frame_s1 (R : Value → World → Prop) (x0 x1 : Value) (w : World) : Prop :=
  qG Try.prog (bq .lss 3 (.tmp 7) (.const (.int .i64 1)) x0 (.int .i64 1)) w fun t8 =>
  bV t8
  (R (.tuple #[(.string ⟨#[]⟩), (.int .i64 1)]) w)
  (qG Try.prog (bq .gtr 3 (.tmp 10) (.const (.int .i64 2147483647)) x0 (.int .i64 2147483647)) w fun t11 =>
  bV t11
  (R (.tuple #[(.string ⟨#[]⟩), (.int .i64 1)]) w)
  (qG Try.prog (bq .eql 9 (.tmp 14) (.const (.string ⟨#[]⟩)) x1 (.string ⟨#[]⟩)) w fun t15 =>
  bV t15
  (R (.tuple #[(.string ⟨#[]⟩), (.int .i64 1)]) w)
  (lenS x1 fun t19 =>
  qG Try.prog (bq .gtr 3 (.tmp 19) (.const (.int .i64 1024)) t19 (.int .i64 1024)) w fun t20 =>
  bV t20
  (R (.tuple #[(.string ⟨#[]⟩), (.int .i64 1)]) w)
  (ref04_Frame_s0 R x0 x1 w))))

theorem ref04_Frame_s1_eq (R : Value → World → Prop) : ∀ e w, lift Try.prog 38 (bodyOf Try.f31) (finK Try.prog Try.f31.results.toList R) e w = ref04_Frame_s1 R (e 0) (e 1) w :=
  segs_eq (l := [(sub (bodyOf Try.f31) [0]), (sub (bodyOf Try.f31) [1, 0])]) (y := (sub (bodyOf Try.f31) [1, 1])) (Y := (fun e w => ref04_Frame_s0 R (e 0) (e 1) w)) (ref04_Frame_s0_eq R) (fun e w => by kernel_rfl)

def ref04_Frame (R : Value → World → Prop) (x0 x1 : Value) (w : World) : Prop := ref04_Frame_s1 R x0 x1 w
theorem ref04_Frame_call {R : Value → World → Prop} {x0 x1 : Value} {w : World} (h : ref04_Frame R x0 x1 w) : callG Try.prog 31 #[x0, x1] w R :=
  calls_lift_eq Try.mixed Try.func31 (args := [x0, x1]) rfl rfl rfl rfl ((ref04_Frame_s1_eq R) (envOf [x0, x1]) w) (by kernel_rfl) h
/-! quayside/quaysideref04.Scan -/
def ref04_Scan_s0 (R : Value → World → Prop) (x6 x7 : Value) (w : World) : Prop :=
  R (.tuple #[x6, x7]) w

theorem ref04_Scan_s0_eq (R : Value → World → Prop) : ∀ e w, lift Try.prog 73 (sub (bodyOf Try.f33) [1, 1, 1, 1]) (finK Try.prog Try.f33.results.toList R) e w = ref04_Scan_s0 R (e 6) (e 7) w := fun e w => by kernel_rfl

def ref04_Scan_s1 (R : Value → World → Prop) (N1 : List Value → World → Prop) (x0 x1 x6 x7 x8 x9 : Value) (w : World) : Prop :=
  qG Try.prog (bq .add 3 (.const (.int .i64 10)) (.tmp 62) (.int .i64 10) x9) w fun t63 =>
  slS x8 (some (.int .i64 10)) (some t63) fun t64 =>
  bsl 9 1 1 (zc Try.prog 9) #[(0, t64)] w fun t65 w =>
  app 9 1 16 (zc Try.prog 9) x6 t65 w fun t66 w =>
  qG Try.prog (bq .add 3 (.tmp 67) (.const (.int .i64 10)) x7 (.int .i64 10)) w fun t68 =>
  qG Try.prog (bq .add 3 (.tmp 68) (.tmp 69) t68 x9) w fun t70 =>
  N1 [x0, x1, t66, t70] w

theorem ref04_Scan_s1_eq (R : Value → World → Prop) (N1 : List Value → World → Prop) : ∀ e w, lift Try.prog 73 (sub (bodyOf Try.f33) [1, 1, 1, 0, 0, 0, 1, 0, 1, 1, 1, 1, 1]) (blockK 1 (seqK (fun e w => N1 [e 0, e 1, e 6, e 7] w) (blockK 0 (seqK (fun e w => ref04_Scan_s0 R (e 6) (e 7) w) (finK Try.prog Try.f33.results.toList R))))) e w = ref04_Scan_s1 R N1 (e 0) (e 1) (e 6) (e 7) (e 8) (e 9) w := fun e w => by kernel_rfl

def ref04_Scan_s2 (R : Value → World → Prop) (N1 : List Value → World → Prop) (x0 x1 x6 x7 x8 x9 : Value) (w : World) : Prop :=
  qG Try.prog (bq .add 3 (.const (.int .i64 10)) (.tmp 44) (.int .i64 10) x9) w fun t45 =>
  slS x8 (some (.int .i64 10)) (some t45) fun t46 =>
  callG Try.prog 31 #[x0, t46] w fun t47 w =>
  qG Try.prog (Instr.extract t47 0) w fun t48 =>
  qG Try.prog (Instr.extract t47 1) w fun t49 =>
  qG Try.prog (bq .neq 24 (.tmp 50) (.const (.int .i64 0)) t49 (.int .i64 0)) w fun t51 =>
  bV t51
  (ref04_Scan_s0 R x6 x7 w)
  (qG Try.prog (bq .add 3 (.const (.int .i64 10)) (.tmp 55) (.int .i64 10) x9) w fun t56 =>
  slS x8 none (some t56) fun t57 =>
  qG Try.prog (bq .neq 9 (.tmp 53) (.tmp 57) t48 t57) w fun t58 =>
  bV t58
  (ref04_Scan_s0 R x6 x7 w)
  (ref04_Scan_s1 R N1 x0 x1 x6 x7 x8 x9 w))

theorem ref04_Scan_s2_eq (R : Value → World → Prop) (N1 : List Value → World → Prop) : ∀ e w, lift Try.prog 73 (sub (bodyOf Try.f33) [1, 1, 1, 0, 0, 0, 1, 0, 1, 1, 1]) (blockK 1 (seqK (fun e w => N1 [e 0, e 1, e 6, e 7] w) (blockK 0 (seqK (fun e w => ref04_Scan_s0 R (e 6) (e 7) w) (finK Try.prog Try.f33.results.toList R))))) e w = ref04_Scan_s2 R N1 (e 0) (e 1) (e 6) (e 7) (e 8) (e 9) w :=
  segs_eq (l := [(sub (bodyOf Try.f33) [1, 1, 1, 0, 0, 0, 1, 0, 1, 1, 1, 0]), (sub (bodyOf Try.f33) [1, 1, 1, 0, 0, 0, 1, 0, 1, 1, 1, 1, 0])]) (y := (sub (bodyOf Try.f33) [1, 1, 1, 0, 0, 0, 1, 0, 1, 1, 1, 1, 1])) (Y := (fun e w => ref04_Scan_s1 R N1 (e 0) (e 1) (e 6) (e 7) (e 8) (e 9) w)) (ref04_Scan_s1_eq R N1) (fun e w => by kernel_rfl)

def ref04_Scan_s3 (R : Value → World → Prop) (N1 : List Value → World → Prop) (x0 x1 x6 x7 : Value) (w : World) : Prop :=
  slS x1 (some x7) none fun t19 =>
  ixS t19 (.int .i64 4) fun t21 =>
  cvI .i64 t21 fun t22 =>
  ixS t19 (.int .i64 5) fun t24 =>
  cvI .i64 t24 fun t25 =>
  qG Try.prog (bq .shl 3 (.tmp 25) (.const (.int .u64 8)) t25 (.int .u64 8)) (World.drew w) fun t26 =>
  qG Try.prog (bq .or 3 (.tmp 22) (.tmp 26) t22 t26) (World.drew w) fun t27 =>
  qG Try.prog (bq .eql 3 (.tmp 28) (.const (.int .i64 0)) t27 (.int .i64 0)) (World.drew w) fun t29 =>
  bV t29
  (ref04_Scan_s0 R x6 x7 (World.drew w))
  (qG Try.prog (bq .gtr 3 (.tmp 31) (.const (.int .i64 1024)) t27 (.int .i64 1024)) (World.drew w) fun t32 =>
  bV t32
  (ref04_Scan_s0 R x6 x7 (World.drew w))
  (lenS t19 fun t36 =>
  qG Try.prog (bq .sub 3 (.tmp 36) (.const (.int .i64 10)) t36 (.int .i64 10)) (World.drew w) fun t37 =>
  qG Try.prog (bq .lss 3 (.tmp 37) (.tmp 38) t37 t27) (World.drew w) fun t39 =>
  bV t39
  (ref04_Scan_s0 R x6 x7 (World.drew w))
  (ref04_Scan_s2 R N1 x0 x1 x6 x7 t19 t27 (World.drew w))))

theorem ref04_Scan_s3_eq (R : Value → World → Prop) (N1 : List Value → World → Prop) : ∀ e w, lift Try.prog 73 (sub (bodyOf Try.f33) [1, 1, 1, 0, 0, 0, 1, 0]) (blockK 1 (seqK (fun e w => N1 [e 0, e 1, e 6, e 7] w) (blockK 0 (seqK (fun e w => ref04_Scan_s0 R (e 6) (e 7) w) (finK Try.prog Try.f33.results.toList R))))) e w = ref04_Scan_s3 R N1 (e 0) (e 1) (e 6) (e 7) w :=
  segs_eq (l := [(sub (bodyOf Try.f33) [1, 1, 1, 0, 0, 0, 1, 0, 0]), (sub (bodyOf Try.f33) [1, 1, 1, 0, 0, 0, 1, 0, 1, 0]), (sub (bodyOf Try.f33) [1, 1, 1, 0, 0, 0, 1, 0, 1, 1, 0])]) (y := (sub (bodyOf Try.f33) [1, 1, 1, 0, 0, 0, 1, 0, 1, 1, 1])) (Y := (fun e w => ref04_Scan_s2 R N1 (e 0) (e 1) (e 6) (e 7) (e 8) (e 9) w)) (ref04_Scan_s2_eq R N1) (fun e w => by kernel_rfl)

def ref04_Scan_s4 (R : Value → World → Prop) (N1 : List Value → World → Prop) (x0 x1 x6 x7 : Value) (w : World) : Prop :=
  lenS x1 fun t13 =>
  qG Try.prog (bq .sub 3 (.tmp 13) (.tmp 14) t13 x7) w fun t15 =>
  qG Try.prog (bq .gtr 3 (.tmp 15) (.const (.int .i64 10)) t15 (.int .i64 10)) w fun t16 =>
  bV t16
  (ref04_Scan_s3 R N1 x0 x1 x6 x7 w)
  (ref04_Scan_s0 R x6 x7 w)

theorem ref04_Scan_s4_eq (R : Value → World → Prop) (N1 : List Value → World → Prop) : ∀ e w, lift Try.prog 73 (sub (bodyOf Try.f33) [1, 1, 1, 0, 0, 0]) (seqK (fun e w => N1 [e 0, e 1, e 6, e 7] w) (blockK 0 (seqK (fun e w => ref04_Scan_s0 R (e 6) (e 7) w) (finK Try.prog Try.f33.results.toList R)))) e w = ref04_Scan_s4 R N1 (e 0) (e 1) (e 6) (e 7) w :=
  segs_eq (l := [(sub (bodyOf Try.f33) [1, 1, 1, 0, 0, 0, 0])]) (y := (sub (bodyOf Try.f33) [1, 1, 1, 0, 0, 0, 1])) (Y := (fun e w => ref04_Scan_s3 R N1 (e 0) (e 1) (e 6) (e 7) w)) (ref04_Scan_s3_eq R N1) (fun e w => by kernel_rfl)

def ref04_Scan_L5F (R : Value → World → Prop) (N1 : List Value → World → Prop) (xs : List Value) (w : World) : Prop :=
  match xs with
  | [x0, x1, x6, x7] => ref04_Scan_s4 R N1 x0 x1 x6 x7 w
  | _ => False

def ref04_Scan_L5 (R : Value → World → Prop) (x0 x1 x6 x7 : Value) (w : World) : Prop :=
  ∃ m, loopV (ref04_Scan_L5F R) m [x0, x1, x6, x7] w

theorem ref04_Scan_L5_eq (R : Value → World → Prop) : ∀ e w, lift Try.prog 73 (sub (bodyOf Try.f33) [1, 1, 1, 0, 0]) (blockK 0 (seqK (fun e w => ref04_Scan_s0 R (e 6) (e 7) w) (finK Try.prog Try.f33.results.toList R))) e w = ref04_Scan_L5 R (e 0) (e 1) (e 6) (e 7) w := loop_seg (F := ref04_Scan_L5F R) (sel := fun e => [e 0, e 1, e 6, e 7]) fun N1 => (ref04_Scan_s4_eq R N1)

def ref04_Scan_s6 (R : Value → World → Prop) (x0 x1 : Value) (w : World) : Prop :=
  ref04_Scan_L5 R x0 x1 (.slice none 0 0) (.int .i64 0) w

theorem ref04_Scan_s6_eq (R : Value → World → Prop) : ∀ e w, lift Try.prog 73 (bodyOf Try.f33) (finK Try.prog Try.f33.results.toList R) e w = ref04_Scan_s6 R (e 0) (e 1) w :=
  segs_eq (l := [(sub (bodyOf Try.f33) [0]), (sub (bodyOf Try.f33) [1, 0]), (sub (bodyOf Try.f33) [1, 1, 0])]) (y := (sub (bodyOf Try.f33) [1, 1, 1])) (Y := (fun e w => ref04_Scan_L5 R (e 0) (e 1) (e 6) (e 7) w)) (seq_seg (x := (sub (bodyOf Try.f33) [1, 1, 1, 0])) (y := (sub (bodyOf Try.f33) [1, 1, 1, 1])) (ref04_Scan_s0_eq R) (ref04_Scan_L5_eq R)) (fun e w => by kernel_rfl)

def ref04_Scan (R : Value → World → Prop) (x0 x1 : Value) (w : World) : Prop := ref04_Scan_s6 R x0 x1 w
theorem ref04_Scan_call {R : Value → World → Prop} {x0 x1 : Value} {w : World} (h : ref04_Scan R x0 x1 w) : callG Try.prog 33 #[x0, x1] w R :=
  calls_lift_eq Try.mixed Try.func33 (args := [x0, x1]) rfl rfl rfl rfl ((ref04_Scan_s6_eq R) (envOf [x0, x1]) w) (by kernel_rfl) h
end Go.Proofs

set_option linter.unusedVariables false
set_option linter.unusedSimpArgs false
namespace Go.Proofs
open Go Go.Q
set_option maxRecDepth 100000
/-! quayside/quaysidelaw04.same -/
def law04_same_s0 (R : Value → World → Prop) (w : World) : Prop :=
  R (.bool true) w

theorem law04_same_s0_eq (R : Value → World → Prop) : ∀ e w, lift Try.prog 26 (sub (bodyOf Try.f34) [1, 1, 1]) (finK Try.prog Try.f34.results.toList R) e w = law04_same_s0 R w := fun e w => by kernel_rfl

def law04_same_b1 (R : Value → World → Prop) (N1 : List Value → World → Prop) (x0 x1 x5 : Value) (w : World) : Prop :=
  lenL x0 fun t13 =>
  qG Try.prog (bq .lss 3 (.tmp 11) (.tmp 13) x5 t13) w fun t14 =>
  bV t14
  (ia 1 x0 x5 fun t19 =>
  ld1 t19 (World.drew w) fun t20 =>
  ia 1 x1 x5 fun t23 =>
  ld1 t23 (World.drew w) fun t24 =>
  qG Try.prog (bq .neq 9 (.tmp 20) (.tmp 24) t20 t24) (World.drew w) fun t25 =>
  bV t25
  (R (.bool false) (World.drew w))
  (qG Try.prog (bq .add 3 (.tmp 15) (.const (.int .i64 1)) x5 (.int .i64 1)) (World.drew w) fun t16 =>
  N1 [x0, x1, t16] (World.drew w)))
  (law04_same_s0 R  w)

theorem law04_same_b1_eq (R : Value → World → Prop) (N1 : List Value → World → Prop) : ∀ e w, lift Try.prog 26 (sub (bodyOf Try.f34) [1, 1, 0, 1, 0, 0]) (seqK (fun e w => N1 [e 0, e 1, e 5] w) (blockK 0 (seqK (fun e w => law04_same_s0 R  w) (finK Try.prog Try.f34.results.toList R)))) e w = law04_same_b1 R N1 (e 0) (e 1) (e 5) w := fun e w => by kernel_rfl

def law04_same_L2F (R : Value → World → Prop) (N1 : List Value → World → Prop) (xs : List Value) (w : World) : Prop :=
  match xs with
  | [x0, x1, x5] => law04_same_b1 R N1 x0 x1 x5 w
  | _ => False

def law04_same_L2 (R : Value → World → Prop) (x0 x1 x5 : Value) (w : World) : Prop :=
  ∃ m, loopV (law04_same_L2F R) m [x0, x1, x5] w

theorem law04_same_L2_eq (R : Value → World → Prop) : ∀ e w, lift Try.prog 26 (sub (bodyOf Try.f34) [1, 1, 0, 1, 0]) (blockK 0 (seqK (fun e w => law04_same_s0 R  w) (finK Try.prog Try.f34.results.toList R))) e w = law04_same_L2 R (e 0) (e 1) (e 5) w := loop_seg (F := law04_same_L2F R) (sel := fun e => [e 0, e 1, e 5]) fun N1 => (law04_same_b1_eq R N1)

def law04_same_s3 (R : Value → World → Prop) (x0 x1 : Value) (w : World) : Prop :=
  law04_same_L2 R x0 x1 (.int .i64 0) w

theorem law04_same_s3_eq (R : Value → World → Prop) : ∀ e w, lift Try.prog 26 (sub (bodyOf Try.f34) [1, 1, 0]) (seqK (fun e w => law04_same_s0 R  w) (finK Try.prog Try.f34.results.toList R)) e w = law04_same_s3 R (e 0) (e 1) w :=
  segs_eq (l := [(sub (bodyOf Try.f34) [1, 1, 0, 0])]) (y := (sub (bodyOf Try.f34) [1, 1, 0, 1])) (Y := (fun e w => law04_same_L2 R (e 0) (e 1) (e 5) w)) (law04_same_L2_eq R) (fun e w => by kernel_rfl)

def law04_same_s4 (R : Value → World → Prop) (x0 x1 : Value) (w : World) : Prop :=
  lenL x0 fun t7 =>
  lenL x1 fun t9 =>
  qG Try.prog (bq .neq 3 (.tmp 7) (.tmp 9) t7 t9) w fun t10 =>
  bV t10
  (R (.bool false) w)
  (law04_same_s3 R x0 x1 w)

theorem law04_same_s4_eq (R : Value → World → Prop) : ∀ e w, lift Try.prog 26 (bodyOf Try.f34) (finK Try.prog Try.f34.results.toList R) e w = law04_same_s4 R (e 0) (e 1) w :=
  segs_eq (l := [(sub (bodyOf Try.f34) [0]), (sub (bodyOf Try.f34) [1, 0])]) (y := (sub (bodyOf Try.f34) [1, 1])) (Y := (fun e w => law04_same_s3 R (e 0) (e 1) w)) (seq_seg (x := (sub (bodyOf Try.f34) [1, 1, 0])) (y := (sub (bodyOf Try.f34) [1, 1, 1])) (law04_same_s0_eq R) (law04_same_s3_eq R)) (fun e w => by kernel_rfl)

def law04_same (R : Value → World → Prop) (x0 x1 : Value) (w : World) : Prop := law04_same_s4 R x0 x1 w
theorem law04_same_call {R : Value → World → Prop} {x0 x1 : Value} {w : World} (h : law04_same R x0 x1 w) : callG Try.prog 34 #[x0, x1] w R :=
  calls_lift_eq Try.mixed Try.func34 (args := [x0, x1]) rfl rfl rfl rfl ((law04_same_s4_eq R) (envOf [x0, x1]) w) (by kernel_rfl) h
/-! (*quayside/wal.Log).given -/
def wal_Log_given_s0 (R : Value → World → Prop) (x0 : Value) (w : World) : Prop :=
  qG Try.prog (bq .neq 64 (.tmp 3) (.const (.pointer none)) x0 (.pointer none)) w fun t4 =>
  bV t4
  (nk x0 fun t7 =>
  fa 0 t7 fun t8 =>
  ld1 t8 w fun t9 =>
  qG Try.prog (bq .neq 23 (.tmp 9) (.const (.pointer none)) t9 (.pointer none)) w fun t10 =>
  R t10 w)
  (R (.bool false) w)

theorem wal_Log_given_s0_eq (R : Value → World → Prop) : ∀ e w, lift Try.prog 12 (bodyOf Try.f60) (finK Try.prog Try.f60.results.toList R) e w = wal_Log_given_s0 R (e 0) w := fun e w => by kernel_rfl

def wal_Log_given (R : Value → World → Prop) (x0 : Value) (w : World) : Prop := wal_Log_given_s0 R x0 w
theorem wal_Log_given_call {R : Value → World → Prop} {x0 : Value} {w : World} (h : wal_Log_given R x0 w) : callG Try.prog 60 #[x0] w R :=
  calls_lift_eq Try.mixed Try.func60 (args := [x0]) rfl rfl rfl rfl ((wal_Log_given_s0_eq R) (envOf [x0]) w) (by kernel_rfl) h
/-! (*quayside/wal.Log).Records -/
def wal_Log_Records_s0 (R : Value → World → Prop) (x0 : Value) (w : World) : Prop :=
  callG Try.prog 60 #[x0] w fun t4 w =>
  qG Try.prog (Op.unary .not t4) w fun t5 =>
  bV t5
  (R (.slice none 0 0) w)
  (nk x0 fun t7 =>
  fa 4 t7 fun t8 =>
  ld1 t8 w fun t9 =>
  callG Try.prog 63 #[t9] w fun t10 w =>
  R t10 w)

theorem wal_Log_Records_s0_eq (R : Value → World → Prop) : ∀ e w, lift Try.prog 11 (bodyOf Try.f37) (finK Try.prog Try.f37.results.toList R) e w = wal_Log_Records_s0 R (e 0) w := fun e w => by kernel_rfl

def wal_Log_Records (R : Value → World → Prop) (x0 : Value) (w : World) : Prop := wal_Log_Records_s0 R x0 w
theorem wal_Log_Records_call {R : Value → World → Prop} {x0 : Value} {w : World} (h : wal_Log_Records R x0 w) : callG Try.prog 37 #[x0] w R :=
  calls_lift_eq Try.mixed Try.func37 (args := [x0]) rfl rfl rfl rfl ((wal_Log_Records_s0_eq R) (envOf [x0]) w) (by kernel_rfl) h
/-! (*quayside/wal.Log).Used -/
def wal_Log_Used_s0 (R : Value → World → Prop) (x0 : Value) (w : World) : Prop :=
  callG Try.prog 60 #[x0] w fun t4 w =>
  qG Try.prog (Op.unary .not t4) w fun t5 =>
  bV t5
  (R (.int .i64 0) w)
  (nk x0 fun t7 =>
  fa 5 t7 fun t8 =>
  ld1 t8 w fun t9 =>
  lenS t9 fun t10 =>
  R t10 w)

theorem wal_Log_Used_s0_eq (R : Value → World → Prop) : ∀ e w, lift Try.prog 11 (bodyOf Try.f38) (finK Try.prog Try.f38.results.toList R) e w = wal_Log_Used_s0 R (e 0) w := fun e w => by kernel_rfl

def wal_Log_Used (R : Value → World → Prop) (x0 : Value) (w : World) : Prop := wal_Log_Used_s0 R x0 w
theorem wal_Log_Used_call {R : Value → World → Prop} {x0 : Value} {w : World} (h : wal_Log_Used R x0 w) : callG Try.prog 38 #[x0] w R :=
  calls_lift_eq Try.mixed Try.func38 (args := [x0]) rfl rfl rfl rfl ((wal_Log_Used_s0_eq R) (envOf [x0]) w) (by kernel_rfl) h
/-! (*quayside/wal.Log).Sync -/
def wal_Log_Sync_s0 (R : Value → World → Prop) (x0 : Value) (w : World) : Prop :=
  callG Try.prog 60 #[x0] w fun t4 w =>
  qG Try.prog (Op.unary .not t4) w fun t5 =>
  bV t5
  (R (.int .i64 1) w)
  (nk x0 fun t7 =>
  fa 0 t7 fun t8 =>
  ld1 t8 w fun t9 =>
  callG Try.prog 15 #[t9] w fun t10 w =>
  R t10 w)

theorem wal_Log_Sync_s0_eq (R : Value → World → Prop) : ∀ e w, lift Try.prog 11 (bodyOf Try.f39) (finK Try.prog Try.f39.results.toList R) e w = wal_Log_Sync_s0 R (e 0) w := fun e w => by kernel_rfl

def wal_Log_Sync (R : Value → World → Prop) (x0 : Value) (w : World) : Prop := wal_Log_Sync_s0 R x0 w
theorem wal_Log_Sync_call {R : Value → World → Prop} {x0 : Value} {w : World} (h : wal_Log_Sync R x0 w) : callG Try.prog 39 #[x0] w R :=
  calls_lift_eq Try.mixed Try.func39 (args := [x0]) rfl rfl rfl rfl ((wal_Log_Sync_s0_eq R) (envOf [x0]) w) (by kernel_rfl) h
/-! slices.Clone[[]string,string] -/
def slices_Clone_string_string_s0 (R : Value → World → Prop) (x0 : Value) (w : World) : Prop :=
  qG Try.prog (bq .eql 36 (.tmp 3) (.const (.slice none 0 0)) x0 (.slice none 0 0)) w fun t4 =>
  bV t4
  (R (.slice none 0 0) w)
  (bsl 9 1 0 (zc Try.prog 9) #[] w fun t5 w =>
  app 9 1 16 (zc Try.prog 9) t5 x0 w fun t7 w =>
  R t7 w)

theorem slices_Clone_string_string_s0_eq (R : Value → World → Prop) : ∀ e w, lift Try.prog 8 (bodyOf Try.f63) (finK Try.prog Try.f63.results.toList R) e w = slices_Clone_string_string_s0 R (e 0) w := fun e w => by kernel_rfl

def slices_Clone_string_string (R : Value → World → Prop) (x0 : Value) (w : World) : Prop := slices_Clone_string_string_s0 R x0 w
theorem slices_Clone_string_string_call {R : Value → World → Prop} {x0 : Value} {w : World} (h : slices_Clone_string_string R x0 w) : callG Try.prog 63 #[x0] w R :=
  calls_lift_eq Try.mixed Try.func63 (args := [x0]) rfl rfl rfl rfl ((slices_Clone_string_string_s0_eq R) (envOf [x0]) w) (by kernel_rfl) h
/-! (*quayside/wal.Log).sectors -/
def wal_Log_sectors_s0 (R : Value → World → Prop) (w : World) : Prop :=
  R (.int .i64 0) w

theorem wal_Log_sectors_s0_eq (R : Value → World → Prop) : ∀ e w, lift Try.prog 23 (sub (bodyOf Try.f56) [1, 1]) (finK Try.prog Try.f56.results.toList R) e w = wal_Log_sectors_s0 R w := fun e w => by kernel_rfl

def wal_Log_sectors_b1 (R : Value → World → Prop) (N1 : List Value → World → Prop) (x2 x3 x9 : Value) (w : World) : Prop :=
  qG Try.prog (bq .lss 3 (.tmp 12) (.tmp 13) x9 x2) w fun t14 =>
  bV t14
  (callV Try.prog x3 #[x9] w fun t19 w =>
  qG Try.prog (bq .neq 24 (.tmp 20) (.const (.int .i64 0)) t19 (.int .i64 0)) w fun t21 =>
  bV t21
  (R t19 w)
  (qG Try.prog (bq .add 3 (.tmp 15) (.const (.int .i64 1)) x9 (.int .i64 1)) w fun t16 =>
  N1 [x2, x3, t16] w))
  (wal_Log_sectors_s0 R  w)

theorem wal_Log_sectors_b1_eq (R : Value → World → Prop) (N1 : List Value → World → Prop) : ∀ e w, lift Try.prog 23 (sub (bodyOf Try.f56) [1, 0, 1, 0, 0]) (seqK (fun e w => N1 [e 2, e 3, e 9] w) (blockK 0 (seqK (fun e w => wal_Log_sectors_s0 R  w) (finK Try.prog Try.f56.results.toList R)))) e w = wal_Log_sectors_b1 R N1 (e 2) (e 3) (e 9) w := fun e w => by kernel_rfl

def wal_Log_sectors_L2F (R : Value → World → Prop) (N1 : List Value → World → Prop) (xs : List Value) (w : World) : Prop :=
  match xs with
  | [x2, x3, x9] => wal_Log_sectors_b1 R N1 x2 x3 x9 w
  | _ => False

def wal_Log_sectors_L2 (R : Value → World → Prop) (x2 x3 x9 : Value) (w : World) : Prop :=
  ∃ m, loopV (wal_Log_sectors_L2F R) m [x2, x3, x9] w

theorem wal_Log_sectors_L2_eq (R : Value → World → Prop) : ∀ e w, lift Try.prog 23 (sub (bodyOf Try.f56) [1, 0, 1, 0]) (blockK 0 (seqK (fun e w => wal_Log_sectors_s0 R  w) (finK Try.prog Try.f56.results.toList R))) e w = wal_Log_sectors_L2 R (e 2) (e 3) (e 9) w := loop_seg (F := wal_Log_sectors_L2F R) (sel := fun e => [e 2, e 3, e 9]) fun N1 => (wal_Log_sectors_b1_eq R N1)

def wal_Log_sectors_s3 (R : Value → World → Prop) (x1 x2 x3 : Value) (w : World) : Prop :=
  wal_Log_sectors_L2 R x2 x3 x1 w

theorem wal_Log_sectors_s3_eq (R : Value → World → Prop) : ∀ e w, lift Try.prog 23 (sub (bodyOf Try.f56) [1, 0]) (seqK (fun e w => wal_Log_sectors_s0 R  w) (finK Try.prog Try.f56.results.toList R)) e w = wal_Log_sectors_s3 R (e 1) (e 2) (e 3) w :=
  segs_eq (l := [(sub (bodyOf Try.f56) [1, 0, 0])]) (y := (sub (bodyOf Try.f56) [1, 0, 1])) (Y := (fun e w => wal_Log_sectors_L2 R (e 2) (e 3) (e 9) w)) (wal_Log_sectors_L2_eq R) (fun e w => by kernel_rfl)

def wal_Log_sectors_s4 (R : Value → World → Prop) (x1 x2 x3 : Value) (w : World) : Prop :=
  wal_Log_sectors_s3 R x1 x2 x3 w

theorem wal_Log_sectors_s4_eq (R : Value → World → Prop) : ∀ e w, lift Try.prog 23 (bodyOf Try.f56) (finK Try.prog Try.f56.results.toList R) e w = wal_Log_sectors_s4 R (e 1) (e 2) (e 3) w :=
  segs_eq (l := [(sub (bodyOf Try.f56) [0])]) (y := (sub (bodyOf Try.f56) [1])) (Y := (fun e w => wal_Log_sectors_s3 R (e 1) (e 2) (e 3) w)) (seq_seg (x := (sub (bodyOf Try.f56) [1, 0])) (y := (sub (bodyOf Try.f56) [1, 1])) (wal_Log_sectors_s0_eq R) (wal_Log_sectors_s3_eq R)) (fun e w => by kernel_rfl)

def wal_Log_sectors (R : Value → World → Prop) (x0 x1 x2 x3 : Value) (w : World) : Prop := wal_Log_sectors_s4 R x1 x2 x3 w
theorem wal_Log_sectors_call {R : Value → World → Prop} {x0 x1 x2 x3 : Value} {w : World} (h : wal_Log_sectors R x0 x1 x2 x3 w) : callG Try.prog 56 #[x0, x1, x2, x3] w R :=
  calls_lift_eq Try.mixed Try.func56 (args := [x0, x1, x2, x3]) rfl rfl rfl rfl ((wal_Log_sectors_s4_eq R) (envOf [x0, x1, x2, x3]) w) (by kernel_rfl) h
/-! quayside/wal.Open -/
def wal_Open_s0 (R : Value → World → Prop) (x1 x2 x3 x4 : Value) (w : World) : Prop :=
  ld1 x4 w fun t32 =>
  bld [(0, 1), (1, 1), (2, 1), (3, 1), (4, 1), (5, 1)] (zc Try.prog 71) #[(0, t32), (1, x1), (2, x2), (3, x3)] fun t36 =>
  newG (Value.cells t36) 71 w fun t37 w =>
  newG (zc Try.prog 107) 107 w fun t11 w =>
  qG Try.prog (Instr.makeFunc (.func 57) #[] #[x4, t11]) w fun t41 =>
  callG Try.prog 56 #[t37, x1, x2, t41] w fun t42 w =>
  qG Try.prog (bq .neq 24 (.tmp 43) (.const (.int .i64 0)) t42 (.int .i64 0)) w fun t44 =>
  bV t44
  (R (.tuple #[(.pointer none), t42]) w)
  (callG Try.prog 59 #[t11] w fun t49 w =>
  callG Try.prog 32 #[x3, t49] w fun t50 w =>
  qG Try.prog (Instr.extract t50 0) w fun t51 =>
  qG Try.prog (Instr.extract t50 1) w fun t52 =>
  nk t37 fun t53 =>
  fa 4 t53 fun t54 =>
  st1 t54 t51 w fun w =>
  callG Try.prog 59 #[t11] w fun t56 w =>
  slS t56 none (some t52) fun t58 =>
  nk t37 fun t59 =>
  fa 5 t59 fun t60 =>
  st1 t60 t58 w fun w =>
  R (.tuple #[t37, (.int .i64 0)]) w)

theorem wal_Open_s0_eq (R : Value → World → Prop) : ∀ e w, lift Try.prog 62 (sub (bodyOf Try.f35) [1, 1]) (finK Try.prog Try.f35.results.toList R) e w = wal_Open_s0 R (e 1) (e 2) (e 3) (e 4) w := fun e w => by kernel_rfl

def wal_Open_s1 (R : Value → World → Prop) (x0 x1 x2 x3 : Value) (w : World) : Prop :=
  newG (Value.cells x0) 23 w fun t4 w =>
  qG Try.prog (bq .lss 3 (.tmp 14) (.const (.int .i64 0)) x1 (.int .i64 0)) w fun t15 =>
  bV t15
  (R (.tuple #[(.pointer none), (.int .i64 1)]) w)
  (ld1 t4 w fun t18 =>
  callG Try.prog 28 #[t18] w fun t19 w =>
  qG Try.prog (bq .gtr 3 (.tmp 17) (.tmp 19) x2 t19) w fun t20 =>
  bV t20
  (R (.tuple #[(.pointer none), (.int .i64 1)]) w)
  (qG Try.prog (bq .geq 3 (.tmp 23) (.tmp 24) x1 x2) w fun t25 =>
  bV t25
  (R (.tuple #[(.pointer none), (.int .i64 1)]) w)
  (callG Try.prog 49 #[x3] w fun t29 w =>
  qG Try.prog (Op.unary .not t29) w fun t30 =>
  bV t30
  (R (.tuple #[(.pointer none), (.int .i64 1)]) w)
  (wal_Open_s0 R x1 x2 x3 t4 w))))

theorem wal_Open_s1_eq (R : Value → World → Prop) : ∀ e w, lift Try.prog 62 (bodyOf Try.f35) (finK Try.prog Try.f35.results.toList R) e w = wal_Open_s1 R (e 0) (e 1) (e 2) (e 3) w :=
  segs_eq (l := [(sub (bodyOf Try.f35) [0]), (sub (bodyOf Try.f35) [1, 0])]) (y := (sub (bodyOf Try.f35) [1, 1])) (Y := (fun e w => wal_Open_s0 R (e 1) (e 2) (e 3) (e 4) w)) (wal_Open_s0_eq R) (fun e w => by kernel_rfl)

def wal_Open (R : Value → World → Prop) (x0 x1 x2 x3 : Value) (w : World) : Prop := wal_Open_s1 R x0 x1 x2 x3 w
theorem wal_Open_call {R : Value → World → Prop} {x0 x1 x2 x3 : Value} {w : World} (h : wal_Open R x0 x1 x2 x3 w) : callG Try.prog 35 #[x0, x1, x2, x3] w R :=
  calls_lift_eq Try.mixed Try.func35 (args := [x0, x1, x2, x3]) rfl rfl rfl rfl ((wal_Open_s1_eq R) (envOf [x0, x1, x2, x3]) w) (by kernel_rfl) h
/-! quayside/wal.Open$1 -/
def wal_Open_1_s0 (R : Value → World → Prop) (x0 x1 x2 : Value) (w : World) : Prop :=
  ld1 x1 w fun t8 =>
  callG Try.prog 17 #[t8, x0] w fun t10 w =>
  qG Try.prog (Instr.extract t10 0) w fun t11 =>
  qG Try.prog (Instr.extract t10 1) w fun t12 =>
  callG Try.prog 58 #[x2, t11] w fun t14 w =>
  R t12 w

theorem wal_Open_1_s0_eq (R : Value → World → Prop) : ∀ e w, lift Try.prog 16 (bodyOf Try.f57) (finK Try.prog Try.f57.results.toList R) e w = wal_Open_1_s0 R (e 0) (e 1) (e 2) w := fun e w => by kernel_rfl

def wal_Open_1 (R : Value → World → Prop) (x0 x1 x2 : Value) (w : World) : Prop := wal_Open_1_s0 R x0 x1 x2 w
theorem wal_Open_1_call {R : Value → World → Prop} {x0 x1 x2 : Value} {w : World} (h : wal_Open_1 R x0 x1 x2 w) : callG Try.prog 57 #[x0, x1, x2] w R :=
  calls_lift_eq Try.mixed Try.func57 (args := [x0, x1, x2]) rfl rfl rfl rfl ((wal_Open_1_s0_eq R) (envOf [x0, x1, x2]) w) (by kernel_rfl) h
/-! (*strings.Builder).WriteString -/
def strings_Builder_WriteString_s0 (R : Value → World → Prop) (x0 x1 : Value) (w : World) : Prop :=
  callG Try.prog 70 #[x0] w fun t7 w =>
  nk x0 fun t10 =>
  fa 1 t10 fun t11 =>
  ld1 t11 w fun t12 =>
  app 5 1 1 (zc Try.prog 5) t12 x1 w fun t14 w =>
  nk x0 fun t15 =>
  fa 1 t15 fun t16 =>
  st1 t16 t14 w fun w =>
  lenS x1 fun t18 =>
  R (.tuple #[t18, .nilIface]) w

theorem strings_Builder_WriteString_s0_eq (R : Value → World → Prop) : ∀ e w, lift Try.prog 19 (bodyOf Try.f58) (finK Try.prog Try.f58.results.toList R) e w = strings_Builder_WriteString_s0 R (e 0) (e 1) w := fun e w => by kernel_rfl

def strings_Builder_WriteString (R : Value → World → Prop) (x0 x1 : Value) (w : World) : Prop := strings_Builder_WriteString_s0 R x0 x1 w
theorem strings_Builder_WriteString_call {R : Value → World → Prop} {x0 x1 : Value} {w : World} (h : strings_Builder_WriteString R x0 x1 w) : callG Try.prog 58 #[x0, x1] w R :=
  calls_lift_eq Try.mixed Try.func58 (args := [x0, x1]) rfl rfl rfl rfl ((strings_Builder_WriteString_s0_eq R) (envOf [x0, x1]) w) (by kernel_rfl) h
/-! (*strings.Builder).copyCheck -/
def strings_Builder_copyCheck_s0 (R : Value → World → Prop) (x0 : Value) (w : World) : Prop :=
  nk x0 fun t3 =>
  fa 0 t3 fun t4 =>
  ld1 t4 w fun t5 =>
  qG Try.prog (bq .eql 105 (.tmp 5) (.const (.pointer none)) t5 (.pointer none)) w fun t6 =>
  bV t6
  (eG Try.prog (convert 105 122 x0) w fun t9 w =>
  nG Try.prog (callFunc 71 #[t9]) w fun t10 w =>
  eG Try.prog (convert 122 105 t10) w fun t11 w =>
  nk x0 fun t12 =>
  fa 0 t12 fun t13 =>
  st1 t13 t11 w fun w =>
  R (.tuple #[]) w)
  (nk x0 fun t15 =>
  fa 0 t15 fun t16 =>
  ld1 t16 w fun t17 =>
  qG Try.prog (bq .neq 105 (.tmp 17) (.tmp 18) t17 x0) w fun t19 =>
  bV t19
  (False)
  (R (.tuple #[]) w))

theorem strings_Builder_copyCheck_s0_eq (R : Value → World → Prop) : ∀ e w, lift Try.prog 20 (bodyOf Try.f70) (finK Try.prog Try.f70.results.toList R) e w = strings_Builder_copyCheck_s0 R (e 0) w := fun e w => by kernel_rfl

def strings_Builder_copyCheck (R : Value → World → Prop) (x0 : Value) (w : World) : Prop := strings_Builder_copyCheck_s0 R x0 w
theorem strings_Builder_copyCheck_call {R : Value → World → Prop} {x0 : Value} {w : World} (h : strings_Builder_copyCheck R x0 w) : callG Try.prog 70 #[x0] w R :=
  calls_lift_eq Try.mixed Try.func70 (args := [x0]) rfl rfl rfl rfl ((strings_Builder_copyCheck_s0_eq R) (envOf [x0]) w) (by kernel_rfl) h
/-! (*strings.Builder).String -/
def strings_Builder_String_s0 (R : Value → World → Prop) (x0 : Value) (w : World) : Prop :=
  nk x0 fun t4 =>
  fa 1 t4 fun t5 =>
  ld1 t5 (World.drew w) fun t6 =>
  nk x0 fun t9 =>
  fa 1 t9 fun t10 =>
  ld1 t10 (World.drew w) fun t11 =>
  lenL t11 fun t12 =>
  eG Try.prog (Builtin.unsafeSliceData_ #[89] 121 #[t6]) (World.drew w) fun t7 w =>
  ld1 t10 w (fun u => u = t11) ∧
  eG Try.prog (Builtin.unsafeString_ #[121, 3] 9 #[t7, t12]) w fun t13 w =>
  R t13 w

theorem strings_Builder_String_s0_eq (R : Value → World → Prop) : ∀ e w, lift Try.prog 14 (bodyOf Try.f59) (finK Try.prog Try.f59.results.toList R) e w = strings_Builder_String_s0 R (e 0) w := fun e w => by kernel_rfl

def strings_Builder_String (R : Value → World → Prop) (x0 : Value) (w : World) : Prop := strings_Builder_String_s0 R x0 w
theorem strings_Builder_String_call {R : Value → World → Prop} {x0 : Value} {w : World} (h : strings_Builder_String R x0 w) : callG Try.prog 59 #[x0] w R :=
  calls_lift_eq Try.mixed Try.func59 (args := [x0]) rfl rfl rfl rfl ((strings_Builder_String_s0_eq R) (envOf [x0]) w) (by kernel_rfl) h
/-! (*strings.Builder).Len -/
def strings_Builder_Len_s0 (R : Value → World → Prop) (x0 : Value) (w : World) : Prop :=
  nk x0 fun t4 =>
  fa 1 t4 fun t5 =>
  ld1 t5 w fun t6 =>
  lenL t6 fun t7 =>
  R t7 w

theorem strings_Builder_Len_s0_eq (R : Value → World → Prop) : ∀ e w, lift Try.prog 8 (bodyOf Try.f61) (finK Try.prog Try.f61.results.toList R) e w = strings_Builder_Len_s0 R (e 0) w := fun e w => by kernel_rfl

def strings_Builder_Len (R : Value → World → Prop) (x0 : Value) (w : World) : Prop := strings_Builder_Len_s0 R x0 w
theorem strings_Builder_Len_call {R : Value → World → Prop} {x0 : Value} {w : World} (h : strings_Builder_Len R x0 w) : callG Try.prog 61 #[x0] w R :=
  calls_lift_eq Try.mixed Try.func61 (args := [x0]) rfl rfl rfl rfl ((strings_Builder_Len_s0_eq R) (envOf [x0]) w) (by kernel_rfl) h
/-! (*quayside/wal.Log).Add -/
def wal_Log_Add_s0 (R : Value → World → Prop) (x1 x2 x12 : Value) (w : World) : Prop :=
  ld1 x2 (World.drew w) fun t93 =>
  ld1 x2 (World.drew w) fun t94 =>
  ld1 x2 (World.drew w) fun t95 =>
  nk t95 fun t96 =>
  fa 4 t96 fun t97 =>
  ld1 t97 (World.drew w) fun t98 =>
  ld1 x12 (World.drew w) fun t101 =>
  app 9 1 16 (zc Try.prog 9) t98 x1 (World.drew w) fun t100 w =>
  ld1 x12 w (fun u => u = t101) ∧
  ld1 x2 w (fun u => u = t94) ∧
  ld1 x2 w (fun u => u = t93) ∧
  nk t93 fun t102 =>
  fa 4 t102 fun t103 =>
  st1 t103 t100 w fun w =>
  ld1 x12 w (fun u => u = t101) ∧
  ld1 x2 w (fun u => u = t94) ∧
  nk t94 fun t104 =>
  fa 5 t104 fun t105 =>
  st1 t105 t101 w fun w =>
  R (.int .i64 0) w

theorem wal_Log_Add_s0_eq (R : Value → World → Prop) : ∀ e w, lift Try.prog 106 (sub (bodyOf Try.f36) [1, 1, 1, 1, 1, 1, 1, 1, 1, 1]) (finK Try.prog Try.f36.results.toList R) e w = wal_Log_Add_s0 R (e 1) (e 2) (e 12) w := fun e w => by kernel_rfl

def wal_Log_Add_s1 (R : Value → World → Prop) (x1 x2 x5 x7 : Value) (w : World) : Prop :=
  bV x7
  (R (.int .i64 2) w)
  (ld1 x2 (World.drew w) fun t67 =>
  nk t67 fun t68 =>
  fa 5 t68 fun t69 =>
  ld1 t69 (World.drew w) fun t70 =>
  (callG Try.prog 59 #[x5] (World.drew w) fun t71 w =>
  ld1 t69 w (fun u => u = t70) ∧
  ld1 x2 w (fun u => u = t67) ∧
  qG Try.prog (bq .add 9 (.tmp 70) (.tmp 71) t70 t71) w fun t72 =>
  newG (zc Try.prog 9) 9 w fun t12 w =>
  stb Try.prog (bq .add 9 (.tmp 70) (.tmp 71) t70 t71) t72 w ∧
  ld1 t69 w (fun u => u = t70) ∧
  ld1 x2 w (fun u => u = t67) ∧
  st1 t12 t72 w fun w =>
  ld1 x2 w fun t73 =>
  nk t73 fun t74 =>
  fa 5 t74 fun t75 =>
  ld1 t75 w fun t76 =>
  lenS t76 fun t77 =>
  qG Try.prog (bq .quo 3 (.tmp 77) (.const (.int .i64 32)) t77 (.int .i64 32)) w fun t78 =>
  callG Try.prog 61 #[x5] w fun t79 w =>
  qG Try.prog (bq .gtr 3 (.tmp 79) (.const (.int .i64 0)) t79 (.int .i64 0)) w fun t80 =>
  bV t80
  (ld1 x2 w fun t81 =>
  ld1 t12 w fun t83 =>
  lenS t83 fun t84 =>
  qG Try.prog (bq .add 3 (.tmp 84) (.const (.int .i64 32)) t84 (.int .i64 32)) w fun t85 =>
  qG Try.prog (bq .sub 3 (.tmp 85) (.const (.int .i64 1)) t85 (.int .i64 1)) w fun t86 =>
  qG Try.prog (bq .quo 3 (.tmp 86) (.const (.int .i64 32)) t86 (.int .i64 32)) w fun t87 =>
  qG Try.prog (Instr.makeFunc (.func 62) #[] #[t12, x2]) w fun t88 =>
  callG Try.prog 56 #[t81, t78, t87, t88] w fun t89 w =>
  qG Try.prog (bq .neq 24 (.tmp 90) (.const (.int .i64 0)) t89 (.int .i64 0)) w fun t91 =>
  bV t91
  (R t89 w)
  (wal_Log_Add_s0 R x1 x2 t12 w))
  (wal_Log_Add_s0 R x1 x2 t12 w)) ∧
  (newG (zc Try.prog 9) 9 (World.drew w) fun t12_1 w =>
  ld1 t69 w (fun u => u = t70) ∧
  ld1 x2 w (fun u => u = t67) ∧
  callG Try.prog 59 #[x5] w fun t71_1 w =>
  ld1 t69 w (fun u => u = t70) ∧
  ld1 x2 w (fun u => u = t67) ∧
  qG Try.prog (bq .add 9 (.tmp 70) (.tmp 71) t70 t71_1) w fun t72_1 =>
  st1 t12_1 t72_1 w fun w =>
  ld1 x2 w fun t73_1 =>
  nk t73_1 fun t74_1 =>
  fa 5 t74_1 fun t75_1 =>
  ld1 t75_1 w fun t76_1 =>
  lenS t76_1 fun t77_1 =>
  qG Try.prog (bq .quo 3 (.tmp 77) (.const (.int .i64 32)) t77_1 (.int .i64 32)) w fun t78_1 =>
  callG Try.prog 61 #[x5] w fun t79_1 w =>
  qG Try.prog (bq .gtr 3 (.tmp 79) (.const (.int .i64 0)) t79_1 (.int .i64 0)) w fun t80_1 =>
  bV t80_1
  (ld1 x2 w fun t81_1 =>
  ld1 t12_1 w fun t83_1 =>
  lenS t83_1 fun t84_1 =>
  qG Try.prog (bq .add 3 (.tmp 84) (.const (.int .i64 32)) t84_1 (.int .i64 32)) w fun t85_1 =>
  qG Try.prog (bq .sub 3 (.tmp 85) (.const (.int .i64 1)) t85_1 (.int .i64 1)) w fun t86_1 =>
  qG Try.prog (bq .quo 3 (.tmp 86) (.const (.int .i64 32)) t86_1 (.int .i64 32)) w fun t87_1 =>
  qG Try.prog (Instr.makeFunc (.func 62) #[] #[t12_1, x2]) w fun t88_1 =>
  callG Try.prog 56 #[t81_1, t78_1, t87_1, t88_1] w fun t89_1 w =>
  qG Try.prog (bq .neq 24 (.tmp 90) (.const (.int .i64 0)) t89_1 (.int .i64 0)) w fun t91_1 =>
  bV t91_1
  (R t89_1 w)
  (wal_Log_Add_s0 R x1 x2 t12_1 w))
  (wal_Log_Add_s0 R x1 x2 t12_1 w)))

theorem wal_Log_Add_s1_eq (R : Value → World → Prop) : ∀ e w, lift Try.prog 106 (sub (bodyOf Try.f36) [1, 1, 1, 1, 1, 1]) (finK Try.prog Try.f36.results.toList R) e w = wal_Log_Add_s1 R (e 1) (e 2) (e 5) (e 7) w :=
  segs_eq (l := [(sub (bodyOf Try.f36) [1, 1, 1, 1, 1, 1, 0]), (sub (bodyOf Try.f36) [1, 1, 1, 1, 1, 1, 1, 0]), (sub (bodyOf Try.f36) [1, 1, 1, 1, 1, 1, 1, 1, 0]), (sub (bodyOf Try.f36) [1, 1, 1, 1, 1, 1, 1, 1, 1, 0])]) (y := (sub (bodyOf Try.f36) [1, 1, 1, 1, 1, 1, 1, 1, 1, 1])) (Y := (fun e w => wal_Log_Add_s0 R (e 1) (e 2) (e 12) w)) (wal_Log_Add_s0_eq R) (fun e w => by kernel_rfl)

def wal_Log_Add_b2 (R : Value → World → Prop) (N1 : List Value → World → Prop) (x1 x2 x5 x6 x7 x34 x35 x36 : Value) (w : World) : Prop :=
  qG Try.prog (bq .lss 3 (.tmp 36) (.tmp 35) x36 x35) w fun t37 =>
  bV t37
  (ia 1 x34 x36 fun t38 =>
  ld1 t38 w fun t39 =>
  ld1 x2 w fun t41 =>
  nk t41 fun t42 =>
  fa 3 t42 fun t43 =>
  ld1 t43 w fun t44 =>
  callG Try.prog 30 #[t44, t39] w fun t46 w =>
  qG Try.prog (Instr.extract t46 0) w fun t47 =>
  qG Try.prog (Instr.extract t46 1) w fun t48 =>
  qG Try.prog (bq .neq 24 (.tmp 49) (.const (.int .i64 0)) t48 (.int .i64 0)) w fun t50 =>
  bV t50
  (R t48 w)
  (bV x7
  (qG Try.prog (Op.unary .not (.bool true)) w fun t62 =>
  bV t62
  (callG Try.prog 58 #[x5, t47] w fun t64 w =>
  qG Try.prog (bq .add 3 (.tmp 36) (.const (.int .i64 1)) x36 (.int .i64 1)) w fun t65 =>
  N1 [x1, x2, x5, x6, (.bool true), x34, x35, t65] w)
  (qG Try.prog (bq .add 3 (.tmp 36) (.const (.int .i64 1)) x36 (.int .i64 1)) w fun t65_1 =>
  N1 [x1, x2, x5, x6, (.bool true), x34, x35, t65_1] w))
  (lenS t47 fun t55 =>
  callG Try.prog 61 #[x5] w fun t57 w =>
  qG Try.prog (bq .sub 3 (.tmp 56) (.tmp 57) x6 t57) w fun t58 =>
  qG Try.prog (bq .gtr 3 (.tmp 55) (.tmp 58) t55 t58) w fun t59 =>
  qG Try.prog (Op.unary .not t59) w fun t62_1 =>
  bV t62_1
  (callG Try.prog 58 #[x5, t47] w fun t64_1 w =>
  qG Try.prog (bq .add 3 (.tmp 36) (.const (.int .i64 1)) x36 (.int .i64 1)) w fun t65_2 =>
  N1 [x1, x2, x5, x6, t59, x34, x35, t65_2] w)
  (qG Try.prog (bq .add 3 (.tmp 36) (.const (.int .i64 1)) x36 (.int .i64 1)) w fun t65_3 =>
  N1 [x1, x2, x5, x6, t59, x34, x35, t65_3] w))))
  (wal_Log_Add_s1 R x1 x2 x5 x7 w)

theorem wal_Log_Add_b2_eq (R : Value → World → Prop) (N1 : List Value → World → Prop) : ∀ e w, lift Try.prog 106 (sub (bodyOf Try.f36) [1, 1, 1, 1, 1, 0, 1, 0, 0]) (seqK (fun e w => N1 [e 1, e 2, e 5, e 6, e 7, e 34, e 35, e 36] w) (blockK 0 (seqK (fun e w => wal_Log_Add_s1 R (e 1) (e 2) (e 5) (e 7) w) (finK Try.prog Try.f36.results.toList R)))) e w = wal_Log_Add_b2 R N1 (e 1) (e 2) (e 5) (e 6) (e 7) (e 34) (e 35) (e 36) w := fun e w => by kernel_rfl

def wal_Log_Add_L3F (R : Value → World → Prop) (N1 : List Value → World → Prop) (xs : List Value) (w : World) : Prop :=
  match xs with
  | [x1, x2, x5, x6, x7, x34, x35, x36] => wal_Log_Add_b2 R N1 x1 x2 x5 x6 x7 x34 x35 x36 w
  | _ => False

def wal_Log_Add_L3 (R : Value → World → Prop) (x1 x2 x5 x6 x7 x34 x35 x36 : Value) (w : World) : Prop :=
  ∃ m, loopV (wal_Log_Add_L3F R) m [x1, x2, x5, x6, x7, x34, x35, x36] w

theorem wal_Log_Add_L3_eq (R : Value → World → Prop) : ∀ e w, lift Try.prog 106 (sub (bodyOf Try.f36) [1, 1, 1, 1, 1, 0, 1, 0]) (blockK 0 (seqK (fun e w => wal_Log_Add_s1 R (e 1) (e 2) (e 5) (e 7) w) (finK Try.prog Try.f36.results.toList R))) e w = wal_Log_Add_L3 R (e 1) (e 2) (e 5) (e 6) (e 7) (e 34) (e 35) (e 36) w := loop_seg (F := wal_Log_Add_L3F R) (sel := fun e => [e 1, e 2, e 5, e 6, e 7, e 34, e 35, e 36]) fun N1 => (wal_Log_Add_b2_eq R N1)

def wal_Log_Add_s4 (R : Value → World → Prop) (x1 x2 x5 x6 x7 : Value) (w : World) : Prop :=
  lenL x1 fun t35 =>
  wal_Log_Add_L3 R x1 x2 x5 x6 x7 x1 t35 (.int .i64 0) w

theorem wal_Log_Add_s4_eq (R : Value → World → Prop) : ∀ e w, lift Try.prog 106 (sub (bodyOf Try.f36) [1, 1, 1, 1, 1, 0]) (seqK (fun e w => wal_Log_Add_s1 R (e 1) (e 2) (e 5) (e 7) w) (finK Try.prog Try.f36.results.toList R)) e w = wal_Log_Add_s4 R (e 1) (e 2) (e 5) (e 6) (e 7) w :=
  segs_eq (l := [(sub (bodyOf Try.f36) [1, 1, 1, 1, 1, 0, 0])]) (y := (sub (bodyOf Try.f36) [1, 1, 1, 1, 1, 0, 1])) (Y := (fun e w => wal_Log_Add_L3 R (e 1) (e 2) (e 5) (e 6) (e 7) (e 34) (e 35) (e 36) w)) (wal_Log_Add_L3_eq R) (fun e w => by kernel_rfl)

def wal_Log_Add_s5 (R : Value → World → Prop) (x0 x1 : Value) (w : World) : Prop :=
  newG (Value.cells x0) 64 w fun t2 w =>
  ld1 t2 w fun t15 =>
  callG Try.prog 60 #[t15] w fun t16 w =>
  qG Try.prog (Op.unary .not t16) w fun t17 =>
  bV t17
  (R (.int .i64 1) w)
  (newG (zc Try.prog 107) 107 w fun t5 w =>
  ld1 t2 (World.drew w) fun t18 =>
  nk t18 fun t19 =>
  fa 2 t19 fun t20 =>
  ld1 t20 (World.drew w) fun t21 =>
  ld1 t2 (World.drew w) fun t22 =>
  nk t22 fun t23 =>
  fa 1 t23 fun t24 =>
  ld1 t24 (World.drew w) fun t25 =>
  qG Try.prog (bq .sub 3 (.tmp 21) (.tmp 25) t21 t25) (World.drew w) fun t26 =>
  qG Try.prog (bq .mul 3 (.const (.int .i64 32)) (.tmp 26) (.int .i64 32) t26) (World.drew w) fun t27 =>
  ld1 t2 (World.drew w) fun t28 =>
  nk t28 fun t29 =>
  fa 5 t29 fun t30 =>
  ld1 t30 (World.drew w) fun t31 =>
  lenS t31 fun t32 =>
  qG Try.prog (bq .sub 3 (.tmp 27) (.tmp 32) t27 t32) (World.drew w) fun t33 =>
  wal_Log_Add_s4 R x1 t2 t5 t33 (.bool false) (World.drew w))

theorem wal_Log_Add_s5_eq (R : Value → World → Prop) : ∀ e w, lift Try.prog 106 (bodyOf Try.f36) (finK Try.prog Try.f36.results.toList R) e w = wal_Log_Add_s5 R (e 0) (e 1) w :=
  segs_eq (l := [(sub (bodyOf Try.f36) [0]), (sub (bodyOf Try.f36) [1, 0]), (sub (bodyOf Try.f36) [1, 1, 0]), (sub (bodyOf Try.f36) [1, 1, 1, 0]), (sub (bodyOf Try.f36) [1, 1, 1, 1, 0])]) (y := (sub (bodyOf Try.f36) [1, 1, 1, 1, 1])) (Y := (fun e w => wal_Log_Add_s4 R (e 1) (e 2) (e 5) (e 6) (e 7) w)) (seq_seg (x := (sub (bodyOf Try.f36) [1, 1, 1, 1, 1, 0])) (y := (sub (bodyOf Try.f36) [1, 1, 1, 1, 1, 1])) (wal_Log_Add_s1_eq R) (wal_Log_Add_s4_eq R)) (fun e w => by kernel_rfl)

def wal_Log_Add (R : Value → World → Prop) (x0 x1 : Value) (w : World) : Prop := wal_Log_Add_s5 R x0 x1 w
theorem wal_Log_Add_call {R : Value → World → Prop} {x0 x1 : Value} {w : World} (h : wal_Log_Add R x0 x1 w) : callG Try.prog 36 #[x0, x1] w R :=
  calls_lift_eq Try.mixed Try.func36 (args := [x0, x1]) rfl rfl rfl rfl ((wal_Log_Add_s5_eq R) (envOf [x0, x1]) w) (by kernel_rfl) h
/-! (*quayside/wal.Log).Add$1 -/
def wal_Log_Add_1_s0 (R : Value → World → Prop) (x0 x1 x2 : Value) (w : World) : Prop :=
  ld1 x1 w fun t8 =>
  qG Try.prog (bq .mul 3 (.const (.int .i64 32)) (.tmp 9) (.int .i64 32) x0) w fun t10 =>
  qG Try.prog (bq .mul 3 (.const (.int .i64 32)) (.tmp 11) (.int .i64 32) x0) w fun t12 =>
  qG Try.prog (bq .add 3 (.tmp 12) (.const (.int .i64 32)) t12 (.int .i64 32)) w fun t13 =>
  ld1 x1 w fun t14 =>
  lenS t14 fun t15 =>
  qG Try.prog (Builtin.min_ #[3, 3] 3 #[t13, t15]) w fun t16 =>
  slS t8 (some t10) (some t16) fun t17 =>
  ld1 x2 (World.drew w) fun t19 =>
  nk t19 fun t20 =>
  fa 0 t20 fun t21 =>
  ld1 t21 (World.drew w) fun t22 =>
  ld1 x2 (World.drew w) fun t23 =>
  nk t23 fun t24 =>
  fa 1 t24 fun t25 =>
  ld1 t25 (World.drew w) fun t26 =>
  qG Try.prog (bq .add 3 (.tmp 26) (.tmp 27) t26 x0) (World.drew w) fun t28 =>
  callG Try.prog 17 #[t22, t28] (World.drew w) fun t29 w =>
  qG Try.prog (Instr.extract t29 0) w fun t30 =>
  qG Try.prog (Instr.extract t29 1) w fun t31 =>
  qG Try.prog (bq .neq 24 (.tmp 32) (.const (.int .i64 0)) t31 (.int .i64 0)) w fun t33 =>
  bV t33
  (R t31 w)
  (ld1 x2 (World.drew w) fun t35 =>
  nk t35 fun t36 =>
  fa 0 t36 fun t37 =>
  ld1 t37 (World.drew w) fun t38 =>
  ld1 x2 (World.drew w) fun t39 =>
  nk t39 fun t40 =>
  fa 1 t40 fun t41 =>
  ld1 t41 (World.drew w) fun t42 =>
  qG Try.prog (bq .add 3 (.tmp 42) (.tmp 43) t42 x0) (World.drew w) fun t44 =>
  lenS t17 fun t48 =>
  slS t30 (some t48) none fun t49 =>
  qG Try.prog (bq .add 9 (.tmp 45) (.tmp 49) t17 t49) (World.drew w) fun t50 =>
  callG Try.prog 13 #[t38, t44, t50] (World.drew w) fun t51 w =>
  R t51 w)

theorem wal_Log_Add_1_s0_eq (R : Value → World → Prop) : ∀ e w, lift Try.prog 52 (bodyOf Try.f62) (finK Try.prog Try.f62.results.toList R) e w = wal_Log_Add_1_s0 R (e 0) (e 1) (e 2) w := fun e w => by kernel_rfl

def wal_Log_Add_1 (R : Value → World → Prop) (x0 x1 x2 : Value) (w : World) : Prop := wal_Log_Add_1_s0 R x0 x1 x2 w
theorem wal_Log_Add_1_call {R : Value → World → Prop} {x0 x1 x2 : Value} {w : World} (h : wal_Log_Add_1 R x0 x1 x2 w) : callG Try.prog 62 #[x0, x1, x2] w R :=
  calls_lift_eq Try.mixed Try.func62 (args := [x0, x1, x2]) rfl rfl rfl rfl ((wal_Log_Add_1_s0_eq R) (envOf [x0, x1, x2]) w) (by kernel_rfl) h
/-! quayside/quaysidelaw04.awake -/
def law04_awake_s0 (R : Value → World → Prop) (x1 : Value) (w : World) : Prop :=
  callG Try.prog 35 #[x1, (.int .i64 1), (.int .i64 8), (.int .i64 3)] w fun t41 w =>
  qG Try.prog (Instr.extract t41 0) w fun t42 =>
  qG Try.prog (Instr.extract t41 1) w fun t43 =>
  callG Try.prog 35 #[x1, (.int .i64 1), (.int .i64 8), (.int .i64 4)] w fun t46 w =>
  qG Try.prog (Instr.extract t46 0) w fun t47 =>
  qG Try.prog (Instr.extract t46 1) w fun t48 =>
  qG Try.prog (bq .eql 24 (.tmp 49) (.const (.int .i64 0)) t43 (.int .i64 0)) w fun t50 =>
  bV t50
  (qG Try.prog (bq .neq 64 (.tmp 52) (.const (.pointer none)) t42 (.pointer none)) w fun t53 =>
  bV t53
  (callG Try.prog 37 #[t42] w fun t57 w =>
  bsl 9 1 2 (zc Try.prog 9) #[(0, (.string ⟨#[111, 110, 101]⟩)), (1, (.string ⟨#[116, 119, 111]⟩))] w fun t58 w =>
  callG Try.prog 34 #[t57, t58] w fun t59 w =>
  bV t59
  (callG Try.prog 38 #[t42] w fun t63 w =>
  qG Try.prog (bq .eql 3 (.tmp 63) (.const (.int .i64 26)) t63 (.int .i64 26)) w fun t64 =>
  bV t64
  (qG Try.prog (bq .eql 24 (.tmp 67) (.const (.int .i64 0)) t48 (.int .i64 0)) w fun t68 =>
  bV t68
  (qG Try.prog (bq .neq 64 (.tmp 71) (.const (.pointer none)) t47 (.pointer none)) w fun t72 =>
  bV t72
  (callG Try.prog 37 #[t47] w fun t76 w =>
  lenL t76 fun t77 =>
  qG Try.prog (bq .eql 3 (.tmp 77) (.const (.int .i64 0)) t77 (.int .i64 0)) w fun t78 =>
  R t78 w)
  (R (.bool false) w))
  (R (.bool false) w))
  (R (.bool false) w))
  (R (.bool false) w))
  (R (.bool false) w))
  (R (.bool false) w)

theorem law04_awake_s0_eq (R : Value → World → Prop) : ∀ e w, lift Try.prog 80 (sub (bodyOf Try.f29) [1, 1, 1, 1]) (finK Try.prog Try.f29.results.toList R) e w = law04_awake_s0 R (e 1) w := fun e w => by kernel_rfl

def law04_awake_s1 (R : Value → World → Prop) (w : World) : Prop :=
  callG Try.prog 12 #[(.int .i64 8)] w fun t10 w =>
  qG Try.prog (Instr.extract t10 0) w fun t11 =>
  qG Try.prog (Instr.extract t10 1) w fun t12 =>
  callG Try.prog 35 #[t11, (.int .i64 1), (.int .i64 8), (.int .i64 3)] w fun t15 w =>
  qG Try.prog (Instr.extract t15 0) w fun t16 =>
  qG Try.prog (Instr.extract t15 1) w fun t17 =>
  qG Try.prog (bq .neq 24 (.tmp 18) (.const (.int .i64 0)) t12 (.int .i64 0)) w fun t19 =>
  bV t19
  (R (.bool false) w)
  (qG Try.prog (bq .neq 24 (.tmp 21) (.const (.int .i64 0)) t17 (.int .i64 0)) w fun t22 =>
  bV t22
  (R (.bool false) w)
  (qG Try.prog (bq .eql 64 (.tmp 25) (.const (.pointer none)) t16 (.pointer none)) w fun t26 =>
  bV t26
  (R (.bool false) w)
  (bsl 9 1 2 (zc Try.prog 9) #[(0, (.string ⟨#[111, 110, 101]⟩)), (1, (.string ⟨#[116, 119, 111]⟩))] w fun t30 w =>
  callG Try.prog 36 #[t16, t30] w fun t31 w =>
  qG Try.prog (bq .neq 24 (.tmp 31) (.const (.int .i64 0)) t31 (.int .i64 0)) w fun t32 =>
  bV t32
  (R (.bool false) w)
  (callG Try.prog 39 #[t16] w fun t36 w =>
  qG Try.prog (bq .neq 24 (.tmp 36) (.const (.int .i64 0)) t36 (.int .i64 0)) w fun t37 =>
  bV t37
  (R (.bool false) w)
  (law04_awake_s0 R t11 w)))))

theorem law04_awake_s1_eq (R : Value → World → Prop) : ∀ e w, lift Try.prog 80 (bodyOf Try.f29) (finK Try.prog Try.f29.results.toList R) e w = law04_awake_s1 R w :=
  segs_eq (l := [(sub (bodyOf Try.f29) [0]), (sub (bodyOf Try.f29) [1, 0]), (sub (bodyOf Try.f29) [1, 1, 0]), (sub (bodyOf Try.f29) [1, 1, 1, 0])]) (y := (sub (bodyOf Try.f29) [1, 1, 1, 1])) (Y := (fun e w => law04_awake_s0 R (e 1) w)) (law04_awake_s0_eq R) (fun e w => by kernel_rfl)

def law04_awake (R : Value → World → Prop) (w : World) : Prop := law04_awake_s1 R  w
theorem law04_awake_call {R : Value → World → Prop} {w : World} (h : law04_awake R w) : callG Try.prog 29 #[] w R :=
  calls_lift_eq Try.mixed Try.func29 (args := []) rfl rfl rfl rfl ((law04_awake_s1_eq R) (envOf []) w) (by kernel_rfl) h
end Go.Proofs

set_option linter.unusedVariables false
set_option linter.unusedSimpArgs false
namespace Go.Proofs
open Go Go.Q
set_option maxRecDepth 100000
/-! quayside/quaysidelaw04.WalFrames -/
def law04_WalFrames_s0 (R : Value → World → Prop) (x0 x1 x7 x8 : Value) (w : World) : Prop :=
  qG Try.prog (bq .neq 24 (.tmp 69) (.const (.int .i64 0)) x8 (.int .i64 0)) w fun t70 =>
  bV t70
  (callG Try.prog 29 #[] w fun t71 w =>
  R t71 w)
  (callG Try.prog 32 #[x0, x7] w fun t75 w =>
  qG Try.prog (Instr.extract t75 0) w fun t76 =>
  qG Try.prog (Instr.extract t75 1) w fun t77 =>
  bsl 9 1 1 (zc Try.prog 9) #[(0, x1)] w fun t80 w =>
  callG Try.prog 34 #[t76, t80] w fun t81 w =>
  bV t81
  (lenS x7 fun t85 =>
  qG Try.prog (bq .eql 3 (.tmp 83) (.tmp 85) t77 t85) w fun t86 =>
  bV t86
  (lenS x7 fun t90 =>
  lenS x1 fun t92 =>
  qG Try.prog (bq .add 3 (.const (.int .i64 10)) (.tmp 92) (.int .i64 10) t92) w fun t93 =>
  qG Try.prog (bq .eql 3 (.tmp 90) (.tmp 93) t90 t93) w fun t94 =>
  bV t94
  (callG Try.prog 29 #[] w fun t97 w =>
  R t97 w)
  (R (.bool false) w))
  (R (.bool false) w))
  (R (.bool false) w))

theorem law04_WalFrames_s0_eq (R : Value → World → Prop) : ∀ e w, lift Try.prog 99 (sub (bodyOf Try.f7) [1, 1, 1, 1, 1, 1, 1]) (finK Try.prog Try.f7.results.toList R) e w = law04_WalFrames_s0 R (e 0) (e 1) (e 7) (e 8) w := fun e w => by kernel_rfl

def law04_WalFrames_s1 (R : Value → World → Prop) (x0 x1 x2 : Value) (w : World) : Prop :=
  callG Try.prog 30 #[x0, x1] w fun t29 w =>
  qG Try.prog (Instr.extract t29 0) w fun t30 =>
  qG Try.prog (Instr.extract t29 1) w fun t31 =>
  callG Try.prog 31 #[x0, x1] w fun t35 w =>
  qG Try.prog (Instr.extract t35 0) w fun t36 =>
  qG Try.prog (Instr.extract t35 1) w fun t37 =>
  callG Try.prog 32 #[x0, x2] w fun t41 w =>
  qG Try.prog (Instr.extract t41 0) w fun t42 =>
  qG Try.prog (Instr.extract t41 1) w fun t43 =>
  callG Try.prog 33 #[x0, x2] w fun t47 w =>
  qG Try.prog (Instr.extract t47 0) w fun t48 =>
  qG Try.prog (Instr.extract t47 1) w fun t49 =>
  qG Try.prog (bq .neq 9 (.tmp 50) (.tmp 51) t30 t36) w fun t52 =>
  bV t52
  (R (.bool false) w)
  (qG Try.prog (bq .neq 24 (.tmp 54) (.tmp 55) t31 t37) w fun t56 =>
  bV t56
  (R (.bool false) w)
  (callG Try.prog 34 #[t42, t48] w fun t61 w =>
  qG Try.prog (Op.unary .not t61) w fun t62 =>
  bV t62
  (R (.bool false) w)
  (qG Try.prog (bq .neq 3 (.tmp 65) (.tmp 66) t43 t49) w fun t67 =>
  bV t67
  (R (.bool false) w)
  (law04_WalFrames_s0 R x0 x1 t30 t31 w))))

theorem law04_WalFrames_s1_eq (R : Value → World → Prop) : ∀ e w, lift Try.prog 99 (sub (bodyOf Try.f7) [1, 1]) (finK Try.prog Try.f7.results.toList R) e w = law04_WalFrames_s1 R (e 0) (e 1) (e 2) w :=
  segs_eq (l := [(sub (bodyOf Try.f7) [1, 1, 0]), (sub (bodyOf Try.f7) [1, 1, 1, 0]), (sub (bodyOf Try.f7) [1, 1, 1, 1, 0]), (sub (bodyOf Try.f7) [1, 1, 1, 1, 1, 0]), (sub (bodyOf Try.f7) [1, 1, 1, 1, 1, 1, 0])]) (y := (sub (bodyOf Try.f7) [1, 1, 1, 1, 1, 1, 1])) (Y := (fun e w => law04_WalFrames_s0 R (e 0) (e 1) (e 7) (e 8) w)) (law04_WalFrames_s0_eq R) (fun e w => by kernel_rfl)

def law04_WalFrames_s2 (R : Value → World → Prop) (x0 x1 x2 : Value) (w : World) : Prop :=
  lenS x1 fun t18 =>
  qG Try.prog (bq .gtr 3 (.tmp 18) (.const (.int .i64 2048)) t18 (.int .i64 2048)) w fun t19 =>
  bV t19
  (callG Try.prog 29 #[] w fun t25 w =>
  R t25 w)
  (lenS x2 fun t22 =>
  qG Try.prog (bq .gtr 3 (.tmp 22) (.const (.int .i64 1024)) t22 (.int .i64 1024)) w fun t23 =>
  bV t23
  (callG Try.prog 29 #[] w fun t25_1 w =>
  R t25_1 w)
  (law04_WalFrames_s1 R x0 x1 x2 w))

theorem law04_WalFrames_s2_eq (R : Value → World → Prop) : ∀ e w, lift Try.prog 99 (bodyOf Try.f7) (finK Try.prog Try.f7.results.toList R) e w = law04_WalFrames_s2 R (e 0) (e 1) (e 2) w :=
  segs_eq (l := [(sub (bodyOf Try.f7) [0]), (sub (bodyOf Try.f7) [1, 0])]) (y := (sub (bodyOf Try.f7) [1, 1])) (Y := (fun e w => law04_WalFrames_s1 R (e 0) (e 1) (e 2) w)) (law04_WalFrames_s1_eq R) (fun e w => by kernel_rfl)

def law04_WalFrames (R : Value → World → Prop) (x0 x1 x2 : Value) (w : World) : Prop := law04_WalFrames_s2 R x0 x1 x2 w
theorem law04_WalFrames_call {R : Value → World → Prop} {x0 x1 x2 : Value} {w : World} (h : law04_WalFrames R x0 x1 x2 w) : callG Try.prog 7 #[x0, x1, x2] w R :=
  calls_lift_eq Try.mixed Try.func7 (args := [x0, x1, x2]) rfl rfl rfl rfl ((law04_WalFrames_s2_eq R) (envOf [x0, x1, x2]) w) (by kernel_rfl) h
/-! quayside/quaysidelaw04.WalNobody -/
def law04_WalNobody_s0 (R : Value → World → Prop) (w : World) : Prop :=
  callG Try.prog 29 #[] w fun t84 w =>
  R t84 w

theorem law04_WalNobody_s0_eq (R : Value → World → Prop) : ∀ e w, lift Try.prog 85 (sub (bodyOf Try.f9) [1, 1, 1, 1, 1, 1]) (finK Try.prog Try.f9.results.toList R) e w = law04_WalNobody_s0 R w := fun e w => by kernel_rfl

def law04_WalNobody_b1 (R : Value → World → Prop) (N1 : List Value → World → Prop) (x11 x12 : Value) (w : World) : Prop :=
  lenL x11 fun t48 =>
  qG Try.prog (bq .lss 3 (.tmp 46) (.tmp 48) x12 t48) w fun t49 =>
  bV t49
  (ia 1 x11 x12 fun t54 =>
  ld1 t54 w fun t55 =>
  callG Try.prog 37 #[t55] w fun t56 w =>
  lenL t56 fun t57 =>
  qG Try.prog (bq .gtr 3 (.tmp 57) (.const (.int .i64 0)) t57 (.int .i64 0)) w fun t58 =>
  bV t58
  (R (.bool false) w)
  (ia 1 x11 x12 fun t62 =>
  ld1 t62 w fun t63 =>
  bsl 9 1 1 (zc Try.prog 9) #[(0, (.string ⟨#[120]⟩))] w fun t64 w =>
  callG Try.prog 36 #[t63, t64] w fun t65 w =>
  qG Try.prog (bq .neq 24 (.tmp 65) (.const (.int .i64 1)) t65 (.int .i64 1)) w fun t66 =>
  bV t66
  (R (.bool false) w)
  (ia 1 x11 x12 fun t71 =>
  ld1 t71 w fun t72 =>
  callG Try.prog 39 #[t72] w fun t73 w =>
  qG Try.prog (bq .neq 24 (.tmp 73) (.const (.int .i64 1)) t73 (.int .i64 1)) w fun t74 =>
  bV t74
  (R (.bool false) w)
  (ia 1 x11 x12 fun t79 =>
  ld1 t79 w fun t80 =>
  callG Try.prog 38 #[t80] w fun t81 w =>
  qG Try.prog (bq .neq 3 (.tmp 81) (.const (.int .i64 0)) t81 (.int .i64 0)) w fun t82 =>
  bV t82
  (R (.bool false) w)
  (qG Try.prog (bq .add 3 (.tmp 50) (.const (.int .i64 1)) x12 (.int .i64 1)) w fun t51 =>
  N1 [x11, t51] w)))))
  (law04_WalNobody_s0 R  w)

theorem law04_WalNobody_b1_eq (R : Value → World → Prop) (N1 : List Value → World → Prop) : ∀ e w, lift Try.prog 85 (sub (bodyOf Try.f9) [1, 1, 1, 1, 1, 0, 1, 0, 0]) (seqK (fun e w => N1 [e 11, e 12] w) (blockK 0 (seqK (fun e w => law04_WalNobody_s0 R  w) (finK Try.prog Try.f9.results.toList R)))) e w = law04_WalNobody_b1 R N1 (e 11) (e 12) w := fun e w => by kernel_rfl

def law04_WalNobody_L2F (R : Value → World → Prop) (N1 : List Value → World → Prop) (xs : List Value) (w : World) : Prop :=
  match xs with
  | [x11, x12] => law04_WalNobody_b1 R N1 x11 x12 w
  | _ => False

def law04_WalNobody_L2 (R : Value → World → Prop) (x11 x12 : Value) (w : World) : Prop :=
  ∃ m, loopV (law04_WalNobody_L2F R) m [x11, x12] w

theorem law04_WalNobody_L2_eq (R : Value → World → Prop) : ∀ e w, lift Try.prog 85 (sub (bodyOf Try.f9) [1, 1, 1, 1, 1, 0, 1, 0]) (blockK 0 (seqK (fun e w => law04_WalNobody_s0 R  w) (finK Try.prog Try.f9.results.toList R))) e w = law04_WalNobody_L2 R (e 11) (e 12) w := loop_seg (F := law04_WalNobody_L2F R) (sel := fun e => [e 11, e 12]) fun N1 => (law04_WalNobody_b1_eq R N1)

def law04_WalNobody_s3 (R : Value → World → Prop) (x11 : Value) (w : World) : Prop :=
  law04_WalNobody_L2 R x11 (.int .i64 0) w

theorem law04_WalNobody_s3_eq (R : Value → World → Prop) : ∀ e w, lift Try.prog 85 (sub (bodyOf Try.f9) [1, 1, 1, 1, 1, 0]) (seqK (fun e w => law04_WalNobody_s0 R  w) (finK Try.prog Try.f9.results.toList R)) e w = law04_WalNobody_s3 R (e 11) w :=
  segs_eq (l := [(sub (bodyOf Try.f9) [1, 1, 1, 1, 1, 0, 0])]) (y := (sub (bodyOf Try.f9) [1, 1, 1, 1, 1, 0, 1])) (Y := (fun e w => law04_WalNobody_L2 R (e 11) (e 12) w)) (law04_WalNobody_L2_eq R) (fun e w => by kernel_rfl)

def law04_WalNobody_s4 (R : Value → World → Prop) (w : World) : Prop :=
  bld [(0, 1), (1, 1), (2, 1), (3, 1), (4, 1), (5, 1)] (zc Try.prog 71) #[] fun t43 =>
  newG (Value.cells t43) 71 w fun t44 w =>
  bsl 64 1 2 (zc Try.prog 64) #[(0, (.pointer none)), (1, t44)] w fun t45 w =>
  law04_WalNobody_s3 R t45 w

theorem law04_WalNobody_s4_eq (R : Value → World → Prop) : ∀ e w, lift Try.prog 85 (sub (bodyOf Try.f9) [1, 1, 1, 1]) (finK Try.prog Try.f9.results.toList R) e w = law04_WalNobody_s4 R w :=
  segs_eq (l := [(sub (bodyOf Try.f9) [1, 1, 1, 1, 0])]) (y := (sub (bodyOf Try.f9) [1, 1, 1, 1, 1])) (Y := (fun e w => law04_WalNobody_s3 R (e 11) w)) (seq_seg (x := (sub (bodyOf Try.f9) [1, 1, 1, 1, 1, 0])) (y := (sub (bodyOf Try.f9) [1, 1, 1, 1, 1, 1])) (law04_WalNobody_s0_eq R) (law04_WalNobody_s3_eq R)) (fun e w => by kernel_rfl)

def law04_WalNobody_s5 (R : Value → World → Prop) (x0 x1 x2 : Value) (w : World) : Prop :=
  callG Try.prog 35 #[(.pointer none), x0, x1, x2] w fun t17 w =>
  qG Try.prog (Instr.extract t17 0) w fun t18 =>
  qG Try.prog (Instr.extract t17 1) w fun t19 =>
  bld [(0, 1), (1, 1), (2, 1), (3, 1), (4, 1)] (zc Try.prog 56) #[] fun t21 =>
  newG (Value.cells t21) 56 w fun t22 w =>
  callG Try.prog 35 #[t22, x0, x1, x2] w fun t26 w =>
  qG Try.prog (Instr.extract t26 0) w fun t27 =>
  qG Try.prog (Instr.extract t26 1) w fun t28 =>
  qG Try.prog (bq .neq 64 (.tmp 29) (.const (.pointer none)) t18 (.pointer none)) w fun t30 =>
  bV t30
  (R (.bool false) w)
  (qG Try.prog (bq .neq 24 (.tmp 32) (.const (.int .i64 1)) t19 (.int .i64 1)) w fun t33 =>
  bV t33
  (R (.bool false) w)
  (qG Try.prog (bq .neq 64 (.tmp 36) (.const (.pointer none)) t27 (.pointer none)) w fun t37 =>
  bV t37
  (R (.bool false) w)
  (qG Try.prog (bq .neq 24 (.tmp 40) (.const (.int .i64 1)) t28 (.int .i64 1)) w fun t41 =>
  bV t41
  (R (.bool false) w)
  (law04_WalNobody_s4 R  w))))

theorem law04_WalNobody_s5_eq (R : Value → World → Prop) : ∀ e w, lift Try.prog 85 (bodyOf Try.f9) (finK Try.prog Try.f9.results.toList R) e w = law04_WalNobody_s5 R (e 0) (e 1) (e 2) w :=
  segs_eq (l := [(sub (bodyOf Try.f9) [0]), (sub (bodyOf Try.f9) [1, 0]), (sub (bodyOf Try.f9) [1, 1, 0]), (sub (bodyOf Try.f9) [1, 1, 1, 0])]) (y := (sub (bodyOf Try.f9) [1, 1, 1, 1])) (Y := (fun e w => law04_WalNobody_s4 R w)) (law04_WalNobody_s4_eq R) (fun e w => by kernel_rfl)

def law04_WalNobody (R : Value → World → Prop) (x0 x1 x2 : Value) (w : World) : Prop := law04_WalNobody_s5 R x0 x1 x2 w
theorem law04_WalNobody_call {R : Value → World → Prop} {x0 x1 x2 : Value} {w : World} (h : law04_WalNobody R x0 x1 x2 w) : callG Try.prog 9 #[x0, x1, x2] w R :=
  calls_lift_eq Try.mixed Try.func9 (args := [x0, x1, x2]) rfl rfl rfl rfl ((law04_WalNobody_s5_eq R) (envOf [x0, x1, x2]) w) (by kernel_rfl) h
end Go.Proofs

set_option linter.unusedVariables false
set_option linter.unusedSimpArgs false
namespace Go.Proofs
open Go Go.Q
set_option maxRecDepth 100000
/-! quayside/quaysidelaw04.WalGroups -/
def law04_WalGroups_s0 (R : Value → World → Prop) (w : World) : Prop :=
  callG Try.prog 29 #[] w fun t186 w =>
  R t186 w

theorem law04_WalGroups_s0_eq (R : Value → World → Prop) : ∀ e w, lift Try.prog 187 (sub (bodyOf Try.f8) [1, 1, 1, 1, 1, 1, 1, 1, 1, 1]) (finK Try.prog Try.f8.results.toList R) e w = law04_WalGroups_s0 R w := fun e w => by kernel_rfl

def law04_WalGroups_b1 (R : Value → World → Prop) (N1 : List Value → World → Prop) (x5 x7 x15 : Value) (w : World) : Prop :=
  qG Try.prog (bq .lss 3 (.tmp 159) (.const (.int .i64 40)) x15 (.int .i64 40)) w fun t160 =>
  bV t160
  (callG Try.prog 17 #[x5, x15] w fun t166 w =>
  qG Try.prog (Instr.extract t166 0) w fun t167 =>
  qG Try.prog (Instr.extract t166 1) w fun t168 =>
  callG Try.prog 17 #[x7, x15] w fun t172 w =>
  qG Try.prog (Instr.extract t172 0) w fun t173 =>
  qG Try.prog (Instr.extract t172 1) w fun t174 =>
  qG Try.prog (bq .neq 9 (.tmp 175) (.tmp 176) t167 t173) w fun t177 =>
  bV t177
  (R (.bool false) w)
  (qG Try.prog (bq .neq 24 (.tmp 179) (.const (.int .i64 0)) t168 (.int .i64 0)) w fun t180 =>
  bV t180
  (R (.bool false) w)
  (qG Try.prog (bq .neq 24 (.tmp 183) (.const (.int .i64 0)) t174 (.int .i64 0)) w fun t184 =>
  bV t184
  (R (.bool false) w)
  (qG Try.prog (bq .add 3 (.tmp 161) (.const (.int .i64 1)) x15 (.int .i64 1)) w fun t162 =>
  N1 [x5, x7, t162] w))))
  (law04_WalGroups_s0 R  w)

theorem law04_WalGroups_b1_eq (R : Value → World → Prop) (N1 : List Value → World → Prop) : ∀ e w, lift Try.prog 187 (sub (bodyOf Try.f8) [1, 1, 1, 1, 1, 1, 1, 1, 1, 0, 1, 0, 0]) (seqK (fun e w => N1 [e 5, e 7, e 15] w) (blockK 2 (seqK (fun e w => law04_WalGroups_s0 R  w) (finK Try.prog Try.f8.results.toList R)))) e w = law04_WalGroups_b1 R N1 (e 5) (e 7) (e 15) w := fun e w => by kernel_rfl

def law04_WalGroups_L2F (R : Value → World → Prop) (N1 : List Value → World → Prop) (xs : List Value) (w : World) : Prop :=
  match xs with
  | [x5, x7, x15] => law04_WalGroups_b1 R N1 x5 x7 x15 w
  | _ => False

def law04_WalGroups_L2 (R : Value → World → Prop) (x5 x7 x15 : Value) (w : World) : Prop :=
  ∃ m, loopV (law04_WalGroups_L2F R) m [x5, x7, x15] w

theorem law04_WalGroups_L2_eq (R : Value → World → Prop) : ∀ e w, lift Try.prog 187 (sub (bodyOf Try.f8) [1, 1, 1, 1, 1, 1, 1, 1, 1, 0, 1, 0]) (blockK 2 (seqK (fun e w => law04_WalGroups_s0 R  w) (finK Try.prog Try.f8.results.toList R))) e w = law04_WalGroups_L2 R (e 5) (e 7) (e 15) w := loop_seg (F := law04_WalGroups_L2F R) (sel := fun e => [e 5, e 7, e 15]) fun N1 => (law04_WalGroups_b1_eq R N1)

def law04_WalGroups_s3 (R : Value → World → Prop) (x5 x7 : Value) (w : World) : Prop :=
  law04_WalGroups_L2 R x5 x7 (.int .i64 0) w

theorem law04_WalGroups_s3_eq (R : Value → World → Prop) : ∀ e w, lift Try.prog 187 (sub (bodyOf Try.f8) [1, 1, 1, 1, 1, 1, 1, 1, 1, 0]) (seqK (fun e w => law04_WalGroups_s0 R  w) (finK Try.prog Try.f8.results.toList R)) e w = law04_WalGroups_s3 R (e 5) (e 7) w :=
  segs_eq (l := [(sub (bodyOf Try.f8) [1, 1, 1, 1, 1, 1, 1, 1, 1, 0, 0])]) (y := (sub (bodyOf Try.f8) [1, 1, 1, 1, 1, 1, 1, 1, 1, 0, 1])) (Y := (fun e w => law04_WalGroups_L2 R (e 5) (e 7) (e 15) w)) (law04_WalGroups_L2_eq R) (fun e w => by kernel_rfl)

def law04_WalGroups_s4 (R : Value → World → Prop) (x0 x1 x5 x7 x9 x11 : Value) (w : World) : Prop :=
  qG Try.prog (bq .and 3 (.tmp 118) (.const (.int .i64 255)) x1 (.int .i64 255)) w fun t119 =>
  lenL x0 fun t121 =>
  qG Try.prog (bq .add 3 (.tmp 121) (.const (.int .i64 1)) t121 (.int .i64 1)) w fun t122 =>
  qG Try.prog (bq .rem 3 (.tmp 119) (.tmp 122) t119 t122) w fun t123 =>
  slL 1 x0 none (some t123) fun t127 =>
  callG Try.prog 36 #[x9, t127] w fun t128 w =>
  qG Try.prog (bq .neq 24 (.tmp 128) (.const (.int .i64 0)) t128 (.int .i64 0)) w fun t129 =>
  bV t129
  (R (.bool false) w)
  (slL 1 x0 (some t123) none fun t134 =>
  callG Try.prog 36 #[x9, t134] w fun t135 w =>
  qG Try.prog (bq .neq 24 (.tmp 135) (.const (.int .i64 0)) t135 (.int .i64 0)) w fun t136 =>
  bV t136
  (R (.bool false) w)
  (callG Try.prog 37 #[x9] w fun t140 w =>
  callG Try.prog 34 #[t140, x0] w fun t142 w =>
  qG Try.prog (Op.unary .not t142) w fun t143 =>
  bV t143
  (R (.bool false) w)
  (callG Try.prog 37 #[x11] w fun t147 w =>
  callG Try.prog 34 #[t147, x0] w fun t149 w =>
  qG Try.prog (Op.unary .not t149) w fun t150 =>
  bV t150
  (R (.bool false) w)
  (callG Try.prog 38 #[x9] w fun t154 w =>
  callG Try.prog 38 #[x11] w fun t156 w =>
  qG Try.prog (bq .neq 3 (.tmp 154) (.tmp 156) t154 t156) w fun t157 =>
  bV t157
  (R (.bool false) w)
  (law04_WalGroups_s3 R x5 x7 w)))))

theorem law04_WalGroups_s4_eq (R : Value → World → Prop) : ∀ e w, lift Try.prog 187 (sub (bodyOf Try.f8) [1, 1, 1, 1, 1, 1, 1]) (finK Try.prog Try.f8.results.toList R) e w = law04_WalGroups_s4 R (e 0) (e 1) (e 5) (e 7) (e 9) (e 11) w :=
  segs_eq (l := [(sub (bodyOf Try.f8) [1, 1, 1, 1, 1, 1, 1, 0]), (sub (bodyOf Try.f8) [1, 1, 1, 1, 1, 1, 1, 1, 0])]) (y := (sub (bodyOf Try.f8) [1, 1, 1, 1, 1, 1, 1, 1, 1])) (Y := (fun e w => law04_WalGroups_s3 R (e 5) (e 7) w)) (seq_seg (x := (sub (bodyOf Try.f8) [1, 1, 1, 1, 1, 1, 1, 1, 1, 0])) (y := (sub (bodyOf Try.f8) [1, 1, 1, 1, 1, 1, 1, 1, 1, 1])) (law04_WalGroups_s0_eq R) (law04_WalGroups_s3_eq R)) (fun e w => by kernel_rfl)

def law04_WalGroups_s5 (R : Value → World → Prop) (N1 : List Value → World → Prop) (x0 x1 x5 x7 x9 x11 x13 : Value) (w : World) : Prop :=
  qG Try.prog (bq .add 3 (.tmp 94) (.const (.int .i64 1)) x13 (.int .i64 1)) w fun t95 =>
  N1 [x0, x1, x5, x7, x9, x11, t95] w

theorem law04_WalGroups_s5_eq (R : Value → World → Prop) (N1 : List Value → World → Prop) : ∀ e w, lift Try.prog 187 (sub (bodyOf Try.f8) [1, 1, 1, 1, 1, 1, 0, 1, 0, 0, 1, 1]) (seqK (fun e w => N1 [e 0, e 1, e 5, e 7, e 9, e 11, e 13] w) (blockK 0 (seqK (fun e w => law04_WalGroups_s4 R (e 0) (e 1) (e 5) (e 7) (e 9) (e 11) w) (finK Try.prog Try.f8.results.toList R)))) e w = law04_WalGroups_s5 R N1 (e 0) (e 1) (e 5) (e 7) (e 9) (e 11) (e 13) w := fun e w => by kernel_rfl

def law04_WalGroups_s6 (R : Value → World → Prop) (N1 : List Value → World → Prop) (x0 x1 x5 x7 x9 x11 x13 : Value) (w : World) : Prop :=
  qG Try.prog (bq .add 3 (.tmp 113) (.const (.int .i64 1)) x13 (.int .i64 1)) w fun t114 =>
  slL 1 x0 (some x13) (some t114) fun t115 =>
  callG Try.prog 36 #[x11, t115] w fun t116 w =>
  qG Try.prog (bq .neq 24 (.tmp 116) (.const (.int .i64 0)) t116 (.int .i64 0)) w fun t117 =>
  bV t117
  (R (.bool false) w)
  (law04_WalGroups_s5 R N1 x0 x1 x5 x7 x9 x11 x13 w)

theorem law04_WalGroups_s6_eq (R : Value → World → Prop) (N1 : List Value → World → Prop) : ∀ e w, lift Try.prog 187 (sub (bodyOf Try.f8) [1, 1, 1, 1, 1, 1, 0, 1, 0, 0, 1, 0, 0, 1]) (blockK 1 (seqK (fun e w => law04_WalGroups_s5 R N1 (e 0) (e 1) (e 5) (e 7) (e 9) (e 11) (e 13) w) (seqK (fun e w => N1 [e 0, e 1, e 5, e 7, e 9, e 11, e 13] w) (blockK 0 (seqK (fun e w => law04_WalGroups_s4 R (e 0) (e 1) (e 5) (e 7) (e 9) (e 11) w) (finK Try.prog Try.f8.results.toList R)))))) e w = law04_WalGroups_s6 R N1 (e 0) (e 1) (e 5) (e 7) (e 9) (e 11) (e 13) w := fun e w => by kernel_rfl

def law04_WalGroups_s7 (R : Value → World → Prop) (N1 : List Value → World → Prop) (x0 x1 x5 x7 x9 x11 x13 : Value) (w : World) : Prop :=
  ia 1 x0 x13 fun t98 =>
  ld1 t98 w fun t99 =>
  lenS t99 fun t100 =>
  qG Try.prog (bq .gtr 3 (.tmp 100) (.const (.int .i64 60)) t100 (.int .i64 60)) w fun t101 =>
  bV t101
  (callG Try.prog 29 #[] w fun t109 w =>
  R t109 w)
  (ia 1 x0 x13 fun t105 =>
  ld1 t105 w fun t106 =>
  qG Try.prog (bq .eql 9 (.tmp 106) (.const (.string ⟨#[]⟩)) t106 (.string ⟨#[]⟩)) w fun t107 =>
  bV t107
  (callG Try.prog 29 #[] w fun t109_1 w =>
  R t109_1 w)
  (law04_WalGroups_s6 R N1 x0 x1 x5 x7 x9 x11 x13 w))

theorem law04_WalGroups_s7_eq (R : Value → World → Prop) (N1 : List Value → World → Prop) : ∀ e w, lift Try.prog 187 (sub (bodyOf Try.f8) [1, 1, 1, 1, 1, 1, 0, 1, 0, 0, 1, 0, 0]) (blockK 1 (seqK (fun e w => law04_WalGroups_s5 R N1 (e 0) (e 1) (e 5) (e 7) (e 9) (e 11) (e 13) w) (seqK (fun e w => N1 [e 0, e 1, e 5, e 7, e 9, e 11, e 13] w) (blockK 0 (seqK (fun e w => law04_WalGroups_s4 R (e 0) (e 1) (e 5) (e 7) (e 9) (e 11) w) (finK Try.prog Try.f8.results.toList R)))))) e w = law04_WalGroups_s7 R N1 (e 0) (e 1) (e 5) (e 7) (e 9) (e 11) (e 13) w :=
  segs_eq (l := [(sub (bodyOf Try.f8) [1, 1, 1, 1, 1, 1, 0, 1, 0, 0, 1, 0, 0, 0])]) (y := (sub (bodyOf Try.f8) [1, 1, 1, 1, 1, 1, 0, 1, 0, 0, 1, 0, 0, 1])) (Y := (fun e w => law04_WalGroups_s6 R N1 (e 0) (e 1) (e 5) (e 7) (e 9) (e 11) (e 13) w)) (law04_WalGroups_s6_eq R N1) (fun e w => by kernel_rfl)

def law04_WalGroups_s8 (R : Value → World → Prop) (N1 : List Value → World → Prop) (x0 x1 x5 x7 x9 x11 x13 : Value) (w : World) : Prop :=
  lenL x0 fun t92 =>
  qG Try.prog (bq .lss 3 (.tmp 90) (.tmp 92) x13 t92) w fun t93 =>
  bV t93
  (law04_WalGroups_s7 R N1 x0 x1 x5 x7 x9 x11 x13 w)
  (law04_WalGroups_s4 R x0 x1 x5 x7 x9 x11 w)

theorem law04_WalGroups_s8_eq (R : Value → World → Prop) (N1 : List Value → World → Prop) : ∀ e w, lift Try.prog 187 (sub (bodyOf Try.f8) [1, 1, 1, 1, 1, 1, 0, 1, 0, 0]) (seqK (fun e w => N1 [e 0, e 1, e 5, e 7, e 9, e 11, e 13] w) (blockK 0 (seqK (fun e w => law04_WalGroups_s4 R (e 0) (e 1) (e 5) (e 7) (e 9) (e 11) w) (finK Try.prog Try.f8.results.toList R)))) e w = law04_WalGroups_s8 R N1 (e 0) (e 1) (e 5) (e 7) (e 9) (e 11) (e 13) w :=
  segs_eq (l := [(sub (bodyOf Try.f8) [1, 1, 1, 1, 1, 1, 0, 1, 0, 0, 0])]) (y := (sub (bodyOf Try.f8) [1, 1, 1, 1, 1, 1, 0, 1, 0, 0, 1])) (Y := (fun e w => law04_WalGroups_s7 R N1 (e 0) (e 1) (e 5) (e 7) (e 9) (e 11) (e 13) w)) (seq_seg (x := (sub (bodyOf Try.f8) [1, 1, 1, 1, 1, 1, 0, 1, 0, 0, 1, 0])) (y := (sub (bodyOf Try.f8) [1, 1, 1, 1, 1, 1, 0, 1, 0, 0, 1, 1])) (law04_WalGroups_s5_eq R N1) (law04_WalGroups_s7_eq R N1)) (fun e w => by kernel_rfl)

def law04_WalGroups_L9F (R : Value → World → Prop) (N1 : List Value → World → Prop) (xs : List Value) (w : World) : Prop :=
  match xs with
  | [x0, x1, x5, x7, x9, x11, x13] => law04_WalGroups_s8 R N1 x0 x1 x5 x7 x9 x11 x13 w
  | _ => False

def law04_WalGroups_L9 (R : Value → World → Prop) (x0 x1 x5 x7 x9 x11 x13 : Value) (w : World) : Prop :=
  ∃ m, loopV (law04_WalGroups_L9F R) m [x0, x1, x5, x7, x9, x11, x13] w

theorem law04_WalGroups_L9_eq (R : Value → World → Prop) : ∀ e w, lift Try.prog 187 (sub (bodyOf Try.f8) [1, 1, 1, 1, 1, 1, 0, 1, 0]) (blockK 0 (seqK (fun e w => law04_WalGroups_s4 R (e 0) (e 1) (e 5) (e 7) (e 9) (e 11) w) (finK Try.prog Try.f8.results.toList R))) e w = law04_WalGroups_L9 R (e 0) (e 1) (e 5) (e 7) (e 9) (e 11) (e 13) w := loop_seg (F := law04_WalGroups_L9F R) (sel := fun e => [e 0, e 1, e 5, e 7, e 9, e 11, e 13]) fun N1 => (law04_WalGroups_s8_eq R N1)

def law04_WalGroups_s10 (R : Value → World → Prop) (x0 x1 x5 x7 x9 x11 : Value) (w : World) : Prop :=
  law04_WalGroups_L9 R x0 x1 x5 x7 x9 x11 (.int .i64 0) w

theorem law04_WalGroups_s10_eq (R : Value → World → Prop) : ∀ e w, lift Try.prog 187 (sub (bodyOf Try.f8) [1, 1, 1, 1, 1, 1, 0]) (seqK (fun e w => law04_WalGroups_s4 R (e 0) (e 1) (e 5) (e 7) (e 9) (e 11) w) (finK Try.prog Try.f8.results.toList R)) e w = law04_WalGroups_s10 R (e 0) (e 1) (e 5) (e 7) (e 9) (e 11) w :=
  segs_eq (l := [(sub (bodyOf Try.f8) [1, 1, 1, 1, 1, 1, 0, 0])]) (y := (sub (bodyOf Try.f8) [1, 1, 1, 1, 1, 1, 0, 1])) (Y := (fun e w => law04_WalGroups_L9 R (e 0) (e 1) (e 5) (e 7) (e 9) (e 11) (e 13) w)) (law04_WalGroups_L9_eq R) (fun e w => by kernel_rfl)

def law04_WalGroups_s11 (R : Value → World → Prop) (x0 x1 x5 x6 x7 x8 x9 x10 x11 x12 x64 : Value) (w : World) : Prop :=
  bV x64
  (qG Try.prog (bq .eql 24 (.tmp 65) (.const (.int .i64 0)) x6 (.int .i64 0)) w fun t66 =>
  bV t66
  (qG Try.prog (bq .eql 24 (.tmp 68) (.const (.int .i64 0)) x8 (.int .i64 0)) w fun t69 =>
  bV t69
  (qG Try.prog (bq .eql 24 (.tmp 72) (.const (.int .i64 0)) x10 (.int .i64 0)) w fun t73 =>
  bV t73
  (qG Try.prog (bq .eql 24 (.tmp 76) (.const (.int .i64 0)) x12 (.int .i64 0)) w fun t77 =>
  bV t77
  (qG Try.prog (bq .neq 64 (.tmp 80) (.const (.pointer none)) x9 (.pointer none)) w fun t81 =>
  bV t81
  (qG Try.prog (bq .neq 64 (.tmp 84) (.const (.pointer none)) x11 (.pointer none)) w fun t85 =>
  bV t85
  (callG Try.prog 29 #[] w fun t88 w =>
  R t88 w)
  (R (.bool false) w))
  (R (.bool false) w))
  (R (.bool false) w))
  (R (.bool false) w))
  (R (.bool false) w))
  (R (.bool false) w))
  (law04_WalGroups_s10 R x0 x1 x5 x7 x9 x11 w)

theorem law04_WalGroups_s11_eq (R : Value → World → Prop) : ∀ e w, lift Try.prog 187 (sub (bodyOf Try.f8) [1, 1, 1, 1, 1, 0, 1]) (seqK (fun e w => law04_WalGroups_s10 R (e 0) (e 1) (e 5) (e 7) (e 9) (e 11) w) (finK Try.prog Try.f8.results.toList R)) e w = law04_WalGroups_s11 R (e 0) (e 1) (e 5) (e 6) (e 7) (e 8) (e 9) (e 10) (e 11) (e 12) (e 64) w := fun e w => by kernel_rfl

def law04_WalGroups_s12 (R : Value → World → Prop) (x0 x1 x5 x6 x7 x8 x9 x10 x11 x12 : Value) (w : World) : Prop :=
  qG Try.prog (bq .neq 24 (.tmp 38) (.const (.int .i64 0)) x6 (.int .i64 0)) w fun t39 =>
  bV t39
  (law04_WalGroups_s11 R x0 x1 x5 x6 x7 x8 x9 x10 x11 x12 (.bool true) w)
  (qG Try.prog (bq .neq 24 (.tmp 41) (.const (.int .i64 0)) x8 (.int .i64 0)) w fun t42 =>
  bV t42
  (law04_WalGroups_s11 R x0 x1 x5 x6 x7 x8 x9 x10 x11 x12 (.bool true) w)
  (qG Try.prog (bq .neq 24 (.tmp 45) (.const (.int .i64 0)) x10 (.int .i64 0)) w fun t46 =>
  bV t46
  (law04_WalGroups_s11 R x0 x1 x5 x6 x7 x8 x9 x10 x11 x12 (.bool true) w)
  (qG Try.prog (bq .neq 24 (.tmp 49) (.const (.int .i64 0)) x12 (.int .i64 0)) w fun t50 =>
  bV t50
  (law04_WalGroups_s11 R x0 x1 x5 x6 x7 x8 x9 x10 x11 x12 (.bool true) w)
  (qG Try.prog (bq .eql 64 (.tmp 53) (.const (.pointer none)) x9 (.pointer none)) w fun t54 =>
  bV t54
  (law04_WalGroups_s11 R x0 x1 x5 x6 x7 x8 x9 x10 x11 x12 (.bool true) w)
  (qG Try.prog (bq .eql 64 (.tmp 57) (.const (.pointer none)) x11 (.pointer none)) w fun t58 =>
  bV t58
  (law04_WalGroups_s11 R x0 x1 x5 x6 x7 x8 x9 x10 x11 x12 (.bool true) w)
  (lenL x0 fun t62 =>
  qG Try.prog (bq .gtr 3 (.tmp 62) (.const (.int .i64 8)) t62 (.int .i64 8)) w fun t63 =>
  law04_WalGroups_s11 R x0 x1 x5 x6 x7 x8 x9 x10 x11 x12 t63 w))))))

theorem law04_WalGroups_s12_eq (R : Value → World → Prop) : ∀ e w, lift Try.prog 187 (sub (bodyOf Try.f8) [1, 1, 1, 1, 1, 0]) (seqK (fun e w => law04_WalGroups_s10 R (e 0) (e 1) (e 5) (e 7) (e 9) (e 11) w) (finK Try.prog Try.f8.results.toList R)) e w = law04_WalGroups_s12 R (e 0) (e 1) (e 5) (e 6) (e 7) (e 8) (e 9) (e 10) (e 11) (e 12) w :=
  segs_eq (l := [(sub (bodyOf Try.f8) [1, 1, 1, 1, 1, 0, 0])]) (y := (sub (bodyOf Try.f8) [1, 1, 1, 1, 1, 0, 1])) (Y := (fun e w => law04_WalGroups_s11 R (e 0) (e 1) (e 5) (e 6) (e 7) (e 8) (e 9) (e 10) (e 11) (e 12) (e 64) w)) (law04_WalGroups_s11_eq R) (fun e w => by kernel_rfl)

def law04_WalGroups_s13 (R : Value → World → Prop) (x0 x1 : Value) (w : World) : Prop :=
  callG Try.prog 12 #[(.int .i64 40)] w fun t21 w =>
  qG Try.prog (Instr.extract t21 0) w fun t22 =>
  qG Try.prog (Instr.extract t21 1) w fun t23 =>
  callG Try.prog 12 #[(.int .i64 40)] w fun t25 w =>
  qG Try.prog (Instr.extract t25 0) w fun t26 =>
  qG Try.prog (Instr.extract t25 1) w fun t27 =>
  callG Try.prog 35 #[t22, (.int .i64 0), (.int .i64 40), (.int .i64 1)] w fun t30 w =>
  qG Try.prog (Instr.extract t30 0) w fun t31 =>
  qG Try.prog (Instr.extract t30 1) w fun t32 =>
  callG Try.prog 35 #[t26, (.int .i64 0), (.int .i64 40), (.int .i64 1)] w fun t35 w =>
  qG Try.prog (Instr.extract t35 0) w fun t36 =>
  qG Try.prog (Instr.extract t35 1) w fun t37 =>
  law04_WalGroups_s12 R x0 x1 t22 t23 t26 t27 t31 t32 t36 t37 w

theorem law04_WalGroups_s13_eq (R : Value → World → Prop) : ∀ e w, lift Try.prog 187 (bodyOf Try.f8) (finK Try.prog Try.f8.results.toList R) e w = law04_WalGroups_s13 R (e 0) (e 1) w :=
  segs_eq (l := [(sub (bodyOf Try.f8) [0]), (sub (bodyOf Try.f8) [1, 0]), (sub (bodyOf Try.f8) [1, 1, 0]), (sub (bodyOf Try.f8) [1, 1, 1, 0]), (sub (bodyOf Try.f8) [1, 1, 1, 1, 0])]) (y := (sub (bodyOf Try.f8) [1, 1, 1, 1, 1])) (Y := (fun e w => law04_WalGroups_s12 R (e 0) (e 1) (e 5) (e 6) (e 7) (e 8) (e 9) (e 10) (e 11) (e 12) w)) (seq_seg (x := (sub (bodyOf Try.f8) [1, 1, 1, 1, 1, 0])) (y := (sub (bodyOf Try.f8) [1, 1, 1, 1, 1, 1])) (seq_seg (x := (sub (bodyOf Try.f8) [1, 1, 1, 1, 1, 1, 0])) (y := (sub (bodyOf Try.f8) [1, 1, 1, 1, 1, 1, 1])) (law04_WalGroups_s4_eq R) (law04_WalGroups_s10_eq R)) (law04_WalGroups_s12_eq R)) (fun e w => by kernel_rfl)

def law04_WalGroups (R : Value → World → Prop) (x0 x1 : Value) (w : World) : Prop := law04_WalGroups_s13 R x0 x1 w
theorem law04_WalGroups_call {R : Value → World → Prop} {x0 x1 : Value} {w : World} (h : law04_WalGroups R x0 x1 w) : callG Try.prog 8 #[x0, x1] w R :=
  calls_lift_eq Try.mixed Try.func8 (args := [x0, x1]) rfl rfl rfl rfl ((law04_WalGroups_s13_eq R) (envOf [x0, x1]) w) (by kernel_rfl) h
end Go.Proofs

set_option linter.unusedVariables false
set_option linter.unusedSimpArgs false
namespace Go.Proofs
open Go Go.Q
set_option maxRecDepth 100000
/-! quayside/quaysidelaw04.chance -/
def law04_chance_s0 (R : Value → World → Prop) (x0 x1 x2 : Value) (w : World) : Prop :=
  ia 1 x1 x2 fun t14 =>
  ld1 t14 w fun t15 =>
  callG Try.prog 30 #[(.int .i64 1), t15] w fun t16 w =>
  qG Try.prog (Instr.extract t16 0) w fun t17 =>
  qG Try.prog (Instr.extract t16 1) w fun t18 =>
  qG Try.prog (bq .neq 24 (.tmp 19) (.const (.int .i64 0)) t18 (.int .i64 0)) w fun t20 =>
  bV t20
  (R (.bool false) w)
  (lenL x0 fun t23 =>
  qG Try.prog (bq .geq 3 (.tmp 21) (.tmp 23) x2 t23) w fun t24 =>
  bV t24
  (R (.bool true) w)
  (ia 1 x0 x2 fun t28 =>
  ld1 t28 w fun t29 =>
  callG Try.prog 30 #[(.int .i64 1), t29] w fun t30 w =>
  qG Try.prog (Instr.extract t30 0) w fun t31 =>
  qG Try.prog (Instr.extract t30 1) w fun t32 =>
  qG Try.prog (bq .eql 24 (.tmp 33) (.const (.int .i64 0)) t32 (.int .i64 0)) w fun t34 =>
  bV t34
  (qG Try.prog (bq .neq 9 (.tmp 36) (.tmp 37) t17 t31) w fun t38 =>
  R t38 w)
  (R (.bool false) w)))

theorem law04_chance_s0_eq (R : Value → World → Prop) : ∀ e w, lift Try.prog 40 (bodyOf Try.f43) (finK Try.prog Try.f43.results.toList R) e w = law04_chance_s0 R (e 0) (e 1) (e 2) w := fun e w => by kernel_rfl

def law04_chance (R : Value → World → Prop) (x0 x1 x2 : Value) (w : World) : Prop := law04_chance_s0 R x0 x1 x2 w
theorem law04_chance_call {R : Value → World → Prop} {x0 x1 x2 : Value} {w : World} (h : law04_chance R x0 x1 x2 w) : callG Try.prog 43 #[x0, x1, x2] w R :=
  calls_lift_eq Try.mixed Try.func43 (args := [x0, x1, x2]) rfl rfl rfl rfl ((law04_chance_s0_eq R) (envOf [x0, x1, x2]) w) (by kernel_rfl) h
/-! quayside/quaysidelaw04.WalCrash -/
def law04_WalCrash_s0 (R : Value → World → Prop) (x12 x17 : Value) (w : World) : Prop :=
  lenL x17 fun t171 =>
  qG Try.prog (bq .geq 3 (.tmp 171) (.tmp 172) t171 x12) w fun t173 =>
  bV t173
  (callG Try.prog 29 #[] w fun t175 w =>
  R t175 w)
  (R (.bool false) w)

theorem law04_WalCrash_s0_eq (R : Value → World → Prop) : ∀ e w, lift Try.prog 177 (sub (bodyOf Try.f11) [1, 1, 1, 1, 1, 1, 1, 1, 1, 1, 1, 1, 1, 1, 1]) (finK Try.prog Try.f11.results.toList R) e w = law04_WalCrash_s0 R (e 12) (e 17) w := fun e w => by kernel_rfl

def law04_WalCrash_s1 (R : Value → World → Prop) (N1 : List Value → World → Prop) (x11 x12 x17 x18 : Value) (w : World) : Prop :=
  qG Try.prog (bq .add 3 (.tmp 141) (.const (.int .i64 1)) x18 (.int .i64 1)) w fun t142 =>
  N1 [x11, x12, x17, t142] w

theorem law04_WalCrash_s1_eq (R : Value → World → Prop) (N1 : List Value → World → Prop) : ∀ e w, lift Try.prog 177 (sub (bodyOf Try.f11) [1, 1, 1, 1, 1, 1, 1, 1, 1, 1, 1, 1, 1, 1, 0, 1, 0, 0, 1, 1]) (seqK (fun e w => N1 [e 11, e 12, e 17, e 18] w) (blockK 2 (seqK (fun e w => law04_WalCrash_s0 R (e 12) (e 17) w) (finK Try.prog Try.f11.results.toList R)))) e w = law04_WalCrash_s1 R N1 (e 11) (e 12) (e 17) (e 18) w := fun e w => by kernel_rfl

def law04_WalCrash_s2 (R : Value → World → Prop) (N1 : List Value → World → Prop) (x11 x12 x17 x18 x157 : Value) (w : World) : Prop :=
  bV x157
  (qG Try.prog (bq .geq 3 (.tmp 158) (.tmp 159) x18 x12) w fun t160 =>
  bV t160
  (callG Try.prog 43 #[x11, x17, x18] w fun t165 w =>
  bV t165
  (callG Try.prog 29 #[] w fun t168 w =>
  R t168 w)
  (R (.bool false) w))
  (R (.bool false) w))
  (law04_WalCrash_s1 R N1 x11 x12 x17 x18 w)

theorem law04_WalCrash_s2_eq (R : Value → World → Prop) (N1 : List Value → World → Prop) : ∀ e w, lift Try.prog 177 (sub (bodyOf Try.f11) [1, 1, 1, 1, 1, 1, 1, 1, 1, 1, 1, 1, 1, 1, 0, 1, 0, 0, 1, 0, 0, 1]) (blockK 3 (seqK (fun e w => law04_WalCrash_s1 R N1 (e 11) (e 12) (e 17) (e 18) w) (seqK (fun e w => N1 [e 11, e 12, e 17, e 18] w) (blockK 2 (seqK (fun e w => law04_WalCrash_s0 R (e 12) (e 17) w) (finK Try.prog Try.f11.results.toList R)))))) e w = law04_WalCrash_s2 R N1 (e 11) (e 12) (e 17) (e 18) (e 157) w := fun e w => by kernel_rfl

def law04_WalCrash_s3 (R : Value → World → Prop) (N1 : List Value → World → Prop) (x11 x12 x17 x18 : Value) (w : World) : Prop :=
  lenL x11 fun t145 =>
  qG Try.prog (bq .geq 3 (.tmp 143) (.tmp 145) x18 t145) (World.drew w) fun t146 =>
  bV t146
  (law04_WalCrash_s2 R N1 x11 x12 x17 x18 (.bool true) (World.drew w))
  (ia 1 x17 x18 fun t150 =>
  ld1 t150 (World.drew w) fun t151 =>
  ia 1 x11 x18 fun t154 =>
  ld1 t154 (World.drew w) fun t155 =>
  qG Try.prog (bq .neq 9 (.tmp 151) (.tmp 155) t151 t155) (World.drew w) fun t156 =>
  law04_WalCrash_s2 R N1 x11 x12 x17 x18 t156 (World.drew w))

theorem law04_WalCrash_s3_eq (R : Value → World → Prop) (N1 : List Value → World → Prop) : ∀ e w, lift Try.prog 177 (sub (bodyOf Try.f11) [1, 1, 1, 1, 1, 1, 1, 1, 1, 1, 1, 1, 1, 1, 0, 1, 0, 0, 1, 0, 0]) (blockK 3 (seqK (fun e w => law04_WalCrash_s1 R N1 (e 11) (e 12) (e 17) (e 18) w) (seqK (fun e w => N1 [e 11, e 12, e 17, e 18] w) (blockK 2 (seqK (fun e w => law04_WalCrash_s0 R (e 12) (e 17) w) (finK Try.prog Try.f11.results.toList R)))))) e w = law04_WalCrash_s3 R N1 (e 11) (e 12) (e 17) (e 18) w :=
  segs_eq (l := [(sub (bodyOf Try.f11) [1, 1, 1, 1, 1, 1, 1, 1, 1, 1, 1, 1, 1, 1, 0, 1, 0, 0, 1, 0, 0, 0])]) (y := (sub (bodyOf Try.f11) [1, 1, 1, 1, 1, 1, 1, 1, 1, 1, 1, 1, 1, 1, 0, 1, 0, 0, 1, 0, 0, 1])) (Y := (fun e w => law04_WalCrash_s2 R N1 (e 11) (e 12) (e 17) (e 18) (e 157) w)) (law04_WalCrash_s2_eq R N1) (fun e w => by kernel_rfl)

def law04_WalCrash_s4 (R : Value → World → Prop) (N1 : List Value → World → Prop) (x11 x12 x17 x18 : Value) (w : World) : Prop :=
  lenL x17 fun t139 =>
  qG Try.prog (bq .lss 3 (.tmp 137) (.tmp 139) x18 t139) w fun t140 =>
  bV t140
  (law04_WalCrash_s3 R N1 x11 x12 x17 x18 w)
  (law04_WalCrash_s0 R x12 x17 w)

theorem law04_WalCrash_s4_eq (R : Value → World → Prop) (N1 : List Value → World → Prop) : ∀ e w, lift Try.prog 177 (sub (bodyOf Try.f11) [1, 1, 1, 1, 1, 1, 1, 1, 1, 1, 1, 1, 1, 1, 0, 1, 0, 0]) (seqK (fun e w => N1 [e 11, e 12, e 17, e 18] w) (blockK 2 (seqK (fun e w => law04_WalCrash_s0 R (e 12) (e 17) w) (finK Try.prog Try.f11.results.toList R)))) e w = law04_WalCrash_s4 R N1 (e 11) (e 12) (e 17) (e 18) w :=
  segs_eq (l := [(sub (bodyOf Try.f11) [1, 1, 1, 1, 1, 1, 1, 1, 1, 1, 1, 1, 1, 1, 0, 1, 0, 0, 0])]) (y := (sub (bodyOf Try.f11) [1, 1, 1, 1, 1, 1, 1, 1, 1, 1, 1, 1, 1, 1, 0, 1, 0, 0, 1])) (Y := (fun e w => law04_WalCrash_s3 R N1 (e 11) (e 12) (e 17) (e 18) w)) (seq_seg (x := (sub (bodyOf Try.f11) [1, 1, 1, 1, 1, 1, 1, 1, 1, 1, 1, 1, 1, 1, 0, 1, 0, 0, 1, 0])) (y := (sub (bodyOf Try.f11) [1, 1, 1, 1, 1, 1, 1, 1, 1, 1, 1, 1, 1, 1, 0, 1, 0, 0, 1, 1])) (law04_WalCrash_s1_eq R N1) (law04_WalCrash_s3_eq R N1)) (fun e w => by kernel_rfl)

def law04_WalCrash_L5F (R : Value → World → Prop) (N1 : List Value → World → Prop) (xs : List Value) (w : World) : Prop :=
  match xs with
  | [x11, x12, x17, x18] => law04_WalCrash_s4 R N1 x11 x12 x17 x18 w
  | _ => False

def law04_WalCrash_L5 (R : Value → World → Prop) (x11 x12 x17 x18 : Value) (w : World) : Prop :=
  ∃ m, loopV (law04_WalCrash_L5F R) m [x11, x12, x17, x18] w

theorem law04_WalCrash_L5_eq (R : Value → World → Prop) : ∀ e w, lift Try.prog 177 (sub (bodyOf Try.f11) [1, 1, 1, 1, 1, 1, 1, 1, 1, 1, 1, 1, 1, 1, 0, 1, 0]) (blockK 2 (seqK (fun e w => law04_WalCrash_s0 R (e 12) (e 17) w) (finK Try.prog Try.f11.results.toList R))) e w = law04_WalCrash_L5 R (e 11) (e 12) (e 17) (e 18) w := loop_seg (F := law04_WalCrash_L5F R) (sel := fun e => [e 11, e 12, e 17, e 18]) fun N1 => (law04_WalCrash_s4_eq R N1)

def law04_WalCrash_s6 (R : Value → World → Prop) (x11 x12 x17 : Value) (w : World) : Prop :=
  law04_WalCrash_L5 R x11 x12 x17 (.int .i64 0) w

theorem law04_WalCrash_s6_eq (R : Value → World → Prop) : ∀ e w, lift Try.prog 177 (sub (bodyOf Try.f11) [1, 1, 1, 1, 1, 1, 1, 1, 1, 1, 1, 1, 1, 1, 0]) (seqK (fun e w => law04_WalCrash_s0 R (e 12) (e 17) w) (finK Try.prog Try.f11.results.toList R)) e w = law04_WalCrash_s6 R (e 11) (e 12) (e 17) w :=
  segs_eq (l := [(sub (bodyOf Try.f11) [1, 1, 1, 1, 1, 1, 1, 1, 1, 1, 1, 1, 1, 1, 0, 0])]) (y := (sub (bodyOf Try.f11) [1, 1, 1, 1, 1, 1, 1, 1, 1, 1, 1, 1, 1, 1, 0, 1])) (Y := (fun e w => law04_WalCrash_L5 R (e 11) (e 12) (e 17) (e 18) w)) (law04_WalCrash_L5_eq R) (fun e w => by kernel_rfl)

def law04_WalCrash_s7 (R : Value → World → Prop) (x11 x12 x15 : Value) (w : World) : Prop :=
  callG Try.prog 37 #[x15] w fun t136 w =>
  law04_WalCrash_s6 R x11 x12 t136 w

theorem law04_WalCrash_s7_eq (R : Value → World → Prop) : ∀ e w, lift Try.prog 177 (sub (bodyOf Try.f11) [1, 1, 1, 1, 1, 1, 1, 1, 1, 1, 1, 1, 1]) (finK Try.prog Try.f11.results.toList R) e w = law04_WalCrash_s7 R (e 11) (e 12) (e 15) w :=
  segs_eq (l := [(sub (bodyOf Try.f11) [1, 1, 1, 1, 1, 1, 1, 1, 1, 1, 1, 1, 1, 0])]) (y := (sub (bodyOf Try.f11) [1, 1, 1, 1, 1, 1, 1, 1, 1, 1, 1, 1, 1, 1])) (Y := (fun e w => law04_WalCrash_s6 R (e 11) (e 12) (e 17) w)) (seq_seg (x := (sub (bodyOf Try.f11) [1, 1, 1, 1, 1, 1, 1, 1, 1, 1, 1, 1, 1, 1, 0])) (y := (sub (bodyOf Try.f11) [1, 1, 1, 1, 1, 1, 1, 1, 1, 1, 1, 1, 1, 1, 1])) (law04_WalCrash_s0_eq R) (law04_WalCrash_s6_eq R)) (fun e w => by kernel_rfl)

def law04_WalCrash_s8 (R : Value → World → Prop) (x7 x11 x12 x14 : Value) (w : World) : Prop :=
  callG Try.prog 16 #[x7, x14] w fun t122 w =>
  qG Try.prog (bq .neq 24 (.tmp 122) (.const (.int .i64 0)) t122 (.int .i64 0)) w fun t123 =>
  bV t123
  (R (.bool false) w)
  (callG Try.prog 35 #[x7, (.int .i64 0), (.int .i64 40), (.int .i64 1)] w fun t126 w =>
  qG Try.prog (Instr.extract t126 0) w fun t127 =>
  qG Try.prog (Instr.extract t126 1) w fun t128 =>
  qG Try.prog (bq .neq 24 (.tmp 129) (.const (.int .i64 0)) t128 (.int .i64 0)) w fun t130 =>
  bV t130
  (R (.bool false) w)
  (qG Try.prog (bq .eql 64 (.tmp 132) (.const (.pointer none)) t127 (.pointer none)) w fun t133 =>
  bV t133
  (R (.bool false) w)
  (law04_WalCrash_s7 R x11 x12 t127 w)))

theorem law04_WalCrash_s8_eq (R : Value → World → Prop) : ∀ e w, lift Try.prog 177 (sub (bodyOf Try.f11) [1, 1, 1, 1, 1, 1, 1, 1, 1, 1]) (finK Try.prog Try.f11.results.toList R) e w = law04_WalCrash_s8 R (e 7) (e 11) (e 12) (e 14) w :=
  segs_eq (l := [(sub (bodyOf Try.f11) [1, 1, 1, 1, 1, 1, 1, 1, 1, 1, 0]), (sub (bodyOf Try.f11) [1, 1, 1, 1, 1, 1, 1, 1, 1, 1, 1, 0]), (sub (bodyOf Try.f11) [1, 1, 1, 1, 1, 1, 1, 1, 1, 1, 1, 1, 0])]) (y := (sub (bodyOf Try.f11) [1, 1, 1, 1, 1, 1, 1, 1, 1, 1, 1, 1, 1])) (Y := (fun e w => law04_WalCrash_s7 R (e 11) (e 12) (e 15) w)) (law04_WalCrash_s7_eq R) (fun e w => by kernel_rfl)

def law04_WalCrash_s9 (R : Value → World → Prop) (x2 x7 x11 x12 : Value) (w : World) : Prop :=
  lenL x2 fun t116 =>
  qG Try.prog (bq .gtr 3 (.tmp 116) (.const (.int .i64 0)) t116 (.int .i64 0)) w fun t117 =>
  bV t117
  (slL 1 x2 (some (.int .i64 1)) none fun t119 =>
  law04_WalCrash_s8 R x7 x11 x12 t119 w)
  (law04_WalCrash_s8 R x7 x11 x12 (.slice none 0 0) w)

theorem law04_WalCrash_s9_eq (R : Value → World → Prop) : ∀ e w, lift Try.prog 177 (sub (bodyOf Try.f11) [1, 1, 1, 1, 1, 1, 1, 1]) (finK Try.prog Try.f11.results.toList R) e w = law04_WalCrash_s9 R (e 2) (e 7) (e 11) (e 12) w :=
  segs_eq (l := [(sub (bodyOf Try.f11) [1, 1, 1, 1, 1, 1, 1, 1, 0]), (sub (bodyOf Try.f11) [1, 1, 1, 1, 1, 1, 1, 1, 1, 0])]) (y := (sub (bodyOf Try.f11) [1, 1, 1, 1, 1, 1, 1, 1, 1, 1])) (Y := (fun e w => law04_WalCrash_s8 R (e 7) (e 11) (e 12) (e 14) w)) (law04_WalCrash_s8_eq R) (fun e w => by kernel_rfl)

def law04_WalCrash_s10 (R : Value → World → Prop) (N1 : List Value → World → Prop) (x0 x1 x2 x7 x9 x11 x12 x13 : Value) (w : World) : Prop :=
  qG Try.prog (bq .add 3 (.tmp 72) (.const (.int .i64 1)) x13 (.int .i64 1)) w fun t73 =>
  N1 [x0, x1, x2, x7, x9, x11, x12, t73] w

theorem law04_WalCrash_s10_eq (R : Value → World → Prop) (N1 : List Value → World → Prop) : ∀ e w, lift Try.prog 177 (sub (bodyOf Try.f11) [1, 1, 1, 1, 1, 1, 1, 0, 1, 0, 0, 1, 1]) (seqK (fun e w => N1 [e 0, e 1, e 2, e 7, e 9, e 11, e 12, e 13] w) (blockK 0 (seqK (fun e w => law04_WalCrash_s9 R (e 2) (e 7) (e 11) (e 12) w) (finK Try.prog Try.f11.results.toList R)))) e w = law04_WalCrash_s10 R N1 (e 0) (e 1) (e 2) (e 7) (e 9) (e 11) (e 12) (e 13) w := fun e w => by kernel_rfl

def law04_WalCrash_s11 (R : Value → World → Prop) (N1 : List Value → World → Prop) (x0 x1 x2 x7 x9 x11 x12 x13 : Value) (w : World) : Prop :=
  ia 1 x0 x13 fun t91 =>
  ld1 t91 w fun t92 =>
  bsl 9 1 1 (zc Try.prog 9) #[(0, t92)] w fun t93 w =>
  app 9 1 16 (zc Try.prog 9) x11 t93 w fun t94 w =>
  ia 1 x0 x13 fun t98 =>
  ld1 t98 w fun t99 =>
  bsl 9 1 1 (zc Try.prog 9) #[(0, t99)] w fun t100 w =>
  callG Try.prog 36 #[x9, t100] w fun t101 w =>
  qG Try.prog (bq .neq 24 (.tmp 101) (.const (.int .i64 0)) t101 (.int .i64 0)) w fun t102 =>
  bV t102
  (law04_WalCrash_s9 R x2 x7 t94 x12 w)
  (qG Try.prog (bq .shr 3 (.tmp 103) (.tmp 104) x1 x13) w fun t105 =>
  qG Try.prog (bq .and 3 (.tmp 105) (.const (.int .i64 1)) t105 (.int .i64 1)) w fun t106 =>
  qG Try.prog (bq .eql 3 (.tmp 106) (.const (.int .i64 1)) t106 (.int .i64 1)) w fun t107 =>
  bV t107
  (callG Try.prog 39 #[x9] w fun t110 w =>
  qG Try.prog (bq .eql 24 (.tmp 110) (.const (.int .i64 0)) t110 (.int .i64 0)) w fun t111 =>
  bV t111
  (lenL t94 fun t114 =>
  law04_WalCrash_s10 R N1 x0 x1 x2 x7 x9 t94 t114 x13 w)
  (law04_WalCrash_s10 R N1 x0 x1 x2 x7 x9 t94 x12 x13 w))
  (law04_WalCrash_s10 R N1 x0 x1 x2 x7 x9 t94 x12 x13 w))

theorem law04_WalCrash_s11_eq (R : Value → World → Prop) (N1 : List Value → World → Prop) : ∀ e w, lift Try.prog 177 (sub (bodyOf Try.f11) [1, 1, 1, 1, 1, 1, 1, 0, 1, 0, 0, 1, 0, 0, 1]) (blockK 1 (seqK (fun e w => law04_WalCrash_s10 R N1 (e 0) (e 1) (e 2) (e 7) (e 9) (e 11) (e 12) (e 13) w) (seqK (fun e w => N1 [e 0, e 1, e 2, e 7, e 9, e 11, e 12, e 13] w) (blockK 0 (seqK (fun e w => law04_WalCrash_s9 R (e 2) (e 7) (e 11) (e 12) w) (finK Try.prog Try.f11.results.toList R)))))) e w = law04_WalCrash_s11 R N1 (e 0) (e 1) (e 2) (e 7) (e 9) (e 11) (e 12) (e 13) w := fun e w => by kernel_rfl

def law04_WalCrash_s12 (R : Value → World → Prop) (N1 : List Value → World → Prop) (x0 x1 x2 x7 x9 x11 x12 x13 : Value) (w : World) : Prop :=
  ia 1 x0 x13 fun t76 =>
  ld1 t76 w fun t77 =>
  lenS t77 fun t78 =>
  qG Try.prog (bq .gtr 3 (.tmp 78) (.const (.int .i64 60)) t78 (.int .i64 60)) w fun t79 =>
  bV t79
  (callG Try.prog 29 #[] w fun t87 w =>
  R t87 w)
  (ia 1 x0 x13 fun t83 =>
  ld1 t83 w fun t84 =>
  qG Try.prog (bq .eql 9 (.tmp 84) (.const (.string ⟨#[]⟩)) t84 (.string ⟨#[]⟩)) w fun t85 =>
  bV t85
  (callG Try.prog 29 #[] w fun t87_1 w =>
  R t87_1 w)
  (law04_WalCrash_s11 R N1 x0 x1 x2 x7 x9 x11 x12 x13 w))

theorem law04_WalCrash_s12_eq (R : Value → World → Prop) (N1 : List Value → World → Prop) : ∀ e w, lift Try.prog 177 (sub (bodyOf Try.f11) [1, 1, 1, 1, 1, 1, 1, 0, 1, 0, 0, 1, 0, 0]) (blockK 1 (seqK (fun e w => law04_WalCrash_s10 R N1 (e 0) (e 1) (e 2) (e 7) (e 9) (e 11) (e 12) (e 13) w) (seqK (fun e w => N1 [e 0, e 1, e 2, e 7, e 9, e 11, e 12, e 13] w) (blockK 0 (seqK (fun e w => law04_WalCrash_s9 R (e 2) (e 7) (e 11) (e 12) w) (finK Try.prog Try.f11.results.toList R)))))) e w = law04_WalCrash_s12 R N1 (e 0) (e 1) (e 2) (e 7) (e 9) (e 11) (e 12) (e 13) w :=
  segs_eq (l := [(sub (bodyOf Try.f11) [1, 1, 1, 1, 1, 1, 1, 0, 1, 0, 0, 1, 0, 0, 0])]) (y := (sub (bodyOf Try.f11) [1, 1, 1, 1, 1, 1, 1, 0, 1, 0, 0, 1, 0, 0, 1])) (Y := (fun e w => law04_WalCrash_s11 R N1 (e 0) (e 1) (e 2) (e 7) (e 9) (e 11) (e 12) (e 13) w)) (law04_WalCrash_s11_eq R N1) (fun e w => by kernel_rfl)

def law04_WalCrash_s13 (R : Value → World → Prop) (N1 : List Value → World → Prop) (x0 x1 x2 x7 x9 x11 x12 x13 : Value) (w : World) : Prop :=
  lenL x0 fun t70 =>
  qG Try.prog (bq .lss 3 (.tmp 68) (.tmp 70) x13 t70) w fun t71 =>
  bV t71
  (law04_WalCrash_s12 R N1 x0 x1 x2 x7 x9 x11 x12 x13 w)
  (law04_WalCrash_s9 R x2 x7 x11 x12 w)

theorem law04_WalCrash_s13_eq (R : Value → World → Prop) (N1 : List Value → World → Prop) : ∀ e w, lift Try.prog 177 (sub (bodyOf Try.f11) [1, 1, 1, 1, 1, 1, 1, 0, 1, 0, 0]) (seqK (fun e w => N1 [e 0, e 1, e 2, e 7, e 9, e 11, e 12, e 13] w) (blockK 0 (seqK (fun e w => law04_WalCrash_s9 R (e 2) (e 7) (e 11) (e 12) w) (finK Try.prog Try.f11.results.toList R)))) e w = law04_WalCrash_s13 R N1 (e 0) (e 1) (e 2) (e 7) (e 9) (e 11) (e 12) (e 13) w :=
  segs_eq (l := [(sub (bodyOf Try.f11) [1, 1, 1, 1, 1, 1, 1, 0, 1, 0, 0, 0])]) (y := (sub (bodyOf Try.f11) [1, 1, 1, 1, 1, 1, 1, 0, 1, 0, 0, 1])) (Y := (fun e w => law04_WalCrash_s12 R N1 (e 0) (e 1) (e 2) (e 7) (e 9) (e 11) (e 12) (e 13) w)) (seq_seg (x := (sub (bodyOf Try.f11) [1, 1, 1, 1, 1, 1, 1, 0, 1, 0, 0, 1, 0])) (y := (sub (bodyOf Try.f11) [1, 1, 1, 1, 1, 1, 1, 0, 1, 0, 0, 1, 1])) (law04_WalCrash_s10_eq R N1) (law04_WalCrash_s12_eq R N1)) (fun e w => by kernel_rfl)

def law04_WalCrash_L14F (R : Value → World → Prop) (N1 : List Value → World → Prop) (xs : List Value) (w : World) : Prop :=
  match xs with
  | [x0, x1, x2, x7, x9, x11, x12, x13] => law04_WalCrash_s13 R N1 x0 x1 x2 x7 x9 x11 x12 x13 w
  | _ => False

def law04_WalCrash_L14 (R : Value → World → Prop) (x0 x1 x2 x7 x9 x11 x12 x13 : Value) (w : World) : Prop :=
  ∃ m, loopV (law04_WalCrash_L14F R) m [x0, x1, x2, x7, x9, x11, x12, x13] w

theorem law04_WalCrash_L14_eq (R : Value → World → Prop) : ∀ e w, lift Try.prog 177 (sub (bodyOf Try.f11) [1, 1, 1, 1, 1, 1, 1, 0, 1, 0]) (blockK 0 (seqK (fun e w => law04_WalCrash_s9 R (e 2) (e 7) (e 11) (e 12) w) (finK Try.prog Try.f11.results.toList R))) e w = law04_WalCrash_L14 R (e 0) (e 1) (e 2) (e 7) (e 9) (e 11) (e 12) (e 13) w := loop_seg (F := law04_WalCrash_L14F R) (sel := fun e => [e 0, e 1, e 2, e 7, e 9, e 11, e 12, e 13]) fun N1 => (law04_WalCrash_s13_eq R N1)

def law04_WalCrash_s15 (R : Value → World → Prop) (x0 x1 x2 x7 x9 x11 x12 : Value) (w : World) : Prop :=
  law04_WalCrash_L14 R x0 x1 x2 x7 x9 x11 x12 (.int .i64 0) w

theorem law04_WalCrash_s15_eq (R : Value → World → Prop) : ∀ e w, lift Try.prog 177 (sub (bodyOf Try.f11) [1, 1, 1, 1, 1, 1, 1, 0]) (seqK (fun e w => law04_WalCrash_s9 R (e 2) (e 7) (e 11) (e 12) w) (finK Try.prog Try.f11.results.toList R)) e w = law04_WalCrash_s15 R (e 0) (e 1) (e 2) (e 7) (e 9) (e 11) (e 12) w :=
  segs_eq (l := [(sub (bodyOf Try.f11) [1, 1, 1, 1, 1, 1, 1, 0, 0])]) (y := (sub (bodyOf Try.f11) [1, 1, 1, 1, 1, 1, 1, 0, 1])) (Y := (fun e w => law04_WalCrash_L14 R (e 0) (e 1) (e 2) (e 7) (e 9) (e 11) (e 12) (e 13) w)) (law04_WalCrash_L14_eq R) (fun e w => by kernel_rfl)

def law04_WalCrash_s16 (R : Value → World → Prop) (x0 x1 x2 x7 x9 : Value) (w : World) : Prop :=
  law04_WalCrash_s15 R x0 x1 x2 x7 x9 (.slice none 0 0) (.int .i64 0) w

theorem law04_WalCrash_s16_eq (R : Value → World → Prop) : ∀ e w, lift Try.prog 177 (sub (bodyOf Try.f11) [1, 1, 1, 1, 1]) (finK Try.prog Try.f11.results.toList R) e w = law04_WalCrash_s16 R (e 0) (e 1) (e 2) (e 7) (e 9) w :=
  segs_eq (l := [(sub (bodyOf Try.f11) [1, 1, 1, 1, 1, 0]), (sub (bodyOf Try.f11) [1, 1, 1, 1, 1, 1, 0])]) (y := (sub (bodyOf Try.f11) [1, 1, 1, 1, 1, 1, 1])) (Y := (fun e w => law04_WalCrash_s15 R (e 0) (e 1) (e 2) (e 7) (e 9) (e 11) (e 12) w)) (seq_seg (x := (sub (bodyOf Try.f11) [1, 1, 1, 1, 1, 1, 1, 0])) (y := (sub (bodyOf Try.f11) [1, 1, 1, 1, 1, 1, 1, 1])) (law04_WalCrash_s9_eq R) (law04_WalCrash_s15_eq R)) (fun e w => by kernel_rfl)

def law04_WalCrash_s17 (R : Value → World → Prop) (x0 x1 x2 x7 x9 : Value) (w : World) : Prop :=
  lenL x2 fun t57 =>
  qG Try.prog (bq .gtr 3 (.tmp 57) (.const (.int .i64 0)) t57 (.int .i64 0)) w fun t58 =>
  bV t58
  (ia 1 x2 (.int .i64 0) fun t62 =>
  ld1 t62 w fun t63 =>
  qG Try.prog (bq .and 3 (.tmp 63) (.const (.int .i64 127)) t63 (.int .i64 127)) w fun t64 =>
  callG Try.prog 23 #[x7, t64] w fun t65 w =>
  qG Try.prog (bq .neq 24 (.tmp 65) (.const (.int .i64 0)) t65 (.int .i64 0)) w fun t66 =>
  bV t66
  (R (.bool false) w)
  (law04_WalCrash_s16 R x0 x1 x2 x7 x9 w))
  (law04_WalCrash_s16 R x0 x1 x2 x7 x9 w)

theorem law04_WalCrash_s17_eq (R : Value → World → Prop) : ∀ e w, lift Try.prog 177 (sub (bodyOf Try.f11) [1, 1, 1, 1]) (finK Try.prog Try.f11.results.toList R) e w = law04_WalCrash_s17 R (e 0) (e 1) (e 2) (e 7) (e 9) w :=
  segs_eq (l := [(sub (bodyOf Try.f11) [1, 1, 1, 1, 0])]) (y := (sub (bodyOf Try.f11) [1, 1, 1, 1, 1])) (Y := (fun e w => law04_WalCrash_s16 R (e 0) (e 1) (e 2) (e 7) (e 9) w)) (law04_WalCrash_s16_eq R) (fun e w => by kernel_rfl)

def law04_WalCrash_s18 (R : Value → World → Prop) (x0 x1 x2 x7 x8 x9 x10 x42 : Value) (w : World) : Prop :=
  bV x42
  (qG Try.prog (bq .eql 24 (.tmp 43) (.const (.int .i64 0)) x8 (.int .i64 0)) w fun t44 =>
  bV t44
  (qG Try.prog (bq .eql 24 (.tmp 46) (.const (.int .i64 0)) x10 (.int .i64 0)) w fun t47 =>
  bV t47
  (qG Try.prog (bq .neq 64 (.tmp 50) (.const (.pointer none)) x9 (.pointer none)) w fun t51 =>
  bV t51
  (callG Try.prog 29 #[] w fun t54 w =>
  R t54 w)
  (R (.bool false) w))
  (R (.bool false) w))
  (R (.bool false) w))
  (law04_WalCrash_s17 R x0 x1 x2 x7 x9 w)

theorem law04_WalCrash_s18_eq (R : Value → World → Prop) : ∀ e w, lift Try.prog 177 (sub (bodyOf Try.f11) [1, 1, 1, 0, 1]) (seqK (fun e w => law04_WalCrash_s17 R (e 0) (e 1) (e 2) (e 7) (e 9) w) (finK Try.prog Try.f11.results.toList R)) e w = law04_WalCrash_s18 R (e 0) (e 1) (e 2) (e 7) (e 8) (e 9) (e 10) (e 42) w := fun e w => by kernel_rfl

def law04_WalCrash_s19 (R : Value → World → Prop) (x0 x1 x2 x7 x8 x9 x10 : Value) (w : World) : Prop :=
  qG Try.prog (bq .neq 24 (.tmp 28) (.const (.int .i64 0)) x8 (.int .i64 0)) w fun t29 =>
  bV t29
  (law04_WalCrash_s18 R x0 x1 x2 x7 x8 x9 x10 (.bool true) w)
  (qG Try.prog (bq .neq 24 (.tmp 31) (.const (.int .i64 0)) x10 (.int .i64 0)) w fun t32 =>
  bV t32
  (law04_WalCrash_s18 R x0 x1 x2 x7 x8 x9 x10 (.bool true) w)
  (qG Try.prog (bq .eql 64 (.tmp 35) (.const (.pointer none)) x9 (.pointer none)) w fun t36 =>
  bV t36
  (law04_WalCrash_s18 R x0 x1 x2 x7 x8 x9 x10 (.bool true) w)
  (lenL x0 fun t40 =>
  qG Try.prog (bq .gtr 3 (.tmp 40) (.const (.int .i64 20)) t40 (.int .i64 20)) w fun t41 =>
  law04_WalCrash_s18 R x0 x1 x2 x7 x8 x9 x10 t41 w)))

theorem law04_WalCrash_s19_eq (R : Value → World → Prop) : ∀ e w, lift Try.prog 177 (sub (bodyOf Try.f11) [1, 1, 1, 0]) (seqK (fun e w => law04_WalCrash_s17 R (e 0) (e 1) (e 2) (e 7) (e 9) w) (finK Try.prog Try.f11.results.toList R)) e w = law04_WalCrash_s19 R (e 0) (e 1) (e 2) (e 7) (e 8) (e 9) (e 10) w :=
  segs_eq (l := [(sub (bodyOf Try.f11) [1, 1, 1, 0, 0])]) (y := (sub (bodyOf Try.f11) [1, 1, 1, 0, 1])) (Y := (fun e w => law04_WalCrash_s18 R (e 0) (e 1) (e 2) (e 7) (e 8) (e 9) (e 10) (e 42) w)) (law04_WalCrash_s18_eq R) (fun e w => by kernel_rfl)

def law04_WalCrash_s20 (R : Value → World → Prop) (x0 x1 x2 : Value) (w : World) : Prop :=
  callG Try.prog 12 #[(.int .i64 40)] w fun t20 w =>
  qG Try.prog (Instr.extract t20 0) w fun t21 =>
  qG Try.prog (Instr.extract t20 1) w fun t22 =>
  callG Try.prog 35 #[t21, (.int .i64 0), (.int .i64 40), (.int .i64 1)] w fun t25 w =>
  qG Try.prog (Instr.extract t25 0) w fun t26 =>
  qG Try.prog (Instr.extract t25 1) w fun t27 =>
  law04_WalCrash_s19 R x0 x1 x2 t21 t22 t26 t27 w

theorem law04_WalCrash_s20_eq (R : Value → World → Prop) : ∀ e w, lift Try.prog 177 (bodyOf Try.f11) (finK Try.prog Try.f11.results.toList R) e w = law04_WalCrash_s20 R (e 0) (e 1) (e 2) w :=
  segs_eq (l := [(sub (bodyOf Try.f11) [0]), (sub (bodyOf Try.f11) [1, 0]), (sub (bodyOf Try.f11) [1, 1, 0])]) (y := (sub (bodyOf Try.f11) [1, 1, 1])) (Y := (fun e w => law04_WalCrash_s19 R (e 0) (e 1) (e 2) (e 7) (e 8) (e 9) (e 10) w)) (seq_seg (x := (sub (bodyOf Try.f11) [1, 1, 1, 0])) (y := (sub (bodyOf Try.f11) [1, 1, 1, 1])) (law04_WalCrash_s17_eq R) (law04_WalCrash_s19_eq R)) (fun e w => by kernel_rfl)

def law04_WalCrash (R : Value → World → Prop) (x0 x1 x2 : Value) (w : World) : Prop := law04_WalCrash_s20 R x0 x1 x2 w
theorem law04_WalCrash_call {R : Value → World → Prop} {x0 x1 x2 : Value} {w : World} (h : law04_WalCrash R x0 x1 x2 w) : callG Try.prog 11 #[x0, x1, x2] w R :=
  calls_lift_eq Try.mixed Try.func11 (args := [x0, x1, x2]) rfl rfl rfl rfl ((law04_WalCrash_s20_eq R) (envOf [x0, x1, x2]) w) (by kernel_rfl) h
end Go.Proofs
