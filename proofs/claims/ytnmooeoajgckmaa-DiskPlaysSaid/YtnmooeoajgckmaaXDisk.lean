/- Part of the proof (text XDisk): an engine, rules or contracts of the functions; it states nothing of the claim by itself. -/
import Derived.Test.YtnmooeoajgckmaaXMix
set_option linter.unusedVariables false
set_option linter.unusedSimpArgs false
namespace Go.Proofs
open Go Go.Q
set_option maxRecDepth 100000
/-! quayside/disk.New -/
def disk_New_s0 (R : Value → World → Prop) (x0 : Value) (w : World) : Prop :=
  qG Try.prog (bq .lss 3 (.tmp 4) (.const (.int .i64 1)) x0 (.int .i64 1)) w fun t5 =>
  bV t5
  (R (.tuple #[(.pointer none), (.int .i64 1)]) w)
  (qG Try.prog (bq .gtr 3 (.tmp 7) (.const (.int .i64 4096)) x0 (.int .i64 4096)) w fun t8 =>
  bV t8
  (R (.tuple #[(.pointer none), (.int .i64 1)]) w)
  ((mkG 91 32 32 (zc Try.prog 91) x0 x0 (World.drew w) fun t11 w =>
  mkG 91 32 32 (zc Try.prog 91) x0 x0 w fun t13 w =>
  bld [(0, 1), (1, 1), (2, 1), (3, 1), (4, 1)] (zc Try.prog 56) #[(0, t11), (1, t13), (3, (.int .i64 (-1)))] fun t14 =>
  newG (Value.cells t14) 56 w fun t15 w =>
  R (.tuple #[t15, (.int .i64 0)]) w) ∧
  (mkG 91 32 32 (zc Try.prog 91) x0 x0 (World.drew w) fun t13_1 w =>
  mkG 91 32 32 (zc Try.prog 91) x0 x0 w fun t11_1 w =>
  bld [(0, 1), (1, 1), (2, 1), (3, 1), (4, 1)] (zc Try.prog 56) #[(0, t11_1), (1, t13_1), (3, (.int .i64 (-1)))] fun t14_1 =>
  newG (Value.cells t14_1) 56 w fun t15_1 w =>
  R (.tuple #[t15_1, (.int .i64 0)]) w)))

theorem disk_New_s0_eq (R : Value → World → Prop) : ∀ e w, lift Try.prog 16 (bodyOf Try.f12) (finK Try.prog Try.f12.results.toList R) e w = disk_New_s0 R (e 0) w := fun e w => by kernel_rfl

def disk_New (R : Value → World → Prop) (x0 : Value) (w : World) : Prop := disk_New_s0 R x0 w
theorem disk_New_call {R : Value → World → Prop} {x0 : Value} {w : World} (h : disk_New R x0 w) : callG Try.prog 12 #[x0] w R :=
  calls_lift_eq Try.mixed Try.func12 (args := [x0]) rfl rfl rfl rfl ((disk_New_s0_eq R) (envOf [x0]) w) (by kernel_rfl) h
/-! (*quayside/disk.Disk).Write -/
def disk_Disk_Write_s0 (R : Value → World → Prop) (x0 x1 x2 : Value) (w : World) : Prop :=
  callG Try.prog 45 #[x0] w fun t17 w =>
  qG Try.prog (Op.unary .not t17) w fun t18 =>
  bV t18
  (R (.int .i64 30) w)
  (nk x0 fun t20 =>
  fa 1 t20 fun t21 =>
  ld1 t21 w fun t22 =>
  ia 32 t22 x1 fun t24 =>
  slA 32 1 t24 none none fun t25 =>
  cp 1 t25 x2 w fun t27 w =>
  nk x0 fun t30 =>
  fa 2 t30 fun t31 =>
  ld1 t31 (World.drew w) fun t32 =>
  nk x0 fun t35 =>
  fa 1 t35 fun t36 =>
  ld1 t36 (World.drew w) fun t37 =>
  ia 32 t37 x1 fun t39 =>
  ldn 32 t39 (World.drew w) fun t40 =>
  bld [(0, 1), (1, 32)] (zc Try.prog 93) #[(0, x1), (1, t40)] fun t41 =>
  bsl 93 33 1 (zc Try.prog 93) #[(0, t41)] (World.drew w) fun t42 w =>
  ld1 t31 w (fun u => u = t32) ∧
  app 93 33 40 (zc Try.prog 93) t32 t42 w fun t43 w =>
  nk x0 fun t44 =>
  fa 2 t44 fun t45 =>
  st1 t45 t43 w fun w =>
  R (.int .i64 0) w)

theorem disk_Disk_Write_s0_eq (R : Value → World → Prop) : ∀ e w, lift Try.prog 46 (sub (bodyOf Try.f13) [1, 1]) (finK Try.prog Try.f13.results.toList R) e w = disk_Disk_Write_s0 R (e 0) (e 1) (e 2) w := fun e w => by kernel_rfl

def disk_Disk_Write_s1 (R : Value → World → Prop) (x0 x1 x2 : Value) (w : World) : Prop :=
  callG Try.prog 44 #[x0, x1] w fun t9 w =>
  qG Try.prog (Op.unary .not t9) w fun t10 =>
  bV t10
  (R (.int .i64 1) w)
  (lenS x2 fun t13 =>
  qG Try.prog (bq .neq 3 (.tmp 13) (.const (.int .i64 32)) t13 (.int .i64 32)) w fun t14 =>
  bV t14
  (R (.int .i64 1) w)
  (disk_Disk_Write_s0 R x0 x1 x2 w))

theorem disk_Disk_Write_s1_eq (R : Value → World → Prop) : ∀ e w, lift Try.prog 46 (bodyOf Try.f13) (finK Try.prog Try.f13.results.toList R) e w = disk_Disk_Write_s1 R (e 0) (e 1) (e 2) w :=
  segs_eq (l := [(sub (bodyOf Try.f13) [0]), (sub (bodyOf Try.f13) [1, 0])]) (y := (sub (bodyOf Try.f13) [1, 1])) (Y := (fun e w => disk_Disk_Write_s0 R (e 0) (e 1) (e 2) w)) (disk_Disk_Write_s0_eq R) (fun e w => by kernel_rfl)

def disk_Disk_Write (R : Value → World → Prop) (x0 x1 x2 : Value) (w : World) : Prop := disk_Disk_Write_s1 R x0 x1 x2 w
theorem disk_Disk_Write_call {R : Value → World → Prop} {x0 x1 x2 : Value} {w : World} (h : disk_Disk_Write R x0 x1 x2 w) : callG Try.prog 13 #[x0, x1, x2] w R :=
  calls_lift_eq Try.mixed Try.func13 (args := [x0, x1, x2]) rfl rfl rfl rfl ((disk_Disk_Write_s1_eq R) (envOf [x0, x1, x2]) w) (by kernel_rfl) h
/-! (*quayside/disk.Disk).has -/
def disk_Disk_has_s0 (R : Value → World → Prop) (x0 x1 : Value) (w : World) : Prop :=
  qG Try.prog (bq .geq 3 (.tmp 5) (.const (.int .i64 0)) x1 (.int .i64 0)) w fun t6 =>
  bV t6
  (callG Try.prog 28 #[x0] w fun t10 w =>
  qG Try.prog (bq .lss 3 (.tmp 8) (.tmp 10) x1 t10) w fun t11 =>
  R t11 w)
  (R (.bool false) w)

theorem disk_Disk_has_s0_eq (R : Value → World → Prop) : ∀ e w, lift Try.prog 13 (bodyOf Try.f44) (finK Try.prog Try.f44.results.toList R) e w = disk_Disk_has_s0 R (e 0) (e 1) w := fun e w => by kernel_rfl

def disk_Disk_has (R : Value → World → Prop) (x0 x1 : Value) (w : World) : Prop := disk_Disk_has_s0 R x0 x1 w
theorem disk_Disk_has_call {R : Value → World → Prop} {x0 x1 : Value} {w : World} (h : disk_Disk_has R x0 x1 w) : callG Try.prog 44 #[x0, x1] w R :=
  calls_lift_eq Try.mixed Try.func44 (args := [x0, x1]) rfl rfl rfl rfl ((disk_Disk_has_s0_eq R) (envOf [x0, x1]) w) (by kernel_rfl) h
/-! (*quayside/disk.Disk).Size -/
def disk_Disk_Size_s0 (R : Value → World → Prop) (x0 : Value) (w : World) : Prop :=
  qG Try.prog (bq .eql 23 (.tmp 3) (.const (.pointer none)) x0 (.pointer none)) w fun t4 =>
  bV t4
  (R (.int .i64 0) w)
  (nk x0 fun t6 =>
  fa 1 t6 fun t7 =>
  ld1 t7 w fun t8 =>
  lenL t8 fun t9 =>
  R t9 w)

theorem disk_Disk_Size_s0_eq (R : Value → World → Prop) : ∀ e w, lift Try.prog 10 (bodyOf Try.f28) (finK Try.prog Try.f28.results.toList R) e w = disk_Disk_Size_s0 R (e 0) w := fun e w => by kernel_rfl

def disk_Disk_Size (R : Value → World → Prop) (x0 : Value) (w : World) : Prop := disk_Disk_Size_s0 R x0 w
theorem disk_Disk_Size_call {R : Value → World → Prop} {x0 : Value} {w : World} (h : disk_Disk_Size R x0 w) : callG Try.prog 28 #[x0] w R :=
  calls_lift_eq Try.mixed Try.func28 (args := [x0]) rfl rfl rfl rfl ((disk_Disk_Size_s0_eq R) (envOf [x0]) w) (by kernel_rfl) h
/-! (*quayside/disk.Disk).burns -/
def disk_Disk_burns_s0 (R : Value → World → Prop) (x0 : Value) (w : World) : Prop :=
  nk x0 fun t25 =>
  fa 3 t25 fun t26 =>
  ld1 t26 w fun t27 =>
  qG Try.prog (bq .gtr 3 (.tmp 27) (.const (.int .i64 0)) t27 (.int .i64 0)) w fun t28 =>
  bV t28
  (nk x0 fun t30 =>
  fa 3 t30 fun t31 =>
  ld1 t31 w fun t32 =>
  qG Try.prog (bq .sub 3 (.tmp 32) (.const (.int .i64 1)) t32 (.int .i64 1)) w fun t33 =>
  nk x0 fun t34 =>
  fa 3 t34 fun t35 =>
  st1 t35 t33 w fun w =>
  R (.bool true) w)
  (R (.bool true) w)

theorem disk_Disk_burns_s0_eq (R : Value → World → Prop) : ∀ e w, lift Try.prog 36 (sub (bodyOf Try.f45) [1, 1]) (finK Try.prog Try.f45.results.toList R) e w = disk_Disk_burns_s0 R (e 0) w := fun e w => by kernel_rfl

def disk_Disk_burns_s1 (R : Value → World → Prop) (x0 : Value) (w : World) : Prop :=
  nk x0 fun t18 =>
  fa 4 t18 fun t19 =>
  ld1 t19 w fun t20 =>
  bV t20
  (nk x0 fun t22 =>
  fa 3 t22 fun t23 =>
  st1 t23 (.int .i64 (-1)) w fun w =>
  R (.bool false) w)
  (disk_Disk_burns_s0 R x0 w)

theorem disk_Disk_burns_s1_eq (R : Value → World → Prop) : ∀ e w, lift Try.prog 36 (sub (bodyOf Try.f45) [1, 0, 1]) (seqK (fun e w => disk_Disk_burns_s0 R (e 0) w) (finK Try.prog Try.f45.results.toList R)) e w = disk_Disk_burns_s1 R (e 0) w := fun e w => by kernel_rfl

def disk_Disk_burns_s2 (R : Value → World → Prop) (x0 : Value) (w : World) : Prop :=
  nk x0 fun t5 =>
  fa 4 t5 fun t6 =>
  ld1 t6 w fun t7 =>
  bV t7
  (nk x0 fun t15 =>
  fa 4 t15 fun t16 =>
  st1 t16 (.bool true) w fun w =>
  disk_Disk_burns_s1 R x0 w)
  (nk x0 fun t10 =>
  fa 3 t10 fun t11 =>
  ld1 t11 w fun t12 =>
  qG Try.prog (bq .eql 3 (.tmp 12) (.const (.int .i64 0)) t12 (.int .i64 0)) w fun t13 =>
  nk x0 fun t15_1 =>
  fa 4 t15_1 fun t16_1 =>
  st1 t16_1 t13 w fun w =>
  disk_Disk_burns_s1 R x0 w)

theorem disk_Disk_burns_s2_eq (R : Value → World → Prop) : ∀ e w, lift Try.prog 36 (sub (bodyOf Try.f45) [1, 0]) (seqK (fun e w => disk_Disk_burns_s0 R (e 0) w) (finK Try.prog Try.f45.results.toList R)) e w = disk_Disk_burns_s2 R (e 0) w :=
  segs_eq (l := [(sub (bodyOf Try.f45) [1, 0, 0])]) (y := (sub (bodyOf Try.f45) [1, 0, 1])) (Y := (fun e w => disk_Disk_burns_s1 R (e 0) w)) (disk_Disk_burns_s1_eq R) (fun e w => by kernel_rfl)

def disk_Disk_burns_s3 (R : Value → World → Prop) (x0 : Value) (w : World) : Prop :=
  disk_Disk_burns_s2 R x0 w

theorem disk_Disk_burns_s3_eq (R : Value → World → Prop) : ∀ e w, lift Try.prog 36 (bodyOf Try.f45) (finK Try.prog Try.f45.results.toList R) e w = disk_Disk_burns_s3 R (e 0) w :=
  segs_eq (l := [(sub (bodyOf Try.f45) [0])]) (y := (sub (bodyOf Try.f45) [1])) (Y := (fun e w => disk_Disk_burns_s2 R (e 0) w)) (seq_seg (x := (sub (bodyOf Try.f45) [1, 0])) (y := (sub (bodyOf Try.f45) [1, 1])) (disk_Disk_burns_s0_eq R) (disk_Disk_burns_s2_eq R)) (fun e w => by kernel_rfl)

def disk_Disk_burns (R : Value → World → Prop) (x0 : Value) (w : World) : Prop := disk_Disk_burns_s3 R x0 w
theorem disk_Disk_burns_call {R : Value → World → Prop} {x0 : Value} {w : World} (h : disk_Disk_burns R x0 w) : callG Try.prog 45 #[x0] w R :=
  calls_lift_eq Try.mixed Try.func45 (args := [x0]) rfl rfl rfl rfl ((disk_Disk_burns_s3_eq R) (envOf [x0]) w) (by kernel_rfl) h
/-! (*quayside/disk.Disk).Flush -/
def disk_Disk_Flush_s0 (R : Value → World → Prop) (x0 : Value) (w : World) : Prop :=
  callG Try.prog 46 #[x0] w fun t33 w =>
  R (.int .i64 0) w

theorem disk_Disk_Flush_s0_eq (R : Value → World → Prop) : ∀ e w, lift Try.prog 34 (sub (bodyOf Try.f15) [1, 1, 1]) (finK Try.prog Try.f15.results.toList R) e w = disk_Disk_Flush_s0 R (e 0) w := fun e w => by kernel_rfl

def disk_Disk_Flush_b1 (R : Value → World → Prop) (N1 : List Value → World → Prop) (x0 x16 x17 x18 : Value) (w : World) : Prop :=
  qG Try.prog (bq .lss 3 (.tmp 18) (.tmp 17) x18 x17) w fun t19 =>
  bV t19
  (ia 33 x16 x18 fun t20 =>
  ldn 33 t20 w fun t21 =>
  newG (zc Try.prog 93) 93 w fun t4 w =>
  stn 33 t4 t21 w fun w =>
  nk x0 fun t23 =>
  fa 0 t23 fun t24 =>
  ld1 t24 (World.drew w) fun t25 =>
  fa 0 t4 fun t26 =>
  ld1 t26 (World.drew w) fun t27 =>
  fa 1 t4 fun t28 =>
  ldn 32 t28 (World.drew w) fun t29 =>
  ia 32 t25 t27 fun t30 =>
  stn 32 t30 t29 (World.drew w) fun w =>
  qG Try.prog (bq .add 3 (.tmp 18) (.const (.int .i64 1)) x18 (.int .i64 1)) w fun t31 =>
  N1 [x0, x16, x17, t31] w)
  (disk_Disk_Flush_s0 R x0 w)

theorem disk_Disk_Flush_b1_eq (R : Value → World → Prop) (N1 : List Value → World → Prop) : ∀ e w, lift Try.prog 34 (sub (bodyOf Try.f15) [1, 1, 0, 1, 0, 0]) (seqK (fun e w => N1 [e 0, e 16, e 17, e 18] w) (blockK 1 (seqK (fun e w => disk_Disk_Flush_s0 R (e 0) w) (finK Try.prog Try.f15.results.toList R)))) e w = disk_Disk_Flush_b1 R N1 (e 0) (e 16) (e 17) (e 18) w := fun e w => by kernel_rfl

def disk_Disk_Flush_L2F (R : Value → World → Prop) (N1 : List Value → World → Prop) (xs : List Value) (w : World) : Prop :=
  match xs with
  | [x0, x16, x17, x18] => disk_Disk_Flush_b1 R N1 x0 x16 x17 x18 w
  | _ => False

def disk_Disk_Flush_L2 (R : Value → World → Prop) (x0 x16 x17 x18 : Value) (w : World) : Prop :=
  ∃ m, loopV (disk_Disk_Flush_L2F R) m [x0, x16, x17, x18] w

theorem disk_Disk_Flush_L2_eq (R : Value → World → Prop) : ∀ e w, lift Try.prog 34 (sub (bodyOf Try.f15) [1, 1, 0, 1, 0]) (blockK 1 (seqK (fun e w => disk_Disk_Flush_s0 R (e 0) w) (finK Try.prog Try.f15.results.toList R))) e w = disk_Disk_Flush_L2 R (e 0) (e 16) (e 17) (e 18) w := loop_seg (F := disk_Disk_Flush_L2F R) (sel := fun e => [e 0, e 16, e 17, e 18]) fun N1 => (disk_Disk_Flush_b1_eq R N1)

def disk_Disk_Flush_s3 (R : Value → World → Prop) (x0 : Value) (w : World) : Prop :=
  nk x0 fun t14 =>
  fa 2 t14 fun t15 =>
  ld1 t15 w fun t16 =>
  lenL t16 fun t17 =>
  disk_Disk_Flush_L2 R x0 t16 t17 (.int .i64 0) w

theorem disk_Disk_Flush_s3_eq (R : Value → World → Prop) : ∀ e w, lift Try.prog 34 (sub (bodyOf Try.f15) [1, 1, 0]) (seqK (fun e w => disk_Disk_Flush_s0 R (e 0) w) (finK Try.prog Try.f15.results.toList R)) e w = disk_Disk_Flush_s3 R (e 0) w :=
  segs_eq (l := [(sub (bodyOf Try.f15) [1, 1, 0, 0])]) (y := (sub (bodyOf Try.f15) [1, 1, 0, 1])) (Y := (fun e w => disk_Disk_Flush_L2 R (e 0) (e 16) (e 17) (e 18) w)) (disk_Disk_Flush_L2_eq R) (fun e w => by kernel_rfl)

def disk_Disk_Flush_s4 (R : Value → World → Prop) (x0 : Value) (w : World) : Prop :=
  callG Try.prog 28 #[x0] w fun t7 w =>
  qG Try.prog (bq .eql 3 (.tmp 7) (.const (.int .i64 0)) t7 (.int .i64 0)) w fun t8 =>
  bV t8
  (R (.int .i64 1) w)
  (callG Try.prog 45 #[x0] w fun t11 w =>
  qG Try.prog (Op.unary .not t11) w fun t12 =>
  bV t12
  (R (.int .i64 30) w)
  (disk_Disk_Flush_s3 R x0 w))

theorem disk_Disk_Flush_s4_eq (R : Value → World → Prop) : ∀ e w, lift Try.prog 34 (bodyOf Try.f15) (finK Try.prog Try.f15.results.toList R) e w = disk_Disk_Flush_s4 R (e 0) w :=
  segs_eq (l := [(sub (bodyOf Try.f15) [0]), (sub (bodyOf Try.f15) [1, 0])]) (y := (sub (bodyOf Try.f15) [1, 1])) (Y := (fun e w => disk_Disk_Flush_s3 R (e 0) w)) (seq_seg (x := (sub (bodyOf Try.f15) [1, 1, 0])) (y := (sub (bodyOf Try.f15) [1, 1, 1])) (disk_Disk_Flush_s0_eq R) (disk_Disk_Flush_s3_eq R)) (fun e w => by kernel_rfl)

def disk_Disk_Flush (R : Value → World → Prop) (x0 : Value) (w : World) : Prop := disk_Disk_Flush_s4 R x0 w
theorem disk_Disk_Flush_call {R : Value → World → Prop} {x0 : Value} {w : World} (h : disk_Disk_Flush R x0 w) : callG Try.prog 15 #[x0] w R :=
  calls_lift_eq Try.mixed Try.func15 (args := [x0]) rfl rfl rfl rfl ((disk_Disk_Flush_s4_eq R) (envOf [x0]) w) (by kernel_rfl) h
/-! (*quayside/disk.Disk).settles -/
def disk_Disk_settles_s0 (R : Value → World → Prop) (x0 : Value) (w : World) : Prop :=
  nk x0 fun t3 =>
  fa 2 t3 fun t4 =>
  ld1 t4 w fun t5 =>
  clr 33 (zc Try.prog 93) t5 w fun _ w =>
  nk x0 fun t8 =>
  fa 2 t8 fun t9 =>
  ld1 t9 w fun t10 =>
  slL 33 t10 none (some (.int .i64 0)) fun t11 =>
  nk x0 fun t12 =>
  fa 2 t12 fun t13 =>
  st1 t13 t11 w fun w =>
  R (.tuple #[]) w

theorem disk_Disk_settles_s0_eq (R : Value → World → Prop) : ∀ e w, lift Try.prog 14 (bodyOf Try.f46) (finK Try.prog Try.f46.results.toList R) e w = disk_Disk_settles_s0 R (e 0) w := fun e w => by kernel_rfl

def disk_Disk_settles (R : Value → World → Prop) (x0 : Value) (w : World) : Prop := disk_Disk_settles_s0 R x0 w
theorem disk_Disk_settles_call {R : Value → World → Prop} {x0 : Value} {w : World} (h : disk_Disk_settles R x0 w) : callG Try.prog 46 #[x0] w R :=
  calls_lift_eq Try.mixed Try.func46 (args := [x0]) rfl rfl rfl rfl ((disk_Disk_settles_s0_eq R) (envOf [x0]) w) (by kernel_rfl) h
/-! (*quayside/disk.Disk).Crash -/
def disk_Disk_Crash_s0 (R : Value → World → Prop) (x0 : Value) (w : World) : Prop :=
  nk x0 fun t45 =>
  fa 1 t45 fun t46 =>
  ld1 t46 (World.drew w) fun t47 =>
  nk x0 fun t49 =>
  fa 0 t49 fun t50 =>
  ld1 t50 (World.drew w) fun t51 =>
  cp 32 t47 t51 (World.drew w) fun t52 w =>
  callG Try.prog 46 #[x0] w fun t54 w =>
  nk x0 fun t57 =>
  fa 4 t57 fun t58 =>
  st1 t58 (.bool false) w fun w =>
  nk x0 fun t59 =>
  fa 3 t59 fun t60 =>
  st1 t60 (.int .i64 (-1)) w fun w =>
  R (.int .i64 0) w

theorem disk_Disk_Crash_s0_eq (R : Value → World → Prop) : ∀ e w, lift Try.prog 61 (sub (bodyOf Try.f16) [1, 1, 1]) (finK Try.prog Try.f16.results.toList R) e w = disk_Disk_Crash_s0 R (e 0) w := fun e w => by kernel_rfl

def disk_Disk_Crash_b1 (R : Value → World → Prop) (N1 : List Value → World → Prop) (x0 x1 x14 x15 x16 : Value) (w : World) : Prop :=
  qG Try.prog (bq .lss 3 (.tmp 16) (.tmp 15) x16 x15) w fun t17 =>
  bV t17
  (ia 33 x14 x16 fun t19 =>
  ldn 33 t19 w fun t20 =>
  newG (zc Try.prog 93) 93 w fun t6 w =>
  stn 33 t6 t20 w fun w =>
  lenL x1 fun t23 =>
  qG Try.prog (bq .lss 3 (.tmp 21) (.tmp 23) x16 t23) w fun t24 =>
  bV t24
  (ia 1 x1 x16 fun t27 =>
  ld1 t27 w fun t28 =>
  qG Try.prog (Builtin.min_ #[3, 3] 3 #[t28, (.int .i64 32)]) w fun t29 =>
  qG Try.prog (Builtin.max_ #[3, 3] 3 #[(.int .i64 0), t29]) w fun t30 =>
  nk x0 fun t32 =>
  fa 0 t32 fun t33 =>
  ld1 t33 (World.drew w) fun t34 =>
  fa 0 t6 fun t35 =>
  ld1 t35 (World.drew w) fun t36 =>
  ia 32 t34 t36 fun t37 =>
  slA 32 1 t37 none (some t30) fun t39 =>
  fa 1 t6 fun t40 =>
  slA 32 1 t40 none none fun t41 =>
  cp 1 t39 t41 (World.drew w) fun t42 w =>
  qG Try.prog (bq .add 3 (.tmp 16) (.const (.int .i64 1)) x16 (.int .i64 1)) w fun t43 =>
  N1 [x0, x1, x14, x15, t43] w)
  (qG Try.prog (bq .add 3 (.tmp 16) (.const (.int .i64 1)) x16 (.int .i64 1)) w fun t43_1 =>
  N1 [x0, x1, x14, x15, t43_1] w))
  (disk_Disk_Crash_s0 R x0 w)

theorem disk_Disk_Crash_b1_eq (R : Value → World → Prop) (N1 : List Value → World → Prop) : ∀ e w, lift Try.prog 61 (sub (bodyOf Try.f16) [1, 1, 0, 1, 0, 0]) (seqK (fun e w => N1 [e 0, e 1, e 14, e 15, e 16] w) (blockK 0 (seqK (fun e w => disk_Disk_Crash_s0 R (e 0) w) (finK Try.prog Try.f16.results.toList R)))) e w = disk_Disk_Crash_b1 R N1 (e 0) (e 1) (e 14) (e 15) (e 16) w := fun e w => by kernel_rfl

def disk_Disk_Crash_L2F (R : Value → World → Prop) (N1 : List Value → World → Prop) (xs : List Value) (w : World) : Prop :=
  match xs with
  | [x0, x1, x14, x15, x16] => disk_Disk_Crash_b1 R N1 x0 x1 x14 x15 x16 w
  | _ => False

def disk_Disk_Crash_L2 (R : Value → World → Prop) (x0 x1 x14 x15 x16 : Value) (w : World) : Prop :=
  ∃ m, loopV (disk_Disk_Crash_L2F R) m [x0, x1, x14, x15, x16] w

theorem disk_Disk_Crash_L2_eq (R : Value → World → Prop) : ∀ e w, lift Try.prog 61 (sub (bodyOf Try.f16) [1, 1, 0, 1, 0]) (blockK 0 (seqK (fun e w => disk_Disk_Crash_s0 R (e 0) w) (finK Try.prog Try.f16.results.toList R))) e w = disk_Disk_Crash_L2 R (e 0) (e 1) (e 14) (e 15) (e 16) w := loop_seg (F := disk_Disk_Crash_L2F R) (sel := fun e => [e 0, e 1, e 14, e 15, e 16]) fun N1 => (disk_Disk_Crash_b1_eq R N1)

def disk_Disk_Crash_s3 (R : Value → World → Prop) (x0 x1 : Value) (w : World) : Prop :=
  nk x0 fun t12 =>
  fa 2 t12 fun t13 =>
  ld1 t13 w fun t14 =>
  lenL t14 fun t15 =>
  disk_Disk_Crash_L2 R x0 x1 t14 t15 (.int .i64 0) w

theorem disk_Disk_Crash_s3_eq (R : Value → World → Prop) : ∀ e w, lift Try.prog 61 (sub (bodyOf Try.f16) [1, 1, 0]) (seqK (fun e w => disk_Disk_Crash_s0 R (e 0) w) (finK Try.prog Try.f16.results.toList R)) e w = disk_Disk_Crash_s3 R (e 0) (e 1) w :=
  segs_eq (l := [(sub (bodyOf Try.f16) [1, 1, 0, 0])]) (y := (sub (bodyOf Try.f16) [1, 1, 0, 1])) (Y := (fun e w => disk_Disk_Crash_L2 R (e 0) (e 1) (e 14) (e 15) (e 16) w)) (disk_Disk_Crash_L2_eq R) (fun e w => by kernel_rfl)

def disk_Disk_Crash_s4 (R : Value → World → Prop) (x0 x1 : Value) (w : World) : Prop :=
  callG Try.prog 28 #[x0] w fun t9 w =>
  qG Try.prog (bq .eql 3 (.tmp 9) (.const (.int .i64 0)) t9 (.int .i64 0)) w fun t10 =>
  bV t10
  (R (.int .i64 1) w)
  (disk_Disk_Crash_s3 R x0 x1 w)

theorem disk_Disk_Crash_s4_eq (R : Value → World → Prop) : ∀ e w, lift Try.prog 61 (bodyOf Try.f16) (finK Try.prog Try.f16.results.toList R) e w = disk_Disk_Crash_s4 R (e 0) (e 1) w :=
  segs_eq (l := [(sub (bodyOf Try.f16) [0]), (sub (bodyOf Try.f16) [1, 0])]) (y := (sub (bodyOf Try.f16) [1, 1])) (Y := (fun e w => disk_Disk_Crash_s3 R (e 0) (e 1) w)) (seq_seg (x := (sub (bodyOf Try.f16) [1, 1, 0])) (y := (sub (bodyOf Try.f16) [1, 1, 1])) (disk_Disk_Crash_s0_eq R) (disk_Disk_Crash_s3_eq R)) (fun e w => by kernel_rfl)

def disk_Disk_Crash (R : Value → World → Prop) (x0 x1 : Value) (w : World) : Prop := disk_Disk_Crash_s4 R x0 x1 w
theorem disk_Disk_Crash_call {R : Value → World → Prop} {x0 x1 : Value} {w : World} (h : disk_Disk_Crash R x0 x1 w) : callG Try.prog 16 #[x0, x1] w R :=
  calls_lift_eq Try.mixed Try.func16 (args := [x0, x1]) rfl rfl rfl rfl ((disk_Disk_Crash_s4_eq R) (envOf [x0, x1]) w) (by kernel_rfl) h
/-! (*quayside/disk.Disk).Read -/
def disk_Disk_Read_s0 (R : Value → World → Prop) (x0 x1 : Value) (w : World) : Prop :=
  callG Try.prog 44 #[x0, x1] w fun t9 w =>
  qG Try.prog (Op.unary .not t9) w fun t10 =>
  bV t10
  (R (.tuple #[(.string ⟨#[]⟩), (.int .i64 1)]) w)
  (nk x0 fun t13 =>
  fa 4 t13 fun t14 =>
  ld1 t14 w fun t15 =>
  bV t15
  (R (.tuple #[(.string ⟨#[]⟩), (.int .i64 30)]) w)
  (nk x0 fun t17 =>
  fa 1 t17 fun t18 =>
  ld1 t18 w fun t19 =>
  ia 32 t19 x1 fun t21 =>
  slA 32 1 t21 none none fun t22 =>
  cvBS t22 w fun t23 =>
  R (.tuple #[t23, (.int .i64 0)]) w))

theorem disk_Disk_Read_s0_eq (R : Value → World → Prop) : ∀ e w, lift Try.prog 24 (bodyOf Try.f17) (finK Try.prog Try.f17.results.toList R) e w = disk_Disk_Read_s0 R (e 0) (e 1) w := fun e w => by kernel_rfl

def disk_Disk_Read (R : Value → World → Prop) (x0 x1 : Value) (w : World) : Prop := disk_Disk_Read_s0 R x0 x1 w
theorem disk_Disk_Read_call {R : Value → World → Prop} {x0 x1 : Value} {w : World} (h : disk_Disk_Read R x0 x1 w) : callG Try.prog 17 #[x0, x1] w R :=
  calls_lift_eq Try.mixed Try.func17 (args := [x0, x1]) rfl rfl rfl rfl ((disk_Disk_Read_s0_eq R) (envOf [x0, x1]) w) (by kernel_rfl) h
/-! (*quayside/disk.Disk).Waits -/
def disk_Disk_Waits_s0 (R : Value → World → Prop) (x0 : Value) (w : World) : Prop :=
  qG Try.prog (bq .eql 23 (.tmp 3) (.const (.pointer none)) x0 (.pointer none)) w fun t4 =>
  bV t4
  (R (.int .i64 0) w)
  (nk x0 fun t6 =>
  fa 2 t6 fun t7 =>
  ld1 t7 w fun t8 =>
  lenL t8 fun t9 =>
  R t9 w)

theorem disk_Disk_Waits_s0_eq (R : Value → World → Prop) : ∀ e w, lift Try.prog 10 (bodyOf Try.f27) (finK Try.prog Try.f27.results.toList R) e w = disk_Disk_Waits_s0 R (e 0) w := fun e w => by kernel_rfl

def disk_Disk_Waits (R : Value → World → Prop) (x0 : Value) (w : World) : Prop := disk_Disk_Waits_s0 R x0 w
theorem disk_Disk_Waits_call {R : Value → World → Prop} {x0 : Value} {w : World} (h : disk_Disk_Waits R x0 w) : callG Try.prog 27 #[x0] w R :=
  calls_lift_eq Try.mixed Try.func27 (args := [x0]) rfl rfl rfl rfl ((disk_Disk_Waits_s0_eq R) (envOf [x0]) w) (by kernel_rfl) h
/-! (*quayside/disk.Disk).Fuse -/
def disk_Disk_Fuse_s0 (R : Value → World → Prop) (x0 x1 : Value) (w : World) : Prop :=
  callG Try.prog 28 #[x0] w fun t6 w =>
  qG Try.prog (bq .eql 3 (.tmp 6) (.const (.int .i64 0)) t6 (.int .i64 0)) w fun t7 =>
  bV t7
  (R (.int .i64 1) w)
  (qG Try.prog (Builtin.max_ #[3, 3] 3 #[x1, (.int .i64 (-1))]) w fun t10 =>
  nk x0 fun t11 =>
  fa 3 t11 fun t12 =>
  st1 t12 t10 w fun w =>
  R (.int .i64 0) w)

theorem disk_Disk_Fuse_s0_eq (R : Value → World → Prop) : ∀ e w, lift Try.prog 13 (bodyOf Try.f23) (finK Try.prog Try.f23.results.toList R) e w = disk_Disk_Fuse_s0 R (e 0) (e 1) w := fun e w => by kernel_rfl

def disk_Disk_Fuse (R : Value → World → Prop) (x0 x1 : Value) (w : World) : Prop := disk_Disk_Fuse_s0 R x0 x1 w
theorem disk_Disk_Fuse_call {R : Value → World → Prop} {x0 x1 : Value} {w : World} (h : disk_Disk_Fuse R x0 x1 w) : callG Try.prog 23 #[x0, x1] w R :=
  calls_lift_eq Try.mixed Try.func23 (args := [x0, x1]) rfl rfl rfl rfl ((disk_Disk_Fuse_s0_eq R) (envOf [x0, x1]) w) (by kernel_rfl) h
/-! (*quayside/disk.Disk).Off -/
def disk_Disk_Off_s0 (R : Value → World → Prop) (x0 : Value) (w : World) : Prop :=
  qG Try.prog (bq .neq 23 (.tmp 3) (.const (.pointer none)) x0 (.pointer none)) w fun t4 =>
  bV t4
  (nk x0 fun t7 =>
  fa 4 t7 fun t8 =>
  ld1 t8 w fun t9 =>
  R t9 w)
  (R (.bool false) w)

theorem disk_Disk_Off_s0_eq (R : Value → World → Prop) : ∀ e w, lift Try.prog 11 (bodyOf Try.f26) (finK Try.prog Try.f26.results.toList R) e w = disk_Disk_Off_s0 R (e 0) w := fun e w => by kernel_rfl

def disk_Disk_Off (R : Value → World → Prop) (x0 : Value) (w : World) : Prop := disk_Disk_Off_s0 R x0 w
theorem disk_Disk_Off_call {R : Value → World → Prop} {x0 : Value} {w : World} (h : disk_Disk_Off R x0 w) : callG Try.prog 26 #[x0] w R :=
  calls_lift_eq Try.mixed Try.func26 (args := [x0]) rfl rfl rfl rfl ((disk_Disk_Off_s0_eq R) (envOf [x0]) w) (by kernel_rfl) h
end Go.Proofs
