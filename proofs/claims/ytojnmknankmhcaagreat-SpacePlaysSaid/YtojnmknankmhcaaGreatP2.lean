/- Part of the proof (P2): an engine, rules or contracts of the functions; it states nothing of the claim by itself. -/
import Derived.Test.YtojnmknankmhcaaGreatP1
import Derived.Lib.Overlaps
import Derived.MapKept
import Derived.WideKeyRuns
import Derived.Laws.Slices
import Derived.Laws.Externs
import GoSem.Extern.BytealgCompare

set_option linter.unusedVariables false
set_option linter.unusedSimpArgs false
namespace Go.Proofs
open Go Go.Q
set_option maxRecDepth 100000
/-! (*quayside/space.bits).has -/
def space_bits_has_s0 (R : Value → World → Prop) (x0 x1 : Value) (w : World) : Prop :=
  qG Tryz.prog (bq .geq 3 (.tmp 5) (.const (.int .i64 1)) x1 (.int .i64 1)) w fun t6 =>
  bV t6
  (qG Tryz.prog (bq .lss 3 (.tmp 8) (.const (.int .i64 504)) x1 (.int .i64 504)) w fun t9 =>
  bV t9
  (qG Tryz.prog (bq .quo 3 (.tmp 13) (.const (.int .i64 8)) x1 (.int .i64 8)) w fun t14 =>
  nk x0 fun t15 =>
  iaA 63 1 t15 t14 fun t16 =>
  ld1 t16 w fun t17 =>
  qG Tryz.prog (bq .rem 3 (.tmp 18) (.const (.int .i64 8)) x1 (.int .i64 8)) w fun t19 =>
  qG Tryz.prog (bq .shr 5 (.tmp 17) (.tmp 19) t17 t19) w fun t20 =>
  qG Tryz.prog (bq .and 5 (.tmp 20) (.const (.int .u8 1)) t20 (.int .u8 1)) w fun t21 =>
  qG Tryz.prog (bq .eql 5 (.tmp 21) (.const (.int .u8 1)) t21 (.int .u8 1)) w fun t22 =>
  R t22 w)
  (R (.bool false) w))
  (R (.bool false) w)
theorem space_bits_has_s0_eq (R : Value → World → Prop) : ∀ e w, lift Tryz.prog 24 (bodyOf Tryz.f53) (finK Tryz.prog Tryz.f53.results.toList R) e w = space_bits_has_s0 R (e 0) (e 1) w := fun e w => by kernel_rfl
def space_bits_has (R : Value → World → Prop) (x0 x1 : Value) (w : World) : Prop := space_bits_has_s0 R x0 x1 w
theorem space_bits_has_call {R : Value → World → Prop} {x0 x1 : Value} {w : World} (h : space_bits_has R x0 x1 w) : callG Tryz.prog 53 #[x0, x1] w R :=
  calls_lift_eq Tryz.mixed Tryz.func53 (args := [x0, x1]) rfl rfl rfl rfl ((space_bits_has_s0_eq R) (envOf [x0, x1]) w) (by kernel_rfl) h
/-! (*quayside/space.bits).set -/
def space_bits_set_s0 (R : Value → World → Prop) (x0 x1 x2 : Value) (w : World) : Prop :=
  qG Tryz.prog (bq .quo 3 (.tmp 7) (.const (.int .i64 8)) x1 (.int .i64 8)) (World.drew w) fun t8 =>
  nk x0 fun t9 =>
  iaA 63 1 t9 t8 fun t10 =>
  ld1 t10 (World.drew w) fun t11 =>
  qG Tryz.prog (bq .rem 3 (.tmp 12) (.const (.int .i64 8)) x1 (.int .i64 8)) (World.drew w) fun t13 =>
  qG Tryz.prog (bq .shl 5 (.const (.int .u8 1)) (.tmp 13) (.int .u8 1) t13) (World.drew w) fun t14 =>
  qG Tryz.prog (bq .andNot 5 (.tmp 11) (.tmp 14) t11 t14) (World.drew w) fun t15 =>
  nk x0 fun t16 =>
  iaA 63 1 t16 t8 fun t17 =>
  st1 t17 t15 (World.drew w) fun w =>
  bV x2
  (qG Tryz.prog (bq .quo 3 (.tmp 20) (.const (.int .i64 8)) x1 (.int .i64 8)) (World.drew w) fun t21 =>
  nk x0 fun t22 =>
  iaA 63 1 t22 t21 fun t23 =>
  ld1 t23 (World.drew w) fun t24 =>
  qG Tryz.prog (bq .rem 3 (.tmp 25) (.const (.int .i64 8)) x1 (.int .i64 8)) (World.drew w) fun t26 =>
  qG Tryz.prog (bq .shl 5 (.const (.int .u8 1)) (.tmp 26) (.int .u8 1) t26) (World.drew w) fun t27 =>
  qG Tryz.prog (bq .or 5 (.tmp 24) (.tmp 27) t24 t27) (World.drew w) fun t28 =>
  nk x0 fun t29 =>
  iaA 63 1 t29 t21 fun t30 =>
  st1 t30 t28 (World.drew w) fun w =>
  R (.tuple #[]) w)
  (R (.tuple #[]) w)
theorem space_bits_set_s0_eq (R : Value → World → Prop) : ∀ e w, lift Tryz.prog 31 (bodyOf Tryz.f56) (finK Tryz.prog Tryz.f56.results.toList R) e w = space_bits_set_s0 R (e 0) (e 1) (e 2) w := fun e w => by kernel_rfl
def space_bits_set (R : Value → World → Prop) (x0 x1 x2 : Value) (w : World) : Prop := space_bits_set_s0 R x0 x1 x2 w
theorem space_bits_set_call {R : Value → World → Prop} {x0 x1 x2 : Value} {w : World} (h : space_bits_set R x0 x1 x2 w) : callG Tryz.prog 56 #[x0, x1, x2] w R :=
  calls_lift_eq Tryz.mixed Tryz.func56 (args := [x0, x1, x2]) rfl rfl rfl rfl ((space_bits_set_s0_eq R) (envOf [x0, x1, x2]) w) (by kernel_rfl) h
/-! (quayside/space.state).copied -/
def space_state_copied_s0 (R : Value → World → Prop) (x1 x2 x3 : Value) (w : World) : Prop :=
  fa 0 x1 fun t18 =>
  ldn 63 t18 w fun t19 =>
  bld [(0, 63), (63, 1)] (zc Tryz.prog 57) #[(0, t19), (1, x3)] fun t21 =>
  stn 64 x2 t21 w fun w =>
  qG Tryz.prog (do loadVar 57 (← asAddr x2)) w fun r2 =>
  R r2 w
theorem space_state_copied_s0_eq (R : Value → World → Prop) : ∀ e w, lift Tryz.prog 22 (sub (bodyOf Tryz.f17) [1, 1, 1]) (finK Tryz.prog Tryz.f17.results.toList R) e w = space_state_copied_s0 R (e 1) (e 2) (e 3) w := fun e w => by kernel_rfl
def space_state_copied_b1 (R : Value → World → Prop) (N1 : List Value → World → Prop) (x1 x2 x3 x9 : Value) (w : World) : Prop :=
  eG Tryz.prog (Instr.next x9 false 0) w fun t10 w =>
  qG Tryz.prog (Instr.extract t10 0) w fun t11 =>
  bV t11
  (eG Tryz.prog (Instr.entry x9) w fun t12 w =>
  qG Tryz.prog (Instr.extract t12 0) w fun t13 =>
  qG Tryz.prog (Instr.extract t12 1) w fun t14 =>
  uG Tryz.prog (Instr.mapUpdate 55 x3 t13 t14) w fun w =>
  N1 [x1, x2, x3, x9] w)
  (space_state_copied_s0 R x1 x2 x3 w)
theorem space_state_copied_b1_eq (R : Value → World → Prop) (N1 : List Value → World → Prop) : ∀ e w, lift Tryz.prog 22 (sub (bodyOf Tryz.f17) [1, 1, 0, 1, 0, 0]) (seqK (fun e w => N1 [e 1, e 2, e 3, e 9] w) (blockK 0 (seqK (fun e w => space_state_copied_s0 R (e 1) (e 2) (e 3) w) (finK Tryz.prog Tryz.f17.results.toList R)))) e w = space_state_copied_b1 R N1 (e 1) (e 2) (e 3) (e 9) w := fun e w => by kernel_rfl
def space_state_copied_L2F (R : Value → World → Prop) (N1 : List Value → World → Prop) (xs : List Value) (w : World) : Prop :=
  match xs with
  | [x1, x2, x3, x9] => space_state_copied_b1 R N1 x1 x2 x3 x9 w
  | _ => False
def space_state_copied_L2 (R : Value → World → Prop) (x1 x2 x3 x9 : Value) (w : World) : Prop :=
  ∃ m, loopV (space_state_copied_L2F R) m [x1, x2, x3, x9] w
theorem space_state_copied_L2_eq (R : Value → World → Prop) : ∀ e w, lift Tryz.prog 22 (sub (bodyOf Tryz.f17) [1, 1, 0, 1, 0]) (blockK 0 (seqK (fun e w => space_state_copied_s0 R (e 1) (e 2) (e 3) w) (finK Tryz.prog Tryz.f17.results.toList R))) e w = space_state_copied_L2 R (e 1) (e 2) (e 3) (e 9) w := loop_seg (F := space_state_copied_L2F R) (sel := fun e => [e 1, e 2, e 3, e 9]) fun N1 => (space_state_copied_b1_eq R N1)
def space_state_copied_s3 (R : Value → World → Prop) (x1 x2 x3 : Value) (w : World) : Prop :=
  fa 63 x1 fun t7 =>
  ld1 t7 w fun t8 =>
  eG Tryz.prog (Instr.range 55 t8) w fun t9 w =>
  space_state_copied_L2 R x1 x2 x3 t9 w
theorem space_state_copied_s3_eq (R : Value → World → Prop) : ∀ e w, lift Tryz.prog 22 (sub (bodyOf Tryz.f17) [1, 1, 0]) (seqK (fun e w => space_state_copied_s0 R (e 1) (e 2) (e 3) w) (finK Tryz.prog Tryz.f17.results.toList R)) e w = space_state_copied_s3 R (e 1) (e 2) (e 3) w :=
  segs_eq (l := [(sub (bodyOf Tryz.f17) [1, 1, 0, 0])]) (y := (sub (bodyOf Tryz.f17) [1, 1, 0, 1])) (Y := (fun e w => space_state_copied_L2 R (e 1) (e 2) (e 3) (e 9) w)) (space_state_copied_L2_eq R) (fun e w => by kernel_rfl)
def space_state_copied_s4 (R : Value → World → Prop) (x0 : Value) (w : World) : Prop :=
  newG (Value.cells x0) 57 w fun t1 w =>
  newG (zc Tryz.prog 57) 57 w fun t2 w =>
  eG Tryz.prog (Instr.makeMap 55 none) w fun t6 w =>
  space_state_copied_s3 R t1 t2 t6 w
theorem space_state_copied_s4_eq (R : Value → World → Prop) : ∀ e w, lift Tryz.prog 22 (bodyOf Tryz.f17) (finK Tryz.prog Tryz.f17.results.toList R) e w = space_state_copied_s4 R (e 0) w :=
  segs_eq (l := [(sub (bodyOf Tryz.f17) [0]), (sub (bodyOf Tryz.f17) [1, 0])]) (y := (sub (bodyOf Tryz.f17) [1, 1])) (Y := (fun e w => space_state_copied_s3 R (e 1) (e 2) (e 3) w)) (seq_seg (x := (sub (bodyOf Tryz.f17) [1, 1, 0])) (y := (sub (bodyOf Tryz.f17) [1, 1, 1])) (space_state_copied_s0_eq R) (space_state_copied_s3_eq R)) (fun e w => by kernel_rfl)
def space_state_copied (R : Value → World → Prop) (x0 : Value) (w : World) : Prop := space_state_copied_s4 R x0 w
theorem space_state_copied_call {R : Value → World → Prop} {x0 : Value} {w : World} (h : space_state_copied R x0 w) : callG Tryz.prog 17 #[x0] w R :=
  calls_lift_eq Tryz.mixed Tryz.func17 (args := [x0]) rfl rfl rfl rfl ((space_state_copied_s4_eq R) (envOf [x0]) w) (by kernel_rfl) h
/-! (*quayside/space.Space).sectors -/
def space_Space_sectors_s0 (R : Value → World → Prop) (w : World) : Prop :=
  R (.int .i64 0) w
theorem space_Space_sectors_s0_eq (R : Value → World → Prop) : ∀ e w, lift Tryz.prog 28 (sub (bodyOf Tryz.f75) [1, 1]) (finK Tryz.prog Tryz.f75.results.toList R) e w = space_Space_sectors_s0 R w := fun e w => by kernel_rfl
def space_Space_sectors_b1 (R : Value → World → Prop) (N1 : List Value → World → Prop) (x0 x1 x2 x9 : Value) (w : World) : Prop :=
  qG Tryz.prog (bq .lss 3 (.tmp 9) (.const (.int .i64 8)) x9 (.int .i64 8)) w fun t10 =>
  bV t10
  (nk x0 fun t15 =>
  fa 1 t15 fun t16 =>
  ld1 t16 w fun t17 =>
  qG Tryz.prog (bq .mul 3 (.tmp 18) (.const (.int .i64 8)) x1 (.int .i64 8)) w fun t19 =>
  qG Tryz.prog (bq .add 3 (.tmp 17) (.tmp 19) t17 t19) w fun t20 =>
  qG Tryz.prog (bq .add 3 (.tmp 20) (.tmp 21) t20 x9) w fun t22 =>
  callV Tryz.prog x2 #[x9, t22] w fun t23 w =>
  qG Tryz.prog (bq .neq 24 (.tmp 24) (.const (.int .i64 0)) t23 (.int .i64 0)) w fun t25 =>
  bV t25
  (R t23 w)
  (qG Tryz.prog (bq .add 3 (.tmp 9) (.const (.int .i64 1)) x9 (.int .i64 1)) w fun t27 =>
  N1 [x0, x1, x2, t27] w))
  (space_Space_sectors_s0 R  w)
theorem space_Space_sectors_b1_eq (R : Value → World → Prop) (N1 : List Value → World → Prop) : ∀ e w, lift Tryz.prog 28 (sub (bodyOf Tryz.f75) [1, 0, 1, 0, 0]) (seqK (fun e w => N1 [e 0, e 1, e 2, e 9] w) (blockK 0 (seqK (fun e w => space_Space_sectors_s0 R  w) (finK Tryz.prog Tryz.f75.results.toList R)))) e w = space_Space_sectors_b1 R N1 (e 0) (e 1) (e 2) (e 9) w := fun e w => by kernel_rfl
def space_Space_sectors_L2F (R : Value → World → Prop) (N1 : List Value → World → Prop) (xs : List Value) (w : World) : Prop :=
  match xs with
  | [x0, x1, x2, x9] => space_Space_sectors_b1 R N1 x0 x1 x2 x9 w
  | _ => False
def space_Space_sectors_L2 (R : Value → World → Prop) (x0 x1 x2 x9 : Value) (w : World) : Prop :=
  ∃ m, loopV (space_Space_sectors_L2F R) m [x0, x1, x2, x9] w
theorem space_Space_sectors_L2_eq (R : Value → World → Prop) : ∀ e w, lift Tryz.prog 28 (sub (bodyOf Tryz.f75) [1, 0, 1, 0]) (blockK 0 (seqK (fun e w => space_Space_sectors_s0 R  w) (finK Tryz.prog Tryz.f75.results.toList R))) e w = space_Space_sectors_L2 R (e 0) (e 1) (e 2) (e 9) w := loop_seg (F := space_Space_sectors_L2F R) (sel := fun e => [e 0, e 1, e 2, e 9]) fun N1 => (space_Space_sectors_b1_eq R N1)
def space_Space_sectors_s3 (R : Value → World → Prop) (x0 x1 x2 : Value) (w : World) : Prop :=
  space_Space_sectors_L2 R x0 x1 x2 (.int .i64 0) w
theorem space_Space_sectors_s3_eq (R : Value → World → Prop) : ∀ e w, lift Tryz.prog 28 (sub (bodyOf Tryz.f75) [1, 0]) (seqK (fun e w => space_Space_sectors_s0 R  w) (finK Tryz.prog Tryz.f75.results.toList R)) e w = space_Space_sectors_s3 R (e 0) (e 1) (e 2) w :=
  segs_eq (l := [(sub (bodyOf Tryz.f75) [1, 0, 0])]) (y := (sub (bodyOf Tryz.f75) [1, 0, 1])) (Y := (fun e w => space_Space_sectors_L2 R (e 0) (e 1) (e 2) (e 9) w)) (space_Space_sectors_L2_eq R) (fun e w => by kernel_rfl)
def space_Space_sectors_s4 (R : Value → World → Prop) (x0 x1 x2 : Value) (w : World) : Prop :=
  space_Space_sectors_s3 R x0 x1 x2 w
theorem space_Space_sectors_s4_eq (R : Value → World → Prop) : ∀ e w, lift Tryz.prog 28 (bodyOf Tryz.f75) (finK Tryz.prog Tryz.f75.results.toList R) e w = space_Space_sectors_s4 R (e 0) (e 1) (e 2) w :=
  segs_eq (l := [(sub (bodyOf Tryz.f75) [0])]) (y := (sub (bodyOf Tryz.f75) [1])) (Y := (fun e w => space_Space_sectors_s3 R (e 0) (e 1) (e 2) w)) (seq_seg (x := (sub (bodyOf Tryz.f75) [1, 0])) (y := (sub (bodyOf Tryz.f75) [1, 1])) (space_Space_sectors_s0_eq R) (space_Space_sectors_s3_eq R)) (fun e w => by kernel_rfl)
def space_Space_sectors (R : Value → World → Prop) (x0 x1 x2 : Value) (w : World) : Prop := space_Space_sectors_s4 R x0 x1 x2 w
theorem space_Space_sectors_call {R : Value → World → Prop} {x0 x1 x2 : Value} {w : World} (h : space_Space_sectors R x0 x1 x2 w) : callG Tryz.prog 75 #[x0, x1, x2] w R :=
  calls_lift_eq Tryz.mixed Tryz.func75 (args := [x0, x1, x2]) rfl rfl rfl rfl ((space_Space_sectors_s4_eq R) (envOf [x0, x1, x2]) w) (by kernel_rfl) h
/-! (*quayside/space.Space).reads$1 -/
def space_Space_reads_1_s0 (R : Value → World → Prop) (x1 x2 x3 : Value) (w : World) : Prop :=
  ld1 x2 w fun t10 =>
  nk t10 fun t11 =>
  fa 0 t11 fun t12 =>
  ld1 t12 w fun t13 =>
  callG Tryz.prog 13 #[t13, x1] w fun t15 w =>
  qG Tryz.prog (Instr.extract t15 0) w fun t16 =>
  qG Tryz.prog (Instr.extract t15 1) w fun t17 =>
  callG Tryz.prog 72 #[x3, t16] w fun t19 w =>
  R t17 w
theorem space_Space_reads_1_s0_eq (R : Value → World → Prop) : ∀ e w, lift Tryz.prog 21 (bodyOf Tryz.f76) (finK Tryz.prog Tryz.f76.results.toList R) e w = space_Space_reads_1_s0 R (e 1) (e 2) (e 3) w := fun e w => by kernel_rfl
def space_Space_reads_1 (R : Value → World → Prop) (x0 x1 x2 x3 : Value) (w : World) : Prop := space_Space_reads_1_s0 R x1 x2 x3 w
theorem space_Space_reads_1_call {R : Value → World → Prop} {x0 x1 x2 x3 : Value} {w : World} (h : space_Space_reads_1 R x0 x1 x2 x3 w) : callG Tryz.prog 76 #[x0, x1, x2, x3] w R :=
  calls_lift_eq Tryz.mixed Tryz.func76 (args := [x0, x1, x2, x3]) rfl rfl rfl rfl ((space_Space_reads_1_s0_eq R) (envOf [x0, x1, x2, x3]) w) (by kernel_rfl) h
/-! (*quayside/space.Space).reads -/
def space_Space_reads_s0 (R : Value → World → Prop) (x0 x1 : Value) (w : World) : Prop :=
  newG (Value.cells x0) 27 w fun t2 w =>
  newG (zc Tryz.prog 120) 120 w fun t6 w =>
  ld1 t2 w fun t8 =>
  qG Tryz.prog (Instr.makeFunc (.func 76) #[] #[t2, t6]) w fun t10 =>
  callG Tryz.prog 75 #[t8, x1, t10] w fun t11 w =>
  qG Tryz.prog (bq .neq 24 (.tmp 12) (.const (.int .i64 0)) t11 (.int .i64 0)) w fun t13 =>
  bV t13
  (R (.tuple #[(.string ⟨#[]⟩), t11]) w)
  (callG Tryz.prog 74 #[t6] w fun t15 w =>
  R (.tuple #[t15, (.int .i64 0)]) w)
theorem space_Space_reads_s0_eq (R : Value → World → Prop) : ∀ e w, lift Tryz.prog 16 (bodyOf Tryz.f47) (finK Tryz.prog Tryz.f47.results.toList R) e w = space_Space_reads_s0 R (e 0) (e 1) w := fun e w => by kernel_rfl
def space_Space_reads (R : Value → World → Prop) (x0 x1 : Value) (w : World) : Prop := space_Space_reads_s0 R x0 x1 w
theorem space_Space_reads_call {R : Value → World → Prop} {x0 x1 : Value} {w : World} (h : space_Space_reads R x0 x1 w) : callG Tryz.prog 47 #[x0, x1] w R :=
  calls_lift_eq Tryz.mixed Tryz.func47 (args := [x0, x1]) rfl rfl rfl rfl ((space_Space_reads_s0_eq R) (envOf [x0, x1]) w) (by kernel_rfl) h
/-! (*quayside/space.Space).writes$1 -/
def space_Space_writes_1_s0 (R : Value → World → Prop) (x0 x1 x2 x3 : Value) (w : World) : Prop :=
  ld1 x2 (World.drew w) fun t7 =>
  nk t7 fun t8 =>
  fa 0 t8 fun t9 =>
  ld1 t9 (World.drew w) fun t10 =>
  ld1 x3 (World.drew w) fun t12 =>
  qG Tryz.prog (bq .mul 3 (.const (.int .i64 32)) (.tmp 13) (.int .i64 32) x0) (World.drew w) fun t14 =>
  qG Tryz.prog (bq .mul 3 (.const (.int .i64 32)) (.tmp 15) (.int .i64 32) x0) (World.drew w) fun t16 =>
  qG Tryz.prog (bq .add 3 (.tmp 16) (.const (.int .i64 32)) t16 (.int .i64 32)) (World.drew w) fun t17 =>
  slS t12 (some t14) (some t17) fun t18 =>
  callG Tryz.prog 63 #[t10, x1, t18] (World.drew w) fun t19 w =>
  R t19 w
theorem space_Space_writes_1_s0_eq (R : Value → World → Prop) : ∀ e w, lift Tryz.prog 20 (bodyOf Tryz.f84) (finK Tryz.prog Tryz.f84.results.toList R) e w = space_Space_writes_1_s0 R (e 0) (e 1) (e 2) (e 3) w := fun e w => by kernel_rfl
def space_Space_writes_1 (R : Value → World → Prop) (x0 x1 x2 x3 : Value) (w : World) : Prop := space_Space_writes_1_s0 R x0 x1 x2 x3 w
theorem space_Space_writes_1_call {R : Value → World → Prop} {x0 x1 x2 x3 : Value} {w : World} (h : space_Space_writes_1 R x0 x1 x2 x3 w) : callG Tryz.prog 84 #[x0, x1, x2, x3] w R :=
  calls_lift_eq Tryz.mixed Tryz.func84 (args := [x0, x1, x2, x3]) rfl rfl rfl rfl ((space_Space_writes_1_s0_eq R) (envOf [x0, x1, x2, x3]) w) (by kernel_rfl) h
/-! (*quayside/space.Space).writes -/
def space_Space_writes_s0 (R : Value → World → Prop) (x0 x1 x2 : Value) (w : World) : Prop :=
  newG (Value.cells x0) 27 w fun t3 w =>
  newG (Value.cells x2) 9 w fun t5 w =>
  ld1 t3 w fun t7 =>
  qG Tryz.prog (Instr.makeFunc (.func 84) #[] #[t3, t5]) w fun t9 =>
  callG Tryz.prog 75 #[t7, x1, t9] w fun t10 w =>
  R t10 w
theorem space_Space_writes_s0_eq (R : Value → World → Prop) : ∀ e w, lift Tryz.prog 11 (bodyOf Tryz.f54) (finK Tryz.prog Tryz.f54.results.toList R) e w = space_Space_writes_s0 R (e 0) (e 1) (e 2) w := fun e w => by kernel_rfl
def space_Space_writes (R : Value → World → Prop) (x0 x1 x2 : Value) (w : World) : Prop := space_Space_writes_s0 R x0 x1 x2 w
theorem space_Space_writes_call {R : Value → World → Prop} {x0 x1 x2 : Value} {w : World} (h : space_Space_writes R x0 x1 x2 w) : callG Tryz.prog 54 #[x0, x1, x2] w R :=
  calls_lift_eq Tryz.mixed Tryz.func54 (args := [x0, x1, x2]) rfl rfl rfl rfl ((space_Space_writes_s0_eq R) (envOf [x0, x1, x2]) w) (by kernel_rfl) h
/-! (*quayside/space.Space).head -/
def space_Space_head_s0 (R : Value → World → Prop) (x0 x1 : Value) (w : World) : Prop :=
  qG Tryz.prog (bq .shl 3 (.tmp 7) (.const (.int .u64 12)) x1 (.int .u64 12)) w fun t8 =>
  nk x0 fun t10 =>
  fa 2 t10 fun t11 =>
  ld1 t11 w fun t12 =>
  qG Tryz.prog (bq .or 3 (.tmp 8) (.tmp 12) t8 t12) w fun t13 =>
  callG Tryz.prog 44 #[t13] w fun t14 w =>
  callG Tryz.prog 45 #[t14] w fun t17 w =>
  callG Tryz.prog 44 #[t17] w fun t18 w =>
  qG Tryz.prog (bq .add 9 (.tmp 15) (.tmp 18) t14 t18) w fun t19 =>
  lenS t19 fun t22 =>
  qG Tryz.prog (bq .sub 3 (.const (.int .i64 32)) (.tmp 22) (.int .i64 32) t22) w fun t23 =>
  callG Tryz.prog 46 #[(.string ⟨#[0]⟩), t23] w fun t24 w =>
  qG Tryz.prog (bq .add 9 (.tmp 20) (.tmp 24) t19 t24) w fun t25 =>
  R t25 w
theorem space_Space_head_s0_eq (R : Value → World → Prop) : ∀ e w, lift Tryz.prog 26 (bodyOf Tryz.f15) (finK Tryz.prog Tryz.f15.results.toList R) e w = space_Space_head_s0 R (e 0) (e 1) w := fun e w => by kernel_rfl
def space_Space_head (R : Value → World → Prop) (x0 x1 : Value) (w : World) : Prop := space_Space_head_s0 R x0 x1 w
theorem space_Space_head_call {R : Value → World → Prop} {x0 x1 : Value} {w : World} (h : space_Space_head R x0 x1 w) : callG Tryz.prog 15 #[x0, x1] w R :=
  calls_lift_eq Tryz.mixed Tryz.func15 (args := [x0, x1]) rfl rfl rfl rfl ((space_Space_head_s0_eq R) (envOf [x0, x1]) w) (by kernel_rfl) h
/-! (*quayside/space.Space).read -/
def space_Space_read_s0 (R : Value → World → Prop) (x4 x9 : Value) (w : World) : Prop :=
  ldn 64 x9 w fun t84 =>
  stn 64 x4 t84 w fun w =>
  qG Tryz.prog (do loadVar 57 (← asAddr x4)) w fun r4 =>
  R (.tuple #[r4, (.bool true)]) w
theorem space_Space_read_s0_eq (R : Value → World → Prop) : ∀ e w, lift Tryz.prog 85 (sub (bodyOf Tryz.f16) [1, 1, 1, 1, 1, 1, 1]) (finK Tryz.prog Tryz.f16.results.toList R) e w = space_Space_read_s0 R (e 4) (e 9) w := fun e w => by kernel_rfl
def space_Space_read_s1 (R : Value → World → Prop) (N1 : List Value → World → Prop) (x4 x8 x9 x40 x41 : Value) (w : World) : Prop :=
  qG Tryz.prog (bq .add 3 (.tmp 41) (.const (.int .i64 1)) x41 (.int .i64 1)) w fun t83 =>
  N1 [x4, x8, x9, x40, t83] w
theorem space_Space_read_s1_eq (R : Value → World → Prop) (N1 : List Value → World → Prop) : ∀ e w, lift Tryz.prog 85 (sub (bodyOf Tryz.f16) [1, 1, 1, 1, 1, 1, 0, 1, 0, 0, 1, 1, 1]) (seqK (fun e w => N1 [e 4, e 8, e 9, e 40, e 41] w) (blockK 0 (seqK (fun e w => space_Space_read_s0 R (e 4) (e 9) w) (finK Tryz.prog Tryz.f16.results.toList R)))) e w = space_Space_read_s1 R N1 (e 4) (e 8) (e 9) (e 40) (e 41) w := fun e w => by kernel_rfl
def space_Space_read_s2 (R : Value → World → Prop) (N1 : List Value → World → Prop) (x4 x8 x9 x12 x40 x41 : Value) (w : World) : Prop :=
  fa 0 x9 fun t59 =>
  slA 63 1 t59 none none fun t60 =>
  cp 1 t60 x12 w fun t62 w =>
  space_Space_read_s1 R N1 x4 x8 x9 x40 x41 w
theorem space_Space_read_s2_eq (R : Value → World → Prop) (N1 : List Value → World → Prop) : ∀ e w, lift Tryz.prog 85 (sub (bodyOf Tryz.f16) [1, 1, 1, 1, 1, 1, 0, 1, 0, 0, 1, 1, 0, 0, 1, 1, 0, 1, 0]) (blockK 2 (blockK 1 (seqK (fun e w => space_Space_read_s1 R N1 (e 4) (e 8) (e 9) (e 40) (e 41) w) (seqK (fun e w => N1 [e 4, e 8, e 9, e 40, e 41] w) (blockK 0 (seqK (fun e w => space_Space_read_s0 R (e 4) (e 9) w) (finK Tryz.prog Tryz.f16.results.toList R))))))) e w = space_Space_read_s2 R N1 (e 4) (e 8) (e 9) (e 12) (e 40) (e 41) w := fun e w => by kernel_rfl
def space_Space_read_s3 (R : Value → World → Prop) (N1 : List Value → World → Prop) (x4 x8 x9 x11 x12 x40 x41 x63 : Value) (w : World) : Prop :=
  bV x63
  (fa 63 x9 fun t71 =>
  ld1 t71 (World.drew w) fun t72 =>
  slS x11 (some (.int .i64 1)) none fun t74 =>
  ixS x12 (.int .i64 0) fun t76 =>
  cvI .i64 t76 fun t77 =>
  ixS x12 (.int .i64 1) fun t79 =>
  cvI .i64 t79 fun t80 =>
  qG Tryz.prog (bq .shl 3 (.tmp 80) (.const (.int .u64 8)) t80 (.int .u64 8)) (World.drew w) fun t81 =>
  qG Tryz.prog (bq .or 3 (.tmp 77) (.tmp 81) t77 t81) (World.drew w) fun t82 =>
  uG Tryz.prog (Instr.mapUpdate 55 t72 t74 t82) (World.drew w) fun w =>
  space_Space_read_s1 R N1 x4 x8 x9 x40 x41 w)
  (bld [(0, 63), (63, 1)] (zc Tryz.prog 57) #[] fun t50 =>
  stn 64 x4 t50 w fun w =>
  qG Tryz.prog (do loadVar 57 (← asAddr x4)) w fun r4 =>
  R (.tuple #[r4, (.bool false)]) w)
theorem space_Space_read_s3_eq (R : Value → World → Prop) (N1 : List Value → World → Prop) : ∀ e w, lift Tryz.prog 85 (sub (bodyOf Tryz.f16) [1, 1, 1, 1, 1, 1, 0, 1, 0, 0, 1, 1, 0, 0, 1, 1, 0, 1, 1, 1]) (blockK 2 (blockK 1 (seqK (fun e w => space_Space_read_s1 R N1 (e 4) (e 8) (e 9) (e 40) (e 41) w) (seqK (fun e w => N1 [e 4, e 8, e 9, e 40, e 41] w) (blockK 0 (seqK (fun e w => space_Space_read_s0 R (e 4) (e 9) w) (finK Tryz.prog Tryz.f16.results.toList R))))))) e w = space_Space_read_s3 R N1 (e 4) (e 8) (e 9) (e 11) (e 12) (e 40) (e 41) (e 63) w := fun e w => by kernel_rfl
def space_Space_read_s4 (R : Value → World → Prop) (N1 : List Value → World → Prop) (x4 x8 x9 x11 x12 x40 x41 : Value) (w : World) : Prop :=
  callG Tryz.prog 52 #[x11, (.string ⟨#[110]⟩)] w fun t65 w =>
  bV t65
  (lenS x12 fun t68 =>
  qG Tryz.prog (bq .eql 3 (.tmp 68) (.const (.int .i64 2)) t68 (.int .i64 2)) w fun t69 =>
  space_Space_read_s3 R N1 x4 x8 x9 x11 x12 x40 x41 t69 w)
  (space_Space_read_s3 R N1 x4 x8 x9 x11 x12 x40 x41 (.bool false) w)
theorem space_Space_read_s4_eq (R : Value → World → Prop) (N1 : List Value → World → Prop) : ∀ e w, lift Tryz.prog 85 (sub (bodyOf Tryz.f16) [1, 1, 1, 1, 1, 1, 0, 1, 0, 0, 1, 1, 0, 0, 1, 1, 0, 1, 1]) (blockK 2 (blockK 1 (seqK (fun e w => space_Space_read_s1 R N1 (e 4) (e 8) (e 9) (e 40) (e 41) w) (seqK (fun e w => N1 [e 4, e 8, e 9, e 40, e 41] w) (blockK 0 (seqK (fun e w => space_Space_read_s0 R (e 4) (e 9) w) (finK Tryz.prog Tryz.f16.results.toList R))))))) e w = space_Space_read_s4 R N1 (e 4) (e 8) (e 9) (e 11) (e 12) (e 40) (e 41) w :=
  segs_eq (l := [(sub (bodyOf Tryz.f16) [1, 1, 1, 1, 1, 1, 0, 1, 0, 0, 1, 1, 0, 0, 1, 1, 0, 1, 1, 0])]) (y := (sub (bodyOf Tryz.f16) [1, 1, 1, 1, 1, 1, 0, 1, 0, 0, 1, 1, 0, 0, 1, 1, 0, 1, 1, 1])) (Y := (fun e w => space_Space_read_s3 R N1 (e 4) (e 8) (e 9) (e 11) (e 12) (e 40) (e 41) (e 63) w)) (space_Space_read_s3_eq R N1) (fun e w => by kernel_rfl)
def space_Space_read_s5 (R : Value → World → Prop) (N1 : List Value → World → Prop) (x4 x8 x9 x11 x12 x40 x41 x51 : Value) (w : World) : Prop :=
  bV x51 (space_Space_read_s2 R N1 x4 x8 x9 x12 x40 x41 w) (space_Space_read_s4 R N1 x4 x8 x9 x11 x12 x40 x41 w)
theorem space_Space_read_s5_eq (R : Value → World → Prop) (N1 : List Value → World → Prop) : ∀ e w, lift Tryz.prog 85 (sub (bodyOf Tryz.f16) [1, 1, 1, 1, 1, 1, 0, 1, 0, 0, 1, 1, 0, 0, 1, 1, 0, 1]) (blockK 2 (blockK 1 (seqK (fun e w => space_Space_read_s1 R N1 (e 4) (e 8) (e 9) (e 40) (e 41) w) (seqK (fun e w => N1 [e 4, e 8, e 9, e 40, e 41] w) (blockK 0 (seqK (fun e w => space_Space_read_s0 R (e 4) (e 9) w) (finK Tryz.prog Tryz.f16.results.toList R))))))) e w = space_Space_read_s5 R N1 (e 4) (e 8) (e 9) (e 11) (e 12) (e 40) (e 41) (e 51) w := fun e w => (cond_seg (x := (sub (bodyOf Tryz.f16) [1, 1, 1, 1, 1, 1, 0, 1, 0, 0, 1, 1, 0, 0, 1, 1, 0, 1, 0])) (y := (sub (bodyOf Tryz.f16) [1, 1, 1, 1, 1, 1, 0, 1, 0, 0, 1, 1, 0, 0, 1, 1, 0, 1, 1])) (space_Space_read_s2_eq R N1) (space_Space_read_s4_eq R N1) e w).trans (by kernel_rfl)
def space_Space_read_s6 (R : Value → World → Prop) (N1 : List Value → World → Prop) (x4 x8 x9 x11 x12 x40 x41 : Value) (w : World) : Prop :=
  qG Tryz.prog (bq .eql 9 (.tmp 52) (.const (.string ⟨#[117]⟩)) x11 (.string ⟨#[117]⟩)) w fun t53 =>
  bV t53
  (lenS x12 fun t56 =>
  qG Tryz.prog (bq .eql 3 (.tmp 56) (.const (.int .i64 63)) t56 (.int .i64 63)) w fun t57 =>
  space_Space_read_s5 R N1 x4 x8 x9 x11 x12 x40 x41 t57 w)
  (space_Space_read_s5 R N1 x4 x8 x9 x11 x12 x40 x41 (.bool false) w)
theorem space_Space_read_s6_eq (R : Value → World → Prop) (N1 : List Value → World → Prop) : ∀ e w, lift Tryz.prog 85 (sub (bodyOf Tryz.f16) [1, 1, 1, 1, 1, 1, 0, 1, 0, 0, 1, 1, 0, 0, 1, 1, 0]) (blockK 2 (blockK 1 (seqK (fun e w => space_Space_read_s1 R N1 (e 4) (e 8) (e 9) (e 40) (e 41) w) (seqK (fun e w => N1 [e 4, e 8, e 9, e 40, e 41] w) (blockK 0 (seqK (fun e w => space_Space_read_s0 R (e 4) (e 9) w) (finK Tryz.prog Tryz.f16.results.toList R))))))) e w = space_Space_read_s6 R N1 (e 4) (e 8) (e 9) (e 11) (e 12) (e 40) (e 41) w :=
  segs_eq (l := [(sub (bodyOf Tryz.f16) [1, 1, 1, 1, 1, 1, 0, 1, 0, 0, 1, 1, 0, 0, 1, 1, 0, 0])]) (y := (sub (bodyOf Tryz.f16) [1, 1, 1, 1, 1, 1, 0, 1, 0, 0, 1, 1, 0, 0, 1, 1, 0, 1])) (Y := (fun e w => space_Space_read_s5 R N1 (e 4) (e 8) (e 9) (e 11) (e 12) (e 40) (e 41) (e 51) w)) (space_Space_read_s5_eq R N1) (fun e w => by kernel_rfl)
def space_Space_read_s7 (R : Value → World → Prop) (N1 : List Value → World → Prop) (x4 x8 x9 x40 x41 : Value) (w : World) : Prop :=
  callG Tryz.prog 51 #[x8, x41] w fun t47 w =>
  qG Tryz.prog (Instr.extract t47 0) w fun t48 =>
  qG Tryz.prog (Instr.extract t47 1) w fun t49 =>
  space_Space_read_s6 R N1 x4 x8 x9 t48 t49 x40 x41 w
theorem space_Space_read_s7_eq (R : Value → World → Prop) (N1 : List Value → World → Prop) : ∀ e w, lift Tryz.prog 85 (sub (bodyOf Tryz.f16) [1, 1, 1, 1, 1, 1, 0, 1, 0, 0, 1, 1, 0, 0]) (blockK 1 (seqK (fun e w => space_Space_read_s1 R N1 (e 4) (e 8) (e 9) (e 40) (e 41) w) (seqK (fun e w => N1 [e 4, e 8, e 9, e 40, e 41] w) (blockK 0 (seqK (fun e w => space_Space_read_s0 R (e 4) (e 9) w) (finK Tryz.prog Tryz.f16.results.toList R)))))) e w = space_Space_read_s7 R N1 (e 4) (e 8) (e 9) (e 40) (e 41) w :=
  segs_eq (l := [(sub (bodyOf Tryz.f16) [1, 1, 1, 1, 1, 1, 0, 1, 0, 0, 1, 1, 0, 0, 0]), (sub (bodyOf Tryz.f16) [1, 1, 1, 1, 1, 1, 0, 1, 0, 0, 1, 1, 0, 0, 1, 0])]) (y := (sub (bodyOf Tryz.f16) [1, 1, 1, 1, 1, 1, 0, 1, 0, 0, 1, 1, 0, 0, 1, 1])) (Y := (fun e w => space_Space_read_s6 R N1 (e 4) (e 8) (e 9) (e 11) (e 12) (e 40) (e 41) w)) (space_Space_read_s6_eq R N1) (fun e w => by kernel_rfl)
def space_Space_read_s8 (R : Value → World → Prop) (N1 : List Value → World → Prop) (x4 x8 x9 x40 x41 : Value) (w : World) : Prop :=
  qG Tryz.prog (bq .lss 3 (.tmp 41) (.tmp 40) x41 x40) w fun t42 =>
  bV t42
  (space_Space_read_s7 R N1 x4 x8 x9 x40 x41 w)
  (space_Space_read_s0 R x4 x9 w)
theorem space_Space_read_s8_eq (R : Value → World → Prop) (N1 : List Value → World → Prop) : ∀ e w, lift Tryz.prog 85 (sub (bodyOf Tryz.f16) [1, 1, 1, 1, 1, 1, 0, 1, 0, 0]) (seqK (fun e w => N1 [e 4, e 8, e 9, e 40, e 41] w) (blockK 0 (seqK (fun e w => space_Space_read_s0 R (e 4) (e 9) w) (finK Tryz.prog Tryz.f16.results.toList R)))) e w = space_Space_read_s8 R N1 (e 4) (e 8) (e 9) (e 40) (e 41) w :=
  segs_eq (l := [(sub (bodyOf Tryz.f16) [1, 1, 1, 1, 1, 1, 0, 1, 0, 0, 0]), (sub (bodyOf Tryz.f16) [1, 1, 1, 1, 1, 1, 0, 1, 0, 0, 1, 0])]) (y := (sub (bodyOf Tryz.f16) [1, 1, 1, 1, 1, 1, 0, 1, 0, 0, 1, 1])) (Y := (fun e w => space_Space_read_s7 R N1 (e 4) (e 8) (e 9) (e 40) (e 41) w)) (seq_seg (x := (sub (bodyOf Tryz.f16) [1, 1, 1, 1, 1, 1, 0, 1, 0, 0, 1, 1, 0])) (y := (sub (bodyOf Tryz.f16) [1, 1, 1, 1, 1, 1, 0, 1, 0, 0, 1, 1, 1])) (space_Space_read_s1_eq R N1) (space_Space_read_s7_eq R N1)) (fun e w => by kernel_rfl)
def space_Space_read_L9F (R : Value → World → Prop) (N1 : List Value → World → Prop) (xs : List Value) (w : World) : Prop :=
  match xs with
  | [x4, x8, x9, x40, x41] => space_Space_read_s8 R N1 x4 x8 x9 x40 x41 w
  | _ => False
def space_Space_read_L9 (R : Value → World → Prop) (x4 x8 x9 x40 x41 : Value) (w : World) : Prop :=
  ∃ m, loopV (space_Space_read_L9F R) m [x4, x8, x9, x40, x41] w
theorem space_Space_read_L9_eq (R : Value → World → Prop) : ∀ e w, lift Tryz.prog 85 (sub (bodyOf Tryz.f16) [1, 1, 1, 1, 1, 1, 0, 1, 0]) (blockK 0 (seqK (fun e w => space_Space_read_s0 R (e 4) (e 9) w) (finK Tryz.prog Tryz.f16.results.toList R))) e w = space_Space_read_L9 R (e 4) (e 8) (e 9) (e 40) (e 41) w := loop_seg (F := space_Space_read_L9F R) (sel := fun e => [e 4, e 8, e 9, e 40, e 41]) fun N1 => (space_Space_read_s8_eq R N1)
def space_Space_read_s10 (R : Value → World → Prop) (x4 x8 x9 : Value) (w : World) : Prop :=
  callG Tryz.prog 50 #[x8] w fun t40 w =>
  space_Space_read_L9 R x4 x8 x9 t40 (.int .i64 0) w
theorem space_Space_read_s10_eq (R : Value → World → Prop) : ∀ e w, lift Tryz.prog 85 (sub (bodyOf Tryz.f16) [1, 1, 1, 1, 1, 1, 0]) (seqK (fun e w => space_Space_read_s0 R (e 4) (e 9) w) (finK Tryz.prog Tryz.f16.results.toList R)) e w = space_Space_read_s10 R (e 4) (e 8) (e 9) w :=
  segs_eq (l := [(sub (bodyOf Tryz.f16) [1, 1, 1, 1, 1, 1, 0, 0])]) (y := (sub (bodyOf Tryz.f16) [1, 1, 1, 1, 1, 1, 0, 1])) (Y := (fun e w => space_Space_read_L9 R (e 4) (e 8) (e 9) (e 40) (e 41) w)) (space_Space_read_L9_eq R) (fun e w => by kernel_rfl)
def space_Space_read_s11 (R : Value → World → Prop) (x4 x8 : Value) (w : World) : Prop :=
  eG Tryz.prog (Instr.makeMap 55 none) w fun t37 w =>
  bld [(0, 63), (63, 1)] (zc Tryz.prog 57) #[(1, t37)] fun t38 =>
  newG (zc Tryz.prog 57) 57 w fun t9 w =>
  stn 64 t9 t38 w fun w =>
  space_Space_read_s10 R x4 x8 t9 w
theorem space_Space_read_s11_eq (R : Value → World → Prop) : ∀ e w, lift Tryz.prog 85 (sub (bodyOf Tryz.f16) [1, 1, 1, 1, 1]) (finK Tryz.prog Tryz.f16.results.toList R) e w = space_Space_read_s11 R (e 4) (e 8) w :=
  segs_eq (l := [(sub (bodyOf Tryz.f16) [1, 1, 1, 1, 1, 0])]) (y := (sub (bodyOf Tryz.f16) [1, 1, 1, 1, 1, 1])) (Y := (fun e w => space_Space_read_s10 R (e 4) (e 8) (e 9) w)) (seq_seg (x := (sub (bodyOf Tryz.f16) [1, 1, 1, 1, 1, 1, 0])) (y := (sub (bodyOf Tryz.f16) [1, 1, 1, 1, 1, 1, 1])) (space_Space_read_s0_eq R) (space_Space_read_s10_eq R)) (fun e w => by kernel_rfl)
def space_Space_read_s12 (R : Value → World → Prop) (x0 x1 : Value) (w : World) : Prop :=
  newG (zc Tryz.prog 57) 57 w fun t4 w =>
  qG Tryz.prog (bq .rem 3 (.tmp 15) (.const (.int .i64 2)) x1 (.int .i64 2)) w fun t16 =>
  qG Tryz.prog (bq .add 3 (.const (.int .i64 1)) (.tmp 16) (.int .i64 1) t16) w fun t17 =>
  callG Tryz.prog 47 #[x0, t17] w fun t18 w =>
  qG Tryz.prog (Instr.extract t18 0) w fun t19 =>
  qG Tryz.prog (Instr.extract t18 1) w fun t20 =>
  qG Tryz.prog (bq .neq 24 (.tmp 21) (.const (.int .i64 0)) t20 (.int .i64 0)) w fun t22 =>
  bV t22
  (bld [(0, 63), (63, 1)] (zc Tryz.prog 57) #[] fun t23 =>
  stn 64 t4 t23 w fun w =>
  qG Tryz.prog (do loadVar 57 (← asAddr t4)) w fun r4 =>
  R (.tuple #[r4, (.bool false)]) w)
  (callG Tryz.prog 48 #[t19] w fun t26 w =>
  qG Tryz.prog (Instr.extract t26 0) w fun t27 =>
  qG Tryz.prog (Instr.extract t26 1) w fun t28 =>
  qG Tryz.prog (bq .neq 24 (.tmp 29) (.const (.int .i64 0)) t28 (.int .i64 0)) w fun t30 =>
  bV t30
  (bld [(0, 63), (63, 1)] (zc Tryz.prog 57) #[] fun t36 =>
  stn 64 t4 t36 w fun w =>
  qG Tryz.prog (do loadVar 57 (← asAddr t4)) w fun r4_1 =>
  R (.tuple #[r4_1, (.bool false)]) w)
  (callG Tryz.prog 49 #[t27] w fun t33 w =>
  qG Tryz.prog (bq .neq 3 (.tmp 33) (.const (.int .i64 200)) t33 (.int .i64 200)) w fun t34 =>
  bV t34
  (bld [(0, 63), (63, 1)] (zc Tryz.prog 57) #[] fun t36_1 =>
  stn 64 t4 t36_1 w fun w =>
  qG Tryz.prog (do loadVar 57 (← asAddr t4)) w fun r4_2 =>
  R (.tuple #[r4_2, (.bool false)]) w)
  (space_Space_read_s11 R t4 t27 w)))
theorem space_Space_read_s12_eq (R : Value → World → Prop) : ∀ e w, lift Tryz.prog 85 (bodyOf Tryz.f16) (finK Tryz.prog Tryz.f16.results.toList R) e w = space_Space_read_s12 R (e 0) (e 1) w :=
  segs_eq (l := [(sub (bodyOf Tryz.f16) [0]), (sub (bodyOf Tryz.f16) [1, 0]), (sub (bodyOf Tryz.f16) [1, 1, 0]), (sub (bodyOf Tryz.f16) [1, 1, 1, 0]), (sub (bodyOf Tryz.f16) [1, 1, 1, 1, 0])]) (y := (sub (bodyOf Tryz.f16) [1, 1, 1, 1, 1])) (Y := (fun e w => space_Space_read_s11 R (e 4) (e 8) w)) (space_Space_read_s11_eq R) (fun e w => by kernel_rfl)
def space_Space_read (R : Value → World → Prop) (x0 x1 : Value) (w : World) : Prop := space_Space_read_s12 R x0 x1 w
theorem space_Space_read_call {R : Value → World → Prop} {x0 x1 : Value} {w : World} (h : space_Space_read R x0 x1 w) : callG Tryz.prog 16 #[x0, x1] w R :=
  calls_lift_eq Tryz.mixed Tryz.func16 (args := [x0, x1]) rfl rfl rfl rfl ((space_Space_read_s12_eq R) (envOf [x0, x1]) w) (by kernel_rfl) h
/-! quayside/space.Open -/
def space_Open_s0 (R : Value → World → Prop) (x8 : Value) (w : World) : Prop :=
  nk x8 fun t117 =>
  fa 4 t117 fun t118 =>
  ldn 64 t118 w fun t119 =>
  callG Tryz.prog 17 #[t119] w fun t120 w =>
  nk x8 fun t121 =>
  fa 68 t121 fun t122 =>
  stn 64 t122 t120 w fun w =>
  R (.tuple #[x8, (.int .i64 0)]) w
theorem space_Open_s0_eq (R : Value → World → Prop) : ∀ e w, lift Tryz.prog 124 (sub (bodyOf Tryz.f5) [1, 1, 1, 1, 1]) (finK Tryz.prog Tryz.f5.results.toList R) e w = space_Open_s0 R (e 8) w := fun e w => by kernel_rfl
def space_Open_s1 (R : Value → World → Prop) (N1 : List Value → World → Prop) (x0 x1 x8 x55 : Value) (w : World) : Prop :=
  qG Tryz.prog (bq .add 3 (.tmp 55) (.const (.int .i64 1)) x55 (.int .i64 1)) w fun t114 =>
  N1 [x0, x1, x8, t114] w
theorem space_Open_s1_eq (R : Value → World → Prop) (N1 : List Value → World → Prop) : ∀ e w, lift Tryz.prog 124 (sub (bodyOf Tryz.f5) [1, 1, 1, 1, 0, 1, 0, 0, 1, 1, 1]) (seqK (fun e w => N1 [e 0, e 1, e 8, e 55] w) (blockK 1 (seqK (fun e w => space_Open_s0 R (e 8) w) (finK Tryz.prog Tryz.f5.results.toList R)))) e w = space_Open_s1 R N1 (e 0) (e 1) (e 8) (e 55) w := fun e w => by kernel_rfl
def space_Open_s2 (R : Value → World → Prop) (N1 : List Value → World → Prop) (x0 x1 x8 x12 x55 : Value) (w : World) : Prop :=
  callG Tryz.prog 16 #[x8, x12] w fun t102 w =>
  qG Tryz.prog (Instr.extract t102 0) w fun t103 =>
  qG Tryz.prog (Instr.extract t102 1) w fun t104 =>
  newG (zc Tryz.prog 57) 57 w fun t13 w =>
  stn 64 t13 t103 w fun w =>
  bV t104
  (ldn 64 t13 w fun t108 =>
  nk x8 fun t110 =>
  fa 4 t110 fun t111 =>
  stn 64 t111 t108 w fun w =>
  nk x8 fun t112 =>
  fa 3 t112 fun t113 =>
  st1 t113 x12 w fun w =>
  space_Open_s1 R N1 x0 x1 x8 x55 w)
  (space_Open_s1 R N1 x0 x1 x8 x55 w)
theorem space_Open_s2_eq (R : Value → World → Prop) (N1 : List Value → World → Prop) : ∀ e w, lift Tryz.prog 124 (sub (bodyOf Tryz.f5) [1, 1, 1, 1, 0, 1, 0, 0, 1, 1, 0, 0, 1, 1, 1, 1, 1]) (blockK 2 (seqK (fun e w => space_Open_s1 R N1 (e 0) (e 1) (e 8) (e 55) w) (seqK (fun e w => N1 [e 0, e 1, e 8, e 55] w) (blockK 1 (seqK (fun e w => space_Open_s0 R (e 8) w) (finK Tryz.prog Tryz.f5.results.toList R)))))) e w = space_Open_s2 R N1 (e 0) (e 1) (e 8) (e 12) (e 55) w := fun e w => by kernel_rfl
def space_Open_s3 (R : Value → World → Prop) (N1 : List Value → World → Prop) (x0 x1 x8 x55 : Value) (w : World) : Prop :=
  qG Tryz.prog (bq .add 3 (.tmp 60) (.tmp 61) x1 x55) w fun t62 =>
  callG Tryz.prog 13 #[x0, t62] w fun t63 w =>
  qG Tryz.prog (Instr.extract t63 0) w fun t64 =>
  qG Tryz.prog (Instr.extract t63 1) w fun t65 =>
  qG Tryz.prog (bq .neq 24 (.tmp 66) (.const (.int .i64 0)) t65 (.int .i64 0)) w fun t67 =>
  bV t67
  (R (.tuple #[(.pointer none), t65]) w)
  (callG Tryz.prog 14 #[t64] w fun t70 w =>
  qG Tryz.prog (bq .shr 3 (.tmp 70) (.const (.int .u64 12)) t70 (.int .u64 12)) w fun t71 =>
  qG Tryz.prog (bq .lss 3 (.tmp 72) (.const (.int .i64 1)) t71 (.int .i64 1)) w fun t73 =>
  bV t73
  (space_Open_s1 R N1 x0 x1 x8 x55 w)
  (qG Tryz.prog (bq .gtr 3 (.tmp 75) (.const (.int .i64 1048575)) t71 (.int .i64 1048575)) w fun t76 =>
  bV t76
  (space_Open_s1 R N1 x0 x1 x8 x55 w)
  (qG Tryz.prog (bq .rem 3 (.tmp 79) (.const (.int .i64 2)) t71 (.int .i64 2)) w fun t80 =>
  qG Tryz.prog (bq .neq 3 (.tmp 80) (.tmp 81) t80 x55) w fun t82 =>
  bV t82
  (space_Open_s1 R N1 x0 x1 x8 x55 w)
  (callG Tryz.prog 15 #[x8, t71] w fun t88 w =>
  qG Tryz.prog (bq .neq 9 (.tmp 85) (.tmp 88) t64 t88) w fun t89 =>
  bV t89
  (space_Open_s1 R N1 x0 x1 x8 x55 w)
  (nk x8 fun t94 =>
  fa 3 t94 fun t95 =>
  ld1 t95 w fun t96 =>
  qG Tryz.prog (bq .leq 3 (.tmp 92) (.tmp 96) t71 t96) w fun t97 =>
  bV t97
  (space_Open_s1 R N1 x0 x1 x8 x55 w)
  (space_Open_s2 R N1 x0 x1 x8 t71 x55 w))))))
theorem space_Open_s3_eq (R : Value → World → Prop) (N1 : List Value → World → Prop) : ∀ e w, lift Tryz.prog 124 (sub (bodyOf Tryz.f5) [1, 1, 1, 1, 0, 1, 0, 0, 1, 1, 0, 0]) (blockK 2 (seqK (fun e w => space_Open_s1 R N1 (e 0) (e 1) (e 8) (e 55) w) (seqK (fun e w => N1 [e 0, e 1, e 8, e 55] w) (blockK 1 (seqK (fun e w => space_Open_s0 R (e 8) w) (finK Tryz.prog Tryz.f5.results.toList R)))))) e w = space_Open_s3 R N1 (e 0) (e 1) (e 8) (e 55) w :=
  segs_eq (l := [(sub (bodyOf Tryz.f5) [1, 1, 1, 1, 0, 1, 0, 0, 1, 1, 0, 0, 0]), (sub (bodyOf Tryz.f5) [1, 1, 1, 1, 0, 1, 0, 0, 1, 1, 0, 0, 1, 0]), (sub (bodyOf Tryz.f5) [1, 1, 1, 1, 0, 1, 0, 0, 1, 1, 0, 0, 1, 1, 0]), (sub (bodyOf Tryz.f5) [1, 1, 1, 1, 0, 1, 0, 0, 1, 1, 0, 0, 1, 1, 1, 0]), (sub (bodyOf Tryz.f5) [1, 1, 1, 1, 0, 1, 0, 0, 1, 1, 0, 0, 1, 1, 1, 1, 0])]) (y := (sub (bodyOf Tryz.f5) [1, 1, 1, 1, 0, 1, 0, 0, 1, 1, 0, 0, 1, 1, 1, 1, 1])) (Y := (fun e w => space_Open_s2 R N1 (e 0) (e 1) (e 8) (e 12) (e 55) w)) (space_Open_s2_eq R N1) (fun e w => by kernel_rfl)
def space_Open_s4 (R : Value → World → Prop) (N1 : List Value → World → Prop) (x0 x1 x8 x55 : Value) (w : World) : Prop :=
  qG Tryz.prog (bq .lss 3 (.tmp 55) (.const (.int .i64 2)) x55 (.int .i64 2)) w fun t56 =>
  bV t56
  (space_Open_s3 R N1 x0 x1 x8 x55 w)
  (space_Open_s0 R x8 w)
theorem space_Open_s4_eq (R : Value → World → Prop) (N1 : List Value → World → Prop) : ∀ e w, lift Tryz.prog 124 (sub (bodyOf Tryz.f5) [1, 1, 1, 1, 0, 1, 0, 0]) (seqK (fun e w => N1 [e 0, e 1, e 8, e 55] w) (blockK 1 (seqK (fun e w => space_Open_s0 R (e 8) w) (finK Tryz.prog Tryz.f5.results.toList R)))) e w = space_Open_s4 R N1 (e 0) (e 1) (e 8) (e 55) w :=
  segs_eq (l := [(sub (bodyOf Tryz.f5) [1, 1, 1, 1, 0, 1, 0, 0, 0]), (sub (bodyOf Tryz.f5) [1, 1, 1, 1, 0, 1, 0, 0, 1, 0])]) (y := (sub (bodyOf Tryz.f5) [1, 1, 1, 1, 0, 1, 0, 0, 1, 1])) (Y := (fun e w => space_Open_s3 R N1 (e 0) (e 1) (e 8) (e 55) w)) (seq_seg (x := (sub (bodyOf Tryz.f5) [1, 1, 1, 1, 0, 1, 0, 0, 1, 1, 0])) (y := (sub (bodyOf Tryz.f5) [1, 1, 1, 1, 0, 1, 0, 0, 1, 1, 1])) (space_Open_s1_eq R N1) (space_Open_s3_eq R N1)) (fun e w => by kernel_rfl)
def space_Open_L5F (R : Value → World → Prop) (N1 : List Value → World → Prop) (xs : List Value) (w : World) : Prop :=
  match xs with
  | [x0, x1, x8, x55] => space_Open_s4 R N1 x0 x1 x8 x55 w
  | _ => False
def space_Open_L5 (R : Value → World → Prop) (x0 x1 x8 x55 : Value) (w : World) : Prop :=
  ∃ m, loopV (space_Open_L5F R) m [x0, x1, x8, x55] w
theorem space_Open_L5_eq (R : Value → World → Prop) : ∀ e w, lift Tryz.prog 124 (sub (bodyOf Tryz.f5) [1, 1, 1, 1, 0, 1, 0]) (blockK 1 (seqK (fun e w => space_Open_s0 R (e 8) w) (finK Tryz.prog Tryz.f5.results.toList R))) e w = space_Open_L5 R (e 0) (e 1) (e 8) (e 55) w := loop_seg (F := space_Open_L5F R) (sel := fun e => [e 0, e 1, e 8, e 55]) fun N1 => (space_Open_s4_eq R N1)
def space_Open_s6 (R : Value → World → Prop) (x0 x1 x8 : Value) (w : World) : Prop :=
  space_Open_L5 R x0 x1 x8 (.int .i64 0) w
theorem space_Open_s6_eq (R : Value → World → Prop) : ∀ e w, lift Tryz.prog 124 (sub (bodyOf Tryz.f5) [1, 1, 1, 1, 0]) (seqK (fun e w => space_Open_s0 R (e 8) w) (finK Tryz.prog Tryz.f5.results.toList R)) e w = space_Open_s6 R (e 0) (e 1) (e 8) w :=
  segs_eq (l := [(sub (bodyOf Tryz.f5) [1, 1, 1, 1, 0, 0])]) (y := (sub (bodyOf Tryz.f5) [1, 1, 1, 1, 0, 1])) (Y := (fun e w => space_Open_L5 R (e 0) (e 1) (e 8) (e 55) w)) (space_Open_L5_eq R) (fun e w => by kernel_rfl)
def space_Open_s7 (R : Value → World → Prop) (x0 x1 x2 : Value) (w : World) : Prop :=
  qG Tryz.prog (bq .sub 3 (.tmp 41) (.tmp 42) x2 x1) w fun t43 =>
  qG Tryz.prog (bq .quo 3 (.tmp 43) (.const (.int .i64 8)) t43 (.int .i64 8)) w fun t44 =>
  qG Tryz.prog (bq .sub 3 (.tmp 44) (.const (.int .i64 1)) t44 (.int .i64 1)) w fun t45 =>
  qG Tryz.prog (bq .sub 3 (.tmp 45) (.const (.int .i64 2)) t45 (.int .i64 2)) w fun t46 =>
  qG Tryz.prog (Builtin.min_ #[3, 3] 3 #[t46, (.int .i64 500)]) w fun t47 =>
  bld [(0, 1), (1, 1), (2, 1), (3, 1), (4, 64), (68, 64)] (zc Tryz.prog 59) #[(0, x0), (1, x1), (2, t47)] fun t48 =>
  newG (Value.cells t48) 59 w fun t49 w =>
  eG Tryz.prog (Instr.makeMap 55 none) w fun t51 w =>
  nk t49 fun t52 =>
  fa 4 t52 fun t53 =>
  fa 63 t53 fun t54 =>
  st1 t54 t51 w fun w =>
  space_Open_s6 R x0 x1 t49 w
theorem space_Open_s7_eq (R : Value → World → Prop) : ∀ e w, lift Tryz.prog 124 (sub (bodyOf Tryz.f5) [1, 1]) (finK Tryz.prog Tryz.f5.results.toList R) e w = space_Open_s7 R (e 0) (e 1) (e 2) w :=
  segs_eq (l := [(sub (bodyOf Tryz.f5) [1, 1, 0]), (sub (bodyOf Tryz.f5) [1, 1, 1, 0])]) (y := (sub (bodyOf Tryz.f5) [1, 1, 1, 1])) (Y := (fun e w => space_Open_s6 R (e 0) (e 1) (e 8) w)) (seq_seg (x := (sub (bodyOf Tryz.f5) [1, 1, 1, 1, 0])) (y := (sub (bodyOf Tryz.f5) [1, 1, 1, 1, 1])) (space_Open_s0_eq R) (space_Open_s6_eq R)) (fun e w => by kernel_rfl)
def space_Open_s8 (R : Value → World → Prop) (x0 x1 x2 x15 : Value) (w : World) : Prop :=
  bV x15
  (R (.tuple #[(.pointer none), (.int .i64 1)]) w)
  (callG Tryz.prog 12 #[x0] w fun t38 w =>
  bV t38
  (R (.tuple #[(.pointer none), (.int .i64 30)]) w)
  (space_Open_s7 R x0 x1 x2 w))
theorem space_Open_s8_eq (R : Value → World → Prop) : ∀ e w, lift Tryz.prog 124 (sub (bodyOf Tryz.f5) [1, 0, 0, 1]) (blockK 0 (seqK (fun e w => space_Open_s7 R (e 0) (e 1) (e 2) w) (finK Tryz.prog Tryz.f5.results.toList R))) e w = space_Open_s8 R (e 0) (e 1) (e 2) (e 15) w := fun e w => by kernel_rfl
def space_Open_s9 (R : Value → World → Prop) (x0 x1 x2 : Value) (w : World) : Prop :=
  qG Tryz.prog (bq .lss 3 (.tmp 16) (.const (.int .i64 0)) x1 (.int .i64 0)) w fun t17 =>
  bV t17
  (space_Open_s8 R x0 x1 x2 (.bool true) w)
  (callG Tryz.prog 11 #[x0] w fun t21 w =>
  qG Tryz.prog (bq .gtr 3 (.tmp 19) (.tmp 21) x2 t21) w fun t22 =>
  bV t22
  (space_Open_s8 R x0 x1 x2 (.bool true) w)
  (qG Tryz.prog (bq .gtr 3 (.tmp 25) (.tmp 26) x1 x2) w fun t27 =>
  bV t27
  (space_Open_s8 R x0 x1 x2 (.bool true) w)
  (qG Tryz.prog (bq .sub 3 (.tmp 30) (.tmp 31) x2 x1) w fun t32 =>
  qG Tryz.prog (bq .quo 3 (.tmp 32) (.const (.int .i64 8)) t32 (.int .i64 8)) w fun t33 =>
  qG Tryz.prog (bq .lss 3 (.tmp 33) (.const (.int .i64 4)) t33 (.int .i64 4)) w fun t34 =>
  space_Open_s8 R x0 x1 x2 t34 w)))
theorem space_Open_s9_eq (R : Value → World → Prop) : ∀ e w, lift Tryz.prog 124 (sub (bodyOf Tryz.f5) [1, 0, 0]) (blockK 0 (seqK (fun e w => space_Open_s7 R (e 0) (e 1) (e 2) w) (finK Tryz.prog Tryz.f5.results.toList R))) e w = space_Open_s9 R (e 0) (e 1) (e 2) w :=
  segs_eq (l := [(sub (bodyOf Tryz.f5) [1, 0, 0, 0])]) (y := (sub (bodyOf Tryz.f5) [1, 0, 0, 1])) (Y := (fun e w => space_Open_s8 R (e 0) (e 1) (e 2) (e 15) w)) (space_Open_s8_eq R) (fun e w => by kernel_rfl)
def space_Open_s10 (R : Value → World → Prop) (x0 x1 x2 : Value) (w : World) : Prop :=
  space_Open_s9 R x0 x1 x2 w
theorem space_Open_s10_eq (R : Value → World → Prop) : ∀ e w, lift Tryz.prog 124 (bodyOf Tryz.f5) (finK Tryz.prog Tryz.f5.results.toList R) e w = space_Open_s10 R (e 0) (e 1) (e 2) w :=
  segs_eq (l := [(sub (bodyOf Tryz.f5) [0])]) (y := (sub (bodyOf Tryz.f5) [1])) (Y := (fun e w => space_Open_s9 R (e 0) (e 1) (e 2) w)) (seq_seg (x := (sub (bodyOf Tryz.f5) [1, 0])) (y := (sub (bodyOf Tryz.f5) [1, 1])) (space_Open_s7_eq R) (space_Open_s9_eq R)) (fun e w => by kernel_rfl)
def space_Open (R : Value → World → Prop) (x0 x1 x2 : Value) (w : World) : Prop := space_Open_s10 R x0 x1 x2 w
theorem space_Open_call {R : Value → World → Prop} {x0 x1 x2 : Value} {w : World} (h : space_Open R x0 x1 x2 w) : callG Tryz.prog 5 #[x0, x1, x2] w R :=
  calls_lift_eq Tryz.mixed Tryz.func5 (args := [x0, x1, x2]) rfl rfl rfl rfl ((space_Open_s10_eq R) (envOf [x0, x1, x2]) w) (by kernel_rfl) h
/-! (*quayside/space.Space).given -/
def space_Space_given_s0 (R : Value → World → Prop) (x0 : Value) (w : World) : Prop :=
  qG Tryz.prog (bq .neq 27 (.tmp 3) (.const (.pointer none)) x0 (.pointer none)) w fun t4 =>
  bV t4
  (nk x0 fun t7 =>
  fa 0 t7 fun t8 =>
  ld1 t8 w fun t9 =>
  qG Tryz.prog (bq .neq 23 (.tmp 9) (.const (.pointer none)) t9 (.pointer none)) w fun t10 =>
  R t10 w)
  (R (.bool false) w)
theorem space_Space_given_s0_eq (R : Value → World → Prop) : ∀ e w, lift Tryz.prog 12 (bodyOf Tryz.f18) (finK Tryz.prog Tryz.f18.results.toList R) e w = space_Space_given_s0 R (e 0) w := fun e w => by kernel_rfl
def space_Space_given (R : Value → World → Prop) (x0 : Value) (w : World) : Prop := space_Space_given_s0 R x0 w
theorem space_Space_given_call {R : Value → World → Prop} {x0 : Value} {w : World} (h : space_Space_given R x0 w) : callG Tryz.prog 18 #[x0] w R :=
  calls_lift_eq Tryz.mixed Tryz.func18 (args := [x0]) rfl rfl rfl rfl ((space_Space_given_s0_eq R) (envOf [x0]) w) (by kernel_rfl) h
/-! (*quayside/space.Space).Pages -/
def space_Space_Pages_s0 (R : Value → World → Prop) (x0 : Value) (w : World) : Prop :=
  callG Tryz.prog 18 #[x0] w fun t4 w =>
  qG Tryz.prog (Op.unary .not t4) w fun t5 =>
  bV t5
  (R (.int .i64 0) w)
  (nk x0 fun t7 =>
  fa 2 t7 fun t8 =>
  ld1 t8 w fun t9 =>
  R t9 w)
theorem space_Space_Pages_s0_eq (R : Value → World → Prop) : ∀ e w, lift Tryz.prog 10 (bodyOf Tryz.f6) (finK Tryz.prog Tryz.f6.results.toList R) e w = space_Space_Pages_s0 R (e 0) w := fun e w => by kernel_rfl
def space_Space_Pages (R : Value → World → Prop) (x0 : Value) (w : World) : Prop := space_Space_Pages_s0 R x0 w
theorem space_Space_Pages_call {R : Value → World → Prop} {x0 : Value} {w : World} (h : space_Space_Pages R x0 w) : callG Tryz.prog 6 #[x0] w R :=
  calls_lift_eq Tryz.mixed Tryz.func6 (args := [x0]) rfl rfl rfl rfl ((space_Space_Pages_s0_eq R) (envOf [x0]) w) (by kernel_rfl) h
/-! (*quayside/space.Space).Used -/
def space_Space_Used_s0 (R : Value → World → Prop) (x3 : Value) (w : World) : Prop :=
  R x3 w
theorem space_Space_Used_s0_eq (R : Value → World → Prop) : ∀ e w, lift Tryz.prog 21 (sub (bodyOf Tryz.f28) [1, 1, 1]) (finK Tryz.prog Tryz.f28.results.toList R) e w = space_Space_Used_s0 R (e 3) w := fun e w => by kernel_rfl
def space_Space_Used_b1 (R : Value → World → Prop) (N1 : List Value → World → Prop) (x0 x3 x6 x7 : Value) (w : World) : Prop :=
  qG Tryz.prog (bq .lss 3 (.tmp 7) (.tmp 6) x7 x6) w fun t8 =>
  bV t8
  (nk x0 fun t11 =>
  fa 68 t11 fun t12 =>
  fa 0 t12 fun t13 =>
  qG Tryz.prog (bq .add 3 (.tmp 14) (.const (.int .i64 1)) x7 (.int .i64 1)) w fun t15 =>
  callG Tryz.prog 53 #[t13, t15] w fun t16 w =>
  bV t16
  (qG Tryz.prog (bq .add 3 (.tmp 17) (.const (.int .i64 1)) x3 (.int .i64 1)) w fun t18 =>
  qG Tryz.prog (bq .add 3 (.tmp 7) (.const (.int .i64 1)) x7 (.int .i64 1)) w fun t19 =>
  N1 [x0, t18, x6, t19] w)
  (qG Tryz.prog (bq .add 3 (.tmp 7) (.const (.int .i64 1)) x7 (.int .i64 1)) w fun t19_1 =>
  N1 [x0, x3, x6, t19_1] w))
  (space_Space_Used_s0 R x3 w)
theorem space_Space_Used_b1_eq (R : Value → World → Prop) (N1 : List Value → World → Prop) : ∀ e w, lift Tryz.prog 21 (sub (bodyOf Tryz.f28) [1, 1, 0, 1, 0, 0]) (seqK (fun e w => N1 [e 0, e 3, e 6, e 7] w) (blockK 0 (seqK (fun e w => space_Space_Used_s0 R (e 3) w) (finK Tryz.prog Tryz.f28.results.toList R)))) e w = space_Space_Used_b1 R N1 (e 0) (e 3) (e 6) (e 7) w := fun e w => by kernel_rfl
def space_Space_Used_L2F (R : Value → World → Prop) (N1 : List Value → World → Prop) (xs : List Value) (w : World) : Prop :=
  match xs with
  | [x0, x3, x6, x7] => space_Space_Used_b1 R N1 x0 x3 x6 x7 w
  | _ => False
def space_Space_Used_L2 (R : Value → World → Prop) (x0 x3 x6 x7 : Value) (w : World) : Prop :=
  ∃ m, loopV (space_Space_Used_L2F R) m [x0, x3, x6, x7] w
theorem space_Space_Used_L2_eq (R : Value → World → Prop) : ∀ e w, lift Tryz.prog 21 (sub (bodyOf Tryz.f28) [1, 1, 0, 1, 0]) (blockK 0 (seqK (fun e w => space_Space_Used_s0 R (e 3) w) (finK Tryz.prog Tryz.f28.results.toList R))) e w = space_Space_Used_L2 R (e 0) (e 3) (e 6) (e 7) w := loop_seg (F := space_Space_Used_L2F R) (sel := fun e => [e 0, e 3, e 6, e 7]) fun N1 => (space_Space_Used_b1_eq R N1)
def space_Space_Used_s3 (R : Value → World → Prop) (x0 x3 : Value) (w : World) : Prop :=
  callG Tryz.prog 6 #[x0] w fun t6 w =>
  space_Space_Used_L2 R x0 x3 t6 (.int .i64 0) w
theorem space_Space_Used_s3_eq (R : Value → World → Prop) : ∀ e w, lift Tryz.prog 21 (sub (bodyOf Tryz.f28) [1, 1, 0]) (seqK (fun e w => space_Space_Used_s0 R (e 3) w) (finK Tryz.prog Tryz.f28.results.toList R)) e w = space_Space_Used_s3 R (e 0) (e 3) w :=
  segs_eq (l := [(sub (bodyOf Tryz.f28) [1, 1, 0, 0])]) (y := (sub (bodyOf Tryz.f28) [1, 1, 0, 1])) (Y := (fun e w => space_Space_Used_L2 R (e 0) (e 3) (e 6) (e 7) w)) (space_Space_Used_L2_eq R) (fun e w => by kernel_rfl)
def space_Space_Used_s4 (R : Value → World → Prop) (x0 : Value) (w : World) : Prop :=
  space_Space_Used_s3 R x0 (.int .i64 0) w
theorem space_Space_Used_s4_eq (R : Value → World → Prop) : ∀ e w, lift Tryz.prog 21 (bodyOf Tryz.f28) (finK Tryz.prog Tryz.f28.results.toList R) e w = space_Space_Used_s4 R (e 0) w :=
  segs_eq (l := [(sub (bodyOf Tryz.f28) [0]), (sub (bodyOf Tryz.f28) [1, 0])]) (y := (sub (bodyOf Tryz.f28) [1, 1])) (Y := (fun e w => space_Space_Used_s3 R (e 0) (e 3) w)) (seq_seg (x := (sub (bodyOf Tryz.f28) [1, 1, 0])) (y := (sub (bodyOf Tryz.f28) [1, 1, 1])) (space_Space_Used_s0_eq R) (space_Space_Used_s3_eq R)) (fun e w => by kernel_rfl)
def space_Space_Used (R : Value → World → Prop) (x0 : Value) (w : World) : Prop := space_Space_Used_s4 R x0 w
theorem space_Space_Used_call {R : Value → World → Prop} {x0 : Value} {w : World} (h : space_Space_Used R x0 w) : callG Tryz.prog 28 #[x0] w R :=
  calls_lift_eq Tryz.mixed Tryz.func28 (args := [x0]) rfl rfl rfl rfl ((space_Space_Used_s4_eq R) (envOf [x0]) w) (by kernel_rfl) h
/-! (*quayside/space.Space).in -/
def space_Space_in_s0 (R : Value → World → Prop) (x0 x1 : Value) (w : World) : Prop :=
  callG Tryz.prog 6 #[x0] w fun t7 w =>
  qG Tryz.prog (bq .leq 3 (.tmp 5) (.tmp 7) x1 t7) w fun t8 =>
  bV t8
  (nk x0 fun t11 =>
  fa 68 t11 fun t12 =>
  fa 0 t12 fun t13 =>
  callG Tryz.prog 53 #[t13, x1] w fun t15 w =>
  R t15 w)
  (R (.bool false) w)
theorem space_Space_in_s0_eq (R : Value → World → Prop) : ∀ e w, lift Tryz.prog 17 (bodyOf Tryz.f57) (finK Tryz.prog Tryz.f57.results.toList R) e w = space_Space_in_s0 R (e 0) (e 1) w := fun e w => by kernel_rfl
def space_Space_in (R : Value → World → Prop) (x0 x1 : Value) (w : World) : Prop := space_Space_in_s0 R x0 x1 w
theorem space_Space_in_call {R : Value → World → Prop} {x0 x1 : Value} {w : World} (h : space_Space_in R x0 x1 w) : callG Tryz.prog 57 #[x0, x1] w R :=
  calls_lift_eq Tryz.mixed Tryz.func57 (args := [x0, x1]) rfl rfl rfl rfl ((space_Space_in_s0_eq R) (envOf [x0, x1]) w) (by kernel_rfl) h
/-! quayside/space.at -/
def space_at_s0 (R : Value → World → Prop) (x0 : Value) (w : World) : Prop :=
  qG Tryz.prog (bq .add 3 (.const (.int .i64 3)) (.tmp 3) (.int .i64 3) x0) w fun t4 =>
  qG Tryz.prog (bq .sub 3 (.tmp 4) (.const (.int .i64 1)) t4 (.int .i64 1)) w fun t5 =>
  R t5 w
theorem space_at_s0_eq (R : Value → World → Prop) : ∀ e w, lift Tryz.prog 6 (bodyOf Tryz.f55) (finK Tryz.prog Tryz.f55.results.toList R) e w = space_at_s0 R (e 0) w := fun e w => by kernel_rfl
def space_at (R : Value → World → Prop) (x0 : Value) (w : World) : Prop := space_at_s0 R x0 w
theorem space_at_call {R : Value → World → Prop} {x0 : Value} {w : World} (h : space_at R x0 w) : callG Tryz.prog 55 #[x0] w R :=
  calls_lift_eq Tryz.mixed Tryz.func55 (args := [x0]) rfl rfl rfl rfl ((space_at_s0_eq R) (envOf [x0]) w) (by kernel_rfl) h
/-! (*quayside/space.Space).Alloc -/
def space_Space_Alloc_s0 (R : Value → World → Prop) (w : World) : Prop :=
  R (.tuple #[(.int .i64 0), (.int .i64 2)]) w
theorem space_Space_Alloc_s0_eq (R : Value → World → Prop) : ∀ e w, lift Tryz.prog 46 (sub (bodyOf Tryz.f19) [1, 1, 1]) (finK Tryz.prog Tryz.f19.results.toList R) e w = space_Space_Alloc_s0 R w := fun e w => by kernel_rfl
def space_Space_Alloc_s1 (R : Value → World → Prop) (N1 : List Value → World → Prop) (x0 x4 : Value) (w : World) : Prop :=
  qG Tryz.prog (bq .add 3 (.tmp 15) (.const (.int .i64 1)) x4 (.int .i64 1)) w fun t16 =>
  N1 [x0, t16] w
theorem space_Space_Alloc_s1_eq (R : Value → World → Prop) (N1 : List Value → World → Prop) : ∀ e w, lift Tryz.prog 46 (sub (bodyOf Tryz.f19) [1, 1, 0, 1, 0, 0, 1, 1]) (seqK (fun e w => N1 [e 0, e 4] w) (blockK 0 (seqK (fun e w => space_Space_Alloc_s0 R  w) (finK Tryz.prog Tryz.f19.results.toList R)))) e w = space_Space_Alloc_s1 R N1 (e 0) (e 4) w := fun e w => by kernel_rfl
def space_Space_Alloc_s2 (R : Value → World → Prop) (N1 : List Value → World → Prop) (x0 x4 : Value) (w : World) : Prop :=
  callG Tryz.prog 55 #[x4] w fun t33 w =>
  callG Tryz.prog 46 #[(.string ⟨#[0]⟩), (.int .i64 256)] w fun t34 w =>
  callG Tryz.prog 54 #[x0, t33, t34] w fun t35 w =>
  qG Tryz.prog (bq .neq 24 (.tmp 36) (.const (.int .i64 0)) t35 (.int .i64 0)) w fun t37 =>
  bV t37
  (R (.tuple #[(.int .i64 0), t35]) w)
  (nk x0 fun t40 =>
  fa 68 t40 fun t41 =>
  fa 0 t41 fun t42 =>
  callG Tryz.prog 56 #[t42, x4, (.bool true)] w fun t44 w =>
  R (.tuple #[x4, (.int .i64 0)]) w)
theorem space_Space_Alloc_s2_eq (R : Value → World → Prop) (N1 : List Value → World → Prop) : ∀ e w, lift Tryz.prog 46 (sub (bodyOf Tryz.f19) [1, 1, 0, 1, 0, 0, 1, 0, 0, 1]) (blockK 1 (seqK (fun e w => space_Space_Alloc_s1 R N1 (e 0) (e 4) w) (seqK (fun e w => N1 [e 0, e 4] w) (blockK 0 (seqK (fun e w => space_Space_Alloc_s0 R  w) (finK Tryz.prog Tryz.f19.results.toList R)))))) e w = space_Space_Alloc_s2 R N1 (e 0) (e 4) w := fun e w => by kernel_rfl
def space_Space_Alloc_s3 (R : Value → World → Prop) (N1 : List Value → World → Prop) (x0 x4 : Value) (w : World) : Prop :=
  nk x0 fun t18 =>
  fa 68 t18 fun t19 =>
  fa 0 t19 fun t20 =>
  callG Tryz.prog 53 #[t20, x4] w fun t22 w =>
  bV t22
  (space_Space_Alloc_s1 R N1 x0 x4 w)
  (nk x0 fun t25 =>
  fa 4 t25 fun t26 =>
  fa 0 t26 fun t27 =>
  callG Tryz.prog 53 #[t27, x4] w fun t29 w =>
  bV t29
  (space_Space_Alloc_s1 R N1 x0 x4 w)
  (space_Space_Alloc_s2 R N1 x0 x4 w))
theorem space_Space_Alloc_s3_eq (R : Value → World → Prop) (N1 : List Value → World → Prop) : ∀ e w, lift Tryz.prog 46 (sub (bodyOf Tryz.f19) [1, 1, 0, 1, 0, 0, 1, 0, 0]) (blockK 1 (seqK (fun e w => space_Space_Alloc_s1 R N1 (e 0) (e 4) w) (seqK (fun e w => N1 [e 0, e 4] w) (blockK 0 (seqK (fun e w => space_Space_Alloc_s0 R  w) (finK Tryz.prog Tryz.f19.results.toList R)))))) e w = space_Space_Alloc_s3 R N1 (e 0) (e 4) w :=
  segs_eq (l := [(sub (bodyOf Tryz.f19) [1, 1, 0, 1, 0, 0, 1, 0, 0, 0])]) (y := (sub (bodyOf Tryz.f19) [1, 1, 0, 1, 0, 0, 1, 0, 0, 1])) (Y := (fun e w => space_Space_Alloc_s2 R N1 (e 0) (e 4) w)) (space_Space_Alloc_s2_eq R N1) (fun e w => by kernel_rfl)
def space_Space_Alloc_s4 (R : Value → World → Prop) (N1 : List Value → World → Prop) (x0 x4 : Value) (w : World) : Prop :=
  nk x0 fun t11 =>
  fa 2 t11 fun t12 =>
  ld1 t12 w fun t13 =>
  qG Tryz.prog (bq .leq 3 (.tmp 9) (.tmp 13) x4 t13) w fun t14 =>
  bV t14
  (space_Space_Alloc_s3 R N1 x0 x4 w)
  (space_Space_Alloc_s0 R  w)
theorem space_Space_Alloc_s4_eq (R : Value → World → Prop) (N1 : List Value → World → Prop) : ∀ e w, lift Tryz.prog 46 (sub (bodyOf Tryz.f19) [1, 1, 0, 1, 0, 0]) (seqK (fun e w => N1 [e 0, e 4] w) (blockK 0 (seqK (fun e w => space_Space_Alloc_s0 R  w) (finK Tryz.prog Tryz.f19.results.toList R)))) e w = space_Space_Alloc_s4 R N1 (e 0) (e 4) w :=
  segs_eq (l := [(sub (bodyOf Tryz.f19) [1, 1, 0, 1, 0, 0, 0])]) (y := (sub (bodyOf Tryz.f19) [1, 1, 0, 1, 0, 0, 1])) (Y := (fun e w => space_Space_Alloc_s3 R N1 (e 0) (e 4) w)) (seq_seg (x := (sub (bodyOf Tryz.f19) [1, 1, 0, 1, 0, 0, 1, 0])) (y := (sub (bodyOf Tryz.f19) [1, 1, 0, 1, 0, 0, 1, 1])) (space_Space_Alloc_s1_eq R N1) (space_Space_Alloc_s3_eq R N1)) (fun e w => by kernel_rfl)
def space_Space_Alloc_L5F (R : Value → World → Prop) (N1 : List Value → World → Prop) (xs : List Value) (w : World) : Prop :=
  match xs with
  | [x0, x4] => space_Space_Alloc_s4 R N1 x0 x4 w
  | _ => False
def space_Space_Alloc_L5 (R : Value → World → Prop) (x0 x4 : Value) (w : World) : Prop :=
  ∃ m, loopV (space_Space_Alloc_L5F R) m [x0, x4] w
theorem space_Space_Alloc_L5_eq (R : Value → World → Prop) : ∀ e w, lift Tryz.prog 46 (sub (bodyOf Tryz.f19) [1, 1, 0, 1, 0]) (blockK 0 (seqK (fun e w => space_Space_Alloc_s0 R  w) (finK Tryz.prog Tryz.f19.results.toList R))) e w = space_Space_Alloc_L5 R (e 0) (e 4) w := loop_seg (F := space_Space_Alloc_L5F R) (sel := fun e => [e 0, e 4]) fun N1 => (space_Space_Alloc_s4_eq R N1)
def space_Space_Alloc_s6 (R : Value → World → Prop) (x0 : Value) (w : World) : Prop :=
  space_Space_Alloc_L5 R x0 (.int .i64 1) w
theorem space_Space_Alloc_s6_eq (R : Value → World → Prop) : ∀ e w, lift Tryz.prog 46 (sub (bodyOf Tryz.f19) [1, 1, 0]) (seqK (fun e w => space_Space_Alloc_s0 R  w) (finK Tryz.prog Tryz.f19.results.toList R)) e w = space_Space_Alloc_s6 R (e 0) w :=
  segs_eq (l := [(sub (bodyOf Tryz.f19) [1, 1, 0, 0])]) (y := (sub (bodyOf Tryz.f19) [1, 1, 0, 1])) (Y := (fun e w => space_Space_Alloc_L5 R (e 0) (e 4) w)) (space_Space_Alloc_L5_eq R) (fun e w => by kernel_rfl)
def space_Space_Alloc_s7 (R : Value → World → Prop) (x0 : Value) (w : World) : Prop :=
  callG Tryz.prog 18 #[x0] w fun t7 w =>
  qG Tryz.prog (Op.unary .not t7) w fun t8 =>
  bV t8
  (R (.tuple #[(.int .i64 0), (.int .i64 1)]) w)
  (space_Space_Alloc_s6 R x0 w)
theorem space_Space_Alloc_s7_eq (R : Value → World → Prop) : ∀ e w, lift Tryz.prog 46 (bodyOf Tryz.f19) (finK Tryz.prog Tryz.f19.results.toList R) e w = space_Space_Alloc_s7 R (e 0) w :=
  segs_eq (l := [(sub (bodyOf Tryz.f19) [0]), (sub (bodyOf Tryz.f19) [1, 0])]) (y := (sub (bodyOf Tryz.f19) [1, 1])) (Y := (fun e w => space_Space_Alloc_s6 R (e 0) w)) (seq_seg (x := (sub (bodyOf Tryz.f19) [1, 1, 0])) (y := (sub (bodyOf Tryz.f19) [1, 1, 1])) (space_Space_Alloc_s0_eq R) (space_Space_Alloc_s6_eq R)) (fun e w => by kernel_rfl)
def space_Space_Alloc (R : Value → World → Prop) (x0 : Value) (w : World) : Prop := space_Space_Alloc_s7 R x0 w
theorem space_Space_Alloc_call {R : Value → World → Prop} {x0 : Value} {w : World} (h : space_Space_Alloc R x0 w) : callG Tryz.prog 19 #[x0] w R :=
  calls_lift_eq Tryz.mixed Tryz.func19 (args := [x0]) rfl rfl rfl rfl ((space_Space_Alloc_s7_eq R) (envOf [x0]) w) (by kernel_rfl) h
/-! (*quayside/space.Space).Release -/
def space_Space_Release_s0 (R : Value → World → Prop) (x0 x1 : Value) (w : World) : Prop :=
  callG Tryz.prog 18 #[x0] w fun t7 w =>
  qG Tryz.prog (Op.unary .not t7) w fun t8 =>
  bV t8
  (R (.int .i64 1) w)
  (callG Tryz.prog 57 #[x0, x1] w fun t12 w =>
  qG Tryz.prog (Op.unary .not t12) w fun t13 =>
  bV t13
  (R (.int .i64 130) w)
  (nk x0 fun t15 =>
  fa 68 t15 fun t16 =>
  fa 0 t16 fun t17 =>
  callG Tryz.prog 56 #[t17, x1, (.bool false)] w fun t19 w =>
  R (.int .i64 0) w))
theorem space_Space_Release_s0_eq (R : Value → World → Prop) : ∀ e w, lift Tryz.prog 20 (bodyOf Tryz.f31) (finK Tryz.prog Tryz.f31.results.toList R) e w = space_Space_Release_s0 R (e 0) (e 1) w := fun e w => by kernel_rfl
def space_Space_Release (R : Value → World → Prop) (x0 x1 : Value) (w : World) : Prop := space_Space_Release_s0 R x0 x1 w
theorem space_Space_Release_call {R : Value → World → Prop} {x0 x1 : Value} {w : World} (h : space_Space_Release R x0 x1 w) : callG Tryz.prog 31 #[x0, x1] w R :=
  calls_lift_eq Tryz.mixed Tryz.func31 (args := [x0, x1]) rfl rfl rfl rfl ((space_Space_Release_s0_eq R) (envOf [x0, x1]) w) (by kernel_rfl) h
/-! (*quayside/space.Space).Fresh -/
def space_Space_Fresh_s0 (R : Value → World → Prop) (x0 x1 : Value) (w : World) : Prop :=
  callG Tryz.prog 18 #[x0] w fun t6 w =>
  bV t6
  (callG Tryz.prog 57 #[x0, x1] w fun t10 w =>
  bV t10
  (nk x0 fun t14 =>
  fa 4 t14 fun t15 =>
  fa 0 t15 fun t16 =>
  callG Tryz.prog 53 #[t16, x1] w fun t18 w =>
  qG Tryz.prog (Op.unary .not t18) w fun t19 =>
  R t19 w)
  (R (.bool false) w))
  (R (.bool false) w)
theorem space_Space_Fresh_s0_eq (R : Value → World → Prop) : ∀ e w, lift Tryz.prog 21 (bodyOf Tryz.f29) (finK Tryz.prog Tryz.f29.results.toList R) e w = space_Space_Fresh_s0 R (e 0) (e 1) w := fun e w => by kernel_rfl
def space_Space_Fresh (R : Value → World → Prop) (x0 x1 : Value) (w : World) : Prop := space_Space_Fresh_s0 R x0 x1 w
theorem space_Space_Fresh_call {R : Value → World → Prop} {x0 x1 : Value} {w : World} (h : space_Space_Fresh R x0 x1 w) : callG Tryz.prog 29 #[x0, x1] w R :=
  calls_lift_eq Tryz.mixed Tryz.func29 (args := [x0, x1]) rfl rfl rfl rfl ((space_Space_Fresh_s0_eq R) (envOf [x0, x1]) w) (by kernel_rfl) h
/-! (*quayside/space.Space).Write -/
def space_Space_Write_s0 (R : Value → World → Prop) (x0 x1 x2 : Value) (w : World) : Prop :=
  callG Tryz.prog 55 #[x1] w fun t23 w =>
  callG Tryz.prog 54 #[x0, t23, x2] w fun t25 w =>
  R t25 w
theorem space_Space_Write_s0_eq (R : Value → World → Prop) : ∀ e w, lift Tryz.prog 26 (sub (bodyOf Tryz.f20) [1, 1]) (finK Tryz.prog Tryz.f20.results.toList R) e w = space_Space_Write_s0 R (e 0) (e 1) (e 2) w := fun e w => by kernel_rfl
def space_Space_Write_s1 (R : Value → World → Prop) (x0 x1 x2 x7 : Value) (w : World) : Prop :=
  bV x7
  (R (.int .i64 1) w)
  (callG Tryz.prog 29 #[x0, x1] w fun t19 w =>
  qG Tryz.prog (Op.unary .not t19) w fun t20 =>
  bV t20
  (R (.int .i64 130) w)
  (space_Space_Write_s0 R x0 x1 x2 w))
theorem space_Space_Write_s1_eq (R : Value → World → Prop) : ∀ e w, lift Tryz.prog 26 (sub (bodyOf Tryz.f20) [1, 0, 0, 1]) (blockK 0 (seqK (fun e w => space_Space_Write_s0 R (e 0) (e 1) (e 2) w) (finK Tryz.prog Tryz.f20.results.toList R))) e w = space_Space_Write_s1 R (e 0) (e 1) (e 2) (e 7) w := fun e w => by kernel_rfl
def space_Space_Write_s2 (R : Value → World → Prop) (x0 x1 x2 : Value) (w : World) : Prop :=
  callG Tryz.prog 18 #[x0] w fun t9 w =>
  qG Tryz.prog (Op.unary .not t9) w fun t10 =>
  bV t10
  (space_Space_Write_s1 R x0 x1 x2 (.bool true) w)
  (lenS x2 fun t13 =>
  qG Tryz.prog (bq .neq 3 (.tmp 13) (.const (.int .i64 256)) t13 (.int .i64 256)) w fun t14 =>
  space_Space_Write_s1 R x0 x1 x2 t14 w)
theorem space_Space_Write_s2_eq (R : Value → World → Prop) : ∀ e w, lift Tryz.prog 26 (sub (bodyOf Tryz.f20) [1, 0, 0]) (blockK 0 (seqK (fun e w => space_Space_Write_s0 R (e 0) (e 1) (e 2) w) (finK Tryz.prog Tryz.f20.results.toList R))) e w = space_Space_Write_s2 R (e 0) (e 1) (e 2) w :=
  segs_eq (l := [(sub (bodyOf Tryz.f20) [1, 0, 0, 0])]) (y := (sub (bodyOf Tryz.f20) [1, 0, 0, 1])) (Y := (fun e w => space_Space_Write_s1 R (e 0) (e 1) (e 2) (e 7) w)) (space_Space_Write_s1_eq R) (fun e w => by kernel_rfl)
def space_Space_Write_s3 (R : Value → World → Prop) (x0 x1 x2 : Value) (w : World) : Prop :=
  space_Space_Write_s2 R x0 x1 x2 w
theorem space_Space_Write_s3_eq (R : Value → World → Prop) : ∀ e w, lift Tryz.prog 26 (bodyOf Tryz.f20) (finK Tryz.prog Tryz.f20.results.toList R) e w = space_Space_Write_s3 R (e 0) (e 1) (e 2) w :=
  segs_eq (l := [(sub (bodyOf Tryz.f20) [0])]) (y := (sub (bodyOf Tryz.f20) [1])) (Y := (fun e w => space_Space_Write_s2 R (e 0) (e 1) (e 2) w)) (seq_seg (x := (sub (bodyOf Tryz.f20) [1, 0])) (y := (sub (bodyOf Tryz.f20) [1, 1])) (space_Space_Write_s0_eq R) (space_Space_Write_s2_eq R)) (fun e w => by kernel_rfl)
def space_Space_Write (R : Value → World → Prop) (x0 x1 x2 : Value) (w : World) : Prop := space_Space_Write_s3 R x0 x1 x2 w
theorem space_Space_Write_call {R : Value → World → Prop} {x0 x1 x2 : Value} {w : World} (h : space_Space_Write R x0 x1 x2 w) : callG Tryz.prog 20 #[x0, x1, x2] w R :=
  calls_lift_eq Tryz.mixed Tryz.func20 (args := [x0, x1, x2]) rfl rfl rfl rfl ((space_Space_Write_s3_eq R) (envOf [x0, x1, x2]) w) (by kernel_rfl) h
/-! (*quayside/space.Space).Read -/
def space_Space_Read_s0 (R : Value → World → Prop) (x0 x1 : Value) (w : World) : Prop :=
  callG Tryz.prog 18 #[x0] w fun t8 w =>
  qG Tryz.prog (Op.unary .not t8) w fun t9 =>
  bV t9
  (R (.tuple #[(.string ⟨#[]⟩), (.int .i64 1)]) w)
  (callG Tryz.prog 57 #[x0, x1] w fun t13 w =>
  qG Tryz.prog (Op.unary .not t13) w fun t14 =>
  bV t14
  (R (.tuple #[(.string ⟨#[]⟩), (.int .i64 130)]) w)
  (callG Tryz.prog 55 #[x1] w fun t17 w =>
  callG Tryz.prog 47 #[x0, t17] w fun t18 w =>
  qG Tryz.prog (Instr.extract t18 0) w fun t19 =>
  qG Tryz.prog (Instr.extract t18 1) w fun t20 =>
  R (.tuple #[t19, t20]) w))
theorem space_Space_Read_s0_eq (R : Value → World → Prop) : ∀ e w, lift Tryz.prog 21 (bodyOf Tryz.f26) (finK Tryz.prog Tryz.f26.results.toList R) e w = space_Space_Read_s0 R (e 0) (e 1) w := fun e w => by kernel_rfl
def space_Space_Read (R : Value → World → Prop) (x0 x1 : Value) (w : World) : Prop := space_Space_Read_s0 R x0 x1 w
theorem space_Space_Read_call {R : Value → World → Prop} {x0 x1 : Value} {w : World} (h : space_Space_Read R x0 x1 w) : callG Tryz.prog 26 #[x0, x1] w R :=
  calls_lift_eq Tryz.mixed Tryz.func26 (args := [x0, x1]) rfl rfl rfl rfl ((space_Space_Read_s0_eq R) (envOf [x0, x1]) w) (by kernel_rfl) h
/-! (*quayside/space.Space).Name -/
def space_Space_Name_s0 (R : Value → World → Prop) (x0 x1 x2 : Value) (w : World) : Prop :=
  nk x0 fun t50 =>
  fa 68 t50 fun t51 =>
  fa 63 t51 fun t52 =>
  ld1 t52 w fun t53 =>
  uG Tryz.prog (Instr.mapUpdate 55 t53 x1 x2) w fun w =>
  R (.int .i64 0) w
theorem space_Space_Name_s0_eq (R : Value → World → Prop) : ∀ e w, lift Tryz.prog 56 (sub (bodyOf Tryz.f22) [1, 1, 1, 1]) (finK Tryz.prog Tryz.f22.results.toList R) e w = space_Space_Name_s0 R (e 0) (e 1) (e 2) w := fun e w => by kernel_rfl
def space_Space_Name_s1 (R : Value → World → Prop) (x0 x1 x2 : Value) (w : World) : Prop :=
  nk x0 fun t24 =>
  fa 68 t24 fun t25 =>
  fa 63 t25 fun t26 =>
  ld1 t26 w fun t27 =>
  qG Tryz.prog (Instr.lookup 55 t27 x1 true) w fun t29 =>
  qG Tryz.prog (Instr.extract t29 0) w fun t30 =>
  qG Tryz.prog (Instr.extract t29 1) w fun t31 =>
  callG Tryz.prog 57 #[x0, x2] w fun t35 w =>
  qG Tryz.prog (Op.unary .not t35) w fun t36 =>
  bV t36
  (R (.int .i64 130) w)
  (qG Tryz.prog (Op.unary .not t31) w fun t39 =>
  bV t39
  (nk x0 fun t42 =>
  fa 68 t42 fun t43 =>
  fa 63 t43 fun t44 =>
  ld1 t44 w fun t45 =>
  qG Tryz.prog (Builtin.len_ #[55] 3 #[t45]) w fun t46 =>
  qG Tryz.prog (bq .geq 3 (.tmp 46) (.const (.int .i64 6)) t46 (.int .i64 6)) w fun t47 =>
  bV t47
  (R (.int .i64 2) w)
  (space_Space_Name_s0 R x0 x1 x2 w))
  (space_Space_Name_s0 R x0 x1 x2 w))
theorem space_Space_Name_s1_eq (R : Value → World → Prop) : ∀ e w, lift Tryz.prog 56 (sub (bodyOf Tryz.f22) [1, 1]) (finK Tryz.prog Tryz.f22.results.toList R) e w = space_Space_Name_s1 R (e 0) (e 1) (e 2) w :=
  segs_eq (l := [(sub (bodyOf Tryz.f22) [1, 1, 0]), (sub (bodyOf Tryz.f22) [1, 1, 1, 0])]) (y := (sub (bodyOf Tryz.f22) [1, 1, 1, 1])) (Y := (fun e w => space_Space_Name_s0 R (e 0) (e 1) (e 2) w)) (space_Space_Name_s0_eq R) (fun e w => by kernel_rfl)
def space_Space_Name_s2 (R : Value → World → Prop) (x0 x1 x2 : Value) (w : World) : Prop :=
  callG Tryz.prog 18 #[x0] w fun t10 w =>
  qG Tryz.prog (Op.unary .not t10) w fun t11 =>
  bV t11
  (R (.int .i64 1) w)
  (lenS x1 fun t14 =>
  qG Tryz.prog (bq .lss 3 (.tmp 14) (.const (.int .i64 1)) t14 (.int .i64 1)) w fun t15 =>
  bV t15
  (R (.int .i64 1) w)
  (lenS x1 fun t19 =>
  qG Tryz.prog (bq .gtr 3 (.tmp 19) (.const (.int .i64 8)) t19 (.int .i64 8)) w fun t20 =>
  bV t20
  (R (.int .i64 1) w)
  (space_Space_Name_s1 R x0 x1 x2 w)))
theorem space_Space_Name_s2_eq (R : Value → World → Prop) : ∀ e w, lift Tryz.prog 56 (bodyOf Tryz.f22) (finK Tryz.prog Tryz.f22.results.toList R) e w = space_Space_Name_s2 R (e 0) (e 1) (e 2) w :=
  segs_eq (l := [(sub (bodyOf Tryz.f22) [0]), (sub (bodyOf Tryz.f22) [1, 0])]) (y := (sub (bodyOf Tryz.f22) [1, 1])) (Y := (fun e w => space_Space_Name_s1 R (e 0) (e 1) (e 2) w)) (space_Space_Name_s1_eq R) (fun e w => by kernel_rfl)
def space_Space_Name (R : Value → World → Prop) (x0 x1 x2 : Value) (w : World) : Prop := space_Space_Name_s2 R x0 x1 x2 w
theorem space_Space_Name_call {R : Value → World → Prop} {x0 x1 x2 : Value} {w : World} (h : space_Space_Name R x0 x1 x2 w) : callG Tryz.prog 22 #[x0, x1, x2] w R :=
  calls_lift_eq Tryz.mixed Tryz.func22 (args := [x0, x1, x2]) rfl rfl rfl rfl ((space_Space_Name_s2_eq R) (envOf [x0, x1, x2]) w) (by kernel_rfl) h
/-! (*quayside/space.Space).Forget -/
def space_Space_Forget_s0 (R : Value → World → Prop) (x0 x1 : Value) (w : World) : Prop :=
  callG Tryz.prog 18 #[x0] w fun t8 w =>
  qG Tryz.prog (Op.unary .not t8) w fun t9 =>
  bV t9
  (R (.int .i64 1) w)
  (nk x0 fun t12 =>
  fa 68 t12 fun t13 =>
  fa 63 t13 fun t14 =>
  ld1 t14 w fun t15 =>
  qG Tryz.prog (Instr.lookup 55 t15 x1 true) w fun t17 =>
  qG Tryz.prog (Instr.extract t17 0) w fun t18 =>
  qG Tryz.prog (Instr.extract t17 1) w fun t19 =>
  qG Tryz.prog (Op.unary .not t19) w fun t21 =>
  bV t21
  (R (.int .i64 3) w)
  (nk x0 fun t23 =>
  fa 68 t23 fun t24 =>
  fa 63 t24 fun t25 =>
  ld1 t25 w fun t26 =>
  eG Tryz.prog (Builtin.delete_ #[55, 9] 0 #[t26, x1]) w fun _ w =>
  R (.int .i64 0) w))
theorem space_Space_Forget_s0_eq (R : Value → World → Prop) : ∀ e w, lift Tryz.prog 28 (bodyOf Tryz.f35) (finK Tryz.prog Tryz.f35.results.toList R) e w = space_Space_Forget_s0 R (e 0) (e 1) w := fun e w => by kernel_rfl
def space_Space_Forget (R : Value → World → Prop) (x0 x1 : Value) (w : World) : Prop := space_Space_Forget_s0 R x0 x1 w
theorem space_Space_Forget_call {R : Value → World → Prop} {x0 x1 : Value} {w : World} (h : space_Space_Forget R x0 x1 w) : callG Tryz.prog 35 #[x0, x1] w R :=
  calls_lift_eq Tryz.mixed Tryz.func35 (args := [x0, x1]) rfl rfl rfl rfl ((space_Space_Forget_s0_eq R) (envOf [x0, x1]) w) (by kernel_rfl) h
/-! (*quayside/space.Space).Named -/
def space_Space_Named_s0 (R : Value → World → Prop) (x0 x1 : Value) (w : World) : Prop :=
  callG Tryz.prog 18 #[x0] w fun t9 w =>
  qG Tryz.prog (Op.unary .not t9) w fun t10 =>
  bV t10
  (R (.tuple #[(.int .i64 0), (.bool false)]) w)
  (nk x0 fun t13 =>
  fa 68 t13 fun t14 =>
  fa 63 t14 fun t15 =>
  ld1 t15 w fun t16 =>
  qG Tryz.prog (Instr.lookup 55 t16 x1 true) w fun t18 =>
  qG Tryz.prog (Instr.extract t18 0) w fun t19 =>
  qG Tryz.prog (Instr.extract t18 1) w fun t20 =>
  R (.tuple #[t19, t20]) w)
theorem space_Space_Named_s0_eq (R : Value → World → Prop) : ∀ e w, lift Tryz.prog 23 (bodyOf Tryz.f25) (finK Tryz.prog Tryz.f25.results.toList R) e w = space_Space_Named_s0 R (e 0) (e 1) w := fun e w => by kernel_rfl
def space_Space_Named (R : Value → World → Prop) (x0 x1 : Value) (w : World) : Prop := space_Space_Named_s0 R x0 x1 w
theorem space_Space_Named_call {R : Value → World → Prop} {x0 x1 : Value} {w : World} (h : space_Space_Named R x0 x1 w) : callG Tryz.prog 25 #[x0, x1] w R :=
  calls_lift_eq Tryz.mixed Tryz.func25 (args := [x0, x1]) rfl rfl rfl rfl ((space_Space_Named_s0_eq R) (envOf [x0, x1]) w) (by kernel_rfl) h
/-! (*quayside/space.Space).Names -/
def space_Space_Names_s0 (R : Value → World → Prop) (x3 : Value) (w : World) : Prop :=
  callG Tryz.prog 89 #[x3] w fun t23 w =>
  R x3 w
theorem space_Space_Names_s0_eq (R : Value → World → Prop) : ∀ e w, lift Tryz.prog 25 (sub (bodyOf Tryz.f60) [1, 1, 1, 1]) (finK Tryz.prog Tryz.f60.results.toList R) e w = space_Space_Names_s0 R (e 3) w := fun e w => by kernel_rfl
def space_Space_Names_b1 (R : Value → World → Prop) (N1 : List Value → World → Prop) (x3 x13 : Value) (w : World) : Prop :=
  eG Tryz.prog (Instr.next x13 false 0) w fun t14 w =>
  qG Tryz.prog (Instr.extract t14 0) w fun t15 =>
  bV t15
  (eG Tryz.prog (Instr.entry x13) w fun t16 w =>
  qG Tryz.prog (Instr.extract t16 0) w fun t17 =>
  bsl 9 1 1 (zc Tryz.prog 9) #[(0, t17)] w fun t20 w =>
  app 9 1 16 (zc Tryz.prog 9) x3 t20 w fun t21 w =>
  N1 [t21, x13] w)
  (space_Space_Names_s0 R x3 w)
theorem space_Space_Names_b1_eq (R : Value → World → Prop) (N1 : List Value → World → Prop) : ∀ e w, lift Tryz.prog 25 (sub (bodyOf Tryz.f60) [1, 1, 1, 0, 1, 0, 0]) (seqK (fun e w => N1 [e 3, e 13] w) (blockK 0 (seqK (fun e w => space_Space_Names_s0 R (e 3) w) (finK Tryz.prog Tryz.f60.results.toList R)))) e w = space_Space_Names_b1 R N1 (e 3) (e 13) w := fun e w => by kernel_rfl
def space_Space_Names_L2F (R : Value → World → Prop) (N1 : List Value → World → Prop) (xs : List Value) (w : World) : Prop :=
  match xs with
  | [x3, x13] => space_Space_Names_b1 R N1 x3 x13 w
  | _ => False
def space_Space_Names_L2 (R : Value → World → Prop) (x3 x13 : Value) (w : World) : Prop :=
  ∃ m, loopV (space_Space_Names_L2F R) m [x3, x13] w
theorem space_Space_Names_L2_eq (R : Value → World → Prop) : ∀ e w, lift Tryz.prog 25 (sub (bodyOf Tryz.f60) [1, 1, 1, 0, 1, 0]) (blockK 0 (seqK (fun e w => space_Space_Names_s0 R (e 3) w) (finK Tryz.prog Tryz.f60.results.toList R))) e w = space_Space_Names_L2 R (e 3) (e 13) w := loop_seg (F := space_Space_Names_L2F R) (sel := fun e => [e 3, e 13]) fun N1 => (space_Space_Names_b1_eq R N1)
def space_Space_Names_s3 (R : Value → World → Prop) (x0 x3 : Value) (w : World) : Prop :=
  nk x0 fun t9 =>
  fa 68 t9 fun t10 =>
  fa 63 t10 fun t11 =>
  ld1 t11 w fun t12 =>
  eG Tryz.prog (Instr.range 55 t12) w fun t13 w =>
  space_Space_Names_L2 R x3 t13 w
theorem space_Space_Names_s3_eq (R : Value → World → Prop) : ∀ e w, lift Tryz.prog 25 (sub (bodyOf Tryz.f60) [1, 1, 1, 0]) (seqK (fun e w => space_Space_Names_s0 R (e 3) w) (finK Tryz.prog Tryz.f60.results.toList R)) e w = space_Space_Names_s3 R (e 0) (e 3) w :=
  segs_eq (l := [(sub (bodyOf Tryz.f60) [1, 1, 1, 0, 0])]) (y := (sub (bodyOf Tryz.f60) [1, 1, 1, 0, 1])) (Y := (fun e w => space_Space_Names_L2 R (e 3) (e 13) w)) (space_Space_Names_L2_eq R) (fun e w => by kernel_rfl)
def space_Space_Names_s4 (R : Value → World → Prop) (x0 : Value) (w : World) : Prop :=
  callG Tryz.prog 18 #[x0] w fun t6 w =>
  qG Tryz.prog (Op.unary .not t6) w fun t7 =>
  bV t7
  (R (.slice none 0 0) w)
  (space_Space_Names_s3 R x0 (.slice none 0 0) w)
theorem space_Space_Names_s4_eq (R : Value → World → Prop) : ∀ e w, lift Tryz.prog 25 (bodyOf Tryz.f60) (finK Tryz.prog Tryz.f60.results.toList R) e w = space_Space_Names_s4 R (e 0) w :=
  segs_eq (l := [(sub (bodyOf Tryz.f60) [0]), (sub (bodyOf Tryz.f60) [1, 0]), (sub (bodyOf Tryz.f60) [1, 1, 0])]) (y := (sub (bodyOf Tryz.f60) [1, 1, 1])) (Y := (fun e w => space_Space_Names_s3 R (e 0) (e 3) w)) (seq_seg (x := (sub (bodyOf Tryz.f60) [1, 1, 1, 0])) (y := (sub (bodyOf Tryz.f60) [1, 1, 1, 1])) (space_Space_Names_s0_eq R) (space_Space_Names_s3_eq R)) (fun e w => by kernel_rfl)
def space_Space_Names (R : Value → World → Prop) (x0 : Value) (w : World) : Prop := space_Space_Names_s4 R x0 w
theorem space_Space_Names_call {R : Value → World → Prop} {x0 : Value} {w : World} (h : space_Space_Names R x0 w) : callG Tryz.prog 60 #[x0] w R :=
  calls_lift_eq Tryz.mixed Tryz.func60 (args := [x0]) rfl rfl rfl rfl ((space_Space_Names_s4_eq R) (envOf [x0]) w) (by kernel_rfl) h
/-! (*quayside/space.Space).Commit -/
def space_Space_Commit_s0 (R : Value → World → Prop) (x0 x3 : Value) (w : World) : Prop :=
  nk x0 fun t59 =>
  fa 3 t59 fun t60 =>
  ld1 t60 w fun t61 =>
  qG Tryz.prog (bq .geq 3 (.tmp 61) (.const (.int .i64 1048575)) t61 (.int .i64 1048575)) w fun t62 =>
  bV t62
  (R (.int .i64 2) w)
  (nk x0 fun t64 =>
  fa 3 t64 fun t65 =>
  ld1 t65 w fun t66 =>
  qG Tryz.prog (bq .add 3 (.tmp 66) (.const (.int .i64 1)) t66 (.int .i64 1)) w fun t67 =>
  qG Tryz.prog (bq .rem 3 (.tmp 69) (.const (.int .i64 2)) t67 (.int .i64 2)) w fun t70 =>
  qG Tryz.prog (bq .add 3 (.const (.int .i64 1)) (.tmp 70) (.int .i64 1) t70) w fun t71 =>
  callG Tryz.prog 61 #[x3] w fun t73 w =>
  callG Tryz.prog 54 #[x0, t71, t73] w fun t74 w =>
  qG Tryz.prog (bq .neq 24 (.tmp 75) (.const (.int .i64 0)) t74 (.int .i64 0)) w fun t76 =>
  bV t76
  (R t74 w)
  (nk x0 fun t79 =>
  fa 0 t79 fun t80 =>
  ld1 t80 w fun t81 =>
  callG Tryz.prog 62 #[t81] w fun t82 w =>
  qG Tryz.prog (bq .neq 24 (.tmp 83) (.const (.int .i64 0)) t82 (.int .i64 0)) w fun t84 =>
  bV t84
  (R t82 w)
  (nk x0 fun t87 =>
  fa 0 t87 fun t88 =>
  ld1 t88 (World.drew w) fun t89 =>
  nk x0 fun t91 =>
  fa 1 t91 fun t92 =>
  ld1 t92 (World.drew w) fun t93 =>
  qG Tryz.prog (bq .rem 3 (.tmp 94) (.const (.int .i64 2)) t67 (.int .i64 2)) (World.drew w) fun t95 =>
  qG Tryz.prog (bq .add 3 (.tmp 93) (.tmp 95) t93 t95) (World.drew w) fun t96 =>
  callG Tryz.prog 15 #[x0, t67] (World.drew w) fun t99 w =>
  stb Tryz.prog (bq .add 3 (.tmp 93) (.tmp 95) t93 t95) t96 w ∧
  stb Tryz.prog (bq .rem 3 (.tmp 94) (.const (.int .i64 2)) t67 (.int .i64 2)) t95 w ∧
  ld1 t92 w (fun u => u = t93) ∧
  ld1 t88 w (fun u => u = t89) ∧
  callG Tryz.prog 63 #[t89, t96, t99] w fun t100 w =>
  qG Tryz.prog (bq .neq 24 (.tmp 101) (.const (.int .i64 0)) t100 (.int .i64 0)) w fun t102 =>
  bV t102
  (R t100 w)
  (nk x0 fun t105 =>
  fa 0 t105 fun t106 =>
  ld1 t106 w fun t107 =>
  callG Tryz.prog 62 #[t107] w fun t108 w =>
  qG Tryz.prog (bq .neq 24 (.tmp 109) (.const (.int .i64 0)) t108 (.int .i64 0)) w fun t110 =>
  bV t110
  (R t108 w)
  (nk x0 fun t116 =>
  fa 68 t116 fun t117 =>
  ldn 64 t117 w fun t118 =>
  callG Tryz.prog 17 #[t118] w fun t119 w =>
  nk x0 fun t120 =>
  fa 3 t120 fun t121 =>
  st1 t121 t67 w fun w =>
  nk x0 fun t122 =>
  fa 4 t122 fun t123 =>
  stn 64 t123 t119 w fun w =>
  R (.int .i64 0) w)))))
theorem space_Space_Commit_s0_eq (R : Value → World → Prop) : ∀ e w, lift Tryz.prog 124 (sub (bodyOf Tryz.f23) [1, 1, 1, 1, 1]) (finK Tryz.prog Tryz.f23.results.toList R) e w = space_Space_Commit_s0 R (e 0) (e 3) w := fun e w => by kernel_rfl
def space_Space_Commit_b1 (R : Value → World → Prop) (N1 : List Value → World → Prop) (x0 x3 x29 x30 x31 : Value) (w : World) : Prop :=
  qG Tryz.prog (bq .lss 3 (.tmp 31) (.tmp 30) x31 x30) w fun t32 =>
  bV t32
  (ia 1 x29 x31 fun t33 =>
  ld1 t33 w fun t34 =>
  nk x0 fun t36 =>
  fa 68 t36 fun t37 =>
  fa 63 t37 fun t38 =>
  ld1 t38 w fun t39 =>
  qG Tryz.prog (Instr.lookup 55 t39 t34 false) w fun t41 =>
  callG Tryz.prog 57 #[x0, t41] w fun t44 w =>
  qG Tryz.prog (Op.unary .not t44) w fun t45 =>
  bV t45
  (R (.int .i64 130) w)
  (qG Tryz.prog (bq .add 9 (.const (.string ⟨#[110]⟩)) (.tmp 47) (.string ⟨#[110]⟩) t34) w fun t48 =>
  cvI .u8 t41 fun t50 =>
  qG Tryz.prog (bq .shr 3 (.tmp 51) (.const (.int .u64 8)) t41 (.int .u64 8)) w fun t52 =>
  cvI .u8 t52 fun t53 =>
  bsl 5 1 2 (zc Tryz.prog 5) #[(0, t50), (1, t53)] w fun t54 w =>
  cvBS t54 w fun t55 =>
  callG Tryz.prog 59 #[x3, t48, t55] w fun t56 w =>
  qG Tryz.prog (bq .add 3 (.tmp 31) (.const (.int .i64 1)) x31 (.int .i64 1)) w fun t57 =>
  N1 [x0, x3, x29, x30, t57] w))
  (space_Space_Commit_s0 R x0 x3 w)
theorem space_Space_Commit_b1_eq (R : Value → World → Prop) (N1 : List Value → World → Prop) : ∀ e w, lift Tryz.prog 124 (sub (bodyOf Tryz.f23) [1, 1, 1, 1, 0, 1, 0, 0]) (seqK (fun e w => N1 [e 0, e 3, e 29, e 30, e 31] w) (blockK 0 (seqK (fun e w => space_Space_Commit_s0 R (e 0) (e 3) w) (finK Tryz.prog Tryz.f23.results.toList R)))) e w = space_Space_Commit_b1 R N1 (e 0) (e 3) (e 29) (e 30) (e 31) w := fun e w => by kernel_rfl
def space_Space_Commit_L2F (R : Value → World → Prop) (N1 : List Value → World → Prop) (xs : List Value) (w : World) : Prop :=
  match xs with
  | [x0, x3, x29, x30, x31] => space_Space_Commit_b1 R N1 x0 x3 x29 x30 x31 w
  | _ => False
def space_Space_Commit_L2 (R : Value → World → Prop) (x0 x3 x29 x30 x31 : Value) (w : World) : Prop :=
  ∃ m, loopV (space_Space_Commit_L2F R) m [x0, x3, x29, x30, x31] w
theorem space_Space_Commit_L2_eq (R : Value → World → Prop) : ∀ e w, lift Tryz.prog 124 (sub (bodyOf Tryz.f23) [1, 1, 1, 1, 0, 1, 0]) (blockK 0 (seqK (fun e w => space_Space_Commit_s0 R (e 0) (e 3) w) (finK Tryz.prog Tryz.f23.results.toList R))) e w = space_Space_Commit_L2 R (e 0) (e 3) (e 29) (e 30) (e 31) w := loop_seg (F := space_Space_Commit_L2F R) (sel := fun e => [e 0, e 3, e 29, e 30, e 31]) fun N1 => (space_Space_Commit_b1_eq R N1)
def space_Space_Commit_s3 (R : Value → World → Prop) (x0 x3 : Value) (w : World) : Prop :=
  callG Tryz.prog 60 #[x0] w fun t29 w =>
  lenL t29 fun t30 =>
  space_Space_Commit_L2 R x0 x3 t29 t30 (.int .i64 0) w
theorem space_Space_Commit_s3_eq (R : Value → World → Prop) : ∀ e w, lift Tryz.prog 124 (sub (bodyOf Tryz.f23) [1, 1, 1, 1, 0]) (seqK (fun e w => space_Space_Commit_s0 R (e 0) (e 3) w) (finK Tryz.prog Tryz.f23.results.toList R)) e w = space_Space_Commit_s3 R (e 0) (e 3) w :=
  segs_eq (l := [(sub (bodyOf Tryz.f23) [1, 1, 1, 1, 0, 0])]) (y := (sub (bodyOf Tryz.f23) [1, 1, 1, 1, 0, 1])) (Y := (fun e w => space_Space_Commit_L2 R (e 0) (e 3) (e 29) (e 30) (e 31) w)) (space_Space_Commit_L2_eq R) (fun e w => by kernel_rfl)
def space_Space_Commit_s4 (R : Value → World → Prop) (x0 : Value) (w : World) : Prop :=
  callG Tryz.prog 18 #[x0] w fun t14 w =>
  qG Tryz.prog (Op.unary .not t14) w fun t15 =>
  bV t15
  (R (.int .i64 1) w)
  (callG Tryz.prog 58 #[(.int .i64 200)] w fun t17 w =>
  qG Tryz.prog (Instr.extract t17 0) w fun t18 =>
  qG Tryz.prog (Instr.extract t17 1) w fun t19 =>
  nk x0 fun t22 =>
  fa 68 t22 fun t23 =>
  fa 0 t23 fun t24 =>
  slA 63 1 t24 none none fun t25 =>
  cvBS t25 w fun t26 =>
  callG Tryz.prog 59 #[t18, (.string ⟨#[117]⟩), t26] w fun t27 w =>
  space_Space_Commit_s3 R x0 t18 w)
theorem space_Space_Commit_s4_eq (R : Value → World → Prop) : ∀ e w, lift Tryz.prog 124 (bodyOf Tryz.f23) (finK Tryz.prog Tryz.f23.results.toList R) e w = space_Space_Commit_s4 R (e 0) w :=
  segs_eq (l := [(sub (bodyOf Tryz.f23) [0]), (sub (bodyOf Tryz.f23) [1, 0]), (sub (bodyOf Tryz.f23) [1, 1, 0]), (sub (bodyOf Tryz.f23) [1, 1, 1, 0])]) (y := (sub (bodyOf Tryz.f23) [1, 1, 1, 1])) (Y := (fun e w => space_Space_Commit_s3 R (e 0) (e 3) w)) (seq_seg (x := (sub (bodyOf Tryz.f23) [1, 1, 1, 1, 0])) (y := (sub (bodyOf Tryz.f23) [1, 1, 1, 1, 1])) (space_Space_Commit_s0_eq R) (space_Space_Commit_s3_eq R)) (fun e w => by kernel_rfl)
def space_Space_Commit (R : Value → World → Prop) (x0 : Value) (w : World) : Prop := space_Space_Commit_s4 R x0 w
theorem space_Space_Commit_call {R : Value → World → Prop} {x0 : Value} {w : World} (h : space_Space_Commit R x0 w) : callG Tryz.prog 23 #[x0] w R :=
  calls_lift_eq Tryz.mixed Tryz.func23 (args := [x0]) rfl rfl rfl rfl ((space_Space_Commit_s4_eq R) (envOf [x0]) w) (by kernel_rfl) h
/-! (*quayside/space.Space).Rollback -/
def space_Space_Rollback_s0 (R : Value → World → Prop) (x0 : Value) (w : World) : Prop :=
  callG Tryz.prog 18 #[x0] w fun t4 w =>
  qG Tryz.prog (Op.unary .not t4) w fun t5 =>
  bV t5
  (R (.int .i64 1) w)
  (nk x0 fun t8 =>
  fa 4 t8 fun t9 =>
  ldn 64 t9 w fun t10 =>
  callG Tryz.prog 17 #[t10] w fun t11 w =>
  nk x0 fun t12 =>
  fa 68 t12 fun t13 =>
  stn 64 t13 t11 w fun w =>
  R (.int .i64 0) w)
theorem space_Space_Rollback_s0_eq (R : Value → World → Prop) : ∀ e w, lift Tryz.prog 14 (bodyOf Tryz.f38) (finK Tryz.prog Tryz.f38.results.toList R) e w = space_Space_Rollback_s0 R (e 0) w := fun e w => by kernel_rfl
def space_Space_Rollback (R : Value → World → Prop) (x0 : Value) (w : World) : Prop := space_Space_Rollback_s0 R x0 w
theorem space_Space_Rollback_call {R : Value → World → Prop} {x0 : Value} {w : World} (h : space_Space_Rollback R x0 w) : callG Tryz.prog 38 #[x0] w R :=
  calls_lift_eq Tryz.mixed Tryz.func38 (args := [x0]) rfl rfl rfl rfl ((space_Space_Rollback_s0_eq R) (envOf [x0]) w) (by kernel_rfl) h
/-! (*quayside/space.Space).Turn -/
def space_Space_Turn_s0 (R : Value → World → Prop) (x0 : Value) (w : World) : Prop :=
  callG Tryz.prog 18 #[x0] w fun t4 w =>
  qG Tryz.prog (Op.unary .not t4) w fun t5 =>
  bV t5
  (R (.int .i64 0) w)
  (nk x0 fun t7 =>
  fa 3 t7 fun t8 =>
  ld1 t8 w fun t9 =>
  R t9 w)
theorem space_Space_Turn_s0_eq (R : Value → World → Prop) : ∀ e w, lift Tryz.prog 10 (bodyOf Tryz.f27) (finK Tryz.prog Tryz.f27.results.toList R) e w = space_Space_Turn_s0 R (e 0) w := fun e w => by kernel_rfl
def space_Space_Turn (R : Value → World → Prop) (x0 : Value) (w : World) : Prop := space_Space_Turn_s0 R x0 w
theorem space_Space_Turn_call {R : Value → World → Prop} {x0 : Value} {w : World} (h : space_Space_Turn R x0 w) : callG Tryz.prog 27 #[x0] w R :=
  calls_lift_eq Tryz.mixed Tryz.func27 (args := [x0]) rfl rfl rfl rfl ((space_Space_Turn_s0_eq R) (envOf [x0]) w) (by kernel_rfl) h
/-! strings.HasPrefix -/
def strings_HasPrefix_s0 (R : Value → World → Prop) (x0 x1 : Value) (w : World) : Prop :=
  callG Tryz.prog 83 #[x0, x1] w fun t7 w =>
  R t7 w
theorem strings_HasPrefix_s0_eq (R : Value → World → Prop) : ∀ e w, lift Tryz.prog 8 (bodyOf Tryz.f52) (finK Tryz.prog Tryz.f52.results.toList R) e w = strings_HasPrefix_s0 R (e 0) (e 1) w := fun e w => by kernel_rfl
def strings_HasPrefix (R : Value → World → Prop) (x0 x1 : Value) (w : World) : Prop := strings_HasPrefix_s0 R x0 x1 w
theorem strings_HasPrefix_call {R : Value → World → Prop} {x0 x1 : Value} {w : World} (h : strings_HasPrefix R x0 x1 w) : callG Tryz.prog 52 #[x0, x1] w R :=
  calls_lift_eq Tryz.mixed Tryz.func52 (args := [x0, x1]) rfl rfl rfl rfl ((strings_HasPrefix_s0_eq R) (envOf [x0, x1]) w) (by kernel_rfl) h
/-! internal/stringslite.HasPrefix -/
def internal_stringslite_HasPrefix_s0 (R : Value → World → Prop) (x0 x1 : Value) (w : World) : Prop :=
  lenS x0 fun t6 =>
  lenS x1 fun t8 =>
  qG Tryz.prog (bq .geq 3 (.tmp 6) (.tmp 8) t6 t8) w fun t9 =>
  bV t9
  (lenS x1 fun t13 =>
  slS x0 none (some t13) fun t14 =>
  qG Tryz.prog (bq .eql 9 (.tmp 14) (.tmp 15) t14 x1) w fun t16 =>
  R t16 w)
  (R (.bool false) w)
theorem internal_stringslite_HasPrefix_s0_eq (R : Value → World → Prop) : ∀ e w, lift Tryz.prog 18 (bodyOf Tryz.f83) (finK Tryz.prog Tryz.f83.results.toList R) e w = internal_stringslite_HasPrefix_s0 R (e 0) (e 1) w := fun e w => by kernel_rfl
def internal_stringslite_HasPrefix (R : Value → World → Prop) (x0 x1 : Value) (w : World) : Prop := internal_stringslite_HasPrefix_s0 R x0 x1 w
theorem internal_stringslite_HasPrefix_call {R : Value → World → Prop} {x0 x1 : Value} {w : World} (h : internal_stringslite_HasPrefix R x0 x1 w) : callG Tryz.prog 83 #[x0, x1] w R :=
  calls_lift_eq Tryz.mixed Tryz.func83 (args := [x0, x1]) rfl rfl rfl rfl ((internal_stringslite_HasPrefix_s0_eq R) (envOf [x0, x1]) w) (by kernel_rfl) h
/-! strings.Repeat -/
def strings_Repeat_s0 (R : Value → World → Prop) (x9 : Value) (w : World) : Prop :=
  callG Tryz.prog 74 #[x9] w fun t124 w =>
  R t124 w
theorem strings_Repeat_s0_eq (R : Value → World → Prop) : ∀ e w, lift Tryz.prog 125 (sub (bodyOf Tryz.f46) [1, 1, 1, 1, 1, 1, 1, 1, 1, 1, 1, 1, 1, 1]) (finK Tryz.prog Tryz.f46.results.toList R) e w = strings_Repeat_s0 R (e 9) w := fun e w => by kernel_rfl
def strings_Repeat_b1 (R : Value → World → Prop) (N1 : List Value → World → Prop) (x7 x8 x9 : Value) (w : World) : Prop :=
  callG Tryz.prog 73 #[x9] w fun t111 w =>
  qG Tryz.prog (bq .lss 3 (.tmp 111) (.tmp 112) t111 x7) w fun t113 =>
  bV t113
  (callG Tryz.prog 73 #[x9] w fun t115 w =>
  qG Tryz.prog (bq .sub 3 (.tmp 114) (.tmp 115) x7 t115) w fun t116 =>
  callG Tryz.prog 73 #[x9] w fun t117 w =>
  qG Tryz.prog (Builtin.min_ #[3, 3, 3] 3 #[t116, t117, x8]) w fun t119 =>
  callG Tryz.prog 74 #[x9] w fun t120 w =>
  slS t120 none (some t119) fun t122 =>
  callG Tryz.prog 72 #[x9, t122] w fun t123 w =>
  N1 [x7, x8, x9] w)
  (strings_Repeat_s0 R x9 w)
theorem strings_Repeat_b1_eq (R : Value → World → Prop) (N1 : List Value → World → Prop) : ∀ e w, lift Tryz.prog 125 (sub (bodyOf Tryz.f46) [1, 1, 1, 1, 1, 1, 1, 1, 1, 1, 1, 1, 1, 0, 0, 0]) (seqK (fun e w => N1 [e 7, e 8, e 9] w) (blockK 3 (seqK (fun e w => strings_Repeat_s0 R (e 9) w) (finK Tryz.prog Tryz.f46.results.toList R)))) e w = strings_Repeat_b1 R N1 (e 7) (e 8) (e 9) w := fun e w => by kernel_rfl
def strings_Repeat_L2F (R : Value → World → Prop) (N1 : List Value → World → Prop) (xs : List Value) (w : World) : Prop :=
  match xs with
  | [x7, x8, x9] => strings_Repeat_b1 R N1 x7 x8 x9 w
  | _ => False
def strings_Repeat_L2 (R : Value → World → Prop) (x7 x8 x9 : Value) (w : World) : Prop :=
  ∃ m, loopV (strings_Repeat_L2F R) m [x7, x8, x9] w
theorem strings_Repeat_L2_eq (R : Value → World → Prop) : ∀ e w, lift Tryz.prog 125 (sub (bodyOf Tryz.f46) [1, 1, 1, 1, 1, 1, 1, 1, 1, 1, 1, 1, 1, 0, 0]) (blockK 3 (seqK (fun e w => strings_Repeat_s0 R (e 9) w) (finK Tryz.prog Tryz.f46.results.toList R))) e w = strings_Repeat_L2 R (e 7) (e 8) (e 9) w := loop_seg (F := strings_Repeat_L2F R) (sel := fun e => [e 7, e 8, e 9]) fun N1 => (strings_Repeat_b1_eq R N1)
def strings_Repeat_s3 (R : Value → World → Prop) (x0 x7 x8 : Value) (w : World) : Prop :=
  newG (zc Tryz.prog 120) 120 w fun t9 w =>
  callG Tryz.prog 71 #[t9, x7] w fun t108 w =>
  callG Tryz.prog 72 #[t9, x0] w fun t110 w =>
  strings_Repeat_L2 R x7 x8 t9 w
theorem strings_Repeat_s3_eq (R : Value → World → Prop) : ∀ e w, lift Tryz.prog 125 (sub (bodyOf Tryz.f46) [1, 1, 1, 1, 1, 1, 1, 1, 1, 1]) (finK Tryz.prog Tryz.f46.results.toList R) e w = strings_Repeat_s3 R (e 0) (e 7) (e 8) w :=
  segs_eq (l := [(sub (bodyOf Tryz.f46) [1, 1, 1, 1, 1, 1, 1, 1, 1, 1, 0]), (sub (bodyOf Tryz.f46) [1, 1, 1, 1, 1, 1, 1, 1, 1, 1, 1, 0]), (sub (bodyOf Tryz.f46) [1, 1, 1, 1, 1, 1, 1, 1, 1, 1, 1, 1, 0])]) (y := (sub (bodyOf Tryz.f46) [1, 1, 1, 1, 1, 1, 1, 1, 1, 1, 1, 1, 1])) (Y := (fun e w => strings_Repeat_L2 R (e 7) (e 8) (e 9) w)) (seq_seg (x := (sub (bodyOf Tryz.f46) [1, 1, 1, 1, 1, 1, 1, 1, 1, 1, 1, 1, 1, 0])) (y := (sub (bodyOf Tryz.f46) [1, 1, 1, 1, 1, 1, 1, 1, 1, 1, 1, 1, 1, 1])) (strings_Repeat_s0_eq R) (strings_Repeat_L2_eq R)) (fun e w => by kernel_rfl)
def strings_Repeat_s4 (R : Value → World → Prop) (x0 x7 : Value) (w : World) : Prop :=
  qG Tryz.prog (bq .gtr 3 (.tmp 95) (.const (.int .i64 8192)) x7 (.int .i64 8192)) w fun t96 =>
  bV t96
  (lenS x0 fun t98 =>
  qG Tryz.prog (bq .quo 3 (.const (.int .i64 8192)) (.tmp 98) (.int .i64 8192) t98) w fun t99 =>
  lenS x0 fun t101 =>
  qG Tryz.prog (bq .mul 3 (.tmp 99) (.tmp 101) t99 t101) w fun t102 =>
  qG Tryz.prog (bq .eql 3 (.tmp 103) (.const (.int .i64 0)) t102 (.int .i64 0)) w fun t104 =>
  bV t104
  (lenS x0 fun t106 =>
  strings_Repeat_s3 R x0 x7 t106 w)
  (strings_Repeat_s3 R x0 x7 t102 w))
  (strings_Repeat_s3 R x0 x7 x7 w)
theorem strings_Repeat_s4_eq (R : Value → World → Prop) : ∀ e w, lift Tryz.prog 125 (sub (bodyOf Tryz.f46) [1, 1, 1, 1, 1, 1, 1, 1]) (finK Tryz.prog Tryz.f46.results.toList R) e w = strings_Repeat_s4 R (e 0) (e 7) w :=
  segs_eq (l := [(sub (bodyOf Tryz.f46) [1, 1, 1, 1, 1, 1, 1, 1, 0]), (sub (bodyOf Tryz.f46) [1, 1, 1, 1, 1, 1, 1, 1, 1, 0])]) (y := (sub (bodyOf Tryz.f46) [1, 1, 1, 1, 1, 1, 1, 1, 1, 1])) (Y := (fun e w => strings_Repeat_s3 R (e 0) (e 7) (e 8) w)) (strings_Repeat_s3_eq R) (fun e w => by kernel_rfl)
def strings_Repeat_s5 (R : Value → World → Prop) (x7 : Value) (w : World) : Prop :=
  slS (.string ⟨#[32, 32, 32, 32, 32, 32, 32, 32, 32, 32, 32, 32, 32, 32, 32, 32, 32, 32, 32, 32, 32, 32, 32, 32, 32, 32, 32, 32, 32, 32, 32, 32, 32, 32, 32, 32, 32, 32, 32, 32, 32, 32, 32, 32, 32, 32, 32, 32, 32, 32, 32, 32, 32, 32, 32, 32, 32, 32, 32, 32, 32, 32, 32, 32, 32, 32, 32, 32, 32, 32, 32, 32, 32, 32, 32, 32, 32, 32, 32, 32, 32, 32, 32, 32, 32, 32, 32, 32, 32, 32, 32, 32, 32, 32, 32, 32, 32, 32, 32, 32, 32, 32, 32, 32, 32, 32, 32, 32, 32, 32, 32, 32, 32, 32, 32, 32, 32, 32, 32, 32, 32, 32, 32, 32, 32, 32, 32, 32]⟩) none (some x7) fun t57 =>
  R t57 w
theorem strings_Repeat_s5_eq (R : Value → World → Prop) : ∀ e w, lift Tryz.prog 125 (sub (bodyOf Tryz.f46) [1, 1, 1, 1, 1, 1, 1, 0, 1, 0, 1, 0, 0, 1, 0]) (blockK 2 (blockK 1 (seqK (fun e w => strings_Repeat_s4 R (e 0) (e 7) w) (finK Tryz.prog Tryz.f46.results.toList R)))) e w = strings_Repeat_s5 R (e 7) w := fun e w => by kernel_rfl
def strings_Repeat_s6 (R : Value → World → Prop) (x7 : Value) (w : World) : Prop :=
  slS (.string ⟨#[45, 45, 45, 45, 45, 45, 45, 45, 45, 45, 45, 45, 45, 45, 45, 45, 45, 45, 45, 45, 45, 45, 45, 45, 45, 45, 45, 45, 45, 45, 45, 45, 45, 45, 45, 45, 45, 45, 45, 45, 45, 45, 45, 45, 45, 45, 45, 45, 45, 45, 45, 45, 45, 45, 45, 45, 45, 45, 45, 45, 45, 45, 45, 45, 45, 45, 45, 45, 45, 45, 45, 45, 45, 45, 45, 45, 45, 45, 45, 45, 45, 45, 45, 45, 45, 45, 45, 45, 45, 45, 45, 45, 45, 45, 45, 45, 45, 45, 45, 45, 45, 45, 45, 45, 45, 45, 45, 45, 45, 45, 45, 45, 45, 45, 45, 45, 45, 45, 45, 45, 45, 45, 45, 45, 45, 45, 45, 45]⟩) none (some x7) fun t66 =>
  R t66 w
theorem strings_Repeat_s6_eq (R : Value → World → Prop) : ∀ e w, lift Tryz.prog 125 (sub (bodyOf Tryz.f46) [1, 1, 1, 1, 1, 1, 1, 0, 1, 0, 1, 0, 0, 1, 1, 1, 0]) (blockK 2 (blockK 1 (seqK (fun e w => strings_Repeat_s4 R (e 0) (e 7) w) (finK Tryz.prog Tryz.f46.results.toList R)))) e w = strings_Repeat_s6 R (e 7) w := fun e w => by kernel_rfl
def strings_Repeat_s7 (R : Value → World → Prop) (x7 : Value) (w : World) : Prop :=
  slS (.string ⟨#[48, 48, 48, 48, 48, 48, 48, 48, 48, 48, 48, 48, 48, 48, 48, 48, 48, 48, 48, 48, 48, 48, 48, 48, 48, 48, 48, 48, 48, 48, 48, 48, 48, 48, 48, 48, 48, 48, 48, 48, 48, 48, 48, 48, 48, 48, 48, 48, 48, 48, 48, 48, 48, 48, 48, 48, 48, 48, 48, 48, 48, 48, 48, 48]⟩) none (some x7) fun t75 =>
  R t75 w
theorem strings_Repeat_s7_eq (R : Value → World → Prop) : ∀ e w, lift Tryz.prog 125 (sub (bodyOf Tryz.f46) [1, 1, 1, 1, 1, 1, 1, 0, 1, 0, 1, 0, 0, 1, 1, 1, 1, 1, 0]) (blockK 2 (blockK 1 (seqK (fun e w => strings_Repeat_s4 R (e 0) (e 7) w) (finK Tryz.prog Tryz.f46.results.toList R)))) e w = strings_Repeat_s7 R (e 7) w := fun e w => by kernel_rfl
def strings_Repeat_s8 (R : Value → World → Prop) (x0 x7 x76 : Value) (w : World) : Prop :=
  bV x76
  (slS (.string ⟨#[61, 61, 61, 61, 61, 61, 61, 61, 61, 61, 61, 61, 61, 61, 61, 61, 61, 61, 61, 61, 61, 61, 61, 61, 61, 61, 61, 61, 61, 61, 61, 61, 61, 61, 61, 61, 61, 61, 61, 61, 61, 61, 61, 61, 61, 61, 61, 61, 61, 61, 61, 61, 61, 61, 61, 61, 61, 61, 61, 61, 61, 61, 61, 61, 61, 61, 61, 61, 61, 61, 61, 61, 61, 61, 61, 61, 61, 61, 61, 61, 61, 61, 61, 61, 61, 61, 61, 61, 61, 61, 61, 61, 61, 61, 61, 61, 61, 61, 61, 61, 61, 61, 61, 61, 61, 61, 61, 61, 61, 61, 61, 61, 61, 61, 61, 61, 61, 61, 61, 61, 61, 61, 61, 61, 61, 61, 61, 61]⟩) none (some x7) fun t84 =>
  R t84 w)
  (qG Tryz.prog (bq .leq 3 (.tmp 86) (.const (.int .i64 64)) x7 (.int .i64 64)) w fun t87 =>
  bV t87
  (callG Tryz.prog 52 #[(.string ⟨#[9, 9, 9, 9, 9, 9, 9, 9, 9, 9, 9, 9, 9, 9, 9, 9, 9, 9, 9, 9, 9, 9, 9, 9, 9, 9, 9, 9, 9, 9, 9, 9, 9, 9, 9, 9, 9, 9, 9, 9, 9, 9, 9, 9, 9, 9, 9, 9, 9, 9, 9, 9, 9, 9, 9, 9, 9, 9, 9, 9, 9, 9, 9, 9]⟩), x0] w fun t90 w =>
  bV t90
  (slS (.string ⟨#[9, 9, 9, 9, 9, 9, 9, 9, 9, 9, 9, 9, 9, 9, 9, 9, 9, 9, 9, 9, 9, 9, 9, 9, 9, 9, 9, 9, 9, 9, 9, 9, 9, 9, 9, 9, 9, 9, 9, 9, 9, 9, 9, 9, 9, 9, 9, 9, 9, 9, 9, 9, 9, 9, 9, 9, 9, 9, 9, 9, 9, 9, 9, 9]⟩) none (some x7) fun t93 =>
  R t93 w)
  (strings_Repeat_s4 R x0 x7 w))
  (strings_Repeat_s4 R x0 x7 w))
theorem strings_Repeat_s8_eq (R : Value → World → Prop) : ∀ e w, lift Tryz.prog 125 (sub (bodyOf Tryz.f46) [1, 1, 1, 1, 1, 1, 1, 0, 1, 0, 1, 0, 0, 1, 1, 1, 1, 1, 1, 1]) (blockK 2 (blockK 1 (seqK (fun e w => strings_Repeat_s4 R (e 0) (e 7) w) (finK Tryz.prog Tryz.f46.results.toList R)))) e w = strings_Repeat_s8 R (e 0) (e 7) (e 76) w := fun e w => by kernel_rfl
def strings_Repeat_s9 (R : Value → World → Prop) (x0 x7 : Value) (w : World) : Prop :=
  qG Tryz.prog (bq .leq 3 (.tmp 77) (.const (.int .i64 128)) x7 (.int .i64 128)) w fun t78 =>
  bV t78
  (callG Tryz.prog 52 #[(.string ⟨#[61, 61, 61, 61, 61, 61, 61, 61, 61, 61, 61, 61, 61, 61, 61, 61, 61, 61, 61, 61, 61, 61, 61, 61, 61, 61, 61, 61, 61, 61, 61, 61, 61, 61, 61, 61, 61, 61, 61, 61, 61, 61, 61, 61, 61, 61, 61, 61, 61, 61, 61, 61, 61, 61, 61, 61, 61, 61, 61, 61, 61, 61, 61, 61, 61, 61, 61, 61, 61, 61, 61, 61, 61, 61, 61, 61, 61, 61, 61, 61, 61, 61, 61, 61, 61, 61, 61, 61, 61, 61, 61, 61, 61, 61, 61, 61, 61, 61, 61, 61, 61, 61, 61, 61, 61, 61, 61, 61, 61, 61, 61, 61, 61, 61, 61, 61, 61, 61, 61, 61, 61, 61, 61, 61, 61, 61, 61, 61]⟩), x0] w fun t81 w =>
  strings_Repeat_s8 R x0 x7 t81 w)
  (strings_Repeat_s8 R x0 x7 (.bool false) w)
theorem strings_Repeat_s9_eq (R : Value → World → Prop) : ∀ e w, lift Tryz.prog 125 (sub (bodyOf Tryz.f46) [1, 1, 1, 1, 1, 1, 1, 0, 1, 0, 1, 0, 0, 1, 1, 1, 1, 1, 1]) (blockK 2 (blockK 1 (seqK (fun e w => strings_Repeat_s4 R (e 0) (e 7) w) (finK Tryz.prog Tryz.f46.results.toList R)))) e w = strings_Repeat_s9 R (e 0) (e 7) w :=
  segs_eq (l := [(sub (bodyOf Tryz.f46) [1, 1, 1, 1, 1, 1, 1, 0, 1, 0, 1, 0, 0, 1, 1, 1, 1, 1, 1, 0])]) (y := (sub (bodyOf Tryz.f46) [1, 1, 1, 1, 1, 1, 1, 0, 1, 0, 1, 0, 0, 1, 1, 1, 1, 1, 1, 1])) (Y := (fun e w => strings_Repeat_s8 R (e 0) (e 7) (e 76) w)) (strings_Repeat_s8_eq R) (fun e w => by kernel_rfl)
def strings_Repeat_s10 (R : Value → World → Prop) (x0 x7 x67 : Value) (w : World) : Prop :=
  bV x67 (strings_Repeat_s7 R x7 w) (strings_Repeat_s9 R x0 x7 w)
theorem strings_Repeat_s10_eq (R : Value → World → Prop) : ∀ e w, lift Tryz.prog 125 (sub (bodyOf Tryz.f46) [1, 1, 1, 1, 1, 1, 1, 0, 1, 0, 1, 0, 0, 1, 1, 1, 1, 1]) (blockK 2 (blockK 1 (seqK (fun e w => strings_Repeat_s4 R (e 0) (e 7) w) (finK Tryz.prog Tryz.f46.results.toList R)))) e w = strings_Repeat_s10 R (e 0) (e 7) (e 67) w := fun e w => (cond_seg (x := (sub (bodyOf Tryz.f46) [1, 1, 1, 1, 1, 1, 1, 0, 1, 0, 1, 0, 0, 1, 1, 1, 1, 1, 0])) (y := (sub (bodyOf Tryz.f46) [1, 1, 1, 1, 1, 1, 1, 0, 1, 0, 1, 0, 0, 1, 1, 1, 1, 1, 1])) (strings_Repeat_s7_eq R) (strings_Repeat_s9_eq R) e w).trans (by kernel_rfl)
def strings_Repeat_s11 (R : Value → World → Prop) (x0 x7 : Value) (w : World) : Prop :=
  qG Tryz.prog (bq .leq 3 (.tmp 68) (.const (.int .i64 64)) x7 (.int .i64 64)) w fun t69 =>
  bV t69
  (callG Tryz.prog 52 #[(.string ⟨#[48, 48, 48, 48, 48, 48, 48, 48, 48, 48, 48, 48, 48, 48, 48, 48, 48, 48, 48, 48, 48, 48, 48, 48, 48, 48, 48, 48, 48, 48, 48, 48, 48, 48, 48, 48, 48, 48, 48, 48, 48, 48, 48, 48, 48, 48, 48, 48, 48, 48, 48, 48, 48, 48, 48, 48, 48, 48, 48, 48, 48, 48, 48, 48]⟩), x0] w fun t72 w =>
  strings_Repeat_s10 R x0 x7 t72 w)
  (strings_Repeat_s10 R x0 x7 (.bool false) w)
theorem strings_Repeat_s11_eq (R : Value → World → Prop) : ∀ e w, lift Tryz.prog 125 (sub (bodyOf Tryz.f46) [1, 1, 1, 1, 1, 1, 1, 0, 1, 0, 1, 0, 0, 1, 1, 1, 1]) (blockK 2 (blockK 1 (seqK (fun e w => strings_Repeat_s4 R (e 0) (e 7) w) (finK Tryz.prog Tryz.f46.results.toList R)))) e w = strings_Repeat_s11 R (e 0) (e 7) w :=
  segs_eq (l := [(sub (bodyOf Tryz.f46) [1, 1, 1, 1, 1, 1, 1, 0, 1, 0, 1, 0, 0, 1, 1, 1, 1, 0])]) (y := (sub (bodyOf Tryz.f46) [1, 1, 1, 1, 1, 1, 1, 0, 1, 0, 1, 0, 0, 1, 1, 1, 1, 1])) (Y := (fun e w => strings_Repeat_s10 R (e 0) (e 7) (e 67) w)) (strings_Repeat_s10_eq R) (fun e w => by kernel_rfl)
def strings_Repeat_s12 (R : Value → World → Prop) (x0 x7 x58 : Value) (w : World) : Prop :=
  bV x58 (strings_Repeat_s6 R x7 w) (strings_Repeat_s11 R x0 x7 w)
theorem strings_Repeat_s12_eq (R : Value → World → Prop) : ∀ e w, lift Tryz.prog 125 (sub (bodyOf Tryz.f46) [1, 1, 1, 1, 1, 1, 1, 0, 1, 0, 1, 0, 0, 1, 1, 1]) (blockK 2 (blockK 1 (seqK (fun e w => strings_Repeat_s4 R (e 0) (e 7) w) (finK Tryz.prog Tryz.f46.results.toList R)))) e w = strings_Repeat_s12 R (e 0) (e 7) (e 58) w := fun e w => (cond_seg (x := (sub (bodyOf Tryz.f46) [1, 1, 1, 1, 1, 1, 1, 0, 1, 0, 1, 0, 0, 1, 1, 1, 0])) (y := (sub (bodyOf Tryz.f46) [1, 1, 1, 1, 1, 1, 1, 0, 1, 0, 1, 0, 0, 1, 1, 1, 1])) (strings_Repeat_s6_eq R) (strings_Repeat_s11_eq R) e w).trans (by kernel_rfl)
def strings_Repeat_s13 (R : Value → World → Prop) (x0 x7 : Value) (w : World) : Prop :=
  qG Tryz.prog (bq .leq 3 (.tmp 59) (.const (.int .i64 128)) x7 (.int .i64 128)) w fun t60 =>
  bV t60
  (callG Tryz.prog 52 #[(.string ⟨#[45, 45, 45, 45, 45, 45, 45, 45, 45, 45, 45, 45, 45, 45, 45, 45, 45, 45, 45, 45, 45, 45, 45, 45, 45, 45, 45, 45, 45, 45, 45, 45, 45, 45, 45, 45, 45, 45, 45, 45, 45, 45, 45, 45, 45, 45, 45, 45, 45, 45, 45, 45, 45, 45, 45, 45, 45, 45, 45, 45, 45, 45, 45, 45, 45, 45, 45, 45, 45, 45, 45, 45, 45, 45, 45, 45, 45, 45, 45, 45, 45, 45, 45, 45, 45, 45, 45, 45, 45, 45, 45, 45, 45, 45, 45, 45, 45, 45, 45, 45, 45, 45, 45, 45, 45, 45, 45, 45, 45, 45, 45, 45, 45, 45, 45, 45, 45, 45, 45, 45, 45, 45, 45, 45, 45, 45, 45, 45]⟩), x0] w fun t63 w =>
  strings_Repeat_s12 R x0 x7 t63 w)
  (strings_Repeat_s12 R x0 x7 (.bool false) w)
theorem strings_Repeat_s13_eq (R : Value → World → Prop) : ∀ e w, lift Tryz.prog 125 (sub (bodyOf Tryz.f46) [1, 1, 1, 1, 1, 1, 1, 0, 1, 0, 1, 0, 0, 1, 1]) (blockK 2 (blockK 1 (seqK (fun e w => strings_Repeat_s4 R (e 0) (e 7) w) (finK Tryz.prog Tryz.f46.results.toList R)))) e w = strings_Repeat_s13 R (e 0) (e 7) w :=
  segs_eq (l := [(sub (bodyOf Tryz.f46) [1, 1, 1, 1, 1, 1, 1, 0, 1, 0, 1, 0, 0, 1, 1, 0])]) (y := (sub (bodyOf Tryz.f46) [1, 1, 1, 1, 1, 1, 1, 0, 1, 0, 1, 0, 0, 1, 1, 1])) (Y := (fun e w => strings_Repeat_s12 R (e 0) (e 7) (e 58) w)) (strings_Repeat_s12_eq R) (fun e w => by kernel_rfl)
def strings_Repeat_s14 (R : Value → World → Prop) (x0 x7 x49 : Value) (w : World) : Prop :=
  bV x49 (strings_Repeat_s5 R x7 w) (strings_Repeat_s13 R x0 x7 w)
theorem strings_Repeat_s14_eq (R : Value → World → Prop) : ∀ e w, lift Tryz.prog 125 (sub (bodyOf Tryz.f46) [1, 1, 1, 1, 1, 1, 1, 0, 1, 0, 1, 0, 0, 1]) (blockK 2 (blockK 1 (seqK (fun e w => strings_Repeat_s4 R (e 0) (e 7) w) (finK Tryz.prog Tryz.f46.results.toList R)))) e w = strings_Repeat_s14 R (e 0) (e 7) (e 49) w := fun e w => (cond_seg (x := (sub (bodyOf Tryz.f46) [1, 1, 1, 1, 1, 1, 1, 0, 1, 0, 1, 0, 0, 1, 0])) (y := (sub (bodyOf Tryz.f46) [1, 1, 1, 1, 1, 1, 1, 0, 1, 0, 1, 0, 0, 1, 1])) (strings_Repeat_s5_eq R) (strings_Repeat_s13_eq R) e w).trans (by kernel_rfl)
def strings_Repeat_s15 (R : Value → World → Prop) (x0 x7 : Value) (w : World) : Prop :=
  qG Tryz.prog (bq .leq 3 (.tmp 50) (.const (.int .i64 128)) x7 (.int .i64 128)) w fun t51 =>
  bV t51
  (callG Tryz.prog 52 #[(.string ⟨#[32, 32, 32, 32, 32, 32, 32, 32, 32, 32, 32, 32, 32, 32, 32, 32, 32, 32, 32, 32, 32, 32, 32, 32, 32, 32, 32, 32, 32, 32, 32, 32, 32, 32, 32, 32, 32, 32, 32, 32, 32, 32, 32, 32, 32, 32, 32, 32, 32, 32, 32, 32, 32, 32, 32, 32, 32, 32, 32, 32, 32, 32, 32, 32, 32, 32, 32, 32, 32, 32, 32, 32, 32, 32, 32, 32, 32, 32, 32, 32, 32, 32, 32, 32, 32, 32, 32, 32, 32, 32, 32, 32, 32, 32, 32, 32, 32, 32, 32, 32, 32, 32, 32, 32, 32, 32, 32, 32, 32, 32, 32, 32, 32, 32, 32, 32, 32, 32, 32, 32, 32, 32, 32, 32, 32, 32, 32, 32]⟩), x0] w fun t54 w =>
  strings_Repeat_s14 R x0 x7 t54 w)
  (strings_Repeat_s14 R x0 x7 (.bool false) w)
theorem strings_Repeat_s15_eq (R : Value → World → Prop) : ∀ e w, lift Tryz.prog 125 (sub (bodyOf Tryz.f46) [1, 1, 1, 1, 1, 1, 1, 0, 1, 0, 1, 0, 0]) (blockK 2 (blockK 1 (seqK (fun e w => strings_Repeat_s4 R (e 0) (e 7) w) (finK Tryz.prog Tryz.f46.results.toList R)))) e w = strings_Repeat_s15 R (e 0) (e 7) w :=
  segs_eq (l := [(sub (bodyOf Tryz.f46) [1, 1, 1, 1, 1, 1, 1, 0, 1, 0, 1, 0, 0, 0])]) (y := (sub (bodyOf Tryz.f46) [1, 1, 1, 1, 1, 1, 1, 0, 1, 0, 1, 0, 0, 1])) (Y := (fun e w => strings_Repeat_s14 R (e 0) (e 7) (e 49) w)) (strings_Repeat_s14_eq R) (fun e w => by kernel_rfl)
def strings_Repeat_s16 (R : Value → World → Prop) (x0 x7 : Value) (w : World) : Prop :=
  strings_Repeat_s4 R x0 x7 w
theorem strings_Repeat_s16_eq (R : Value → World → Prop) : ∀ e w, lift Tryz.prog 125 (sub (bodyOf Tryz.f46) [1, 1, 1, 1, 1, 1, 1, 0, 1, 0, 1, 1]) (blockK 1 (seqK (fun e w => strings_Repeat_s4 R (e 0) (e 7) w) (finK Tryz.prog Tryz.f46.results.toList R))) e w = strings_Repeat_s16 R (e 0) (e 7) w := fun e w => by kernel_rfl
def strings_Repeat_s17 (R : Value → World → Prop) (x0 x7 x43 : Value) (w : World) : Prop :=
  bV x43 (strings_Repeat_s15 R x0 x7 w) (strings_Repeat_s16 R x0 x7 w)
theorem strings_Repeat_s17_eq (R : Value → World → Prop) : ∀ e w, lift Tryz.prog 125 (sub (bodyOf Tryz.f46) [1, 1, 1, 1, 1, 1, 1, 0, 1, 0, 1]) (blockK 1 (seqK (fun e w => strings_Repeat_s4 R (e 0) (e 7) w) (finK Tryz.prog Tryz.f46.results.toList R))) e w = strings_Repeat_s17 R (e 0) (e 7) (e 43) w := fun e w => (cond_seg (x := (sub (bodyOf Tryz.f46) [1, 1, 1, 1, 1, 1, 1, 0, 1, 0, 1, 0])) (y := (sub (bodyOf Tryz.f46) [1, 1, 1, 1, 1, 1, 1, 0, 1, 0, 1, 1])) (strings_Repeat_s15_eq R) (strings_Repeat_s16_eq R) e w).trans (by kernel_rfl)
def strings_Repeat_s18 (R : Value → World → Prop) (x0 x7 x42 : Value) (w : World) : Prop :=
  qG Tryz.prog (bq .eql 5 (.tmp 42) (.const (.int .u8 32)) x42 (.int .u8 32)) w fun t44 =>
  bV t44
  (strings_Repeat_s17 R x0 x7 (.bool true) w)
  (qG Tryz.prog (bq .eql 5 (.tmp 42) (.const (.int .u8 45)) x42 (.int .u8 45)) w fun t45 =>
  bV t45
  (strings_Repeat_s17 R x0 x7 (.bool true) w)
  (qG Tryz.prog (bq .eql 5 (.tmp 42) (.const (.int .u8 48)) x42 (.int .u8 48)) w fun t46 =>
  bV t46
  (strings_Repeat_s17 R x0 x7 (.bool true) w)
  (qG Tryz.prog (bq .eql 5 (.tmp 42) (.const (.int .u8 61)) x42 (.int .u8 61)) w fun t47 =>
  bV t47
  (strings_Repeat_s17 R x0 x7 (.bool true) w)
  (qG Tryz.prog (bq .eql 5 (.tmp 42) (.const (.int .u8 9)) x42 (.int .u8 9)) w fun t48 =>
  strings_Repeat_s17 R x0 x7 t48 w))))
theorem strings_Repeat_s18_eq (R : Value → World → Prop) : ∀ e w, lift Tryz.prog 125 (sub (bodyOf Tryz.f46) [1, 1, 1, 1, 1, 1, 1, 0, 1, 0]) (blockK 1 (seqK (fun e w => strings_Repeat_s4 R (e 0) (e 7) w) (finK Tryz.prog Tryz.f46.results.toList R))) e w = strings_Repeat_s18 R (e 0) (e 7) (e 42) w :=
  segs_eq (l := [(sub (bodyOf Tryz.f46) [1, 1, 1, 1, 1, 1, 1, 0, 1, 0, 0])]) (y := (sub (bodyOf Tryz.f46) [1, 1, 1, 1, 1, 1, 1, 0, 1, 0, 1])) (Y := (fun e w => strings_Repeat_s17 R (e 0) (e 7) (e 43) w)) (strings_Repeat_s17_eq R) (fun e w => by kernel_rfl)
def strings_Repeat_s19 (R : Value → World → Prop) (x0 x7 : Value) (w : World) : Prop :=
  ixS x0 (.int .i64 0) fun t42 =>
  strings_Repeat_s18 R x0 x7 t42 w
theorem strings_Repeat_s19_eq (R : Value → World → Prop) : ∀ e w, lift Tryz.prog 125 (sub (bodyOf Tryz.f46) [1, 1, 1, 1, 1, 1, 1, 0]) (seqK (fun e w => strings_Repeat_s4 R (e 0) (e 7) w) (finK Tryz.prog Tryz.f46.results.toList R)) e w = strings_Repeat_s19 R (e 0) (e 7) w :=
  segs_eq (l := [(sub (bodyOf Tryz.f46) [1, 1, 1, 1, 1, 1, 1, 0, 0])]) (y := (sub (bodyOf Tryz.f46) [1, 1, 1, 1, 1, 1, 1, 0, 1])) (Y := (fun e w => strings_Repeat_s18 R (e 0) (e 7) (e 42) w)) (strings_Repeat_s18_eq R) (fun e w => by kernel_rfl)
def strings_Repeat_s20 (R : Value → World → Prop) (x0 x6 : Value) (w : World) : Prop :=
  cvI .i64 x6 fun t37 =>
  lenS x0 fun t39 =>
  qG Tryz.prog (bq .eql 3 (.tmp 39) (.const (.int .i64 0)) t39 (.int .i64 0)) w fun t40 =>
  bV t40
  (R (.string ⟨#[]⟩) w)
  (strings_Repeat_s19 R x0 t37 w)
theorem strings_Repeat_s20_eq (R : Value → World → Prop) : ∀ e w, lift Tryz.prog 125 (sub (bodyOf Tryz.f46) [1, 1, 1, 1, 1]) (finK Tryz.prog Tryz.f46.results.toList R) e w = strings_Repeat_s20 R (e 0) (e 6) w :=
  segs_eq (l := [(sub (bodyOf Tryz.f46) [1, 1, 1, 1, 1, 0]), (sub (bodyOf Tryz.f46) [1, 1, 1, 1, 1, 1, 0])]) (y := (sub (bodyOf Tryz.f46) [1, 1, 1, 1, 1, 1, 1])) (Y := (fun e w => strings_Repeat_s19 R (e 0) (e 7) w)) (seq_seg (x := (sub (bodyOf Tryz.f46) [1, 1, 1, 1, 1, 1, 1, 0])) (y := (sub (bodyOf Tryz.f46) [1, 1, 1, 1, 1, 1, 1, 1])) (strings_Repeat_s4_eq R) (strings_Repeat_s19_eq R)) (fun e w => by kernel_rfl)
def strings_Repeat_s21 (R : Value → World → Prop) (x0 x1 : Value) (w : World) : Prop :=
  lenS x0 fun t22 =>
  cvI .u64 t22 fun t23 =>
  cvI .u64 x1 fun t25 =>
  callG Tryz.prog 70 #[t23, t25] w fun t26 w =>
  qG Tryz.prog (Instr.extract t26 0) w fun t27 =>
  qG Tryz.prog (Instr.extract t26 1) w fun t28 =>
  qG Tryz.prog (bq .gtr 63 (.tmp 29) (.const (.int .u64 0)) t27 (.int .u64 0)) w fun t30 =>
  bV t30
  (qG Tryz.prog (Instr.makeInterface 9 (.string ⟨#[115, 116, 114, 105, 110, 103, 115, 58, 32, 82, 101, 112, 101, 97, 116, 32, 111, 117, 116, 112, 117, 116, 32, 108, 101, 110, 103, 116, 104, 32, 111, 118, 101, 114, 102, 108, 111, 119]⟩)) w fun t35 =>
  False)
  (qG Tryz.prog (bq .gtr 63 (.tmp 32) (.const (.int .u64 9223372036854775807)) t28 (.int .u64 9223372036854775807)) w fun t33 =>
  bV t33
  (qG Tryz.prog (Instr.makeInterface 9 (.string ⟨#[115, 116, 114, 105, 110, 103, 115, 58, 32, 82, 101, 112, 101, 97, 116, 32, 111, 117, 116, 112, 117, 116, 32, 108, 101, 110, 103, 116, 104, 32, 111, 118, 101, 114, 102, 108, 111, 119]⟩)) w fun t35_1 =>
  False)
  (strings_Repeat_s20 R x0 t28 w))
theorem strings_Repeat_s21_eq (R : Value → World → Prop) : ∀ e w, lift Tryz.prog 125 (sub (bodyOf Tryz.f46) [1, 1, 1]) (finK Tryz.prog Tryz.f46.results.toList R) e w = strings_Repeat_s21 R (e 0) (e 1) w :=
  segs_eq (l := [(sub (bodyOf Tryz.f46) [1, 1, 1, 0]), (sub (bodyOf Tryz.f46) [1, 1, 1, 1, 0])]) (y := (sub (bodyOf Tryz.f46) [1, 1, 1, 1, 1])) (Y := (fun e w => strings_Repeat_s20 R (e 0) (e 6) w)) (strings_Repeat_s20_eq R) (fun e w => by kernel_rfl)
def strings_Repeat_s22 (R : Value → World → Prop) (x0 x1 : Value) (w : World) : Prop :=
  qG Tryz.prog (bq .eql 3 (.tmp 11) (.const (.int .i64 0)) x1 (.int .i64 0)) w fun t13 =>
  bV t13
  (R (.string ⟨#[]⟩) w)
  (qG Tryz.prog (bq .eql 3 (.tmp 11) (.const (.int .i64 1)) x1 (.int .i64 1)) w fun t15 =>
  bV t15
  (R x0 w)
  (qG Tryz.prog (bq .lss 3 (.tmp 17) (.const (.int .i64 0)) x1 (.int .i64 0)) w fun t18 =>
  bV t18
  (qG Tryz.prog (Instr.makeInterface 9 (.string ⟨#[115, 116, 114, 105, 110, 103, 115, 58, 32, 110, 101, 103, 97, 116, 105, 118, 101, 32, 82, 101, 112, 101, 97, 116, 32, 99, 111, 117, 110, 116]⟩)) w fun t19 =>
  False)
  (strings_Repeat_s21 R x0 x1 w)))
theorem strings_Repeat_s22_eq (R : Value → World → Prop) : ∀ e w, lift Tryz.prog 125 (bodyOf Tryz.f46) (finK Tryz.prog Tryz.f46.results.toList R) e w = strings_Repeat_s22 R (e 0) (e 1) w :=
  segs_eq (l := [(sub (bodyOf Tryz.f46) [0]), (sub (bodyOf Tryz.f46) [1, 0]), (sub (bodyOf Tryz.f46) [1, 1, 0])]) (y := (sub (bodyOf Tryz.f46) [1, 1, 1])) (Y := (fun e w => strings_Repeat_s21 R (e 0) (e 1) w)) (strings_Repeat_s21_eq R) (fun e w => by kernel_rfl)
def strings_Repeat (R : Value → World → Prop) (x0 x1 : Value) (w : World) : Prop := strings_Repeat_s22 R x0 x1 w
theorem strings_Repeat_call {R : Value → World → Prop} {x0 x1 : Value} {w : World} (h : strings_Repeat R x0 x1 w) : callG Tryz.prog 46 #[x0, x1] w R :=
  calls_lift_eq Tryz.mixed Tryz.func46 (args := [x0, x1]) rfl rfl rfl rfl ((strings_Repeat_s22_eq R) (envOf [x0, x1]) w) (by kernel_rfl) h
end Go.Proofs

set_option linter.unusedVariables false
set_option linter.unusedSimpArgs false
namespace Go.Proofs
open Go Go.Q
set_option maxRecDepth 100000
/-! quayside/crc.More -/
def crc_More_s0 (R : Value → World → Prop) (x5 : Value) (w : World) : Prop :=
  qG Tryz.prog (Op.unary .xor x5) w fun t33 =>
  cvI .i64 t33 fun t34 =>
  R t34 w
theorem crc_More_s0_eq (R : Value → World → Prop) : ∀ e w, lift Tryz.prog 35 (sub (bodyOf Tryz.f69) [1, 1, 1]) (finK Tryz.prog Tryz.f69.results.toList R) e w = crc_More_s0 R (e 5) w := fun e w => by kernel_rfl
def crc_More_s1 (R : Value → World → Prop) (N1 : List Value → World → Prop) (x1 x5 x11 x12 : Value) (w : World) : Prop :=
  qG Tryz.prog (bq .add 3 (.tmp 12) (.const (.int .i64 1)) x12 (.int .i64 1)) w fun t31 =>
  N1 [x1, x5, x11, t31] w
theorem crc_More_s1_eq (R : Value → World → Prop) (N1 : List Value → World → Prop) : ∀ e w, lift Tryz.prog 35 (sub (bodyOf Tryz.f69) [1, 1, 0, 1, 0, 0, 1, 1, 1]) (seqK (fun e w => N1 [e 1, e 5, e 11, e 12] w) (blockK 0 (seqK (fun e w => crc_More_s0 R (e 5) w) (finK Tryz.prog Tryz.f69.results.toList R)))) e w = crc_More_s1 R N1 (e 1) (e 5) (e 11) (e 12) w := fun e w => by kernel_rfl
def crc_More_b2 (R : Value → World → Prop) (N1 : List Value → World → Prop) (N2 : List Value → World → Prop) (x1 x5 x11 x12 x21 : Value) (w : World) : Prop :=
  qG Tryz.prog (bq .lss 3 (.tmp 21) (.const (.int .i64 8)) x21 (.int .i64 8)) w fun t22 =>
  bV t22
  (qG Tryz.prog (bq .shr 135 (.tmp 23) (.const (.int .u64 1)) x5 (.int .u64 1)) w fun t24 =>
  qG Tryz.prog (bq .and 135 (.tmp 25) (.const (.int .u32 1)) x5 (.int .u32 1)) w fun t26 =>
  qG Tryz.prog (Op.unary .neg t26) w fun t27 =>
  qG Tryz.prog (bq .and 135 (.const (.int .u32 3988292384)) (.tmp 27) (.int .u32 3988292384) t27) w fun t28 =>
  qG Tryz.prog (bq .xor 135 (.tmp 24) (.tmp 28) t24 t28) w fun t29 =>
  qG Tryz.prog (bq .add 3 (.tmp 21) (.const (.int .i64 1)) x21 (.int .i64 1)) w fun t30 =>
  N2 [x1, t29, x11, x12, t30] w)
  (crc_More_s1 R N1 x1 x5 x11 x12 w)
theorem crc_More_b2_eq (R : Value → World → Prop) (N1 : List Value → World → Prop) (N2 : List Value → World → Prop) : ∀ e w, lift Tryz.prog 35 (sub (bodyOf Tryz.f69) [1, 1, 0, 1, 0, 0, 1, 1, 0, 0, 1, 1, 1, 0, 0]) (seqK (fun e w => N2 [e 1, e 5, e 11, e 12, e 21] w) (blockK 2 (blockK 1 (seqK (fun e w => crc_More_s1 R N1 (e 1) (e 5) (e 11) (e 12) w) (seqK (fun e w => N1 [e 1, e 5, e 11, e 12] w) (blockK 0 (seqK (fun e w => crc_More_s0 R (e 5) w) (finK Tryz.prog Tryz.f69.results.toList R)))))))) e w = crc_More_b2 R N1 N2 (e 1) (e 5) (e 11) (e 12) (e 21) w := fun e w => by kernel_rfl
def crc_More_L3F (R : Value → World → Prop) (N1 : List Value → World → Prop) (N2 : List Value → World → Prop) (xs : List Value) (w : World) : Prop :=
  match xs with
  | [x1, x5, x11, x12, x21] => crc_More_b2 R N1 N2 x1 x5 x11 x12 x21 w
  | _ => False
def crc_More_L3 (R : Value → World → Prop) (N1 : List Value → World → Prop) (x1 x5 x11 x12 x21 : Value) (w : World) : Prop :=
  ∃ m, loopV (crc_More_L3F R N1) m [x1, x5, x11, x12, x21] w
theorem crc_More_L3_eq (R : Value → World → Prop) (N1 : List Value → World → Prop) : ∀ e w, lift Tryz.prog 35 (sub (bodyOf Tryz.f69) [1, 1, 0, 1, 0, 0, 1, 1, 0, 0, 1, 1, 1, 0]) (blockK 2 (blockK 1 (seqK (fun e w => crc_More_s1 R N1 (e 1) (e 5) (e 11) (e 12) w) (seqK (fun e w => N1 [e 1, e 5, e 11, e 12] w) (blockK 0 (seqK (fun e w => crc_More_s0 R (e 5) w) (finK Tryz.prog Tryz.f69.results.toList R))))))) e w = crc_More_L3 R N1 (e 1) (e 5) (e 11) (e 12) (e 21) w := loop_seg (F := crc_More_L3F R N1) (sel := fun e => [e 1, e 5, e 11, e 12, e 21]) fun N2 => (crc_More_b2_eq R N1 N2)
def crc_More_s4 (R : Value → World → Prop) (N1 : List Value → World → Prop) (x1 x5 x11 x12 : Value) (w : World) : Prop :=
  ixS x1 x12 fun t18 =>
  cvI .u32 t18 fun t19 =>
  qG Tryz.prog (bq .xor 135 (.tmp 15) (.tmp 19) x5 t19) w fun t20 =>
  crc_More_L3 R N1 x1 t20 x11 x12 (.int .i64 0) w
theorem crc_More_s4_eq (R : Value → World → Prop) (N1 : List Value → World → Prop) : ∀ e w, lift Tryz.prog 35 (sub (bodyOf Tryz.f69) [1, 1, 0, 1, 0, 0, 1, 1, 0, 0]) (blockK 1 (seqK (fun e w => crc_More_s1 R N1 (e 1) (e 5) (e 11) (e 12) w) (seqK (fun e w => N1 [e 1, e 5, e 11, e 12] w) (blockK 0 (seqK (fun e w => crc_More_s0 R (e 5) w) (finK Tryz.prog Tryz.f69.results.toList R)))))) e w = crc_More_s4 R N1 (e 1) (e 5) (e 11) (e 12) w :=
  segs_eq (l := [(sub (bodyOf Tryz.f69) [1, 1, 0, 1, 0, 0, 1, 1, 0, 0, 0]), (sub (bodyOf Tryz.f69) [1, 1, 0, 1, 0, 0, 1, 1, 0, 0, 1, 0]), (sub (bodyOf Tryz.f69) [1, 1, 0, 1, 0, 0, 1, 1, 0, 0, 1, 1, 0])]) (y := (sub (bodyOf Tryz.f69) [1, 1, 0, 1, 0, 0, 1, 1, 0, 0, 1, 1, 1])) (Y := (fun e w => crc_More_L3 R N1 (e 1) (e 5) (e 11) (e 12) (e 21) w)) (crc_More_L3_eq R N1) (fun e w => by kernel_rfl)
def crc_More_s5 (R : Value → World → Prop) (N1 : List Value → World → Prop) (x1 x5 x11 x12 : Value) (w : World) : Prop :=
  qG Tryz.prog (bq .lss 3 (.tmp 12) (.tmp 11) x12 x11) w fun t13 =>
  bV t13
  (crc_More_s4 R N1 x1 x5 x11 x12 w)
  (crc_More_s0 R x5 w)
theorem crc_More_s5_eq (R : Value → World → Prop) (N1 : List Value → World → Prop) : ∀ e w, lift Tryz.prog 35 (sub (bodyOf Tryz.f69) [1, 1, 0, 1, 0, 0]) (seqK (fun e w => N1 [e 1, e 5, e 11, e 12] w) (blockK 0 (seqK (fun e w => crc_More_s0 R (e 5) w) (finK Tryz.prog Tryz.f69.results.toList R)))) e w = crc_More_s5 R N1 (e 1) (e 5) (e 11) (e 12) w :=
  segs_eq (l := [(sub (bodyOf Tryz.f69) [1, 1, 0, 1, 0, 0, 0]), (sub (bodyOf Tryz.f69) [1, 1, 0, 1, 0, 0, 1, 0])]) (y := (sub (bodyOf Tryz.f69) [1, 1, 0, 1, 0, 0, 1, 1])) (Y := (fun e w => crc_More_s4 R N1 (e 1) (e 5) (e 11) (e 12) w)) (seq_seg (x := (sub (bodyOf Tryz.f69) [1, 1, 0, 1, 0, 0, 1, 1, 0])) (y := (sub (bodyOf Tryz.f69) [1, 1, 0, 1, 0, 0, 1, 1, 1])) (crc_More_s1_eq R N1) (crc_More_s4_eq R N1)) (fun e w => by kernel_rfl)
def crc_More_L6F (R : Value → World → Prop) (N1 : List Value → World → Prop) (xs : List Value) (w : World) : Prop :=
  match xs with
  | [x1, x5, x11, x12] => crc_More_s5 R N1 x1 x5 x11 x12 w
  | _ => False
def crc_More_L6 (R : Value → World → Prop) (x1 x5 x11 x12 : Value) (w : World) : Prop :=
  ∃ m, loopV (crc_More_L6F R) m [x1, x5, x11, x12] w
theorem crc_More_L6_eq (R : Value → World → Prop) : ∀ e w, lift Tryz.prog 35 (sub (bodyOf Tryz.f69) [1, 1, 0, 1, 0]) (blockK 0 (seqK (fun e w => crc_More_s0 R (e 5) w) (finK Tryz.prog Tryz.f69.results.toList R))) e w = crc_More_L6 R (e 1) (e 5) (e 11) (e 12) w := loop_seg (F := crc_More_L6F R) (sel := fun e => [e 1, e 5, e 11, e 12]) fun N1 => (crc_More_s5_eq R N1)
def crc_More_s7 (R : Value → World → Prop) (x1 x5 : Value) (w : World) : Prop :=
  lenS x1 fun t11 =>
  crc_More_L6 R x1 x5 t11 (.int .i64 0) w
theorem crc_More_s7_eq (R : Value → World → Prop) : ∀ e w, lift Tryz.prog 35 (sub (bodyOf Tryz.f69) [1, 1, 0]) (seqK (fun e w => crc_More_s0 R (e 5) w) (finK Tryz.prog Tryz.f69.results.toList R)) e w = crc_More_s7 R (e 1) (e 5) w :=
  segs_eq (l := [(sub (bodyOf Tryz.f69) [1, 1, 0, 0])]) (y := (sub (bodyOf Tryz.f69) [1, 1, 0, 1])) (Y := (fun e w => crc_More_L6 R (e 1) (e 5) (e 11) (e 12) w)) (crc_More_L6_eq R) (fun e w => by kernel_rfl)
def crc_More_s8 (R : Value → World → Prop) (x0 x1 : Value) (w : World) : Prop :=
  cvI .u32 x0 fun t8 =>
  qG Tryz.prog (Op.unary .xor t8) w fun t9 =>
  crc_More_s7 R x1 t9 w
theorem crc_More_s8_eq (R : Value → World → Prop) : ∀ e w, lift Tryz.prog 35 (bodyOf Tryz.f69) (finK Tryz.prog Tryz.f69.results.toList R) e w = crc_More_s8 R (e 0) (e 1) w :=
  segs_eq (l := [(sub (bodyOf Tryz.f69) [0]), (sub (bodyOf Tryz.f69) [1, 0])]) (y := (sub (bodyOf Tryz.f69) [1, 1])) (Y := (fun e w => crc_More_s7 R (e 1) (e 5) w)) (seq_seg (x := (sub (bodyOf Tryz.f69) [1, 1, 0])) (y := (sub (bodyOf Tryz.f69) [1, 1, 1])) (crc_More_s0_eq R) (crc_More_s7_eq R)) (fun e w => by kernel_rfl)
def crc_More (R : Value → World → Prop) (x0 x1 : Value) (w : World) : Prop := crc_More_s8 R x0 x1 w
theorem crc_More_call {R : Value → World → Prop} {x0 x1 : Value} {w : World} (h : crc_More R x0 x1 w) : callG Tryz.prog 69 #[x0, x1] w R :=
  calls_lift_eq Tryz.mixed Tryz.func69 (args := [x0, x1]) rfl rfl rfl rfl ((crc_More_s8_eq R) (envOf [x0, x1]) w) (by kernel_rfl) h
/-! quayside/crc.Sum -/
def crc_Sum_s0 (R : Value → World → Prop) (x0 : Value) (w : World) : Prop :=
  callG Tryz.prog 69 #[(.int .i64 0), x0] w fun t4 w =>
  R t4 w
theorem crc_Sum_s0_eq (R : Value → World → Prop) : ∀ e w, lift Tryz.prog 5 (bodyOf Tryz.f45) (finK Tryz.prog Tryz.f45.results.toList R) e w = crc_Sum_s0 R (e 0) w := fun e w => by kernel_rfl
def crc_Sum (R : Value → World → Prop) (x0 : Value) (w : World) : Prop := crc_Sum_s0 R x0 w
theorem crc_Sum_call {R : Value → World → Prop} {x0 : Value} {w : World} (h : crc_Sum R x0 w) : callG Tryz.prog 45 #[x0] w R :=
  calls_lift_eq Tryz.mixed Tryz.func45 (args := [x0]) rfl rfl rfl rfl ((crc_Sum_s0_eq R) (envOf [x0]) w) (by kernel_rfl) h
end Go.Proofs

/- Rules for the printed forms: bits, shifts, quotients. -/
set_option linter.unusedVariables false
set_option linter.unusedSimpArgs false
namespace Go.Q
variable {P : Program} {T : TypeId} {xo yo : Operand} {w : World} {K : Value → Prop} {u : Value}
theorem and_mask (x : Int) (m : Nat) (hm : m < 63) : IntKind.i64.wrap ((BitVec.ofInt 64 x &&& BitVec.ofInt 64 (2 ^ m - 1)).toNat : Int) = x % 2 ^ m := by
  have hp : (2 : Nat) ^ m ≤ 2 ^ 62 := Nat.pow_le_pow_right (by omega) (by omega)
  have hpos : 0 < (2 : Nat) ^ m := Nat.two_pow_pos m
  have h1 : (BitVec.ofInt 64 ((2 : Int) ^ m - 1)).toNat = 2 ^ m - 1 := by
    rw [BitVec.toNat_ofInt]
    have : ((2 : Int) ^ m - 1) = ((2 ^ m - 1 : Nat) : Int) := by
      rw [Int.ofNat_sub hpos]; simp
    rw [this]
    have hlt : 2 ^ m - 1 < 2 ^ 64 := by omega
    omega
  have h2 : ((BitVec.ofInt 64 x).toNat : Int) = x % 2 ^ 64 := by
    rw [BitVec.toNat_ofInt, Int.toNat_of_nonneg (Int.emod_nonneg _ (by decide))]
    rfl
  rw [BitVec.toNat_and, h1, Nat.and_two_pow_sub_one_eq_mod]
  have hd : ((2 : Int) ^ m) ∣ 2 ^ 64 := ⟨2 ^ (64 - m), by rw [← Int.pow_add, show m + (64 - m) = 64 by omega]⟩
  have h3 : (((BitVec.ofInt 64 x).toNat % 2 ^ m : Nat) : Int) = x % 2 ^ m := by
    rw [Int.natCast_emod, h2]
    have : ((2 ^ m : Nat) : Int) = (2 : Int) ^ m := by simp
    rw [this]
    exact Int.emod_emod_of_dvd x hd
  rw [h3]
  have hp' : (2 : Int) ^ m ≤ 2 ^ 62 := by
    have : ((2 ^ m : Nat) : Int) = (2 : Int) ^ m := by simp
    rw [← this]; omega
  have hpos' : (0 : Int) < 2 ^ m := Int.pow_pos (by omega)
  have := Int.emod_nonneg x (Int.ne_of_gt hpos')
  have := Int.emod_lt_of_pos x hpos'
  exact wrap64 _ (by omega) (by omega)
theorem run_and_mask {x c : Int} (m : Nat) (hm : m < 63) (hc : c = 2 ^ m - 1) : (bq .and T xo yo (.int .i64 x) (.int .i64 c)).run P w = .ok (.int .i64 (x % 2 ^ m)) w :=
  run_bq_int (s := .pure _) fun w => by
    have := and_mask x m hm
    rw [← hc] at this
    simp only [binOp, ne_eq, not_true_eq_false, if_false, Op.intBits]
    show Result.ok _ _ = Result.ok _ _
    congr 2
theorem and_of {x c : Int} (m : Nat) (hm : m < 63) (hc : c = 2 ^ m - 1) : qG P (bq .and T xo yo (.int .i64 x) (.int .i64 c)) w K = K (.int .i64 (x % 2 ^ m)) := qG_of (run_and_mask m hm hc)
theorem sand_of {x c : Int} (m : Nat) (hm : m < 63) (hc : c = 2 ^ m - 1) : stb P (bq .and T xo yo (.int .i64 x) (.int .i64 c)) u w = (.int .i64 (x % 2 ^ m) = u) := stb_of (run_and_mask m hm hc)
@[simp] theorem and1 {x : Int} : qG P (bq .and T xo yo (.int .i64 x) (.int .i64 1)) w K = K (.int .i64 (x % 2)) := and_of 1 (by omega) (by decide)
@[simp] theorem and7 {x : Int} : qG P (bq .and T xo yo (.int .i64 x) (.int .i64 7)) w K = K (.int .i64 (x % 8)) := and_of 3 (by omega) (by decide)
@[simp] theorem and15 {x : Int} : qG P (bq .and T xo yo (.int .i64 x) (.int .i64 15)) w K = K (.int .i64 (x % 16)) := and_of 4 (by omega) (by decide)
@[simp] theorem and127 {x : Int} : qG P (bq .and T xo yo (.int .i64 x) (.int .i64 127)) w K = K (.int .i64 (x % 128)) := and_of 7 (by omega) (by decide)
@[simp] theorem and255 {x : Int} : qG P (bq .and T xo yo (.int .i64 x) (.int .i64 255)) w K = K (.int .i64 (x % 256)) := and_of 8 (by omega) (by decide)
@[simp] theorem and511 {x : Int} : qG P (bq .and T xo yo (.int .i64 x) (.int .i64 511)) w K = K (.int .i64 (x % 512)) := and_of 9 (by omega) (by decide)
@[simp] theorem and65535 {x : Int} : qG P (bq .and T xo yo (.int .i64 x) (.int .i64 65535)) w K = K (.int .i64 (x % 65536)) := and_of 16 (by omega) (by decide)
@[simp] theorem sand1 {x : Int} : stb P (bq .and T xo yo (.int .i64 x) (.int .i64 1)) u w = (.int .i64 (x % 2) = u) := sand_of 1 (by omega) (by decide)
@[simp] theorem sand7 {x : Int} : stb P (bq .and T xo yo (.int .i64 x) (.int .i64 7)) u w = (.int .i64 (x % 8) = u) := sand_of 3 (by omega) (by decide)
@[simp] theorem sand255 {x : Int} : stb P (bq .and T xo yo (.int .i64 x) (.int .i64 255)) u w = (.int .i64 (x % 256) = u) := sand_of 8 (by omega) (by decide)
theorem run_shr {x y : Int} {k yk : IntKind} (h0 : 0 ≤ y) (h1 : y < k.bits) : (bq .shr T xo yo (.int k x) (.int yk y)).run P w = .ok (.int k (x / 2 ^ y.toNat)) w := by
  show (Op.shift .shr k x yk y).run P w = _
  have hn : ¬ y < 0 := by omega
  have hm : min y.toNat k.bits = y.toNat := by omega
  simp only [Op.shift, hn, if_false, hm]
  show Result.ok _ _ = Result.ok _ _
  congr 2
  exact (Int.fdiv_eq_ediv_of_nonneg x (Int.le_of_lt (Int.pow_pos (by omega))))
theorem shr_of {x y : Int} {k yk : IntKind} (h0 : 0 ≤ y) (h1 : y < k.bits) : qG P (bq .shr T xo yo (.int k x) (.int yk y)) w K = K (.int k (x / 2 ^ y.toNat)) := qG_of (run_shr h0 h1)
theorem run_rem {x y : Int} {k : IntKind} (hx : 0 ≤ x) (hy : 0 < y) : (bq .rem T xo yo (.int k x) (.int k y)).run P w = .ok (.int k (x % y)) w :=
  run_bq_int (s := .pure _) fun w => by
    have : ¬ y = 0 := by omega
    simp only [binOp, ne_eq, not_true_eq_false, if_false, Op.intDiv, this]
    show Result.ok _ _ = Result.ok _ _
    rw [Int.tmod_eq_emod_of_nonneg hx]
theorem rem_of {x y : Int} {k : IntKind} (hx : 0 ≤ x) (hy : 0 < y) : qG P (bq .rem T xo yo (.int k x) (.int k y)) w K = K (.int k (x % y)) := qG_of (run_rem hx hy)
theorem run_quo {x y : Int} {k : IntKind} (hx : 0 ≤ x) (hy : 0 < y) : (bq .quo T xo yo (.int k x) (.int k y)).run P w = .ok (.int k (k.wrap (x / y))) w :=
  run_bq_int (s := .pure _) fun w => by
    have : ¬ y = 0 := by omega
    simp only [binOp, ne_eq, not_true_eq_false, if_false, Op.intDiv, this]
    show Result.ok _ _ = Result.ok _ _
    rw [Int.tdiv_eq_ediv_of_nonneg hx]
theorem quo_of {x y : Int} {k : IntKind} (hx : 0 ≤ x) (hy : 0 < y) : qG P (bq .quo T xo yo (.int k x) (.int k y)) w K = K (.int k (k.wrap (x / y))) := qG_of (run_quo hx hy)
end Go.Q

/- Rules for the printed forms: or, xor and and of natural numbers, shifts to the left, negation and complement of 32 bits. -/
set_option linter.unusedVariables false
set_option linter.unusedSimpArgs false
namespace Go.Q
variable {P : Program} {T : TypeId} {xo yo : Operand} {w : World} {K : Value → Prop} {u : Value}
theorem ofInt_nat (n : Nat) (b : Nat) : (BitVec.ofInt b (n : Int)).toNat = n % 2 ^ b := by simp [BitVec.toNat_ofInt]
theorem wrap_nat64 {n : Nat} (h : n < 2 ^ 63) : IntKind.i64.wrap (n : Int) = n := wrap64 _ (by omega) (by omega)
theorem wrap_nat32 {n : Nat} (h : n < 2 ^ 32) : IntKind.u32.wrap (n : Int) = n := by
  simp [IntKind.wrap, IntKind.bits, IntKind.signed]; omega
theorem or64_of {x y : Nat} (hx : x < 2 ^ 63) (hy : y < 2 ^ 63) : qG P (bq .or T xo yo (.int .i64 x) (.int .i64 y)) w K = K (.int .i64 ((x ||| y : Nat) : Int)) :=
  qG_of (run_bq_int (s := .pure _) fun w => by
    have h2 : IntKind.i64.wrap ((BitVec.ofInt 64 (x : Int) ||| BitVec.ofInt 64 (y : Int)).toNat : Int) = ((x ||| y : Nat) : Int) := by
      rw [BitVec.toNat_or, ofInt_nat, ofInt_nat, Nat.mod_eq_of_lt (by omega), Nat.mod_eq_of_lt (by omega)]; exact wrap_nat64 (Nat.or_lt_two_pow hx hy)
    simp only [binOp, ne_eq, not_true_eq_false, if_false, Op.intBits]
    show Result.ok _ _ = Result.ok _ _
    congr 2)
theorem xor32_of {x y : Nat} (hx : x < 2 ^ 32) (hy : y < 2 ^ 32) : qG P (bq .xor T xo yo (.int .u32 x) (.int .u32 y)) w K = K (.int .u32 ((x ^^^ y : Nat) : Int)) :=
  qG_of (run_bq_int (s := .pure _) fun w => by
    have h2 : IntKind.u32.wrap ((BitVec.ofInt 32 (x : Int) ^^^ BitVec.ofInt 32 (y : Int)).toNat : Int) = ((x ^^^ y : Nat) : Int) := by
      rw [BitVec.toNat_xor, ofInt_nat, ofInt_nat, Nat.mod_eq_of_lt (by omega), Nat.mod_eq_of_lt (by omega)]; exact wrap_nat32 (Nat.xor_lt_two_pow hx hy)
    simp only [binOp, ne_eq, not_true_eq_false, if_false, Op.intBits]
    show Result.ok _ _ = Result.ok _ _
    congr 2)
theorem and32_of {x y : Nat} (hx : x < 2 ^ 32) (hy : y < 2 ^ 32) : qG P (bq .and T xo yo (.int .u32 x) (.int .u32 y)) w K = K (.int .u32 ((x &&& y : Nat) : Int)) :=
  qG_of (run_bq_int (s := .pure _) fun w => by
    have h2 : IntKind.u32.wrap ((BitVec.ofInt 32 (x : Int) &&& BitVec.ofInt 32 (y : Int)).toNat : Int) = ((x &&& y : Nat) : Int) := by
      rw [BitVec.toNat_and, ofInt_nat, ofInt_nat, Nat.mod_eq_of_lt (by omega), Nat.mod_eq_of_lt (by omega)]; exact wrap_nat32 (Nat.and_lt_two_pow _ hy)
    simp only [binOp, ne_eq, not_true_eq_false, if_false, Op.intBits]
    show Result.ok _ _ = Result.ok _ _
    congr 2)
theorem neg32_of {x : Nat} (hx : x < 2 ^ 32) : qG P (Op.unary .neg (.int .u32 x)) w K = K (.int .u32 (((2 ^ 32 - x) % 2 ^ 32 : Nat) : Int)) :=
  qG_of (by
    have : IntKind.u32.wrap (0 - (x : Int)) = (((2 ^ 32 - x) % 2 ^ 32 : Nat) : Int) := by
      simp [IntKind.wrap, IntKind.bits, IntKind.signed]; omega
    show Result.ok _ _ = Result.ok _ _
    congr 2)
theorem not32_of {x : Nat} (hx : x < 2 ^ 32) : qG P (Op.unary .xor (.int .u32 x)) w K = K (.int .u32 (((2 ^ 32 - 1) ^^^ x : Nat) : Int)) :=
  qG_of (by
    have h2 : IntKind.u32.wrap ((BitVec.ofInt 32 IntKind.u32.max ^^^ BitVec.ofInt 32 (x : Int)).toNat : Int) = (((2 ^ 32 - 1) ^^^ x : Nat) : Int) := by
      have hm : IntKind.u32.max = ((2 ^ 32 - 1 : Nat) : Int) := by decide
      rw [hm, BitVec.toNat_xor, ofInt_nat, ofInt_nat, Nat.mod_eq_of_lt (by omega), Nat.mod_eq_of_lt (by omega)]; exact wrap_nat32 (Nat.xor_lt_two_pow (by omega) hx)
    show Result.ok _ _ = Result.ok _ _
    congr 2)
theorem shl_of {x y : Int} {k yk : IntKind} (h0 : 0 ≤ y) (h1 : y < k.bits) : qG P (bq .shl T xo yo (.int k x) (.int yk y)) w K = K (.int k (k.wrap (x * 2 ^ y.toNat))) := by
  refine qG_of ?_
  show (Op.shift .shl k x yk y).run P w = _
  have hn : ¬ y < 0 := by omega
  have hm : min y.toNat k.bits = y.toNat := by omega
  simp only [Op.shift, hn, if_false, hm]
  rfl
end Go.Q

/- Plain: values and rows, as bytes and back. -/
set_option linter.unusedVariables false
set_option linter.unusedSimpArgs false
namespace Go.Q
structure V3 where
  k : Int
  n : Int
  s : List UInt8
  deriving DecidableEq
def valV (v : V3) : List Value := [.int .i64 v.k, .int .i64 v.n, .string (str v.s)]
def V3.ok (v : V3) : Bool :=
  if v.k = 0 then decide (v.n = 0 ∧ v.s = []) else if v.k = 1 then decide (v.s = []) else if v.k = 2 then decide (v.n = 0 ∧ v.s.length ≤ 64)
  else if v.k = 3 then decide ((v.n = 0 ∨ v.n = 1) ∧ v.s = []) else false
structure V3.Wf (v : V3) : Prop where
  k0 : -9223372036854775808 ≤ v.k
  k1 : v.k < 9223372036854775808
  n0 : -9223372036854775808 ≤ v.n
  n1 : v.n < 9223372036854775808
  s : v.s.length < 2 ^ 39
def bOf (x : Int) : UInt8 := UInt8.ofNat (x % 256).toNat
/-- digits, the greatest first -/
def be (m N : Nat) : List UInt8 := (List.range m).map fun i => UInt8.ofNat (N / 256 ^ (m - 1 - i) % 256)
def be8 (n : Int) : List UInt8 := be 8 (n + 9223372036854775808).toNat
/-! ### values as bytes -/
def V3.bytes (v : V3) : List UInt8 := bOf v.k :: (if v.k = 1 then be8 v.n else if v.k = 2 then bOf v.s.length :: v.s else if v.k = 3 then [bOf v.n] else [])
def rowB (r : List V3) : List UInt8 := (r.map V3.bytes).flatten
def putRow (r : List V3) : List UInt8 × Int := if r.length ≤ 255 ∧ r.all V3.ok = true then (bOf r.length :: rowB r, 0) else ([], 1)
end Go.Q

/- Plain: sums of texts; a value's number. -/
set_option linter.unusedVariables false
set_option linter.unusedSimpArgs false
namespace Go.Q
def crcBit (c : Nat) : Nat := if c % 2 = 1 then (c / 2) ^^^ 3988292384 else c / 2
def crcBits : Nat → Nat → Nat
  | 0, c => c
  | n + 1, c => crcBit (crcBits n c)
def crcByte (c : Nat) (b : UInt8) : Nat := crcBits 8 (c ^^^ b.toNat)
def crcRun (c : Nat) (s : List UInt8) : Nat := s.foldl crcByte c
def crcMore (sum : Int) (s : List UInt8) : Nat := 4294967295 ^^^ crcRun (4294967295 ^^^ (sum % 4294967296).toNat) s
theorem crcBit_lt {c : Nat} (h : c < 2 ^ 32) : crcBit c < 2 ^ 32 := by
  unfold crcBit
  split
  · exact Nat.xor_lt_two_pow (by omega) (by omega)
  · omega
theorem crcBits_lt {c : Nat} (h : c < 2 ^ 32) : ∀ n, crcBits n c < 2 ^ 32 := by
  intro n
  induction n with
  | zero => exact h
  | succ n ih => exact crcBit_lt ih
theorem crcByte_lt {c : Nat} (h : c < 2 ^ 32) (b : UInt8) : crcByte c b < 2 ^ 32 := crcBits_lt (Nat.xor_lt_two_pow h (by have := b.toNat_lt; omega)) 8
theorem crcRun_lt {s : List UInt8} : ∀ {c : Nat}, c < 2 ^ 32 → crcRun c s < 2 ^ 32 := by
  induction s with
  | nil => intro c h; exact h
  | cons b s ih => intro c h; exact ih (crcByte_lt h b)
theorem crcRun_take {c : Nat} {s : List UInt8} {i : Nat} (hi : i < s.length) : crcRun c (s.take (i + 1)) = crcByte (crcRun c (s.take i)) s[i] := by
  rw [List.take_succ_eq_append_getElem hi]
  unfold crcRun
  rw [List.foldl_append]; rfl
/-- eight bits, as the program goes -/
theorem crc_step {c : Nat} (h : c < 2 ^ 32) : (c / 2) ^^^ (3988292384 &&& ((2 ^ 32 - c % 2) % 2 ^ 32)) = crcBit c := by
  unfold crcBit
  rcases Nat.mod_two_eq_zero_or_one c with h0 | h0
  · rw [h0, if_neg (by omega)]; simp
  · rw [h0, if_pos rfl]
    have : (2 ^ 32 - 1) % 2 ^ 32 = 4294967295 := by decide
    rw [this]
    rfl
end Go.Q

/- Layer 2, sums of texts: what each function computes. -/
set_option linter.unusedVariables false
set_option linter.unusedSimpArgs false
namespace Go.Proofs
open Go Go.Q
theorem ixS_str {s : List UInt8} {kd : IntKind} {i : Nat} (hi : i < s.length) {K : Value → Prop} : ixS (.string (str s)) (.int kd i) K = K (.int .u8 s[i].toNat) := by
  have : (str s)[i]? = some s[i] := by
    have h : i < (str s).size := by simpa using hi
    rw [getElem?_pos (str s) i h]
    rfl
  unfold ixS
  simp only [Int.toNat_natCast, this]
  simp
theorem More_spec {w : World} (sum : Int) (s : List UInt8) (hs : s.length < 2 ^ 62) {K : Value → World → Prop} (hK : K (.int .i64 (crcMore sum s)) w) : callG Tryz.prog 69 #[.int .i64 sum, .string (str s)] w K := by
  refine crc_More_call ?_
  simp only [crc_More, crc_More_s8]
  obtain ⟨c0, hc0⟩ : ∃ c0, c0 = (sum % 4294967296).toNat := ⟨_, rfl⟩
  have hlt0 : c0 < 2 ^ 32 := by omega
  have hw : IntKind.u32.wrap sum = (c0 : Int) := by
    simp [IntKind.wrap, IntKind.bits, IntKind.signed]; omega
  simp only [cvI_i, hw]
  rw [not32_of hlt0]
  obtain ⟨c, hc⟩ : ∃ c, c = 4294967295 ^^^ c0 := ⟨_, rfl⟩
  have hlt : c < 2 ^ 32 := by rw [hc]; exact Nat.xor_lt_two_pow (by omega) hlt0
  have hcm : crcMore sum s = 4294967295 ^^^ crcRun c s := by unfold crcMore; rw [hc, hc0]
  have hc2 : (2 ^ 32 - 1) ^^^ c0 = c := by rw [hc]
  rw [hc2]
  rw [hcm] at hK
  unfold crc_More_s7 crc_More_L6
  simp only [lenS_s, str_size]
  refine loop_inv (fun m xs w' => ∃ i, i ≤ s.length ∧ m = s.length - i ∧ xs = [.string (str s), .int .u32 (crcRun c (s.take i)), .int .i64 s.length, .int .i64 (i : Nat)] ∧ w' = w)
    ?_ (m := s.length) ⟨0, by omega, rfl, rfl, rfl⟩
  rintro m N xs w' ⟨i, hi, rfl, rfl, rfl⟩ hN
  simp only [crc_More_L6F, crc_More_s5, bq_lss, bV_b]
  have hri := crcRun_lt (s := s.take i) hlt
  refine ⟨fun h => ?_, fun h => ?_⟩
  · have hi : i < s.length := by simpa using h
    have hN' := hN (s.length - (i + 1)) _ w' (by omega) ⟨i + 1, by omega, rfl, rfl, rfl⟩
    have hiw : IntKind.i64.wrap ((i : Int) + 1) = ((i + 1 : Nat) : Int) := by rw [w64 (by omega) (by omega)]; simp
    rw [crcRun_take hi] at hN'
    obtain ⟨r, hr⟩ : ∃ r, r = crcRun c (s.take i) := ⟨_, rfl⟩
    rw [← hr] at hri hN' ⊢
    unfold crc_More_s4
    rw [ixS_str hi]
    have hb := s[i].toNat_lt
    simp only [cvI_i, wrap_nat32 (show s[i].toNat < 2 ^ 32 by omega)]
    rw [xor32_of hri (by omega)]
    unfold crc_More_L3
    have hx : r ^^^ s[i].toNat < 2 ^ 32 := Nat.xor_lt_two_pow hri (by omega)
    obtain ⟨x, hxe⟩ : ∃ x, x = r ^^^ s[i].toNat := ⟨_, rfl⟩
    have hby : crcByte r s[i] = crcBits 8 x := by rw [hxe]; rfl
    rw [hby] at hN'
    rw [← hxe] at hx ⊢
    refine loop_inv (fun m xs w'' => ∃ j, j ≤ 8 ∧ m = 8 - j ∧ xs = [.string (str s), .int .u32 (crcBits j x), .int .i64 s.length, .int .i64 (i : Nat), .int .i64 (j : Nat)] ∧ w'' = w')
      ?_ (m := 8) ⟨0, by omega, rfl, rfl, rfl⟩
    rintro m N2 xs w'' ⟨j, hj, rfl, rfl, rfl⟩ hN2
    simp only [crc_More_L3F, crc_More_b2, bq_lss, bV_b]
    have hbl := crcBits_lt hx j
    refine ⟨fun h => ?_, fun h => ?_⟩
    · have hj : j < 8 := by simp at h; omega
      have hN2' := hN2 (8 - (j + 1)) _ w'' (by omega) ⟨j + 1, by omega, rfl, rfl, rfl⟩
      have hjw : IntKind.i64.wrap ((j : Int) + 1) = ((j + 1 : Nat) : Int) := by rw [w64 (by omega) (by omega)]; simp
      have hst := crc_step hbl
      have hcj : crcBits (j + 1) x = crcBit (crcBits j x) := rfl
      rw [hcj, ← hst] at hN2'
      obtain ⟨y, hy⟩ : ∃ y, y = crcBits j x := ⟨_, rfl⟩
      rw [← hy] at hbl hN2' ⊢
      rw [shr_of (by omega) (by decide)]
      have h1 : ((y : Int) / 2 ^ (1 : Int).toNat) = ((y / 2 : Nat) : Int) := by simp
      rw [h1]
      rw [show ((1 : Int)) = ((1 : Nat) : Int) from rfl, and32_of hbl (by omega), Nat.and_one_is_mod, neg32_of (by omega)]
      rw [show ((3988292384 : Int)) = ((3988292384 : Nat) : Int) from rfl, and32_of (by omega) (by omega)]
      have ha : 3988292384 &&& ((2 ^ 32 - y % 2) % 2 ^ 32) < 2 ^ 32 := Nat.and_lt_two_pow _ (by omega)
      rw [xor32_of (by omega) ha]
      simp only [bq_add]
      rw [show ((1 : Nat) : Int) = 1 from rfl, hjw]
      exact hN2'
    · have hje : j = 8 := by simp at h; omega
      subst hje
      unfold crc_More_s1
      simp only [bq_add, hiw]
      exact hN'
  · have hie : i = s.length := by simp at h; omega
    subst hie
    rw [List.take_length] at hri ⊢
    unfold crc_More_s0
    rw [not32_of hri]
    simp only [cvI_i]
    have hx : (2 ^ 32 - 1) ^^^ crcRun c s < 2 ^ 32 := Nat.xor_lt_two_pow (by omega) hri
    rw [wrap_nat64 (by omega)]
    exact hK
theorem Sum_spec {w : World} (s : List UInt8) (hs : s.length < 2 ^ 62) {K : Value → World → Prop} (hK : K (.int .i64 (crcMore 0 s)) w) : callG Tryz.prog 45 #[.string (str s)] w K := by
  refine crc_Sum_call ?_
  simp only [crc_Sum, crc_Sum_s0]
  exact More_spec 0 s hs hK
end Go.Proofs

set_option linter.unusedVariables false
set_option linter.unusedSimpArgs false
namespace Go.Proofs
open Go Go.Q
set_option maxRecDepth 100000
/-! quayside/crc.Put -/
def crc_Put_s0 (R : Value → World → Prop) (x3 : Value) (w : World) : Prop :=
  slA 4 1 x3 none none fun t16 =>
  cvBS t16 w fun t17 =>
  R t17 w
theorem crc_Put_s0_eq (R : Value → World → Prop) : ∀ e w, lift Tryz.prog 18 (sub (bodyOf Tryz.f44) [1, 1, 1]) (finK Tryz.prog Tryz.f44.results.toList R) e w = crc_Put_s0 R (e 3) w := fun e w => by kernel_rfl
def crc_Put_b1 (R : Value → World → Prop) (N1 : List Value → World → Prop) (x0 x3 x5 : Value) (w : World) : Prop :=
  qG Tryz.prog (bq .lss 3 (.tmp 5) (.const (.int .i64 4)) x5 (.int .i64 4)) w fun t6 =>
  bV t6
  (qG Tryz.prog (bq .mul 3 (.const (.int .i64 8)) (.tmp 10) (.int .i64 8) x5) w fun t11 =>
  qG Tryz.prog (bq .shr 3 (.tmp 9) (.tmp 11) x0 t11) w fun t12 =>
  cvI .u8 t12 fun t13 =>
  iaA 4 1 x3 x5 fun t14 =>
  st1 t14 t13 w fun w =>
  qG Tryz.prog (bq .add 3 (.tmp 5) (.const (.int .i64 1)) x5 (.int .i64 1)) w fun t15 =>
  N1 [x0, x3, t15] w)
  (crc_Put_s0 R x3 w)
theorem crc_Put_b1_eq (R : Value → World → Prop) (N1 : List Value → World → Prop) : ∀ e w, lift Tryz.prog 18 (sub (bodyOf Tryz.f44) [1, 1, 0, 1, 0, 0]) (seqK (fun e w => N1 [e 0, e 3, e 5] w) (blockK 0 (seqK (fun e w => crc_Put_s0 R (e 3) w) (finK Tryz.prog Tryz.f44.results.toList R)))) e w = crc_Put_b1 R N1 (e 0) (e 3) (e 5) w := fun e w => by kernel_rfl
def crc_Put_L2F (R : Value → World → Prop) (N1 : List Value → World → Prop) (xs : List Value) (w : World) : Prop :=
  match xs with
  | [x0, x3, x5] => crc_Put_b1 R N1 x0 x3 x5 w
  | _ => False
def crc_Put_L2 (R : Value → World → Prop) (x0 x3 x5 : Value) (w : World) : Prop :=
  ∃ m, loopV (crc_Put_L2F R) m [x0, x3, x5] w
theorem crc_Put_L2_eq (R : Value → World → Prop) : ∀ e w, lift Tryz.prog 18 (sub (bodyOf Tryz.f44) [1, 1, 0, 1, 0]) (blockK 0 (seqK (fun e w => crc_Put_s0 R (e 3) w) (finK Tryz.prog Tryz.f44.results.toList R))) e w = crc_Put_L2 R (e 0) (e 3) (e 5) w := loop_seg (F := crc_Put_L2F R) (sel := fun e => [e 0, e 3, e 5]) fun N1 => (crc_Put_b1_eq R N1)
def crc_Put_s3 (R : Value → World → Prop) (x0 x3 : Value) (w : World) : Prop :=
  crc_Put_L2 R x0 x3 (.int .i64 0) w
theorem crc_Put_s3_eq (R : Value → World → Prop) : ∀ e w, lift Tryz.prog 18 (sub (bodyOf Tryz.f44) [1, 1, 0]) (seqK (fun e w => crc_Put_s0 R (e 3) w) (finK Tryz.prog Tryz.f44.results.toList R)) e w = crc_Put_s3 R (e 0) (e 3) w :=
  segs_eq (l := [(sub (bodyOf Tryz.f44) [1, 1, 0, 0])]) (y := (sub (bodyOf Tryz.f44) [1, 1, 0, 1])) (Y := (fun e w => crc_Put_L2 R (e 0) (e 3) (e 5) w)) (crc_Put_L2_eq R) (fun e w => by kernel_rfl)
def crc_Put_s4 (R : Value → World → Prop) (x0 : Value) (w : World) : Prop :=
  newG (zc Tryz.prog 114) 114 w fun t3 w =>
  crc_Put_s3 R x0 t3 w
theorem crc_Put_s4_eq (R : Value → World → Prop) : ∀ e w, lift Tryz.prog 18 (bodyOf Tryz.f44) (finK Tryz.prog Tryz.f44.results.toList R) e w = crc_Put_s4 R (e 0) w :=
  segs_eq (l := [(sub (bodyOf Tryz.f44) [0]), (sub (bodyOf Tryz.f44) [1, 0])]) (y := (sub (bodyOf Tryz.f44) [1, 1])) (Y := (fun e w => crc_Put_s3 R (e 0) (e 3) w)) (seq_seg (x := (sub (bodyOf Tryz.f44) [1, 1, 0])) (y := (sub (bodyOf Tryz.f44) [1, 1, 1])) (crc_Put_s0_eq R) (crc_Put_s3_eq R)) (fun e w => by kernel_rfl)
def crc_Put (R : Value → World → Prop) (x0 : Value) (w : World) : Prop := crc_Put_s4 R x0 w
theorem crc_Put_call {R : Value → World → Prop} {x0 : Value} {w : World} (h : crc_Put R x0 w) : callG Tryz.prog 44 #[x0] w R :=
  calls_lift_eq Tryz.mixed Tryz.func44 (args := [x0]) rfl rfl rfl rfl ((crc_Put_s4_eq R) (envOf [x0]) w) (by kernel_rfl) h
/-! quayside/crc.Take -/
def crc_Take_s0 (R : Value → World → Prop) (x3 : Value) (w : World) : Prop :=
  R x3 w
theorem crc_Take_s0_eq (R : Value → World → Prop) : ∀ e w, lift Tryz.prog 22 (sub (bodyOf Tryz.f14) [1, 1, 1, 1]) (finK Tryz.prog Tryz.f14.results.toList R) e w = crc_Take_s0 R (e 3) w := fun e w => by kernel_rfl
def crc_Take_b1 (R : Value → World → Prop) (N1 : List Value → World → Prop) (x0 x3 x8 : Value) (w : World) : Prop :=
  qG Tryz.prog (bq .lss 3 (.tmp 8) (.const (.int .i64 4)) x8 (.int .i64 4)) w fun t9 =>
  bV t9
  (ixS x0 x8 fun t14 =>
  cvI .i64 t14 fun t15 =>
  qG Tryz.prog (bq .mul 3 (.const (.int .i64 8)) (.tmp 16) (.int .i64 8) x8) w fun t17 =>
  qG Tryz.prog (bq .shl 3 (.tmp 15) (.tmp 17) t15 t17) w fun t18 =>
  qG Tryz.prog (bq .or 3 (.tmp 11) (.tmp 18) x3 t18) w fun t19 =>
  qG Tryz.prog (bq .add 3 (.tmp 8) (.const (.int .i64 1)) x8 (.int .i64 1)) w fun t20 =>
  N1 [x0, t19, t20] w)
  (crc_Take_s0 R x3 w)
theorem crc_Take_b1_eq (R : Value → World → Prop) (N1 : List Value → World → Prop) : ∀ e w, lift Tryz.prog 22 (sub (bodyOf Tryz.f14) [1, 1, 1, 0, 1, 0, 0]) (seqK (fun e w => N1 [e 0, e 3, e 8] w) (blockK 0 (seqK (fun e w => crc_Take_s0 R (e 3) w) (finK Tryz.prog Tryz.f14.results.toList R)))) e w = crc_Take_b1 R N1 (e 0) (e 3) (e 8) w := fun e w => by kernel_rfl
def crc_Take_L2F (R : Value → World → Prop) (N1 : List Value → World → Prop) (xs : List Value) (w : World) : Prop :=
  match xs with
  | [x0, x3, x8] => crc_Take_b1 R N1 x0 x3 x8 w
  | _ => False
def crc_Take_L2 (R : Value → World → Prop) (x0 x3 x8 : Value) (w : World) : Prop :=
  ∃ m, loopV (crc_Take_L2F R) m [x0, x3, x8] w
theorem crc_Take_L2_eq (R : Value → World → Prop) : ∀ e w, lift Tryz.prog 22 (sub (bodyOf Tryz.f14) [1, 1, 1, 0, 1, 0]) (blockK 0 (seqK (fun e w => crc_Take_s0 R (e 3) w) (finK Tryz.prog Tryz.f14.results.toList R))) e w = crc_Take_L2 R (e 0) (e 3) (e 8) w := loop_seg (F := crc_Take_L2F R) (sel := fun e => [e 0, e 3, e 8]) fun N1 => (crc_Take_b1_eq R N1)
def crc_Take_s3 (R : Value → World → Prop) (x0 x3 : Value) (w : World) : Prop :=
  crc_Take_L2 R x0 x3 (.int .i64 0) w
theorem crc_Take_s3_eq (R : Value → World → Prop) : ∀ e w, lift Tryz.prog 22 (sub (bodyOf Tryz.f14) [1, 1, 1, 0]) (seqK (fun e w => crc_Take_s0 R (e 3) w) (finK Tryz.prog Tryz.f14.results.toList R)) e w = crc_Take_s3 R (e 0) (e 3) w :=
  segs_eq (l := [(sub (bodyOf Tryz.f14) [1, 1, 1, 0, 0])]) (y := (sub (bodyOf Tryz.f14) [1, 1, 1, 0, 1])) (Y := (fun e w => crc_Take_L2 R (e 0) (e 3) (e 8) w)) (crc_Take_L2_eq R) (fun e w => by kernel_rfl)
def crc_Take_s4 (R : Value → World → Prop) (x0 : Value) (w : World) : Prop :=
  lenS x0 fun t6 =>
  qG Tryz.prog (bq .lss 3 (.tmp 6) (.const (.int .i64 4)) t6 (.int .i64 4)) w fun t7 =>
  bV t7
  (R (.int .i64 (-1)) w)
  (crc_Take_s3 R x0 (.int .i64 0) w)
theorem crc_Take_s4_eq (R : Value → World → Prop) : ∀ e w, lift Tryz.prog 22 (bodyOf Tryz.f14) (finK Tryz.prog Tryz.f14.results.toList R) e w = crc_Take_s4 R (e 0) w :=
  segs_eq (l := [(sub (bodyOf Tryz.f14) [0]), (sub (bodyOf Tryz.f14) [1, 0]), (sub (bodyOf Tryz.f14) [1, 1, 0])]) (y := (sub (bodyOf Tryz.f14) [1, 1, 1])) (Y := (fun e w => crc_Take_s3 R (e 0) (e 3) w)) (seq_seg (x := (sub (bodyOf Tryz.f14) [1, 1, 1, 0])) (y := (sub (bodyOf Tryz.f14) [1, 1, 1, 1])) (crc_Take_s0_eq R) (crc_Take_s3_eq R)) (fun e w => by kernel_rfl)
def crc_Take (R : Value → World → Prop) (x0 : Value) (w : World) : Prop := crc_Take_s4 R x0 w
theorem crc_Take_call {R : Value → World → Prop} {x0 : Value} {w : World} (h : crc_Take R x0 w) : callG Tryz.prog 14 #[x0] w R :=
  calls_lift_eq Tryz.mixed Tryz.func14 (args := [x0]) rfl rfl rfl rfl ((crc_Take_s4_eq R) (envOf [x0]) w) (by kernel_rfl) h
end Go.Proofs

/- Layer 2: bytes of a sum, and back; the document's sums. -/
set_option linter.unusedVariables false
set_option linter.unusedSimpArgs false
namespace Go.Proofs
open Go Go.Q
theorem cvBS_str {w : World} {b cap T : Nat} {fr : Nat × Nat} {l : List UInt8} (h : w.heap[b]? = some (.cells (u8c l).toArray T fr)) {n : Nat} (hn : n = l.length) {K : Value → Prop} :
    cvBS (.slice (some ⟨b, 0, none⟩) n cap) w K = K (.string (str l)) := by
  subst hn
  have ht : List.take l.length (u8c l) = u8c l := List.take_of_length_le (by simp)
  have hb := bytesOf_u8c l
  have hl : (u8c l).length = l.length := by simp
  obtain ⟨C, hC⟩ : ∃ C, C = u8c l := ⟨_, rfl⟩
  rw [← hC] at h ht hb hl
  simp [-getElem?_pos, -Array.getElem?_eq_getElem, cvBS, h, hl, ht, hb]
  rfl
def putB (x : Int) (k : Nat) : UInt8 := UInt8.ofNat ((x / 2 ^ (8 * k)) % 256).toNat
def put4 (x : Int) : List UInt8 := [putB x 0, putB x 1, putB x 2, putB x 3]
theorem zc119 : zc Tryz.prog 114 = (u8c [0, 0, 0, 0]).toArray := by kernel_rfl
theorem putB_wrap (x : Int) (k : Nat) : IntKind.u8.wrap (x / 2 ^ (8 * k)) = ((putB x k).toNat : Int) := by
  obtain ⟨y, hy⟩ : ∃ y, y = x / 2 ^ (8 * k) := ⟨_, rfl⟩
  have : putB x k = UInt8.ofNat (y % 256).toNat := by rw [hy]; rfl
  rw [this, ← hy]
  simp [IntKind.wrap, IntKind.bits, IntKind.signed]
  omega
theorem Put_spec {w : World} (x : Int) {K : Value → World → Prop} (hK : ∀ w', Kp [] w w' → K (.string (str (put4 x))) w') : callG Tryz.prog 44 #[.int .i64 x] w K := by
  refine crc_Put_call ?_
  simp only [crc_Put, crc_Put_s4, crc_Put_s3, newG_k, zc119]
  obtain ⟨a, ha⟩ : ∃ a, a = w.heap.size := ⟨_, rfl⟩
  obtain ⟨w1, hw1⟩ : ∃ w1, w1 = w.alloc (.cells (u8c [0, 0, 0, 0]).toArray 114) := ⟨_, rfl⟩
  have hk1 : Kp [] w w1 := by rw [hw1]; exact (Kp.refl [] w).alloc _
  have hA : w1.heap[a]? = some (.cells (u8c [0, 0, 0, 0]).toArray 114) := by rw [hw1, ha]; exact heap_new
  rw [← ha, ← hw1]
  unfold crc_Put_L2
  refine loop_inv (fun m xs w' => ∃ i, i ≤ 4 ∧ m = 4 - i ∧ xs = [.int .i64 x, .pointer (some ⟨a, 0, none⟩), .int .i64 (i : Nat)] ∧ Kp [] w w' ∧ w'.heap[a]? = some (.cells (u8c ((put4 x).take i ++ List.replicate (4 - i) 0)).toArray 114))
    ?_ (m := 4) ⟨0, by omega, rfl, rfl, hk1, hA⟩
  rintro m N xs w' ⟨i, hi, rfl, rfl, hk, hA⟩ hN
  simp only [crc_Put_L2F, crc_Put_b1, bq_lss, bV_b]
  refine ⟨fun h => ?_, fun h => ?_⟩
  · have hi : i < 4 := by simp at h; omega
    have hiw : IntKind.i64.wrap ((i : Int) + 1) = ((i + 1 : Nat) : Int) := by rw [w64 (by omega) (by omega)]; simp
    have h8 : IntKind.i64.wrap (8 * (i : Int)) = ((8 * i : Nat) : Int) := by rw [w64 (by omega) (by omega)]; simp
    simp only [bq_mul, h8]
    rw [shr_of (by omega) (by simp [IntKind.bits]; omega), Int.toNat_natCast]
    simp only [cvI_i, putB_wrap]
    have hset : (u8c ((put4 x).take i ++ List.replicate (4 - i) 0)).set i (.int .u8 (putB x i).toNat) = u8c ((put4 x).take (i + 1) ++ List.replicate (4 - (i + 1)) 0) := by
      match i, hi with
      | 0, _ => rfl
      | 1, _ => rfl
      | 2, _ => rfl
      | 3, _ => rfl
    have hlen : (u8c ((put4 x).take i ++ List.replicate (4 - i) 0)).length = 4 := by simp [put4]; omega
    obtain ⟨C, hC⟩ : ∃ C, C = u8c ((put4 x).take i ++ List.replicate (4 - i) 0) := ⟨_, rfl⟩
    obtain ⟨C', hC'⟩ : ∃ C', C' = u8c ((put4 x).take (i + 1) ++ List.replicate (4 - (i + 1)) 0) := ⟨_, rfl⟩
    rw [← hC] at hA hset hlen
    rw [← hC'] at hset
    have hi4 : (i : Int) < 4 := by omega
    simp [-getElem?_pos, -Array.getElem?_eq_getElem, -List.length_flatten, List.getElem?_cons_zero, List.getElem?_cons_succ, hA, hlen, hi, hi4, hset, hiw]
    exact hN (4 - (i + 1)) _ _ (by omega) ⟨i + 1, by omega, rfl, rfl, hk.setBlk (.inr (by omega)) _, by rw [← hC']; exact heap_self (live_of hA)⟩
  · have hie : i = 4 := by simp at h; omega
    subst hie
    have hp : (put4 x).take 4 ++ List.replicate (4 - 4) 0 = put4 x := rfl
    rw [hp] at hA
    unfold crc_Put_s0
    simp only [slA_p, bnd_none]
    have e : (if 4 = 0 then 0 else 0 + 0 * 1) = 0 := rfl
    simp only [e]
    rw [cvBS_str (n := 4 - 0) hA rfl]
    exact hK _ hk
theorem or_add {x y k : Nat} (hx : x < 2 ^ k) : x ||| (y * 2 ^ k) = x + y * 2 ^ k := by
  rw [Nat.or_comm, Nat.add_comm, Nat.mul_comm]
  exact (Nat.two_pow_add_eq_or_of_lt hx y).symm
def takeN (s : List UInt8) : Nat → Nat
  | 0 => 0
  | i + 1 => takeN s i + (s.getD i 0).toNat * 2 ^ (8 * i)
theorem takeN_lt (s : List UInt8) : ∀ i, takeN s i < 2 ^ (8 * i) := by
  intro i
  induction i with
  | zero => simp [takeN]
  | succ i ih =>
    have hb := (s.getD i 0).toNat_lt
    have : (s.getD i 0).toNat * 2 ^ (8 * i) ≤ 255 * 2 ^ (8 * i) := Nat.mul_le_mul_right _ (by omega)
    have h2 : 2 ^ (8 * (i + 1)) = 256 * 2 ^ (8 * i) := by rw [Nat.mul_succ, Nat.pow_add]; omega
    simp only [takeN]
    omega
theorem Take_spec {w : World} (s : List UInt8) (hs : s.length < 2 ^ 62) {K : Value → World → Prop} (hK : K (.int .i64 (if s.length < 4 then -1 else (takeN s 4 : Nat))) w) : callG Tryz.prog 14 #[.string (str s)] w K := by
  refine crc_Take_call ?_
  simp only [crc_Take, crc_Take_s4, lenS_s, str_size, bq_lss, bV_b]
  refine ⟨fun h => ?_, fun h => ?_⟩
  · have h : s.length < 4 := by simp at h; omega
    rw [if_pos h] at hK; exact hK
  · have h : ¬ s.length < 4 := by simp at h; omega
    rw [if_neg h] at hK
    unfold crc_Take_s3 crc_Take_L2
    refine loop_inv (fun m xs w' => ∃ i, i ≤ 4 ∧ m = 4 - i ∧ xs = [.string (str s), .int .i64 (takeN s i : Nat), .int .i64 (i : Nat)] ∧ w' = w)
      ?_ (m := 4) ⟨0, by omega, rfl, rfl, rfl⟩
    rintro m N xs w' ⟨i, hi, rfl, rfl, rfl⟩ hN
    simp only [crc_Take_L2F, crc_Take_b1, bq_lss, bV_b]
    refine ⟨fun h4 => ?_, fun h4 => ?_⟩
    · have hi : i < 4 := by simp at h4; omega
      have hi' : i < s.length := by omega
      have hiw : IntKind.i64.wrap ((i : Int) + 1) = ((i + 1 : Nat) : Int) := by rw [w64 (by omega) (by omega)]; simp
      have h8 : IntKind.i64.wrap (8 * (i : Int)) = ((8 * i : Nat) : Int) := by rw [w64 (by omega) (by omega)]; simp
      have hin := hN (4 - (i + 1)) _ w' (by omega) ⟨i + 1, by omega, rfl, rfl, rfl⟩
      have hg : s.getD i 0 = s[i] := by simp [List.getD, hi']
      have ht : takeN s (i + 1) = takeN s i + s[i].toNat * 2 ^ (8 * i) := by rw [← hg]; rfl
      have hlt := takeN_lt s i
      have hlt' := takeN_lt s (i + 1)
      rw [ht] at hin hlt'
      have hb := s[i].toNat_lt
      have hp : 2 ^ (8 * (i + 1)) ≤ 2 ^ 32 := Nat.pow_le_pow_right (by omega) (by omega)
      have hp' : 2 ^ (8 * i) ≤ 2 ^ 32 := Nat.pow_le_pow_right (by omega) (by omega)
      rw [ixS_str hi']
      simp only [cvI_i, wrap_nat64 (show s[i].toNat < 2 ^ 63 by omega), bq_mul, h8]
      rw [shl_of (by omega) (by simp [IntKind.bits]; omega), Int.toNat_natCast]
      have hc : ((s[i].toNat : Int) * 2 ^ (8 * i)) = ((s[i].toNat * 2 ^ (8 * i) : Nat) : Int) := by simp
      rw [hc, wrap_nat64 (by omega), or64_of (by omega) (by omega), or_add hlt]
      simp only [bq_add, hiw]
      exact hin
    · have hie : i = 4 := by simp at h4; omega
      subst hie
      exact hK
end Go.Proofs

/- Rules for the printed forms: or and xor of 64 bits without a sign; a number shifted, or a byte. -/
set_option linter.unusedVariables false
set_option linter.unusedSimpArgs false
namespace Go.Q
variable {P : Program} {T : TypeId} {xo yo : Operand} {w : World} {K : Value → Prop} {u : Value}
theorem wrap_natu64 {n : Nat} (h : n < 2 ^ 64) : IntKind.u64.wrap (n : Int) = n := by
  simp [IntKind.wrap, IntKind.bits, IntKind.signed]; omega
theorem wrap_natu8 {n : Nat} (h : n < 2 ^ 8) : IntKind.u8.wrap (n : Int) = n := by
  simp [IntKind.wrap, IntKind.bits, IntKind.signed]; omega
theorem or_mul {x y k : Nat} (hx : x < 2 ^ k) : (y * 2 ^ k) ||| x = y * 2 ^ k + x := by
  rw [Nat.mul_comm y, Nat.two_pow_add_eq_or_of_lt hx]
end Go.Q

/- Structs laid part by part; cells of values. -/
set_option linter.unusedVariables false
set_option linter.unusedSimpArgs false
namespace Go.Q
@[simp] theorem cells_agg {cs : Array Value} : Value.cells (.agg cs) = cs := rfl
@[simp] theorem cells_int {k : IntKind} {n : Int} : Value.cells (.int k n) = #[.int k n] := rfl
@[simp] theorem cells_str {s : ByteArray} : Value.cells (.string s) = #[.string s] := rfl
@[simp] theorem all_cons1 {a : Value} {l : List Value} : (List.toArray (a :: l)).all one = (one a && (List.toArray l).all one) := by simp
@[simp] theorem all_nil1 : (List.toArray ([] : List Value)).all one = true := by simp
@[simp] theorem splice_lit {l vs : List Value} (h : l.length = vs.length) : splice l.toArray 0 vs.toArray = vs.toArray := splice_all (by simpa using h)
theorem loadVar_of {P : Program} {t : TypeId} {n b : Nat} {w : World} {c : Array Value} {T : TypeId} {fr : Nat × Nat} (ha : aggO P t = some true) (hn : szO P t = some n) (hh : w.heap[b]? = some (.cells c T fr)) (hs : c.size = n) {K : Value → Prop} :
    qG P (do loadVar t (← asAddr (.pointer (some ⟨b, 0, none⟩)))) w K = K (.agg c) := by
  refine qG_of ?_
  have h : ldn n (.pointer (some ⟨b, 0, none⟩)) w (fun v => v = .agg c) := by
    rw [ldn_p]; unfold rdN; simp only [hh, true_and, hs, Nat.zero_add, Nat.le_refl]
    have : c.extract 0 n = c := by rw [← hs]; simp
    rw [this]
  obtain ⟨v, hr, hv⟩ := ldn_q (P := P) ha hn h
  subst hv
  exact hr
/-! bytes of numbers -/
theorem take_snoc {α : Type} {l : List α} {i : Nat} {x : α} (h : l[i]? = some x) : l.take i ++ [x] = l.take (i + 1) := by
  obtain ⟨hi, hx⟩ := List.getElem?_eq_some_iff.1 h
  rw [List.take_succ_eq_append_getElem hi, hx]
theorem kp_alloc {w : World} {o : Obj} : Kp [] w (w.alloc o) := (Kp.refl [] w).alloc o
theorem kp_drew {w : World} : Kp [] w w.drew := (Kp.refl [] w).drew
end Go.Q

/- Plain: operations. -/
set_option linter.unusedVariables false
set_option linter.unusedSimpArgs false
namespace Go.Q
structure OpV where
  k : Int
  sku : List UInt8
  loc : List UInt8
  to : List UInt8
  q : Int
  id : Int
  due : Int
  deriving DecidableEq
def opC (o : OpV) : List Value := [.int .i64 o.k, .string (str o.sku), .string (str o.loc), .string (str o.to), .int .i64 o.q, .int .i64 o.id, .int .i64 o.due]
def nameOk (s : List UInt8) : Bool := decide (1 ≤ s.length ∧ s.length ≤ 64)
def OpV.ok (o : OpV) : Bool :=
  let names := nameOk o.sku && nameOk o.loc
  let none := decide (o.sku = [] ∧ o.loc = [])
  if o.k = 1 then names && decide (o.to = [] ∧ 1 ≤ o.q ∧ o.id = 0 ∧ o.due = 0)
  else if o.k = 2 then names && decide (o.to = [] ∧ 1 ≤ o.q ∧ o.id = 0 ∧ 0 ≤ o.due)
  else if o.k = 3 ∨ o.k = 4 then none && decide (o.to = [] ∧ o.q = 0 ∧ 1 ≤ o.id ∧ o.due = 0)
  else if o.k = 5 then none && decide (o.to = [] ∧ o.q = 0 ∧ o.id = 0 ∧ 0 ≤ o.due)
  else if o.k = 6 then names && nameOk o.to && decide (o.to ≠ o.loc ∧ 1 ≤ o.q ∧ o.id = 0 ∧ o.due = 0)
  else if o.k = 7 then names && decide (o.to = [] ∧ o.q ≠ 0 ∧ o.id = 0 ∧ o.due = 0)
  else false
/-- as the program asks it: what an operation may have besides is nought -/
def OpV.rest (o : OpV) : OpV :=
  if o.k = 1 ∨ o.k = 7 then ⟨o.k, o.sku, o.loc, [], o.q, 0, 0⟩
  else if o.k = 2 then ⟨o.k, o.sku, o.loc, [], o.q, 0, o.due⟩
  else if o.k = 3 ∨ o.k = 4 then ⟨o.k, [], [], [], 0, o.id, 0⟩
  else if o.k = 5 then ⟨o.k, [], [], [], 0, 0, o.due⟩
  else if o.k = 6 then ⟨o.k, o.sku, o.loc, o.to, o.q, 0, 0⟩
  else ⟨o.k, [], [], [], 0, 0, 0⟩
def OpV.may (o : OpV) (nm : Bool) : Bool :=
  if o.k = 1 then nm && decide (1 ≤ o.q)
  else if o.k = 2 then nm && decide (1 ≤ o.q ∧ 0 ≤ o.due)
  else if o.k = 3 ∨ o.k = 4 then decide (1 ≤ o.id)
  else if o.k = 5 then decide (0 ≤ o.due)
  else if o.k = 6 then nm && nameOk o.to && decide (o.to ≠ o.loc ∧ 1 ≤ o.q)
  else if o.k = 7 then nm && decide (o.q ≠ 0)
  else false
end Go.Q

/- Plain: kinds of a row; literals of several rows. -/
set_option linter.unusedVariables false
set_option linter.unusedSimpArgs false
namespace Go.Q
def intV (k : Int) : List Value := [.int .i64 k]
/-! ### literals of several rows -/
end Go.Q

/- Rows of a block written over and read; a row's cell turned; slices.Insert of one row. -/
set_option linter.unusedVariables false
set_option linter.unusedSimpArgs false
namespace Go.Q
variable {P : Program}
section
variable {w : World} {k : Nat} {F G : List (List Value)} {T : Nat}
end
theorem set_flat {k : Nat} : ∀ {F : List (List Value)} {i j : Nat} {v : Value}, (∀ x ∈ F, x.length = k) → (hi : i < F.length) → j < k → F.flatten.set (i * k + j) v = (F.set i (F[i].set j v)).flatten := by
  intro F
  induction F with
  | nil => intro i j v _ h; simp at h
  | cons x r ih =>
    intro i j v h hi hj
    have hx := h x (by simp)
    cases i with
    | zero =>
      simp only [List.flatten_cons, Nat.zero_mul, Nat.zero_add, List.set_cons_zero, List.getElem_cons_zero]
      rw [List.set_append_left _ _ (by omega)]
    | succ i =>
      simp only [List.flatten_cons, List.set_cons_succ, List.getElem_cons_succ]
      rw [List.set_append_right _ _ (by rw [hx, Nat.succ_mul]; omega)]
      rw [show (i + 1) * k + j - x.length = i * k + j by rw [hx, Nat.succ_mul]; omega]
      rw [ih (fun y hy => h y (by simp [hy])) (by simpa using hi) hj]
/-- a cell of a row is turned -/
theorem RowsAt.upd {w : World} {v : Value} {k : Nat} {rows : List (List Value)} {S : List Nat} (h : RowsAt w v k rows S) {i : Nat} (hi : i < rows.length) :
    ∃ bl, S = [bl] ∧ (∀ kd K, ia k v (.int kd i) K = K (.pointer (some ⟨bl, i * k, none⟩))) ∧ (∀ j (hj : j < rows[i].length) K, rd1 w ⟨bl, i * k + j, none⟩ K = K rows[i][j]) ∧
      ∀ j, j < k → ∀ y, one y = true → ∀ K : World → Prop, (∀ w', Kp S w w' → RowsAt w' v k (rows.set i (rows[i].set j y)) S → K w') → wr1 w ⟨bl, i * k + j, none⟩ y K := by
  have hrow := h.row (List.getElem_mem hi)
  obtain ⟨bl', T', c', hb', hh', hia', _, _, hat'⟩ := h.at hi
  rcases h with ⟨h1, h2, h3⟩ | ⟨bl, F, T, h1, h2, h3, h4, h5, h6⟩
  · rw [h2] at hi; cases hi
  · rw [h2] at hb'
    simp only [List.mem_singleton] at hb'
    subst hb'
    refine ⟨bl', h2, hia', fun j hj K => ?_, fun j hj y hy K hK => ?_⟩
    · have := hat' j (by omega)
      rw [List.getElem?_eq_getElem hj] at this
      rw [rd1_mk, hh']
      simp only [this]
    · have hiF : i < F.length := by omega
      have hfl := flat_len h4
      have hlt : i * k + j < F.flatten.length := by
        have : (i + 1) * k ≤ F.length * k := Nat.mul_le_mul_right _ hiF
        rw [Nat.succ_mul] at this
        omega
      have hrowF : F[i] = rows[i] := by
        have e : rows[i]? = F[i]? := by rw [← h5, List.getElem?_take_of_lt (by omega)]
        rw [List.getElem?_eq_getElem hi, List.getElem?_eq_getElem hiF] at e
        injection e with e
        exact e.symm
      rw [wr1_mk, h3]
      refine ⟨⟨by simpa [-List.length_flatten] using hlt, by rw [okFr0]; trivial⟩, ?_⟩
      have e : F.flatten.toArray.setIfInBounds (i * k + j) y = (F.set i (F[i].set j y)).flatten.toArray := by
        rw [← set_flat h4 hiF hj]; simp
      rw [e]
      refine hK _ ((Kp.refl _ _).setBlk (.inl (by rw [h2]; simp)) _) (.inr ⟨bl', F.set i (F[i].set j y), T, by rw [h1]; simp, h2, heap_self (live_of h3), fun x hx => ?_, ?_, by simpa using h6⟩)
      · rcases List.mem_or_eq_of_mem_set hx with hx | hx
        · exact h4 x hx
        · rw [hx, List.length_set]; exact h4 _ (List.getElem_mem hiF)
      · rw [List.length_set, List.take_set, h5, hrowF]
/-- the same of rows of things -/
theorem RowsAt.updM {α : Type} {f : α → List Value} {L : List α} {w : World} {v : Value} {k : Nat} {S : List Nat} (h : RowsAt w v k (L.map f) S) {i : Nat} (hi : i < L.length) :
    ∃ bl, S = [bl] ∧ (∀ K, ia k v (.int .i64 i) K = K (.pointer (some ⟨bl, i * k, none⟩))) ∧ (∀ j x, (f L[i])[j]? = some x → ∀ K, ld1 (.pointer (some ⟨bl, i * k + j, none⟩)) w K = K x) ∧
      ∀ j, j < k → ∀ y a, one y = true → f a = (f L[i]).set j y → ∀ K : World → Prop, (∀ w', Kp S w w' → RowsAt w' v k ((L.set i a).map f) S → K w') → st1 (.pointer (some ⟨bl, i * k + j, none⟩)) y w K := by
  have hi' : i < (L.map f).length := by simpa using hi
  obtain ⟨bl, h1, h2, h3, h4⟩ := h.upd hi'
  have e : (L.map f)[i] = f L[i] := by simp
  refine ⟨bl, h1, fun K => h2 .i64 K, fun j x hx K => ?_, fun j hj y a hy hf K hK => ?_⟩
  · obtain ⟨hj, hx⟩ := List.getElem?_eq_some_iff.1 hx
    rw [ld1_p, h3 j (by rw [e]; exact hj)]
    have : (L.map f)[i][j]'(by rw [e]; exact hj) = x := by rw [← hx]; congr 1
    rw [this]
  · rw [st1_p]
    refine ⟨hy, h4 j hj y hy K fun w' hk hr => hK w' hk ?_⟩
    rw [List.map_set, hf, ← e]
    exact hr
/-- the same, later -/
theorem RowsAt.updK {α : Type} {f : α → List Value} {L : List α} {w : World} {v : Value} {k : Nat} {S : List Nat} (h : RowsAt w v k (L.map f) S) {i : Nat} (hi : i < L.length) :
    ∃ bl, S = [bl] ∧ (∀ K, ia k v (.int .i64 i) K = K (.pointer (some ⟨bl, i * k, none⟩))) ∧ (∀ w1, Kp [] w w1 → ∀ j x, (f L[i])[j]? = some x → ∀ K, ld1 (.pointer (some ⟨bl, i * k + j, none⟩)) w1 K = K x) ∧
      ∀ w1, Kp [] w w1 → ∀ j, j < k → ∀ y a, one y = true → f a = (f L[i]).set j y → ∀ K : World → Prop, (∀ w', Kp S w1 w' → RowsAt w' v k ((L.set i a).map f) S → K w') → st1 (.pointer (some ⟨bl, i * k + j, none⟩)) y w1 K := by
  obtain ⟨bl, h1, h2, _, _⟩ := h.updM hi
  refine ⟨bl, h1, h2, fun w1 hk j x hx K => ?_, fun w1 hk j hj y a hy hf K hK => ?_⟩
  · obtain ⟨bl', g1, _, g3, _⟩ := (h.keep hk (by simp)).updM hi
    have : bl' = bl := by rw [h1] at g1; simpa using g1.symm
    subst this
    exact g3 j x hx K
  · obtain ⟨bl', g1, _, _, g4⟩ := (h.keep hk (by simp)).updM hi
    have : bl' = bl := by rw [h1] at g1; simpa using g1.symm
    subst this
    exact g4 j hj y a hy hf K hK
theorem rep_rows {k : Nat} {z : List Value} (hk : 0 < k) (hz : z.length = k) (n : Nat) : rep z.toArray (n * k) = (List.replicate n z).flatten.toArray := by
  apply Array.ext
  · simp [rep, hz]
  · intro i h1 h2
    have hi : i < n * k := by simpa [rep] using h1
    simp only [rep, Array.getElem_map, Array.getElem_range, List.size_toArray, hz]
    have hm : i % k < k := Nat.mod_lt _ hk
    have hd : i / k < n := (Nat.div_lt_iff_lt_mul hk).2 hi
    have hfl : ((List.replicate n z).flatten.drop ((i / k) * k)).take k = z := by
      rw [flat_get (k := k) (by intro x hx; rw [List.mem_replicate] at hx; rw [hx.2, hz]) (by simpa using hd)]
      simp
    have hidx : i / k * k + i % k = i := by rw [Nat.mul_comm]; exact Nat.div_add_mod i k
    have e2 := congrArg (fun l => l[i % k]?) hfl
    simp only [List.getElem?_take_of_lt hm, List.getElem?_drop, hidx] at e2
    have h2' : i < (List.replicate n z).flatten.length := by simpa using h2
    rw [List.getElem?_eq_getElem h2', List.getElem?_eq_getElem (by omega)] at e2
    injection e2 with e2
    rw [List.getElem_toArray, e2]
    simp [hz, hm]
end Go.Q

/- Maps whose keys are pairs of texts: what each operation does. -/
set_option linter.unusedVariables false
set_option linter.unusedSimpArgs false
namespace Go.Q
open Go
structure ME where
  a : List UInt8
  b : List UInt8
  v : Value
def keyV (a b : List UInt8) : Value := .agg #[.string (str a), .string (str b)]
def entsFrom : Nat → List ME → List MapEntry
  | _, [] => []
  | i, e :: r => ⟨keyV e.a e.b, e.v, i⟩ :: entsFrom (i + 1) r
/-- a map's entries, in the order in which they came -/
def MapIs (w : World) (n : Nat) (m : List ME) : Prop := w.heap[n]? = some (.map (entsFrom 0 m).toArray m.length)
/-- what is asked of the types of a map -/
structure MapT (P : Program) (T kt et : TypeId) (z : Value) : Prop where
  hm : P.underlying T = some (.map kt et)
  wide : (match P.underlying kt with | some (.array _ _) | some (.struct _) => true | _ => false) = true
  ck : ∀ e a b w, (Instr.checkKey e 10000 kt (keyV a b)).run P w = .ok () w
  eq : ∀ a b c d w, (Op.equal kt (keyV a b) (keyV c d)).run P w = .ok (decide (a = c ∧ b = d)) w
  zv : ∀ w, (zeroValue et).run P w = .ok z w
def findE (a b : List UInt8) : List ME → Nat → Option (Nat × Value)
  | [], _ => none
  | e :: r, i => if a = e.a ∧ b = e.b then some (i, e.v) else findE a b r (i + 1)
section
variable {P : Program} {T kt et : TypeId} {z : Value} {w : World} {n : Nat} {m : List ME} {a b : List UInt8}
theorem MapIs.keep {w' : World} {S : List Nat} (h : MapIs w n m) (hk : Kp S w w') (hn : n ∉ S) : MapIs w' n m := hk.get h hn
theorem asking (h : MapT P T kt et z) : ∀ (m : List ME) (i j : Nat), (Instr.findAsking kt (keyV a b) (entsFrom i m) j).run P w = .ok (findE a b m j) w := by
  intro m
  induction m with
  | nil => intro i j; rfl
  | cons e r ih =>
    intro i j
    simp only [entsFrom, Instr.findAsking, Sem.run_bind, h.eq, Result.andThen_ok, findE]
    by_cases hc : a = e.a ∧ b = e.b
    · simp [hc, Sem.run, pure]
    · simp [hc, ih]
theorem finding (h : MapT P T kt et z) : (Instr.findKey kt (keyV a b) (entsFrom 0 m)).run P w = .ok (findE a b m 0) w := by
  rw [run_findKey_eq w h.wide, asking h]
theorem eG_of {s : Sem Value} {w w' : World} {v : Value} {K : Value → World → Prop} (h : s.run P w = .ok v w') (hK : K v w') : eG P s w K := ⟨v, w', h, hK⟩
theorem uG_of {s : Sem Unit} {w w' : World} {K : World → Prop} (h : s.run P w = .ok () w') (hK : K w') : uG P s w K := ⟨w', h, hK⟩
end
end Go.Q

/- Plain: operations as rows, and back. -/
set_option linter.unusedVariables false
set_option linter.unusedSimpArgs false
namespace Go.Q
structure OpV.Wf (o : OpV) : Prop where
  k0 : -9223372036854775808 ≤ o.k
  k1 : o.k < 9223372036854775808
  q0 : -9223372036854775808 ≤ o.q
  q1 : o.q < 9223372036854775808
  i0 : -9223372036854775808 ≤ o.id
  i1 : o.id < 9223372036854775808
  d0 : -9223372036854775808 ≤ o.due
  d1 : o.due < 9223372036854775808
theorem list6 {α : Type} {r : List α} (h : r.length = 6) : ∃ a b c d e f, r = [a, b, c, d, e, f] := by
  match r, h with
  | [a, b, c, d, e, f], _ => exact ⟨a, b, c, d, e, f, rfl⟩
end Go.Q

/- Plain: holds, movements and stocks as rows, and back. -/
set_option linter.unusedVariables false
set_option linter.unusedSimpArgs false
namespace Go.Q
structure HV where
  id : Int
  sku : List UInt8
  loc : List UInt8
  q : Int
  st : Int
  due : Int
  deriving DecidableEq
structure SV where
  sku : List UInt8
  loc : List UInt8
  hand : Int
  held : Int
  deriving DecidableEq
def hZ : HV := ⟨0, [], [], 0, 0, 0⟩
def v0 : V3 := ⟨0, 0, []⟩
def mkS (r : List V3) : SV := ⟨(r.getD 0 v0).s, (r.getD 1 v0).s, (r.getD 2 v0).n, (r.getD 3 v0).n⟩
end Go.Q

/- Plain: a ledger of stocks, holds and movements; what an operation makes of it. -/
set_option linter.unusedVariables false
set_option linter.unusedSimpArgs false
namespace Go.Q
def lexL (a b : List UInt8) : Bool := Op.bytesLess a b
theorem lexL_nil (a : List UInt8) : lexL a [] = false := by cases a <;> rfl
theorem lexL_cons (a b : UInt8) (x y : List UInt8) : lexL (a :: x) (b :: y) = (decide (a < b) || (a == b && lexL x y)) := rfl
theorem lexL_irrefl : ∀ a : List UInt8, lexL a a = false := by
  intro a
  induction a with
  | nil => rfl
  | cons a x ih => rw [lexL_cons, ih]; simp
theorem lexL_trans : ∀ {a b c : List UInt8}, lexL a b = true → lexL b c = true → lexL a c = true := by
  intro a
  induction a with
  | nil =>
    intro b c h1 h2
    cases c with
    | nil => rw [lexL_nil] at h2; cases h2
    | cons c z => rfl
  | cons a x ih =>
    intro b c h1 h2
    cases b with
    | nil => rw [lexL_nil] at h1; cases h1
    | cons b y =>
      cases c with
      | nil => rw [lexL_nil] at h2; cases h2
      | cons c z =>
        rw [lexL_cons] at h1 h2 ⊢
        simp only [Bool.or_eq_true, decide_eq_true_eq, Bool.and_eq_true, beq_iff_eq] at h1 h2 ⊢
        rcases h1 with h1 | ⟨rfl, h1⟩ <;> rcases h2 with h2 | ⟨rfl, h2⟩
        · exact .inl (UInt8.lt_trans h1 h2)
        · exact .inl h1
        · exact .inl h2
        · exact .inr ⟨rfl, ih h1 h2⟩
theorem lexL_tri : ∀ {a b : List UInt8}, lexL a b = false → lexL b a = false → a = b := by
  intro a
  induction a with
  | nil =>
    intro b h1 h2
    cases b with
    | nil => rfl
    | cons b y => cases h1
  | cons a x ih =>
    intro b h1 h2
    cases b with
    | nil => cases h2
    | cons b y =>
      rw [lexL_cons] at h1 h2
      simp only [Bool.or_eq_false_iff, decide_eq_false_iff_not, Bool.and_eq_false_iff, beq_eq_false_iff_ne] at h1 h2
      have hab : a = b := by
        have g1 := UInt8.not_lt.1 h1.1
        have g2 := UInt8.not_lt.1 h2.1
        exact UInt8.le_antisymm g2 g1
      subst hab
      have e1 : lexL x y = false := by
        rcases h1.2 with h | h
        · exact absurd rfl h
        · exact h
      have e2 : lexL y x = false := by
        rcases h2.2 with h | h
        · exact absurd rfl h
        · exact h
      rw [ih e1 e2]
theorem lexL_asymm {a b : List UInt8} (h : lexL a b = true) : lexL b a = false := by
  cases h2 : lexL b a with
  | false => rfl
  | true => have := lexL_trans h h2; rw [lexL_irrefl] at this; cases this
/-! ### places -/
def ahead (a b : SV) : Bool := lexL a.sku b.sku || (decide (a.sku = b.sku) && lexL a.loc b.loc)
def atP (s : SV) (sku loc : List UInt8) : Bool := decide (s.sku = sku ∧ s.loc = loc)
theorem ahead_irrefl (a : SV) : ahead a a = false := by simp [ahead, lexL_irrefl]
theorem ahead_trans {a b c : SV} (h1 : ahead a b = true) (h2 : ahead b c = true) : ahead a c = true := by
  simp only [ahead, Bool.or_eq_true, Bool.and_eq_true, decide_eq_true_eq] at h1 h2 ⊢
  rcases h1 with h1 | ⟨e1, h1⟩ <;> rcases h2 with h2 | ⟨e2, h2⟩
  · exact .inl (lexL_trans h1 h2)
  · exact .inl (e2 ▸ h1)
  · exact .inl (e1 ▸ h2)
  · exact .inr ⟨e1.trans e2, lexL_trans h1 h2⟩
theorem ahead_tri {a b : SV} (h1 : ahead a b = false) (h2 : ahead b a = false) : a.sku = b.sku ∧ a.loc = b.loc := by
  simp only [ahead, Bool.or_eq_false_iff, Bool.and_eq_false_iff, decide_eq_false_iff_not] at h1 h2
  have e := lexL_tri h1.1 h2.1
  refine ⟨e, ?_⟩
  have g1 : lexL a.loc b.loc = false := by
    rcases h1.2 with h | h
    · exact absurd e h
    · exact h
  have g2 : lexL b.loc a.loc = false := by
    rcases h2.2 with h | h
    · exact absurd e.symm h
    · exact h
  exact lexL_tri g1 g2
/-- places matter, numbers do not -/
theorem ahead_key {a b a' b' : SV} (h1 : a.sku = a'.sku) (h2 : a.loc = a'.loc) (h3 : b.sku = b'.sku) (h4 : b.loc = b'.loc) : ahead a b = ahead a' b' := by simp only [ahead, h1, h2, h3, h4]
def Sorted (l : List SV) : Prop := l.Pairwise fun a b => ahead a b = true
/-! ### the ledger -/
structure LV where
  st : List SV
  ho : List HV
  mo : List HV
  ops : Int
  deriving DecidableEq
def fits (n : Int) : Bool := decide (-9223372036854775808 ≤ n ∧ n ≤ 9223372036854775807)
def findS (l : List SV) (sku loc : List UInt8) : SV := (l.find? fun s => atP s sku loc).getD ⟨sku, loc, 0, 0⟩
def putS : List SV → SV → List SV
  | [], s => [s]
  | x :: r, s => if ahead x s = true then x :: putS r s else if x.sku = s.sku ∧ x.loc = s.loc then s :: r else s :: x :: r
def w64i (n : Int) : Int := IntKind.i64.wrap n
def heldL (l : LV) (sku loc : List UInt8) (n : Int) : LV := { l with st := putS l.st { findS l.st sku loc with held := w64i ((findS l.st sku loc).held + n) } }
def stateL (l : LV) (k : Nat) (n : Int) : LV := { l with ho := l.ho.set k { l.ho.getD k hZ with st := n } }
def fullL (l : LV) : Bool := decide (4096 < l.st.length ∨ 4096 < l.ho.length ∨ 4096 < l.mo.length)
/-! ### may a ledger be? -/
def activeQ (ho : List HV) (sku loc : List UInt8) : Int := (ho.map fun h => if h.sku = sku ∧ h.loc = loc ∧ h.st = 0 then h.q else 0).sum
def movedQ (mo : List HV) (sku loc : List UInt8) : Int := (mo.map fun m => if m.sku = sku ∧ m.loc = loc then m.q else 0).sum
def stockOk (l : LV) (s : SV) : Bool := nameOk s.sku && nameOk s.loc && decide (0 ≤ s.held ∧ s.held ≤ s.hand) && fits s.hand && decide (s.held = activeQ l.ho s.sku s.loc ∧ s.hand = movedQ l.mo s.sku s.loc)
def knownL (l : LV) (sku loc : List UInt8) : Bool := l.st.any fun s => atP s sku loc
def holdOk (l : LV) (k : Nat) (h : HV) : Bool :=
  decide (h.id = (k + 1 : Nat)) && nameOk h.sku && nameOk h.loc && decide (1 ≤ h.q ∧ 0 ≤ h.st ∧ h.st ≤ 2 ∧ 0 ≤ h.due) && (decide (h.st ≠ 0) || knownL l h.sku h.loc)
def moveOk (l : LV) (k : Nat) (m : HV) : Bool :=
  decide (m.id = (k + 1 : Nat)) && nameOk m.sku && nameOk m.loc && fits m.q && decide (m.q ≠ 0) && decide (m.st = 1 ∨ m.st = 3 ∨ m.st = 6 ∨ m.st = 7) && decide (0 ≤ m.due) && (decide (m.due ≠ 0) == decide (m.st = 3)) && knownL l m.sku m.loc
/-- a ledger that may be -/
structure May (l : LV) : Prop where
  ops : 0 ≤ l.ops
  few : fullL l = false
  sorted : Sorted l.st
  stocks : ∀ s ∈ l.st, stockOk l s = true
  holds : ∀ k (h : k < l.ho.length), holdOk l k l.ho[k] = true
  moves : ∀ k (h : k < l.mo.length), moveOk l k l.mo[k] = true
/-! ### finding and putting -/
theorem findS_key (l : List SV) (sku loc : List UInt8) : (findS l sku loc).sku = sku ∧ (findS l sku loc).loc = loc := by
  unfold findS
  cases h : l.find? fun s => atP s sku loc with
  | none => exact ⟨rfl, rfl⟩
  | some s =>
    have := List.find?_some h
    simpa [atP] using this
theorem putS_mem {l : List SV} {s x : SV} (h : x ∈ putS l s) : x = s ∨ (x ∈ l) := by
  induction l with
  | nil => simp [putS] at h; exact .inl h
  | cons y r ih =>
    unfold putS at h
    split at h
    · rcases List.mem_cons.1 h with rfl | h
      · exact .inr (by simp)
      · rcases ih h with h | h
        · exact .inl h
        · exact .inr (by simp [h])
    · split at h
      · rcases List.mem_cons.1 h with rfl | h
        · exact .inl rfl
        · exact .inr (by simp [h])
      · rcases List.mem_cons.1 h with rfl | h
        · exact .inl rfl
        · exact .inr h
theorem putS_self (l : List SV) (s : SV) : s ∈ putS l s := by
  induction l with
  | nil => simp [putS]
  | cons y r ih =>
    unfold putS
    split
    · simp [ih]
    · split <;> simp
/-- what stands elsewhere stays -/
theorem putS_keep {l : List SV} {s x : SV} (h : x ∈ l) (hk : ¬(x.sku = s.sku ∧ x.loc = s.loc)) : x ∈ putS l s := by
  induction l with
  | nil => cases h
  | cons y r ih =>
    unfold putS
    rcases List.mem_cons.1 h with rfl | h
    · split
      · simp
      · first | (rw [if_neg hk]; simp) | simp
    · split
      · simp [ih h]
      · split
        · simp [h]
        · simp [h]
theorem putS_sorted {l : List SV} {s : SV} (h : Sorted l) : Sorted (putS l s) := by
  induction l with
  | nil => simp [putS, Sorted]
  | cons y r ih =>
    have hr := List.pairwise_cons.1 h
    unfold putS
    split
    · rename_i hy
      refine List.pairwise_cons.2 ⟨fun x hx => ?_, ih hr.2⟩
      rcases putS_mem hx with rfl | hx
      · exact hy
      · exact hr.1 x hx
    · rename_i hy
      have hy : ahead y s = false := by simpa using hy
      split
      · rename_i hk
        refine List.pairwise_cons.2 ⟨fun x hx => ?_, hr.2⟩
        have := hr.1 x hx
        rwa [ahead_key (b' := x) hk.1 hk.2 rfl rfl] at this
      · rename_i hk
        have hsy : ahead s y = true := by
          cases hc : ahead s y with
          | true => rfl
          | false => exact absurd (ahead_tri hy hc) hk
        refine List.pairwise_cons.2 ⟨fun x hx => ?_, h⟩
        rcases List.mem_cons.1 hx with rfl | hx
        · exact hsy
        · exact ahead_trans hsy (hr.1 x hx)
/-- in a sorted list a place stands once -/
theorem sorted_uniq {l : List SV} (h : Sorted l) {a b : SV} (ha : a ∈ l) (hb : b ∈ l) (hk : a.sku = b.sku ∧ a.loc = b.loc) : a = b := by
  induction l with
  | nil => cases ha
  | cons y r ih =>
    have hr := List.pairwise_cons.1 h
    have ne : ∀ x ∈ r, ¬(y.sku = x.sku ∧ y.loc = x.loc) := fun x hx hk => by
      have := hr.1 x hx
      rw [ahead_key (a' := x) (b' := x) hk.1 hk.2 rfl rfl, ahead_irrefl] at this
      cases this
    rcases List.mem_cons.1 ha with rfl | ha <;> rcases List.mem_cons.1 hb with rfl | hb
    · rfl
    · exact absurd hk (ne b hb)
    · exact absurd ⟨hk.1.symm, hk.2.symm⟩ (ne a (by assumption))
    · exact ih hr.2 ha hb
theorem findS_of_mem {l : List SV} (h : Sorted l) {s : SV} (hs : s ∈ l) : findS l s.sku s.loc = s := by
  unfold findS
  cases hf : l.find? fun x => atP x s.sku s.loc with
  | none =>
    have := List.find?_eq_none.1 hf s hs
    simp [atP] at this
  | some x =>
    have h1 := List.mem_of_find?_eq_some hf
    have h2 := List.find?_some hf
    simp only [atP, decide_eq_true_eq] at h2
    exact sorted_uniq h h1 hs h2
theorem findS_none {l : List SV} {sku loc : List UInt8} (h : ∀ s ∈ l, ¬(s.sku = sku ∧ s.loc = loc)) : findS l sku loc = ⟨sku, loc, 0, 0⟩ := by
  unfold findS
  rw [List.find?_eq_none.2 (fun x hx => by simpa [atP] using h x hx)]
  rfl
theorem known_find {l : LV} {sku loc : List UInt8} : knownL l sku loc = true ↔ ∃ s ∈ l.st, s.sku = sku ∧ s.loc = loc := by simp [knownL, atP]
end Go.Q

/- Plain: a ledger that may be is one that may be behind each operation. -/
set_option linter.unusedVariables false
set_option linter.unusedSimpArgs false
namespace Go.Q
abbrev Pl := List UInt8 → List UInt8 → Int
/-- stocks that are as two sums say -/
structure MayF (st : List SV) (H M : Pl) : Prop where
  sorted : Sorted st
  ok : ∀ s ∈ st, nameOk s.sku = true ∧ nameOk s.loc = true ∧ fits s.hand = true ∧ 0 ≤ s.held ∧ s.held ≤ s.hand ∧ s.held = H s.sku s.loc ∧ s.hand = M s.sku s.loc
  none : ∀ sku loc, (∀ s ∈ st, ¬(s.sku = sku ∧ s.loc = loc)) → H sku loc = 0 ∧ M sku loc = 0
theorem MayF.find {st : List SV} {H M : Pl} (h : MayF st H M) (sku loc : List UInt8) :
    (findS st sku loc).held = H sku loc ∧ (findS st sku loc).hand = M sku loc ∧ 0 ≤ (findS st sku loc).held ∧ (findS st sku loc).held ≤ (findS st sku loc).hand ∧ fits (findS st sku loc).hand = true := by
  by_cases hx : ∃ s ∈ st, s.sku = sku ∧ s.loc = loc
  · obtain ⟨s, hs, rfl, rfl⟩ := hx
    rw [findS_of_mem h.sorted hs]
    obtain ⟨_, _, h1, h2, h3, h4, h5⟩ := h.ok s hs
    exact ⟨h4, h5, h2, h3, h1⟩
  · have hx' : ∀ s ∈ st, ¬(s.sku = sku ∧ s.loc = loc) := fun s hs hk => hx ⟨s, hs, hk⟩
    rw [findS_none hx']
    have := h.none sku loc hx'
    exact ⟨this.1.symm, this.2.symm, Int.le_refl _, Int.le_refl _, rfl⟩
def updP (H : Pl) (sku loc : List UInt8) (n : Int) : Pl := fun a b => if sku = a ∧ loc = b then n else H a b
theorem MayF.put {st : List SV} {H M : Pl} (h : MayF st H M) (s : SV) (h1 : nameOk s.sku = true) (h2 : nameOk s.loc = true) (h3 : fits s.hand = true) (h4 : 0 ≤ s.held) (h5 : s.held ≤ s.hand) :
    MayF (putS st s) (updP H s.sku s.loc s.held) (updP M s.sku s.loc s.hand) := by
  refine ⟨putS_sorted h.sorted, fun x hx => ?_, fun sku loc hn => ?_⟩
  · by_cases hk : s.sku = x.sku ∧ s.loc = x.loc
    · have : x = s := sorted_uniq (putS_sorted h.sorted) hx (putS_self st s) ⟨hk.1.symm, hk.2.symm⟩
      subst this
      exact ⟨h1, h2, h3, h4, h5, by simp [updP], by simp [updP]⟩
    · rcases putS_mem hx with rfl | hx
      · exact absurd ⟨rfl, rfl⟩ hk
      · obtain ⟨g1, g2, g3, g4, g5, g6, g7⟩ := h.ok x hx
        exact ⟨g1, g2, g3, g4, g5, by rw [updP, if_neg hk]; exact g6, by rw [updP, if_neg hk]; exact g7⟩
  · have hk : ¬(s.sku = sku ∧ s.loc = loc) := hn s (putS_self st s)
    have := h.none sku loc fun x hx hxk => hn x (putS_keep hx fun hh => hk ⟨hh.1.symm.trans hxk.1, hh.2.symm.trans hxk.2⟩) hxk
    exact ⟨by rw [updP, if_neg hk]; exact this.1, by rw [updP, if_neg hk]; exact this.2⟩
theorem MayF.congr {st : List SV} {H M H' M' : Pl} (h : MayF st H M) (hH : ∀ a b, H a b = H' a b) (hM : ∀ a b, M a b = M' a b) : MayF st H' M' := by
  have e1 : H = H' := funext fun a => funext fun b => hH a b
  have e2 : M = M' := funext fun a => funext fun b => hM a b
  exact e1 ▸ e2 ▸ h
theorem fits_iff {n : Int} : fits n = true ↔ -9223372036854775808 ≤ n ∧ n ≤ 9223372036854775807 := by simp [fits]
theorem w64i_eq {n : Int} (h : fits n = true) : w64i n = n := by
  have := fits_iff.1 h
  exact wrap64 _ (by omega) (by omega)
/-! ### sums -/
/-! ### a ledger that may be, in these words -/
theorem May.f {l : LV} (h : May l) : MayF l.st (activeQ l.ho) (movedQ l.mo) := by
  refine ⟨h.sorted, fun s hs => ?_, fun sku loc hn => ⟨?_, ?_⟩⟩
  · have := h.stocks s hs
    simp only [stockOk, Bool.and_eq_true, decide_eq_true_eq] at this
    obtain ⟨⟨⟨⟨h1, h2⟩, h3, h4⟩, h5⟩, h6, h7⟩ := this
    exact ⟨h1, h2, h5, h3, h4, h6, h7⟩
  · have : ∀ x ∈ l.ho, (if x.sku = sku ∧ x.loc = loc ∧ x.st = 0 then x.q else 0) = 0 := by
      intro x hx
      obtain ⟨k, hk, rfl⟩ := List.getElem_of_mem hx
      rw [if_neg]
      rintro ⟨h1, h2, h3⟩
      have := h.holds k hk
      simp only [holdOk, Bool.and_eq_true, Bool.or_eq_true, decide_eq_true_eq] at this
      rcases this.2 with h4 | h4
      · exact h4 h3
      · obtain ⟨s, hs, h5, h6⟩ := known_find.1 h4
        exact hn s hs ⟨h5.trans h1, h6.trans h2⟩
    unfold activeQ
    rw [List.map_congr_left this]
    generalize l.ho = z
    induction z with
    | nil => rfl
    | cons y r ih => simp at ih ⊢; exact ih
  · have : ∀ x ∈ l.mo, (if x.sku = sku ∧ x.loc = loc then x.q else 0) = 0 := by
      intro x hx
      obtain ⟨k, hk, rfl⟩ := List.getElem_of_mem hx
      rw [if_neg]
      rintro ⟨h1, h2⟩
      have := h.moves k hk
      simp only [moveOk, Bool.and_eq_true, decide_eq_true_eq] at this
      obtain ⟨s, hs, h5, h6⟩ := known_find.1 this.2
      exact hn s hs ⟨h5.trans h1, h6.trans h2⟩
    unfold movedQ
    rw [List.map_congr_left this]
    generalize l.mo = z
    induction z with
    | nil => rfl
    | cons y r ih => simp at ih ⊢; exact ih
/-- all but how many there are -/
structure Mst (l : LV) (H M : Pl) : Prop where
  f : MayF l.st H M
  holds : ∀ k (h : k < l.ho.length), holdOk l k l.ho[k] = true
  moves : ∀ k (h : k < l.mo.length), moveOk l k l.mo[k] = true
theorem May.m {l : LV} (h : May l) : Mst l (activeQ l.ho) (movedQ l.mo) := ⟨h.f, h.holds, h.moves⟩
theorem Mst.may {l : LV} (h : Mst l (activeQ l.ho) (movedQ l.mo)) (ho : 0 ≤ l.ops) (hf : fullL l = false) : May l := by
  refine ⟨ho, hf, h.f.sorted, fun s hs => ?_, h.holds, h.moves⟩
  obtain ⟨h1, h2, h3, h4, h5, h6, h7⟩ := h.f.ok s hs
  simp [stockOk, h1, h2, h3, h4, h5, ← h6, ← h7]
theorem known_put {l : LV} {s : SV} {sku loc : List UInt8} (h : knownL l sku loc = true) : knownL { l with st := putS l.st s } sku loc = true := by
  obtain ⟨x, hx, h1, h2⟩ := known_find.1 h
  by_cases hk : x.sku = s.sku ∧ x.loc = s.loc
  · exact known_find.2 ⟨s, putS_self _ _, hk.1.symm.trans h1, hk.2.symm.trans h2⟩
  · exact known_find.2 ⟨x, putS_keep hx hk, h1, h2⟩
theorem holdOk_put {l : LV} {s : SV} {k : Nat} {h : HV} (hh : holdOk l k h = true) : holdOk { l with st := putS l.st s } k h = true := by
  simp only [holdOk, Bool.and_eq_true, Bool.or_eq_true] at hh ⊢
  exact ⟨hh.1, hh.2.imp id known_put⟩
theorem moveOk_put {l : LV} {s : SV} {k : Nat} {h : HV} (hh : moveOk l k h = true) : moveOk { l with st := putS l.st s } k h = true := by
  simp only [moveOk, Bool.and_eq_true] at hh ⊢
  exact ⟨hh.1, known_put hh.2⟩
theorem Mst.put {l : LV} {H M : Pl} (h : Mst l H M) (s : SV) (h1 : nameOk s.sku = true) (h2 : nameOk s.loc = true) (h3 : fits s.hand = true) (h4 : 0 ≤ s.held) (h5 : s.held ≤ s.hand) :
    Mst { l with st := putS l.st s } (updP H s.sku s.loc s.held) (updP M s.sku s.loc s.hand) :=
  ⟨h.f.put s h1 h2 h3 h4 h5, fun k hk => holdOk_put (h.holds k hk), fun k hk => moveOk_put (h.moves k hk)⟩
theorem Mst.find_eq {l : LV} {H M : Pl} (h : Mst l H M) (sku loc : List UInt8) : findS l.st sku loc = ⟨sku, loc, M sku loc, H sku loc⟩ := by
  obtain ⟨g1, g2, _⟩ := h.f.find sku loc
  obtain ⟨k1, k2⟩ := findS_key l.st sku loc
  cases hs : findS l.st sku loc with
  | mk a b c d => rw [hs] at g1 g2 k1 k2; simp only at g1 g2 k1 k2; rw [g1, g2, k1, k2]
/-- so many more, or fewer, are held -/
theorem Mst.held {l : LV} {H M : Pl} (h : Mst l H M) {sku loc : List UInt8} (h1 : nameOk sku = true) (h2 : nameOk loc = true) {n : Int} (h4 : 0 ≤ H sku loc + n) (h5 : H sku loc + n ≤ M sku loc) :
    Mst (heldL l sku loc n) (updP H sku loc (H sku loc + n)) M ∧ heldL l sku loc n = { l with st := putS l.st ⟨sku, loc, M sku loc, H sku loc + n⟩ } := by
  obtain ⟨g1, g2, g3, g4, g5⟩ := h.f.find sku loc
  have g6 := fits_iff.1 g5
  rw [g2] at g5 g6
  have hw : w64i (H sku loc + n) = H sku loc + n := w64i_eq (fits_iff.2 (by omega))
  have e : heldL l sku loc n = { l with st := putS l.st ⟨sku, loc, M sku loc, H sku loc + n⟩ } := by
    unfold heldL
    rw [h.find_eq]
    simp only [hw]
  have := h.put ⟨sku, loc, M sku loc, H sku loc + n⟩ h1 h2 g5 h4 h5
  rw [e]
  refine ⟨⟨this.f.congr (fun _ _ => rfl) fun a b => ?_, this.holds, this.moves⟩, rfl⟩
  unfold updP
  split
  · rename_i hk; obtain ⟨rfl, rfl⟩ := hk; rfl
  · rfl
/-- a hold in another state -/
theorem Mst.state {l : LV} {H M : Pl} (h : Mst l H M) {k : Nat} (hk : k < l.ho.length) {n : Int} (hn : 1 ≤ n ∧ n ≤ 2) : Mst (stateL l k n) H M := by
  unfold stateL
  refine ⟨h.f, fun j hj => ?_, h.moves⟩
  simp only [List.length_set] at hj
  have hg : l.ho.getD k hZ = l.ho[k] := by simp [List.getD, hk]
  simp only [hg]
  by_cases he : k = j
  · subst he
    simp only [List.getElem_set_self]
    have := h.holds k hk
    simp only [holdOk, Bool.and_eq_true, Bool.or_eq_true, decide_eq_true_eq] at this ⊢
    obtain ⟨⟨⟨⟨h1, h2⟩, h3⟩, h4, h5, h6, h7⟩, h8⟩ := this
    exact ⟨⟨⟨⟨h1, h2⟩, h3⟩, h4, by omega, by omega, h7⟩, .inl (by omega)⟩
  · simp only [List.getElem_set_ne he]
    exact h.holds j hj
end Go.Q

/- Plain: each operation leaves a ledger that may be one that may be. -/
set_option linter.unusedVariables false
set_option linter.unusedSimpArgs false
namespace Go.Q
theorem Mst.congr {l : LV} {H M H' M' : Pl} (h : Mst l H M) (hH : ∀ a b, H a b = H' a b) (hM : ∀ a b, M a b = M' a b) : Mst l H' M' := ⟨h.f.congr hH hM, h.holds, h.moves⟩
end Go.Q

/- Maps from places to lists of numbers. -/
set_option linter.unusedVariables false
set_option linter.unusedSimpArgs false
namespace Go.Q
open Go
structure IE where
  a : List UInt8
  b : List UInt8
  ks : List Int
  v : Value
  S : List Nat
def IE.me (e : IE) : ME := ⟨e.a, e.b, e.v⟩
def blksI (R : List IE) : List Nat := (R.map (·.S)).flatten
structure IMap (wb w : World) (n : Nat) (R : List IE) : Prop where
  map : MapIs w n (R.map IE.me)
  rows : ∀ e ∈ R, RowsAt w e.v 1 (e.ks.map intV) e.S
  nd : (blksI R).Nodup
  new : ∀ x ∈ blksI R, wb.heap.size ≤ x
  old : n < wb.heap.size
  kp : Kp [n] wb w
section
variable {P : Program} {T kt et : TypeId} {z : Value} {wb w : World} {n : Nat} {R : List IE}
theorem IMap.keep {w' : World} (h : IMap wb w n R) (hk : Kp [] w w') : IMap wb w' n R :=
  ⟨h.map.keep hk (by simp), fun e he => (h.rows e he).keep hk (by simp), h.nd, h.new, h.old, h.kp.trans hk (by simp)⟩
end
/-- at each place of a list of stocks so many numbers -/
def Shape (R : List IE) (st : List SV) (f : List UInt8 → List UInt8 → List Int) : Prop := R.map (fun e => (e.a, e.b, e.ks)) = st.map fun s => (s.sku, s.loc, f s.sku s.loc)
theorem Shape.len {R : List IE} {st : List SV} {f : List UInt8 → List UInt8 → List Int} (h : Shape R st f) : R.length = st.length := by
  have := congrArg List.length h
  simpa using this
theorem Shape.at {R : List IE} {st : List SV} {f : List UInt8 → List UInt8 → List Int} (h : Shape R st f) {i : Nat} (hi : i < R.length) (hs : i < st.length) : R[i].a = st[i].sku ∧ R[i].b = st[i].loc ∧ R[i].ks = f st[i].sku st[i].loc := by
  have := congrArg (fun l => l[i]?) h
  simp only [List.getElem?_map, List.getElem?_eq_getElem hi, List.getElem?_eq_getElem hs, Option.map_some, Option.some.injEq, Prod.mk.injEq] at this
  exact this
theorem sorted_get {st : List SV} (h : Sorted st) {i j : Nat} (hi : i < st.length) (hj : j < st.length) (hne : i ≠ j) : ¬(st[i].sku = st[j].sku ∧ st[i].loc = st[j].loc) := by
  intro hk
  rcases Nat.lt_or_gt_of_ne hne with hlt | hlt
  · have := List.pairwise_iff_getElem.1 h i j hi hj hlt
    rw [ahead_key (a' := st[j]) (b' := st[j]) hk.1 hk.2 rfl rfl, ahead_irrefl] at this
    cases this
  · have := List.pairwise_iff_getElem.1 h j i hj hi hlt
    rw [ahead_key (a' := st[i]) (b' := st[i]) hk.1.symm hk.2.symm rfl rfl, ahead_irrefl] at this
    cases this
theorem Shape.uniq {R : List IE} {st : List SV} {f : List UInt8 → List UInt8 → List Int} (h : Shape R st f) (hs : Sorted st) {i j : Nat} (hi : i < R.length) (hj : j < R.length) (hne : i ≠ j) : ¬(R[i].a = R[j].a ∧ R[i].b = R[j].b) := by
  have hl := h.len
  obtain ⟨a1, b1, _⟩ := h.at hi (by omega)
  obtain ⟨a2, b2, _⟩ := h.at hj (by omega)
  rw [a1, b1, a2, b2]
  exact sorted_get hs _ _ hne
/-- a number more at one place -/
theorem Shape.add {R : List IE} {st : List SV} {f : List UInt8 → List UInt8 → List Int} (h : Shape R st f) (hs : Sorted st) {j : Nat} (hj : j < R.length) (q : Int) (v : Value) (S : List Nat) :
    Shape (R.set j { R[j] with ks := R[j].ks ++ [q], v := v, S := S }) st (fun x y => f x y ++ if R[j].a = x ∧ R[j].b = y then [q] else []) := by
  have hl := h.len
  unfold Shape
  apply List.ext_getElem?
  intro i
  simp only [List.getElem?_map]
  by_cases hi : i < st.length
  · have hiR : i < R.length := by omega
    obtain ⟨a1, b1, k1⟩ := h.at hiR hi
    rw [List.getElem?_eq_getElem hi, List.getElem?_eq_getElem (by simpa using hiR)]
    simp only [Option.map_some, Option.some.injEq, Prod.mk.injEq]
    by_cases hij : j = i
    · subst hij
      simp only [List.getElem_set_self]
      exact ⟨a1, b1, by rw [k1, if_pos ⟨a1, b1⟩]⟩
    · simp only [List.getElem_set_ne hij]
      refine ⟨a1, b1, ?_⟩
      rw [k1, if_neg]
      · simp
      · rintro ⟨e1, e2⟩
        exact h.uniq hs hj hiR hij ⟨e1.trans a1.symm, e2.trans b1.symm⟩
  · rw [List.getElem?_eq_none (by rw [List.length_set]; omega), List.getElem?_eq_none (by omega)]
    rfl
end Go.Q

/- A struct in a variable, of which some parts are slices of its own. -/
set_option linter.unusedVariables false
set_option linter.unusedSimpArgs false
namespace Go.Q
/-- a part of a struct is read -/
theorem ldF {w : World} {b j : Nat} {c : Array Value} {T : TypeId} {fr : Nat × Nat} {x : Value} (h : w.heap[b]? = some (.cells c T fr)) (hx : c[j]? = some x) {K : Value → Prop} : ld1 (.pointer (some ⟨b, j, none⟩)) w K = K x := by
  rw [ld1_p, rd1_mk, h]
  simp only [hx]
/-- a part of a struct is written -/
theorem stF {w : World} {b j : Nat} {c : Array Value} {T : TypeId} {x : Value} (h : w.heap[b]? = some (.cells c T (0, 0))) (hj : j < c.size) (hx : one x = true) {K : World → Prop} : st1 (.pointer (some ⟨b, j, none⟩)) x w K = K (setBlk w b (.cells (c.setIfInBounds j x) T)) := by
  rw [st1_p, wr1_mk, h]
  apply propext
  constructor
  · rintro ⟨_, _, hk⟩; exact hk
  · intro hk
    exact ⟨hx, ⟨hj, by rw [okFr0]; trivial⟩, hk⟩
structure Cmp where
  v : Value
  k : Nat
  rows : List (List Value)
  S : List Nat
def blksC (cs : List Cmp) : List Nat := (cs.map (·.S)).flatten
structure BoxAt (w : World) (x : Nat) (T : Nat) (cs : List Cmp) (tl : List Value) : Prop where
  cell : w.heap[x]? = some (.cells (cs.map (·.v) ++ tl).toArray T)
  rows : ∀ i (h : i < cs.length), RowsAt w cs[i].v cs[i].k cs[i].rows cs[i].S
  nd : (x :: blksC cs).Nodup
section
variable {w w' : World} {x T : Nat} {cs : List Cmp} {tl : List Value}
theorem blksC_mem {i : Nat} (hi : i < cs.length) {q : Nat} (hq : q ∈ cs[i].S) : q ∈ blksC cs := List.mem_flatten.2 ⟨_, List.mem_map.2 ⟨_, List.getElem_mem hi, rfl⟩, hq⟩
theorem blksC_set {i : Nat} {c : Cmp} {q : Nat} (h : q ∈ blksC (cs.set i c)) : q ∈ c.S ∨ ∃ j, ∃ hj : j < cs.length, j ≠ i ∧ q ∈ cs[j].S := by
  obtain ⟨r, hr, hq⟩ := List.mem_flatten.1 h
  obtain ⟨d, hd, rfl⟩ := List.mem_map.1 hr
  obtain ⟨j, hj, rfl⟩ := List.getElem_of_mem hd
  simp only [List.length_set] at hj
  by_cases he : i = j
  · subst he
    rw [List.getElem_set_self] at hq
    exact .inl hq
  · rw [List.getElem_set_ne he] at hq
    exact .inr ⟨j, hj, fun h => he h.symm, hq⟩
theorem nodup_flat {L : List (List Nat)} : L.flatten.Nodup ↔ (∀ l ∈ L, l.Nodup) ∧ L.Pairwise fun a b => ∀ x ∈ a, ∀ y ∈ b, x ≠ y := List.pairwise_flatten
theorem BoxAt.apart (h : BoxAt w x T cs tl) {i j : Nat} (hi : i < cs.length) (hj : j < cs.length) (hne : i ≠ j) {q : Nat} (hq : q ∈ cs[i].S) : q ∉ cs[j].S := by
  have h1 := (List.nodup_cons.1 h.nd).2
  have h2 := (nodup_flat.1 h1).2
  rw [List.pairwise_map] at h2
  intro hq'
  rcases Nat.lt_or_gt_of_ne hne with hlt | hlt
  · exact (List.pairwise_iff_getElem.1 h2 i j hi hj hlt) q hq q hq' rfl
  · exact (List.pairwise_iff_getElem.1 h2 j i hj hi hlt) q hq' q hq rfl
theorem BoxAt.x_not (h : BoxAt w x T cs tl) {i : Nat} (hi : i < cs.length) : x ∉ cs[i].S := fun hq => (List.nodup_cons.1 h.nd).1 (blksC_mem hi hq)
theorem BoxAt.lt (h : BoxAt w x T cs tl) : ∀ q ∈ x :: blksC cs, q < w.heap.size := by
  intro q hq
  rcases List.mem_cons.1 hq with rfl | hq
  · exact lt_of_blk h.cell
  · obtain ⟨r, hr, hq⟩ := List.mem_flatten.1 hq
    obtain ⟨d, hd, rfl⟩ := List.mem_map.1 hr
    obtain ⟨j, hj, rfl⟩ := List.getElem_of_mem hd
    exact (h.rows j hj).lt q hq
theorem BoxAt.keepS {S : List Nat} (h : BoxAt w x T cs tl) (hk : Kp S w w') (hS : ∀ q ∈ x :: blksC cs, q ∉ S) : BoxAt w' x T cs tl :=
  ⟨hk.get h.cell (hS x (by simp)), fun i hi => (h.rows i hi).keep hk fun q hq => hS q (by simp [blksC_mem hi hq]), h.nd⟩
theorem BoxAt.keep (h : BoxAt w x T cs tl) (hk : Kp [] w w') : BoxAt w' x T cs tl := h.keepS hk (by simp)
theorem BoxAt.ld (h : BoxAt w x T cs tl) {n : Nat} (hn : n = cs.length + tl.length) {K : Value → Prop} : ldn n (.pointer (some ⟨x, 0, none⟩)) w K = K (.agg (cs.map (·.v) ++ tl).toArray) := by
  have hs : ((cs.map (·.v) ++ tl).toArray).size = n := by simp [hn]
  rw [ldn_p, rdN_mk, h.cell]
  subst hs
  simp only [Nat.zero_add, Nat.le_refl, true_and, Array.extract_size]
theorem BoxAt.rd (h : BoxAt w x T cs tl) {i : Nat} (hi : i < cs.length) {w1 : World} (hk : Kp cs[i].S w w1) {K : Value → Prop} : ld1 (.pointer (some ⟨x, i, none⟩)) w1 K = K cs[i].v := by
  have hc : ((cs.map (·.v) ++ tl).toArray)[i]? = some cs[i].v := by
    rw [List.getElem?_toArray, List.getElem?_append_left (by simpa using hi)]; simp [hi]
  rw [ld1_p, rd1_mk, hk.get h.cell (h.x_not hi)]
  simp only [hc]
/-- a part is another one -/
theorem BoxAt.store (h : BoxAt w x T cs tl) {i : Nat} (hi : i < cs.length) {w1 : World} (hk : Kp cs[i].S w w1) {v' : Value} {rows' : List (List Value)} {S' : List Nat} (hr : RowsAt w1 v' cs[i].k rows' S') (hS : ∀ q ∈ S', q ∈ cs[i].S ∨ w.heap.size ≤ q) {K : World → Prop}
    (hK : ∀ w2, BoxAt w2 x T (cs.set i ⟨v', cs[i].k, rows', S'⟩) tl → Kp (x :: cs[i].S) w w2 → Kp [x] w1 w2 → (∀ q ∈ blksC (cs.set i ⟨v', cs[i].k, rows', S'⟩), q ∈ blksC cs ∨ w.heap.size ≤ q) → K w2) : st1 (.pointer (some ⟨x, i, none⟩)) v' w1 K := by
  have hlt := h.lt
  have g1 := hk.get h.cell (h.x_not hi)
  have l1 := live_of g1
  have hone : one v' = true := by obtain ⟨a, c, hv, _⟩ := hr.len; rw [hv]; rfl
  have k1 : ∀ o, Kp [x] w1 (setBlk w1 x o) := fun o => (Kp.refl _ _).setBlk (.inl (by simp)) o
  have k2 : ∀ o, Kp (x :: cs[i].S) w (setBlk w1 x o) := fun o => (hk.mono (fun q hq _ => by simp [hq])).setBlk (.inl (by simp)) o
  have hx' : x ∉ S' := fun hh => by
    rcases hS x hh with hh | hh
    · exact h.x_not hi hh
    · have := hlt x (by simp); omega
  have hnot : ∀ j (hj : j < cs.length), j ≠ i → ∀ q ∈ cs[j].S, q ∉ x :: cs[i].S := fun j hj hne q hq hh => by
    rcases List.mem_cons.1 hh with rfl | hh
    · exact h.x_not hj hq
    · exact h.apart hj hi hne hq hh
  have hdis : ∀ j (hj : j < cs.length), j ≠ i → ∀ q ∈ cs[j].S, q ∉ S' := fun j hj hne q hq hh => by
    rcases hS q hh with hh | hh
    · exact h.apart hj hi hne hq hh
    · have := hlt q (by simp [blksC_mem hj hq]); omega
  have hin : ∀ q ∈ blksC (cs.set i ⟨v', cs[i].k, rows', S'⟩), q ∈ S' ∨ q ∈ blksC cs := fun q hq => by
    rcases blksC_set hq with hq | ⟨j, hj, _, hq⟩
    · exact .inl hq
    · exact .inr (blksC_mem hj hq)
  rw [st1_p, wr1_mk, g1]
  refine ⟨hone, ⟨by simp; omega, by rw [okFr0]; trivial⟩, ?_⟩
  have hc : (cs.map (·.v) ++ tl).toArray.setIfInBounds i v' = ((cs.set i ⟨v', cs[i].k, rows', S'⟩).map (·.v) ++ tl).toArray := by
    rw [List.map_set]
    simp [List.set_append_left, hi]
  rw [hc]
  refine hK _ ⟨heap_self l1, fun j hj => ?_, ?_⟩ (k2 _) (k1 _) fun q hq => ?_
  · simp only [List.length_set] at hj
    by_cases he : i = j
    · subst he; rw [List.getElem_set_self]; exact hr.keep (k1 _) fun q hq => by simp; intro e; exact hx' (e ▸ hq)
    · rw [List.getElem_set_ne he]
      exact (h.rows j hj).keep (k2 _) fun q hq => hnot j hj (fun e => he e.symm) q hq
  · refine List.nodup_cons.2 ⟨fun hq => ?_, ?_⟩
    · rcases hin x hq with hq | hq
      · exact hx' hq
      · exact (List.nodup_cons.1 h.nd).1 hq
    · have h1 := (List.nodup_cons.1 h.nd).2
      obtain ⟨h2, h3⟩ := nodup_flat.1 h1
      refine nodup_flat.2 ⟨fun r hr' => ?_, ?_⟩
      · obtain ⟨d, hd, rfl⟩ := List.mem_map.1 hr'
        rcases List.mem_or_eq_of_mem_set hd with hd | rfl
        · exact h2 _ (List.mem_map.2 ⟨d, hd, rfl⟩)
        · exact hr.nodup
      · rw [List.pairwise_map] at h3 ⊢
        rw [List.pairwise_iff_getElem] at h3 ⊢
        intro a b ha hb hab
        simp only [List.length_set] at ha hb
        by_cases ea : i = a
        · subst ea
          rw [List.getElem_set_self, List.getElem_set_ne (by omega)]
          exact fun q hq q' hq' he => hdis b hb (by omega) q (he ▸ hq') hq
        · by_cases eb : i = b
          · subst eb
            rw [List.getElem_set_self, List.getElem_set_ne ea]
            exact fun q hq q' hq' he => hdis a ha (by omega) q hq (he ▸ hq')
          · rw [List.getElem_set_ne ea, List.getElem_set_ne eb]
            exact h3 a b ha hb hab
  · rcases hin q hq with hq | hq
    · rcases hS q hq with hq | hq
      · exact .inl (blksC_mem hi hq)
      · exact .inr hq
    · exact .inl hq
end
end Go.Q

/- '==' of structs whose fields are numbers, texts, bools, and structs of such: one Bool. -/
set_option linter.unusedVariables false
set_option linter.unusedSimpArgs false
namespace Go.Q
variable {P : Program}
end Go.Q

/- Plain, layer 10: numbers by values, in buckets. -/
set_option linter.unusedVariables false
set_option linter.unusedSimpArgs false
namespace Go.Q
structure E where
  v : V3
  n : Int
  deriving DecidableEq
def eC (e : E) : List Value := valV e.v ++ [.int .i64 e.n]
/-! ### put, taken out, put anew -/
/-! ### rising -/
end Go.Q

/- Variables that hold a struct; copies; one row taken out; indexes as values. -/
set_option linter.unusedVariables false
set_option linter.unusedSimpArgs false
namespace Go.Q
variable {P : Program}
theorem argB {cs : Array Value} {T : TypeId} {w : World} {K : Value → World → Prop} (h : ∀ b w1, w.heap.size ≤ b → w1.heap[b]? = some (.cells cs T) → Kp [] w w1 → K (.pointer (some ⟨b, 0, none⟩)) w1) :
    newG (Value.cells (.agg cs)) T w K := h _ _ (Nat.le_refl _) heap_new kp_alloc
theorem newB {cs : Array Value} {T : TypeId} {w : World} {K : Value → World → Prop} (h : ∀ b w1, w.heap.size ≤ b → w1.heap[b]? = some (.cells cs T) → Kp [] w w1 → K (.pointer (some ⟨b, 0, none⟩)) w1) :
    newG cs T w K := h _ _ (Nat.le_refl _) heap_new kp_alloc
theorem ldA {b k : Nat} {c : Array Value} {T : TypeId} {fr : Nat × Nat} {w : World} (h : w.heap[b]? = some (.cells c T fr)) (hc : c.size = k) {K : Value → Prop} : ldn k (.pointer (some ⟨b, 0, none⟩)) w K = K (.agg c) := by
  rw [ldn_p, rdN_mk, h]
  subst hc
  simp
/-- a part that is a struct is read -/
theorem ldP {b o k : Nat} {c : Array Value} {T : TypeId} {fr : Nat × Nat} {w : World} (h : w.heap[b]? = some (.cells c T fr)) {p : Array Value} (hp : c.extract o (o + k) = p) (hs : o + k ≤ c.size) {K : Value → Prop} : ldn k (.pointer (some ⟨b, o, none⟩)) w K = K (.agg p) := by
  rw [ldn_p, rdN_mk, h]
  simp only [hp, hs, true_and]
theorem stA {b k : Nat} {old c : Array Value} {T : TypeId} {w : World} (h : w.heap[b]? = some (.cells old T)) (ho : old.size = k) (hc : c.size = k) (hone : c.all one = true) {K : World → Prop} :
    stn k (.pointer (some ⟨b, 0, none⟩)) (.agg c) w K = K (setBlk w b (.cells c T)) := by
  rw [stn_p, wrN_mk, h]
  have hsp : splice old 0 c = c := splice_all (by rw [ho, hc])
  apply propext
  constructor
  · rintro ⟨_, _, hk⟩
    rw [hsp] at hk
    exact hk
  · intro hk
    refine ⟨hc, ⟨by omega, by rw [okFr0]; trivial, hone⟩, ?_⟩
    rw [hsp]; exact hk
/-- a result's variable is written and read -/
theorem retB {T T' : TypeId} {n z : Nat} {old c : Array Value} {w : World} (ha : aggO P T = some true) (hn : szO P T = some n) (h : w.heap[z]? = some (.cells old T')) (ho : old.size = n) (hc : c.size = n) (hone : c.all one = true) {R : Value → World → Prop}
    (hR : ∀ w', Kp [z] w w' → R (.agg c) w') : stn n (.pointer (some ⟨z, 0, none⟩)) (.agg c) w fun w => qG P (do loadVar T (← asAddr (.pointer (some ⟨z, 0, none⟩)))) w fun r => R r w := by
  rw [stA h ho hc hone, loadVar_of ha hn (heap_self (live_of h)) hc]
  exact hR _ ((Kp.refl _ w).setBlk (.inl (by simp)) _)
end Go.Q

/- The library's comparing of texts: the order of their bytes. -/
set_option linter.unusedVariables false
set_option linter.unusedSimpArgs false
namespace Go.Q
open Go
end Go.Q

/- Pages of keys and values in 256 bytes: how they lie; one more cell. -/
set_option linter.unusedVariables false
set_option linter.unusedSimpArgs false
namespace Go.Q
abbrev KV := List UInt8 × List UInt8
def clen (x : KV) : Nat := x.1.length + x.2.length
def tot (l : List KV) : Nat := (l.map clen).sum
def cellsP : List KV → List UInt8
  | [] => []
  | x :: r => cellsP r ++ (x.1 ++ x.2)
def slots (off : Nat) : List KV → List UInt8
  | [] => []
  | x :: r => UInt8.ofNat (off - clen x) :: UInt8.ofNat x.1.length :: slots (off - clen x) r
def hdr (kd : UInt8) (n u : Nat) : List UInt8 := [kd, UInt8.ofNat n, UInt8.ofNat (u % 256), UInt8.ofNat (u / 256), 0, 0, 0, 0]
def lay (kd : UInt8) (l : List KV) : List UInt8 := hdr kd l.length (tot l) ++ (slots 256 l ++ (List.replicate (248 - 2 * l.length - tot l) 0 ++ cellsP l))
structure Fit (l : List KV) : Prop where
  room : 8 + 2 * l.length + tot l ≤ 256
  key : ∀ x ∈ l, 1 ≤ x.1.length ∧ x.1.length ≤ 80 ∧ clen x ≤ 100
def spl (l : List UInt8) (o : Nat) (vs : List UInt8) : List UInt8 := l.take o ++ vs ++ l.drop (o + vs.length)
section
variable {α : Type} {P Q R : List α} {x v : α}
theorem set_seg {i : Nat} (hi : i = P.length) : (P ++ (x :: R)).set i v = P ++ (v :: R) := by
  subst hi
  simp [List.set_append]
theorem get_seg {i : Nat} (hi : i = P.length) : (P ++ (x :: R))[i]? = some x := by
  subst hi
  rw [List.getElem?_append_right (by omega)]
  simp
theorem sub_seg {i n : Nat} (hi : i = P.length) (hn : n = Q.length) : ((P ++ (Q ++ R)).drop i).take n = Q := by
  subst hi; subst hn
  rw [List.drop_left, List.take_left]
end
theorem spl_seg {P Q R vs : List UInt8} {i : Nat} (hi : i = P.length) (hv : vs.length = Q.length) : spl (P ++ (Q ++ R)) i vs = P ++ (vs ++ R) := by
  subst hi
  unfold spl
  rw [List.take_left, hv, ← List.append_assoc P Q R, ← List.length_append, List.drop_left, List.append_assoc]
theorem tot_app (a b : List KV) : tot (a ++ b) = tot a + tot b := by simp [tot]
theorem tot_cons (x : KV) (b : List KV) : tot (x :: b) = clen x + tot b := by simp [tot]
theorem cells_len (l : List KV) : (cellsP l).length = tot l := by
  induction l with
  | nil => rfl
  | cons x r ih => simp only [cellsP, List.length_append, ih, tot_cons, clen]; omega
theorem cells_app (a b : List KV) : cellsP (a ++ b) = cellsP b ++ cellsP a := by
  induction a with
  | nil => simp [cellsP]
  | cons x r ih => simp only [List.cons_append, cellsP, ih, List.append_assoc]
theorem slots_len (l : List KV) : ∀ off, (slots off l).length = 2 * l.length := by
  induction l with
  | nil => intro off; rfl
  | cons x r ih => intro off; simp only [slots, List.length_cons, ih]; omega
theorem slots_app (a b : List KV) : ∀ off, slots off (a ++ b) = slots off a ++ slots (off - tot a) b := by
  induction a with
  | nil => intro off; simp [slots, tot]
  | cons x r ih =>
    intro off
    simp only [List.cons_append, slots, ih, tot_cons]
    rw [Nat.sub_sub]
theorem hdr_len (kd : UInt8) (n u : Nat) : (hdr kd n u).length = 8 := rfl
theorem lay_len {kd : UInt8} {l : List KV} (h : Fit l) : (lay kd l).length = 256 := by
  have := h.room
  simp only [lay, List.length_append, hdr_len, slots_len, List.length_replicate, cells_len]
  omega
theorem Fit.take {l : List KV} (h : Fit l) (k : Nat) : Fit (l.take k) := by
  have h1 : tot l = tot (l.take k) + tot (l.drop k) := by rw [← tot_app, List.take_append_drop]
  have h2 := h.room
  refine ⟨by rw [List.length_take]; omega, fun x hx => h.key x (List.mem_of_mem_take hx)⟩
/-- where the cell at a place begins -/
def fromN (l : List KV) (k : Nat) : Nat := 256 - tot (l.take (k + 1))
theorem lay_slot {kd : UInt8} {l : List KV} (h : Fit l) {k : Nat} (hk : k < l.length) : (lay kd l)[8 + 2 * k]? = some (UInt8.ofNat (fromN l k)) ∧ (lay kd l)[8 + 2 * k + 1]? = some (UInt8.ofNat l[k].1.length) := by
  have hsp : l = l.take k ++ l[k] :: l.drop (k + 1) := by rw [← List.drop_eq_getElem_cons hk, List.take_append_drop]
  have hs : slots 256 l = slots 256 (l.take k) ++ (UInt8.ofNat (256 - tot (l.take k) - clen l[k]) :: UInt8.ofNat l[k].1.length :: slots (256 - tot (l.take k) - clen l[k]) (l.drop (k + 1))) := by
    conv => lhs; rw [hsp]
    rw [slots_app]
    rfl
  have ht : tot (l.take (k + 1)) = tot (l.take k) + clen l[k] := by
    rw [List.take_succ_eq_append_getElem hk, tot_app, tot_cons]
    simp [tot]
  have hf : fromN l k = 256 - tot (l.take k) - clen l[k] := by unfold fromN; omega
  have hlen : (hdr kd l.length (tot l) ++ slots 256 (l.take k)).length = 8 + 2 * k := by
    rw [List.length_append, hdr_len, slots_len, List.length_take]; omega
  unfold lay
  rw [hs, hf]
  constructor
  · have e : hdr kd l.length (tot l) ++ (slots 256 (l.take k) ++ (UInt8.ofNat (256 - tot (l.take k) - clen l[k]) :: UInt8.ofNat l[k].1.length :: slots (256 - tot (l.take k) - clen l[k]) (l.drop (k + 1))) ++ (List.replicate (248 - 2 * l.length - tot l) 0 ++ cellsP l)) =
        (hdr kd l.length (tot l) ++ slots 256 (l.take k)) ++ (UInt8.ofNat (256 - tot (l.take k) - clen l[k]) :: (UInt8.ofNat l[k].1.length :: slots (256 - tot (l.take k) - clen l[k]) (l.drop (k + 1)) ++ (List.replicate (248 - 2 * l.length - tot l) 0 ++ cellsP l))) := by simp
    rw [e]
    exact get_seg hlen.symm
  · have e : hdr kd l.length (tot l) ++ (slots 256 (l.take k) ++ (UInt8.ofNat (256 - tot (l.take k) - clen l[k]) :: UInt8.ofNat l[k].1.length :: slots (256 - tot (l.take k) - clen l[k]) (l.drop (k + 1))) ++ (List.replicate (248 - 2 * l.length - tot l) 0 ++ cellsP l)) =
        (hdr kd l.length (tot l) ++ slots 256 (l.take k) ++ [UInt8.ofNat (256 - tot (l.take k) - clen l[k])]) ++ (UInt8.ofNat l[k].1.length :: (slots (256 - tot (l.take k) - clen l[k]) (l.drop (k + 1)) ++ (List.replicate (248 - 2 * l.length - tot l) 0 ++ cellsP l))) := by simp
    rw [e]
    exact get_seg (by rw [List.length_append, hlen]; rfl)
/-- the key and the value at a place -/
theorem lay_cell {kd : UInt8} {l : List KV} (h : Fit l) {k : Nat} (hk : k < l.length) : ((lay kd l).drop (fromN l k)).take l[k].1.length = l[k].1 ∧ ((lay kd l).drop (fromN l k + l[k].1.length)).take l[k].2.length = l[k].2 := by
  have hsp : l = l.take k ++ l[k] :: l.drop (k + 1) := by rw [← List.drop_eq_getElem_cons hk, List.take_append_drop]
  have hc : cellsP l = cellsP (l.drop (k + 1)) ++ (l[k].1 ++ l[k].2) ++ cellsP (l.take k) := by
    conv => lhs; rw [hsp]
    rw [cells_app]
    rfl
  have ht : tot (l.take (k + 1)) = tot (l.take k) + clen l[k] := by
    rw [List.take_succ_eq_append_getElem hk, tot_app, tot_cons]
    simp [tot]
  have htt : tot l = tot (l.take (k + 1)) + tot (l.drop (k + 1)) := by rw [← tot_app, List.take_append_drop]
  have hr := h.room
  have hpre : (hdr kd l.length (tot l) ++ (slots 256 l ++ (List.replicate (248 - 2 * l.length - tot l) 0 ++ cellsP (l.drop (k + 1))))).length = fromN l k := by
    simp only [List.length_append, hdr_len, slots_len, List.length_replicate, cells_len]
    unfold fromN
    omega
  have e : lay kd l = (hdr kd l.length (tot l) ++ (slots 256 l ++ (List.replicate (248 - 2 * l.length - tot l) 0 ++ cellsP (l.drop (k + 1))))) ++ (l[k].1 ++ (l[k].2 ++ cellsP (l.take k))) := by
    unfold lay
    rw [hc]
    simp
  constructor
  · rw [e]
    exact sub_seg hpre.symm rfl
  · rw [e, ← List.append_assoc _ l[k].1]
    exact sub_seg (by rw [List.length_append, hpre]) rfl
section
variable {l : List KV}
theorem Fit.len (h : Fit l) : l.length ≤ 124 ∧ tot l ≤ 248 := by have := h.room; omega
theorem Fit.lens (h : Fit l) : 3 * l.length ≤ 248 := by
  have key : ∀ l : List KV, (∀ x ∈ l, 1 ≤ x.1.length) → l.length ≤ tot l := by
    intro l
    induction l with
    | nil => intro _; simp [tot]
    | cons x r ih =>
      intro hx
      have h1 := hx x (by simp)
      have h2 := ih fun y hy => hx y (by simp [hy])
      rw [tot_cons, List.length_cons]
      simp only [clen]
      omega
  have := key l fun x hx => (h.key x hx).1
  have := h.room
  omega
theorem fromN_lt (h : Fit l) {k : Nat} (hk : k < l.length) : fromN l k < 256 ∧ fromN l k + clen l[k] = (if k = 0 then 256 else fromN l (k - 1)) ∧ 8 + 2 * l.length ≤ fromN l k := by
  have ht : tot (l.take (k + 1)) = tot (l.take k) + clen l[k] := by
    rw [List.take_succ_eq_append_getElem hk, tot_app, tot_cons]
    simp [tot]
  have htt : tot l = tot (l.take (k + 1)) + tot (l.drop (k + 1)) := by rw [← tot_app, List.take_append_drop]
  have hr := h.room
  have hkey := h.key _ (List.getElem_mem hk)
  have hc : clen l[k] = l[k].1.length + l[k].2.length := rfl
  unfold fromN
  refine ⟨by omega, ?_, by omega⟩
  by_cases h0 : k = 0
  · subst h0
    rw [if_pos rfl]
    have : tot (l.take 0) = 0 := by simp [tot]
    omega
  · rw [if_neg h0, show k - 1 + 1 = k by omega]
    omega
end
/-! ### one more cell -/
/-- a page while it is opened: two free bytes among the slots, some among the cells -/
def mid (kd : UInt8) (n u : Nat) (s0 g s1 : List UInt8) (z : Nat) (c1 f c0 : List UInt8) : List UInt8 := hdr kd n u ++ (s0 ++ (g ++ (s1 ++ (List.replicate z 0 ++ (c1 ++ (f ++ c0))))))
theorem rep_split {z n : Nat} (h : n ≤ z) : List.replicate z (0 : UInt8) = List.replicate (z - n) 0 ++ List.replicate n 0 := by
  rw [List.replicate_append_replicate]
  congr 1
  omega
/-- the cells behind a place go down -/
theorem open_cells {kd : UInt8} {A B : List KV} (h : Fit (A ++ B)) {n : Nat} (hn : n + 2 ≤ 248 - 2 * (A ++ B).length - tot (A ++ B)) :
    ∃ f, f.length = n ∧ spl (lay kd (A ++ B)) (256 - tot (A ++ B) - n) (((lay kd (A ++ B)).drop (256 - tot (A ++ B))).take (tot B)) =
      hdr kd (A ++ B).length (tot (A ++ B)) ++ (slots 256 A ++ (slots (256 - tot A) B ++ (List.replicate (248 - 2 * (A ++ B).length - tot (A ++ B) - n) 0 ++ (cellsP B ++ (f ++ cellsP A))))) := by
  have hr := h.room
  obtain ⟨z, hz⟩ : ∃ z, z = 248 - 2 * (A ++ B).length - tot (A ++ B) := ⟨_, rfl⟩
  have e : lay kd (A ++ B) = (hdr kd (A ++ B).length (tot (A ++ B)) ++ (slots 256 A ++ (slots (256 - tot A) B ++ List.replicate (z - n) 0))) ++ (((List.replicate n 0 ++ cellsP B).take (tot B)) ++ (((List.replicate n 0 ++ cellsP B).drop (tot B)) ++ cellsP A)) := by
    unfold lay
    rw [← hz, rep_split (show n ≤ z by omega), slots_app, cells_app]
    conv => rhs; rw [← List.append_assoc (List.take _ _), List.take_append_drop]
    simp only [List.append_assoc]
  have hsub : ((lay kd (A ++ B)).drop (256 - tot (A ++ B))).take (tot B) = cellsP B := by
    have e2 : lay kd (A ++ B) = (hdr kd (A ++ B).length (tot (A ++ B)) ++ (slots 256 (A ++ B) ++ List.replicate z 0)) ++ (cellsP B ++ cellsP A) := by
      unfold lay
      rw [← hz, cells_app]
      simp only [List.append_assoc]
    rw [e2]
    exact sub_seg (by simp only [List.length_append, hdr_len, slots_len, List.length_replicate] at hz hr ⊢; omega) (cells_len B).symm
  refine ⟨(List.replicate n 0 ++ cellsP B).drop (tot B), by simp [cells_len], ?_⟩
  rw [hsub, e, ← hz]
  rw [spl_seg (by simp only [List.length_append, hdr_len, slots_len, List.length_replicate] at hz hr hn ⊢; omega) (by simp [cells_len])]
  simp only [List.append_assoc]
/-- the slots behind a place go up -/
theorem open_slots {kd : UInt8} {m u z : Nat} {s0 s1 c : List UInt8} (hz : 2 ≤ z) (hs : s1.length + s0.length = 2 * m) :
    ∃ g0 g1, spl (hdr kd m u ++ (s0 ++ (s1 ++ (List.replicate z 0 ++ c)))) (8 + s0.length + 2) (((hdr kd m u ++ (s0 ++ (s1 ++ (List.replicate z 0 ++ c)))).drop (8 + s0.length)).take s1.length) =
      hdr kd m u ++ (s0 ++ ([g0, g1] ++ (s1 ++ (List.replicate (z - 2) 0 ++ c)))) := by
  have hsub : ((hdr kd m u ++ (s0 ++ (s1 ++ (List.replicate z 0 ++ c)))).drop (8 + s0.length)).take s1.length = s1 := by
    rw [← List.append_assoc]
    exact sub_seg (by rw [List.length_append, hdr_len]) rfl
  rw [hsub]
  have hlen : (s1 ++ List.replicate 2 0).length = s1.length + 2 := by simp
  obtain ⟨g0, g1, hg⟩ : ∃ g0 g1, (s1 ++ List.replicate 2 (0 : UInt8)).take 2 = [g0, g1] := by
    match hm : (s1 ++ List.replicate 2 (0 : UInt8)).take 2 with
    | [] => have := congrArg List.length hm; simp at this
    | [a] => have := congrArg List.length hm; simp at this
    | [a, b] => exact ⟨a, b, rfl⟩
    | a :: b :: c :: r => have := congrArg List.length hm; simp at this
  refine ⟨g0, g1, ?_⟩
  have e : hdr kd m u ++ (s0 ++ (s1 ++ (List.replicate z 0 ++ c))) = (hdr kd m u ++ (s0 ++ [g0, g1])) ++ ((s1 ++ List.replicate 2 0).drop 2 ++ (List.replicate (z - 2) 0 ++ c)) := by
    have h2 : s1 ++ List.replicate 2 0 = [g0, g1] ++ (s1 ++ List.replicate 2 0).drop 2 := by rw [← hg, List.take_append_drop]
    have h3 : List.replicate z (0 : UInt8) = List.replicate 2 0 ++ List.replicate (z - 2) 0 := by rw [List.replicate_append_replicate]; congr 1; omega
    have h4 : s1 ++ (List.replicate z 0 ++ c) = (s1 ++ List.replicate 2 0) ++ (List.replicate (z - 2) 0 ++ c) := by rw [h3]; simp only [List.append_assoc]
    rw [h4, h2]
    simp only [List.append_assoc]
    rw [← h2]
  rw [e, spl_seg (by simp [hdr_len]; omega) (by simp)]
  simp only [List.append_assoc]
theorem u8_sub {a b : Nat} (h : b ≤ a) : UInt8.ofNat a - UInt8.ofNat b = UInt8.ofNat (a - b) := by
  rw [UInt8.ofNat_sub h]
/-- the slots while they are turned: so many have been -/
def turn (e n : Nat) (B : List KV) (j : Nat) : List UInt8 := slots (e - n) (B.take j) ++ slots (e - tot (B.take j)) (B.drop j)
theorem turn_zero (e n : Nat) (B : List KV) : turn e n B 0 = slots e B := by simp [turn, slots, tot]
theorem turn_all (e n : Nat) (B : List KV) : turn e n B B.length = slots (e - n) B := by simp [turn, slots]
theorem turn_step {e n : Nat} {B : List KV} {j : Nat} (hj : j < B.length) (he : tot B + n ≤ e) {P R : List UInt8} {i : Nat} (hi : i = P.length + 2 * j) :
    ∃ f, (P ++ (turn e n B j ++ R))[i]? = some f ∧ (P ++ (turn e n B j ++ R)).set i (f - UInt8.ofNat n) = P ++ (turn e n B (j + 1) ++ R) := by
  have ht : tot (B.take (j + 1)) = tot (B.take j) + clen B[j] := by
    rw [List.take_succ_eq_append_getElem hj, tot_app, tot_cons]
    simp [tot]
  have htt : tot B = tot (B.take (j + 1)) + tot (B.drop (j + 1)) := by rw [← tot_app, List.take_append_drop]
  have hd : B.drop j = B[j] :: B.drop (j + 1) := List.drop_eq_getElem_cons hj
  have e1 : P ++ (turn e n B j ++ R) = (P ++ slots (e - n) (B.take j)) ++ (UInt8.ofNat (e - tot (B.take j) - clen B[j]) :: (UInt8.ofNat B[j].1.length :: slots (e - tot (B.take j) - clen B[j]) (B.drop (j + 1)) ++ R)) := by
    unfold turn
    rw [hd]
    simp [slots]
  have e2 : P ++ (turn e n B (j + 1) ++ R) = (P ++ slots (e - n) (B.take j)) ++ (UInt8.ofNat (e - n - tot (B.take j) - clen B[j]) :: (UInt8.ofNat B[j].1.length :: slots (e - tot (B.take j) - clen B[j]) (B.drop (j + 1)) ++ R)) := by
    unfold turn
    rw [ht, ← Nat.sub_sub e, List.take_succ_eq_append_getElem hj, slots_app]
    simp [slots]
  have hlen : i = (P ++ slots (e - n) (B.take j)).length := by
    rw [List.length_append, slots_len, List.length_take]
    omega
  refine ⟨UInt8.ofNat (e - tot (B.take j) - clen B[j]), by rw [e1]; exact get_seg hlen, ?_⟩
  have hn : e - tot (B.take j) - clen B[j] - n = e - n - tot (B.take j) - clen B[j] := by omega
  rw [e1, e2, set_seg hlen, u8_sub (by omega), hn]
/-- the head of a page is another one -/
theorem hdr_sets {kd : UInt8} {n u n' u' : Nat} {r : List UInt8} : (((hdr kd n u ++ r).set 1 (UInt8.ofNat n')).set 2 (UInt8.ofNat (u' % 256))).set 3 (UInt8.ofNat (u' / 256)) = hdr kd n' u' ++ r := rfl
/-- the new cell is told, and written -/
theorem open_done {kd : UInt8} {A B : List KV} {x : KV} (h : Fit (A ++ x :: B)) {g0 g1 : UInt8} {f : List UInt8} (hf : f.length = clen x) :
    spl (((hdr kd (A ++ x :: B).length (tot (A ++ x :: B)) ++ (slots 256 A ++ ([g0, g1] ++ (slots (256 - tot A - clen x) B ++ (List.replicate (248 - 2 * (A ++ x :: B).length - tot (A ++ x :: B)) 0 ++ (cellsP B ++ (f ++ cellsP A))))))).set (8 + 2 * A.length) (UInt8.ofNat (256 - tot A - clen x))).set (8 + 2 * A.length + 1) (UInt8.ofNat x.1.length)) (256 - tot A - clen x) (x.1 ++ x.2) = lay kd (A ++ x :: B) := by
  have hr := h.room
  have hl1 : (hdr kd (A ++ x :: B).length (tot (A ++ x :: B)) ++ slots 256 A).length = 8 + 2 * A.length := by rw [List.length_append, hdr_len, slots_len]
  obtain ⟨z, hz⟩ : ∃ z, z = 248 - 2 * (A ++ x :: B).length - tot (A ++ x :: B) := ⟨_, rfl⟩
  rw [← hz]
  have e1 : (hdr kd (A ++ x :: B).length (tot (A ++ x :: B)) ++ (slots 256 A ++ ([g0, g1] ++ (slots (256 - tot A - clen x) B ++ (List.replicate z 0 ++ (cellsP B ++ (f ++ cellsP A))))))) =
      (hdr kd (A ++ x :: B).length (tot (A ++ x :: B)) ++ slots 256 A) ++ (g0 :: (g1 :: (slots (256 - tot A - clen x) B ++ (List.replicate z 0 ++ (cellsP B ++ (f ++ cellsP A)))))) := by simp
  rw [e1, set_seg hl1.symm]
  have e2 : (hdr kd (A ++ x :: B).length (tot (A ++ x :: B)) ++ slots 256 A) ++ (UInt8.ofNat (256 - tot A - clen x) :: (g1 :: (slots (256 - tot A - clen x) B ++ (List.replicate z 0 ++ (cellsP B ++ (f ++ cellsP A)))))) =
      ((hdr kd (A ++ x :: B).length (tot (A ++ x :: B)) ++ slots 256 A) ++ [UInt8.ofNat (256 - tot A - clen x)]) ++ (g1 :: (slots (256 - tot A - clen x) B ++ (List.replicate z 0 ++ (cellsP B ++ (f ++ cellsP A))))) := by simp
  rw [e2, set_seg (by rw [List.length_append, hl1]; rfl)]
  have e3 : ((hdr kd (A ++ x :: B).length (tot (A ++ x :: B)) ++ slots 256 A) ++ [UInt8.ofNat (256 - tot A - clen x)]) ++ (UInt8.ofNat x.1.length :: (slots (256 - tot A - clen x) B ++ (List.replicate z 0 ++ (cellsP B ++ (f ++ cellsP A))))) =
      (hdr kd (A ++ x :: B).length (tot (A ++ x :: B)) ++ (slots 256 (A ++ x :: B) ++ (List.replicate z 0 ++ cellsP B))) ++ (f ++ cellsP A) := by
    rw [slots_app]
    simp [slots]
  rw [e3, spl_seg (by
    simp only [List.length_append, hdr_len, slots_len, List.length_replicate, cells_len, List.length_cons, tot_app, tot_cons] at hz hr ⊢
    omega) (by rw [hf, List.length_append]; rfl)]
  unfold lay
  rw [← hz, cells_app]
  simp [cellsP]
end Go.Q

