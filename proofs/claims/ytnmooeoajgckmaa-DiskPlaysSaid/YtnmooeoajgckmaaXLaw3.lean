/- Part of the proof (text XLaw3): an engine, rules or contracts of the functions; it states nothing of the claim by itself. -/
import Derived.Test.YtnmooeoajgckmaaXDisk
set_option linter.unusedVariables false
set_option linter.unusedSimpArgs false
namespace Go.Proofs
open Go Go.Q
set_option maxRecDepth 100000
/-! quayside/quaysidelaw03.filled -/
def law03_filled_s0 (R : Value → World → Prop) (x3 : Value) (w : World) : Prop :=
  cvBS x3 w fun t15 =>
  R t15 w

theorem law03_filled_s0_eq (R : Value → World → Prop) : ∀ e w, lift Try.prog 16 (sub (bodyOf Try.f14) [1, 1, 1]) (finK Try.prog Try.f14.results.toList R) e w = law03_filled_s0 R (e 3) w := fun e w => by kernel_rfl

def law03_filled_b1 (R : Value → World → Prop) (N1 : List Value → World → Prop) (x0 x3 x4 : Value) (w : World) : Prop :=
  qG Try.prog (bq .lss 3 (.tmp 6) (.const (.int .i64 32)) x4 (.int .i64 32)) w fun t7 =>
  bV t7
  (ia 1 x3 x4 fun t13 =>
  st1 t13 x0 w fun w =>
  qG Try.prog (bq .add 3 (.tmp 8) (.const (.int .i64 1)) x4 (.int .i64 1)) w fun t9 =>
  N1 [x0, x3, t9] w)
  (law03_filled_s0 R x3 w)

theorem law03_filled_b1_eq (R : Value → World → Prop) (N1 : List Value → World → Prop) : ∀ e w, lift Try.prog 16 (sub (bodyOf Try.f14) [1, 1, 0, 1, 0, 0]) (seqK (fun e w => N1 [e 0, e 3, e 4] w) (blockK 0 (seqK (fun e w => law03_filled_s0 R (e 3) w) (finK Try.prog Try.f14.results.toList R)))) e w = law03_filled_b1 R N1 (e 0) (e 3) (e 4) w := fun e w => by kernel_rfl

def law03_filled_L2F (R : Value → World → Prop) (N1 : List Value → World → Prop) (xs : List Value) (w : World) : Prop :=
  match xs with
  | [x0, x3, x4] => law03_filled_b1 R N1 x0 x3 x4 w
  | _ => False

def law03_filled_L2 (R : Value → World → Prop) (x0 x3 x4 : Value) (w : World) : Prop :=
  ∃ m, loopV (law03_filled_L2F R) m [x0, x3, x4] w

theorem law03_filled_L2_eq (R : Value → World → Prop) : ∀ e w, lift Try.prog 16 (sub (bodyOf Try.f14) [1, 1, 0, 1, 0]) (blockK 0 (seqK (fun e w => law03_filled_s0 R (e 3) w) (finK Try.prog Try.f14.results.toList R))) e w = law03_filled_L2 R (e 0) (e 3) (e 4) w := loop_seg (F := law03_filled_L2F R) (sel := fun e => [e 0, e 3, e 4]) fun N1 => (law03_filled_b1_eq R N1)

def law03_filled_s3 (R : Value → World → Prop) (x0 x3 : Value) (w : World) : Prop :=
  law03_filled_L2 R x0 x3 (.int .i64 0) w

theorem law03_filled_s3_eq (R : Value → World → Prop) : ∀ e w, lift Try.prog 16 (sub (bodyOf Try.f14) [1, 1, 0]) (seqK (fun e w => law03_filled_s0 R (e 3) w) (finK Try.prog Try.f14.results.toList R)) e w = law03_filled_s3 R (e 0) (e 3) w :=
  segs_eq (l := [(sub (bodyOf Try.f14) [1, 1, 0, 0])]) (y := (sub (bodyOf Try.f14) [1, 1, 0, 1])) (Y := (fun e w => law03_filled_L2 R (e 0) (e 3) (e 4) w)) (law03_filled_L2_eq R) (fun e w => by kernel_rfl)

def law03_filled_s4 (R : Value → World → Prop) (x0 : Value) (w : World) : Prop :=
  mkG 5 1 1 (zc Try.prog 5) (.int .i64 32) (.int .i64 32) w fun t5 w =>
  law03_filled_s3 R x0 t5 w

theorem law03_filled_s4_eq (R : Value → World → Prop) : ∀ e w, lift Try.prog 16 (bodyOf Try.f14) (finK Try.prog Try.f14.results.toList R) e w = law03_filled_s4 R (e 0) w :=
  segs_eq (l := [(sub (bodyOf Try.f14) [0]), (sub (bodyOf Try.f14) [1, 0])]) (y := (sub (bodyOf Try.f14) [1, 1])) (Y := (fun e w => law03_filled_s3 R (e 0) (e 3) w)) (seq_seg (x := (sub (bodyOf Try.f14) [1, 1, 0])) (y := (sub (bodyOf Try.f14) [1, 1, 1])) (law03_filled_s0_eq R) (law03_filled_s3_eq R)) (fun e w => by kernel_rfl)

def law03_filled (R : Value → World → Prop) (x0 : Value) (w : World) : Prop := law03_filled_s4 R x0 w
theorem law03_filled_call {R : Value → World → Prop} {x0 : Value} {w : World} (h : law03_filled R x0 w) : callG Try.prog 14 #[x0] w R :=
  calls_lift_eq Try.mixed Try.func14 (args := [x0]) rfl rfl rfl rfl ((law03_filled_s4_eq R) (envOf [x0]) w) (by kernel_rfl) h
/-! quayside/quaysidelaw03.awake -/
def law03_awake_s0 (R : Value → World → Prop) (x1 : Value) (w : World) : Prop :=
  callG Try.prog 17 #[x1, (.int .i64 0)] w fun t59 w =>
  qG Try.prog (Instr.extract t59 0) w fun t60 =>
  qG Try.prog (Instr.extract t59 1) w fun t61 =>
  callG Try.prog 14 #[(.int .u8 98)] (World.drew w) fun t63 w =>
  slS t63 none (some (.int .i64 5)) fun t64 =>
  callG Try.prog 14 #[(.int .u8 97)] w fun t65 w =>
  slS t65 (some (.int .i64 5)) none fun t66 =>
  qG Try.prog (bq .add 9 (.tmp 64) (.tmp 66) t64 t66) w fun t67 =>
  qG Try.prog (bq .eql 9 (.tmp 62) (.tmp 67) t60 t67) w fun t68 =>
  bV t68
  (qG Try.prog (bq .eql 24 (.tmp 70) (.const (.int .i64 0)) t61 (.int .i64 0)) w fun t71 =>
  bV t71
  (callG Try.prog 28 #[x1] w fun t75 w =>
  qG Try.prog (bq .eql 3 (.tmp 75) (.const (.int .i64 2)) t75 (.int .i64 2)) w fun t76 =>
  bV t76
  (callG Try.prog 27 #[x1] w fun t80 w =>
  qG Try.prog (bq .eql 3 (.tmp 80) (.const (.int .i64 0)) t80 (.int .i64 0)) w fun t81 =>
  R t81 w)
  (R (.bool false) w))
  (R (.bool false) w))
  (R (.bool false) w)

theorem law03_awake_s0_eq (R : Value → World → Prop) : ∀ e w, lift Try.prog 83 (sub (bodyOf Try.f18) [1, 1, 1, 1, 1]) (finK Try.prog Try.f18.results.toList R) e w = law03_awake_s0 R (e 1) w := fun e w => by kernel_rfl

def law03_awake_s1 (R : Value → World → Prop) (x1 : Value) (w : World) : Prop :=
  callG Try.prog 17 #[x1, (.int .i64 0)] w fun t41 w =>
  qG Try.prog (Instr.extract t41 0) w fun t42 =>
  qG Try.prog (Instr.extract t41 1) w fun t43 =>
  callG Try.prog 14 #[(.int .u8 98)] w fun t45 w =>
  qG Try.prog (bq .neq 9 (.tmp 44) (.tmp 45) t42 t45) w fun t46 =>
  bV t46
  (R (.bool false) w)
  (qG Try.prog (bq .neq 24 (.tmp 48) (.const (.int .i64 0)) t43 (.int .i64 0)) w fun t49 =>
  bV t49
  (R (.bool false) w)
  (bsl 3 1 1 (zc Try.prog 3) #[(0, (.int .i64 5))] w fun t53 w =>
  callG Try.prog 16 #[x1, t53] w fun t54 w =>
  qG Try.prog (bq .neq 24 (.tmp 54) (.const (.int .i64 0)) t54 (.int .i64 0)) w fun t55 =>
  bV t55
  (R (.bool false) w)
  (law03_awake_s0 R x1 w)))

theorem law03_awake_s1_eq (R : Value → World → Prop) : ∀ e w, lift Try.prog 83 (sub (bodyOf Try.f18) [1, 1, 1]) (finK Try.prog Try.f18.results.toList R) e w = law03_awake_s1 R (e 1) w :=
  segs_eq (l := [(sub (bodyOf Try.f18) [1, 1, 1, 0]), (sub (bodyOf Try.f18) [1, 1, 1, 1, 0])]) (y := (sub (bodyOf Try.f18) [1, 1, 1, 1, 1])) (Y := (fun e w => law03_awake_s0 R (e 1) w)) (law03_awake_s0_eq R) (fun e w => by kernel_rfl)

def law03_awake_s2 (R : Value → World → Prop) (w : World) : Prop :=
  callG Try.prog 12 #[(.int .i64 2)] w fun t8 w =>
  qG Try.prog (Instr.extract t8 0) w fun t9 =>
  qG Try.prog (Instr.extract t8 1) w fun t10 =>
  qG Try.prog (bq .neq 24 (.tmp 11) (.const (.int .i64 0)) t10 (.int .i64 0)) w fun t12 =>
  bV t12
  (R (.bool false) w)
  (qG Try.prog (bq .eql 23 (.tmp 14) (.const (.pointer none)) t9 (.pointer none)) w fun t15 =>
  bV t15
  (R (.bool false) w)
  (callG Try.prog 14 #[(.int .u8 97)] w fun t19 w =>
  callG Try.prog 13 #[t9, (.int .i64 0), t19] w fun t20 w =>
  qG Try.prog (bq .neq 24 (.tmp 20) (.const (.int .i64 0)) t20 (.int .i64 0)) w fun t21 =>
  bV t21
  (R (.bool false) w)
  (callG Try.prog 15 #[t9] w fun t25 w =>
  qG Try.prog (bq .neq 24 (.tmp 25) (.const (.int .i64 0)) t25 (.int .i64 0)) w fun t26 =>
  bV t26
  (R (.bool false) w)
  (callG Try.prog 14 #[(.int .u8 98)] w fun t30 w =>
  callG Try.prog 13 #[t9, (.int .i64 0), t30] w fun t31 w =>
  qG Try.prog (bq .neq 24 (.tmp 31) (.const (.int .i64 0)) t31 (.int .i64 0)) w fun t32 =>
  bV t32
  (R (.bool false) w)
  (callG Try.prog 27 #[t9] w fun t36 w =>
  qG Try.prog (bq .neq 3 (.tmp 36) (.const (.int .i64 1)) t36 (.int .i64 1)) w fun t37 =>
  bV t37
  (R (.bool false) w)
  (law03_awake_s1 R t9 w))))))

theorem law03_awake_s2_eq (R : Value → World → Prop) : ∀ e w, lift Try.prog 83 (bodyOf Try.f18) (finK Try.prog Try.f18.results.toList R) e w = law03_awake_s2 R w :=
  segs_eq (l := [(sub (bodyOf Try.f18) [0]), (sub (bodyOf Try.f18) [1, 0]), (sub (bodyOf Try.f18) [1, 1, 0])]) (y := (sub (bodyOf Try.f18) [1, 1, 1])) (Y := (fun e w => law03_awake_s1 R (e 1) w)) (law03_awake_s1_eq R) (fun e w => by kernel_rfl)

def law03_awake (R : Value → World → Prop) (w : World) : Prop := law03_awake_s2 R  w
theorem law03_awake_call {R : Value → World → Prop} {w : World} (h : law03_awake R w) : callG Try.prog 18 #[] w R :=
  calls_lift_eq Try.mixed Try.func18 (args := []) rfl rfl rfl rfl ((law03_awake_s2_eq R) (envOf []) w) (by kernel_rfl) h
/-! quayside/quaysidelaw03.DiskSure -/
def law03_DiskSure_s0 (R : Value → World → Prop) (w : World) : Prop :=
  callG Try.prog 18 #[] w fun t120 w =>
  R t120 w

theorem law03_DiskSure_s0_eq (R : Value → World → Prop) : ∀ e w, lift Try.prog 121 (sub (bodyOf Try.f3) [1, 1, 1, 1, 1, 1, 1, 1, 1, 1]) (finK Try.prog Try.f3.results.toList R) e w = law03_DiskSure_s0 R w := fun e w => by kernel_rfl

def law03_DiskSure_s1 (R : Value → World → Prop) (N1 : List Value → World → Prop) (x1 x2 x7 x9 x12 x13 : Value) (w : World) : Prop :=
  qG Try.prog (bq .add 3 (.tmp 71) (.const (.int .i64 1)) x13 (.int .i64 1)) w fun t72 =>
  N1 [x1, x2, x7, x9, x12, t72] w

theorem law03_DiskSure_s1_eq (R : Value → World → Prop) (N1 : List Value → World → Prop) : ∀ e w, lift Try.prog 121 (sub (bodyOf Try.f3) [1, 1, 1, 1, 1, 1, 1, 1, 1, 0, 1, 0, 0, 1, 1]) (seqK (fun e w => N1 [e 1, e 2, e 7, e 9, e 12, e 13] w) (blockK 4 (seqK (fun e w => law03_DiskSure_s0 R  w) (finK Try.prog Try.f3.results.toList R)))) e w = law03_DiskSure_s1 R N1 (e 1) (e 2) (e 7) (e 9) (e 12) (e 13) w := fun e w => by kernel_rfl

def law03_DiskSure_s2 (R : Value → World → Prop) (N1 : List Value → World → Prop) (x1 x2 x7 x9 x12 x13 x14 x15 : Value) (w : World) : Prop :=
  callG Try.prog 17 #[x7, x13] w fun t101 w =>
  qG Try.prog (Instr.extract t101 0) w fun t102 =>
  qG Try.prog (Instr.extract t101 1) w fun t103 =>
  qG Try.prog (bq .neq 24 (.tmp 104) (.const (.int .i64 0)) t103 (.int .i64 0)) (World.drew w) fun t105 =>
  bV t105
  (R (.bool false) (World.drew w))
  (qG Try.prog (bq .add 3 (.const (.int .i64 65)) (.tmp 108) (.int .i64 65) x13) (World.drew w) fun t109 =>
  cvI .u8 t109 fun t110 =>
  slS x14 (some x15) none fun t116 =>
  callG Try.prog 14 #[t110] (World.drew w) fun t111 w =>
  slS t111 none (some x15) fun t113 =>
  qG Try.prog (bq .add 9 (.tmp 113) (.tmp 116) t113 t116) w fun t117 =>
  qG Try.prog (bq .neq 9 (.tmp 107) (.tmp 117) t102 t117) w fun t118 =>
  bV t118
  (R (.bool false) w)
  (law03_DiskSure_s1 R N1 x1 x2 x7 x9 x12 x13 w))

theorem law03_DiskSure_s2_eq (R : Value → World → Prop) (N1 : List Value → World → Prop) : ∀ e w, lift Try.prog 121 (sub (bodyOf Try.f3) [1, 1, 1, 1, 1, 1, 1, 1, 1, 0, 1, 0, 0, 1, 0, 0, 1, 1, 1, 1]) (blockK 5 (seqK (fun e w => law03_DiskSure_s1 R N1 (e 1) (e 2) (e 7) (e 9) (e 12) (e 13) w) (seqK (fun e w => N1 [e 1, e 2, e 7, e 9, e 12, e 13] w) (blockK 4 (seqK (fun e w => law03_DiskSure_s0 R  w) (finK Try.prog Try.f3.results.toList R)))))) e w = law03_DiskSure_s2 R N1 (e 1) (e 2) (e 7) (e 9) (e 12) (e 13) (e 14) (e 15) w := fun e w => by kernel_rfl

def law03_DiskSure_s3 (R : Value → World → Prop) (N1 : List Value → World → Prop) (x1 x2 x7 x9 x12 x13 x14 : Value) (w : World) : Prop :=
  qG Try.prog (bq .shr 3 (.tmp 81) (.tmp 82) x1 x13) w fun t83 =>
  qG Try.prog (bq .and 3 (.tmp 83) (.const (.int .i64 1)) t83 (.int .i64 1)) w fun t84 =>
  qG Try.prog (bq .eql 3 (.tmp 84) (.const (.int .i64 1)) t84 (.int .i64 1)) w fun t85 =>
  bV t85
  (lenL x2 fun t88 =>
  qG Try.prog (bq .lss 3 (.tmp 86) (.tmp 88) x12 t88) w fun t89 =>
  bV t89
  (ia 1 x2 x12 fun t92 =>
  ld1 t92 w fun t93 =>
  qG Try.prog (Builtin.min_ #[3, 3] 3 #[t93, (.int .i64 32)]) w fun t94 =>
  qG Try.prog (Builtin.max_ #[3, 3] 3 #[(.int .i64 0), t94]) w fun t95 =>
  qG Try.prog (bq .add 3 (.tmp 96) (.const (.int .i64 1)) x12 (.int .i64 1)) w fun t97 =>
  law03_DiskSure_s2 R N1 x1 x2 x7 x9 t97 x13 x14 t95 w)
  (qG Try.prog (bq .add 3 (.tmp 96) (.const (.int .i64 1)) x12 (.int .i64 1)) w fun t97_1 =>
  law03_DiskSure_s2 R N1 x1 x2 x7 x9 t97_1 x13 x14 (.int .i64 0) w))
  (law03_DiskSure_s2 R N1 x1 x2 x7 x9 x12 x13 x14 (.int .i64 0) w)

theorem law03_DiskSure_s3_eq (R : Value → World → Prop) (N1 : List Value → World → Prop) : ∀ e w, lift Try.prog 121 (sub (bodyOf Try.f3) [1, 1, 1, 1, 1, 1, 1, 1, 1, 0, 1, 0, 0, 1, 0, 0, 1, 1]) (blockK 5 (seqK (fun e w => law03_DiskSure_s1 R N1 (e 1) (e 2) (e 7) (e 9) (e 12) (e 13) w) (seqK (fun e w => N1 [e 1, e 2, e 7, e 9, e 12, e 13] w) (blockK 4 (seqK (fun e w => law03_DiskSure_s0 R  w) (finK Try.prog Try.f3.results.toList R)))))) e w = law03_DiskSure_s3 R N1 (e 1) (e 2) (e 7) (e 9) (e 12) (e 13) (e 14) w :=
  segs_eq (l := [(sub (bodyOf Try.f3) [1, 1, 1, 1, 1, 1, 1, 1, 1, 0, 1, 0, 0, 1, 0, 0, 1, 1, 0]), (sub (bodyOf Try.f3) [1, 1, 1, 1, 1, 1, 1, 1, 1, 0, 1, 0, 0, 1, 0, 0, 1, 1, 1, 0])]) (y := (sub (bodyOf Try.f3) [1, 1, 1, 1, 1, 1, 1, 1, 1, 0, 1, 0, 0, 1, 0, 0, 1, 1, 1, 1])) (Y := (fun e w => law03_DiskSure_s2 R N1 (e 1) (e 2) (e 7) (e 9) (e 12) (e 13) (e 14) (e 15) w)) (law03_DiskSure_s2_eq R N1) (fun e w => by kernel_rfl)

def law03_DiskSure_s4 (R : Value → World → Prop) (N1 : List Value → World → Prop) (x1 x2 x7 x9 x12 x13 : Value) (w : World) : Prop :=
  callG Try.prog 14 #[(.int .u8 0)] w fun t73 w =>
  qG Try.prog (bq .lss 3 (.tmp 74) (.tmp 75) x13 x9) w fun t76 =>
  bV t76
  (qG Try.prog (bq .add 3 (.const (.int .i64 97)) (.tmp 77) (.int .i64 97) x13) w fun t78 =>
  cvI .u8 t78 fun t79 =>
  callG Try.prog 14 #[t79] w fun t80 w =>
  law03_DiskSure_s3 R N1 x1 x2 x7 x9 x12 x13 t80 w)
  (law03_DiskSure_s3 R N1 x1 x2 x7 x9 x12 x13 t73 w)

theorem law03_DiskSure_s4_eq (R : Value → World → Prop) (N1 : List Value → World → Prop) : ∀ e w, lift Try.prog 121 (sub (bodyOf Try.f3) [1, 1, 1, 1, 1, 1, 1, 1, 1, 0, 1, 0, 0, 1, 0, 0]) (blockK 5 (seqK (fun e w => law03_DiskSure_s1 R N1 (e 1) (e 2) (e 7) (e 9) (e 12) (e 13) w) (seqK (fun e w => N1 [e 1, e 2, e 7, e 9, e 12, e 13] w) (blockK 4 (seqK (fun e w => law03_DiskSure_s0 R  w) (finK Try.prog Try.f3.results.toList R)))))) e w = law03_DiskSure_s4 R N1 (e 1) (e 2) (e 7) (e 9) (e 12) (e 13) w :=
  segs_eq (l := [(sub (bodyOf Try.f3) [1, 1, 1, 1, 1, 1, 1, 1, 1, 0, 1, 0, 0, 1, 0, 0, 0]), (sub (bodyOf Try.f3) [1, 1, 1, 1, 1, 1, 1, 1, 1, 0, 1, 0, 0, 1, 0, 0, 1, 0])]) (y := (sub (bodyOf Try.f3) [1, 1, 1, 1, 1, 1, 1, 1, 1, 0, 1, 0, 0, 1, 0, 0, 1, 1])) (Y := (fun e w => law03_DiskSure_s3 R N1 (e 1) (e 2) (e 7) (e 9) (e 12) (e 13) (e 14) w)) (law03_DiskSure_s3_eq R N1) (fun e w => by kernel_rfl)

def law03_DiskSure_s5 (R : Value → World → Prop) (N1 : List Value → World → Prop) (x1 x2 x7 x9 x12 x13 : Value) (w : World) : Prop :=
  qG Try.prog (bq .lss 3 (.tmp 69) (.const (.int .i64 16)) x13 (.int .i64 16)) w fun t70 =>
  bV t70
  (law03_DiskSure_s4 R N1 x1 x2 x7 x9 x12 x13 w)
  (law03_DiskSure_s0 R  w)

theorem law03_DiskSure_s5_eq (R : Value → World → Prop) (N1 : List Value → World → Prop) : ∀ e w, lift Try.prog 121 (sub (bodyOf Try.f3) [1, 1, 1, 1, 1, 1, 1, 1, 1, 0, 1, 0, 0]) (seqK (fun e w => N1 [e 1, e 2, e 7, e 9, e 12, e 13] w) (blockK 4 (seqK (fun e w => law03_DiskSure_s0 R  w) (finK Try.prog Try.f3.results.toList R)))) e w = law03_DiskSure_s5 R N1 (e 1) (e 2) (e 7) (e 9) (e 12) (e 13) w :=
  segs_eq (l := [(sub (bodyOf Try.f3) [1, 1, 1, 1, 1, 1, 1, 1, 1, 0, 1, 0, 0, 0])]) (y := (sub (bodyOf Try.f3) [1, 1, 1, 1, 1, 1, 1, 1, 1, 0, 1, 0, 0, 1])) (Y := (fun e w => law03_DiskSure_s4 R N1 (e 1) (e 2) (e 7) (e 9) (e 12) (e 13) w)) (seq_seg (x := (sub (bodyOf Try.f3) [1, 1, 1, 1, 1, 1, 1, 1, 1, 0, 1, 0, 0, 1, 0])) (y := (sub (bodyOf Try.f3) [1, 1, 1, 1, 1, 1, 1, 1, 1, 0, 1, 0, 0, 1, 1])) (law03_DiskSure_s1_eq R N1) (law03_DiskSure_s4_eq R N1)) (fun e w => by kernel_rfl)

def law03_DiskSure_L6F (R : Value → World → Prop) (N1 : List Value → World → Prop) (xs : List Value) (w : World) : Prop :=
  match xs with
  | [x1, x2, x7, x9, x12, x13] => law03_DiskSure_s5 R N1 x1 x2 x7 x9 x12 x13 w
  | _ => False

def law03_DiskSure_L6 (R : Value → World → Prop) (x1 x2 x7 x9 x12 x13 : Value) (w : World) : Prop :=
  ∃ m, loopV (law03_DiskSure_L6F R) m [x1, x2, x7, x9, x12, x13] w

theorem law03_DiskSure_L6_eq (R : Value → World → Prop) : ∀ e w, lift Try.prog 121 (sub (bodyOf Try.f3) [1, 1, 1, 1, 1, 1, 1, 1, 1, 0, 1, 0]) (blockK 4 (seqK (fun e w => law03_DiskSure_s0 R  w) (finK Try.prog Try.f3.results.toList R))) e w = law03_DiskSure_L6 R (e 1) (e 2) (e 7) (e 9) (e 12) (e 13) w := loop_seg (F := law03_DiskSure_L6F R) (sel := fun e => [e 1, e 2, e 7, e 9, e 12, e 13]) fun N1 => (law03_DiskSure_s5_eq R N1)

def law03_DiskSure_s7 (R : Value → World → Prop) (x1 x2 x7 x9 x12 : Value) (w : World) : Prop :=
  law03_DiskSure_L6 R x1 x2 x7 x9 x12 (.int .i64 0) w

theorem law03_DiskSure_s7_eq (R : Value → World → Prop) : ∀ e w, lift Try.prog 121 (sub (bodyOf Try.f3) [1, 1, 1, 1, 1, 1, 1, 1, 1, 0]) (seqK (fun e w => law03_DiskSure_s0 R  w) (finK Try.prog Try.f3.results.toList R)) e w = law03_DiskSure_s7 R (e 1) (e 2) (e 7) (e 9) (e 12) w :=
  segs_eq (l := [(sub (bodyOf Try.f3) [1, 1, 1, 1, 1, 1, 1, 1, 1, 0, 0])]) (y := (sub (bodyOf Try.f3) [1, 1, 1, 1, 1, 1, 1, 1, 1, 0, 1])) (Y := (fun e w => law03_DiskSure_L6 R (e 1) (e 2) (e 7) (e 9) (e 12) (e 13) w)) (law03_DiskSure_L6_eq R) (fun e w => by kernel_rfl)

def law03_DiskSure_s8 (R : Value → World → Prop) (x1 x2 x7 x9 : Value) (w : World) : Prop :=
  callG Try.prog 16 #[x7, x2] w fun t67 w =>
  qG Try.prog (bq .neq 24 (.tmp 67) (.const (.int .i64 0)) t67 (.int .i64 0)) w fun t68 =>
  bV t68
  (R (.bool false) w)
  (law03_DiskSure_s7 R x1 x2 x7 x9 (.int .i64 0) w)

theorem law03_DiskSure_s8_eq (R : Value → World → Prop) : ∀ e w, lift Try.prog 121 (sub (bodyOf Try.f3) [1, 1, 1, 1, 1, 1, 1]) (finK Try.prog Try.f3.results.toList R) e w = law03_DiskSure_s8 R (e 1) (e 2) (e 7) (e 9) w :=
  segs_eq (l := [(sub (bodyOf Try.f3) [1, 1, 1, 1, 1, 1, 1, 0]), (sub (bodyOf Try.f3) [1, 1, 1, 1, 1, 1, 1, 1, 0])]) (y := (sub (bodyOf Try.f3) [1, 1, 1, 1, 1, 1, 1, 1, 1])) (Y := (fun e w => law03_DiskSure_s7 R (e 1) (e 2) (e 7) (e 9) (e 12) w)) (seq_seg (x := (sub (bodyOf Try.f3) [1, 1, 1, 1, 1, 1, 1, 1, 1, 0])) (y := (sub (bodyOf Try.f3) [1, 1, 1, 1, 1, 1, 1, 1, 1, 1])) (law03_DiskSure_s0_eq R) (law03_DiskSure_s7_eq R)) (fun e w => by kernel_rfl)

def law03_DiskSure_b9 (R : Value → World → Prop) (N1 : List Value → World → Prop) (x1 x2 x7 x9 x11 : Value) (w : World) : Prop :=
  qG Try.prog (bq .lss 3 (.tmp 46) (.const (.int .i64 16)) x11 (.int .i64 16)) w fun t47 =>
  bV t47
  (qG Try.prog (bq .shr 3 (.tmp 50) (.tmp 51) x1 x11) w fun t52 =>
  qG Try.prog (bq .and 3 (.tmp 52) (.const (.int .i64 1)) t52 (.int .i64 1)) w fun t53 =>
  qG Try.prog (bq .eql 3 (.tmp 53) (.const (.int .i64 1)) t53 (.int .i64 1)) w fun t54 =>
  bV t54
  (qG Try.prog (bq .add 3 (.const (.int .i64 65)) (.tmp 58) (.int .i64 65) x11) w fun t59 =>
  cvI .u8 t59 fun t60 =>
  callG Try.prog 14 #[t60] w fun t61 w =>
  callG Try.prog 13 #[x7, x11, t61] w fun t62 w =>
  qG Try.prog (bq .neq 24 (.tmp 62) (.const (.int .i64 0)) t62 (.int .i64 0)) w fun t63 =>
  bV t63
  (R (.bool false) w)
  (qG Try.prog (bq .add 3 (.tmp 48) (.const (.int .i64 1)) x11 (.int .i64 1)) w fun t49 =>
  N1 [x1, x2, x7, x9, t49] w))
  (qG Try.prog (bq .add 3 (.tmp 48) (.const (.int .i64 1)) x11 (.int .i64 1)) w fun t49_1 =>
  N1 [x1, x2, x7, x9, t49_1] w))
  (law03_DiskSure_s8 R x1 x2 x7 x9 w)

theorem law03_DiskSure_b9_eq (R : Value → World → Prop) (N1 : List Value → World → Prop) : ∀ e w, lift Try.prog 121 (sub (bodyOf Try.f3) [1, 1, 1, 1, 1, 1, 0, 1, 0, 0]) (seqK (fun e w => N1 [e 1, e 2, e 7, e 9, e 11] w) (blockK 2 (seqK (fun e w => law03_DiskSure_s8 R (e 1) (e 2) (e 7) (e 9) w) (finK Try.prog Try.f3.results.toList R)))) e w = law03_DiskSure_b9 R N1 (e 1) (e 2) (e 7) (e 9) (e 11) w := fun e w => by kernel_rfl

def law03_DiskSure_L10F (R : Value → World → Prop) (N1 : List Value → World → Prop) (xs : List Value) (w : World) : Prop :=
  match xs with
  | [x1, x2, x7, x9, x11] => law03_DiskSure_b9 R N1 x1 x2 x7 x9 x11 w
  | _ => False

def law03_DiskSure_L10 (R : Value → World → Prop) (x1 x2 x7 x9 x11 : Value) (w : World) : Prop :=
  ∃ m, loopV (law03_DiskSure_L10F R) m [x1, x2, x7, x9, x11] w

theorem law03_DiskSure_L10_eq (R : Value → World → Prop) : ∀ e w, lift Try.prog 121 (sub (bodyOf Try.f3) [1, 1, 1, 1, 1, 1, 0, 1, 0]) (blockK 2 (seqK (fun e w => law03_DiskSure_s8 R (e 1) (e 2) (e 7) (e 9) w) (finK Try.prog Try.f3.results.toList R))) e w = law03_DiskSure_L10 R (e 1) (e 2) (e 7) (e 9) (e 11) w := loop_seg (F := law03_DiskSure_L10F R) (sel := fun e => [e 1, e 2, e 7, e 9, e 11]) fun N1 => (law03_DiskSure_b9_eq R N1)

def law03_DiskSure_s11 (R : Value → World → Prop) (x1 x2 x7 x9 : Value) (w : World) : Prop :=
  law03_DiskSure_L10 R x1 x2 x7 x9 (.int .i64 0) w

theorem law03_DiskSure_s11_eq (R : Value → World → Prop) : ∀ e w, lift Try.prog 121 (sub (bodyOf Try.f3) [1, 1, 1, 1, 1, 1, 0]) (seqK (fun e w => law03_DiskSure_s8 R (e 1) (e 2) (e 7) (e 9) w) (finK Try.prog Try.f3.results.toList R)) e w = law03_DiskSure_s11 R (e 1) (e 2) (e 7) (e 9) w :=
  segs_eq (l := [(sub (bodyOf Try.f3) [1, 1, 1, 1, 1, 1, 0, 0])]) (y := (sub (bodyOf Try.f3) [1, 1, 1, 1, 1, 1, 0, 1])) (Y := (fun e w => law03_DiskSure_L10 R (e 1) (e 2) (e 7) (e 9) (e 11) w)) (law03_DiskSure_L10_eq R) (fun e w => by kernel_rfl)

def law03_DiskSure_s12 (R : Value → World → Prop) (x1 x2 x7 x9 : Value) (w : World) : Prop :=
  callG Try.prog 15 #[x7] w fun t44 w =>
  qG Try.prog (bq .neq 24 (.tmp 44) (.const (.int .i64 0)) t44 (.int .i64 0)) w fun t45 =>
  bV t45
  (R (.bool false) w)
  (law03_DiskSure_s11 R x1 x2 x7 x9 w)

theorem law03_DiskSure_s12_eq (R : Value → World → Prop) : ∀ e w, lift Try.prog 121 (sub (bodyOf Try.f3) [1, 1, 1, 1, 1]) (finK Try.prog Try.f3.results.toList R) e w = law03_DiskSure_s12 R (e 1) (e 2) (e 7) (e 9) w :=
  segs_eq (l := [(sub (bodyOf Try.f3) [1, 1, 1, 1, 1, 0])]) (y := (sub (bodyOf Try.f3) [1, 1, 1, 1, 1, 1])) (Y := (fun e w => law03_DiskSure_s11 R (e 1) (e 2) (e 7) (e 9) w)) (seq_seg (x := (sub (bodyOf Try.f3) [1, 1, 1, 1, 1, 1, 0])) (y := (sub (bodyOf Try.f3) [1, 1, 1, 1, 1, 1, 1])) (law03_DiskSure_s8_eq R) (law03_DiskSure_s11_eq R)) (fun e w => by kernel_rfl)

def law03_DiskSure_b13 (R : Value → World → Prop) (N1 : List Value → World → Prop) (x1 x2 x7 x9 x10 : Value) (w : World) : Prop :=
  qG Try.prog (bq .lss 3 (.tmp 30) (.tmp 31) x10 x9) w fun t32 =>
  bV t32
  (qG Try.prog (bq .add 3 (.const (.int .i64 97)) (.tmp 37) (.int .i64 97) x10) w fun t38 =>
  cvI .u8 t38 fun t39 =>
  callG Try.prog 14 #[t39] w fun t40 w =>
  callG Try.prog 13 #[x7, x10, t40] w fun t41 w =>
  qG Try.prog (bq .neq 24 (.tmp 41) (.const (.int .i64 0)) t41 (.int .i64 0)) w fun t42 =>
  bV t42
  (R (.bool false) w)
  (qG Try.prog (bq .add 3 (.tmp 33) (.const (.int .i64 1)) x10 (.int .i64 1)) w fun t34 =>
  N1 [x1, x2, x7, x9, t34] w))
  (law03_DiskSure_s12 R x1 x2 x7 x9 w)

theorem law03_DiskSure_b13_eq (R : Value → World → Prop) (N1 : List Value → World → Prop) : ∀ e w, lift Try.prog 121 (sub (bodyOf Try.f3) [1, 1, 1, 1, 0, 1, 0, 0]) (seqK (fun e w => N1 [e 1, e 2, e 7, e 9, e 10] w) (blockK 0 (seqK (fun e w => law03_DiskSure_s12 R (e 1) (e 2) (e 7) (e 9) w) (finK Try.prog Try.f3.results.toList R)))) e w = law03_DiskSure_b13 R N1 (e 1) (e 2) (e 7) (e 9) (e 10) w := fun e w => by kernel_rfl

def law03_DiskSure_L14F (R : Value → World → Prop) (N1 : List Value → World → Prop) (xs : List Value) (w : World) : Prop :=
  match xs with
  | [x1, x2, x7, x9, x10] => law03_DiskSure_b13 R N1 x1 x2 x7 x9 x10 w
  | _ => False

def law03_DiskSure_L14 (R : Value → World → Prop) (x1 x2 x7 x9 x10 : Value) (w : World) : Prop :=
  ∃ m, loopV (law03_DiskSure_L14F R) m [x1, x2, x7, x9, x10] w

theorem law03_DiskSure_L14_eq (R : Value → World → Prop) : ∀ e w, lift Try.prog 121 (sub (bodyOf Try.f3) [1, 1, 1, 1, 0, 1, 0]) (blockK 0 (seqK (fun e w => law03_DiskSure_s12 R (e 1) (e 2) (e 7) (e 9) w) (finK Try.prog Try.f3.results.toList R))) e w = law03_DiskSure_L14 R (e 1) (e 2) (e 7) (e 9) (e 10) w := loop_seg (F := law03_DiskSure_L14F R) (sel := fun e => [e 1, e 2, e 7, e 9, e 10]) fun N1 => (law03_DiskSure_b13_eq R N1)

def law03_DiskSure_s15 (R : Value → World → Prop) (x1 x2 x7 x9 : Value) (w : World) : Prop :=
  law03_DiskSure_L14 R x1 x2 x7 x9 (.int .i64 0) w

theorem law03_DiskSure_s15_eq (R : Value → World → Prop) : ∀ e w, lift Try.prog 121 (sub (bodyOf Try.f3) [1, 1, 1, 1, 0]) (seqK (fun e w => law03_DiskSure_s12 R (e 1) (e 2) (e 7) (e 9) w) (finK Try.prog Try.f3.results.toList R)) e w = law03_DiskSure_s15 R (e 1) (e 2) (e 7) (e 9) w :=
  segs_eq (l := [(sub (bodyOf Try.f3) [1, 1, 1, 1, 0, 0])]) (y := (sub (bodyOf Try.f3) [1, 1, 1, 1, 0, 1])) (Y := (fun e w => law03_DiskSure_L14 R (e 1) (e 2) (e 7) (e 9) (e 10) w)) (law03_DiskSure_L14_eq R) (fun e w => by kernel_rfl)

def law03_DiskSure_s16 (R : Value → World → Prop) (x0 x1 x2 x7 : Value) (w : World) : Prop :=
  qG Try.prog (bq .and 3 (.tmp 28) (.const (.int .i64 15)) x0 (.int .i64 15)) w fun t29 =>
  law03_DiskSure_s15 R x1 x2 x7 t29 w

theorem law03_DiskSure_s16_eq (R : Value → World → Prop) : ∀ e w, lift Try.prog 121 (sub (bodyOf Try.f3) [1, 1, 1]) (finK Try.prog Try.f3.results.toList R) e w = law03_DiskSure_s16 R (e 0) (e 1) (e 2) (e 7) w :=
  segs_eq (l := [(sub (bodyOf Try.f3) [1, 1, 1, 0])]) (y := (sub (bodyOf Try.f3) [1, 1, 1, 1])) (Y := (fun e w => law03_DiskSure_s15 R (e 1) (e 2) (e 7) (e 9) w)) (seq_seg (x := (sub (bodyOf Try.f3) [1, 1, 1, 1, 0])) (y := (sub (bodyOf Try.f3) [1, 1, 1, 1, 1])) (law03_DiskSure_s12_eq R) (law03_DiskSure_s15_eq R)) (fun e w => by kernel_rfl)

def law03_DiskSure_s17 (R : Value → World → Prop) (x0 x1 x2 : Value) (w : World) : Prop :=
  callG Try.prog 12 #[(.int .i64 16)] w fun t19 w =>
  qG Try.prog (Instr.extract t19 0) w fun t20 =>
  qG Try.prog (Instr.extract t19 1) w fun t21 =>
  qG Try.prog (bq .neq 24 (.tmp 22) (.const (.int .i64 0)) t21 (.int .i64 0)) w fun t23 =>
  bV t23
  (R (.bool false) w)
  (qG Try.prog (bq .eql 23 (.tmp 25) (.const (.pointer none)) t20 (.pointer none)) w fun t26 =>
  bV t26
  (R (.bool false) w)
  (law03_DiskSure_s16 R x0 x1 x2 t20 w))

theorem law03_DiskSure_s17_eq (R : Value → World → Prop) : ∀ e w, lift Try.prog 121 (bodyOf Try.f3) (finK Try.prog Try.f3.results.toList R) e w = law03_DiskSure_s17 R (e 0) (e 1) (e 2) w :=
  segs_eq (l := [(sub (bodyOf Try.f3) [0]), (sub (bodyOf Try.f3) [1, 0]), (sub (bodyOf Try.f3) [1, 1, 0])]) (y := (sub (bodyOf Try.f3) [1, 1, 1])) (Y := (fun e w => law03_DiskSure_s16 R (e 0) (e 1) (e 2) (e 7) w)) (law03_DiskSure_s16_eq R) (fun e w => by kernel_rfl)

def law03_DiskSure (R : Value → World → Prop) (x0 x1 x2 : Value) (w : World) : Prop := law03_DiskSure_s17 R x0 x1 x2 w
theorem law03_DiskSure_call {R : Value → World → Prop} {x0 x1 x2 : Value} {w : World} (h : law03_DiskSure R x0 x1 x2 w) : callG Try.prog 3 #[x0, x1, x2] w R :=
  calls_lift_eq Try.mixed Try.func3 (args := [x0, x1, x2]) rfl rfl rfl rfl ((law03_DiskSure_s17_eq R) (envOf [x0, x1, x2]) w) (by kernel_rfl) h
end Go.Proofs
