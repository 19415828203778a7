/- Part of the proof (M2): an engine, rules or contracts of the functions; it states nothing of the claim by itself. -/
import Derived.Test.YtcekhmkhagakiaaM1
import Derived.Lib.Overlaps

set_option linter.unusedVariables false
set_option linter.unusedSimpArgs false
namespace Go.Proofs
open Go Go.Q
set_option maxRecDepth 100000
/-! quayside/ledger.Check -/
def ledger_Check_s0 (R : Value → World → Prop) (w : World) : Prop :=
  R (.int .i64 0) w
theorem ledger_Check_s0_eq (R : Value → World → Prop) : ∀ e w, lift Try.prog 221 (sub (bodyOf Try.f66) [1, 1, 1, 1, 1, 1, 1]) (finK Try.prog Try.f66.results.toList R) e w = ledger_Check_s0 R w := fun e w => by kernel_rfl
def ledger_Check_b1 (R : Value → World → Prop) (N1 : List Value → World → Prop) (x3 x4 x180 x181 x182 : Value) (w : World) : Prop :=
  qG Try.prog (bq .lss 3 (.tmp 182) (.tmp 181) x182 x181) w fun t183 =>
  bV t183
  (ia 4 x180 x182 fun t184 =>
  ldn 4 t184 w fun t185 =>
  newG (zc Try.prog 44) 44 w fun t18 w =>
  stn 4 t18 t185 w fun w =>
  ldn 4 t18 w fun t188 =>
  callG Try.prog 89 #[t188] w fun t189 w =>
  qG Try.prog (Instr.lookup 116 x3 t189 false) w fun t190 =>
  callG Try.prog 92 #[t190] w fun t191 w =>
  qG Try.prog (Instr.extract t191 0) w fun t192 =>
  qG Try.prog (Instr.extract t191 1) w fun t193 =>
  ldn 4 t18 w fun t196 =>
  callG Try.prog 89 #[t196] w fun t197 w =>
  qG Try.prog (Instr.lookup 116 x4 t197 false) w fun t198 =>
  callG Try.prog 92 #[t198] w fun t199 w =>
  qG Try.prog (Instr.extract t199 0) w fun t200 =>
  qG Try.prog (Instr.extract t199 1) w fun t201 =>
  qG Try.prog (bq .neq 26 (.tmp 202) (.const (.int .i64 0)) t193 (.int .i64 0)) w fun t203 =>
  bV t203
  (R (.int .i64 1) w)
  (qG Try.prog (bq .neq 26 (.tmp 205) (.const (.int .i64 0)) t201 (.int .i64 0)) w fun t206 =>
  bV t206
  (R (.int .i64 1) w)
  (fa 3 t18 fun t210 =>
  ld1 t210 w fun t211 =>
  qG Try.prog (bq .neq 3 (.tmp 209) (.tmp 211) t192 t211) w fun t212 =>
  bV t212
  (R (.int .i64 1) w)
  (fa 2 t18 fun t216 =>
  ld1 t216 w fun t217 =>
  qG Try.prog (bq .neq 3 (.tmp 215) (.tmp 217) t200 t217) w fun t218 =>
  bV t218
  (R (.int .i64 1) w)
  (qG Try.prog (bq .add 3 (.tmp 182) (.const (.int .i64 1)) x182 (.int .i64 1)) w fun t220 =>
  N1 [x3, x4, x180, x181, t220] w)))))
  (ledger_Check_s0 R  w)
theorem ledger_Check_b1_eq (R : Value → World → Prop) (N1 : List Value → World → Prop) : ∀ e w, lift Try.prog 221 (sub (bodyOf Try.f66) [1, 1, 1, 1, 1, 1, 0, 1, 0, 0]) (seqK (fun e w => N1 [e 3, e 4, e 180, e 181, e 182] w) (blockK 6 (seqK (fun e w => ledger_Check_s0 R  w) (finK Try.prog Try.f66.results.toList R)))) e w = ledger_Check_b1 R N1 (e 3) (e 4) (e 180) (e 181) (e 182) w := fun e w => by kernel_rfl
def ledger_Check_L2F (R : Value → World → Prop) (N1 : List Value → World → Prop) (xs : List Value) (w : World) : Prop :=
  match xs with
  | [x3, x4, x180, x181, x182] => ledger_Check_b1 R N1 x3 x4 x180 x181 x182 w
  | _ => False
def ledger_Check_L2 (R : Value → World → Prop) (x3 x4 x180 x181 x182 : Value) (w : World) : Prop :=
  ∃ m, loopV (ledger_Check_L2F R) m [x3, x4, x180, x181, x182] w
theorem ledger_Check_L2_eq (R : Value → World → Prop) : ∀ e w, lift Try.prog 221 (sub (bodyOf Try.f66) [1, 1, 1, 1, 1, 1, 0, 1, 0]) (blockK 6 (seqK (fun e w => ledger_Check_s0 R  w) (finK Try.prog Try.f66.results.toList R))) e w = ledger_Check_L2 R (e 3) (e 4) (e 180) (e 181) (e 182) w := loop_seg (F := ledger_Check_L2F R) (sel := fun e => [e 3, e 4, e 180, e 181, e 182]) fun N1 => (ledger_Check_b1_eq R N1)
def ledger_Check_s3 (R : Value → World → Prop) (x1 x3 x4 : Value) (w : World) : Prop :=
  fa 0 x1 fun t179 =>
  ld1 t179 w fun t180 =>
  lenL t180 fun t181 =>
  ledger_Check_L2 R x3 x4 t180 t181 (.int .i64 0) w
theorem ledger_Check_s3_eq (R : Value → World → Prop) : ∀ e w, lift Try.prog 221 (sub (bodyOf Try.f66) [1, 1, 1, 1, 1, 1, 0]) (seqK (fun e w => ledger_Check_s0 R  w) (finK Try.prog Try.f66.results.toList R)) e w = ledger_Check_s3 R (e 1) (e 3) (e 4) w :=
  segs_eq (l := [(sub (bodyOf Try.f66) [1, 1, 1, 1, 1, 1, 0, 0])]) (y := (sub (bodyOf Try.f66) [1, 1, 1, 1, 1, 1, 0, 1])) (Y := (fun e w => ledger_Check_L2 R (e 3) (e 4) (e 180) (e 181) (e 182) w)) (ledger_Check_L2_eq R) (fun e w => by kernel_rfl)
def ledger_Check_s4 (R : Value → World → Prop) (N1 : List Value → World → Prop) (x1 x3 x4 x143 x144 x145 : Value) (w : World) : Prop :=
  qG Try.prog (bq .add 3 (.tmp 145) (.const (.int .i64 1)) x145 (.int .i64 1)) w fun t178 =>
  N1 [x1, x3, x4, x143, x144, t178] w
theorem ledger_Check_s4_eq (R : Value → World → Prop) (N1 : List Value → World → Prop) : ∀ e w, lift Try.prog 221 (sub (bodyOf Try.f66) [1, 1, 1, 1, 1, 0, 1, 0, 0, 1, 1, 1]) (seqK (fun e w => N1 [e 1, e 3, e 4, e 143, e 144, e 145] w) (blockK 4 (seqK (fun e w => ledger_Check_s3 R (e 1) (e 3) (e 4) w) (finK Try.prog Try.f66.results.toList R)))) e w = ledger_Check_s4 R N1 (e 1) (e 3) (e 4) (e 143) (e 144) (e 145) w := fun e w => by kernel_rfl
def ledger_Check_s5 (R : Value → World → Prop) (N1 : List Value → World → Prop) (x1 x3 x4 x13 x14 x143 x144 x145 : Value) (w : World) : Prop :=
  ldn 2 x14 w fun t170 =>
  fa 3 x13 fun t172 =>
  ld1 t172 w fun t173 =>
  bsl 3 1 1 (zc Try.prog 3) #[(0, t173)] w fun t174 w =>
  eG Try.prog (Instr.mapEntry 116 x4 t170) w fun t175 w =>
  qG Try.prog (Instr.extract t175 0) w fun t171 =>
  app 3 1 8 (zc Try.prog 3) t171 t174 w fun t176 w =>
  qG Try.prog (Instr.extract t175 1) w fun t177 =>
  uG Try.prog (Instr.entryStore 116 x4 t177 t176) w fun w =>
  ledger_Check_s4 R N1 x1 x3 x4 x143 x144 x145 w
theorem ledger_Check_s5_eq (R : Value → World → Prop) (N1 : List Value → World → Prop) : ∀ e w, lift Try.prog 221 (sub (bodyOf Try.f66) [1, 1, 1, 1, 1, 0, 1, 0, 0, 1, 1, 0, 0, 1, 1, 1]) (blockK 5 (seqK (fun e w => ledger_Check_s4 R N1 (e 1) (e 3) (e 4) (e 143) (e 144) (e 145) w) (seqK (fun e w => N1 [e 1, e 3, e 4, e 143, e 144, e 145] w) (blockK 4 (seqK (fun e w => ledger_Check_s3 R (e 1) (e 3) (e 4) w) (finK Try.prog Try.f66.results.toList R)))))) e w = ledger_Check_s5 R N1 (e 1) (e 3) (e 4) (e 13) (e 14) (e 143) (e 144) (e 145) w := fun e w => by kernel_rfl
def ledger_Check_s6 (R : Value → World → Prop) (N1 : List Value → World → Prop) (x1 x3 x4 x143 x144 x145 : Value) (w : World) : Prop :=
  ia 6 x143 x145 fun t148 =>
  ldn 6 t148 w fun t149 =>
  newG (zc Try.prog 50) 50 w fun t13 w =>
  stn 6 t13 t149 w fun w =>
  fa 1 t13 fun t150 =>
  ld1 t150 w fun t151 =>
  fa 2 t13 fun t152 =>
  ld1 t152 w fun t153 =>
  bld [(0, 1), (1, 1)] (zc Try.prog 119) #[(0, t151), (1, t153)] fun t154 =>
  newG (zc Try.prog 119) 119 w fun t14 w =>
  stn 2 t14 t154 w fun w =>
  ldn 2 t14 w fun t157 =>
  qG Try.prog (Instr.lookup 116 x4 t157 true) w fun t158 =>
  qG Try.prog (Instr.extract t158 0) w fun t159 =>
  qG Try.prog (Instr.extract t158 1) w fun t160 =>
  qG Try.prog (Op.unary .not t160) w fun t162 =>
  bV t162
  (R (.int .i64 1) w)
  (ldn 6 t13 w fun t165 =>
  callG Try.prog 91 #[x145, t165] w fun t166 w =>
  qG Try.prog (Op.unary .not t166) w fun t167 =>
  bV t167
  (R (.int .i64 1) w)
  (ledger_Check_s5 R N1 x1 x3 x4 t13 t14 x143 x144 x145 w))
theorem ledger_Check_s6_eq (R : Value → World → Prop) (N1 : List Value → World → Prop) : ∀ e w, lift Try.prog 221 (sub (bodyOf Try.f66) [1, 1, 1, 1, 1, 0, 1, 0, 0, 1, 1, 0, 0]) (blockK 5 (seqK (fun e w => ledger_Check_s4 R N1 (e 1) (e 3) (e 4) (e 143) (e 144) (e 145) w) (seqK (fun e w => N1 [e 1, e 3, e 4, e 143, e 144, e 145] w) (blockK 4 (seqK (fun e w => ledger_Check_s3 R (e 1) (e 3) (e 4) w) (finK Try.prog Try.f66.results.toList R)))))) e w = ledger_Check_s6 R N1 (e 1) (e 3) (e 4) (e 143) (e 144) (e 145) w :=
  segs_eq (l := [(sub (bodyOf Try.f66) [1, 1, 1, 1, 1, 0, 1, 0, 0, 1, 1, 0, 0, 0]), (sub (bodyOf Try.f66) [1, 1, 1, 1, 1, 0, 1, 0, 0, 1, 1, 0, 0, 1, 0]), (sub (bodyOf Try.f66) [1, 1, 1, 1, 1, 0, 1, 0, 0, 1, 1, 0, 0, 1, 1, 0])]) (y := (sub (bodyOf Try.f66) [1, 1, 1, 1, 1, 0, 1, 0, 0, 1, 1, 0, 0, 1, 1, 1])) (Y := (fun e w => ledger_Check_s5 R N1 (e 1) (e 3) (e 4) (e 13) (e 14) (e 143) (e 144) (e 145) w)) (ledger_Check_s5_eq R N1) (fun e w => by kernel_rfl)
def ledger_Check_s7 (R : Value → World → Prop) (N1 : List Value → World → Prop) (x1 x3 x4 x143 x144 x145 : Value) (w : World) : Prop :=
  qG Try.prog (bq .lss 3 (.tmp 145) (.tmp 144) x145 x144) w fun t146 =>
  bV t146
  (ledger_Check_s6 R N1 x1 x3 x4 x143 x144 x145 w)
  (ledger_Check_s3 R x1 x3 x4 w)
theorem ledger_Check_s7_eq (R : Value → World → Prop) (N1 : List Value → World → Prop) : ∀ e w, lift Try.prog 221 (sub (bodyOf Try.f66) [1, 1, 1, 1, 1, 0, 1, 0, 0]) (seqK (fun e w => N1 [e 1, e 3, e 4, e 143, e 144, e 145] w) (blockK 4 (seqK (fun e w => ledger_Check_s3 R (e 1) (e 3) (e 4) w) (finK Try.prog Try.f66.results.toList R)))) e w = ledger_Check_s7 R N1 (e 1) (e 3) (e 4) (e 143) (e 144) (e 145) w :=
  segs_eq (l := [(sub (bodyOf Try.f66) [1, 1, 1, 1, 1, 0, 1, 0, 0, 0]), (sub (bodyOf Try.f66) [1, 1, 1, 1, 1, 0, 1, 0, 0, 1, 0])]) (y := (sub (bodyOf Try.f66) [1, 1, 1, 1, 1, 0, 1, 0, 0, 1, 1])) (Y := (fun e w => ledger_Check_s6 R N1 (e 1) (e 3) (e 4) (e 143) (e 144) (e 145) w)) (seq_seg (x := (sub (bodyOf Try.f66) [1, 1, 1, 1, 1, 0, 1, 0, 0, 1, 1, 0])) (y := (sub (bodyOf Try.f66) [1, 1, 1, 1, 1, 0, 1, 0, 0, 1, 1, 1])) (ledger_Check_s4_eq R N1) (ledger_Check_s6_eq R N1)) (fun e w => by kernel_rfl)
def ledger_Check_L8F (R : Value → World → Prop) (N1 : List Value → World → Prop) (xs : List Value) (w : World) : Prop :=
  match xs with
  | [x1, x3, x4, x143, x144, x145] => ledger_Check_s7 R N1 x1 x3 x4 x143 x144 x145 w
  | _ => False
def ledger_Check_L8 (R : Value → World → Prop) (x1 x3 x4 x143 x144 x145 : Value) (w : World) : Prop :=
  ∃ m, loopV (ledger_Check_L8F R) m [x1, x3, x4, x143, x144, x145] w
theorem ledger_Check_L8_eq (R : Value → World → Prop) : ∀ e w, lift Try.prog 221 (sub (bodyOf Try.f66) [1, 1, 1, 1, 1, 0, 1, 0]) (blockK 4 (seqK (fun e w => ledger_Check_s3 R (e 1) (e 3) (e 4) w) (finK Try.prog Try.f66.results.toList R))) e w = ledger_Check_L8 R (e 1) (e 3) (e 4) (e 143) (e 144) (e 145) w := loop_seg (F := ledger_Check_L8F R) (sel := fun e => [e 1, e 3, e 4, e 143, e 144, e 145]) fun N1 => (ledger_Check_s7_eq R N1)
def ledger_Check_s9 (R : Value → World → Prop) (x1 x3 x4 : Value) (w : World) : Prop :=
  fa 2 x1 fun t142 =>
  ld1 t142 w fun t143 =>
  lenL t143 fun t144 =>
  ledger_Check_L8 R x1 x3 x4 t143 t144 (.int .i64 0) w
theorem ledger_Check_s9_eq (R : Value → World → Prop) : ∀ e w, lift Try.prog 221 (sub (bodyOf Try.f66) [1, 1, 1, 1, 1, 0]) (seqK (fun e w => ledger_Check_s3 R (e 1) (e 3) (e 4) w) (finK Try.prog Try.f66.results.toList R)) e w = ledger_Check_s9 R (e 1) (e 3) (e 4) w :=
  segs_eq (l := [(sub (bodyOf Try.f66) [1, 1, 1, 1, 1, 0, 0])]) (y := (sub (bodyOf Try.f66) [1, 1, 1, 1, 1, 0, 1])) (Y := (fun e w => ledger_Check_L8 R (e 1) (e 3) (e 4) (e 143) (e 144) (e 145) w)) (ledger_Check_L8_eq R) (fun e w => by kernel_rfl)
def ledger_Check_s10 (R : Value → World → Prop) (N1 : List Value → World → Prop) (x1 x3 x4 x98 x99 x100 : Value) (w : World) : Prop :=
  qG Try.prog (bq .add 3 (.tmp 100) (.const (.int .i64 1)) x100 (.int .i64 1)) w fun t141 =>
  N1 [x1, x3, x4, x98, x99, t141] w
theorem ledger_Check_s10_eq (R : Value → World → Prop) (N1 : List Value → World → Prop) : ∀ e w, lift Try.prog 221 (sub (bodyOf Try.f66) [1, 1, 1, 1, 0, 1, 0, 0, 1, 1, 1]) (seqK (fun e w => N1 [e 1, e 3, e 4, e 98, e 99, e 100] w) (blockK 2 (seqK (fun e w => ledger_Check_s9 R (e 1) (e 3) (e 4) w) (finK Try.prog Try.f66.results.toList R)))) e w = ledger_Check_s10 R N1 (e 1) (e 3) (e 4) (e 98) (e 99) (e 100) w := fun e w => by kernel_rfl
def ledger_Check_s11 (R : Value → World → Prop) (N1 : List Value → World → Prop) (x1 x3 x4 x8 x9 x98 x99 x100 : Value) (w : World) : Prop :=
  fa 4 x8 fun t129 =>
  ld1 t129 w fun t130 =>
  qG Try.prog (bq .eql 3 (.tmp 130) (.const (.int .i64 0)) t130 (.int .i64 0)) w fun t131 =>
  bV t131
  (ldn 2 x9 w fun t133 =>
  fa 3 x8 fun t135 =>
  ld1 t135 w fun t136 =>
  bsl 3 1 1 (zc Try.prog 3) #[(0, t136)] w fun t137 w =>
  eG Try.prog (Instr.mapEntry 116 x3 t133) w fun t138 w =>
  qG Try.prog (Instr.extract t138 0) w fun t134 =>
  app 3 1 8 (zc Try.prog 3) t134 t137 w fun t139 w =>
  qG Try.prog (Instr.extract t138 1) w fun t140 =>
  uG Try.prog (Instr.entryStore 116 x3 t140 t139) w fun w =>
  ledger_Check_s10 R N1 x1 x3 x4 x98 x99 x100 w)
  (ledger_Check_s10 R N1 x1 x3 x4 x98 x99 x100 w)
theorem ledger_Check_s11_eq (R : Value → World → Prop) (N1 : List Value → World → Prop) : ∀ e w, lift Try.prog 221 (sub (bodyOf Try.f66) [1, 1, 1, 1, 0, 1, 0, 0, 1, 1, 0, 0, 1, 1, 1, 1]) (blockK 3 (seqK (fun e w => ledger_Check_s10 R N1 (e 1) (e 3) (e 4) (e 98) (e 99) (e 100) w) (seqK (fun e w => N1 [e 1, e 3, e 4, e 98, e 99, e 100] w) (blockK 2 (seqK (fun e w => ledger_Check_s9 R (e 1) (e 3) (e 4) w) (finK Try.prog Try.f66.results.toList R)))))) e w = ledger_Check_s11 R N1 (e 1) (e 3) (e 4) (e 8) (e 9) (e 98) (e 99) (e 100) w := fun e w => by kernel_rfl
def ledger_Check_s12 (R : Value → World → Prop) (N1 : List Value → World → Prop) (x1 x3 x4 x98 x99 x100 : Value) (w : World) : Prop :=
  ia 6 x98 x100 fun t103 =>
  ldn 6 t103 w fun t104 =>
  newG (zc Try.prog 34) 34 w fun t8 w =>
  stn 6 t8 t104 w fun w =>
  fa 1 t8 fun t105 =>
  ld1 t105 w fun t106 =>
  fa 2 t8 fun t107 =>
  ld1 t107 w fun t108 =>
  bld [(0, 1), (1, 1)] (zc Try.prog 119) #[(0, t106), (1, t108)] fun t109 =>
  newG (zc Try.prog 119) 119 w fun t9 w =>
  stn 2 t9 t109 w fun w =>
  ldn 2 t9 w fun t112 =>
  qG Try.prog (Instr.lookup 116 x3 t112 true) w fun t113 =>
  qG Try.prog (Instr.extract t113 0) w fun t114 =>
  qG Try.prog (Instr.extract t113 1) w fun t115 =>
  ldn 6 t8 w fun t117 =>
  callG Try.prog 90 #[x100, t117] w fun t118 w =>
  qG Try.prog (Op.unary .not t118) w fun t119 =>
  bV t119
  (R (.int .i64 1) w)
  (fa 4 t8 fun t121 =>
  ld1 t121 w fun t122 =>
  qG Try.prog (bq .eql 3 (.tmp 122) (.const (.int .i64 0)) t122 (.int .i64 0)) w fun t123 =>
  bV t123
  (qG Try.prog (Op.unary .not t115) w fun t126 =>
  bV t126
  (R (.int .i64 1) w)
  (ledger_Check_s11 R N1 x1 x3 x4 t8 t9 x98 x99 x100 w))
  (ledger_Check_s11 R N1 x1 x3 x4 t8 t9 x98 x99 x100 w))
theorem ledger_Check_s12_eq (R : Value → World → Prop) (N1 : List Value → World → Prop) : ∀ e w, lift Try.prog 221 (sub (bodyOf Try.f66) [1, 1, 1, 1, 0, 1, 0, 0, 1, 1, 0, 0]) (blockK 3 (seqK (fun e w => ledger_Check_s10 R N1 (e 1) (e 3) (e 4) (e 98) (e 99) (e 100) w) (seqK (fun e w => N1 [e 1, e 3, e 4, e 98, e 99, e 100] w) (blockK 2 (seqK (fun e w => ledger_Check_s9 R (e 1) (e 3) (e 4) w) (finK Try.prog Try.f66.results.toList R)))))) e w = ledger_Check_s12 R N1 (e 1) (e 3) (e 4) (e 98) (e 99) (e 100) w :=
  segs_eq (l := [(sub (bodyOf Try.f66) [1, 1, 1, 1, 0, 1, 0, 0, 1, 1, 0, 0, 0]), (sub (bodyOf Try.f66) [1, 1, 1, 1, 0, 1, 0, 0, 1, 1, 0, 0, 1, 0]), (sub (bodyOf Try.f66) [1, 1, 1, 1, 0, 1, 0, 0, 1, 1, 0, 0, 1, 1, 0]), (sub (bodyOf Try.f66) [1, 1, 1, 1, 0, 1, 0, 0, 1, 1, 0, 0, 1, 1, 1, 0])]) (y := (sub (bodyOf Try.f66) [1, 1, 1, 1, 0, 1, 0, 0, 1, 1, 0, 0, 1, 1, 1, 1])) (Y := (fun e w => ledger_Check_s11 R N1 (e 1) (e 3) (e 4) (e 8) (e 9) (e 98) (e 99) (e 100) w)) (ledger_Check_s11_eq R N1) (fun e w => by kernel_rfl)
def ledger_Check_s13 (R : Value → World → Prop) (N1 : List Value → World → Prop) (x1 x3 x4 x98 x99 x100 : Value) (w : World) : Prop :=
  qG Try.prog (bq .lss 3 (.tmp 100) (.tmp 99) x100 x99) w fun t101 =>
  bV t101
  (ledger_Check_s12 R N1 x1 x3 x4 x98 x99 x100 w)
  (ledger_Check_s9 R x1 x3 x4 w)
theorem ledger_Check_s13_eq (R : Value → World → Prop) (N1 : List Value → World → Prop) : ∀ e w, lift Try.prog 221 (sub (bodyOf Try.f66) [1, 1, 1, 1, 0, 1, 0, 0]) (seqK (fun e w => N1 [e 1, e 3, e 4, e 98, e 99, e 100] w) (blockK 2 (seqK (fun e w => ledger_Check_s9 R (e 1) (e 3) (e 4) w) (finK Try.prog Try.f66.results.toList R)))) e w = ledger_Check_s13 R N1 (e 1) (e 3) (e 4) (e 98) (e 99) (e 100) w :=
  segs_eq (l := [(sub (bodyOf Try.f66) [1, 1, 1, 1, 0, 1, 0, 0, 0]), (sub (bodyOf Try.f66) [1, 1, 1, 1, 0, 1, 0, 0, 1, 0])]) (y := (sub (bodyOf Try.f66) [1, 1, 1, 1, 0, 1, 0, 0, 1, 1])) (Y := (fun e w => ledger_Check_s12 R N1 (e 1) (e 3) (e 4) (e 98) (e 99) (e 100) w)) (seq_seg (x := (sub (bodyOf Try.f66) [1, 1, 1, 1, 0, 1, 0, 0, 1, 1, 0])) (y := (sub (bodyOf Try.f66) [1, 1, 1, 1, 0, 1, 0, 0, 1, 1, 1])) (ledger_Check_s10_eq R N1) (ledger_Check_s12_eq R N1)) (fun e w => by kernel_rfl)
def ledger_Check_L14F (R : Value → World → Prop) (N1 : List Value → World → Prop) (xs : List Value) (w : World) : Prop :=
  match xs with
  | [x1, x3, x4, x98, x99, x100] => ledger_Check_s13 R N1 x1 x3 x4 x98 x99 x100 w
  | _ => False
def ledger_Check_L14 (R : Value → World → Prop) (x1 x3 x4 x98 x99 x100 : Value) (w : World) : Prop :=
  ∃ m, loopV (ledger_Check_L14F R) m [x1, x3, x4, x98, x99, x100] w
theorem ledger_Check_L14_eq (R : Value → World → Prop) : ∀ e w, lift Try.prog 221 (sub (bodyOf Try.f66) [1, 1, 1, 1, 0, 1, 0]) (blockK 2 (seqK (fun e w => ledger_Check_s9 R (e 1) (e 3) (e 4) w) (finK Try.prog Try.f66.results.toList R))) e w = ledger_Check_L14 R (e 1) (e 3) (e 4) (e 98) (e 99) (e 100) w := loop_seg (F := ledger_Check_L14F R) (sel := fun e => [e 1, e 3, e 4, e 98, e 99, e 100]) fun N1 => (ledger_Check_s13_eq R N1)
def ledger_Check_s15 (R : Value → World → Prop) (x1 x3 x4 : Value) (w : World) : Prop :=
  fa 1 x1 fun t97 =>
  ld1 t97 w fun t98 =>
  lenL t98 fun t99 =>
  ledger_Check_L14 R x1 x3 x4 t98 t99 (.int .i64 0) w
theorem ledger_Check_s15_eq (R : Value → World → Prop) : ∀ e w, lift Try.prog 221 (sub (bodyOf Try.f66) [1, 1, 1, 1, 0]) (seqK (fun e w => ledger_Check_s9 R (e 1) (e 3) (e 4) w) (finK Try.prog Try.f66.results.toList R)) e w = ledger_Check_s15 R (e 1) (e 3) (e 4) w :=
  segs_eq (l := [(sub (bodyOf Try.f66) [1, 1, 1, 1, 0, 0])]) (y := (sub (bodyOf Try.f66) [1, 1, 1, 1, 0, 1])) (Y := (fun e w => ledger_Check_L14 R (e 1) (e 3) (e 4) (e 98) (e 99) (e 100) w)) (ledger_Check_L14_eq R) (fun e w => by kernel_rfl)
def ledger_Check_s16 (R : Value → World → Prop) (N1 : List Value → World → Prop) (x1 x3 x4 x42 x43 x44 : Value) (w : World) : Prop :=
  qG Try.prog (bq .add 3 (.tmp 44) (.const (.int .i64 1)) x44 (.int .i64 1)) w fun t96 =>
  N1 [x1, x3, x4, x42, x43, t96] w
theorem ledger_Check_s16_eq (R : Value → World → Prop) (N1 : List Value → World → Prop) : ∀ e w, lift Try.prog 221 (sub (bodyOf Try.f66) [1, 1, 1, 0, 1, 0, 0, 1, 1, 1]) (seqK (fun e w => N1 [e 1, e 3, e 4, e 42, e 43, e 44] w) (blockK 0 (seqK (fun e w => ledger_Check_s15 R (e 1) (e 3) (e 4) w) (finK Try.prog Try.f66.results.toList R)))) e w = ledger_Check_s16 R N1 (e 1) (e 3) (e 4) (e 42) (e 43) (e 44) w := fun e w => by kernel_rfl
def ledger_Check_s17 (R : Value → World → Prop) (N1 : List Value → World → Prop) (x1 x3 x4 x6 x42 x43 x44 : Value) (w : World) : Prop :=
  ldn 4 x6 (World.drew w) fun t89 =>
  ldn 4 x6 (World.drew w) fun t92 =>
  callG Try.prog 89 #[t89] (World.drew w) fun t90 w =>
  ldn 4 x6 w (fun u => u = t92) ∧
  callG Try.prog 89 #[t92] w fun t93 w =>
  eG Try.prog (Instr.mapEntry 116 x3 t90) w fun t94 w =>
  qG Try.prog (Instr.extract t94 1) w fun t95 =>
  uG Try.prog (Instr.entryStore 116 x3 t95 (.slice none 0 0)) w fun w =>
  uG Try.prog (Instr.mapUpdate 116 x4 t93 (.slice none 0 0)) w fun w =>
  ledger_Check_s16 R N1 x1 x3 x4 x42 x43 x44 w
theorem ledger_Check_s17_eq (R : Value → World → Prop) (N1 : List Value → World → Prop) : ∀ e w, lift Try.prog 221 (sub (bodyOf Try.f66) [1, 1, 1, 0, 1, 0, 0, 1, 1, 0, 0, 1, 1]) (blockK 1 (seqK (fun e w => ledger_Check_s16 R N1 (e 1) (e 3) (e 4) (e 42) (e 43) (e 44) w) (seqK (fun e w => N1 [e 1, e 3, e 4, e 42, e 43, e 44] w) (blockK 0 (seqK (fun e w => ledger_Check_s15 R (e 1) (e 3) (e 4) w) (finK Try.prog Try.f66.results.toList R)))))) e w = ledger_Check_s17 R N1 (e 1) (e 3) (e 4) (e 6) (e 42) (e 43) (e 44) w := fun e w => by kernel_rfl
def ledger_Check_s18 (R : Value → World → Prop) (N1 : List Value → World → Prop) (x1 x3 x4 x42 x43 x44 : Value) (w : World) : Prop :=
  ia 4 x42 x44 fun t47 =>
  ldn 4 t47 w fun t48 =>
  newG (zc Try.prog 44) 44 w fun t6 w =>
  stn 4 t6 t48 w fun w =>
  fa 0 t6 fun t49 =>
  ld1 t49 (World.drew w) fun t50 =>
  callG Try.prog 87 #[t50] (World.drew w) fun t51 w =>
  qG Try.prog (Op.unary .not t51) w fun t52 =>
  bV t52
  (R (.int .i64 1) w)
  (fa 1 t6 fun t54 =>
  ld1 t54 w fun t55 =>
  callG Try.prog 87 #[t55] w fun t56 w =>
  qG Try.prog (Op.unary .not t56) w fun t57 =>
  bV t57
  (R (.int .i64 1) w)
  (fa 3 t6 fun t60 =>
  ld1 t60 w fun t61 =>
  qG Try.prog (bq .lss 3 (.tmp 61) (.const (.int .i64 0)) t61 (.int .i64 0)) w fun t62 =>
  bV t62
  (R (.int .i64 1) w)
  (fa 3 t6 fun t65 =>
  ld1 t65 w fun t66 =>
  fa 2 t6 fun t67 =>
  ld1 t67 w fun t68 =>
  qG Try.prog (bq .gtr 3 (.tmp 66) (.tmp 68) t66 t68) w fun t69 =>
  bV t69
  (R (.int .i64 1) w)
  (qG Try.prog (bq .gtr 3 (.tmp 72) (.const (.int .i64 0)) x44 (.int .i64 0)) w fun t73 =>
  bV t73
  (fa 0 x1 fun t75 =>
  ld1 t75 w fun t76 =>
  qG Try.prog (bq .sub 3 (.tmp 77) (.const (.int .i64 1)) x44 (.int .i64 1)) w fun t78 =>
  ia 4 t76 t78 fun t79 =>
  ldn 4 t79 w fun t80 =>
  ldn 4 t6 w fun t82 =>
  callG Try.prog 89 #[t80] w fun t81 w =>
  ldn 4 t6 w (fun u => u = t82) ∧
  callG Try.prog 89 #[t82] w fun t83 w =>
  callG Try.prog 88 #[t81, t83] w fun t84 w =>
  qG Try.prog (bq .geq 3 (.tmp 84) (.const (.int .i64 0)) t84 (.int .i64 0)) w fun t85 =>
  bV t85
  (R (.int .i64 1) w)
  (ledger_Check_s17 R N1 x1 x3 x4 t6 x42 x43 x44 w))
  (ledger_Check_s17 R N1 x1 x3 x4 t6 x42 x43 x44 w)))))
theorem ledger_Check_s18_eq (R : Value → World → Prop) (N1 : List Value → World → Prop) : ∀ e w, lift Try.prog 221 (sub (bodyOf Try.f66) [1, 1, 1, 0, 1, 0, 0, 1, 1, 0, 0]) (blockK 1 (seqK (fun e w => ledger_Check_s16 R N1 (e 1) (e 3) (e 4) (e 42) (e 43) (e 44) w) (seqK (fun e w => N1 [e 1, e 3, e 4, e 42, e 43, e 44] w) (blockK 0 (seqK (fun e w => ledger_Check_s15 R (e 1) (e 3) (e 4) w) (finK Try.prog Try.f66.results.toList R)))))) e w = ledger_Check_s18 R N1 (e 1) (e 3) (e 4) (e 42) (e 43) (e 44) w :=
  segs_eq (l := [(sub (bodyOf Try.f66) [1, 1, 1, 0, 1, 0, 0, 1, 1, 0, 0, 0]), (sub (bodyOf Try.f66) [1, 1, 1, 0, 1, 0, 0, 1, 1, 0, 0, 1, 0])]) (y := (sub (bodyOf Try.f66) [1, 1, 1, 0, 1, 0, 0, 1, 1, 0, 0, 1, 1])) (Y := (fun e w => ledger_Check_s17 R N1 (e 1) (e 3) (e 4) (e 6) (e 42) (e 43) (e 44) w)) (ledger_Check_s17_eq R N1) (fun e w => by kernel_rfl)
def ledger_Check_s19 (R : Value → World → Prop) (N1 : List Value → World → Prop) (x1 x3 x4 x42 x43 x44 : Value) (w : World) : Prop :=
  qG Try.prog (bq .lss 3 (.tmp 44) (.tmp 43) x44 x43) w fun t45 =>
  bV t45
  (ledger_Check_s18 R N1 x1 x3 x4 x42 x43 x44 w)
  (ledger_Check_s15 R x1 x3 x4 w)
theorem ledger_Check_s19_eq (R : Value → World → Prop) (N1 : List Value → World → Prop) : ∀ e w, lift Try.prog 221 (sub (bodyOf Try.f66) [1, 1, 1, 0, 1, 0, 0]) (seqK (fun e w => N1 [e 1, e 3, e 4, e 42, e 43, e 44] w) (blockK 0 (seqK (fun e w => ledger_Check_s15 R (e 1) (e 3) (e 4) w) (finK Try.prog Try.f66.results.toList R)))) e w = ledger_Check_s19 R N1 (e 1) (e 3) (e 4) (e 42) (e 43) (e 44) w :=
  segs_eq (l := [(sub (bodyOf Try.f66) [1, 1, 1, 0, 1, 0, 0, 0]), (sub (bodyOf Try.f66) [1, 1, 1, 0, 1, 0, 0, 1, 0])]) (y := (sub (bodyOf Try.f66) [1, 1, 1, 0, 1, 0, 0, 1, 1])) (Y := (fun e w => ledger_Check_s18 R N1 (e 1) (e 3) (e 4) (e 42) (e 43) (e 44) w)) (seq_seg (x := (sub (bodyOf Try.f66) [1, 1, 1, 0, 1, 0, 0, 1, 1, 0])) (y := (sub (bodyOf Try.f66) [1, 1, 1, 0, 1, 0, 0, 1, 1, 1])) (ledger_Check_s16_eq R N1) (ledger_Check_s18_eq R N1)) (fun e w => by kernel_rfl)
def ledger_Check_L20F (R : Value → World → Prop) (N1 : List Value → World → Prop) (xs : List Value) (w : World) : Prop :=
  match xs with
  | [x1, x3, x4, x42, x43, x44] => ledger_Check_s19 R N1 x1 x3 x4 x42 x43 x44 w
  | _ => False
def ledger_Check_L20 (R : Value → World → Prop) (x1 x3 x4 x42 x43 x44 : Value) (w : World) : Prop :=
  ∃ m, loopV (ledger_Check_L20F R) m [x1, x3, x4, x42, x43, x44] w
theorem ledger_Check_L20_eq (R : Value → World → Prop) : ∀ e w, lift Try.prog 221 (sub (bodyOf Try.f66) [1, 1, 1, 0, 1, 0]) (blockK 0 (seqK (fun e w => ledger_Check_s15 R (e 1) (e 3) (e 4) w) (finK Try.prog Try.f66.results.toList R))) e w = ledger_Check_L20 R (e 1) (e 3) (e 4) (e 42) (e 43) (e 44) w := loop_seg (F := ledger_Check_L20F R) (sel := fun e => [e 1, e 3, e 4, e 42, e 43, e 44]) fun N1 => (ledger_Check_s19_eq R N1)
def ledger_Check_s21 (R : Value → World → Prop) (x1 x3 x4 : Value) (w : World) : Prop :=
  fa 0 x1 fun t41 =>
  ld1 t41 w fun t42 =>
  lenL t42 fun t43 =>
  ledger_Check_L20 R x1 x3 x4 t42 t43 (.int .i64 0) w
theorem ledger_Check_s21_eq (R : Value → World → Prop) : ∀ e w, lift Try.prog 221 (sub (bodyOf Try.f66) [1, 1, 1, 0]) (seqK (fun e w => ledger_Check_s15 R (e 1) (e 3) (e 4) w) (finK Try.prog Try.f66.results.toList R)) e w = ledger_Check_s21 R (e 1) (e 3) (e 4) w :=
  segs_eq (l := [(sub (bodyOf Try.f66) [1, 1, 1, 0, 0])]) (y := (sub (bodyOf Try.f66) [1, 1, 1, 0, 1])) (Y := (fun e w => ledger_Check_L20 R (e 1) (e 3) (e 4) (e 42) (e 43) (e 44) w)) (ledger_Check_L20_eq R) (fun e w => by kernel_rfl)
def ledger_Check_s22 (R : Value → World → Prop) (x1 : Value) (w : World) : Prop :=
  eG Try.prog (Instr.makeMap 116 none) w fun t39 w =>
  eG Try.prog (Instr.makeMap 116 none) w fun t40 w =>
  ledger_Check_s21 R x1 t39 t40 w
theorem ledger_Check_s22_eq (R : Value → World → Prop) : ∀ e w, lift Try.prog 221 (sub (bodyOf Try.f66) [1, 1]) (finK Try.prog Try.f66.results.toList R) e w = ledger_Check_s22 R (e 1) w :=
  segs_eq (l := [(sub (bodyOf Try.f66) [1, 1, 0])]) (y := (sub (bodyOf Try.f66) [1, 1, 1])) (Y := (fun e w => ledger_Check_s21 R (e 1) (e 3) (e 4) w)) (seq_seg (x := (sub (bodyOf Try.f66) [1, 1, 1, 0])) (y := (sub (bodyOf Try.f66) [1, 1, 1, 1])) (seq_seg (x := (sub (bodyOf Try.f66) [1, 1, 1, 1, 0])) (y := (sub (bodyOf Try.f66) [1, 1, 1, 1, 1])) (seq_seg (x := (sub (bodyOf Try.f66) [1, 1, 1, 1, 1, 0])) (y := (sub (bodyOf Try.f66) [1, 1, 1, 1, 1, 1])) (seq_seg (x := (sub (bodyOf Try.f66) [1, 1, 1, 1, 1, 1, 0])) (y := (sub (bodyOf Try.f66) [1, 1, 1, 1, 1, 1, 1])) (ledger_Check_s0_eq R) (ledger_Check_s3_eq R)) (ledger_Check_s9_eq R)) (ledger_Check_s15_eq R)) (ledger_Check_s21_eq R)) (fun e w => by kernel_rfl)
def ledger_Check_s23 (R : Value → World → Prop) (x0 : Value) (w : World) : Prop :=
  newG (Value.cells x0) 60 w fun t1 w =>
  fa 3 t1 fun t23 =>
  ld1 t23 w fun t24 =>
  qG Try.prog (bq .lss 3 (.tmp 24) (.const (.int .i64 0)) t24 (.int .i64 0)) w fun t25 =>
  bV t25
  (R (.int .i64 1) w)
  (fa 0 t1 fun t27 =>
  ld1 t27 w fun t28 =>
  lenL t28 fun t29 =>
  fa 1 t1 fun t30 =>
  ld1 t30 w fun t31 =>
  lenL t31 fun t32 =>
  fa 2 t1 fun t33 =>
  ld1 t33 w fun t34 =>
  lenL t34 fun t35 =>
  qG Try.prog (Builtin.max_ #[3, 3, 3] 3 #[t29, t32, t35]) w fun t36 =>
  qG Try.prog (bq .gtr 3 (.tmp 36) (.const (.int .i64 4096)) t36 (.int .i64 4096)) w fun t37 =>
  bV t37
  (R (.int .i64 1) w)
  (ledger_Check_s22 R t1 w))
theorem ledger_Check_s23_eq (R : Value → World → Prop) : ∀ e w, lift Try.prog 221 (bodyOf Try.f66) (finK Try.prog Try.f66.results.toList R) e w = ledger_Check_s23 R (e 0) w :=
  segs_eq (l := [(sub (bodyOf Try.f66) [0]), (sub (bodyOf Try.f66) [1, 0])]) (y := (sub (bodyOf Try.f66) [1, 1])) (Y := (fun e w => ledger_Check_s22 R (e 1) w)) (ledger_Check_s22_eq R) (fun e w => by kernel_rfl)
def ledger_Check (R : Value → World → Prop) (x0 : Value) (w : World) : Prop := ledger_Check_s23 R x0 w
theorem ledger_Check_call {R : Value → World → Prop} {x0 : Value} {w : World} (h : ledger_Check R x0 w) : callG Try.prog 66 #[x0] w R :=
  calls_lift_eq Try.mixed Try.func66 (args := [x0]) rfl rfl rfl rfl ((ledger_Check_s23_eq R) (envOf [x0]) w) (by kernel_rfl) h
end Go.Proofs

/- Maps from places to lists of numbers. -/
set_option linter.unusedVariables false
set_option linter.unusedSimpArgs false
namespace Go.Q
open Go
structure IE where
  a : List UInt8
  b : List UInt8
  ks : List Int
  v : Value
  S : List Nat
def IE.me (e : IE) : ME := ⟨e.a, e.b, e.v⟩
def blksI (R : List IE) : List Nat := (R.map (·.S)).flatten
structure IMap (wb w : World) (n : Nat) (R : List IE) : Prop where
  map : MapIs w n (R.map IE.me)
  rows : ∀ e ∈ R, RowsAt w e.v 1 (e.ks.map intV) e.S
  nd : (blksI R).Nodup
  new : ∀ x ∈ blksI R, wb.heap.size ≤ x
  old : n < wb.heap.size
  kp : Kp [n] wb w
section
variable {P : Program} {T kt et : TypeId} {z : Value} {wb w : World} {n : Nat} {R : List IE}
theorem IMap.keep {w' : World} (h : IMap wb w n R) (hk : Kp [] w w') : IMap wb w' n R :=
  ⟨h.map.keep hk (by simp), fun e he => (h.rows e he).keep hk (by simp), h.nd, h.new, h.old, h.kp.trans hk (by simp)⟩
theorem blks_mem {j : Nat} (hj : j < R.length) {x : Nat} (hx : x ∈ R[j].S) : x ∈ blksI R := by
  unfold blksI
  exact List.mem_flatten.2 ⟨R[j].S, List.mem_map.2 ⟨R[j], List.getElem_mem hj, rfl⟩, hx⟩
/-- blocks of two entries differ -/
theorem blks_apart : ∀ {R : List IE} {i j : Nat} (hi : i < R.length) (hj : j < R.length), (blksI R).Nodup → i ≠ j → ∀ x ∈ R[i].S, x ∉ R[j].S := by
  intro R
  induction R with
  | nil => intro i j hi; simp at hi
  | cons e r ih =>
    intro i j hi hj hnd hne x hx hx'
    simp only [blksI, List.map_cons, List.flatten_cons, List.nodup_append] at hnd
    cases i with
    | zero =>
      cases j with
      | zero => exact hne rfl
      | succ j => exact hnd.2.2 x hx x (blks_mem (R := r) (by simpa using hj) hx') rfl
    | succ i =>
      cases j with
      | zero => exact hnd.2.2 x hx' x (blks_mem (R := r) (by simpa using hi) hx) rfl
      | succ j => exact ih (by simpa using hi) (by simpa using hj) hnd.2.1 (by omega) x (by simpa using hx) (by simpa using hx')
theorem blks_set : ∀ {R : List IE} {j : Nat} (hj : j < R.length) (e : IE) {x : Nat}, x ∈ blksI (R.set j e) → x ∈ e.S ∨ ∃ i, ∃ h : i < R.length, i ≠ j ∧ x ∈ R[i].S := by
  intro R j hj e x hx
  obtain ⟨S, hS, hxS⟩ := List.mem_flatten.1 hx
  obtain ⟨e', he', rfl⟩ := List.mem_map.1 hS
  obtain ⟨i, hi, rfl⟩ := List.getElem_of_mem he'
  simp only [List.length_set] at hi
  by_cases h : j = i
  · subst h; simp at hxS; exact .inl hxS
  · rw [List.getElem_set_ne h] at hxS
    exact .inr ⟨i, hi, Ne.symm h, hxS⟩
theorem blks_set_nd : ∀ {R : List IE} {j : Nat} (hj : j < R.length) (e : IE), (blksI R).Nodup → e.S.Nodup → (∀ i (hi : i < R.length), i ≠ j → ∀ x ∈ R[i].S, x ∉ e.S) → (blksI (R.set j e)).Nodup := by
  intro R
  induction R with
  | nil => intro j hj; simp at hj
  | cons y r ih =>
    intro j hj e hnd he hap
    simp only [blksI, List.map_cons, List.flatten_cons, List.nodup_append] at hnd
    cases j with
    | zero =>
      simp only [List.set_cons_zero, blksI, List.map_cons, List.flatten_cons, List.nodup_append]
      refine ⟨he, hnd.2.1, fun a ha b hb hab => ?_⟩
      subst hab
      obtain ⟨S, hS, hxS⟩ := List.mem_flatten.1 hb
      obtain ⟨e', he', rfl⟩ := List.mem_map.1 hS
      obtain ⟨i, hi, rfl⟩ := List.getElem_of_mem he'
      exact hap (i + 1) (by simpa using hi) (by omega) a (by simpa using hxS) ha
    | succ j =>
      simp only [List.set_cons_succ, blksI, List.map_cons, List.flatten_cons, List.nodup_append]
      refine ⟨hnd.1, ih (by simpa using hj) e hnd.2.1 he (fun i hi hne x hx => hap (i + 1) (by simpa using hi) (by omega) x (by simpa using hx)), fun a ha b hb hab => ?_⟩
      subst hab
      rcases blks_set (R := r) (by simpa using hj) e hb with h | ⟨i, hi, hne, h⟩
      · exact hap 0 (by simp) (by omega) a (by simpa using ha) h
      · exact hnd.2.2 a ha a (blks_mem (R := r) hi h) rfl
theorem rows_S_nd {v : Value} {rows : List (List Value)} {S : List Nat} (h : RowsAt w v 1 rows S) : S.Nodup := by
  rcases h with ⟨_, _, h⟩ | ⟨bl, F, T, _, h, _⟩ <;> rw [h] <;> simp
/-- one more number at a place -/
theorem im_add (ht : MapT P T kt et z) (h : IMap wb w n R) {j : Nat} (hj : j < R.length) (hu : ∀ i (hi : i < R.length), i ≠ j → ¬(R[i].a = R[j].a ∧ R[i].b = R[j].b)) (hl : R[j].ks.length < 2 ^ 30) (q : Int) {K : World → Prop}
    (hK : ∀ w' v' S', IMap wb w' n (R.set j { R[j] with ks := R[j].ks ++ [q], v := v', S := S' }) → K w') {e : TypeId} {zz : Array Value} (hzz : zz = #[.int .i64 0]) :
    bsl e 1 1 zz #[(0, .int .i64 q)] w fun t137 w => eG P (Instr.mapEntry T (.map (some n)) (keyV R[j].a R[j].b)) w fun t138 w => qG P (Instr.extract t138 0) w fun t134 => app e 1 8 zz t134 t137 w fun t139 w => qG P (Instr.extract t138 1) w fun t140 => uG P (Instr.entryStore T (.map (some n)) t140 t139) w K := by
  subst hzz
  refine bsl_rows (n := 1) (len := 1) (xs := [.int .i64 q]) (rows := [q].map intV) (by omega) rfl rfl (by simp [intV]) (by omega) fun v1 w1 f1 => ?_
  have h1 := h.keep f1.kp
  have hjm : j < (R.map IE.me).length := by simpa using hj
  have hme : (R.map IE.me)[j] = R[j].me := by simp
  have hf := findE_at (m := R.map IE.me) (k := 0) hjm (fun i hi hne => by
    have hi' : i < R.length := by simpa using hi
    have := hu i hi' hne
    simpa [IE.me] using this)
  have hent := map_entry_old (P := P) ht h1.map hjm (by simpa using hf) (K := fun t138 w => qG P (Instr.extract t138 0) w fun t134 => app e 1 8 #[.int .i64 0] t134 v1 w fun t139 w => qG P (Instr.extract t138 1) w fun t140 => uG P (Instr.entryStore T (.map (some n)) t140 t139) w K) ?_
  · simpa [IE.me] using hent
  intro w2 hm2 hk2
  have hRn : ∀ x ∈ blksI R, x ≠ n := fun x hx hn => by have := h.new x hx; have := h.old; omega
  have r2 : ∀ e' ∈ R, RowsAt w2 e'.v 1 (e'.ks.map intV) e'.S := fun e' he' => (h1.rows e' he').keep hk2 (fun x hx => by
    obtain ⟨i, hi, rfl⟩ := List.getElem_of_mem he'
    simpa using hRn x (blks_mem hi hx))
  have kb2 : Kp [n] wb w2 := h1.kp.trans' hk2
  have hf1 : Rd w1 v1 1 ([q].map intV) := f1.rd
  obtain ⟨S1, hS1⟩ := f1.ex
  have hS1n : ∀ x ∈ S1, x ∉ [n] := fun x hx => by have := hS1.2 x hx; have := h.old; have := h.kp.size; simp; omega
  have hg2 := hS1.1.keep hk2 hS1n
  have hv0 : (R.map IE.me)[j].v = R[j].v := by rw [hme]; rfl
  rw [ex0, hv0]
  refine rows_app (k := 1) (z := [.int .i64 0]) (G := [q].map intV) (r2 R[j] (List.getElem_mem hj)) (by omega) rfl (by simp [intV]) (by simp [intV]) (fun K' hK' => hg2.rd.src K' hK') (by simp; omega) (by simp; omega) fun v3 w3 S3 h3 hk3 hS3 => ?_
  rw [ex1]
  have hsz2 := kb2.size
  have hRnS : n ∉ R[j].S := fun hm => hRn n (blks_mem hj hm) rfl
  have hm3 := hm2.keep hk3 hRnS
  refine map_store (P := P) hm3 hjm fun w4 hm4 hk4 => ?_
  have hlt2 : ∀ x ∈ blksI R, x < w2.heap.size := fun x hx => by
    obtain ⟨S, hS, hxS⟩ := List.mem_flatten.1 hx
    obtain ⟨e', he', rfl⟩ := List.mem_map.1 hS
    exact (r2 e' he').lt x hxS
  have hS3n : ∀ x ∈ S3, wb.heap.size ≤ x := fun x hx => by
    rcases hS3 x hx with hh | hh
    · exact h.new x (blks_mem hj hh)
    · omega
  have hapS : ∀ i (hi : i < R.length), i ≠ j → ∀ x ∈ R[i].S, x ∉ S3 := fun i hi hne x hx hx3 => by
    rcases hS3 x hx3 with hh | hh
    · exact blks_apart hi hj h.nd hne x hx hh
    · have := hlt2 x (blks_mem hi hx); omega
  refine hK w4 v3 S3 ⟨?_, fun e' he' => ?_, ?_, fun x hx => ?_, h.old, ?_⟩
  · have e1 : (R.set j { R[j] with ks := R[j].ks ++ [q], v := v3, S := S3 }).map IE.me = (R.map IE.me).set j { (R.map IE.me)[j] with v := v3 } := by
      rw [List.map_set]
      congr 1
      simp [IE.me]
    rw [e1]
    exact hm4
  · have hk4n : ∀ x, wb.heap.size ≤ x → x ∉ [n] := fun x hx => by have := h.old; simp; omega
    obtain ⟨i, hi, rfl⟩ := List.getElem_of_mem he'
    simp only [List.length_set] at hi
    by_cases hij : j = i
    · subst hij
      simp only [List.getElem_set_self]
      have h3' : RowsAt w3 v3 1 ((R[j].ks ++ [q]).map intV) S3 := by rw [List.map_append]; exact h3
      exact h3'.keep hk4 fun x hx => hk4n x (hS3n x hx)
    · rw [List.getElem_set_ne hij]
      exact ((r2 R[i] (List.getElem_mem hi)).keep hk3 (blks_apart hi hj h.nd (Ne.symm hij))).keep hk4 fun x hx => hk4n x (h.new x (blks_mem hi hx))
  · exact blks_set_nd hj _ h.nd (rows_S_nd h3) hapS
  · rcases blks_set hj _ hx with hh | ⟨i, hi, _, hh⟩
    · exact hS3n x hh
    · exact h.new x (blks_mem hi hh)
  · exact (kb2.trans hk3 fun x hx hlt => by have := h.new x (blks_mem hj hx); omega).trans' hk4
end
theorem equal_run {P : Program} {T : TypeId} {xs ys : List Value} {w : World} (h : aggEq P T xs ys = true) : (Op.equal T (.agg xs.toArray) (.agg ys.toArray)).run P w = .ok (eqC xs ys) w := by
  unfold aggEq at h
  split at h
  · rename_i fs hu
    simp only [Bool.and_eq_true, Bool.not_eq_true'] at h
    obtain ⟨⟨⟨⟨h1, h2⟩, h3⟩, h4⟩, h5⟩ := h
    have h4 := Nat.eq_of_beq_eq_true h4
    have h5 := Nat.eq_of_beq_eq_true h5
    have hf : P.fieldsOf T = fs := by simp [Program.fieldsOf, hu]
    have hr := flat_run (d := 9998) (xs := xs.toArray) (ys := ys.toArray) (w := w) fs.toList xs ys 0 h3 rfl rfl (by simpa using h4.symm) (by simpa using h5.symm)
    show (Op.equalIn 10000 T (.agg xs.toArray) (.agg ys.toArray)).run P w = _
    rw [run_equalIn_agg w 9999 T xs.toArray ys.toArray (by rw [hf]; exact hu) h1, hf]
    exact hr
  · cases h
/-- at each place of a list of stocks so many numbers -/
def Shape (R : List IE) (st : List SV) (f : List UInt8 → List UInt8 → List Int) : Prop := R.map (fun e => (e.a, e.b, e.ks)) = st.map fun s => (s.sku, s.loc, f s.sku s.loc)
theorem Shape.len {R : List IE} {st : List SV} {f : List UInt8 → List UInt8 → List Int} (h : Shape R st f) : R.length = st.length := by
  have := congrArg List.length h
  simpa using this
theorem Shape.at {R : List IE} {st : List SV} {f : List UInt8 → List UInt8 → List Int} (h : Shape R st f) {i : Nat} (hi : i < R.length) (hs : i < st.length) : R[i].a = st[i].sku ∧ R[i].b = st[i].loc ∧ R[i].ks = f st[i].sku st[i].loc := by
  have := congrArg (fun l => l[i]?) h
  simp only [List.getElem?_map, List.getElem?_eq_getElem hi, List.getElem?_eq_getElem hs, Option.map_some, Option.some.injEq, Prod.mk.injEq] at this
  exact this
theorem sorted_get {st : List SV} (h : Sorted st) {i j : Nat} (hi : i < st.length) (hj : j < st.length) (hne : i ≠ j) : ¬(st[i].sku = st[j].sku ∧ st[i].loc = st[j].loc) := by
  intro hk
  rcases Nat.lt_or_gt_of_ne hne with hlt | hlt
  · have := List.pairwise_iff_getElem.1 h i j hi hj hlt
    rw [ahead_key (a' := st[j]) (b' := st[j]) hk.1 hk.2 rfl rfl, ahead_irrefl] at this
    cases this
  · have := List.pairwise_iff_getElem.1 h j i hj hi hlt
    rw [ahead_key (a' := st[i]) (b' := st[i]) hk.1.symm hk.2.symm rfl rfl, ahead_irrefl] at this
    cases this
theorem Shape.uniq {R : List IE} {st : List SV} {f : List UInt8 → List UInt8 → List Int} (h : Shape R st f) (hs : Sorted st) {i j : Nat} (hi : i < R.length) (hj : j < R.length) (hne : i ≠ j) : ¬(R[i].a = R[j].a ∧ R[i].b = R[j].b) := by
  have hl := h.len
  obtain ⟨a1, b1, _⟩ := h.at hi (by omega)
  obtain ⟨a2, b2, _⟩ := h.at hj (by omega)
  rw [a1, b1, a2, b2]
  exact sorted_get hs _ _ hne
/-- a number more at one place -/
theorem Shape.add {R : List IE} {st : List SV} {f : List UInt8 → List UInt8 → List Int} (h : Shape R st f) (hs : Sorted st) {j : Nat} (hj : j < R.length) (q : Int) (v : Value) (S : List Nat) :
    Shape (R.set j { R[j] with ks := R[j].ks ++ [q], v := v, S := S }) st (fun x y => f x y ++ if R[j].a = x ∧ R[j].b = y then [q] else []) := by
  have hl := h.len
  unfold Shape
  apply List.ext_getElem?
  intro i
  simp only [List.getElem?_map]
  by_cases hi : i < st.length
  · have hiR : i < R.length := by omega
    obtain ⟨a1, b1, k1⟩ := h.at hiR hi
    rw [List.getElem?_eq_getElem hi, List.getElem?_eq_getElem (by simpa using hiR)]
    simp only [Option.map_some, Option.some.injEq, Prod.mk.injEq]
    by_cases hij : j = i
    · subst hij
      simp only [List.getElem_set_self]
      exact ⟨a1, b1, by rw [k1, if_pos ⟨a1, b1⟩]⟩
    · simp only [List.getElem_set_ne hij]
      refine ⟨a1, b1, ?_⟩
      rw [k1, if_neg]
      · simp
      · rintro ⟨e1, e2⟩
        exact h.uniq hs hj hiR hij ⟨e1.trans a1.symm, e2.trans b1.symm⟩
  · rw [List.getElem?_eq_none (by rw [List.length_set]; omega), List.getElem?_eq_none (by omega)]
    rfl
theorem known_at {st : List SV} {a b : List UInt8} (h : ∃ s ∈ st, s.sku = a ∧ s.loc = b) : ∃ i, ∃ hi : i < st.length, st[i].sku = a ∧ st[i].loc = b := by
  obtain ⟨s, hs, h1, h2⟩ := h
  obtain ⟨i, hi, rfl⟩ := List.getElem_of_mem hs
  exact ⟨i, hi, h1, h2⟩
def actL (ho : List HV) (a b : List UInt8) : List Int := (ho.filter fun h => decide (h.sku = a ∧ h.loc = b ∧ h.st = 0)).map (·.q)
def movL (mo : List HV) (a b : List UInt8) : List Int := (mo.filter fun h => decide (h.sku = a ∧ h.loc = b)).map (·.q)
theorem actL_sum (ho : List HV) (a b : List UInt8) : (actL ho a b).sum = activeQ ho a b := by
  induction ho with
  | nil => rfl
  | cons h r ih =>
    simp only [actL, activeQ, List.filter_cons, List.map_cons, List.sum_cons] at ih ⊢
    by_cases hc : h.sku = a ∧ h.loc = b ∧ h.st = 0
    · rw [if_pos (by simpa using hc), if_pos hc]; simp only [List.map_cons, List.sum_cons, ih]
    · rw [if_neg (by simpa using hc), if_neg hc, ih]; omega
theorem movL_sum (mo : List HV) (a b : List UInt8) : (movL mo a b).sum = movedQ mo a b := by
  induction mo with
  | nil => rfl
  | cons h r ih =>
    simp only [movL, movedQ, List.filter_cons, List.map_cons, List.sum_cons] at ih ⊢
    by_cases hc : h.sku = a ∧ h.loc = b
    · rw [if_pos (by simpa using hc), if_pos hc]; simp only [List.map_cons, List.sum_cons, ih]
    · rw [if_neg (by simpa using hc), if_neg hc, ih]; omega
theorem actL_snoc (ho : List HV) (h : HV) (a b : List UInt8) : actL (ho ++ [h]) a b = actL ho a b ++ if h.sku = a ∧ h.loc = b ∧ h.st = 0 then [h.q] else [] := by
  simp only [actL, List.filter_append, List.map_append, List.filter_cons, List.filter_nil]
  by_cases hc : h.sku = a ∧ h.loc = b ∧ h.st = 0
  · rw [if_pos (by simpa using hc), if_pos hc]; rfl
  · rw [if_neg (by simpa using hc), if_neg hc]; rfl
theorem movL_snoc (mo : List HV) (h : HV) (a b : List UInt8) : movL (mo ++ [h]) a b = movL mo a b ++ if h.sku = a ∧ h.loc = b then [h.q] else [] := by
  simp only [movL, List.filter_append, List.map_append, List.filter_cons, List.filter_nil]
  by_cases hc : h.sku = a ∧ h.loc = b
  · rw [if_pos (by simpa using hc), if_pos hc]; rfl
  · rw [if_neg (by simpa using hc), if_neg hc]; rfl
theorem actL_len (ho : List HV) (a b : List UInt8) : (actL ho a b).length ≤ ho.length := by
  unfold actL; rw [List.length_map]; exact List.length_filter_le _ _
theorem movL_len (mo : List HV) (a b : List UInt8) : (movL mo a b).length ≤ mo.length := by
  unfold movL; rw [List.length_map]; exact List.length_filter_le _ _
end Go.Q

/- Layer 7: a ledger that may be is told so. -/
set_option linter.unusedVariables false
set_option linter.unusedSimpArgs false
namespace Go.Proofs
open Go Go.Q
theorem mapT : MapT Try.prog 116 119 93 (.slice none 0 0) where
  hm := Try.underlying116
  wide := by rw [Try.underlying119]
  ck := fun e a b w => by kernel_rfl
  eq := fun a b c d w => by
    have h : aggEq Try.prog 119 [.string (str a), .string (str b)] [.string (str c), .string (str d)] = true := by kernel_rfl
    have := equal_run (w := w) h
    simp only [eqC_cons, eqC_nil, eqV_str, str_eq, Bool.and_true] at this
    rw [Bool.decide_and]
    exact this
  zv := fun w => by kernel_rfl
/-- a ledger, as a value -/
def LedAt (w : World) (v : Value) (l : LV) : Prop := ∃ a b c, v = .agg #[a, b, c, .int .i64 l.ops] ∧ Rd w a 4 (l.st.map sC) ∧ Rd w b 6 (l.ho.map hC) ∧ Rd w c 6 (l.mo.map hC)
theorem LedAt.keep {w w' : World} {v : Value} {l : LV} (h : LedAt w v l) (hk : Kp [] w w') : LedAt w' v l := by
  obtain ⟨a, b, c, e, h1, h2, h3⟩ := h
  exact ⟨a, b, c, e, h1.keep hk, h2.keep hk, h3.keep hk⟩
section
variable {w0 : World} {l : LV} {R : Value → World → Prop} {x n3 n4 : Nat} {sv hv mv : Value}
/-- how things stand in Check -/
structure CkAt (w0 w : World) (l : LV) (x : Nat) (sv hv mv : Value) : Prop where
  hx : w.heap[x]? = some (.cells #[sv, hv, mv, .int .i64 l.ops] 60)
  s0 : Rd w0 sv 4 (l.st.map sC)
  h0 : Rd w0 hv 6 (l.ho.map hC)
  m0 : Rd w0 mv 6 (l.mo.map hC)
  kp : Kp [] w0 w
  x0 : w0.heap.size ≤ x
theorem CkAt.s {w : World} (c : CkAt w0 w l x sv hv mv) : Rd w sv 4 (l.st.map sC) := c.s0.keep c.kp
theorem CkAt.h {w : World} (c : CkAt w0 w l x sv hv mv) : Rd w hv 6 (l.ho.map hC) := c.h0.keep c.kp
theorem CkAt.m {w : World} (c : CkAt w0 w l x sv hv mv) : Rd w mv 6 (l.mo.map hC) := c.m0.keep c.kp
theorem CkAt.keep {w w' : World} (c : CkAt w0 w l x sv hv mv) (hk : Kp [] w w') : CkAt w0 w' l x sv hv mv :=
  ⟨hk.get c.hx (by simp), c.s0, c.h0, c.m0, c.kp.trans' hk, c.x0⟩
theorem CkAt.keepN {w w' : World} (c : CkAt w0 w l x sv hv mv) {n : Nat} (hk : Kp [n] w w') (hn : w0.heap.size ≤ n) (hx : x ≠ n) : CkAt w0 w' l x sv hv mv :=
  ⟨hk.get c.hx (by simpa using hx), c.s0, c.h0, c.m0, c.kp.trans hk (fun y hy hlt => by simp at hy; omega), c.x0⟩
/-- a map that is only read -/
structure IRead (w : World) (n : Nat) (R : List IE) : Prop where
  map : MapIs w n (R.map IE.me)
  rows : ∀ e ∈ R, RowsAt w e.v 1 (e.ks.map intV) e.S
theorem IRead.keepS {w w' : World} {n : Nat} {R : List IE} {S : List Nat} (h : IRead w n R) (hk : Kp S w w') (hn : n ∉ S) (hb : ∀ y ∈ blksI R, y ∉ S) : IRead w' n R :=
  ⟨h.map.keep hk hn, fun e he => (h.rows e he).keep hk (fun y hy => by
    obtain ⟨i, hi, rfl⟩ := List.getElem_of_mem he
    exact hb y (blks_mem hi hy))⟩
theorem IRead.keep {w w' : World} {n : Nat} {R : List IE} (h : IRead w n R) (hk : Kp [] w w') : IRead w' n R := h.keepS hk (by simp) (by simp)
theorem _root_.Go.Q.IMap.read {wb w : World} {n : Nat} {R : List IE} (h : IMap wb w n R) : IRead w n R := ⟨h.map, h.rows⟩
theorem boxPl {z : Array Value} {a b : List UInt8} {w : World} {K : Value → World → Prop} (hz : z.size = 2)
    (h : ∀ p w1, w.heap.size ≤ p → w1.heap[p]? = some (.cells #[.string (str a), .string (str b)] 119) → Kp [] w w1 → K (.pointer (some ⟨p, 0, none⟩)) w1) : newG z 119 w fun p w => stn 2 p (keyV a b) w fun w => K p w :=
  boxG hz rfl (by simp [one]) h
theorem ldPl {b : Nat} {x y : List UInt8} {w : World} {T : TypeId} (h : w.heap[b]? = some (.cells #[.string (str x), .string (str y)] T)) {K : Value → Prop} : ldn 2 (.pointer (some ⟨b, 0, none⟩)) w K = K (keyV x y) := ldAll h rfl
theorem rd_stock {w : World} {v : Value} {st : List SV} (h : Rd w v 4 (st.map sC)) {i : Nat} (hi : i < st.length) : ∃ p, (∀ K : Value → Prop, ia 4 v (.int .i64 i) K = K p) ∧ ∀ K : Value → Prop, ldn 4 p w K = K (sA st[i]) := by
  obtain ⟨p, h1, h2, _⟩ := h.get (i := i) (by simpa using hi)
  refine ⟨p, fun K => h1 .i64 K, fun K => ?_⟩
  rw [h2 K]
  simp [sC, sA]
theorem rd_hold {w : World} {v : Value} {ho : List HV} (h : Rd w v 6 (ho.map hC)) {i : Nat} (hi : i < ho.length) : ∃ p, (∀ K : Value → Prop, ia 6 v (.int .i64 i) K = K p) ∧ ∀ K : Value → Prop, ldn 6 p w K = K (hA ho[i]) := by
  obtain ⟨p, h1, h2, _⟩ := h.get (i := i) (by simpa using hi)
  refine ⟨p, fun K => h1 .i64 K, fun K => ?_⟩
  rw [h2 K]
  simp [hC, hA]
theorem rngI_fits {x : Int} (h : fits x = true) : rngI x := fits_rng.1 h
theorem act_rng (hm : May l) (a b : List UInt8) : ∀ x ∈ actL l.ho a b, rngI x := by
  intro x hx
  unfold actL at hx
  simp only [List.mem_map, List.mem_filter, decide_eq_true_eq] at hx
  obtain ⟨h, ⟨hh, _, _, h0⟩, rfl⟩ := hx
  obtain ⟨k, hk, rfl⟩ := List.getElem_of_mem hh
  obtain ⟨_, _, f3, f4, f5, f6, _, _⟩ := act_facts hm.m hk h0
  have := fits_iff.1 f6
  unfold rngI
  omega
theorem mov_rng (hm : May l) (a b : List UInt8) : ∀ x ∈ movL l.mo a b, rngI x := by
  intro x hx
  unfold movL at hx
  simp only [List.mem_map, List.mem_filter] at hx
  obtain ⟨h, ⟨hh, _⟩, rfl⟩ := hx
  obtain ⟨k, hk, rfl⟩ := List.getElem_of_mem hh
  have := hm.moves k hk
  simp only [moveOk, Bool.and_eq_true] at this
  exact rngI_fits this.1.1.1.1.1.2
theorem check_fin {w : World} (hm : May l) (c : CkAt w0 w l x sv hv mv) {R3 R4 : List IE} (i3 : IRead w n3 R3) (i4 : IRead w n4 R4) (s3 : Shape R3 l.st (actL l.ho)) (s4 : Shape R4 l.st (movL l.mo))
    (hR : ∀ w', Kp [] w w' → R (.int .i64 0) w') : ledger_Check_L2 R (.map (some n3)) (.map (some n4)) sv (.int .i64 l.st.length) (.int .i64 0) w := by
  have hfew := hm.few
  simp only [fullL, decide_eq_false_iff_not, not_or] at hfew
  unfold ledger_Check_L2
  refine loop_inv (fun m xs wi => ∃ i, i ≤ l.st.length ∧ m = l.st.length - i ∧ xs = [.map (some n3), .map (some n4), sv, .int .i64 l.st.length, .int .i64 (i : Nat)] ∧ Kp [] w wi) ?_ (m := l.st.length) ⟨0, by omega, rfl, rfl, Kp.refl _ _⟩
  rintro m N xs wi ⟨i, hi, rfl, rfl, hk⟩ hN
  have hiw : IntKind.i64.wrap ((i : Int) + 1) = ((i + 1 : Nat) : Int) := by rw [w64 (by omega) (by omega)]; simp
  unfold ledger_Check_L2F ledger_Check_b1
  simp [-getElem?_pos, -Array.all_eq_true, -Array.getElem?_eq_getElem, -List.length_flatten, List.getElem?_cons_zero, List.getElem?_cons_succ, -ldn_p, -stn_p, -newG_k]
  refine ⟨fun hlt => ?_, fun hge => by unfold ledger_Check_s0; exact hR wi hk⟩
  obtain ⟨p, hp1, hp2⟩ := rd_stock ((c.keep hk).s) hlt
  rw [hp1, hp2]
  refine boxStock (o := l.st[i]) (by kernel_rfl) fun b1 w1 hb1 hh1 hk1 => ?_
  rw [ldStock hh1]
  refine of_spec7 l.st[i] fun w2 hk2 => ?_
  have kk2 := (hk.trans' hk1).trans' hk2
  have j3 := i3.keep kk2
  have j4 := i4.keep kk2
  have hl3 := s3.len
  have hl4 := s4.len
  obtain ⟨a3, b3, c3⟩ := s3.at (i := i) (by omega) hlt
  obtain ⟨a4, b4, c4⟩ := s4.at (i := i) (by omega) hlt
  have f3 := findE_at (m := R3.map IE.me) (k := 0) (i := i) (by simpa using (by omega : i < R3.length)) (fun j hj hne => by
    have := s3.uniq hm.sorted (i := j) (j := i) (by simpa using hj) (by omega) hne
    simpa [IE.me] using this)
  have f4 := findE_at (m := R4.map IE.me) (k := 0) (i := i) (by simpa using (by omega : i < R4.length)) (fun j hj hne => by
    have := s4.uniq hm.sorted (i := j) (j := i) (by simpa using hj) (by omega) hne
    simpa [IE.me] using this)
  simp only [List.getElem_map, IE.me, a3, b3, Nat.zero_add] at f3
  simp only [List.getElem_map, IE.me, a4, b4, Nat.zero_add] at f4
  refine map_get mapT j3.map ?_
  rw [show findE l.st[i].sku l.st[i].loc (R3.map IE.me) 0 = _ from f3]
  simp only [Option.map_some, Option.getD_some]
  have r3 := j3.rows R3[i] (List.getElem_mem (by omega))
  refine Sum_spec (ks := R3[i].ks) ⟨_, .inr r3.rd⟩ (by rw [c3]; exact act_rng hm _ _) (by rw [c3]; have := actL_len l.ho l.st[i].sku l.st[i].loc; omega) ?_
  rw [c3, actL_sum]
  simp [-getElem?_pos, -Array.all_eq_true, -Array.getElem?_eq_getElem, -List.length_flatten, List.getElem?_cons_zero, List.getElem?_cons_succ, -ldn_p, -stn_p, -newG_k]
  rw [ldStock (hk2.get hh1 (by simp))]
  refine of_spec7 l.st[i] fun w3 hk3 => ?_
  refine map_get mapT (j4.keep hk3).map ?_
  rw [show findE l.st[i].sku l.st[i].loc (R4.map IE.me) 0 = _ from f4]
  simp only [Option.map_some, Option.getD_some]
  have r4 := (j4.keep hk3).rows R4[i] (List.getElem_mem (by omega))
  refine Sum_spec (ks := R4[i].ks) ⟨_, .inr r4.rd⟩ (by rw [c4]; exact mov_rng hm _ _) (by rw [c4]; have := movL_len l.mo l.st[i].sku l.st[i].loc; omega) ?_
  rw [c4, movL_sum]
  obtain ⟨_, _, g3, g4, g5, g6, g7⟩ := hm.f.ok l.st[i] (List.getElem_mem hlt)
  have gf := fits_iff.1 g3
  rw [← g6, ← g7, numO_fit g3, numO_fit (fits_iff.2 (by omega))]
  have hh3 := (hk2.trans' hk3).get hh1 (by simp)
  unfold sC at hh3
  simp [-getElem?_pos, -Array.all_eq_true, -Array.getElem?_eq_getElem, -List.length_flatten, List.getElem?_cons_zero, List.getElem?_cons_succ, hh3, hiw]
  exact hN (l.st.length - (i + 1)) _ w3 (by omega) ⟨i + 1, by omega, rfl, by simp, kk2.trans' hk3⟩
/-- the movements are gathered -/
theorem check_moves {w : World} (hm : May l) (c : CkAt w0 w l x sv hv mv) {R3 R4 : List IE} (i3 : IRead w n3 R3) (i4 : IMap w w n4 R4) (s3 : Shape R3 l.st (actL l.ho)) (s4 : Shape R4 l.st (fun _ _ => [])) (h34 : n3 ≠ n4) (hb : ∀ y ∈ blksI R3, y ≠ n4) (h4 : w0.heap.size ≤ n4) (hx4 : x ≠ n4)
    (hR : ∀ w', Kp [] w0 w' → R (.int .i64 0) w') : ledger_Check_L8 R (.pointer (some ⟨x, 0, none⟩)) (.map (some n3)) (.map (some n4)) mv (.int .i64 l.mo.length) (.int .i64 0) w := by
  have hfew := hm.few
  simp only [fullL, decide_eq_false_iff_not, not_or] at hfew
  unfold ledger_Check_L8
  refine loop_inv (fun m xs wi => ∃ i R4i, i ≤ l.mo.length ∧ m = l.mo.length - i ∧ xs = [.pointer (some ⟨x, 0, none⟩), .map (some n3), .map (some n4), mv, .int .i64 l.mo.length, .int .i64 (i : Nat)] ∧ IMap w wi n4 R4i ∧ Shape R4i l.st (movL (l.mo.take i))) ?_ (m := l.mo.length) ⟨0, R4, by omega, rfl, rfl, i4, s4⟩
  rintro m N xs wi ⟨i, R4i, hi, rfl, rfl, j4, t4⟩ hN
  have hiw : IntKind.i64.wrap ((i : Int) + 1) = ((i + 1 : Nat) : Int) := by rw [w64 (by omega) (by omega)]; simp
  have ci := c.keepN j4.kp h4 hx4
  have j3 : IRead wi n3 R3 := i3.keepS j4.kp (by simpa using h34) (fun y hy => by simpa using hb y hy)
  have hl4 := t4.len
  unfold ledger_Check_L8F ledger_Check_s7
  simp [-getElem?_pos, -Array.all_eq_true, -Array.getElem?_eq_getElem, -List.length_flatten, List.getElem?_cons_zero, List.getElem?_cons_succ, -ldn_p, -stn_p, -newG_k]
  refine ⟨fun hlt => ?_, fun hge => ?_⟩
  · have hmv := hm.moves i hlt
    simp only [moveOk, Bool.and_eq_true, decide_eq_true_eq, beq_iff_eq] at hmv
    obtain ⟨⟨⟨⟨⟨⟨⟨⟨m1, m2⟩, m3⟩, m4⟩, m5⟩, m6⟩, m7⟩, m8⟩, m9⟩ := hmv
    obtain ⟨j, hj, k1, k2⟩ := known_at (known_find.1 m9)
    have hjR : j < R4i.length := by omega
    obtain ⟨a4, b4, c4⟩ := t4.at hjR hj
    have hu : ∀ i' (hi' : i' < R4i.length), i' ≠ j → ¬(R4i[i'].a = R4i[j].a ∧ R4i[i'].b = R4i[j].b) := fun i' hi' hne => t4.uniq hm.sorted hi' hjR hne
    have f4 := findE_at (m := R4i.map IE.me) (k := 0) (i := j) (by simpa using hjR) (fun i' hi' hne => by
      have := hu i' (by simpa using hi') hne
      simpa [IE.me] using this)
    simp only [List.getElem_map, IE.me, a4, b4, k1, k2, Nat.zero_add] at f4
    obtain ⟨p, hp1, hp2⟩ := rd_hold ci.m hlt
    unfold ledger_Check_s6
    rw [hp1, hp2]
    refine boxMove (o := l.mo[i]) (by kernel_rfl) fun b1 w1 hb1 hh1 hk1 => ?_
    have hh1' := hh1
    unfold hC at hh1'
    simp [-getElem?_pos, -Array.all_eq_true, -Array.getElem?_eq_getElem, -List.length_flatten, List.getElem?_cons_zero, List.getElem?_cons_succ, hh1', zcPl, bld_done, bld_if, offAt, putAt, -ldn_p, -stn_p, -newG_k]
    refine boxPl (a := l.mo[i].sku) (b := l.mo[i].loc) rfl fun b2 w2 hb2 hh2 hk2 => ?_
    rw [ldPl hh2]
    have kk2 := hk1.trans' hk2
    refine map_get2 mapT (j4.keep kk2).map ?_
    rw [show findE l.mo[i].sku l.mo[i].loc (R4i.map IE.me) 0 = _ from f4]
    simp [-getElem?_pos, -Array.all_eq_true, -Array.getElem?_eq_getElem, -List.length_flatten, List.getElem?_cons_zero, List.getElem?_cons_succ, -ldn_p, -stn_p, -newG_k]
    rw [ldHold (hk2.get hh1 (by simp))]
    refine move_true (by omega) m1 m2 m3 m5 m6 m7 (by by_cases h1 : l.mo[i].due = 0 <;> by_cases h2 : l.mo[i].st = 3 <;> simp [h1, h2] at m8 ⊢) fun w3 hk3 => ?_
    have kk3 := kk2.trans' hk3
    simp [-getElem?_pos, -Array.all_eq_true, -Array.getElem?_eq_getElem, -List.length_flatten, List.getElem?_cons_zero, List.getElem?_cons_succ, -ldn_p, -stn_p, -newG_k]
    unfold ledger_Check_s5
    rw [ldPl (hk3.get hh2 (by simp))]
    have hh13 := (hk2.trans' hk3).get hh1' (by simp)
    simp [-getElem?_pos, -Array.all_eq_true, -Array.getElem?_eq_getElem, -List.length_flatten, List.getElem?_cons_zero, List.getElem?_cons_succ, hh13, -ldn_p, -stn_p, -newG_k]
    have hadd := im_add (P := Try.prog) mapT (j4.keep kk3) hjR hu (by rw [c4]; have := movL_len (l.mo.take i) l.st[j].sku l.st[j].loc; have := List.length_take_le i l.mo; omega) l.mo[i].q (e := 3) (zz := zc Try.prog 3) (K := fun w => ledger_Check_s4 R N (.pointer (some ⟨x, 0, none⟩)) (.map (some n3)) (.map (some n4)) mv (.int .i64 l.mo.length) (.int .i64 i) w)
      (fun w' v' S' hw' => ?_) (by kernel_rfl)
    · rw [a4, b4, k1, k2] at hadd
      exact hadd
    · unfold ledger_Check_s4
      simp [-getElem?_pos, -Array.all_eq_true, -Array.getElem?_eq_getElem, -List.length_flatten, List.getElem?_cons_zero, List.getElem?_cons_succ, hiw]
      have t5 := t4.add hm.sorted hjR l.mo[i].q v' S'
      refine hN (l.mo.length - (i + 1)) _ w' (by omega) ⟨i + 1, _, by omega, rfl, by simp, hw', ?_⟩
      have e : (fun x y => movL (l.mo.take i) x y ++ if R4i[j].a = x ∧ R4i[j].b = y then [l.mo[i].q] else []) = movL (l.mo.take (i + 1)) := by
        funext x y
        rw [List.take_succ_eq_append_getElem hlt, movL_snoc, a4, b4, k1, k2]
      rw [e] at t5
      exact t5
  · have hie : i = l.mo.length := by omega
    subst hie
    rw [List.take_length] at t4
    unfold ledger_Check_s3
    have hx := ci.hx
    simp [-getElem?_pos, -Array.all_eq_true, -Array.getElem?_eq_getElem, -List.length_flatten, List.getElem?_cons_zero, List.getElem?_cons_succ, hx, ci.s.lenL]
    exact check_fin hm ci j3 j4.read s3 t4 fun w' hk => hR w' (ci.kp.trans' hk)
/-- the holds are gathered -/
theorem check_holds {w : World} (hm : May l) (c : CkAt w0 w l x sv hv mv) {R3 R4 : List IE} (i3 : IMap w w n3 R3) (i4 : IRead w n4 R4) (s3 : Shape R3 l.st (fun _ _ => [])) (s4 : Shape R4 l.st (fun _ _ => [])) (h34 : n3 ≠ n4) (hb : blksI R4 = []) (h3 : w0.heap.size ≤ n3) (h4 : w0.heap.size ≤ n4) (hx3 : x ≠ n3) (hx4 : x ≠ n4) (h4w : n4 < w.heap.size)
    (hR : ∀ w', Kp [] w0 w' → R (.int .i64 0) w') : ledger_Check_L14 R (.pointer (some ⟨x, 0, none⟩)) (.map (some n3)) (.map (some n4)) hv (.int .i64 l.ho.length) (.int .i64 0) w := by
  have hfew := hm.few
  simp only [fullL, decide_eq_false_iff_not, not_or] at hfew
  unfold ledger_Check_L14
  refine loop_inv (fun m xs wi => ∃ i R3i, i ≤ l.ho.length ∧ m = l.ho.length - i ∧ xs = [.pointer (some ⟨x, 0, none⟩), .map (some n3), .map (some n4), hv, .int .i64 l.ho.length, .int .i64 (i : Nat)] ∧ IMap w wi n3 R3i ∧ Shape R3i l.st (actL (l.ho.take i))) ?_ (m := l.ho.length) ⟨0, R3, by omega, rfl, rfl, i3, s3⟩
  rintro m N xs wi ⟨i, R3i, hi, rfl, rfl, j3, t3⟩ hN
  have hiw : IntKind.i64.wrap ((i : Int) + 1) = ((i + 1 : Nat) : Int) := by rw [w64 (by omega) (by omega)]; simp
  have ci := c.keepN j3.kp h3 hx3
  have j4 : IRead wi n4 R4 := i4.keepS j3.kp (by simpa using Ne.symm h34) (by rw [hb]; simp)
  have hl3 := t3.len
  unfold ledger_Check_L14F ledger_Check_s13
  simp [-getElem?_pos, -Array.all_eq_true, -Array.getElem?_eq_getElem, -List.length_flatten, List.getElem?_cons_zero, List.getElem?_cons_succ, -ldn_p, -stn_p, -newG_k]
  refine ⟨fun hlt => ?_, fun hge => ?_⟩
  · have hho := hm.holds i hlt
    simp only [holdOk, Bool.and_eq_true, Bool.or_eq_true, decide_eq_true_eq] at hho
    obtain ⟨⟨⟨⟨m1, m2⟩, m3⟩, m4, m5, m6, m7⟩, m8⟩ := hho
    obtain ⟨p, hp1, hp2⟩ := rd_hold ci.h hlt
    unfold ledger_Check_s12
    rw [hp1, hp2]
    refine boxHold (o := l.ho[i]) (by kernel_rfl) fun b1 w1 hb1 hh1 hk1 => ?_
    have hh1' := hh1
    unfold hC at hh1'
    simp [-getElem?_pos, -Array.all_eq_true, -Array.getElem?_eq_getElem, -List.length_flatten, List.getElem?_cons_zero, List.getElem?_cons_succ, hh1', zcPl, bld_done, bld_if, offAt, putAt, -ldn_p, -stn_p, -newG_k]
    refine boxPl (a := l.ho[i].sku) (b := l.ho[i].loc) rfl fun b2 w2 hb2 hh2 hk2 => ?_
    rw [ldPl hh2]
    have kk2 := hk1.trans' hk2
    refine map_get2 mapT (j3.keep kk2).map ?_
    simp [-getElem?_pos, -Array.all_eq_true, -Array.getElem?_eq_getElem, -List.length_flatten, List.getElem?_cons_zero, List.getElem?_cons_succ, -ldn_p, -stn_p, -newG_k]
    rw [ldHold (hk2.get hh1 (by simp))]
    refine hold_true (by omega) m1 m2 m3 m4 m5 m6 m7 fun w3 hk3 => ?_
    have kk3 := kk2.trans' hk3
    have hh13 := (hk2.trans' hk3).get hh1' (by simp)
    have hsnoc : ∀ x y, actL (l.ho.take (i + 1)) x y = actL (l.ho.take i) x y ++ if l.ho[i].sku = x ∧ l.ho[i].loc = y ∧ l.ho[i].st = 0 then [l.ho[i].q] else [] := fun x y => by
      rw [List.take_succ_eq_append_getElem hlt, actL_snoc]
    simp [-getElem?_pos, -Array.all_eq_true, -Array.getElem?_eq_getElem, -List.length_flatten, List.getElem?_cons_zero, List.getElem?_cons_succ, hh13, -ldn_p, -stn_p, -newG_k]
    refine ⟨fun h0 => ?_, fun h0 => ?_⟩
    · have hkn := m8.resolve_left (fun h => h h0)
      obtain ⟨j, hj, k1, k2⟩ := known_at (known_find.1 hkn)
      have hjR : j < R3i.length := by omega
      obtain ⟨a4, b4, c4⟩ := t3.at hjR hj
      have hu : ∀ i' (hi' : i' < R3i.length), i' ≠ j → ¬(R3i[i'].a = R3i[j].a ∧ R3i[i'].b = R3i[j].b) := fun i' hi' hne => t3.uniq hm.sorted hi' hjR hne
      have f4 := findE_at (m := R3i.map IE.me) (k := 0) (i := j) (by simpa using hjR) (fun i' hi' hne => by
        have := hu i' (by simpa using hi') hne
        simpa [IE.me] using this)
      simp only [List.getElem_map, IE.me, a4, b4, k1, k2, Nat.zero_add] at f4
      have f4' : findE l.ho[i].sku l.ho[i].loc (R3i.map IE.me) 0 = _ := f4
      rw [f4']
      simp [-getElem?_pos, -Array.all_eq_true, -Array.getElem?_eq_getElem, -List.length_flatten, List.getElem?_cons_zero, List.getElem?_cons_succ, -ldn_p, -stn_p, -newG_k]
      unfold ledger_Check_s11
      simp [-getElem?_pos, -Array.all_eq_true, -Array.getElem?_eq_getElem, -List.length_flatten, List.getElem?_cons_zero, List.getElem?_cons_succ, hh13, h0, -ldn_p, -stn_p, -newG_k]
      rw [ldPl (hk3.get hh2 (by simp))]
      have hadd := im_add (P := Try.prog) mapT (j3.keep kk3) hjR hu (by rw [c4]; have := actL_len (l.ho.take i) l.st[j].sku l.st[j].loc; have := List.length_take_le i l.ho; omega) l.ho[i].q (e := 3) (zz := zc Try.prog 3) (K := fun w => ledger_Check_s10 R N (.pointer (some ⟨x, 0, none⟩)) (.map (some n3)) (.map (some n4)) hv (.int .i64 l.ho.length) (.int .i64 i) w)
        (fun w' v' S' hw' => ?_) (by kernel_rfl)
      · rw [a4, b4, k1, k2] at hadd
        exact hadd
      · unfold ledger_Check_s10
        simp [-getElem?_pos, -Array.all_eq_true, -Array.getElem?_eq_getElem, -List.length_flatten, List.getElem?_cons_zero, List.getElem?_cons_succ, hiw]
        have t5 := t3.add hm.sorted hjR l.ho[i].q v' S'
        refine hN (l.ho.length - (i + 1)) _ w' (by omega) ⟨i + 1, _, by omega, rfl, by simp, hw', ?_⟩
        have e : (fun x y => actL (l.ho.take i) x y ++ if R3i[j].a = x ∧ R3i[j].b = y then [l.ho[i].q] else []) = actL (l.ho.take (i + 1)) := by
          funext x y
          rw [hsnoc, a4, b4, k1, k2]
          simp only [h0, and_true]
        rw [e] at t5
        exact t5
    · unfold ledger_Check_s11
      simp [-getElem?_pos, -Array.all_eq_true, -Array.getElem?_eq_getElem, -List.length_flatten, List.getElem?_cons_zero, List.getElem?_cons_succ, hh13, h0, -ldn_p, -stn_p, -newG_k]
      unfold ledger_Check_s10
      simp [-getElem?_pos, -Array.all_eq_true, -Array.getElem?_eq_getElem, -List.length_flatten, List.getElem?_cons_zero, List.getElem?_cons_succ, hiw]
      refine hN (l.ho.length - (i + 1)) _ w3 (by omega) ⟨i + 1, R3i, by omega, rfl, by simp, j3.keep kk3, ?_⟩
      have e : actL (l.ho.take i) = actL (l.ho.take (i + 1)) := by
        funext x y
        rw [hsnoc, if_neg (fun hh => h0 hh.2.2), List.append_nil]
      rw [← e]
      exact t3
  · have hie : i = l.ho.length := by omega
    subst hie
    rw [List.take_length] at t3
    unfold ledger_Check_s9
    have hx := ci.hx
    simp [-getElem?_pos, -Array.all_eq_true, -Array.getElem?_eq_getElem, -List.length_flatten, List.getElem?_cons_zero, List.getElem?_cons_succ, hx, ci.m.lenL]
    have hsz := j3.kp.size
    refine check_moves hm ci j3.read ⟨j4.map, j4.rows, by rw [hb]; simp, by rw [hb]; simp, by omega, Kp.refl _ _⟩ t3 s4 h34 (fun y hy => ?_) h4 hx4 hR
    have := j3.new y hy
    omega
def nilI (s : SV) : IE := ⟨s.sku, s.loc, [], .slice none 0 0, []⟩
theorem nil_shape (st : List SV) : Shape (st.map nilI) st (fun _ _ => []) := by simp [Shape, nilI]
theorem nil_blks (st : List SV) : blksI (st.map nilI) = [] := by
  induction st with
  | nil => rfl
  | cons s r ih => simp only [blksI, List.map_cons, List.flatten_cons] at ih ⊢; rw [ih]; rfl
theorem nil_read {w : World} {n : Nat} {st : List SV} (h : MapIs w n ((st.map nilI).map IE.me)) : IRead w n (st.map nilI) :=
  ⟨h, fun e he => by
    obtain ⟨s, _, rfl⟩ := List.mem_map.1 he
    exact .inl ⟨rfl, rfl, rfl⟩⟩
theorem nil_snoc {st : List SV} {i : Nat} (h : i < st.length) : ((st.take i).map nilI).map IE.me ++ [⟨st[i].sku, st[i].loc, .slice none 0 0⟩] = ((st.take (i + 1)).map nilI).map IE.me := by
  rw [List.take_succ_eq_append_getElem h, List.map_append, List.map_append]
  rfl
theorem nil_none {st : List SV} (hs : Sorted st) {i : Nat} (h : i < st.length) : findE st[i].sku st[i].loc (((st.take i).map nilI).map IE.me) 0 = none := by
  rw [findE_none]
  intro e he hk
  simp only [List.map_map, List.mem_map, Function.comp] at he
  obtain ⟨s, hs', rfl⟩ := he
  obtain ⟨j, hj, rfl⟩ := List.getElem_of_mem hs'
  simp only [List.length_take] at hj
  simp only [List.getElem_take, nilI, IE.me] at hk
  exact sorted_get hs (by omega) h (by omega) ⟨hk.1.symm, hk.2.symm⟩
/-- the stocks are gone through -/
theorem check_stocks {w : World} (hm : May l) (c : CkAt w0 w l x sv hv mv) (i3 : MapIs w n3 []) (i4 : MapIs w n4 []) (h34 : n3 ≠ n4) (h3 : w0.heap.size ≤ n3) (h4 : w0.heap.size ≤ n4) (hx3 : x ≠ n3) (hx4 : x ≠ n4)
    (hR : ∀ w', Kp [] w0 w' → R (.int .i64 0) w') : ledger_Check_L20 R (.pointer (some ⟨x, 0, none⟩)) (.map (some n3)) (.map (some n4)) sv (.int .i64 l.st.length) (.int .i64 0) w := by
  have hfew := hm.few
  simp only [fullL, decide_eq_false_iff_not, not_or] at hfew
  unfold ledger_Check_L20
  refine loop_inv (fun m xs wi => ∃ i, i ≤ l.st.length ∧ m = l.st.length - i ∧ xs = [.pointer (some ⟨x, 0, none⟩), .map (some n3), .map (some n4), sv, .int .i64 l.st.length, .int .i64 (i : Nat)] ∧
      MapIs wi n3 (((l.st.take i).map nilI).map IE.me) ∧ MapIs wi n4 (((l.st.take i).map nilI).map IE.me) ∧ CkAt w0 wi l x sv hv mv) ?_ (m := l.st.length) ⟨0, by omega, rfl, rfl, i3, i4, c⟩
  rintro m N xs wi ⟨i, hi, rfl, rfl, j3, j4, ci⟩ hN
  have hiw : IntKind.i64.wrap ((i : Int) + 1) = ((i + 1 : Nat) : Int) := by rw [w64 (by omega) (by omega)]; simp
  unfold ledger_Check_L20F ledger_Check_s19
  simp [-getElem?_pos, -Array.all_eq_true, -Array.getElem?_eq_getElem, -List.length_flatten, List.getElem?_cons_zero, List.getElem?_cons_succ, -ldn_p, -stn_p, -newG_k]
  refine ⟨fun hlt => ?_, fun hge => ?_⟩
  · obtain ⟨m1, m2, m3, m4, m5, _, _⟩ := hm.f.ok l.st[i] (List.getElem_mem hlt)
    obtain ⟨p, hp1, hp2⟩ := rd_stock ci.s hlt
    unfold ledger_Check_s18
    rw [hp1, hp2]
    refine boxStock (o := l.st[i]) (by kernel_rfl) fun b1 w1 hb1 hh1 hk1 => ?_
    have hh1' := hh1
    unfold sC at hh1'
    simp [-getElem?_pos, -Array.all_eq_true, -Array.getElem?_eq_getElem, -List.length_flatten, List.getElem?_cons_zero, List.getElem?_cons_succ, hh1', -ldn_p, -stn_p, -newG_k]
    refine lname_spec l.st[i].sku ?_
    simp [-getElem?_pos, -Array.all_eq_true, -Array.getElem?_eq_getElem, -List.length_flatten, List.getElem?_cons_zero, List.getElem?_cons_succ, m1, hh1', -ldn_p, -stn_p, -newG_k]
    refine lname_spec l.st[i].loc ?_
    have hxx := (ci.keep (hk1.trans' kp_drew)).hx
    simp [-getElem?_pos, -Array.all_eq_true, -Array.getElem?_eq_getElem, -List.length_flatten, List.getElem?_cons_zero, List.getElem?_cons_succ, m2, hh1', hxx, -ldn_p, -stn_p, -newG_k]
    have hs17 : ∀ w2, Kp [] w1 w2 → ledger_Check_s17 R N (.pointer (some ⟨x, 0, none⟩)) (.map (some n3)) (.map (some n4)) (.pointer (some ⟨b1, 0, none⟩)) sv (.int .i64 l.st.length) (.int .i64 i) w2 := by
      intro w2 hk2
      unfold ledger_Check_s17
      have hh2 := hk2.get hh1 (by simp)
      have hh2d := kp_drew.get hh2 (by simp)
      rw [ldStock hh2d, ldStock hh2d]
      refine of_spec7 l.st[i] fun w3 hk3 => ?_
      rw [ldStock (hk3.get hh2d (by simp))]
      refine ⟨rfl, of_spec7 l.st[i] fun w4 hk4 => ?_⟩
      have kk : Kp [] wi w4 := ((hk1.trans' hk2).trans' (kp_drew.trans' hk3)).trans' hk4
      have c4 := ci.keep kk
      have q3 := j3.keep kk (by simp)
      have q4 := j4.keep kk (by simp)
      have hne := nil_none hm.sorted hlt
      refine map_entry_new mapT q3 hne fun w5 q5 hk5 => ?_
      simp [-getElem?_pos, -Array.all_eq_true, -Array.getElem?_eq_getElem, -List.length_flatten, List.getElem?_cons_zero, List.getElem?_cons_succ, -ldn_p, -stn_p, -newG_k]
      have hlen : (((l.st.take i).map nilI).map IE.me).length = i := by simp; omega
      obtain ⟨X, hX⟩ : ∃ X, X = (((l.st.take i).map nilI).map IE.me) ++ [(⟨l.st[i].sku, l.st[i].loc, .slice none 0 0⟩ : ME)] := ⟨_, rfl⟩
      rw [← hX] at q5
      have q5l : i < X.length := by rw [hX, List.length_append, hlen]; simp
      have hst := map_store (P := Try.prog) (T := 116) q5 q5l (v := .slice none 0 0) (K := fun w => uG Try.prog (Instr.mapUpdate 116 (.map (some n4)) (keyV l.st[i].sku l.st[i].loc) (.slice none 0 0)) w fun w => ledger_Check_s16 R N (.pointer (some ⟨x, 0, none⟩)) (.map (some n3)) (.map (some n4)) sv (.int .i64 l.st.length) (.int .i64 i) w) ?_
      · simpa [hlen, Nat.min_eq_left (Nat.le_of_lt hlt)] using hst
      intro w6 q6 hk6
      have hgi : X[i] = (⟨l.st[i].sku, l.st[i].loc, .slice none 0 0⟩ : ME) := by
        simp only [hX]
        rw [List.getElem_append_right (by omega)]
        simp [hlen]
      have e6 : X.set i { X[i] with v := .slice none 0 0 } = ((l.st.take (i + 1)).map nilI).map IE.me := by
        have hv : ({ X[i] with v := .slice none 0 0 } : ME) = X[i] := by rw [hgi]
        rw [hv, List.set_getElem_self, hX, nil_snoc hlt]
      rw [e6] at q6
      have q46 := (q4.keep hk5 (by simpa using Ne.symm h34)).keep hk6 (by simpa using Ne.symm h34)
      refine map_update_new mapT q46 hne fun w7 q7 hk7 => ?_
      rw [nil_snoc hlt] at q7
      unfold ledger_Check_s16
      simp [-getElem?_pos, -Array.all_eq_true, -Array.getElem?_eq_getElem, -List.length_flatten, List.getElem?_cons_zero, List.getElem?_cons_succ, hiw]
      have c7 := ((c4.keepN hk5 h3 hx3).keepN hk6 h3 hx3).keepN hk7 h4 hx4
      exact hN (l.st.length - (i + 1)) _ w7 (by omega) ⟨i + 1, by omega, rfl, by simp, q6.keep hk7 (by simpa using h34), q7, c7⟩
    have c1 := ci.keep hk1
    have hx1 := c1.hx
    refine ⟨fun h => by exfalso; omega, fun _ => ⟨fun h => by exfalso; omega, fun _ => ⟨fun h0 => ?_, fun _ => hs17 _ kp_drew⟩⟩⟩
    have hiw' : IntKind.i64.wrap ((i : Int) - 1) = ((i - 1 : Nat) : Int) := by rw [w64 (by omega) (by omega)]; omega
    have hh1d := kp_drew.get hh1 (by simp)
    obtain ⟨p', hp1', hp2'⟩ := rd_stock (ci.keep (hk1.trans' kp_drew)).s (i := i - 1) (by omega)
    rw [hiw']
    simp [-getElem?_pos, -Array.all_eq_true, -Array.getElem?_eq_getElem, -List.length_flatten, List.getElem?_cons_zero, List.getElem?_cons_succ, hx1, -ldn_p, -stn_p, -newG_k]
    rw [hp1', hp2', ldStock hh1d]
    refine of_spec7 l.st[i - 1] fun w2 hk2 => ?_
    rw [ldStock (hk2.get hh1d (by simp))]
    refine ⟨rfl, of_spec7 l.st[i] fun w3 hk3 => ?_⟩
    refine order_spec _ _ _ _ fun w4 hk4 => ?_
    have hneg : ordL l.st[i - 1].sku l.st[i - 1].loc l.st[i].sku l.st[i].loc < 0 := by
      rw [ordL_neg]
      exact List.pairwise_iff_getElem.1 hm.sorted (i - 1) i (by omega) hlt (by omega)
    have hnn : ¬ (0 ≤ ordL l.st[i - 1].sku l.st[i - 1].loc l.st[i].sku l.st[i].loc) := by omega
    simp [-getElem?_pos, -Array.all_eq_true, -Array.getElem?_eq_getElem, -List.length_flatten, List.getElem?_cons_zero, List.getElem?_cons_succ, hnn, -ldn_p, -stn_p, -newG_k]
    exact hs17 w4 (((kp_drew.trans' hk2).trans' hk3).trans' hk4)
  · have hie : i = l.st.length := by omega
    subst hie
    rw [List.take_length] at j3 j4
    unfold ledger_Check_s15
    have hx := ci.hx
    simp [-getElem?_pos, -Array.all_eq_true, -Array.getElem?_eq_getElem, -List.length_flatten, List.getElem?_cons_zero, List.getElem?_cons_succ, hx, ci.h.lenL]
    refine check_holds hm ci ⟨j3, (nil_read j3).rows, by rw [nil_blks]; simp, by rw [nil_blks]; simp, lt_of_blk j3, Kp.refl _ _⟩ (nil_read j4) (nil_shape _) (nil_shape _) h34 (nil_blks _) h3 h4 hx3 hx4 (lt_of_blk j4) hR
theorem max3 {ts : Array TypeId} {t : TypeId} {a b c : Int} {w : World} {K : Value → Prop} : qG Try.prog (Builtin.max_ ts t #[.int .i64 a, .int .i64 b, .int .i64 c]) w K = K (.int .i64 (max (max a b) c)) := by
  refine qG_of ?_
  simp only [Builtin.max_, List.foldlM_cons, List.foldlM_nil, Builtin.max2, pure_bind]
  show Result.ok _ _ = _
  congr 2
  omega
theorem Check_spec7 {w : World} {v : Value} (hm : May l) (hv : LedAt w v l) {K : Value → World → Prop} (hK : ∀ w', Kp [] w w' → K (.int .i64 0) w') : callG Try.prog 66 #[v] w K := by
  refine ledger_Check_call ?_
  obtain ⟨a, b, c, rfl, h1, h2, h3⟩ := hv
  have hfew := hm.few
  simp only [fullL, decide_eq_false_iff_not, not_or] at hfew
  have hops := hm.ops
  unfold ledger_Check ledger_Check_s23
  refine argBox (cs := [a, b, c, .int .i64 l.ops]) fun x w1 hx1 hh1 hk1 => ?_
  have r1 := h1.keep hk1
  have r2 := h2.keep hk1
  have r3 := h3.keep hk1
  have hmx : ¬ (4096 < max (max (l.st.length : Int) l.ho.length) l.mo.length) := by omega
  have hno : ¬ (l.ops < 0) := by omega
  simp [-getElem?_pos, -Array.all_eq_true, -Array.getElem?_eq_getElem, -List.length_flatten, List.getElem?_cons_zero, List.getElem?_cons_succ, hh1, r1.lenL, r2.lenL, r3.lenL, max3, hmx, hno]
  refine ⟨fun h => by exfalso; omega, fun _ => ?_⟩
  unfold ledger_Check_s22
  refine map_new fun q3 => ?_
  obtain ⟨w2, hw2⟩ := ex_w (w' := w1.alloc (.map #[] 0))
  obtain ⟨n3, hn3⟩ : ∃ n3, n3 = w1.heap.size := ⟨_, rfl⟩
  rw [← hw2, ← hn3] at q3 ⊢
  have k2 : Kp [] w1 w2 := by rw [hw2]; exact kp_alloc
  refine map_new fun q4 => ?_
  obtain ⟨w3, hw3⟩ := ex_w (w' := w2.alloc (.map #[] 0))
  obtain ⟨n4, hn4⟩ : ∃ n4, n4 = w2.heap.size := ⟨_, rfl⟩
  rw [← hw3, ← hn4] at q4 ⊢
  have k3 : Kp [] w2 w3 := by rw [hw3]; exact kp_alloc
  unfold ledger_Check_s21
  have hxx := (k2.trans' k3).get hh1 (by simp)
  have hxl := lt_of_blk hh1
  have h3l := lt_of_blk q3
  have hs1 := hk1.size
  have ck : CkAt w w3 l x a b c := ⟨hxx, h1, h2, h3, (hk1.trans' k2).trans' k3, hx1⟩
  simp [-getElem?_pos, -Array.all_eq_true, -Array.getElem?_eq_getElem, -List.length_flatten, List.getElem?_cons_zero, List.getElem?_cons_succ, hxx, ck.s.lenL]
  exact check_stocks hm ck (q3.keep k3 (by simp)) q4 (by omega) (by omega) (by omega) (by omega) (by omega) hK
end
end Go.Proofs

set_option linter.unusedVariables false
set_option linter.unusedSimpArgs false
namespace Go.Proofs
open Go Go.Q
set_option maxRecDepth 100000
/-! quayside/ledger.Find$1 -/
def ledger_Find_1_s0 (R : Value → World → Prop) (x0 x1 x2 : Value) (w : World) : Prop :=
  newG (Value.cells x0) 44 w fun t3 w =>
  fa 0 t3 fun t5 =>
  ld1 t5 w fun t6 =>
  ld1 x1 w fun t7 =>
  qG Try.prog (bq .eql 9 (.tmp 6) (.tmp 7) t6 t7) w fun t8 =>
  bV t8
  (fa 1 t3 fun t10 =>
  ld1 t10 w fun t11 =>
  ld1 x2 w fun t12 =>
  qG Try.prog (bq .eql 9 (.tmp 11) (.tmp 12) t11 t12) w fun t13 =>
  R t13 w)
  (R (.bool false) w)
theorem ledger_Find_1_s0_eq (R : Value → World → Prop) : ∀ e w, lift Try.prog 15 (bodyOf Try.f77) (finK Try.prog Try.f77.results.toList R) e w = ledger_Find_1_s0 R (e 0) (e 1) (e 2) w := fun e w => by kernel_rfl
def ledger_Find_1 (R : Value → World → Prop) (x0 x1 x2 : Value) (w : World) : Prop := ledger_Find_1_s0 R x0 x1 x2 w
theorem ledger_Find_1_call {R : Value → World → Prop} {x0 x1 x2 : Value} {w : World} (h : ledger_Find_1 R x0 x1 x2 w) : callG Try.prog 77 #[x0, x1, x2] w R :=
  calls_lift_eq Try.mixed Try.func77 (args := [x0, x1, x2]) rfl rfl rfl rfl ((ledger_Find_1_s0_eq R) (envOf [x0, x1, x2]) w) (by kernel_rfl) h
/-! slices.IndexFunc[[]quayside/api.Stock,quayside/api.Stock] -/
def slices_IndexFunc_api_Stock_api_Stock_s0 (R : Value → World → Prop) (w : World) : Prop :=
  R (.int .i64 (-1)) w
theorem slices_IndexFunc_api_Stock_api_Stock_s0_eq (R : Value → World → Prop) : ∀ e w, lift Try.prog 19 (sub (bodyOf Try.f76) [1, 1]) (finK Try.prog Try.f76.results.toList R) e w = slices_IndexFunc_api_Stock_api_Stock_s0 R w := fun e w => by kernel_rfl
def slices_IndexFunc_api_Stock_api_Stock_b1 (R : Value → World → Prop) (N1 : List Value → World → Prop) (x0 x1 x7 x8 : Value) (w : World) : Prop :=
  qG Try.prog (bq .lss 3 (.tmp 8) (.tmp 7) x8 x7) w fun t9 =>
  bV t9
  (ia 4 x0 x8 fun t14 =>
  ldn 4 t14 w fun t15 =>
  callV Try.prog x1 #[t15] w fun t16 w =>
  bV t16
  (R x8 w)
  (qG Try.prog (bq .add 3 (.tmp 8) (.const (.int .i64 1)) x8 (.int .i64 1)) w fun t18 =>
  N1 [x0, x1, x7, t18] w))
  (slices_IndexFunc_api_Stock_api_Stock_s0 R  w)
theorem slices_IndexFunc_api_Stock_api_Stock_b1_eq (R : Value → World → Prop) (N1 : List Value → World → Prop) : ∀ e w, lift Try.prog 19 (sub (bodyOf Try.f76) [1, 0, 1, 0, 0]) (seqK (fun e w => N1 [e 0, e 1, e 7, e 8] w) (blockK 0 (seqK (fun e w => slices_IndexFunc_api_Stock_api_Stock_s0 R  w) (finK Try.prog Try.f76.results.toList R)))) e w = slices_IndexFunc_api_Stock_api_Stock_b1 R N1 (e 0) (e 1) (e 7) (e 8) w := fun e w => by kernel_rfl
def slices_IndexFunc_api_Stock_api_Stock_L2F (R : Value → World → Prop) (N1 : List Value → World → Prop) (xs : List Value) (w : World) : Prop :=
  match xs with
  | [x0, x1, x7, x8] => slices_IndexFunc_api_Stock_api_Stock_b1 R N1 x0 x1 x7 x8 w
  | _ => False
def slices_IndexFunc_api_Stock_api_Stock_L2 (R : Value → World → Prop) (x0 x1 x7 x8 : Value) (w : World) : Prop :=
  ∃ m, loopV (slices_IndexFunc_api_Stock_api_Stock_L2F R) m [x0, x1, x7, x8] w
theorem slices_IndexFunc_api_Stock_api_Stock_L2_eq (R : Value → World → Prop) : ∀ e w, lift Try.prog 19 (sub (bodyOf Try.f76) [1, 0, 1, 0]) (blockK 0 (seqK (fun e w => slices_IndexFunc_api_Stock_api_Stock_s0 R  w) (finK Try.prog Try.f76.results.toList R))) e w = slices_IndexFunc_api_Stock_api_Stock_L2 R (e 0) (e 1) (e 7) (e 8) w := loop_seg (F := slices_IndexFunc_api_Stock_api_Stock_L2F R) (sel := fun e => [e 0, e 1, e 7, e 8]) fun N1 => (slices_IndexFunc_api_Stock_api_Stock_b1_eq R N1)
def slices_IndexFunc_api_Stock_api_Stock_s3 (R : Value → World → Prop) (x0 x1 : Value) (w : World) : Prop :=
  lenL x0 fun t7 =>
  slices_IndexFunc_api_Stock_api_Stock_L2 R x0 x1 t7 (.int .i64 0) w
theorem slices_IndexFunc_api_Stock_api_Stock_s3_eq (R : Value → World → Prop) : ∀ e w, lift Try.prog 19 (sub (bodyOf Try.f76) [1, 0]) (seqK (fun e w => slices_IndexFunc_api_Stock_api_Stock_s0 R  w) (finK Try.prog Try.f76.results.toList R)) e w = slices_IndexFunc_api_Stock_api_Stock_s3 R (e 0) (e 1) w :=
  segs_eq (l := [(sub (bodyOf Try.f76) [1, 0, 0])]) (y := (sub (bodyOf Try.f76) [1, 0, 1])) (Y := (fun e w => slices_IndexFunc_api_Stock_api_Stock_L2 R (e 0) (e 1) (e 7) (e 8) w)) (slices_IndexFunc_api_Stock_api_Stock_L2_eq R) (fun e w => by kernel_rfl)
def slices_IndexFunc_api_Stock_api_Stock_s4 (R : Value → World → Prop) (x0 x1 : Value) (w : World) : Prop :=
  slices_IndexFunc_api_Stock_api_Stock_s3 R x0 x1 w
theorem slices_IndexFunc_api_Stock_api_Stock_s4_eq (R : Value → World → Prop) : ∀ e w, lift Try.prog 19 (bodyOf Try.f76) (finK Try.prog Try.f76.results.toList R) e w = slices_IndexFunc_api_Stock_api_Stock_s4 R (e 0) (e 1) w :=
  segs_eq (l := [(sub (bodyOf Try.f76) [0])]) (y := (sub (bodyOf Try.f76) [1])) (Y := (fun e w => slices_IndexFunc_api_Stock_api_Stock_s3 R (e 0) (e 1) w)) (seq_seg (x := (sub (bodyOf Try.f76) [1, 0])) (y := (sub (bodyOf Try.f76) [1, 1])) (slices_IndexFunc_api_Stock_api_Stock_s0_eq R) (slices_IndexFunc_api_Stock_api_Stock_s3_eq R)) (fun e w => by kernel_rfl)
def slices_IndexFunc_api_Stock_api_Stock (R : Value → World → Prop) (x0 x1 : Value) (w : World) : Prop := slices_IndexFunc_api_Stock_api_Stock_s4 R x0 x1 w
theorem slices_IndexFunc_api_Stock_api_Stock_call {R : Value → World → Prop} {x0 x1 : Value} {w : World} (h : slices_IndexFunc_api_Stock_api_Stock R x0 x1 w) : callG Try.prog 76 #[x0, x1] w R :=
  calls_lift_eq Try.mixed Try.func76 (args := [x0, x1]) rfl rfl rfl rfl ((slices_IndexFunc_api_Stock_api_Stock_s4_eq R) (envOf [x0, x1]) w) (by kernel_rfl) h
/-! quayside/ledger.Find -/
def ledger_Find_s0 (R : Value → World → Prop) (x0 x1 x2 : Value) (w : World) : Prop :=
  newG (Value.cells x0) 60 w fun t3 w =>
  newG (Value.cells x1) 9 w fun t4 w =>
  newG (Value.cells x2) 9 w fun t5 w =>
  newG (zc Try.prog 44) 44 w fun t6 w =>
  fa 0 t3 fun t8 =>
  ld1 t8 w fun t9 =>
  qG Try.prog (Instr.makeFunc (.func 77) #[] #[t4, t5]) w fun t10 =>
  callG Try.prog 76 #[t9, t10] w fun t11 w =>
  qG Try.prog (bq .lss 3 (.tmp 12) (.const (.int .i64 0)) t11 (.int .i64 0)) w fun t13 =>
  bV t13
  (ld1 t4 w fun t14 =>
  ld1 t5 w fun t15 =>
  bld [(0, 1), (1, 1), (2, 1), (3, 1)] (zc Try.prog 44) #[(0, t14), (1, t15)] fun t16 =>
  stn 4 t6 t16 w fun w =>
  qG Try.prog (do loadVar 44 (← asAddr t6)) w fun r6 =>
  R r6 w)
  (fa 0 t3 fun t17 =>
  ld1 t17 w fun t18 =>
  ia 4 t18 t11 fun t20 =>
  ldn 4 t20 w fun t21 =>
  stn 4 t6 t21 w fun w =>
  qG Try.prog (do loadVar 44 (← asAddr t6)) w fun r6_1 =>
  R r6_1 w)
theorem ledger_Find_s0_eq (R : Value → World → Prop) : ∀ e w, lift Try.prog 22 (bodyOf Try.f44) (finK Try.prog Try.f44.results.toList R) e w = ledger_Find_s0 R (e 0) (e 1) (e 2) w := fun e w => by kernel_rfl
def ledger_Find (R : Value → World → Prop) (x0 x1 x2 : Value) (w : World) : Prop := ledger_Find_s0 R x0 x1 x2 w
theorem ledger_Find_call {R : Value → World → Prop} {x0 x1 x2 : Value} {w : World} (h : ledger_Find R x0 x1 x2 w) : callG Try.prog 44 #[x0, x1, x2] w R :=
  calls_lift_eq Try.mixed Try.func44 (args := [x0, x1, x2]) rfl rfl rfl rfl ((ledger_Find_s0_eq R) (envOf [x0, x1, x2]) w) (by kernel_rfl) h
/-! quayside/ledger.Free -/
def ledger_Free_s0 (R : Value → World → Prop) (x0 x1 x2 : Value) (w : World) : Prop :=
  newG (Value.cells x0) 60 w fun t3 w =>
  ldn 4 t3 w fun t10 =>
  callG Try.prog 44 #[t10, x1, x2] w fun t13 w =>
  newG (zc Try.prog 44) 44 w fun t7 w =>
  stn 4 t7 t13 w fun w =>
  fa 2 t7 fun t15 =>
  ld1 t15 w fun t16 =>
  fa 3 t7 fun t17 =>
  ld1 t17 w fun t18 =>
  callG Try.prog 75 #[t16, t18] w fun t19 w =>
  qG Try.prog (Instr.extract t19 0) w fun t20 =>
  qG Try.prog (Instr.extract t19 1) w fun t21 =>
  R t20 w
theorem ledger_Free_s0_eq (R : Value → World → Prop) : ∀ e w, lift Try.prog 23 (bodyOf Try.f43) (finK Try.prog Try.f43.results.toList R) e w = ledger_Free_s0 R (e 0) (e 1) (e 2) w := fun e w => by kernel_rfl
def ledger_Free (R : Value → World → Prop) (x0 x1 x2 : Value) (w : World) : Prop := ledger_Free_s0 R x0 x1 x2 w
theorem ledger_Free_call {R : Value → World → Prop} {x0 x1 x2 : Value} {w : World} (h : ledger_Free R x0 x1 x2 w) : callG Try.prog 43 #[x0, x1, x2] w R :=
  calls_lift_eq Try.mixed Try.func43 (args := [x0, x1, x2]) rfl rfl rfl rfl ((ledger_Free_s0_eq R) (envOf [x0, x1, x2]) w) (by kernel_rfl) h
/-! slices.Clone[[]quayside/api.Stock,quayside/api.Stock] -/
def slices_Clone_api_Stock_api_Stock_s0 (R : Value → World → Prop) (x0 : Value) (w : World) : Prop :=
  qG Try.prog (bq .eql 56 (.tmp 3) (.const (.slice none 0 0)) x0 (.slice none 0 0)) w fun t4 =>
  bV t4
  (R (.slice none 0 0) w)
  (bsl 44 4 0 (zc Try.prog 44) #[] w fun t5 w =>
  app 44 4 48 (zc Try.prog 44) t5 x0 w fun t7 w =>
  R t7 w)
theorem slices_Clone_api_Stock_api_Stock_s0_eq (R : Value → World → Prop) : ∀ e w, lift Try.prog 8 (bodyOf Try.f93) (finK Try.prog Try.f93.results.toList R) e w = slices_Clone_api_Stock_api_Stock_s0 R (e 0) w := fun e w => by kernel_rfl
def slices_Clone_api_Stock_api_Stock (R : Value → World → Prop) (x0 : Value) (w : World) : Prop := slices_Clone_api_Stock_api_Stock_s0 R x0 w
theorem slices_Clone_api_Stock_api_Stock_call {R : Value → World → Prop} {x0 : Value} {w : World} (h : slices_Clone_api_Stock_api_Stock R x0 w) : callG Try.prog 93 #[x0] w R :=
  calls_lift_eq Try.mixed Try.func93 (args := [x0]) rfl rfl rfl rfl ((slices_Clone_api_Stock_api_Stock_s0_eq R) (envOf [x0]) w) (by kernel_rfl) h
/-! slices.Clone[[]quayside/api.Hold,quayside/api.Hold] -/
def slices_Clone_api_Hold_api_Hold_s0 (R : Value → World → Prop) (x0 : Value) (w : World) : Prop :=
  qG Try.prog (bq .eql 57 (.tmp 3) (.const (.slice none 0 0)) x0 (.slice none 0 0)) w fun t4 =>
  bV t4
  (R (.slice none 0 0) w)
  (bsl 34 6 0 (zc Try.prog 34) #[] w fun t5 w =>
  app 34 6 64 (zc Try.prog 34) t5 x0 w fun t7 w =>
  R t7 w)
theorem slices_Clone_api_Hold_api_Hold_s0_eq (R : Value → World → Prop) : ∀ e w, lift Try.prog 8 (bodyOf Try.f94) (finK Try.prog Try.f94.results.toList R) e w = slices_Clone_api_Hold_api_Hold_s0 R (e 0) w := fun e w => by kernel_rfl
def slices_Clone_api_Hold_api_Hold (R : Value → World → Prop) (x0 : Value) (w : World) : Prop := slices_Clone_api_Hold_api_Hold_s0 R x0 w
theorem slices_Clone_api_Hold_api_Hold_call {R : Value → World → Prop} {x0 : Value} {w : World} (h : slices_Clone_api_Hold_api_Hold R x0 w) : callG Try.prog 94 #[x0] w R :=
  calls_lift_eq Try.mixed Try.func94 (args := [x0]) rfl rfl rfl rfl ((slices_Clone_api_Hold_api_Hold_s0_eq R) (envOf [x0]) w) (by kernel_rfl) h
/-! slices.Clone[[]quayside/api.Move,quayside/api.Move] -/
def slices_Clone_api_Move_api_Move_s0 (R : Value → World → Prop) (x0 : Value) (w : World) : Prop :=
  qG Try.prog (bq .eql 58 (.tmp 3) (.const (.slice none 0 0)) x0 (.slice none 0 0)) w fun t4 =>
  bV t4
  (R (.slice none 0 0) w)
  (bsl 50 6 0 (zc Try.prog 50) #[] w fun t5 w =>
  app 50 6 64 (zc Try.prog 50) t5 x0 w fun t7 w =>
  R t7 w)
theorem slices_Clone_api_Move_api_Move_s0_eq (R : Value → World → Prop) : ∀ e w, lift Try.prog 8 (bodyOf Try.f95) (finK Try.prog Try.f95.results.toList R) e w = slices_Clone_api_Move_api_Move_s0 R (e 0) w := fun e w => by kernel_rfl
def slices_Clone_api_Move_api_Move (R : Value → World → Prop) (x0 : Value) (w : World) : Prop := slices_Clone_api_Move_api_Move_s0 R x0 w
theorem slices_Clone_api_Move_api_Move_call {R : Value → World → Prop} {x0 : Value} {w : World} (h : slices_Clone_api_Move_api_Move R x0 w) : callG Try.prog 95 #[x0] w R :=
  calls_lift_eq Try.mixed Try.func95 (args := [x0]) rfl rfl rfl rfl ((slices_Clone_api_Move_api_Move_s0_eq R) (envOf [x0]) w) (by kernel_rfl) h
/-! quayside/ledger.index$1 -/
def ledger_index_1_s0 (R : Value → World → Prop) (x0 x1 : Value) (w : World) : Prop :=
  newG (Value.cells x0) 44 w fun t2 w =>
  newG (Value.cells x1) 119 w fun t3 w =>
  ldn 4 t2 (World.drew w) fun t5 =>
  ldn 2 t3 (World.drew w) fun t7 =>
  callG Try.prog 89 #[t5] (World.drew w) fun t6 w =>
  ldn 2 t3 w (fun u => u = t7) ∧
  callG Try.prog 88 #[t6, t7] w fun t8 w =>
  R t8 w
theorem ledger_index_1_s0_eq (R : Value → World → Prop) : ∀ e w, lift Try.prog 9 (bodyOf Try.f129) (finK Try.prog Try.f129.results.toList R) e w = ledger_index_1_s0 R (e 0) (e 1) w := fun e w => by kernel_rfl
def ledger_index_1 (R : Value → World → Prop) (x0 x1 : Value) (w : World) : Prop := ledger_index_1_s0 R x0 x1 w
theorem ledger_index_1_call {R : Value → World → Prop} {x0 x1 : Value} {w : World} (h : ledger_index_1 R x0 x1 w) : callG Try.prog 129 #[x0, x1] w R :=
  calls_lift_eq Try.mixed Try.func129 (args := [x0, x1]) rfl rfl rfl rfl ((ledger_index_1_s0_eq R) (envOf [x0, x1]) w) (by kernel_rfl) h
/-! slices.BinarySearchFunc[[]quayside/api.Stock,quayside/api.Stock,quayside/ledger.place] -/
def slices_BinarySearchFunc_api_Stock_api_Stock_ledger_place_s0 (R : Value → World → Prop) (x0 x2 x4 x8 x9 : Value) (w : World) : Prop :=
  qG Try.prog (bq .lss 3 (.tmp 36) (.tmp 37) x9 x8) (World.drew w) fun t38 =>
  bV t38
  (ia 4 x0 x9 fun t43 =>
  ldn 4 t43 (World.drew w) fun t44 =>
  ldn 2 x4 (World.drew w) fun t45 =>
  callV Try.prog x2 #[t44, t45] (World.drew w) fun t46 w =>
  qG Try.prog (bq .eql 3 (.tmp 46) (.const (.int .i64 0)) t46 (.int .i64 0)) w fun t47 =>
  R (.tuple #[x9, t47]) w)
  (R (.tuple #[x9, (.bool false)]) (World.drew w))
theorem slices_BinarySearchFunc_api_Stock_api_Stock_ledger_place_s0_eq (R : Value → World → Prop) : ∀ e w, lift Try.prog 49 (sub (bodyOf Try.f128) [1, 1, 1, 1]) (finK Try.prog Try.f128.results.toList R) e w = slices_BinarySearchFunc_api_Stock_api_Stock_ledger_place_s0 R (e 0) (e 2) (e 4) (e 8) (e 9) w := fun e w => by kernel_rfl
def slices_BinarySearchFunc_api_Stock_api_Stock_ledger_place_b1 (R : Value → World → Prop) (N1 : List Value → World → Prop) (x0 x2 x4 x8 x9 x10 : Value) (w : World) : Prop :=
  qG Try.prog (bq .lss 3 (.tmp 15) (.tmp 16) x9 x10) w fun t17 =>
  bV t17
  (qG Try.prog (bq .add 3 (.tmp 18) (.tmp 19) x9 x10) w fun t20 =>
  cvI .u64 t20 fun t21 =>
  qG Try.prog (bq .shr 137 (.tmp 21) (.const (.int .u64 1)) t21 (.int .u64 1)) w fun t22 =>
  cvI .i64 t22 fun t23 =>
  ia 4 x0 t23 fun t27 =>
  ldn 4 t27 (World.drew w) fun t28 =>
  ldn 2 x4 (World.drew w) fun t29 =>
  callV Try.prog x2 #[t28, t29] (World.drew w) fun t30 w =>
  qG Try.prog (bq .lss 3 (.tmp 30) (.const (.int .i64 0)) t30 (.int .i64 0)) w fun t31 =>
  bV t31
  (qG Try.prog (bq .add 3 (.tmp 32) (.const (.int .i64 1)) t23 (.int .i64 1)) w fun t33 =>
  N1 [x0, x2, x4, x8, t33, x10] w)
  (N1 [x0, x2, x4, x8, x9, t23] w))
  (slices_BinarySearchFunc_api_Stock_api_Stock_ledger_place_s0 R x0 x2 x4 x8 x9 w)
theorem slices_BinarySearchFunc_api_Stock_api_Stock_ledger_place_b1_eq (R : Value → World → Prop) (N1 : List Value → World → Prop) : ∀ e w, lift Try.prog 49 (sub (bodyOf Try.f128) [1, 1, 1, 0, 0, 0]) (seqK (fun e w => N1 [e 0, e 2, e 4, e 8, e 9, e 10] w) (blockK 0 (seqK (fun e w => slices_BinarySearchFunc_api_Stock_api_Stock_ledger_place_s0 R (e 0) (e 2) (e 4) (e 8) (e 9) w) (finK Try.prog Try.f128.results.toList R)))) e w = slices_BinarySearchFunc_api_Stock_api_Stock_ledger_place_b1 R N1 (e 0) (e 2) (e 4) (e 8) (e 9) (e 10) w := fun e w => by kernel_rfl
def slices_BinarySearchFunc_api_Stock_api_Stock_ledger_place_L2F (R : Value → World → Prop) (N1 : List Value → World → Prop) (xs : List Value) (w : World) : Prop :=
  match xs with
  | [x0, x2, x4, x8, x9, x10] => slices_BinarySearchFunc_api_Stock_api_Stock_ledger_place_b1 R N1 x0 x2 x4 x8 x9 x10 w
  | _ => False
def slices_BinarySearchFunc_api_Stock_api_Stock_ledger_place_L2 (R : Value → World → Prop) (x0 x2 x4 x8 x9 x10 : Value) (w : World) : Prop :=
  ∃ m, loopV (slices_BinarySearchFunc_api_Stock_api_Stock_ledger_place_L2F R) m [x0, x2, x4, x8, x9, x10] w
theorem slices_BinarySearchFunc_api_Stock_api_Stock_ledger_place_L2_eq (R : Value → World → Prop) : ∀ e w, lift Try.prog 49 (sub (bodyOf Try.f128) [1, 1, 1, 0, 0]) (blockK 0 (seqK (fun e w => slices_BinarySearchFunc_api_Stock_api_Stock_ledger_place_s0 R (e 0) (e 2) (e 4) (e 8) (e 9) w) (finK Try.prog Try.f128.results.toList R))) e w = slices_BinarySearchFunc_api_Stock_api_Stock_ledger_place_L2 R (e 0) (e 2) (e 4) (e 8) (e 9) (e 10) w := loop_seg (F := slices_BinarySearchFunc_api_Stock_api_Stock_ledger_place_L2F R) (sel := fun e => [e 0, e 2, e 4, e 8, e 9, e 10]) fun N1 => (slices_BinarySearchFunc_api_Stock_api_Stock_ledger_place_b1_eq R N1)
def slices_BinarySearchFunc_api_Stock_api_Stock_ledger_place_s3 (R : Value → World → Prop) (x0 x1 x2 : Value) (w : World) : Prop :=
  newG (Value.cells x1) 119 w fun t4 w =>
  lenL x0 fun t13 =>
  slices_BinarySearchFunc_api_Stock_api_Stock_ledger_place_L2 R x0 x2 t4 t13 (.int .i64 0) t13 w
theorem slices_BinarySearchFunc_api_Stock_api_Stock_ledger_place_s3_eq (R : Value → World → Prop) : ∀ e w, lift Try.prog 49 (bodyOf Try.f128) (finK Try.prog Try.f128.results.toList R) e w = slices_BinarySearchFunc_api_Stock_api_Stock_ledger_place_s3 R (e 0) (e 1) (e 2) w :=
  segs_eq (l := [(sub (bodyOf Try.f128) [0]), (sub (bodyOf Try.f128) [1, 0]), (sub (bodyOf Try.f128) [1, 1, 0])]) (y := (sub (bodyOf Try.f128) [1, 1, 1])) (Y := (fun e w => slices_BinarySearchFunc_api_Stock_api_Stock_ledger_place_L2 R (e 0) (e 2) (e 4) (e 8) (e 9) (e 10) w)) (seq_seg (x := (sub (bodyOf Try.f128) [1, 1, 1, 0])) (y := (sub (bodyOf Try.f128) [1, 1, 1, 1])) (slices_BinarySearchFunc_api_Stock_api_Stock_ledger_place_s0_eq R) (slices_BinarySearchFunc_api_Stock_api_Stock_ledger_place_L2_eq R)) (fun e w => by kernel_rfl)
def slices_BinarySearchFunc_api_Stock_api_Stock_ledger_place (R : Value → World → Prop) (x0 x1 x2 : Value) (w : World) : Prop := slices_BinarySearchFunc_api_Stock_api_Stock_ledger_place_s3 R x0 x1 x2 w
theorem slices_BinarySearchFunc_api_Stock_api_Stock_ledger_place_call {R : Value → World → Prop} {x0 x1 x2 : Value} {w : World} (h : slices_BinarySearchFunc_api_Stock_api_Stock_ledger_place R x0 x1 x2 w) : callG Try.prog 128 #[x0, x1, x2] w R :=
  calls_lift_eq Try.mixed Try.func128 (args := [x0, x1, x2]) rfl rfl rfl rfl ((slices_BinarySearchFunc_api_Stock_api_Stock_ledger_place_s3_eq R) (envOf [x0, x1, x2]) w) (by kernel_rfl) h
/-! quayside/ledger.index -/
def ledger_index_s0 (R : Value → World → Prop) (x0 x1 : Value) (w : World) : Prop :=
  newG (Value.cells x1) 119 w fun t3 w =>
  ldn 2 t3 w fun t7 =>
  callG Try.prog 128 #[x0, t7, (.func (.func 129) #[] #[])] w fun t8 w =>
  qG Try.prog (Instr.extract t8 0) w fun t9 =>
  qG Try.prog (Instr.extract t8 1) w fun t10 =>
  R (.tuple #[t9, t10]) w
theorem ledger_index_s0_eq (R : Value → World → Prop) : ∀ e w, lift Try.prog 11 (bodyOf Try.f121) (finK Try.prog Try.f121.results.toList R) e w = ledger_index_s0 R (e 0) (e 1) w := fun e w => by kernel_rfl
def ledger_index (R : Value → World → Prop) (x0 x1 : Value) (w : World) : Prop := ledger_index_s0 R x0 x1 w
theorem ledger_index_call {R : Value → World → Prop} {x0 x1 : Value} {w : World} (h : ledger_index R x0 x1 w) : callG Try.prog 121 #[x0, x1] w R :=
  calls_lift_eq Try.mixed Try.func121 (args := [x0, x1]) rfl rfl rfl rfl ((ledger_index_s0_eq R) (envOf [x0, x1]) w) (by kernel_rfl) h
/-! slices.Reverse[[]quayside/api.Stock,quayside/api.Stock] -/
/-! slices.rotateLeft[quayside/api.Stock] -/
/-! slices.rotateRight[quayside/api.Stock] -/
/-! slices.Insert[[]quayside/api.Stock,quayside/api.Stock] -/
def slices_Insert_api_Stock_api_Stock_s0 (R : Value → World → Prop) (x0 x1 x2 : Value) (w : World) : Prop :=
  slL 4 x0 (some x1) none fun t12 =>
  lenL x2 fun t14 =>
  qG Try.prog (bq .eql 3 (.tmp 15) (.const (.int .i64 0)) t14 (.int .i64 0)) w fun t16 =>
  bV t16
  (R x0 w)
  (lenL x0 fun t19 =>
  qG Try.prog (bq .eql 3 (.tmp 20) (.tmp 21) x1 t19) w fun t22 =>
  bV t22
  (app 44 4 48 (zc Try.prog 44) x0 x2 w fun t25 w =>
  R t25 w)
  (qG Try.prog (bq .add 3 (.tmp 26) (.tmp 27) t19 t14) w fun t28 =>
  qG Try.prog (Builtin.cap_ #[56] 3 #[x0]) w fun t30 =>
  qG Try.prog (bq .gtr 3 (.tmp 28) (.tmp 30) t28 t30) w fun t31 =>
  bV t31
  (slL 4 x0 none (some x1) fun t34 =>
  qG Try.prog (bq .add 3 (.tmp 35) (.tmp 36) t19 t14) w fun t37 =>
  qG Try.prog (bq .sub 3 (.tmp 37) (.tmp 38) t37 x1) w fun t39 =>
  eG Try.prog (Builtin.append_ #[56, 3] 56 #[t34, t39]) w fun t40 w =>
  slL 4 t40 (some x1) none fun t43 =>
  cp 4 t43 x2 w fun t45 w =>
  qG Try.prog (bq .add 3 (.tmp 47) (.tmp 48) x1 t14) (World.drew w) fun t49 =>
  slL 4 t40 (some t49) none fun t50 =>
  slL 4 x0 (some x1) none fun t53 =>
  cp 4 t50 t53 (World.drew w) fun t54 w =>
  R t40 w)
  (qG Try.prog (bq .add 3 (.tmp 57) (.tmp 58) t19 t14) w fun t59 =>
  slL 4 x0 none (some t59) fun t60 =>
  qG Try.prog (bq .add 3 (.tmp 63) (.tmp 64) x1 t14) w fun t65 =>
  slL 4 t60 (some t65) none fun t66 =>
  nG Try.prog (callFunc 130 #[x2, t66]) w fun t67 w =>
  qG Try.prog (Op.unary .not t67) w fun t68 =>
  bV t68
  (qG Try.prog (bq .add 3 (.tmp 70) (.tmp 71) x1 t14) (World.drew w) fun t72 =>
  slL 4 t60 (some t72) none fun t73 =>
  slL 4 t60 (some x1) none fun t76 =>
  cp 4 t73 t76 (World.drew w) fun t77 w =>
  slL 4 t60 (some x1) none fun t80 =>
  cp 4 t80 x2 w fun t82 w =>
  R t60 w)
  (slL 4 t60 (some t19) none fun t86 =>
  cp 4 t86 x2 w fun t88 w =>
  slL 4 t60 (some x1) none fun t91 =>
  callG Try.prog 131 #[t91, t14] w fun t93 w =>
  R t60 w))))
theorem slices_Insert_api_Stock_api_Stock_s0_eq (R : Value → World → Prop) : ∀ e w, lift Try.prog 95 (bodyOf Try.f122) (finK Try.prog Try.f122.results.toList R) e w = slices_Insert_api_Stock_api_Stock_s0 R (e 0) (e 1) (e 2) w := fun e w => by kernel_rfl
def slices_Insert_api_Stock_api_Stock (R : Value → World → Prop) (x0 x1 x2 : Value) (w : World) : Prop := slices_Insert_api_Stock_api_Stock_s0 R x0 x1 x2 w
theorem slices_Insert_api_Stock_api_Stock_call {R : Value → World → Prop} {x0 x1 x2 : Value} {w : World} (h : slices_Insert_api_Stock_api_Stock R x0 x1 x2 w) : callG Try.prog 122 #[x0, x1, x2] w R :=
  calls_lift_eq Try.mixed Try.func122 (args := [x0, x1, x2]) rfl rfl rfl rfl ((slices_Insert_api_Stock_api_Stock_s0_eq R) (envOf [x0, x1, x2]) w) (by kernel_rfl) h
end Go.Proofs

/- Layer 7: the stock of a place, and how many are free. -/
set_option linter.unusedVariables false
set_option linter.unusedSimpArgs false
namespace Go.Proofs
open Go Go.Q
theorem find1_spec {w : World} {p q : Nat} {sku loc : List UInt8} (s : SV) (hp : w.heap[p]? = some (.cells #[.string (str sku)] 9)) (hq : w.heap[q]? = some (.cells #[.string (str loc)] 9)) {K : Value → World → Prop} (hK : ∀ w', Kp [] w w' → K (.bool (atP s sku loc)) w') :
    callG Try.prog 77 #[sA s, .pointer (some ⟨p, 0, none⟩), .pointer (some ⟨q, 0, none⟩)] w K := by
  refine ledger_Find_1_call ?_
  unfold ledger_Find_1 ledger_Find_1_s0
  refine argBox (cs := sC s) fun b w1 hb hh hk => ?_
  have h1 := hk.get hp (by simp)
  have h2 := hk.get hq (by simp)
  have hK := hK w1 hk
  unfold atP at hK
  simp [-getElem?_pos, -Array.all_eq_true, -Array.getElem?_eq_getElem, -List.length_flatten, List.getElem?_cons_zero, List.getElem?_cons_succ, hh, sC, h1, h2]
  refine ⟨fun e => ?_, fun e => ?_⟩
  · rw [e] at hK; simpa using hK
  · rw [decide_eq_false (fun hh => e hh.1)] at hK; exact hK
theorem has77 : hasBody Try.prog 77 = true := by kernel_rfl
theorem idxS {st : List SV} {sku loc : List UInt8} : (∀ i, ∀ h : i < st.length, atP st[i] sku loc = true → (∀ j (hj : j < st.length), j < i → atP st[j] sku loc = false) → findS st sku loc = st[i]) ∧ ((∀ j (hj : j < st.length), atP st[j] sku loc = false) → findS st sku loc = ⟨sku, loc, 0, 0⟩) := by
  refine ⟨fun i h h1 h2 => ?_, fun h => ?_⟩
  · unfold findS
    have : st.find? (fun s => atP s sku loc) = some st[i] := by
      rw [List.find?_eq_some_iff_getElem]
      exact ⟨h1, i, h, rfl, fun j hj => by simpa using h2 j (by omega) hj⟩
    rw [this]; rfl
  · refine findS_none fun s hs hk => ?_
    obtain ⟨j, hj, rfl⟩ := List.getElem_of_mem hs
    have := h j hj
    simp [atP] at this
    exact this hk.1 hk.2
theorem indexFunc_spec {w : World} {v : Value} {st : List SV} {p q : Nat} {sku loc : List UInt8} (hr : Rd w v 4 (st.map sC)) (hp : w.heap[p]? = some (.cells #[.string (str sku)] 9)) (hq : w.heap[q]? = some (.cells #[.string (str loc)] 9)) (hl : st.length < 2 ^ 40) {K : Value → World → Prop}
    (hK1 : ∀ i w', Kp [] w w' → ∀ h : i < st.length, findS st sku loc = st[i] → K (.int .i64 (i : Nat)) w') (hK2 : ∀ w', Kp [] w w' → findS st sku loc = ⟨sku, loc, 0, 0⟩ → K (.int .i64 (-1)) w') :
    callG Try.prog 76 #[v, .func (.func 77) #[] #[.pointer (some ⟨p, 0, none⟩), .pointer (some ⟨q, 0, none⟩)]] w K := by
  refine slices_IndexFunc_api_Stock_api_Stock_call ?_
  unfold slices_IndexFunc_api_Stock_api_Stock slices_IndexFunc_api_Stock_api_Stock_s4 slices_IndexFunc_api_Stock_api_Stock_s3 slices_IndexFunc_api_Stock_api_Stock_L2
  rw [hr.lenL, List.length_map]
  refine loop_inv (fun m xs wi => ∃ i, i ≤ st.length ∧ m = st.length - i ∧ xs = [v, .func (.func 77) #[] #[.pointer (some ⟨p, 0, none⟩), .pointer (some ⟨q, 0, none⟩)], .int .i64 st.length, .int .i64 (i : Nat)] ∧ Kp [] w wi ∧ ∀ j (hj : j < st.length), j < i → atP st[j] sku loc = false) ?_ (m := st.length) ⟨0, by omega, rfl, rfl, Kp.refl _ _, fun j _ h => by omega⟩
  rintro m N xs wi ⟨i, hi, rfl, rfl, hk, hno⟩ hN
  have hiw : IntKind.i64.wrap ((i : Int) + 1) = ((i + 1 : Nat) : Int) := by rw [w64 (by omega) (by omega)]; simp
  unfold slices_IndexFunc_api_Stock_api_Stock_L2F slices_IndexFunc_api_Stock_api_Stock_b1
  simp [-getElem?_pos, -Array.all_eq_true, -Array.getElem?_eq_getElem, -List.length_flatten, List.getElem?_cons_zero, List.getElem?_cons_succ, -ldn_p]
  refine ⟨fun hlt => ?_, fun hge => ?_⟩
  · obtain ⟨pp, h1, h2⟩ := rd_stock (hr.keep hk) hlt
    rw [h1, h2]
    refine ⟨has77, ?_⟩
    have harr : (#[] ++ #[sA st[i]] ++ #[.pointer (some ⟨p, 0, none⟩), .pointer (some ⟨q, 0, none⟩)] : Array Value) = #[sA st[i], .pointer (some ⟨p, 0, none⟩), .pointer (some ⟨q, 0, none⟩)] := rfl
    rw [harr]
    refine find1_spec st[i] (hk.get hp (by simp)) (hk.get hq (by simp)) fun w1 hk1 => ?_
    cases hc : atP st[i] sku loc with
      | true =>
        simp [-getElem?_pos, -Array.all_eq_true, -Array.getElem?_eq_getElem, -List.length_flatten, List.getElem?_cons_zero, List.getElem?_cons_succ, ]
        exact hK1 i w1 (hk.trans' hk1) hlt (idxS.1 i hlt hc hno)
      | false =>
        simp [-getElem?_pos, -Array.all_eq_true, -Array.getElem?_eq_getElem, -List.length_flatten, List.getElem?_cons_zero, List.getElem?_cons_succ, hiw]
        refine hN (st.length - (i + 1)) _ w1 (by omega) ⟨i + 1, by omega, rfl, by simp, hk.trans' hk1, fun j hj hji => ?_⟩
        by_cases he : j = i
        · subst he; exact hc
        · exact hno j hj (by omega)
  · unfold slices_IndexFunc_api_Stock_api_Stock_s0
    exact hK2 wi hk (idxS.2 fun j hj => hno j hj (by omega))
theorem zc44s : zc Try.prog 44 = [.string (str []), .string (str []), .int .i64 0, .int .i64 0].toArray := zcStock
theorem Find_spec7 {w : World} {v : Value} {l : LV} (hv : LedAt w v l) (hl : l.st.length < 2 ^ 40) (sku loc : List UInt8) {K : Value → World → Prop} (hK : ∀ w', Kp [] w w' → K (sA (findS l.st sku loc)) w') : callG Try.prog 44 #[v, .string (str sku), .string (str loc)] w K := by
  refine ledger_Find_call ?_
  obtain ⟨a, b, c, rfl, h1, h2, h3⟩ := hv
  unfold ledger_Find ledger_Find_s0
  refine argBox (cs := [a, b, c, .int .i64 l.ops]) fun x w1 hx1 hh1 hk1 => ?_
  simp only [newG_k, cells_str, zc44s]
  obtain ⟨p, hp⟩ : ∃ p, p = w1.heap.size := ⟨_, rfl⟩
  obtain ⟨w2, hw2⟩ := ex_w (w' := w1.alloc (.cells #[.string (str sku)] 9))
  have hk2 : Kp [] w1 w2 := by rw [hw2]; exact kp_alloc
  have hb2 : w2.heap[p]? = some (.cells #[.string (str sku)] 9) := by rw [hw2, hp]; exact heap_new
  rw [← hw2, ← hp]
  obtain ⟨q, hq⟩ : ∃ q, q = w2.heap.size := ⟨_, rfl⟩
  obtain ⟨w3, hw3⟩ := ex_w (w' := w2.alloc (.cells #[.string (str loc)] 9))
  have hk3 : Kp [] w2 w3 := by rw [hw3]; exact kp_alloc
  have hb3 : w3.heap[q]? = some (.cells #[.string (str loc)] 9) := by rw [hw3, hq]; exact heap_new
  rw [← hw3, ← hq]
  obtain ⟨r, hr⟩ : ∃ r, r = w3.heap.size := ⟨_, rfl⟩
  obtain ⟨w4, hw4⟩ := ex_w (w' := w3.alloc (.cells [.string (str []), .string (str []), .int .i64 0, .int .i64 0].toArray 44))
  have hk4 : Kp [] w3 w4 := by rw [hw4]; exact kp_alloc
  have hb4 : w4.heap[r]? = some (.cells [.string (str []), .string (str []), .int .i64 0, .int .i64 0].toArray 44) := by rw [hw4, hr]; exact heap_new
  rw [← hw4, ← hr]
  have g1 := ((hk2.trans' hk3).trans' hk4).get hh1 (by simp)
  have g2 := (hk3.trans' hk4).get hb2 (by simp)
  have g3 := hk4.get hb3 (by simp)
  have kk := ((hk1.trans' hk2).trans' hk3).trans' hk4
  have hrs : w.heap.size ≤ r := by have := (hk1.trans' hk2).size; have := hk3.size; omega
  have mk77 : ∀ {K : Value → Prop}, qG Try.prog (Instr.makeFunc (.func 77) #[] #[.pointer (some ⟨p, 0, none⟩), .pointer (some ⟨q, 0, none⟩)]) w4 K = K (.func (.func 77) #[] #[.pointer (some ⟨p, 0, none⟩), .pointer (some ⟨q, 0, none⟩)]) := qG_of rfl
  simp [-getElem?_pos, -Array.all_eq_true, -Array.getElem?_eq_getElem, -List.length_flatten, List.getElem?_cons_zero, List.getElem?_cons_succ, g1, mk77, -ldn_p, -stn_p]
  refine indexFunc_spec (h1.keep kk) g2 g3 hl (fun i w5 hk5 hi hf => ?_) (fun w5 hk5 hf => ?_)
  · have e1 := hk5.get g1 (by simp)
    have e4 := hk5.get hb4 (by simp)
    have l4 := live_of e4
    obtain ⟨pp, i1, i2⟩ := rd_stock (h1.keep (kk.trans' hk5)) hi
    have hneg : ¬ ((i : Int) < 0) := by omega
    simp [-getElem?_pos, -Array.all_eq_true, -Array.getElem?_eq_getElem, -List.length_flatten, List.getElem?_cons_zero, List.getElem?_cons_succ, e1, hneg, -ldn_p, -stn_p]
    rw [i1, i2]
    have := hK (setBlk w5 r (.cells (sC l.st[i]).toArray 44)) ((kk.trans' hk5).setBlk (.inr hrs) _)
    rw [hf] at this
    unfold sA at this ⊢
    unfold sC at this
    simp [-getElem?_pos, -Array.all_eq_true, -Array.getElem?_eq_getElem, -List.length_flatten, List.getElem?_cons_zero, List.getElem?_cons_succ, e4, lvStock, l4]
    exact this
  · have e2 := hk5.get g2 (by simp)
    have e3 := hk5.get g3 (by simp)
    have e4 := hk5.get hb4 (by simp)
    have l4 := live_of e4
    have := hK (setBlk w5 r (.cells (sC ⟨sku, loc, 0, 0⟩).toArray 44)) ((kk.trans' hk5).setBlk (.inr hrs) _)
    rw [hf] at this
    unfold sA sC at this
    simp [-getElem?_pos, -Array.all_eq_true, -Array.getElem?_eq_getElem, -List.length_flatten, List.getElem?_cons_zero, List.getElem?_cons_succ, e2, e3, e4, zcStock, str_nil, bld_done, bld_if, offAt, putAt, lvStock, l4]
    exact this
end Go.Proofs

/- Layer 7: how many are free; copies of lists. -/
set_option linter.unusedVariables false
set_option linter.unusedSimpArgs false
namespace Go.Proofs
open Go Go.Q
theorem Free_spec7 {w : World} {v : Value} {l : LV} (hm : May l) (hv : LedAt w v l) (sku loc : List UInt8) {K : Value → World → Prop} (hK : ∀ w', Kp [] w w' → K (.int .i64 (freeL l sku loc)) w') : callG Try.prog 43 #[v, .string (str sku), .string (str loc)] w K := by
  refine ledger_Free_call ?_
  obtain ⟨a, b, c, hve, h1, h2, h3⟩ := hv
  have hfew := hm.few
  simp only [fullL, decide_eq_false_iff_not, not_or] at hfew
  obtain ⟨g1, g2, g3, g4, g5⟩ := hm.f.find sku loc
  have gf := fits_iff.1 g5
  unfold ledger_Free ledger_Free_s0
  subst hve
  refine argBox (cs := [a, b, c, .int .i64 l.ops]) fun x w1 hx1 hh1 hk1 => ?_
  have hld : ldn 4 (.pointer (some ⟨x, 0, none⟩)) w1 = fun K => K (.agg #[a, b, c, .int .i64 l.ops]) := by
    funext K
    exact ldAll hh1 rfl
  rw [hld]
  refine Find_spec7 (l := l) ⟨a, b, c, rfl, h1.keep hk1, h2.keep hk1, h3.keep hk1⟩ (by omega) sku loc fun w2 hk2 => ?_
  refine boxStock (o := findS l.st sku loc) (by kernel_rfl) fun p w3 hp hh3 hk3 => ?_
  unfold sC at hh3
  simp [-getElem?_pos, -Array.all_eq_true, -Array.getElem?_eq_getElem, -List.length_flatten, List.getElem?_cons_zero, List.getElem?_cons_succ, hh3]
  refine numSub_spec (by unfold rngI; omega) (by unfold rngI; omega) ?_
  simp [-getElem?_pos, -Array.all_eq_true, -Array.getElem?_eq_getElem, -List.length_flatten, List.getElem?_cons_zero, List.getElem?_cons_succ, ]
  exact hK w3 ((hk1.trans' hk2).trans' hk3)
/-! ### copies -/
theorem rd_none {w : World} {k l c : Nat} {rows : List (List Value)} (h : Rd w (.slice none l c) k rows) : rows = [] := by
  obtain ⟨S, ⟨a, cap, h1, h2⟩ | h⟩ := h
  · exact h2
  · rcases h with ⟨_, h2⟩ | ⟨bl, o, cap, c, T, fr, h1, _⟩
    · exact h2
    · cases h1
theorem cloneStock_spec {w : World} {v : Value} {l : List SV} (h : Rd w v 4 (l.map sC)) (hl : l.length < 2 ^ 30) {K : Value → World → Prop} (hK : ∀ v' w', Fr w w' v' 4 (l.map sC) → K v' w') :
    callG Try.prog 93 #[v] w K := by
  refine slices_Clone_api_Stock_api_Stock_call ?_
  simp only [slices_Clone_api_Stock_api_Stock, slices_Clone_api_Stock_api_Stock_s0]
  obtain ⟨sa, sc, hv⟩ := h.slice
  have hnil : sa = none → l = [] := by
    intro h0
    subst h0
    rw [hv] at h
    simpa using rd_none h
  rw [hv, bq_sleql _ _ _ _ _ (by kernel_rfl)]
  simp only [bV_b]
  refine ⟨fun h0 => ?_, fun h0 => ?_⟩
  · have : l = [] := hnil (by simpa using h0)
    subst this
    exact hK _ w (fr_nil (Kp.refl _ _))
  · have hb : ∀ K : Value → World → Prop, bsl 44 4 0 (zc Try.prog 44) #[] w K = K (.slice (some ⟨w.heap.size, 0, none⟩) 0 0) (w.alloc (.cells #[] 44)) := by
      intro K
      have hr : rep (zc Try.prog 44) (0 * 4) = #[] := by simp [rep]
      unfold bsl
      rw [hr]
      rfl
    rw [hb]
    obtain ⟨w1, hw1⟩ : ∃ w1, w1 = w.alloc (.cells #[] 44) := ⟨_, rfl⟩
    have hk1 : Kp [] w w1 := by rw [hw1]; exact (Kp.refl [] w).alloc _
    have hb1 : w1.heap[w.heap.size]? = some (.cells #[] 44) := by rw [hw1]; exact heap_new
    rw [← hw1, ← hv]
    have h1 : Fr w w1 (.slice (some ⟨w.heap.size, 0, none⟩) 0 0) 4 [] := ⟨⟨[w.heap.size], .inr ⟨_, [], _, rfl, rfl, hb1, by simp, rfl, by simp⟩, by simp⟩, hk1⟩
    have hs := h.keep hk1
    rw [show zc Try.prog 44 = [.string (str []), .string (str []), .int .i64 0, .int .i64 0].toArray by kernel_rfl]
    refine fr_app (z := [.string (str []), .string (str []), .int .i64 0, .int .i64 0]) (G := l.map sC) h1 (by omega) rfl (fun y hy => hs.row hy) ?_ (fun K' hK' => hs.src K' hK') (by simp; omega) (by simp; omega) fun v2 w2 h2 => hK v2 w2 (by simpa using h2)
    rw [List.all_eq_true]
    intro x hx
    obtain ⟨r, hr, hxr⟩ := List.mem_flatten.1 hx
    obtain ⟨y, _, rfl⟩ := List.mem_map.1 hr
    simp only [sC, List.mem_cons, List.not_mem_nil, or_false] at hxr
    rcases hxr with rfl | rfl | rfl | rfl <;> rfl
theorem cloneHold_spec {w : World} {v : Value} {l : List HV} (h : Rd w v 6 (l.map hC)) (hl : l.length < 2 ^ 30) {K : Value → World → Prop} (hK : ∀ v' w', Fr w w' v' 6 (l.map hC) → K v' w') :
    callG Try.prog 94 #[v] w K := by
  refine slices_Clone_api_Hold_api_Hold_call ?_
  simp only [slices_Clone_api_Hold_api_Hold, slices_Clone_api_Hold_api_Hold_s0]
  obtain ⟨sa, sc, hv⟩ := h.slice
  have hnil : sa = none → l = [] := by
    intro h0
    subst h0
    rw [hv] at h
    simpa using rd_none h
  rw [hv, bq_sleql _ _ _ _ _ (by kernel_rfl)]
  simp only [bV_b]
  refine ⟨fun h0 => ?_, fun h0 => ?_⟩
  · have : l = [] := hnil (by simpa using h0)
    subst this
    exact hK _ w (fr_nil (Kp.refl _ _))
  · have hb : ∀ K : Value → World → Prop, bsl 34 6 0 (zc Try.prog 34) #[] w K = K (.slice (some ⟨w.heap.size, 0, none⟩) 0 0) (w.alloc (.cells #[] 34)) := by
      intro K
      have hr : rep (zc Try.prog 34) (0 * 6) = #[] := by simp [rep]
      unfold bsl
      rw [hr]
      rfl
    rw [hb]
    obtain ⟨w1, hw1⟩ : ∃ w1, w1 = w.alloc (.cells #[] 34) := ⟨_, rfl⟩
    have hk1 : Kp [] w w1 := by rw [hw1]; exact (Kp.refl [] w).alloc _
    have hb1 : w1.heap[w.heap.size]? = some (.cells #[] 34) := by rw [hw1]; exact heap_new
    rw [← hw1, ← hv]
    have h1 : Fr w w1 (.slice (some ⟨w.heap.size, 0, none⟩) 0 0) 6 [] := ⟨⟨[w.heap.size], .inr ⟨_, [], _, rfl, rfl, hb1, by simp, rfl, by simp⟩, by simp⟩, hk1⟩
    have hs := h.keep hk1
    rw [show zc Try.prog 34 = [.int .i64 0, .string (str []), .string (str []), .int .i64 0, .int .i64 0, .int .i64 0].toArray by kernel_rfl]
    refine fr_app (z := [.int .i64 0, .string (str []), .string (str []), .int .i64 0, .int .i64 0, .int .i64 0]) (G := l.map hC) h1 (by omega) rfl (fun y hy => hs.row hy) ?_ (fun K' hK' => hs.src K' hK') (by simp; omega) (by simp; omega) fun v2 w2 h2 => hK v2 w2 (by simpa using h2)
    rw [List.all_eq_true]
    intro x hx
    obtain ⟨r, hr, hxr⟩ := List.mem_flatten.1 hx
    obtain ⟨y, _, rfl⟩ := List.mem_map.1 hr
    simp only [hC, List.mem_cons, List.not_mem_nil, or_false] at hxr
    rcases hxr with rfl | rfl | rfl | rfl | rfl | rfl <;> rfl
theorem cloneMove_spec {w : World} {v : Value} {l : List HV} (h : Rd w v 6 (l.map hC)) (hl : l.length < 2 ^ 30) {K : Value → World → Prop} (hK : ∀ v' w', Fr w w' v' 6 (l.map hC) → K v' w') :
    callG Try.prog 95 #[v] w K := by
  refine slices_Clone_api_Move_api_Move_call ?_
  simp only [slices_Clone_api_Move_api_Move, slices_Clone_api_Move_api_Move_s0]
  obtain ⟨sa, sc, hv⟩ := h.slice
  have hnil : sa = none → l = [] := by
    intro h0
    subst h0
    rw [hv] at h
    simpa using rd_none h
  rw [hv, bq_sleql _ _ _ _ _ (by kernel_rfl)]
  simp only [bV_b]
  refine ⟨fun h0 => ?_, fun h0 => ?_⟩
  · have : l = [] := hnil (by simpa using h0)
    subst this
    exact hK _ w (fr_nil (Kp.refl _ _))
  · have hb : ∀ K : Value → World → Prop, bsl 50 6 0 (zc Try.prog 50) #[] w K = K (.slice (some ⟨w.heap.size, 0, none⟩) 0 0) (w.alloc (.cells #[] 50)) := by
      intro K
      have hr : rep (zc Try.prog 50) (0 * 6) = #[] := by simp [rep]
      unfold bsl
      rw [hr]
      rfl
    rw [hb]
    obtain ⟨w1, hw1⟩ : ∃ w1, w1 = w.alloc (.cells #[] 50) := ⟨_, rfl⟩
    have hk1 : Kp [] w w1 := by rw [hw1]; exact (Kp.refl [] w).alloc _
    have hb1 : w1.heap[w.heap.size]? = some (.cells #[] 50) := by rw [hw1]; exact heap_new
    rw [← hw1, ← hv]
    have h1 : Fr w w1 (.slice (some ⟨w.heap.size, 0, none⟩) 0 0) 6 [] := ⟨⟨[w.heap.size], .inr ⟨_, [], _, rfl, rfl, hb1, by simp, rfl, by simp⟩, by simp⟩, hk1⟩
    have hs := h.keep hk1
    rw [show zc Try.prog 50 = [.int .i64 0, .string (str []), .string (str []), .int .i64 0, .int .i64 0, .int .i64 0].toArray by kernel_rfl]
    refine fr_app (z := [.int .i64 0, .string (str []), .string (str []), .int .i64 0, .int .i64 0, .int .i64 0]) (G := l.map hC) h1 (by omega) rfl (fun y hy => hs.row hy) ?_ (fun K' hK' => hs.src K' hK') (by simp; omega) (by simp; omega) fun v2 w2 h2 => hK v2 w2 (by simpa using h2)
    rw [List.all_eq_true]
    intro x hx
    obtain ⟨r, hr, hxr⟩ := List.mem_flatten.1 hx
    obtain ⟨y, _, rfl⟩ := List.mem_map.1 hr
    simp only [hC, List.mem_cons, List.not_mem_nil, or_false] at hxr
    rcases hxr with rfl | rfl | rfl | rfl | rfl | rfl <;> rfl
end Go.Proofs

/- Layer 7: where a place stands, or would. -/
set_option linter.unusedVariables false
set_option linter.unusedSimpArgs false
namespace Go.Proofs
open Go Go.Q
theorem index1_spec {w : World} (s : SV) (sku loc : List UInt8) {K : Value → World → Prop} (hK : ∀ w', Kp [] w w' → K (.int .i64 (ordL s.sku s.loc sku loc)) w') : callG Try.prog 129 #[sA s, keyV sku loc] w K := by
  refine ledger_index_1_call ?_
  unfold ledger_index_1 ledger_index_1_s0
  refine argBox (cs := sC s) fun b w1 hb hh hk => ?_
  refine argBox (cs := [.string (str sku), .string (str loc)]) fun b2 w2 hb2 hh2 hk2 => ?_
  have h1 := (hk2.trans' kp_drew).get hh (by simp)
  have h2 := kp_drew.get hh2 (by simp)
  rw [ldStock h1, ldPl h2]
  refine of_spec7 s fun w3 hk3 => ?_
  rw [ldPl (hk3.get h2 (by simp))]
  refine ⟨rfl, order_spec _ _ _ _ fun w4 hk4 => ?_⟩
  exact hK w4 (((hk.trans' (hk2.trans' kp_drew)).trans' hk3).trans' hk4)
theorem has129 : hasBody Try.prog 129 = true := by kernel_rfl
theorem index_spec {w : World} {v : Value} {st : List SV} (hs : Sorted st) (hr : Rd w v 4 (st.map sC)) (hl : st.length < 2 ^ 40) (sku loc : List UInt8) {K : Value → World → Prop}
    (hK : ∀ k w', Kp [] w w' → k ≤ st.length → (∀ j (hj : j < st.length), j < k → Q.ahead st[j] ⟨sku, loc, 0, 0⟩ = true) → (∀ j (hj : j < st.length), k ≤ j → Q.ahead st[j] ⟨sku, loc, 0, 0⟩ = false) →
      K (.tuple #[.int .i64 (k : Nat), .bool (st.any fun s => atP s sku loc)]) w') : callG Try.prog 121 #[v, keyV sku loc] w K := by
  refine ledger_index_call ?_
  unfold ledger_index ledger_index_s0
  refine argBox (cs := [.string (str sku), .string (str loc)]) fun b w1 hb hh hk => ?_
  rw [ldPl hh]
  refine slices_BinarySearchFunc_api_Stock_api_Stock_ledger_place_call ?_
  unfold slices_BinarySearchFunc_api_Stock_api_Stock_ledger_place slices_BinarySearchFunc_api_Stock_api_Stock_ledger_place_s3
  refine argBox (cs := [.string (str sku), .string (str loc)]) fun p w2 hp hh2 hk2 => ?_
  rw [(hr.keep (hk.trans' hk2)).lenL, List.length_map]
  unfold slices_BinarySearchFunc_api_Stock_api_Stock_ledger_place_L2
  refine loop_inv (fun m xs wi => ∃ i j : Nat, i ≤ j ∧ j ≤ st.length ∧ m = j - i ∧ xs = [v, .func (.func 129) #[] #[], .pointer (some ⟨p, 0, none⟩), .int .i64 st.length, .int .i64 (i : Nat), .int .i64 (j : Nat)] ∧ Kp [] w2 wi ∧
      (∀ t (ht : t < st.length), t < i → Q.ahead st[t] ⟨sku, loc, 0, 0⟩ = true) ∧ (∀ t (ht : t < st.length), j ≤ t → Q.ahead st[t] ⟨sku, loc, 0, 0⟩ = false)) ?_ (m := st.length)
    ⟨0, st.length, by omega, by omega, by omega, rfl, Kp.refl _ _, fun t _ h => by omega, fun t ht h => by omega⟩
  rintro m N xs wi ⟨i, j, hij, hj, rfl, rfl, hki, hlow, hhigh⟩ hN
  have hpl := hki.get hh2 (by simp)
  have hpld := kp_drew.get hpl (by simp)
  have kk := (hk.trans' hk2).trans' hki
  have harr : ∀ a b : Value, (#[] ++ #[a, b] ++ #[] : Array Value) = #[a, b] := fun _ _ => rfl
  unfold slices_BinarySearchFunc_api_Stock_api_Stock_ledger_place_L2F slices_BinarySearchFunc_api_Stock_api_Stock_ledger_place_b1
  have e1 : IntKind.i64.wrap ((i : Int) + j) = (i : Int) + j := w64 (by omega) (by omega)
  have e2 : IntKind.u64.wrap ((i : Int) + j) = (i : Int) + j := by rw [wrapU]; omega
  simp [-getElem?_pos, -Array.all_eq_true, -Array.getElem?_eq_getElem, -List.length_flatten, List.getElem?_cons_zero, List.getElem?_cons_succ, e1, e2, -ldn_p]
  refine ⟨fun hlt => ?_, fun hge => ?_⟩
  · rw [shr_of (by omega) (by decide)]
    obtain ⟨h, hh'⟩ : ∃ h : Nat, h = (i + j) / 2 := ⟨_, rfl⟩
    have e3 : ((i : Int) + j) / 2 ^ (1 : Int).toNat = (h : Int) := by
      rw [show (2 : Int) ^ (1 : Int).toNat = 2 by decide]; omega
    have e4 : IntKind.i64.wrap (h : Int) = (h : Int) := w64 (by omega) (by omega)
    have e5 : IntKind.i64.wrap ((h : Int) + 1) = ((h + 1 : Nat) : Int) := by rw [w64 (by omega) (by omega)]; simp
    obtain ⟨q, q1, q2⟩ := rd_stock (hr.keep (kk.trans' kp_drew)) (i := h) (by omega)
    rw [e3]
    simp [-getElem?_pos, -Array.all_eq_true, -Array.getElem?_eq_getElem, -List.length_flatten, List.getElem?_cons_zero, List.getElem?_cons_succ, e4, -ldn_p]
    rw [q1, q2, ldPl hpld]
    refine ⟨has129, ?_⟩
    rw [harr]
    refine index1_spec st[h] sku loc fun w3 hk3 => ?_
    have hk23 : Kp [] w2 w3 := hki.trans' (kp_drew.trans' hk3)
    have hneg := ordL_neg (a := st[h]) (b := ⟨sku, loc, 0, 0⟩)
    simp only at hneg
    cases ha : Q.ahead st[h] ⟨sku, loc, 0, 0⟩ with
    | true =>
      have hn := hneg.2 ha
      simp [-getElem?_pos, -Array.all_eq_true, -Array.getElem?_eq_getElem, -List.length_flatten, List.getElem?_cons_zero, List.getElem?_cons_succ, hn, e5]
      refine hN (j - (h + 1)) _ w3 (by omega) ⟨h + 1, j, by omega, hj, rfl, by simp, hk23, fun t ht hti => ?_, hhigh⟩
      by_cases he : t = h
      · subst he; exact ha
      · have := List.pairwise_iff_getElem.1 hs t h ht (by omega) (by omega)
        exact ahead_trans this ha
    | false =>
      have hn : ¬ (ordL st[h].sku st[h].loc sku loc < 0) := fun hh => by rw [hneg.1 hh] at ha; cases ha
      simp [-getElem?_pos, -Array.all_eq_true, -Array.getElem?_eq_getElem, -List.length_flatten, List.getElem?_cons_zero, List.getElem?_cons_succ, hn]
      refine hN (h - i) _ w3 (by omega) ⟨i, h, by omega, by omega, rfl, rfl, hk23, hlow, fun t ht hti => ?_⟩
      by_cases he : t = h
      · subst he; exact ha
      · cases hc : Q.ahead st[t] ⟨sku, loc, 0, 0⟩ with
        | false => rfl
        | true =>
          have := List.pairwise_iff_getElem.1 hs h t (by omega) ht (by omega)
          rw [ahead_trans this hc] at ha
          cases ha
  · have hie : i = j := by omega
    subst hie
    unfold slices_BinarySearchFunc_api_Stock_api_Stock_ledger_place_s0
    simp [-getElem?_pos, -Array.all_eq_true, -Array.getElem?_eq_getElem, -List.length_flatten, List.getElem?_cons_zero, List.getElem?_cons_succ, -ldn_p]
    refine ⟨fun hlt => ?_, fun hge => ?_⟩
    · obtain ⟨q, q1, q2⟩ := rd_stock (hr.keep (kk.trans' kp_drew)) (i := i) hlt
      rw [q1, q2, ldPl hpld]
      refine ⟨has129, ?_⟩
      rw [harr]
      refine index1_spec st[i] sku loc fun w3 hk3 => ?_
      simp [-getElem?_pos, -Array.all_eq_true, -Array.getElem?_eq_getElem, -List.length_flatten, List.getElem?_cons_zero, List.getElem?_cons_succ, ]
      have hK := hK i w3 ((kk.trans' kp_drew).trans' hk3) hj hlow hhigh
      have e : (st.any fun s => atP s sku loc) = decide (ordL st[i].sku st[i].loc sku loc = 0) := by
        rw [Bool.eq_iff_iff]
        simp only [List.any_eq_true, decide_eq_true_eq, atP]
        constructor
        · rintro ⟨s, hs', h1, h2⟩
          obtain ⟨t, ht, rfl⟩ := List.getElem_of_mem hs'
          have hnot : Q.ahead st[t] ⟨sku, loc, 0, 0⟩ = false := by rw [ahead_key (a' := ⟨sku, loc, 0, 0⟩) (b' := ⟨sku, loc, 0, 0⟩) h1 h2 rfl rfl, ahead_irrefl]
          have hti : i ≤ t := by
            rcases Nat.lt_or_ge t i with h | h
            · rw [hlow t ht h] at hnot; cases hnot
            · exact h
          by_cases he : t = i
          · subst he; exact ordL_zero.2 ⟨h1, h2⟩
          · exfalso
            have hp' := List.pairwise_iff_getElem.1 hs i t hlt ht (by omega)
            rw [ahead_key (b' := ⟨sku, loc, 0, 0⟩) rfl rfl h1 h2] at hp'
            have := hhigh i hlt (Nat.le_refl _)
            rw [hp'] at this
            cases this
        · intro h0
          obtain ⟨h1, h2⟩ := ordL_zero.1 h0
          exact ⟨st[i], List.getElem_mem hlt, h1, h2⟩
      rw [e] at hK
      exact hK
    · have hin : i = st.length := by omega
      have hK := hK i wi.drew (kk.trans' kp_drew) hj hlow hhigh
      have e : (st.any fun s => atP s sku loc) = false := by
        rw [Bool.eq_false_iff]
        intro h
        simp only [List.any_eq_true, decide_eq_true_eq, atP] at h
        obtain ⟨s, hs', h1, h2⟩ := h
        obtain ⟨t, ht, rfl⟩ := List.getElem_of_mem hs'
        have := hlow t ht (by omega)
        rw [ahead_key (a' := ⟨sku, loc, 0, 0⟩) (b' := ⟨sku, loc, 0, 0⟩) h1 h2 rfl rfl, ahead_irrefl] at this
        cases this
      rw [e] at hK
      exact hK
end Go.Proofs

set_option linter.unusedVariables false
set_option linter.unusedSimpArgs false
namespace Go.Proofs
open Go Go.Q
set_option maxRecDepth 100000
/-! (*quayside/ledger.work).turned -/
def ledger_work_turned_s0 (R : Value → World → Prop) (x0 x2 x3 x8 : Value) (w : World) : Prop :=
  nk x0 fun t40 =>
  fa 0 t40 fun t41 =>
  fa 0 t41 fun t42 =>
  ld1 t42 w fun t43 =>
  ia 4 t43 x8 fun t45 =>
  fa 2 t45 fun t46 =>
  ld1 t46 w fun t47 =>
  qG Try.prog (bq .add 3 (.tmp 47) (.tmp 48) t47 x2) w fun t49 =>
  ia 4 t43 x8 fun t50 =>
  fa 2 t50 fun t51 =>
  st1 t51 t49 w fun w =>
  nk x0 fun t53 =>
  fa 0 t53 fun t54 =>
  fa 0 t54 fun t55 =>
  ld1 t55 w fun t56 =>
  ia 4 t56 x8 fun t58 =>
  fa 3 t58 fun t59 =>
  ld1 t59 w fun t60 =>
  qG Try.prog (bq .add 3 (.tmp 60) (.tmp 61) t60 x3) w fun t62 =>
  ia 4 t56 x8 fun t63 =>
  fa 3 t63 fun t64 =>
  st1 t64 t62 w fun w =>
  R (.tuple #[]) w
theorem ledger_work_turned_s0_eq (R : Value → World → Prop) : ∀ e w, lift Try.prog 65 (sub (bodyOf Try.f109) [1, 1, 1]) (finK Try.prog Try.f109.results.toList R) e w = ledger_work_turned_s0 R (e 0) (e 2) (e 3) (e 8) w := fun e w => by kernel_rfl
def ledger_work_turned_s1 (R : Value → World → Prop) (x0 x1 x2 x3 : Value) (w : World) : Prop :=
  newG (Value.cells x1) 119 w fun t5 w =>
  nk x0 fun t12 =>
  fa 0 t12 fun t13 =>
  fa 0 t13 fun t14 =>
  ld1 t14 (World.drew w) fun t15 =>
  ldn 2 t5 (World.drew w) fun t16 =>
  callG Try.prog 121 #[t15, t16] (World.drew w) fun t17 w =>
  qG Try.prog (Instr.extract t17 0) w fun t18 =>
  qG Try.prog (Instr.extract t17 1) w fun t19 =>
  qG Try.prog (Op.unary .not t19) w fun t21 =>
  bV t21
  (nk x0 fun t24 =>
  fa 0 t24 fun t25 =>
  fa 0 t25 fun t26 =>
  ld1 t26 (World.drew w) fun t27 =>
  fa 0 t5 fun t29 =>
  ld1 t29 (World.drew w) fun t30 =>
  fa 1 t5 fun t31 =>
  ld1 t31 (World.drew w) fun t32 =>
  bld [(0, 1), (1, 1), (2, 1), (3, 1)] (zc Try.prog 44) #[(0, t30), (1, t32)] fun t33 =>
  bsl 44 4 1 (zc Try.prog 44) #[(0, t33)] (World.drew w) fun t34 w =>
  ld1 t26 w (fun u => u = t27) ∧
  callG Try.prog 122 #[t27, t18, t34] w fun t35 w =>
  nk x0 fun t36 =>
  fa 0 t36 fun t37 =>
  fa 0 t37 fun t38 =>
  st1 t38 t35 w fun w =>
  ledger_work_turned_s0 R x0 x2 x3 t18 w)
  (ledger_work_turned_s0 R x0 x2 x3 t18 w)
theorem ledger_work_turned_s1_eq (R : Value → World → Prop) : ∀ e w, lift Try.prog 65 (bodyOf Try.f109) (finK Try.prog Try.f109.results.toList R) e w = ledger_work_turned_s1 R (e 0) (e 1) (e 2) (e 3) w :=
  segs_eq (l := [(sub (bodyOf Try.f109) [0]), (sub (bodyOf Try.f109) [1, 0]), (sub (bodyOf Try.f109) [1, 1, 0])]) (y := (sub (bodyOf Try.f109) [1, 1, 1])) (Y := (fun e w => ledger_work_turned_s0 R (e 0) (e 2) (e 3) (e 8) w)) (ledger_work_turned_s0_eq R) (fun e w => by kernel_rfl)
def ledger_work_turned (R : Value → World → Prop) (x0 x1 x2 x3 : Value) (w : World) : Prop := ledger_work_turned_s1 R x0 x1 x2 x3 w
theorem ledger_work_turned_call {R : Value → World → Prop} {x0 x1 x2 x3 : Value} {w : World} (h : ledger_work_turned R x0 x1 x2 x3 w) : callG Try.prog 109 #[x0, x1, x2, x3] w R :=
  calls_lift_eq Try.mixed Try.func109 (args := [x0, x1, x2, x3]) rfl rfl rfl rfl ((ledger_work_turned_s1_eq R) (envOf [x0, x1, x2, x3]) w) (by kernel_rfl) h
/-! (*quayside/ledger.work).moved -/
def ledger_work_moved_s0 (R : Value → World → Prop) (x0 x1 x2 x3 x4 : Value) (w : World) : Prop :=
  newG (Value.cells x1) 119 w fun t6 w =>
  newG (Value.cells x4) 50 w fun t9 w =>
  ldn 2 t6 w fun t11 =>
  callG Try.prog 109 #[x0, t11, x2, x3] w fun t14 w =>
  nk x0 fun t16 =>
  fa 0 t16 fun t17 =>
  fa 2 t17 fun t18 =>
  ld1 t18 (World.drew w) fun t19 =>
  lenL t19 fun t20 =>
  qG Try.prog (bq .add 3 (.tmp 20) (.const (.int .i64 1)) t20 (.int .i64 1)) (World.drew w) fun t21 =>
  fa 0 t6 fun t22 =>
  ld1 t22 (World.drew w) fun t23 =>
  fa 1 t6 fun t24 =>
  ld1 t24 (World.drew w) fun t25 =>
  fa 0 t9 fun t27 =>
  st1 t27 t21 (World.drew w) fun w =>
  ld1 t24 w (fun u => u = t25) ∧
  ld1 t22 w (fun u => u = t23) ∧
  fa 1 t9 fun t28 =>
  st1 t28 t23 w fun w =>
  ld1 t24 w (fun u => u = t25) ∧
  fa 2 t9 fun t29 =>
  st1 t29 t25 w fun w =>
  fa 3 t9 fun t30 =>
  st1 t30 x2 w fun w =>
  nk x0 fun t33 =>
  fa 0 t33 fun t34 =>
  fa 2 t34 fun t35 =>
  ld1 t35 (World.drew w) fun t36 =>
  ldn 6 t9 (World.drew w) fun t37 =>
  bsl 50 6 1 (zc Try.prog 50) #[(0, t37)] (World.drew w) fun t38 w =>
  ld1 t35 w (fun u => u = t36) ∧
  app 50 6 64 (zc Try.prog 50) t36 t38 w fun t39 w =>
  nk x0 fun t40 =>
  fa 0 t40 fun t41 =>
  fa 2 t41 fun t42 =>
  st1 t42 t39 w fun w =>
  R (.tuple #[]) w
theorem ledger_work_moved_s0_eq (R : Value → World → Prop) : ∀ e w, lift Try.prog 43 (bodyOf Try.f108) (finK Try.prog Try.f108.results.toList R) e w = ledger_work_moved_s0 R (e 0) (e 1) (e 2) (e 3) (e 4) w := fun e w => by kernel_rfl
def ledger_work_moved (R : Value → World → Prop) (x0 x1 x2 x3 x4 : Value) (w : World) : Prop := ledger_work_moved_s0 R x0 x1 x2 x3 x4 w
theorem ledger_work_moved_call {R : Value → World → Prop} {x0 x1 x2 x3 x4 : Value} {w : World} (h : ledger_work_moved R x0 x1 x2 x3 x4 w) : callG Try.prog 108 #[x0, x1, x2, x3, x4] w R :=
  calls_lift_eq Try.mixed Try.func108 (args := [x0, x1, x2, x3, x4]) rfl rfl rfl rfl ((ledger_work_moved_s0_eq R) (envOf [x0, x1, x2, x3, x4]) w) (by kernel_rfl) h
/-! (*quayside/ledger.work).more -/
def ledger_work_more_s0 (R : Value → World → Prop) (x0 x1 x2 : Value) (w : World) : Prop :=
  newG (Value.cells x1) 119 w fun t4 w =>
  nk x0 fun t9 =>
  fa 0 t9 fun t10 =>
  ldn 4 t10 (World.drew w) fun t11 =>
  fa 0 t4 fun t12 =>
  ld1 t12 (World.drew w) fun t13 =>
  fa 1 t4 fun t14 =>
  ld1 t14 (World.drew w) fun t15 =>
  callG Try.prog 44 #[t11, t13, t15] (World.drew w) fun t16 w =>
  fld false 2 1 t16 fun t17 =>
  callG Try.prog 120 #[t17, x2] w fun t19 w =>
  qG Try.prog (Instr.extract t19 0) w fun t20 =>
  qG Try.prog (Instr.extract t19 1) w fun t21 =>
  R (.tuple #[t20, t21]) w
theorem ledger_work_more_s0_eq (R : Value → World → Prop) : ∀ e w, lift Try.prog 22 (bodyOf Try.f107) (finK Try.prog Try.f107.results.toList R) e w = ledger_work_more_s0 R (e 0) (e 1) (e 2) w := fun e w => by kernel_rfl
def ledger_work_more (R : Value → World → Prop) (x0 x1 x2 : Value) (w : World) : Prop := ledger_work_more_s0 R x0 x1 x2 w
theorem ledger_work_more_call {R : Value → World → Prop} {x0 x1 x2 : Value} {w : World} (h : ledger_work_more R x0 x1 x2 w) : callG Try.prog 107 #[x0, x1, x2] w R :=
  calls_lift_eq Try.mixed Try.func107 (args := [x0, x1, x2]) rfl rfl rfl rfl ((ledger_work_more_s0_eq R) (envOf [x0, x1, x2]) w) (by kernel_rfl) h
/-! (*quayside/ledger.work).over -/
def ledger_work_over_s0 (R : Value → World → Prop) (x0 x3 : Value) (w : World) : Prop :=
  nk x0 fun t31 =>
  fa 0 t31 fun t32 =>
  fa 1 t32 fun t33 =>
  ld1 t33 (World.drew w) fun t34 =>
  fa 5 x3 fun t35 =>
  ld1 t35 (World.drew w) fun t36 =>
  qG Try.prog (bq .sub 3 (.tmp 36) (.const (.int .i64 1)) t36 (.int .i64 1)) (World.drew w) fun t37 =>
  ia 6 t34 t37 fun t38 =>
  nk t38 fun t40 =>
  fa 1 t40 fun t41 =>
  ld1 t41 (World.drew (World.drew w)) fun t42 =>
  nk t38 fun t44 =>
  fa 2 t44 fun t45 =>
  ld1 t45 (World.drew (World.drew w)) fun t46 =>
  bld [(0, 1), (1, 1)] (zc Try.prog 119) #[(0, t42), (1, t46)] fun t47 =>
  newG (zc Try.prog 119) 119 (World.drew (World.drew w)) fun t6 w =>
  ld1 t45 w (fun u => u = t46) ∧
  ld1 t41 w (fun u => u = t42) ∧
  stn 2 t6 t47 w fun w =>
  fa 0 x3 fun t48 =>
  ld1 t48 w fun t49 =>
  qG Try.prog (bq .eql 3 (.tmp 49) (.const (.int .i64 4)) t49 (.int .i64 4)) w fun t50 =>
  bV t50
  (nk t38 fun t52 =>
  fa 4 t52 fun t53 =>
  st1 t53 (.int .i64 2) w fun w =>
  ldn 2 t6 (World.drew w) fun t55 =>
  nk t38 fun t57 =>
  fa 3 t57 fun t58 =>
  ld1 t58 (World.drew w) fun t59 =>
  qG Try.prog (Op.unary .neg t59) (World.drew w) fun t60 =>
  callG Try.prog 109 #[x0, t55, (.int .i64 0), t60] (World.drew w) fun t61 w =>
  R (.int .i64 0) w)
  (nk t38 fun t63 =>
  fa 4 t63 fun t64 =>
  st1 t64 (.int .i64 1) w fun w =>
  ldn 2 t6 (World.drew w) fun t66 =>
  nk t38 fun t68 =>
  fa 3 t68 fun t69 =>
  ld1 t69 (World.drew w) fun t70 =>
  qG Try.prog (Op.unary .neg t70) (World.drew w) fun t71 =>
  nk t38 fun t73 =>
  fa 3 t73 fun t74 =>
  ld1 t74 (World.drew w) fun t75 =>
  qG Try.prog (Op.unary .neg t75) (World.drew w) fun t76 =>
  fa 0 x3 fun t77 =>
  ld1 t77 (World.drew w) fun t78 =>
  nk t38 fun t80 =>
  fa 0 t80 fun t81 =>
  ld1 t81 (World.drew w) fun t82 =>
  bld [(0, 1), (1, 1), (2, 1), (3, 1), (4, 1), (5, 1)] (zc Try.prog 50) #[(4, t78), (5, t82)] fun t83 =>
  callG Try.prog 108 #[x0, t66, t71, t76, t83] (World.drew w) fun t84 w =>
  R (.int .i64 0) w)
theorem ledger_work_over_s0_eq (R : Value → World → Prop) : ∀ e w, lift Try.prog 85 (sub (bodyOf Try.f110) [1, 1]) (finK Try.prog Try.f110.results.toList R) e w = ledger_work_over_s0 R (e 0) (e 3) w := fun e w => by kernel_rfl
def ledger_work_over_s1 (R : Value → World → Prop) (x0 x1 : Value) (w : World) : Prop :=
  newG (Value.cells x1) 23 w fun t3 w =>
  fa 5 t3 fun t7 =>
  ld1 t7 (World.drew w) fun t8 =>
  nk x0 fun t10 =>
  fa 0 t10 fun t11 =>
  fa 1 t11 fun t12 =>
  ld1 t12 (World.drew w) fun t13 =>
  lenL t13 fun t14 =>
  qG Try.prog (bq .gtr 3 (.tmp 8) (.tmp 14) t8 t14) (World.drew w) fun t15 =>
  bV t15
  (R (.int .i64 71) (World.drew w))
  (nk x0 fun t18 =>
  fa 0 t18 fun t19 =>
  fa 1 t19 fun t20 =>
  ld1 t20 (World.drew w) fun t21 =>
  fa 5 t3 fun t22 =>
  ld1 t22 (World.drew w) fun t23 =>
  qG Try.prog (bq .sub 3 (.tmp 23) (.const (.int .i64 1)) t23 (.int .i64 1)) (World.drew w) fun t24 =>
  ia 6 t21 t24 fun t25 =>
  fa 4 t25 fun t26 =>
  ld1 t26 (World.drew w) fun t27 =>
  qG Try.prog (bq .neq 3 (.tmp 27) (.const (.int .i64 0)) t27 (.int .i64 0)) (World.drew w) fun t28 =>
  bV t28
  (R (.int .i64 71) (World.drew w))
  (ledger_work_over_s0 R x0 t3 (World.drew w)))
theorem ledger_work_over_s1_eq (R : Value → World → Prop) : ∀ e w, lift Try.prog 85 (bodyOf Try.f110) (finK Try.prog Try.f110.results.toList R) e w = ledger_work_over_s1 R (e 0) (e 1) w :=
  segs_eq (l := [(sub (bodyOf Try.f110) [0]), (sub (bodyOf Try.f110) [1, 0])]) (y := (sub (bodyOf Try.f110) [1, 1])) (Y := (fun e w => ledger_work_over_s0 R (e 0) (e 3) w)) (ledger_work_over_s0_eq R) (fun e w => by kernel_rfl)
def ledger_work_over (R : Value → World → Prop) (x0 x1 : Value) (w : World) : Prop := ledger_work_over_s1 R x0 x1 w
theorem ledger_work_over_call {R : Value → World → Prop} {x0 x1 : Value} {w : World} (h : ledger_work_over R x0 x1 w) : callG Try.prog 110 #[x0, x1] w R :=
  calls_lift_eq Try.mixed Try.func110 (args := [x0, x1]) rfl rfl rfl rfl ((ledger_work_over_s1_eq R) (envOf [x0, x1]) w) (by kernel_rfl) h
/-! (*quayside/ledger.work).does -/
def ledger_work_does_s0 (R : Value → World → Prop) (w : World) : Prop :=
  R (.int .i64 0) w
theorem ledger_work_does_s0_eq (R : Value → World → Prop) : ∀ e w, lift Try.prog 186 (sub (bodyOf Try.f96) [1, 1, 1, 1]) (finK Try.prog Try.f96.results.toList R) e w = ledger_work_does_s0 R w := fun e w => by kernel_rfl
def ledger_work_does_s1 (R : Value → World → Prop) (x0 x3 x5 : Value) (w : World) : Prop :=
  ldn 2 x5 w fun t75 =>
  fa 4 x3 fun t76 =>
  ld1 t76 w fun t77 =>
  fa 0 x3 fun t78 =>
  ld1 t78 w fun t79 =>
  bld [(0, 1), (1, 1), (2, 1), (3, 1), (4, 1), (5, 1)] (zc Try.prog 50) #[(4, t79)] fun t80 =>
  callG Try.prog 108 #[x0, t75, t77, (.int .i64 0), t80] w fun t81 w =>
  ledger_work_does_s0 R  w
theorem ledger_work_does_s1_eq (R : Value → World → Prop) : ∀ e w, lift Try.prog 186 (sub (bodyOf Try.f96) [1, 1, 1, 0, 1, 0, 1, 0]) (blockK 1 (seqK (fun e w => ledger_work_does_s0 R  w) (finK Try.prog Try.f96.results.toList R))) e w = ledger_work_does_s1 R (e 0) (e 3) (e 5) w := fun e w => by kernel_rfl
def ledger_work_does_s2 (R : Value → World → Prop) (x0 x3 x5 : Value) (w : World) : Prop :=
  ldn 2 x5 w fun t85 =>
  fa 4 x3 fun t86 =>
  ld1 t86 w fun t87 =>
  callG Try.prog 109 #[x0, t85, (.int .i64 0), t87] w fun t88 w =>
  nk x0 fun t91 =>
  fa 0 t91 fun t92 =>
  fa 1 t92 fun t93 =>
  ld1 t93 (World.drew w) fun t94 =>
  nk x0 fun t96 =>
  fa 0 t96 fun t97 =>
  fa 1 t97 fun t98 =>
  ld1 t98 (World.drew w) fun t99 =>
  lenL t99 fun t100 =>
  qG Try.prog (bq .add 3 (.tmp 100) (.const (.int .i64 1)) t100 (.int .i64 1)) (World.drew w) fun t101 =>
  fa 1 x3 fun t102 =>
  ld1 t102 (World.drew w) fun t103 =>
  fa 2 x3 fun t104 =>
  ld1 t104 (World.drew w) fun t105 =>
  fa 4 x3 fun t106 =>
  ld1 t106 (World.drew w) fun t107 =>
  fa 6 x3 fun t108 =>
  ld1 t108 (World.drew w) fun t109 =>
  bld [(0, 1), (1, 1), (2, 1), (3, 1), (4, 1), (5, 1)] (zc Try.prog 34) #[(0, t101), (1, t103), (2, t105), (3, t107), (5, t109)] fun t110 =>
  bsl 34 6 1 (zc Try.prog 34) #[(0, t110)] (World.drew w) fun t111 w =>
  ld1 t93 w (fun u => u = t94) ∧
  app 34 6 64 (zc Try.prog 34) t94 t111 w fun t112 w =>
  nk x0 fun t113 =>
  fa 0 t113 fun t114 =>
  fa 1 t114 fun t115 =>
  st1 t115 t112 w fun w =>
  ledger_work_does_s0 R  w
theorem ledger_work_does_s2_eq (R : Value → World → Prop) : ∀ e w, lift Try.prog 186 (sub (bodyOf Try.f96) [1, 1, 1, 0, 1, 0, 1, 1, 1, 0]) (blockK 1 (seqK (fun e w => ledger_work_does_s0 R  w) (finK Try.prog Try.f96.results.toList R))) e w = ledger_work_does_s2 R (e 0) (e 3) (e 5) w := fun e w => by kernel_rfl
def ledger_work_does_s3 (R : Value → World → Prop) (x0 x3 x5 x6 : Value) (w : World) : Prop :=
  ldn 2 x6 w fun t120 =>
  fa 4 x3 fun t121 =>
  ld1 t121 w fun t122 =>
  callG Try.prog 107 #[x0, t120, t122] w fun t123 w =>
  qG Try.prog (Instr.extract t123 0) w fun t124 =>
  qG Try.prog (Instr.extract t123 1) w fun t125 =>
  qG Try.prog (bq .neq 26 (.tmp 126) (.const (.int .i64 0)) t125 (.int .i64 0)) w fun t127 =>
  bV t127
  (R t125 w)
  (ldn 2 x5 w fun t130 =>
  fa 4 x3 fun t131 =>
  ld1 t131 w fun t132 =>
  qG Try.prog (Op.unary .neg t132) w fun t133 =>
  fa 0 x3 fun t134 =>
  ld1 t134 w fun t135 =>
  bld [(0, 1), (1, 1), (2, 1), (3, 1), (4, 1), (5, 1)] (zc Try.prog 50) #[(4, t135)] fun t136 =>
  callG Try.prog 108 #[x0, t130, t133, (.int .i64 0), t136] w fun t137 w =>
  ldn 2 x6 w fun t139 =>
  fa 4 x3 fun t140 =>
  ld1 t140 w fun t141 =>
  fa 0 x3 fun t142 =>
  ld1 t142 w fun t143 =>
  bld [(0, 1), (1, 1), (2, 1), (3, 1), (4, 1), (5, 1)] (zc Try.prog 50) #[(4, t143)] fun t144 =>
  callG Try.prog 108 #[x0, t139, t141, (.int .i64 0), t144] w fun t145 w =>
  ledger_work_does_s0 R  w)
theorem ledger_work_does_s3_eq (R : Value → World → Prop) : ∀ e w, lift Try.prog 186 (sub (bodyOf Try.f96) [1, 1, 1, 0, 1, 0, 1, 1, 1, 1, 1, 0]) (blockK 1 (seqK (fun e w => ledger_work_does_s0 R  w) (finK Try.prog Try.f96.results.toList R))) e w = ledger_work_does_s3 R (e 0) (e 3) (e 5) (e 6) w := fun e w => by kernel_rfl
def ledger_work_does_b4 (R : Value → World → Prop) (N1 : List Value → World → Prop) (x0 x3 x153 x154 : Value) (w : World) : Prop :=
  qG Try.prog (bq .lss 3 (.tmp 154) (.tmp 153) x154 x153) w fun t155 =>
  bV t155
  (nk x0 fun t158 =>
  fa 0 t158 fun t159 =>
  fa 1 t159 fun t160 =>
  ld1 t160 w fun t161 =>
  ia 6 t161 x154 fun t163 =>
  ldn 6 t163 w fun t164 =>
  newG (zc Try.prog 34) 34 w fun t12 w =>
  stn 6 t12 t164 w fun w =>
  fa 4 t12 fun t165 =>
  ld1 t165 w fun t166 =>
  qG Try.prog (bq .eql 3 (.tmp 166) (.const (.int .i64 0)) t166 (.int .i64 0)) w fun t167 =>
  bV t167
  (fa 5 t12 fun t169 =>
  ld1 t169 w fun t170 =>
  qG Try.prog (bq .gtr 3 (.tmp 170) (.const (.int .i64 0)) t170 (.int .i64 0)) w fun t171 =>
  bV t171
  (fa 5 t12 fun t174 =>
  ld1 t174 w fun t175 =>
  fa 6 x3 fun t176 =>
  ld1 t176 w fun t177 =>
  qG Try.prog (bq .leq 3 (.tmp 175) (.tmp 177) t175 t177) w fun t178 =>
  bV t178
  (fa 0 t12 fun t181 =>
  ld1 t181 w fun t182 =>
  bld [(0, 1), (1, 1), (2, 1), (3, 1), (4, 1), (5, 1), (6, 1)] (zc Try.prog 23) #[(0, (.int .i64 4)), (5, t182)] fun t183 =>
  callG Try.prog 110 #[x0, t183] w fun t184 w =>
  qG Try.prog (bq .add 3 (.tmp 154) (.const (.int .i64 1)) x154 (.int .i64 1)) w fun t185 =>
  N1 [x0, x3, x153, t185] w)
  (qG Try.prog (bq .add 3 (.tmp 154) (.const (.int .i64 1)) x154 (.int .i64 1)) w fun t185_1 =>
  N1 [x0, x3, x153, t185_1] w))
  (qG Try.prog (bq .add 3 (.tmp 154) (.const (.int .i64 1)) x154 (.int .i64 1)) w fun t185_2 =>
  N1 [x0, x3, x153, t185_2] w))
  (qG Try.prog (bq .add 3 (.tmp 154) (.const (.int .i64 1)) x154 (.int .i64 1)) w fun t185_3 =>
  N1 [x0, x3, x153, t185_3] w))
  (ledger_work_does_s0 R  w)
theorem ledger_work_does_b4_eq (R : Value → World → Prop) (N1 : List Value → World → Prop) : ∀ e w, lift Try.prog 186 (sub (bodyOf Try.f96) [1, 1, 1, 0, 1, 0, 1, 1, 1, 1, 1, 1, 1, 0, 1, 0, 0]) (seqK (fun e w => N1 [e 0, e 3, e 153, e 154] w) (blockK 2 (blockK 1 (seqK (fun e w => ledger_work_does_s0 R  w) (finK Try.prog Try.f96.results.toList R))))) e w = ledger_work_does_b4 R N1 (e 0) (e 3) (e 153) (e 154) w := fun e w => by kernel_rfl
def ledger_work_does_L5F (R : Value → World → Prop) (N1 : List Value → World → Prop) (xs : List Value) (w : World) : Prop :=
  match xs with
  | [x0, x3, x153, x154] => ledger_work_does_b4 R N1 x0 x3 x153 x154 w
  | _ => False
def ledger_work_does_L5 (R : Value → World → Prop) (x0 x3 x153 x154 : Value) (w : World) : Prop :=
  ∃ m, loopV (ledger_work_does_L5F R) m [x0, x3, x153, x154] w
theorem ledger_work_does_L5_eq (R : Value → World → Prop) : ∀ e w, lift Try.prog 186 (sub (bodyOf Try.f96) [1, 1, 1, 0, 1, 0, 1, 1, 1, 1, 1, 1, 1, 0, 1, 0]) (blockK 2 (blockK 1 (seqK (fun e w => ledger_work_does_s0 R  w) (finK Try.prog Try.f96.results.toList R)))) e w = ledger_work_does_L5 R (e 0) (e 3) (e 153) (e 154) w := loop_seg (F := ledger_work_does_L5F R) (sel := fun e => [e 0, e 3, e 153, e 154]) fun N1 => (ledger_work_does_b4_eq R N1)
def ledger_work_does_s6 (R : Value → World → Prop) (x0 x3 : Value) (w : World) : Prop :=
  nk x0 fun t149 =>
  fa 0 t149 fun t150 =>
  fa 1 t150 fun t151 =>
  ld1 t151 w fun t152 =>
  lenL t152 fun t153 =>
  ledger_work_does_L5 R x0 x3 t153 (.int .i64 0) w
theorem ledger_work_does_s6_eq (R : Value → World → Prop) : ∀ e w, lift Try.prog 186 (sub (bodyOf Try.f96) [1, 1, 1, 0, 1, 0, 1, 1, 1, 1, 1, 1, 1, 0]) (blockK 1 (seqK (fun e w => ledger_work_does_s0 R  w) (finK Try.prog Try.f96.results.toList R))) e w = ledger_work_does_s6 R (e 0) (e 3) w :=
  segs_eq (l := [(sub (bodyOf Try.f96) [1, 1, 1, 0, 1, 0, 1, 1, 1, 1, 1, 1, 1, 0, 0])]) (y := (sub (bodyOf Try.f96) [1, 1, 1, 0, 1, 0, 1, 1, 1, 1, 1, 1, 1, 0, 1])) (Y := (fun e w => ledger_work_does_L5 R (e 0) (e 3) (e 153) (e 154) w)) (ledger_work_does_L5_eq R) (fun e w => by kernel_rfl)
def ledger_work_does_s7 (R : Value → World → Prop) (x0 x3 : Value) (w : World) : Prop :=
  ldn 7 x3 w fun t69 =>
  callG Try.prog 110 #[x0, t69] w fun t70 w =>
  R t70 w
theorem ledger_work_does_s7_eq (R : Value → World → Prop) : ∀ e w, lift Try.prog 186 (sub (bodyOf Try.f96) [1, 1, 1, 0, 1, 0, 1, 1, 1, 1, 1, 1, 1, 1]) (blockK 1 (seqK (fun e w => ledger_work_does_s0 R  w) (finK Try.prog Try.f96.results.toList R))) e w = ledger_work_does_s7 R (e 0) (e 3) w := fun e w => by kernel_rfl
def ledger_work_does_s8 (R : Value → World → Prop) (x0 x3 x146 : Value) (w : World) : Prop :=
  bV x146 (ledger_work_does_s6 R x0 x3 w) (ledger_work_does_s7 R x0 x3 w)
theorem ledger_work_does_s8_eq (R : Value → World → Prop) : ∀ e w, lift Try.prog 186 (sub (bodyOf Try.f96) [1, 1, 1, 0, 1, 0, 1, 1, 1, 1, 1, 1, 1]) (blockK 1 (seqK (fun e w => ledger_work_does_s0 R  w) (finK Try.prog Try.f96.results.toList R))) e w = ledger_work_does_s8 R (e 0) (e 3) (e 146) w := fun e w => (cond_seg (ledger_work_does_s6_eq R) (ledger_work_does_s7_eq R) e w).trans (by kernel_rfl)
def ledger_work_does_s9 (R : Value → World → Prop) (x0 x3 x67 : Value) (w : World) : Prop :=
  qG Try.prog (bq .eql 3 (.tmp 67) (.const (.int .i64 5)) x67 (.int .i64 5)) w fun t147 =>
  ledger_work_does_s8 R x0 x3 t147 w
theorem ledger_work_does_s9_eq (R : Value → World → Prop) : ∀ e w, lift Try.prog 186 (sub (bodyOf Try.f96) [1, 1, 1, 0, 1, 0, 1, 1, 1, 1, 1, 1]) (blockK 1 (seqK (fun e w => ledger_work_does_s0 R  w) (finK Try.prog Try.f96.results.toList R))) e w = ledger_work_does_s9 R (e 0) (e 3) (e 67) w :=
  segs_eq (l := [(sub (bodyOf Try.f96) [1, 1, 1, 0, 1, 0, 1, 1, 1, 1, 1, 1, 0])]) (y := (sub (bodyOf Try.f96) [1, 1, 1, 0, 1, 0, 1, 1, 1, 1, 1, 1, 1])) (Y := (fun e w => ledger_work_does_s8 R (e 0) (e 3) (e 146) w)) (ledger_work_does_s8_eq R) (fun e w => by kernel_rfl)
def ledger_work_does_s10 (R : Value → World → Prop) (x0 x3 x5 x6 x67 x116 : Value) (w : World) : Prop :=
  bV x116 (ledger_work_does_s3 R x0 x3 x5 x6 w) (ledger_work_does_s9 R x0 x3 x67 w)
theorem ledger_work_does_s10_eq (R : Value → World → Prop) : ∀ e w, lift Try.prog 186 (sub (bodyOf Try.f96) [1, 1, 1, 0, 1, 0, 1, 1, 1, 1, 1]) (blockK 1 (seqK (fun e w => ledger_work_does_s0 R  w) (finK Try.prog Try.f96.results.toList R))) e w = ledger_work_does_s10 R (e 0) (e 3) (e 5) (e 6) (e 67) (e 116) w := fun e w => (cond_seg (ledger_work_does_s3_eq R) (ledger_work_does_s9_eq R) e w).trans (by kernel_rfl)
def ledger_work_does_s11 (R : Value → World → Prop) (x0 x3 x5 x6 x67 : Value) (w : World) : Prop :=
  qG Try.prog (bq .eql 3 (.tmp 67) (.const (.int .i64 6)) x67 (.int .i64 6)) w fun t117 =>
  ledger_work_does_s10 R x0 x3 x5 x6 x67 t117 w
theorem ledger_work_does_s11_eq (R : Value → World → Prop) : ∀ e w, lift Try.prog 186 (sub (bodyOf Try.f96) [1, 1, 1, 0, 1, 0, 1, 1, 1, 1]) (blockK 1 (seqK (fun e w => ledger_work_does_s0 R  w) (finK Try.prog Try.f96.results.toList R))) e w = ledger_work_does_s11 R (e 0) (e 3) (e 5) (e 6) (e 67) w :=
  segs_eq (l := [(sub (bodyOf Try.f96) [1, 1, 1, 0, 1, 0, 1, 1, 1, 1, 0])]) (y := (sub (bodyOf Try.f96) [1, 1, 1, 0, 1, 0, 1, 1, 1, 1, 1])) (Y := (fun e w => ledger_work_does_s10 R (e 0) (e 3) (e 5) (e 6) (e 67) (e 116) w)) (ledger_work_does_s10_eq R) (fun e w => by kernel_rfl)
def ledger_work_does_s12 (R : Value → World → Prop) (x0 x3 x5 x6 x67 x82 : Value) (w : World) : Prop :=
  bV x82 (ledger_work_does_s2 R x0 x3 x5 w) (ledger_work_does_s11 R x0 x3 x5 x6 x67 w)
theorem ledger_work_does_s12_eq (R : Value → World → Prop) : ∀ e w, lift Try.prog 186 (sub (bodyOf Try.f96) [1, 1, 1, 0, 1, 0, 1, 1, 1]) (blockK 1 (seqK (fun e w => ledger_work_does_s0 R  w) (finK Try.prog Try.f96.results.toList R))) e w = ledger_work_does_s12 R (e 0) (e 3) (e 5) (e 6) (e 67) (e 82) w := fun e w => (cond_seg (ledger_work_does_s2_eq R) (ledger_work_does_s11_eq R) e w).trans (by kernel_rfl)
def ledger_work_does_s13 (R : Value → World → Prop) (x0 x3 x5 x6 x67 : Value) (w : World) : Prop :=
  qG Try.prog (bq .eql 3 (.tmp 67) (.const (.int .i64 2)) x67 (.int .i64 2)) w fun t83 =>
  ledger_work_does_s12 R x0 x3 x5 x6 x67 t83 w
theorem ledger_work_does_s13_eq (R : Value → World → Prop) : ∀ e w, lift Try.prog 186 (sub (bodyOf Try.f96) [1, 1, 1, 0, 1, 0, 1, 1]) (blockK 1 (seqK (fun e w => ledger_work_does_s0 R  w) (finK Try.prog Try.f96.results.toList R))) e w = ledger_work_does_s13 R (e 0) (e 3) (e 5) (e 6) (e 67) w :=
  segs_eq (l := [(sub (bodyOf Try.f96) [1, 1, 1, 0, 1, 0, 1, 1, 0])]) (y := (sub (bodyOf Try.f96) [1, 1, 1, 0, 1, 0, 1, 1, 1])) (Y := (fun e w => ledger_work_does_s12 R (e 0) (e 3) (e 5) (e 6) (e 67) (e 82) w)) (ledger_work_does_s12_eq R) (fun e w => by kernel_rfl)
def ledger_work_does_s14 (R : Value → World → Prop) (x0 x3 x5 x6 x67 x71 : Value) (w : World) : Prop :=
  bV x71 (ledger_work_does_s1 R x0 x3 x5 w) (ledger_work_does_s13 R x0 x3 x5 x6 x67 w)
theorem ledger_work_does_s14_eq (R : Value → World → Prop) : ∀ e w, lift Try.prog 186 (sub (bodyOf Try.f96) [1, 1, 1, 0, 1, 0, 1]) (blockK 1 (seqK (fun e w => ledger_work_does_s0 R  w) (finK Try.prog Try.f96.results.toList R))) e w = ledger_work_does_s14 R (e 0) (e 3) (e 5) (e 6) (e 67) (e 71) w := fun e w => (cond_seg (ledger_work_does_s1_eq R) (ledger_work_does_s13_eq R) e w).trans (by kernel_rfl)
def ledger_work_does_s15 (R : Value → World → Prop) (x0 x3 x5 x6 x67 : Value) (w : World) : Prop :=
  qG Try.prog (bq .eql 3 (.tmp 67) (.const (.int .i64 1)) x67 (.int .i64 1)) w fun t72 =>
  bV t72
  (ledger_work_does_s14 R x0 x3 x5 x6 x67 (.bool true) w)
  (qG Try.prog (bq .eql 3 (.tmp 67) (.const (.int .i64 7)) x67 (.int .i64 7)) w fun t73 =>
  ledger_work_does_s14 R x0 x3 x5 x6 x67 t73 w)
theorem ledger_work_does_s15_eq (R : Value → World → Prop) : ∀ e w, lift Try.prog 186 (sub (bodyOf Try.f96) [1, 1, 1, 0, 1, 0]) (blockK 1 (seqK (fun e w => ledger_work_does_s0 R  w) (finK Try.prog Try.f96.results.toList R))) e w = ledger_work_does_s15 R (e 0) (e 3) (e 5) (e 6) (e 67) w :=
  segs_eq (l := [(sub (bodyOf Try.f96) [1, 1, 1, 0, 1, 0, 0])]) (y := (sub (bodyOf Try.f96) [1, 1, 1, 0, 1, 0, 1])) (Y := (fun e w => ledger_work_does_s14 R (e 0) (e 3) (e 5) (e 6) (e 67) (e 71) w)) (ledger_work_does_s14_eq R) (fun e w => by kernel_rfl)
def ledger_work_does_s16 (R : Value → World → Prop) (x0 x3 x5 x6 : Value) (w : World) : Prop :=
  fa 0 x3 fun t66 =>
  ld1 t66 w fun t67 =>
  ledger_work_does_s15 R x0 x3 x5 x6 t67 w
theorem ledger_work_does_s16_eq (R : Value → World → Prop) : ∀ e w, lift Try.prog 186 (sub (bodyOf Try.f96) [1, 1, 1, 0]) (seqK (fun e w => ledger_work_does_s0 R  w) (finK Try.prog Try.f96.results.toList R)) e w = ledger_work_does_s16 R (e 0) (e 3) (e 5) (e 6) w :=
  segs_eq (l := [(sub (bodyOf Try.f96) [1, 1, 1, 0, 0])]) (y := (sub (bodyOf Try.f96) [1, 1, 1, 0, 1])) (Y := (fun e w => ledger_work_does_s15 R (e 0) (e 3) (e 5) (e 6) (e 67) w)) (ledger_work_does_s15_eq R) (fun e w => by kernel_rfl)
def ledger_work_does_s17 (R : Value → World → Prop) (x0 x3 x5 x6 : Value) (w : World) : Prop :=
  nk x0 fun t29 =>
  fa 0 t29 fun t30 =>
  ldn 4 t30 (World.drew w) fun t31 =>
  fa 1 x3 fun t32 =>
  ld1 t32 (World.drew w) fun t33 =>
  fa 2 x3 fun t34 =>
  ld1 t34 (World.drew w) fun t35 =>
  fa 4 x3 fun t37 =>
  ld1 t37 (World.drew w) fun t38 =>
  callG Try.prog 43 #[t31, t33, t35] (World.drew w) fun t36 w =>
  ld1 t37 w (fun u => u = t38) ∧
  qG Try.prog (bq .lss 3 (.tmp 36) (.tmp 38) t36 t38) w fun t39 =>
  bV t39
  (R (.int .i64 70) w)
  (ledger_work_does_s16 R x0 x3 x5 x6 w)
theorem ledger_work_does_s17_eq (R : Value → World → Prop) : ∀ e w, lift Try.prog 186 (sub (bodyOf Try.f96) [1, 1, 0, 1, 0, 1, 0]) (blockK 0 (seqK (fun e w => ledger_work_does_s16 R (e 0) (e 3) (e 5) (e 6) w) (finK Try.prog Try.f96.results.toList R))) e w = ledger_work_does_s17 R (e 0) (e 3) (e 5) (e 6) w := fun e w => by kernel_rfl
def ledger_work_does_s18 (R : Value → World → Prop) (x0 x3 x5 x6 x40 : Value) (w : World) : Prop :=
  bV x40
  (ldn 2 x5 w fun t45 =>
  fa 4 x3 fun t46 =>
  ld1 t46 w fun t47 =>
  callG Try.prog 107 #[x0, t45, t47] w fun t48 w =>
  qG Try.prog (Instr.extract t48 0) w fun t49 =>
  qG Try.prog (Instr.extract t48 1) w fun t50 =>
  qG Try.prog (bq .neq 26 (.tmp 51) (.const (.int .i64 0)) t50 (.int .i64 0)) w fun t52 =>
  bV t52
  (R t50 w)
  (nk x0 fun t56 =>
  fa 0 t56 fun t57 =>
  ldn 4 t57 (World.drew w) fun t58 =>
  fa 1 x3 fun t59 =>
  ld1 t59 (World.drew w) fun t60 =>
  fa 2 x3 fun t61 =>
  ld1 t61 (World.drew w) fun t62 =>
  callG Try.prog 44 #[t58, t60, t62] (World.drew w) fun t63 w =>
  fld false 3 1 t63 fun t64 =>
  qG Try.prog (bq .lss 3 (.tmp 54) (.tmp 64) t49 t64) w fun t65 =>
  bV t65
  (R (.int .i64 70) w)
  (ledger_work_does_s16 R x0 x3 x5 x6 w)))
  (ledger_work_does_s16 R x0 x3 x5 x6 w)
theorem ledger_work_does_s18_eq (R : Value → World → Prop) : ∀ e w, lift Try.prog 186 (sub (bodyOf Try.f96) [1, 1, 0, 1, 0, 1, 1, 1]) (blockK 0 (seqK (fun e w => ledger_work_does_s16 R (e 0) (e 3) (e 5) (e 6) w) (finK Try.prog Try.f96.results.toList R))) e w = ledger_work_does_s18 R (e 0) (e 3) (e 5) (e 6) (e 40) w := fun e w => by kernel_rfl
def ledger_work_does_s19 (R : Value → World → Prop) (x0 x3 x5 x6 x24 : Value) (w : World) : Prop :=
  qG Try.prog (bq .eql 3 (.tmp 24) (.const (.int .i64 1)) x24 (.int .i64 1)) w fun t41 =>
  bV t41
  (ledger_work_does_s18 R x0 x3 x5 x6 (.bool true) w)
  (qG Try.prog (bq .eql 3 (.tmp 24) (.const (.int .i64 7)) x24 (.int .i64 7)) w fun t42 =>
  ledger_work_does_s18 R x0 x3 x5 x6 t42 w)
theorem ledger_work_does_s19_eq (R : Value → World → Prop) : ∀ e w, lift Try.prog 186 (sub (bodyOf Try.f96) [1, 1, 0, 1, 0, 1, 1]) (blockK 0 (seqK (fun e w => ledger_work_does_s16 R (e 0) (e 3) (e 5) (e 6) w) (finK Try.prog Try.f96.results.toList R))) e w = ledger_work_does_s19 R (e 0) (e 3) (e 5) (e 6) (e 24) w :=
  segs_eq (l := [(sub (bodyOf Try.f96) [1, 1, 0, 1, 0, 1, 1, 0])]) (y := (sub (bodyOf Try.f96) [1, 1, 0, 1, 0, 1, 1, 1])) (Y := (fun e w => ledger_work_does_s18 R (e 0) (e 3) (e 5) (e 6) (e 40) w)) (ledger_work_does_s18_eq R) (fun e w => by kernel_rfl)
def ledger_work_does_s20 (R : Value → World → Prop) (x0 x3 x5 x6 x24 x25 : Value) (w : World) : Prop :=
  bV x25 (ledger_work_does_s17 R x0 x3 x5 x6 w) (ledger_work_does_s19 R x0 x3 x5 x6 x24 w)
theorem ledger_work_does_s20_eq (R : Value → World → Prop) : ∀ e w, lift Try.prog 186 (sub (bodyOf Try.f96) [1, 1, 0, 1, 0, 1]) (blockK 0 (seqK (fun e w => ledger_work_does_s16 R (e 0) (e 3) (e 5) (e 6) w) (finK Try.prog Try.f96.results.toList R))) e w = ledger_work_does_s20 R (e 0) (e 3) (e 5) (e 6) (e 24) (e 25) w := fun e w => (cond_seg (ledger_work_does_s17_eq R) (ledger_work_does_s19_eq R) e w).trans (by kernel_rfl)
def ledger_work_does_s21 (R : Value → World → Prop) (x0 x3 x5 x6 x24 : Value) (w : World) : Prop :=
  qG Try.prog (bq .eql 3 (.tmp 24) (.const (.int .i64 2)) x24 (.int .i64 2)) w fun t26 =>
  bV t26
  (ledger_work_does_s20 R x0 x3 x5 x6 x24 (.bool true) w)
  (qG Try.prog (bq .eql 3 (.tmp 24) (.const (.int .i64 6)) x24 (.int .i64 6)) w fun t27 =>
  ledger_work_does_s20 R x0 x3 x5 x6 x24 t27 w)
theorem ledger_work_does_s21_eq (R : Value → World → Prop) : ∀ e w, lift Try.prog 186 (sub (bodyOf Try.f96) [1, 1, 0, 1, 0]) (blockK 0 (seqK (fun e w => ledger_work_does_s16 R (e 0) (e 3) (e 5) (e 6) w) (finK Try.prog Try.f96.results.toList R))) e w = ledger_work_does_s21 R (e 0) (e 3) (e 5) (e 6) (e 24) w :=
  segs_eq (l := [(sub (bodyOf Try.f96) [1, 1, 0, 1, 0, 0])]) (y := (sub (bodyOf Try.f96) [1, 1, 0, 1, 0, 1])) (Y := (fun e w => ledger_work_does_s20 R (e 0) (e 3) (e 5) (e 6) (e 24) (e 25) w)) (ledger_work_does_s20_eq R) (fun e w => by kernel_rfl)
def ledger_work_does_s22 (R : Value → World → Prop) (x0 x3 x5 x6 : Value) (w : World) : Prop :=
  fa 0 x3 fun t23 =>
  ld1 t23 w fun t24 =>
  ledger_work_does_s21 R x0 x3 x5 x6 t24 w
theorem ledger_work_does_s22_eq (R : Value → World → Prop) : ∀ e w, lift Try.prog 186 (sub (bodyOf Try.f96) [1, 1, 0]) (seqK (fun e w => ledger_work_does_s16 R (e 0) (e 3) (e 5) (e 6) w) (finK Try.prog Try.f96.results.toList R)) e w = ledger_work_does_s22 R (e 0) (e 3) (e 5) (e 6) w :=
  segs_eq (l := [(sub (bodyOf Try.f96) [1, 1, 0, 0])]) (y := (sub (bodyOf Try.f96) [1, 1, 0, 1])) (Y := (fun e w => ledger_work_does_s21 R (e 0) (e 3) (e 5) (e 6) (e 24) w)) (ledger_work_does_s21_eq R) (fun e w => by kernel_rfl)
def ledger_work_does_s23 (R : Value → World → Prop) (x0 x1 : Value) (w : World) : Prop :=
  newG (Value.cells x1) 23 w fun t3 w =>
  fa 1 t3 fun t13 =>
  ld1 t13 (World.drew w) fun t14 =>
  fa 2 t3 fun t15 =>
  ld1 t15 (World.drew w) fun t16 =>
  bld [(0, 1), (1, 1)] (zc Try.prog 119) #[(0, t14), (1, t16)] fun t17 =>
  fa 1 t3 fun t18 =>
  ld1 t18 (World.drew w) fun t19 =>
  fa 3 t3 fun t20 =>
  ld1 t20 (World.drew w) fun t21 =>
  bld [(0, 1), (1, 1)] (zc Try.prog 119) #[(0, t19), (1, t21)] fun t22 =>
  (newG (zc Try.prog 119) 119 (World.drew w) fun t5 w =>
  ld1 t20 w (fun u => u = t21) ∧
  ld1 t18 w (fun u => u = t19) ∧
  ld1 t15 w (fun u => u = t16) ∧
  ld1 t13 w (fun u => u = t14) ∧
  newG (zc Try.prog 119) 119 w fun t6 w =>
  ld1 t20 w (fun u => u = t21) ∧
  ld1 t18 w (fun u => u = t19) ∧
  ld1 t15 w (fun u => u = t16) ∧
  ld1 t13 w (fun u => u = t14) ∧
  stn 2 t5 t17 w fun w =>
  ld1 t20 w (fun u => u = t21) ∧
  ld1 t18 w (fun u => u = t19) ∧
  stn 2 t6 t22 w fun w =>
  ledger_work_does_s22 R x0 t3 t5 t6 w) ∧
  (newG (zc Try.prog 119) 119 (World.drew w) fun t6_1 w =>
  ld1 t20 w (fun u => u = t21) ∧
  ld1 t18 w (fun u => u = t19) ∧
  ld1 t15 w (fun u => u = t16) ∧
  ld1 t13 w (fun u => u = t14) ∧
  newG (zc Try.prog 119) 119 w fun t5_1 w =>
  ld1 t20 w (fun u => u = t21) ∧
  ld1 t18 w (fun u => u = t19) ∧
  ld1 t15 w (fun u => u = t16) ∧
  ld1 t13 w (fun u => u = t14) ∧
  stn 2 t5_1 t17 w fun w =>
  ld1 t20 w (fun u => u = t21) ∧
  ld1 t18 w (fun u => u = t19) ∧
  stn 2 t6_1 t22 w fun w =>
  ledger_work_does_s22 R x0 t3 t5_1 t6_1 w)
theorem ledger_work_does_s23_eq (R : Value → World → Prop) : ∀ e w, lift Try.prog 186 (bodyOf Try.f96) (finK Try.prog Try.f96.results.toList R) e w = ledger_work_does_s23 R (e 0) (e 1) w :=
  segs_eq (l := [(sub (bodyOf Try.f96) [0]), (sub (bodyOf Try.f96) [1, 0])]) (y := (sub (bodyOf Try.f96) [1, 1])) (Y := (fun e w => ledger_work_does_s22 R (e 0) (e 3) (e 5) (e 6) w)) (seq_seg (x := (sub (bodyOf Try.f96) [1, 1, 0])) (y := (sub (bodyOf Try.f96) [1, 1, 1])) (seq_seg (x := (sub (bodyOf Try.f96) [1, 1, 1, 0])) (y := (sub (bodyOf Try.f96) [1, 1, 1, 1])) (ledger_work_does_s0_eq R) (ledger_work_does_s16_eq R)) (ledger_work_does_s22_eq R)) (fun e w => by kernel_rfl)
def ledger_work_does (R : Value → World → Prop) (x0 x1 : Value) (w : World) : Prop := ledger_work_does_s23 R x0 x1 w
theorem ledger_work_does_call {R : Value → World → Prop} {x0 x1 : Value} {w : World} (h : ledger_work_does R x0 x1 w) : callG Try.prog 96 #[x0, x1] w R :=
  calls_lift_eq Try.mixed Try.func96 (args := [x0, x1]) rfl rfl rfl rfl ((ledger_work_does_s23_eq R) (envOf [x0, x1]) w) (by kernel_rfl) h
/-! quayside/ledger.step -/
def ledger_step_s0 (R : Value → World → Prop) (x4 x7 : Value) (w : World) : Prop :=
  nk x7 fun t73 =>
  fa 0 t73 fun t74 =>
  fa 3 t74 fun t75 =>
  ld1 t75 w fun t76 =>
  qG Try.prog (bq .add 3 (.tmp 76) (.const (.int .i64 1)) t76 (.int .i64 1)) w fun t77 =>
  nk x7 fun t78 =>
  fa 0 t78 fun t79 =>
  fa 3 t79 fun t80 =>
  st1 t80 t77 w fun w =>
  nk x7 fun t82 =>
  fa 0 t82 fun t83 =>
  ldn 4 t83 w fun t84 =>
  stn 4 x4 t84 w fun w =>
  qG Try.prog (do loadVar 60 (← asAddr x4)) w fun r4 =>
  R (.tuple #[r4, (.int .i64 0)]) w
theorem ledger_step_s0_eq (R : Value → World → Prop) : ∀ e w, lift Try.prog 85 (sub (bodyOf Try.f67) [1, 1, 1, 1, 1, 1]) (finK Try.prog Try.f67.results.toList R) e w = ledger_step_s0 R (e 4) (e 7) w := fun e w => by kernel_rfl
def ledger_step_s1 (R : Value → World → Prop) (x0 x1 : Value) (w : World) : Prop :=
  newG (Value.cells x0) 60 w fun t2 w =>
  newG (Value.cells x1) 23 w fun t3 w =>
  newG (zc Try.prog 60) 60 w fun t4 w =>
  ldn 7 t3 w fun t9 =>
  callG Try.prog 17 #[t9] w fun t10 w =>
  qG Try.prog (bq .neq 26 (.tmp 11) (.const (.int .i64 0)) t10 (.int .i64 0)) w fun t12 =>
  bV t12
  (ldn 4 t2 w fun t13 =>
  stn 4 t4 t13 w fun w =>
  qG Try.prog (do loadVar 60 (← asAddr t4)) w fun r4 =>
  R (.tuple #[r4, t10]) w)
  (ldn 4 t2 w fun t15 =>
  bld [(0, 4)] (zc Try.prog 126) #[(0, t15)] fun t16 =>
  newG (Value.cells t16) 126 w fun t17 w =>
  fa 0 t2 fun t21 =>
  ld1 t21 (World.drew w) fun t22 =>
  fa 1 t2 fun t24 =>
  ld1 t24 (World.drew w) fun t25 =>
  fa 2 t2 fun t27 =>
  ld1 t27 (World.drew w) fun t28 =>
  callG Try.prog 93 #[t22] (World.drew w) fun t23 w =>
  ld1 t27 w (fun u => u = t28) ∧
  ld1 t24 w (fun u => u = t25) ∧
  callG Try.prog 94 #[t25] w fun t26 w =>
  ld1 t27 w (fun u => u = t28) ∧
  callG Try.prog 95 #[t28] w fun t29 w =>
  nk t17 fun t30 =>
  fa 0 t30 fun t31 =>
  fa 0 t31 fun t32 =>
  st1 t32 t23 w fun w =>
  nk t17 fun t33 =>
  fa 0 t33 fun t34 =>
  fa 1 t34 fun t35 =>
  st1 t35 t26 w fun w =>
  nk t17 fun t36 =>
  fa 0 t36 fun t37 =>
  fa 2 t37 fun t38 =>
  st1 t38 t29 w fun w =>
  ldn 7 t3 w fun t40 =>
  callG Try.prog 96 #[t17, t40] w fun t41 w =>
  qG Try.prog (bq .neq 26 (.tmp 42) (.const (.int .i64 0)) t41 (.int .i64 0)) w fun t43 =>
  bV t43
  (ldn 4 t2 w fun t44 =>
  stn 4 t4 t44 w fun w =>
  qG Try.prog (do loadVar 60 (← asAddr t4)) w fun r4_1 =>
  R (.tuple #[r4_1, t41]) w)
  (nk t17 fun t47 =>
  fa 0 t47 fun t48 =>
  fa 0 t48 fun t49 =>
  ld1 t49 (World.drew w) fun t50 =>
  lenL t50 fun t51 =>
  nk t17 fun t53 =>
  fa 0 t53 fun t54 =>
  fa 1 t54 fun t55 =>
  ld1 t55 (World.drew w) fun t56 =>
  lenL t56 fun t57 =>
  nk t17 fun t59 =>
  fa 0 t59 fun t60 =>
  fa 2 t60 fun t61 =>
  ld1 t61 (World.drew w) fun t62 =>
  lenL t62 fun t63 =>
  qG Try.prog (Builtin.max_ #[3, 3, 3] 3 #[t51, t57, t63]) (World.drew w) fun t64 =>
  qG Try.prog (bq .gtr 3 (.tmp 64) (.const (.int .i64 4096)) t64 (.int .i64 4096)) (World.drew w) fun t65 =>
  bV t65
  (ldn 4 t2 (World.drew w) fun t71 =>
  stn 4 t4 t71 (World.drew w) fun w =>
  qG Try.prog (do loadVar 60 (← asAddr t4)) w fun r4_2 =>
  R (.tuple #[r4_2, (.int .i64 2)]) w)
  (fa 3 t2 fun t67 =>
  ld1 t67 (World.drew w) fun t68 =>
  qG Try.prog (bq .geq 3 (.tmp 68) (.const (.int .i64 4611686018427387904)) t68 (.int .i64 4611686018427387904)) (World.drew w) fun t69 =>
  bV t69
  (ldn 4 t2 (World.drew w) fun t71_1 =>
  stn 4 t4 t71_1 (World.drew w) fun w =>
  qG Try.prog (do loadVar 60 (← asAddr t4)) w fun r4_3 =>
  R (.tuple #[r4_3, (.int .i64 2)]) w)
  (ledger_step_s0 R t4 t17 (World.drew w)))))
theorem ledger_step_s1_eq (R : Value → World → Prop) : ∀ e w, lift Try.prog 85 (bodyOf Try.f67) (finK Try.prog Try.f67.results.toList R) e w = ledger_step_s1 R (e 0) (e 1) w :=
  segs_eq (l := [(sub (bodyOf Try.f67) [0]), (sub (bodyOf Try.f67) [1, 0]), (sub (bodyOf Try.f67) [1, 1, 0]), (sub (bodyOf Try.f67) [1, 1, 1, 0]), (sub (bodyOf Try.f67) [1, 1, 1, 1, 0]), (sub (bodyOf Try.f67) [1, 1, 1, 1, 1, 0])]) (y := (sub (bodyOf Try.f67) [1, 1, 1, 1, 1, 1])) (Y := (fun e w => ledger_step_s0 R (e 4) (e 7) w)) (ledger_step_s0_eq R) (fun e w => by kernel_rfl)
def ledger_step (R : Value → World → Prop) (x0 x1 : Value) (w : World) : Prop := ledger_step_s1 R x0 x1 w
theorem ledger_step_call {R : Value → World → Prop} {x0 x1 : Value} {w : World} (h : ledger_step R x0 x1 w) : callG Try.prog 67 #[x0, x1] w R :=
  calls_lift_eq Try.mixed Try.func67 (args := [x0, x1]) rfl rfl rfl rfl ((ledger_step_s1_eq R) (envOf [x0, x1]) w) (by kernel_rfl) h
/-! quayside/ledger.Apply -/
def ledger_Apply_s0 (R : Value → World → Prop) (x0 x1 : Value) (w : World) : Prop :=
  newG (Value.cells x0) 60 w fun t2 w =>
  newG (Value.cells x1) 23 w fun t3 w =>
  newG (zc Try.prog 60) 60 w fun t4 w =>
  ldn 4 t2 w fun t9 =>
  callG Try.prog 66 #[t9] w fun t10 w =>
  qG Try.prog (bq .neq 26 (.tmp 11) (.const (.int .i64 0)) t10 (.int .i64 0)) w fun t12 =>
  bV t12
  (bld [(0, 1), (1, 1), (2, 1), (3, 1)] (zc Try.prog 60) #[] fun t13 =>
  stn 4 t4 t13 w fun w =>
  qG Try.prog (do loadVar 60 (← asAddr t4)) w fun r4 =>
  R (.tuple #[r4, t10]) w)
  (ldn 4 t2 w fun t16 =>
  ldn 7 t3 w fun t17 =>
  callG Try.prog 67 #[t16, t17] w fun t18 w =>
  qG Try.prog (Instr.extract t18 0) w fun t19 =>
  qG Try.prog (Instr.extract t18 1) w fun t20 =>
  newG (zc Try.prog 60) 60 w fun t7 w =>
  stn 4 t7 t19 w fun w =>
  qG Try.prog (bq .neq 26 (.tmp 21) (.const (.int .i64 0)) t20 (.int .i64 0)) w fun t22 =>
  bV t22
  (bld [(0, 1), (1, 1), (2, 1), (3, 1)] (zc Try.prog 60) #[] fun t23 =>
  stn 4 t4 t23 w fun w =>
  qG Try.prog (do loadVar 60 (← asAddr t4)) w fun r4_1 =>
  R (.tuple #[r4_1, t20]) w)
  (ldn 4 t7 w fun t25 =>
  stn 4 t4 t25 w fun w =>
  qG Try.prog (do loadVar 60 (← asAddr t4)) w fun r4_2 =>
  R (.tuple #[r4_2, (.int .i64 0)]) w))
theorem ledger_Apply_s0_eq (R : Value → World → Prop) : ∀ e w, lift Try.prog 26 (bodyOf Try.f39) (finK Try.prog Try.f39.results.toList R) e w = ledger_Apply_s0 R (e 0) (e 1) w := fun e w => by kernel_rfl
def ledger_Apply (R : Value → World → Prop) (x0 x1 : Value) (w : World) : Prop := ledger_Apply_s0 R x0 x1 w
theorem ledger_Apply_call {R : Value → World → Prop} {x0 x1 : Value} {w : World} (h : ledger_Apply R x0 x1 w) : callG Try.prog 39 #[x0, x1] w R :=
  calls_lift_eq Try.mixed Try.func39 (args := [x0, x1]) rfl rfl rfl rfl ((ledger_Apply_s0_eq R) (envOf [x0, x1]) w) (by kernel_rfl) h
/-! quayside/ledger.Replay -/
def ledger_Replay_s0 (R : Value → World → Prop) (x1 x2 x4 : Value) (w : World) : Prop :=
  ldn 4 x2 w fun t38 =>
  lenL x1 fun t40 =>
  stn 4 x4 t38 w fun w =>
  qG Try.prog (do loadVar 60 (← asAddr x4)) w fun r4 =>
  R (.tuple #[r4, t40, (.int .i64 0)]) w
theorem ledger_Replay_s0_eq (R : Value → World → Prop) : ∀ e w, lift Try.prog 41 (sub (bodyOf Try.f36) [1, 1, 1]) (finK Try.prog Try.f36.results.toList R) e w = ledger_Replay_s0 R (e 1) (e 2) (e 4) w := fun e w => by kernel_rfl
def ledger_Replay_b1 (R : Value → World → Prop) (N1 : List Value → World → Prop) (x1 x2 x4 x18 x19 x20 : Value) (w : World) : Prop :=
  qG Try.prog (bq .lss 3 (.tmp 20) (.tmp 19) x20 x19) w fun t21 =>
  bV t21
  (ia 7 x18 x20 fun t23 =>
  ldn 7 t23 w fun t24 =>
  newG (zc Try.prog 23) 23 w fun t9 w =>
  stn 7 t9 t24 w fun w =>
  ldn 4 x2 w fun t26 =>
  ldn 7 t9 w fun t27 =>
  callG Try.prog 67 #[t26, t27] w fun t28 w =>
  qG Try.prog (Instr.extract t28 0) w fun t29 =>
  qG Try.prog (Instr.extract t28 1) w fun t30 =>
  newG (zc Try.prog 60) 60 w fun t10 w =>
  stn 4 t10 t29 w fun w =>
  qG Try.prog (bq .neq 26 (.tmp 31) (.const (.int .i64 0)) t30 (.int .i64 0)) w fun t32 =>
  bV t32
  (ldn 4 x2 w fun t33 =>
  stn 4 x4 t33 w fun w =>
  qG Try.prog (do loadVar 60 (← asAddr x4)) w fun r4 =>
  R (.tuple #[r4, x20, t30]) w)
  (ldn 4 t10 w fun t36 =>
  stn 4 x2 t36 w fun w =>
  qG Try.prog (bq .add 3 (.tmp 20) (.const (.int .i64 1)) x20 (.int .i64 1)) w fun t37 =>
  N1 [x1, x2, x4, x18, x19, t37] w))
  (ledger_Replay_s0 R x1 x2 x4 w)
theorem ledger_Replay_b1_eq (R : Value → World → Prop) (N1 : List Value → World → Prop) : ∀ e w, lift Try.prog 41 (sub (bodyOf Try.f36) [1, 1, 0, 1, 0, 0]) (seqK (fun e w => N1 [e 1, e 2, e 4, e 18, e 19, e 20] w) (blockK 0 (seqK (fun e w => ledger_Replay_s0 R (e 1) (e 2) (e 4) w) (finK Try.prog Try.f36.results.toList R)))) e w = ledger_Replay_b1 R N1 (e 1) (e 2) (e 4) (e 18) (e 19) (e 20) w := fun e w => by kernel_rfl
def ledger_Replay_L2F (R : Value → World → Prop) (N1 : List Value → World → Prop) (xs : List Value) (w : World) : Prop :=
  match xs with
  | [x1, x2, x4, x18, x19, x20] => ledger_Replay_b1 R N1 x1 x2 x4 x18 x19 x20 w
  | _ => False
def ledger_Replay_L2 (R : Value → World → Prop) (x1 x2 x4 x18 x19 x20 : Value) (w : World) : Prop :=
  ∃ m, loopV (ledger_Replay_L2F R) m [x1, x2, x4, x18, x19, x20] w
theorem ledger_Replay_L2_eq (R : Value → World → Prop) : ∀ e w, lift Try.prog 41 (sub (bodyOf Try.f36) [1, 1, 0, 1, 0]) (blockK 0 (seqK (fun e w => ledger_Replay_s0 R (e 1) (e 2) (e 4) w) (finK Try.prog Try.f36.results.toList R))) e w = ledger_Replay_L2 R (e 1) (e 2) (e 4) (e 18) (e 19) (e 20) w := loop_seg (F := ledger_Replay_L2F R) (sel := fun e => [e 1, e 2, e 4, e 18, e 19, e 20]) fun N1 => (ledger_Replay_b1_eq R N1)
def ledger_Replay_s3 (R : Value → World → Prop) (x1 x2 x4 : Value) (w : World) : Prop :=
  lenL x1 fun t19 =>
  ledger_Replay_L2 R x1 x2 x4 x1 t19 (.int .i64 0) w
theorem ledger_Replay_s3_eq (R : Value → World → Prop) : ∀ e w, lift Try.prog 41 (sub (bodyOf Try.f36) [1, 1, 0]) (seqK (fun e w => ledger_Replay_s0 R (e 1) (e 2) (e 4) w) (finK Try.prog Try.f36.results.toList R)) e w = ledger_Replay_s3 R (e 1) (e 2) (e 4) w :=
  segs_eq (l := [(sub (bodyOf Try.f36) [1, 1, 0, 0])]) (y := (sub (bodyOf Try.f36) [1, 1, 0, 1])) (Y := (fun e w => ledger_Replay_L2 R (e 1) (e 2) (e 4) (e 18) (e 19) (e 20) w)) (ledger_Replay_L2_eq R) (fun e w => by kernel_rfl)
def ledger_Replay_s4 (R : Value → World → Prop) (x0 x1 : Value) (w : World) : Prop :=
  newG (Value.cells x0) 60 w fun t2 w =>
  newG (zc Try.prog 60) 60 w fun t4 w =>
  ldn 4 t2 w fun t12 =>
  callG Try.prog 66 #[t12] w fun t13 w =>
  qG Try.prog (bq .neq 26 (.tmp 14) (.const (.int .i64 0)) t13 (.int .i64 0)) w fun t15 =>
  bV t15
  (bld [(0, 1), (1, 1), (2, 1), (3, 1)] (zc Try.prog 60) #[] fun t16 =>
  stn 4 t4 t16 w fun w =>
  qG Try.prog (do loadVar 60 (← asAddr t4)) w fun r4 =>
  R (.tuple #[r4, (.int .i64 0), t13]) w)
  (ledger_Replay_s3 R x1 t2 t4 w)
theorem ledger_Replay_s4_eq (R : Value → World → Prop) : ∀ e w, lift Try.prog 41 (bodyOf Try.f36) (finK Try.prog Try.f36.results.toList R) e w = ledger_Replay_s4 R (e 0) (e 1) w :=
  segs_eq (l := [(sub (bodyOf Try.f36) [0]), (sub (bodyOf Try.f36) [1, 0])]) (y := (sub (bodyOf Try.f36) [1, 1])) (Y := (fun e w => ledger_Replay_s3 R (e 1) (e 2) (e 4) w)) (seq_seg (x := (sub (bodyOf Try.f36) [1, 1, 0])) (y := (sub (bodyOf Try.f36) [1, 1, 1])) (ledger_Replay_s0_eq R) (ledger_Replay_s3_eq R)) (fun e w => by kernel_rfl)
def ledger_Replay (R : Value → World → Prop) (x0 x1 : Value) (w : World) : Prop := ledger_Replay_s4 R x0 x1 w
theorem ledger_Replay_call {R : Value → World → Prop} {x0 x1 : Value} {w : World} (h : ledger_Replay R x0 x1 w) : callG Try.prog 36 #[x0, x1] w R :=
  calls_lift_eq Try.mixed Try.func36 (args := [x0, x1]) rfl rfl rfl rfl ((ledger_Replay_s4_eq R) (envOf [x0, x1]) w) (by kernel_rfl) h
end Go.Proofs

set_option linter.unusedVariables false
set_option linter.unusedSimpArgs false
namespace Go.Proofs
open Go Go.Q
set_option maxRecDepth 100000
/-! quayside/quaysideref07.ahead -/
/-! quayside/quaysideref07.index -/
/-! quayside/quaysideref07.sums -/
/-! quayside/quaysideref07.holds -/
/-! quayside/quaysideref07.moves -/
/-! quayside/quaysideref07.May -/
/-! quayside/quaysideref07.Find -/
/-! quayside/quaysideref07.Free -/
/-! quayside/quaysideref07.put -/
/-! quayside/quaysideref07.state -/
/-! quayside/quaysideref07.full -/
/-! quayside/quaysideref07.more -/
end Go.Proofs

/- Layer 7: the document's ledger: order, finding, and what is free. -/
set_option linter.unusedVariables false
set_option linter.unusedSimpArgs false
namespace Go.Proofs
open Go Go.Q
end Go.Proofs

/- Plain: how the document puts a stock in its place. -/
set_option linter.unusedVariables false
set_option linter.unusedSimpArgs false
namespace Go.Q
end Go.Q

/- Layer 7: the document's ledger with a stock in its place. -/
set_option linter.unusedVariables false
set_option linter.unusedSimpArgs false
namespace Go.Proofs
open Go Go.Q
theorem zcLed : zc Try.prog 60 = [.slice none 0 0, .slice none 0 0, .slice none 0 0, .int .i64 0].toArray := by kernel_rfl
theorem aggLed : aggO Try.prog 60 = some true := by kernel_rfl
theorem szLed : szO Try.prog 60 = some 4 := by kernel_rfl
theorem sC_one (s : SV) : (sC s).all Q.one = true := rfl
theorem stAll {b k : Nat} {old c : Array Value} {T : TypeId} {w : World} (h : w.heap[b]? = some (.cells old T)) (ho : old.size = k) (hc : c.size = k) (hone : c.all one = true) {K : World → Prop} :
    stn k (.pointer (some ⟨b, 0, none⟩)) (.agg c) w K = K (setBlk w b (.cells c T)) := by
  rw [stn_p, wrN_mk, h]
  have hsp : splice old 0 c = c := splice_all (by rw [ho, hc])
  apply propext
  constructor
  · rintro ⟨_, _, hk⟩
    rw [hsp] at hk
    exact hk
  · intro hk
    refine ⟨hc, ⟨by omega, by rw [okFr0]; trivial, hone⟩, ?_⟩
    rw [hsp]; exact hk
/-- a ledger, with the blocks in which its lists lie -/
structure LedS (w : World) (v : Value) (l : LV) (S : List Nat) : Prop where
  ex : ∃ a b c SA SB SC, v = .agg #[a, b, c, .int .i64 l.ops] ∧ ArgAt w a 4 (l.st.map sC) SA ∧ ArgAt w b 6 (l.ho.map hC) SB ∧ ArgAt w c 6 (l.mo.map hC) SC ∧ S = SA ++ (SB ++ SC)
  lt : ∀ x ∈ S, x < w.heap.size
theorem LedS.at {w : World} {v : Value} {l : LV} {S : List Nat} (h : LedS w v l S) : LedAt w v l := by
  obtain ⟨a, b, c, SA, SB, SC, e, h1, h2, h3, _⟩ := h.ex
  exact ⟨a, b, c, e, ⟨_, h1⟩, ⟨_, h2⟩, ⟨_, h3⟩⟩
theorem LedS.keep {w w' : World} {v : Value} {l : LV} {S S' : List Nat} (h : LedS w v l S) (hk : Kp S' w w') (hd : ∀ x ∈ S, x ∉ S') : LedS w' v l S := by
  have hsz := hk.size
  refine ⟨?_, fun x hx => by have := h.lt x hx; omega⟩
  obtain ⟨a, b, c, SA, SB, SC, e, h1, h2, h3, rfl⟩ := h.ex
  exact ⟨a, b, c, SA, SB, SC, e, h1.keep hk (fun x hx => hd x (by simp [hx])), h2.keep hk (fun x hx => hd x (by simp [hx])), h3.keep hk (fun x hx => hd x (by simp [hx])), rfl⟩
end Go.Proofs

set_option linter.unusedVariables false
set_option linter.unusedSimpArgs false
namespace Go.Proofs
open Go Go.Q
set_option maxRecDepth 100000
/-! quayside/quaysideref07.moved -/
/-! quayside/quaysideref07.held -/
/-! quayside/quaysideref07.over -/
/-! quayside/quaysideref07.expire -/
/-! quayside/quaysideref07.does -/
/-! quayside/quaysideref07.Step -/
/-! quayside/quaysideref07.Replay -/
/-! quayside/quaysideref07.Same -/
def ref07_Same_s0 (R : Value → World → Prop) (w : World) : Prop :=
  R (.bool true) w
theorem ref07_Same_s0_eq (R : Value → World → Prop) : ∀ e w, lift Try.prog 94 (sub (bodyOf Try.f38) [1, 1, 1, 1, 1]) (finK Try.prog Try.f38.results.toList R) e w = ref07_Same_s0 R w := fun e w => by kernel_rfl
def ref07_Same_b1 (R : Value → World → Prop) (N1 : List Value → World → Prop) (x2 x3 x7 : Value) (w : World) : Prop :=
  fa 2 x2 fun t77 =>
  ld1 t77 w fun t78 =>
  lenL t78 fun t79 =>
  qG Try.prog (bq .lss 3 (.tmp 76) (.tmp 79) x7 t79) w fun t80 =>
  bV t80
  (fa 2 x2 fun t83 =>
  ld1 t83 (World.drew w) fun t84 =>
  ia 6 t84 x7 fun t86 =>
  ldn 6 t86 (World.drew w) fun t87 =>
  fa 2 x3 fun t88 =>
  ld1 t88 (World.drew w) fun t89 =>
  ia 6 t89 x7 fun t91 =>
  ldn 6 t91 (World.drew w) fun t92 =>
  qG Try.prog (bq .neq 50 (.tmp 87) (.tmp 92) t87 t92) (World.drew w) fun t93 =>
  bV t93
  (R (.bool false) (World.drew w))
  (qG Try.prog (bq .add 3 (.tmp 81) (.const (.int .i64 1)) x7 (.int .i64 1)) (World.drew w) fun t82 =>
  N1 [x2, x3, t82] (World.drew w)))
  (ref07_Same_s0 R  w)
theorem ref07_Same_b1_eq (R : Value → World → Prop) (N1 : List Value → World → Prop) : ∀ e w, lift Try.prog 94 (sub (bodyOf Try.f38) [1, 1, 1, 1, 0, 1, 0, 0]) (seqK (fun e w => N1 [e 2, e 3, e 7] w) (blockK 4 (seqK (fun e w => ref07_Same_s0 R  w) (finK Try.prog Try.f38.results.toList R)))) e w = ref07_Same_b1 R N1 (e 2) (e 3) (e 7) w := fun e w => by kernel_rfl
def ref07_Same_L2F (R : Value → World → Prop) (N1 : List Value → World → Prop) (xs : List Value) (w : World) : Prop :=
  match xs with
  | [x2, x3, x7] => ref07_Same_b1 R N1 x2 x3 x7 w
  | _ => False
def ref07_Same_L2 (R : Value → World → Prop) (x2 x3 x7 : Value) (w : World) : Prop :=
  ∃ m, loopV (ref07_Same_L2F R) m [x2, x3, x7] w
theorem ref07_Same_L2_eq (R : Value → World → Prop) : ∀ e w, lift Try.prog 94 (sub (bodyOf Try.f38) [1, 1, 1, 1, 0, 1, 0]) (blockK 4 (seqK (fun e w => ref07_Same_s0 R  w) (finK Try.prog Try.f38.results.toList R))) e w = ref07_Same_L2 R (e 2) (e 3) (e 7) w := loop_seg (F := ref07_Same_L2F R) (sel := fun e => [e 2, e 3, e 7]) fun N1 => (ref07_Same_b1_eq R N1)
def ref07_Same_s3 (R : Value → World → Prop) (x2 x3 : Value) (w : World) : Prop :=
  ref07_Same_L2 R x2 x3 (.int .i64 0) w
theorem ref07_Same_s3_eq (R : Value → World → Prop) : ∀ e w, lift Try.prog 94 (sub (bodyOf Try.f38) [1, 1, 1, 1, 0]) (seqK (fun e w => ref07_Same_s0 R  w) (finK Try.prog Try.f38.results.toList R)) e w = ref07_Same_s3 R (e 2) (e 3) w :=
  segs_eq (l := [(sub (bodyOf Try.f38) [1, 1, 1, 1, 0, 0])]) (y := (sub (bodyOf Try.f38) [1, 1, 1, 1, 0, 1])) (Y := (fun e w => ref07_Same_L2 R (e 2) (e 3) (e 7) w)) (ref07_Same_L2_eq R) (fun e w => by kernel_rfl)
def ref07_Same_b4 (R : Value → World → Prop) (N1 : List Value → World → Prop) (x2 x3 x6 : Value) (w : World) : Prop :=
  fa 1 x2 fun t59 =>
  ld1 t59 w fun t60 =>
  lenL t60 fun t61 =>
  qG Try.prog (bq .lss 3 (.tmp 58) (.tmp 61) x6 t61) w fun t62 =>
  bV t62
  (fa 1 x2 fun t65 =>
  ld1 t65 (World.drew w) fun t66 =>
  ia 6 t66 x6 fun t68 =>
  ldn 6 t68 (World.drew w) fun t69 =>
  fa 1 x3 fun t70 =>
  ld1 t70 (World.drew w) fun t71 =>
  ia 6 t71 x6 fun t73 =>
  ldn 6 t73 (World.drew w) fun t74 =>
  qG Try.prog (bq .neq 34 (.tmp 69) (.tmp 74) t69 t74) (World.drew w) fun t75 =>
  bV t75
  (R (.bool false) (World.drew w))
  (qG Try.prog (bq .add 3 (.tmp 63) (.const (.int .i64 1)) x6 (.int .i64 1)) (World.drew w) fun t64 =>
  N1 [x2, x3, t64] (World.drew w)))
  (ref07_Same_s3 R x2 x3 w)
theorem ref07_Same_b4_eq (R : Value → World → Prop) (N1 : List Value → World → Prop) : ∀ e w, lift Try.prog 94 (sub (bodyOf Try.f38) [1, 1, 1, 0, 1, 0, 0]) (seqK (fun e w => N1 [e 2, e 3, e 6] w) (blockK 2 (seqK (fun e w => ref07_Same_s3 R (e 2) (e 3) w) (finK Try.prog Try.f38.results.toList R)))) e w = ref07_Same_b4 R N1 (e 2) (e 3) (e 6) w := fun e w => by kernel_rfl
def ref07_Same_L5F (R : Value → World → Prop) (N1 : List Value → World → Prop) (xs : List Value) (w : World) : Prop :=
  match xs with
  | [x2, x3, x6] => ref07_Same_b4 R N1 x2 x3 x6 w
  | _ => False
def ref07_Same_L5 (R : Value → World → Prop) (x2 x3 x6 : Value) (w : World) : Prop :=
  ∃ m, loopV (ref07_Same_L5F R) m [x2, x3, x6] w
theorem ref07_Same_L5_eq (R : Value → World → Prop) : ∀ e w, lift Try.prog 94 (sub (bodyOf Try.f38) [1, 1, 1, 0, 1, 0]) (blockK 2 (seqK (fun e w => ref07_Same_s3 R (e 2) (e 3) w) (finK Try.prog Try.f38.results.toList R))) e w = ref07_Same_L5 R (e 2) (e 3) (e 6) w := loop_seg (F := ref07_Same_L5F R) (sel := fun e => [e 2, e 3, e 6]) fun N1 => (ref07_Same_b4_eq R N1)
def ref07_Same_s6 (R : Value → World → Prop) (x2 x3 : Value) (w : World) : Prop :=
  ref07_Same_L5 R x2 x3 (.int .i64 0) w
theorem ref07_Same_s6_eq (R : Value → World → Prop) : ∀ e w, lift Try.prog 94 (sub (bodyOf Try.f38) [1, 1, 1, 0]) (seqK (fun e w => ref07_Same_s3 R (e 2) (e 3) w) (finK Try.prog Try.f38.results.toList R)) e w = ref07_Same_s6 R (e 2) (e 3) w :=
  segs_eq (l := [(sub (bodyOf Try.f38) [1, 1, 1, 0, 0])]) (y := (sub (bodyOf Try.f38) [1, 1, 1, 0, 1])) (Y := (fun e w => ref07_Same_L5 R (e 2) (e 3) (e 6) w)) (ref07_Same_L5_eq R) (fun e w => by kernel_rfl)
def ref07_Same_b7 (R : Value → World → Prop) (N1 : List Value → World → Prop) (x2 x3 x5 : Value) (w : World) : Prop :=
  fa 0 x2 fun t41 =>
  ld1 t41 w fun t42 =>
  lenL t42 fun t43 =>
  qG Try.prog (bq .lss 3 (.tmp 40) (.tmp 43) x5 t43) w fun t44 =>
  bV t44
  (fa 0 x2 fun t47 =>
  ld1 t47 (World.drew w) fun t48 =>
  ia 4 t48 x5 fun t50 =>
  ldn 4 t50 (World.drew w) fun t51 =>
  fa 0 x3 fun t52 =>
  ld1 t52 (World.drew w) fun t53 =>
  ia 4 t53 x5 fun t55 =>
  ldn 4 t55 (World.drew w) fun t56 =>
  qG Try.prog (bq .neq 44 (.tmp 51) (.tmp 56) t51 t56) (World.drew w) fun t57 =>
  bV t57
  (R (.bool false) (World.drew w))
  (qG Try.prog (bq .add 3 (.tmp 45) (.const (.int .i64 1)) x5 (.int .i64 1)) (World.drew w) fun t46 =>
  N1 [x2, x3, t46] (World.drew w)))
  (ref07_Same_s6 R x2 x3 w)
theorem ref07_Same_b7_eq (R : Value → World → Prop) (N1 : List Value → World → Prop) : ∀ e w, lift Try.prog 94 (sub (bodyOf Try.f38) [1, 1, 0, 1, 0, 0]) (seqK (fun e w => N1 [e 2, e 3, e 5] w) (blockK 0 (seqK (fun e w => ref07_Same_s6 R (e 2) (e 3) w) (finK Try.prog Try.f38.results.toList R)))) e w = ref07_Same_b7 R N1 (e 2) (e 3) (e 5) w := fun e w => by kernel_rfl
def ref07_Same_L8F (R : Value → World → Prop) (N1 : List Value → World → Prop) (xs : List Value) (w : World) : Prop :=
  match xs with
  | [x2, x3, x5] => ref07_Same_b7 R N1 x2 x3 x5 w
  | _ => False
def ref07_Same_L8 (R : Value → World → Prop) (x2 x3 x5 : Value) (w : World) : Prop :=
  ∃ m, loopV (ref07_Same_L8F R) m [x2, x3, x5] w
theorem ref07_Same_L8_eq (R : Value → World → Prop) : ∀ e w, lift Try.prog 94 (sub (bodyOf Try.f38) [1, 1, 0, 1, 0]) (blockK 0 (seqK (fun e w => ref07_Same_s6 R (e 2) (e 3) w) (finK Try.prog Try.f38.results.toList R))) e w = ref07_Same_L8 R (e 2) (e 3) (e 5) w := loop_seg (F := ref07_Same_L8F R) (sel := fun e => [e 2, e 3, e 5]) fun N1 => (ref07_Same_b7_eq R N1)
def ref07_Same_s9 (R : Value → World → Prop) (x2 x3 : Value) (w : World) : Prop :=
  ref07_Same_L8 R x2 x3 (.int .i64 0) w
theorem ref07_Same_s9_eq (R : Value → World → Prop) : ∀ e w, lift Try.prog 94 (sub (bodyOf Try.f38) [1, 1, 0]) (seqK (fun e w => ref07_Same_s6 R (e 2) (e 3) w) (finK Try.prog Try.f38.results.toList R)) e w = ref07_Same_s9 R (e 2) (e 3) w :=
  segs_eq (l := [(sub (bodyOf Try.f38) [1, 1, 0, 0])]) (y := (sub (bodyOf Try.f38) [1, 1, 0, 1])) (Y := (fun e w => ref07_Same_L8 R (e 2) (e 3) (e 5) w)) (ref07_Same_L8_eq R) (fun e w => by kernel_rfl)
def ref07_Same_s10 (R : Value → World → Prop) (x0 x1 : Value) (w : World) : Prop :=
  newG (Value.cells x0) 60 w fun t2 w =>
  newG (Value.cells x1) 60 w fun t3 w =>
  fa 0 t2 fun t8 =>
  ld1 t8 w fun t9 =>
  lenL t9 fun t10 =>
  fa 0 t3 fun t11 =>
  ld1 t11 w fun t12 =>
  lenL t12 fun t13 =>
  qG Try.prog (bq .neq 3 (.tmp 10) (.tmp 13) t10 t13) w fun t14 =>
  bV t14
  (R (.bool false) w)
  (fa 1 t2 fun t16 =>
  ld1 t16 w fun t17 =>
  lenL t17 fun t18 =>
  fa 1 t3 fun t19 =>
  ld1 t19 w fun t20 =>
  lenL t20 fun t21 =>
  qG Try.prog (bq .neq 3 (.tmp 18) (.tmp 21) t18 t21) w fun t22 =>
  bV t22
  (R (.bool false) w)
  (fa 2 t2 fun t25 =>
  ld1 t25 w fun t26 =>
  lenL t26 fun t27 =>
  fa 2 t3 fun t28 =>
  ld1 t28 w fun t29 =>
  lenL t29 fun t30 =>
  qG Try.prog (bq .neq 3 (.tmp 27) (.tmp 30) t27 t30) w fun t31 =>
  bV t31
  (R (.bool false) w)
  (fa 3 t2 fun t34 =>
  ld1 t34 w fun t35 =>
  fa 3 t3 fun t36 =>
  ld1 t36 w fun t37 =>
  qG Try.prog (bq .neq 3 (.tmp 35) (.tmp 37) t35 t37) w fun t38 =>
  bV t38
  (R (.bool false) w)
  (ref07_Same_s9 R t2 t3 w))))
theorem ref07_Same_s10_eq (R : Value → World → Prop) : ∀ e w, lift Try.prog 94 (bodyOf Try.f38) (finK Try.prog Try.f38.results.toList R) e w = ref07_Same_s10 R (e 0) (e 1) w :=
  segs_eq (l := [(sub (bodyOf Try.f38) [0]), (sub (bodyOf Try.f38) [1, 0])]) (y := (sub (bodyOf Try.f38) [1, 1])) (Y := (fun e w => ref07_Same_s9 R (e 2) (e 3) w)) (seq_seg (x := (sub (bodyOf Try.f38) [1, 1, 0])) (y := (sub (bodyOf Try.f38) [1, 1, 1])) (seq_seg (x := (sub (bodyOf Try.f38) [1, 1, 1, 0])) (y := (sub (bodyOf Try.f38) [1, 1, 1, 1])) (seq_seg (x := (sub (bodyOf Try.f38) [1, 1, 1, 1, 0])) (y := (sub (bodyOf Try.f38) [1, 1, 1, 1, 1])) (ref07_Same_s0_eq R) (ref07_Same_s3_eq R)) (ref07_Same_s6_eq R)) (ref07_Same_s9_eq R)) (fun e w => by kernel_rfl)
def ref07_Same (R : Value → World → Prop) (x0 x1 : Value) (w : World) : Prop := ref07_Same_s10 R x0 x1 w
theorem ref07_Same_call {R : Value → World → Prop} {x0 x1 : Value} {w : World} (h : ref07_Same R x0 x1 w) : callG Try.prog 38 #[x0, x1] w R :=
  calls_lift_eq Try.mixed Try.func38 (args := [x0, x1]) rfl rfl rfl rfl ((ref07_Same_s10_eq R) (envOf [x0, x1]) w) (by kernel_rfl) h
end Go.Proofs

/- Layer 7: the document's ledger: held. -/
set_option linter.unusedVariables false
set_option linter.unusedSimpArgs false
namespace Go.Proofs
open Go Go.Q
theorem LedAt.ones {w : World} {a b c : Value} {l : LV} (h1 : Rd w a 4 (l.st.map sC)) (h2 : Rd w b 6 (l.ho.map hC)) (h3 : Rd w c 6 (l.mo.map hC)) : ([a, b, c, .int .i64 l.ops].toArray).all one = true := by
  obtain ⟨_, _, e1⟩ := h1.slice
  obtain ⟨_, _, e2⟩ := h2.slice
  obtain ⟨_, _, e3⟩ := h3.slice
  rw [e1, e2, e3]
  simp only [all_cons1, all_nil1]
  rfl
theorem lvLedw {b : Nat} {w : World} {c : Array Value} {T : TypeId} {fr : Nat × Nat} (hh : w.heap[b]? = some (.cells c T fr)) (hs : c.size = 4) {K : Value → Prop} :
    qG Try.prog (do loadVar 60 (← asAddr (.pointer (some ⟨b, 0, none⟩)))) w K = K (.agg c) := loadVar_of aggLed szLed hh hs
end Go.Proofs

/- Layer 7: the document's ledger: state. -/
set_option linter.unusedVariables false
set_option linter.unusedSimpArgs false
namespace Go.Proofs
open Go Go.Q
theorem hold_zc : zc Try.prog 34 = [.int .i64 0, .string (str []), .string (str []), .int .i64 0, .int .i64 0, .int .i64 0].toArray := by kernel_rfl
/-- a ledger's variable is given back -/
theorem led_ret {wj : World} {x z : Nat} {a b c : Value} {l : LV} {S : List Nat} (hx : wj.heap[x]? = some (.cells #[a, b, c, .int .i64 l.ops] 60)) (hz : wj.heap[z]? = some (.cells [.slice none 0 0, .slice none 0 0, .slice none 0 0, .int .i64 0].toArray 60))
    (hv : LedS wj (.agg #[a, b, c, .int .i64 l.ops]) l S) (hzS : z ∉ S) {K : Value → World → Prop} (hK : ∀ w', Kp [z] wj w' → LedS w' (.agg #[a, b, c, .int .i64 l.ops]) l S → K (.agg #[a, b, c, .int .i64 l.ops]) w') :
    ldn 4 (.pointer (some ⟨x, 0, none⟩)) wj fun t67 => stn 4 (.pointer (some ⟨z, 0, none⟩)) t67 wj fun w => qG Try.prog (do loadVar 60 (← asAddr (.pointer (some ⟨z, 0, none⟩)))) w fun r4 => K r4 w := by
  obtain ⟨a', b', c', SA, SB, SC, e, h1, h2, h3, _⟩ := hv.ex
  have e' : a = a' ∧ b = b' ∧ c = c' := by
    simp only [Value.agg.injEq, Array.mk.injEq, List.cons.injEq] at e
    exact ⟨e.1, e.2.1, e.2.2.1⟩
  obtain ⟨rfl, rfl, rfl⟩ := e'
  have hone := LedAt.ones (l := l) ⟨_, h1⟩ ⟨_, h2⟩ ⟨_, h3⟩
  rw [ldAll (k := 4) hx rfl, stAll (k := 4) hz rfl rfl hone, lvLedw (heap_self (live_of hz)) rfl]
  have hk : Kp [z] wj (setBlk wj z (.cells #[a, b, c, .int .i64 l.ops] 60)) := (Kp.refl _ wj).setBlk (.inl (by simp)) _
  exact hK _ hk (hv.keep hk fun q hq => by simp; intro h; exact hzS (h ▸ hq))
end Go.Proofs

/- Layer 7: the document's ledger: moved. -/
set_option linter.unusedVariables false
set_option linter.unusedSimpArgs false
namespace Go.Proofs
open Go Go.Q
theorem move_zc : zc Try.prog 50 = [.int .i64 0, .string (str []), .string (str []), .int .i64 0, .int .i64 0, .int .i64 0].toArray := by kernel_rfl
end Go.Proofs

/- Rows of a block written over and read; a row's cell turned; slices.Insert of one row. -/
set_option linter.unusedVariables false
set_option linter.unusedSimpArgs false
namespace Go.Q
variable {P : Program}
section
variable {w : World} {k : Nat} {F G : List (List Value)} {T : Nat}
theorem wr_rows {b i : Nat} (h : w.heap[b]? = some (.cells F.flatten.toArray T (0, 0))) (hF : ∀ x ∈ F, x.length = k) (hG : ∀ x ∈ G, x.length = k) (hi : i + G.length ≤ F.length) (hone : G.flatten.all one = true) {K : World → Prop} :
    wrN w ⟨b, i * k, none⟩ G.flatten.toArray K = K (setBlk w b (.cells (F.take i ++ G ++ F.drop (i + G.length)).flatten.toArray T)) := by
  rw [wrN_mk, h]
  simp only
  have h1 := flat_len hF
  have h2 := flat_len hG
  have h3 : i * k + G.flatten.length ≤ F.flatten.length := by rw [h1, h2, ← Nat.add_mul]; exact Nat.mul_le_mul_right _ hi
  rw [splice_list, flat_splice_many hF hG hi]
  apply propext
  constructor
  · rintro ⟨_, h⟩; exact h
  · intro hk
    refine ⟨⟨by simpa [-List.length_flatten] using h3, by rw [okFr0]; trivial, by rw [List.all_toArray]; exact hone⟩, hk⟩
theorem rd_rows {b i m : Nat} (h : w.heap[b]? = some (.cells F.flatten.toArray T (0, 0))) (hF : ∀ x ∈ F, x.length = k) (hi : i + m ≤ F.length) {K : Array Value → Prop} :
    rdN w ⟨b, i * k, none⟩ (m * k) K = K ((F.drop i).take m).flatten.toArray := by
  rw [rdN_mk, h]
  simp only
  have h1 := flat_len hF
  have h3 : i * k + m * k ≤ F.flatten.length := by rw [h1, ← Nat.add_mul]; exact Nat.mul_le_mul_right _ hi
  rw [extract_list, flat_drop i hF, flat_take m (fun x hx => hF x (List.mem_of_mem_drop hx))]
  apply propext
  constructor
  · rintro ⟨_, h⟩; exact h
  · intro hk
    exact ⟨by simpa [-List.length_flatten] using h3, hk⟩
/-- rows are copied -/
theorem cp_rows {b b' i j dl dc sl sc T' : Nat} {F' : List (List Value)} (h : w.heap[b]? = some (.cells F.flatten.toArray T (0, 0))) (hF : ∀ x ∈ F, x.length = k) (h' : w.heap[b']? = some (.cells F'.flatten.toArray T' (0, 0))) (hF' : ∀ x ∈ F', x.length = k)
    (hi : i + Nat.min sl dl ≤ F.length) (hj : j + Nat.min sl dl ≤ F'.length) (hone : ((F'.drop j).take (Nat.min sl dl)).flatten.all one = true) {K : Value → World → Prop} :
    cp k (.slice (some ⟨b, i * k, none⟩) dl dc) (.slice (some ⟨b', j * k, none⟩) sl sc) w K = K (.int .i64 (Nat.min sl dl : Nat)) (setBlk w b (.cells (F.take i ++ (F'.drop j).take (Nat.min sl dl) ++ F.drop (i + Nat.min sl dl)).flatten.toArray T)) := by
  unfold cp
  simp only [src]
  rw [rd_rows h' hF' hj]
  simp only [wrO, add_mk, Nat.add_zero]
  have hl : ((F'.drop j).take (Nat.min sl dl)).length = Nat.min sl dl := by rw [List.length_take, List.length_drop]; exact Nat.min_eq_left (by omega)
  rw [wr_rows h hF (fun x hx => hF' x (List.mem_of_mem_drop (List.mem_of_mem_take hx))) (by rw [hl]; exact hi) hone, hl]
end
theorem set_flat {k : Nat} : ∀ {F : List (List Value)} {i j : Nat} {v : Value}, (∀ x ∈ F, x.length = k) → (hi : i < F.length) → j < k → F.flatten.set (i * k + j) v = (F.set i (F[i].set j v)).flatten := by
  intro F
  induction F with
  | nil => intro i j v _ h; simp at h
  | cons x r ih =>
    intro i j v h hi hj
    have hx := h x (by simp)
    cases i with
    | zero =>
      simp only [List.flatten_cons, Nat.zero_mul, Nat.zero_add, List.set_cons_zero, List.getElem_cons_zero]
      rw [List.set_append_left _ _ (by omega)]
    | succ i =>
      simp only [List.flatten_cons, List.set_cons_succ, List.getElem_cons_succ]
      rw [List.set_append_right _ _ (by rw [hx, Nat.succ_mul]; omega)]
      rw [show (i + 1) * k + j - x.length = i * k + j by rw [hx, Nat.succ_mul]; omega]
      rw [ih (fun y hy => h y (by simp [hy])) (by simpa using hi) hj]
/-- a cell of a row is turned -/
theorem RowsAt.upd {w : World} {v : Value} {k : Nat} {rows : List (List Value)} {S : List Nat} (h : RowsAt w v k rows S) {i : Nat} (hi : i < rows.length) :
    ∃ bl, S = [bl] ∧ (∀ kd K, ia k v (.int kd i) K = K (.pointer (some ⟨bl, i * k, none⟩))) ∧ (∀ j (hj : j < rows[i].length) K, rd1 w ⟨bl, i * k + j, none⟩ K = K rows[i][j]) ∧
      ∀ j, j < k → ∀ y, one y = true → ∀ K : World → Prop, (∀ w', Kp S w w' → RowsAt w' v k (rows.set i (rows[i].set j y)) S → K w') → wr1 w ⟨bl, i * k + j, none⟩ y K := by
  have hrow := h.row (List.getElem_mem hi)
  obtain ⟨bl', T', c', hb', hh', hia', _, _, hat'⟩ := h.at hi
  rcases h with ⟨h1, h2, h3⟩ | ⟨bl, F, T, h1, h2, h3, h4, h5, h6⟩
  · rw [h2] at hi; cases hi
  · rw [h2] at hb'
    simp only [List.mem_singleton] at hb'
    subst hb'
    refine ⟨bl', h2, hia', fun j hj K => ?_, fun j hj y hy K hK => ?_⟩
    · have := hat' j (by omega)
      rw [List.getElem?_eq_getElem hj] at this
      rw [rd1_mk, hh']
      simp only [this]
    · have hiF : i < F.length := by omega
      have hfl := flat_len h4
      have hlt : i * k + j < F.flatten.length := by
        have : (i + 1) * k ≤ F.length * k := Nat.mul_le_mul_right _ hiF
        rw [Nat.succ_mul] at this
        omega
      have hrowF : F[i] = rows[i] := by
        have e : rows[i]? = F[i]? := by rw [← h5, List.getElem?_take_of_lt (by omega)]
        rw [List.getElem?_eq_getElem hi, List.getElem?_eq_getElem hiF] at e
        injection e with e
        exact e.symm
      rw [wr1_mk, h3]
      refine ⟨⟨by simpa [-List.length_flatten] using hlt, by rw [okFr0]; trivial⟩, ?_⟩
      have e : F.flatten.toArray.setIfInBounds (i * k + j) y = (F.set i (F[i].set j y)).flatten.toArray := by
        rw [← set_flat h4 hiF hj]; simp
      rw [e]
      refine hK _ ((Kp.refl _ _).setBlk (.inl (by rw [h2]; simp)) _) (.inr ⟨bl', F.set i (F[i].set j y), T, by rw [h1]; simp, h2, heap_self (live_of h3), fun x hx => ?_, ?_, by simpa using h6⟩)
      · rcases List.mem_or_eq_of_mem_set hx with hx | hx
        · exact h4 x hx
        · rw [hx, List.length_set]; exact h4 _ (List.getElem_mem hiF)
      · rw [List.length_set, List.take_set, h5, hrowF]
/-- the same of rows of things -/
theorem RowsAt.updM {α : Type} {f : α → List Value} {L : List α} {w : World} {v : Value} {k : Nat} {S : List Nat} (h : RowsAt w v k (L.map f) S) {i : Nat} (hi : i < L.length) :
    ∃ bl, S = [bl] ∧ (∀ K, ia k v (.int .i64 i) K = K (.pointer (some ⟨bl, i * k, none⟩))) ∧ (∀ j x, (f L[i])[j]? = some x → ∀ K, ld1 (.pointer (some ⟨bl, i * k + j, none⟩)) w K = K x) ∧
      ∀ j, j < k → ∀ y a, one y = true → f a = (f L[i]).set j y → ∀ K : World → Prop, (∀ w', Kp S w w' → RowsAt w' v k ((L.set i a).map f) S → K w') → st1 (.pointer (some ⟨bl, i * k + j, none⟩)) y w K := by
  have hi' : i < (L.map f).length := by simpa using hi
  obtain ⟨bl, h1, h2, h3, h4⟩ := h.upd hi'
  have e : (L.map f)[i] = f L[i] := by simp
  refine ⟨bl, h1, fun K => h2 .i64 K, fun j x hx K => ?_, fun j hj y a hy hf K hK => ?_⟩
  · obtain ⟨hj, hx⟩ := List.getElem?_eq_some_iff.1 hx
    rw [ld1_p, h3 j (by rw [e]; exact hj)]
    have : (L.map f)[i][j]'(by rw [e]; exact hj) = x := by rw [← hx]; congr 1
    rw [this]
  · rw [st1_p]
    refine ⟨hy, h4 j hj y hy K fun w' hk hr => hK w' hk ?_⟩
    rw [List.map_set, hf, ← e]
    exact hr
/-- the same, later -/
theorem RowsAt.updK {α : Type} {f : α → List Value} {L : List α} {w : World} {v : Value} {k : Nat} {S : List Nat} (h : RowsAt w v k (L.map f) S) {i : Nat} (hi : i < L.length) :
    ∃ bl, S = [bl] ∧ (∀ K, ia k v (.int .i64 i) K = K (.pointer (some ⟨bl, i * k, none⟩))) ∧ (∀ w1, Kp [] w w1 → ∀ j x, (f L[i])[j]? = some x → ∀ K, ld1 (.pointer (some ⟨bl, i * k + j, none⟩)) w1 K = K x) ∧
      ∀ w1, Kp [] w w1 → ∀ j, j < k → ∀ y a, one y = true → f a = (f L[i]).set j y → ∀ K : World → Prop, (∀ w', Kp S w1 w' → RowsAt w' v k ((L.set i a).map f) S → K w') → st1 (.pointer (some ⟨bl, i * k + j, none⟩)) y w1 K := by
  obtain ⟨bl, h1, h2, _, _⟩ := h.updM hi
  refine ⟨bl, h1, h2, fun w1 hk j x hx K => ?_, fun w1 hk j hj y a hy hf K hK => ?_⟩
  · obtain ⟨bl', g1, _, g3, _⟩ := (h.keep hk (by simp)).updM hi
    have : bl' = bl := by rw [h1] at g1; simpa using g1.symm
    subst this
    exact g3 j x hx K
  · obtain ⟨bl', g1, _, _, g4⟩ := (h.keep hk (by simp)).updM hi
    have : bl' = bl := by rw [h1] at g1; simpa using g1.symm
    subst this
    exact g4 j hj y a hy hf K hK
theorem rep_rows {k : Nat} {z : List Value} (hk : 0 < k) (hz : z.length = k) (n : Nat) : rep z.toArray (n * k) = (List.replicate n z).flatten.toArray := by
  apply Array.ext
  · simp [rep, hz]
  · intro i h1 h2
    have hi : i < n * k := by simpa [rep] using h1
    simp only [rep, Array.getElem_map, Array.getElem_range, List.size_toArray, hz]
    have hm : i % k < k := Nat.mod_lt _ hk
    have hd : i / k < n := (Nat.div_lt_iff_lt_mul hk).2 hi
    have hfl : ((List.replicate n z).flatten.drop ((i / k) * k)).take k = z := by
      rw [flat_get (k := k) (by intro x hx; rw [List.mem_replicate] at hx; rw [hx.2, hz]) (by simpa using hd)]
      simp
    have hidx : i / k * k + i % k = i := by rw [Nat.mul_comm]; exact Nat.div_add_mod i k
    have e2 := congrArg (fun l => l[i % k]?) hfl
    simp only [List.getElem?_take_of_lt hm, List.getElem?_drop, hidx] at e2
    have h2' : i < (List.replicate n z).flatten.length := by simpa using h2
    rw [List.getElem?_eq_getElem h2', List.getElem?_eq_getElem (by omega)] at e2
    injection e2 with e2
    rw [List.getElem_toArray, e2]
    simp [hz, hm]
/-- append of noughts, where there is no room -/
theorem appZ {ts : Array TypeId} {t t1 e ty : TypeId} {k1 : IntKind} {i : TypeInfo} {bl o sl sc n : Nat} {w : World} {c : Array Value} {T : TypeId} {fr : Nat × Nat} (ht : ts[0]? = some t) (hu : P.underlying t = some (.slice e))
    (ht1 : ts[1]? = some t1) (hu1 : P.underlying t1 = some (.int k1)) (hi : P.info? e = some i) (hz : hasZ P e i.size = true) (hb : 0 < i.bytes) (hn : n < 2 ^ 40) (hsl : sl < 2 ^ 40) (hbn : i.bytes < 2 ^ 6) (hlt : sc < sl + n) (hsz : 0 < i.size)
    (hh : w.heap[bl]? = some (.cells c T fr)) (hc : o + sl * i.size ≤ c.size) (hpos : 0 < n) {K : Value → World → Prop} (hsc : (sl + n) < 2 ^ 40)
    (hK : ∀ cap, sl + n ≤ cap → cap < 2 ^ 63 → K (.slice (some ⟨w.heap.size, 0, none⟩) (sl + n) cap) (w.drew.alloc (.cells (c.extract o (o + sl * i.size) ++ rep (zc P e) (n * i.size) ++ rep (zc P e) ((cap - (sl + n)) * i.size)) e))) :
    eG P (Builtin.append_ ts ty #[.slice (some ⟨bl, o, none⟩) sl sc, .int .i64 n]) w K := by
  obtain ⟨z, hzr, hzc, hzs⟩ := hasZ_run hz w.drew
  have hns : szO P e = some i.size := by simp [szO, hi]
  let cap := (sl + n) + w.tape w.drawn (.appendCap (sl + n) sc e) % (2 ^ 63 - (sl + n))
  have hlt2 : w.tape w.drawn (.appendCap (sl + n) sc e) % (2 ^ 63 - (sl + n)) < 2 ^ 63 - (sl + n) := Nat.mod_lt _ (by omega)
  refine ⟨_, _, ?_, hK cap (Nat.le_add_right _ _) (by omega)⟩
  have hch : (choose (.appendCap (sl + n) sc e)).run P w = .ok cap w.drew := rfl
  have hrd : rdN w ⟨bl, o, none⟩ (sl * i.size) (fun cs => cs = c.extract o (o + sl * i.size)) := by rw [rdN_mk, hh]; exact ⟨hc, rfl⟩
  obtain ⟨old, hold, hoe, _⟩ := rdN_run (P := P) hrd
  subst hoe
  have hnx := nextslicecap_le hlt
  have hgt : ¬ Builtin.nextslicecap (sl + n) sc * i.bytes > 2 ^ 48 := by
    have : Builtin.nextslicecap (sl + n) sc * i.bytes ≤ (2 * (sl + n)) * 2 ^ 6 := Nat.mul_le_mul hnx (by omega)
    omega
  have hbz : ¬ i.bytes = 0 := by omega
  have hask : ∀ (b : Nat) (w : World), (askRoom b).run P w = .ok () w := by
    intro b w; unfold askRoom; split <;> simp [mark, Sem.run, pure]
  have hwn : IntKind.i64.wrap (n : Int) = n := wrap64 _ (by omega) (by omega)
  have hn0 : ¬ ((n : Int) < 0) := by omega
  have hnb : ¬ ((n : Int) * (i.bytes : Int) > 2 ^ 48) := by
    have : n * i.bytes ≤ 2 ^ 40 * 2 ^ 6 := Nat.mul_le_mul (by omega) (by omega)
    have h2 : ((n * i.bytes : Nat) : Int) ≤ ((2 ^ 40 * 2 ^ 6 : Nat) : Int) := by exact_mod_cast this
    rw [Int.natCast_mul] at h2
    omega
  have hnz : ¬ (n * i.size = 0) := by rw [Nat.mul_eq_zero]; omega
  have hmax : ¬ (((sl + n : Nat) : Int) > IntKind.i64.max) := by
    have : IntKind.i64.max = 9223372036854775807 := by decide
    rw [this]; omega
  have holdD : (loadCells ⟨bl, o, none⟩ (sl * i.size)).run P w.drew = .ok (c.extract o (o + sl * i.size)) w.drew := hold w.drew rfl
  have has : ∀ w : World, (asInt (.int .i64 (n : Int))).run P w = .ok (n : Int) w := fun _ => rfl
  unfold Builtin.append_
  simp only [ht, ht1, has, List.getElem?_toArray, List.getElem?_cons_zero, List.getElem?_cons_succ, Sem.run_bind, run_underlying hu, run_underlying hu1, Result.andThen_ok, szO_some hns, pure, Sem.run, Int.toNat_natCast,
    if_true, hwn, hn0, if_false, hnb, run_typeInfo w hi, show ¬ (sl + n ≤ sc) from by omega, hmax, false_and, hgt, run_typeInfo w.drew hi, hch, hask, Builtin.firstCells, holdD, Bool.not_true, Bool.false_eq_true, hnz, hzr, hzc, zeroCells_eq hzs, newRow_run]
  rfl
theorem nG_over {f : FuncId} {fn : Func} {tS tR e : TypeId} {n : Nat} (hf : P.funcs[f]? = some fn) (hname : (fn.name == "runtime.NumGoroutine") = false) (hb : fn.body.isNone = true) (hn : Extern.findNext fn = none) (he : Extern.find fn = some (Extern.SlicesOverlaps.overlaps #[tS, tS] #[tR]))
    (hu : P.underlying tS = some (.slice e)) (hz : szO P e = some n) {w : World} {ba oa la ca bb ob lb cb TA TB : Nat} {cA cB : Array Value} (hne : ba ≠ bb) (hA : w.heap[ba]? = some (.cells cA TA (0, 0))) (hB : w.heap[bb]? = some (.cells cB TB (0, 0))) (hcB : cB.size ≠ 0)
    {K : Value → World → Prop} (hK : K (.bool false) w) : nG P (callFunc f #[.slice (some ⟨ba, oa, none⟩) la ca, .slice (some ⟨bb, ob, none⟩) lb cb]) w K := by
  refine ⟨_, w, ?_, hK⟩
  rw [run_callFunc_extern hf hname hb hn he]
  rw [Lib.run_overlaps_apart w tS tR e hu n (fun w => szO_some hz w) ⟨ba, oa, none⟩ ⟨bb, ob, none⟩ la ca lb cb hne TA TB cA.size cB.size (by simp [World.shape?, hA]) (by simp [World.shape?, hB]) hcB (by simp [World.frozen?, hA]) (by simp [World.frozen?, hA])]
  rfl
/-- slices.Insert, as it is printed -/
def insG (P : Program) (I T k bytes ST : Nat) (fO fR : FuncId) (R : Value → World → Prop) (x0 x1 x2 : Value) (w : World) : Prop :=
  slL k x0 (some x1) none fun t12 =>
  lenL x2 fun t14 =>
  qG P (bq .eql I (.tmp 15) (.const (.int .i64 0)) t14 (.int .i64 0)) w fun t16 =>
  bV t16
  (R x0 w)
  (lenL x0 fun t19 =>
  qG P (bq .eql I (.tmp 20) (.tmp 21) x1 t19) w fun t22 =>
  bV t22
  (app T k bytes (zc P T) x0 x2 w fun t25 w =>
  R t25 w)
  (qG P (bq .add I (.tmp 26) (.tmp 27) t19 t14) w fun t28 =>
  qG P (Builtin.cap_ #[ST] I #[x0]) w fun t30 =>
  qG P (bq .gtr I (.tmp 28) (.tmp 30) t28 t30) w fun t31 =>
  bV t31
  (slL k x0 none (some x1) fun t34 =>
  qG P (bq .add I (.tmp 35) (.tmp 36) t19 t14) w fun t37 =>
  qG P (bq .sub I (.tmp 37) (.tmp 38) t37 x1) w fun t39 =>
  eG P (Builtin.append_ #[ST, I] ST #[t34, t39]) w fun t40 w =>
  slL k t40 (some x1) none fun t43 =>
  cp k t43 x2 w fun t45 w =>
  qG P (bq .add I (.tmp 47) (.tmp 48) x1 t14) (World.drew w) fun t49 =>
  slL k t40 (some t49) none fun t50 =>
  slL k x0 (some x1) none fun t53 =>
  cp k t50 t53 (World.drew w) fun t54 w =>
  R t40 w)
  (qG P (bq .add I (.tmp 57) (.tmp 58) t19 t14) w fun t59 =>
  slL k x0 none (some t59) fun t60 =>
  qG P (bq .add I (.tmp 63) (.tmp 64) x1 t14) w fun t65 =>
  slL k t60 (some t65) none fun t66 =>
  nG P (callFunc fO #[x2, t66]) w fun t67 w =>
  qG P (Op.unary .not t67) w fun t68 =>
  bV t68
  (qG P (bq .add I (.tmp 70) (.tmp 71) x1 t14) (World.drew w) fun t72 =>
  slL k t60 (some t72) none fun t73 =>
  slL k t60 (some x1) none fun t76 =>
  cp k t73 t76 (World.drew w) fun t77 w =>
  slL k t60 (some x1) none fun t80 =>
  cp k t80 x2 w fun t82 w =>
  R t60 w)
  (slL k t60 (some t19) none fun t86 =>
  cp k t86 x2 w fun t88 w =>
  slL k t60 (some x1) none fun t91 =>
  callG P fR #[t91, t14] w fun t93 w =>
  R t60 w))))
theorem run_cap {ts : Array TypeId} {t e ty : TypeId} {a : Option Addr} {n c : Nat} {w : World} (ht : ts[0]? = some t) (hu : P.underlying t = some (.slice e)) : (Builtin.cap_ ts ty #[.slice a n c]).run P w = .ok (.int .i64 c) w := by
  unfold Builtin.cap_
  simp only [ht, List.getElem?_toArray, List.getElem?_cons_zero, Sem.run_bind, run_underlying hu, Result.andThen_ok]
  rfl
theorem ins_spec {I T k bytes ST : Nat} {fO fR : FuncId} {i : TypeInfo} {z : List Value} {kd : IntKind} (hI : P.underlying I = some (.int kd)) (hST : P.underlying ST = some (.slice T)) (hi : P.info? T = some i) (hik : i.size = k) (hib : i.bytes = bytes) (hz : hasZ P T k = true) (hzc : zc P T = z.toArray) (hk : 0 < k) (hb : 0 < bytes) (hb6 : bytes < 2 ^ 6)
    (hov : ∀ (w : World) (ba oa la ca bb ob lb cb TA TB : Nat) (cA cB : Array Value), ba ≠ bb → w.heap[ba]? = some (.cells cA TA (0, 0)) → w.heap[bb]? = some (.cells cB TB (0, 0)) → cB.size ≠ 0 → ∀ K : Value → World → Prop, K (.bool false) w → nG P (callFunc fO #[.slice (some ⟨ba, oa, none⟩) la ca, .slice (some ⟨bb, ob, none⟩) lb cb]) w K)
    {w : World} {v x : Value} {rows : List (List Value)} {row : List Value} {S SX : List Nat} (h : RowsAt w v k rows S) (hx : RowsAt w x k [row] SX) (hd : ∀ q ∈ SX, q ∉ S) (hone : rows.flatten.all one = true) (hone1 : row.all one = true) (hl : rows.length < 2 ^ 30) {p : Nat} (hp : p ≤ rows.length)
    {R : Value → World → Prop} (hR : ∀ v' w' S', RowsAt w' v' k (rows.take p ++ [row] ++ rows.drop p) S' → Kp S w w' → (∀ y ∈ S', y ∈ S ∨ w.heap.size ≤ y) → R v' w') : insG P I T k bytes ST fO fR R v (.int .i64 p) x w := by
  have hzk : z.length = k := by
    obtain ⟨_, _, _, h3⟩ := hasZ_run hz w
    rw [hzc] at h3; simpa using h3
  have hrowk : row.length = k := hx.row (by simp)
  obtain ⟨vx, cx, hvx, _⟩ := hx.len
  obtain ⟨va, vc, hva, hvc⟩ := h.len
  have hxs := hx.rd.src
  unfold insG
  by_cases hpe : p = rows.length
  · subst hpe
    have happ : app T k bytes (zc P T) v x w fun t25 w => R t25 w := by
      rw [hzc]
      refine rows_app h hk hzk (G := [row]) (by simpa using hrowk) (by simpa using hone1) hxs ?_ (by simp; omega) fun v' w' S' h' hk' hS' => hR v' w' S' (by simpa using h') hk' hS'
      have : 2 * (rows.length + 1) * bytes ≤ 2 ^ 32 * 2 ^ 6 := Nat.mul_le_mul (by omega) (by omega)
      simpa using Nat.le_trans this (by decide)
    rw [hva, hvx] at happ ⊢
    have h1 : (rows.length : Int) ≤ vc := by omega
    simp [h1]
    exact happ
  · have hplt : p < rows.length := by omega
    rcases h with ⟨h1, h2, h3⟩ | ⟨bl, F, TT, h1, h2, h3, h4, h5, h6⟩
    · rw [h2] at hplt; simp at hplt
    · rcases hx with ⟨_, g2, _⟩ | ⟨xb, FX, TX, g1, g2, g3, g4, g5, g6⟩
      · simp at g2
      · simp only [List.length_cons, List.length_nil] at g1 g5 g6
        have hxbl : xb ≠ bl := by
          have := hd xb (by rw [g2]; simp)
          rw [h2] at this
          simpa using this
        have e1 : IntKind.i64.wrap ((rows.length : Int) + 1) = ((rows.length + 1 : Nat) : Int) := by rw [w64 (by omega) (by omega)]; simp
        have e2 : IntKind.i64.wrap ((p : Int) + 1) = ((p + 1 : Nat) : Int) := by rw [w64 (by omega) (by omega)]; simp
        have e3 : IntKind.i64.wrap (((rows.length + 1 : Nat) : Int) - p) = ((rows.length + 1 - p : Nat) : Int) := by rw [w64 (by omega) (by omega)]; omega
        have hrk : ∀ y ∈ rows, y.length = k := fun y hy => by rw [← h5] at hy; exact h4 y (List.mem_of_mem_take hy)
        have hFp : (F.drop p).take (rows.length - p) = rows.drop p := by rw [← h5, List.drop_take, h5]; 
        have hFt : F.take p = rows.take p := by
          have e := congrArg (List.take p) h5
          rw [List.take_take, Nat.min_eq_left (by omega)] at e
          exact e
        have hXr : (FX.drop 0).take 1 = [row] := by simpa using g5
        have honed : (rows.drop p).flatten.all one = true := by
          rw [List.all_eq_true] at hone ⊢
          intro y hy
          obtain ⟨r, hr, hyr⟩ := List.mem_flatten.1 hy
          exact hone y (List.mem_flatten.2 ⟨r, List.mem_of_mem_drop hr, hyr⟩)
        have nn : Nat.min 1 (rows.length + 1 - p) = 1 := Nat.min_eq_left (by omega)
        have nm : Nat.min (rows.length - p) (rows.length - p) = rows.length - p := Nat.min_self _
        have nm2 : Nat.min (rows.length + 1 - p) (rows.length - p) = rows.length - p := Nat.min_eq_right (by omega)
        subst h1; subst g1
        have hpF : p < F.length := by omega
        have c1 : (p : Int) ≤ F.length := by omega
        have c2 : ¬ ((p : Int) = rows.length) := by omega
        have c3 : (p : Int) ≤ rows.length := by omega
        have c4 : ¬ (F.length = p) := by omega
        have hpn : rows.length + 1 - p = rows.length - p + 1 := by omega
        by_cases hroom : rows.length + 1 ≤ F.length
        · have c5 : ¬ ((F.length : Int) < ((rows.length + 1 : Nat) : Int)) := by omega
          have c6 : ((rows.length + 1 : Nat) : Int) ≤ F.length := by omega
          have c7 : ¬ (F.length = p + 1) := by omega
          have c8 : ((p + 1 : Nat) : Int) ≤ ((rows.length + 1 : Nat) : Int) := by omega
          have hne : F.flatten.toArray.size ≠ 0 := by
            have := flat_len h4
            have h0 : 0 < F.length * k := Nat.mul_pos (by omega) hk
            simp only [List.size_toArray]
            omega
          simp [c1, c2, c3, c4, e1, e2, e3, c5, c6, c7, c8, qG_of (run_cap (ts := #[ST]) (ty := I) rfl hST), -List.length_flatten]
          refine ⟨by omega, fun hh => by omega, fun _ => ⟨⟨by omega, by omega⟩, by omega, ?_⟩⟩
          refine hov w xb 0 1 FX.length bl ((p + 1) * k) _ _ _ _ _ _ hxbl g3 h3 hne _ ?_
          simp
          refine ⟨by omega, by omega, ?_⟩
          have k1 : (F.drop p).take (Nat.min (rows.length + 1 - p) (rows.length - p)) = rows.drop p := by rw [nm2, hFp]
          rw [cp_rows (w := w.drew) h3 h4 h3 h4 (by rw [nm2]; omega) (by rw [nm2]; omega) (by rw [k1]; exact honed), k1]
          have k2 : p + 1 + Nat.min (rows.length + 1 - p) (rows.length - p) = rows.length + 1 := by rw [nm2]; omega
          rw [k2]
          obtain ⟨F2, hF2⟩ : ∃ F2, F2 = F.take (p + 1) ++ rows.drop p ++ F.drop (rows.length + 1) := ⟨_, rfl⟩
          rw [← hF2]
          obtain ⟨w2, hw2⟩ : ∃ w2, w2 = setBlk w.drew bl (.cells F2.flatten.toArray TT) := ⟨_, rfl⟩
          have q1 : w2.heap[bl]? = some (.cells F2.flatten.toArray TT (0, 0)) := by rw [hw2]; exact heap_self (live_of h3)
          have q2 : w2.heap[xb]? = some (.cells FX.flatten.toArray TX (0, 0)) := by rw [hw2, heap_ne (by omega)]; exact g3
          have k21 : Kp S w w2 := by rw [hw2]; exact (Kp.refl _ w).drew.setBlk (.inl (by rw [h2]; simp)) _
          have hF2k : ∀ y ∈ F2, y.length = k := by
            intro y hy
            rw [hF2, List.mem_append, List.mem_append] at hy
            rcases hy with (hy | hy) | hy
            · exact h4 y (List.mem_of_mem_take hy)
            · exact hrk y (List.mem_of_mem_drop hy)
            · exact h4 y (List.mem_of_mem_drop hy)
          have hF2l : F2.length = F.length := by rw [hF2]; simp; omega
          have hF2t : F2.take p = rows.take p := by
            rw [hF2, List.append_assoc, List.take_append_of_le_length (by simp; omega), List.take_take, Nat.min_eq_left (by omega), hFt]
          have hF2d : F2.drop (p + 1) = rows.drop p ++ F.drop (rows.length + 1) := by
            rw [hF2, List.append_assoc]
            exact List.drop_left' (by simp; omega)
          rw [← hw2]
          refine ⟨by omega, ?_⟩
          have z0 : (⟨xb, 0, none⟩ : Addr) = ⟨xb, 0 * k, none⟩ := by simp
          have k3 : (FX.drop 0).take (Nat.min 1 (rows.length + 1 - p)) = [row] := by rw [nn]; exact hXr
          rw [z0, cp_rows (w := w2) q1 hF2k q2 g4 (by rw [nn]; omega) (by rw [nn]; omega) (by rw [k3]; simpa using hone1), k3, nn, hF2t, hF2d]
          refine hR _ _ [bl] (.inr ⟨bl, rows.take p ++ [row] ++ (rows.drop p ++ F.drop (rows.length + 1)), TT, ?_, rfl, heap_self (live_of q1), ?_, ?_, ?_⟩) (k21.setBlk (.inl (by rw [h2]; simp)) _) (fun y hy => .inl (by rw [h2]; exact hy))
          · congr 1
            · simp; omega
            · simp; omega
          · intro y hy
            rw [List.mem_append, List.mem_append, List.mem_append] at hy
            rcases hy with (hy | hy) | hy | hy
            · exact hrk y (List.mem_of_mem_take hy)
            · rw [List.mem_singleton] at hy; rw [hy]; exact hrowk
            · exact hrk y (List.mem_of_mem_drop hy)
            · exact h4 y (List.mem_of_mem_drop hy)
          · rw [← List.append_assoc]
            exact List.take_left' rfl
          · simp
        · have c5 : ((F.length : Int) < ((rows.length + 1 : Nat) : Int)) := by omega
          have c8 : ((p + 1 : Nat) : Int) ≤ ((rows.length + 1 : Nat) : Int) := by omega
          have e3' : IntKind.i64.wrap ((rows.length : Int) + 1 - p) = ((rows.length + 1 - p : Nat) : Int) := by rw [w64 (by omega) (by omega)]; omega
          simp [c1, c2, c3, c4, e1, e2, e3, e3', c5, qG_of (run_cap (ts := #[ST]) (ty := I) rfl hST), -List.length_flatten]
          refine ⟨by omega, fun _ => ?_, fun hh => by omega⟩
          subst hik; subst hib
          refine appZ (t := ST) (e := T) (t1 := I) rfl hST rfl hI hi hz hb (by omega) (by omega) hb6 (by omega) hk h3 ?_ (by omega) (by omega) fun cap hcap hcap2 => ?_
          · have := flat_len h4
            have h0 : p * i.size ≤ F.length * i.size := Nat.mul_le_mul_right _ (by omega)
            simp only [List.size_toArray]
            omega
          have hpn2 : p + (rows.length + 1 - p) = rows.length + 1 := by omega
          rw [hpn2] at hcap ⊢
          have c9 : ¬ (cap = p) := by omega
          have c10 : ¬ (cap = p + 1) := by omega
          have hzl : ∀ m, rep (zc P T) (m * i.size) = (List.replicate m z).flatten.toArray := fun m => by rw [hzc]; exact rep_rows hk hzk m
          have hfe : F.flatten.toArray.extract 0 (0 + p * i.size) = (rows.take p).flatten.toArray := by
            rw [extract_list, List.drop_zero, flat_take p h4, hFt]
          rw [hzl, hzl, hfe]
          obtain ⟨F1, hF1⟩ : ∃ F1, F1 = rows.take p ++ List.replicate (rows.length + 1 - p) z ++ List.replicate (cap - (rows.length + 1)) z := ⟨_, rfl⟩
          have hfl : (rows.take p).flatten.toArray ++ (List.replicate (rows.length + 1 - p) z).flatten.toArray ++ (List.replicate (cap - (rows.length + 1)) z).flatten.toArray = F1.flatten.toArray := by
            rw [hF1]; apply Array.toList_inj.1; simp only [Array.toList_append, List.flatten_append]
          rw [hfl]
          obtain ⟨nb, hnb⟩ : ∃ nb, nb = w.heap.size := ⟨_, rfl⟩
          obtain ⟨w1, hw1⟩ : ∃ w1, w1 = w.drew.alloc (.cells F1.flatten.toArray T) := ⟨_, rfl⟩
          have q1 : w1.heap[nb]? = some (.cells F1.flatten.toArray T (0, 0)) := by rw [hw1, hnb]; exact heap_new
          have q2 : w1.heap[xb]? = some (.cells FX.flatten.toArray TX (0, 0)) := by rw [hw1, heap_old (by exact live_of g3)]; exact g3
          have q3 : w1.heap[bl]? = some (.cells F.flatten.toArray TT (0, 0)) := by rw [hw1, heap_old (by exact live_of h3)]; exact h3
          have k1 : Kp S w w1 := by rw [hw1]; exact (Kp.refl _ w).drew.alloc _
          rw [← hw1, ← hnb]
          have hxl := lt_of_blk g3
          have hbll := lt_of_blk h3
          have hF1k : ∀ y ∈ F1, y.length = i.size := by
            intro y hy
            rw [hF1, List.mem_append, List.mem_append] at hy
            rcases hy with (hy | hy) | hy
            · exact hrk y (List.mem_of_mem_take hy)
            · rw [List.mem_replicate] at hy; rw [hy.2, hzk]
            · rw [List.mem_replicate] at hy; rw [hy.2, hzk]
          have hF1l : F1.length = cap := by rw [hF1]; simp; omega
          have hF1t : F1.take p = rows.take p := by
            rw [hF1, List.append_assoc]; exact List.take_left' (by simp; omega)
          simp [c9, c10]
          refine ⟨by omega, ?_⟩
          have z0 : (⟨xb, 0, none⟩ : Addr) = ⟨xb, 0 * i.size, none⟩ := by simp
          have k3 : (FX.drop 0).take (Nat.min 1 (rows.length + 1 - p)) = [row] := by rw [nn]; exact hXr
          rw [z0, cp_rows (w := w1) q1 hF1k q2 g4 (by rw [nn]; omega) (by rw [nn]; omega) (by rw [k3]; simpa using hone1), k3, nn, hF1t]
          obtain ⟨F2, hF2⟩ : ∃ F2, F2 = rows.take p ++ [row] ++ F1.drop (p + 1) := ⟨_, rfl⟩
          obtain ⟨w2, hw2⟩ : ∃ w2, w2 = setBlk w1 nb (.cells F2.flatten.toArray T) := ⟨_, rfl⟩
          have r1 : w2.heap[nb]? = some (.cells F2.flatten.toArray T (0, 0)) := by rw [hw2]; exact heap_self (live_of q1)
          have r3 : w2.heap[bl]? = some (.cells F.flatten.toArray TT (0, 0)) := by rw [hw2, heap_ne (by omega)]; exact q3
          have k2 : Kp S w w2 := by rw [hw2]; exact k1.setBlk (.inr (by omega)) _
          rw [← hF2, ← hw2]
          have hF2k : ∀ y ∈ F2, y.length = i.size := by
            intro y hy
            rw [hF2, List.mem_append, List.mem_append] at hy
            rcases hy with (hy | hy) | hy
            · exact hrk y (List.mem_of_mem_take hy)
            · rw [List.mem_singleton] at hy; rw [hy]; exact hrowk
            · exact hF1k y (List.mem_of_mem_drop hy)
          have hF2l : F2.length = cap := by rw [hF2]; simp; omega
          have hF2t : F2.take (p + 1) = rows.take p ++ [row] := by
            rw [hF2]; exact List.take_left' (by simp; omega)
          have c11 : (p : Int) + 1 ≤ (rows.length : Int) + 1 := by omega
          refine ⟨by omega, by omega, ?_⟩
          have k4 : (F.drop p).take (Nat.min (rows.length - p) (rows.length - p)) = rows.drop p := by rw [nm, hFp]
          rw [cp_rows (w := w2.drew) r1 hF2k r3 h4 (by rw [nm]; omega) (by rw [nm]; omega) (by rw [k4]; exact honed), k4, hF2t, nm]
          refine hR _ _ [nb] (.inr ⟨nb, rows.take p ++ [row] ++ rows.drop p ++ F2.drop (p + 1 + (rows.length - p)), T, ?_, rfl, heap_self (live_of r1), ?_, ?_, ?_⟩) (k2.drew.setBlk (.inr (by omega)) _) (fun y hy => by simp at hy; omega)
          · congr 1
            · simp; omega
            · simp; omega
          · intro y hy
            rw [List.mem_append, List.mem_append, List.mem_append] at hy
            rcases hy with ((hy | hy) | hy) | hy
            · exact hrk y (List.mem_of_mem_take hy)
            · rw [List.mem_singleton] at hy; rw [hy]; exact hrowk
            · exact hrk y (List.mem_of_mem_drop hy)
            · exact hF2k y (List.mem_of_mem_drop hy)
          · exact List.take_left' rfl
          · simp
end Go.Q

/- A struct in a variable, of which some parts are slices of its own. -/
set_option linter.unusedVariables false
set_option linter.unusedSimpArgs false
namespace Go.Q
/-- a part of a struct is read -/
theorem ldF {w : World} {b j : Nat} {c : Array Value} {T : TypeId} {fr : Nat × Nat} {x : Value} (h : w.heap[b]? = some (.cells c T fr)) (hx : c[j]? = some x) {K : Value → Prop} : ld1 (.pointer (some ⟨b, j, none⟩)) w K = K x := by
  rw [ld1_p, rd1_mk, h]
  simp only [hx]
/-- a part of a struct is written -/
theorem stF {w : World} {b j : Nat} {c : Array Value} {T : TypeId} {x : Value} (h : w.heap[b]? = some (.cells c T (0, 0))) (hj : j < c.size) (hx : one x = true) {K : World → Prop} : st1 (.pointer (some ⟨b, j, none⟩)) x w K = K (setBlk w b (.cells (c.setIfInBounds j x) T)) := by
  rw [st1_p, wr1_mk, h]
  apply propext
  constructor
  · rintro ⟨_, _, hk⟩; exact hk
  · intro hk
    exact ⟨hx, ⟨hj, by rw [okFr0]; trivial⟩, hk⟩
structure Cmp where
  v : Value
  k : Nat
  rows : List (List Value)
  S : List Nat
def blksC (cs : List Cmp) : List Nat := (cs.map (·.S)).flatten
structure BoxAt (w : World) (x : Nat) (T : Nat) (cs : List Cmp) (tl : List Value) : Prop where
  cell : w.heap[x]? = some (.cells (cs.map (·.v) ++ tl).toArray T)
  rows : ∀ i (h : i < cs.length), RowsAt w cs[i].v cs[i].k cs[i].rows cs[i].S
  nd : (x :: blksC cs).Nodup
section
variable {w w' : World} {x T : Nat} {cs : List Cmp} {tl : List Value}
theorem blksC_mem {i : Nat} (hi : i < cs.length) {q : Nat} (hq : q ∈ cs[i].S) : q ∈ blksC cs := List.mem_flatten.2 ⟨_, List.mem_map.2 ⟨_, List.getElem_mem hi, rfl⟩, hq⟩
theorem blksC_set {i : Nat} {c : Cmp} {q : Nat} (h : q ∈ blksC (cs.set i c)) : q ∈ c.S ∨ ∃ j, ∃ hj : j < cs.length, j ≠ i ∧ q ∈ cs[j].S := by
  obtain ⟨r, hr, hq⟩ := List.mem_flatten.1 h
  obtain ⟨d, hd, rfl⟩ := List.mem_map.1 hr
  obtain ⟨j, hj, rfl⟩ := List.getElem_of_mem hd
  simp only [List.length_set] at hj
  by_cases he : i = j
  · subst he
    rw [List.getElem_set_self] at hq
    exact .inl hq
  · rw [List.getElem_set_ne he] at hq
    exact .inr ⟨j, hj, fun h => he h.symm, hq⟩
theorem nodup_flat {L : List (List Nat)} : L.flatten.Nodup ↔ (∀ l ∈ L, l.Nodup) ∧ L.Pairwise fun a b => ∀ x ∈ a, ∀ y ∈ b, x ≠ y := List.pairwise_flatten
theorem BoxAt.apart (h : BoxAt w x T cs tl) {i j : Nat} (hi : i < cs.length) (hj : j < cs.length) (hne : i ≠ j) {q : Nat} (hq : q ∈ cs[i].S) : q ∉ cs[j].S := by
  have h1 := (List.nodup_cons.1 h.nd).2
  have h2 := (nodup_flat.1 h1).2
  rw [List.pairwise_map] at h2
  intro hq'
  rcases Nat.lt_or_gt_of_ne hne with hlt | hlt
  · exact (List.pairwise_iff_getElem.1 h2 i j hi hj hlt) q hq q hq' rfl
  · exact (List.pairwise_iff_getElem.1 h2 j i hj hi hlt) q hq' q hq rfl
theorem BoxAt.x_not (h : BoxAt w x T cs tl) {i : Nat} (hi : i < cs.length) : x ∉ cs[i].S := fun hq => (List.nodup_cons.1 h.nd).1 (blksC_mem hi hq)
theorem BoxAt.lt (h : BoxAt w x T cs tl) : ∀ q ∈ x :: blksC cs, q < w.heap.size := by
  intro q hq
  rcases List.mem_cons.1 hq with rfl | hq
  · exact lt_of_blk h.cell
  · obtain ⟨r, hr, hq⟩ := List.mem_flatten.1 hq
    obtain ⟨d, hd, rfl⟩ := List.mem_map.1 hr
    obtain ⟨j, hj, rfl⟩ := List.getElem_of_mem hd
    exact (h.rows j hj).lt q hq
theorem BoxAt.keepS {S : List Nat} (h : BoxAt w x T cs tl) (hk : Kp S w w') (hS : ∀ q ∈ x :: blksC cs, q ∉ S) : BoxAt w' x T cs tl :=
  ⟨hk.get h.cell (hS x (by simp)), fun i hi => (h.rows i hi).keep hk fun q hq => hS q (by simp [blksC_mem hi hq]), h.nd⟩
theorem BoxAt.keep (h : BoxAt w x T cs tl) (hk : Kp [] w w') : BoxAt w' x T cs tl := h.keepS hk (by simp)
theorem BoxAt.ld (h : BoxAt w x T cs tl) {n : Nat} (hn : n = cs.length + tl.length) {K : Value → Prop} : ldn n (.pointer (some ⟨x, 0, none⟩)) w K = K (.agg (cs.map (·.v) ++ tl).toArray) := by
  have hs : ((cs.map (·.v) ++ tl).toArray).size = n := by simp [hn]
  rw [ldn_p, rdN_mk, h.cell]
  subst hs
  simp only [Nat.zero_add, Nat.le_refl, true_and, Array.extract_size]
theorem BoxAt.rd (h : BoxAt w x T cs tl) {i : Nat} (hi : i < cs.length) {w1 : World} (hk : Kp cs[i].S w w1) {K : Value → Prop} : ld1 (.pointer (some ⟨x, i, none⟩)) w1 K = K cs[i].v := by
  have hc : ((cs.map (·.v) ++ tl).toArray)[i]? = some cs[i].v := by
    rw [List.getElem?_toArray, List.getElem?_append_left (by simpa using hi)]; simp [hi]
  rw [ld1_p, rd1_mk, hk.get h.cell (h.x_not hi)]
  simp only [hc]
theorem blksC_same {i : Nat} (hi : i < cs.length) {c : Cmp} (hS : c.S = cs[i].S) : blksC (cs.set i c) = blksC cs := by
  unfold blksC
  congr 1
  rw [List.map_set, hS]
  apply List.ext_getElem
  · simp
  · intro j h1 h2
    by_cases he : i = j
    · subst he; simp
    · simp [List.getElem_set_ne he]
theorem map_v_same {i : Nat} (hi : i < cs.length) {c : Cmp} (hv : c.v = cs[i].v) : (cs.set i c).map (·.v) = cs.map (·.v) := by
  rw [List.map_set, hv]
  apply List.ext_getElem
  · simp
  · intro j h1 h2
    by_cases he : i = j
    · subst he; simp
    · simp [List.getElem_set_ne he]
/-- a part's rows are turned where they lie -/
theorem BoxAt.inplace (h : BoxAt w x T cs tl) {i : Nat} (hi : i < cs.length) {w1 : World} (hk : Kp cs[i].S w w1) {rows' : List (List Value)} (hr : RowsAt w1 cs[i].v cs[i].k rows' cs[i].S) :
    BoxAt w1 x T (cs.set i ⟨cs[i].v, cs[i].k, rows', cs[i].S⟩) tl ∧ blksC (cs.set i ⟨cs[i].v, cs[i].k, rows', cs[i].S⟩) = blksC cs := by
  have e1 := blksC_same hi (c := ⟨cs[i].v, cs[i].k, rows', cs[i].S⟩) rfl
  refine ⟨⟨?_, fun j hj => ?_, by rw [e1]; exact h.nd⟩, e1⟩
  · rw [map_v_same hi (c := ⟨cs[i].v, cs[i].k, rows', cs[i].S⟩) rfl]
    exact hk.get h.cell (h.x_not hi)
  · simp only [List.length_set] at hj
    by_cases he : i = j
    · subst he; rw [List.getElem_set_self]; exact hr
    · rw [List.getElem_set_ne he]
      exact (h.rows j hj).keep hk fun q hq => h.apart hj hi (fun e => he e.symm) hq
/-- a part is another one -/
theorem BoxAt.store (h : BoxAt w x T cs tl) {i : Nat} (hi : i < cs.length) {w1 : World} (hk : Kp cs[i].S w w1) {v' : Value} {rows' : List (List Value)} {S' : List Nat} (hr : RowsAt w1 v' cs[i].k rows' S') (hS : ∀ q ∈ S', q ∈ cs[i].S ∨ w.heap.size ≤ q) {K : World → Prop}
    (hK : ∀ w2, BoxAt w2 x T (cs.set i ⟨v', cs[i].k, rows', S'⟩) tl → Kp (x :: cs[i].S) w w2 → Kp [x] w1 w2 → (∀ q ∈ blksC (cs.set i ⟨v', cs[i].k, rows', S'⟩), q ∈ blksC cs ∨ w.heap.size ≤ q) → K w2) : st1 (.pointer (some ⟨x, i, none⟩)) v' w1 K := by
  have hlt := h.lt
  have g1 := hk.get h.cell (h.x_not hi)
  have l1 := live_of g1
  have hone : one v' = true := by obtain ⟨a, c, hv, _⟩ := hr.len; rw [hv]; rfl
  have k1 : ∀ o, Kp [x] w1 (setBlk w1 x o) := fun o => (Kp.refl _ _).setBlk (.inl (by simp)) o
  have k2 : ∀ o, Kp (x :: cs[i].S) w (setBlk w1 x o) := fun o => (hk.mono (fun q hq _ => by simp [hq])).setBlk (.inl (by simp)) o
  have hx' : x ∉ S' := fun hh => by
    rcases hS x hh with hh | hh
    · exact h.x_not hi hh
    · have := hlt x (by simp); omega
  have hnot : ∀ j (hj : j < cs.length), j ≠ i → ∀ q ∈ cs[j].S, q ∉ x :: cs[i].S := fun j hj hne q hq hh => by
    rcases List.mem_cons.1 hh with rfl | hh
    · exact h.x_not hj hq
    · exact h.apart hj hi hne hq hh
  have hdis : ∀ j (hj : j < cs.length), j ≠ i → ∀ q ∈ cs[j].S, q ∉ S' := fun j hj hne q hq hh => by
    rcases hS q hh with hh | hh
    · exact h.apart hj hi hne hq hh
    · have := hlt q (by simp [blksC_mem hj hq]); omega
  have hin : ∀ q ∈ blksC (cs.set i ⟨v', cs[i].k, rows', S'⟩), q ∈ S' ∨ q ∈ blksC cs := fun q hq => by
    rcases blksC_set hq with hq | ⟨j, hj, _, hq⟩
    · exact .inl hq
    · exact .inr (blksC_mem hj hq)
  rw [st1_p, wr1_mk, g1]
  refine ⟨hone, ⟨by simp; omega, by rw [okFr0]; trivial⟩, ?_⟩
  have hc : (cs.map (·.v) ++ tl).toArray.setIfInBounds i v' = ((cs.set i ⟨v', cs[i].k, rows', S'⟩).map (·.v) ++ tl).toArray := by
    rw [List.map_set]
    simp [List.set_append_left, hi]
  rw [hc]
  refine hK _ ⟨heap_self l1, fun j hj => ?_, ?_⟩ (k2 _) (k1 _) fun q hq => ?_
  · simp only [List.length_set] at hj
    by_cases he : i = j
    · subst he; rw [List.getElem_set_self]; exact hr.keep (k1 _) fun q hq => by simp; intro e; exact hx' (e ▸ hq)
    · rw [List.getElem_set_ne he]
      exact (h.rows j hj).keep (k2 _) fun q hq => hnot j hj (fun e => he e.symm) q hq
  · refine List.nodup_cons.2 ⟨fun hq => ?_, ?_⟩
    · rcases hin x hq with hq | hq
      · exact hx' hq
      · exact (List.nodup_cons.1 h.nd).1 hq
    · have h1 := (List.nodup_cons.1 h.nd).2
      obtain ⟨h2, h3⟩ := nodup_flat.1 h1
      refine nodup_flat.2 ⟨fun r hr' => ?_, ?_⟩
      · obtain ⟨d, hd, rfl⟩ := List.mem_map.1 hr'
        rcases List.mem_or_eq_of_mem_set hd with hd | rfl
        · exact h2 _ (List.mem_map.2 ⟨d, hd, rfl⟩)
        · exact hr.nodup
      · rw [List.pairwise_map] at h3 ⊢
        rw [List.pairwise_iff_getElem] at h3 ⊢
        intro a b ha hb hab
        simp only [List.length_set] at ha hb
        by_cases ea : i = a
        · subst ea
          rw [List.getElem_set_self, List.getElem_set_ne (by omega)]
          exact fun q hq q' hq' he => hdis b hb (by omega) q (he ▸ hq') hq
        · by_cases eb : i = b
          · subst eb
            rw [List.getElem_set_self, List.getElem_set_ne ea]
            exact fun q hq q' hq' he => hdis a ha (by omega) q hq (he ▸ hq')
          · rw [List.getElem_set_ne ea, List.getElem_set_ne eb]
            exact h3 a b ha hb hab
  · rcases hin q hq with hq | hq
    · rcases hS q hq with hq | hq
      · exact .inl (blksC_mem hi hq)
      · exact .inr hq
    · exact .inl hq
end
end Go.Q

/- Layer 7: a put never falls below what is held. -/
set_option linter.unusedVariables false
set_option linter.unusedSimpArgs false
namespace Go.Q
open Go
end Go.Q

