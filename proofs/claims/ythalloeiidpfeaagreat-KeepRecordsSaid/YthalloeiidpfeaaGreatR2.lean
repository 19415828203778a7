/- Part of the proof (R2): an engine, rules or contracts of the functions; it states nothing of the claim by itself. -/
import Derived.Test.YthalloeiidpfeaaGreatR1

set_option linter.unusedVariables false
set_option linter.unusedSimpArgs false
namespace Go.Proofs
open Go Go.Q Tryz
set_option maxRecDepth 100000
def Fn49_s0 (R : KW) (w : World) : Prop :=
 R (.int .i64 0) w
theorem Fn49_s0_eq (R : KW) : ∀ e w, liK 221 (sbK f22 [1, 1, 1, 1, 1, 1, 1]) (fiK f22 R) e w = Fn49_s0 R w := fun e w => by kernel_rfl
def Fn49_b1 (R : KW) (N1 : KL) (x3 x4 x180 x181 x182 : Value) (w : World) : Prop :=
 qG prog (bq .lss 3 (.tmp 182) (.tmp 181) x182 x181) w fun t183 =>
 bV t183
 (ia 4 x180 x182 fun t184 =>
 ldn 4 t184 w fun t185 =>
 newG (zc prog 48) 48 w fun t18 w =>
 stn 4 t18 t185 w fun w =>
 ldn 4 t18 w fun t188 =>
 callG prog 53 #[t188] w fun t189 w =>
 qG prog (Instr.lookup 97 x3 t189 false) w fun t190 =>
 callG prog 56 #[t190] w fun t191 w =>
 qG prog (Instr.extract t191 0) w fun t192 =>
 qG prog (Instr.extract t191 1) w fun t193 =>
 ldn 4 t18 w fun t196 =>
 callG prog 53 #[t196] w fun t197 w =>
 qG prog (Instr.lookup 97 x4 t197 false) w fun t198 =>
 callG prog 56 #[t198] w fun t199 w =>
 qG prog (Instr.extract t199 0) w fun t200 =>
 qG prog (Instr.extract t199 1) w fun t201 =>
 qG prog (bq .neq 30 (.tmp 202) (.const (.int .i64 0)) t193 (.int .i64 0)) w fun t203 =>
 bV t203
 (R (.int .i64 1) w)
 (qG prog (bq .neq 30 (.tmp 205) (.const (.int .i64 0)) t201 (.int .i64 0)) w fun t206 =>
 bV t206
 (R (.int .i64 1) w)
 (fa 3 t18 fun t210 =>
 ld1 t210 w fun t211 =>
 qG prog (bq .neq 3 (.tmp 209) (.tmp 211) t192 t211) w fun t212 =>
 bV t212
 (R (.int .i64 1) w)
 (fa 2 t18 fun t216 =>
 ld1 t216 w fun t217 =>
 qG prog (bq .neq 3 (.tmp 215) (.tmp 217) t200 t217) w fun t218 =>
 bV t218
 (R (.int .i64 1) w)
 (qG prog (bq .add 3 (.tmp 182) (.const (.int .i64 1)) x182 (.int .i64 1)) w fun t220 =>
 N1 [x3, x4, x180, x181, t220] w)))))
 (Fn49_s0 R  w)
theorem Fn49_b1_eq (R : KW) (N1 : KL) : ∀ e w, liK 221 (sbK f22 [1, 1, 1, 1, 1, 1, 0, 1, 0, 0]) (seqK (fun e w => N1 [e 3, e 4, e 180, e 181, e 182] w) (blockK 6 (seqK (fun e w => Fn49_s0 R  w) (fiK f22 R)))) e w = Fn49_b1 R N1 (e 3) (e 4) (e 180) (e 181) (e 182) w := fun e w => by kernel_rfl
def Fn49_L2F (R : KW) (N1 : KL) (xs : List Value) (w : World) : Prop :=
 match xs with
 | [x3, x4, x180, x181, x182] => Fn49_b1 R N1 x3 x4 x180 x181 x182 w
 | _ => False
def Fn49_L2 (R : KW) (x3 x4 x180 x181 x182 : Value) (w : World) : Prop :=
 ∃ m, loopV (Fn49_L2F R) m [x3, x4, x180, x181, x182] w
theorem Fn49_L2_eq (R : KW) : ∀ e w, liK 221 (sbK f22 [1, 1, 1, 1, 1, 1, 0, 1, 0]) (blockK 6 (seqK (fun e w => Fn49_s0 R  w) (fiK f22 R))) e w = Fn49_L2 R (e 3) (e 4) (e 180) (e 181) (e 182) w := loop_seg (F := Fn49_L2F R) (sel := fun e => [e 3, e 4, e 180, e 181, e 182]) fun N1 => (Fn49_b1_eq R N1)
def Fn49_s3 (R : KW) (x1 x3 x4 : Value) (w : World) : Prop :=
 fa 0 x1 fun t179 =>
 ld1 t179 w fun t180 =>
 lenL t180 fun t181 =>
 Fn49_L2 R x3 x4 t180 t181 (.int .i64 0) w
theorem Fn49_s3_eq (R : KW) : ∀ e w, liK 221 (sbK f22 [1, 1, 1, 1, 1, 1, 0]) (seqK (fun e w => Fn49_s0 R  w) (fiK f22 R)) e w = Fn49_s3 R (e 1) (e 3) (e 4) w :=
 segs_eq (l := [(sbK f22 [1, 1, 1, 1, 1, 1, 0, 0])]) (y := (sbK f22 [1, 1, 1, 1, 1, 1, 0, 1])) (Y := (fun e w => Fn49_L2 R (e 3) (e 4) (e 180) (e 181) (e 182) w)) (Fn49_L2_eq R) (fun e w => by kernel_rfl)
def Fn49_s4 (R : KW) (N1 : KL) (x1 x3 x4 x143 x144 x145 : Value) (w : World) : Prop :=
 qG prog (bq .add 3 (.tmp 145) (.const (.int .i64 1)) x145 (.int .i64 1)) w fun t178 =>
 N1 [x1, x3, x4, x143, x144, t178] w
theorem Fn49_s4_eq (R : KW) (N1 : KL) : ∀ e w, liK 221 (sbK f22 [1, 1, 1, 1, 1, 0, 1, 0, 0, 1, 1, 1]) (seqK (fun e w => N1 [e 1, e 3, e 4, e 143, e 144, e 145] w) (blockK 4 (seqK (fun e w => Fn49_s3 R (e 1) (e 3) (e 4) w) (fiK f22 R)))) e w = Fn49_s4 R N1 (e 1) (e 3) (e 4) (e 143) (e 144) (e 145) w := fun e w => by kernel_rfl
def Fn49_s5 (R : KW) (N1 : KL) (x1 x3 x4 x13 x14 x143 x144 x145 : Value) (w : World) : Prop :=
 ldn 2 x14 w fun t170 =>
 fa 3 x13 fun t172 =>
 ld1 t172 w fun t173 =>
 bsl 3 1 1 (zc prog 3) #[(0, t173)] w fun t174 w =>
 eG prog (Instr.mapEntry 97 x4 t170) w fun t175 w =>
 qG prog (Instr.extract t175 0) w fun t171 =>
 app 3 1 8 (zc prog 3) t171 t174 w fun t176 w =>
 qG prog (Instr.extract t175 1) w fun t177 =>
 uG prog (Instr.entryStore 97 x4 t177 t176) w fun w =>
 Fn49_s4 R N1 x1 x3 x4 x143 x144 x145 w
theorem Fn49_s5_eq (R : KW) (N1 : KL) : ∀ e w, liK 221 (sbK f22 [1, 1, 1, 1, 1, 0, 1, 0, 0, 1, 1, 0, 0, 1, 1, 1]) (blockK 5 (seqK (fun e w => Fn49_s4 R N1 (e 1) (e 3) (e 4) (e 143) (e 144) (e 145) w) (seqK (fun e w => N1 [e 1, e 3, e 4, e 143, e 144, e 145] w) (blockK 4 (seqK (fun e w => Fn49_s3 R (e 1) (e 3) (e 4) w) (fiK f22 R)))))) e w = Fn49_s5 R N1 (e 1) (e 3) (e 4) (e 13) (e 14) (e 143) (e 144) (e 145) w := fun e w => by kernel_rfl
def Fn49_s6 (R : KW) (N1 : KL) (x1 x3 x4 x143 x144 x145 : Value) (w : World) : Prop :=
 ia 6 x143 x145 fun t148 =>
 ldn 6 t148 w fun t149 =>
 newG (zc prog 73) 73 w fun t13 w =>
 stn 6 t13 t149 w fun w =>
 fa 1 t13 fun t150 =>
 ld1 t150 w fun t151 =>
 fa 2 t13 fun t152 =>
 ld1 t152 w fun t153 =>
 bld [(0, 1), (1, 1)] (zc prog 101) #[(0, t151), (1, t153)] fun t154 =>
 newG (zc prog 101) 101 w fun t14 w =>
 stn 2 t14 t154 w fun w =>
 ldn 2 t14 w fun t157 =>
 qG prog (Instr.lookup 97 x4 t157 true) w fun t158 =>
 qG prog (Instr.extract t158 0) w fun t159 =>
 qG prog (Instr.extract t158 1) w fun t160 =>
 qG prog (Op.unary .not t160) w fun t162 =>
 bV t162
 (R (.int .i64 1) w)
 (ldn 6 t13 w fun t165 =>
 callG prog 55 #[x145, t165] w fun t166 w =>
 qG prog (Op.unary .not t166) w fun t167 =>
 bV t167
 (R (.int .i64 1) w)
 (Fn49_s5 R N1 x1 x3 x4 t13 t14 x143 x144 x145 w))
theorem Fn49_s6_eq (R : KW) (N1 : KL) : ∀ e w, liK 221 (sbK f22 [1, 1, 1, 1, 1, 0, 1, 0, 0, 1, 1, 0, 0]) (blockK 5 (seqK (fun e w => Fn49_s4 R N1 (e 1) (e 3) (e 4) (e 143) (e 144) (e 145) w) (seqK (fun e w => N1 [e 1, e 3, e 4, e 143, e 144, e 145] w) (blockK 4 (seqK (fun e w => Fn49_s3 R (e 1) (e 3) (e 4) w) (fiK f22 R)))))) e w = Fn49_s6 R N1 (e 1) (e 3) (e 4) (e 143) (e 144) (e 145) w :=
 segs_eq (l := [(sbK f22 [1, 1, 1, 1, 1, 0, 1, 0, 0, 1, 1, 0, 0, 0]), (sbK f22 [1, 1, 1, 1, 1, 0, 1, 0, 0, 1, 1, 0, 0, 1, 0]), (sbK f22 [1, 1, 1, 1, 1, 0, 1, 0, 0, 1, 1, 0, 0, 1, 1, 0])]) (y := (sbK f22 [1, 1, 1, 1, 1, 0, 1, 0, 0, 1, 1, 0, 0, 1, 1, 1])) (Y := (fun e w => Fn49_s5 R N1 (e 1) (e 3) (e 4) (e 13) (e 14) (e 143) (e 144) (e 145) w)) (Fn49_s5_eq R N1) (fun e w => by kernel_rfl)
def Fn49_s7 (R : KW) (N1 : KL) (x1 x3 x4 x143 x144 x145 : Value) (w : World) : Prop :=
 qG prog (bq .lss 3 (.tmp 145) (.tmp 144) x145 x144) w fun t146 =>
 bV t146
 (Fn49_s6 R N1 x1 x3 x4 x143 x144 x145 w)
 (Fn49_s3 R x1 x3 x4 w)
theorem Fn49_s7_eq (R : KW) (N1 : KL) : ∀ e w, liK 221 (sbK f22 [1, 1, 1, 1, 1, 0, 1, 0, 0]) (seqK (fun e w => N1 [e 1, e 3, e 4, e 143, e 144, e 145] w) (blockK 4 (seqK (fun e w => Fn49_s3 R (e 1) (e 3) (e 4) w) (fiK f22 R)))) e w = Fn49_s7 R N1 (e 1) (e 3) (e 4) (e 143) (e 144) (e 145) w :=
 segs_eq (l := [(sbK f22 [1, 1, 1, 1, 1, 0, 1, 0, 0, 0]), (sbK f22 [1, 1, 1, 1, 1, 0, 1, 0, 0, 1, 0])]) (y := (sbK f22 [1, 1, 1, 1, 1, 0, 1, 0, 0, 1, 1])) (Y := (fun e w => Fn49_s6 R N1 (e 1) (e 3) (e 4) (e 143) (e 144) (e 145) w)) (seq_seg (x := (sbK f22 [1, 1, 1, 1, 1, 0, 1, 0, 0, 1, 1, 0])) (y := (sbK f22 [1, 1, 1, 1, 1, 0, 1, 0, 0, 1, 1, 1])) (Fn49_s4_eq R N1) (Fn49_s6_eq R N1)) (fun e w => by kernel_rfl)
def Fn49_L8F (R : KW) (N1 : KL) (xs : List Value) (w : World) : Prop :=
 match xs with
 | [x1, x3, x4, x143, x144, x145] => Fn49_s7 R N1 x1 x3 x4 x143 x144 x145 w
 | _ => False
def Fn49_L8 (R : KW) (x1 x3 x4 x143 x144 x145 : Value) (w : World) : Prop :=
 ∃ m, loopV (Fn49_L8F R) m [x1, x3, x4, x143, x144, x145] w
theorem Fn49_L8_eq (R : KW) : ∀ e w, liK 221 (sbK f22 [1, 1, 1, 1, 1, 0, 1, 0]) (blockK 4 (seqK (fun e w => Fn49_s3 R (e 1) (e 3) (e 4) w) (fiK f22 R))) e w = Fn49_L8 R (e 1) (e 3) (e 4) (e 143) (e 144) (e 145) w := loop_seg (F := Fn49_L8F R) (sel := fun e => [e 1, e 3, e 4, e 143, e 144, e 145]) fun N1 => (Fn49_s7_eq R N1)
def Fn49_s9 (R : KW) (x1 x3 x4 : Value) (w : World) : Prop :=
 fa 2 x1 fun t142 =>
 ld1 t142 w fun t143 =>
 lenL t143 fun t144 =>
 Fn49_L8 R x1 x3 x4 t143 t144 (.int .i64 0) w
theorem Fn49_s9_eq (R : KW) : ∀ e w, liK 221 (sbK f22 [1, 1, 1, 1, 1, 0]) (seqK (fun e w => Fn49_s3 R (e 1) (e 3) (e 4) w) (fiK f22 R)) e w = Fn49_s9 R (e 1) (e 3) (e 4) w :=
 segs_eq (l := [(sbK f22 [1, 1, 1, 1, 1, 0, 0])]) (y := (sbK f22 [1, 1, 1, 1, 1, 0, 1])) (Y := (fun e w => Fn49_L8 R (e 1) (e 3) (e 4) (e 143) (e 144) (e 145) w)) (Fn49_L8_eq R) (fun e w => by kernel_rfl)
def Fn49_s10 (R : KW) (N1 : KL) (x1 x3 x4 x98 x99 x100 : Value) (w : World) : Prop :=
 qG prog (bq .add 3 (.tmp 100) (.const (.int .i64 1)) x100 (.int .i64 1)) w fun t141 =>
 N1 [x1, x3, x4, x98, x99, t141] w
theorem Fn49_s10_eq (R : KW) (N1 : KL) : ∀ e w, liK 221 (sbK f22 [1, 1, 1, 1, 0, 1, 0, 0, 1, 1, 1]) (seqK (fun e w => N1 [e 1, e 3, e 4, e 98, e 99, e 100] w) (blockK 2 (seqK (fun e w => Fn49_s9 R (e 1) (e 3) (e 4) w) (fiK f22 R)))) e w = Fn49_s10 R N1 (e 1) (e 3) (e 4) (e 98) (e 99) (e 100) w := fun e w => by kernel_rfl
def Fn49_s11 (R : KW) (N1 : KL) (x1 x3 x4 x8 x9 x98 x99 x100 : Value) (w : World) : Prop :=
 fa 4 x8 fun t129 =>
 ld1 t129 w fun t130 =>
 qG prog (bq .eql 3 (.tmp 130) (.const (.int .i64 0)) t130 (.int .i64 0)) w fun t131 =>
 bV t131
 (ldn 2 x9 w fun t133 =>
 fa 3 x8 fun t135 =>
 ld1 t135 w fun t136 =>
 bsl 3 1 1 (zc prog 3) #[(0, t136)] w fun t137 w =>
 eG prog (Instr.mapEntry 97 x3 t133) w fun t138 w =>
 qG prog (Instr.extract t138 0) w fun t134 =>
 app 3 1 8 (zc prog 3) t134 t137 w fun t139 w =>
 qG prog (Instr.extract t138 1) w fun t140 =>
 uG prog (Instr.entryStore 97 x3 t140 t139) w fun w =>
 Fn49_s10 R N1 x1 x3 x4 x98 x99 x100 w)
 (Fn49_s10 R N1 x1 x3 x4 x98 x99 x100 w)
theorem Fn49_s11_eq (R : KW) (N1 : KL) : ∀ e w, liK 221 (sbK f22 [1, 1, 1, 1, 0, 1, 0, 0, 1, 1, 0, 0, 1, 1, 1, 1]) (blockK 3 (seqK (fun e w => Fn49_s10 R N1 (e 1) (e 3) (e 4) (e 98) (e 99) (e 100) w) (seqK (fun e w => N1 [e 1, e 3, e 4, e 98, e 99, e 100] w) (blockK 2 (seqK (fun e w => Fn49_s9 R (e 1) (e 3) (e 4) w) (fiK f22 R)))))) e w = Fn49_s11 R N1 (e 1) (e 3) (e 4) (e 8) (e 9) (e 98) (e 99) (e 100) w := fun e w => by kernel_rfl
def Fn49_s12 (R : KW) (N1 : KL) (x1 x3 x4 x98 x99 x100 : Value) (w : World) : Prop :=
 ia 6 x98 x100 fun t103 =>
 ldn 6 t103 w fun t104 =>
 newG (zc prog 70) 70 w fun t8 w =>
 stn 6 t8 t104 w fun w =>
 fa 1 t8 fun t105 =>
 ld1 t105 w fun t106 =>
 fa 2 t8 fun t107 =>
 ld1 t107 w fun t108 =>
 bld [(0, 1), (1, 1)] (zc prog 101) #[(0, t106), (1, t108)] fun t109 =>
 newG (zc prog 101) 101 w fun t9 w =>
 stn 2 t9 t109 w fun w =>
 ldn 2 t9 w fun t112 =>
 qG prog (Instr.lookup 97 x3 t112 true) w fun t113 =>
 qG prog (Instr.extract t113 0) w fun t114 =>
 qG prog (Instr.extract t113 1) w fun t115 =>
 ldn 6 t8 w fun t117 =>
 callG prog 54 #[x100, t117] w fun t118 w =>
 qG prog (Op.unary .not t118) w fun t119 =>
 bV t119
 (R (.int .i64 1) w)
 (fa 4 t8 fun t121 =>
 ld1 t121 w fun t122 =>
 qG prog (bq .eql 3 (.tmp 122) (.const (.int .i64 0)) t122 (.int .i64 0)) w fun t123 =>
 bV t123
 (qG prog (Op.unary .not t115) w fun t126 =>
 bV t126
 (R (.int .i64 1) w)
 (Fn49_s11 R N1 x1 x3 x4 t8 t9 x98 x99 x100 w))
 (Fn49_s11 R N1 x1 x3 x4 t8 t9 x98 x99 x100 w))
theorem Fn49_s12_eq (R : KW) (N1 : KL) : ∀ e w, liK 221 (sbK f22 [1, 1, 1, 1, 0, 1, 0, 0, 1, 1, 0, 0]) (blockK 3 (seqK (fun e w => Fn49_s10 R N1 (e 1) (e 3) (e 4) (e 98) (e 99) (e 100) w) (seqK (fun e w => N1 [e 1, e 3, e 4, e 98, e 99, e 100] w) (blockK 2 (seqK (fun e w => Fn49_s9 R (e 1) (e 3) (e 4) w) (fiK f22 R)))))) e w = Fn49_s12 R N1 (e 1) (e 3) (e 4) (e 98) (e 99) (e 100) w :=
 segs_eq (l := [(sbK f22 [1, 1, 1, 1, 0, 1, 0, 0, 1, 1, 0, 0, 0]), (sbK f22 [1, 1, 1, 1, 0, 1, 0, 0, 1, 1, 0, 0, 1, 0]), (sbK f22 [1, 1, 1, 1, 0, 1, 0, 0, 1, 1, 0, 0, 1, 1, 0]), (sbK f22 [1, 1, 1, 1, 0, 1, 0, 0, 1, 1, 0, 0, 1, 1, 1, 0])]) (y := (sbK f22 [1, 1, 1, 1, 0, 1, 0, 0, 1, 1, 0, 0, 1, 1, 1, 1])) (Y := (fun e w => Fn49_s11 R N1 (e 1) (e 3) (e 4) (e 8) (e 9) (e 98) (e 99) (e 100) w)) (Fn49_s11_eq R N1) (fun e w => by kernel_rfl)
def Fn49_s13 (R : KW) (N1 : KL) (x1 x3 x4 x98 x99 x100 : Value) (w : World) : Prop :=
 qG prog (bq .lss 3 (.tmp 100) (.tmp 99) x100 x99) w fun t101 =>
 bV t101
 (Fn49_s12 R N1 x1 x3 x4 x98 x99 x100 w)
 (Fn49_s9 R x1 x3 x4 w)
theorem Fn49_s13_eq (R : KW) (N1 : KL) : ∀ e w, liK 221 (sbK f22 [1, 1, 1, 1, 0, 1, 0, 0]) (seqK (fun e w => N1 [e 1, e 3, e 4, e 98, e 99, e 100] w) (blockK 2 (seqK (fun e w => Fn49_s9 R (e 1) (e 3) (e 4) w) (fiK f22 R)))) e w = Fn49_s13 R N1 (e 1) (e 3) (e 4) (e 98) (e 99) (e 100) w :=
 segs_eq (l := [(sbK f22 [1, 1, 1, 1, 0, 1, 0, 0, 0]), (sbK f22 [1, 1, 1, 1, 0, 1, 0, 0, 1, 0])]) (y := (sbK f22 [1, 1, 1, 1, 0, 1, 0, 0, 1, 1])) (Y := (fun e w => Fn49_s12 R N1 (e 1) (e 3) (e 4) (e 98) (e 99) (e 100) w)) (seq_seg (x := (sbK f22 [1, 1, 1, 1, 0, 1, 0, 0, 1, 1, 0])) (y := (sbK f22 [1, 1, 1, 1, 0, 1, 0, 0, 1, 1, 1])) (Fn49_s10_eq R N1) (Fn49_s12_eq R N1)) (fun e w => by kernel_rfl)
def Fn49_L14F (R : KW) (N1 : KL) (xs : List Value) (w : World) : Prop :=
 match xs with
 | [x1, x3, x4, x98, x99, x100] => Fn49_s13 R N1 x1 x3 x4 x98 x99 x100 w
 | _ => False
def Fn49_L14 (R : KW) (x1 x3 x4 x98 x99 x100 : Value) (w : World) : Prop :=
 ∃ m, loopV (Fn49_L14F R) m [x1, x3, x4, x98, x99, x100] w
theorem Fn49_L14_eq (R : KW) : ∀ e w, liK 221 (sbK f22 [1, 1, 1, 1, 0, 1, 0]) (blockK 2 (seqK (fun e w => Fn49_s9 R (e 1) (e 3) (e 4) w) (fiK f22 R))) e w = Fn49_L14 R (e 1) (e 3) (e 4) (e 98) (e 99) (e 100) w := loop_seg (F := Fn49_L14F R) (sel := fun e => [e 1, e 3, e 4, e 98, e 99, e 100]) fun N1 => (Fn49_s13_eq R N1)
def Fn49_s15 (R : KW) (x1 x3 x4 : Value) (w : World) : Prop :=
 fa 1 x1 fun t97 =>
 ld1 t97 w fun t98 =>
 lenL t98 fun t99 =>
 Fn49_L14 R x1 x3 x4 t98 t99 (.int .i64 0) w
theorem Fn49_s15_eq (R : KW) : ∀ e w, liK 221 (sbK f22 [1, 1, 1, 1, 0]) (seqK (fun e w => Fn49_s9 R (e 1) (e 3) (e 4) w) (fiK f22 R)) e w = Fn49_s15 R (e 1) (e 3) (e 4) w :=
 segs_eq (l := [(sbK f22 [1, 1, 1, 1, 0, 0])]) (y := (sbK f22 [1, 1, 1, 1, 0, 1])) (Y := (fun e w => Fn49_L14 R (e 1) (e 3) (e 4) (e 98) (e 99) (e 100) w)) (Fn49_L14_eq R) (fun e w => by kernel_rfl)
def Fn49_s16 (R : KW) (N1 : KL) (x1 x3 x4 x42 x43 x44 : Value) (w : World) : Prop :=
 qG prog (bq .add 3 (.tmp 44) (.const (.int .i64 1)) x44 (.int .i64 1)) w fun t96 =>
 N1 [x1, x3, x4, x42, x43, t96] w
theorem Fn49_s16_eq (R : KW) (N1 : KL) : ∀ e w, liK 221 (sbK f22 [1, 1, 1, 0, 1, 0, 0, 1, 1, 1]) (seqK (fun e w => N1 [e 1, e 3, e 4, e 42, e 43, e 44] w) (blockK 0 (seqK (fun e w => Fn49_s15 R (e 1) (e 3) (e 4) w) (fiK f22 R)))) e w = Fn49_s16 R N1 (e 1) (e 3) (e 4) (e 42) (e 43) (e 44) w := fun e w => by kernel_rfl
def Fn49_s17 (R : KW) (N1 : KL) (x1 x3 x4 x6 x42 x43 x44 : Value) (w : World) : Prop :=
 ldn 4 x6 (World.drew w) fun t89 =>
 ldn 4 x6 (World.drew w) fun t92 =>
 callG prog 53 #[t89] (World.drew w) fun t90 w =>
 ldn 4 x6 w (fun u => u = t92) ∧
 callG prog 53 #[t92] w fun t93 w =>
 eG prog (Instr.mapEntry 97 x3 t90) w fun t94 w =>
 qG prog (Instr.extract t94 1) w fun t95 =>
 uG prog (Instr.entryStore 97 x3 t95 (.slice none 0 0)) w fun w =>
 uG prog (Instr.mapUpdate 97 x4 t93 (.slice none 0 0)) w fun w =>
 Fn49_s16 R N1 x1 x3 x4 x42 x43 x44 w
theorem Fn49_s17_eq (R : KW) (N1 : KL) : ∀ e w, liK 221 (sbK f22 [1, 1, 1, 0, 1, 0, 0, 1, 1, 0, 0, 1, 1]) (blockK 1 (seqK (fun e w => Fn49_s16 R N1 (e 1) (e 3) (e 4) (e 42) (e 43) (e 44) w) (seqK (fun e w => N1 [e 1, e 3, e 4, e 42, e 43, e 44] w) (blockK 0 (seqK (fun e w => Fn49_s15 R (e 1) (e 3) (e 4) w) (fiK f22 R)))))) e w = Fn49_s17 R N1 (e 1) (e 3) (e 4) (e 6) (e 42) (e 43) (e 44) w := fun e w => by kernel_rfl
def Fn49_s18 (R : KW) (N1 : KL) (x1 x3 x4 x42 x43 x44 : Value) (w : World) : Prop :=
 ia 4 x42 x44 fun t47 =>
 ldn 4 t47 w fun t48 =>
 newG (zc prog 48) 48 w fun t6 w =>
 stn 4 t6 t48 w fun w =>
 fa 0 t6 fun t49 =>
 ld1 t49 (World.drew w) fun t50 =>
 callG prog 51 #[t50] (World.drew w) fun t51 w =>
 qG prog (Op.unary .not t51) w fun t52 =>
 bV t52
 (R (.int .i64 1) w)
 (fa 1 t6 fun t54 =>
 ld1 t54 w fun t55 =>
 callG prog 51 #[t55] w fun t56 w =>
 qG prog (Op.unary .not t56) w fun t57 =>
 bV t57
 (R (.int .i64 1) w)
 (fa 3 t6 fun t60 =>
 ld1 t60 w fun t61 =>
 qG prog (bq .lss 3 (.tmp 61) (.const (.int .i64 0)) t61 (.int .i64 0)) w fun t62 =>
 bV t62
 (R (.int .i64 1) w)
 (fa 3 t6 fun t65 =>
 ld1 t65 w fun t66 =>
 fa 2 t6 fun t67 =>
 ld1 t67 w fun t68 =>
 qG prog (bq .gtr 3 (.tmp 66) (.tmp 68) t66 t68) w fun t69 =>
 bV t69
 (R (.int .i64 1) w)
 (qG prog (bq .gtr 3 (.tmp 72) (.const (.int .i64 0)) x44 (.int .i64 0)) w fun t73 =>
 bV t73
 (fa 0 x1 fun t75 =>
 ld1 t75 w fun t76 =>
 qG prog (bq .sub 3 (.tmp 77) (.const (.int .i64 1)) x44 (.int .i64 1)) w fun t78 =>
 ia 4 t76 t78 fun t79 =>
 ldn 4 t79 w fun t80 =>
 ldn 4 t6 w fun t82 =>
 callG prog 53 #[t80] w fun t81 w =>
 ldn 4 t6 w (fun u => u = t82) ∧
 callG prog 53 #[t82] w fun t83 w =>
 callG prog 52 #[t81, t83] w fun t84 w =>
 qG prog (bq .geq 3 (.tmp 84) (.const (.int .i64 0)) t84 (.int .i64 0)) w fun t85 =>
 bV t85
 (R (.int .i64 1) w)
 (Fn49_s17 R N1 x1 x3 x4 t6 x42 x43 x44 w))
 (Fn49_s17 R N1 x1 x3 x4 t6 x42 x43 x44 w)))))
theorem Fn49_s18_eq (R : KW) (N1 : KL) : ∀ e w, liK 221 (sbK f22 [1, 1, 1, 0, 1, 0, 0, 1, 1, 0, 0]) (blockK 1 (seqK (fun e w => Fn49_s16 R N1 (e 1) (e 3) (e 4) (e 42) (e 43) (e 44) w) (seqK (fun e w => N1 [e 1, e 3, e 4, e 42, e 43, e 44] w) (blockK 0 (seqK (fun e w => Fn49_s15 R (e 1) (e 3) (e 4) w) (fiK f22 R)))))) e w = Fn49_s18 R N1 (e 1) (e 3) (e 4) (e 42) (e 43) (e 44) w :=
 segs_eq (l := [(sbK f22 [1, 1, 1, 0, 1, 0, 0, 1, 1, 0, 0, 0]), (sbK f22 [1, 1, 1, 0, 1, 0, 0, 1, 1, 0, 0, 1, 0])]) (y := (sbK f22 [1, 1, 1, 0, 1, 0, 0, 1, 1, 0, 0, 1, 1])) (Y := (fun e w => Fn49_s17 R N1 (e 1) (e 3) (e 4) (e 6) (e 42) (e 43) (e 44) w)) (Fn49_s17_eq R N1) (fun e w => by kernel_rfl)
def Fn49_s19 (R : KW) (N1 : KL) (x1 x3 x4 x42 x43 x44 : Value) (w : World) : Prop :=
 qG prog (bq .lss 3 (.tmp 44) (.tmp 43) x44 x43) w fun t45 =>
 bV t45
 (Fn49_s18 R N1 x1 x3 x4 x42 x43 x44 w)
 (Fn49_s15 R x1 x3 x4 w)
theorem Fn49_s19_eq (R : KW) (N1 : KL) : ∀ e w, liK 221 (sbK f22 [1, 1, 1, 0, 1, 0, 0]) (seqK (fun e w => N1 [e 1, e 3, e 4, e 42, e 43, e 44] w) (blockK 0 (seqK (fun e w => Fn49_s15 R (e 1) (e 3) (e 4) w) (fiK f22 R)))) e w = Fn49_s19 R N1 (e 1) (e 3) (e 4) (e 42) (e 43) (e 44) w :=
 segs_eq (l := [(sbK f22 [1, 1, 1, 0, 1, 0, 0, 0]), (sbK f22 [1, 1, 1, 0, 1, 0, 0, 1, 0])]) (y := (sbK f22 [1, 1, 1, 0, 1, 0, 0, 1, 1])) (Y := (fun e w => Fn49_s18 R N1 (e 1) (e 3) (e 4) (e 42) (e 43) (e 44) w)) (seq_seg (x := (sbK f22 [1, 1, 1, 0, 1, 0, 0, 1, 1, 0])) (y := (sbK f22 [1, 1, 1, 0, 1, 0, 0, 1, 1, 1])) (Fn49_s16_eq R N1) (Fn49_s18_eq R N1)) (fun e w => by kernel_rfl)
def Fn49_L20F (R : KW) (N1 : KL) (xs : List Value) (w : World) : Prop :=
 match xs with
 | [x1, x3, x4, x42, x43, x44] => Fn49_s19 R N1 x1 x3 x4 x42 x43 x44 w
 | _ => False
def Fn49_L20 (R : KW) (x1 x3 x4 x42 x43 x44 : Value) (w : World) : Prop :=
 ∃ m, loopV (Fn49_L20F R) m [x1, x3, x4, x42, x43, x44] w
theorem Fn49_L20_eq (R : KW) : ∀ e w, liK 221 (sbK f22 [1, 1, 1, 0, 1, 0]) (blockK 0 (seqK (fun e w => Fn49_s15 R (e 1) (e 3) (e 4) w) (fiK f22 R))) e w = Fn49_L20 R (e 1) (e 3) (e 4) (e 42) (e 43) (e 44) w := loop_seg (F := Fn49_L20F R) (sel := fun e => [e 1, e 3, e 4, e 42, e 43, e 44]) fun N1 => (Fn49_s19_eq R N1)
def Fn49_s21 (R : KW) (x1 x3 x4 : Value) (w : World) : Prop :=
 fa 0 x1 fun t41 =>
 ld1 t41 w fun t42 =>
 lenL t42 fun t43 =>
 Fn49_L20 R x1 x3 x4 t42 t43 (.int .i64 0) w
theorem Fn49_s21_eq (R : KW) : ∀ e w, liK 221 (sbK f22 [1, 1, 1, 0]) (seqK (fun e w => Fn49_s15 R (e 1) (e 3) (e 4) w) (fiK f22 R)) e w = Fn49_s21 R (e 1) (e 3) (e 4) w :=
 segs_eq (l := [(sbK f22 [1, 1, 1, 0, 0])]) (y := (sbK f22 [1, 1, 1, 0, 1])) (Y := (fun e w => Fn49_L20 R (e 1) (e 3) (e 4) (e 42) (e 43) (e 44) w)) (Fn49_L20_eq R) (fun e w => by kernel_rfl)
def Fn49_s22 (R : KW) (x1 : Value) (w : World) : Prop :=
 eG prog (Instr.makeMap 97 none) w fun t39 w =>
 eG prog (Instr.makeMap 97 none) w fun t40 w =>
 Fn49_s21 R x1 t39 t40 w
theorem Fn49_s22_eq (R : KW) : ∀ e w, liK 221 (sbK f22 [1, 1]) (fiK f22 R) e w = Fn49_s22 R (e 1) w :=
 segs_eq (l := [(sbK f22 [1, 1, 0])]) (y := (sbK f22 [1, 1, 1])) (Y := (fun e w => Fn49_s21 R (e 1) (e 3) (e 4) w)) (seq_seg (x := (sbK f22 [1, 1, 1, 0])) (y := (sbK f22 [1, 1, 1, 1])) (seq_seg (x := (sbK f22 [1, 1, 1, 1, 0])) (y := (sbK f22 [1, 1, 1, 1, 1])) (seq_seg (x := (sbK f22 [1, 1, 1, 1, 1, 0])) (y := (sbK f22 [1, 1, 1, 1, 1, 1])) (seq_seg (x := (sbK f22 [1, 1, 1, 1, 1, 1, 0])) (y := (sbK f22 [1, 1, 1, 1, 1, 1, 1])) (Fn49_s0_eq R) (Fn49_s3_eq R)) (Fn49_s9_eq R)) (Fn49_s15_eq R)) (Fn49_s21_eq R)) (fun e w => by kernel_rfl)
def Fn49_s23 (R : KW) (x0 : Value) (w : World) : Prop :=
 newG (Value.cells x0) 26 w fun t1 w =>
 fa 3 t1 fun t23 =>
 ld1 t23 w fun t24 =>
 qG prog (bq .lss 3 (.tmp 24) (.const (.int .i64 0)) t24 (.int .i64 0)) w fun t25 =>
 bV t25
 (R (.int .i64 1) w)
 (fa 0 t1 fun t27 =>
 ld1 t27 w fun t28 =>
 lenL t28 fun t29 =>
 fa 1 t1 fun t30 =>
 ld1 t30 w fun t31 =>
 lenL t31 fun t32 =>
 fa 2 t1 fun t33 =>
 ld1 t33 w fun t34 =>
 lenL t34 fun t35 =>
 qG prog (Builtin.max_ #[3, 3, 3] 3 #[t29, t32, t35]) w fun t36 =>
 qG prog (bq .gtr 3 (.tmp 36) (.const (.int .i64 4096)) t36 (.int .i64 4096)) w fun t37 =>
 bV t37
 (R (.int .i64 1) w)
 (Fn49_s22 R t1 w))
theorem Fn49_s23_eq (R : KW) : ∀ e w, liK 221 (bodyOf f22) (fiK f22 R) e w = Fn49_s23 R (e 0) w :=
 segs_eq (l := [(sbK f22 [0]), (sbK f22 [1, 0])]) (y := (sbK f22 [1, 1])) (Y := (fun e w => Fn49_s22 R (e 1) w)) (Fn49_s22_eq R) (fun e w => by kernel_rfl)
def Fn49 (R : KW) (x0 : Value) (w : World) : Prop := Fn49_s23 R x0 w
theorem Fn49_call {R : KW} {x0 : Value} {w : World} (h : Fn49 R x0 w) : callG prog 22 #[x0] w R :=
 calls_lift_eq mixed func22 (args := [x0]) rfl rfl rfl rfl ((Fn49_s23_eq R) (envOf [x0]) w) (by kernel_rfl) h
end Go.Proofs

set_option linter.unusedVariables false
set_option linter.unusedSimpArgs false
namespace Go.Proofs
open Go Go.Q Tryz
set_option maxRecDepth 100000
def Fn51_s0 (R : KW) (x0 x1 x2 : Value) (w : World) : Prop :=
 newG (Value.cells x0) 48 w fun t3 w =>
 fa 0 t3 fun t5 =>
 ld1 t5 w fun t6 =>
 ld1 x1 w fun t7 =>
 qG prog (bq .eql 9 (.tmp 6) (.tmp 7) t6 t7) w fun t8 =>
 bV t8
 (fa 1 t3 fun t10 =>
 ld1 t10 w fun t11 =>
 ld1 x2 w fun t12 =>
 qG prog (bq .eql 9 (.tmp 11) (.tmp 12) t11 t12) w fun t13 =>
 R t13 w)
 (R (.bool false) w)
theorem Fn51_s0_eq (R : KW) : ∀ e w, liK 15 (bodyOf f145) (fiK f145 R) e w = Fn51_s0 R (e 0) (e 1) (e 2) w := fun e w => by kernel_rfl
def Fn51 (R : KW) (x0 x1 x2 : Value) (w : World) : Prop := Fn51_s0 R x0 x1 x2 w
theorem Fn51_call {R : KW} {x0 x1 x2 : Value} {w : World} (h : Fn51 R x0 x1 x2 w) : callG prog 145 #[x0, x1, x2] w R :=
 calls_lift_eq mixed func145 (args := [x0, x1, x2]) rfl rfl rfl rfl ((Fn51_s0_eq R) (envOf [x0, x1, x2]) w) (by kernel_rfl) h
def Fn104_s0 (R : KW) (w : World) : Prop :=
 R (.int .i64 (-1)) w
theorem Fn104_s0_eq (R : KW) : ∀ e w, liK 19 (sbK f144 [1, 1]) (fiK f144 R) e w = Fn104_s0 R w := fun e w => by kernel_rfl
def Fn104_b1 (R : KW) (N1 : KL) (x0 x1 x7 x8 : Value) (w : World) : Prop :=
 qG prog (bq .lss 3 (.tmp 8) (.tmp 7) x8 x7) w fun t9 =>
 bV t9
 (ia 4 x0 x8 fun t14 =>
 ldn 4 t14 w fun t15 =>
 callV prog x1 #[t15] w fun t16 w =>
 bV t16
 (R x8 w)
 (qG prog (bq .add 3 (.tmp 8) (.const (.int .i64 1)) x8 (.int .i64 1)) w fun t18 =>
 N1 [x0, x1, x7, t18] w))
 (Fn104_s0 R  w)
theorem Fn104_b1_eq (R : KW) (N1 : KL) : ∀ e w, liK 19 (sbK f144 [1, 0, 1, 0, 0]) (seqK (fun e w => N1 [e 0, e 1, e 7, e 8] w) (blockK 0 (seqK (fun e w => Fn104_s0 R  w) (fiK f144 R)))) e w = Fn104_b1 R N1 (e 0) (e 1) (e 7) (e 8) w := fun e w => by kernel_rfl
def Fn104_L2F (R : KW) (N1 : KL) (xs : List Value) (w : World) : Prop :=
 match xs with
 | [x0, x1, x7, x8] => Fn104_b1 R N1 x0 x1 x7 x8 w
 | _ => False
def Fn104_L2 (R : KW) (x0 x1 x7 x8 : Value) (w : World) : Prop :=
 ∃ m, loopV (Fn104_L2F R) m [x0, x1, x7, x8] w
theorem Fn104_L2_eq (R : KW) : ∀ e w, liK 19 (sbK f144 [1, 0, 1, 0]) (blockK 0 (seqK (fun e w => Fn104_s0 R  w) (fiK f144 R))) e w = Fn104_L2 R (e 0) (e 1) (e 7) (e 8) w := loop_seg (F := Fn104_L2F R) (sel := fun e => [e 0, e 1, e 7, e 8]) fun N1 => (Fn104_b1_eq R N1)
def Fn104_s3 (R : KW) (x0 x1 : Value) (w : World) : Prop :=
 lenL x0 fun t7 =>
 Fn104_L2 R x0 x1 t7 (.int .i64 0) w
theorem Fn104_s3_eq (R : KW) : ∀ e w, liK 19 (sbK f144 [1, 0]) (seqK (fun e w => Fn104_s0 R  w) (fiK f144 R)) e w = Fn104_s3 R (e 0) (e 1) w :=
 segs_eq (l := [(sbK f144 [1, 0, 0])]) (y := (sbK f144 [1, 0, 1])) (Y := (fun e w => Fn104_L2 R (e 0) (e 1) (e 7) (e 8) w)) (Fn104_L2_eq R) (fun e w => by kernel_rfl)
def Fn104_s4 (R : KW) (x0 x1 : Value) (w : World) : Prop :=
 Fn104_s3 R x0 x1 w
theorem Fn104_s4_eq (R : KW) : ∀ e w, liK 19 (bodyOf f144) (fiK f144 R) e w = Fn104_s4 R (e 0) (e 1) w :=
 segs_eq (l := [(sbK f144 [0])]) (y := (sbK f144 [1])) (Y := (fun e w => Fn104_s3 R (e 0) (e 1) w)) (seq_seg (x := (sbK f144 [1, 0])) (y := (sbK f144 [1, 1])) (Fn104_s0_eq R) (Fn104_s3_eq R)) (fun e w => by kernel_rfl)
def Fn104 (R : KW) (x0 x1 : Value) (w : World) : Prop := Fn104_s4 R x0 x1 w
theorem Fn104_call {R : KW} {x0 x1 : Value} {w : World} (h : Fn104 R x0 x1 w) : callG prog 144 #[x0, x1] w R :=
 calls_lift_eq mixed func144 (args := [x0, x1]) rfl rfl rfl rfl ((Fn104_s4_eq R) (envOf [x0, x1]) w) (by kernel_rfl) h
def Fn50_s0 (R : KW) (x0 x1 x2 : Value) (w : World) : Prop :=
 newG (Value.cells x0) 26 w fun t3 w =>
 newG (Value.cells x1) 9 w fun t4 w =>
 newG (Value.cells x2) 9 w fun t5 w =>
 newG (zc prog 48) 48 w fun t6 w =>
 fa 0 t3 fun t8 =>
 ld1 t8 w fun t9 =>
 qG prog (Instr.makeFunc (.func 145) #[] #[t4, t5]) w fun t10 =>
 callG prog 144 #[t9, t10] w fun t11 w =>
 qG prog (bq .lss 3 (.tmp 12) (.const (.int .i64 0)) t11 (.int .i64 0)) w fun t13 =>
 bV t13
 (ld1 t4 w fun t14 =>
 ld1 t5 w fun t15 =>
 bld [(0, 1), (1, 1), (2, 1), (3, 1)] (zc prog 48) #[(0, t14), (1, t15)] fun t16 =>
 stn 4 t6 t16 w fun w =>
 qG prog (do loadVar 48 (← asAddr t6)) w fun r6 =>
 R r6 w)
 (fa 0 t3 fun t17 =>
 ld1 t17 w fun t18 =>
 ia 4 t18 t11 fun t20 =>
 ldn 4 t20 w fun t21 =>
 stn 4 t6 t21 w fun w =>
 qG prog (do loadVar 48 (← asAddr t6)) w fun r6_1 =>
 R r6_1 w)
theorem Fn50_s0_eq (R : KW) : ∀ e w, liK 22 (bodyOf f133) (fiK f133 R) e w = Fn50_s0 R (e 0) (e 1) (e 2) w := fun e w => by kernel_rfl
def Fn50 (R : KW) (x0 x1 x2 : Value) (w : World) : Prop := Fn50_s0 R x0 x1 x2 w
theorem Fn50_call {R : KW} {x0 x1 x2 : Value} {w : World} (h : Fn50 R x0 x1 x2 w) : callG prog 133 #[x0, x1, x2] w R :=
 calls_lift_eq mixed func133 (args := [x0, x1, x2]) rfl rfl rfl rfl ((Fn50_s0_eq R) (envOf [x0, x1, x2]) w) (by kernel_rfl) h
def Fn52_s0 (R : KW) (x0 x1 x2 : Value) (w : World) : Prop :=
 newG (Value.cells x0) 26 w fun t3 w =>
 ldn 4 t3 w fun t10 =>
 callG prog 133 #[t10, x1, x2] w fun t13 w =>
 newG (zc prog 48) 48 w fun t7 w =>
 stn 4 t7 t13 w fun w =>
 fa 2 t7 fun t15 =>
 ld1 t15 w fun t16 =>
 fa 3 t7 fun t17 =>
 ld1 t17 w fun t18 =>
 callG prog 142 #[t16, t18] w fun t19 w =>
 qG prog (Instr.extract t19 0) w fun t20 =>
 qG prog (Instr.extract t19 1) w fun t21 =>
 R t20 w
theorem Fn52_s0_eq (R : KW) : ∀ e w, liK 23 (bodyOf f131) (fiK f131 R) e w = Fn52_s0 R (e 0) (e 1) (e 2) w := fun e w => by kernel_rfl
def Fn52 (R : KW) (x0 x1 x2 : Value) (w : World) : Prop := Fn52_s0 R x0 x1 x2 w
theorem Fn52_call {R : KW} {x0 x1 x2 : Value} {w : World} (h : Fn52 R x0 x1 x2 w) : callG prog 131 #[x0, x1, x2] w R :=
 calls_lift_eq mixed func131 (args := [x0, x1, x2]) rfl rfl rfl rfl ((Fn52_s0_eq R) (envOf [x0, x1, x2]) w) (by kernel_rfl) h
def Fn101_s0 (R : KW) (x0 : Value) (w : World) : Prop :=
 qG prog (bq .eql 22 (.tmp 3) (.const (.slice none 0 0)) x0 (.slice none 0 0)) w fun t4 =>
 bV t4
 (R (.slice none 0 0) w)
 (bsl 48 4 0 (zc prog 48) #[] w fun t5 w =>
 app 48 4 48 (zc prog 48) t5 x0 w fun t7 w =>
 R t7 w)
theorem Fn101_s0_eq (R : KW) : ∀ e w, liK 8 (bodyOf f45) (fiK f45 R) e w = Fn101_s0 R (e 0) w := fun e w => by kernel_rfl
def Fn101 (R : KW) (x0 : Value) (w : World) : Prop := Fn101_s0 R x0 w
theorem Fn101_call {R : KW} {x0 : Value} {w : World} (h : Fn101 R x0 w) : callG prog 45 #[x0] w R :=
 calls_lift_eq mixed func45 (args := [x0]) rfl rfl rfl rfl ((Fn101_s0_eq R) (envOf [x0]) w) (by kernel_rfl) h
def Fn99_s0 (R : KW) (x0 : Value) (w : World) : Prop :=
 qG prog (bq .eql 23 (.tmp 3) (.const (.slice none 0 0)) x0 (.slice none 0 0)) w fun t4 =>
 bV t4
 (R (.slice none 0 0) w)
 (bsl 70 6 0 (zc prog 70) #[] w fun t5 w =>
 app 70 6 64 (zc prog 70) t5 x0 w fun t7 w =>
 R t7 w)
theorem Fn99_s0_eq (R : KW) : ∀ e w, liK 8 (bodyOf f46) (fiK f46 R) e w = Fn99_s0 R (e 0) w := fun e w => by kernel_rfl
def Fn99 (R : KW) (x0 : Value) (w : World) : Prop := Fn99_s0 R x0 w
theorem Fn99_call {R : KW} {x0 : Value} {w : World} (h : Fn99 R x0 w) : callG prog 46 #[x0] w R :=
 calls_lift_eq mixed func46 (args := [x0]) rfl rfl rfl rfl ((Fn99_s0_eq R) (envOf [x0]) w) (by kernel_rfl) h
def Fn100_s0 (R : KW) (x0 : Value) (w : World) : Prop :=
 qG prog (bq .eql 24 (.tmp 3) (.const (.slice none 0 0)) x0 (.slice none 0 0)) w fun t4 =>
 bV t4
 (R (.slice none 0 0) w)
 (bsl 73 6 0 (zc prog 73) #[] w fun t5 w =>
 app 73 6 64 (zc prog 73) t5 x0 w fun t7 w =>
 R t7 w)
theorem Fn100_s0_eq (R : KW) : ∀ e w, liK 8 (bodyOf f47) (fiK f47 R) e w = Fn100_s0 R (e 0) w := fun e w => by kernel_rfl
def Fn100 (R : KW) (x0 : Value) (w : World) : Prop := Fn100_s0 R x0 w
theorem Fn100_call {R : KW} {x0 : Value} {w : World} (h : Fn100 R x0 w) : callG prog 47 #[x0] w R :=
 calls_lift_eq mixed func47 (args := [x0]) rfl rfl rfl rfl ((Fn100_s0_eq R) (envOf [x0]) w) (by kernel_rfl) h
def Fn56_s0 (R : KW) (x0 x1 : Value) (w : World) : Prop :=
 newG (Value.cells x0) 48 w fun t2 w =>
 newG (Value.cells x1) 101 w fun t3 w =>
 ldn 4 t2 (World.drew w) fun t5 =>
 ldn 2 t3 (World.drew w) fun t7 =>
 callG prog 53 #[t5] (World.drew w) fun t6 w =>
 ldn 2 t3 w (fun u => u = t7) ∧
 callG prog 52 #[t6, t7] w fun t8 w =>
 R t8 w
theorem Fn56_s0_eq (R : KW) : ∀ e w, liK 9 (bodyOf f150) (fiK f150 R) e w = Fn56_s0 R (e 0) (e 1) w := fun e w => by kernel_rfl
def Fn56 (R : KW) (x0 x1 : Value) (w : World) : Prop := Fn56_s0 R x0 x1 w
theorem Fn56_call {R : KW} {x0 x1 : Value} {w : World} (h : Fn56 R x0 x1 w) : callG prog 150 #[x0, x1] w R :=
 calls_lift_eq mixed func150 (args := [x0, x1]) rfl rfl rfl rfl ((Fn56_s0_eq R) (envOf [x0, x1]) w) (by kernel_rfl) h
def Fn98_s0 (R : KW) (x0 x2 x4 x8 x9 : Value) (w : World) : Prop :=
 qG prog (bq .lss 3 (.tmp 36) (.tmp 37) x9 x8) (World.drew w) fun t38 =>
 bV t38
 (ia 4 x0 x9 fun t43 =>
 ldn 4 t43 (World.drew w) fun t44 =>
 ldn 2 x4 (World.drew w) fun t45 =>
 callV prog x2 #[t44, t45] (World.drew w) fun t46 w =>
 qG prog (bq .eql 3 (.tmp 46) (.const (.int .i64 0)) t46 (.int .i64 0)) w fun t47 =>
 R (.tuple #[x9, t47]) w)
 (R (.tuple #[x9, (.bool false)]) (World.drew w))
theorem Fn98_s0_eq (R : KW) : ∀ e w, liK 49 (sbK f149 [1, 1, 1, 1]) (fiK f149 R) e w = Fn98_s0 R (e 0) (e 2) (e 4) (e 8) (e 9) w := fun e w => by kernel_rfl
def Fn98_b1 (R : KW) (N1 : KL) (x0 x2 x4 x8 x9 x10 : Value) (w : World) : Prop :=
 qG prog (bq .lss 3 (.tmp 15) (.tmp 16) x9 x10) w fun t17 =>
 bV t17
 (qG prog (bq .add 3 (.tmp 18) (.tmp 19) x9 x10) w fun t20 =>
 cvI .u64 t20 fun t21 =>
 qG prog (bq .shr 149 (.tmp 21) (.const (.int .u64 1)) t21 (.int .u64 1)) w fun t22 =>
 cvI .i64 t22 fun t23 =>
 ia 4 x0 t23 fun t27 =>
 ldn 4 t27 (World.drew w) fun t28 =>
 ldn 2 x4 (World.drew w) fun t29 =>
 callV prog x2 #[t28, t29] (World.drew w) fun t30 w =>
 qG prog (bq .lss 3 (.tmp 30) (.const (.int .i64 0)) t30 (.int .i64 0)) w fun t31 =>
 bV t31
 (qG prog (bq .add 3 (.tmp 32) (.const (.int .i64 1)) t23 (.int .i64 1)) w fun t33 =>
 N1 [x0, x2, x4, x8, t33, x10] w)
 (N1 [x0, x2, x4, x8, x9, t23] w))
 (Fn98_s0 R x0 x2 x4 x8 x9 w)
theorem Fn98_b1_eq (R : KW) (N1 : KL) : ∀ e w, liK 49 (sbK f149 [1, 1, 1, 0, 0, 0]) (seqK (fun e w => N1 [e 0, e 2, e 4, e 8, e 9, e 10] w) (blockK 0 (seqK (fun e w => Fn98_s0 R (e 0) (e 2) (e 4) (e 8) (e 9) w) (fiK f149 R)))) e w = Fn98_b1 R N1 (e 0) (e 2) (e 4) (e 8) (e 9) (e 10) w := fun e w => by kernel_rfl
def Fn98_L2F (R : KW) (N1 : KL) (xs : List Value) (w : World) : Prop :=
 match xs with
 | [x0, x2, x4, x8, x9, x10] => Fn98_b1 R N1 x0 x2 x4 x8 x9 x10 w
 | _ => False
def Fn98_L2 (R : KW) (x0 x2 x4 x8 x9 x10 : Value) (w : World) : Prop :=
 ∃ m, loopV (Fn98_L2F R) m [x0, x2, x4, x8, x9, x10] w
theorem Fn98_L2_eq (R : KW) : ∀ e w, liK 49 (sbK f149 [1, 1, 1, 0, 0]) (blockK 0 (seqK (fun e w => Fn98_s0 R (e 0) (e 2) (e 4) (e 8) (e 9) w) (fiK f149 R))) e w = Fn98_L2 R (e 0) (e 2) (e 4) (e 8) (e 9) (e 10) w := loop_seg (F := Fn98_L2F R) (sel := fun e => [e 0, e 2, e 4, e 8, e 9, e 10]) fun N1 => (Fn98_b1_eq R N1)
def Fn98_s3 (R : KW) (x0 x1 x2 : Value) (w : World) : Prop :=
 newG (Value.cells x1) 101 w fun t4 w =>
 lenL x0 fun t13 =>
 Fn98_L2 R x0 x2 t4 t13 (.int .i64 0) t13 w
theorem Fn98_s3_eq (R : KW) : ∀ e w, liK 49 (bodyOf f149) (fiK f149 R) e w = Fn98_s3 R (e 0) (e 1) (e 2) w :=
 segs_eq (l := [(sbK f149 [0]), (sbK f149 [1, 0]), (sbK f149 [1, 1, 0])]) (y := (sbK f149 [1, 1, 1])) (Y := (fun e w => Fn98_L2 R (e 0) (e 2) (e 4) (e 8) (e 9) (e 10) w)) (seq_seg (x := (sbK f149 [1, 1, 1, 0])) (y := (sbK f149 [1, 1, 1, 1])) (Fn98_s0_eq R) (Fn98_L2_eq R)) (fun e w => by kernel_rfl)
def Fn98 (R : KW) (x0 x1 x2 : Value) (w : World) : Prop := Fn98_s3 R x0 x1 x2 w
theorem Fn98_call {R : KW} {x0 x1 x2 : Value} {w : World} (h : Fn98 R x0 x1 x2 w) : callG prog 149 #[x0, x1, x2] w R :=
 calls_lift_eq mixed func149 (args := [x0, x1, x2]) rfl rfl rfl rfl ((Fn98_s3_eq R) (envOf [x0, x1, x2]) w) (by kernel_rfl) h
def Fn55_s0 (R : KW) (x0 x1 : Value) (w : World) : Prop :=
 newG (Value.cells x1) 101 w fun t3 w =>
 ldn 2 t3 w fun t7 =>
 callG prog 149 #[x0, t7, (.func (.func 150) #[] #[])] w fun t8 w =>
 qG prog (Instr.extract t8 0) w fun t9 =>
 qG prog (Instr.extract t8 1) w fun t10 =>
 R (.tuple #[t9, t10]) w
theorem Fn55_s0_eq (R : KW) : ∀ e w, liK 11 (bodyOf f146) (fiK f146 R) e w = Fn55_s0 R (e 0) (e 1) w := fun e w => by kernel_rfl
def Fn55 (R : KW) (x0 x1 : Value) (w : World) : Prop := Fn55_s0 R x0 x1 w
theorem Fn55_call {R : KW} {x0 x1 : Value} {w : World} (h : Fn55 R x0 x1 w) : callG prog 146 #[x0, x1] w R :=
 calls_lift_eq mixed func146 (args := [x0, x1]) rfl rfl rfl rfl ((Fn55_s0_eq R) (envOf [x0, x1]) w) (by kernel_rfl) h
def Fn105_s0 (R : KW) (x0 x1 x2 : Value) (w : World) : Prop :=
 slL 4 x0 (some x1) none fun t12 =>
 lenL x2 fun t14 =>
 qG prog (bq .eql 3 (.tmp 15) (.const (.int .i64 0)) t14 (.int .i64 0)) w fun t16 =>
 bV t16
 (R x0 w)
 (lenL x0 fun t19 =>
 qG prog (bq .eql 3 (.tmp 20) (.tmp 21) x1 t19) w fun t22 =>
 bV t22
 (app 48 4 48 (zc prog 48) x0 x2 w fun t25 w =>
 R t25 w)
 (qG prog (bq .add 3 (.tmp 26) (.tmp 27) t19 t14) w fun t28 =>
 qG prog (Builtin.cap_ #[22] 3 #[x0]) w fun t30 =>
 qG prog (bq .gtr 3 (.tmp 28) (.tmp 30) t28 t30) w fun t31 =>
 bV t31
 (slL 4 x0 none (some x1) fun t34 =>
 qG prog (bq .add 3 (.tmp 35) (.tmp 36) t19 t14) w fun t37 =>
 qG prog (bq .sub 3 (.tmp 37) (.tmp 38) t37 x1) w fun t39 =>
 eG prog (Builtin.append_ #[22, 3] 22 #[t34, t39]) w fun t40 w =>
 slL 4 t40 (some x1) none fun t43 =>
 cp 4 t43 x2 w fun t45 w =>
 qG prog (bq .add 3 (.tmp 47) (.tmp 48) x1 t14) (World.drew w) fun t49 =>
 slL 4 t40 (some t49) none fun t50 =>
 slL 4 x0 (some x1) none fun t53 =>
 cp 4 t50 t53 (World.drew w) fun t54 w =>
 R t40 w)
 (qG prog (bq .add 3 (.tmp 57) (.tmp 58) t19 t14) w fun t59 =>
 slL 4 x0 none (some t59) fun t60 =>
 qG prog (bq .add 3 (.tmp 63) (.tmp 64) x1 t14) w fun t65 =>
 slL 4 t60 (some t65) none fun t66 =>
 nG prog (callFunc 151 #[x2, t66]) w fun t67 w =>
 qG prog (Op.unary .not t67) w fun t68 =>
 bV t68
 (qG prog (bq .add 3 (.tmp 70) (.tmp 71) x1 t14) (World.drew w) fun t72 =>
 slL 4 t60 (some t72) none fun t73 =>
 slL 4 t60 (some x1) none fun t76 =>
 cp 4 t73 t76 (World.drew w) fun t77 w =>
 slL 4 t60 (some x1) none fun t80 =>
 cp 4 t80 x2 w fun t82 w =>
 R t60 w)
 (slL 4 t60 (some t19) none fun t86 =>
 cp 4 t86 x2 w fun t88 w =>
 slL 4 t60 (some x1) none fun t91 =>
 callG prog 152 #[t91, t14] w fun t93 w =>
 R t60 w))))
theorem Fn105_s0_eq (R : KW) : ∀ e w, liK 95 (bodyOf f147) (fiK f147 R) e w = Fn105_s0 R (e 0) (e 1) (e 2) w := fun e w => by kernel_rfl
def Fn105 (R : KW) (x0 x1 x2 : Value) (w : World) : Prop := Fn105_s0 R x0 x1 x2 w
theorem Fn105_call {R : KW} {x0 x1 x2 : Value} {w : World} (h : Fn105 R x0 x1 x2 w) : callG prog 147 #[x0, x1, x2] w R :=
 calls_lift_eq mixed func147 (args := [x0, x1, x2]) rfl rfl rfl rfl ((Fn105_s0_eq R) (envOf [x0, x1, x2]) w) (by kernel_rfl) h
end Go.Proofs

set_option linter.unusedVariables false
set_option linter.unusedSimpArgs false
namespace Go.Proofs
open Go Go.Q Tryz
set_option maxRecDepth 100000
def Fn66_s0 (R : KW) (x0 x2 x3 x8 : Value) (w : World) : Prop :=
 nk x0 fun t40 =>
 fa 0 t40 fun t41 =>
 fa 0 t41 fun t42 =>
 ld1 t42 w fun t43 =>
 ia 4 t43 x8 fun t45 =>
 fa 2 t45 fun t46 =>
 ld1 t46 w fun t47 =>
 qG prog (bq .add 3 (.tmp 47) (.tmp 48) t47 x2) w fun t49 =>
 ia 4 t43 x8 fun t50 =>
 fa 2 t50 fun t51 =>
 st1 t51 t49 w fun w =>
 nk x0 fun t53 =>
 fa 0 t53 fun t54 =>
 fa 0 t54 fun t55 =>
 ld1 t55 w fun t56 =>
 ia 4 t56 x8 fun t58 =>
 fa 3 t58 fun t59 =>
 ld1 t59 w fun t60 =>
 qG prog (bq .add 3 (.tmp 60) (.tmp 61) t60 x3) w fun t62 =>
 ia 4 t56 x8 fun t63 =>
 fa 3 t63 fun t64 =>
 st1 t64 t62 w fun w =>
 R (.tuple #[]) w
theorem Fn66_s0_eq (R : KW) : ∀ e w, liK 65 (sbK f135 [1, 1, 1]) (fiK f135 R) e w = Fn66_s0 R (e 0) (e 2) (e 3) (e 8) w := fun e w => by kernel_rfl
def Fn66_s1 (R : KW) (x0 x1 x2 x3 : Value) (w : World) : Prop :=
 newG (Value.cells x1) 101 w fun t5 w =>
 nk x0 fun t12 =>
 fa 0 t12 fun t13 =>
 fa 0 t13 fun t14 =>
 ld1 t14 (World.drew w) fun t15 =>
 ldn 2 t5 (World.drew w) fun t16 =>
 callG prog 146 #[t15, t16] (World.drew w) fun t17 w =>
 qG prog (Instr.extract t17 0) w fun t18 =>
 qG prog (Instr.extract t17 1) w fun t19 =>
 qG prog (Op.unary .not t19) w fun t21 =>
 bV t21
 (nk x0 fun t24 =>
 fa 0 t24 fun t25 =>
 fa 0 t25 fun t26 =>
 ld1 t26 (World.drew w) fun t27 =>
 fa 0 t5 fun t29 =>
 ld1 t29 (World.drew w) fun t30 =>
 fa 1 t5 fun t31 =>
 ld1 t31 (World.drew w) fun t32 =>
 bld [(0, 1), (1, 1), (2, 1), (3, 1)] (zc prog 48) #[(0, t30), (1, t32)] fun t33 =>
 bsl 48 4 1 (zc prog 48) #[(0, t33)] (World.drew w) fun t34 w =>
 ld1 t26 w (fun u => u = t27) ∧
 callG prog 147 #[t27, t18, t34] w fun t35 w =>
 nk x0 fun t36 =>
 fa 0 t36 fun t37 =>
 fa 0 t37 fun t38 =>
 st1 t38 t35 w fun w =>
 Fn66_s0 R x0 x2 x3 t18 w)
 (Fn66_s0 R x0 x2 x3 t18 w)
theorem Fn66_s1_eq (R : KW) : ∀ e w, liK 65 (bodyOf f135) (fiK f135 R) e w = Fn66_s1 R (e 0) (e 1) (e 2) (e 3) w :=
 segs_eq (l := [(sbK f135 [0]), (sbK f135 [1, 0]), (sbK f135 [1, 1, 0])]) (y := (sbK f135 [1, 1, 1])) (Y := (fun e w => Fn66_s0 R (e 0) (e 2) (e 3) (e 8) w)) (Fn66_s0_eq R) (fun e w => by kernel_rfl)
def Fn66 (R : KW) (x0 x1 x2 x3 : Value) (w : World) : Prop := Fn66_s1 R x0 x1 x2 x3 w
theorem Fn66_call {R : KW} {x0 x1 x2 x3 : Value} {w : World} (h : Fn66 R x0 x1 x2 x3 w) : callG prog 135 #[x0, x1, x2, x3] w R :=
 calls_lift_eq mixed func135 (args := [x0, x1, x2, x3]) rfl rfl rfl rfl ((Fn66_s1_eq R) (envOf [x0, x1, x2, x3]) w) (by kernel_rfl) h
def Fn64_s0 (R : KW) (x0 x1 x2 x3 x4 : Value) (w : World) : Prop :=
 newG (Value.cells x1) 101 w fun t6 w =>
 newG (Value.cells x4) 73 w fun t9 w =>
 ldn 2 t6 w fun t11 =>
 callG prog 135 #[x0, t11, x2, x3] w fun t14 w =>
 nk x0 fun t16 =>
 fa 0 t16 fun t17 =>
 fa 2 t17 fun t18 =>
 ld1 t18 (World.drew w) fun t19 =>
 lenL t19 fun t20 =>
 qG prog (bq .add 3 (.tmp 20) (.const (.int .i64 1)) t20 (.int .i64 1)) (World.drew w) fun t21 =>
 fa 0 t6 fun t22 =>
 ld1 t22 (World.drew w) fun t23 =>
 fa 1 t6 fun t24 =>
 ld1 t24 (World.drew w) fun t25 =>
 fa 0 t9 fun t27 =>
 st1 t27 t21 (World.drew w) fun w =>
 ld1 t24 w (fun u => u = t25) ∧
 ld1 t22 w (fun u => u = t23) ∧
 fa 1 t9 fun t28 =>
 st1 t28 t23 w fun w =>
 ld1 t24 w (fun u => u = t25) ∧
 fa 2 t9 fun t29 =>
 st1 t29 t25 w fun w =>
 fa 3 t9 fun t30 =>
 st1 t30 x2 w fun w =>
 nk x0 fun t33 =>
 fa 0 t33 fun t34 =>
 fa 2 t34 fun t35 =>
 ld1 t35 (World.drew w) fun t36 =>
 ldn 6 t9 (World.drew w) fun t37 =>
 bsl 73 6 1 (zc prog 73) #[(0, t37)] (World.drew w) fun t38 w =>
 ld1 t35 w (fun u => u = t36) ∧
 app 73 6 64 (zc prog 73) t36 t38 w fun t39 w =>
 nk x0 fun t40 =>
 fa 0 t40 fun t41 =>
 fa 2 t41 fun t42 =>
 st1 t42 t39 w fun w =>
 R (.tuple #[]) w
theorem Fn64_s0_eq (R : KW) : ∀ e w, liK 43 (bodyOf f134) (fiK f134 R) e w = Fn64_s0 R (e 0) (e 1) (e 2) (e 3) (e 4) w := fun e w => by kernel_rfl
def Fn64 (R : KW) (x0 x1 x2 x3 x4 : Value) (w : World) : Prop := Fn64_s0 R x0 x1 x2 x3 x4 w
theorem Fn64_call {R : KW} {x0 x1 x2 x3 x4 : Value} {w : World} (h : Fn64 R x0 x1 x2 x3 x4 w) : callG prog 134 #[x0, x1, x2, x3, x4] w R :=
 calls_lift_eq mixed func134 (args := [x0, x1, x2, x3, x4]) rfl rfl rfl rfl ((Fn64_s0_eq R) (envOf [x0, x1, x2, x3, x4]) w) (by kernel_rfl) h
def Fn63_s0 (R : KW) (x0 x1 x2 : Value) (w : World) : Prop :=
 newG (Value.cells x1) 101 w fun t4 w =>
 nk x0 fun t9 =>
 fa 0 t9 fun t10 =>
 ldn 4 t10 (World.drew w) fun t11 =>
 fa 0 t4 fun t12 =>
 ld1 t12 (World.drew w) fun t13 =>
 fa 1 t4 fun t14 =>
 ld1 t14 (World.drew w) fun t15 =>
 callG prog 133 #[t11, t13, t15] (World.drew w) fun t16 w =>
 fld false 2 1 t16 fun t17 =>
 callG prog 143 #[t17, x2] w fun t19 w =>
 qG prog (Instr.extract t19 0) w fun t20 =>
 qG prog (Instr.extract t19 1) w fun t21 =>
 R (.tuple #[t20, t21]) w
theorem Fn63_s0_eq (R : KW) : ∀ e w, liK 22 (bodyOf f132) (fiK f132 R) e w = Fn63_s0 R (e 0) (e 1) (e 2) w := fun e w => by kernel_rfl
def Fn63 (R : KW) (x0 x1 x2 : Value) (w : World) : Prop := Fn63_s0 R x0 x1 x2 w
theorem Fn63_call {R : KW} {x0 x1 x2 : Value} {w : World} (h : Fn63 R x0 x1 x2 w) : callG prog 132 #[x0, x1, x2] w R :=
 calls_lift_eq mixed func132 (args := [x0, x1, x2]) rfl rfl rfl rfl ((Fn63_s0_eq R) (envOf [x0, x1, x2]) w) (by kernel_rfl) h
def Fn65_s0 (R : KW) (x0 x3 : Value) (w : World) : Prop :=
 nk x0 fun t31 =>
 fa 0 t31 fun t32 =>
 fa 1 t32 fun t33 =>
 ld1 t33 (World.drew w) fun t34 =>
 fa 5 x3 fun t35 =>
 ld1 t35 (World.drew w) fun t36 =>
 qG prog (bq .sub 3 (.tmp 36) (.const (.int .i64 1)) t36 (.int .i64 1)) (World.drew w) fun t37 =>
 ia 6 t34 t37 fun t38 =>
 nk t38 fun t40 =>
 fa 1 t40 fun t41 =>
 ld1 t41 (World.drew (World.drew w)) fun t42 =>
 nk t38 fun t44 =>
 fa 2 t44 fun t45 =>
 ld1 t45 (World.drew (World.drew w)) fun t46 =>
 bld [(0, 1), (1, 1)] (zc prog 101) #[(0, t42), (1, t46)] fun t47 =>
 newG (zc prog 101) 101 (World.drew (World.drew w)) fun t6 w =>
 ld1 t45 w (fun u => u = t46) ∧
 ld1 t41 w (fun u => u = t42) ∧
 stn 2 t6 t47 w fun w =>
 fa 0 x3 fun t48 =>
 ld1 t48 w fun t49 =>
 qG prog (bq .eql 3 (.tmp 49) (.const (.int .i64 4)) t49 (.int .i64 4)) w fun t50 =>
 bV t50
 (nk t38 fun t52 =>
 fa 4 t52 fun t53 =>
 st1 t53 (.int .i64 2) w fun w =>
 ldn 2 t6 (World.drew w) fun t55 =>
 nk t38 fun t57 =>
 fa 3 t57 fun t58 =>
 ld1 t58 (World.drew w) fun t59 =>
 qG prog (Op.unary .neg t59) (World.drew w) fun t60 =>
 callG prog 135 #[x0, t55, (.int .i64 0), t60] (World.drew w) fun t61 w =>
 R (.int .i64 0) w)
 (nk t38 fun t63 =>
 fa 4 t63 fun t64 =>
 st1 t64 (.int .i64 1) w fun w =>
 ldn 2 t6 (World.drew w) fun t66 =>
 nk t38 fun t68 =>
 fa 3 t68 fun t69 =>
 ld1 t69 (World.drew w) fun t70 =>
 qG prog (Op.unary .neg t70) (World.drew w) fun t71 =>
 nk t38 fun t73 =>
 fa 3 t73 fun t74 =>
 ld1 t74 (World.drew w) fun t75 =>
 qG prog (Op.unary .neg t75) (World.drew w) fun t76 =>
 fa 0 x3 fun t77 =>
 ld1 t77 (World.drew w) fun t78 =>
 nk t38 fun t80 =>
 fa 0 t80 fun t81 =>
 ld1 t81 (World.drew w) fun t82 =>
 bld [(0, 1), (1, 1), (2, 1), (3, 1), (4, 1), (5, 1)] (zc prog 73) #[(4, t78), (5, t82)] fun t83 =>
 callG prog 134 #[x0, t66, t71, t76, t83] (World.drew w) fun t84 w =>
 R (.int .i64 0) w)
theorem Fn65_s0_eq (R : KW) : ∀ e w, liK 85 (sbK f136 [1, 1]) (fiK f136 R) e w = Fn65_s0 R (e 0) (e 3) w := fun e w => by kernel_rfl
def Fn65_s1 (R : KW) (x0 x1 : Value) (w : World) : Prop :=
 newG (Value.cells x1) 42 w fun t3 w =>
 fa 5 t3 fun t7 =>
 ld1 t7 (World.drew w) fun t8 =>
 nk x0 fun t10 =>
 fa 0 t10 fun t11 =>
 fa 1 t11 fun t12 =>
 ld1 t12 (World.drew w) fun t13 =>
 lenL t13 fun t14 =>
 qG prog (bq .gtr 3 (.tmp 8) (.tmp 14) t8 t14) (World.drew w) fun t15 =>
 bV t15
 (R (.int .i64 71) (World.drew w))
 (nk x0 fun t18 =>
 fa 0 t18 fun t19 =>
 fa 1 t19 fun t20 =>
 ld1 t20 (World.drew w) fun t21 =>
 fa 5 t3 fun t22 =>
 ld1 t22 (World.drew w) fun t23 =>
 qG prog (bq .sub 3 (.tmp 23) (.const (.int .i64 1)) t23 (.int .i64 1)) (World.drew w) fun t24 =>
 ia 6 t21 t24 fun t25 =>
 fa 4 t25 fun t26 =>
 ld1 t26 (World.drew w) fun t27 =>
 qG prog (bq .neq 3 (.tmp 27) (.const (.int .i64 0)) t27 (.int .i64 0)) (World.drew w) fun t28 =>
 bV t28
 (R (.int .i64 71) (World.drew w))
 (Fn65_s0 R x0 t3 (World.drew w)))
theorem Fn65_s1_eq (R : KW) : ∀ e w, liK 85 (bodyOf f136) (fiK f136 R) e w = Fn65_s1 R (e 0) (e 1) w :=
 segs_eq (l := [(sbK f136 [0]), (sbK f136 [1, 0])]) (y := (sbK f136 [1, 1])) (Y := (fun e w => Fn65_s0 R (e 0) (e 3) w)) (Fn65_s0_eq R) (fun e w => by kernel_rfl)
def Fn65 (R : KW) (x0 x1 : Value) (w : World) : Prop := Fn65_s1 R x0 x1 w
theorem Fn65_call {R : KW} {x0 x1 : Value} {w : World} (h : Fn65 R x0 x1 w) : callG prog 136 #[x0, x1] w R :=
 calls_lift_eq mixed func136 (args := [x0, x1]) rfl rfl rfl rfl ((Fn65_s1_eq R) (envOf [x0, x1]) w) (by kernel_rfl) h
def Fn62_s0 (R : KW) (w : World) : Prop :=
 R (.int .i64 0) w
theorem Fn62_s0_eq (R : KW) : ∀ e w, liK 186 (sbK f118 [1, 1, 1, 1]) (fiK f118 R) e w = Fn62_s0 R w := fun e w => by kernel_rfl
def Fn62_s1 (R : KW) (x0 x3 x5 : Value) (w : World) : Prop :=
 ldn 2 x5 w fun t75 =>
 fa 4 x3 fun t76 =>
 ld1 t76 w fun t77 =>
 fa 0 x3 fun t78 =>
 ld1 t78 w fun t79 =>
 bld [(0, 1), (1, 1), (2, 1), (3, 1), (4, 1), (5, 1)] (zc prog 73) #[(4, t79)] fun t80 =>
 callG prog 134 #[x0, t75, t77, (.int .i64 0), t80] w fun t81 w =>
 Fn62_s0 R  w
theorem Fn62_s1_eq (R : KW) : ∀ e w, liK 186 (sbK f118 [1, 1, 1, 0, 1, 0, 1, 0]) (blockK 1 (seqK (fun e w => Fn62_s0 R  w) (fiK f118 R))) e w = Fn62_s1 R (e 0) (e 3) (e 5) w := fun e w => by kernel_rfl
def Fn62_s2 (R : KW) (x0 x3 x5 : Value) (w : World) : Prop :=
 ldn 2 x5 w fun t85 =>
 fa 4 x3 fun t86 =>
 ld1 t86 w fun t87 =>
 callG prog 135 #[x0, t85, (.int .i64 0), t87] w fun t88 w =>
 nk x0 fun t91 =>
 fa 0 t91 fun t92 =>
 fa 1 t92 fun t93 =>
 ld1 t93 (World.drew w) fun t94 =>
 nk x0 fun t96 =>
 fa 0 t96 fun t97 =>
 fa 1 t97 fun t98 =>
 ld1 t98 (World.drew w) fun t99 =>
 lenL t99 fun t100 =>
 qG prog (bq .add 3 (.tmp 100) (.const (.int .i64 1)) t100 (.int .i64 1)) (World.drew w) fun t101 =>
 fa 1 x3 fun t102 =>
 ld1 t102 (World.drew w) fun t103 =>
 fa 2 x3 fun t104 =>
 ld1 t104 (World.drew w) fun t105 =>
 fa 4 x3 fun t106 =>
 ld1 t106 (World.drew w) fun t107 =>
 fa 6 x3 fun t108 =>
 ld1 t108 (World.drew w) fun t109 =>
 bld [(0, 1), (1, 1), (2, 1), (3, 1), (4, 1), (5, 1)] (zc prog 70) #[(0, t101), (1, t103), (2, t105), (3, t107), (5, t109)] fun t110 =>
 bsl 70 6 1 (zc prog 70) #[(0, t110)] (World.drew w) fun t111 w =>
 ld1 t93 w (fun u => u = t94) ∧
 app 70 6 64 (zc prog 70) t94 t111 w fun t112 w =>
 nk x0 fun t113 =>
 fa 0 t113 fun t114 =>
 fa 1 t114 fun t115 =>
 st1 t115 t112 w fun w =>
 Fn62_s0 R  w
theorem Fn62_s2_eq (R : KW) : ∀ e w, liK 186 (sbK f118 [1, 1, 1, 0, 1, 0, 1, 1, 1, 0]) (blockK 1 (seqK (fun e w => Fn62_s0 R  w) (fiK f118 R))) e w = Fn62_s2 R (e 0) (e 3) (e 5) w := fun e w => by kernel_rfl
def Fn62_s3 (R : KW) (x0 x3 x5 x6 : Value) (w : World) : Prop :=
 ldn 2 x6 w fun t120 =>
 fa 4 x3 fun t121 =>
 ld1 t121 w fun t122 =>
 callG prog 132 #[x0, t120, t122] w fun t123 w =>
 qG prog (Instr.extract t123 0) w fun t124 =>
 qG prog (Instr.extract t123 1) w fun t125 =>
 qG prog (bq .neq 30 (.tmp 126) (.const (.int .i64 0)) t125 (.int .i64 0)) w fun t127 =>
 bV t127
 (R t125 w)
 (ldn 2 x5 w fun t130 =>
 fa 4 x3 fun t131 =>
 ld1 t131 w fun t132 =>
 qG prog (Op.unary .neg t132) w fun t133 =>
 fa 0 x3 fun t134 =>
 ld1 t134 w fun t135 =>
 bld [(0, 1), (1, 1), (2, 1), (3, 1), (4, 1), (5, 1)] (zc prog 73) #[(4, t135)] fun t136 =>
 callG prog 134 #[x0, t130, t133, (.int .i64 0), t136] w fun t137 w =>
 ldn 2 x6 w fun t139 =>
 fa 4 x3 fun t140 =>
 ld1 t140 w fun t141 =>
 fa 0 x3 fun t142 =>
 ld1 t142 w fun t143 =>
 bld [(0, 1), (1, 1), (2, 1), (3, 1), (4, 1), (5, 1)] (zc prog 73) #[(4, t143)] fun t144 =>
 callG prog 134 #[x0, t139, t141, (.int .i64 0), t144] w fun t145 w =>
 Fn62_s0 R  w)
theorem Fn62_s3_eq (R : KW) : ∀ e w, liK 186 (sbK f118 [1, 1, 1, 0, 1, 0, 1, 1, 1, 1, 1, 0]) (blockK 1 (seqK (fun e w => Fn62_s0 R  w) (fiK f118 R))) e w = Fn62_s3 R (e 0) (e 3) (e 5) (e 6) w := fun e w => by kernel_rfl
def Fn62_b4 (R : KW) (N1 : KL) (x0 x3 x153 x154 : Value) (w : World) : Prop :=
 qG prog (bq .lss 3 (.tmp 154) (.tmp 153) x154 x153) w fun t155 =>
 bV t155
 (nk x0 fun t158 =>
 fa 0 t158 fun t159 =>
 fa 1 t159 fun t160 =>
 ld1 t160 w fun t161 =>
 ia 6 t161 x154 fun t163 =>
 ldn 6 t163 w fun t164 =>
 newG (zc prog 70) 70 w fun t12 w =>
 stn 6 t12 t164 w fun w =>
 fa 4 t12 fun t165 =>
 ld1 t165 w fun t166 =>
 qG prog (bq .eql 3 (.tmp 166) (.const (.int .i64 0)) t166 (.int .i64 0)) w fun t167 =>
 bV t167
 (fa 5 t12 fun t169 =>
 ld1 t169 w fun t170 =>
 qG prog (bq .gtr 3 (.tmp 170) (.const (.int .i64 0)) t170 (.int .i64 0)) w fun t171 =>
 bV t171
 (fa 5 t12 fun t174 =>
 ld1 t174 w fun t175 =>
 fa 6 x3 fun t176 =>
 ld1 t176 w fun t177 =>
 qG prog (bq .leq 3 (.tmp 175) (.tmp 177) t175 t177) w fun t178 =>
 bV t178
 (fa 0 t12 fun t181 =>
 ld1 t181 w fun t182 =>
 bld [(0, 1), (1, 1), (2, 1), (3, 1), (4, 1), (5, 1), (6, 1)] (zc prog 42) #[(0, (.int .i64 4)), (5, t182)] fun t183 =>
 callG prog 136 #[x0, t183] w fun t184 w =>
 qG prog (bq .add 3 (.tmp 154) (.const (.int .i64 1)) x154 (.int .i64 1)) w fun t185 =>
 N1 [x0, x3, x153, t185] w)
 (qG prog (bq .add 3 (.tmp 154) (.const (.int .i64 1)) x154 (.int .i64 1)) w fun t185_1 =>
 N1 [x0, x3, x153, t185_1] w))
 (qG prog (bq .add 3 (.tmp 154) (.const (.int .i64 1)) x154 (.int .i64 1)) w fun t185_2 =>
 N1 [x0, x3, x153, t185_2] w))
 (qG prog (bq .add 3 (.tmp 154) (.const (.int .i64 1)) x154 (.int .i64 1)) w fun t185_3 =>
 N1 [x0, x3, x153, t185_3] w))
 (Fn62_s0 R  w)
theorem Fn62_b4_eq (R : KW) (N1 : KL) : ∀ e w, liK 186 (sbK f118 [1, 1, 1, 0, 1, 0, 1, 1, 1, 1, 1, 1, 1, 0, 1, 0, 0]) (seqK (fun e w => N1 [e 0, e 3, e 153, e 154] w) (blockK 2 (blockK 1 (seqK (fun e w => Fn62_s0 R  w) (fiK f118 R))))) e w = Fn62_b4 R N1 (e 0) (e 3) (e 153) (e 154) w := fun e w => by kernel_rfl
def Fn62_L5F (R : KW) (N1 : KL) (xs : List Value) (w : World) : Prop :=
 match xs with
 | [x0, x3, x153, x154] => Fn62_b4 R N1 x0 x3 x153 x154 w
 | _ => False
def Fn62_L5 (R : KW) (x0 x3 x153 x154 : Value) (w : World) : Prop :=
 ∃ m, loopV (Fn62_L5F R) m [x0, x3, x153, x154] w
theorem Fn62_L5_eq (R : KW) : ∀ e w, liK 186 (sbK f118 [1, 1, 1, 0, 1, 0, 1, 1, 1, 1, 1, 1, 1, 0, 1, 0]) (blockK 2 (blockK 1 (seqK (fun e w => Fn62_s0 R  w) (fiK f118 R)))) e w = Fn62_L5 R (e 0) (e 3) (e 153) (e 154) w := loop_seg (F := Fn62_L5F R) (sel := fun e => [e 0, e 3, e 153, e 154]) fun N1 => (Fn62_b4_eq R N1)
def Fn62_s6 (R : KW) (x0 x3 : Value) (w : World) : Prop :=
 nk x0 fun t149 =>
 fa 0 t149 fun t150 =>
 fa 1 t150 fun t151 =>
 ld1 t151 w fun t152 =>
 lenL t152 fun t153 =>
 Fn62_L5 R x0 x3 t153 (.int .i64 0) w
theorem Fn62_s6_eq (R : KW) : ∀ e w, liK 186 (sbK f118 [1, 1, 1, 0, 1, 0, 1, 1, 1, 1, 1, 1, 1, 0]) (blockK 1 (seqK (fun e w => Fn62_s0 R  w) (fiK f118 R))) e w = Fn62_s6 R (e 0) (e 3) w :=
 segs_eq (l := [(sbK f118 [1, 1, 1, 0, 1, 0, 1, 1, 1, 1, 1, 1, 1, 0, 0])]) (y := (sbK f118 [1, 1, 1, 0, 1, 0, 1, 1, 1, 1, 1, 1, 1, 0, 1])) (Y := (fun e w => Fn62_L5 R (e 0) (e 3) (e 153) (e 154) w)) (Fn62_L5_eq R) (fun e w => by kernel_rfl)
def Fn62_s7 (R : KW) (x0 x3 : Value) (w : World) : Prop :=
 ldn 7 x3 w fun t69 =>
 callG prog 136 #[x0, t69] w fun t70 w =>
 R t70 w
theorem Fn62_s7_eq (R : KW) : ∀ e w, liK 186 (sbK f118 [1, 1, 1, 0, 1, 0, 1, 1, 1, 1, 1, 1, 1, 1]) (blockK 1 (seqK (fun e w => Fn62_s0 R  w) (fiK f118 R))) e w = Fn62_s7 R (e 0) (e 3) w := fun e w => by kernel_rfl
def Fn62_s8 (R : KW) (x0 x3 x146 : Value) (w : World) : Prop :=
 bV x146 (Fn62_s6 R x0 x3 w) (Fn62_s7 R x0 x3 w)
theorem Fn62_s8_eq (R : KW) : ∀ e w, liK 186 (sbK f118 [1, 1, 1, 0, 1, 0, 1, 1, 1, 1, 1, 1, 1]) (blockK 1 (seqK (fun e w => Fn62_s0 R  w) (fiK f118 R))) e w = Fn62_s8 R (e 0) (e 3) (e 146) w := fun e w => (cond_seg (x := (sbK f118 [1, 1, 1, 0, 1, 0, 1, 1, 1, 1, 1, 1, 1, 0])) (y := (sbK f118 [1, 1, 1, 0, 1, 0, 1, 1, 1, 1, 1, 1, 1, 1])) (Fn62_s6_eq R) (Fn62_s7_eq R) e w).trans (by kernel_rfl)
def Fn62_s9 (R : KW) (x0 x3 x67 : Value) (w : World) : Prop :=
 qG prog (bq .eql 3 (.tmp 67) (.const (.int .i64 5)) x67 (.int .i64 5)) w fun t147 =>
 Fn62_s8 R x0 x3 t147 w
theorem Fn62_s9_eq (R : KW) : ∀ e w, liK 186 (sbK f118 [1, 1, 1, 0, 1, 0, 1, 1, 1, 1, 1, 1]) (blockK 1 (seqK (fun e w => Fn62_s0 R  w) (fiK f118 R))) e w = Fn62_s9 R (e 0) (e 3) (e 67) w :=
 segs_eq (l := [(sbK f118 [1, 1, 1, 0, 1, 0, 1, 1, 1, 1, 1, 1, 0])]) (y := (sbK f118 [1, 1, 1, 0, 1, 0, 1, 1, 1, 1, 1, 1, 1])) (Y := (fun e w => Fn62_s8 R (e 0) (e 3) (e 146) w)) (Fn62_s8_eq R) (fun e w => by kernel_rfl)
def Fn62_s10 (R : KW) (x0 x3 x5 x6 x67 x116 : Value) (w : World) : Prop :=
 bV x116 (Fn62_s3 R x0 x3 x5 x6 w) (Fn62_s9 R x0 x3 x67 w)
theorem Fn62_s10_eq (R : KW) : ∀ e w, liK 186 (sbK f118 [1, 1, 1, 0, 1, 0, 1, 1, 1, 1, 1]) (blockK 1 (seqK (fun e w => Fn62_s0 R  w) (fiK f118 R))) e w = Fn62_s10 R (e 0) (e 3) (e 5) (e 6) (e 67) (e 116) w := fun e w => (cond_seg (x := (sbK f118 [1, 1, 1, 0, 1, 0, 1, 1, 1, 1, 1, 0])) (y := (sbK f118 [1, 1, 1, 0, 1, 0, 1, 1, 1, 1, 1, 1])) (Fn62_s3_eq R) (Fn62_s9_eq R) e w).trans (by kernel_rfl)
def Fn62_s11 (R : KW) (x0 x3 x5 x6 x67 : Value) (w : World) : Prop :=
 qG prog (bq .eql 3 (.tmp 67) (.const (.int .i64 6)) x67 (.int .i64 6)) w fun t117 =>
 Fn62_s10 R x0 x3 x5 x6 x67 t117 w
theorem Fn62_s11_eq (R : KW) : ∀ e w, liK 186 (sbK f118 [1, 1, 1, 0, 1, 0, 1, 1, 1, 1]) (blockK 1 (seqK (fun e w => Fn62_s0 R  w) (fiK f118 R))) e w = Fn62_s11 R (e 0) (e 3) (e 5) (e 6) (e 67) w :=
 segs_eq (l := [(sbK f118 [1, 1, 1, 0, 1, 0, 1, 1, 1, 1, 0])]) (y := (sbK f118 [1, 1, 1, 0, 1, 0, 1, 1, 1, 1, 1])) (Y := (fun e w => Fn62_s10 R (e 0) (e 3) (e 5) (e 6) (e 67) (e 116) w)) (Fn62_s10_eq R) (fun e w => by kernel_rfl)
def Fn62_s12 (R : KW) (x0 x3 x5 x6 x67 x82 : Value) (w : World) : Prop :=
 bV x82 (Fn62_s2 R x0 x3 x5 w) (Fn62_s11 R x0 x3 x5 x6 x67 w)
theorem Fn62_s12_eq (R : KW) : ∀ e w, liK 186 (sbK f118 [1, 1, 1, 0, 1, 0, 1, 1, 1]) (blockK 1 (seqK (fun e w => Fn62_s0 R  w) (fiK f118 R))) e w = Fn62_s12 R (e 0) (e 3) (e 5) (e 6) (e 67) (e 82) w := fun e w => (cond_seg (x := (sbK f118 [1, 1, 1, 0, 1, 0, 1, 1, 1, 0])) (y := (sbK f118 [1, 1, 1, 0, 1, 0, 1, 1, 1, 1])) (Fn62_s2_eq R) (Fn62_s11_eq R) e w).trans (by kernel_rfl)
def Fn62_s13 (R : KW) (x0 x3 x5 x6 x67 : Value) (w : World) : Prop :=
 qG prog (bq .eql 3 (.tmp 67) (.const (.int .i64 2)) x67 (.int .i64 2)) w fun t83 =>
 Fn62_s12 R x0 x3 x5 x6 x67 t83 w
theorem Fn62_s13_eq (R : KW) : ∀ e w, liK 186 (sbK f118 [1, 1, 1, 0, 1, 0, 1, 1]) (blockK 1 (seqK (fun e w => Fn62_s0 R  w) (fiK f118 R))) e w = Fn62_s13 R (e 0) (e 3) (e 5) (e 6) (e 67) w :=
 segs_eq (l := [(sbK f118 [1, 1, 1, 0, 1, 0, 1, 1, 0])]) (y := (sbK f118 [1, 1, 1, 0, 1, 0, 1, 1, 1])) (Y := (fun e w => Fn62_s12 R (e 0) (e 3) (e 5) (e 6) (e 67) (e 82) w)) (Fn62_s12_eq R) (fun e w => by kernel_rfl)
def Fn62_s14 (R : KW) (x0 x3 x5 x6 x67 x71 : Value) (w : World) : Prop :=
 bV x71 (Fn62_s1 R x0 x3 x5 w) (Fn62_s13 R x0 x3 x5 x6 x67 w)
theorem Fn62_s14_eq (R : KW) : ∀ e w, liK 186 (sbK f118 [1, 1, 1, 0, 1, 0, 1]) (blockK 1 (seqK (fun e w => Fn62_s0 R  w) (fiK f118 R))) e w = Fn62_s14 R (e 0) (e 3) (e 5) (e 6) (e 67) (e 71) w := fun e w => (cond_seg (x := (sbK f118 [1, 1, 1, 0, 1, 0, 1, 0])) (y := (sbK f118 [1, 1, 1, 0, 1, 0, 1, 1])) (Fn62_s1_eq R) (Fn62_s13_eq R) e w).trans (by kernel_rfl)
def Fn62_s15 (R : KW) (x0 x3 x5 x6 x67 : Value) (w : World) : Prop :=
 qG prog (bq .eql 3 (.tmp 67) (.const (.int .i64 1)) x67 (.int .i64 1)) w fun t72 =>
 bV t72
 (Fn62_s14 R x0 x3 x5 x6 x67 (.bool true) w)
 (qG prog (bq .eql 3 (.tmp 67) (.const (.int .i64 7)) x67 (.int .i64 7)) w fun t73 =>
 Fn62_s14 R x0 x3 x5 x6 x67 t73 w)
theorem Fn62_s15_eq (R : KW) : ∀ e w, liK 186 (sbK f118 [1, 1, 1, 0, 1, 0]) (blockK 1 (seqK (fun e w => Fn62_s0 R  w) (fiK f118 R))) e w = Fn62_s15 R (e 0) (e 3) (e 5) (e 6) (e 67) w :=
 segs_eq (l := [(sbK f118 [1, 1, 1, 0, 1, 0, 0])]) (y := (sbK f118 [1, 1, 1, 0, 1, 0, 1])) (Y := (fun e w => Fn62_s14 R (e 0) (e 3) (e 5) (e 6) (e 67) (e 71) w)) (Fn62_s14_eq R) (fun e w => by kernel_rfl)
def Fn62_s16 (R : KW) (x0 x3 x5 x6 : Value) (w : World) : Prop :=
 fa 0 x3 fun t66 =>
 ld1 t66 w fun t67 =>
 Fn62_s15 R x0 x3 x5 x6 t67 w
theorem Fn62_s16_eq (R : KW) : ∀ e w, liK 186 (sbK f118 [1, 1, 1, 0]) (seqK (fun e w => Fn62_s0 R  w) (fiK f118 R)) e w = Fn62_s16 R (e 0) (e 3) (e 5) (e 6) w :=
 segs_eq (l := [(sbK f118 [1, 1, 1, 0, 0])]) (y := (sbK f118 [1, 1, 1, 0, 1])) (Y := (fun e w => Fn62_s15 R (e 0) (e 3) (e 5) (e 6) (e 67) w)) (Fn62_s15_eq R) (fun e w => by kernel_rfl)
def Fn62_s17 (R : KW) (x0 x3 x5 x6 : Value) (w : World) : Prop :=
 nk x0 fun t29 =>
 fa 0 t29 fun t30 =>
 ldn 4 t30 (World.drew w) fun t31 =>
 fa 1 x3 fun t32 =>
 ld1 t32 (World.drew w) fun t33 =>
 fa 2 x3 fun t34 =>
 ld1 t34 (World.drew w) fun t35 =>
 fa 4 x3 fun t37 =>
 ld1 t37 (World.drew w) fun t38 =>
 callG prog 131 #[t31, t33, t35] (World.drew w) fun t36 w =>
 ld1 t37 w (fun u => u = t38) ∧
 qG prog (bq .lss 3 (.tmp 36) (.tmp 38) t36 t38) w fun t39 =>
 bV t39
 (R (.int .i64 70) w)
 (Fn62_s16 R x0 x3 x5 x6 w)
theorem Fn62_s17_eq (R : KW) : ∀ e w, liK 186 (sbK f118 [1, 1, 0, 1, 0, 1, 0]) (blockK 0 (seqK (fun e w => Fn62_s16 R (e 0) (e 3) (e 5) (e 6) w) (fiK f118 R))) e w = Fn62_s17 R (e 0) (e 3) (e 5) (e 6) w := fun e w => by kernel_rfl
def Fn62_s18 (R : KW) (x0 x3 x5 x6 x40 : Value) (w : World) : Prop :=
 bV x40
 (ldn 2 x5 w fun t45 =>
 fa 4 x3 fun t46 =>
 ld1 t46 w fun t47 =>
 callG prog 132 #[x0, t45, t47] w fun t48 w =>
 qG prog (Instr.extract t48 0) w fun t49 =>
 qG prog (Instr.extract t48 1) w fun t50 =>
 qG prog (bq .neq 30 (.tmp 51) (.const (.int .i64 0)) t50 (.int .i64 0)) w fun t52 =>
 bV t52
 (R t50 w)
 (nk x0 fun t56 =>
 fa 0 t56 fun t57 =>
 ldn 4 t57 (World.drew w) fun t58 =>
 fa 1 x3 fun t59 =>
 ld1 t59 (World.drew w) fun t60 =>
 fa 2 x3 fun t61 =>
 ld1 t61 (World.drew w) fun t62 =>
 callG prog 133 #[t58, t60, t62] (World.drew w) fun t63 w =>
 fld false 3 1 t63 fun t64 =>
 qG prog (bq .lss 3 (.tmp 54) (.tmp 64) t49 t64) w fun t65 =>
 bV t65
 (R (.int .i64 70) w)
 (Fn62_s16 R x0 x3 x5 x6 w)))
 (Fn62_s16 R x0 x3 x5 x6 w)
theorem Fn62_s18_eq (R : KW) : ∀ e w, liK 186 (sbK f118 [1, 1, 0, 1, 0, 1, 1, 1]) (blockK 0 (seqK (fun e w => Fn62_s16 R (e 0) (e 3) (e 5) (e 6) w) (fiK f118 R))) e w = Fn62_s18 R (e 0) (e 3) (e 5) (e 6) (e 40) w := fun e w => by kernel_rfl
def Fn62_s19 (R : KW) (x0 x3 x5 x6 x24 : Value) (w : World) : Prop :=
 qG prog (bq .eql 3 (.tmp 24) (.const (.int .i64 1)) x24 (.int .i64 1)) w fun t41 =>
 bV t41
 (Fn62_s18 R x0 x3 x5 x6 (.bool true) w)
 (qG prog (bq .eql 3 (.tmp 24) (.const (.int .i64 7)) x24 (.int .i64 7)) w fun t42 =>
 Fn62_s18 R x0 x3 x5 x6 t42 w)
theorem Fn62_s19_eq (R : KW) : ∀ e w, liK 186 (sbK f118 [1, 1, 0, 1, 0, 1, 1]) (blockK 0 (seqK (fun e w => Fn62_s16 R (e 0) (e 3) (e 5) (e 6) w) (fiK f118 R))) e w = Fn62_s19 R (e 0) (e 3) (e 5) (e 6) (e 24) w :=
 segs_eq (l := [(sbK f118 [1, 1, 0, 1, 0, 1, 1, 0])]) (y := (sbK f118 [1, 1, 0, 1, 0, 1, 1, 1])) (Y := (fun e w => Fn62_s18 R (e 0) (e 3) (e 5) (e 6) (e 40) w)) (Fn62_s18_eq R) (fun e w => by kernel_rfl)
def Fn62_s20 (R : KW) (x0 x3 x5 x6 x24 x25 : Value) (w : World) : Prop :=
 bV x25 (Fn62_s17 R x0 x3 x5 x6 w) (Fn62_s19 R x0 x3 x5 x6 x24 w)
theorem Fn62_s20_eq (R : KW) : ∀ e w, liK 186 (sbK f118 [1, 1, 0, 1, 0, 1]) (blockK 0 (seqK (fun e w => Fn62_s16 R (e 0) (e 3) (e 5) (e 6) w) (fiK f118 R))) e w = Fn62_s20 R (e 0) (e 3) (e 5) (e 6) (e 24) (e 25) w := fun e w => (cond_seg (x := (sbK f118 [1, 1, 0, 1, 0, 1, 0])) (y := (sbK f118 [1, 1, 0, 1, 0, 1, 1])) (Fn62_s17_eq R) (Fn62_s19_eq R) e w).trans (by kernel_rfl)
def Fn62_s21 (R : KW) (x0 x3 x5 x6 x24 : Value) (w : World) : Prop :=
 qG prog (bq .eql 3 (.tmp 24) (.const (.int .i64 2)) x24 (.int .i64 2)) w fun t26 =>
 bV t26
 (Fn62_s20 R x0 x3 x5 x6 x24 (.bool true) w)
 (qG prog (bq .eql 3 (.tmp 24) (.const (.int .i64 6)) x24 (.int .i64 6)) w fun t27 =>
 Fn62_s20 R x0 x3 x5 x6 x24 t27 w)
theorem Fn62_s21_eq (R : KW) : ∀ e w, liK 186 (sbK f118 [1, 1, 0, 1, 0]) (blockK 0 (seqK (fun e w => Fn62_s16 R (e 0) (e 3) (e 5) (e 6) w) (fiK f118 R))) e w = Fn62_s21 R (e 0) (e 3) (e 5) (e 6) (e 24) w :=
 segs_eq (l := [(sbK f118 [1, 1, 0, 1, 0, 0])]) (y := (sbK f118 [1, 1, 0, 1, 0, 1])) (Y := (fun e w => Fn62_s20 R (e 0) (e 3) (e 5) (e 6) (e 24) (e 25) w)) (Fn62_s20_eq R) (fun e w => by kernel_rfl)
def Fn62_s22 (R : KW) (x0 x3 x5 x6 : Value) (w : World) : Prop :=
 fa 0 x3 fun t23 =>
 ld1 t23 w fun t24 =>
 Fn62_s21 R x0 x3 x5 x6 t24 w
theorem Fn62_s22_eq (R : KW) : ∀ e w, liK 186 (sbK f118 [1, 1, 0]) (seqK (fun e w => Fn62_s16 R (e 0) (e 3) (e 5) (e 6) w) (fiK f118 R)) e w = Fn62_s22 R (e 0) (e 3) (e 5) (e 6) w :=
 segs_eq (l := [(sbK f118 [1, 1, 0, 0])]) (y := (sbK f118 [1, 1, 0, 1])) (Y := (fun e w => Fn62_s21 R (e 0) (e 3) (e 5) (e 6) (e 24) w)) (Fn62_s21_eq R) (fun e w => by kernel_rfl)
def Fn62_s23 (R : KW) (x0 x1 : Value) (w : World) : Prop :=
 newG (Value.cells x1) 42 w fun t3 w =>
 fa 1 t3 fun t13 =>
 ld1 t13 (World.drew w) fun t14 =>
 fa 2 t3 fun t15 =>
 ld1 t15 (World.drew w) fun t16 =>
 bld [(0, 1), (1, 1)] (zc prog 101) #[(0, t14), (1, t16)] fun t17 =>
 fa 1 t3 fun t18 =>
 ld1 t18 (World.drew w) fun t19 =>
 fa 3 t3 fun t20 =>
 ld1 t20 (World.drew w) fun t21 =>
 bld [(0, 1), (1, 1)] (zc prog 101) #[(0, t19), (1, t21)] fun t22 =>
 (newG (zc prog 101) 101 (World.drew w) fun t5 w =>
 ld1 t20 w (fun u => u = t21) ∧
 ld1 t18 w (fun u => u = t19) ∧
 ld1 t15 w (fun u => u = t16) ∧
 ld1 t13 w (fun u => u = t14) ∧
 newG (zc prog 101) 101 w fun t6 w =>
 ld1 t20 w (fun u => u = t21) ∧
 ld1 t18 w (fun u => u = t19) ∧
 ld1 t15 w (fun u => u = t16) ∧
 ld1 t13 w (fun u => u = t14) ∧
 stn 2 t5 t17 w fun w =>
 ld1 t20 w (fun u => u = t21) ∧
 ld1 t18 w (fun u => u = t19) ∧
 stn 2 t6 t22 w fun w =>
 Fn62_s22 R x0 t3 t5 t6 w) ∧
 (newG (zc prog 101) 101 (World.drew w) fun t6_1 w =>
 ld1 t20 w (fun u => u = t21) ∧
 ld1 t18 w (fun u => u = t19) ∧
 ld1 t15 w (fun u => u = t16) ∧
 ld1 t13 w (fun u => u = t14) ∧
 newG (zc prog 101) 101 w fun t5_1 w =>
 ld1 t20 w (fun u => u = t21) ∧
 ld1 t18 w (fun u => u = t19) ∧
 ld1 t15 w (fun u => u = t16) ∧
 ld1 t13 w (fun u => u = t14) ∧
 stn 2 t5_1 t17 w fun w =>
 ld1 t20 w (fun u => u = t21) ∧
 ld1 t18 w (fun u => u = t19) ∧
 stn 2 t6_1 t22 w fun w =>
 Fn62_s22 R x0 t3 t5_1 t6_1 w)
theorem Fn62_s23_eq (R : KW) : ∀ e w, liK 186 (bodyOf f118) (fiK f118 R) e w = Fn62_s23 R (e 0) (e 1) w :=
 segs_eq (l := [(sbK f118 [0]), (sbK f118 [1, 0])]) (y := (sbK f118 [1, 1])) (Y := (fun e w => Fn62_s22 R (e 0) (e 3) (e 5) (e 6) w)) (seq_seg (x := (sbK f118 [1, 1, 0])) (y := (sbK f118 [1, 1, 1])) (seq_seg (x := (sbK f118 [1, 1, 1, 0])) (y := (sbK f118 [1, 1, 1, 1])) (Fn62_s0_eq R) (Fn62_s16_eq R)) (Fn62_s22_eq R)) (fun e w => by kernel_rfl)
def Fn62 (R : KW) (x0 x1 : Value) (w : World) : Prop := Fn62_s23 R x0 x1 w
theorem Fn62_call {R : KW} {x0 x1 : Value} {w : World} (h : Fn62 R x0 x1 w) : callG prog 118 #[x0, x1] w R :=
 calls_lift_eq mixed func118 (args := [x0, x1]) rfl rfl rfl rfl ((Fn62_s23_eq R) (envOf [x0, x1]) w) (by kernel_rfl) h
def Fn61_s0 (R : KW) (x4 x7 : Value) (w : World) : Prop :=
 nk x7 fun t73 =>
 fa 0 t73 fun t74 =>
 fa 3 t74 fun t75 =>
 ld1 t75 w fun t76 =>
 qG prog (bq .add 3 (.tmp 76) (.const (.int .i64 1)) t76 (.int .i64 1)) w fun t77 =>
 nk x7 fun t78 =>
 fa 0 t78 fun t79 =>
 fa 3 t79 fun t80 =>
 st1 t80 t77 w fun w =>
 nk x7 fun t82 =>
 fa 0 t82 fun t83 =>
 ldn 4 t83 w fun t84 =>
 stn 4 x4 t84 w fun w =>
 qG prog (do loadVar 26 (← asAddr x4)) w fun r4 =>
 R (.tuple #[r4, (.int .i64 0)]) w
theorem Fn61_s0_eq (R : KW) : ∀ e w, liK 85 (sbK f92 [1, 1, 1, 1, 1, 1]) (fiK f92 R) e w = Fn61_s0 R (e 4) (e 7) w := fun e w => by kernel_rfl
def Fn61_s1 (R : KW) (x0 x1 : Value) (w : World) : Prop :=
 newG (Value.cells x0) 26 w fun t2 w =>
 newG (Value.cells x1) 42 w fun t3 w =>
 newG (zc prog 26) 26 w fun t4 w =>
 ldn 7 t3 w fun t9 =>
 callG prog 93 #[t9] w fun t10 w =>
 qG prog (bq .neq 30 (.tmp 11) (.const (.int .i64 0)) t10 (.int .i64 0)) w fun t12 =>
 bV t12
 (ldn 4 t2 w fun t13 =>
 stn 4 t4 t13 w fun w =>
 qG prog (do loadVar 26 (← asAddr t4)) w fun r4 =>
 R (.tuple #[r4, t10]) w)
 (ldn 4 t2 w fun t15 =>
 bld [(0, 4)] (zc prog 169) #[(0, t15)] fun t16 =>
 newG (Value.cells t16) 169 w fun t17 w =>
 fa 0 t2 fun t21 =>
 ld1 t21 (World.drew w) fun t22 =>
 fa 1 t2 fun t24 =>
 ld1 t24 (World.drew w) fun t25 =>
 fa 2 t2 fun t27 =>
 ld1 t27 (World.drew w) fun t28 =>
 callG prog 45 #[t22] (World.drew w) fun t23 w =>
 ld1 t27 w (fun u => u = t28) ∧
 ld1 t24 w (fun u => u = t25) ∧
 callG prog 46 #[t25] w fun t26 w =>
 ld1 t27 w (fun u => u = t28) ∧
 callG prog 47 #[t28] w fun t29 w =>
 nk t17 fun t30 =>
 fa 0 t30 fun t31 =>
 fa 0 t31 fun t32 =>
 st1 t32 t23 w fun w =>
 nk t17 fun t33 =>
 fa 0 t33 fun t34 =>
 fa 1 t34 fun t35 =>
 st1 t35 t26 w fun w =>
 nk t17 fun t36 =>
 fa 0 t36 fun t37 =>
 fa 2 t37 fun t38 =>
 st1 t38 t29 w fun w =>
 ldn 7 t3 w fun t40 =>
 callG prog 118 #[t17, t40] w fun t41 w =>
 qG prog (bq .neq 30 (.tmp 42) (.const (.int .i64 0)) t41 (.int .i64 0)) w fun t43 =>
 bV t43
 (ldn 4 t2 w fun t44 =>
 stn 4 t4 t44 w fun w =>
 qG prog (do loadVar 26 (← asAddr t4)) w fun r4_1 =>
 R (.tuple #[r4_1, t41]) w)
 (nk t17 fun t47 =>
 fa 0 t47 fun t48 =>
 fa 0 t48 fun t49 =>
 ld1 t49 (World.drew w) fun t50 =>
 lenL t50 fun t51 =>
 nk t17 fun t53 =>
 fa 0 t53 fun t54 =>
 fa 1 t54 fun t55 =>
 ld1 t55 (World.drew w) fun t56 =>
 lenL t56 fun t57 =>
 nk t17 fun t59 =>
 fa 0 t59 fun t60 =>
 fa 2 t60 fun t61 =>
 ld1 t61 (World.drew w) fun t62 =>
 lenL t62 fun t63 =>
 qG prog (Builtin.max_ #[3, 3, 3] 3 #[t51, t57, t63]) (World.drew w) fun t64 =>
 qG prog (bq .gtr 3 (.tmp 64) (.const (.int .i64 4096)) t64 (.int .i64 4096)) (World.drew w) fun t65 =>
 bV t65
 (ldn 4 t2 (World.drew w) fun t71 =>
 stn 4 t4 t71 (World.drew w) fun w =>
 qG prog (do loadVar 26 (← asAddr t4)) w fun r4_2 =>
 R (.tuple #[r4_2, (.int .i64 2)]) w)
 (fa 3 t2 fun t67 =>
 ld1 t67 (World.drew w) fun t68 =>
 qG prog (bq .geq 3 (.tmp 68) (.const (.int .i64 4611686018427387904)) t68 (.int .i64 4611686018427387904)) (World.drew w) fun t69 =>
 bV t69
 (ldn 4 t2 (World.drew w) fun t71_1 =>
 stn 4 t4 t71_1 (World.drew w) fun w =>
 qG prog (do loadVar 26 (← asAddr t4)) w fun r4_3 =>
 R (.tuple #[r4_3, (.int .i64 2)]) w)
 (Fn61_s0 R t4 t17 (World.drew w)))))
theorem Fn61_s1_eq (R : KW) : ∀ e w, liK 85 (bodyOf f92) (fiK f92 R) e w = Fn61_s1 R (e 0) (e 1) w :=
 segs_eq (l := [(sbK f92 [0]), (sbK f92 [1, 0]), (sbK f92 [1, 1, 0]), (sbK f92 [1, 1, 1, 0]), (sbK f92 [1, 1, 1, 1, 0]), (sbK f92 [1, 1, 1, 1, 1, 0])]) (y := (sbK f92 [1, 1, 1, 1, 1, 1])) (Y := (fun e w => Fn61_s0 R (e 4) (e 7) w)) (Fn61_s0_eq R) (fun e w => by kernel_rfl)
def Fn61 (R : KW) (x0 x1 : Value) (w : World) : Prop := Fn61_s1 R x0 x1 w
theorem Fn61_call {R : KW} {x0 x1 : Value} {w : World} (h : Fn61 R x0 x1 w) : callG prog 92 #[x0, x1] w R :=
 calls_lift_eq mixed func92 (args := [x0, x1]) rfl rfl rfl rfl ((Fn61_s1_eq R) (envOf [x0, x1]) w) (by kernel_rfl) h
def Fn48_s0 (R : KW) (x0 x1 : Value) (w : World) : Prop :=
 newG (Value.cells x0) 26 w fun t2 w =>
 newG (Value.cells x1) 42 w fun t3 w =>
 newG (zc prog 26) 26 w fun t4 w =>
 ldn 4 t2 w fun t9 =>
 callG prog 22 #[t9] w fun t10 w =>
 qG prog (bq .neq 30 (.tmp 11) (.const (.int .i64 0)) t10 (.int .i64 0)) w fun t12 =>
 bV t12
 (bld [(0, 1), (1, 1), (2, 1), (3, 1)] (zc prog 26) #[] fun t13 =>
 stn 4 t4 t13 w fun w =>
 qG prog (do loadVar 26 (← asAddr t4)) w fun r4 =>
 R (.tuple #[r4, t10]) w)
 (ldn 4 t2 w fun t16 =>
 ldn 7 t3 w fun t17 =>
 callG prog 92 #[t16, t17] w fun t18 w =>
 qG prog (Instr.extract t18 0) w fun t19 =>
 qG prog (Instr.extract t18 1) w fun t20 =>
 newG (zc prog 26) 26 w fun t7 w =>
 stn 4 t7 t19 w fun w =>
 qG prog (bq .neq 30 (.tmp 21) (.const (.int .i64 0)) t20 (.int .i64 0)) w fun t22 =>
 bV t22
 (bld [(0, 1), (1, 1), (2, 1), (3, 1)] (zc prog 26) #[] fun t23 =>
 stn 4 t4 t23 w fun w =>
 qG prog (do loadVar 26 (← asAddr t4)) w fun r4_1 =>
 R (.tuple #[r4_1, t20]) w)
 (ldn 4 t7 w fun t25 =>
 stn 4 t4 t25 w fun w =>
 qG prog (do loadVar 26 (← asAddr t4)) w fun r4_2 =>
 R (.tuple #[r4_2, (.int .i64 0)]) w))
theorem Fn48_s0_eq (R : KW) : ∀ e w, liK 26 (bodyOf f41) (fiK f41 R) e w = Fn48_s0 R (e 0) (e 1) w := fun e w => by kernel_rfl
def Fn48 (R : KW) (x0 x1 : Value) (w : World) : Prop := Fn48_s0 R x0 x1 w
theorem Fn48_call {R : KW} {x0 x1 : Value} {w : World} (h : Fn48 R x0 x1 w) : callG prog 41 #[x0, x1] w R :=
 calls_lift_eq mixed func41 (args := [x0, x1]) rfl rfl rfl rfl ((Fn48_s0_eq R) (envOf [x0, x1]) w) (by kernel_rfl) h
def Fn53_s0 (R : KW) (x1 x2 x4 : Value) (w : World) : Prop :=
 ldn 4 x2 w fun t38 =>
 lenL x1 fun t40 =>
 stn 4 x4 t38 w fun w =>
 qG prog (do loadVar 26 (← asAddr x4)) w fun r4 =>
 R (.tuple #[r4, t40, (.int .i64 0)]) w
theorem Fn53_s0_eq (R : KW) : ∀ e w, liK 41 (sbK f88 [1, 1, 1]) (fiK f88 R) e w = Fn53_s0 R (e 1) (e 2) (e 4) w := fun e w => by kernel_rfl
def Fn53_b1 (R : KW) (N1 : KL) (x1 x2 x4 x18 x19 x20 : Value) (w : World) : Prop :=
 qG prog (bq .lss 3 (.tmp 20) (.tmp 19) x20 x19) w fun t21 =>
 bV t21
 (ia 7 x18 x20 fun t23 =>
 ldn 7 t23 w fun t24 =>
 newG (zc prog 42) 42 w fun t9 w =>
 stn 7 t9 t24 w fun w =>
 ldn 4 x2 w fun t26 =>
 ldn 7 t9 w fun t27 =>
 callG prog 92 #[t26, t27] w fun t28 w =>
 qG prog (Instr.extract t28 0) w fun t29 =>
 qG prog (Instr.extract t28 1) w fun t30 =>
 newG (zc prog 26) 26 w fun t10 w =>
 stn 4 t10 t29 w fun w =>
 qG prog (bq .neq 30 (.tmp 31) (.const (.int .i64 0)) t30 (.int .i64 0)) w fun t32 =>
 bV t32
 (ldn 4 x2 w fun t33 =>
 stn 4 x4 t33 w fun w =>
 qG prog (do loadVar 26 (← asAddr x4)) w fun r4 =>
 R (.tuple #[r4, x20, t30]) w)
 (ldn 4 t10 w fun t36 =>
 stn 4 x2 t36 w fun w =>
 qG prog (bq .add 3 (.tmp 20) (.const (.int .i64 1)) x20 (.int .i64 1)) w fun t37 =>
 N1 [x1, x2, x4, x18, x19, t37] w))
 (Fn53_s0 R x1 x2 x4 w)
theorem Fn53_b1_eq (R : KW) (N1 : KL) : ∀ e w, liK 41 (sbK f88 [1, 1, 0, 1, 0, 0]) (seqK (fun e w => N1 [e 1, e 2, e 4, e 18, e 19, e 20] w) (blockK 0 (seqK (fun e w => Fn53_s0 R (e 1) (e 2) (e 4) w) (fiK f88 R)))) e w = Fn53_b1 R N1 (e 1) (e 2) (e 4) (e 18) (e 19) (e 20) w := fun e w => by kernel_rfl
def Fn53_L2F (R : KW) (N1 : KL) (xs : List Value) (w : World) : Prop :=
 match xs with
 | [x1, x2, x4, x18, x19, x20] => Fn53_b1 R N1 x1 x2 x4 x18 x19 x20 w
 | _ => False
def Fn53_L2 (R : KW) (x1 x2 x4 x18 x19 x20 : Value) (w : World) : Prop :=
 ∃ m, loopV (Fn53_L2F R) m [x1, x2, x4, x18, x19, x20] w
theorem Fn53_L2_eq (R : KW) : ∀ e w, liK 41 (sbK f88 [1, 1, 0, 1, 0]) (blockK 0 (seqK (fun e w => Fn53_s0 R (e 1) (e 2) (e 4) w) (fiK f88 R))) e w = Fn53_L2 R (e 1) (e 2) (e 4) (e 18) (e 19) (e 20) w := loop_seg (F := Fn53_L2F R) (sel := fun e => [e 1, e 2, e 4, e 18, e 19, e 20]) fun N1 => (Fn53_b1_eq R N1)
def Fn53_s3 (R : KW) (x1 x2 x4 : Value) (w : World) : Prop :=
 lenL x1 fun t19 =>
 Fn53_L2 R x1 x2 x4 x1 t19 (.int .i64 0) w
theorem Fn53_s3_eq (R : KW) : ∀ e w, liK 41 (sbK f88 [1, 1, 0]) (seqK (fun e w => Fn53_s0 R (e 1) (e 2) (e 4) w) (fiK f88 R)) e w = Fn53_s3 R (e 1) (e 2) (e 4) w :=
 segs_eq (l := [(sbK f88 [1, 1, 0, 0])]) (y := (sbK f88 [1, 1, 0, 1])) (Y := (fun e w => Fn53_L2 R (e 1) (e 2) (e 4) (e 18) (e 19) (e 20) w)) (Fn53_L2_eq R) (fun e w => by kernel_rfl)
def Fn53_s4 (R : KW) (x0 x1 : Value) (w : World) : Prop :=
 newG (Value.cells x0) 26 w fun t2 w =>
 newG (zc prog 26) 26 w fun t4 w =>
 ldn 4 t2 w fun t12 =>
 callG prog 22 #[t12] w fun t13 w =>
 qG prog (bq .neq 30 (.tmp 14) (.const (.int .i64 0)) t13 (.int .i64 0)) w fun t15 =>
 bV t15
 (bld [(0, 1), (1, 1), (2, 1), (3, 1)] (zc prog 26) #[] fun t16 =>
 stn 4 t4 t16 w fun w =>
 qG prog (do loadVar 26 (← asAddr t4)) w fun r4 =>
 R (.tuple #[r4, (.int .i64 0), t13]) w)
 (Fn53_s3 R x1 t2 t4 w)
theorem Fn53_s4_eq (R : KW) : ∀ e w, liK 41 (bodyOf f88) (fiK f88 R) e w = Fn53_s4 R (e 0) (e 1) w :=
 segs_eq (l := [(sbK f88 [0]), (sbK f88 [1, 0])]) (y := (sbK f88 [1, 1])) (Y := (fun e w => Fn53_s3 R (e 1) (e 2) (e 4) w)) (seq_seg (x := (sbK f88 [1, 1, 0])) (y := (sbK f88 [1, 1, 1])) (Fn53_s0_eq R) (Fn53_s3_eq R)) (fun e w => by kernel_rfl)
def Fn53 (R : KW) (x0 x1 : Value) (w : World) : Prop := Fn53_s4 R x0 x1 w
theorem Fn53_call {R : KW} {x0 x1 : Value} {w : World} (h : Fn53 R x0 x1 w) : callG prog 88 #[x0, x1] w R :=
 calls_lift_eq mixed func88 (args := [x0, x1]) rfl rfl rfl rfl ((Fn53_s4_eq R) (envOf [x0, x1]) w) (by kernel_rfl) h
end Go.Proofs

set_option linter.unusedVariables false
set_option linter.unusedSimpArgs false
namespace Go.Proofs
open Go Go.Q Tryz
set_option maxRecDepth 100000
def Fn41_s0 (R : KW) (x0 x1 : Value) (w : World) : Prop :=
 lenS x0 fun t8 =>
 qG prog (bq .sub 3 (.tmp 6) (.tmp 8) x1 t8) w fun t9 =>
 callG prog 105 #[(.string ⟨#[0]⟩), t9] w fun t10 w =>
 qG prog (bq .add 9 (.tmp 5) (.tmp 10) x0 t10) w fun t11 =>
 R t11 w
theorem Fn41_s0_eq (R : KW) : ∀ e w, liK 12 (bodyOf f81) (fiK f81 R) e w = Fn41_s0 R (e 0) (e 1) w := fun e w => by kernel_rfl
def Fn41 (R : KW) (x0 x1 : Value) (w : World) : Prop := Fn41_s0 R x0 x1 w
theorem Fn41_call {R : KW} {x0 x1 : Value} {w : World} (h : Fn41 R x0 x1 w) : callG prog 81 #[x0, x1] w R :=
 calls_lift_eq mixed func81 (args := [x0, x1]) rfl rfl rfl rfl ((Fn41_s0_eq R) (envOf [x0, x1]) w) (by kernel_rfl) h
def Fn42_s0 (R : KW) (x0 : Value) (w : World) : Prop :=
 callG prog 80 #[x0] w fun t5 w =>
 callG prog 82 #[t5] w fun t8 w =>
 callG prog 80 #[t8] w fun t9 w =>
 qG prog (bq .add 9 (.tmp 6) (.tmp 9) t5 t9) w fun t10 =>
 callG prog 81 #[t10, (.int .i64 32)] w fun t11 w =>
 R t11 w
theorem Fn42_s0_eq (R : KW) : ∀ e w, liK 12 (bodyOf f37) (fiK f37 R) e w = Fn42_s0 R (e 0) w := fun e w => by kernel_rfl
def Fn42 (R : KW) (x0 : Value) (w : World) : Prop := Fn42_s0 R x0 w
theorem Fn42_call {R : KW} {x0 : Value} {w : World} (h : Fn42 R x0 w) : callG prog 37 #[x0] w R :=
 calls_lift_eq mixed func37 (args := [x0]) rfl rfl rfl rfl ((Fn42_s0_eq R) (envOf [x0]) w) (by kernel_rfl) h
def Fn40_s0 (R : KW) (x0 x1 : Value) (w : World) : Prop :=
 callG prog 33 #[x0] w fun t9 w =>
 qG prog (bq .sub 3 (.tmp 9) (.const (.int .i64 2)) t9 (.int .i64 2)) w fun t10 =>
 qG prog (bq .quo 3 (.tmp 10) (.const (.int .i64 2)) t10 (.int .i64 2)) w fun t11 =>
 qG prog (bq .rem 3 (.tmp 12) (.const (.int .i64 2)) x1 (.int .i64 2)) w fun t13 =>
 qG prog (bq .mul 3 (.tmp 13) (.tmp 14) t13 t11) w fun t15 =>
 qG prog (bq .add 3 (.const (.int .i64 2)) (.tmp 15) (.int .i64 2) t15) w fun t16 =>
 qG prog (bq .add 3 (.tmp 18) (.tmp 19) t16 t11) w fun t20 =>
 R (.tuple #[t16, t20]) w
theorem Fn40_s0_eq (R : KW) : ∀ e w, liK 21 (bodyOf f83) (fiK f83 R) e w = Fn40_s0 R (e 0) (e 1) w := fun e w => by kernel_rfl
def Fn40 (R : KW) (x0 x1 : Value) (w : World) : Prop := Fn40_s0 R x0 x1 w
theorem Fn40_call {R : KW} {x0 x1 : Value} {w : World} (h : Fn40 R x0 x1 w) : callG prog 83 #[x0, x1] w R :=
 calls_lift_eq mixed func83 (args := [x0, x1]) rfl rfl rfl rfl ((Fn40_s0_eq R) (envOf [x0, x1]) w) (by kernel_rfl) h
def Fn39_s0 (R : KW) (x0 x1 x2 : Value) (w : World) : Prop :=
 callG prog 24 #[x1] w fun t9 w =>
 qG prog (Instr.extract t9 0) w fun t10 =>
 qG prog (Instr.extract t9 1) w fun t11 =>
 ld1 x2 w fun t12 =>
 qG prog (bq .add 9 (.tmp 13) (.tmp 14) x0 t10) w fun t15 =>
 bsl 9 1 1 (zc prog 9) #[(0, t15)] w fun t16 w =>
 app 9 1 16 (zc prog 9) t12 t16 w fun t17 w =>
 st1 x2 t17 w fun w =>
 R (.tuple #[]) w
theorem Fn39_s0_eq (R : KW) : ∀ e w, liK 18 (bodyOf f23) (fiK f23 R) e w = Fn39_s0 R (e 0) (e 1) (e 2) w := fun e w => by kernel_rfl
def Fn39 (R : KW) (x0 x1 x2 : Value) (w : World) : Prop := Fn39_s0 R x0 x1 x2 w
theorem Fn39_call {R : KW} {x0 x1 x2 : Value} {w : World} (h : Fn39 R x0 x1 x2 w) : callG prog 23 #[x0, x1, x2] w R :=
 calls_lift_eq mixed func23 (args := [x0, x1, x2]) rfl rfl rfl rfl ((Fn39_s0_eq R) (envOf [x0, x1, x2]) w) (by kernel_rfl) h
def Fn38_s0 (R : KW) (x1 x5 x6 : Value) (w : World) : Prop :=
 fa 3 x1 fun t56 =>
 ld1 t56 w fun t57 =>
 bld [(0, 1), (1, 1), (2, 1)] (zc prog 76) #[(0, (.int .i64 1)), (1, t57)] fun t58 =>
 bsl 76 3 1 (zc prog 76) #[(0, t58)] w fun t59 w =>
 callV prog x6 #[(.string ⟨#[69]⟩), t59] w fun t60 w =>
 ld1 x5 w fun t61 =>
 R (.tuple #[t61, (.int .i64 0)]) w
theorem Fn38_s0_eq (R : KW) : ∀ e w, liK 62 (sbK f8 [1, 1, 1, 1, 1, 1, 1]) (fiK f8 R) e w = Fn38_s0 R (e 1) (e 5) (e 6) w := fun e w => by kernel_rfl
def Fn38_b1 (R : KW) (N1 : KL) (x1 x5 x6 x44 x45 x46 : Value) (w : World) : Prop :=
 qG prog (bq .lss 3 (.tmp 46) (.tmp 45) x46 x45) w fun t47 =>
 bV t47
 (ia 6 x44 x46 fun t48 =>
 ldn 6 t48 w fun t49 =>
 newG (zc prog 73) 73 w fun t12 w =>
 stn 6 t12 t49 w fun w =>
 ldn 6 t12 w fun t51 =>
 callG prog 27 #[t51] w fun t52 w =>
 callV prog x6 #[(.string ⟨#[77]⟩), t52] w fun t53 w =>
 qG prog (bq .add 3 (.tmp 46) (.const (.int .i64 1)) x46 (.int .i64 1)) w fun t54 =>
 N1 [x1, x5, x6, x44, x45, t54] w)
 (Fn38_s0 R x1 x5 x6 w)
theorem Fn38_b1_eq (R : KW) (N1 : KL) : ∀ e w, liK 62 (sbK f8 [1, 1, 1, 1, 1, 1, 0, 1, 0, 0]) (seqK (fun e w => N1 [e 1, e 5, e 6, e 44, e 45, e 46] w) (blockK 4 (seqK (fun e w => Fn38_s0 R (e 1) (e 5) (e 6) w) (fiK f8 R)))) e w = Fn38_b1 R N1 (e 1) (e 5) (e 6) (e 44) (e 45) (e 46) w := fun e w => by kernel_rfl
def Fn38_L2F (R : KW) (N1 : KL) (xs : List Value) (w : World) : Prop :=
 match xs with
 | [x1, x5, x6, x44, x45, x46] => Fn38_b1 R N1 x1 x5 x6 x44 x45 x46 w
 | _ => False
def Fn38_L2 (R : KW) (x1 x5 x6 x44 x45 x46 : Value) (w : World) : Prop :=
 ∃ m, loopV (Fn38_L2F R) m [x1, x5, x6, x44, x45, x46] w
theorem Fn38_L2_eq (R : KW) : ∀ e w, liK 62 (sbK f8 [1, 1, 1, 1, 1, 1, 0, 1, 0]) (blockK 4 (seqK (fun e w => Fn38_s0 R (e 1) (e 5) (e 6) w) (fiK f8 R))) e w = Fn38_L2 R (e 1) (e 5) (e 6) (e 44) (e 45) (e 46) w := loop_seg (F := Fn38_L2F R) (sel := fun e => [e 1, e 5, e 6, e 44, e 45, e 46]) fun N1 => (Fn38_b1_eq R N1)
def Fn38_s3 (R : KW) (x1 x5 x6 : Value) (w : World) : Prop :=
 fa 2 x1 fun t43 =>
 ld1 t43 w fun t44 =>
 lenL t44 fun t45 =>
 Fn38_L2 R x1 x5 x6 t44 t45 (.int .i64 0) w
theorem Fn38_s3_eq (R : KW) : ∀ e w, liK 62 (sbK f8 [1, 1, 1, 1, 1, 1, 0]) (seqK (fun e w => Fn38_s0 R (e 1) (e 5) (e 6) w) (fiK f8 R)) e w = Fn38_s3 R (e 1) (e 5) (e 6) w :=
 segs_eq (l := [(sbK f8 [1, 1, 1, 1, 1, 1, 0, 0])]) (y := (sbK f8 [1, 1, 1, 1, 1, 1, 0, 1])) (Y := (fun e w => Fn38_L2 R (e 1) (e 5) (e 6) (e 44) (e 45) (e 46) w)) (Fn38_L2_eq R) (fun e w => by kernel_rfl)
def Fn38_b4 (R : KW) (N1 : KL) (x1 x5 x6 x32 x33 x34 : Value) (w : World) : Prop :=
 qG prog (bq .lss 3 (.tmp 34) (.tmp 33) x34 x33) w fun t35 =>
 bV t35
 (ia 6 x32 x34 fun t36 =>
 ldn 6 t36 w fun t37 =>
 newG (zc prog 70) 70 w fun t10 w =>
 stn 6 t10 t37 w fun w =>
 ldn 6 t10 w fun t39 =>
 callG prog 26 #[t39] w fun t40 w =>
 callV prog x6 #[(.string ⟨#[72]⟩), t40] w fun t41 w =>
 qG prog (bq .add 3 (.tmp 34) (.const (.int .i64 1)) x34 (.int .i64 1)) w fun t42 =>
 N1 [x1, x5, x6, x32, x33, t42] w)
 (Fn38_s3 R x1 x5 x6 w)
theorem Fn38_b4_eq (R : KW) (N1 : KL) : ∀ e w, liK 62 (sbK f8 [1, 1, 1, 1, 1, 0, 1, 0, 0]) (seqK (fun e w => N1 [e 1, e 5, e 6, e 32, e 33, e 34] w) (blockK 2 (seqK (fun e w => Fn38_s3 R (e 1) (e 5) (e 6) w) (fiK f8 R)))) e w = Fn38_b4 R N1 (e 1) (e 5) (e 6) (e 32) (e 33) (e 34) w := fun e w => by kernel_rfl
def Fn38_L5F (R : KW) (N1 : KL) (xs : List Value) (w : World) : Prop :=
 match xs with
 | [x1, x5, x6, x32, x33, x34] => Fn38_b4 R N1 x1 x5 x6 x32 x33 x34 w
 | _ => False
def Fn38_L5 (R : KW) (x1 x5 x6 x32 x33 x34 : Value) (w : World) : Prop :=
 ∃ m, loopV (Fn38_L5F R) m [x1, x5, x6, x32, x33, x34] w
theorem Fn38_L5_eq (R : KW) : ∀ e w, liK 62 (sbK f8 [1, 1, 1, 1, 1, 0, 1, 0]) (blockK 2 (seqK (fun e w => Fn38_s3 R (e 1) (e 5) (e 6) w) (fiK f8 R))) e w = Fn38_L5 R (e 1) (e 5) (e 6) (e 32) (e 33) (e 34) w := loop_seg (F := Fn38_L5F R) (sel := fun e => [e 1, e 5, e 6, e 32, e 33, e 34]) fun N1 => (Fn38_b4_eq R N1)
def Fn38_s6 (R : KW) (x1 x5 x6 : Value) (w : World) : Prop :=
 fa 1 x1 fun t31 =>
 ld1 t31 w fun t32 =>
 lenL t32 fun t33 =>
 Fn38_L5 R x1 x5 x6 t32 t33 (.int .i64 0) w
theorem Fn38_s6_eq (R : KW) : ∀ e w, liK 62 (sbK f8 [1, 1, 1, 1, 1, 0]) (seqK (fun e w => Fn38_s3 R (e 1) (e 5) (e 6) w) (fiK f8 R)) e w = Fn38_s6 R (e 1) (e 5) (e 6) w :=
 segs_eq (l := [(sbK f8 [1, 1, 1, 1, 1, 0, 0])]) (y := (sbK f8 [1, 1, 1, 1, 1, 0, 1])) (Y := (fun e w => Fn38_L5 R (e 1) (e 5) (e 6) (e 32) (e 33) (e 34) w)) (Fn38_L5_eq R) (fun e w => by kernel_rfl)
def Fn38_b7 (R : KW) (N1 : KL) (x1 x5 x6 x20 x21 x22 : Value) (w : World) : Prop :=
 qG prog (bq .lss 3 (.tmp 22) (.tmp 21) x22 x21) w fun t23 =>
 bV t23
 (ia 4 x20 x22 fun t24 =>
 ldn 4 t24 w fun t25 =>
 newG (zc prog 48) 48 w fun t8 w =>
 stn 4 t8 t25 w fun w =>
 ldn 4 t8 w fun t27 =>
 callG prog 25 #[t27] w fun t28 w =>
 callV prog x6 #[(.string ⟨#[83]⟩), t28] w fun t29 w =>
 qG prog (bq .add 3 (.tmp 22) (.const (.int .i64 1)) x22 (.int .i64 1)) w fun t30 =>
 N1 [x1, x5, x6, x20, x21, t30] w)
 (Fn38_s6 R x1 x5 x6 w)
theorem Fn38_b7_eq (R : KW) (N1 : KL) : ∀ e w, liK 62 (sbK f8 [1, 1, 1, 1, 0, 1, 0, 0]) (seqK (fun e w => N1 [e 1, e 5, e 6, e 20, e 21, e 22] w) (blockK 0 (seqK (fun e w => Fn38_s6 R (e 1) (e 5) (e 6) w) (fiK f8 R)))) e w = Fn38_b7 R N1 (e 1) (e 5) (e 6) (e 20) (e 21) (e 22) w := fun e w => by kernel_rfl
def Fn38_L8F (R : KW) (N1 : KL) (xs : List Value) (w : World) : Prop :=
 match xs with
 | [x1, x5, x6, x20, x21, x22] => Fn38_b7 R N1 x1 x5 x6 x20 x21 x22 w
 | _ => False
def Fn38_L8 (R : KW) (x1 x5 x6 x20 x21 x22 : Value) (w : World) : Prop :=
 ∃ m, loopV (Fn38_L8F R) m [x1, x5, x6, x20, x21, x22] w
theorem Fn38_L8_eq (R : KW) : ∀ e w, liK 62 (sbK f8 [1, 1, 1, 1, 0, 1, 0]) (blockK 0 (seqK (fun e w => Fn38_s6 R (e 1) (e 5) (e 6) w) (fiK f8 R))) e w = Fn38_L8 R (e 1) (e 5) (e 6) (e 20) (e 21) (e 22) w := loop_seg (F := Fn38_L8F R) (sel := fun e => [e 1, e 5, e 6, e 20, e 21, e 22]) fun N1 => (Fn38_b7_eq R N1)
def Fn38_s9 (R : KW) (x1 x5 x6 : Value) (w : World) : Prop :=
 fa 0 x1 fun t19 =>
 ld1 t19 w fun t20 =>
 lenL t20 fun t21 =>
 Fn38_L8 R x1 x5 x6 t20 t21 (.int .i64 0) w
theorem Fn38_s9_eq (R : KW) : ∀ e w, liK 62 (sbK f8 [1, 1, 1, 1, 0]) (seqK (fun e w => Fn38_s6 R (e 1) (e 5) (e 6) w) (fiK f8 R)) e w = Fn38_s9 R (e 1) (e 5) (e 6) w :=
 segs_eq (l := [(sbK f8 [1, 1, 1, 1, 0, 0])]) (y := (sbK f8 [1, 1, 1, 1, 0, 1])) (Y := (fun e w => Fn38_L8 R (e 1) (e 5) (e 6) (e 20) (e 21) (e 22) w)) (Fn38_L8_eq R) (fun e w => by kernel_rfl)
def Fn38_s10 (R : KW) (x0 : Value) (w : World) : Prop :=
 newG (Value.cells x0) 26 w fun t1 w =>
 ldn 4 t1 w fun t13 =>
 callG prog 22 #[t13] w fun t14 w =>
 qG prog (bq .neq 30 (.tmp 15) (.const (.int .i64 0)) t14 (.int .i64 0)) w fun t16 =>
 bV t16
 (R (.tuple #[(.slice none 0 0), t14]) w)
 (newG (zc prog 29) 29 w fun t5 w =>
 qG prog (Instr.makeFunc (.func 23) #[] #[t5]) w fun t18 =>
 Fn38_s9 R t1 t5 t18 w)
theorem Fn38_s10_eq (R : KW) : ∀ e w, liK 62 (bodyOf f8) (fiK f8 R) e w = Fn38_s10 R (e 0) w :=
 segs_eq (l := [(sbK f8 [0]), (sbK f8 [1, 0]), (sbK f8 [1, 1, 0]), (sbK f8 [1, 1, 1, 0])]) (y := (sbK f8 [1, 1, 1, 1])) (Y := (fun e w => Fn38_s9 R (e 1) (e 5) (e 6) w)) (seq_seg (x := (sbK f8 [1, 1, 1, 1, 0])) (y := (sbK f8 [1, 1, 1, 1, 1])) (seq_seg (x := (sbK f8 [1, 1, 1, 1, 1, 0])) (y := (sbK f8 [1, 1, 1, 1, 1, 1])) (seq_seg (x := (sbK f8 [1, 1, 1, 1, 1, 1, 0])) (y := (sbK f8 [1, 1, 1, 1, 1, 1, 1])) (Fn38_s0_eq R) (Fn38_s3_eq R)) (Fn38_s6_eq R)) (Fn38_s9_eq R)) (fun e w => by kernel_rfl)
def Fn38 (R : KW) (x0 : Value) (w : World) : Prop := Fn38_s10 R x0 w
theorem Fn38_call {R : KW} {x0 : Value} {w : World} (h : Fn38 R x0 w) : callG prog 8 #[x0] w R :=
 calls_lift_eq mixed func8 (args := [x0]) rfl rfl rfl rfl ((Fn38_s10_eq R) (envOf [x0]) w) (by kernel_rfl) h
def Fn103_s0 (R : KW) (w : World) : Prop :=
 R (.bool true) w
theorem Fn103_s0_eq (R : KW) : ∀ e w, liK 26 (sbK f114 [1, 1, 1]) (fiK f114 R) e w = Fn103_s0 R w := fun e w => by kernel_rfl
def Fn103_b1 (R : KW) (N1 : KL) (x0 x1 x12 x13 : Value) (w : World) : Prop :=
 qG prog (bq .lss 3 (.tmp 13) (.tmp 12) x13 x12) w fun t14 =>
 bV t14
 (ia 1 x0 x13 fun t18 =>
 ld1 t18 (World.drew w) fun t19 =>
 ia 1 x1 x13 fun t22 =>
 ld1 t22 (World.drew w) fun t23 =>
 qG prog (bq .neq 9 (.tmp 19) (.tmp 23) t19 t23) (World.drew w) fun t24 =>
 bV t24
 (R (.bool false) (World.drew w))
 (qG prog (bq .add 3 (.tmp 13) (.const (.int .i64 1)) x13 (.int .i64 1)) (World.drew w) fun t25 =>
 N1 [x0, x1, x12, t25] (World.drew w)))
 (Fn103_s0 R  w)
theorem Fn103_b1_eq (R : KW) (N1 : KL) : ∀ e w, liK 26 (sbK f114 [1, 1, 0, 1, 0, 0]) (seqK (fun e w => N1 [e 0, e 1, e 12, e 13] w) (blockK 0 (seqK (fun e w => Fn103_s0 R  w) (fiK f114 R)))) e w = Fn103_b1 R N1 (e 0) (e 1) (e 12) (e 13) w := fun e w => by kernel_rfl
def Fn103_L2F (R : KW) (N1 : KL) (xs : List Value) (w : World) : Prop :=
 match xs with
 | [x0, x1, x12, x13] => Fn103_b1 R N1 x0 x1 x12 x13 w
 | _ => False
def Fn103_L2 (R : KW) (x0 x1 x12 x13 : Value) (w : World) : Prop :=
 ∃ m, loopV (Fn103_L2F R) m [x0, x1, x12, x13] w
theorem Fn103_L2_eq (R : KW) : ∀ e w, liK 26 (sbK f114 [1, 1, 0, 1, 0]) (blockK 0 (seqK (fun e w => Fn103_s0 R  w) (fiK f114 R))) e w = Fn103_L2 R (e 0) (e 1) (e 12) (e 13) w := loop_seg (F := Fn103_L2F R) (sel := fun e => [e 0, e 1, e 12, e 13]) fun N1 => (Fn103_b1_eq R N1)
def Fn103_s3 (R : KW) (x0 x1 : Value) (w : World) : Prop :=
 lenL x0 fun t12 =>
 Fn103_L2 R x0 x1 t12 (.int .i64 0) w
theorem Fn103_s3_eq (R : KW) : ∀ e w, liK 26 (sbK f114 [1, 1, 0]) (seqK (fun e w => Fn103_s0 R  w) (fiK f114 R)) e w = Fn103_s3 R (e 0) (e 1) w :=
 segs_eq (l := [(sbK f114 [1, 1, 0, 0])]) (y := (sbK f114 [1, 1, 0, 1])) (Y := (fun e w => Fn103_L2 R (e 0) (e 1) (e 12) (e 13) w)) (Fn103_L2_eq R) (fun e w => by kernel_rfl)
def Fn103_s4 (R : KW) (x0 x1 : Value) (w : World) : Prop :=
 lenL x0 fun t7 =>
 lenL x1 fun t9 =>
 qG prog (bq .neq 3 (.tmp 7) (.tmp 9) t7 t9) w fun t10 =>
 bV t10
 (R (.bool false) w)
 (Fn103_s3 R x0 x1 w)
theorem Fn103_s4_eq (R : KW) : ∀ e w, liK 26 (bodyOf f114) (fiK f114 R) e w = Fn103_s4 R (e 0) (e 1) w :=
 segs_eq (l := [(sbK f114 [0]), (sbK f114 [1, 0])]) (y := (sbK f114 [1, 1])) (Y := (fun e w => Fn103_s3 R (e 0) (e 1) w)) (seq_seg (x := (sbK f114 [1, 1, 0])) (y := (sbK f114 [1, 1, 1])) (Fn103_s0_eq R) (Fn103_s3_eq R)) (fun e w => by kernel_rfl)
def Fn103 (R : KW) (x0 x1 : Value) (w : World) : Prop := Fn103_s4 R x0 x1 w
theorem Fn103_call {R : KW} {x0 x1 : Value} {w : World} (h : Fn103 R x0 x1 w) : callG prog 114 #[x0, x1] w R :=
 calls_lift_eq mixed func114 (args := [x0, x1]) rfl rfl rfl rfl ((Fn103_s4_eq R) (envOf [x0, x1]) w) (by kernel_rfl) h
def Fn43_s0 (R : KW) (x2 x5 : Value) (w : World) : Prop :=
 ldn 4 x5 w fun t118 =>
 stn 4 x2 t118 w fun w =>
 qG prog (do loadVar 26 (← asAddr x2)) w fun r2 =>
 R (.tuple #[r2, (.slice none 0 0), (.bool false)]) w
theorem Fn43_s0_eq (R : KW) : ∀ e w, liK 119 (sbK f85 [1, 1, 1]) (fiK f85 R) e w = Fn43_s0 R (e 2) (e 5) w := fun e w => by kernel_rfl
def Fn43_s1 (R : KW) (N1 : KL) (x0 x2 x5 x18 x19 x20 : Value) (w : World) : Prop :=
 qG prog (bq .add 3 (.tmp 20) (.const (.int .i64 1)) x20 (.int .i64 1)) w fun t117 =>
 N1 [x0, x2, x5, x18, x19, t117] w
theorem Fn43_s1_eq (R : KW) (N1 : KL) : ∀ e w, liK 119 (sbK f85 [1, 1, 0, 1, 0, 0, 1, 1, 1]) (seqK (fun e w => N1 [e 0, e 2, e 5, e 18, e 19, e 20] w) (blockK 0 (seqK (fun e w => Fn43_s0 R (e 2) (e 5) w) (fiK f85 R)))) e w = Fn43_s1 R N1 (e 0) (e 2) (e 5) (e 18) (e 19) (e 20) w := fun e w => by kernel_rfl
def Fn43_s2 (R : KW) (N1 : KL) (x0 x2 x5 x9 x18 x19 x20 : Value) (w : World) : Prop :=
 qG prog (bq .neq 30 (.tmp 115) (.const (.int .i64 0)) x9 (.int .i64 0)) w fun t116 =>
 bV t116
 (Fn43_s0 R x2 x5 w)
 (Fn43_s1 R N1 x0 x2 x5 x18 x19 x20 w)
theorem Fn43_s2_eq (R : KW) (N1 : KL) : ∀ e w, liK 119 (sbK f85 [1, 1, 0, 1, 0, 0, 1, 1, 0, 0, 1, 1, 1, 1]) (blockK 1 (seqK (fun e w => Fn43_s1 R N1 (e 0) (e 2) (e 5) (e 18) (e 19) (e 20) w) (seqK (fun e w => N1 [e 0, e 2, e 5, e 18, e 19, e 20] w) (blockK 0 (seqK (fun e w => Fn43_s0 R (e 2) (e 5) w) (fiK f85 R)))))) e w = Fn43_s2 R N1 (e 0) (e 2) (e 5) (e 9) (e 18) (e 19) (e 20) w := fun e w => by kernel_rfl
def Fn43_s3 (R : KW) (N1 : KL) (x0 x2 x5 x8 x18 x19 x20 : Value) (w : World) : Prop :=
 callG prog 111 #[x8] w fun t39 w =>
 qG prog (Instr.extract t39 0) w fun t40 =>
 qG prog (Instr.extract t39 1) w fun t41 =>
 newG (zc prog 48) 48 w fun t10 w =>
 stn 4 t10 t40 w fun w =>
 fa 0 x5 fun t42 =>
 ld1 t42 w fun t43 =>
 ldn 4 t10 w fun t44 =>
 bsl 48 4 1 (zc prog 48) #[(0, t44)] w fun t45 w =>
 app 48 4 48 (zc prog 48) t43 t45 w fun t46 w =>
 fa 0 x5 fun t48 =>
 st1 t48 t46 w fun w =>
 Fn43_s2 R N1 x0 x2 x5 t41 x18 x19 x20 w
theorem Fn43_s3_eq (R : KW) (N1 : KL) : ∀ e w, liK 119 (sbK f85 [1, 1, 0, 1, 0, 0, 1, 1, 0, 0, 1, 1, 1, 0, 1, 0, 1, 0]) (blockK 2 (seqK (fun e w => Fn43_s2 R N1 (e 0) (e 2) (e 5) (e 9) (e 18) (e 19) (e 20) w) (blockK 1 (seqK (fun e w => Fn43_s1 R N1 (e 0) (e 2) (e 5) (e 18) (e 19) (e 20) w) (seqK (fun e w => N1 [e 0, e 2, e 5, e 18, e 19, e 20] w) (blockK 0 (seqK (fun e w => Fn43_s0 R (e 2) (e 5) w) (fiK f85 R)))))))) e w = Fn43_s3 R N1 (e 0) (e 2) (e 5) (e 8) (e 18) (e 19) (e 20) w := fun e w => by kernel_rfl
def Fn43_s4 (R : KW) (N1 : KL) (x0 x2 x5 x8 x18 x19 x20 : Value) (w : World) : Prop :=
 callG prog 112 #[x8] w fun t53 w =>
 qG prog (Instr.extract t53 0) w fun t54 =>
 qG prog (Instr.extract t53 1) w fun t55 =>
 newG (zc prog 70) 70 w fun t12 w =>
 stn 6 t12 t54 w fun w =>
 fa 1 x5 fun t56 =>
 ld1 t56 w fun t57 =>
 ldn 6 t12 w fun t58 =>
 bsl 70 6 1 (zc prog 70) #[(0, t58)] w fun t59 w =>
 app 70 6 64 (zc prog 70) t57 t59 w fun t60 w =>
 fa 1 x5 fun t62 =>
 st1 t62 t60 w fun w =>
 Fn43_s2 R N1 x0 x2 x5 t55 x18 x19 x20 w
theorem Fn43_s4_eq (R : KW) (N1 : KL) : ∀ e w, liK 119 (sbK f85 [1, 1, 0, 1, 0, 0, 1, 1, 0, 0, 1, 1, 1, 0, 1, 0, 1, 1, 1, 0]) (blockK 2 (seqK (fun e w => Fn43_s2 R N1 (e 0) (e 2) (e 5) (e 9) (e 18) (e 19) (e 20) w) (blockK 1 (seqK (fun e w => Fn43_s1 R N1 (e 0) (e 2) (e 5) (e 18) (e 19) (e 20) w) (seqK (fun e w => N1 [e 0, e 2, e 5, e 18, e 19, e 20] w) (blockK 0 (seqK (fun e w => Fn43_s0 R (e 2) (e 5) w) (fiK f85 R)))))))) e w = Fn43_s4 R N1 (e 0) (e 2) (e 5) (e 8) (e 18) (e 19) (e 20) w := fun e w => by kernel_rfl
def Fn43_s5 (R : KW) (N1 : KL) (x0 x2 x5 x8 x18 x19 x20 : Value) (w : World) : Prop :=
 callG prog 113 #[x8] w fun t67 w =>
 qG prog (Instr.extract t67 0) w fun t68 =>
 qG prog (Instr.extract t67 1) w fun t69 =>
 newG (zc prog 73) 73 w fun t14 w =>
 stn 6 t14 t68 w fun w =>
 fa 2 x5 fun t70 =>
 ld1 t70 w fun t71 =>
 ldn 6 t14 w fun t72 =>
 bsl 73 6 1 (zc prog 73) #[(0, t72)] w fun t73 w =>
 app 73 6 64 (zc prog 73) t71 t73 w fun t74 w =>
 fa 2 x5 fun t76 =>
 st1 t76 t74 w fun w =>
 Fn43_s2 R N1 x0 x2 x5 t69 x18 x19 x20 w
theorem Fn43_s5_eq (R : KW) (N1 : KL) : ∀ e w, liK 119 (sbK f85 [1, 1, 0, 1, 0, 0, 1, 1, 0, 0, 1, 1, 1, 0, 1, 0, 1, 1, 1, 1, 1, 0]) (blockK 2 (seqK (fun e w => Fn43_s2 R N1 (e 0) (e 2) (e 5) (e 9) (e 18) (e 19) (e 20) w) (blockK 1 (seqK (fun e w => Fn43_s1 R N1 (e 0) (e 2) (e 5) (e 18) (e 19) (e 20) w) (seqK (fun e w => N1 [e 0, e 2, e 5, e 18, e 19, e 20] w) (blockK 0 (seqK (fun e w => Fn43_s0 R (e 2) (e 5) w) (fiK f85 R)))))))) e w = Fn43_s5 R N1 (e 0) (e 2) (e 5) (e 8) (e 18) (e 19) (e 20) w := fun e w => by kernel_rfl
def Fn43_s6 (R : KW) (N1 : KL) (x0 x2 x5 x6 x8 : Value) (w : World) : Prop :=
 ia 3 x8 (.int .i64 0) fun t91 =>
 fa 1 t91 fun t92 =>
 ld1 t92 w fun t93 =>
 fa 3 x5 fun t94 =>
 st1 t94 t93 w fun w =>
 ldn 4 x5 w fun t96 =>
 callG prog 8 #[t96] w fun t97 w =>
 qG prog (Instr.extract t97 0) w fun t98 =>
 qG prog (Instr.extract t97 1) w fun t99 =>
 ldn 4 x5 (World.drew w) fun t100 =>
 qG prog (bq .add 3 (.tmp 102) (.const (.int .i64 1)) x6 (.int .i64 1)) (World.drew w) fun t103 =>
 slL 1 x0 (some t103) none fun t104 =>
 qG prog (bq .eql 30 (.tmp 105) (.const (.int .i64 0)) t99 (.int .i64 0)) (World.drew w) fun t106 =>
 bV t106
 (qG prog (bq .add 3 (.tmp 110) (.const (.int .i64 1)) x6 (.int .i64 1)) (World.drew w) fun t111 =>
 slL 1 x0 none (some t111) fun t112 =>
 callG prog 114 #[t98, t112] (World.drew w) fun t113 w =>
 stb prog (bq .add 3 (.tmp 102) (.const (.int .i64 1)) x6 (.int .i64 1)) t103 w ∧
 ldn 4 x5 w (fun u => u = t100) ∧
 stn 4 x2 t100 w fun w =>
 stb prog (bq .add 3 (.tmp 102) (.const (.int .i64 1)) x6 (.int .i64 1)) t103 w ∧
 qG prog (do loadVar 26 (← asAddr x2)) w fun r2 =>
 R (.tuple #[r2, t104, t113]) w)
 (stn 4 x2 t100 (World.drew w) fun w =>
 stb prog (bq .add 3 (.tmp 102) (.const (.int .i64 1)) x6 (.int .i64 1)) t103 w ∧
 qG prog (do loadVar 26 (← asAddr x2)) w fun r2_1 =>
 R (.tuple #[r2_1, t104, (.bool false)]) w)
theorem Fn43_s6_eq (R : KW) (N1 : KL) : ∀ e w, liK 119 (sbK f85 [1, 1, 0, 1, 0, 0, 1, 1, 0, 0, 1, 1, 1, 0, 1, 0, 1, 1, 1, 1, 1, 1, 1, 0, 1]) (blockK 2 (seqK (fun e w => Fn43_s2 R N1 (e 0) (e 2) (e 5) (e 9) (e 18) (e 19) (e 20) w) (blockK 1 (seqK (fun e w => Fn43_s1 R N1 (e 0) (e 2) (e 5) (e 18) (e 19) (e 20) w) (seqK (fun e w => N1 [e 0, e 2, e 5, e 18, e 19, e 20] w) (blockK 0 (seqK (fun e w => Fn43_s0 R (e 2) (e 5) w) (fiK f85 R)))))))) e w = Fn43_s6 R N1 (e 0) (e 2) (e 5) (e 6) (e 8) w := fun e w => by kernel_rfl
def Fn43_s7 (R : KW) (N1 : KL) (x0 x2 x5 x6 x8 : Value) (w : World) : Prop :=
 lenL x8 fun t80 =>
 qG prog (bq .neq 3 (.tmp 80) (.const (.int .i64 1)) t80 (.int .i64 1)) w fun t81 =>
 bV t81
 (ldn 4 x5 w fun t89 =>
 stn 4 x2 t89 w fun w =>
 qG prog (do loadVar 26 (← asAddr x2)) w fun r2 =>
 R (.tuple #[r2, (.slice none 0 0), (.bool false)]) w)
 (ia 3 x8 (.int .i64 0) fun t84 =>
 fa 0 t84 fun t85 =>
 ld1 t85 w fun t86 =>
 qG prog (bq .neq 3 (.tmp 86) (.const (.int .i64 1)) t86 (.int .i64 1)) w fun t87 =>
 bV t87
 (ldn 4 x5 w fun t89_1 =>
 stn 4 x2 t89_1 w fun w =>
 qG prog (do loadVar 26 (← asAddr x2)) w fun r2_1 =>
 R (.tuple #[r2_1, (.slice none 0 0), (.bool false)]) w)
 (Fn43_s6 R N1 x0 x2 x5 x6 x8 w))
theorem Fn43_s7_eq (R : KW) (N1 : KL) : ∀ e w, liK 119 (sbK f85 [1, 1, 0, 1, 0, 0, 1, 1, 0, 0, 1, 1, 1, 0, 1, 0, 1, 1, 1, 1, 1, 1, 1, 0]) (blockK 2 (seqK (fun e w => Fn43_s2 R N1 (e 0) (e 2) (e 5) (e 9) (e 18) (e 19) (e 20) w) (blockK 1 (seqK (fun e w => Fn43_s1 R N1 (e 0) (e 2) (e 5) (e 18) (e 19) (e 20) w) (seqK (fun e w => N1 [e 0, e 2, e 5, e 18, e 19, e 20] w) (blockK 0 (seqK (fun e w => Fn43_s0 R (e 2) (e 5) w) (fiK f85 R)))))))) e w = Fn43_s7 R N1 (e 0) (e 2) (e 5) (e 6) (e 8) w :=
 segs_eq (l := [(sbK f85 [1, 1, 0, 1, 0, 0, 1, 1, 0, 0, 1, 1, 1, 0, 1, 0, 1, 1, 1, 1, 1, 1, 1, 0, 0])]) (y := (sbK f85 [1, 1, 0, 1, 0, 0, 1, 1, 0, 0, 1, 1, 1, 0, 1, 0, 1, 1, 1, 1, 1, 1, 1, 0, 1])) (Y := (fun e w => Fn43_s6 R N1 (e 0) (e 2) (e 5) (e 6) (e 8) w)) (Fn43_s6_eq R N1) (fun e w => by kernel_rfl)
def Fn43_s8 (R : KW) (N1 : KL) (x0 x2 x5 x18 x19 x20 : Value) (w : World) : Prop :=
 Fn43_s2 R N1 x0 x2 x5 (.int .i64 50) x18 x19 x20 w
theorem Fn43_s8_eq (R : KW) (N1 : KL) : ∀ e w, liK 119 (sbK f85 [1, 1, 0, 1, 0, 0, 1, 1, 0, 0, 1, 1, 1, 0, 1, 0, 1, 1, 1, 1, 1, 1, 1, 1]) (blockK 2 (seqK (fun e w => Fn43_s2 R N1 (e 0) (e 2) (e 5) (e 9) (e 18) (e 19) (e 20) w) (blockK 1 (seqK (fun e w => Fn43_s1 R N1 (e 0) (e 2) (e 5) (e 18) (e 19) (e 20) w) (seqK (fun e w => N1 [e 0, e 2, e 5, e 18, e 19, e 20] w) (blockK 0 (seqK (fun e w => Fn43_s0 R (e 2) (e 5) w) (fiK f85 R)))))))) e w = Fn43_s8 R N1 (e 0) (e 2) (e 5) (e 18) (e 19) (e 20) w := fun e w => by kernel_rfl
def Fn43_s9 (R : KW) (N1 : KL) (x0 x2 x5 x6 x8 x18 x19 x20 x77 : Value) (w : World) : Prop :=
 bV x77 (Fn43_s7 R N1 x0 x2 x5 x6 x8 w) (Fn43_s8 R N1 x0 x2 x5 x18 x19 x20 w)
theorem Fn43_s9_eq (R : KW) (N1 : KL) : ∀ e w, liK 119 (sbK f85 [1, 1, 0, 1, 0, 0, 1, 1, 0, 0, 1, 1, 1, 0, 1, 0, 1, 1, 1, 1, 1, 1, 1]) (blockK 2 (seqK (fun e w => Fn43_s2 R N1 (e 0) (e 2) (e 5) (e 9) (e 18) (e 19) (e 20) w) (blockK 1 (seqK (fun e w => Fn43_s1 R N1 (e 0) (e 2) (e 5) (e 18) (e 19) (e 20) w) (seqK (fun e w => N1 [e 0, e 2, e 5, e 18, e 19, e 20] w) (blockK 0 (seqK (fun e w => Fn43_s0 R (e 2) (e 5) w) (fiK f85 R)))))))) e w = Fn43_s9 R N1 (e 0) (e 2) (e 5) (e 6) (e 8) (e 18) (e 19) (e 20) (e 77) w := fun e w => (cond_seg (x := (sbK f85 [1, 1, 0, 1, 0, 0, 1, 1, 0, 0, 1, 1, 1, 0, 1, 0, 1, 1, 1, 1, 1, 1, 1, 0])) (y := (sbK f85 [1, 1, 0, 1, 0, 0, 1, 1, 0, 0, 1, 1, 1, 0, 1, 0, 1, 1, 1, 1, 1, 1, 1, 1])) (Fn43_s7_eq R N1) (Fn43_s8_eq R N1) e w).trans (by kernel_rfl)
def Fn43_s10 (R : KW) (N1 : KL) (x0 x2 x5 x6 x8 x18 x19 x20 x34 : Value) (w : World) : Prop :=
 qG prog (bq .eql 9 (.tmp 34) (.const (.string ⟨#[69]⟩)) x34 (.string ⟨#[69]⟩)) w fun t78 =>
 Fn43_s9 R N1 x0 x2 x5 x6 x8 x18 x19 x20 t78 w
theorem Fn43_s10_eq (R : KW) (N1 : KL) : ∀ e w, liK 119 (sbK f85 [1, 1, 0, 1, 0, 0, 1, 1, 0, 0, 1, 1, 1, 0, 1, 0, 1, 1, 1, 1, 1, 1]) (blockK 2 (seqK (fun e w => Fn43_s2 R N1 (e 0) (e 2) (e 5) (e 9) (e 18) (e 19) (e 20) w) (blockK 1 (seqK (fun e w => Fn43_s1 R N1 (e 0) (e 2) (e 5) (e 18) (e 19) (e 20) w) (seqK (fun e w => N1 [e 0, e 2, e 5, e 18, e 19, e 20] w) (blockK 0 (seqK (fun e w => Fn43_s0 R (e 2) (e 5) w) (fiK f85 R)))))))) e w = Fn43_s10 R N1 (e 0) (e 2) (e 5) (e 6) (e 8) (e 18) (e 19) (e 20) (e 34) w :=
 segs_eq (l := [(sbK f85 [1, 1, 0, 1, 0, 0, 1, 1, 0, 0, 1, 1, 1, 0, 1, 0, 1, 1, 1, 1, 1, 1, 0])]) (y := (sbK f85 [1, 1, 0, 1, 0, 0, 1, 1, 0, 0, 1, 1, 1, 0, 1, 0, 1, 1, 1, 1, 1, 1, 1])) (Y := (fun e w => Fn43_s9 R N1 (e 0) (e 2) (e 5) (e 6) (e 8) (e 18) (e 19) (e 20) (e 77) w)) (Fn43_s9_eq R N1) (fun e w => by kernel_rfl)
def Fn43_s11 (R : KW) (N1 : KL) (x0 x2 x5 x6 x8 x18 x19 x20 x34 x63 : Value) (w : World) : Prop :=
 bV x63 (Fn43_s5 R N1 x0 x2 x5 x8 x18 x19 x20 w) (Fn43_s10 R N1 x0 x2 x5 x6 x8 x18 x19 x20 x34 w)
theorem Fn43_s11_eq (R : KW) (N1 : KL) : ∀ e w, liK 119 (sbK f85 [1, 1, 0, 1, 0, 0, 1, 1, 0, 0, 1, 1, 1, 0, 1, 0, 1, 1, 1, 1, 1]) (blockK 2 (seqK (fun e w => Fn43_s2 R N1 (e 0) (e 2) (e 5) (e 9) (e 18) (e 19) (e 20) w) (blockK 1 (seqK (fun e w => Fn43_s1 R N1 (e 0) (e 2) (e 5) (e 18) (e 19) (e 20) w) (seqK (fun e w => N1 [e 0, e 2, e 5, e 18, e 19, e 20] w) (blockK 0 (seqK (fun e w => Fn43_s0 R (e 2) (e 5) w) (fiK f85 R)))))))) e w = Fn43_s11 R N1 (e 0) (e 2) (e 5) (e 6) (e 8) (e 18) (e 19) (e 20) (e 34) (e 63) w := fun e w => (cond_seg (x := (sbK f85 [1, 1, 0, 1, 0, 0, 1, 1, 0, 0, 1, 1, 1, 0, 1, 0, 1, 1, 1, 1, 1, 0])) (y := (sbK f85 [1, 1, 0, 1, 0, 0, 1, 1, 0, 0, 1, 1, 1, 0, 1, 0, 1, 1, 1, 1, 1, 1])) (Fn43_s5_eq R N1) (Fn43_s10_eq R N1) e w).trans (by kernel_rfl)
def Fn43_s12 (R : KW) (N1 : KL) (x0 x2 x5 x6 x8 x18 x19 x20 x34 : Value) (w : World) : Prop :=
 qG prog (bq .eql 9 (.tmp 34) (.const (.string ⟨#[77]⟩)) x34 (.string ⟨#[77]⟩)) w fun t64 =>
 Fn43_s11 R N1 x0 x2 x5 x6 x8 x18 x19 x20 x34 t64 w
theorem Fn43_s12_eq (R : KW) (N1 : KL) : ∀ e w, liK 119 (sbK f85 [1, 1, 0, 1, 0, 0, 1, 1, 0, 0, 1, 1, 1, 0, 1, 0, 1, 1, 1, 1]) (blockK 2 (seqK (fun e w => Fn43_s2 R N1 (e 0) (e 2) (e 5) (e 9) (e 18) (e 19) (e 20) w) (blockK 1 (seqK (fun e w => Fn43_s1 R N1 (e 0) (e 2) (e 5) (e 18) (e 19) (e 20) w) (seqK (fun e w => N1 [e 0, e 2, e 5, e 18, e 19, e 20] w) (blockK 0 (seqK (fun e w => Fn43_s0 R (e 2) (e 5) w) (fiK f85 R)))))))) e w = Fn43_s12 R N1 (e 0) (e 2) (e 5) (e 6) (e 8) (e 18) (e 19) (e 20) (e 34) w :=
 segs_eq (l := [(sbK f85 [1, 1, 0, 1, 0, 0, 1, 1, 0, 0, 1, 1, 1, 0, 1, 0, 1, 1, 1, 1, 0])]) (y := (sbK f85 [1, 1, 0, 1, 0, 0, 1, 1, 0, 0, 1, 1, 1, 0, 1, 0, 1, 1, 1, 1, 1])) (Y := (fun e w => Fn43_s11 R N1 (e 0) (e 2) (e 5) (e 6) (e 8) (e 18) (e 19) (e 20) (e 34) (e 63) w)) (Fn43_s11_eq R N1) (fun e w => by kernel_rfl)
def Fn43_s13 (R : KW) (N1 : KL) (x0 x2 x5 x6 x8 x18 x19 x20 x34 x49 : Value) (w : World) : Prop :=
 bV x49 (Fn43_s4 R N1 x0 x2 x5 x8 x18 x19 x20 w) (Fn43_s12 R N1 x0 x2 x5 x6 x8 x18 x19 x20 x34 w)
theorem Fn43_s13_eq (R : KW) (N1 : KL) : ∀ e w, liK 119 (sbK f85 [1, 1, 0, 1, 0, 0, 1, 1, 0, 0, 1, 1, 1, 0, 1, 0, 1, 1, 1]) (blockK 2 (seqK (fun e w => Fn43_s2 R N1 (e 0) (e 2) (e 5) (e 9) (e 18) (e 19) (e 20) w) (blockK 1 (seqK (fun e w => Fn43_s1 R N1 (e 0) (e 2) (e 5) (e 18) (e 19) (e 20) w) (seqK (fun e w => N1 [e 0, e 2, e 5, e 18, e 19, e 20] w) (blockK 0 (seqK (fun e w => Fn43_s0 R (e 2) (e 5) w) (fiK f85 R)))))))) e w = Fn43_s13 R N1 (e 0) (e 2) (e 5) (e 6) (e 8) (e 18) (e 19) (e 20) (e 34) (e 49) w := fun e w => (cond_seg (x := (sbK f85 [1, 1, 0, 1, 0, 0, 1, 1, 0, 0, 1, 1, 1, 0, 1, 0, 1, 1, 1, 0])) (y := (sbK f85 [1, 1, 0, 1, 0, 0, 1, 1, 0, 0, 1, 1, 1, 0, 1, 0, 1, 1, 1, 1])) (Fn43_s4_eq R N1) (Fn43_s12_eq R N1) e w).trans (by kernel_rfl)
def Fn43_s14 (R : KW) (N1 : KL) (x0 x2 x5 x6 x8 x18 x19 x20 x34 : Value) (w : World) : Prop :=
 qG prog (bq .eql 9 (.tmp 34) (.const (.string ⟨#[72]⟩)) x34 (.string ⟨#[72]⟩)) w fun t50 =>
 Fn43_s13 R N1 x0 x2 x5 x6 x8 x18 x19 x20 x34 t50 w
theorem Fn43_s14_eq (R : KW) (N1 : KL) : ∀ e w, liK 119 (sbK f85 [1, 1, 0, 1, 0, 0, 1, 1, 0, 0, 1, 1, 1, 0, 1, 0, 1, 1]) (blockK 2 (seqK (fun e w => Fn43_s2 R N1 (e 0) (e 2) (e 5) (e 9) (e 18) (e 19) (e 20) w) (blockK 1 (seqK (fun e w => Fn43_s1 R N1 (e 0) (e 2) (e 5) (e 18) (e 19) (e 20) w) (seqK (fun e w => N1 [e 0, e 2, e 5, e 18, e 19, e 20] w) (blockK 0 (seqK (fun e w => Fn43_s0 R (e 2) (e 5) w) (fiK f85 R)))))))) e w = Fn43_s14 R N1 (e 0) (e 2) (e 5) (e 6) (e 8) (e 18) (e 19) (e 20) (e 34) w :=
 segs_eq (l := [(sbK f85 [1, 1, 0, 1, 0, 0, 1, 1, 0, 0, 1, 1, 1, 0, 1, 0, 1, 1, 0])]) (y := (sbK f85 [1, 1, 0, 1, 0, 0, 1, 1, 0, 0, 1, 1, 1, 0, 1, 0, 1, 1, 1])) (Y := (fun e w => Fn43_s13 R N1 (e 0) (e 2) (e 5) (e 6) (e 8) (e 18) (e 19) (e 20) (e 34) (e 49) w)) (Fn43_s13_eq R N1) (fun e w => by kernel_rfl)
def Fn43_s15 (R : KW) (N1 : KL) (x0 x2 x5 x6 x8 x18 x19 x20 x34 x35 : Value) (w : World) : Prop :=
 bV x35 (Fn43_s3 R N1 x0 x2 x5 x8 x18 x19 x20 w) (Fn43_s14 R N1 x0 x2 x5 x6 x8 x18 x19 x20 x34 w)
theorem Fn43_s15_eq (R : KW) (N1 : KL) : ∀ e w, liK 119 (sbK f85 [1, 1, 0, 1, 0, 0, 1, 1, 0, 0, 1, 1, 1, 0, 1, 0, 1]) (blockK 2 (seqK (fun e w => Fn43_s2 R N1 (e 0) (e 2) (e 5) (e 9) (e 18) (e 19) (e 20) w) (blockK 1 (seqK (fun e w => Fn43_s1 R N1 (e 0) (e 2) (e 5) (e 18) (e 19) (e 20) w) (seqK (fun e w => N1 [e 0, e 2, e 5, e 18, e 19, e 20] w) (blockK 0 (seqK (fun e w => Fn43_s0 R (e 2) (e 5) w) (fiK f85 R)))))))) e w = Fn43_s15 R N1 (e 0) (e 2) (e 5) (e 6) (e 8) (e 18) (e 19) (e 20) (e 34) (e 35) w := fun e w => (cond_seg (x := (sbK f85 [1, 1, 0, 1, 0, 0, 1, 1, 0, 0, 1, 1, 1, 0, 1, 0, 1, 0])) (y := (sbK f85 [1, 1, 0, 1, 0, 0, 1, 1, 0, 0, 1, 1, 1, 0, 1, 0, 1, 1])) (Fn43_s3_eq R N1) (Fn43_s14_eq R N1) e w).trans (by kernel_rfl)
def Fn43_s16 (R : KW) (N1 : KL) (x0 x2 x5 x6 x8 x18 x19 x20 x34 : Value) (w : World) : Prop :=
 qG prog (bq .eql 9 (.tmp 34) (.const (.string ⟨#[83]⟩)) x34 (.string ⟨#[83]⟩)) w fun t36 =>
 Fn43_s15 R N1 x0 x2 x5 x6 x8 x18 x19 x20 x34 t36 w
theorem Fn43_s16_eq (R : KW) (N1 : KL) : ∀ e w, liK 119 (sbK f85 [1, 1, 0, 1, 0, 0, 1, 1, 0, 0, 1, 1, 1, 0, 1, 0]) (blockK 2 (seqK (fun e w => Fn43_s2 R N1 (e 0) (e 2) (e 5) (e 9) (e 18) (e 19) (e 20) w) (blockK 1 (seqK (fun e w => Fn43_s1 R N1 (e 0) (e 2) (e 5) (e 18) (e 19) (e 20) w) (seqK (fun e w => N1 [e 0, e 2, e 5, e 18, e 19, e 20] w) (blockK 0 (seqK (fun e w => Fn43_s0 R (e 2) (e 5) w) (fiK f85 R)))))))) e w = Fn43_s16 R N1 (e 0) (e 2) (e 5) (e 6) (e 8) (e 18) (e 19) (e 20) (e 34) w :=
 segs_eq (l := [(sbK f85 [1, 1, 0, 1, 0, 0, 1, 1, 0, 0, 1, 1, 1, 0, 1, 0, 0])]) (y := (sbK f85 [1, 1, 0, 1, 0, 0, 1, 1, 0, 0, 1, 1, 1, 0, 1, 0, 1])) (Y := (fun e w => Fn43_s15 R N1 (e 0) (e 2) (e 5) (e 6) (e 8) (e 18) (e 19) (e 20) (e 34) (e 35) w)) (Fn43_s15_eq R N1) (fun e w => by kernel_rfl)
def Fn43_s17 (R : KW) (N1 : KL) (x0 x2 x5 x6 x7 x8 x18 x19 x20 : Value) (w : World) : Prop :=
 slS x7 none (some (.int .i64 1)) fun t34 =>
 Fn43_s16 R N1 x0 x2 x5 x6 x8 x18 x19 x20 t34 w
theorem Fn43_s17_eq (R : KW) (N1 : KL) : ∀ e w, liK 119 (sbK f85 [1, 1, 0, 1, 0, 0, 1, 1, 0, 0, 1, 1, 1, 0]) (seqK (fun e w => Fn43_s2 R N1 (e 0) (e 2) (e 5) (e 9) (e 18) (e 19) (e 20) w) (blockK 1 (seqK (fun e w => Fn43_s1 R N1 (e 0) (e 2) (e 5) (e 18) (e 19) (e 20) w) (seqK (fun e w => N1 [e 0, e 2, e 5, e 18, e 19, e 20] w) (blockK 0 (seqK (fun e w => Fn43_s0 R (e 2) (e 5) w) (fiK f85 R))))))) e w = Fn43_s17 R N1 (e 0) (e 2) (e 5) (e 6) (e 7) (e 8) (e 18) (e 19) (e 20) w :=
 segs_eq (l := [(sbK f85 [1, 1, 0, 1, 0, 0, 1, 1, 0, 0, 1, 1, 1, 0, 0])]) (y := (sbK f85 [1, 1, 0, 1, 0, 0, 1, 1, 0, 0, 1, 1, 1, 0, 1])) (Y := (fun e w => Fn43_s16 R N1 (e 0) (e 2) (e 5) (e 6) (e 8) (e 18) (e 19) (e 20) (e 34) w)) (Fn43_s16_eq R N1) (fun e w => by kernel_rfl)
def Fn43_s18 (R : KW) (N1 : KL) (x0 x2 x5 x18 x19 x20 : Value) (w : World) : Prop :=
 ia 1 x18 x20 fun t23 =>
 ld1 t23 w fun t24 =>
 slS t24 (some (.int .i64 1)) none fun t27 =>
 callG prog 110 #[t27] w fun t28 w =>
 qG prog (Instr.extract t28 0) w fun t29 =>
 qG prog (Instr.extract t28 1) w fun t30 =>
 qG prog (bq .neq 30 (.tmp 31) (.const (.int .i64 0)) t30 (.int .i64 0)) w fun t32 =>
 bV t32
 (Fn43_s0 R x2 x5 w)
 (Fn43_s17 R N1 x0 x2 x5 x20 t24 t29 x18 x19 x20 w)
theorem Fn43_s18_eq (R : KW) (N1 : KL) : ∀ e w, liK 119 (sbK f85 [1, 1, 0, 1, 0, 0, 1, 1, 0, 0]) (blockK 1 (seqK (fun e w => Fn43_s1 R N1 (e 0) (e 2) (e 5) (e 18) (e 19) (e 20) w) (seqK (fun e w => N1 [e 0, e 2, e 5, e 18, e 19, e 20] w) (blockK 0 (seqK (fun e w => Fn43_s0 R (e 2) (e 5) w) (fiK f85 R)))))) e w = Fn43_s18 R N1 (e 0) (e 2) (e 5) (e 18) (e 19) (e 20) w :=
 segs_eq (l := [(sbK f85 [1, 1, 0, 1, 0, 0, 1, 1, 0, 0, 0]), (sbK f85 [1, 1, 0, 1, 0, 0, 1, 1, 0, 0, 1, 0]), (sbK f85 [1, 1, 0, 1, 0, 0, 1, 1, 0, 0, 1, 1, 0])]) (y := (sbK f85 [1, 1, 0, 1, 0, 0, 1, 1, 0, 0, 1, 1, 1])) (Y := (fun e w => Fn43_s17 R N1 (e 0) (e 2) (e 5) (e 6) (e 7) (e 8) (e 18) (e 19) (e 20) w)) (seq_seg (x := (sbK f85 [1, 1, 0, 1, 0, 0, 1, 1, 0, 0, 1, 1, 1, 0])) (y := (sbK f85 [1, 1, 0, 1, 0, 0, 1, 1, 0, 0, 1, 1, 1, 1])) (Fn43_s2_eq R N1) (Fn43_s17_eq R N1)) (fun e w => by kernel_rfl)
def Fn43_s19 (R : KW) (N1 : KL) (x0 x2 x5 x18 x19 x20 : Value) (w : World) : Prop :=
 qG prog (bq .lss 3 (.tmp 20) (.tmp 19) x20 x19) w fun t21 =>
 bV t21
 (Fn43_s18 R N1 x0 x2 x5 x18 x19 x20 w)
 (Fn43_s0 R x2 x5 w)
theorem Fn43_s19_eq (R : KW) (N1 : KL) : ∀ e w, liK 119 (sbK f85 [1, 1, 0, 1, 0, 0]) (seqK (fun e w => N1 [e 0, e 2, e 5, e 18, e 19, e 20] w) (blockK 0 (seqK (fun e w => Fn43_s0 R (e 2) (e 5) w) (fiK f85 R)))) e w = Fn43_s19 R N1 (e 0) (e 2) (e 5) (e 18) (e 19) (e 20) w :=
 segs_eq (l := [(sbK f85 [1, 1, 0, 1, 0, 0, 0]), (sbK f85 [1, 1, 0, 1, 0, 0, 1, 0])]) (y := (sbK f85 [1, 1, 0, 1, 0, 0, 1, 1])) (Y := (fun e w => Fn43_s18 R N1 (e 0) (e 2) (e 5) (e 18) (e 19) (e 20) w)) (seq_seg (x := (sbK f85 [1, 1, 0, 1, 0, 0, 1, 1, 0])) (y := (sbK f85 [1, 1, 0, 1, 0, 0, 1, 1, 1])) (Fn43_s1_eq R N1) (Fn43_s18_eq R N1)) (fun e w => by kernel_rfl)
def Fn43_L20F (R : KW) (N1 : KL) (xs : List Value) (w : World) : Prop :=
 match xs with
 | [x0, x2, x5, x18, x19, x20] => Fn43_s19 R N1 x0 x2 x5 x18 x19 x20 w
 | _ => False
def Fn43_L20 (R : KW) (x0 x2 x5 x18 x19 x20 : Value) (w : World) : Prop :=
 ∃ m, loopV (Fn43_L20F R) m [x0, x2, x5, x18, x19, x20] w
theorem Fn43_L20_eq (R : KW) : ∀ e w, liK 119 (sbK f85 [1, 1, 0, 1, 0]) (blockK 0 (seqK (fun e w => Fn43_s0 R (e 2) (e 5) w) (fiK f85 R))) e w = Fn43_L20 R (e 0) (e 2) (e 5) (e 18) (e 19) (e 20) w := loop_seg (F := Fn43_L20F R) (sel := fun e => [e 0, e 2, e 5, e 18, e 19, e 20]) fun N1 => (Fn43_s19_eq R N1)
def Fn43_s21 (R : KW) (x0 x2 x5 : Value) (w : World) : Prop :=
 lenL x0 fun t19 =>
 Fn43_L20 R x0 x2 x5 x0 t19 (.int .i64 0) w
theorem Fn43_s21_eq (R : KW) : ∀ e w, liK 119 (sbK f85 [1, 1, 0]) (seqK (fun e w => Fn43_s0 R (e 2) (e 5) w) (fiK f85 R)) e w = Fn43_s21 R (e 0) (e 2) (e 5) w :=
 segs_eq (l := [(sbK f85 [1, 1, 0, 0])]) (y := (sbK f85 [1, 1, 0, 1])) (Y := (fun e w => Fn43_L20 R (e 0) (e 2) (e 5) (e 18) (e 19) (e 20) w)) (Fn43_L20_eq R) (fun e w => by kernel_rfl)
def Fn43_s22 (R : KW) (x0 : Value) (w : World) : Prop :=
 newG (zc prog 26) 26 w fun t2 w =>
 newG (zc prog 26) 26 w fun t5 w =>
 Fn43_s21 R x0 t2 t5 w
theorem Fn43_s22_eq (R : KW) : ∀ e w, liK 119 (bodyOf f85) (fiK f85 R) e w = Fn43_s22 R (e 0) w :=
 segs_eq (l := [(sbK f85 [0]), (sbK f85 [1, 0])]) (y := (sbK f85 [1, 1])) (Y := (fun e w => Fn43_s21 R (e 0) (e 2) (e 5) w)) (seq_seg (x := (sbK f85 [1, 1, 0])) (y := (sbK f85 [1, 1, 1])) (Fn43_s0_eq R) (Fn43_s21_eq R)) (fun e w => by kernel_rfl)
def Fn43 (R : KW) (x0 : Value) (w : World) : Prop := Fn43_s22 R x0 w
theorem Fn43_call {R : KW} {x0 : Value} {w : World} (h : Fn43 R x0 w) : callG prog 85 #[x0] w R :=
 calls_lift_eq mixed func85 (args := [x0]) rfl rfl rfl rfl ((Fn43_s22_eq R) (envOf [x0]) w) (by kernel_rfl) h
def Fn44_s0 (R : KW) (x4 x10 x13 : Value) (w : World) : Prop :=
 ldn 4 x10 w fun t71 =>
 callG prog 88 #[t71, x13] w fun t73 w =>
 qG prog (Instr.extract t73 0) w fun t74 =>
 qG prog (Instr.extract t73 1) w fun t75 =>
 qG prog (Instr.extract t73 2) w fun t76 =>
 stn 4 x10 t74 w fun w =>
 ldn 4 x10 w fun t77 =>
 qG prog (bq .eql 30 (.tmp 78) (.const (.int .i64 0)) t76 (.int .i64 0)) w fun t79 =>
 stn 4 x4 t77 w fun w =>
 qG prog (do loadVar 26 (← asAddr x4)) w fun r4 =>
 R (.tuple #[r4, t79]) w
theorem Fn44_s0_eq (R : KW) : ∀ e w, liK 80 (sbK f38 [1, 1, 1, 1, 1, 1, 1, 1]) (fiK f38 R) e w = Fn44_s0 R (e 4) (e 10) (e 13) w := fun e w => by kernel_rfl
def Fn44_b1 (R : KW) (N1 : KL) (x4 x10 x13 x45 x46 x47 : Value) (w : World) : Prop :=
 qG prog (bq .lss 3 (.tmp 47) (.tmp 46) x47 x46) w fun t48 =>
 bV t48
 (ia 1 x45 x47 fun t49 =>
 ld1 t49 w fun t50 =>
 slS t50 (some (.int .i64 1)) none fun t53 =>
 callG prog 87 #[t53] w fun t54 w =>
 qG prog (Instr.extract t54 0) w fun t55 =>
 qG prog (Instr.extract t54 1) w fun t56 =>
 newG (zc prog 42) 42 w fun t16 w =>
 stn 7 t16 t55 w fun w =>
 slS t50 none (some (.int .i64 1)) fun t58 =>
 qG prog (bq .neq 9 (.tmp 58) (.const (.string ⟨#[79]⟩)) t58 (.string ⟨#[79]⟩)) w fun t59 =>
 bV t59
 (ldn 4 x10 w fun t64 =>
 stn 4 x4 t64 w fun w =>
 qG prog (do loadVar 26 (← asAddr x4)) w fun r4 =>
 R (.tuple #[r4, (.bool false)]) w)
 (qG prog (bq .neq 30 (.tmp 61) (.const (.int .i64 0)) t56 (.int .i64 0)) w fun t62 =>
 bV t62
 (ldn 4 x10 w fun t64_1 =>
 stn 4 x4 t64_1 w fun w =>
 qG prog (do loadVar 26 (← asAddr x4)) w fun r4_1 =>
 R (.tuple #[r4_1, (.bool false)]) w)
 (ldn 7 t16 w fun t66 =>
 bsl 42 7 1 (zc prog 42) #[(0, t66)] w fun t67 w =>
 app 42 7 80 (zc prog 42) x13 t67 w fun t68 w =>
 qG prog (bq .add 3 (.tmp 47) (.const (.int .i64 1)) x47 (.int .i64 1)) w fun t69 =>
 N1 [x4, x10, t68, x45, x46, t69] w)))
 (Fn44_s0 R x4 x10 x13 w)
theorem Fn44_b1_eq (R : KW) (N1 : KL) : ∀ e w, liK 80 (sbK f38 [1, 1, 1, 1, 1, 1, 1, 0, 1, 0, 0]) (seqK (fun e w => N1 [e 4, e 10, e 13, e 45, e 46, e 47] w) (blockK 0 (seqK (fun e w => Fn44_s0 R (e 4) (e 10) (e 13) w) (fiK f38 R)))) e w = Fn44_b1 R N1 (e 4) (e 10) (e 13) (e 45) (e 46) (e 47) w := fun e w => by kernel_rfl
def Fn44_L2F (R : KW) (N1 : KL) (xs : List Value) (w : World) : Prop :=
 match xs with
 | [x4, x10, x13, x45, x46, x47] => Fn44_b1 R N1 x4 x10 x13 x45 x46 x47 w
 | _ => False
def Fn44_L2 (R : KW) (x4 x10 x13 x45 x46 x47 : Value) (w : World) : Prop :=
 ∃ m, loopV (Fn44_L2F R) m [x4, x10, x13, x45, x46, x47] w
theorem Fn44_L2_eq (R : KW) : ∀ e w, liK 80 (sbK f38 [1, 1, 1, 1, 1, 1, 1, 0, 1, 0]) (blockK 0 (seqK (fun e w => Fn44_s0 R (e 4) (e 10) (e 13) w) (fiK f38 R))) e w = Fn44_L2 R (e 4) (e 10) (e 13) (e 45) (e 46) (e 47) w := loop_seg (F := Fn44_L2F R) (sel := fun e => [e 4, e 10, e 13, e 45, e 46, e 47]) fun N1 => (Fn44_b1_eq R N1)
def Fn44_s3 (R : KW) (x4 x10 x11 x13 : Value) (w : World) : Prop :=
 lenL x11 fun t46 =>
 Fn44_L2 R x4 x10 x13 x11 t46 (.int .i64 0) w
theorem Fn44_s3_eq (R : KW) : ∀ e w, liK 80 (sbK f38 [1, 1, 1, 1, 1, 1, 1, 0]) (seqK (fun e w => Fn44_s0 R (e 4) (e 10) (e 13) w) (fiK f38 R)) e w = Fn44_s3 R (e 4) (e 10) (e 11) (e 13) w :=
 segs_eq (l := [(sbK f38 [1, 1, 1, 1, 1, 1, 1, 0, 0])]) (y := (sbK f38 [1, 1, 1, 1, 1, 1, 1, 0, 1])) (Y := (fun e w => Fn44_L2 R (e 4) (e 10) (e 13) (e 45) (e 46) (e 47) w)) (Fn44_L2_eq R) (fun e w => by kernel_rfl)
def Fn44_s4 (R : KW) (x0 x1 : Value) (w : World) : Prop :=
 newG (zc prog 26) 26 w fun t4 w =>
 callG prog 83 #[x0, x1] w fun t21 w =>
 qG prog (Instr.extract t21 0) w fun t22 =>
 qG prog (Instr.extract t21 1) w fun t23 =>
 callG prog 84 #[x0, t22, t23, x1] w fun t29 w =>
 qG prog (Instr.extract t29 0) w fun t30 =>
 qG prog (Instr.extract t29 1) w fun t31 =>
 qG prog (bq .neq 30 (.tmp 32) (.const (.int .i64 0)) t31 (.int .i64 0)) w fun t33 =>
 bV t33
 (bld [(0, 1), (1, 1), (2, 1), (3, 1)] (zc prog 26) #[] fun t34 =>
 stn 4 t4 t34 w fun w =>
 qG prog (do loadVar 26 (← asAddr t4)) w fun r4 =>
 R (.tuple #[r4, (.bool false)]) w)
 (callG prog 86 #[t30] w fun t37 w =>
 callG prog 85 #[t37] w fun t38 w =>
 qG prog (Instr.extract t38 0) w fun t39 =>
 qG prog (Instr.extract t38 1) w fun t40 =>
 qG prog (Instr.extract t38 2) w fun t41 =>
 newG (zc prog 26) 26 w fun t10 w =>
 stn 4 t10 t39 w fun w =>
 qG prog (Op.unary .not t41) w fun t43 =>
 bV t43
 (ldn 4 t10 w fun t44 =>
 stn 4 t4 t44 w fun w =>
 qG prog (do loadVar 26 (← asAddr t4)) w fun r4_1 =>
 R (.tuple #[r4_1, (.bool false)]) w)
 (Fn44_s3 R t4 t10 t40 (.slice none 0 0) w))
theorem Fn44_s4_eq (R : KW) : ∀ e w, liK 80 (bodyOf f38) (fiK f38 R) e w = Fn44_s4 R (e 0) (e 1) w :=
 segs_eq (l := [(sbK f38 [0]), (sbK f38 [1, 0]), (sbK f38 [1, 1, 0]), (sbK f38 [1, 1, 1, 0]), (sbK f38 [1, 1, 1, 1, 0]), (sbK f38 [1, 1, 1, 1, 1, 0]), (sbK f38 [1, 1, 1, 1, 1, 1, 0])]) (y := (sbK f38 [1, 1, 1, 1, 1, 1, 1])) (Y := (fun e w => Fn44_s3 R (e 4) (e 10) (e 11) (e 13) w)) (seq_seg (x := (sbK f38 [1, 1, 1, 1, 1, 1, 1, 0])) (y := (sbK f38 [1, 1, 1, 1, 1, 1, 1, 1])) (Fn44_s0_eq R) (Fn44_s3_eq R)) (fun e w => by kernel_rfl)
def Fn44 (R : KW) (x0 x1 : Value) (w : World) : Prop := Fn44_s4 R x0 x1 w
theorem Fn44_call {R : KW} {x0 x1 : Value} {w : World} (h : Fn44 R x0 x1 w) : callG prog 38 #[x0, x1] w R :=
 calls_lift_eq mixed func38 (args := [x0, x1]) rfl rfl rfl rfl ((Fn44_s4_eq R) (envOf [x0, x1]) w) (by kernel_rfl) h
def Fn36_s0 (R : KW) (x0 x5 x11 x12 : Value) (w : World) : Prop :=
 nk x0 fun t104 =>
 fa 0 t104 fun t105 =>
 ld1 t105 w fun t106 =>
 callG prog 91 #[t106] w fun t107 w =>
 qG prog (bq .neq 30 (.tmp 108) (.const (.int .i64 0)) t107 (.int .i64 0)) w fun t109 =>
 bV t109
 (R t107 w)
 (nk x0 fun t112 =>
 fa 0 t112 fun t113 =>
 ld1 t113 (World.drew w) fun t114 =>
 qG prog (bq .rem 3 (.tmp 115) (.const (.int .i64 2)) x5 (.int .i64 2)) (World.drew w) fun t116 =>
 callG prog 37 #[x5] (World.drew w) fun t118 w =>
 stb prog (bq .rem 3 (.tmp 115) (.const (.int .i64 2)) x5 (.int .i64 2)) t116 w ∧
 ld1 t113 w (fun u => u = t114) ∧
 callG prog 90 #[t114, t116, t118] w fun t119 w =>
 qG prog (bq .neq 30 (.tmp 120) (.const (.int .i64 0)) t119 (.int .i64 0)) w fun t121 =>
 bV t121
 (R t119 w)
 (nk x0 fun t124 =>
 fa 0 t124 fun t125 =>
 ld1 t125 w fun t126 =>
 callG prog 91 #[t126] w fun t127 w =>
 qG prog (bq .neq 30 (.tmp 128) (.const (.int .i64 0)) t127 (.int .i64 0)) w fun t129 =>
 bV t129
 (R t127 w)
 (nk x0 fun t133 =>
 fa 0 t133 fun t134 =>
 ld1 t134 w fun t135 =>
 callG prog 84 #[t135, x11, x12, x5] w fun t139 w =>
 qG prog (Instr.extract t139 0) w fun t140 =>
 qG prog (Instr.extract t139 1) w fun t141 =>
 qG prog (bq .neq 30 (.tmp 142) (.const (.int .i64 0)) t141 (.int .i64 0)) w fun t143 =>
 bV t143
 (R t141 w)
 (nk x0 fun t149 =>
 fa 5 t149 fun t150 =>
 st1 t150 x5 w fun w =>
 nk x0 fun t151 =>
 fa 6 t151 fun t152 =>
 st1 t152 t140 w fun w =>
 R (.int .i64 0) w))))
theorem Fn36_s0_eq (R : KW) : ∀ e w, liK 153 (sbK f39 [1, 1, 1, 1, 1, 1, 1, 1, 1, 1]) (fiK f39 R) e w = Fn36_s0 R (e 0) (e 5) (e 11) (e 12) w := fun e w => by kernel_rfl
def Fn36_b1 (R : KW) (N1 : KL) (x0 x5 x11 x12 x13 x14 : Value) (w : World) : Prop :=
 qG prog (bq .lss 3 (.tmp 78) (.tmp 79) x14 x12) w fun t80 =>
 bV t80
 (nk x0 fun t84 =>
 fa 0 t84 fun t85 =>
 ld1 t85 (World.drew w) fun t86 =>
 qG prog (bq .sub 3 (.tmp 89) (.tmp 90) x14 x11) (World.drew w) fun t91 =>
 qG prog (bq .mul 3 (.const (.int .i64 32)) (.tmp 91) (.int .i64 32) t91) (World.drew w) fun t92 =>
 qG prog (bq .sub 3 (.tmp 93) (.tmp 94) x14 x11) (World.drew w) fun t95 =>
 qG prog (bq .mul 3 (.const (.int .i64 32)) (.tmp 95) (.int .i64 32) t95) (World.drew w) fun t96 =>
 qG prog (bq .add 3 (.tmp 96) (.const (.int .i64 32)) t96 (.int .i64 32)) (World.drew w) fun t97 =>
 slS x13 (some t92) (some t97) fun t98 =>
 callG prog 90 #[t86, x14, t98] (World.drew w) fun t99 w =>
 qG prog (bq .neq 30 (.tmp 100) (.const (.int .i64 0)) t99 (.int .i64 0)) w fun t101 =>
 bV t101
 (R t99 w)
 (qG prog (bq .add 3 (.tmp 81) (.const (.int .i64 1)) x14 (.int .i64 1)) w fun t82 =>
 N1 [x0, x5, x11, x12, x13, t82] w))
 (Fn36_s0 R x0 x5 x11 x12 w)
theorem Fn36_b1_eq (R : KW) (N1 : KL) : ∀ e w, liK 153 (sbK f39 [1, 1, 1, 1, 1, 1, 1, 1, 1, 0, 1, 0, 0]) (seqK (fun e w => N1 [e 0, e 5, e 11, e 12, e 13, e 14] w) (blockK 2 (seqK (fun e w => Fn36_s0 R (e 0) (e 5) (e 11) (e 12) w) (fiK f39 R)))) e w = Fn36_b1 R N1 (e 0) (e 5) (e 11) (e 12) (e 13) (e 14) w := fun e w => by kernel_rfl
def Fn36_L2F (R : KW) (N1 : KL) (xs : List Value) (w : World) : Prop :=
 match xs with
 | [x0, x5, x11, x12, x13, x14] => Fn36_b1 R N1 x0 x5 x11 x12 x13 x14 w
 | _ => False
def Fn36_L2 (R : KW) (x0 x5 x11 x12 x13 x14 : Value) (w : World) : Prop :=
 ∃ m, loopV (Fn36_L2F R) m [x0, x5, x11, x12, x13, x14] w
theorem Fn36_L2_eq (R : KW) : ∀ e w, liK 153 (sbK f39 [1, 1, 1, 1, 1, 1, 1, 1, 1, 0, 1, 0]) (blockK 2 (seqK (fun e w => Fn36_s0 R (e 0) (e 5) (e 11) (e 12) w) (fiK f39 R))) e w = Fn36_L2 R (e 0) (e 5) (e 11) (e 12) (e 13) (e 14) w := loop_seg (F := Fn36_L2F R) (sel := fun e => [e 0, e 5, e 11, e 12, e 13, e 14]) fun N1 => (Fn36_b1_eq R N1)
def Fn36_s3 (R : KW) (x0 x5 x11 x12 x13 : Value) (w : World) : Prop :=
 Fn36_L2 R x0 x5 x11 x12 x13 x11 w
theorem Fn36_s3_eq (R : KW) : ∀ e w, liK 153 (sbK f39 [1, 1, 1, 1, 1, 1, 1, 1, 1, 0]) (seqK (fun e w => Fn36_s0 R (e 0) (e 5) (e 11) (e 12) w) (fiK f39 R)) e w = Fn36_s3 R (e 0) (e 5) (e 11) (e 12) (e 13) w :=
 segs_eq (l := [(sbK f39 [1, 1, 1, 1, 1, 1, 1, 1, 1, 0, 0])]) (y := (sbK f39 [1, 1, 1, 1, 1, 1, 1, 1, 1, 0, 1])) (Y := (fun e w => Fn36_L2 R (e 0) (e 5) (e 11) (e 12) (e 13) (e 14) w)) (Fn36_L2_eq R) (fun e w => by kernel_rfl)
def Fn36_s4 (R : KW) (x0 x5 x6 : Value) (w : World) : Prop :=
 nk x0 fun t64 =>
 fa 0 t64 fun t65 =>
 ld1 t65 w fun t66 =>
 callG prog 83 #[t66, x5] w fun t68 w =>
 qG prog (Instr.extract t68 0) w fun t69 =>
 qG prog (Instr.extract t68 1) w fun t70 =>
 callG prog 61 #[x6] w fun t71 w =>
 qG prog (bq .sub 3 (.tmp 72) (.tmp 73) t70 t69) w fun t74 =>
 qG prog (bq .mul 3 (.const (.int .i64 32)) (.tmp 74) (.int .i64 32) t74) w fun t75 =>
 callG prog 81 #[t71, t75] w fun t76 w =>
 Fn36_s3 R x0 x5 t69 t70 t76 w
theorem Fn36_s4_eq (R : KW) : ∀ e w, liK 153 (sbK f39 [1, 1, 1, 1, 1, 1, 1]) (fiK f39 R) e w = Fn36_s4 R (e 0) (e 5) (e 6) w :=
 segs_eq (l := [(sbK f39 [1, 1, 1, 1, 1, 1, 1, 0]), (sbK f39 [1, 1, 1, 1, 1, 1, 1, 1, 0])]) (y := (sbK f39 [1, 1, 1, 1, 1, 1, 1, 1, 1])) (Y := (fun e w => Fn36_s3 R (e 0) (e 5) (e 11) (e 12) (e 13) w)) (seq_seg (x := (sbK f39 [1, 1, 1, 1, 1, 1, 1, 1, 1, 0])) (y := (sbK f39 [1, 1, 1, 1, 1, 1, 1, 1, 1, 1])) (Fn36_s0_eq R) (Fn36_s3_eq R)) (fun e w => by kernel_rfl)
def Fn36_b5 (R : KW) (N1 : KL) (x0 x5 x6 x47 x48 x49 : Value) (w : World) : Prop :=
 qG prog (bq .lss 3 (.tmp 49) (.tmp 48) x49 x48) w fun t50 =>
 bV t50
 (ia 1 x47 x49 fun t51 =>
 ld1 t51 w fun t52 =>
 callG prog 89 #[x5, t52] w fun t56 w =>
 qG prog (Instr.extract t56 0) w fun t57 =>
 qG prog (Instr.extract t56 1) w fun t58 =>
 callG prog 59 #[x6, t57] w fun t60 w =>
 qG prog (bq .add 3 (.tmp 49) (.const (.int .i64 1)) x49 (.int .i64 1)) w fun t61 =>
 N1 [x0, x5, x6, x47, x48, t61] w)
 (Fn36_s4 R x0 x5 x6 w)
theorem Fn36_b5_eq (R : KW) (N1 : KL) : ∀ e w, liK 153 (sbK f39 [1, 1, 1, 1, 1, 1, 0, 1, 0, 0]) (seqK (fun e w => N1 [e 0, e 5, e 6, e 47, e 48, e 49] w) (blockK 0 (seqK (fun e w => Fn36_s4 R (e 0) (e 5) (e 6) w) (fiK f39 R)))) e w = Fn36_b5 R N1 (e 0) (e 5) (e 6) (e 47) (e 48) (e 49) w := fun e w => by kernel_rfl
def Fn36_L6F (R : KW) (N1 : KL) (xs : List Value) (w : World) : Prop :=
 match xs with
 | [x0, x5, x6, x47, x48, x49] => Fn36_b5 R N1 x0 x5 x6 x47 x48 x49 w
 | _ => False
def Fn36_L6 (R : KW) (x0 x5 x6 x47 x48 x49 : Value) (w : World) : Prop :=
 ∃ m, loopV (Fn36_L6F R) m [x0, x5, x6, x47, x48, x49] w
theorem Fn36_L6_eq (R : KW) : ∀ e w, liK 153 (sbK f39 [1, 1, 1, 1, 1, 1, 0, 1, 0]) (blockK 0 (seqK (fun e w => Fn36_s4 R (e 0) (e 5) (e 6) w) (fiK f39 R))) e w = Fn36_L6 R (e 0) (e 5) (e 6) (e 47) (e 48) (e 49) w := loop_seg (F := Fn36_L6F R) (sel := fun e => [e 0, e 5, e 6, e 47, e 48, e 49]) fun N1 => (Fn36_b5_eq R N1)
def Fn36_s7 (R : KW) (x0 x3 x5 x6 : Value) (w : World) : Prop :=
 lenL x3 fun t48 =>
 Fn36_L6 R x0 x5 x6 x3 t48 (.int .i64 0) w
theorem Fn36_s7_eq (R : KW) : ∀ e w, liK 153 (sbK f39 [1, 1, 1, 1, 1, 1, 0]) (seqK (fun e w => Fn36_s4 R (e 0) (e 5) (e 6) w) (fiK f39 R)) e w = Fn36_s7 R (e 0) (e 3) (e 5) (e 6) w :=
 segs_eq (l := [(sbK f39 [1, 1, 1, 1, 1, 1, 0, 0])]) (y := (sbK f39 [1, 1, 1, 1, 1, 1, 0, 1])) (Y := (fun e w => Fn36_L6 R (e 0) (e 5) (e 6) (e 47) (e 48) (e 49) w)) (Fn36_L6_eq R) (fun e w => by kernel_rfl)
def Fn36_s8 (R : KW) (x0 x3 : Value) (w : World) : Prop :=
 nk x0 fun t43 =>
 fa 5 t43 fun t44 =>
 ld1 t44 w fun t45 =>
 qG prog (bq .add 3 (.tmp 45) (.const (.int .i64 1)) t45 (.int .i64 1)) w fun t46 =>
 newG (zc prog 110) 110 w fun t6 w =>
 Fn36_s7 R x0 x3 t46 t6 w
theorem Fn36_s8_eq (R : KW) : ∀ e w, liK 153 (sbK f39 [1, 1, 1, 1]) (fiK f39 R) e w = Fn36_s8 R (e 0) (e 3) w :=
 segs_eq (l := [(sbK f39 [1, 1, 1, 1, 0]), (sbK f39 [1, 1, 1, 1, 1, 0])]) (y := (sbK f39 [1, 1, 1, 1, 1, 1])) (Y := (fun e w => Fn36_s7 R (e 0) (e 3) (e 5) (e 6) w)) (seq_seg (x := (sbK f39 [1, 1, 1, 1, 1, 1, 0])) (y := (sbK f39 [1, 1, 1, 1, 1, 1, 1])) (Fn36_s4_eq R) (Fn36_s7_eq R)) (fun e w => by kernel_rfl)
def Fn36_s9 (R : KW) (x0 : Value) (w : World) : Prop :=
 nk x0 fun t22 =>
 fa 1 t22 fun t23 =>
 ldn 4 t23 w fun t24 =>
 callG prog 8 #[t24] w fun t25 w =>
 qG prog (Instr.extract t25 0) w fun t26 =>
 qG prog (Instr.extract t25 1) w fun t27 =>
 qG prog (bq .neq 30 (.tmp 28) (.const (.int .i64 0)) t27 (.int .i64 0)) w fun t29 =>
 bV t29
 (R t27 w)
 (nk x0 fun t32 =>
 fa 5 t32 fun t33 =>
 ld1 t33 w fun t34 =>
 qG prog (bq .geq 3 (.tmp 34) (.const (.int .i64 2147483647)) t34 (.int .i64 2147483647)) w fun t35 =>
 bV t35
 (R (.int .i64 2) w)
 (callG prog 42 #[x0, t26] w fun t39 w =>
 qG prog (Op.unary .not t39) w fun t40 =>
 bV t40
 (R (.int .i64 2) w)
 (Fn36_s8 R x0 t26 w)))
theorem Fn36_s9_eq (R : KW) : ∀ e w, liK 153 (bodyOf f39) (fiK f39 R) e w = Fn36_s9 R (e 0) w :=
 segs_eq (l := [(sbK f39 [0]), (sbK f39 [1, 0]), (sbK f39 [1, 1, 0]), (sbK f39 [1, 1, 1, 0])]) (y := (sbK f39 [1, 1, 1, 1])) (Y := (fun e w => Fn36_s8 R (e 0) (e 3) w)) (Fn36_s8_eq R) (fun e w => by kernel_rfl)
def Fn36 (R : KW) (x0 : Value) (w : World) : Prop := Fn36_s9 R x0 w
theorem Fn36_call {R : KW} {x0 : Value} {w : World} (h : Fn36 R x0 w) : callG prog 39 #[x0] w R :=
 calls_lift_eq mixed func39 (args := [x0]) rfl rfl rfl rfl ((Fn36_s9_eq R) (envOf [x0]) w) (by kernel_rfl) h
def Fn34_s0 (R : KW) (w : World) : Prop :=
 R (.bool true) w
theorem Fn34_s0_eq (R : KW) : ∀ e w, liK 42 (sbK f42 [1, 1, 1, 1]) (fiK f42 R) e w = Fn34_s0 R w := fun e w => by kernel_rfl
def Fn34_b1 (R : KW) (N1 : KL) (x7 x24 x25 x26 : Value) (w : World) : Prop :=
 qG prog (bq .lss 3 (.tmp 26) (.tmp 25) x26 x25) w fun t27 =>
 bV t27
 (ia 1 x24 x26 fun t28 =>
 ld1 t28 w fun t29 =>
 callG prog 89 #[(.int .i64 1), t29] w fun t32 w =>
 qG prog (Instr.extract t32 0) w fun t33 =>
 qG prog (Instr.extract t32 1) w fun t34 =>
 lenS t33 fun t37 =>
 qG prog (bq .sub 3 (.tmp 35) (.tmp 37) x7 t37) w fun t38 =>
 qG prog (bq .lss 3 (.tmp 39) (.const (.int .i64 0)) t38 (.int .i64 0)) w fun t40 =>
 bV t40
 (R (.bool false) w)
 (qG prog (bq .add 3 (.tmp 26) (.const (.int .i64 1)) x26 (.int .i64 1)) w fun t41 =>
 N1 [t38, x24, x25, t41] w))
 (Fn34_s0 R  w)
theorem Fn34_b1_eq (R : KW) (N1 : KL) : ∀ e w, liK 42 (sbK f42 [1, 1, 1, 0, 1, 0, 0]) (seqK (fun e w => N1 [e 7, e 24, e 25, e 26] w) (blockK 0 (seqK (fun e w => Fn34_s0 R  w) (fiK f42 R)))) e w = Fn34_b1 R N1 (e 7) (e 24) (e 25) (e 26) w := fun e w => by kernel_rfl
def Fn34_L2F (R : KW) (N1 : KL) (xs : List Value) (w : World) : Prop :=
 match xs with
 | [x7, x24, x25, x26] => Fn34_b1 R N1 x7 x24 x25 x26 w
 | _ => False
def Fn34_L2 (R : KW) (x7 x24 x25 x26 : Value) (w : World) : Prop :=
 ∃ m, loopV (Fn34_L2F R) m [x7, x24, x25, x26] w
theorem Fn34_L2_eq (R : KW) : ∀ e w, liK 42 (sbK f42 [1, 1, 1, 0, 1, 0]) (blockK 0 (seqK (fun e w => Fn34_s0 R  w) (fiK f42 R))) e w = Fn34_L2 R (e 7) (e 24) (e 25) (e 26) w := loop_seg (F := Fn34_L2F R) (sel := fun e => [e 7, e 24, e 25, e 26]) fun N1 => (Fn34_b1_eq R N1)
def Fn34_s3 (R : KW) (x1 x7 : Value) (w : World) : Prop :=
 lenL x1 fun t25 =>
 Fn34_L2 R x7 x1 t25 (.int .i64 0) w
theorem Fn34_s3_eq (R : KW) : ∀ e w, liK 42 (sbK f42 [1, 1, 1, 0]) (seqK (fun e w => Fn34_s0 R  w) (fiK f42 R)) e w = Fn34_s3 R (e 1) (e 7) w :=
 segs_eq (l := [(sbK f42 [1, 1, 1, 0, 0])]) (y := (sbK f42 [1, 1, 1, 0, 1])) (Y := (fun e w => Fn34_L2 R (e 7) (e 24) (e 25) (e 26) w)) (Fn34_L2_eq R) (fun e w => by kernel_rfl)
def Fn34_s4 (R : KW) (x0 x1 : Value) (w : World) : Prop :=
 nk x0 fun t14 =>
 fa 0 t14 fun t15 =>
 ld1 t15 w fun t16 =>
 callG prog 83 #[t16, (.int .i64 0)] w fun t17 w =>
 qG prog (Instr.extract t17 0) w fun t18 =>
 qG prog (Instr.extract t17 1) w fun t19 =>
 qG prog (bq .sub 3 (.tmp 20) (.tmp 21) t19 t18) w fun t22 =>
 qG prog (bq .mul 3 (.const (.int .i64 32)) (.tmp 22) (.int .i64 32) t22) w fun t23 =>
 Fn34_s3 R x1 t23 w
theorem Fn34_s4_eq (R : KW) : ∀ e w, liK 42 (bodyOf f42) (fiK f42 R) e w = Fn34_s4 R (e 0) (e 1) w :=
 segs_eq (l := [(sbK f42 [0]), (sbK f42 [1, 0]), (sbK f42 [1, 1, 0])]) (y := (sbK f42 [1, 1, 1])) (Y := (fun e w => Fn34_s3 R (e 1) (e 7) w)) (seq_seg (x := (sbK f42 [1, 1, 1, 0])) (y := (sbK f42 [1, 1, 1, 1])) (Fn34_s0_eq R) (Fn34_s3_eq R)) (fun e w => by kernel_rfl)
def Fn34 (R : KW) (x0 x1 : Value) (w : World) : Prop := Fn34_s4 R x0 x1 w
theorem Fn34_call {R : KW} {x0 x1 : Value} {w : World} (h : Fn34 R x0 x1 w) : callG prog 42 #[x0, x1] w R :=
 calls_lift_eq mixed func42 (args := [x0, x1]) rfl rfl rfl rfl ((Fn34_s4_eq R) (envOf [x0, x1]) w) (by kernel_rfl) h
def Fn37_s0 (R : KW) (x4 : Value) (w : World) : Prop :=
 callG prog 39 #[x4] w fun t76 w =>
 qG prog (bq .neq 30 (.tmp 77) (.const (.int .i64 0)) t76 (.int .i64 0)) w fun t78 =>
 bV t78
 (R (.tuple #[(.pointer none), t76]) w)
 (R (.tuple #[x4, (.int .i64 0)]) w)
theorem Fn37_s0_eq (R : KW) : ∀ e w, liK 81 (sbK f11 [1, 1, 1, 1]) (fiK f11 R) e w = Fn37_s0 R (e 4) w := fun e w => by kernel_rfl
def Fn37_s1 (R : KW) (N1 : KL) (x0 x4 x22 : Value) (w : World) : Prop :=
 qG prog (bq .add 3 (.tmp 22) (.const (.int .i64 1)) x22 (.int .i64 1)) w fun t74 =>
 N1 [x0, x4, t74] w
theorem Fn37_s1_eq (R : KW) (N1 : KL) : ∀ e w, liK 81 (sbK f11 [1, 1, 1, 0, 1, 0, 0, 1, 1, 1]) (seqK (fun e w => N1 [e 0, e 4, e 22] w) (blockK 1 (seqK (fun e w => Fn37_s0 R (e 4) w) (fiK f11 R)))) e w = Fn37_s1 R N1 (e 0) (e 4) (e 22) w := fun e w => by kernel_rfl
def Fn37_s2 (R : KW) (N1 : KL) (x0 x4 x8 x22 : Value) (w : World) : Prop :=
 callG prog 38 #[x0, x8] w fun t62 w =>
 qG prog (Instr.extract t62 0) w fun t63 =>
 qG prog (Instr.extract t62 1) w fun t64 =>
 newG (zc prog 26) 26 w fun t9 w =>
 stn 4 t9 t63 w fun w =>
 bV t64
 (ldn 4 t9 w fun t68 =>
 nk x4 fun t70 =>
 fa 1 t70 fun t71 =>
 stn 4 t71 t68 w fun w =>
 nk x4 fun t72 =>
 fa 5 t72 fun t73 =>
 st1 t73 x8 w fun w =>
 Fn37_s1 R N1 x0 x4 x22 w)
 (Fn37_s1 R N1 x0 x4 x22 w)
theorem Fn37_s2_eq (R : KW) (N1 : KL) : ∀ e w, liK 81 (sbK f11 [1, 1, 1, 0, 1, 0, 0, 1, 1, 0, 0, 1, 1, 1, 1]) (blockK 2 (seqK (fun e w => Fn37_s1 R N1 (e 0) (e 4) (e 22) w) (seqK (fun e w => N1 [e 0, e 4, e 22] w) (blockK 1 (seqK (fun e w => Fn37_s0 R (e 4) w) (fiK f11 R)))))) e w = Fn37_s2 R N1 (e 0) (e 4) (e 8) (e 22) w := fun e w => by kernel_rfl
def Fn37_s3 (R : KW) (N1 : KL) (x0 x4 x22 : Value) (w : World) : Prop :=
 callG prog 35 #[x0, x22] w fun t28 w =>
 qG prog (Instr.extract t28 0) w fun t29 =>
 qG prog (Instr.extract t28 1) w fun t30 =>
 callG prog 36 #[t29] w fun t32 w =>
 qG prog (bq .lss 3 (.tmp 33) (.const (.int .i64 1)) t32 (.int .i64 1)) w fun t34 =>
 bV t34
 (Fn37_s1 R N1 x0 x4 x22 w)
 (qG prog (bq .gtr 3 (.tmp 36) (.const (.int .i64 2147483647)) t32 (.int .i64 2147483647)) w fun t37 =>
 bV t37
 (Fn37_s1 R N1 x0 x4 x22 w)
 (qG prog (bq .rem 3 (.tmp 40) (.const (.int .i64 2)) t32 (.int .i64 2)) w fun t41 =>
 qG prog (bq .neq 3 (.tmp 41) (.tmp 42) t41 x22) w fun t43 =>
 bV t43
 (Fn37_s1 R N1 x0 x4 x22 w)
 (callG prog 37 #[t32] w fun t48 w =>
 qG prog (bq .neq 9 (.tmp 46) (.tmp 48) t29 t48) w fun t49 =>
 bV t49
 (Fn37_s1 R N1 x0 x4 x22 w)
 (nk x4 fun t54 =>
 fa 5 t54 fun t55 =>
 ld1 t55 w fun t56 =>
 qG prog (bq .leq 3 (.tmp 52) (.tmp 56) t32 t56) w fun t57 =>
 bV t57
 (Fn37_s1 R N1 x0 x4 x22 w)
 (Fn37_s2 R N1 x0 x4 t32 x22 w)))))
theorem Fn37_s3_eq (R : KW) (N1 : KL) : ∀ e w, liK 81 (sbK f11 [1, 1, 1, 0, 1, 0, 0, 1, 1, 0, 0]) (blockK 2 (seqK (fun e w => Fn37_s1 R N1 (e 0) (e 4) (e 22) w) (seqK (fun e w => N1 [e 0, e 4, e 22] w) (blockK 1 (seqK (fun e w => Fn37_s0 R (e 4) w) (fiK f11 R)))))) e w = Fn37_s3 R N1 (e 0) (e 4) (e 22) w :=
 segs_eq (l := [(sbK f11 [1, 1, 1, 0, 1, 0, 0, 1, 1, 0, 0, 0]), (sbK f11 [1, 1, 1, 0, 1, 0, 0, 1, 1, 0, 0, 1, 0]), (sbK f11 [1, 1, 1, 0, 1, 0, 0, 1, 1, 0, 0, 1, 1, 0]), (sbK f11 [1, 1, 1, 0, 1, 0, 0, 1, 1, 0, 0, 1, 1, 1, 0])]) (y := (sbK f11 [1, 1, 1, 0, 1, 0, 0, 1, 1, 0, 0, 1, 1, 1, 1])) (Y := (fun e w => Fn37_s2 R N1 (e 0) (e 4) (e 8) (e 22) w)) (Fn37_s2_eq R N1) (fun e w => by kernel_rfl)
def Fn37_s4 (R : KW) (N1 : KL) (x0 x4 x22 : Value) (w : World) : Prop :=
 qG prog (bq .lss 3 (.tmp 22) (.const (.int .i64 2)) x22 (.int .i64 2)) w fun t23 =>
 bV t23
 (Fn37_s3 R N1 x0 x4 x22 w)
 (Fn37_s0 R x4 w)
theorem Fn37_s4_eq (R : KW) (N1 : KL) : ∀ e w, liK 81 (sbK f11 [1, 1, 1, 0, 1, 0, 0]) (seqK (fun e w => N1 [e 0, e 4, e 22] w) (blockK 1 (seqK (fun e w => Fn37_s0 R (e 4) w) (fiK f11 R)))) e w = Fn37_s4 R N1 (e 0) (e 4) (e 22) w :=
 segs_eq (l := [(sbK f11 [1, 1, 1, 0, 1, 0, 0, 0]), (sbK f11 [1, 1, 1, 0, 1, 0, 0, 1, 0])]) (y := (sbK f11 [1, 1, 1, 0, 1, 0, 0, 1, 1])) (Y := (fun e w => Fn37_s3 R N1 (e 0) (e 4) (e 22) w)) (seq_seg (x := (sbK f11 [1, 1, 1, 0, 1, 0, 0, 1, 1, 0])) (y := (sbK f11 [1, 1, 1, 0, 1, 0, 0, 1, 1, 1])) (Fn37_s1_eq R N1) (Fn37_s3_eq R N1)) (fun e w => by kernel_rfl)
def Fn37_L5F (R : KW) (N1 : KL) (xs : List Value) (w : World) : Prop :=
 match xs with
 | [x0, x4, x22] => Fn37_s4 R N1 x0 x4 x22 w
 | _ => False
def Fn37_L5 (R : KW) (x0 x4 x22 : Value) (w : World) : Prop :=
 ∃ m, loopV (Fn37_L5F R) m [x0, x4, x22] w
theorem Fn37_L5_eq (R : KW) : ∀ e w, liK 81 (sbK f11 [1, 1, 1, 0, 1, 0]) (blockK 1 (seqK (fun e w => Fn37_s0 R (e 4) w) (fiK f11 R))) e w = Fn37_L5 R (e 0) (e 4) (e 22) w := loop_seg (F := Fn37_L5F R) (sel := fun e => [e 0, e 4, e 22]) fun N1 => (Fn37_s4_eq R N1)
def Fn37_s6 (R : KW) (x0 x4 : Value) (w : World) : Prop :=
 Fn37_L5 R x0 x4 (.int .i64 0) w
theorem Fn37_s6_eq (R : KW) : ∀ e w, liK 81 (sbK f11 [1, 1, 1, 0]) (seqK (fun e w => Fn37_s0 R (e 4) w) (fiK f11 R)) e w = Fn37_s6 R (e 0) (e 4) w :=
 segs_eq (l := [(sbK f11 [1, 1, 1, 0, 0])]) (y := (sbK f11 [1, 1, 1, 0, 1])) (Y := (fun e w => Fn37_L5 R (e 0) (e 4) (e 22) w)) (Fn37_L5_eq R) (fun e w => by kernel_rfl)
def Fn37_s7 (R : KW) (x0 : Value) (w : World) : Prop :=
 callG prog 33 #[x0] w fun t14 w =>
 qG prog (bq .lss 3 (.tmp 14) (.const (.int .i64 4)) t14 (.int .i64 4)) w fun t15 =>
 bV t15
 (R (.tuple #[(.pointer none), (.int .i64 1)]) w)
 (callG prog 34 #[x0] w fun t18 w =>
 bV t18
 (R (.tuple #[(.pointer none), (.int .i64 30)]) w)
 (bld [(0, 1), (1, 4), (5, 1), (6, 1)] (zc prog 58) #[(0, x0)] fun t20 =>
 newG (Value.cells t20) 58 w fun t21 w =>
 Fn37_s6 R x0 t21 w))
theorem Fn37_s7_eq (R : KW) : ∀ e w, liK 81 (bodyOf f11) (fiK f11 R) e w = Fn37_s7 R (e 0) w :=
 segs_eq (l := [(sbK f11 [0]), (sbK f11 [1, 0]), (sbK f11 [1, 1, 0])]) (y := (sbK f11 [1, 1, 1])) (Y := (fun e w => Fn37_s6 R (e 0) (e 4) w)) (seq_seg (x := (sbK f11 [1, 1, 1, 0])) (y := (sbK f11 [1, 1, 1, 1])) (Fn37_s0_eq R) (Fn37_s6_eq R)) (fun e w => by kernel_rfl)
def Fn37 (R : KW) (x0 : Value) (w : World) : Prop := Fn37_s7 R x0 w
theorem Fn37_call {R : KW} {x0 : Value} {w : World} (h : Fn37 R x0 w) : callG prog 11 #[x0] w R :=
 calls_lift_eq mixed func11 (args := [x0]) rfl rfl rfl rfl ((Fn37_s7_eq R) (envOf [x0]) w) (by kernel_rfl) h
def Fn35_s0 (R : KW) (x0 : Value) (w : World) : Prop :=
 qG prog (bq .neq 37 (.tmp 3) (.const (.pointer none)) x0 (.pointer none)) w fun t4 =>
 bV t4
 (nk x0 fun t7 =>
 fa 0 t7 fun t8 =>
 ld1 t8 w fun t9 =>
 qG prog (bq .neq 34 (.tmp 9) (.const (.pointer none)) t9 (.pointer none)) w fun t10 =>
 R t10 w)
 (R (.bool false) w)
theorem Fn35_s0_eq (R : KW) : ∀ e w, liK 12 (bodyOf f40) (fiK f40 R) e w = Fn35_s0 R (e 0) w := fun e w => by kernel_rfl
def Fn35 (R : KW) (x0 : Value) (w : World) : Prop := Fn35_s0 R x0 w
theorem Fn35_call {R : KW} {x0 : Value} {w : World} (h : Fn35 R x0 w) : callG prog 40 #[x0] w R :=
 calls_lift_eq mixed func40 (args := [x0]) rfl rfl rfl rfl ((Fn35_s0_eq R) (envOf [x0]) w) (by kernel_rfl) h
def Fn30_s0 (R : KW) (x0 : Value) (w : World) : Prop :=
 newG (zc prog 26) 26 w fun t2 w =>
 callG prog 40 #[x0] w fun t5 w =>
 qG prog (Op.unary .not t5) w fun t6 =>
 bV t6
 (bld [(0, 1), (1, 1), (2, 1), (3, 1)] (zc prog 26) #[] fun t7 =>
 stn 4 t2 t7 w fun w =>
 qG prog (do loadVar 26 (← asAddr t2)) w fun r2 =>
 R r2 w)
 (nk x0 fun t9 =>
 fa 1 t9 fun t10 =>
 ldn 4 t10 w fun t11 =>
 newG (zc prog 26) 26 w fun t3 w =>
 stn 4 t3 t11 w fun w =>
 fa 0 t3 fun t12 =>
 ld1 t12 (World.drew w) fun t13 =>
 fa 1 t3 fun t15 =>
 ld1 t15 (World.drew w) fun t16 =>
 fa 2 t3 fun t18 =>
 ld1 t18 (World.drew w) fun t19 =>
 callG prog 45 #[t13] (World.drew w) fun t14 w =>
 ld1 t18 w (fun u => u = t19) ∧
 ld1 t15 w (fun u => u = t16) ∧
 fa 0 t3 fun t21 =>
 callG prog 46 #[t16] w fun t17 w =>
 ld1 t18 w (fun u => u = t19) ∧
 callG prog 47 #[t19] w fun t20 w =>
 st1 t21 t14 w fun w =>
 fa 1 t3 fun t22 =>
 st1 t22 t17 w fun w =>
 fa 2 t3 fun t23 =>
 st1 t23 t20 w fun w =>
 ldn 4 t3 w fun t24 =>
 stn 4 t2 t24 w fun w =>
 qG prog (do loadVar 26 (← asAddr t2)) w fun r2_1 =>
 R r2_1 w)
theorem Fn30_s0_eq (R : KW) : ∀ e w, liK 25 (bodyOf f13) (fiK f13 R) e w = Fn30_s0 R (e 0) w := fun e w => by kernel_rfl
def Fn30 (R : KW) (x0 : Value) (w : World) : Prop := Fn30_s0 R x0 w
theorem Fn30_call {R : KW} {x0 : Value} {w : World} (h : Fn30 R x0 w) : callG prog 13 #[x0] w R :=
 calls_lift_eq mixed func13 (args := [x0]) rfl rfl rfl rfl ((Fn30_s0_eq R) (envOf [x0]) w) (by kernel_rfl) h
def Fn31_s0 (R : KW) (x0 x1 : Value) (w : World) : Prop :=
 newG (Value.cells x1) 42 w fun t3 w =>
 callG prog 40 #[x0] w fun t12 w =>
 qG prog (Op.unary .not t12) w fun t13 =>
 bV t13
 (R (.int .i64 1) w)
 (nk x0 fun t16 =>
 fa 1 t16 fun t17 =>
 ldn 4 t17 (World.drew w) fun t18 =>
 ldn 7 t3 (World.drew w) fun t19 =>
 (callG prog 41 #[t18, t19] (World.drew w) fun t20 w =>
 qG prog (Instr.extract t20 0) w fun t21 =>
 qG prog (Instr.extract t20 1) w fun t22 =>
 newG (zc prog 26) 26 w fun t5 w =>
 stb prog (Instr.extract t20 1) t22 w ∧
 stb prog (Instr.extract t20 0) t21 w ∧
 ldn 7 t3 w (fun u => u = t19) ∧
 ldn 4 t17 w (fun u => u = t18) ∧
 stn 4 t5 t21 w fun w =>
 stb prog (Instr.extract t20 1) t22 w ∧
 qG prog (bq .neq 30 (.tmp 23) (.const (.int .i64 0)) t22 (.int .i64 0)) w fun t24 =>
 bV t24
 (R t22 w)
 (ldn 4 t5 w fun t27 =>
 callG prog 8 #[t27] w fun t28 w =>
 qG prog (Instr.extract t28 0) w fun t29 =>
 qG prog (Instr.extract t28 1) w fun t30 =>
 qG prog (bq .neq 30 (.tmp 31) (.const (.int .i64 0)) t30 (.int .i64 0)) w fun t32 =>
 bV t32
 (R t30 w)
 (callG prog 42 #[x0, t29] w fun t36 w =>
 qG prog (Op.unary .not t36) w fun t37 =>
 bV t37
 (R (.int .i64 2) w)
 (ldn 7 t3 w fun t39 =>
 callG prog 43 #[t39] w fun t40 w =>
 qG prog (Instr.extract t40 0) w fun t41 =>
 qG prog (Instr.extract t40 1) w fun t42 =>
 nk x0 fun t44 =>
 fa 6 t44 fun t45 =>
 ld1 t45 w fun t46 =>
 qG prog (bq .add 9 (.const (.string ⟨#[79]⟩)) (.tmp 47) (.string ⟨#[79]⟩) t41) w fun t48 =>
 bsl 9 1 1 (zc prog 9) #[(0, t48)] w fun t49 w =>
 callG prog 44 #[t46, t49] w fun t50 w =>
 qG prog (bq .neq 30 (.tmp 51) (.const (.int .i64 0)) t50 (.int .i64 0)) w fun t52 =>
 bV t52
 (R t50 w)
 (ldn 4 t5 w fun t55 =>
 nk x0 fun t56 =>
 fa 1 t56 fun t57 =>
 stn 4 t57 t55 w fun w =>
 R (.int .i64 0) w))))) ∧
 (newG (zc prog 26) 26 (World.drew w) fun t5_1 w =>
 ldn 7 t3 w (fun u => u = t19) ∧
 ldn 4 t17 w (fun u => u = t18) ∧
 callG prog 41 #[t18, t19] w fun t20_1 w =>
 qG prog (Instr.extract t20_1 0) w fun t21_1 =>
 qG prog (Instr.extract t20_1 1) w fun t22_1 =>
 stn 4 t5_1 t21_1 w fun w =>
 stb prog (Instr.extract t20_1 1) t22_1 w ∧
 qG prog (bq .neq 30 (.tmp 23) (.const (.int .i64 0)) t22_1 (.int .i64 0)) w fun t24_1 =>
 bV t24_1
 (R t22_1 w)
 (ldn 4 t5_1 w fun t27_1 =>
 callG prog 8 #[t27_1] w fun t28_1 w =>
 qG prog (Instr.extract t28_1 0) w fun t29_1 =>
 qG prog (Instr.extract t28_1 1) w fun t30_1 =>
 qG prog (bq .neq 30 (.tmp 31) (.const (.int .i64 0)) t30_1 (.int .i64 0)) w fun t32_1 =>
 bV t32_1
 (R t30_1 w)
 (callG prog 42 #[x0, t29_1] w fun t36_1 w =>
 qG prog (Op.unary .not t36_1) w fun t37_1 =>
 bV t37_1
 (R (.int .i64 2) w)
 (ldn 7 t3 w fun t39_1 =>
 callG prog 43 #[t39_1] w fun t40_1 w =>
 qG prog (Instr.extract t40_1 0) w fun t41_1 =>
 qG prog (Instr.extract t40_1 1) w fun t42_1 =>
 nk x0 fun t44_1 =>
 fa 6 t44_1 fun t45_1 =>
 ld1 t45_1 w fun t46_1 =>
 qG prog (bq .add 9 (.const (.string ⟨#[79]⟩)) (.tmp 47) (.string ⟨#[79]⟩) t41_1) w fun t48_1 =>
 bsl 9 1 1 (zc prog 9) #[(0, t48_1)] w fun t49_1 w =>
 callG prog 44 #[t46_1, t49_1] w fun t50_1 w =>
 qG prog (bq .neq 30 (.tmp 51) (.const (.int .i64 0)) t50_1 (.int .i64 0)) w fun t52_1 =>
 bV t52_1
 (R t50_1 w)
 (ldn 4 t5_1 w fun t55_1 =>
 nk x0 fun t56_1 =>
 fa 1 t56_1 fun t57_1 =>
 stn 4 t57_1 t55_1 w fun w =>
 R (.int .i64 0) w))))))
theorem Fn31_s0_eq (R : KW) : ∀ e w, liK 58 (bodyOf f12) (fiK f12 R) e w = Fn31_s0 R (e 0) (e 1) w := fun e w => by kernel_rfl
def Fn31 (R : KW) (x0 x1 : Value) (w : World) : Prop := Fn31_s0 R x0 x1 w
theorem Fn31_call {R : KW} {x0 x1 : Value} {w : World} (h : Fn31 R x0 x1 w) : callG prog 12 #[x0, x1] w R :=
 calls_lift_eq mixed func12 (args := [x0, x1]) rfl rfl rfl rfl ((Fn31_s0_eq R) (envOf [x0, x1]) w) (by kernel_rfl) h
def Fn32_s0 (R : KW) (x0 : Value) (w : World) : Prop :=
 callG prog 40 #[x0] w fun t4 w =>
 qG prog (Op.unary .not t4) w fun t5 =>
 bV t5
 (R (.int .i64 1) w)
 (nk x0 fun t7 =>
 fa 6 t7 fun t8 =>
 ld1 t8 w fun t9 =>
 callG prog 49 #[t9] w fun t10 w =>
 R t10 w)
theorem Fn32_s0_eq (R : KW) : ∀ e w, liK 11 (bodyOf f19) (fiK f19 R) e w = Fn32_s0 R (e 0) w := fun e w => by kernel_rfl
def Fn32 (R : KW) (x0 : Value) (w : World) : Prop := Fn32_s0 R x0 w
theorem Fn32_call {R : KW} {x0 : Value} {w : World} (h : Fn32 R x0 w) : callG prog 19 #[x0] w R :=
 calls_lift_eq mixed func19 (args := [x0]) rfl rfl rfl rfl ((Fn32_s0_eq R) (envOf [x0]) w) (by kernel_rfl) h
def Fn33_s0 (R : KW) (x0 : Value) (w : World) : Prop :=
 callG prog 40 #[x0] w fun t4 w =>
 qG prog (Op.unary .not t4) w fun t5 =>
 bV t5
 (R (.int .i64 0) w)
 (nk x0 fun t7 =>
 fa 5 t7 fun t8 =>
 ld1 t8 w fun t9 =>
 R t9 w)
theorem Fn33_s0_eq (R : KW) : ∀ e w, liK 10 (bodyOf f16) (fiK f16 R) e w = Fn33_s0 R (e 0) w := fun e w => by kernel_rfl
def Fn33 (R : KW) (x0 : Value) (w : World) : Prop := Fn33_s0 R x0 w
theorem Fn33_call {R : KW} {x0 : Value} {w : World} (h : Fn33 R x0 w) : callG prog 16 #[x0] w R :=
 calls_lift_eq mixed func16 (args := [x0]) rfl rfl rfl rfl ((Fn33_s0_eq R) (envOf [x0]) w) (by kernel_rfl) h
end Go.Proofs

set_option linter.unusedVariables false
set_option linter.unusedSimpArgs false
namespace Go.Proofs
open Go Go.Q Tryz
set_option maxRecDepth 100000
def Fn91_s0 (R : KW) (x0 x1 : Value) (w : World) : Prop :=
 newG (Value.cells x0) 48 w fun t2 w =>
 newG (Value.cells x1) 48 w fun t3 w =>
 fa 0 t2 fun t5 =>
 ld1 t5 w fun t6 =>
 fa 0 t3 fun t7 =>
 ld1 t7 w fun t8 =>
 qG prog (bq .lss 9 (.tmp 6) (.tmp 8) t6 t8) w fun t9 =>
 bV t9
 (R (.bool true) w)
 (fa 0 t2 fun t11 =>
 ld1 t11 w fun t12 =>
 fa 0 t3 fun t13 =>
 ld1 t13 w fun t14 =>
 qG prog (bq .eql 9 (.tmp 12) (.tmp 14) t12 t14) w fun t15 =>
 bV t15
 (fa 1 t2 fun t17 =>
 ld1 t17 w fun t18 =>
 fa 1 t3 fun t19 =>
 ld1 t19 w fun t20 =>
 qG prog (bq .lss 9 (.tmp 18) (.tmp 20) t18 t20) w fun t21 =>
 R t21 w)
 (R (.bool false) w))
theorem Fn91_s0_eq (R : KW) : ∀ e w, liK 24 (bodyOf f69) (fiK f69 R) e w = Fn91_s0 R (e 0) (e 1) w := fun e w => by kernel_rfl
def Fn91 (R : KW) (x0 x1 : Value) (w : World) : Prop := Fn91_s0 R x0 x1 w
theorem Fn91_call {R : KW} {x0 x1 : Value} {w : World} (h : Fn91 R x0 x1 w) : callG prog 69 #[x0, x1] w R :=
 calls_lift_eq mixed func69 (args := [x0, x1]) rfl rfl rfl rfl ((Fn91_s0_eq R) (envOf [x0, x1]) w) (by kernel_rfl) h
def Fn93_s0 (R : KW) (w : World) : Prop :=
 R (.int .i64 (-1)) w
theorem Fn93_s0_eq (R : KW) : ∀ e w, liK 34 (sbK f48 [1, 1]) (fiK f48 R) e w = Fn93_s0 R w := fun e w => by kernel_rfl
def Fn93_b1 (R : KW) (N1 : KL) (x1 x2 x3 x7 : Value) (w : World) : Prop :=
 fa 0 x3 fun t9 =>
 ld1 t9 w fun t10 =>
 lenL t10 fun t11 =>
 qG prog (bq .lss 3 (.tmp 8) (.tmp 11) x7 t11) w fun t12 =>
 bV t12
 (fa 0 x3 fun t15 =>
 ld1 t15 w fun t16 =>
 ia 4 t16 x7 fun t18 =>
 fa 0 t18 fun t19 =>
 ld1 t19 w fun t20 =>
 qG prog (bq .eql 9 (.tmp 20) (.tmp 21) t20 x1) w fun t22 =>
 bV t22
 (fa 0 x3 fun t24 =>
 ld1 t24 w fun t25 =>
 ia 4 t25 x7 fun t27 =>
 fa 1 t27 fun t28 =>
 ld1 t28 w fun t29 =>
 qG prog (bq .eql 9 (.tmp 29) (.tmp 30) t29 x2) w fun t31 =>
 bV t31
 (R x7 w)
 (qG prog (bq .add 3 (.tmp 13) (.const (.int .i64 1)) x7 (.int .i64 1)) w fun t14 =>
 N1 [x1, x2, x3, t14] w))
 (qG prog (bq .add 3 (.tmp 13) (.const (.int .i64 1)) x7 (.int .i64 1)) w fun t14_1 =>
 N1 [x1, x2, x3, t14_1] w))
 (Fn93_s0 R  w)
theorem Fn93_b1_eq (R : KW) (N1 : KL) : ∀ e w, liK 34 (sbK f48 [1, 0, 1, 0, 0]) (seqK (fun e w => N1 [e 1, e 2, e 3, e 7] w) (blockK 0 (seqK (fun e w => Fn93_s0 R  w) (fiK f48 R)))) e w = Fn93_b1 R N1 (e 1) (e 2) (e 3) (e 7) w := fun e w => by kernel_rfl
def Fn93_L2F (R : KW) (N1 : KL) (xs : List Value) (w : World) : Prop :=
 match xs with
 | [x1, x2, x3, x7] => Fn93_b1 R N1 x1 x2 x3 x7 w
 | _ => False
def Fn93_L2 (R : KW) (x1 x2 x3 x7 : Value) (w : World) : Prop :=
 ∃ m, loopV (Fn93_L2F R) m [x1, x2, x3, x7] w
theorem Fn93_L2_eq (R : KW) : ∀ e w, liK 34 (sbK f48 [1, 0, 1, 0]) (blockK 0 (seqK (fun e w => Fn93_s0 R  w) (fiK f48 R))) e w = Fn93_L2 R (e 1) (e 2) (e 3) (e 7) w := loop_seg (F := Fn93_L2F R) (sel := fun e => [e 1, e 2, e 3, e 7]) fun N1 => (Fn93_b1_eq R N1)
def Fn93_s3 (R : KW) (x1 x2 x3 : Value) (w : World) : Prop :=
 Fn93_L2 R x1 x2 x3 (.int .i64 0) w
theorem Fn93_s3_eq (R : KW) : ∀ e w, liK 34 (sbK f48 [1, 0]) (seqK (fun e w => Fn93_s0 R  w) (fiK f48 R)) e w = Fn93_s3 R (e 1) (e 2) (e 3) w :=
 segs_eq (l := [(sbK f48 [1, 0, 0])]) (y := (sbK f48 [1, 0, 1])) (Y := (fun e w => Fn93_L2 R (e 1) (e 2) (e 3) (e 7) w)) (Fn93_L2_eq R) (fun e w => by kernel_rfl)
def Fn93_s4 (R : KW) (x0 x1 x2 : Value) (w : World) : Prop :=
 newG (Value.cells x0) 26 w fun t3 w =>
 Fn93_s3 R x1 x2 t3 w
theorem Fn93_s4_eq (R : KW) : ∀ e w, liK 34 (bodyOf f48) (fiK f48 R) e w = Fn93_s4 R (e 0) (e 1) (e 2) w :=
 segs_eq (l := [(sbK f48 [0])]) (y := (sbK f48 [1])) (Y := (fun e w => Fn93_s3 R (e 1) (e 2) (e 3) w)) (seq_seg (x := (sbK f48 [1, 0])) (y := (sbK f48 [1, 1])) (Fn93_s0_eq R) (Fn93_s3_eq R)) (fun e w => by kernel_rfl)
def Fn93 (R : KW) (x0 x1 x2 : Value) (w : World) : Prop := Fn93_s4 R x0 x1 x2 w
theorem Fn93_call {R : KW} {x0 x1 x2 : Value} {w : World} (h : Fn93 R x0 x1 x2 w) : callG prog 48 #[x0, x1, x2] w R :=
 calls_lift_eq mixed func48 (args := [x0, x1, x2]) rfl rfl rfl rfl ((Fn93_s4_eq R) (envOf [x0, x1, x2]) w) (by kernel_rfl) h
def Fn95_s0 (R : KW) (x3 x5 x6 : Value) (w : World) : Prop :=
 callG prog 102 #[x5] w fun t86 w =>
 qG prog (Instr.extract t86 0) w fun t87 =>
 qG prog (Instr.extract t86 1) w fun t88 =>
 callG prog 102 #[x6] w fun t91 w =>
 qG prog (Instr.extract t91 0) w fun t92 =>
 qG prog (Instr.extract t91 1) w fun t93 =>
 qG prog (bq .eql 30 (.tmp 94) (.const (.int .i64 0)) t88 (.int .i64 0)) w fun t95 =>
 bV t95
 (qG prog (bq .eql 30 (.tmp 97) (.const (.int .i64 0)) t93 (.int .i64 0)) w fun t98 =>
 bV t98
 (fa 3 x3 fun t102 =>
 ld1 t102 w fun t103 =>
 qG prog (bq .eql 3 (.tmp 101) (.tmp 103) t87 t103) w fun t104 =>
 bV t104
 (fa 2 x3 fun t108 =>
 ld1 t108 w fun t109 =>
 qG prog (bq .eql 3 (.tmp 107) (.tmp 109) t92 t109) w fun t110 =>
 R t110 w)
 (R (.bool false) w))
 (R (.bool false) w))
 (R (.bool false) w)
theorem Fn95_s0_eq (R : KW) : ∀ e w, liK 112 (sbK f70 [1, 1, 1, 1]) (fiK f70 R) e w = Fn95_s0 R (e 3) (e 5) (e 6) w := fun e w => by kernel_rfl
def Fn95_s1 (R : KW) (N1 : KL) (x2 x3 x5 x6 x9 : Value) (w : World) : Prop :=
 qG prog (bq .add 3 (.tmp 53) (.const (.int .i64 1)) x9 (.int .i64 1)) w fun t54 =>
 N1 [x2, x3, x5, x6, t54] w
theorem Fn95_s1_eq (R : KW) (N1 : KL) : ∀ e w, liK 112 (sbK f70 [1, 1, 1, 0, 1, 0, 0, 1, 1]) (seqK (fun e w => N1 [e 2, e 3, e 5, e 6, e 9] w) (blockK 2 (seqK (fun e w => Fn95_s0 R (e 3) (e 5) (e 6) w) (fiK f70 R)))) e w = Fn95_s1 R N1 (e 2) (e 3) (e 5) (e 6) (e 9) w := fun e w => by kernel_rfl
def Fn95_s2 (R : KW) (N1 : KL) (x2 x3 x5 x6 x9 x74 : Value) (w : World) : Prop :=
 bV x74
 (fa 2 x2 fun t76 =>
 ld1 t76 w fun t77 =>
 ia 6 t77 x9 fun t79 =>
 fa 3 t79 fun t80 =>
 ld1 t80 w fun t81 =>
 bsl 3 1 1 (zc prog 3) #[(0, t81)] w fun t82 w =>
 app 3 1 8 (zc prog 3) x6 t82 w fun t83 w =>
 Fn95_s1 R N1 x2 x3 x5 t83 x9 w)
 (Fn95_s1 R N1 x2 x3 x5 x6 x9 w)
theorem Fn95_s2_eq (R : KW) (N1 : KL) : ∀ e w, liK 112 (sbK f70 [1, 1, 1, 0, 1, 0, 0, 1, 0, 0, 1]) (blockK 3 (seqK (fun e w => Fn95_s1 R N1 (e 2) (e 3) (e 5) (e 6) (e 9) w) (seqK (fun e w => N1 [e 2, e 3, e 5, e 6, e 9] w) (blockK 2 (seqK (fun e w => Fn95_s0 R (e 3) (e 5) (e 6) w) (fiK f70 R)))))) e w = Fn95_s2 R N1 (e 2) (e 3) (e 5) (e 6) (e 9) (e 74) w := fun e w => by kernel_rfl
def Fn95_s3 (R : KW) (N1 : KL) (x2 x3 x5 x6 x9 : Value) (w : World) : Prop :=
 fa 2 x2 fun t55 =>
 ld1 t55 (World.drew w) fun t56 =>
 ia 6 t56 x9 fun t58 =>
 fa 1 t58 fun t59 =>
 ld1 t59 (World.drew w) fun t60 =>
 fa 0 x3 fun t61 =>
 ld1 t61 (World.drew w) fun t62 =>
 qG prog (bq .eql 9 (.tmp 60) (.tmp 62) t60 t62) (World.drew w) fun t63 =>
 bV t63
 (fa 2 x2 fun t65 =>
 ld1 t65 (World.drew w) fun t66 =>
 ia 6 t66 x9 fun t68 =>
 fa 2 t68 fun t69 =>
 ld1 t69 (World.drew w) fun t70 =>
 fa 1 x3 fun t71 =>
 ld1 t71 (World.drew w) fun t72 =>
 qG prog (bq .eql 9 (.tmp 70) (.tmp 72) t70 t72) (World.drew w) fun t73 =>
 Fn95_s2 R N1 x2 x3 x5 x6 x9 t73 (World.drew w))
 (Fn95_s2 R N1 x2 x3 x5 x6 x9 (.bool false) (World.drew w))
theorem Fn95_s3_eq (R : KW) (N1 : KL) : ∀ e w, liK 112 (sbK f70 [1, 1, 1, 0, 1, 0, 0, 1, 0, 0]) (blockK 3 (seqK (fun e w => Fn95_s1 R N1 (e 2) (e 3) (e 5) (e 6) (e 9) w) (seqK (fun e w => N1 [e 2, e 3, e 5, e 6, e 9] w) (blockK 2 (seqK (fun e w => Fn95_s0 R (e 3) (e 5) (e 6) w) (fiK f70 R)))))) e w = Fn95_s3 R N1 (e 2) (e 3) (e 5) (e 6) (e 9) w :=
 segs_eq (l := [(sbK f70 [1, 1, 1, 0, 1, 0, 0, 1, 0, 0, 0])]) (y := (sbK f70 [1, 1, 1, 0, 1, 0, 0, 1, 0, 0, 1])) (Y := (fun e w => Fn95_s2 R N1 (e 2) (e 3) (e 5) (e 6) (e 9) (e 74) w)) (Fn95_s2_eq R N1) (fun e w => by kernel_rfl)
def Fn95_s4 (R : KW) (N1 : KL) (x2 x3 x5 x6 x9 : Value) (w : World) : Prop :=
 fa 2 x2 fun t49 =>
 ld1 t49 w fun t50 =>
 lenL t50 fun t51 =>
 qG prog (bq .lss 3 (.tmp 48) (.tmp 51) x9 t51) w fun t52 =>
 bV t52
 (Fn95_s3 R N1 x2 x3 x5 x6 x9 w)
 (Fn95_s0 R x3 x5 x6 w)
theorem Fn95_s4_eq (R : KW) (N1 : KL) : ∀ e w, liK 112 (sbK f70 [1, 1, 1, 0, 1, 0, 0]) (seqK (fun e w => N1 [e 2, e 3, e 5, e 6, e 9] w) (blockK 2 (seqK (fun e w => Fn95_s0 R (e 3) (e 5) (e 6) w) (fiK f70 R)))) e w = Fn95_s4 R N1 (e 2) (e 3) (e 5) (e 6) (e 9) w :=
 segs_eq (l := [(sbK f70 [1, 1, 1, 0, 1, 0, 0, 0])]) (y := (sbK f70 [1, 1, 1, 0, 1, 0, 0, 1])) (Y := (fun e w => Fn95_s3 R N1 (e 2) (e 3) (e 5) (e 6) (e 9) w)) (seq_seg (x := (sbK f70 [1, 1, 1, 0, 1, 0, 0, 1, 0])) (y := (sbK f70 [1, 1, 1, 0, 1, 0, 0, 1, 1])) (Fn95_s1_eq R N1) (Fn95_s3_eq R N1)) (fun e w => by kernel_rfl)
def Fn95_L5F (R : KW) (N1 : KL) (xs : List Value) (w : World) : Prop :=
 match xs with
 | [x2, x3, x5, x6, x9] => Fn95_s4 R N1 x2 x3 x5 x6 x9 w
 | _ => False
def Fn95_L5 (R : KW) (x2 x3 x5 x6 x9 : Value) (w : World) : Prop :=
 ∃ m, loopV (Fn95_L5F R) m [x2, x3, x5, x6, x9] w
theorem Fn95_L5_eq (R : KW) : ∀ e w, liK 112 (sbK f70 [1, 1, 1, 0, 1, 0]) (blockK 2 (seqK (fun e w => Fn95_s0 R (e 3) (e 5) (e 6) w) (fiK f70 R))) e w = Fn95_L5 R (e 2) (e 3) (e 5) (e 6) (e 9) w := loop_seg (F := Fn95_L5F R) (sel := fun e => [e 2, e 3, e 5, e 6, e 9]) fun N1 => (Fn95_s4_eq R N1)
def Fn95_s6 (R : KW) (x2 x3 x5 x6 : Value) (w : World) : Prop :=
 Fn95_L5 R x2 x3 x5 x6 (.int .i64 0) w
theorem Fn95_s6_eq (R : KW) : ∀ e w, liK 112 (sbK f70 [1, 1, 1, 0]) (seqK (fun e w => Fn95_s0 R (e 3) (e 5) (e 6) w) (fiK f70 R)) e w = Fn95_s6 R (e 2) (e 3) (e 5) (e 6) w :=
 segs_eq (l := [(sbK f70 [1, 1, 1, 0, 0])]) (y := (sbK f70 [1, 1, 1, 0, 1])) (Y := (fun e w => Fn95_L5 R (e 2) (e 3) (e 5) (e 6) (e 9) w)) (Fn95_L5_eq R) (fun e w => by kernel_rfl)
def Fn95_b7 (R : KW) (N1 : KL) (x2 x3 x5 x6 x7 : Value) (w : World) : Prop :=
 fa 1 x2 fun t15 =>
 ld1 t15 w fun t16 =>
 lenL t16 fun t17 =>
 qG prog (bq .lss 3 (.tmp 14) (.tmp 17) x7 t17) w fun t18 =>
 bV t18
 (fa 1 x2 fun t21 =>
 ld1 t21 w fun t22 =>
 ia 6 t22 x7 fun t24 =>
 ldn 6 t24 w fun t25 =>
 newG (zc prog 70) 70 w fun t8 w =>
 stn 6 t8 t25 w fun w =>
 fa 1 t8 fun t26 =>
 ld1 t26 w fun t27 =>
 fa 0 x3 fun t28 =>
 ld1 t28 w fun t29 =>
 qG prog (bq .eql 9 (.tmp 27) (.tmp 29) t27 t29) w fun t30 =>
 bV t30
 (fa 2 t8 fun t32 =>
 ld1 t32 w fun t33 =>
 fa 1 x3 fun t34 =>
 ld1 t34 w fun t35 =>
 qG prog (bq .eql 9 (.tmp 33) (.tmp 35) t33 t35) w fun t36 =>
 bV t36
 (fa 4 t8 fun t39 =>
 ld1 t39 w fun t40 =>
 qG prog (bq .eql 3 (.tmp 40) (.const (.int .i64 0)) t40 (.int .i64 0)) w fun t41 =>
 bV t41
 (fa 3 t8 fun t44 =>
 ld1 t44 w fun t45 =>
 bsl 3 1 1 (zc prog 3) #[(0, t45)] w fun t46 w =>
 app 3 1 8 (zc prog 3) x5 t46 w fun t47 w =>
 qG prog (bq .add 3 (.tmp 19) (.const (.int .i64 1)) x7 (.int .i64 1)) w fun t20 =>
 N1 [x2, x3, t47, x6, t20] w)
 (qG prog (bq .add 3 (.tmp 19) (.const (.int .i64 1)) x7 (.int .i64 1)) w fun t20_1 =>
 N1 [x2, x3, x5, x6, t20_1] w))
 (qG prog (bq .add 3 (.tmp 19) (.const (.int .i64 1)) x7 (.int .i64 1)) w fun t20_2 =>
 N1 [x2, x3, x5, x6, t20_2] w))
 (qG prog (bq .add 3 (.tmp 19) (.const (.int .i64 1)) x7 (.int .i64 1)) w fun t20_3 =>
 N1 [x2, x3, x5, x6, t20_3] w))
 (Fn95_s6 R x2 x3 x5 x6 w)
theorem Fn95_b7_eq (R : KW) (N1 : KL) : ∀ e w, liK 112 (sbK f70 [1, 1, 0, 1, 0, 0]) (seqK (fun e w => N1 [e 2, e 3, e 5, e 6, e 7] w) (blockK 0 (seqK (fun e w => Fn95_s6 R (e 2) (e 3) (e 5) (e 6) w) (fiK f70 R)))) e w = Fn95_b7 R N1 (e 2) (e 3) (e 5) (e 6) (e 7) w := fun e w => by kernel_rfl
def Fn95_L8F (R : KW) (N1 : KL) (xs : List Value) (w : World) : Prop :=
 match xs with
 | [x2, x3, x5, x6, x7] => Fn95_b7 R N1 x2 x3 x5 x6 x7 w
 | _ => False
def Fn95_L8 (R : KW) (x2 x3 x5 x6 x7 : Value) (w : World) : Prop :=
 ∃ m, loopV (Fn95_L8F R) m [x2, x3, x5, x6, x7] w
theorem Fn95_L8_eq (R : KW) : ∀ e w, liK 112 (sbK f70 [1, 1, 0, 1, 0]) (blockK 0 (seqK (fun e w => Fn95_s6 R (e 2) (e 3) (e 5) (e 6) w) (fiK f70 R))) e w = Fn95_L8 R (e 2) (e 3) (e 5) (e 6) (e 7) w := loop_seg (F := Fn95_L8F R) (sel := fun e => [e 2, e 3, e 5, e 6, e 7]) fun N1 => (Fn95_b7_eq R N1)
def Fn95_s9 (R : KW) (x2 x3 x5 x6 : Value) (w : World) : Prop :=
 Fn95_L8 R x2 x3 x5 x6 (.int .i64 0) w
theorem Fn95_s9_eq (R : KW) : ∀ e w, liK 112 (sbK f70 [1, 1, 0]) (seqK (fun e w => Fn95_s6 R (e 2) (e 3) (e 5) (e 6) w) (fiK f70 R)) e w = Fn95_s9 R (e 2) (e 3) (e 5) (e 6) w :=
 segs_eq (l := [(sbK f70 [1, 1, 0, 0])]) (y := (sbK f70 [1, 1, 0, 1])) (Y := (fun e w => Fn95_L8 R (e 2) (e 3) (e 5) (e 6) (e 7) w)) (Fn95_L8_eq R) (fun e w => by kernel_rfl)
def Fn95_s10 (R : KW) (x0 x1 : Value) (w : World) : Prop :=
 newG (Value.cells x0) 26 w fun t2 w =>
 newG (Value.cells x1) 48 w fun t3 w =>
 Fn95_s9 R t2 t3 (.slice none 0 0) (.slice none 0 0) w
theorem Fn95_s10_eq (R : KW) : ∀ e w, liK 112 (bodyOf f70) (fiK f70 R) e w = Fn95_s10 R (e 0) (e 1) w :=
 segs_eq (l := [(sbK f70 [0]), (sbK f70 [1, 0])]) (y := (sbK f70 [1, 1])) (Y := (fun e w => Fn95_s9 R (e 2) (e 3) (e 5) (e 6) w)) (seq_seg (x := (sbK f70 [1, 1, 0])) (y := (sbK f70 [1, 1, 1])) (seq_seg (x := (sbK f70 [1, 1, 1, 0])) (y := (sbK f70 [1, 1, 1, 1])) (Fn95_s0_eq R) (Fn95_s6_eq R)) (Fn95_s9_eq R)) (fun e w => by kernel_rfl)
def Fn95 (R : KW) (x0 x1 : Value) (w : World) : Prop := Fn95_s10 R x0 x1 w
theorem Fn95_call {R : KW} {x0 x1 : Value} {w : World} (h : Fn95 R x0 x1 w) : callG prog 70 #[x0, x1] w R :=
 calls_lift_eq mixed func70 (args := [x0, x1]) rfl rfl rfl rfl ((Fn95_s10_eq R) (envOf [x0, x1]) w) (by kernel_rfl) h
def Fn92_s0 (R : KW) (w : World) : Prop :=
 R (.bool true) w
theorem Fn92_s0_eq (R : KW) : ∀ e w, liK 66 (sbK f71 [1, 1]) (fiK f71 R) e w = Fn92_s0 R w := fun e w => by kernel_rfl
def Fn92_s1 (R : KW) (N1 : KL) (x1 x3 : Value) (w : World) : Prop :=
 qG prog (bq .add 3 (.tmp 10) (.const (.int .i64 1)) x3 (.int .i64 1)) w fun t11 =>
 N1 [x1, t11] w
theorem Fn92_s1_eq (R : KW) (N1 : KL) : ∀ e w, liK 66 (sbK f71 [1, 0, 1, 0, 0, 1, 1]) (seqK (fun e w => N1 [e 1, e 3] w) (blockK 0 (seqK (fun e w => Fn92_s0 R  w) (fiK f71 R)))) e w = Fn92_s1 R N1 (e 1) (e 3) w := fun e w => by kernel_rfl
def Fn92_s2 (R : KW) (N1 : KL) (x1 x3 x4 : Value) (w : World) : Prop :=
 fa 4 x4 fun t54 =>
 ld1 t54 w fun t55 =>
 qG prog (bq .eql 3 (.tmp 55) (.const (.int .i64 0)) t55 (.int .i64 0)) w fun t56 =>
 bV t56
 (ldn 4 x1 w fun t58 =>
 fa 1 x4 fun t59 =>
 ld1 t59 w fun t60 =>
 fa 2 x4 fun t61 =>
 ld1 t61 w fun t62 =>
 callG prog 48 #[t58, t60, t62] w fun t63 w =>
 qG prog (bq .lss 3 (.tmp 63) (.const (.int .i64 0)) t63 (.int .i64 0)) w fun t64 =>
 bV t64
 (R (.bool false) w)
 (Fn92_s1 R N1 x1 x3 w))
 (Fn92_s1 R N1 x1 x3 w)
theorem Fn92_s2_eq (R : KW) (N1 : KL) : ∀ e w, liK 66 (sbK f71 [1, 0, 1, 0, 0, 1, 0, 0, 1, 1]) (blockK 1 (seqK (fun e w => Fn92_s1 R N1 (e 1) (e 3) w) (seqK (fun e w => N1 [e 1, e 3] w) (blockK 0 (seqK (fun e w => Fn92_s0 R  w) (fiK f71 R)))))) e w = Fn92_s2 R N1 (e 1) (e 3) (e 4) w := fun e w => by kernel_rfl
def Fn92_s3 (R : KW) (N1 : KL) (x1 x3 : Value) (w : World) : Prop :=
 fa 1 x1 fun t12 =>
 ld1 t12 w fun t13 =>
 ia 6 t13 x3 fun t15 =>
 ldn 6 t15 w fun t16 =>
 newG (zc prog 70) 70 w fun t4 w =>
 stn 6 t4 t16 w fun w =>
 fa 0 t4 fun t17 =>
 ld1 t17 w fun t18 =>
 qG prog (bq .sub 3 (.tmp 18) (.const (.int .i64 1)) t18 (.int .i64 1)) w fun t19 =>
 qG prog (bq .neq 3 (.tmp 19) (.tmp 20) t19 x3) w fun t21 =>
 bV t21
 (R (.bool false) w)
 (fa 1 t4 fun t23 =>
 ld1 t23 w fun t24 =>
 callG prog 68 #[t24] w fun t25 w =>
 qG prog (Op.unary .not t25) w fun t26 =>
 bV t26
 (R (.bool false) w)
 (fa 2 t4 fun t29 =>
 ld1 t29 w fun t30 =>
 callG prog 68 #[t30] w fun t31 w =>
 qG prog (Op.unary .not t31) w fun t32 =>
 bV t32
 (R (.bool false) w)
 (fa 3 t4 fun t35 =>
 ld1 t35 w fun t36 =>
 qG prog (bq .lss 3 (.tmp 36) (.const (.int .i64 1)) t36 (.int .i64 1)) w fun t37 =>
 bV t37
 (R (.bool false) w)
 (fa 4 t4 fun t40 =>
 ld1 t40 w fun t41 =>
 qG prog (bq .lss 3 (.tmp 41) (.const (.int .i64 0)) t41 (.int .i64 0)) w fun t42 =>
 bV t42
 (R (.bool false) w)
 (fa 4 t4 fun t45 =>
 ld1 t45 w fun t46 =>
 qG prog (bq .gtr 3 (.tmp 46) (.const (.int .i64 2)) t46 (.int .i64 2)) w fun t47 =>
 bV t47
 (R (.bool false) w)
 (fa 5 t4 fun t50 =>
 ld1 t50 w fun t51 =>
 qG prog (bq .lss 3 (.tmp 51) (.const (.int .i64 0)) t51 (.int .i64 0)) w fun t52 =>
 bV t52
 (R (.bool false) w)
 (Fn92_s2 R N1 x1 x3 t4 w)))))))
theorem Fn92_s3_eq (R : KW) (N1 : KL) : ∀ e w, liK 66 (sbK f71 [1, 0, 1, 0, 0, 1, 0, 0]) (blockK 1 (seqK (fun e w => Fn92_s1 R N1 (e 1) (e 3) w) (seqK (fun e w => N1 [e 1, e 3] w) (blockK 0 (seqK (fun e w => Fn92_s0 R  w) (fiK f71 R)))))) e w = Fn92_s3 R N1 (e 1) (e 3) w :=
 segs_eq (l := [(sbK f71 [1, 0, 1, 0, 0, 1, 0, 0, 0]), (sbK f71 [1, 0, 1, 0, 0, 1, 0, 0, 1, 0])]) (y := (sbK f71 [1, 0, 1, 0, 0, 1, 0, 0, 1, 1])) (Y := (fun e w => Fn92_s2 R N1 (e 1) (e 3) (e 4) w)) (Fn92_s2_eq R N1) (fun e w => by kernel_rfl)
def Fn92_s4 (R : KW) (N1 : KL) (x1 x3 : Value) (w : World) : Prop :=
 fa 1 x1 fun t6 =>
 ld1 t6 w fun t7 =>
 lenL t7 fun t8 =>
 qG prog (bq .lss 3 (.tmp 5) (.tmp 8) x3 t8) w fun t9 =>
 bV t9
 (Fn92_s3 R N1 x1 x3 w)
 (Fn92_s0 R  w)
theorem Fn92_s4_eq (R : KW) (N1 : KL) : ∀ e w, liK 66 (sbK f71 [1, 0, 1, 0, 0]) (seqK (fun e w => N1 [e 1, e 3] w) (blockK 0 (seqK (fun e w => Fn92_s0 R  w) (fiK f71 R)))) e w = Fn92_s4 R N1 (e 1) (e 3) w :=
 segs_eq (l := [(sbK f71 [1, 0, 1, 0, 0, 0])]) (y := (sbK f71 [1, 0, 1, 0, 0, 1])) (Y := (fun e w => Fn92_s3 R N1 (e 1) (e 3) w)) (seq_seg (x := (sbK f71 [1, 0, 1, 0, 0, 1, 0])) (y := (sbK f71 [1, 0, 1, 0, 0, 1, 1])) (Fn92_s1_eq R N1) (Fn92_s3_eq R N1)) (fun e w => by kernel_rfl)
def Fn92_L5F (R : KW) (N1 : KL) (xs : List Value) (w : World) : Prop :=
 match xs with
 | [x1, x3] => Fn92_s4 R N1 x1 x3 w
 | _ => False
def Fn92_L5 (R : KW) (x1 x3 : Value) (w : World) : Prop :=
 ∃ m, loopV (Fn92_L5F R) m [x1, x3] w
theorem Fn92_L5_eq (R : KW) : ∀ e w, liK 66 (sbK f71 [1, 0, 1, 0]) (blockK 0 (seqK (fun e w => Fn92_s0 R  w) (fiK f71 R))) e w = Fn92_L5 R (e 1) (e 3) w := loop_seg (F := Fn92_L5F R) (sel := fun e => [e 1, e 3]) fun N1 => (Fn92_s4_eq R N1)
def Fn92_s6 (R : KW) (x1 : Value) (w : World) : Prop :=
 Fn92_L5 R x1 (.int .i64 0) w
theorem Fn92_s6_eq (R : KW) : ∀ e w, liK 66 (sbK f71 [1, 0]) (seqK (fun e w => Fn92_s0 R  w) (fiK f71 R)) e w = Fn92_s6 R (e 1) w :=
 segs_eq (l := [(sbK f71 [1, 0, 0])]) (y := (sbK f71 [1, 0, 1])) (Y := (fun e w => Fn92_L5 R (e 1) (e 3) w)) (Fn92_L5_eq R) (fun e w => by kernel_rfl)
def Fn92_s7 (R : KW) (x0 : Value) (w : World) : Prop :=
 newG (Value.cells x0) 26 w fun t1 w =>
 Fn92_s6 R t1 w
theorem Fn92_s7_eq (R : KW) : ∀ e w, liK 66 (bodyOf f71) (fiK f71 R) e w = Fn92_s7 R (e 0) w :=
 segs_eq (l := [(sbK f71 [0])]) (y := (sbK f71 [1])) (Y := (fun e w => Fn92_s6 R (e 1) w)) (seq_seg (x := (sbK f71 [1, 0])) (y := (sbK f71 [1, 1])) (Fn92_s0_eq R) (Fn92_s6_eq R)) (fun e w => by kernel_rfl)
def Fn92 (R : KW) (x0 : Value) (w : World) : Prop := Fn92_s7 R x0 w
theorem Fn92_call {R : KW} {x0 : Value} {w : World} (h : Fn92 R x0 w) : callG prog 71 #[x0] w R :=
 calls_lift_eq mixed func71 (args := [x0]) rfl rfl rfl rfl ((Fn92_s7_eq R) (envOf [x0]) w) (by kernel_rfl) h
def Fn94_s0 (R : KW) (w : World) : Prop :=
 R (.bool true) w
theorem Fn94_s0_eq (R : KW) : ∀ e w, liK 85 (sbK f72 [1, 1]) (fiK f72 R) e w = Fn94_s0 R w := fun e w => by kernel_rfl
def Fn94_s1 (R : KW) (N1 : KL) (x1 x3 : Value) (w : World) : Prop :=
 qG prog (bq .add 3 (.tmp 11) (.const (.int .i64 1)) x3 (.int .i64 1)) w fun t12 =>
 N1 [x1, t12] w
theorem Fn94_s1_eq (R : KW) (N1 : KL) : ∀ e w, liK 85 (sbK f72 [1, 0, 1, 0, 0, 1, 1]) (seqK (fun e w => N1 [e 1, e 3] w) (blockK 0 (seqK (fun e w => Fn94_s0 R  w) (fiK f72 R)))) e w = Fn94_s1 R N1 (e 1) (e 3) w := fun e w => by kernel_rfl
def Fn94_s2 (R : KW) (N1 : KL) (x1 x3 x4 x5 : Value) (w : World) : Prop :=
 fa 0 x4 fun t36 =>
 ld1 t36 w fun t37 =>
 qG prog (bq .sub 3 (.tmp 37) (.const (.int .i64 1)) t37 (.int .i64 1)) w fun t38 =>
 qG prog (bq .neq 3 (.tmp 38) (.tmp 39) t38 x3) w fun t40 =>
 bV t40
 (R (.bool false) w)
 (fa 1 x4 fun t42 =>
 ld1 t42 w fun t43 =>
 callG prog 68 #[t43] w fun t44 w =>
 qG prog (Op.unary .not t44) w fun t45 =>
 bV t45
 (R (.bool false) w)
 (fa 2 x4 fun t48 =>
 ld1 t48 w fun t49 =>
 callG prog 68 #[t49] w fun t50 w =>
 qG prog (Op.unary .not t50) w fun t51 =>
 bV t51
 (R (.bool false) w)
 (fa 3 x4 fun t54 =>
 ld1 t54 w fun t55 =>
 qG prog (bq .eql 3 (.tmp 55) (.const (.int .i64 0)) t55 (.int .i64 0)) w fun t56 =>
 bV t56
 (R (.bool false) w)
 (qG prog (Op.unary .not x5) w fun t60 =>
 bV t60
 (R (.bool false) w)
 (fa 5 x4 fun t63 =>
 ld1 t63 w fun t64 =>
 qG prog (bq .lss 3 (.tmp 64) (.const (.int .i64 0)) t64 (.int .i64 0)) w fun t65 =>
 bV t65
 (R (.bool false) w)
 (fa 5 x4 fun t68 =>
 ld1 t68 w fun t69 =>
 qG prog (bq .neq 3 (.tmp 69) (.const (.int .i64 0)) t69 (.int .i64 0)) w fun t70 =>
 fa 4 x4 fun t71 =>
 ld1 t71 w fun t72 =>
 qG prog (bq .eql 3 (.tmp 72) (.const (.int .i64 3)) t72 (.int .i64 3)) w fun t73 =>
 qG prog (bq .neq 4 (.tmp 70) (.tmp 73) t70 t73) w fun t74 =>
 bV t74
 (R (.bool false) w)
 (ldn 4 x1 w fun t77 =>
 fa 1 x4 fun t78 =>
 ld1 t78 w fun t79 =>
 fa 2 x4 fun t80 =>
 ld1 t80 w fun t81 =>
 callG prog 48 #[t77, t79, t81] w fun t82 w =>
 qG prog (bq .lss 3 (.tmp 82) (.const (.int .i64 0)) t82 (.int .i64 0)) w fun t83 =>
 bV t83
 (R (.bool false) w)
 (Fn94_s1 R N1 x1 x3 w))))))))
theorem Fn94_s2_eq (R : KW) (N1 : KL) : ∀ e w, liK 85 (sbK f72 [1, 0, 1, 0, 0, 1, 0, 0, 1, 1]) (blockK 1 (seqK (fun e w => Fn94_s1 R N1 (e 1) (e 3) w) (seqK (fun e w => N1 [e 1, e 3] w) (blockK 0 (seqK (fun e w => Fn94_s0 R  w) (fiK f72 R)))))) e w = Fn94_s2 R N1 (e 1) (e 3) (e 4) (e 5) w := fun e w => by kernel_rfl
def Fn94_s3 (R : KW) (N1 : KL) (x1 x3 : Value) (w : World) : Prop :=
 fa 2 x1 fun t13 =>
 ld1 t13 w fun t14 =>
 ia 6 t14 x3 fun t16 =>
 ldn 6 t16 w fun t17 =>
 newG (zc prog 73) 73 w fun t4 w =>
 stn 6 t4 t17 w fun w =>
 fa 4 t4 fun t18 =>
 ld1 t18 w fun t19 =>
 qG prog (bq .eql 3 (.tmp 19) (.const (.int .i64 1)) t19 (.int .i64 1)) w fun t20 =>
 bV t20
 (Fn94_s2 R N1 x1 x3 t4 (.bool true) w)
 (fa 4 t4 fun t22 =>
 ld1 t22 w fun t23 =>
 qG prog (bq .eql 3 (.tmp 23) (.const (.int .i64 3)) t23 (.int .i64 3)) w fun t24 =>
 bV t24
 (Fn94_s2 R N1 x1 x3 t4 (.bool true) w)
 (fa 4 t4 fun t27 =>
 ld1 t27 w fun t28 =>
 qG prog (bq .eql 3 (.tmp 28) (.const (.int .i64 6)) t28 (.int .i64 6)) w fun t29 =>
 bV t29
 (Fn94_s2 R N1 x1 x3 t4 (.bool true) w)
 (fa 4 t4 fun t32 =>
 ld1 t32 w fun t33 =>
 qG prog (bq .eql 3 (.tmp 33) (.const (.int .i64 7)) t33 (.int .i64 7)) w fun t34 =>
 Fn94_s2 R N1 x1 x3 t4 t34 w)))
theorem Fn94_s3_eq (R : KW) (N1 : KL) : ∀ e w, liK 85 (sbK f72 [1, 0, 1, 0, 0, 1, 0, 0]) (blockK 1 (seqK (fun e w => Fn94_s1 R N1 (e 1) (e 3) w) (seqK (fun e w => N1 [e 1, e 3] w) (blockK 0 (seqK (fun e w => Fn94_s0 R  w) (fiK f72 R)))))) e w = Fn94_s3 R N1 (e 1) (e 3) w :=
 segs_eq (l := [(sbK f72 [1, 0, 1, 0, 0, 1, 0, 0, 0]), (sbK f72 [1, 0, 1, 0, 0, 1, 0, 0, 1, 0])]) (y := (sbK f72 [1, 0, 1, 0, 0, 1, 0, 0, 1, 1])) (Y := (fun e w => Fn94_s2 R N1 (e 1) (e 3) (e 4) (e 5) w)) (Fn94_s2_eq R N1) (fun e w => by kernel_rfl)
def Fn94_s4 (R : KW) (N1 : KL) (x1 x3 : Value) (w : World) : Prop :=
 fa 2 x1 fun t7 =>
 ld1 t7 w fun t8 =>
 lenL t8 fun t9 =>
 qG prog (bq .lss 3 (.tmp 6) (.tmp 9) x3 t9) w fun t10 =>
 bV t10
 (Fn94_s3 R N1 x1 x3 w)
 (Fn94_s0 R  w)
theorem Fn94_s4_eq (R : KW) (N1 : KL) : ∀ e w, liK 85 (sbK f72 [1, 0, 1, 0, 0]) (seqK (fun e w => N1 [e 1, e 3] w) (blockK 0 (seqK (fun e w => Fn94_s0 R  w) (fiK f72 R)))) e w = Fn94_s4 R N1 (e 1) (e 3) w :=
 segs_eq (l := [(sbK f72 [1, 0, 1, 0, 0, 0])]) (y := (sbK f72 [1, 0, 1, 0, 0, 1])) (Y := (fun e w => Fn94_s3 R N1 (e 1) (e 3) w)) (seq_seg (x := (sbK f72 [1, 0, 1, 0, 0, 1, 0])) (y := (sbK f72 [1, 0, 1, 0, 0, 1, 1])) (Fn94_s1_eq R N1) (Fn94_s3_eq R N1)) (fun e w => by kernel_rfl)
def Fn94_L5F (R : KW) (N1 : KL) (xs : List Value) (w : World) : Prop :=
 match xs with
 | [x1, x3] => Fn94_s4 R N1 x1 x3 w
 | _ => False
def Fn94_L5 (R : KW) (x1 x3 : Value) (w : World) : Prop :=
 ∃ m, loopV (Fn94_L5F R) m [x1, x3] w
theorem Fn94_L5_eq (R : KW) : ∀ e w, liK 85 (sbK f72 [1, 0, 1, 0]) (blockK 0 (seqK (fun e w => Fn94_s0 R  w) (fiK f72 R))) e w = Fn94_L5 R (e 1) (e 3) w := loop_seg (F := Fn94_L5F R) (sel := fun e => [e 1, e 3]) fun N1 => (Fn94_s4_eq R N1)
def Fn94_s6 (R : KW) (x1 : Value) (w : World) : Prop :=
 Fn94_L5 R x1 (.int .i64 0) w
theorem Fn94_s6_eq (R : KW) : ∀ e w, liK 85 (sbK f72 [1, 0]) (seqK (fun e w => Fn94_s0 R  w) (fiK f72 R)) e w = Fn94_s6 R (e 1) w :=
 segs_eq (l := [(sbK f72 [1, 0, 0])]) (y := (sbK f72 [1, 0, 1])) (Y := (fun e w => Fn94_L5 R (e 1) (e 3) w)) (Fn94_L5_eq R) (fun e w => by kernel_rfl)
def Fn94_s7 (R : KW) (x0 : Value) (w : World) : Prop :=
 newG (Value.cells x0) 26 w fun t1 w =>
 Fn94_s6 R t1 w
theorem Fn94_s7_eq (R : KW) : ∀ e w, liK 85 (bodyOf f72) (fiK f72 R) e w = Fn94_s7 R (e 0) w :=
 segs_eq (l := [(sbK f72 [0])]) (y := (sbK f72 [1])) (Y := (fun e w => Fn94_s6 R (e 1) w)) (seq_seg (x := (sbK f72 [1, 0])) (y := (sbK f72 [1, 1])) (Fn94_s0_eq R) (Fn94_s6_eq R)) (fun e w => by kernel_rfl)
def Fn94 (R : KW) (x0 : Value) (w : World) : Prop := Fn94_s7 R x0 w
theorem Fn94_call {R : KW} {x0 : Value} {w : World} (h : Fn94 R x0 w) : callG prog 72 #[x0] w R :=
 calls_lift_eq mixed func72 (args := [x0]) rfl rfl rfl rfl ((Fn94_s7_eq R) (envOf [x0]) w) (by kernel_rfl) h
def Fn90_s0 (R : KW) (x1 : Value) (w : World) : Prop :=
 ldn 4 x1 w fun t81 =>
 callG prog 71 #[t81] w fun t82 w =>
 bV t82
 (ldn 4 x1 w fun t84 =>
 callG prog 72 #[t84] w fun t85 w =>
 R t85 w)
 (R (.bool false) w)
theorem Fn90_s0_eq (R : KW) : ∀ e w, liK 87 (sbK f28 [1, 1, 1]) (fiK f28 R) e w = Fn90_s0 R (e 1) w := fun e w => by kernel_rfl
def Fn90_b1 (R : KW) (N1 : KL) (x1 x3 : Value) (w : World) : Prop :=
 fa 0 x1 fun t27 =>
 ld1 t27 w fun t28 =>
 lenL t28 fun t29 =>
 qG prog (bq .lss 3 (.tmp 26) (.tmp 29) x3 t29) w fun t30 =>
 bV t30
 (fa 0 x1 fun t33 =>
 ld1 t33 w fun t34 =>
 ia 4 t34 x3 fun t36 =>
 ldn 4 t36 w fun t37 =>
 newG (zc prog 48) 48 w fun t4 w =>
 stn 4 t4 t37 w fun w =>
 fa 0 t4 fun t38 =>
 ld1 t38 (World.drew w) fun t39 =>
 callG prog 68 #[t39] (World.drew w) fun t40 w =>
 qG prog (Op.unary .not t40) w fun t41 =>
 bV t41
 (R (.bool false) w)
 (fa 1 t4 fun t43 =>
 ld1 t43 w fun t44 =>
 callG prog 68 #[t44] w fun t45 w =>
 qG prog (Op.unary .not t45) w fun t46 =>
 bV t46
 (R (.bool false) w)
 (fa 3 t4 fun t49 =>
 ld1 t49 w fun t50 =>
 qG prog (bq .lss 3 (.tmp 50) (.const (.int .i64 0)) t50 (.int .i64 0)) w fun t51 =>
 bV t51
 (R (.bool false) w)
 (fa 3 t4 fun t54 =>
 ld1 t54 w fun t55 =>
 fa 2 t4 fun t56 =>
 ld1 t56 w fun t57 =>
 qG prog (bq .gtr 3 (.tmp 55) (.tmp 57) t55 t57) w fun t58 =>
 bV t58
 (R (.bool false) w)
 (qG prog (bq .gtr 3 (.tmp 61) (.const (.int .i64 0)) x3 (.int .i64 0)) w fun t62 =>
 bV t62
 (fa 0 x1 fun t64 =>
 ld1 t64 w fun t65 =>
 qG prog (bq .sub 3 (.tmp 66) (.const (.int .i64 1)) x3 (.int .i64 1)) w fun t67 =>
 ia 4 t65 t67 fun t68 =>
 ldn 4 t68 w fun t69 =>
 ldn 4 t4 w fun t70 =>
 callG prog 69 #[t69, t70] w fun t71 w =>
 qG prog (Op.unary .not t71) w fun t72 =>
 bV t72
 (R (.bool false) w)
 (ldn 4 x1 w fun t76 =>
 ldn 4 t4 w fun t77 =>
 callG prog 70 #[t76, t77] w fun t78 w =>
 qG prog (Op.unary .not t78) w fun t79 =>
 bV t79
 (R (.bool false) w)
 (qG prog (bq .add 3 (.tmp 31) (.const (.int .i64 1)) x3 (.int .i64 1)) w fun t32 =>
 N1 [x1, t32] w)))
 (ldn 4 x1 w fun t76_1 =>
 ldn 4 t4 w fun t77_1 =>
 callG prog 70 #[t76_1, t77_1] w fun t78_1 w =>
 qG prog (Op.unary .not t78_1) w fun t79_1 =>
 bV t79_1
 (R (.bool false) w)
 (qG prog (bq .add 3 (.tmp 31) (.const (.int .i64 1)) x3 (.int .i64 1)) w fun t32_1 =>
 N1 [x1, t32_1] w)))))))
 (Fn90_s0 R x1 w)
theorem Fn90_b1_eq (R : KW) (N1 : KL) : ∀ e w, liK 87 (sbK f28 [1, 1, 0, 1, 0, 0]) (seqK (fun e w => N1 [e 1, e 3] w) (blockK 0 (seqK (fun e w => Fn90_s0 R (e 1) w) (fiK f28 R)))) e w = Fn90_b1 R N1 (e 1) (e 3) w := fun e w => by kernel_rfl
def Fn90_L2F (R : KW) (N1 : KL) (xs : List Value) (w : World) : Prop :=
 match xs with
 | [x1, x3] => Fn90_b1 R N1 x1 x3 w
 | _ => False
def Fn90_L2 (R : KW) (x1 x3 : Value) (w : World) : Prop :=
 ∃ m, loopV (Fn90_L2F R) m [x1, x3] w
theorem Fn90_L2_eq (R : KW) : ∀ e w, liK 87 (sbK f28 [1, 1, 0, 1, 0]) (blockK 0 (seqK (fun e w => Fn90_s0 R (e 1) w) (fiK f28 R))) e w = Fn90_L2 R (e 1) (e 3) w := loop_seg (F := Fn90_L2F R) (sel := fun e => [e 1, e 3]) fun N1 => (Fn90_b1_eq R N1)
def Fn90_s3 (R : KW) (x1 : Value) (w : World) : Prop :=
 Fn90_L2 R x1 (.int .i64 0) w
theorem Fn90_s3_eq (R : KW) : ∀ e w, liK 87 (sbK f28 [1, 1, 0]) (seqK (fun e w => Fn90_s0 R (e 1) w) (fiK f28 R)) e w = Fn90_s3 R (e 1) w :=
 segs_eq (l := [(sbK f28 [1, 1, 0, 0])]) (y := (sbK f28 [1, 1, 0, 1])) (Y := (fun e w => Fn90_L2 R (e 1) (e 3) w)) (Fn90_L2_eq R) (fun e w => by kernel_rfl)
def Fn90_s4 (R : KW) (x0 : Value) (w : World) : Prop :=
 newG (Value.cells x0) 26 w fun t1 w =>
 fa 3 t1 fun t5 =>
 ld1 t5 w fun t6 =>
 qG prog (bq .lss 3 (.tmp 6) (.const (.int .i64 0)) t6 (.int .i64 0)) w fun t7 =>
 bV t7
 (R (.bool false) w)
 (fa 0 t1 fun t9 =>
 ld1 t9 w fun t10 =>
 lenL t10 fun t11 =>
 qG prog (bq .gtr 3 (.tmp 11) (.const (.int .i64 4096)) t11 (.int .i64 4096)) w fun t12 =>
 bV t12
 (R (.bool false) w)
 (fa 1 t1 fun t15 =>
 ld1 t15 w fun t16 =>
 lenL t16 fun t17 =>
 qG prog (bq .gtr 3 (.tmp 17) (.const (.int .i64 4096)) t17 (.int .i64 4096)) w fun t18 =>
 bV t18
 (R (.bool false) w)
 (fa 2 t1 fun t21 =>
 ld1 t21 w fun t22 =>
 lenL t22 fun t23 =>
 qG prog (bq .gtr 3 (.tmp 23) (.const (.int .i64 4096)) t23 (.int .i64 4096)) w fun t24 =>
 bV t24
 (R (.bool false) w)
 (Fn90_s3 R t1 w))))
theorem Fn90_s4_eq (R : KW) : ∀ e w, liK 87 (bodyOf f28) (fiK f28 R) e w = Fn90_s4 R (e 0) w :=
 segs_eq (l := [(sbK f28 [0]), (sbK f28 [1, 0])]) (y := (sbK f28 [1, 1])) (Y := (fun e w => Fn90_s3 R (e 1) w)) (seq_seg (x := (sbK f28 [1, 1, 0])) (y := (sbK f28 [1, 1, 1])) (Fn90_s0_eq R) (Fn90_s3_eq R)) (fun e w => by kernel_rfl)
def Fn90 (R : KW) (x0 : Value) (w : World) : Prop := Fn90_s4 R x0 w
theorem Fn90_call {R : KW} {x0 : Value} {w : World} (h : Fn90 R x0 w) : callG prog 28 #[x0] w R :=
 calls_lift_eq mixed func28 (args := [x0]) rfl rfl rfl rfl ((Fn90_s4_eq R) (envOf [x0]) w) (by kernel_rfl) h
def Fn88_s0 (R : KW) (x0 x1 x2 : Value) (w : World) : Prop :=
 newG (Value.cells x0) 26 w fun t3 w =>
 newG (zc prog 48) 48 w fun t6 w =>
 ldn 4 t3 w fun t8 =>
 callG prog 48 #[t8, x1, x2] w fun t11 w =>
 qG prog (bq .geq 3 (.tmp 12) (.const (.int .i64 0)) t11 (.int .i64 0)) w fun t13 =>
 bV t13
 (fa 0 t3 fun t14 =>
 ld1 t14 w fun t15 =>
 ia 4 t15 t11 fun t17 =>
 ldn 4 t17 w fun t18 =>
 stn 4 t6 t18 w fun w =>
 qG prog (do loadVar 48 (← asAddr t6)) w fun r6 =>
 R r6 w)
 (bld [(0, 1), (1, 1), (2, 1), (3, 1)] (zc prog 48) #[(0, x1), (1, x2)] fun t21 =>
 stn 4 t6 t21 w fun w =>
 qG prog (do loadVar 48 (← asAddr t6)) w fun r6_1 =>
 R r6_1 w)
theorem Fn88_s0_eq (R : KW) : ∀ e w, liK 22 (bodyOf f17) (fiK f17 R) e w = Fn88_s0 R (e 0) (e 1) (e 2) w := fun e w => by kernel_rfl
def Fn88 (R : KW) (x0 x1 x2 : Value) (w : World) : Prop := Fn88_s0 R x0 x1 x2 w
theorem Fn88_call {R : KW} {x0 x1 x2 : Value} {w : World} (h : Fn88 R x0 x1 x2 w) : callG prog 17 #[x0, x1, x2] w R :=
 calls_lift_eq mixed func17 (args := [x0, x1, x2]) rfl rfl rfl rfl ((Fn88_s0_eq R) (envOf [x0, x1, x2]) w) (by kernel_rfl) h
end Go.Proofs

