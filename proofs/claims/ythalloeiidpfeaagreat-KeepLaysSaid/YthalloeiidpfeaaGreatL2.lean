/- Part of the proof (L2): an engine, rules or contracts of the functions; it states nothing of the claim by itself. -/
import Derived.Test.YthalloeiidpfeaaGreatL1
import Derived.Laws.Append

set_option linter.unusedVariables false
set_option linter.unusedSimpArgs false
namespace Go.Proofs
open Go Go.Q
set_option maxRecDepth 100000
def ledger_Find_1_s0 (R : Value → World → Prop) (x0 x1 x2 : Value) (w : World) : Prop :=
  newG (Value.cells x0) 48 w fun t3 w =>
  fa 0 t3 fun t5 =>
  ld1 t5 w fun t6 =>
  ld1 x1 w fun t7 =>
  qG Tryz.prog (bq .eql 9 (.tmp 6) (.tmp 7) t6 t7) w fun t8 =>
  bV t8
  (fa 1 t3 fun t10 =>
  ld1 t10 w fun t11 =>
  ld1 x2 w fun t12 =>
  qG Tryz.prog (bq .eql 9 (.tmp 11) (.tmp 12) t11 t12) w fun t13 =>
  R t13 w)
  (R (.bool false) w)
theorem ledger_Find_1_s0_eq (R : Value → World → Prop) : ∀ e w, lift Tryz.prog 15 (bodyOf Tryz.f145) (finK Tryz.prog Tryz.f145.results.toList R) e w = ledger_Find_1_s0 R (e 0) (e 1) (e 2) w := fun e w => by kernel_rfl
def ledger_Find_1 (R : Value → World → Prop) (x0 x1 x2 : Value) (w : World) : Prop := ledger_Find_1_s0 R x0 x1 x2 w
theorem ledger_Find_1_call {R : Value → World → Prop} {x0 x1 x2 : Value} {w : World} (h : ledger_Find_1 R x0 x1 x2 w) : callG Tryz.prog 145 #[x0, x1, x2] w R :=
  calls_lift_eq Tryz.mixed Tryz.func145 (args := [x0, x1, x2]) rfl rfl rfl rfl ((ledger_Find_1_s0_eq R) (envOf [x0, x1, x2]) w) (by kernel_rfl) h
def slices_IndexFunc_api_Stock_api_Stock_s0 (R : Value → World → Prop) (w : World) : Prop :=
  R (.int .i64 (-1)) w
theorem slices_IndexFunc_api_Stock_api_Stock_s0_eq (R : Value → World → Prop) : ∀ e w, lift Tryz.prog 19 (sub (bodyOf Tryz.f144) [1, 1]) (finK Tryz.prog Tryz.f144.results.toList R) e w = slices_IndexFunc_api_Stock_api_Stock_s0 R w := fun e w => by kernel_rfl
def slices_IndexFunc_api_Stock_api_Stock_b1 (R : Value → World → Prop) (N1 : List Value → World → Prop) (x0 x1 x7 x8 : Value) (w : World) : Prop :=
  qG Tryz.prog (bq .lss 3 (.tmp 8) (.tmp 7) x8 x7) w fun t9 =>
  bV t9
  (ia 4 x0 x8 fun t14 =>
  ldn 4 t14 w fun t15 =>
  callV Tryz.prog x1 #[t15] w fun t16 w =>
  bV t16
  (R x8 w)
  (qG Tryz.prog (bq .add 3 (.tmp 8) (.const (.int .i64 1)) x8 (.int .i64 1)) w fun t18 =>
  N1 [x0, x1, x7, t18] w))
  (slices_IndexFunc_api_Stock_api_Stock_s0 R  w)
theorem slices_IndexFunc_api_Stock_api_Stock_b1_eq (R : Value → World → Prop) (N1 : List Value → World → Prop) : ∀ e w, lift Tryz.prog 19 (sub (bodyOf Tryz.f144) [1, 0, 1, 0, 0]) (seqK (fun e w => N1 [e 0, e 1, e 7, e 8] w) (blockK 0 (seqK (fun e w => slices_IndexFunc_api_Stock_api_Stock_s0 R  w) (finK Tryz.prog Tryz.f144.results.toList R)))) e w = slices_IndexFunc_api_Stock_api_Stock_b1 R N1 (e 0) (e 1) (e 7) (e 8) w := fun e w => by kernel_rfl
def slices_IndexFunc_api_Stock_api_Stock_L2F (R : Value → World → Prop) (N1 : List Value → World → Prop) (xs : List Value) (w : World) : Prop :=
  match xs with
  | [x0, x1, x7, x8] => slices_IndexFunc_api_Stock_api_Stock_b1 R N1 x0 x1 x7 x8 w
  | _ => False
def slices_IndexFunc_api_Stock_api_Stock_L2 (R : Value → World → Prop) (x0 x1 x7 x8 : Value) (w : World) : Prop :=
  ∃ m, loopV (slices_IndexFunc_api_Stock_api_Stock_L2F R) m [x0, x1, x7, x8] w
theorem slices_IndexFunc_api_Stock_api_Stock_L2_eq (R : Value → World → Prop) : ∀ e w, lift Tryz.prog 19 (sub (bodyOf Tryz.f144) [1, 0, 1, 0]) (blockK 0 (seqK (fun e w => slices_IndexFunc_api_Stock_api_Stock_s0 R  w) (finK Tryz.prog Tryz.f144.results.toList R))) e w = slices_IndexFunc_api_Stock_api_Stock_L2 R (e 0) (e 1) (e 7) (e 8) w := loop_seg (F := slices_IndexFunc_api_Stock_api_Stock_L2F R) (sel := fun e => [e 0, e 1, e 7, e 8]) fun N1 => (slices_IndexFunc_api_Stock_api_Stock_b1_eq R N1)
def slices_IndexFunc_api_Stock_api_Stock_s3 (R : Value → World → Prop) (x0 x1 : Value) (w : World) : Prop :=
  lenL x0 fun t7 =>
  slices_IndexFunc_api_Stock_api_Stock_L2 R x0 x1 t7 (.int .i64 0) w
theorem slices_IndexFunc_api_Stock_api_Stock_s3_eq (R : Value → World → Prop) : ∀ e w, lift Tryz.prog 19 (sub (bodyOf Tryz.f144) [1, 0]) (seqK (fun e w => slices_IndexFunc_api_Stock_api_Stock_s0 R  w) (finK Tryz.prog Tryz.f144.results.toList R)) e w = slices_IndexFunc_api_Stock_api_Stock_s3 R (e 0) (e 1) w :=
  segs_eq (l := [(sub (bodyOf Tryz.f144) [1, 0, 0])]) (y := (sub (bodyOf Tryz.f144) [1, 0, 1])) (Y := (fun e w => slices_IndexFunc_api_Stock_api_Stock_L2 R (e 0) (e 1) (e 7) (e 8) w)) (slices_IndexFunc_api_Stock_api_Stock_L2_eq R) (fun e w => by kernel_rfl)
def slices_IndexFunc_api_Stock_api_Stock_s4 (R : Value → World → Prop) (x0 x1 : Value) (w : World) : Prop :=
  slices_IndexFunc_api_Stock_api_Stock_s3 R x0 x1 w
theorem slices_IndexFunc_api_Stock_api_Stock_s4_eq (R : Value → World → Prop) : ∀ e w, lift Tryz.prog 19 (bodyOf Tryz.f144) (finK Tryz.prog Tryz.f144.results.toList R) e w = slices_IndexFunc_api_Stock_api_Stock_s4 R (e 0) (e 1) w :=
  segs_eq (l := [(sub (bodyOf Tryz.f144) [0])]) (y := (sub (bodyOf Tryz.f144) [1])) (Y := (fun e w => slices_IndexFunc_api_Stock_api_Stock_s3 R (e 0) (e 1) w)) (seq_seg (x := (sub (bodyOf Tryz.f144) [1, 0])) (y := (sub (bodyOf Tryz.f144) [1, 1])) (slices_IndexFunc_api_Stock_api_Stock_s0_eq R) (slices_IndexFunc_api_Stock_api_Stock_s3_eq R)) (fun e w => by kernel_rfl)
def slices_IndexFunc_api_Stock_api_Stock (R : Value → World → Prop) (x0 x1 : Value) (w : World) : Prop := slices_IndexFunc_api_Stock_api_Stock_s4 R x0 x1 w
theorem slices_IndexFunc_api_Stock_api_Stock_call {R : Value → World → Prop} {x0 x1 : Value} {w : World} (h : slices_IndexFunc_api_Stock_api_Stock R x0 x1 w) : callG Tryz.prog 144 #[x0, x1] w R :=
  calls_lift_eq Tryz.mixed Tryz.func144 (args := [x0, x1]) rfl rfl rfl rfl ((slices_IndexFunc_api_Stock_api_Stock_s4_eq R) (envOf [x0, x1]) w) (by kernel_rfl) h
def ledger_Find_s0 (R : Value → World → Prop) (x0 x1 x2 : Value) (w : World) : Prop :=
  newG (Value.cells x0) 26 w fun t3 w =>
  newG (Value.cells x1) 9 w fun t4 w =>
  newG (Value.cells x2) 9 w fun t5 w =>
  newG (zc Tryz.prog 48) 48 w fun t6 w =>
  fa 0 t3 fun t8 =>
  ld1 t8 w fun t9 =>
  qG Tryz.prog (Instr.makeFunc (.func 145) #[] #[t4, t5]) w fun t10 =>
  callG Tryz.prog 144 #[t9, t10] w fun t11 w =>
  qG Tryz.prog (bq .lss 3 (.tmp 12) (.const (.int .i64 0)) t11 (.int .i64 0)) w fun t13 =>
  bV t13
  (ld1 t4 w fun t14 =>
  ld1 t5 w fun t15 =>
  bld [(0, 1), (1, 1), (2, 1), (3, 1)] (zc Tryz.prog 48) #[(0, t14), (1, t15)] fun t16 =>
  stn 4 t6 t16 w fun w =>
  qG Tryz.prog (do loadVar 48 (← asAddr t6)) w fun r6 =>
  R r6 w)
  (fa 0 t3 fun t17 =>
  ld1 t17 w fun t18 =>
  ia 4 t18 t11 fun t20 =>
  ldn 4 t20 w fun t21 =>
  stn 4 t6 t21 w fun w =>
  qG Tryz.prog (do loadVar 48 (← asAddr t6)) w fun r6_1 =>
  R r6_1 w)
theorem ledger_Find_s0_eq (R : Value → World → Prop) : ∀ e w, lift Tryz.prog 22 (bodyOf Tryz.f133) (finK Tryz.prog Tryz.f133.results.toList R) e w = ledger_Find_s0 R (e 0) (e 1) (e 2) w := fun e w => by kernel_rfl
def ledger_Find (R : Value → World → Prop) (x0 x1 x2 : Value) (w : World) : Prop := ledger_Find_s0 R x0 x1 x2 w
theorem ledger_Find_call {R : Value → World → Prop} {x0 x1 x2 : Value} {w : World} (h : ledger_Find R x0 x1 x2 w) : callG Tryz.prog 133 #[x0, x1, x2] w R :=
  calls_lift_eq Tryz.mixed Tryz.func133 (args := [x0, x1, x2]) rfl rfl rfl rfl ((ledger_Find_s0_eq R) (envOf [x0, x1, x2]) w) (by kernel_rfl) h
def ledger_Free_s0 (R : Value → World → Prop) (x0 x1 x2 : Value) (w : World) : Prop :=
  newG (Value.cells x0) 26 w fun t3 w =>
  ldn 4 t3 w fun t10 =>
  callG Tryz.prog 133 #[t10, x1, x2] w fun t13 w =>
  newG (zc Tryz.prog 48) 48 w fun t7 w =>
  stn 4 t7 t13 w fun w =>
  fa 2 t7 fun t15 =>
  ld1 t15 w fun t16 =>
  fa 3 t7 fun t17 =>
  ld1 t17 w fun t18 =>
  callG Tryz.prog 142 #[t16, t18] w fun t19 w =>
  qG Tryz.prog (Instr.extract t19 0) w fun t20 =>
  qG Tryz.prog (Instr.extract t19 1) w fun t21 =>
  R t20 w
theorem ledger_Free_s0_eq (R : Value → World → Prop) : ∀ e w, lift Tryz.prog 23 (bodyOf Tryz.f131) (finK Tryz.prog Tryz.f131.results.toList R) e w = ledger_Free_s0 R (e 0) (e 1) (e 2) w := fun e w => by kernel_rfl
def ledger_Free (R : Value → World → Prop) (x0 x1 x2 : Value) (w : World) : Prop := ledger_Free_s0 R x0 x1 x2 w
theorem ledger_Free_call {R : Value → World → Prop} {x0 x1 x2 : Value} {w : World} (h : ledger_Free R x0 x1 x2 w) : callG Tryz.prog 131 #[x0, x1, x2] w R :=
  calls_lift_eq Tryz.mixed Tryz.func131 (args := [x0, x1, x2]) rfl rfl rfl rfl ((ledger_Free_s0_eq R) (envOf [x0, x1, x2]) w) (by kernel_rfl) h
def slices_Clone_api_Stock_api_Stock_s0 (R : Value → World → Prop) (x0 : Value) (w : World) : Prop :=
  qG Tryz.prog (bq .eql 22 (.tmp 3) (.const (.slice none 0 0)) x0 (.slice none 0 0)) w fun t4 =>
  bV t4
  (R (.slice none 0 0) w)
  (bsl 48 4 0 (zc Tryz.prog 48) #[] w fun t5 w =>
  app 48 4 48 (zc Tryz.prog 48) t5 x0 w fun t7 w =>
  R t7 w)
theorem slices_Clone_api_Stock_api_Stock_s0_eq (R : Value → World → Prop) : ∀ e w, lift Tryz.prog 8 (bodyOf Tryz.f45) (finK Tryz.prog Tryz.f45.results.toList R) e w = slices_Clone_api_Stock_api_Stock_s0 R (e 0) w := fun e w => by kernel_rfl
def slices_Clone_api_Stock_api_Stock (R : Value → World → Prop) (x0 : Value) (w : World) : Prop := slices_Clone_api_Stock_api_Stock_s0 R x0 w
theorem slices_Clone_api_Stock_api_Stock_call {R : Value → World → Prop} {x0 : Value} {w : World} (h : slices_Clone_api_Stock_api_Stock R x0 w) : callG Tryz.prog 45 #[x0] w R :=
  calls_lift_eq Tryz.mixed Tryz.func45 (args := [x0]) rfl rfl rfl rfl ((slices_Clone_api_Stock_api_Stock_s0_eq R) (envOf [x0]) w) (by kernel_rfl) h
def slices_Clone_api_Hold_api_Hold_s0 (R : Value → World → Prop) (x0 : Value) (w : World) : Prop :=
  qG Tryz.prog (bq .eql 23 (.tmp 3) (.const (.slice none 0 0)) x0 (.slice none 0 0)) w fun t4 =>
  bV t4
  (R (.slice none 0 0) w)
  (bsl 70 6 0 (zc Tryz.prog 70) #[] w fun t5 w =>
  app 70 6 64 (zc Tryz.prog 70) t5 x0 w fun t7 w =>
  R t7 w)
theorem slices_Clone_api_Hold_api_Hold_s0_eq (R : Value → World → Prop) : ∀ e w, lift Tryz.prog 8 (bodyOf Tryz.f46) (finK Tryz.prog Tryz.f46.results.toList R) e w = slices_Clone_api_Hold_api_Hold_s0 R (e 0) w := fun e w => by kernel_rfl
def slices_Clone_api_Hold_api_Hold (R : Value → World → Prop) (x0 : Value) (w : World) : Prop := slices_Clone_api_Hold_api_Hold_s0 R x0 w
theorem slices_Clone_api_Hold_api_Hold_call {R : Value → World → Prop} {x0 : Value} {w : World} (h : slices_Clone_api_Hold_api_Hold R x0 w) : callG Tryz.prog 46 #[x0] w R :=
  calls_lift_eq Tryz.mixed Tryz.func46 (args := [x0]) rfl rfl rfl rfl ((slices_Clone_api_Hold_api_Hold_s0_eq R) (envOf [x0]) w) (by kernel_rfl) h
def slices_Clone_api_Move_api_Move_s0 (R : Value → World → Prop) (x0 : Value) (w : World) : Prop :=
  qG Tryz.prog (bq .eql 24 (.tmp 3) (.const (.slice none 0 0)) x0 (.slice none 0 0)) w fun t4 =>
  bV t4
  (R (.slice none 0 0) w)
  (bsl 73 6 0 (zc Tryz.prog 73) #[] w fun t5 w =>
  app 73 6 64 (zc Tryz.prog 73) t5 x0 w fun t7 w =>
  R t7 w)
theorem slices_Clone_api_Move_api_Move_s0_eq (R : Value → World → Prop) : ∀ e w, lift Tryz.prog 8 (bodyOf Tryz.f47) (finK Tryz.prog Tryz.f47.results.toList R) e w = slices_Clone_api_Move_api_Move_s0 R (e 0) w := fun e w => by kernel_rfl
def slices_Clone_api_Move_api_Move (R : Value → World → Prop) (x0 : Value) (w : World) : Prop := slices_Clone_api_Move_api_Move_s0 R x0 w
theorem slices_Clone_api_Move_api_Move_call {R : Value → World → Prop} {x0 : Value} {w : World} (h : slices_Clone_api_Move_api_Move R x0 w) : callG Tryz.prog 47 #[x0] w R :=
  calls_lift_eq Tryz.mixed Tryz.func47 (args := [x0]) rfl rfl rfl rfl ((slices_Clone_api_Move_api_Move_s0_eq R) (envOf [x0]) w) (by kernel_rfl) h
def ledger_index_1_s0 (R : Value → World → Prop) (x0 x1 : Value) (w : World) : Prop :=
  newG (Value.cells x0) 48 w fun t2 w =>
  newG (Value.cells x1) 101 w fun t3 w =>
  ldn 4 t2 (World.drew w) fun t5 =>
  ldn 2 t3 (World.drew w) fun t7 =>
  callG Tryz.prog 53 #[t5] (World.drew w) fun t6 w =>
  ldn 2 t3 w (fun u => u = t7) ∧
  callG Tryz.prog 52 #[t6, t7] w fun t8 w =>
  R t8 w
theorem ledger_index_1_s0_eq (R : Value → World → Prop) : ∀ e w, lift Tryz.prog 9 (bodyOf Tryz.f150) (finK Tryz.prog Tryz.f150.results.toList R) e w = ledger_index_1_s0 R (e 0) (e 1) w := fun e w => by kernel_rfl
def ledger_index_1 (R : Value → World → Prop) (x0 x1 : Value) (w : World) : Prop := ledger_index_1_s0 R x0 x1 w
theorem ledger_index_1_call {R : Value → World → Prop} {x0 x1 : Value} {w : World} (h : ledger_index_1 R x0 x1 w) : callG Tryz.prog 150 #[x0, x1] w R :=
  calls_lift_eq Tryz.mixed Tryz.func150 (args := [x0, x1]) rfl rfl rfl rfl ((ledger_index_1_s0_eq R) (envOf [x0, x1]) w) (by kernel_rfl) h
def slices_BinarySearchFunc_api_Stock_api_Stock_ledger_place_s0 (R : Value → World → Prop) (x0 x2 x4 x8 x9 : Value) (w : World) : Prop :=
  qG Tryz.prog (bq .lss 3 (.tmp 36) (.tmp 37) x9 x8) (World.drew w) fun t38 =>
  bV t38
  (ia 4 x0 x9 fun t43 =>
  ldn 4 t43 (World.drew w) fun t44 =>
  ldn 2 x4 (World.drew w) fun t45 =>
  callV Tryz.prog x2 #[t44, t45] (World.drew w) fun t46 w =>
  qG Tryz.prog (bq .eql 3 (.tmp 46) (.const (.int .i64 0)) t46 (.int .i64 0)) w fun t47 =>
  R (.tuple #[x9, t47]) w)
  (R (.tuple #[x9, (.bool false)]) (World.drew w))
theorem slices_BinarySearchFunc_api_Stock_api_Stock_ledger_place_s0_eq (R : Value → World → Prop) : ∀ e w, lift Tryz.prog 49 (sub (bodyOf Tryz.f149) [1, 1, 1, 1]) (finK Tryz.prog Tryz.f149.results.toList R) e w = slices_BinarySearchFunc_api_Stock_api_Stock_ledger_place_s0 R (e 0) (e 2) (e 4) (e 8) (e 9) w := fun e w => by kernel_rfl
def slices_BinarySearchFunc_api_Stock_api_Stock_ledger_place_b1 (R : Value → World → Prop) (N1 : List Value → World → Prop) (x0 x2 x4 x8 x9 x10 : Value) (w : World) : Prop :=
  qG Tryz.prog (bq .lss 3 (.tmp 15) (.tmp 16) x9 x10) w fun t17 =>
  bV t17
  (qG Tryz.prog (bq .add 3 (.tmp 18) (.tmp 19) x9 x10) w fun t20 =>
  cvI .u64 t20 fun t21 =>
  qG Tryz.prog (bq .shr 149 (.tmp 21) (.const (.int .u64 1)) t21 (.int .u64 1)) w fun t22 =>
  cvI .i64 t22 fun t23 =>
  ia 4 x0 t23 fun t27 =>
  ldn 4 t27 (World.drew w) fun t28 =>
  ldn 2 x4 (World.drew w) fun t29 =>
  callV Tryz.prog x2 #[t28, t29] (World.drew w) fun t30 w =>
  qG Tryz.prog (bq .lss 3 (.tmp 30) (.const (.int .i64 0)) t30 (.int .i64 0)) w fun t31 =>
  bV t31
  (qG Tryz.prog (bq .add 3 (.tmp 32) (.const (.int .i64 1)) t23 (.int .i64 1)) w fun t33 =>
  N1 [x0, x2, x4, x8, t33, x10] w)
  (N1 [x0, x2, x4, x8, x9, t23] w))
  (slices_BinarySearchFunc_api_Stock_api_Stock_ledger_place_s0 R x0 x2 x4 x8 x9 w)
theorem slices_BinarySearchFunc_api_Stock_api_Stock_ledger_place_b1_eq (R : Value → World → Prop) (N1 : List Value → World → Prop) : ∀ e w, lift Tryz.prog 49 (sub (bodyOf Tryz.f149) [1, 1, 1, 0, 0, 0]) (seqK (fun e w => N1 [e 0, e 2, e 4, e 8, e 9, e 10] w) (blockK 0 (seqK (fun e w => slices_BinarySearchFunc_api_Stock_api_Stock_ledger_place_s0 R (e 0) (e 2) (e 4) (e 8) (e 9) w) (finK Tryz.prog Tryz.f149.results.toList R)))) e w = slices_BinarySearchFunc_api_Stock_api_Stock_ledger_place_b1 R N1 (e 0) (e 2) (e 4) (e 8) (e 9) (e 10) w := fun e w => by kernel_rfl
def slices_BinarySearchFunc_api_Stock_api_Stock_ledger_place_L2F (R : Value → World → Prop) (N1 : List Value → World → Prop) (xs : List Value) (w : World) : Prop :=
  match xs with
  | [x0, x2, x4, x8, x9, x10] => slices_BinarySearchFunc_api_Stock_api_Stock_ledger_place_b1 R N1 x0 x2 x4 x8 x9 x10 w
  | _ => False
def slices_BinarySearchFunc_api_Stock_api_Stock_ledger_place_L2 (R : Value → World → Prop) (x0 x2 x4 x8 x9 x10 : Value) (w : World) : Prop :=
  ∃ m, loopV (slices_BinarySearchFunc_api_Stock_api_Stock_ledger_place_L2F R) m [x0, x2, x4, x8, x9, x10] w
theorem slices_BinarySearchFunc_api_Stock_api_Stock_ledger_place_L2_eq (R : Value → World → Prop) : ∀ e w, lift Tryz.prog 49 (sub (bodyOf Tryz.f149) [1, 1, 1, 0, 0]) (blockK 0 (seqK (fun e w => slices_BinarySearchFunc_api_Stock_api_Stock_ledger_place_s0 R (e 0) (e 2) (e 4) (e 8) (e 9) w) (finK Tryz.prog Tryz.f149.results.toList R))) e w = slices_BinarySearchFunc_api_Stock_api_Stock_ledger_place_L2 R (e 0) (e 2) (e 4) (e 8) (e 9) (e 10) w := loop_seg (F := slices_BinarySearchFunc_api_Stock_api_Stock_ledger_place_L2F R) (sel := fun e => [e 0, e 2, e 4, e 8, e 9, e 10]) fun N1 => (slices_BinarySearchFunc_api_Stock_api_Stock_ledger_place_b1_eq R N1)
def slices_BinarySearchFunc_api_Stock_api_Stock_ledger_place_s3 (R : Value → World → Prop) (x0 x1 x2 : Value) (w : World) : Prop :=
  newG (Value.cells x1) 101 w fun t4 w =>
  lenL x0 fun t13 =>
  slices_BinarySearchFunc_api_Stock_api_Stock_ledger_place_L2 R x0 x2 t4 t13 (.int .i64 0) t13 w
theorem slices_BinarySearchFunc_api_Stock_api_Stock_ledger_place_s3_eq (R : Value → World → Prop) : ∀ e w, lift Tryz.prog 49 (bodyOf Tryz.f149) (finK Tryz.prog Tryz.f149.results.toList R) e w = slices_BinarySearchFunc_api_Stock_api_Stock_ledger_place_s3 R (e 0) (e 1) (e 2) w :=
  segs_eq (l := [(sub (bodyOf Tryz.f149) [0]), (sub (bodyOf Tryz.f149) [1, 0]), (sub (bodyOf Tryz.f149) [1, 1, 0])]) (y := (sub (bodyOf Tryz.f149) [1, 1, 1])) (Y := (fun e w => slices_BinarySearchFunc_api_Stock_api_Stock_ledger_place_L2 R (e 0) (e 2) (e 4) (e 8) (e 9) (e 10) w)) (seq_seg (x := (sub (bodyOf Tryz.f149) [1, 1, 1, 0])) (y := (sub (bodyOf Tryz.f149) [1, 1, 1, 1])) (slices_BinarySearchFunc_api_Stock_api_Stock_ledger_place_s0_eq R) (slices_BinarySearchFunc_api_Stock_api_Stock_ledger_place_L2_eq R)) (fun e w => by kernel_rfl)
def slices_BinarySearchFunc_api_Stock_api_Stock_ledger_place (R : Value → World → Prop) (x0 x1 x2 : Value) (w : World) : Prop := slices_BinarySearchFunc_api_Stock_api_Stock_ledger_place_s3 R x0 x1 x2 w
theorem slices_BinarySearchFunc_api_Stock_api_Stock_ledger_place_call {R : Value → World → Prop} {x0 x1 x2 : Value} {w : World} (h : slices_BinarySearchFunc_api_Stock_api_Stock_ledger_place R x0 x1 x2 w) : callG Tryz.prog 149 #[x0, x1, x2] w R :=
  calls_lift_eq Tryz.mixed Tryz.func149 (args := [x0, x1, x2]) rfl rfl rfl rfl ((slices_BinarySearchFunc_api_Stock_api_Stock_ledger_place_s3_eq R) (envOf [x0, x1, x2]) w) (by kernel_rfl) h
def ledger_index_s0 (R : Value → World → Prop) (x0 x1 : Value) (w : World) : Prop :=
  newG (Value.cells x1) 101 w fun t3 w =>
  ldn 2 t3 w fun t7 =>
  callG Tryz.prog 149 #[x0, t7, (.func (.func 150) #[] #[])] w fun t8 w =>
  qG Tryz.prog (Instr.extract t8 0) w fun t9 =>
  qG Tryz.prog (Instr.extract t8 1) w fun t10 =>
  R (.tuple #[t9, t10]) w
theorem ledger_index_s0_eq (R : Value → World → Prop) : ∀ e w, lift Tryz.prog 11 (bodyOf Tryz.f146) (finK Tryz.prog Tryz.f146.results.toList R) e w = ledger_index_s0 R (e 0) (e 1) w := fun e w => by kernel_rfl
def ledger_index (R : Value → World → Prop) (x0 x1 : Value) (w : World) : Prop := ledger_index_s0 R x0 x1 w
theorem ledger_index_call {R : Value → World → Prop} {x0 x1 : Value} {w : World} (h : ledger_index R x0 x1 w) : callG Tryz.prog 146 #[x0, x1] w R :=
  calls_lift_eq Tryz.mixed Tryz.func146 (args := [x0, x1]) rfl rfl rfl rfl ((ledger_index_s0_eq R) (envOf [x0, x1]) w) (by kernel_rfl) h
def slices_Insert_api_Stock_api_Stock_s0 (R : Value → World → Prop) (x0 x1 x2 : Value) (w : World) : Prop :=
  slL 4 x0 (some x1) none fun t12 =>
  lenL x2 fun t14 =>
  qG Tryz.prog (bq .eql 3 (.tmp 15) (.const (.int .i64 0)) t14 (.int .i64 0)) w fun t16 =>
  bV t16
  (R x0 w)
  (lenL x0 fun t19 =>
  qG Tryz.prog (bq .eql 3 (.tmp 20) (.tmp 21) x1 t19) w fun t22 =>
  bV t22
  (app 48 4 48 (zc Tryz.prog 48) x0 x2 w fun t25 w =>
  R t25 w)
  (qG Tryz.prog (bq .add 3 (.tmp 26) (.tmp 27) t19 t14) w fun t28 =>
  qG Tryz.prog (Builtin.cap_ #[22] 3 #[x0]) w fun t30 =>
  qG Tryz.prog (bq .gtr 3 (.tmp 28) (.tmp 30) t28 t30) w fun t31 =>
  bV t31
  (slL 4 x0 none (some x1) fun t34 =>
  qG Tryz.prog (bq .add 3 (.tmp 35) (.tmp 36) t19 t14) w fun t37 =>
  qG Tryz.prog (bq .sub 3 (.tmp 37) (.tmp 38) t37 x1) w fun t39 =>
  eG Tryz.prog (Builtin.append_ #[22, 3] 22 #[t34, t39]) w fun t40 w =>
  slL 4 t40 (some x1) none fun t43 =>
  cp 4 t43 x2 w fun t45 w =>
  qG Tryz.prog (bq .add 3 (.tmp 47) (.tmp 48) x1 t14) (World.drew w) fun t49 =>
  slL 4 t40 (some t49) none fun t50 =>
  slL 4 x0 (some x1) none fun t53 =>
  cp 4 t50 t53 (World.drew w) fun t54 w =>
  R t40 w)
  (qG Tryz.prog (bq .add 3 (.tmp 57) (.tmp 58) t19 t14) w fun t59 =>
  slL 4 x0 none (some t59) fun t60 =>
  qG Tryz.prog (bq .add 3 (.tmp 63) (.tmp 64) x1 t14) w fun t65 =>
  slL 4 t60 (some t65) none fun t66 =>
  nG Tryz.prog (callFunc 151 #[x2, t66]) w fun t67 w =>
  qG Tryz.prog (Op.unary .not t67) w fun t68 =>
  bV t68
  (qG Tryz.prog (bq .add 3 (.tmp 70) (.tmp 71) x1 t14) (World.drew w) fun t72 =>
  slL 4 t60 (some t72) none fun t73 =>
  slL 4 t60 (some x1) none fun t76 =>
  cp 4 t73 t76 (World.drew w) fun t77 w =>
  slL 4 t60 (some x1) none fun t80 =>
  cp 4 t80 x2 w fun t82 w =>
  R t60 w)
  (slL 4 t60 (some t19) none fun t86 =>
  cp 4 t86 x2 w fun t88 w =>
  slL 4 t60 (some x1) none fun t91 =>
  callG Tryz.prog 152 #[t91, t14] w fun t93 w =>
  R t60 w))))
theorem slices_Insert_api_Stock_api_Stock_s0_eq (R : Value → World → Prop) : ∀ e w, lift Tryz.prog 95 (bodyOf Tryz.f147) (finK Tryz.prog Tryz.f147.results.toList R) e w = slices_Insert_api_Stock_api_Stock_s0 R (e 0) (e 1) (e 2) w := fun e w => by kernel_rfl
def slices_Insert_api_Stock_api_Stock (R : Value → World → Prop) (x0 x1 x2 : Value) (w : World) : Prop := slices_Insert_api_Stock_api_Stock_s0 R x0 x1 x2 w
theorem slices_Insert_api_Stock_api_Stock_call {R : Value → World → Prop} {x0 x1 x2 : Value} {w : World} (h : slices_Insert_api_Stock_api_Stock R x0 x1 x2 w) : callG Tryz.prog 147 #[x0, x1, x2] w R :=
  calls_lift_eq Tryz.mixed Tryz.func147 (args := [x0, x1, x2]) rfl rfl rfl rfl ((slices_Insert_api_Stock_api_Stock_s0_eq R) (envOf [x0, x1, x2]) w) (by kernel_rfl) h
end Go.Proofs

set_option linter.unusedVariables false
set_option linter.unusedSimpArgs false
namespace Go.Proofs
open Go Go.Q
set_option maxRecDepth 100000
def ledger_work_turned_s0 (R : Value → World → Prop) (x0 x2 x3 x8 : Value) (w : World) : Prop :=
  nk x0 fun t40 =>
  fa 0 t40 fun t41 =>
  fa 0 t41 fun t42 =>
  ld1 t42 w fun t43 =>
  ia 4 t43 x8 fun t45 =>
  fa 2 t45 fun t46 =>
  ld1 t46 w fun t47 =>
  qG Tryz.prog (bq .add 3 (.tmp 47) (.tmp 48) t47 x2) w fun t49 =>
  ia 4 t43 x8 fun t50 =>
  fa 2 t50 fun t51 =>
  st1 t51 t49 w fun w =>
  nk x0 fun t53 =>
  fa 0 t53 fun t54 =>
  fa 0 t54 fun t55 =>
  ld1 t55 w fun t56 =>
  ia 4 t56 x8 fun t58 =>
  fa 3 t58 fun t59 =>
  ld1 t59 w fun t60 =>
  qG Tryz.prog (bq .add 3 (.tmp 60) (.tmp 61) t60 x3) w fun t62 =>
  ia 4 t56 x8 fun t63 =>
  fa 3 t63 fun t64 =>
  st1 t64 t62 w fun w =>
  R (.tuple #[]) w
theorem ledger_work_turned_s0_eq (R : Value → World → Prop) : ∀ e w, lift Tryz.prog 65 (sub (bodyOf Tryz.f135) [1, 1, 1]) (finK Tryz.prog Tryz.f135.results.toList R) e w = ledger_work_turned_s0 R (e 0) (e 2) (e 3) (e 8) w := fun e w => by kernel_rfl
def ledger_work_turned_s1 (R : Value → World → Prop) (x0 x1 x2 x3 : Value) (w : World) : Prop :=
  newG (Value.cells x1) 101 w fun t5 w =>
  nk x0 fun t12 =>
  fa 0 t12 fun t13 =>
  fa 0 t13 fun t14 =>
  ld1 t14 (World.drew w) fun t15 =>
  ldn 2 t5 (World.drew w) fun t16 =>
  callG Tryz.prog 146 #[t15, t16] (World.drew w) fun t17 w =>
  qG Tryz.prog (Instr.extract t17 0) w fun t18 =>
  qG Tryz.prog (Instr.extract t17 1) w fun t19 =>
  qG Tryz.prog (Op.unary .not t19) w fun t21 =>
  bV t21
  (nk x0 fun t24 =>
  fa 0 t24 fun t25 =>
  fa 0 t25 fun t26 =>
  ld1 t26 (World.drew w) fun t27 =>
  fa 0 t5 fun t29 =>
  ld1 t29 (World.drew w) fun t30 =>
  fa 1 t5 fun t31 =>
  ld1 t31 (World.drew w) fun t32 =>
  bld [(0, 1), (1, 1), (2, 1), (3, 1)] (zc Tryz.prog 48) #[(0, t30), (1, t32)] fun t33 =>
  bsl 48 4 1 (zc Tryz.prog 48) #[(0, t33)] (World.drew w) fun t34 w =>
  ld1 t26 w (fun u => u = t27) ∧
  callG Tryz.prog 147 #[t27, t18, t34] w fun t35 w =>
  nk x0 fun t36 =>
  fa 0 t36 fun t37 =>
  fa 0 t37 fun t38 =>
  st1 t38 t35 w fun w =>
  ledger_work_turned_s0 R x0 x2 x3 t18 w)
  (ledger_work_turned_s0 R x0 x2 x3 t18 w)
theorem ledger_work_turned_s1_eq (R : Value → World → Prop) : ∀ e w, lift Tryz.prog 65 (bodyOf Tryz.f135) (finK Tryz.prog Tryz.f135.results.toList R) e w = ledger_work_turned_s1 R (e 0) (e 1) (e 2) (e 3) w :=
  segs_eq (l := [(sub (bodyOf Tryz.f135) [0]), (sub (bodyOf Tryz.f135) [1, 0]), (sub (bodyOf Tryz.f135) [1, 1, 0])]) (y := (sub (bodyOf Tryz.f135) [1, 1, 1])) (Y := (fun e w => ledger_work_turned_s0 R (e 0) (e 2) (e 3) (e 8) w)) (ledger_work_turned_s0_eq R) (fun e w => by kernel_rfl)
def ledger_work_turned (R : Value → World → Prop) (x0 x1 x2 x3 : Value) (w : World) : Prop := ledger_work_turned_s1 R x0 x1 x2 x3 w
theorem ledger_work_turned_call {R : Value → World → Prop} {x0 x1 x2 x3 : Value} {w : World} (h : ledger_work_turned R x0 x1 x2 x3 w) : callG Tryz.prog 135 #[x0, x1, x2, x3] w R :=
  calls_lift_eq Tryz.mixed Tryz.func135 (args := [x0, x1, x2, x3]) rfl rfl rfl rfl ((ledger_work_turned_s1_eq R) (envOf [x0, x1, x2, x3]) w) (by kernel_rfl) h
def ledger_work_moved_s0 (R : Value → World → Prop) (x0 x1 x2 x3 x4 : Value) (w : World) : Prop :=
  newG (Value.cells x1) 101 w fun t6 w =>
  newG (Value.cells x4) 73 w fun t9 w =>
  ldn 2 t6 w fun t11 =>
  callG Tryz.prog 135 #[x0, t11, x2, x3] w fun t14 w =>
  nk x0 fun t16 =>
  fa 0 t16 fun t17 =>
  fa 2 t17 fun t18 =>
  ld1 t18 (World.drew w) fun t19 =>
  lenL t19 fun t20 =>
  qG Tryz.prog (bq .add 3 (.tmp 20) (.const (.int .i64 1)) t20 (.int .i64 1)) (World.drew w) fun t21 =>
  fa 0 t6 fun t22 =>
  ld1 t22 (World.drew w) fun t23 =>
  fa 1 t6 fun t24 =>
  ld1 t24 (World.drew w) fun t25 =>
  fa 0 t9 fun t27 =>
  st1 t27 t21 (World.drew w) fun w =>
  ld1 t24 w (fun u => u = t25) ∧
  ld1 t22 w (fun u => u = t23) ∧
  fa 1 t9 fun t28 =>
  st1 t28 t23 w fun w =>
  ld1 t24 w (fun u => u = t25) ∧
  fa 2 t9 fun t29 =>
  st1 t29 t25 w fun w =>
  fa 3 t9 fun t30 =>
  st1 t30 x2 w fun w =>
  nk x0 fun t33 =>
  fa 0 t33 fun t34 =>
  fa 2 t34 fun t35 =>
  ld1 t35 (World.drew w) fun t36 =>
  ldn 6 t9 (World.drew w) fun t37 =>
  bsl 73 6 1 (zc Tryz.prog 73) #[(0, t37)] (World.drew w) fun t38 w =>
  ld1 t35 w (fun u => u = t36) ∧
  app 73 6 64 (zc Tryz.prog 73) t36 t38 w fun t39 w =>
  nk x0 fun t40 =>
  fa 0 t40 fun t41 =>
  fa 2 t41 fun t42 =>
  st1 t42 t39 w fun w =>
  R (.tuple #[]) w
theorem ledger_work_moved_s0_eq (R : Value → World → Prop) : ∀ e w, lift Tryz.prog 43 (bodyOf Tryz.f134) (finK Tryz.prog Tryz.f134.results.toList R) e w = ledger_work_moved_s0 R (e 0) (e 1) (e 2) (e 3) (e 4) w := fun e w => by kernel_rfl
def ledger_work_moved (R : Value → World → Prop) (x0 x1 x2 x3 x4 : Value) (w : World) : Prop := ledger_work_moved_s0 R x0 x1 x2 x3 x4 w
theorem ledger_work_moved_call {R : Value → World → Prop} {x0 x1 x2 x3 x4 : Value} {w : World} (h : ledger_work_moved R x0 x1 x2 x3 x4 w) : callG Tryz.prog 134 #[x0, x1, x2, x3, x4] w R :=
  calls_lift_eq Tryz.mixed Tryz.func134 (args := [x0, x1, x2, x3, x4]) rfl rfl rfl rfl ((ledger_work_moved_s0_eq R) (envOf [x0, x1, x2, x3, x4]) w) (by kernel_rfl) h
def ledger_work_more_s0 (R : Value → World → Prop) (x0 x1 x2 : Value) (w : World) : Prop :=
  newG (Value.cells x1) 101 w fun t4 w =>
  nk x0 fun t9 =>
  fa 0 t9 fun t10 =>
  ldn 4 t10 (World.drew w) fun t11 =>
  fa 0 t4 fun t12 =>
  ld1 t12 (World.drew w) fun t13 =>
  fa 1 t4 fun t14 =>
  ld1 t14 (World.drew w) fun t15 =>
  callG Tryz.prog 133 #[t11, t13, t15] (World.drew w) fun t16 w =>
  fld false 2 1 t16 fun t17 =>
  callG Tryz.prog 143 #[t17, x2] w fun t19 w =>
  qG Tryz.prog (Instr.extract t19 0) w fun t20 =>
  qG Tryz.prog (Instr.extract t19 1) w fun t21 =>
  R (.tuple #[t20, t21]) w
theorem ledger_work_more_s0_eq (R : Value → World → Prop) : ∀ e w, lift Tryz.prog 22 (bodyOf Tryz.f132) (finK Tryz.prog Tryz.f132.results.toList R) e w = ledger_work_more_s0 R (e 0) (e 1) (e 2) w := fun e w => by kernel_rfl
def ledger_work_more (R : Value → World → Prop) (x0 x1 x2 : Value) (w : World) : Prop := ledger_work_more_s0 R x0 x1 x2 w
theorem ledger_work_more_call {R : Value → World → Prop} {x0 x1 x2 : Value} {w : World} (h : ledger_work_more R x0 x1 x2 w) : callG Tryz.prog 132 #[x0, x1, x2] w R :=
  calls_lift_eq Tryz.mixed Tryz.func132 (args := [x0, x1, x2]) rfl rfl rfl rfl ((ledger_work_more_s0_eq R) (envOf [x0, x1, x2]) w) (by kernel_rfl) h
def ledger_work_over_s0 (R : Value → World → Prop) (x0 x3 : Value) (w : World) : Prop :=
  nk x0 fun t31 =>
  fa 0 t31 fun t32 =>
  fa 1 t32 fun t33 =>
  ld1 t33 (World.drew w) fun t34 =>
  fa 5 x3 fun t35 =>
  ld1 t35 (World.drew w) fun t36 =>
  qG Tryz.prog (bq .sub 3 (.tmp 36) (.const (.int .i64 1)) t36 (.int .i64 1)) (World.drew w) fun t37 =>
  ia 6 t34 t37 fun t38 =>
  nk t38 fun t40 =>
  fa 1 t40 fun t41 =>
  ld1 t41 (World.drew (World.drew w)) fun t42 =>
  nk t38 fun t44 =>
  fa 2 t44 fun t45 =>
  ld1 t45 (World.drew (World.drew w)) fun t46 =>
  bld [(0, 1), (1, 1)] (zc Tryz.prog 101) #[(0, t42), (1, t46)] fun t47 =>
  newG (zc Tryz.prog 101) 101 (World.drew (World.drew w)) fun t6 w =>
  ld1 t45 w (fun u => u = t46) ∧
  ld1 t41 w (fun u => u = t42) ∧
  stn 2 t6 t47 w fun w =>
  fa 0 x3 fun t48 =>
  ld1 t48 w fun t49 =>
  qG Tryz.prog (bq .eql 3 (.tmp 49) (.const (.int .i64 4)) t49 (.int .i64 4)) w fun t50 =>
  bV t50
  (nk t38 fun t52 =>
  fa 4 t52 fun t53 =>
  st1 t53 (.int .i64 2) w fun w =>
  ldn 2 t6 (World.drew w) fun t55 =>
  nk t38 fun t57 =>
  fa 3 t57 fun t58 =>
  ld1 t58 (World.drew w) fun t59 =>
  qG Tryz.prog (Op.unary .neg t59) (World.drew w) fun t60 =>
  callG Tryz.prog 135 #[x0, t55, (.int .i64 0), t60] (World.drew w) fun t61 w =>
  R (.int .i64 0) w)
  (nk t38 fun t63 =>
  fa 4 t63 fun t64 =>
  st1 t64 (.int .i64 1) w fun w =>
  ldn 2 t6 (World.drew w) fun t66 =>
  nk t38 fun t68 =>
  fa 3 t68 fun t69 =>
  ld1 t69 (World.drew w) fun t70 =>
  qG Tryz.prog (Op.unary .neg t70) (World.drew w) fun t71 =>
  nk t38 fun t73 =>
  fa 3 t73 fun t74 =>
  ld1 t74 (World.drew w) fun t75 =>
  qG Tryz.prog (Op.unary .neg t75) (World.drew w) fun t76 =>
  fa 0 x3 fun t77 =>
  ld1 t77 (World.drew w) fun t78 =>
  nk t38 fun t80 =>
  fa 0 t80 fun t81 =>
  ld1 t81 (World.drew w) fun t82 =>
  bld [(0, 1), (1, 1), (2, 1), (3, 1), (4, 1), (5, 1)] (zc Tryz.prog 73) #[(4, t78), (5, t82)] fun t83 =>
  callG Tryz.prog 134 #[x0, t66, t71, t76, t83] (World.drew w) fun t84 w =>
  R (.int .i64 0) w)
theorem ledger_work_over_s0_eq (R : Value → World → Prop) : ∀ e w, lift Tryz.prog 85 (sub (bodyOf Tryz.f136) [1, 1]) (finK Tryz.prog Tryz.f136.results.toList R) e w = ledger_work_over_s0 R (e 0) (e 3) w := fun e w => by kernel_rfl
def ledger_work_over_s1 (R : Value → World → Prop) (x0 x1 : Value) (w : World) : Prop :=
  newG (Value.cells x1) 42 w fun t3 w =>
  fa 5 t3 fun t7 =>
  ld1 t7 (World.drew w) fun t8 =>
  nk x0 fun t10 =>
  fa 0 t10 fun t11 =>
  fa 1 t11 fun t12 =>
  ld1 t12 (World.drew w) fun t13 =>
  lenL t13 fun t14 =>
  qG Tryz.prog (bq .gtr 3 (.tmp 8) (.tmp 14) t8 t14) (World.drew w) fun t15 =>
  bV t15
  (R (.int .i64 71) (World.drew w))
  (nk x0 fun t18 =>
  fa 0 t18 fun t19 =>
  fa 1 t19 fun t20 =>
  ld1 t20 (World.drew w) fun t21 =>
  fa 5 t3 fun t22 =>
  ld1 t22 (World.drew w) fun t23 =>
  qG Tryz.prog (bq .sub 3 (.tmp 23) (.const (.int .i64 1)) t23 (.int .i64 1)) (World.drew w) fun t24 =>
  ia 6 t21 t24 fun t25 =>
  fa 4 t25 fun t26 =>
  ld1 t26 (World.drew w) fun t27 =>
  qG Tryz.prog (bq .neq 3 (.tmp 27) (.const (.int .i64 0)) t27 (.int .i64 0)) (World.drew w) fun t28 =>
  bV t28
  (R (.int .i64 71) (World.drew w))
  (ledger_work_over_s0 R x0 t3 (World.drew w)))
theorem ledger_work_over_s1_eq (R : Value → World → Prop) : ∀ e w, lift Tryz.prog 85 (bodyOf Tryz.f136) (finK Tryz.prog Tryz.f136.results.toList R) e w = ledger_work_over_s1 R (e 0) (e 1) w :=
  segs_eq (l := [(sub (bodyOf Tryz.f136) [0]), (sub (bodyOf Tryz.f136) [1, 0])]) (y := (sub (bodyOf Tryz.f136) [1, 1])) (Y := (fun e w => ledger_work_over_s0 R (e 0) (e 3) w)) (ledger_work_over_s0_eq R) (fun e w => by kernel_rfl)
def ledger_work_over (R : Value → World → Prop) (x0 x1 : Value) (w : World) : Prop := ledger_work_over_s1 R x0 x1 w
theorem ledger_work_over_call {R : Value → World → Prop} {x0 x1 : Value} {w : World} (h : ledger_work_over R x0 x1 w) : callG Tryz.prog 136 #[x0, x1] w R :=
  calls_lift_eq Tryz.mixed Tryz.func136 (args := [x0, x1]) rfl rfl rfl rfl ((ledger_work_over_s1_eq R) (envOf [x0, x1]) w) (by kernel_rfl) h
def ledger_work_does_s0 (R : Value → World → Prop) (w : World) : Prop :=
  R (.int .i64 0) w
theorem ledger_work_does_s0_eq (R : Value → World → Prop) : ∀ e w, lift Tryz.prog 186 (sub (bodyOf Tryz.f118) [1, 1, 1, 1]) (finK Tryz.prog Tryz.f118.results.toList R) e w = ledger_work_does_s0 R w := fun e w => by kernel_rfl
def ledger_work_does_s1 (R : Value → World → Prop) (x0 x3 x5 : Value) (w : World) : Prop :=
  ldn 2 x5 w fun t75 =>
  fa 4 x3 fun t76 =>
  ld1 t76 w fun t77 =>
  fa 0 x3 fun t78 =>
  ld1 t78 w fun t79 =>
  bld [(0, 1), (1, 1), (2, 1), (3, 1), (4, 1), (5, 1)] (zc Tryz.prog 73) #[(4, t79)] fun t80 =>
  callG Tryz.prog 134 #[x0, t75, t77, (.int .i64 0), t80] w fun t81 w =>
  ledger_work_does_s0 R  w
theorem ledger_work_does_s1_eq (R : Value → World → Prop) : ∀ e w, lift Tryz.prog 186 (sub (bodyOf Tryz.f118) [1, 1, 1, 0, 1, 0, 1, 0]) (blockK 1 (seqK (fun e w => ledger_work_does_s0 R  w) (finK Tryz.prog Tryz.f118.results.toList R))) e w = ledger_work_does_s1 R (e 0) (e 3) (e 5) w := fun e w => by kernel_rfl
def ledger_work_does_s2 (R : Value → World → Prop) (x0 x3 x5 : Value) (w : World) : Prop :=
  ldn 2 x5 w fun t85 =>
  fa 4 x3 fun t86 =>
  ld1 t86 w fun t87 =>
  callG Tryz.prog 135 #[x0, t85, (.int .i64 0), t87] w fun t88 w =>
  nk x0 fun t91 =>
  fa 0 t91 fun t92 =>
  fa 1 t92 fun t93 =>
  ld1 t93 (World.drew w) fun t94 =>
  nk x0 fun t96 =>
  fa 0 t96 fun t97 =>
  fa 1 t97 fun t98 =>
  ld1 t98 (World.drew w) fun t99 =>
  lenL t99 fun t100 =>
  qG Tryz.prog (bq .add 3 (.tmp 100) (.const (.int .i64 1)) t100 (.int .i64 1)) (World.drew w) fun t101 =>
  fa 1 x3 fun t102 =>
  ld1 t102 (World.drew w) fun t103 =>
  fa 2 x3 fun t104 =>
  ld1 t104 (World.drew w) fun t105 =>
  fa 4 x3 fun t106 =>
  ld1 t106 (World.drew w) fun t107 =>
  fa 6 x3 fun t108 =>
  ld1 t108 (World.drew w) fun t109 =>
  bld [(0, 1), (1, 1), (2, 1), (3, 1), (4, 1), (5, 1)] (zc Tryz.prog 70) #[(0, t101), (1, t103), (2, t105), (3, t107), (5, t109)] fun t110 =>
  bsl 70 6 1 (zc Tryz.prog 70) #[(0, t110)] (World.drew w) fun t111 w =>
  ld1 t93 w (fun u => u = t94) ∧
  app 70 6 64 (zc Tryz.prog 70) t94 t111 w fun t112 w =>
  nk x0 fun t113 =>
  fa 0 t113 fun t114 =>
  fa 1 t114 fun t115 =>
  st1 t115 t112 w fun w =>
  ledger_work_does_s0 R  w
theorem ledger_work_does_s2_eq (R : Value → World → Prop) : ∀ e w, lift Tryz.prog 186 (sub (bodyOf Tryz.f118) [1, 1, 1, 0, 1, 0, 1, 1, 1, 0]) (blockK 1 (seqK (fun e w => ledger_work_does_s0 R  w) (finK Tryz.prog Tryz.f118.results.toList R))) e w = ledger_work_does_s2 R (e 0) (e 3) (e 5) w := fun e w => by kernel_rfl
def ledger_work_does_s3 (R : Value → World → Prop) (x0 x3 x5 x6 : Value) (w : World) : Prop :=
  ldn 2 x6 w fun t120 =>
  fa 4 x3 fun t121 =>
  ld1 t121 w fun t122 =>
  callG Tryz.prog 132 #[x0, t120, t122] w fun t123 w =>
  qG Tryz.prog (Instr.extract t123 0) w fun t124 =>
  qG Tryz.prog (Instr.extract t123 1) w fun t125 =>
  qG Tryz.prog (bq .neq 30 (.tmp 126) (.const (.int .i64 0)) t125 (.int .i64 0)) w fun t127 =>
  bV t127
  (R t125 w)
  (ldn 2 x5 w fun t130 =>
  fa 4 x3 fun t131 =>
  ld1 t131 w fun t132 =>
  qG Tryz.prog (Op.unary .neg t132) w fun t133 =>
  fa 0 x3 fun t134 =>
  ld1 t134 w fun t135 =>
  bld [(0, 1), (1, 1), (2, 1), (3, 1), (4, 1), (5, 1)] (zc Tryz.prog 73) #[(4, t135)] fun t136 =>
  callG Tryz.prog 134 #[x0, t130, t133, (.int .i64 0), t136] w fun t137 w =>
  ldn 2 x6 w fun t139 =>
  fa 4 x3 fun t140 =>
  ld1 t140 w fun t141 =>
  fa 0 x3 fun t142 =>
  ld1 t142 w fun t143 =>
  bld [(0, 1), (1, 1), (2, 1), (3, 1), (4, 1), (5, 1)] (zc Tryz.prog 73) #[(4, t143)] fun t144 =>
  callG Tryz.prog 134 #[x0, t139, t141, (.int .i64 0), t144] w fun t145 w =>
  ledger_work_does_s0 R  w)
theorem ledger_work_does_s3_eq (R : Value → World → Prop) : ∀ e w, lift Tryz.prog 186 (sub (bodyOf Tryz.f118) [1, 1, 1, 0, 1, 0, 1, 1, 1, 1, 1, 0]) (blockK 1 (seqK (fun e w => ledger_work_does_s0 R  w) (finK Tryz.prog Tryz.f118.results.toList R))) e w = ledger_work_does_s3 R (e 0) (e 3) (e 5) (e 6) w := fun e w => by kernel_rfl
def ledger_work_does_b4 (R : Value → World → Prop) (N1 : List Value → World → Prop) (x0 x3 x153 x154 : Value) (w : World) : Prop :=
  qG Tryz.prog (bq .lss 3 (.tmp 154) (.tmp 153) x154 x153) w fun t155 =>
  bV t155
  (nk x0 fun t158 =>
  fa 0 t158 fun t159 =>
  fa 1 t159 fun t160 =>
  ld1 t160 w fun t161 =>
  ia 6 t161 x154 fun t163 =>
  ldn 6 t163 w fun t164 =>
  newG (zc Tryz.prog 70) 70 w fun t12 w =>
  stn 6 t12 t164 w fun w =>
  fa 4 t12 fun t165 =>
  ld1 t165 w fun t166 =>
  qG Tryz.prog (bq .eql 3 (.tmp 166) (.const (.int .i64 0)) t166 (.int .i64 0)) w fun t167 =>
  bV t167
  (fa 5 t12 fun t169 =>
  ld1 t169 w fun t170 =>
  qG Tryz.prog (bq .gtr 3 (.tmp 170) (.const (.int .i64 0)) t170 (.int .i64 0)) w fun t171 =>
  bV t171
  (fa 5 t12 fun t174 =>
  ld1 t174 w fun t175 =>
  fa 6 x3 fun t176 =>
  ld1 t176 w fun t177 =>
  qG Tryz.prog (bq .leq 3 (.tmp 175) (.tmp 177) t175 t177) w fun t178 =>
  bV t178
  (fa 0 t12 fun t181 =>
  ld1 t181 w fun t182 =>
  bld [(0, 1), (1, 1), (2, 1), (3, 1), (4, 1), (5, 1), (6, 1)] (zc Tryz.prog 42) #[(0, (.int .i64 4)), (5, t182)] fun t183 =>
  callG Tryz.prog 136 #[x0, t183] w fun t184 w =>
  qG Tryz.prog (bq .add 3 (.tmp 154) (.const (.int .i64 1)) x154 (.int .i64 1)) w fun t185 =>
  N1 [x0, x3, x153, t185] w)
  (qG Tryz.prog (bq .add 3 (.tmp 154) (.const (.int .i64 1)) x154 (.int .i64 1)) w fun t185_1 =>
  N1 [x0, x3, x153, t185_1] w))
  (qG Tryz.prog (bq .add 3 (.tmp 154) (.const (.int .i64 1)) x154 (.int .i64 1)) w fun t185_2 =>
  N1 [x0, x3, x153, t185_2] w))
  (qG Tryz.prog (bq .add 3 (.tmp 154) (.const (.int .i64 1)) x154 (.int .i64 1)) w fun t185_3 =>
  N1 [x0, x3, x153, t185_3] w))
  (ledger_work_does_s0 R  w)
theorem ledger_work_does_b4_eq (R : Value → World → Prop) (N1 : List Value → World → Prop) : ∀ e w, lift Tryz.prog 186 (sub (bodyOf Tryz.f118) [1, 1, 1, 0, 1, 0, 1, 1, 1, 1, 1, 1, 1, 0, 1, 0, 0]) (seqK (fun e w => N1 [e 0, e 3, e 153, e 154] w) (blockK 2 (blockK 1 (seqK (fun e w => ledger_work_does_s0 R  w) (finK Tryz.prog Tryz.f118.results.toList R))))) e w = ledger_work_does_b4 R N1 (e 0) (e 3) (e 153) (e 154) w := fun e w => by kernel_rfl
def ledger_work_does_L5F (R : Value → World → Prop) (N1 : List Value → World → Prop) (xs : List Value) (w : World) : Prop :=
  match xs with
  | [x0, x3, x153, x154] => ledger_work_does_b4 R N1 x0 x3 x153 x154 w
  | _ => False
def ledger_work_does_L5 (R : Value → World → Prop) (x0 x3 x153 x154 : Value) (w : World) : Prop :=
  ∃ m, loopV (ledger_work_does_L5F R) m [x0, x3, x153, x154] w
theorem ledger_work_does_L5_eq (R : Value → World → Prop) : ∀ e w, lift Tryz.prog 186 (sub (bodyOf Tryz.f118) [1, 1, 1, 0, 1, 0, 1, 1, 1, 1, 1, 1, 1, 0, 1, 0]) (blockK 2 (blockK 1 (seqK (fun e w => ledger_work_does_s0 R  w) (finK Tryz.prog Tryz.f118.results.toList R)))) e w = ledger_work_does_L5 R (e 0) (e 3) (e 153) (e 154) w := loop_seg (F := ledger_work_does_L5F R) (sel := fun e => [e 0, e 3, e 153, e 154]) fun N1 => (ledger_work_does_b4_eq R N1)
def ledger_work_does_s6 (R : Value → World → Prop) (x0 x3 : Value) (w : World) : Prop :=
  nk x0 fun t149 =>
  fa 0 t149 fun t150 =>
  fa 1 t150 fun t151 =>
  ld1 t151 w fun t152 =>
  lenL t152 fun t153 =>
  ledger_work_does_L5 R x0 x3 t153 (.int .i64 0) w
theorem ledger_work_does_s6_eq (R : Value → World → Prop) : ∀ e w, lift Tryz.prog 186 (sub (bodyOf Tryz.f118) [1, 1, 1, 0, 1, 0, 1, 1, 1, 1, 1, 1, 1, 0]) (blockK 1 (seqK (fun e w => ledger_work_does_s0 R  w) (finK Tryz.prog Tryz.f118.results.toList R))) e w = ledger_work_does_s6 R (e 0) (e 3) w :=
  segs_eq (l := [(sub (bodyOf Tryz.f118) [1, 1, 1, 0, 1, 0, 1, 1, 1, 1, 1, 1, 1, 0, 0])]) (y := (sub (bodyOf Tryz.f118) [1, 1, 1, 0, 1, 0, 1, 1, 1, 1, 1, 1, 1, 0, 1])) (Y := (fun e w => ledger_work_does_L5 R (e 0) (e 3) (e 153) (e 154) w)) (ledger_work_does_L5_eq R) (fun e w => by kernel_rfl)
def ledger_work_does_s7 (R : Value → World → Prop) (x0 x3 : Value) (w : World) : Prop :=
  ldn 7 x3 w fun t69 =>
  callG Tryz.prog 136 #[x0, t69] w fun t70 w =>
  R t70 w
theorem ledger_work_does_s7_eq (R : Value → World → Prop) : ∀ e w, lift Tryz.prog 186 (sub (bodyOf Tryz.f118) [1, 1, 1, 0, 1, 0, 1, 1, 1, 1, 1, 1, 1, 1]) (blockK 1 (seqK (fun e w => ledger_work_does_s0 R  w) (finK Tryz.prog Tryz.f118.results.toList R))) e w = ledger_work_does_s7 R (e 0) (e 3) w := fun e w => by kernel_rfl
def ledger_work_does_s8 (R : Value → World → Prop) (x0 x3 x146 : Value) (w : World) : Prop :=
  bV x146 (ledger_work_does_s6 R x0 x3 w) (ledger_work_does_s7 R x0 x3 w)
theorem ledger_work_does_s8_eq (R : Value → World → Prop) : ∀ e w, lift Tryz.prog 186 (sub (bodyOf Tryz.f118) [1, 1, 1, 0, 1, 0, 1, 1, 1, 1, 1, 1, 1]) (blockK 1 (seqK (fun e w => ledger_work_does_s0 R  w) (finK Tryz.prog Tryz.f118.results.toList R))) e w = ledger_work_does_s8 R (e 0) (e 3) (e 146) w := fun e w => (cond_seg (x := (sub (bodyOf Tryz.f118) [1, 1, 1, 0, 1, 0, 1, 1, 1, 1, 1, 1, 1, 0])) (y := (sub (bodyOf Tryz.f118) [1, 1, 1, 0, 1, 0, 1, 1, 1, 1, 1, 1, 1, 1])) (ledger_work_does_s6_eq R) (ledger_work_does_s7_eq R) e w).trans (by kernel_rfl)
def ledger_work_does_s9 (R : Value → World → Prop) (x0 x3 x67 : Value) (w : World) : Prop :=
  qG Tryz.prog (bq .eql 3 (.tmp 67) (.const (.int .i64 5)) x67 (.int .i64 5)) w fun t147 =>
  ledger_work_does_s8 R x0 x3 t147 w
theorem ledger_work_does_s9_eq (R : Value → World → Prop) : ∀ e w, lift Tryz.prog 186 (sub (bodyOf Tryz.f118) [1, 1, 1, 0, 1, 0, 1, 1, 1, 1, 1, 1]) (blockK 1 (seqK (fun e w => ledger_work_does_s0 R  w) (finK Tryz.prog Tryz.f118.results.toList R))) e w = ledger_work_does_s9 R (e 0) (e 3) (e 67) w :=
  segs_eq (l := [(sub (bodyOf Tryz.f118) [1, 1, 1, 0, 1, 0, 1, 1, 1, 1, 1, 1, 0])]) (y := (sub (bodyOf Tryz.f118) [1, 1, 1, 0, 1, 0, 1, 1, 1, 1, 1, 1, 1])) (Y := (fun e w => ledger_work_does_s8 R (e 0) (e 3) (e 146) w)) (ledger_work_does_s8_eq R) (fun e w => by kernel_rfl)
def ledger_work_does_s10 (R : Value → World → Prop) (x0 x3 x5 x6 x67 x116 : Value) (w : World) : Prop :=
  bV x116 (ledger_work_does_s3 R x0 x3 x5 x6 w) (ledger_work_does_s9 R x0 x3 x67 w)
theorem ledger_work_does_s10_eq (R : Value → World → Prop) : ∀ e w, lift Tryz.prog 186 (sub (bodyOf Tryz.f118) [1, 1, 1, 0, 1, 0, 1, 1, 1, 1, 1]) (blockK 1 (seqK (fun e w => ledger_work_does_s0 R  w) (finK Tryz.prog Tryz.f118.results.toList R))) e w = ledger_work_does_s10 R (e 0) (e 3) (e 5) (e 6) (e 67) (e 116) w := fun e w => (cond_seg (x := (sub (bodyOf Tryz.f118) [1, 1, 1, 0, 1, 0, 1, 1, 1, 1, 1, 0])) (y := (sub (bodyOf Tryz.f118) [1, 1, 1, 0, 1, 0, 1, 1, 1, 1, 1, 1])) (ledger_work_does_s3_eq R) (ledger_work_does_s9_eq R) e w).trans (by kernel_rfl)
def ledger_work_does_s11 (R : Value → World → Prop) (x0 x3 x5 x6 x67 : Value) (w : World) : Prop :=
  qG Tryz.prog (bq .eql 3 (.tmp 67) (.const (.int .i64 6)) x67 (.int .i64 6)) w fun t117 =>
  ledger_work_does_s10 R x0 x3 x5 x6 x67 t117 w
theorem ledger_work_does_s11_eq (R : Value → World → Prop) : ∀ e w, lift Tryz.prog 186 (sub (bodyOf Tryz.f118) [1, 1, 1, 0, 1, 0, 1, 1, 1, 1]) (blockK 1 (seqK (fun e w => ledger_work_does_s0 R  w) (finK Tryz.prog Tryz.f118.results.toList R))) e w = ledger_work_does_s11 R (e 0) (e 3) (e 5) (e 6) (e 67) w :=
  segs_eq (l := [(sub (bodyOf Tryz.f118) [1, 1, 1, 0, 1, 0, 1, 1, 1, 1, 0])]) (y := (sub (bodyOf Tryz.f118) [1, 1, 1, 0, 1, 0, 1, 1, 1, 1, 1])) (Y := (fun e w => ledger_work_does_s10 R (e 0) (e 3) (e 5) (e 6) (e 67) (e 116) w)) (ledger_work_does_s10_eq R) (fun e w => by kernel_rfl)
def ledger_work_does_s12 (R : Value → World → Prop) (x0 x3 x5 x6 x67 x82 : Value) (w : World) : Prop :=
  bV x82 (ledger_work_does_s2 R x0 x3 x5 w) (ledger_work_does_s11 R x0 x3 x5 x6 x67 w)
theorem ledger_work_does_s12_eq (R : Value → World → Prop) : ∀ e w, lift Tryz.prog 186 (sub (bodyOf Tryz.f118) [1, 1, 1, 0, 1, 0, 1, 1, 1]) (blockK 1 (seqK (fun e w => ledger_work_does_s0 R  w) (finK Tryz.prog Tryz.f118.results.toList R))) e w = ledger_work_does_s12 R (e 0) (e 3) (e 5) (e 6) (e 67) (e 82) w := fun e w => (cond_seg (x := (sub (bodyOf Tryz.f118) [1, 1, 1, 0, 1, 0, 1, 1, 1, 0])) (y := (sub (bodyOf Tryz.f118) [1, 1, 1, 0, 1, 0, 1, 1, 1, 1])) (ledger_work_does_s2_eq R) (ledger_work_does_s11_eq R) e w).trans (by kernel_rfl)
def ledger_work_does_s13 (R : Value → World → Prop) (x0 x3 x5 x6 x67 : Value) (w : World) : Prop :=
  qG Tryz.prog (bq .eql 3 (.tmp 67) (.const (.int .i64 2)) x67 (.int .i64 2)) w fun t83 =>
  ledger_work_does_s12 R x0 x3 x5 x6 x67 t83 w
theorem ledger_work_does_s13_eq (R : Value → World → Prop) : ∀ e w, lift Tryz.prog 186 (sub (bodyOf Tryz.f118) [1, 1, 1, 0, 1, 0, 1, 1]) (blockK 1 (seqK (fun e w => ledger_work_does_s0 R  w) (finK Tryz.prog Tryz.f118.results.toList R))) e w = ledger_work_does_s13 R (e 0) (e 3) (e 5) (e 6) (e 67) w :=
  segs_eq (l := [(sub (bodyOf Tryz.f118) [1, 1, 1, 0, 1, 0, 1, 1, 0])]) (y := (sub (bodyOf Tryz.f118) [1, 1, 1, 0, 1, 0, 1, 1, 1])) (Y := (fun e w => ledger_work_does_s12 R (e 0) (e 3) (e 5) (e 6) (e 67) (e 82) w)) (ledger_work_does_s12_eq R) (fun e w => by kernel_rfl)
def ledger_work_does_s14 (R : Value → World → Prop) (x0 x3 x5 x6 x67 x71 : Value) (w : World) : Prop :=
  bV x71 (ledger_work_does_s1 R x0 x3 x5 w) (ledger_work_does_s13 R x0 x3 x5 x6 x67 w)
theorem ledger_work_does_s14_eq (R : Value → World → Prop) : ∀ e w, lift Tryz.prog 186 (sub (bodyOf Tryz.f118) [1, 1, 1, 0, 1, 0, 1]) (blockK 1 (seqK (fun e w => ledger_work_does_s0 R  w) (finK Tryz.prog Tryz.f118.results.toList R))) e w = ledger_work_does_s14 R (e 0) (e 3) (e 5) (e 6) (e 67) (e 71) w := fun e w => (cond_seg (x := (sub (bodyOf Tryz.f118) [1, 1, 1, 0, 1, 0, 1, 0])) (y := (sub (bodyOf Tryz.f118) [1, 1, 1, 0, 1, 0, 1, 1])) (ledger_work_does_s1_eq R) (ledger_work_does_s13_eq R) e w).trans (by kernel_rfl)
def ledger_work_does_s15 (R : Value → World → Prop) (x0 x3 x5 x6 x67 : Value) (w : World) : Prop :=
  qG Tryz.prog (bq .eql 3 (.tmp 67) (.const (.int .i64 1)) x67 (.int .i64 1)) w fun t72 =>
  bV t72
  (ledger_work_does_s14 R x0 x3 x5 x6 x67 (.bool true) w)
  (qG Tryz.prog (bq .eql 3 (.tmp 67) (.const (.int .i64 7)) x67 (.int .i64 7)) w fun t73 =>
  ledger_work_does_s14 R x0 x3 x5 x6 x67 t73 w)
theorem ledger_work_does_s15_eq (R : Value → World → Prop) : ∀ e w, lift Tryz.prog 186 (sub (bodyOf Tryz.f118) [1, 1, 1, 0, 1, 0]) (blockK 1 (seqK (fun e w => ledger_work_does_s0 R  w) (finK Tryz.prog Tryz.f118.results.toList R))) e w = ledger_work_does_s15 R (e 0) (e 3) (e 5) (e 6) (e 67) w :=
  segs_eq (l := [(sub (bodyOf Tryz.f118) [1, 1, 1, 0, 1, 0, 0])]) (y := (sub (bodyOf Tryz.f118) [1, 1, 1, 0, 1, 0, 1])) (Y := (fun e w => ledger_work_does_s14 R (e 0) (e 3) (e 5) (e 6) (e 67) (e 71) w)) (ledger_work_does_s14_eq R) (fun e w => by kernel_rfl)
def ledger_work_does_s16 (R : Value → World → Prop) (x0 x3 x5 x6 : Value) (w : World) : Prop :=
  fa 0 x3 fun t66 =>
  ld1 t66 w fun t67 =>
  ledger_work_does_s15 R x0 x3 x5 x6 t67 w
theorem ledger_work_does_s16_eq (R : Value → World → Prop) : ∀ e w, lift Tryz.prog 186 (sub (bodyOf Tryz.f118) [1, 1, 1, 0]) (seqK (fun e w => ledger_work_does_s0 R  w) (finK Tryz.prog Tryz.f118.results.toList R)) e w = ledger_work_does_s16 R (e 0) (e 3) (e 5) (e 6) w :=
  segs_eq (l := [(sub (bodyOf Tryz.f118) [1, 1, 1, 0, 0])]) (y := (sub (bodyOf Tryz.f118) [1, 1, 1, 0, 1])) (Y := (fun e w => ledger_work_does_s15 R (e 0) (e 3) (e 5) (e 6) (e 67) w)) (ledger_work_does_s15_eq R) (fun e w => by kernel_rfl)
def ledger_work_does_s17 (R : Value → World → Prop) (x0 x3 x5 x6 : Value) (w : World) : Prop :=
  nk x0 fun t29 =>
  fa 0 t29 fun t30 =>
  ldn 4 t30 (World.drew w) fun t31 =>
  fa 1 x3 fun t32 =>
  ld1 t32 (World.drew w) fun t33 =>
  fa 2 x3 fun t34 =>
  ld1 t34 (World.drew w) fun t35 =>
  fa 4 x3 fun t37 =>
  ld1 t37 (World.drew w) fun t38 =>
  callG Tryz.prog 131 #[t31, t33, t35] (World.drew w) fun t36 w =>
  ld1 t37 w (fun u => u = t38) ∧
  qG Tryz.prog (bq .lss 3 (.tmp 36) (.tmp 38) t36 t38) w fun t39 =>
  bV t39
  (R (.int .i64 70) w)
  (ledger_work_does_s16 R x0 x3 x5 x6 w)
theorem ledger_work_does_s17_eq (R : Value → World → Prop) : ∀ e w, lift Tryz.prog 186 (sub (bodyOf Tryz.f118) [1, 1, 0, 1, 0, 1, 0]) (blockK 0 (seqK (fun e w => ledger_work_does_s16 R (e 0) (e 3) (e 5) (e 6) w) (finK Tryz.prog Tryz.f118.results.toList R))) e w = ledger_work_does_s17 R (e 0) (e 3) (e 5) (e 6) w := fun e w => by kernel_rfl
def ledger_work_does_s18 (R : Value → World → Prop) (x0 x3 x5 x6 x40 : Value) (w : World) : Prop :=
  bV x40
  (ldn 2 x5 w fun t45 =>
  fa 4 x3 fun t46 =>
  ld1 t46 w fun t47 =>
  callG Tryz.prog 132 #[x0, t45, t47] w fun t48 w =>
  qG Tryz.prog (Instr.extract t48 0) w fun t49 =>
  qG Tryz.prog (Instr.extract t48 1) w fun t50 =>
  qG Tryz.prog (bq .neq 30 (.tmp 51) (.const (.int .i64 0)) t50 (.int .i64 0)) w fun t52 =>
  bV t52
  (R t50 w)
  (nk x0 fun t56 =>
  fa 0 t56 fun t57 =>
  ldn 4 t57 (World.drew w) fun t58 =>
  fa 1 x3 fun t59 =>
  ld1 t59 (World.drew w) fun t60 =>
  fa 2 x3 fun t61 =>
  ld1 t61 (World.drew w) fun t62 =>
  callG Tryz.prog 133 #[t58, t60, t62] (World.drew w) fun t63 w =>
  fld false 3 1 t63 fun t64 =>
  qG Tryz.prog (bq .lss 3 (.tmp 54) (.tmp 64) t49 t64) w fun t65 =>
  bV t65
  (R (.int .i64 70) w)
  (ledger_work_does_s16 R x0 x3 x5 x6 w)))
  (ledger_work_does_s16 R x0 x3 x5 x6 w)
theorem ledger_work_does_s18_eq (R : Value → World → Prop) : ∀ e w, lift Tryz.prog 186 (sub (bodyOf Tryz.f118) [1, 1, 0, 1, 0, 1, 1, 1]) (blockK 0 (seqK (fun e w => ledger_work_does_s16 R (e 0) (e 3) (e 5) (e 6) w) (finK Tryz.prog Tryz.f118.results.toList R))) e w = ledger_work_does_s18 R (e 0) (e 3) (e 5) (e 6) (e 40) w := fun e w => by kernel_rfl
def ledger_work_does_s19 (R : Value → World → Prop) (x0 x3 x5 x6 x24 : Value) (w : World) : Prop :=
  qG Tryz.prog (bq .eql 3 (.tmp 24) (.const (.int .i64 1)) x24 (.int .i64 1)) w fun t41 =>
  bV t41
  (ledger_work_does_s18 R x0 x3 x5 x6 (.bool true) w)
  (qG Tryz.prog (bq .eql 3 (.tmp 24) (.const (.int .i64 7)) x24 (.int .i64 7)) w fun t42 =>
  ledger_work_does_s18 R x0 x3 x5 x6 t42 w)
theorem ledger_work_does_s19_eq (R : Value → World → Prop) : ∀ e w, lift Tryz.prog 186 (sub (bodyOf Tryz.f118) [1, 1, 0, 1, 0, 1, 1]) (blockK 0 (seqK (fun e w => ledger_work_does_s16 R (e 0) (e 3) (e 5) (e 6) w) (finK Tryz.prog Tryz.f118.results.toList R))) e w = ledger_work_does_s19 R (e 0) (e 3) (e 5) (e 6) (e 24) w :=
  segs_eq (l := [(sub (bodyOf Tryz.f118) [1, 1, 0, 1, 0, 1, 1, 0])]) (y := (sub (bodyOf Tryz.f118) [1, 1, 0, 1, 0, 1, 1, 1])) (Y := (fun e w => ledger_work_does_s18 R (e 0) (e 3) (e 5) (e 6) (e 40) w)) (ledger_work_does_s18_eq R) (fun e w => by kernel_rfl)
def ledger_work_does_s20 (R : Value → World → Prop) (x0 x3 x5 x6 x24 x25 : Value) (w : World) : Prop :=
  bV x25 (ledger_work_does_s17 R x0 x3 x5 x6 w) (ledger_work_does_s19 R x0 x3 x5 x6 x24 w)
theorem ledger_work_does_s20_eq (R : Value → World → Prop) : ∀ e w, lift Tryz.prog 186 (sub (bodyOf Tryz.f118) [1, 1, 0, 1, 0, 1]) (blockK 0 (seqK (fun e w => ledger_work_does_s16 R (e 0) (e 3) (e 5) (e 6) w) (finK Tryz.prog Tryz.f118.results.toList R))) e w = ledger_work_does_s20 R (e 0) (e 3) (e 5) (e 6) (e 24) (e 25) w := fun e w => (cond_seg (x := (sub (bodyOf Tryz.f118) [1, 1, 0, 1, 0, 1, 0])) (y := (sub (bodyOf Tryz.f118) [1, 1, 0, 1, 0, 1, 1])) (ledger_work_does_s17_eq R) (ledger_work_does_s19_eq R) e w).trans (by kernel_rfl)
def ledger_work_does_s21 (R : Value → World → Prop) (x0 x3 x5 x6 x24 : Value) (w : World) : Prop :=
  qG Tryz.prog (bq .eql 3 (.tmp 24) (.const (.int .i64 2)) x24 (.int .i64 2)) w fun t26 =>
  bV t26
  (ledger_work_does_s20 R x0 x3 x5 x6 x24 (.bool true) w)
  (qG Tryz.prog (bq .eql 3 (.tmp 24) (.const (.int .i64 6)) x24 (.int .i64 6)) w fun t27 =>
  ledger_work_does_s20 R x0 x3 x5 x6 x24 t27 w)
theorem ledger_work_does_s21_eq (R : Value → World → Prop) : ∀ e w, lift Tryz.prog 186 (sub (bodyOf Tryz.f118) [1, 1, 0, 1, 0]) (blockK 0 (seqK (fun e w => ledger_work_does_s16 R (e 0) (e 3) (e 5) (e 6) w) (finK Tryz.prog Tryz.f118.results.toList R))) e w = ledger_work_does_s21 R (e 0) (e 3) (e 5) (e 6) (e 24) w :=
  segs_eq (l := [(sub (bodyOf Tryz.f118) [1, 1, 0, 1, 0, 0])]) (y := (sub (bodyOf Tryz.f118) [1, 1, 0, 1, 0, 1])) (Y := (fun e w => ledger_work_does_s20 R (e 0) (e 3) (e 5) (e 6) (e 24) (e 25) w)) (ledger_work_does_s20_eq R) (fun e w => by kernel_rfl)
def ledger_work_does_s22 (R : Value → World → Prop) (x0 x3 x5 x6 : Value) (w : World) : Prop :=
  fa 0 x3 fun t23 =>
  ld1 t23 w fun t24 =>
  ledger_work_does_s21 R x0 x3 x5 x6 t24 w
theorem ledger_work_does_s22_eq (R : Value → World → Prop) : ∀ e w, lift Tryz.prog 186 (sub (bodyOf Tryz.f118) [1, 1, 0]) (seqK (fun e w => ledger_work_does_s16 R (e 0) (e 3) (e 5) (e 6) w) (finK Tryz.prog Tryz.f118.results.toList R)) e w = ledger_work_does_s22 R (e 0) (e 3) (e 5) (e 6) w :=
  segs_eq (l := [(sub (bodyOf Tryz.f118) [1, 1, 0, 0])]) (y := (sub (bodyOf Tryz.f118) [1, 1, 0, 1])) (Y := (fun e w => ledger_work_does_s21 R (e 0) (e 3) (e 5) (e 6) (e 24) w)) (ledger_work_does_s21_eq R) (fun e w => by kernel_rfl)
def ledger_work_does_s23 (R : Value → World → Prop) (x0 x1 : Value) (w : World) : Prop :=
  newG (Value.cells x1) 42 w fun t3 w =>
  fa 1 t3 fun t13 =>
  ld1 t13 (World.drew w) fun t14 =>
  fa 2 t3 fun t15 =>
  ld1 t15 (World.drew w) fun t16 =>
  bld [(0, 1), (1, 1)] (zc Tryz.prog 101) #[(0, t14), (1, t16)] fun t17 =>
  fa 1 t3 fun t18 =>
  ld1 t18 (World.drew w) fun t19 =>
  fa 3 t3 fun t20 =>
  ld1 t20 (World.drew w) fun t21 =>
  bld [(0, 1), (1, 1)] (zc Tryz.prog 101) #[(0, t19), (1, t21)] fun t22 =>
  (newG (zc Tryz.prog 101) 101 (World.drew w) fun t5 w =>
  ld1 t20 w (fun u => u = t21) ∧
  ld1 t18 w (fun u => u = t19) ∧
  ld1 t15 w (fun u => u = t16) ∧
  ld1 t13 w (fun u => u = t14) ∧
  newG (zc Tryz.prog 101) 101 w fun t6 w =>
  ld1 t20 w (fun u => u = t21) ∧
  ld1 t18 w (fun u => u = t19) ∧
  ld1 t15 w (fun u => u = t16) ∧
  ld1 t13 w (fun u => u = t14) ∧
  stn 2 t5 t17 w fun w =>
  ld1 t20 w (fun u => u = t21) ∧
  ld1 t18 w (fun u => u = t19) ∧
  stn 2 t6 t22 w fun w =>
  ledger_work_does_s22 R x0 t3 t5 t6 w) ∧
  (newG (zc Tryz.prog 101) 101 (World.drew w) fun t6_1 w =>
  ld1 t20 w (fun u => u = t21) ∧
  ld1 t18 w (fun u => u = t19) ∧
  ld1 t15 w (fun u => u = t16) ∧
  ld1 t13 w (fun u => u = t14) ∧
  newG (zc Tryz.prog 101) 101 w fun t5_1 w =>
  ld1 t20 w (fun u => u = t21) ∧
  ld1 t18 w (fun u => u = t19) ∧
  ld1 t15 w (fun u => u = t16) ∧
  ld1 t13 w (fun u => u = t14) ∧
  stn 2 t5_1 t17 w fun w =>
  ld1 t20 w (fun u => u = t21) ∧
  ld1 t18 w (fun u => u = t19) ∧
  stn 2 t6_1 t22 w fun w =>
  ledger_work_does_s22 R x0 t3 t5_1 t6_1 w)
theorem ledger_work_does_s23_eq (R : Value → World → Prop) : ∀ e w, lift Tryz.prog 186 (bodyOf Tryz.f118) (finK Tryz.prog Tryz.f118.results.toList R) e w = ledger_work_does_s23 R (e 0) (e 1) w :=
  segs_eq (l := [(sub (bodyOf Tryz.f118) [0]), (sub (bodyOf Tryz.f118) [1, 0])]) (y := (sub (bodyOf Tryz.f118) [1, 1])) (Y := (fun e w => ledger_work_does_s22 R (e 0) (e 3) (e 5) (e 6) w)) (seq_seg (x := (sub (bodyOf Tryz.f118) [1, 1, 0])) (y := (sub (bodyOf Tryz.f118) [1, 1, 1])) (seq_seg (x := (sub (bodyOf Tryz.f118) [1, 1, 1, 0])) (y := (sub (bodyOf Tryz.f118) [1, 1, 1, 1])) (ledger_work_does_s0_eq R) (ledger_work_does_s16_eq R)) (ledger_work_does_s22_eq R)) (fun e w => by kernel_rfl)
def ledger_work_does (R : Value → World → Prop) (x0 x1 : Value) (w : World) : Prop := ledger_work_does_s23 R x0 x1 w
theorem ledger_work_does_call {R : Value → World → Prop} {x0 x1 : Value} {w : World} (h : ledger_work_does R x0 x1 w) : callG Tryz.prog 118 #[x0, x1] w R :=
  calls_lift_eq Tryz.mixed Tryz.func118 (args := [x0, x1]) rfl rfl rfl rfl ((ledger_work_does_s23_eq R) (envOf [x0, x1]) w) (by kernel_rfl) h
def ledger_step_s0 (R : Value → World → Prop) (x4 x7 : Value) (w : World) : Prop :=
  nk x7 fun t73 =>
  fa 0 t73 fun t74 =>
  fa 3 t74 fun t75 =>
  ld1 t75 w fun t76 =>
  qG Tryz.prog (bq .add 3 (.tmp 76) (.const (.int .i64 1)) t76 (.int .i64 1)) w fun t77 =>
  nk x7 fun t78 =>
  fa 0 t78 fun t79 =>
  fa 3 t79 fun t80 =>
  st1 t80 t77 w fun w =>
  nk x7 fun t82 =>
  fa 0 t82 fun t83 =>
  ldn 4 t83 w fun t84 =>
  stn 4 x4 t84 w fun w =>
  qG Tryz.prog (do loadVar 26 (← asAddr x4)) w fun r4 =>
  R (.tuple #[r4, (.int .i64 0)]) w
theorem ledger_step_s0_eq (R : Value → World → Prop) : ∀ e w, lift Tryz.prog 85 (sub (bodyOf Tryz.f92) [1, 1, 1, 1, 1, 1]) (finK Tryz.prog Tryz.f92.results.toList R) e w = ledger_step_s0 R (e 4) (e 7) w := fun e w => by kernel_rfl
def ledger_step_s1 (R : Value → World → Prop) (x0 x1 : Value) (w : World) : Prop :=
  newG (Value.cells x0) 26 w fun t2 w =>
  newG (Value.cells x1) 42 w fun t3 w =>
  newG (zc Tryz.prog 26) 26 w fun t4 w =>
  ldn 7 t3 w fun t9 =>
  callG Tryz.prog 93 #[t9] w fun t10 w =>
  qG Tryz.prog (bq .neq 30 (.tmp 11) (.const (.int .i64 0)) t10 (.int .i64 0)) w fun t12 =>
  bV t12
  (ldn 4 t2 w fun t13 =>
  stn 4 t4 t13 w fun w =>
  qG Tryz.prog (do loadVar 26 (← asAddr t4)) w fun r4 =>
  R (.tuple #[r4, t10]) w)
  (ldn 4 t2 w fun t15 =>
  bld [(0, 4)] (zc Tryz.prog 169) #[(0, t15)] fun t16 =>
  newG (Value.cells t16) 169 w fun t17 w =>
  fa 0 t2 fun t21 =>
  ld1 t21 (World.drew w) fun t22 =>
  fa 1 t2 fun t24 =>
  ld1 t24 (World.drew w) fun t25 =>
  fa 2 t2 fun t27 =>
  ld1 t27 (World.drew w) fun t28 =>
  callG Tryz.prog 45 #[t22] (World.drew w) fun t23 w =>
  ld1 t27 w (fun u => u = t28) ∧
  ld1 t24 w (fun u => u = t25) ∧
  callG Tryz.prog 46 #[t25] w fun t26 w =>
  ld1 t27 w (fun u => u = t28) ∧
  callG Tryz.prog 47 #[t28] w fun t29 w =>
  nk t17 fun t30 =>
  fa 0 t30 fun t31 =>
  fa 0 t31 fun t32 =>
  st1 t32 t23 w fun w =>
  nk t17 fun t33 =>
  fa 0 t33 fun t34 =>
  fa 1 t34 fun t35 =>
  st1 t35 t26 w fun w =>
  nk t17 fun t36 =>
  fa 0 t36 fun t37 =>
  fa 2 t37 fun t38 =>
  st1 t38 t29 w fun w =>
  ldn 7 t3 w fun t40 =>
  callG Tryz.prog 118 #[t17, t40] w fun t41 w =>
  qG Tryz.prog (bq .neq 30 (.tmp 42) (.const (.int .i64 0)) t41 (.int .i64 0)) w fun t43 =>
  bV t43
  (ldn 4 t2 w fun t44 =>
  stn 4 t4 t44 w fun w =>
  qG Tryz.prog (do loadVar 26 (← asAddr t4)) w fun r4_1 =>
  R (.tuple #[r4_1, t41]) w)
  (nk t17 fun t47 =>
  fa 0 t47 fun t48 =>
  fa 0 t48 fun t49 =>
  ld1 t49 (World.drew w) fun t50 =>
  lenL t50 fun t51 =>
  nk t17 fun t53 =>
  fa 0 t53 fun t54 =>
  fa 1 t54 fun t55 =>
  ld1 t55 (World.drew w) fun t56 =>
  lenL t56 fun t57 =>
  nk t17 fun t59 =>
  fa 0 t59 fun t60 =>
  fa 2 t60 fun t61 =>
  ld1 t61 (World.drew w) fun t62 =>
  lenL t62 fun t63 =>
  qG Tryz.prog (Builtin.max_ #[3, 3, 3] 3 #[t51, t57, t63]) (World.drew w) fun t64 =>
  qG Tryz.prog (bq .gtr 3 (.tmp 64) (.const (.int .i64 4096)) t64 (.int .i64 4096)) (World.drew w) fun t65 =>
  bV t65
  (ldn 4 t2 (World.drew w) fun t71 =>
  stn 4 t4 t71 (World.drew w) fun w =>
  qG Tryz.prog (do loadVar 26 (← asAddr t4)) w fun r4_2 =>
  R (.tuple #[r4_2, (.int .i64 2)]) w)
  (fa 3 t2 fun t67 =>
  ld1 t67 (World.drew w) fun t68 =>
  qG Tryz.prog (bq .geq 3 (.tmp 68) (.const (.int .i64 4611686018427387904)) t68 (.int .i64 4611686018427387904)) (World.drew w) fun t69 =>
  bV t69
  (ldn 4 t2 (World.drew w) fun t71_1 =>
  stn 4 t4 t71_1 (World.drew w) fun w =>
  qG Tryz.prog (do loadVar 26 (← asAddr t4)) w fun r4_3 =>
  R (.tuple #[r4_3, (.int .i64 2)]) w)
  (ledger_step_s0 R t4 t17 (World.drew w)))))
theorem ledger_step_s1_eq (R : Value → World → Prop) : ∀ e w, lift Tryz.prog 85 (bodyOf Tryz.f92) (finK Tryz.prog Tryz.f92.results.toList R) e w = ledger_step_s1 R (e 0) (e 1) w :=
  segs_eq (l := [(sub (bodyOf Tryz.f92) [0]), (sub (bodyOf Tryz.f92) [1, 0]), (sub (bodyOf Tryz.f92) [1, 1, 0]), (sub (bodyOf Tryz.f92) [1, 1, 1, 0]), (sub (bodyOf Tryz.f92) [1, 1, 1, 1, 0]), (sub (bodyOf Tryz.f92) [1, 1, 1, 1, 1, 0])]) (y := (sub (bodyOf Tryz.f92) [1, 1, 1, 1, 1, 1])) (Y := (fun e w => ledger_step_s0 R (e 4) (e 7) w)) (ledger_step_s0_eq R) (fun e w => by kernel_rfl)
def ledger_step (R : Value → World → Prop) (x0 x1 : Value) (w : World) : Prop := ledger_step_s1 R x0 x1 w
theorem ledger_step_call {R : Value → World → Prop} {x0 x1 : Value} {w : World} (h : ledger_step R x0 x1 w) : callG Tryz.prog 92 #[x0, x1] w R :=
  calls_lift_eq Tryz.mixed Tryz.func92 (args := [x0, x1]) rfl rfl rfl rfl ((ledger_step_s1_eq R) (envOf [x0, x1]) w) (by kernel_rfl) h
def ledger_Apply_s0 (R : Value → World → Prop) (x0 x1 : Value) (w : World) : Prop :=
  newG (Value.cells x0) 26 w fun t2 w =>
  newG (Value.cells x1) 42 w fun t3 w =>
  newG (zc Tryz.prog 26) 26 w fun t4 w =>
  ldn 4 t2 w fun t9 =>
  callG Tryz.prog 22 #[t9] w fun t10 w =>
  qG Tryz.prog (bq .neq 30 (.tmp 11) (.const (.int .i64 0)) t10 (.int .i64 0)) w fun t12 =>
  bV t12
  (bld [(0, 1), (1, 1), (2, 1), (3, 1)] (zc Tryz.prog 26) #[] fun t13 =>
  stn 4 t4 t13 w fun w =>
  qG Tryz.prog (do loadVar 26 (← asAddr t4)) w fun r4 =>
  R (.tuple #[r4, t10]) w)
  (ldn 4 t2 w fun t16 =>
  ldn 7 t3 w fun t17 =>
  callG Tryz.prog 92 #[t16, t17] w fun t18 w =>
  qG Tryz.prog (Instr.extract t18 0) w fun t19 =>
  qG Tryz.prog (Instr.extract t18 1) w fun t20 =>
  newG (zc Tryz.prog 26) 26 w fun t7 w =>
  stn 4 t7 t19 w fun w =>
  qG Tryz.prog (bq .neq 30 (.tmp 21) (.const (.int .i64 0)) t20 (.int .i64 0)) w fun t22 =>
  bV t22
  (bld [(0, 1), (1, 1), (2, 1), (3, 1)] (zc Tryz.prog 26) #[] fun t23 =>
  stn 4 t4 t23 w fun w =>
  qG Tryz.prog (do loadVar 26 (← asAddr t4)) w fun r4_1 =>
  R (.tuple #[r4_1, t20]) w)
  (ldn 4 t7 w fun t25 =>
  stn 4 t4 t25 w fun w =>
  qG Tryz.prog (do loadVar 26 (← asAddr t4)) w fun r4_2 =>
  R (.tuple #[r4_2, (.int .i64 0)]) w))
theorem ledger_Apply_s0_eq (R : Value → World → Prop) : ∀ e w, lift Tryz.prog 26 (bodyOf Tryz.f41) (finK Tryz.prog Tryz.f41.results.toList R) e w = ledger_Apply_s0 R (e 0) (e 1) w := fun e w => by kernel_rfl
def ledger_Apply (R : Value → World → Prop) (x0 x1 : Value) (w : World) : Prop := ledger_Apply_s0 R x0 x1 w
theorem ledger_Apply_call {R : Value → World → Prop} {x0 x1 : Value} {w : World} (h : ledger_Apply R x0 x1 w) : callG Tryz.prog 41 #[x0, x1] w R :=
  calls_lift_eq Tryz.mixed Tryz.func41 (args := [x0, x1]) rfl rfl rfl rfl ((ledger_Apply_s0_eq R) (envOf [x0, x1]) w) (by kernel_rfl) h
def ledger_Replay_s0 (R : Value → World → Prop) (x1 x2 x4 : Value) (w : World) : Prop :=
  ldn 4 x2 w fun t38 =>
  lenL x1 fun t40 =>
  stn 4 x4 t38 w fun w =>
  qG Tryz.prog (do loadVar 26 (← asAddr x4)) w fun r4 =>
  R (.tuple #[r4, t40, (.int .i64 0)]) w
theorem ledger_Replay_s0_eq (R : Value → World → Prop) : ∀ e w, lift Tryz.prog 41 (sub (bodyOf Tryz.f88) [1, 1, 1]) (finK Tryz.prog Tryz.f88.results.toList R) e w = ledger_Replay_s0 R (e 1) (e 2) (e 4) w := fun e w => by kernel_rfl
def ledger_Replay_b1 (R : Value → World → Prop) (N1 : List Value → World → Prop) (x1 x2 x4 x18 x19 x20 : Value) (w : World) : Prop :=
  qG Tryz.prog (bq .lss 3 (.tmp 20) (.tmp 19) x20 x19) w fun t21 =>
  bV t21
  (ia 7 x18 x20 fun t23 =>
  ldn 7 t23 w fun t24 =>
  newG (zc Tryz.prog 42) 42 w fun t9 w =>
  stn 7 t9 t24 w fun w =>
  ldn 4 x2 w fun t26 =>
  ldn 7 t9 w fun t27 =>
  callG Tryz.prog 92 #[t26, t27] w fun t28 w =>
  qG Tryz.prog (Instr.extract t28 0) w fun t29 =>
  qG Tryz.prog (Instr.extract t28 1) w fun t30 =>
  newG (zc Tryz.prog 26) 26 w fun t10 w =>
  stn 4 t10 t29 w fun w =>
  qG Tryz.prog (bq .neq 30 (.tmp 31) (.const (.int .i64 0)) t30 (.int .i64 0)) w fun t32 =>
  bV t32
  (ldn 4 x2 w fun t33 =>
  stn 4 x4 t33 w fun w =>
  qG Tryz.prog (do loadVar 26 (← asAddr x4)) w fun r4 =>
  R (.tuple #[r4, x20, t30]) w)
  (ldn 4 t10 w fun t36 =>
  stn 4 x2 t36 w fun w =>
  qG Tryz.prog (bq .add 3 (.tmp 20) (.const (.int .i64 1)) x20 (.int .i64 1)) w fun t37 =>
  N1 [x1, x2, x4, x18, x19, t37] w))
  (ledger_Replay_s0 R x1 x2 x4 w)
theorem ledger_Replay_b1_eq (R : Value → World → Prop) (N1 : List Value → World → Prop) : ∀ e w, lift Tryz.prog 41 (sub (bodyOf Tryz.f88) [1, 1, 0, 1, 0, 0]) (seqK (fun e w => N1 [e 1, e 2, e 4, e 18, e 19, e 20] w) (blockK 0 (seqK (fun e w => ledger_Replay_s0 R (e 1) (e 2) (e 4) w) (finK Tryz.prog Tryz.f88.results.toList R)))) e w = ledger_Replay_b1 R N1 (e 1) (e 2) (e 4) (e 18) (e 19) (e 20) w := fun e w => by kernel_rfl
def ledger_Replay_L2F (R : Value → World → Prop) (N1 : List Value → World → Prop) (xs : List Value) (w : World) : Prop :=
  match xs with
  | [x1, x2, x4, x18, x19, x20] => ledger_Replay_b1 R N1 x1 x2 x4 x18 x19 x20 w
  | _ => False
def ledger_Replay_L2 (R : Value → World → Prop) (x1 x2 x4 x18 x19 x20 : Value) (w : World) : Prop :=
  ∃ m, loopV (ledger_Replay_L2F R) m [x1, x2, x4, x18, x19, x20] w
theorem ledger_Replay_L2_eq (R : Value → World → Prop) : ∀ e w, lift Tryz.prog 41 (sub (bodyOf Tryz.f88) [1, 1, 0, 1, 0]) (blockK 0 (seqK (fun e w => ledger_Replay_s0 R (e 1) (e 2) (e 4) w) (finK Tryz.prog Tryz.f88.results.toList R))) e w = ledger_Replay_L2 R (e 1) (e 2) (e 4) (e 18) (e 19) (e 20) w := loop_seg (F := ledger_Replay_L2F R) (sel := fun e => [e 1, e 2, e 4, e 18, e 19, e 20]) fun N1 => (ledger_Replay_b1_eq R N1)
def ledger_Replay_s3 (R : Value → World → Prop) (x1 x2 x4 : Value) (w : World) : Prop :=
  lenL x1 fun t19 =>
  ledger_Replay_L2 R x1 x2 x4 x1 t19 (.int .i64 0) w
theorem ledger_Replay_s3_eq (R : Value → World → Prop) : ∀ e w, lift Tryz.prog 41 (sub (bodyOf Tryz.f88) [1, 1, 0]) (seqK (fun e w => ledger_Replay_s0 R (e 1) (e 2) (e 4) w) (finK Tryz.prog Tryz.f88.results.toList R)) e w = ledger_Replay_s3 R (e 1) (e 2) (e 4) w :=
  segs_eq (l := [(sub (bodyOf Tryz.f88) [1, 1, 0, 0])]) (y := (sub (bodyOf Tryz.f88) [1, 1, 0, 1])) (Y := (fun e w => ledger_Replay_L2 R (e 1) (e 2) (e 4) (e 18) (e 19) (e 20) w)) (ledger_Replay_L2_eq R) (fun e w => by kernel_rfl)
def ledger_Replay_s4 (R : Value → World → Prop) (x0 x1 : Value) (w : World) : Prop :=
  newG (Value.cells x0) 26 w fun t2 w =>
  newG (zc Tryz.prog 26) 26 w fun t4 w =>
  ldn 4 t2 w fun t12 =>
  callG Tryz.prog 22 #[t12] w fun t13 w =>
  qG Tryz.prog (bq .neq 30 (.tmp 14) (.const (.int .i64 0)) t13 (.int .i64 0)) w fun t15 =>
  bV t15
  (bld [(0, 1), (1, 1), (2, 1), (3, 1)] (zc Tryz.prog 26) #[] fun t16 =>
  stn 4 t4 t16 w fun w =>
  qG Tryz.prog (do loadVar 26 (← asAddr t4)) w fun r4 =>
  R (.tuple #[r4, (.int .i64 0), t13]) w)
  (ledger_Replay_s3 R x1 t2 t4 w)
theorem ledger_Replay_s4_eq (R : Value → World → Prop) : ∀ e w, lift Tryz.prog 41 (bodyOf Tryz.f88) (finK Tryz.prog Tryz.f88.results.toList R) e w = ledger_Replay_s4 R (e 0) (e 1) w :=
  segs_eq (l := [(sub (bodyOf Tryz.f88) [0]), (sub (bodyOf Tryz.f88) [1, 0])]) (y := (sub (bodyOf Tryz.f88) [1, 1])) (Y := (fun e w => ledger_Replay_s3 R (e 1) (e 2) (e 4) w)) (seq_seg (x := (sub (bodyOf Tryz.f88) [1, 1, 0])) (y := (sub (bodyOf Tryz.f88) [1, 1, 1])) (ledger_Replay_s0_eq R) (ledger_Replay_s3_eq R)) (fun e w => by kernel_rfl)
def ledger_Replay (R : Value → World → Prop) (x0 x1 : Value) (w : World) : Prop := ledger_Replay_s4 R x0 x1 w
theorem ledger_Replay_call {R : Value → World → Prop} {x0 x1 : Value} {w : World} (h : ledger_Replay R x0 x1 w) : callG Tryz.prog 88 #[x0, x1] w R :=
  calls_lift_eq Tryz.mixed Tryz.func88 (args := [x0, x1]) rfl rfl rfl rfl ((ledger_Replay_s4_eq R) (envOf [x0, x1]) w) (by kernel_rfl) h
end Go.Proofs

set_option linter.unusedVariables false
set_option linter.unusedSimpArgs false
namespace Go.Proofs
open Go Go.Q
set_option maxRecDepth 100000
def keep_filled_s0 (R : Value → World → Prop) (x0 x1 : Value) (w : World) : Prop :=
  lenS x0 fun t8 =>
  qG Tryz.prog (bq .sub 3 (.tmp 6) (.tmp 8) x1 t8) w fun t9 =>
  callG Tryz.prog 105 #[(.string ⟨#[0]⟩), t9] w fun t10 w =>
  qG Tryz.prog (bq .add 9 (.tmp 5) (.tmp 10) x0 t10) w fun t11 =>
  R t11 w
theorem keep_filled_s0_eq (R : Value → World → Prop) : ∀ e w, lift Tryz.prog 12 (bodyOf Tryz.f81) (finK Tryz.prog Tryz.f81.results.toList R) e w = keep_filled_s0 R (e 0) (e 1) w := fun e w => by kernel_rfl
def keep_filled (R : Value → World → Prop) (x0 x1 : Value) (w : World) : Prop := keep_filled_s0 R x0 x1 w
theorem keep_filled_call {R : Value → World → Prop} {x0 x1 : Value} {w : World} (h : keep_filled R x0 x1 w) : callG Tryz.prog 81 #[x0, x1] w R :=
  calls_lift_eq Tryz.mixed Tryz.func81 (args := [x0, x1]) rfl rfl rfl rfl ((keep_filled_s0_eq R) (envOf [x0, x1]) w) (by kernel_rfl) h
def keep_head_s0 (R : Value → World → Prop) (x0 : Value) (w : World) : Prop :=
  callG Tryz.prog 80 #[x0] w fun t5 w =>
  callG Tryz.prog 82 #[t5] w fun t8 w =>
  callG Tryz.prog 80 #[t8] w fun t9 w =>
  qG Tryz.prog (bq .add 9 (.tmp 6) (.tmp 9) t5 t9) w fun t10 =>
  callG Tryz.prog 81 #[t10, (.int .i64 32)] w fun t11 w =>
  R t11 w
theorem keep_head_s0_eq (R : Value → World → Prop) : ∀ e w, lift Tryz.prog 12 (bodyOf Tryz.f37) (finK Tryz.prog Tryz.f37.results.toList R) e w = keep_head_s0 R (e 0) w := fun e w => by kernel_rfl
def keep_head (R : Value → World → Prop) (x0 : Value) (w : World) : Prop := keep_head_s0 R x0 w
theorem keep_head_call {R : Value → World → Prop} {x0 : Value} {w : World} (h : keep_head R x0 w) : callG Tryz.prog 37 #[x0] w R :=
  calls_lift_eq Tryz.mixed Tryz.func37 (args := [x0]) rfl rfl rfl rfl ((keep_head_s0_eq R) (envOf [x0]) w) (by kernel_rfl) h
def keep_area_s0 (R : Value → World → Prop) (x0 x1 : Value) (w : World) : Prop :=
  callG Tryz.prog 33 #[x0] w fun t9 w =>
  qG Tryz.prog (bq .sub 3 (.tmp 9) (.const (.int .i64 2)) t9 (.int .i64 2)) w fun t10 =>
  qG Tryz.prog (bq .quo 3 (.tmp 10) (.const (.int .i64 2)) t10 (.int .i64 2)) w fun t11 =>
  qG Tryz.prog (bq .rem 3 (.tmp 12) (.const (.int .i64 2)) x1 (.int .i64 2)) w fun t13 =>
  qG Tryz.prog (bq .mul 3 (.tmp 13) (.tmp 14) t13 t11) w fun t15 =>
  qG Tryz.prog (bq .add 3 (.const (.int .i64 2)) (.tmp 15) (.int .i64 2) t15) w fun t16 =>
  qG Tryz.prog (bq .add 3 (.tmp 18) (.tmp 19) t16 t11) w fun t20 =>
  R (.tuple #[t16, t20]) w
theorem keep_area_s0_eq (R : Value → World → Prop) : ∀ e w, lift Tryz.prog 21 (bodyOf Tryz.f83) (finK Tryz.prog Tryz.f83.results.toList R) e w = keep_area_s0 R (e 0) (e 1) w := fun e w => by kernel_rfl
def keep_area (R : Value → World → Prop) (x0 x1 : Value) (w : World) : Prop := keep_area_s0 R x0 x1 w
theorem keep_area_call {R : Value → World → Prop} {x0 x1 : Value} {w : World} (h : keep_area R x0 x1 w) : callG Tryz.prog 83 #[x0, x1] w R :=
  calls_lift_eq Tryz.mixed Tryz.func83 (args := [x0, x1]) rfl rfl rfl rfl ((keep_area_s0_eq R) (envOf [x0, x1]) w) (by kernel_rfl) h
def keep_Records_1_s0 (R : Value → World → Prop) (x0 x1 x2 : Value) (w : World) : Prop :=
  callG Tryz.prog 24 #[x1] w fun t9 w =>
  qG Tryz.prog (Instr.extract t9 0) w fun t10 =>
  qG Tryz.prog (Instr.extract t9 1) w fun t11 =>
  ld1 x2 w fun t12 =>
  qG Tryz.prog (bq .add 9 (.tmp 13) (.tmp 14) x0 t10) w fun t15 =>
  bsl 9 1 1 (zc Tryz.prog 9) #[(0, t15)] w fun t16 w =>
  app 9 1 16 (zc Tryz.prog 9) t12 t16 w fun t17 w =>
  st1 x2 t17 w fun w =>
  R (.tuple #[]) w
theorem keep_Records_1_s0_eq (R : Value → World → Prop) : ∀ e w, lift Tryz.prog 18 (bodyOf Tryz.f23) (finK Tryz.prog Tryz.f23.results.toList R) e w = keep_Records_1_s0 R (e 0) (e 1) (e 2) w := fun e w => by kernel_rfl
def keep_Records_1 (R : Value → World → Prop) (x0 x1 x2 : Value) (w : World) : Prop := keep_Records_1_s0 R x0 x1 x2 w
theorem keep_Records_1_call {R : Value → World → Prop} {x0 x1 x2 : Value} {w : World} (h : keep_Records_1 R x0 x1 x2 w) : callG Tryz.prog 23 #[x0, x1, x2] w R :=
  calls_lift_eq Tryz.mixed Tryz.func23 (args := [x0, x1, x2]) rfl rfl rfl rfl ((keep_Records_1_s0_eq R) (envOf [x0, x1, x2]) w) (by kernel_rfl) h
def keep_Records_s0 (R : Value → World → Prop) (x1 x5 x6 : Value) (w : World) : Prop :=
  fa 3 x1 fun t56 =>
  ld1 t56 w fun t57 =>
  bld [(0, 1), (1, 1), (2, 1)] (zc Tryz.prog 76) #[(0, (.int .i64 1)), (1, t57)] fun t58 =>
  bsl 76 3 1 (zc Tryz.prog 76) #[(0, t58)] w fun t59 w =>
  callV Tryz.prog x6 #[(.string ⟨#[69]⟩), t59] w fun t60 w =>
  ld1 x5 w fun t61 =>
  R (.tuple #[t61, (.int .i64 0)]) w
theorem keep_Records_s0_eq (R : Value → World → Prop) : ∀ e w, lift Tryz.prog 62 (sub (bodyOf Tryz.f8) [1, 1, 1, 1, 1, 1, 1]) (finK Tryz.prog Tryz.f8.results.toList R) e w = keep_Records_s0 R (e 1) (e 5) (e 6) w := fun e w => by kernel_rfl
def keep_Records_b1 (R : Value → World → Prop) (N1 : List Value → World → Prop) (x1 x5 x6 x44 x45 x46 : Value) (w : World) : Prop :=
  qG Tryz.prog (bq .lss 3 (.tmp 46) (.tmp 45) x46 x45) w fun t47 =>
  bV t47
  (ia 6 x44 x46 fun t48 =>
  ldn 6 t48 w fun t49 =>
  newG (zc Tryz.prog 73) 73 w fun t12 w =>
  stn 6 t12 t49 w fun w =>
  ldn 6 t12 w fun t51 =>
  callG Tryz.prog 27 #[t51] w fun t52 w =>
  callV Tryz.prog x6 #[(.string ⟨#[77]⟩), t52] w fun t53 w =>
  qG Tryz.prog (bq .add 3 (.tmp 46) (.const (.int .i64 1)) x46 (.int .i64 1)) w fun t54 =>
  N1 [x1, x5, x6, x44, x45, t54] w)
  (keep_Records_s0 R x1 x5 x6 w)
theorem keep_Records_b1_eq (R : Value → World → Prop) (N1 : List Value → World → Prop) : ∀ e w, lift Tryz.prog 62 (sub (bodyOf Tryz.f8) [1, 1, 1, 1, 1, 1, 0, 1, 0, 0]) (seqK (fun e w => N1 [e 1, e 5, e 6, e 44, e 45, e 46] w) (blockK 4 (seqK (fun e w => keep_Records_s0 R (e 1) (e 5) (e 6) w) (finK Tryz.prog Tryz.f8.results.toList R)))) e w = keep_Records_b1 R N1 (e 1) (e 5) (e 6) (e 44) (e 45) (e 46) w := fun e w => by kernel_rfl
def keep_Records_L2F (R : Value → World → Prop) (N1 : List Value → World → Prop) (xs : List Value) (w : World) : Prop :=
  match xs with
  | [x1, x5, x6, x44, x45, x46] => keep_Records_b1 R N1 x1 x5 x6 x44 x45 x46 w
  | _ => False
def keep_Records_L2 (R : Value → World → Prop) (x1 x5 x6 x44 x45 x46 : Value) (w : World) : Prop :=
  ∃ m, loopV (keep_Records_L2F R) m [x1, x5, x6, x44, x45, x46] w
theorem keep_Records_L2_eq (R : Value → World → Prop) : ∀ e w, lift Tryz.prog 62 (sub (bodyOf Tryz.f8) [1, 1, 1, 1, 1, 1, 0, 1, 0]) (blockK 4 (seqK (fun e w => keep_Records_s0 R (e 1) (e 5) (e 6) w) (finK Tryz.prog Tryz.f8.results.toList R))) e w = keep_Records_L2 R (e 1) (e 5) (e 6) (e 44) (e 45) (e 46) w := loop_seg (F := keep_Records_L2F R) (sel := fun e => [e 1, e 5, e 6, e 44, e 45, e 46]) fun N1 => (keep_Records_b1_eq R N1)
def keep_Records_s3 (R : Value → World → Prop) (x1 x5 x6 : Value) (w : World) : Prop :=
  fa 2 x1 fun t43 =>
  ld1 t43 w fun t44 =>
  lenL t44 fun t45 =>
  keep_Records_L2 R x1 x5 x6 t44 t45 (.int .i64 0) w
theorem keep_Records_s3_eq (R : Value → World → Prop) : ∀ e w, lift Tryz.prog 62 (sub (bodyOf Tryz.f8) [1, 1, 1, 1, 1, 1, 0]) (seqK (fun e w => keep_Records_s0 R (e 1) (e 5) (e 6) w) (finK Tryz.prog Tryz.f8.results.toList R)) e w = keep_Records_s3 R (e 1) (e 5) (e 6) w :=
  segs_eq (l := [(sub (bodyOf Tryz.f8) [1, 1, 1, 1, 1, 1, 0, 0])]) (y := (sub (bodyOf Tryz.f8) [1, 1, 1, 1, 1, 1, 0, 1])) (Y := (fun e w => keep_Records_L2 R (e 1) (e 5) (e 6) (e 44) (e 45) (e 46) w)) (keep_Records_L2_eq R) (fun e w => by kernel_rfl)
def keep_Records_b4 (R : Value → World → Prop) (N1 : List Value → World → Prop) (x1 x5 x6 x32 x33 x34 : Value) (w : World) : Prop :=
  qG Tryz.prog (bq .lss 3 (.tmp 34) (.tmp 33) x34 x33) w fun t35 =>
  bV t35
  (ia 6 x32 x34 fun t36 =>
  ldn 6 t36 w fun t37 =>
  newG (zc Tryz.prog 70) 70 w fun t10 w =>
  stn 6 t10 t37 w fun w =>
  ldn 6 t10 w fun t39 =>
  callG Tryz.prog 26 #[t39] w fun t40 w =>
  callV Tryz.prog x6 #[(.string ⟨#[72]⟩), t40] w fun t41 w =>
  qG Tryz.prog (bq .add 3 (.tmp 34) (.const (.int .i64 1)) x34 (.int .i64 1)) w fun t42 =>
  N1 [x1, x5, x6, x32, x33, t42] w)
  (keep_Records_s3 R x1 x5 x6 w)
theorem keep_Records_b4_eq (R : Value → World → Prop) (N1 : List Value → World → Prop) : ∀ e w, lift Tryz.prog 62 (sub (bodyOf Tryz.f8) [1, 1, 1, 1, 1, 0, 1, 0, 0]) (seqK (fun e w => N1 [e 1, e 5, e 6, e 32, e 33, e 34] w) (blockK 2 (seqK (fun e w => keep_Records_s3 R (e 1) (e 5) (e 6) w) (finK Tryz.prog Tryz.f8.results.toList R)))) e w = keep_Records_b4 R N1 (e 1) (e 5) (e 6) (e 32) (e 33) (e 34) w := fun e w => by kernel_rfl
def keep_Records_L5F (R : Value → World → Prop) (N1 : List Value → World → Prop) (xs : List Value) (w : World) : Prop :=
  match xs with
  | [x1, x5, x6, x32, x33, x34] => keep_Records_b4 R N1 x1 x5 x6 x32 x33 x34 w
  | _ => False
def keep_Records_L5 (R : Value → World → Prop) (x1 x5 x6 x32 x33 x34 : Value) (w : World) : Prop :=
  ∃ m, loopV (keep_Records_L5F R) m [x1, x5, x6, x32, x33, x34] w
theorem keep_Records_L5_eq (R : Value → World → Prop) : ∀ e w, lift Tryz.prog 62 (sub (bodyOf Tryz.f8) [1, 1, 1, 1, 1, 0, 1, 0]) (blockK 2 (seqK (fun e w => keep_Records_s3 R (e 1) (e 5) (e 6) w) (finK Tryz.prog Tryz.f8.results.toList R))) e w = keep_Records_L5 R (e 1) (e 5) (e 6) (e 32) (e 33) (e 34) w := loop_seg (F := keep_Records_L5F R) (sel := fun e => [e 1, e 5, e 6, e 32, e 33, e 34]) fun N1 => (keep_Records_b4_eq R N1)
def keep_Records_s6 (R : Value → World → Prop) (x1 x5 x6 : Value) (w : World) : Prop :=
  fa 1 x1 fun t31 =>
  ld1 t31 w fun t32 =>
  lenL t32 fun t33 =>
  keep_Records_L5 R x1 x5 x6 t32 t33 (.int .i64 0) w
theorem keep_Records_s6_eq (R : Value → World → Prop) : ∀ e w, lift Tryz.prog 62 (sub (bodyOf Tryz.f8) [1, 1, 1, 1, 1, 0]) (seqK (fun e w => keep_Records_s3 R (e 1) (e 5) (e 6) w) (finK Tryz.prog Tryz.f8.results.toList R)) e w = keep_Records_s6 R (e 1) (e 5) (e 6) w :=
  segs_eq (l := [(sub (bodyOf Tryz.f8) [1, 1, 1, 1, 1, 0, 0])]) (y := (sub (bodyOf Tryz.f8) [1, 1, 1, 1, 1, 0, 1])) (Y := (fun e w => keep_Records_L5 R (e 1) (e 5) (e 6) (e 32) (e 33) (e 34) w)) (keep_Records_L5_eq R) (fun e w => by kernel_rfl)
def keep_Records_b7 (R : Value → World → Prop) (N1 : List Value → World → Prop) (x1 x5 x6 x20 x21 x22 : Value) (w : World) : Prop :=
  qG Tryz.prog (bq .lss 3 (.tmp 22) (.tmp 21) x22 x21) w fun t23 =>
  bV t23
  (ia 4 x20 x22 fun t24 =>
  ldn 4 t24 w fun t25 =>
  newG (zc Tryz.prog 48) 48 w fun t8 w =>
  stn 4 t8 t25 w fun w =>
  ldn 4 t8 w fun t27 =>
  callG Tryz.prog 25 #[t27] w fun t28 w =>
  callV Tryz.prog x6 #[(.string ⟨#[83]⟩), t28] w fun t29 w =>
  qG Tryz.prog (bq .add 3 (.tmp 22) (.const (.int .i64 1)) x22 (.int .i64 1)) w fun t30 =>
  N1 [x1, x5, x6, x20, x21, t30] w)
  (keep_Records_s6 R x1 x5 x6 w)
theorem keep_Records_b7_eq (R : Value → World → Prop) (N1 : List Value → World → Prop) : ∀ e w, lift Tryz.prog 62 (sub (bodyOf Tryz.f8) [1, 1, 1, 1, 0, 1, 0, 0]) (seqK (fun e w => N1 [e 1, e 5, e 6, e 20, e 21, e 22] w) (blockK 0 (seqK (fun e w => keep_Records_s6 R (e 1) (e 5) (e 6) w) (finK Tryz.prog Tryz.f8.results.toList R)))) e w = keep_Records_b7 R N1 (e 1) (e 5) (e 6) (e 20) (e 21) (e 22) w := fun e w => by kernel_rfl
def keep_Records_L8F (R : Value → World → Prop) (N1 : List Value → World → Prop) (xs : List Value) (w : World) : Prop :=
  match xs with
  | [x1, x5, x6, x20, x21, x22] => keep_Records_b7 R N1 x1 x5 x6 x20 x21 x22 w
  | _ => False
def keep_Records_L8 (R : Value → World → Prop) (x1 x5 x6 x20 x21 x22 : Value) (w : World) : Prop :=
  ∃ m, loopV (keep_Records_L8F R) m [x1, x5, x6, x20, x21, x22] w
theorem keep_Records_L8_eq (R : Value → World → Prop) : ∀ e w, lift Tryz.prog 62 (sub (bodyOf Tryz.f8) [1, 1, 1, 1, 0, 1, 0]) (blockK 0 (seqK (fun e w => keep_Records_s6 R (e 1) (e 5) (e 6) w) (finK Tryz.prog Tryz.f8.results.toList R))) e w = keep_Records_L8 R (e 1) (e 5) (e 6) (e 20) (e 21) (e 22) w := loop_seg (F := keep_Records_L8F R) (sel := fun e => [e 1, e 5, e 6, e 20, e 21, e 22]) fun N1 => (keep_Records_b7_eq R N1)
def keep_Records_s9 (R : Value → World → Prop) (x1 x5 x6 : Value) (w : World) : Prop :=
  fa 0 x1 fun t19 =>
  ld1 t19 w fun t20 =>
  lenL t20 fun t21 =>
  keep_Records_L8 R x1 x5 x6 t20 t21 (.int .i64 0) w
theorem keep_Records_s9_eq (R : Value → World → Prop) : ∀ e w, lift Tryz.prog 62 (sub (bodyOf Tryz.f8) [1, 1, 1, 1, 0]) (seqK (fun e w => keep_Records_s6 R (e 1) (e 5) (e 6) w) (finK Tryz.prog Tryz.f8.results.toList R)) e w = keep_Records_s9 R (e 1) (e 5) (e 6) w :=
  segs_eq (l := [(sub (bodyOf Tryz.f8) [1, 1, 1, 1, 0, 0])]) (y := (sub (bodyOf Tryz.f8) [1, 1, 1, 1, 0, 1])) (Y := (fun e w => keep_Records_L8 R (e 1) (e 5) (e 6) (e 20) (e 21) (e 22) w)) (keep_Records_L8_eq R) (fun e w => by kernel_rfl)
def keep_Records_s10 (R : Value → World → Prop) (x0 : Value) (w : World) : Prop :=
  newG (Value.cells x0) 26 w fun t1 w =>
  ldn 4 t1 w fun t13 =>
  callG Tryz.prog 22 #[t13] w fun t14 w =>
  qG Tryz.prog (bq .neq 30 (.tmp 15) (.const (.int .i64 0)) t14 (.int .i64 0)) w fun t16 =>
  bV t16
  (R (.tuple #[(.slice none 0 0), t14]) w)
  (newG (zc Tryz.prog 29) 29 w fun t5 w =>
  qG Tryz.prog (Instr.makeFunc (.func 23) #[] #[t5]) w fun t18 =>
  keep_Records_s9 R t1 t5 t18 w)
theorem keep_Records_s10_eq (R : Value → World → Prop) : ∀ e w, lift Tryz.prog 62 (bodyOf Tryz.f8) (finK Tryz.prog Tryz.f8.results.toList R) e w = keep_Records_s10 R (e 0) w :=
  segs_eq (l := [(sub (bodyOf Tryz.f8) [0]), (sub (bodyOf Tryz.f8) [1, 0]), (sub (bodyOf Tryz.f8) [1, 1, 0]), (sub (bodyOf Tryz.f8) [1, 1, 1, 0])]) (y := (sub (bodyOf Tryz.f8) [1, 1, 1, 1])) (Y := (fun e w => keep_Records_s9 R (e 1) (e 5) (e 6) w)) (seq_seg (x := (sub (bodyOf Tryz.f8) [1, 1, 1, 1, 0])) (y := (sub (bodyOf Tryz.f8) [1, 1, 1, 1, 1])) (seq_seg (x := (sub (bodyOf Tryz.f8) [1, 1, 1, 1, 1, 0])) (y := (sub (bodyOf Tryz.f8) [1, 1, 1, 1, 1, 1])) (seq_seg (x := (sub (bodyOf Tryz.f8) [1, 1, 1, 1, 1, 1, 0])) (y := (sub (bodyOf Tryz.f8) [1, 1, 1, 1, 1, 1, 1])) (keep_Records_s0_eq R) (keep_Records_s3_eq R)) (keep_Records_s6_eq R)) (keep_Records_s9_eq R)) (fun e w => by kernel_rfl)
def keep_Records (R : Value → World → Prop) (x0 : Value) (w : World) : Prop := keep_Records_s10 R x0 w
theorem keep_Records_call {R : Value → World → Prop} {x0 : Value} {w : World} (h : keep_Records R x0 w) : callG Tryz.prog 8 #[x0] w R :=
  calls_lift_eq Tryz.mixed Tryz.func8 (args := [x0]) rfl rfl rfl rfl ((keep_Records_s10_eq R) (envOf [x0]) w) (by kernel_rfl) h
def slices_Equal_string_string_s0 (R : Value → World → Prop) (w : World) : Prop :=
  R (.bool true) w
theorem slices_Equal_string_string_s0_eq (R : Value → World → Prop) : ∀ e w, lift Tryz.prog 26 (sub (bodyOf Tryz.f114) [1, 1, 1]) (finK Tryz.prog Tryz.f114.results.toList R) e w = slices_Equal_string_string_s0 R w := fun e w => by kernel_rfl
def slices_Equal_string_string_b1 (R : Value → World → Prop) (N1 : List Value → World → Prop) (x0 x1 x12 x13 : Value) (w : World) : Prop :=
  qG Tryz.prog (bq .lss 3 (.tmp 13) (.tmp 12) x13 x12) w fun t14 =>
  bV t14
  (ia 1 x0 x13 fun t18 =>
  ld1 t18 (World.drew w) fun t19 =>
  ia 1 x1 x13 fun t22 =>
  ld1 t22 (World.drew w) fun t23 =>
  qG Tryz.prog (bq .neq 9 (.tmp 19) (.tmp 23) t19 t23) (World.drew w) fun t24 =>
  bV t24
  (R (.bool false) (World.drew w))
  (qG Tryz.prog (bq .add 3 (.tmp 13) (.const (.int .i64 1)) x13 (.int .i64 1)) (World.drew w) fun t25 =>
  N1 [x0, x1, x12, t25] (World.drew w)))
  (slices_Equal_string_string_s0 R  w)
theorem slices_Equal_string_string_b1_eq (R : Value → World → Prop) (N1 : List Value → World → Prop) : ∀ e w, lift Tryz.prog 26 (sub (bodyOf Tryz.f114) [1, 1, 0, 1, 0, 0]) (seqK (fun e w => N1 [e 0, e 1, e 12, e 13] w) (blockK 0 (seqK (fun e w => slices_Equal_string_string_s0 R  w) (finK Tryz.prog Tryz.f114.results.toList R)))) e w = slices_Equal_string_string_b1 R N1 (e 0) (e 1) (e 12) (e 13) w := fun e w => by kernel_rfl
def slices_Equal_string_string_L2F (R : Value → World → Prop) (N1 : List Value → World → Prop) (xs : List Value) (w : World) : Prop :=
  match xs with
  | [x0, x1, x12, x13] => slices_Equal_string_string_b1 R N1 x0 x1 x12 x13 w
  | _ => False
def slices_Equal_string_string_L2 (R : Value → World → Prop) (x0 x1 x12 x13 : Value) (w : World) : Prop :=
  ∃ m, loopV (slices_Equal_string_string_L2F R) m [x0, x1, x12, x13] w
theorem slices_Equal_string_string_L2_eq (R : Value → World → Prop) : ∀ e w, lift Tryz.prog 26 (sub (bodyOf Tryz.f114) [1, 1, 0, 1, 0]) (blockK 0 (seqK (fun e w => slices_Equal_string_string_s0 R  w) (finK Tryz.prog Tryz.f114.results.toList R))) e w = slices_Equal_string_string_L2 R (e 0) (e 1) (e 12) (e 13) w := loop_seg (F := slices_Equal_string_string_L2F R) (sel := fun e => [e 0, e 1, e 12, e 13]) fun N1 => (slices_Equal_string_string_b1_eq R N1)
def slices_Equal_string_string_s3 (R : Value → World → Prop) (x0 x1 : Value) (w : World) : Prop :=
  lenL x0 fun t12 =>
  slices_Equal_string_string_L2 R x0 x1 t12 (.int .i64 0) w
theorem slices_Equal_string_string_s3_eq (R : Value → World → Prop) : ∀ e w, lift Tryz.prog 26 (sub (bodyOf Tryz.f114) [1, 1, 0]) (seqK (fun e w => slices_Equal_string_string_s0 R  w) (finK Tryz.prog Tryz.f114.results.toList R)) e w = slices_Equal_string_string_s3 R (e 0) (e 1) w :=
  segs_eq (l := [(sub (bodyOf Tryz.f114) [1, 1, 0, 0])]) (y := (sub (bodyOf Tryz.f114) [1, 1, 0, 1])) (Y := (fun e w => slices_Equal_string_string_L2 R (e 0) (e 1) (e 12) (e 13) w)) (slices_Equal_string_string_L2_eq R) (fun e w => by kernel_rfl)
def slices_Equal_string_string_s4 (R : Value → World → Prop) (x0 x1 : Value) (w : World) : Prop :=
  lenL x0 fun t7 =>
  lenL x1 fun t9 =>
  qG Tryz.prog (bq .neq 3 (.tmp 7) (.tmp 9) t7 t9) w fun t10 =>
  bV t10
  (R (.bool false) w)
  (slices_Equal_string_string_s3 R x0 x1 w)
theorem slices_Equal_string_string_s4_eq (R : Value → World → Prop) : ∀ e w, lift Tryz.prog 26 (bodyOf Tryz.f114) (finK Tryz.prog Tryz.f114.results.toList R) e w = slices_Equal_string_string_s4 R (e 0) (e 1) w :=
  segs_eq (l := [(sub (bodyOf Tryz.f114) [0]), (sub (bodyOf Tryz.f114) [1, 0])]) (y := (sub (bodyOf Tryz.f114) [1, 1])) (Y := (fun e w => slices_Equal_string_string_s3 R (e 0) (e 1) w)) (seq_seg (x := (sub (bodyOf Tryz.f114) [1, 1, 0])) (y := (sub (bodyOf Tryz.f114) [1, 1, 1])) (slices_Equal_string_string_s0_eq R) (slices_Equal_string_string_s3_eq R)) (fun e w => by kernel_rfl)
def slices_Equal_string_string (R : Value → World → Prop) (x0 x1 : Value) (w : World) : Prop := slices_Equal_string_string_s4 R x0 x1 w
theorem slices_Equal_string_string_call {R : Value → World → Prop} {x0 x1 : Value} {w : World} (h : slices_Equal_string_string R x0 x1 w) : callG Tryz.prog 114 #[x0, x1] w R :=
  calls_lift_eq Tryz.mixed Tryz.func114 (args := [x0, x1]) rfl rfl rfl rfl ((slices_Equal_string_string_s4_eq R) (envOf [x0, x1]) w) (by kernel_rfl) h
def keep_laid_s0 (R : Value → World → Prop) (x2 x5 : Value) (w : World) : Prop :=
  ldn 4 x5 w fun t118 =>
  stn 4 x2 t118 w fun w =>
  qG Tryz.prog (do loadVar 26 (← asAddr x2)) w fun r2 =>
  R (.tuple #[r2, (.slice none 0 0), (.bool false)]) w
theorem keep_laid_s0_eq (R : Value → World → Prop) : ∀ e w, lift Tryz.prog 119 (sub (bodyOf Tryz.f85) [1, 1, 1]) (finK Tryz.prog Tryz.f85.results.toList R) e w = keep_laid_s0 R (e 2) (e 5) w := fun e w => by kernel_rfl
def keep_laid_s1 (R : Value → World → Prop) (N1 : List Value → World → Prop) (x0 x2 x5 x18 x19 x20 : Value) (w : World) : Prop :=
  qG Tryz.prog (bq .add 3 (.tmp 20) (.const (.int .i64 1)) x20 (.int .i64 1)) w fun t117 =>
  N1 [x0, x2, x5, x18, x19, t117] w
theorem keep_laid_s1_eq (R : Value → World → Prop) (N1 : List Value → World → Prop) : ∀ e w, lift Tryz.prog 119 (sub (bodyOf Tryz.f85) [1, 1, 0, 1, 0, 0, 1, 1, 1]) (seqK (fun e w => N1 [e 0, e 2, e 5, e 18, e 19, e 20] w) (blockK 0 (seqK (fun e w => keep_laid_s0 R (e 2) (e 5) w) (finK Tryz.prog Tryz.f85.results.toList R)))) e w = keep_laid_s1 R N1 (e 0) (e 2) (e 5) (e 18) (e 19) (e 20) w := fun e w => by kernel_rfl
def keep_laid_s2 (R : Value → World → Prop) (N1 : List Value → World → Prop) (x0 x2 x5 x9 x18 x19 x20 : Value) (w : World) : Prop :=
  qG Tryz.prog (bq .neq 30 (.tmp 115) (.const (.int .i64 0)) x9 (.int .i64 0)) w fun t116 =>
  bV t116
  (keep_laid_s0 R x2 x5 w)
  (keep_laid_s1 R N1 x0 x2 x5 x18 x19 x20 w)
theorem keep_laid_s2_eq (R : Value → World → Prop) (N1 : List Value → World → Prop) : ∀ e w, lift Tryz.prog 119 (sub (bodyOf Tryz.f85) [1, 1, 0, 1, 0, 0, 1, 1, 0, 0, 1, 1, 1, 1]) (blockK 1 (seqK (fun e w => keep_laid_s1 R N1 (e 0) (e 2) (e 5) (e 18) (e 19) (e 20) w) (seqK (fun e w => N1 [e 0, e 2, e 5, e 18, e 19, e 20] w) (blockK 0 (seqK (fun e w => keep_laid_s0 R (e 2) (e 5) w) (finK Tryz.prog Tryz.f85.results.toList R)))))) e w = keep_laid_s2 R N1 (e 0) (e 2) (e 5) (e 9) (e 18) (e 19) (e 20) w := fun e w => by kernel_rfl
def keep_laid_s3 (R : Value → World → Prop) (N1 : List Value → World → Prop) (x0 x2 x5 x8 x18 x19 x20 : Value) (w : World) : Prop :=
  callG Tryz.prog 111 #[x8] w fun t39 w =>
  qG Tryz.prog (Instr.extract t39 0) w fun t40 =>
  qG Tryz.prog (Instr.extract t39 1) w fun t41 =>
  newG (zc Tryz.prog 48) 48 w fun t10 w =>
  stn 4 t10 t40 w fun w =>
  fa 0 x5 fun t42 =>
  ld1 t42 w fun t43 =>
  ldn 4 t10 w fun t44 =>
  bsl 48 4 1 (zc Tryz.prog 48) #[(0, t44)] w fun t45 w =>
  app 48 4 48 (zc Tryz.prog 48) t43 t45 w fun t46 w =>
  fa 0 x5 fun t48 =>
  st1 t48 t46 w fun w =>
  keep_laid_s2 R N1 x0 x2 x5 t41 x18 x19 x20 w
theorem keep_laid_s3_eq (R : Value → World → Prop) (N1 : List Value → World → Prop) : ∀ e w, lift Tryz.prog 119 (sub (bodyOf Tryz.f85) [1, 1, 0, 1, 0, 0, 1, 1, 0, 0, 1, 1, 1, 0, 1, 0, 1, 0]) (blockK 2 (seqK (fun e w => keep_laid_s2 R N1 (e 0) (e 2) (e 5) (e 9) (e 18) (e 19) (e 20) w) (blockK 1 (seqK (fun e w => keep_laid_s1 R N1 (e 0) (e 2) (e 5) (e 18) (e 19) (e 20) w) (seqK (fun e w => N1 [e 0, e 2, e 5, e 18, e 19, e 20] w) (blockK 0 (seqK (fun e w => keep_laid_s0 R (e 2) (e 5) w) (finK Tryz.prog Tryz.f85.results.toList R)))))))) e w = keep_laid_s3 R N1 (e 0) (e 2) (e 5) (e 8) (e 18) (e 19) (e 20) w := fun e w => by kernel_rfl
def keep_laid_s4 (R : Value → World → Prop) (N1 : List Value → World → Prop) (x0 x2 x5 x8 x18 x19 x20 : Value) (w : World) : Prop :=
  callG Tryz.prog 112 #[x8] w fun t53 w =>
  qG Tryz.prog (Instr.extract t53 0) w fun t54 =>
  qG Tryz.prog (Instr.extract t53 1) w fun t55 =>
  newG (zc Tryz.prog 70) 70 w fun t12 w =>
  stn 6 t12 t54 w fun w =>
  fa 1 x5 fun t56 =>
  ld1 t56 w fun t57 =>
  ldn 6 t12 w fun t58 =>
  bsl 70 6 1 (zc Tryz.prog 70) #[(0, t58)] w fun t59 w =>
  app 70 6 64 (zc Tryz.prog 70) t57 t59 w fun t60 w =>
  fa 1 x5 fun t62 =>
  st1 t62 t60 w fun w =>
  keep_laid_s2 R N1 x0 x2 x5 t55 x18 x19 x20 w
theorem keep_laid_s4_eq (R : Value → World → Prop) (N1 : List Value → World → Prop) : ∀ e w, lift Tryz.prog 119 (sub (bodyOf Tryz.f85) [1, 1, 0, 1, 0, 0, 1, 1, 0, 0, 1, 1, 1, 0, 1, 0, 1, 1, 1, 0]) (blockK 2 (seqK (fun e w => keep_laid_s2 R N1 (e 0) (e 2) (e 5) (e 9) (e 18) (e 19) (e 20) w) (blockK 1 (seqK (fun e w => keep_laid_s1 R N1 (e 0) (e 2) (e 5) (e 18) (e 19) (e 20) w) (seqK (fun e w => N1 [e 0, e 2, e 5, e 18, e 19, e 20] w) (blockK 0 (seqK (fun e w => keep_laid_s0 R (e 2) (e 5) w) (finK Tryz.prog Tryz.f85.results.toList R)))))))) e w = keep_laid_s4 R N1 (e 0) (e 2) (e 5) (e 8) (e 18) (e 19) (e 20) w := fun e w => by kernel_rfl
def keep_laid_s5 (R : Value → World → Prop) (N1 : List Value → World → Prop) (x0 x2 x5 x8 x18 x19 x20 : Value) (w : World) : Prop :=
  callG Tryz.prog 113 #[x8] w fun t67 w =>
  qG Tryz.prog (Instr.extract t67 0) w fun t68 =>
  qG Tryz.prog (Instr.extract t67 1) w fun t69 =>
  newG (zc Tryz.prog 73) 73 w fun t14 w =>
  stn 6 t14 t68 w fun w =>
  fa 2 x5 fun t70 =>
  ld1 t70 w fun t71 =>
  ldn 6 t14 w fun t72 =>
  bsl 73 6 1 (zc Tryz.prog 73) #[(0, t72)] w fun t73 w =>
  app 73 6 64 (zc Tryz.prog 73) t71 t73 w fun t74 w =>
  fa 2 x5 fun t76 =>
  st1 t76 t74 w fun w =>
  keep_laid_s2 R N1 x0 x2 x5 t69 x18 x19 x20 w
theorem keep_laid_s5_eq (R : Value → World → Prop) (N1 : List Value → World → Prop) : ∀ e w, lift Tryz.prog 119 (sub (bodyOf Tryz.f85) [1, 1, 0, 1, 0, 0, 1, 1, 0, 0, 1, 1, 1, 0, 1, 0, 1, 1, 1, 1, 1, 0]) (blockK 2 (seqK (fun e w => keep_laid_s2 R N1 (e 0) (e 2) (e 5) (e 9) (e 18) (e 19) (e 20) w) (blockK 1 (seqK (fun e w => keep_laid_s1 R N1 (e 0) (e 2) (e 5) (e 18) (e 19) (e 20) w) (seqK (fun e w => N1 [e 0, e 2, e 5, e 18, e 19, e 20] w) (blockK 0 (seqK (fun e w => keep_laid_s0 R (e 2) (e 5) w) (finK Tryz.prog Tryz.f85.results.toList R)))))))) e w = keep_laid_s5 R N1 (e 0) (e 2) (e 5) (e 8) (e 18) (e 19) (e 20) w := fun e w => by kernel_rfl
def keep_laid_s6 (R : Value → World → Prop) (N1 : List Value → World → Prop) (x0 x2 x5 x6 x8 : Value) (w : World) : Prop :=
  ia 3 x8 (.int .i64 0) fun t91 =>
  fa 1 t91 fun t92 =>
  ld1 t92 w fun t93 =>
  fa 3 x5 fun t94 =>
  st1 t94 t93 w fun w =>
  ldn 4 x5 w fun t96 =>
  callG Tryz.prog 8 #[t96] w fun t97 w =>
  qG Tryz.prog (Instr.extract t97 0) w fun t98 =>
  qG Tryz.prog (Instr.extract t97 1) w fun t99 =>
  ldn 4 x5 (World.drew w) fun t100 =>
  qG Tryz.prog (bq .add 3 (.tmp 102) (.const (.int .i64 1)) x6 (.int .i64 1)) (World.drew w) fun t103 =>
  slL 1 x0 (some t103) none fun t104 =>
  qG Tryz.prog (bq .eql 30 (.tmp 105) (.const (.int .i64 0)) t99 (.int .i64 0)) (World.drew w) fun t106 =>
  bV t106
  (qG Tryz.prog (bq .add 3 (.tmp 110) (.const (.int .i64 1)) x6 (.int .i64 1)) (World.drew w) fun t111 =>
  slL 1 x0 none (some t111) fun t112 =>
  callG Tryz.prog 114 #[t98, t112] (World.drew w) fun t113 w =>
  stb Tryz.prog (bq .add 3 (.tmp 102) (.const (.int .i64 1)) x6 (.int .i64 1)) t103 w ∧
  ldn 4 x5 w (fun u => u = t100) ∧
  stn 4 x2 t100 w fun w =>
  stb Tryz.prog (bq .add 3 (.tmp 102) (.const (.int .i64 1)) x6 (.int .i64 1)) t103 w ∧
  qG Tryz.prog (do loadVar 26 (← asAddr x2)) w fun r2 =>
  R (.tuple #[r2, t104, t113]) w)
  (stn 4 x2 t100 (World.drew w) fun w =>
  stb Tryz.prog (bq .add 3 (.tmp 102) (.const (.int .i64 1)) x6 (.int .i64 1)) t103 w ∧
  qG Tryz.prog (do loadVar 26 (← asAddr x2)) w fun r2_1 =>
  R (.tuple #[r2_1, t104, (.bool false)]) w)
theorem keep_laid_s6_eq (R : Value → World → Prop) (N1 : List Value → World → Prop) : ∀ e w, lift Tryz.prog 119 (sub (bodyOf Tryz.f85) [1, 1, 0, 1, 0, 0, 1, 1, 0, 0, 1, 1, 1, 0, 1, 0, 1, 1, 1, 1, 1, 1, 1, 0, 1]) (blockK 2 (seqK (fun e w => keep_laid_s2 R N1 (e 0) (e 2) (e 5) (e 9) (e 18) (e 19) (e 20) w) (blockK 1 (seqK (fun e w => keep_laid_s1 R N1 (e 0) (e 2) (e 5) (e 18) (e 19) (e 20) w) (seqK (fun e w => N1 [e 0, e 2, e 5, e 18, e 19, e 20] w) (blockK 0 (seqK (fun e w => keep_laid_s0 R (e 2) (e 5) w) (finK Tryz.prog Tryz.f85.results.toList R)))))))) e w = keep_laid_s6 R N1 (e 0) (e 2) (e 5) (e 6) (e 8) w := fun e w => by kernel_rfl
def keep_laid_s7 (R : Value → World → Prop) (N1 : List Value → World → Prop) (x0 x2 x5 x6 x8 : Value) (w : World) : Prop :=
  lenL x8 fun t80 =>
  qG Tryz.prog (bq .neq 3 (.tmp 80) (.const (.int .i64 1)) t80 (.int .i64 1)) w fun t81 =>
  bV t81
  (ldn 4 x5 w fun t89 =>
  stn 4 x2 t89 w fun w =>
  qG Tryz.prog (do loadVar 26 (← asAddr x2)) w fun r2 =>
  R (.tuple #[r2, (.slice none 0 0), (.bool false)]) w)
  (ia 3 x8 (.int .i64 0) fun t84 =>
  fa 0 t84 fun t85 =>
  ld1 t85 w fun t86 =>
  qG Tryz.prog (bq .neq 3 (.tmp 86) (.const (.int .i64 1)) t86 (.int .i64 1)) w fun t87 =>
  bV t87
  (ldn 4 x5 w fun t89_1 =>
  stn 4 x2 t89_1 w fun w =>
  qG Tryz.prog (do loadVar 26 (← asAddr x2)) w fun r2_1 =>
  R (.tuple #[r2_1, (.slice none 0 0), (.bool false)]) w)
  (keep_laid_s6 R N1 x0 x2 x5 x6 x8 w))
theorem keep_laid_s7_eq (R : Value → World → Prop) (N1 : List Value → World → Prop) : ∀ e w, lift Tryz.prog 119 (sub (bodyOf Tryz.f85) [1, 1, 0, 1, 0, 0, 1, 1, 0, 0, 1, 1, 1, 0, 1, 0, 1, 1, 1, 1, 1, 1, 1, 0]) (blockK 2 (seqK (fun e w => keep_laid_s2 R N1 (e 0) (e 2) (e 5) (e 9) (e 18) (e 19) (e 20) w) (blockK 1 (seqK (fun e w => keep_laid_s1 R N1 (e 0) (e 2) (e 5) (e 18) (e 19) (e 20) w) (seqK (fun e w => N1 [e 0, e 2, e 5, e 18, e 19, e 20] w) (blockK 0 (seqK (fun e w => keep_laid_s0 R (e 2) (e 5) w) (finK Tryz.prog Tryz.f85.results.toList R)))))))) e w = keep_laid_s7 R N1 (e 0) (e 2) (e 5) (e 6) (e 8) w :=
  segs_eq (l := [(sub (bodyOf Tryz.f85) [1, 1, 0, 1, 0, 0, 1, 1, 0, 0, 1, 1, 1, 0, 1, 0, 1, 1, 1, 1, 1, 1, 1, 0, 0])]) (y := (sub (bodyOf Tryz.f85) [1, 1, 0, 1, 0, 0, 1, 1, 0, 0, 1, 1, 1, 0, 1, 0, 1, 1, 1, 1, 1, 1, 1, 0, 1])) (Y := (fun e w => keep_laid_s6 R N1 (e 0) (e 2) (e 5) (e 6) (e 8) w)) (keep_laid_s6_eq R N1) (fun e w => by kernel_rfl)
def keep_laid_s8 (R : Value → World → Prop) (N1 : List Value → World → Prop) (x0 x2 x5 x18 x19 x20 : Value) (w : World) : Prop :=
  keep_laid_s2 R N1 x0 x2 x5 (.int .i64 50) x18 x19 x20 w
theorem keep_laid_s8_eq (R : Value → World → Prop) (N1 : List Value → World → Prop) : ∀ e w, lift Tryz.prog 119 (sub (bodyOf Tryz.f85) [1, 1, 0, 1, 0, 0, 1, 1, 0, 0, 1, 1, 1, 0, 1, 0, 1, 1, 1, 1, 1, 1, 1, 1]) (blockK 2 (seqK (fun e w => keep_laid_s2 R N1 (e 0) (e 2) (e 5) (e 9) (e 18) (e 19) (e 20) w) (blockK 1 (seqK (fun e w => keep_laid_s1 R N1 (e 0) (e 2) (e 5) (e 18) (e 19) (e 20) w) (seqK (fun e w => N1 [e 0, e 2, e 5, e 18, e 19, e 20] w) (blockK 0 (seqK (fun e w => keep_laid_s0 R (e 2) (e 5) w) (finK Tryz.prog Tryz.f85.results.toList R)))))))) e w = keep_laid_s8 R N1 (e 0) (e 2) (e 5) (e 18) (e 19) (e 20) w := fun e w => by kernel_rfl
def keep_laid_s9 (R : Value → World → Prop) (N1 : List Value → World → Prop) (x0 x2 x5 x6 x8 x18 x19 x20 x77 : Value) (w : World) : Prop :=
  bV x77 (keep_laid_s7 R N1 x0 x2 x5 x6 x8 w) (keep_laid_s8 R N1 x0 x2 x5 x18 x19 x20 w)
theorem keep_laid_s9_eq (R : Value → World → Prop) (N1 : List Value → World → Prop) : ∀ e w, lift Tryz.prog 119 (sub (bodyOf Tryz.f85) [1, 1, 0, 1, 0, 0, 1, 1, 0, 0, 1, 1, 1, 0, 1, 0, 1, 1, 1, 1, 1, 1, 1]) (blockK 2 (seqK (fun e w => keep_laid_s2 R N1 (e 0) (e 2) (e 5) (e 9) (e 18) (e 19) (e 20) w) (blockK 1 (seqK (fun e w => keep_laid_s1 R N1 (e 0) (e 2) (e 5) (e 18) (e 19) (e 20) w) (seqK (fun e w => N1 [e 0, e 2, e 5, e 18, e 19, e 20] w) (blockK 0 (seqK (fun e w => keep_laid_s0 R (e 2) (e 5) w) (finK Tryz.prog Tryz.f85.results.toList R)))))))) e w = keep_laid_s9 R N1 (e 0) (e 2) (e 5) (e 6) (e 8) (e 18) (e 19) (e 20) (e 77) w := fun e w => (cond_seg (x := (sub (bodyOf Tryz.f85) [1, 1, 0, 1, 0, 0, 1, 1, 0, 0, 1, 1, 1, 0, 1, 0, 1, 1, 1, 1, 1, 1, 1, 0])) (y := (sub (bodyOf Tryz.f85) [1, 1, 0, 1, 0, 0, 1, 1, 0, 0, 1, 1, 1, 0, 1, 0, 1, 1, 1, 1, 1, 1, 1, 1])) (keep_laid_s7_eq R N1) (keep_laid_s8_eq R N1) e w).trans (by kernel_rfl)
def keep_laid_s10 (R : Value → World → Prop) (N1 : List Value → World → Prop) (x0 x2 x5 x6 x8 x18 x19 x20 x34 : Value) (w : World) : Prop :=
  qG Tryz.prog (bq .eql 9 (.tmp 34) (.const (.string ⟨#[69]⟩)) x34 (.string ⟨#[69]⟩)) w fun t78 =>
  keep_laid_s9 R N1 x0 x2 x5 x6 x8 x18 x19 x20 t78 w
theorem keep_laid_s10_eq (R : Value → World → Prop) (N1 : List Value → World → Prop) : ∀ e w, lift Tryz.prog 119 (sub (bodyOf Tryz.f85) [1, 1, 0, 1, 0, 0, 1, 1, 0, 0, 1, 1, 1, 0, 1, 0, 1, 1, 1, 1, 1, 1]) (blockK 2 (seqK (fun e w => keep_laid_s2 R N1 (e 0) (e 2) (e 5) (e 9) (e 18) (e 19) (e 20) w) (blockK 1 (seqK (fun e w => keep_laid_s1 R N1 (e 0) (e 2) (e 5) (e 18) (e 19) (e 20) w) (seqK (fun e w => N1 [e 0, e 2, e 5, e 18, e 19, e 20] w) (blockK 0 (seqK (fun e w => keep_laid_s0 R (e 2) (e 5) w) (finK Tryz.prog Tryz.f85.results.toList R)))))))) e w = keep_laid_s10 R N1 (e 0) (e 2) (e 5) (e 6) (e 8) (e 18) (e 19) (e 20) (e 34) w :=
  segs_eq (l := [(sub (bodyOf Tryz.f85) [1, 1, 0, 1, 0, 0, 1, 1, 0, 0, 1, 1, 1, 0, 1, 0, 1, 1, 1, 1, 1, 1, 0])]) (y := (sub (bodyOf Tryz.f85) [1, 1, 0, 1, 0, 0, 1, 1, 0, 0, 1, 1, 1, 0, 1, 0, 1, 1, 1, 1, 1, 1, 1])) (Y := (fun e w => keep_laid_s9 R N1 (e 0) (e 2) (e 5) (e 6) (e 8) (e 18) (e 19) (e 20) (e 77) w)) (keep_laid_s9_eq R N1) (fun e w => by kernel_rfl)
def keep_laid_s11 (R : Value → World → Prop) (N1 : List Value → World → Prop) (x0 x2 x5 x6 x8 x18 x19 x20 x34 x63 : Value) (w : World) : Prop :=
  bV x63 (keep_laid_s5 R N1 x0 x2 x5 x8 x18 x19 x20 w) (keep_laid_s10 R N1 x0 x2 x5 x6 x8 x18 x19 x20 x34 w)
theorem keep_laid_s11_eq (R : Value → World → Prop) (N1 : List Value → World → Prop) : ∀ e w, lift Tryz.prog 119 (sub (bodyOf Tryz.f85) [1, 1, 0, 1, 0, 0, 1, 1, 0, 0, 1, 1, 1, 0, 1, 0, 1, 1, 1, 1, 1]) (blockK 2 (seqK (fun e w => keep_laid_s2 R N1 (e 0) (e 2) (e 5) (e 9) (e 18) (e 19) (e 20) w) (blockK 1 (seqK (fun e w => keep_laid_s1 R N1 (e 0) (e 2) (e 5) (e 18) (e 19) (e 20) w) (seqK (fun e w => N1 [e 0, e 2, e 5, e 18, e 19, e 20] w) (blockK 0 (seqK (fun e w => keep_laid_s0 R (e 2) (e 5) w) (finK Tryz.prog Tryz.f85.results.toList R)))))))) e w = keep_laid_s11 R N1 (e 0) (e 2) (e 5) (e 6) (e 8) (e 18) (e 19) (e 20) (e 34) (e 63) w := fun e w => (cond_seg (x := (sub (bodyOf Tryz.f85) [1, 1, 0, 1, 0, 0, 1, 1, 0, 0, 1, 1, 1, 0, 1, 0, 1, 1, 1, 1, 1, 0])) (y := (sub (bodyOf Tryz.f85) [1, 1, 0, 1, 0, 0, 1, 1, 0, 0, 1, 1, 1, 0, 1, 0, 1, 1, 1, 1, 1, 1])) (keep_laid_s5_eq R N1) (keep_laid_s10_eq R N1) e w).trans (by kernel_rfl)
def keep_laid_s12 (R : Value → World → Prop) (N1 : List Value → World → Prop) (x0 x2 x5 x6 x8 x18 x19 x20 x34 : Value) (w : World) : Prop :=
  qG Tryz.prog (bq .eql 9 (.tmp 34) (.const (.string ⟨#[77]⟩)) x34 (.string ⟨#[77]⟩)) w fun t64 =>
  keep_laid_s11 R N1 x0 x2 x5 x6 x8 x18 x19 x20 x34 t64 w
theorem keep_laid_s12_eq (R : Value → World → Prop) (N1 : List Value → World → Prop) : ∀ e w, lift Tryz.prog 119 (sub (bodyOf Tryz.f85) [1, 1, 0, 1, 0, 0, 1, 1, 0, 0, 1, 1, 1, 0, 1, 0, 1, 1, 1, 1]) (blockK 2 (seqK (fun e w => keep_laid_s2 R N1 (e 0) (e 2) (e 5) (e 9) (e 18) (e 19) (e 20) w) (blockK 1 (seqK (fun e w => keep_laid_s1 R N1 (e 0) (e 2) (e 5) (e 18) (e 19) (e 20) w) (seqK (fun e w => N1 [e 0, e 2, e 5, e 18, e 19, e 20] w) (blockK 0 (seqK (fun e w => keep_laid_s0 R (e 2) (e 5) w) (finK Tryz.prog Tryz.f85.results.toList R)))))))) e w = keep_laid_s12 R N1 (e 0) (e 2) (e 5) (e 6) (e 8) (e 18) (e 19) (e 20) (e 34) w :=
  segs_eq (l := [(sub (bodyOf Tryz.f85) [1, 1, 0, 1, 0, 0, 1, 1, 0, 0, 1, 1, 1, 0, 1, 0, 1, 1, 1, 1, 0])]) (y := (sub (bodyOf Tryz.f85) [1, 1, 0, 1, 0, 0, 1, 1, 0, 0, 1, 1, 1, 0, 1, 0, 1, 1, 1, 1, 1])) (Y := (fun e w => keep_laid_s11 R N1 (e 0) (e 2) (e 5) (e 6) (e 8) (e 18) (e 19) (e 20) (e 34) (e 63) w)) (keep_laid_s11_eq R N1) (fun e w => by kernel_rfl)
def keep_laid_s13 (R : Value → World → Prop) (N1 : List Value → World → Prop) (x0 x2 x5 x6 x8 x18 x19 x20 x34 x49 : Value) (w : World) : Prop :=
  bV x49 (keep_laid_s4 R N1 x0 x2 x5 x8 x18 x19 x20 w) (keep_laid_s12 R N1 x0 x2 x5 x6 x8 x18 x19 x20 x34 w)
theorem keep_laid_s13_eq (R : Value → World → Prop) (N1 : List Value → World → Prop) : ∀ e w, lift Tryz.prog 119 (sub (bodyOf Tryz.f85) [1, 1, 0, 1, 0, 0, 1, 1, 0, 0, 1, 1, 1, 0, 1, 0, 1, 1, 1]) (blockK 2 (seqK (fun e w => keep_laid_s2 R N1 (e 0) (e 2) (e 5) (e 9) (e 18) (e 19) (e 20) w) (blockK 1 (seqK (fun e w => keep_laid_s1 R N1 (e 0) (e 2) (e 5) (e 18) (e 19) (e 20) w) (seqK (fun e w => N1 [e 0, e 2, e 5, e 18, e 19, e 20] w) (blockK 0 (seqK (fun e w => keep_laid_s0 R (e 2) (e 5) w) (finK Tryz.prog Tryz.f85.results.toList R)))))))) e w = keep_laid_s13 R N1 (e 0) (e 2) (e 5) (e 6) (e 8) (e 18) (e 19) (e 20) (e 34) (e 49) w := fun e w => (cond_seg (x := (sub (bodyOf Tryz.f85) [1, 1, 0, 1, 0, 0, 1, 1, 0, 0, 1, 1, 1, 0, 1, 0, 1, 1, 1, 0])) (y := (sub (bodyOf Tryz.f85) [1, 1, 0, 1, 0, 0, 1, 1, 0, 0, 1, 1, 1, 0, 1, 0, 1, 1, 1, 1])) (keep_laid_s4_eq R N1) (keep_laid_s12_eq R N1) e w).trans (by kernel_rfl)
def keep_laid_s14 (R : Value → World → Prop) (N1 : List Value → World → Prop) (x0 x2 x5 x6 x8 x18 x19 x20 x34 : Value) (w : World) : Prop :=
  qG Tryz.prog (bq .eql 9 (.tmp 34) (.const (.string ⟨#[72]⟩)) x34 (.string ⟨#[72]⟩)) w fun t50 =>
  keep_laid_s13 R N1 x0 x2 x5 x6 x8 x18 x19 x20 x34 t50 w
theorem keep_laid_s14_eq (R : Value → World → Prop) (N1 : List Value → World → Prop) : ∀ e w, lift Tryz.prog 119 (sub (bodyOf Tryz.f85) [1, 1, 0, 1, 0, 0, 1, 1, 0, 0, 1, 1, 1, 0, 1, 0, 1, 1]) (blockK 2 (seqK (fun e w => keep_laid_s2 R N1 (e 0) (e 2) (e 5) (e 9) (e 18) (e 19) (e 20) w) (blockK 1 (seqK (fun e w => keep_laid_s1 R N1 (e 0) (e 2) (e 5) (e 18) (e 19) (e 20) w) (seqK (fun e w => N1 [e 0, e 2, e 5, e 18, e 19, e 20] w) (blockK 0 (seqK (fun e w => keep_laid_s0 R (e 2) (e 5) w) (finK Tryz.prog Tryz.f85.results.toList R)))))))) e w = keep_laid_s14 R N1 (e 0) (e 2) (e 5) (e 6) (e 8) (e 18) (e 19) (e 20) (e 34) w :=
  segs_eq (l := [(sub (bodyOf Tryz.f85) [1, 1, 0, 1, 0, 0, 1, 1, 0, 0, 1, 1, 1, 0, 1, 0, 1, 1, 0])]) (y := (sub (bodyOf Tryz.f85) [1, 1, 0, 1, 0, 0, 1, 1, 0, 0, 1, 1, 1, 0, 1, 0, 1, 1, 1])) (Y := (fun e w => keep_laid_s13 R N1 (e 0) (e 2) (e 5) (e 6) (e 8) (e 18) (e 19) (e 20) (e 34) (e 49) w)) (keep_laid_s13_eq R N1) (fun e w => by kernel_rfl)
def keep_laid_s15 (R : Value → World → Prop) (N1 : List Value → World → Prop) (x0 x2 x5 x6 x8 x18 x19 x20 x34 x35 : Value) (w : World) : Prop :=
  bV x35 (keep_laid_s3 R N1 x0 x2 x5 x8 x18 x19 x20 w) (keep_laid_s14 R N1 x0 x2 x5 x6 x8 x18 x19 x20 x34 w)
theorem keep_laid_s15_eq (R : Value → World → Prop) (N1 : List Value → World → Prop) : ∀ e w, lift Tryz.prog 119 (sub (bodyOf Tryz.f85) [1, 1, 0, 1, 0, 0, 1, 1, 0, 0, 1, 1, 1, 0, 1, 0, 1]) (blockK 2 (seqK (fun e w => keep_laid_s2 R N1 (e 0) (e 2) (e 5) (e 9) (e 18) (e 19) (e 20) w) (blockK 1 (seqK (fun e w => keep_laid_s1 R N1 (e 0) (e 2) (e 5) (e 18) (e 19) (e 20) w) (seqK (fun e w => N1 [e 0, e 2, e 5, e 18, e 19, e 20] w) (blockK 0 (seqK (fun e w => keep_laid_s0 R (e 2) (e 5) w) (finK Tryz.prog Tryz.f85.results.toList R)))))))) e w = keep_laid_s15 R N1 (e 0) (e 2) (e 5) (e 6) (e 8) (e 18) (e 19) (e 20) (e 34) (e 35) w := fun e w => (cond_seg (x := (sub (bodyOf Tryz.f85) [1, 1, 0, 1, 0, 0, 1, 1, 0, 0, 1, 1, 1, 0, 1, 0, 1, 0])) (y := (sub (bodyOf Tryz.f85) [1, 1, 0, 1, 0, 0, 1, 1, 0, 0, 1, 1, 1, 0, 1, 0, 1, 1])) (keep_laid_s3_eq R N1) (keep_laid_s14_eq R N1) e w).trans (by kernel_rfl)
def keep_laid_s16 (R : Value → World → Prop) (N1 : List Value → World → Prop) (x0 x2 x5 x6 x8 x18 x19 x20 x34 : Value) (w : World) : Prop :=
  qG Tryz.prog (bq .eql 9 (.tmp 34) (.const (.string ⟨#[83]⟩)) x34 (.string ⟨#[83]⟩)) w fun t36 =>
  keep_laid_s15 R N1 x0 x2 x5 x6 x8 x18 x19 x20 x34 t36 w
theorem keep_laid_s16_eq (R : Value → World → Prop) (N1 : List Value → World → Prop) : ∀ e w, lift Tryz.prog 119 (sub (bodyOf Tryz.f85) [1, 1, 0, 1, 0, 0, 1, 1, 0, 0, 1, 1, 1, 0, 1, 0]) (blockK 2 (seqK (fun e w => keep_laid_s2 R N1 (e 0) (e 2) (e 5) (e 9) (e 18) (e 19) (e 20) w) (blockK 1 (seqK (fun e w => keep_laid_s1 R N1 (e 0) (e 2) (e 5) (e 18) (e 19) (e 20) w) (seqK (fun e w => N1 [e 0, e 2, e 5, e 18, e 19, e 20] w) (blockK 0 (seqK (fun e w => keep_laid_s0 R (e 2) (e 5) w) (finK Tryz.prog Tryz.f85.results.toList R)))))))) e w = keep_laid_s16 R N1 (e 0) (e 2) (e 5) (e 6) (e 8) (e 18) (e 19) (e 20) (e 34) w :=
  segs_eq (l := [(sub (bodyOf Tryz.f85) [1, 1, 0, 1, 0, 0, 1, 1, 0, 0, 1, 1, 1, 0, 1, 0, 0])]) (y := (sub (bodyOf Tryz.f85) [1, 1, 0, 1, 0, 0, 1, 1, 0, 0, 1, 1, 1, 0, 1, 0, 1])) (Y := (fun e w => keep_laid_s15 R N1 (e 0) (e 2) (e 5) (e 6) (e 8) (e 18) (e 19) (e 20) (e 34) (e 35) w)) (keep_laid_s15_eq R N1) (fun e w => by kernel_rfl)
def keep_laid_s17 (R : Value → World → Prop) (N1 : List Value → World → Prop) (x0 x2 x5 x6 x7 x8 x18 x19 x20 : Value) (w : World) : Prop :=
  slS x7 none (some (.int .i64 1)) fun t34 =>
  keep_laid_s16 R N1 x0 x2 x5 x6 x8 x18 x19 x20 t34 w
theorem keep_laid_s17_eq (R : Value → World → Prop) (N1 : List Value → World → Prop) : ∀ e w, lift Tryz.prog 119 (sub (bodyOf Tryz.f85) [1, 1, 0, 1, 0, 0, 1, 1, 0, 0, 1, 1, 1, 0]) (seqK (fun e w => keep_laid_s2 R N1 (e 0) (e 2) (e 5) (e 9) (e 18) (e 19) (e 20) w) (blockK 1 (seqK (fun e w => keep_laid_s1 R N1 (e 0) (e 2) (e 5) (e 18) (e 19) (e 20) w) (seqK (fun e w => N1 [e 0, e 2, e 5, e 18, e 19, e 20] w) (blockK 0 (seqK (fun e w => keep_laid_s0 R (e 2) (e 5) w) (finK Tryz.prog Tryz.f85.results.toList R))))))) e w = keep_laid_s17 R N1 (e 0) (e 2) (e 5) (e 6) (e 7) (e 8) (e 18) (e 19) (e 20) w :=
  segs_eq (l := [(sub (bodyOf Tryz.f85) [1, 1, 0, 1, 0, 0, 1, 1, 0, 0, 1, 1, 1, 0, 0])]) (y := (sub (bodyOf Tryz.f85) [1, 1, 0, 1, 0, 0, 1, 1, 0, 0, 1, 1, 1, 0, 1])) (Y := (fun e w => keep_laid_s16 R N1 (e 0) (e 2) (e 5) (e 6) (e 8) (e 18) (e 19) (e 20) (e 34) w)) (keep_laid_s16_eq R N1) (fun e w => by kernel_rfl)
def keep_laid_s18 (R : Value → World → Prop) (N1 : List Value → World → Prop) (x0 x2 x5 x18 x19 x20 : Value) (w : World) : Prop :=
  ia 1 x18 x20 fun t23 =>
  ld1 t23 w fun t24 =>
  slS t24 (some (.int .i64 1)) none fun t27 =>
  callG Tryz.prog 110 #[t27] w fun t28 w =>
  qG Tryz.prog (Instr.extract t28 0) w fun t29 =>
  qG Tryz.prog (Instr.extract t28 1) w fun t30 =>
  qG Tryz.prog (bq .neq 30 (.tmp 31) (.const (.int .i64 0)) t30 (.int .i64 0)) w fun t32 =>
  bV t32
  (keep_laid_s0 R x2 x5 w)
  (keep_laid_s17 R N1 x0 x2 x5 x20 t24 t29 x18 x19 x20 w)
theorem keep_laid_s18_eq (R : Value → World → Prop) (N1 : List Value → World → Prop) : ∀ e w, lift Tryz.prog 119 (sub (bodyOf Tryz.f85) [1, 1, 0, 1, 0, 0, 1, 1, 0, 0]) (blockK 1 (seqK (fun e w => keep_laid_s1 R N1 (e 0) (e 2) (e 5) (e 18) (e 19) (e 20) w) (seqK (fun e w => N1 [e 0, e 2, e 5, e 18, e 19, e 20] w) (blockK 0 (seqK (fun e w => keep_laid_s0 R (e 2) (e 5) w) (finK Tryz.prog Tryz.f85.results.toList R)))))) e w = keep_laid_s18 R N1 (e 0) (e 2) (e 5) (e 18) (e 19) (e 20) w :=
  segs_eq (l := [(sub (bodyOf Tryz.f85) [1, 1, 0, 1, 0, 0, 1, 1, 0, 0, 0]), (sub (bodyOf Tryz.f85) [1, 1, 0, 1, 0, 0, 1, 1, 0, 0, 1, 0]), (sub (bodyOf Tryz.f85) [1, 1, 0, 1, 0, 0, 1, 1, 0, 0, 1, 1, 0])]) (y := (sub (bodyOf Tryz.f85) [1, 1, 0, 1, 0, 0, 1, 1, 0, 0, 1, 1, 1])) (Y := (fun e w => keep_laid_s17 R N1 (e 0) (e 2) (e 5) (e 6) (e 7) (e 8) (e 18) (e 19) (e 20) w)) (seq_seg (x := (sub (bodyOf Tryz.f85) [1, 1, 0, 1, 0, 0, 1, 1, 0, 0, 1, 1, 1, 0])) (y := (sub (bodyOf Tryz.f85) [1, 1, 0, 1, 0, 0, 1, 1, 0, 0, 1, 1, 1, 1])) (keep_laid_s2_eq R N1) (keep_laid_s17_eq R N1)) (fun e w => by kernel_rfl)
def keep_laid_s19 (R : Value → World → Prop) (N1 : List Value → World → Prop) (x0 x2 x5 x18 x19 x20 : Value) (w : World) : Prop :=
  qG Tryz.prog (bq .lss 3 (.tmp 20) (.tmp 19) x20 x19) w fun t21 =>
  bV t21
  (keep_laid_s18 R N1 x0 x2 x5 x18 x19 x20 w)
  (keep_laid_s0 R x2 x5 w)
theorem keep_laid_s19_eq (R : Value → World → Prop) (N1 : List Value → World → Prop) : ∀ e w, lift Tryz.prog 119 (sub (bodyOf Tryz.f85) [1, 1, 0, 1, 0, 0]) (seqK (fun e w => N1 [e 0, e 2, e 5, e 18, e 19, e 20] w) (blockK 0 (seqK (fun e w => keep_laid_s0 R (e 2) (e 5) w) (finK Tryz.prog Tryz.f85.results.toList R)))) e w = keep_laid_s19 R N1 (e 0) (e 2) (e 5) (e 18) (e 19) (e 20) w :=
  segs_eq (l := [(sub (bodyOf Tryz.f85) [1, 1, 0, 1, 0, 0, 0]), (sub (bodyOf Tryz.f85) [1, 1, 0, 1, 0, 0, 1, 0])]) (y := (sub (bodyOf Tryz.f85) [1, 1, 0, 1, 0, 0, 1, 1])) (Y := (fun e w => keep_laid_s18 R N1 (e 0) (e 2) (e 5) (e 18) (e 19) (e 20) w)) (seq_seg (x := (sub (bodyOf Tryz.f85) [1, 1, 0, 1, 0, 0, 1, 1, 0])) (y := (sub (bodyOf Tryz.f85) [1, 1, 0, 1, 0, 0, 1, 1, 1])) (keep_laid_s1_eq R N1) (keep_laid_s18_eq R N1)) (fun e w => by kernel_rfl)
def keep_laid_L20F (R : Value → World → Prop) (N1 : List Value → World → Prop) (xs : List Value) (w : World) : Prop :=
  match xs with
  | [x0, x2, x5, x18, x19, x20] => keep_laid_s19 R N1 x0 x2 x5 x18 x19 x20 w
  | _ => False
def keep_laid_L20 (R : Value → World → Prop) (x0 x2 x5 x18 x19 x20 : Value) (w : World) : Prop :=
  ∃ m, loopV (keep_laid_L20F R) m [x0, x2, x5, x18, x19, x20] w
theorem keep_laid_L20_eq (R : Value → World → Prop) : ∀ e w, lift Tryz.prog 119 (sub (bodyOf Tryz.f85) [1, 1, 0, 1, 0]) (blockK 0 (seqK (fun e w => keep_laid_s0 R (e 2) (e 5) w) (finK Tryz.prog Tryz.f85.results.toList R))) e w = keep_laid_L20 R (e 0) (e 2) (e 5) (e 18) (e 19) (e 20) w := loop_seg (F := keep_laid_L20F R) (sel := fun e => [e 0, e 2, e 5, e 18, e 19, e 20]) fun N1 => (keep_laid_s19_eq R N1)
def keep_laid_s21 (R : Value → World → Prop) (x0 x2 x5 : Value) (w : World) : Prop :=
  lenL x0 fun t19 =>
  keep_laid_L20 R x0 x2 x5 x0 t19 (.int .i64 0) w
theorem keep_laid_s21_eq (R : Value → World → Prop) : ∀ e w, lift Tryz.prog 119 (sub (bodyOf Tryz.f85) [1, 1, 0]) (seqK (fun e w => keep_laid_s0 R (e 2) (e 5) w) (finK Tryz.prog Tryz.f85.results.toList R)) e w = keep_laid_s21 R (e 0) (e 2) (e 5) w :=
  segs_eq (l := [(sub (bodyOf Tryz.f85) [1, 1, 0, 0])]) (y := (sub (bodyOf Tryz.f85) [1, 1, 0, 1])) (Y := (fun e w => keep_laid_L20 R (e 0) (e 2) (e 5) (e 18) (e 19) (e 20) w)) (keep_laid_L20_eq R) (fun e w => by kernel_rfl)
def keep_laid_s22 (R : Value → World → Prop) (x0 : Value) (w : World) : Prop :=
  newG (zc Tryz.prog 26) 26 w fun t2 w =>
  newG (zc Tryz.prog 26) 26 w fun t5 w =>
  keep_laid_s21 R x0 t2 t5 w
theorem keep_laid_s22_eq (R : Value → World → Prop) : ∀ e w, lift Tryz.prog 119 (bodyOf Tryz.f85) (finK Tryz.prog Tryz.f85.results.toList R) e w = keep_laid_s22 R (e 0) w :=
  segs_eq (l := [(sub (bodyOf Tryz.f85) [0]), (sub (bodyOf Tryz.f85) [1, 0])]) (y := (sub (bodyOf Tryz.f85) [1, 1])) (Y := (fun e w => keep_laid_s21 R (e 0) (e 2) (e 5) w)) (seq_seg (x := (sub (bodyOf Tryz.f85) [1, 1, 0])) (y := (sub (bodyOf Tryz.f85) [1, 1, 1])) (keep_laid_s0_eq R) (keep_laid_s21_eq R)) (fun e w => by kernel_rfl)
def keep_laid (R : Value → World → Prop) (x0 : Value) (w : World) : Prop := keep_laid_s22 R x0 w
theorem keep_laid_call {R : Value → World → Prop} {x0 : Value} {w : World} (h : keep_laid R x0 w) : callG Tryz.prog 85 #[x0] w R :=
  calls_lift_eq Tryz.mixed Tryz.func85 (args := [x0]) rfl rfl rfl rfl ((keep_laid_s22_eq R) (envOf [x0]) w) (by kernel_rfl) h
def keep_whole_s0 (R : Value → World → Prop) (x4 x10 x13 : Value) (w : World) : Prop :=
  ldn 4 x10 w fun t71 =>
  callG Tryz.prog 88 #[t71, x13] w fun t73 w =>
  qG Tryz.prog (Instr.extract t73 0) w fun t74 =>
  qG Tryz.prog (Instr.extract t73 1) w fun t75 =>
  qG Tryz.prog (Instr.extract t73 2) w fun t76 =>
  stn 4 x10 t74 w fun w =>
  ldn 4 x10 w fun t77 =>
  qG Tryz.prog (bq .eql 30 (.tmp 78) (.const (.int .i64 0)) t76 (.int .i64 0)) w fun t79 =>
  stn 4 x4 t77 w fun w =>
  qG Tryz.prog (do loadVar 26 (← asAddr x4)) w fun r4 =>
  R (.tuple #[r4, t79]) w
theorem keep_whole_s0_eq (R : Value → World → Prop) : ∀ e w, lift Tryz.prog 80 (sub (bodyOf Tryz.f38) [1, 1, 1, 1, 1, 1, 1, 1]) (finK Tryz.prog Tryz.f38.results.toList R) e w = keep_whole_s0 R (e 4) (e 10) (e 13) w := fun e w => by kernel_rfl
def keep_whole_b1 (R : Value → World → Prop) (N1 : List Value → World → Prop) (x4 x10 x13 x45 x46 x47 : Value) (w : World) : Prop :=
  qG Tryz.prog (bq .lss 3 (.tmp 47) (.tmp 46) x47 x46) w fun t48 =>
  bV t48
  (ia 1 x45 x47 fun t49 =>
  ld1 t49 w fun t50 =>
  slS t50 (some (.int .i64 1)) none fun t53 =>
  callG Tryz.prog 87 #[t53] w fun t54 w =>
  qG Tryz.prog (Instr.extract t54 0) w fun t55 =>
  qG Tryz.prog (Instr.extract t54 1) w fun t56 =>
  newG (zc Tryz.prog 42) 42 w fun t16 w =>
  stn 7 t16 t55 w fun w =>
  slS t50 none (some (.int .i64 1)) fun t58 =>
  qG Tryz.prog (bq .neq 9 (.tmp 58) (.const (.string ⟨#[79]⟩)) t58 (.string ⟨#[79]⟩)) w fun t59 =>
  bV t59
  (ldn 4 x10 w fun t64 =>
  stn 4 x4 t64 w fun w =>
  qG Tryz.prog (do loadVar 26 (← asAddr x4)) w fun r4 =>
  R (.tuple #[r4, (.bool false)]) w)
  (qG Tryz.prog (bq .neq 30 (.tmp 61) (.const (.int .i64 0)) t56 (.int .i64 0)) w fun t62 =>
  bV t62
  (ldn 4 x10 w fun t64_1 =>
  stn 4 x4 t64_1 w fun w =>
  qG Tryz.prog (do loadVar 26 (← asAddr x4)) w fun r4_1 =>
  R (.tuple #[r4_1, (.bool false)]) w)
  (ldn 7 t16 w fun t66 =>
  bsl 42 7 1 (zc Tryz.prog 42) #[(0, t66)] w fun t67 w =>
  app 42 7 80 (zc Tryz.prog 42) x13 t67 w fun t68 w =>
  qG Tryz.prog (bq .add 3 (.tmp 47) (.const (.int .i64 1)) x47 (.int .i64 1)) w fun t69 =>
  N1 [x4, x10, t68, x45, x46, t69] w)))
  (keep_whole_s0 R x4 x10 x13 w)
theorem keep_whole_b1_eq (R : Value → World → Prop) (N1 : List Value → World → Prop) : ∀ e w, lift Tryz.prog 80 (sub (bodyOf Tryz.f38) [1, 1, 1, 1, 1, 1, 1, 0, 1, 0, 0]) (seqK (fun e w => N1 [e 4, e 10, e 13, e 45, e 46, e 47] w) (blockK 0 (seqK (fun e w => keep_whole_s0 R (e 4) (e 10) (e 13) w) (finK Tryz.prog Tryz.f38.results.toList R)))) e w = keep_whole_b1 R N1 (e 4) (e 10) (e 13) (e 45) (e 46) (e 47) w := fun e w => by kernel_rfl
def keep_whole_L2F (R : Value → World → Prop) (N1 : List Value → World → Prop) (xs : List Value) (w : World) : Prop :=
  match xs with
  | [x4, x10, x13, x45, x46, x47] => keep_whole_b1 R N1 x4 x10 x13 x45 x46 x47 w
  | _ => False
def keep_whole_L2 (R : Value → World → Prop) (x4 x10 x13 x45 x46 x47 : Value) (w : World) : Prop :=
  ∃ m, loopV (keep_whole_L2F R) m [x4, x10, x13, x45, x46, x47] w
theorem keep_whole_L2_eq (R : Value → World → Prop) : ∀ e w, lift Tryz.prog 80 (sub (bodyOf Tryz.f38) [1, 1, 1, 1, 1, 1, 1, 0, 1, 0]) (blockK 0 (seqK (fun e w => keep_whole_s0 R (e 4) (e 10) (e 13) w) (finK Tryz.prog Tryz.f38.results.toList R))) e w = keep_whole_L2 R (e 4) (e 10) (e 13) (e 45) (e 46) (e 47) w := loop_seg (F := keep_whole_L2F R) (sel := fun e => [e 4, e 10, e 13, e 45, e 46, e 47]) fun N1 => (keep_whole_b1_eq R N1)
def keep_whole_s3 (R : Value → World → Prop) (x4 x10 x11 x13 : Value) (w : World) : Prop :=
  lenL x11 fun t46 =>
  keep_whole_L2 R x4 x10 x13 x11 t46 (.int .i64 0) w
theorem keep_whole_s3_eq (R : Value → World → Prop) : ∀ e w, lift Tryz.prog 80 (sub (bodyOf Tryz.f38) [1, 1, 1, 1, 1, 1, 1, 0]) (seqK (fun e w => keep_whole_s0 R (e 4) (e 10) (e 13) w) (finK Tryz.prog Tryz.f38.results.toList R)) e w = keep_whole_s3 R (e 4) (e 10) (e 11) (e 13) w :=
  segs_eq (l := [(sub (bodyOf Tryz.f38) [1, 1, 1, 1, 1, 1, 1, 0, 0])]) (y := (sub (bodyOf Tryz.f38) [1, 1, 1, 1, 1, 1, 1, 0, 1])) (Y := (fun e w => keep_whole_L2 R (e 4) (e 10) (e 13) (e 45) (e 46) (e 47) w)) (keep_whole_L2_eq R) (fun e w => by kernel_rfl)
def keep_whole_s4 (R : Value → World → Prop) (x0 x1 : Value) (w : World) : Prop :=
  newG (zc Tryz.prog 26) 26 w fun t4 w =>
  callG Tryz.prog 83 #[x0, x1] w fun t21 w =>
  qG Tryz.prog (Instr.extract t21 0) w fun t22 =>
  qG Tryz.prog (Instr.extract t21 1) w fun t23 =>
  callG Tryz.prog 84 #[x0, t22, t23, x1] w fun t29 w =>
  qG Tryz.prog (Instr.extract t29 0) w fun t30 =>
  qG Tryz.prog (Instr.extract t29 1) w fun t31 =>
  qG Tryz.prog (bq .neq 30 (.tmp 32) (.const (.int .i64 0)) t31 (.int .i64 0)) w fun t33 =>
  bV t33
  (bld [(0, 1), (1, 1), (2, 1), (3, 1)] (zc Tryz.prog 26) #[] fun t34 =>
  stn 4 t4 t34 w fun w =>
  qG Tryz.prog (do loadVar 26 (← asAddr t4)) w fun r4 =>
  R (.tuple #[r4, (.bool false)]) w)
  (callG Tryz.prog 86 #[t30] w fun t37 w =>
  callG Tryz.prog 85 #[t37] w fun t38 w =>
  qG Tryz.prog (Instr.extract t38 0) w fun t39 =>
  qG Tryz.prog (Instr.extract t38 1) w fun t40 =>
  qG Tryz.prog (Instr.extract t38 2) w fun t41 =>
  newG (zc Tryz.prog 26) 26 w fun t10 w =>
  stn 4 t10 t39 w fun w =>
  qG Tryz.prog (Op.unary .not t41) w fun t43 =>
  bV t43
  (ldn 4 t10 w fun t44 =>
  stn 4 t4 t44 w fun w =>
  qG Tryz.prog (do loadVar 26 (← asAddr t4)) w fun r4_1 =>
  R (.tuple #[r4_1, (.bool false)]) w)
  (keep_whole_s3 R t4 t10 t40 (.slice none 0 0) w))
theorem keep_whole_s4_eq (R : Value → World → Prop) : ∀ e w, lift Tryz.prog 80 (bodyOf Tryz.f38) (finK Tryz.prog Tryz.f38.results.toList R) e w = keep_whole_s4 R (e 0) (e 1) w :=
  segs_eq (l := [(sub (bodyOf Tryz.f38) [0]), (sub (bodyOf Tryz.f38) [1, 0]), (sub (bodyOf Tryz.f38) [1, 1, 0]), (sub (bodyOf Tryz.f38) [1, 1, 1, 0]), (sub (bodyOf Tryz.f38) [1, 1, 1, 1, 0]), (sub (bodyOf Tryz.f38) [1, 1, 1, 1, 1, 0]), (sub (bodyOf Tryz.f38) [1, 1, 1, 1, 1, 1, 0])]) (y := (sub (bodyOf Tryz.f38) [1, 1, 1, 1, 1, 1, 1])) (Y := (fun e w => keep_whole_s3 R (e 4) (e 10) (e 11) (e 13) w)) (seq_seg (x := (sub (bodyOf Tryz.f38) [1, 1, 1, 1, 1, 1, 1, 0])) (y := (sub (bodyOf Tryz.f38) [1, 1, 1, 1, 1, 1, 1, 1])) (keep_whole_s0_eq R) (keep_whole_s3_eq R)) (fun e w => by kernel_rfl)
def keep_whole (R : Value → World → Prop) (x0 x1 : Value) (w : World) : Prop := keep_whole_s4 R x0 x1 w
theorem keep_whole_call {R : Value → World → Prop} {x0 x1 : Value} {w : World} (h : keep_whole R x0 x1 w) : callG Tryz.prog 38 #[x0, x1] w R :=
  calls_lift_eq Tryz.mixed Tryz.func38 (args := [x0, x1]) rfl rfl rfl rfl ((keep_whole_s4_eq R) (envOf [x0, x1]) w) (by kernel_rfl) h
def keep_Keep_lay_s0 (R : Value → World → Prop) (x0 x5 x11 x12 : Value) (w : World) : Prop :=
  nk x0 fun t104 =>
  fa 0 t104 fun t105 =>
  ld1 t105 w fun t106 =>
  callG Tryz.prog 91 #[t106] w fun t107 w =>
  qG Tryz.prog (bq .neq 30 (.tmp 108) (.const (.int .i64 0)) t107 (.int .i64 0)) w fun t109 =>
  bV t109
  (R t107 w)
  (nk x0 fun t112 =>
  fa 0 t112 fun t113 =>
  ld1 t113 (World.drew w) fun t114 =>
  qG Tryz.prog (bq .rem 3 (.tmp 115) (.const (.int .i64 2)) x5 (.int .i64 2)) (World.drew w) fun t116 =>
  callG Tryz.prog 37 #[x5] (World.drew w) fun t118 w =>
  stb Tryz.prog (bq .rem 3 (.tmp 115) (.const (.int .i64 2)) x5 (.int .i64 2)) t116 w ∧
  ld1 t113 w (fun u => u = t114) ∧
  callG Tryz.prog 90 #[t114, t116, t118] w fun t119 w =>
  qG Tryz.prog (bq .neq 30 (.tmp 120) (.const (.int .i64 0)) t119 (.int .i64 0)) w fun t121 =>
  bV t121
  (R t119 w)
  (nk x0 fun t124 =>
  fa 0 t124 fun t125 =>
  ld1 t125 w fun t126 =>
  callG Tryz.prog 91 #[t126] w fun t127 w =>
  qG Tryz.prog (bq .neq 30 (.tmp 128) (.const (.int .i64 0)) t127 (.int .i64 0)) w fun t129 =>
  bV t129
  (R t127 w)
  (nk x0 fun t133 =>
  fa 0 t133 fun t134 =>
  ld1 t134 w fun t135 =>
  callG Tryz.prog 84 #[t135, x11, x12, x5] w fun t139 w =>
  qG Tryz.prog (Instr.extract t139 0) w fun t140 =>
  qG Tryz.prog (Instr.extract t139 1) w fun t141 =>
  qG Tryz.prog (bq .neq 30 (.tmp 142) (.const (.int .i64 0)) t141 (.int .i64 0)) w fun t143 =>
  bV t143
  (R t141 w)
  (nk x0 fun t149 =>
  fa 5 t149 fun t150 =>
  st1 t150 x5 w fun w =>
  nk x0 fun t151 =>
  fa 6 t151 fun t152 =>
  st1 t152 t140 w fun w =>
  R (.int .i64 0) w))))
theorem keep_Keep_lay_s0_eq (R : Value → World → Prop) : ∀ e w, lift Tryz.prog 153 (sub (bodyOf Tryz.f39) [1, 1, 1, 1, 1, 1, 1, 1, 1, 1]) (finK Tryz.prog Tryz.f39.results.toList R) e w = keep_Keep_lay_s0 R (e 0) (e 5) (e 11) (e 12) w := fun e w => by kernel_rfl
def keep_Keep_lay_b1 (R : Value → World → Prop) (N1 : List Value → World → Prop) (x0 x5 x11 x12 x13 x14 : Value) (w : World) : Prop :=
  qG Tryz.prog (bq .lss 3 (.tmp 78) (.tmp 79) x14 x12) w fun t80 =>
  bV t80
  (nk x0 fun t84 =>
  fa 0 t84 fun t85 =>
  ld1 t85 (World.drew w) fun t86 =>
  qG Tryz.prog (bq .sub 3 (.tmp 89) (.tmp 90) x14 x11) (World.drew w) fun t91 =>
  qG Tryz.prog (bq .mul 3 (.const (.int .i64 32)) (.tmp 91) (.int .i64 32) t91) (World.drew w) fun t92 =>
  qG Tryz.prog (bq .sub 3 (.tmp 93) (.tmp 94) x14 x11) (World.drew w) fun t95 =>
  qG Tryz.prog (bq .mul 3 (.const (.int .i64 32)) (.tmp 95) (.int .i64 32) t95) (World.drew w) fun t96 =>
  qG Tryz.prog (bq .add 3 (.tmp 96) (.const (.int .i64 32)) t96 (.int .i64 32)) (World.drew w) fun t97 =>
  slS x13 (some t92) (some t97) fun t98 =>
  callG Tryz.prog 90 #[t86, x14, t98] (World.drew w) fun t99 w =>
  qG Tryz.prog (bq .neq 30 (.tmp 100) (.const (.int .i64 0)) t99 (.int .i64 0)) w fun t101 =>
  bV t101
  (R t99 w)
  (qG Tryz.prog (bq .add 3 (.tmp 81) (.const (.int .i64 1)) x14 (.int .i64 1)) w fun t82 =>
  N1 [x0, x5, x11, x12, x13, t82] w))
  (keep_Keep_lay_s0 R x0 x5 x11 x12 w)
theorem keep_Keep_lay_b1_eq (R : Value → World → Prop) (N1 : List Value → World → Prop) : ∀ e w, lift Tryz.prog 153 (sub (bodyOf Tryz.f39) [1, 1, 1, 1, 1, 1, 1, 1, 1, 0, 1, 0, 0]) (seqK (fun e w => N1 [e 0, e 5, e 11, e 12, e 13, e 14] w) (blockK 2 (seqK (fun e w => keep_Keep_lay_s0 R (e 0) (e 5) (e 11) (e 12) w) (finK Tryz.prog Tryz.f39.results.toList R)))) e w = keep_Keep_lay_b1 R N1 (e 0) (e 5) (e 11) (e 12) (e 13) (e 14) w := fun e w => by kernel_rfl
def keep_Keep_lay_L2F (R : Value → World → Prop) (N1 : List Value → World → Prop) (xs : List Value) (w : World) : Prop :=
  match xs with
  | [x0, x5, x11, x12, x13, x14] => keep_Keep_lay_b1 R N1 x0 x5 x11 x12 x13 x14 w
  | _ => False
def keep_Keep_lay_L2 (R : Value → World → Prop) (x0 x5 x11 x12 x13 x14 : Value) (w : World) : Prop :=
  ∃ m, loopV (keep_Keep_lay_L2F R) m [x0, x5, x11, x12, x13, x14] w
theorem keep_Keep_lay_L2_eq (R : Value → World → Prop) : ∀ e w, lift Tryz.prog 153 (sub (bodyOf Tryz.f39) [1, 1, 1, 1, 1, 1, 1, 1, 1, 0, 1, 0]) (blockK 2 (seqK (fun e w => keep_Keep_lay_s0 R (e 0) (e 5) (e 11) (e 12) w) (finK Tryz.prog Tryz.f39.results.toList R))) e w = keep_Keep_lay_L2 R (e 0) (e 5) (e 11) (e 12) (e 13) (e 14) w := loop_seg (F := keep_Keep_lay_L2F R) (sel := fun e => [e 0, e 5, e 11, e 12, e 13, e 14]) fun N1 => (keep_Keep_lay_b1_eq R N1)
def keep_Keep_lay_s3 (R : Value → World → Prop) (x0 x5 x11 x12 x13 : Value) (w : World) : Prop :=
  keep_Keep_lay_L2 R x0 x5 x11 x12 x13 x11 w
theorem keep_Keep_lay_s3_eq (R : Value → World → Prop) : ∀ e w, lift Tryz.prog 153 (sub (bodyOf Tryz.f39) [1, 1, 1, 1, 1, 1, 1, 1, 1, 0]) (seqK (fun e w => keep_Keep_lay_s0 R (e 0) (e 5) (e 11) (e 12) w) (finK Tryz.prog Tryz.f39.results.toList R)) e w = keep_Keep_lay_s3 R (e 0) (e 5) (e 11) (e 12) (e 13) w :=
  segs_eq (l := [(sub (bodyOf Tryz.f39) [1, 1, 1, 1, 1, 1, 1, 1, 1, 0, 0])]) (y := (sub (bodyOf Tryz.f39) [1, 1, 1, 1, 1, 1, 1, 1, 1, 0, 1])) (Y := (fun e w => keep_Keep_lay_L2 R (e 0) (e 5) (e 11) (e 12) (e 13) (e 14) w)) (keep_Keep_lay_L2_eq R) (fun e w => by kernel_rfl)
def keep_Keep_lay_s4 (R : Value → World → Prop) (x0 x5 x6 : Value) (w : World) : Prop :=
  nk x0 fun t64 =>
  fa 0 t64 fun t65 =>
  ld1 t65 w fun t66 =>
  callG Tryz.prog 83 #[t66, x5] w fun t68 w =>
  qG Tryz.prog (Instr.extract t68 0) w fun t69 =>
  qG Tryz.prog (Instr.extract t68 1) w fun t70 =>
  callG Tryz.prog 61 #[x6] w fun t71 w =>
  qG Tryz.prog (bq .sub 3 (.tmp 72) (.tmp 73) t70 t69) w fun t74 =>
  qG Tryz.prog (bq .mul 3 (.const (.int .i64 32)) (.tmp 74) (.int .i64 32) t74) w fun t75 =>
  callG Tryz.prog 81 #[t71, t75] w fun t76 w =>
  keep_Keep_lay_s3 R x0 x5 t69 t70 t76 w
theorem keep_Keep_lay_s4_eq (R : Value → World → Prop) : ∀ e w, lift Tryz.prog 153 (sub (bodyOf Tryz.f39) [1, 1, 1, 1, 1, 1, 1]) (finK Tryz.prog Tryz.f39.results.toList R) e w = keep_Keep_lay_s4 R (e 0) (e 5) (e 6) w :=
  segs_eq (l := [(sub (bodyOf Tryz.f39) [1, 1, 1, 1, 1, 1, 1, 0]), (sub (bodyOf Tryz.f39) [1, 1, 1, 1, 1, 1, 1, 1, 0])]) (y := (sub (bodyOf Tryz.f39) [1, 1, 1, 1, 1, 1, 1, 1, 1])) (Y := (fun e w => keep_Keep_lay_s3 R (e 0) (e 5) (e 11) (e 12) (e 13) w)) (seq_seg (x := (sub (bodyOf Tryz.f39) [1, 1, 1, 1, 1, 1, 1, 1, 1, 0])) (y := (sub (bodyOf Tryz.f39) [1, 1, 1, 1, 1, 1, 1, 1, 1, 1])) (keep_Keep_lay_s0_eq R) (keep_Keep_lay_s3_eq R)) (fun e w => by kernel_rfl)
def keep_Keep_lay_b5 (R : Value → World → Prop) (N1 : List Value → World → Prop) (x0 x5 x6 x47 x48 x49 : Value) (w : World) : Prop :=
  qG Tryz.prog (bq .lss 3 (.tmp 49) (.tmp 48) x49 x48) w fun t50 =>
  bV t50
  (ia 1 x47 x49 fun t51 =>
  ld1 t51 w fun t52 =>
  callG Tryz.prog 89 #[x5, t52] w fun t56 w =>
  qG Tryz.prog (Instr.extract t56 0) w fun t57 =>
  qG Tryz.prog (Instr.extract t56 1) w fun t58 =>
  callG Tryz.prog 59 #[x6, t57] w fun t60 w =>
  qG Tryz.prog (bq .add 3 (.tmp 49) (.const (.int .i64 1)) x49 (.int .i64 1)) w fun t61 =>
  N1 [x0, x5, x6, x47, x48, t61] w)
  (keep_Keep_lay_s4 R x0 x5 x6 w)
theorem keep_Keep_lay_b5_eq (R : Value → World → Prop) (N1 : List Value → World → Prop) : ∀ e w, lift Tryz.prog 153 (sub (bodyOf Tryz.f39) [1, 1, 1, 1, 1, 1, 0, 1, 0, 0]) (seqK (fun e w => N1 [e 0, e 5, e 6, e 47, e 48, e 49] w) (blockK 0 (seqK (fun e w => keep_Keep_lay_s4 R (e 0) (e 5) (e 6) w) (finK Tryz.prog Tryz.f39.results.toList R)))) e w = keep_Keep_lay_b5 R N1 (e 0) (e 5) (e 6) (e 47) (e 48) (e 49) w := fun e w => by kernel_rfl
def keep_Keep_lay_L6F (R : Value → World → Prop) (N1 : List Value → World → Prop) (xs : List Value) (w : World) : Prop :=
  match xs with
  | [x0, x5, x6, x47, x48, x49] => keep_Keep_lay_b5 R N1 x0 x5 x6 x47 x48 x49 w
  | _ => False
def keep_Keep_lay_L6 (R : Value → World → Prop) (x0 x5 x6 x47 x48 x49 : Value) (w : World) : Prop :=
  ∃ m, loopV (keep_Keep_lay_L6F R) m [x0, x5, x6, x47, x48, x49] w
theorem keep_Keep_lay_L6_eq (R : Value → World → Prop) : ∀ e w, lift Tryz.prog 153 (sub (bodyOf Tryz.f39) [1, 1, 1, 1, 1, 1, 0, 1, 0]) (blockK 0 (seqK (fun e w => keep_Keep_lay_s4 R (e 0) (e 5) (e 6) w) (finK Tryz.prog Tryz.f39.results.toList R))) e w = keep_Keep_lay_L6 R (e 0) (e 5) (e 6) (e 47) (e 48) (e 49) w := loop_seg (F := keep_Keep_lay_L6F R) (sel := fun e => [e 0, e 5, e 6, e 47, e 48, e 49]) fun N1 => (keep_Keep_lay_b5_eq R N1)
def keep_Keep_lay_s7 (R : Value → World → Prop) (x0 x3 x5 x6 : Value) (w : World) : Prop :=
  lenL x3 fun t48 =>
  keep_Keep_lay_L6 R x0 x5 x6 x3 t48 (.int .i64 0) w
theorem keep_Keep_lay_s7_eq (R : Value → World → Prop) : ∀ e w, lift Tryz.prog 153 (sub (bodyOf Tryz.f39) [1, 1, 1, 1, 1, 1, 0]) (seqK (fun e w => keep_Keep_lay_s4 R (e 0) (e 5) (e 6) w) (finK Tryz.prog Tryz.f39.results.toList R)) e w = keep_Keep_lay_s7 R (e 0) (e 3) (e 5) (e 6) w :=
  segs_eq (l := [(sub (bodyOf Tryz.f39) [1, 1, 1, 1, 1, 1, 0, 0])]) (y := (sub (bodyOf Tryz.f39) [1, 1, 1, 1, 1, 1, 0, 1])) (Y := (fun e w => keep_Keep_lay_L6 R (e 0) (e 5) (e 6) (e 47) (e 48) (e 49) w)) (keep_Keep_lay_L6_eq R) (fun e w => by kernel_rfl)
def keep_Keep_lay_s8 (R : Value → World → Prop) (x0 x3 : Value) (w : World) : Prop :=
  nk x0 fun t43 =>
  fa 5 t43 fun t44 =>
  ld1 t44 w fun t45 =>
  qG Tryz.prog (bq .add 3 (.tmp 45) (.const (.int .i64 1)) t45 (.int .i64 1)) w fun t46 =>
  newG (zc Tryz.prog 110) 110 w fun t6 w =>
  keep_Keep_lay_s7 R x0 x3 t46 t6 w
theorem keep_Keep_lay_s8_eq (R : Value → World → Prop) : ∀ e w, lift Tryz.prog 153 (sub (bodyOf Tryz.f39) [1, 1, 1, 1]) (finK Tryz.prog Tryz.f39.results.toList R) e w = keep_Keep_lay_s8 R (e 0) (e 3) w :=
  segs_eq (l := [(sub (bodyOf Tryz.f39) [1, 1, 1, 1, 0]), (sub (bodyOf Tryz.f39) [1, 1, 1, 1, 1, 0])]) (y := (sub (bodyOf Tryz.f39) [1, 1, 1, 1, 1, 1])) (Y := (fun e w => keep_Keep_lay_s7 R (e 0) (e 3) (e 5) (e 6) w)) (seq_seg (x := (sub (bodyOf Tryz.f39) [1, 1, 1, 1, 1, 1, 0])) (y := (sub (bodyOf Tryz.f39) [1, 1, 1, 1, 1, 1, 1])) (keep_Keep_lay_s4_eq R) (keep_Keep_lay_s7_eq R)) (fun e w => by kernel_rfl)
def keep_Keep_lay_s9 (R : Value → World → Prop) (x0 : Value) (w : World) : Prop :=
  nk x0 fun t22 =>
  fa 1 t22 fun t23 =>
  ldn 4 t23 w fun t24 =>
  callG Tryz.prog 8 #[t24] w fun t25 w =>
  qG Tryz.prog (Instr.extract t25 0) w fun t26 =>
  qG Tryz.prog (Instr.extract t25 1) w fun t27 =>
  qG Tryz.prog (bq .neq 30 (.tmp 28) (.const (.int .i64 0)) t27 (.int .i64 0)) w fun t29 =>
  bV t29
  (R t27 w)
  (nk x0 fun t32 =>
  fa 5 t32 fun t33 =>
  ld1 t33 w fun t34 =>
  qG Tryz.prog (bq .geq 3 (.tmp 34) (.const (.int .i64 2147483647)) t34 (.int .i64 2147483647)) w fun t35 =>
  bV t35
  (R (.int .i64 2) w)
  (callG Tryz.prog 42 #[x0, t26] w fun t39 w =>
  qG Tryz.prog (Op.unary .not t39) w fun t40 =>
  bV t40
  (R (.int .i64 2) w)
  (keep_Keep_lay_s8 R x0 t26 w)))
theorem keep_Keep_lay_s9_eq (R : Value → World → Prop) : ∀ e w, lift Tryz.prog 153 (bodyOf Tryz.f39) (finK Tryz.prog Tryz.f39.results.toList R) e w = keep_Keep_lay_s9 R (e 0) w :=
  segs_eq (l := [(sub (bodyOf Tryz.f39) [0]), (sub (bodyOf Tryz.f39) [1, 0]), (sub (bodyOf Tryz.f39) [1, 1, 0]), (sub (bodyOf Tryz.f39) [1, 1, 1, 0])]) (y := (sub (bodyOf Tryz.f39) [1, 1, 1, 1])) (Y := (fun e w => keep_Keep_lay_s8 R (e 0) (e 3) w)) (keep_Keep_lay_s8_eq R) (fun e w => by kernel_rfl)
def keep_Keep_lay (R : Value → World → Prop) (x0 : Value) (w : World) : Prop := keep_Keep_lay_s9 R x0 w
theorem keep_Keep_lay_call {R : Value → World → Prop} {x0 : Value} {w : World} (h : keep_Keep_lay R x0 w) : callG Tryz.prog 39 #[x0] w R :=
  calls_lift_eq Tryz.mixed Tryz.func39 (args := [x0]) rfl rfl rfl rfl ((keep_Keep_lay_s9_eq R) (envOf [x0]) w) (by kernel_rfl) h
def keep_Keep_fits_s0 (R : Value → World → Prop) (w : World) : Prop :=
  R (.bool true) w
theorem keep_Keep_fits_s0_eq (R : Value → World → Prop) : ∀ e w, lift Tryz.prog 42 (sub (bodyOf Tryz.f42) [1, 1, 1, 1]) (finK Tryz.prog Tryz.f42.results.toList R) e w = keep_Keep_fits_s0 R w := fun e w => by kernel_rfl
def keep_Keep_fits_b1 (R : Value → World → Prop) (N1 : List Value → World → Prop) (x7 x24 x25 x26 : Value) (w : World) : Prop :=
  qG Tryz.prog (bq .lss 3 (.tmp 26) (.tmp 25) x26 x25) w fun t27 =>
  bV t27
  (ia 1 x24 x26 fun t28 =>
  ld1 t28 w fun t29 =>
  callG Tryz.prog 89 #[(.int .i64 1), t29] w fun t32 w =>
  qG Tryz.prog (Instr.extract t32 0) w fun t33 =>
  qG Tryz.prog (Instr.extract t32 1) w fun t34 =>
  lenS t33 fun t37 =>
  qG Tryz.prog (bq .sub 3 (.tmp 35) (.tmp 37) x7 t37) w fun t38 =>
  qG Tryz.prog (bq .lss 3 (.tmp 39) (.const (.int .i64 0)) t38 (.int .i64 0)) w fun t40 =>
  bV t40
  (R (.bool false) w)
  (qG Tryz.prog (bq .add 3 (.tmp 26) (.const (.int .i64 1)) x26 (.int .i64 1)) w fun t41 =>
  N1 [t38, x24, x25, t41] w))
  (keep_Keep_fits_s0 R  w)
theorem keep_Keep_fits_b1_eq (R : Value → World → Prop) (N1 : List Value → World → Prop) : ∀ e w, lift Tryz.prog 42 (sub (bodyOf Tryz.f42) [1, 1, 1, 0, 1, 0, 0]) (seqK (fun e w => N1 [e 7, e 24, e 25, e 26] w) (blockK 0 (seqK (fun e w => keep_Keep_fits_s0 R  w) (finK Tryz.prog Tryz.f42.results.toList R)))) e w = keep_Keep_fits_b1 R N1 (e 7) (e 24) (e 25) (e 26) w := fun e w => by kernel_rfl
def keep_Keep_fits_L2F (R : Value → World → Prop) (N1 : List Value → World → Prop) (xs : List Value) (w : World) : Prop :=
  match xs with
  | [x7, x24, x25, x26] => keep_Keep_fits_b1 R N1 x7 x24 x25 x26 w
  | _ => False
def keep_Keep_fits_L2 (R : Value → World → Prop) (x7 x24 x25 x26 : Value) (w : World) : Prop :=
  ∃ m, loopV (keep_Keep_fits_L2F R) m [x7, x24, x25, x26] w
theorem keep_Keep_fits_L2_eq (R : Value → World → Prop) : ∀ e w, lift Tryz.prog 42 (sub (bodyOf Tryz.f42) [1, 1, 1, 0, 1, 0]) (blockK 0 (seqK (fun e w => keep_Keep_fits_s0 R  w) (finK Tryz.prog Tryz.f42.results.toList R))) e w = keep_Keep_fits_L2 R (e 7) (e 24) (e 25) (e 26) w := loop_seg (F := keep_Keep_fits_L2F R) (sel := fun e => [e 7, e 24, e 25, e 26]) fun N1 => (keep_Keep_fits_b1_eq R N1)
def keep_Keep_fits_s3 (R : Value → World → Prop) (x1 x7 : Value) (w : World) : Prop :=
  lenL x1 fun t25 =>
  keep_Keep_fits_L2 R x7 x1 t25 (.int .i64 0) w
theorem keep_Keep_fits_s3_eq (R : Value → World → Prop) : ∀ e w, lift Tryz.prog 42 (sub (bodyOf Tryz.f42) [1, 1, 1, 0]) (seqK (fun e w => keep_Keep_fits_s0 R  w) (finK Tryz.prog Tryz.f42.results.toList R)) e w = keep_Keep_fits_s3 R (e 1) (e 7) w :=
  segs_eq (l := [(sub (bodyOf Tryz.f42) [1, 1, 1, 0, 0])]) (y := (sub (bodyOf Tryz.f42) [1, 1, 1, 0, 1])) (Y := (fun e w => keep_Keep_fits_L2 R (e 7) (e 24) (e 25) (e 26) w)) (keep_Keep_fits_L2_eq R) (fun e w => by kernel_rfl)
def keep_Keep_fits_s4 (R : Value → World → Prop) (x0 x1 : Value) (w : World) : Prop :=
  nk x0 fun t14 =>
  fa 0 t14 fun t15 =>
  ld1 t15 w fun t16 =>
  callG Tryz.prog 83 #[t16, (.int .i64 0)] w fun t17 w =>
  qG Tryz.prog (Instr.extract t17 0) w fun t18 =>
  qG Tryz.prog (Instr.extract t17 1) w fun t19 =>
  qG Tryz.prog (bq .sub 3 (.tmp 20) (.tmp 21) t19 t18) w fun t22 =>
  qG Tryz.prog (bq .mul 3 (.const (.int .i64 32)) (.tmp 22) (.int .i64 32) t22) w fun t23 =>
  keep_Keep_fits_s3 R x1 t23 w
theorem keep_Keep_fits_s4_eq (R : Value → World → Prop) : ∀ e w, lift Tryz.prog 42 (bodyOf Tryz.f42) (finK Tryz.prog Tryz.f42.results.toList R) e w = keep_Keep_fits_s4 R (e 0) (e 1) w :=
  segs_eq (l := [(sub (bodyOf Tryz.f42) [0]), (sub (bodyOf Tryz.f42) [1, 0]), (sub (bodyOf Tryz.f42) [1, 1, 0])]) (y := (sub (bodyOf Tryz.f42) [1, 1, 1])) (Y := (fun e w => keep_Keep_fits_s3 R (e 1) (e 7) w)) (seq_seg (x := (sub (bodyOf Tryz.f42) [1, 1, 1, 0])) (y := (sub (bodyOf Tryz.f42) [1, 1, 1, 1])) (keep_Keep_fits_s0_eq R) (keep_Keep_fits_s3_eq R)) (fun e w => by kernel_rfl)
def keep_Keep_fits (R : Value → World → Prop) (x0 x1 : Value) (w : World) : Prop := keep_Keep_fits_s4 R x0 x1 w
theorem keep_Keep_fits_call {R : Value → World → Prop} {x0 x1 : Value} {w : World} (h : keep_Keep_fits R x0 x1 w) : callG Tryz.prog 42 #[x0, x1] w R :=
  calls_lift_eq Tryz.mixed Tryz.func42 (args := [x0, x1]) rfl rfl rfl rfl ((keep_Keep_fits_s4_eq R) (envOf [x0, x1]) w) (by kernel_rfl) h
def keep_Open_s0 (R : Value → World → Prop) (x4 : Value) (w : World) : Prop :=
  callG Tryz.prog 39 #[x4] w fun t76 w =>
  qG Tryz.prog (bq .neq 30 (.tmp 77) (.const (.int .i64 0)) t76 (.int .i64 0)) w fun t78 =>
  bV t78
  (R (.tuple #[(.pointer none), t76]) w)
  (R (.tuple #[x4, (.int .i64 0)]) w)
theorem keep_Open_s0_eq (R : Value → World → Prop) : ∀ e w, lift Tryz.prog 81 (sub (bodyOf Tryz.f11) [1, 1, 1, 1]) (finK Tryz.prog Tryz.f11.results.toList R) e w = keep_Open_s0 R (e 4) w := fun e w => by kernel_rfl
def keep_Open_s1 (R : Value → World → Prop) (N1 : List Value → World → Prop) (x0 x4 x22 : Value) (w : World) : Prop :=
  qG Tryz.prog (bq .add 3 (.tmp 22) (.const (.int .i64 1)) x22 (.int .i64 1)) w fun t74 =>
  N1 [x0, x4, t74] w
theorem keep_Open_s1_eq (R : Value → World → Prop) (N1 : List Value → World → Prop) : ∀ e w, lift Tryz.prog 81 (sub (bodyOf Tryz.f11) [1, 1, 1, 0, 1, 0, 0, 1, 1, 1]) (seqK (fun e w => N1 [e 0, e 4, e 22] w) (blockK 1 (seqK (fun e w => keep_Open_s0 R (e 4) w) (finK Tryz.prog Tryz.f11.results.toList R)))) e w = keep_Open_s1 R N1 (e 0) (e 4) (e 22) w := fun e w => by kernel_rfl
def keep_Open_s2 (R : Value → World → Prop) (N1 : List Value → World → Prop) (x0 x4 x8 x22 : Value) (w : World) : Prop :=
  callG Tryz.prog 38 #[x0, x8] w fun t62 w =>
  qG Tryz.prog (Instr.extract t62 0) w fun t63 =>
  qG Tryz.prog (Instr.extract t62 1) w fun t64 =>
  newG (zc Tryz.prog 26) 26 w fun t9 w =>
  stn 4 t9 t63 w fun w =>
  bV t64
  (ldn 4 t9 w fun t68 =>
  nk x4 fun t70 =>
  fa 1 t70 fun t71 =>
  stn 4 t71 t68 w fun w =>
  nk x4 fun t72 =>
  fa 5 t72 fun t73 =>
  st1 t73 x8 w fun w =>
  keep_Open_s1 R N1 x0 x4 x22 w)
  (keep_Open_s1 R N1 x0 x4 x22 w)
theorem keep_Open_s2_eq (R : Value → World → Prop) (N1 : List Value → World → Prop) : ∀ e w, lift Tryz.prog 81 (sub (bodyOf Tryz.f11) [1, 1, 1, 0, 1, 0, 0, 1, 1, 0, 0, 1, 1, 1, 1]) (blockK 2 (seqK (fun e w => keep_Open_s1 R N1 (e 0) (e 4) (e 22) w) (seqK (fun e w => N1 [e 0, e 4, e 22] w) (blockK 1 (seqK (fun e w => keep_Open_s0 R (e 4) w) (finK Tryz.prog Tryz.f11.results.toList R)))))) e w = keep_Open_s2 R N1 (e 0) (e 4) (e 8) (e 22) w := fun e w => by kernel_rfl
def keep_Open_s3 (R : Value → World → Prop) (N1 : List Value → World → Prop) (x0 x4 x22 : Value) (w : World) : Prop :=
  callG Tryz.prog 35 #[x0, x22] w fun t28 w =>
  qG Tryz.prog (Instr.extract t28 0) w fun t29 =>
  qG Tryz.prog (Instr.extract t28 1) w fun t30 =>
  callG Tryz.prog 36 #[t29] w fun t32 w =>
  qG Tryz.prog (bq .lss 3 (.tmp 33) (.const (.int .i64 1)) t32 (.int .i64 1)) w fun t34 =>
  bV t34
  (keep_Open_s1 R N1 x0 x4 x22 w)
  (qG Tryz.prog (bq .gtr 3 (.tmp 36) (.const (.int .i64 2147483647)) t32 (.int .i64 2147483647)) w fun t37 =>
  bV t37
  (keep_Open_s1 R N1 x0 x4 x22 w)
  (qG Tryz.prog (bq .rem 3 (.tmp 40) (.const (.int .i64 2)) t32 (.int .i64 2)) w fun t41 =>
  qG Tryz.prog (bq .neq 3 (.tmp 41) (.tmp 42) t41 x22) w fun t43 =>
  bV t43
  (keep_Open_s1 R N1 x0 x4 x22 w)
  (callG Tryz.prog 37 #[t32] w fun t48 w =>
  qG Tryz.prog (bq .neq 9 (.tmp 46) (.tmp 48) t29 t48) w fun t49 =>
  bV t49
  (keep_Open_s1 R N1 x0 x4 x22 w)
  (nk x4 fun t54 =>
  fa 5 t54 fun t55 =>
  ld1 t55 w fun t56 =>
  qG Tryz.prog (bq .leq 3 (.tmp 52) (.tmp 56) t32 t56) w fun t57 =>
  bV t57
  (keep_Open_s1 R N1 x0 x4 x22 w)
  (keep_Open_s2 R N1 x0 x4 t32 x22 w)))))
theorem keep_Open_s3_eq (R : Value → World → Prop) (N1 : List Value → World → Prop) : ∀ e w, lift Tryz.prog 81 (sub (bodyOf Tryz.f11) [1, 1, 1, 0, 1, 0, 0, 1, 1, 0, 0]) (blockK 2 (seqK (fun e w => keep_Open_s1 R N1 (e 0) (e 4) (e 22) w) (seqK (fun e w => N1 [e 0, e 4, e 22] w) (blockK 1 (seqK (fun e w => keep_Open_s0 R (e 4) w) (finK Tryz.prog Tryz.f11.results.toList R)))))) e w = keep_Open_s3 R N1 (e 0) (e 4) (e 22) w :=
  segs_eq (l := [(sub (bodyOf Tryz.f11) [1, 1, 1, 0, 1, 0, 0, 1, 1, 0, 0, 0]), (sub (bodyOf Tryz.f11) [1, 1, 1, 0, 1, 0, 0, 1, 1, 0, 0, 1, 0]), (sub (bodyOf Tryz.f11) [1, 1, 1, 0, 1, 0, 0, 1, 1, 0, 0, 1, 1, 0]), (sub (bodyOf Tryz.f11) [1, 1, 1, 0, 1, 0, 0, 1, 1, 0, 0, 1, 1, 1, 0])]) (y := (sub (bodyOf Tryz.f11) [1, 1, 1, 0, 1, 0, 0, 1, 1, 0, 0, 1, 1, 1, 1])) (Y := (fun e w => keep_Open_s2 R N1 (e 0) (e 4) (e 8) (e 22) w)) (keep_Open_s2_eq R N1) (fun e w => by kernel_rfl)
def keep_Open_s4 (R : Value → World → Prop) (N1 : List Value → World → Prop) (x0 x4 x22 : Value) (w : World) : Prop :=
  qG Tryz.prog (bq .lss 3 (.tmp 22) (.const (.int .i64 2)) x22 (.int .i64 2)) w fun t23 =>
  bV t23
  (keep_Open_s3 R N1 x0 x4 x22 w)
  (keep_Open_s0 R x4 w)
theorem keep_Open_s4_eq (R : Value → World → Prop) (N1 : List Value → World → Prop) : ∀ e w, lift Tryz.prog 81 (sub (bodyOf Tryz.f11) [1, 1, 1, 0, 1, 0, 0]) (seqK (fun e w => N1 [e 0, e 4, e 22] w) (blockK 1 (seqK (fun e w => keep_Open_s0 R (e 4) w) (finK Tryz.prog Tryz.f11.results.toList R)))) e w = keep_Open_s4 R N1 (e 0) (e 4) (e 22) w :=
  segs_eq (l := [(sub (bodyOf Tryz.f11) [1, 1, 1, 0, 1, 0, 0, 0]), (sub (bodyOf Tryz.f11) [1, 1, 1, 0, 1, 0, 0, 1, 0])]) (y := (sub (bodyOf Tryz.f11) [1, 1, 1, 0, 1, 0, 0, 1, 1])) (Y := (fun e w => keep_Open_s3 R N1 (e 0) (e 4) (e 22) w)) (seq_seg (x := (sub (bodyOf Tryz.f11) [1, 1, 1, 0, 1, 0, 0, 1, 1, 0])) (y := (sub (bodyOf Tryz.f11) [1, 1, 1, 0, 1, 0, 0, 1, 1, 1])) (keep_Open_s1_eq R N1) (keep_Open_s3_eq R N1)) (fun e w => by kernel_rfl)
def keep_Open_L5F (R : Value → World → Prop) (N1 : List Value → World → Prop) (xs : List Value) (w : World) : Prop :=
  match xs with
  | [x0, x4, x22] => keep_Open_s4 R N1 x0 x4 x22 w
  | _ => False
def keep_Open_L5 (R : Value → World → Prop) (x0 x4 x22 : Value) (w : World) : Prop :=
  ∃ m, loopV (keep_Open_L5F R) m [x0, x4, x22] w
theorem keep_Open_L5_eq (R : Value → World → Prop) : ∀ e w, lift Tryz.prog 81 (sub (bodyOf Tryz.f11) [1, 1, 1, 0, 1, 0]) (blockK 1 (seqK (fun e w => keep_Open_s0 R (e 4) w) (finK Tryz.prog Tryz.f11.results.toList R))) e w = keep_Open_L5 R (e 0) (e 4) (e 22) w := loop_seg (F := keep_Open_L5F R) (sel := fun e => [e 0, e 4, e 22]) fun N1 => (keep_Open_s4_eq R N1)
def keep_Open_s6 (R : Value → World → Prop) (x0 x4 : Value) (w : World) : Prop :=
  keep_Open_L5 R x0 x4 (.int .i64 0) w
theorem keep_Open_s6_eq (R : Value → World → Prop) : ∀ e w, lift Tryz.prog 81 (sub (bodyOf Tryz.f11) [1, 1, 1, 0]) (seqK (fun e w => keep_Open_s0 R (e 4) w) (finK Tryz.prog Tryz.f11.results.toList R)) e w = keep_Open_s6 R (e 0) (e 4) w :=
  segs_eq (l := [(sub (bodyOf Tryz.f11) [1, 1, 1, 0, 0])]) (y := (sub (bodyOf Tryz.f11) [1, 1, 1, 0, 1])) (Y := (fun e w => keep_Open_L5 R (e 0) (e 4) (e 22) w)) (keep_Open_L5_eq R) (fun e w => by kernel_rfl)
def keep_Open_s7 (R : Value → World → Prop) (x0 : Value) (w : World) : Prop :=
  callG Tryz.prog 33 #[x0] w fun t14 w =>
  qG Tryz.prog (bq .lss 3 (.tmp 14) (.const (.int .i64 4)) t14 (.int .i64 4)) w fun t15 =>
  bV t15
  (R (.tuple #[(.pointer none), (.int .i64 1)]) w)
  (callG Tryz.prog 34 #[x0] w fun t18 w =>
  bV t18
  (R (.tuple #[(.pointer none), (.int .i64 30)]) w)
  (bld [(0, 1), (1, 4), (5, 1), (6, 1)] (zc Tryz.prog 58) #[(0, x0)] fun t20 =>
  newG (Value.cells t20) 58 w fun t21 w =>
  keep_Open_s6 R x0 t21 w))
theorem keep_Open_s7_eq (R : Value → World → Prop) : ∀ e w, lift Tryz.prog 81 (bodyOf Tryz.f11) (finK Tryz.prog Tryz.f11.results.toList R) e w = keep_Open_s7 R (e 0) w :=
  segs_eq (l := [(sub (bodyOf Tryz.f11) [0]), (sub (bodyOf Tryz.f11) [1, 0]), (sub (bodyOf Tryz.f11) [1, 1, 0])]) (y := (sub (bodyOf Tryz.f11) [1, 1, 1])) (Y := (fun e w => keep_Open_s6 R (e 0) (e 4) w)) (seq_seg (x := (sub (bodyOf Tryz.f11) [1, 1, 1, 0])) (y := (sub (bodyOf Tryz.f11) [1, 1, 1, 1])) (keep_Open_s0_eq R) (keep_Open_s6_eq R)) (fun e w => by kernel_rfl)
def keep_Open (R : Value → World → Prop) (x0 : Value) (w : World) : Prop := keep_Open_s7 R x0 w
theorem keep_Open_call {R : Value → World → Prop} {x0 : Value} {w : World} (h : keep_Open R x0 w) : callG Tryz.prog 11 #[x0] w R :=
  calls_lift_eq Tryz.mixed Tryz.func11 (args := [x0]) rfl rfl rfl rfl ((keep_Open_s7_eq R) (envOf [x0]) w) (by kernel_rfl) h
def keep_Keep_given_s0 (R : Value → World → Prop) (x0 : Value) (w : World) : Prop :=
  qG Tryz.prog (bq .neq 37 (.tmp 3) (.const (.pointer none)) x0 (.pointer none)) w fun t4 =>
  bV t4
  (nk x0 fun t7 =>
  fa 0 t7 fun t8 =>
  ld1 t8 w fun t9 =>
  qG Tryz.prog (bq .neq 34 (.tmp 9) (.const (.pointer none)) t9 (.pointer none)) w fun t10 =>
  R t10 w)
  (R (.bool false) w)
theorem keep_Keep_given_s0_eq (R : Value → World → Prop) : ∀ e w, lift Tryz.prog 12 (bodyOf Tryz.f40) (finK Tryz.prog Tryz.f40.results.toList R) e w = keep_Keep_given_s0 R (e 0) w := fun e w => by kernel_rfl
def keep_Keep_given (R : Value → World → Prop) (x0 : Value) (w : World) : Prop := keep_Keep_given_s0 R x0 w
theorem keep_Keep_given_call {R : Value → World → Prop} {x0 : Value} {w : World} (h : keep_Keep_given R x0 w) : callG Tryz.prog 40 #[x0] w R :=
  calls_lift_eq Tryz.mixed Tryz.func40 (args := [x0]) rfl rfl rfl rfl ((keep_Keep_given_s0_eq R) (envOf [x0]) w) (by kernel_rfl) h
def keep_Keep_Ledger_s0 (R : Value → World → Prop) (x0 : Value) (w : World) : Prop :=
  newG (zc Tryz.prog 26) 26 w fun t2 w =>
  callG Tryz.prog 40 #[x0] w fun t5 w =>
  qG Tryz.prog (Op.unary .not t5) w fun t6 =>
  bV t6
  (bld [(0, 1), (1, 1), (2, 1), (3, 1)] (zc Tryz.prog 26) #[] fun t7 =>
  stn 4 t2 t7 w fun w =>
  qG Tryz.prog (do loadVar 26 (← asAddr t2)) w fun r2 =>
  R r2 w)
  (nk x0 fun t9 =>
  fa 1 t9 fun t10 =>
  ldn 4 t10 w fun t11 =>
  newG (zc Tryz.prog 26) 26 w fun t3 w =>
  stn 4 t3 t11 w fun w =>
  fa 0 t3 fun t12 =>
  ld1 t12 (World.drew w) fun t13 =>
  fa 1 t3 fun t15 =>
  ld1 t15 (World.drew w) fun t16 =>
  fa 2 t3 fun t18 =>
  ld1 t18 (World.drew w) fun t19 =>
  callG Tryz.prog 45 #[t13] (World.drew w) fun t14 w =>
  ld1 t18 w (fun u => u = t19) ∧
  ld1 t15 w (fun u => u = t16) ∧
  fa 0 t3 fun t21 =>
  callG Tryz.prog 46 #[t16] w fun t17 w =>
  ld1 t18 w (fun u => u = t19) ∧
  callG Tryz.prog 47 #[t19] w fun t20 w =>
  st1 t21 t14 w fun w =>
  fa 1 t3 fun t22 =>
  st1 t22 t17 w fun w =>
  fa 2 t3 fun t23 =>
  st1 t23 t20 w fun w =>
  ldn 4 t3 w fun t24 =>
  stn 4 t2 t24 w fun w =>
  qG Tryz.prog (do loadVar 26 (← asAddr t2)) w fun r2_1 =>
  R r2_1 w)
theorem keep_Keep_Ledger_s0_eq (R : Value → World → Prop) : ∀ e w, lift Tryz.prog 25 (bodyOf Tryz.f13) (finK Tryz.prog Tryz.f13.results.toList R) e w = keep_Keep_Ledger_s0 R (e 0) w := fun e w => by kernel_rfl
def keep_Keep_Ledger (R : Value → World → Prop) (x0 : Value) (w : World) : Prop := keep_Keep_Ledger_s0 R x0 w
theorem keep_Keep_Ledger_call {R : Value → World → Prop} {x0 : Value} {w : World} (h : keep_Keep_Ledger R x0 w) : callG Tryz.prog 13 #[x0] w R :=
  calls_lift_eq Tryz.mixed Tryz.func13 (args := [x0]) rfl rfl rfl rfl ((keep_Keep_Ledger_s0_eq R) (envOf [x0]) w) (by kernel_rfl) h
def keep_Keep_Submit_s0 (R : Value → World → Prop) (x0 x1 : Value) (w : World) : Prop :=
  newG (Value.cells x1) 42 w fun t3 w =>
  callG Tryz.prog 40 #[x0] w fun t12 w =>
  qG Tryz.prog (Op.unary .not t12) w fun t13 =>
  bV t13
  (R (.int .i64 1) w)
  (nk x0 fun t16 =>
  fa 1 t16 fun t17 =>
  ldn 4 t17 (World.drew w) fun t18 =>
  ldn 7 t3 (World.drew w) fun t19 =>
  (callG Tryz.prog 41 #[t18, t19] (World.drew w) fun t20 w =>
  qG Tryz.prog (Instr.extract t20 0) w fun t21 =>
  qG Tryz.prog (Instr.extract t20 1) w fun t22 =>
  newG (zc Tryz.prog 26) 26 w fun t5 w =>
  stb Tryz.prog (Instr.extract t20 1) t22 w ∧
  stb Tryz.prog (Instr.extract t20 0) t21 w ∧
  ldn 7 t3 w (fun u => u = t19) ∧
  ldn 4 t17 w (fun u => u = t18) ∧
  stn 4 t5 t21 w fun w =>
  stb Tryz.prog (Instr.extract t20 1) t22 w ∧
  qG Tryz.prog (bq .neq 30 (.tmp 23) (.const (.int .i64 0)) t22 (.int .i64 0)) w fun t24 =>
  bV t24
  (R t22 w)
  (ldn 4 t5 w fun t27 =>
  callG Tryz.prog 8 #[t27] w fun t28 w =>
  qG Tryz.prog (Instr.extract t28 0) w fun t29 =>
  qG Tryz.prog (Instr.extract t28 1) w fun t30 =>
  qG Tryz.prog (bq .neq 30 (.tmp 31) (.const (.int .i64 0)) t30 (.int .i64 0)) w fun t32 =>
  bV t32
  (R t30 w)
  (callG Tryz.prog 42 #[x0, t29] w fun t36 w =>
  qG Tryz.prog (Op.unary .not t36) w fun t37 =>
  bV t37
  (R (.int .i64 2) w)
  (ldn 7 t3 w fun t39 =>
  callG Tryz.prog 43 #[t39] w fun t40 w =>
  qG Tryz.prog (Instr.extract t40 0) w fun t41 =>
  qG Tryz.prog (Instr.extract t40 1) w fun t42 =>
  nk x0 fun t44 =>
  fa 6 t44 fun t45 =>
  ld1 t45 w fun t46 =>
  qG Tryz.prog (bq .add 9 (.const (.string ⟨#[79]⟩)) (.tmp 47) (.string ⟨#[79]⟩) t41) w fun t48 =>
  bsl 9 1 1 (zc Tryz.prog 9) #[(0, t48)] w fun t49 w =>
  callG Tryz.prog 44 #[t46, t49] w fun t50 w =>
  qG Tryz.prog (bq .neq 30 (.tmp 51) (.const (.int .i64 0)) t50 (.int .i64 0)) w fun t52 =>
  bV t52
  (R t50 w)
  (ldn 4 t5 w fun t55 =>
  nk x0 fun t56 =>
  fa 1 t56 fun t57 =>
  stn 4 t57 t55 w fun w =>
  R (.int .i64 0) w))))) ∧
  (newG (zc Tryz.prog 26) 26 (World.drew w) fun t5_1 w =>
  ldn 7 t3 w (fun u => u = t19) ∧
  ldn 4 t17 w (fun u => u = t18) ∧
  callG Tryz.prog 41 #[t18, t19] w fun t20_1 w =>
  qG Tryz.prog (Instr.extract t20_1 0) w fun t21_1 =>
  qG Tryz.prog (Instr.extract t20_1 1) w fun t22_1 =>
  stn 4 t5_1 t21_1 w fun w =>
  stb Tryz.prog (Instr.extract t20_1 1) t22_1 w ∧
  qG Tryz.prog (bq .neq 30 (.tmp 23) (.const (.int .i64 0)) t22_1 (.int .i64 0)) w fun t24_1 =>
  bV t24_1
  (R t22_1 w)
  (ldn 4 t5_1 w fun t27_1 =>
  callG Tryz.prog 8 #[t27_1] w fun t28_1 w =>
  qG Tryz.prog (Instr.extract t28_1 0) w fun t29_1 =>
  qG Tryz.prog (Instr.extract t28_1 1) w fun t30_1 =>
  qG Tryz.prog (bq .neq 30 (.tmp 31) (.const (.int .i64 0)) t30_1 (.int .i64 0)) w fun t32_1 =>
  bV t32_1
  (R t30_1 w)
  (callG Tryz.prog 42 #[x0, t29_1] w fun t36_1 w =>
  qG Tryz.prog (Op.unary .not t36_1) w fun t37_1 =>
  bV t37_1
  (R (.int .i64 2) w)
  (ldn 7 t3 w fun t39_1 =>
  callG Tryz.prog 43 #[t39_1] w fun t40_1 w =>
  qG Tryz.prog (Instr.extract t40_1 0) w fun t41_1 =>
  qG Tryz.prog (Instr.extract t40_1 1) w fun t42_1 =>
  nk x0 fun t44_1 =>
  fa 6 t44_1 fun t45_1 =>
  ld1 t45_1 w fun t46_1 =>
  qG Tryz.prog (bq .add 9 (.const (.string ⟨#[79]⟩)) (.tmp 47) (.string ⟨#[79]⟩) t41_1) w fun t48_1 =>
  bsl 9 1 1 (zc Tryz.prog 9) #[(0, t48_1)] w fun t49_1 w =>
  callG Tryz.prog 44 #[t46_1, t49_1] w fun t50_1 w =>
  qG Tryz.prog (bq .neq 30 (.tmp 51) (.const (.int .i64 0)) t50_1 (.int .i64 0)) w fun t52_1 =>
  bV t52_1
  (R t50_1 w)
  (ldn 4 t5_1 w fun t55_1 =>
  nk x0 fun t56_1 =>
  fa 1 t56_1 fun t57_1 =>
  stn 4 t57_1 t55_1 w fun w =>
  R (.int .i64 0) w))))))
theorem keep_Keep_Submit_s0_eq (R : Value → World → Prop) : ∀ e w, lift Tryz.prog 58 (bodyOf Tryz.f12) (finK Tryz.prog Tryz.f12.results.toList R) e w = keep_Keep_Submit_s0 R (e 0) (e 1) w := fun e w => by kernel_rfl
def keep_Keep_Submit (R : Value → World → Prop) (x0 x1 : Value) (w : World) : Prop := keep_Keep_Submit_s0 R x0 x1 w
theorem keep_Keep_Submit_call {R : Value → World → Prop} {x0 x1 : Value} {w : World} (h : keep_Keep_Submit R x0 x1 w) : callG Tryz.prog 12 #[x0, x1] w R :=
  calls_lift_eq Tryz.mixed Tryz.func12 (args := [x0, x1]) rfl rfl rfl rfl ((keep_Keep_Submit_s0_eq R) (envOf [x0, x1]) w) (by kernel_rfl) h
def keep_Keep_Sync_s0 (R : Value → World → Prop) (x0 : Value) (w : World) : Prop :=
  callG Tryz.prog 40 #[x0] w fun t4 w =>
  qG Tryz.prog (Op.unary .not t4) w fun t5 =>
  bV t5
  (R (.int .i64 1) w)
  (nk x0 fun t7 =>
  fa 6 t7 fun t8 =>
  ld1 t8 w fun t9 =>
  callG Tryz.prog 49 #[t9] w fun t10 w =>
  R t10 w)
theorem keep_Keep_Sync_s0_eq (R : Value → World → Prop) : ∀ e w, lift Tryz.prog 11 (bodyOf Tryz.f19) (finK Tryz.prog Tryz.f19.results.toList R) e w = keep_Keep_Sync_s0 R (e 0) w := fun e w => by kernel_rfl
def keep_Keep_Sync (R : Value → World → Prop) (x0 : Value) (w : World) : Prop := keep_Keep_Sync_s0 R x0 w
theorem keep_Keep_Sync_call {R : Value → World → Prop} {x0 : Value} {w : World} (h : keep_Keep_Sync R x0 w) : callG Tryz.prog 19 #[x0] w R :=
  calls_lift_eq Tryz.mixed Tryz.func19 (args := [x0]) rfl rfl rfl rfl ((keep_Keep_Sync_s0_eq R) (envOf [x0]) w) (by kernel_rfl) h
def keep_Keep_Checkpoint_s0 (R : Value → World → Prop) (x0 : Value) (w : World) : Prop :=
  callG Tryz.prog 40 #[x0] w fun t4 w =>
  qG Tryz.prog (Op.unary .not t4) w fun t5 =>
  bV t5
  (R (.int .i64 1) w)
  (callG Tryz.prog 39 #[x0] w fun t7 w =>
  R t7 w)
theorem keep_Keep_Checkpoint_s0_eq (R : Value → World → Prop) : ∀ e w, lift Tryz.prog 8 (bodyOf Tryz.f14) (finK Tryz.prog Tryz.f14.results.toList R) e w = keep_Keep_Checkpoint_s0 R (e 0) w := fun e w => by kernel_rfl
def keep_Keep_Checkpoint (R : Value → World → Prop) (x0 : Value) (w : World) : Prop := keep_Keep_Checkpoint_s0 R x0 w
theorem keep_Keep_Checkpoint_call {R : Value → World → Prop} {x0 : Value} {w : World} (h : keep_Keep_Checkpoint R x0 w) : callG Tryz.prog 14 #[x0] w R :=
  calls_lift_eq Tryz.mixed Tryz.func14 (args := [x0]) rfl rfl rfl rfl ((keep_Keep_Checkpoint_s0_eq R) (envOf [x0]) w) (by kernel_rfl) h
def keep_Keep_Turn_s0 (R : Value → World → Prop) (x0 : Value) (w : World) : Prop :=
  callG Tryz.prog 40 #[x0] w fun t4 w =>
  qG Tryz.prog (Op.unary .not t4) w fun t5 =>
  bV t5
  (R (.int .i64 0) w)
  (nk x0 fun t7 =>
  fa 5 t7 fun t8 =>
  ld1 t8 w fun t9 =>
  R t9 w)
theorem keep_Keep_Turn_s0_eq (R : Value → World → Prop) : ∀ e w, lift Tryz.prog 10 (bodyOf Tryz.f16) (finK Tryz.prog Tryz.f16.results.toList R) e w = keep_Keep_Turn_s0 R (e 0) w := fun e w => by kernel_rfl
def keep_Keep_Turn (R : Value → World → Prop) (x0 : Value) (w : World) : Prop := keep_Keep_Turn_s0 R x0 w
theorem keep_Keep_Turn_call {R : Value → World → Prop} {x0 : Value} {w : World} (h : keep_Keep_Turn R x0 w) : callG Tryz.prog 16 #[x0] w R :=
  calls_lift_eq Tryz.mixed Tryz.func16 (args := [x0]) rfl rfl rfl rfl ((keep_Keep_Turn_s0_eq R) (envOf [x0]) w) (by kernel_rfl) h
end Go.Proofs

set_option linter.unusedVariables false
set_option linter.unusedSimpArgs false
namespace Go.Proofs
open Go Go.Q
set_option maxRecDepth 100000
def ref07_index_s0 (R : Value → World → Prop) (w : World) : Prop :=
  R (.int .i64 (-1)) w
theorem ref07_index_s0_eq (R : Value → World → Prop) : ∀ e w, lift Tryz.prog 34 (sub (bodyOf Tryz.f48) [1, 1]) (finK Tryz.prog Tryz.f48.results.toList R) e w = ref07_index_s0 R w := fun e w => by kernel_rfl
def ref07_index_b1 (R : Value → World → Prop) (N1 : List Value → World → Prop) (x1 x2 x3 x7 : Value) (w : World) : Prop :=
  fa 0 x3 fun t9 =>
  ld1 t9 w fun t10 =>
  lenL t10 fun t11 =>
  qG Tryz.prog (bq .lss 3 (.tmp 8) (.tmp 11) x7 t11) w fun t12 =>
  bV t12
  (fa 0 x3 fun t15 =>
  ld1 t15 w fun t16 =>
  ia 4 t16 x7 fun t18 =>
  fa 0 t18 fun t19 =>
  ld1 t19 w fun t20 =>
  qG Tryz.prog (bq .eql 9 (.tmp 20) (.tmp 21) t20 x1) w fun t22 =>
  bV t22
  (fa 0 x3 fun t24 =>
  ld1 t24 w fun t25 =>
  ia 4 t25 x7 fun t27 =>
  fa 1 t27 fun t28 =>
  ld1 t28 w fun t29 =>
  qG Tryz.prog (bq .eql 9 (.tmp 29) (.tmp 30) t29 x2) w fun t31 =>
  bV t31
  (R x7 w)
  (qG Tryz.prog (bq .add 3 (.tmp 13) (.const (.int .i64 1)) x7 (.int .i64 1)) w fun t14 =>
  N1 [x1, x2, x3, t14] w))
  (qG Tryz.prog (bq .add 3 (.tmp 13) (.const (.int .i64 1)) x7 (.int .i64 1)) w fun t14_1 =>
  N1 [x1, x2, x3, t14_1] w))
  (ref07_index_s0 R  w)
theorem ref07_index_b1_eq (R : Value → World → Prop) (N1 : List Value → World → Prop) : ∀ e w, lift Tryz.prog 34 (sub (bodyOf Tryz.f48) [1, 0, 1, 0, 0]) (seqK (fun e w => N1 [e 1, e 2, e 3, e 7] w) (blockK 0 (seqK (fun e w => ref07_index_s0 R  w) (finK Tryz.prog Tryz.f48.results.toList R)))) e w = ref07_index_b1 R N1 (e 1) (e 2) (e 3) (e 7) w := fun e w => by kernel_rfl
def ref07_index_L2F (R : Value → World → Prop) (N1 : List Value → World → Prop) (xs : List Value) (w : World) : Prop :=
  match xs with
  | [x1, x2, x3, x7] => ref07_index_b1 R N1 x1 x2 x3 x7 w
  | _ => False
def ref07_index_L2 (R : Value → World → Prop) (x1 x2 x3 x7 : Value) (w : World) : Prop :=
  ∃ m, loopV (ref07_index_L2F R) m [x1, x2, x3, x7] w
theorem ref07_index_L2_eq (R : Value → World → Prop) : ∀ e w, lift Tryz.prog 34 (sub (bodyOf Tryz.f48) [1, 0, 1, 0]) (blockK 0 (seqK (fun e w => ref07_index_s0 R  w) (finK Tryz.prog Tryz.f48.results.toList R))) e w = ref07_index_L2 R (e 1) (e 2) (e 3) (e 7) w := loop_seg (F := ref07_index_L2F R) (sel := fun e => [e 1, e 2, e 3, e 7]) fun N1 => (ref07_index_b1_eq R N1)
def ref07_index_s3 (R : Value → World → Prop) (x1 x2 x3 : Value) (w : World) : Prop :=
  ref07_index_L2 R x1 x2 x3 (.int .i64 0) w
theorem ref07_index_s3_eq (R : Value → World → Prop) : ∀ e w, lift Tryz.prog 34 (sub (bodyOf Tryz.f48) [1, 0]) (seqK (fun e w => ref07_index_s0 R  w) (finK Tryz.prog Tryz.f48.results.toList R)) e w = ref07_index_s3 R (e 1) (e 2) (e 3) w :=
  segs_eq (l := [(sub (bodyOf Tryz.f48) [1, 0, 0])]) (y := (sub (bodyOf Tryz.f48) [1, 0, 1])) (Y := (fun e w => ref07_index_L2 R (e 1) (e 2) (e 3) (e 7) w)) (ref07_index_L2_eq R) (fun e w => by kernel_rfl)
def ref07_index_s4 (R : Value → World → Prop) (x0 x1 x2 : Value) (w : World) : Prop :=
  newG (Value.cells x0) 26 w fun t3 w =>
  ref07_index_s3 R x1 x2 t3 w
theorem ref07_index_s4_eq (R : Value → World → Prop) : ∀ e w, lift Tryz.prog 34 (bodyOf Tryz.f48) (finK Tryz.prog Tryz.f48.results.toList R) e w = ref07_index_s4 R (e 0) (e 1) (e 2) w :=
  segs_eq (l := [(sub (bodyOf Tryz.f48) [0])]) (y := (sub (bodyOf Tryz.f48) [1])) (Y := (fun e w => ref07_index_s3 R (e 1) (e 2) (e 3) w)) (seq_seg (x := (sub (bodyOf Tryz.f48) [1, 0])) (y := (sub (bodyOf Tryz.f48) [1, 1])) (ref07_index_s0_eq R) (ref07_index_s3_eq R)) (fun e w => by kernel_rfl)
def ref07_index (R : Value → World → Prop) (x0 x1 x2 : Value) (w : World) : Prop := ref07_index_s4 R x0 x1 x2 w
theorem ref07_index_call {R : Value → World → Prop} {x0 x1 x2 : Value} {w : World} (h : ref07_index R x0 x1 x2 w) : callG Tryz.prog 48 #[x0, x1, x2] w R :=
  calls_lift_eq Tryz.mixed Tryz.func48 (args := [x0, x1, x2]) rfl rfl rfl rfl ((ref07_index_s4_eq R) (envOf [x0, x1, x2]) w) (by kernel_rfl) h
def ref07_Find_s0 (R : Value → World → Prop) (x0 x1 x2 : Value) (w : World) : Prop :=
  newG (Value.cells x0) 26 w fun t3 w =>
  newG (zc Tryz.prog 48) 48 w fun t6 w =>
  ldn 4 t3 w fun t8 =>
  callG Tryz.prog 48 #[t8, x1, x2] w fun t11 w =>
  qG Tryz.prog (bq .geq 3 (.tmp 12) (.const (.int .i64 0)) t11 (.int .i64 0)) w fun t13 =>
  bV t13
  (fa 0 t3 fun t14 =>
  ld1 t14 w fun t15 =>
  ia 4 t15 t11 fun t17 =>
  ldn 4 t17 w fun t18 =>
  stn 4 t6 t18 w fun w =>
  qG Tryz.prog (do loadVar 48 (← asAddr t6)) w fun r6 =>
  R r6 w)
  (bld [(0, 1), (1, 1), (2, 1), (3, 1)] (zc Tryz.prog 48) #[(0, x1), (1, x2)] fun t21 =>
  stn 4 t6 t21 w fun w =>
  qG Tryz.prog (do loadVar 48 (← asAddr t6)) w fun r6_1 =>
  R r6_1 w)
theorem ref07_Find_s0_eq (R : Value → World → Prop) : ∀ e w, lift Tryz.prog 22 (bodyOf Tryz.f17) (finK Tryz.prog Tryz.f17.results.toList R) e w = ref07_Find_s0 R (e 0) (e 1) (e 2) w := fun e w => by kernel_rfl
def ref07_Find (R : Value → World → Prop) (x0 x1 x2 : Value) (w : World) : Prop := ref07_Find_s0 R x0 x1 x2 w
theorem ref07_Find_call {R : Value → World → Prop} {x0 x1 x2 : Value} {w : World} (h : ref07_Find R x0 x1 x2 w) : callG Tryz.prog 17 #[x0, x1, x2] w R :=
  calls_lift_eq Tryz.mixed Tryz.func17 (args := [x0, x1, x2]) rfl rfl rfl rfl ((ref07_Find_s0_eq R) (envOf [x0, x1, x2]) w) (by kernel_rfl) h
end Go.Proofs

set_option linter.unusedVariables false
set_option linter.unusedSimpArgs false
namespace Go.Proofs
open Go Go.Q
set_option maxRecDepth 100000
def ref07_Same_s0 (R : Value → World → Prop) (w : World) : Prop :=
  R (.bool true) w
theorem ref07_Same_s0_eq (R : Value → World → Prop) : ∀ e w, lift Tryz.prog 94 (sub (bodyOf Tryz.f15) [1, 1, 1, 1, 1]) (finK Tryz.prog Tryz.f15.results.toList R) e w = ref07_Same_s0 R w := fun e w => by kernel_rfl
def ref07_Same_b1 (R : Value → World → Prop) (N1 : List Value → World → Prop) (x2 x3 x7 : Value) (w : World) : Prop :=
  fa 2 x2 fun t77 =>
  ld1 t77 w fun t78 =>
  lenL t78 fun t79 =>
  qG Tryz.prog (bq .lss 3 (.tmp 76) (.tmp 79) x7 t79) w fun t80 =>
  bV t80
  (fa 2 x2 fun t83 =>
  ld1 t83 (World.drew w) fun t84 =>
  ia 6 t84 x7 fun t86 =>
  ldn 6 t86 (World.drew w) fun t87 =>
  fa 2 x3 fun t88 =>
  ld1 t88 (World.drew w) fun t89 =>
  ia 6 t89 x7 fun t91 =>
  ldn 6 t91 (World.drew w) fun t92 =>
  qG Tryz.prog (bq .neq 73 (.tmp 87) (.tmp 92) t87 t92) (World.drew w) fun t93 =>
  bV t93
  (R (.bool false) (World.drew w))
  (qG Tryz.prog (bq .add 3 (.tmp 81) (.const (.int .i64 1)) x7 (.int .i64 1)) (World.drew w) fun t82 =>
  N1 [x2, x3, t82] (World.drew w)))
  (ref07_Same_s0 R  w)
theorem ref07_Same_b1_eq (R : Value → World → Prop) (N1 : List Value → World → Prop) : ∀ e w, lift Tryz.prog 94 (sub (bodyOf Tryz.f15) [1, 1, 1, 1, 0, 1, 0, 0]) (seqK (fun e w => N1 [e 2, e 3, e 7] w) (blockK 4 (seqK (fun e w => ref07_Same_s0 R  w) (finK Tryz.prog Tryz.f15.results.toList R)))) e w = ref07_Same_b1 R N1 (e 2) (e 3) (e 7) w := fun e w => by kernel_rfl
def ref07_Same_L2F (R : Value → World → Prop) (N1 : List Value → World → Prop) (xs : List Value) (w : World) : Prop :=
  match xs with
  | [x2, x3, x7] => ref07_Same_b1 R N1 x2 x3 x7 w
  | _ => False
def ref07_Same_L2 (R : Value → World → Prop) (x2 x3 x7 : Value) (w : World) : Prop :=
  ∃ m, loopV (ref07_Same_L2F R) m [x2, x3, x7] w
theorem ref07_Same_L2_eq (R : Value → World → Prop) : ∀ e w, lift Tryz.prog 94 (sub (bodyOf Tryz.f15) [1, 1, 1, 1, 0, 1, 0]) (blockK 4 (seqK (fun e w => ref07_Same_s0 R  w) (finK Tryz.prog Tryz.f15.results.toList R))) e w = ref07_Same_L2 R (e 2) (e 3) (e 7) w := loop_seg (F := ref07_Same_L2F R) (sel := fun e => [e 2, e 3, e 7]) fun N1 => (ref07_Same_b1_eq R N1)
def ref07_Same_s3 (R : Value → World → Prop) (x2 x3 : Value) (w : World) : Prop :=
  ref07_Same_L2 R x2 x3 (.int .i64 0) w
theorem ref07_Same_s3_eq (R : Value → World → Prop) : ∀ e w, lift Tryz.prog 94 (sub (bodyOf Tryz.f15) [1, 1, 1, 1, 0]) (seqK (fun e w => ref07_Same_s0 R  w) (finK Tryz.prog Tryz.f15.results.toList R)) e w = ref07_Same_s3 R (e 2) (e 3) w :=
  segs_eq (l := [(sub (bodyOf Tryz.f15) [1, 1, 1, 1, 0, 0])]) (y := (sub (bodyOf Tryz.f15) [1, 1, 1, 1, 0, 1])) (Y := (fun e w => ref07_Same_L2 R (e 2) (e 3) (e 7) w)) (ref07_Same_L2_eq R) (fun e w => by kernel_rfl)
def ref07_Same_b4 (R : Value → World → Prop) (N1 : List Value → World → Prop) (x2 x3 x6 : Value) (w : World) : Prop :=
  fa 1 x2 fun t59 =>
  ld1 t59 w fun t60 =>
  lenL t60 fun t61 =>
  qG Tryz.prog (bq .lss 3 (.tmp 58) (.tmp 61) x6 t61) w fun t62 =>
  bV t62
  (fa 1 x2 fun t65 =>
  ld1 t65 (World.drew w) fun t66 =>
  ia 6 t66 x6 fun t68 =>
  ldn 6 t68 (World.drew w) fun t69 =>
  fa 1 x3 fun t70 =>
  ld1 t70 (World.drew w) fun t71 =>
  ia 6 t71 x6 fun t73 =>
  ldn 6 t73 (World.drew w) fun t74 =>
  qG Tryz.prog (bq .neq 70 (.tmp 69) (.tmp 74) t69 t74) (World.drew w) fun t75 =>
  bV t75
  (R (.bool false) (World.drew w))
  (qG Tryz.prog (bq .add 3 (.tmp 63) (.const (.int .i64 1)) x6 (.int .i64 1)) (World.drew w) fun t64 =>
  N1 [x2, x3, t64] (World.drew w)))
  (ref07_Same_s3 R x2 x3 w)
theorem ref07_Same_b4_eq (R : Value → World → Prop) (N1 : List Value → World → Prop) : ∀ e w, lift Tryz.prog 94 (sub (bodyOf Tryz.f15) [1, 1, 1, 0, 1, 0, 0]) (seqK (fun e w => N1 [e 2, e 3, e 6] w) (blockK 2 (seqK (fun e w => ref07_Same_s3 R (e 2) (e 3) w) (finK Tryz.prog Tryz.f15.results.toList R)))) e w = ref07_Same_b4 R N1 (e 2) (e 3) (e 6) w := fun e w => by kernel_rfl
def ref07_Same_L5F (R : Value → World → Prop) (N1 : List Value → World → Prop) (xs : List Value) (w : World) : Prop :=
  match xs with
  | [x2, x3, x6] => ref07_Same_b4 R N1 x2 x3 x6 w
  | _ => False
def ref07_Same_L5 (R : Value → World → Prop) (x2 x3 x6 : Value) (w : World) : Prop :=
  ∃ m, loopV (ref07_Same_L5F R) m [x2, x3, x6] w
theorem ref07_Same_L5_eq (R : Value → World → Prop) : ∀ e w, lift Tryz.prog 94 (sub (bodyOf Tryz.f15) [1, 1, 1, 0, 1, 0]) (blockK 2 (seqK (fun e w => ref07_Same_s3 R (e 2) (e 3) w) (finK Tryz.prog Tryz.f15.results.toList R))) e w = ref07_Same_L5 R (e 2) (e 3) (e 6) w := loop_seg (F := ref07_Same_L5F R) (sel := fun e => [e 2, e 3, e 6]) fun N1 => (ref07_Same_b4_eq R N1)
def ref07_Same_s6 (R : Value → World → Prop) (x2 x3 : Value) (w : World) : Prop :=
  ref07_Same_L5 R x2 x3 (.int .i64 0) w
theorem ref07_Same_s6_eq (R : Value → World → Prop) : ∀ e w, lift Tryz.prog 94 (sub (bodyOf Tryz.f15) [1, 1, 1, 0]) (seqK (fun e w => ref07_Same_s3 R (e 2) (e 3) w) (finK Tryz.prog Tryz.f15.results.toList R)) e w = ref07_Same_s6 R (e 2) (e 3) w :=
  segs_eq (l := [(sub (bodyOf Tryz.f15) [1, 1, 1, 0, 0])]) (y := (sub (bodyOf Tryz.f15) [1, 1, 1, 0, 1])) (Y := (fun e w => ref07_Same_L5 R (e 2) (e 3) (e 6) w)) (ref07_Same_L5_eq R) (fun e w => by kernel_rfl)
def ref07_Same_b7 (R : Value → World → Prop) (N1 : List Value → World → Prop) (x2 x3 x5 : Value) (w : World) : Prop :=
  fa 0 x2 fun t41 =>
  ld1 t41 w fun t42 =>
  lenL t42 fun t43 =>
  qG Tryz.prog (bq .lss 3 (.tmp 40) (.tmp 43) x5 t43) w fun t44 =>
  bV t44
  (fa 0 x2 fun t47 =>
  ld1 t47 (World.drew w) fun t48 =>
  ia 4 t48 x5 fun t50 =>
  ldn 4 t50 (World.drew w) fun t51 =>
  fa 0 x3 fun t52 =>
  ld1 t52 (World.drew w) fun t53 =>
  ia 4 t53 x5 fun t55 =>
  ldn 4 t55 (World.drew w) fun t56 =>
  qG Tryz.prog (bq .neq 48 (.tmp 51) (.tmp 56) t51 t56) (World.drew w) fun t57 =>
  bV t57
  (R (.bool false) (World.drew w))
  (qG Tryz.prog (bq .add 3 (.tmp 45) (.const (.int .i64 1)) x5 (.int .i64 1)) (World.drew w) fun t46 =>
  N1 [x2, x3, t46] (World.drew w)))
  (ref07_Same_s6 R x2 x3 w)
theorem ref07_Same_b7_eq (R : Value → World → Prop) (N1 : List Value → World → Prop) : ∀ e w, lift Tryz.prog 94 (sub (bodyOf Tryz.f15) [1, 1, 0, 1, 0, 0]) (seqK (fun e w => N1 [e 2, e 3, e 5] w) (blockK 0 (seqK (fun e w => ref07_Same_s6 R (e 2) (e 3) w) (finK Tryz.prog Tryz.f15.results.toList R)))) e w = ref07_Same_b7 R N1 (e 2) (e 3) (e 5) w := fun e w => by kernel_rfl
def ref07_Same_L8F (R : Value → World → Prop) (N1 : List Value → World → Prop) (xs : List Value) (w : World) : Prop :=
  match xs with
  | [x2, x3, x5] => ref07_Same_b7 R N1 x2 x3 x5 w
  | _ => False
def ref07_Same_L8 (R : Value → World → Prop) (x2 x3 x5 : Value) (w : World) : Prop :=
  ∃ m, loopV (ref07_Same_L8F R) m [x2, x3, x5] w
theorem ref07_Same_L8_eq (R : Value → World → Prop) : ∀ e w, lift Tryz.prog 94 (sub (bodyOf Tryz.f15) [1, 1, 0, 1, 0]) (blockK 0 (seqK (fun e w => ref07_Same_s6 R (e 2) (e 3) w) (finK Tryz.prog Tryz.f15.results.toList R))) e w = ref07_Same_L8 R (e 2) (e 3) (e 5) w := loop_seg (F := ref07_Same_L8F R) (sel := fun e => [e 2, e 3, e 5]) fun N1 => (ref07_Same_b7_eq R N1)
def ref07_Same_s9 (R : Value → World → Prop) (x2 x3 : Value) (w : World) : Prop :=
  ref07_Same_L8 R x2 x3 (.int .i64 0) w
theorem ref07_Same_s9_eq (R : Value → World → Prop) : ∀ e w, lift Tryz.prog 94 (sub (bodyOf Tryz.f15) [1, 1, 0]) (seqK (fun e w => ref07_Same_s6 R (e 2) (e 3) w) (finK Tryz.prog Tryz.f15.results.toList R)) e w = ref07_Same_s9 R (e 2) (e 3) w :=
  segs_eq (l := [(sub (bodyOf Tryz.f15) [1, 1, 0, 0])]) (y := (sub (bodyOf Tryz.f15) [1, 1, 0, 1])) (Y := (fun e w => ref07_Same_L8 R (e 2) (e 3) (e 5) w)) (ref07_Same_L8_eq R) (fun e w => by kernel_rfl)
def ref07_Same_s10 (R : Value → World → Prop) (x0 x1 : Value) (w : World) : Prop :=
  newG (Value.cells x0) 26 w fun t2 w =>
  newG (Value.cells x1) 26 w fun t3 w =>
  fa 0 t2 fun t8 =>
  ld1 t8 w fun t9 =>
  lenL t9 fun t10 =>
  fa 0 t3 fun t11 =>
  ld1 t11 w fun t12 =>
  lenL t12 fun t13 =>
  qG Tryz.prog (bq .neq 3 (.tmp 10) (.tmp 13) t10 t13) w fun t14 =>
  bV t14
  (R (.bool false) w)
  (fa 1 t2 fun t16 =>
  ld1 t16 w fun t17 =>
  lenL t17 fun t18 =>
  fa 1 t3 fun t19 =>
  ld1 t19 w fun t20 =>
  lenL t20 fun t21 =>
  qG Tryz.prog (bq .neq 3 (.tmp 18) (.tmp 21) t18 t21) w fun t22 =>
  bV t22
  (R (.bool false) w)
  (fa 2 t2 fun t25 =>
  ld1 t25 w fun t26 =>
  lenL t26 fun t27 =>
  fa 2 t3 fun t28 =>
  ld1 t28 w fun t29 =>
  lenL t29 fun t30 =>
  qG Tryz.prog (bq .neq 3 (.tmp 27) (.tmp 30) t27 t30) w fun t31 =>
  bV t31
  (R (.bool false) w)
  (fa 3 t2 fun t34 =>
  ld1 t34 w fun t35 =>
  fa 3 t3 fun t36 =>
  ld1 t36 w fun t37 =>
  qG Tryz.prog (bq .neq 3 (.tmp 35) (.tmp 37) t35 t37) w fun t38 =>
  bV t38
  (R (.bool false) w)
  (ref07_Same_s9 R t2 t3 w))))
theorem ref07_Same_s10_eq (R : Value → World → Prop) : ∀ e w, lift Tryz.prog 94 (bodyOf Tryz.f15) (finK Tryz.prog Tryz.f15.results.toList R) e w = ref07_Same_s10 R (e 0) (e 1) w :=
  segs_eq (l := [(sub (bodyOf Tryz.f15) [0]), (sub (bodyOf Tryz.f15) [1, 0])]) (y := (sub (bodyOf Tryz.f15) [1, 1])) (Y := (fun e w => ref07_Same_s9 R (e 2) (e 3) w)) (seq_seg (x := (sub (bodyOf Tryz.f15) [1, 1, 0])) (y := (sub (bodyOf Tryz.f15) [1, 1, 1])) (seq_seg (x := (sub (bodyOf Tryz.f15) [1, 1, 1, 0])) (y := (sub (bodyOf Tryz.f15) [1, 1, 1, 1])) (seq_seg (x := (sub (bodyOf Tryz.f15) [1, 1, 1, 1, 0])) (y := (sub (bodyOf Tryz.f15) [1, 1, 1, 1, 1])) (ref07_Same_s0_eq R) (ref07_Same_s3_eq R)) (ref07_Same_s6_eq R)) (ref07_Same_s9_eq R)) (fun e w => by kernel_rfl)
def ref07_Same (R : Value → World → Prop) (x0 x1 : Value) (w : World) : Prop := ref07_Same_s10 R x0 x1 w
theorem ref07_Same_call {R : Value → World → Prop} {x0 x1 : Value} {w : World} (h : ref07_Same R x0 x1 w) : callG Tryz.prog 15 #[x0, x1] w R :=
  calls_lift_eq Tryz.mixed Tryz.func15 (args := [x0, x1]) rfl rfl rfl rfl ((ref07_Same_s10_eq R) (envOf [x0, x1]) w) (by kernel_rfl) h
end Go.Proofs

set_option linter.unusedVariables false
set_option linter.unusedSimpArgs false
namespace Go.Proofs
open Go Go.Q
set_option maxRecDepth 100000
def law08_receive_s0 (R : Value → World → Prop) (x0 : Value) (w : World) : Prop :=
  newG (zc Tryz.prog 42) 42 w fun t2 w =>
  bld [(0, 1), (1, 1), (2, 1), (3, 1), (4, 1), (5, 1), (6, 1)] (zc Tryz.prog 42) #[(0, (.int .i64 1)), (1, (.string ⟨#[115]⟩)), (2, (.string ⟨#[120]⟩)), (4, x0)] fun t4 =>
  stn 7 t2 t4 w fun w =>
  qG Tryz.prog (do loadVar 42 (← asAddr t2)) w fun r2 =>
  R r2 w
theorem law08_receive_s0_eq (R : Value → World → Prop) : ∀ e w, lift Tryz.prog 5 (bodyOf Tryz.f20) (finK Tryz.prog Tryz.f20.results.toList R) e w = law08_receive_s0 R (e 0) w := fun e w => by kernel_rfl
def law08_receive (R : Value → World → Prop) (x0 : Value) (w : World) : Prop := law08_receive_s0 R x0 w
theorem law08_receive_call {R : Value → World → Prop} {x0 : Value} {w : World} (h : law08_receive R x0 w) : callG Tryz.prog 20 #[x0] w R :=
  calls_lift_eq Tryz.mixed Tryz.func20 (args := [x0]) rfl rfl rfl rfl ((law08_receive_s0_eq R) (envOf [x0]) w) (by kernel_rfl) h
def law08_awake_s0 (R : Value → World → Prop) (x1 : Value) (w : World) : Prop :=
  callG Tryz.prog 11 #[x1] w fun t50 w =>
  qG Tryz.prog (Instr.extract t50 0) w fun t51 =>
  qG Tryz.prog (Instr.extract t50 1) w fun t52 =>
  qG Tryz.prog (bq .eql 30 (.tmp 53) (.const (.int .i64 0)) t52 (.int .i64 0)) w fun t54 =>
  bV t54
  (qG Tryz.prog (bq .neq 37 (.tmp 56) (.const (.pointer none)) t51 (.pointer none)) w fun t57 =>
  bV t57
  (callG Tryz.prog 13 #[t51] w fun t61 w =>
  callG Tryz.prog 17 #[t61, (.string ⟨#[115]⟩), (.string ⟨#[120]⟩)] w fun t62 w =>
  fld false 2 1 t62 fun t63 =>
  qG Tryz.prog (bq .eql 3 (.tmp 63) (.const (.int .i64 5)) t63 (.int .i64 5)) w fun t64 =>
  bV t64
  (callG Tryz.prog 16 #[t51] w fun t68 w =>
  qG Tryz.prog (bq .eql 3 (.tmp 68) (.const (.int .i64 2)) t68 (.int .i64 2)) w fun t69 =>
  bV t69
  (callG Tryz.prog 13 #[t51] w fun t73 w =>
  fld false 2 1 t73 fun t74 =>
  lenL t74 fun t75 =>
  qG Tryz.prog (bq .eql 3 (.tmp 75) (.const (.int .i64 1)) t75 (.int .i64 1)) w fun t76 =>
  R t76 w)
  (R (.bool false) w))
  (R (.bool false) w))
  (R (.bool false) w))
  (R (.bool false) w)
theorem law08_awake_s0_eq (R : Value → World → Prop) : ∀ e w, lift Tryz.prog 78 (sub (bodyOf Tryz.f7) [1, 1, 1, 1]) (finK Tryz.prog Tryz.f7.results.toList R) e w = law08_awake_s0 R (e 1) w := fun e w => by kernel_rfl
def law08_awake_s1 (R : Value → World → Prop) (w : World) : Prop :=
  callG Tryz.prog 10 #[(.int .i64 40)] w fun t8 w =>
  qG Tryz.prog (Instr.extract t8 0) w fun t9 =>
  qG Tryz.prog (Instr.extract t8 1) w fun t10 =>
  callG Tryz.prog 11 #[t9] w fun t13 w =>
  qG Tryz.prog (Instr.extract t13 0) w fun t14 =>
  qG Tryz.prog (Instr.extract t13 1) w fun t15 =>
  qG Tryz.prog (bq .neq 30 (.tmp 16) (.const (.int .i64 0)) t10 (.int .i64 0)) w fun t17 =>
  bV t17
  (R (.bool false) w)
  (qG Tryz.prog (bq .neq 30 (.tmp 19) (.const (.int .i64 0)) t15 (.int .i64 0)) w fun t20 =>
  bV t20
  (R (.bool false) w)
  (qG Tryz.prog (bq .eql 37 (.tmp 23) (.const (.pointer none)) t14 (.pointer none)) w fun t24 =>
  bV t24
  (R (.bool false) w)
  (callG Tryz.prog 20 #[(.int .i64 5)] w fun t28 w =>
  callG Tryz.prog 12 #[t14, t28] w fun t29 w =>
  qG Tryz.prog (bq .neq 30 (.tmp 29) (.const (.int .i64 0)) t29 (.int .i64 0)) w fun t30 =>
  bV t30
  (R (.bool false) w)
  (callG Tryz.prog 19 #[t14] w fun t34 w =>
  qG Tryz.prog (bq .neq 30 (.tmp 34) (.const (.int .i64 0)) t34 (.int .i64 0)) w fun t35 =>
  bV t35
  (R (.bool false) w)
  (callG Tryz.prog 20 #[(.int .i64 2)] w fun t39 w =>
  callG Tryz.prog 12 #[t14, t39] w fun t40 w =>
  qG Tryz.prog (bq .neq 30 (.tmp 40) (.const (.int .i64 0)) t40 (.int .i64 0)) w fun t41 =>
  bV t41
  (R (.bool false) w)
  (callG Tryz.prog 21 #[t9, (.slice none 0 0)] w fun t45 w =>
  qG Tryz.prog (bq .neq 30 (.tmp 45) (.const (.int .i64 0)) t45 (.int .i64 0)) w fun t46 =>
  bV t46
  (R (.bool false) w)
  (law08_awake_s0 R t9 w)))))))
theorem law08_awake_s1_eq (R : Value → World → Prop) : ∀ e w, lift Tryz.prog 78 (bodyOf Tryz.f7) (finK Tryz.prog Tryz.f7.results.toList R) e w = law08_awake_s1 R w :=
  segs_eq (l := [(sub (bodyOf Tryz.f7) [0]), (sub (bodyOf Tryz.f7) [1, 0]), (sub (bodyOf Tryz.f7) [1, 1, 0]), (sub (bodyOf Tryz.f7) [1, 1, 1, 0])]) (y := (sub (bodyOf Tryz.f7) [1, 1, 1, 1])) (Y := (fun e w => law08_awake_s0 R (e 1) w)) (law08_awake_s0_eq R) (fun e w => by kernel_rfl)
def law08_awake (R : Value → World → Prop) (w : World) : Prop := law08_awake_s1 R  w
theorem law08_awake_call {R : Value → World → Prop} {w : World} (h : law08_awake R w) : callG Tryz.prog 7 #[] w R :=
  calls_lift_eq Tryz.mixed Tryz.func7 (args := []) rfl rfl rfl rfl ((law08_awake_s1_eq R) (envOf []) w) (by kernel_rfl) h
def law08_KeepLays_s0 (R : Value → World → Prop) (w : World) : Prop :=
  callG Tryz.prog 7 #[] w fun t95 w =>
  R t95 w
theorem law08_KeepLays_s0_eq (R : Value → World → Prop) : ∀ e w, lift Tryz.prog 96 (sub (bodyOf Tryz.f4) [1, 1, 1, 1, 1, 1]) (finK Tryz.prog Tryz.f4.results.toList R) e w = law08_KeepLays_s0 R w := fun e w => by kernel_rfl
def law08_KeepLays_s1 (R : Value → World → Prop) (N1 : List Value → World → Prop) (x0 x1 x7 x9 x10 x11 : Value) (w : World) : Prop :=
  qG Tryz.prog (bq .add 3 (.tmp 42) (.const (.int .i64 1)) x11 (.int .i64 1)) w fun t43 =>
  N1 [x0, x1, x7, x9, x10, t43] w
theorem law08_KeepLays_s1_eq (R : Value → World → Prop) (N1 : List Value → World → Prop) : ∀ e w, lift Tryz.prog 96 (sub (bodyOf Tryz.f4) [1, 1, 1, 1, 1, 0, 1, 0, 0, 1, 1]) (seqK (fun e w => N1 [e 0, e 1, e 7, e 9, e 10, e 11] w) (blockK 0 (seqK (fun e w => law08_KeepLays_s0 R  w) (finK Tryz.prog Tryz.f4.results.toList R)))) e w = law08_KeepLays_s1 R N1 (e 0) (e 1) (e 7) (e 9) (e 10) (e 11) w := fun e w => by kernel_rfl
def law08_KeepLays_s2 (R : Value → World → Prop) (N1 : List Value → World → Prop) (x0 x1 x7 x9 x10 x11 : Value) (w : World) : Prop :=
  callG Tryz.prog 13 #[x7] w fun t90 w =>
  callG Tryz.prog 17 #[t90, (.string ⟨#[115]⟩), (.string ⟨#[120]⟩)] w fun t91 w =>
  fld false 2 1 t91 fun t92 =>
  qG Tryz.prog (bq .neq 3 (.tmp 92) (.tmp 93) t92 x9) w fun t94 =>
  bV t94
  (R (.bool false) w)
  (law08_KeepLays_s1 R N1 x0 x1 x7 x9 x10 x11 w)
theorem law08_KeepLays_s2_eq (R : Value → World → Prop) (N1 : List Value → World → Prop) : ∀ e w, lift Tryz.prog 96 (sub (bodyOf Tryz.f4) [1, 1, 1, 1, 1, 0, 1, 0, 0, 1, 0, 0, 1, 1, 1, 1]) (blockK 1 (seqK (fun e w => law08_KeepLays_s1 R N1 (e 0) (e 1) (e 7) (e 9) (e 10) (e 11) w) (seqK (fun e w => N1 [e 0, e 1, e 7, e 9, e 10, e 11] w) (blockK 0 (seqK (fun e w => law08_KeepLays_s0 R  w) (finK Tryz.prog Tryz.f4.results.toList R)))))) e w = law08_KeepLays_s2 R N1 (e 0) (e 1) (e 7) (e 9) (e 10) (e 11) w := fun e w => by kernel_rfl
def law08_KeepLays_s3 (R : Value → World → Prop) (N1 : List Value → World → Prop) (x0 x1 x7 x9 x10 x11 x12 x13 : Value) (w : World) : Prop :=
  qG Tryz.prog (bq .eql 30 (.tmp 82) (.const (.int .i64 0)) x13 (.int .i64 0)) w fun t83 =>
  bV t83
  (qG Tryz.prog (bq .add 3 (.tmp 84) (.tmp 85) x9 x12) w fun t86 =>
  law08_KeepLays_s2 R N1 x0 x1 x7 t86 x10 x11 w)
  (qG Tryz.prog (bq .neq 30 (.tmp 87) (.const (.int .i64 2)) x13 (.int .i64 2)) w fun t88 =>
  bV t88
  (R (.bool false) w)
  (law08_KeepLays_s2 R N1 x0 x1 x7 x9 x10 x11 w))
theorem law08_KeepLays_s3_eq (R : Value → World → Prop) (N1 : List Value → World → Prop) : ∀ e w, lift Tryz.prog 96 (sub (bodyOf Tryz.f4) [1, 1, 1, 1, 1, 0, 1, 0, 0, 1, 0, 0, 1, 1, 1]) (blockK 1 (seqK (fun e w => law08_KeepLays_s1 R N1 (e 0) (e 1) (e 7) (e 9) (e 10) (e 11) w) (seqK (fun e w => N1 [e 0, e 1, e 7, e 9, e 10, e 11] w) (blockK 0 (seqK (fun e w => law08_KeepLays_s0 R  w) (finK Tryz.prog Tryz.f4.results.toList R)))))) e w = law08_KeepLays_s3 R N1 (e 0) (e 1) (e 7) (e 9) (e 10) (e 11) (e 12) (e 13) w :=
  segs_eq (l := [(sub (bodyOf Tryz.f4) [1, 1, 1, 1, 1, 0, 1, 0, 0, 1, 0, 0, 1, 1, 1, 0])]) (y := (sub (bodyOf Tryz.f4) [1, 1, 1, 1, 1, 0, 1, 0, 0, 1, 0, 0, 1, 1, 1, 1])) (Y := (fun e w => law08_KeepLays_s2 R N1 (e 0) (e 1) (e 7) (e 9) (e 10) (e 11) w)) (law08_KeepLays_s2_eq R N1) (fun e w => by kernel_rfl)
def law08_KeepLays_s4 (R : Value → World → Prop) (N1 : List Value → World → Prop) (x0 x1 x7 x9 x10 x11 x12 x13 x63 : Value) (w : World) : Prop :=
  bV x63
  (callG Tryz.prog 13 #[x7] w fun t65 w =>
  newG (zc Tryz.prog 26) 26 w fun t14 w =>
  stn 4 t14 t65 w fun w =>
  callG Tryz.prog 14 #[x7] w fun t67 w =>
  qG Tryz.prog (bq .neq 30 (.tmp 67) (.const (.int .i64 0)) t67 (.int .i64 0)) w fun t68 =>
  bV t68
  (R (.bool false) w)
  (qG Tryz.prog (bq .add 3 (.tmp 69) (.const (.int .i64 1)) x10 (.int .i64 1)) w fun t70 =>
  ldn 4 t14 (World.drew w) fun t73 =>
  callG Tryz.prog 13 #[x7] (World.drew w) fun t72 w =>
  ldn 4 t14 w (fun u => u = t73) ∧
  callG Tryz.prog 15 #[t72, t73] w fun t74 w =>
  qG Tryz.prog (Op.unary .not t74) w fun t75 =>
  bV t75
  (R (.bool false) w)
  (callG Tryz.prog 16 #[x7] w fun t78 w =>
  qG Tryz.prog (bq .neq 3 (.tmp 78) (.tmp 79) t78 t70) w fun t80 =>
  bV t80
  (R (.bool false) w)
  (law08_KeepLays_s3 R N1 x0 x1 x7 x9 t70 x11 x12 x13 w))))
  (law08_KeepLays_s3 R N1 x0 x1 x7 x9 x10 x11 x12 x13 w)
theorem law08_KeepLays_s4_eq (R : Value → World → Prop) (N1 : List Value → World → Prop) : ∀ e w, lift Tryz.prog 96 (sub (bodyOf Tryz.f4) [1, 1, 1, 1, 1, 0, 1, 0, 0, 1, 0, 0, 1, 1, 0, 1]) (seqK (fun e w => law08_KeepLays_s3 R N1 (e 0) (e 1) (e 7) (e 9) (e 10) (e 11) (e 12) (e 13) w) (blockK 1 (seqK (fun e w => law08_KeepLays_s1 R N1 (e 0) (e 1) (e 7) (e 9) (e 10) (e 11) w) (seqK (fun e w => N1 [e 0, e 1, e 7, e 9, e 10, e 11] w) (blockK 0 (seqK (fun e w => law08_KeepLays_s0 R  w) (finK Tryz.prog Tryz.f4.results.toList R))))))) e w = law08_KeepLays_s4 R N1 (e 0) (e 1) (e 7) (e 9) (e 10) (e 11) (e 12) (e 13) (e 63) w := fun e w => by kernel_rfl
def law08_KeepLays_s5 (R : Value → World → Prop) (N1 : List Value → World → Prop) (x0 x1 x7 x9 x10 x11 x12 x13 : Value) (w : World) : Prop :=
  qG Tryz.prog (bq .eql 30 (.tmp 54) (.const (.int .i64 2)) x13 (.int .i64 2)) w fun t55 =>
  bV t55
  (law08_KeepLays_s4 R N1 x0 x1 x7 x9 x10 x11 x12 x13 (.bool true) w)
  (qG Tryz.prog (bq .and 3 (.tmp 58) (.const (.int .i64 31)) x11 (.int .i64 31)) w fun t59 =>
  qG Tryz.prog (bq .shr 3 (.tmp 57) (.tmp 59) x1 t59) w fun t60 =>
  qG Tryz.prog (bq .and 3 (.tmp 60) (.const (.int .i64 1)) t60 (.int .i64 1)) w fun t61 =>
  qG Tryz.prog (bq .eql 3 (.tmp 61) (.const (.int .i64 1)) t61 (.int .i64 1)) w fun t62 =>
  law08_KeepLays_s4 R N1 x0 x1 x7 x9 x10 x11 x12 x13 t62 w)
theorem law08_KeepLays_s5_eq (R : Value → World → Prop) (N1 : List Value → World → Prop) : ∀ e w, lift Tryz.prog 96 (sub (bodyOf Tryz.f4) [1, 1, 1, 1, 1, 0, 1, 0, 0, 1, 0, 0, 1, 1, 0]) (seqK (fun e w => law08_KeepLays_s3 R N1 (e 0) (e 1) (e 7) (e 9) (e 10) (e 11) (e 12) (e 13) w) (blockK 1 (seqK (fun e w => law08_KeepLays_s1 R N1 (e 0) (e 1) (e 7) (e 9) (e 10) (e 11) w) (seqK (fun e w => N1 [e 0, e 1, e 7, e 9, e 10, e 11] w) (blockK 0 (seqK (fun e w => law08_KeepLays_s0 R  w) (finK Tryz.prog Tryz.f4.results.toList R))))))) e w = law08_KeepLays_s5 R N1 (e 0) (e 1) (e 7) (e 9) (e 10) (e 11) (e 12) (e 13) w :=
  segs_eq (l := [(sub (bodyOf Tryz.f4) [1, 1, 1, 1, 1, 0, 1, 0, 0, 1, 0, 0, 1, 1, 0, 0])]) (y := (sub (bodyOf Tryz.f4) [1, 1, 1, 1, 1, 0, 1, 0, 0, 1, 0, 0, 1, 1, 0, 1])) (Y := (fun e w => law08_KeepLays_s4 R N1 (e 0) (e 1) (e 7) (e 9) (e 10) (e 11) (e 12) (e 13) (e 63) w)) (law08_KeepLays_s4_eq R N1) (fun e w => by kernel_rfl)
def law08_KeepLays_s6 (R : Value → World → Prop) (N1 : List Value → World → Prop) (x0 x1 x7 x9 x10 x11 : Value) (w : World) : Prop :=
  ia 1 x0 x11 fun t46 =>
  ld1 t46 w fun t47 =>
  qG Tryz.prog (bq .and 3 (.tmp 47) (.const (.int .i64 7)) t47 (.int .i64 7)) w fun t48 =>
  qG Tryz.prog (bq .add 3 (.const (.int .i64 1)) (.tmp 48) (.int .i64 1) t48) w fun t49 =>
  bld [(0, 1), (1, 1), (2, 1), (3, 1), (4, 1), (5, 1), (6, 1)] (zc Tryz.prog 42) #[(0, (.int .i64 7)), (1, (.string ⟨#[115]⟩)), (2, (.string ⟨#[120]⟩)), (4, t49)] fun t52 =>
  callG Tryz.prog 12 #[x7, t52] w fun t53 w =>
  law08_KeepLays_s5 R N1 x0 x1 x7 x9 x10 x11 t49 t53 w
theorem law08_KeepLays_s6_eq (R : Value → World → Prop) (N1 : List Value → World → Prop) : ∀ e w, lift Tryz.prog 96 (sub (bodyOf Tryz.f4) [1, 1, 1, 1, 1, 0, 1, 0, 0, 1, 0, 0]) (blockK 1 (seqK (fun e w => law08_KeepLays_s1 R N1 (e 0) (e 1) (e 7) (e 9) (e 10) (e 11) w) (seqK (fun e w => N1 [e 0, e 1, e 7, e 9, e 10, e 11] w) (blockK 0 (seqK (fun e w => law08_KeepLays_s0 R  w) (finK Tryz.prog Tryz.f4.results.toList R)))))) e w = law08_KeepLays_s6 R N1 (e 0) (e 1) (e 7) (e 9) (e 10) (e 11) w :=
  segs_eq (l := [(sub (bodyOf Tryz.f4) [1, 1, 1, 1, 1, 0, 1, 0, 0, 1, 0, 0, 0]), (sub (bodyOf Tryz.f4) [1, 1, 1, 1, 1, 0, 1, 0, 0, 1, 0, 0, 1, 0])]) (y := (sub (bodyOf Tryz.f4) [1, 1, 1, 1, 1, 0, 1, 0, 0, 1, 0, 0, 1, 1])) (Y := (fun e w => law08_KeepLays_s5 R N1 (e 0) (e 1) (e 7) (e 9) (e 10) (e 11) (e 12) (e 13) w)) (seq_seg (x := (sub (bodyOf Tryz.f4) [1, 1, 1, 1, 1, 0, 1, 0, 0, 1, 0, 0, 1, 1, 0])) (y := (sub (bodyOf Tryz.f4) [1, 1, 1, 1, 1, 0, 1, 0, 0, 1, 0, 0, 1, 1, 1])) (law08_KeepLays_s3_eq R N1) (law08_KeepLays_s5_eq R N1)) (fun e w => by kernel_rfl)
def law08_KeepLays_s7 (R : Value → World → Prop) (N1 : List Value → World → Prop) (x0 x1 x7 x9 x10 x11 : Value) (w : World) : Prop :=
  lenL x0 fun t36 =>
  qG Tryz.prog (bq .lss 3 (.tmp 34) (.tmp 36) x11 t36) w fun t37 =>
  bV t37
  (qG Tryz.prog (bq .lss 3 (.tmp 39) (.const (.int .i64 60)) x11 (.int .i64 60)) w fun t40 =>
  bV t40
  (law08_KeepLays_s6 R N1 x0 x1 x7 x9 x10 x11 w)
  (law08_KeepLays_s0 R  w))
  (law08_KeepLays_s0 R  w)
theorem law08_KeepLays_s7_eq (R : Value → World → Prop) (N1 : List Value → World → Prop) : ∀ e w, lift Tryz.prog 96 (sub (bodyOf Tryz.f4) [1, 1, 1, 1, 1, 0, 1, 0, 0]) (seqK (fun e w => N1 [e 0, e 1, e 7, e 9, e 10, e 11] w) (blockK 0 (seqK (fun e w => law08_KeepLays_s0 R  w) (finK Tryz.prog Tryz.f4.results.toList R)))) e w = law08_KeepLays_s7 R N1 (e 0) (e 1) (e 7) (e 9) (e 10) (e 11) w :=
  segs_eq (l := [(sub (bodyOf Tryz.f4) [1, 1, 1, 1, 1, 0, 1, 0, 0, 0])]) (y := (sub (bodyOf Tryz.f4) [1, 1, 1, 1, 1, 0, 1, 0, 0, 1])) (Y := (fun e w => law08_KeepLays_s6 R N1 (e 0) (e 1) (e 7) (e 9) (e 10) (e 11) w)) (seq_seg (x := (sub (bodyOf Tryz.f4) [1, 1, 1, 1, 1, 0, 1, 0, 0, 1, 0])) (y := (sub (bodyOf Tryz.f4) [1, 1, 1, 1, 1, 0, 1, 0, 0, 1, 1])) (law08_KeepLays_s1_eq R N1) (law08_KeepLays_s6_eq R N1)) (fun e w => by kernel_rfl)
def law08_KeepLays_L8F (R : Value → World → Prop) (N1 : List Value → World → Prop) (xs : List Value) (w : World) : Prop :=
  match xs with
  | [x0, x1, x7, x9, x10, x11] => law08_KeepLays_s7 R N1 x0 x1 x7 x9 x10 x11 w
  | _ => False
def law08_KeepLays_L8 (R : Value → World → Prop) (x0 x1 x7 x9 x10 x11 : Value) (w : World) : Prop :=
  ∃ m, loopV (law08_KeepLays_L8F R) m [x0, x1, x7, x9, x10, x11] w
theorem law08_KeepLays_L8_eq (R : Value → World → Prop) : ∀ e w, lift Tryz.prog 96 (sub (bodyOf Tryz.f4) [1, 1, 1, 1, 1, 0, 1, 0]) (blockK 0 (seqK (fun e w => law08_KeepLays_s0 R  w) (finK Tryz.prog Tryz.f4.results.toList R))) e w = law08_KeepLays_L8 R (e 0) (e 1) (e 7) (e 9) (e 10) (e 11) w := loop_seg (F := law08_KeepLays_L8F R) (sel := fun e => [e 0, e 1, e 7, e 9, e 10, e 11]) fun N1 => (law08_KeepLays_s7_eq R N1)
def law08_KeepLays_s9 (R : Value → World → Prop) (x0 x1 x7 x9 x10 : Value) (w : World) : Prop :=
  law08_KeepLays_L8 R x0 x1 x7 x9 x10 (.int .i64 0) w
theorem law08_KeepLays_s9_eq (R : Value → World → Prop) : ∀ e w, lift Tryz.prog 96 (sub (bodyOf Tryz.f4) [1, 1, 1, 1, 1, 0]) (seqK (fun e w => law08_KeepLays_s0 R  w) (finK Tryz.prog Tryz.f4.results.toList R)) e w = law08_KeepLays_s9 R (e 0) (e 1) (e 7) (e 9) (e 10) w :=
  segs_eq (l := [(sub (bodyOf Tryz.f4) [1, 1, 1, 1, 1, 0, 0])]) (y := (sub (bodyOf Tryz.f4) [1, 1, 1, 1, 1, 0, 1])) (Y := (fun e w => law08_KeepLays_L8 R (e 0) (e 1) (e 7) (e 9) (e 10) (e 11) w)) (law08_KeepLays_L8_eq R) (fun e w => by kernel_rfl)
def law08_KeepLays_s10 (R : Value → World → Prop) (x0 x1 x7 : Value) (w : World) : Prop :=
  law08_KeepLays_s9 R x0 x1 x7 (.int .i64 0) (.int .i64 1) w
theorem law08_KeepLays_s10_eq (R : Value → World → Prop) : ∀ e w, lift Tryz.prog 96 (sub (bodyOf Tryz.f4) [1, 1, 1, 1]) (finK Tryz.prog Tryz.f4.results.toList R) e w = law08_KeepLays_s10 R (e 0) (e 1) (e 7) w :=
  segs_eq (l := [(sub (bodyOf Tryz.f4) [1, 1, 1, 1, 0])]) (y := (sub (bodyOf Tryz.f4) [1, 1, 1, 1, 1])) (Y := (fun e w => law08_KeepLays_s9 R (e 0) (e 1) (e 7) (e 9) (e 10) w)) (seq_seg (x := (sub (bodyOf Tryz.f4) [1, 1, 1, 1, 1, 0])) (y := (sub (bodyOf Tryz.f4) [1, 1, 1, 1, 1, 1])) (law08_KeepLays_s0_eq R) (law08_KeepLays_s9_eq R)) (fun e w => by kernel_rfl)
def law08_KeepLays_s11 (R : Value → World → Prop) (x0 x1 : Value) (w : World) : Prop :=
  callG Tryz.prog 10 #[(.int .i64 66)] w fun t16 w =>
  qG Tryz.prog (Instr.extract t16 0) w fun t17 =>
  qG Tryz.prog (Instr.extract t16 1) w fun t18 =>
  callG Tryz.prog 11 #[t17] w fun t21 w =>
  qG Tryz.prog (Instr.extract t21 0) w fun t22 =>
  qG Tryz.prog (Instr.extract t21 1) w fun t23 =>
  qG Tryz.prog (bq .neq 30 (.tmp 24) (.const (.int .i64 0)) t18 (.int .i64 0)) w fun t25 =>
  bV t25
  (R (.bool false) w)
  (qG Tryz.prog (bq .neq 30 (.tmp 27) (.const (.int .i64 0)) t23 (.int .i64 0)) w fun t28 =>
  bV t28
  (R (.bool false) w)
  (qG Tryz.prog (bq .eql 37 (.tmp 31) (.const (.pointer none)) t22 (.pointer none)) w fun t32 =>
  bV t32
  (R (.bool false) w)
  (law08_KeepLays_s10 R x0 x1 t22 w)))
theorem law08_KeepLays_s11_eq (R : Value → World → Prop) : ∀ e w, lift Tryz.prog 96 (bodyOf Tryz.f4) (finK Tryz.prog Tryz.f4.results.toList R) e w = law08_KeepLays_s11 R (e 0) (e 1) w :=
  segs_eq (l := [(sub (bodyOf Tryz.f4) [0]), (sub (bodyOf Tryz.f4) [1, 0]), (sub (bodyOf Tryz.f4) [1, 1, 0]), (sub (bodyOf Tryz.f4) [1, 1, 1, 0])]) (y := (sub (bodyOf Tryz.f4) [1, 1, 1, 1])) (Y := (fun e w => law08_KeepLays_s10 R (e 0) (e 1) (e 7) w)) (law08_KeepLays_s10_eq R) (fun e w => by kernel_rfl)
def law08_KeepLays (R : Value → World → Prop) (x0 x1 : Value) (w : World) : Prop := law08_KeepLays_s11 R x0 x1 w
theorem law08_KeepLays_call {R : Value → World → Prop} {x0 x1 : Value} {w : World} (h : law08_KeepLays R x0 x1 w) : callG Tryz.prog 4 #[x0, x1] w R :=
  calls_lift_eq Tryz.mixed Tryz.func4 (args := [x0, x1]) rfl rfl rfl rfl ((law08_KeepLays_s11_eq R) (envOf [x0, x1]) w) (by kernel_rfl) h
end Go.Proofs

set_option linter.unusedVariables false
set_option linter.unusedSimpArgs false
namespace Go.Q
theorem flat_len {α : Type} {k : Nat} : ∀ {F : List (List α)}, (∀ x ∈ F, x.length = k) → F.flatten.length = F.length * k := by
  intro F
  induction F with
  | nil => intro _; simp
  | cons x r ih =>
    intro h
    rw [List.flatten_cons, List.length_append, ih fun y hy => h y (by simp [hy]), h x (by simp), List.length_cons, Nat.succ_mul]; omega
theorem flat_drop {α : Type} {k : Nat} : ∀ {F : List (List α)} (i : Nat), (∀ x ∈ F, x.length = k) → F.flatten.drop (i * k) = (F.drop i).flatten := by
  intro F
  induction F with
  | nil => intro i _; simp
  | cons x r ih =>
    intro i h
    cases i with
    | zero => simp
    | succ i =>
      have hx := h x (by simp)
      rw [List.flatten_cons, List.drop_succ_cons, ← ih i fun y hy => h y (by simp [hy])]
      have e : (i + 1) * k = k + i * k := by rw [Nat.succ_mul]; omega
      rw [e, ← List.drop_drop, ← hx, List.drop_left]
theorem flat_take {α : Type} {k : Nat} : ∀ {F : List (List α)} (i : Nat), (∀ x ∈ F, x.length = k) → F.flatten.take (i * k) = (F.take i).flatten := by
  intro F
  induction F with
  | nil => intro i _; simp
  | cons x r ih =>
    intro i h
    cases i with
    | zero => simp
    | succ i =>
      have hx := h x (by simp)
      rw [List.flatten_cons, List.take_succ_cons, List.flatten_cons, ← ih i fun y hy => h y (by simp [hy])]
      rw [List.take_append, hx, Nat.succ_mul, List.take_of_length_le (by omega)]
      congr 2; omega
theorem flat_get {α : Type} {k : Nat} {F : List (List α)} {i : Nat} (h : ∀ x ∈ F, x.length = k) (hi : i < F.length) : (F.flatten.drop (i * k)).take k = F[i] := by
  rw [flat_drop i h, List.drop_eq_getElem_cons hi, List.flatten_cons]
  rw [List.take_append_of_le_length (by rw [h _ (List.getElem_mem hi)]; omega)]
  rw [List.take_of_length_le (by rw [h _ (List.getElem_mem hi)]; omega)]
theorem flat_splice {α : Type} {k : Nat} {F : List (List α)} {i : Nat} (h : ∀ x ∈ F, x.length = k) (hi : i < F.length) {pre : List α} (hp : pre.length ≤ k) :
    F.flatten.take (i * k) ++ pre ++ F.flatten.drop (i * k + pre.length) = (F.set i (pre ++ (F[i]).drop pre.length)).flatten := by
  have hF : F.drop i = F[i] :: F.drop (i + 1) := List.drop_eq_getElem_cons hi
  rw [flat_take i h, ← List.drop_drop, flat_drop i h, hF, List.flatten_cons]
  rw [List.drop_append_of_le_length (by rw [h _ (List.getElem_mem hi)]; omega)]
  rw [List.set_eq_take_append_cons_drop, if_pos hi, List.flatten_append, List.flatten_cons]
  simp
theorem flat_splice_many {α : Type} {k : Nat} {F G : List (List α)} {i : Nat} (h : ∀ x ∈ F, x.length = k) (hG : ∀ x ∈ G, x.length = k) (_hi : i + G.length ≤ F.length) :
    F.flatten.take (i * k) ++ G.flatten ++ F.flatten.drop (i * k + G.flatten.length) = (F.take i ++ G ++ F.drop (i + G.length)).flatten := by
  rw [flat_take i h, flat_len hG, ← Nat.add_mul, flat_drop _ h]
  simp
def u8c (l : List UInt8) : List Value := l.map fun c => .int .u8 c.toNat
@[simp] theorem u8c_len (l : List UInt8) : (u8c l).length = l.length := by simp [u8c]
theorem u8c_take (l : List UInt8) (n : Nat) : (u8c l).take n = u8c (l.take n) := by simp [u8c]
theorem u8c_drop (l : List UInt8) (n : Nat) : (u8c l).drop n = u8c (l.drop n) := by simp [u8c]
theorem u8c_append (l m : List UInt8) : u8c (l ++ m) = u8c l ++ u8c m := by simp [u8c]
theorem bytesOf_u8c (l : List UInt8) : bytesOf (u8c l) = some l := by
  induction l with
  | nil => rfl
  | cons c r ih =>
    show (bytesOf (u8c r)).map _ = _
    rw [ih]
    simp
theorem one_u8c (l : List UInt8) : (u8c l).toArray.all one = true := by
  rw [List.all_toArray, List.all_eq_true]
  intro v hv
  unfold u8c at hv
  rw [List.mem_map] at hv
  obtain ⟨c, _, rfl⟩ := hv
  rfl
theorem u8s_eq (s : ByteArray) : u8s s = (u8c s.data.toList).toArray := by
  unfold u8s u8c
  apply Array.toList_inj.1
  simp
theorem splice_list (c : List Value) (o : Nat) (vs : List Value) : splice c.toArray o vs.toArray = (c.take o ++ vs ++ c.drop (o + vs.length)).toArray := by
  simp [splice]
theorem extract_list {α : Type} (c : List α) (o n : Nat) : (c.toArray).extract o (o + n) = ((c.drop o).take n).toArray := by
  simp
def str (l : List UInt8) : ByteArray := ⟨l.toArray⟩
@[simp] theorem str_data (l : List UInt8) : (str l).data.toList = l := rfl
@[simp] theorem str_size (l : List UInt8) : (str l).size = l.length := by simp [str, ByteArray.size]
theorem str_of (s : ByteArray) : str s.data.toList = s := by cases s; simp [str]
theorem str_inj {l m : List UInt8} : str l = str m ↔ l = m := by
  constructor
  · intro h; have := congrArg (fun s : ByteArray => s.data.toList) h; simpa using this
  · intro h; rw [h]
@[simp] theorem str_eq (l m : List UInt8) : (str l = str m) = (l = m) := propext str_inj
@[simp] theorem str_append (l m : List UInt8) : str l ++ str m = str (l ++ m) := by
  have : (str l ++ str m).data.toList = l ++ m := by simp [str, ByteArray.data_append]
  rw [← str_of (str l ++ str m), this]
theorem str_extract (l : List UInt8) (i j : Nat) : (str l).extract i j = str ((l.take j).drop i) := by
  have : ((str l).extract i j).data.toList = (l.take j).drop i := by
    simp [str, ByteArray.data_extract, List.drop_take]
  rw [← str_of ((str l).extract i j), this]
end Go.Q

set_option linter.unusedVariables false
set_option linter.unusedSimpArgs false
namespace Go.Q
def RowsAt (w : World) (v : Value) (k : Nat) (rows : List (List Value)) (S : List Nat) : Prop :=
  (v = .slice none 0 0 ∧ rows = [] ∧ S = []) ∨
  ∃ (bl : Nat) (F : List (List Value)) (T : Nat), v = .slice (some ⟨bl, 0, none⟩) rows.length F.length ∧ S = [bl] ∧ w.heap[bl]? = some (.cells F.flatten.toArray T (0, 0)) ∧ (∀ x ∈ F, x.length = k) ∧ F.take rows.length = rows ∧ rows.length ≤ F.length
theorem RowsAt.keep {w w' : World} {v : Value} {k : Nat} {rows : List (List Value)} {S S' : List Nat} (h : RowsAt w v k rows S) (hk : Kp S' w w') (hd : ∀ x ∈ S, x ∉ S') : RowsAt w' v k rows S := by
  rcases h with h | ⟨bl, F, T, h1, h2, h3, h4, h5, h6⟩
  · exact .inl h
  · subst h2
    exact .inr ⟨bl, F, T, h1, rfl, hk.get h3 (hd bl (by simp)), h4, h5, h6⟩
theorem RowsAt.len {w : World} {v : Value} {k : Nat} {rows : List (List Value)} {S : List Nat} (h : RowsAt w v k rows S) : ∃ a c, v = .slice a rows.length c ∧ rows.length ≤ c := by
  rcases h with ⟨h1, h2, h3⟩ | ⟨bl, F, T, h1, h2, h3, h4, h5, h6⟩
  · exact ⟨none, 0, by rw [h1, h2]; rfl, by simp [h2]⟩
  · exact ⟨_, _, h1, h6⟩
theorem RowsAt.row {w : World} {v : Value} {k : Nat} {rows : List (List Value)} {S : List Nat} (h : RowsAt w v k rows S) {x : List Value} (hx : x ∈ rows) : x.length = k := by
  rcases h with ⟨h1, h2, h3⟩ | ⟨bl, F, T, h1, h2, h3, h4, h5, h6⟩
  · rw [h2] at hx; cases hx
  · rw [← h5] at hx; exact h4 x (List.mem_of_mem_take hx)
theorem RowsAt.nodup {w : World} {v : Value} {k : Nat} {rows : List (List Value)} {S : List Nat} (h : RowsAt w v k rows S) : S.Nodup := by
  rcases h with ⟨h1, h2, h3⟩ | ⟨bl, F, T, h1, h2, h3⟩
  · rw [h3]; simp
  · rw [h2]; simp
theorem RowsAt.lt {w : World} {v : Value} {k : Nat} {rows : List (List Value)} {S : List Nat} (h : RowsAt w v k rows S) : ∀ x ∈ S, x < w.heap.size := by
  rcases h with ⟨h1, h2, h3⟩ | ⟨bl, F, T, h1, h2, h3, h4⟩
  · rw [h3]; simp
  · rw [h2]; simp; exact live_of h3
theorem next_le {need old : Nat} (h : old < need) : Builtin.nextslicecap need old ≤ 2 * need := nextslicecap_le h
theorem rows_app {e k bytes : Nat} {z : List Value} {v x : Value} {w : World} {rows G : List (List Value)} {S : List Nat} (h : RowsAt w v k rows S) (hk : 0 < k) (hz : z.length = k)
    (hG : ∀ y ∈ G, y.length = k) (hone : G.flatten.all one = true) (hsrc : ∀ K' : Nat → Array Value → Prop, K' G.length G.flatten.toArray → srcA k x w K')
    (hb : 2 * (rows.length + G.length) * bytes ≤ 2 ^ 48) (hb2 : rows.length + G.length < 2 ^ 62) {K : Value → World → Prop}
    (hK : ∀ v' w' S', RowsAt w' v' k (rows ++ G) S' → Kp S w w' → (∀ y ∈ S', y ∈ S ∨ w.heap.size ≤ y) → K v' w') : app e k bytes z.toArray v x w K := by
  have grow : ∀ (old : Array Value) (cap : Nat) , old = rows.flatten.toArray → (∀ y ∈ rows, y.length = k) → rows.length + G.length ≤ cap →
      K (.slice (some ⟨w.heap.size, 0, none⟩) (rows.length + G.length) cap) (w.drew.alloc (.cells (old ++ G.flatten.toArray ++ rep z.toArray ((cap - (rows.length + G.length)) * k)) e)) := by
    intro old cap hold hr hc
    have hF : (old ++ G.flatten.toArray ++ rep z.toArray ((cap - (rows.length + G.length)) * k)) = (rows ++ G ++ List.replicate (cap - (rows.length + G.length)) z).flatten.toArray := by
      rw [hold]
      have : rep z.toArray ((cap - (rows.length + G.length)) * k) = (List.replicate (cap - (rows.length + G.length)) z).flatten.toArray := by
        apply Array.ext
        · simp [rep, hz]
        · intro i h1 h2
          have hi : i < (cap - (rows.length + G.length)) * k := by simpa [rep] using h1
          simp only [rep, Array.getElem_map, Array.getElem_range, List.size_toArray, hz]
          have hm : i % k < k := Nat.mod_lt _ hk
          have hd : i / k < cap - (rows.length + G.length) := (Nat.div_lt_iff_lt_mul hk).2 hi
          have hfl : ((List.replicate (cap - (rows.length + G.length)) z).flatten.drop ((i / k) * k)).take k = z := by
            rw [flat_get (k := k) (by intro x hx; rw [List.mem_replicate] at hx; rw [hx.2, hz]) (by simpa using hd)]
            simp
          have hidx : i / k * k + i % k = i := by rw [Nat.mul_comm]; exact Nat.div_add_mod i k
          have e2 := congrArg (fun l => l[i % k]?) hfl
          simp only [List.getElem?_take_of_lt hm, List.getElem?_drop, hidx] at e2
          have h2' : i < (List.replicate (cap - (rows.length + G.length)) z).flatten.length := by simpa using h2
          rw [List.getElem?_eq_getElem h2', List.getElem?_eq_getElem (by omega)] at e2
          injection e2 with e2
          rw [List.getElem_toArray, e2]
          simp [hz, hm]
      rw [this]; simp
    refine hK _ _ [w.heap.size] (.inr ⟨w.heap.size, rows ++ G ++ List.replicate (cap - (rows.length + G.length)) z, e, ?_, rfl, ?_, ?_, ?_, ?_⟩) ((Kp.refl _ _).drew.alloc _) (by simp)
    · simp; omega
    · rw [← hF]; exact heap_new
    · intro y hy
      rw [List.mem_append, List.mem_append] at hy
      rcases hy with (hy | hy) | hy
      · exact hr y hy
      · exact hG y hy
      · rw [List.mem_replicate] at hy; rw [hy.2, hz]
    · rw [List.take_left]
    · simp
  have hrow : ∀ y ∈ rows, y.length = k := fun y hy => h.row hy
  unfold app
  rcases h with ⟨h1, h2, h3⟩ | ⟨bl, F, T, h1, h2, h3, h4, h5, h6⟩
  · subst h1; subst h3
    rw [h2] at hb hb2 hK grow
    simp only [List.length_nil, Nat.zero_add] at hb hb2 grow ⊢
    refine hsrc _ ⟨fun hle => ?_, fun hlt => ⟨⟨?_, by omega⟩, fun cap hc _ => grow #[] cap rfl (by simp) hc⟩⟩
    · have hG0 : G = [] := List.length_eq_zero_iff.1 (by omega)
      rw [hG0]
      exact hK _ w [] (.inl ⟨rfl, by simp [hG0], rfl⟩) (Kp.refl _ _) (by simp)
    · have := next_le hlt
      calc _ ≤ (2 * G.length) * bytes := Nat.mul_le_mul_right _ this
        _ ≤ _ := hb
  · subst h1; subst h2
    refine hsrc _ ⟨fun hle => ?_, fun hlt => ⟨⟨?_, by omega⟩, ?_⟩⟩
    · simp only [wrO, add_mk, wrN_mk, h3, okFr0, true_and, Nat.zero_add, List.size_toArray]
      have hfl := flat_len h4
      have hgl := flat_len hG
      have hsp := flat_splice_many (i := rows.length) h4 hG (by omega)
      refine ⟨⟨?_, by simpa using hone⟩, ?_⟩
      · rw [hfl, hgl, ← Nat.add_mul]; exact Nat.mul_le_mul_right _ hle
      · have hF' : splice F.flatten.toArray (rows.length * k) G.flatten.toArray = (F.take rows.length ++ G ++ F.drop (rows.length + G.length)).flatten.toArray := by
          rw [splice_list, hsp]
        rw [hF']
        refine hK _ _ [bl] (.inr ⟨bl, F.take rows.length ++ G ++ F.drop (rows.length + G.length), T, ?_, rfl, heap_self (live_of h3), ?_, ?_, ?_⟩) ((Kp.refl _ _).setBlk (.inl (by simp)) _) (fun y hy => .inl hy)
        · have : (F.take rows.length ++ G ++ F.drop (rows.length + G.length)).length = F.length := by simp; omega
          rw [this]; simp
        · intro y hy
          rw [List.mem_append, List.mem_append] at hy
          rcases hy with (hy | hy) | hy
          · exact h4 y (List.mem_of_mem_take hy)
          · exact hG y hy
          · exact h4 y (List.mem_of_mem_drop hy)
        · rw [h5, List.take_left]
        · simp; omega
    · have := next_le hlt
      calc _ ≤ (2 * (rows.length + G.length)) * bytes := Nat.mul_le_mul_right _ this
        _ ≤ _ := hb
    · simp only [base, rdN_mk, h3, Nat.zero_add, List.size_toArray]
      have hfl := flat_len h4
      refine ⟨by rw [hfl]; exact Nat.mul_le_mul_right _ h6, fun cap hc _ => grow _ cap ?_ hrow hc⟩
      have := extract_list F.flatten 0 (rows.length * k)
      rw [Nat.zero_add] at this
      rw [this, List.drop_zero, flat_take _ h4, h5]
theorem RowsAt.at {w : World} {v : Value} {k : Nat} {rows : List (List Value)} {S : List Nat} (h : RowsAt w v k rows S) {i : Nat} (hi : i < rows.length) :
    ∃ bl T c, bl ∈ S ∧ w.heap[bl]? = some (.cells c T (0, 0)) ∧ (∀ kd K, ia k v (.int kd i) K = K (.pointer (some ⟨bl, i * k, none⟩))) ∧ i * k + k ≤ c.size ∧ c.extract (i * k) (i * k + k) = rows[i].toArray ∧
      ∀ j, j < k → c[i * k + j]? = rows[i][j]? := by
  rcases h with ⟨h1, h2, h3⟩ | ⟨bl, F, T, h1, h2, h3, h4, h5, h6⟩
  · rw [h2] at hi; cases hi
  · have hiF : i < F.length := by omega
    have hrow : F[i] = rows[i] := by
      have e : rows[i]? = F[i]? := by rw [← h5, List.getElem?_take_of_lt (by omega)]
      rw [List.getElem?_eq_getElem hi, List.getElem?_eq_getElem hiF] at e
      injection e with e
      exact e.symm
    have hfl := flat_len h4
    have hget := flat_get h4 hiF
    have hle : i * k + k ≤ F.flatten.length := by rw [hfl, ← Nat.succ_mul]; exact Nat.mul_le_mul_right _ hiF
    refine ⟨bl, T, F.flatten.toArray, by rw [h2]; simp, h3, ?_, by simpa [-List.length_flatten] using hle, ?_, ?_⟩
    · intro kd K
      have hlt : (i : Int) < rows.length := by omega
      rw [h1]; simp only [ia_p, Nat.zero_add, Int.toNat_natCast]
      have : (0 ≤ (i : Int) ∧ (i : Int) < rows.length) = True := by simp; omega
      rw [this, true_and]
    · rw [extract_list, hget, hrow]
    · intro j hj
      rw [List.getElem?_toArray, ← List.getElem?_drop, ← hrow, ← hget, List.getElem?_take_of_lt hj]
theorem fold_set (off : Nat) : ∀ (l : List Value) (k : Nat) (c : Array Value), off + k + l.length ≤ c.size →
    (l.zipIdx k).foldl (fun cs p => cs.setIfInBounds (off + p.2) p.1) c = splice c (off + k) l.toArray := by
  intro l
  induction l with
  | nil => intro k c _; simp [splice]
  | cons v r ih =>
    intro k c h
    simp only [List.length_cons] at h
    rw [List.zipIdx_cons, List.foldl_cons]
    have := ih (k + 1) (c.setIfInBounds (off + k) v) (by simp; omega)
    simp only at this ⊢
    rw [this]
    unfold splice
    congr 1
    have e := list_seg_step c.toList (off + k) v r (by simp; omega)
    simpa [Array.toList_setIfInBounds, Nat.add_assoc] using e
theorem fill_step {place : Nat → Option (Nat × Nat)} {c : Array Value} {i off size : Nat} {v : Value} {rest : List (Nat × Value)} (hp : place i = some (off, size)) (hv : v.cells.size = size) (hc : off + size ≤ c.size) :
    Instr.fill place c ((i, v) :: rest) = Instr.fill place (splice c off v.cells) rest := by
  have h1 : v.cells.size = size := hv
  conv => lhs; unfold Instr.fill
  rw [hp]
  simp only [h1, ne_eq, not_true_eq_false, decide_false, Bool.false_or, decide_eq_true_eq]
  rw [if_neg (by omega)]
  congr 1
  have := fold_set off v.cells.toList 0 c (by simp; omega)
  simp only [Nat.add_zero, Array.toArray_toList] at this
  rw [← this]
  rw [← Array.foldl_toList, Array.toList_zipIdx]
theorem splice_size {c : Array Value} {o : Nat} {vs : Array Value} (h : o + vs.size ≤ c.size) : (splice c o vs).size = c.size := by
  unfold splice; simp; omega
def IntsAt (w : World) (v : Value) (ks : List Int) (S : List Nat) : Prop :=
  ∃ a cap, v = .slice a ks.length cap ∧ (ks = [] ∨ ∃ bl o c T fr, a = some ⟨bl, o, none⟩ ∧ S = [bl] ∧ w.heap[bl]? = some (.cells c T fr) ∧ ∀ i, i < ks.length → c[o + i]? = some (.int .i64 (ks.getD i 0)))
theorem IntsAt.keep {w w' : World} {v : Value} {ks : List Int} {S S' : List Nat} (h : IntsAt w v ks S) (hk : Kp S' w w') (hd : ∀ x ∈ S, x ∉ S') : IntsAt w' v ks S := by
  obtain ⟨a, cap, h1, h2⟩ := h
  refine ⟨a, cap, h1, h2.imp id ?_⟩
  rintro ⟨bl, o, c, T, fr, g1, g2, g3, g4⟩
  subst g2
  exact ⟨bl, o, c, T, fr, g1, rfl, hk.get g3 (hd bl (by simp)), g4⟩
theorem IntsAt.at {w : World} {v : Value} {ks : List Int} {S : List Nat} (h : IntsAt w v ks S) {i : Nat} (hi : i < ks.length) :
    ∃ bl o c T fr, bl ∈ S ∧ w.heap[bl]? = some (.cells c T fr) ∧ (∀ kd K, ia 1 v (.int kd i) K = K (.pointer (some ⟨bl, o, none⟩))) ∧ c[o]? = some (.int .i64 (ks.getD i 0)) := by
  obtain ⟨a, cap, h1, h2⟩ := h
  rcases h2 with h2 | ⟨bl, o, c, T, fr, g1, g2, g3, g4⟩
  · rw [h2] at hi; cases hi
  · refine ⟨bl, o + i, c, T, fr, by rw [g2]; simp, g3, ?_, g4 i hi⟩
    intro kd K
    rw [h1, g1]
    have : (0 ≤ (i : Int) ∧ (i : Int) < ks.length) = True := by simp; omega
    simp only [ia_p, Int.toNat_natCast, Nat.mul_one, this, true_and]
theorem IntsAt.len {w : World} {v : Value} {ks : List Int} {S : List Nat} (h : IntsAt w v ks S) : ∃ a cap, v = .slice a ks.length cap := by
  obtain ⟨a, cap, h1, _⟩ := h
  exact ⟨a, cap, h1⟩
theorem rep_size (z : Array Value) (n : Nat) : (rep z n).size = n := by simp [rep]
theorem splice_all {c vs : Array Value} (h : c.size = vs.size) : splice c 0 vs = vs := by
  have : c.toList.drop vs.size = [] := List.drop_of_length_le (by simp [h])
  simp [splice, this]
theorem bsl_one {e : Nat} {z : Array Value} {v : Value} (hv : one v = true) {w : World} {k : Value → World → Prop} : bsl e 1 1 z #[(0, v)] w k = k (.slice (some ⟨w.heap.size, 0, none⟩) 1 1) (w.alloc (.cells #[v] e)) := by
  have hc := cells_one hv
  unfold bsl
  show (match Instr.fill (fun i => some (i * 1, 1)) (rep z (1 * 1)) [(0, v)] with | some cs => k (Value.slice (some ⟨w.heap.size, 0, none⟩) 1 1) (w.alloc (Obj.cells cs e)) | none => False) = _
  rw [fill_step (off := 0) (size := 1) rfl (by rw [hc]; rfl) (by rw [rep_size]; omega), hc, splice_all (by rw [rep_size]; rfl)]
  rfl
end Go.Q

set_option linter.unusedVariables false
set_option linter.unusedSimpArgs false
namespace Go.Q
def RdAt (w : World) (v : Value) (k : Nat) (rows : List (List Value)) (S : List Nat) : Prop :=
  (v = .slice none 0 0 ∧ rows = []) ∨
  ∃ (bl o cap : Nat) (c : Array Value) (T : TypeId) (fr : Nat × Nat), v = .slice (some ⟨bl, o, none⟩) rows.length cap ∧ S = [bl] ∧ w.heap[bl]? = some (.cells c T fr) ∧ (∀ x ∈ rows, x.length = k) ∧
    o + rows.length * k ≤ c.size ∧ (c.toList.drop o).take (rows.length * k) = rows.flatten ∧ rows.length ≤ cap
section
variable {w : World} {v : Value} {k : Nat} {rows : List (List Value)} {S : List Nat}
theorem RowsAt.rd (h : RowsAt w v k rows S) : RdAt w v k rows S := by
  rcases h with ⟨h1, h2, h3⟩ | ⟨bl, F, T, h1, h2, h3, h4, h5, h6⟩
  · exact .inl ⟨h1, h2⟩
  · refine .inr ⟨bl, 0, F.length, _, T, _, h1, h2, h3, ?_, ?_, ?_, h6⟩
    · intro x hx; rw [← h5] at hx; exact h4 x (List.mem_of_mem_take hx)
    · have := flat_len h4
      simp only [List.size_toArray, this, Nat.zero_add]
      exact Nat.mul_le_mul_right _ h6
    · rw [List.drop_zero, flat_take _ h4, h5]
theorem RdAt.keep {w' : World} {S' : List Nat} (h : RdAt w v k rows S) (hk : Kp S' w w') (hd : ∀ x ∈ S, x ∉ S') : RdAt w' v k rows S := by
  rcases h with h | ⟨bl, o, cap, c, T, fr, h1, h2, h3, h4⟩
  · exact .inl h
  · subst h2
    exact .inr ⟨bl, o, cap, c, T, fr, h1, rfl, hk.get h3 (hd bl (by simp)), h4⟩
theorem RdAt.len (h : RdAt w v k rows S) : ∃ a c, v = .slice a rows.length c ∧ rows.length ≤ c := by
  rcases h with ⟨h1, h2⟩ | ⟨bl, o, cap, c, T, fr, h1, h2, h3, h4, h5, h6, h7⟩
  · exact ⟨none, 0, by rw [h1, h2]; rfl, by simp [h2]⟩
  · exact ⟨_, _, h1, h7⟩
theorem RdAt.lenL (h : RdAt w v k rows S) {K : Value → Prop} : lenL v K = K (.int .i64 rows.length) := by
  obtain ⟨a, c, h1, _⟩ := h.len
  rw [h1]; rfl
theorem RdAt.row (h : RdAt w v k rows S) {x : List Value} (hx : x ∈ rows) : x.length = k := by
  rcases h with ⟨h1, h2⟩ | ⟨bl, o, cap, c, T, fr, h1, h2, h3, h4, _⟩
  · rw [h2] at hx; cases hx
  · exact h4 x hx
theorem extract_toList (c : Array Value) (o n : Nat) : c.extract o (o + n) = ((c.toList.drop o).take n).toArray := by
  apply Array.toList_inj.1
  simp [List.take_drop]
theorem RdAt.src (h : RdAt w v k rows S) (K' : Nat → Array Value → Prop) (hK : K' rows.length rows.flatten.toArray) : Q.srcA k v w K' := by
  rcases h with ⟨h1, h2⟩ | ⟨bl, o, cap, c, T, fr, h1, h2, h3, h4, h5, h6, h7⟩
  · subst h1; subst h2; exact hK
  · subst h1
    simp only [Q.srcA]
    split
    · rename_i h0
      have : rows.flatten = [] := by rw [← h6, h0]; simp
      rw [this] at hK
      exact hK
    · simp only [rdN_mk, h3]
      refine ⟨h5, ?_⟩
      rw [extract_toList, h6]; exact hK
theorem RdAt.take (h : RdAt w v k rows S) {p : Nat} (hp : p ≤ rows.length) {kd : IntKind} : ∃ v', RdAt w v' k (rows.take p) S ∧ ∀ K, slL k v none (some (.int kd p)) K = K v' := by
  rcases h with ⟨h1, h2⟩ | ⟨bl, o, cap, c, T, fr, h1, h2, h3, h4, h5, h6, h7⟩
  · subst h1; subst h2
    have : p = 0 := by simpa using hp
    subst this
    exact ⟨_, .inl ⟨rfl, by simp⟩, fun K => by simp⟩
  · subst h1
    have hl : (rows.take p).length = p := by simp; omega
    have hle : p * k ≤ rows.length * k := Nat.mul_le_mul_right _ hp
    refine ⟨.slice (some ⟨bl, o, none⟩) p cap, .inr ⟨bl, o, cap, c, T, fr, by rw [hl], h2, h3, fun x hx => h4 x (List.mem_of_mem_take hx), by rw [hl]; omega, ?_, by omega⟩, fun K => ?_⟩
    · rw [hl]
      have h8 : (c.toList.drop o).take (p * k) = ((c.toList.drop o).take (rows.length * k)).take (p * k) := by rw [List.take_take, Nat.min_eq_left hle]
      rw [h8, h6]
      exact flat_take p h4
    · have : (p : Int) ≤ cap := by omega
      simp [this]
theorem RdAt.drop (h : RdAt w v k rows S) {p : Nat} (hp : p ≤ rows.length) {kd : IntKind} : ∃ v', RdAt w v' k (rows.drop p) S ∧ ∀ K, slL k v (some (.int kd p)) none K = K v' := by
  rcases h with ⟨h1, h2⟩ | ⟨bl, o, cap, c, T, fr, h1, h2, h3, h4, h5, h6, h7⟩
  · subst h1; subst h2
    have : p = 0 := by simpa using hp
    subst this
    exact ⟨_, .inl ⟨rfl, by simp⟩, fun K => by simp⟩
  · subst h1
    have hl : (rows.drop p).length = rows.length - p := by simp
    have hsum : p * k + (rows.length - p) * k = rows.length * k := by rw [← Nat.add_mul]; congr 1; omega
    have hfl : rows.flatten.drop (p * k) = (rows.drop p).flatten := flat_drop p h4
    by_cases hc : cap = p
    · have hr : rows.length = p := by omega
      have hd : rows.drop p = [] := by rw [← hr]; simp
      refine ⟨.slice (some ⟨bl, o, none⟩) (rows.drop p).length (cap - p), .inr ⟨bl, o, cap - p, c, T, fr, rfl, h2, h3, by rw [hd]; simp, by rw [hd]; simp; omega, by rw [hd]; simp, by rw [hd]; simp⟩, fun K => ?_⟩
      have : (p : Int) ≤ rows.length := by omega
      simp [hc, this, hr]
    · refine ⟨.slice (some ⟨bl, o + p * k, none⟩) (rows.drop p).length (cap - p), .inr ⟨bl, o + p * k, cap - p, c, T, fr, rfl, h2, h3, fun x hx => h4 x (List.mem_of_mem_drop hx), by rw [hl]; omega, ?_, by rw [hl]; omega⟩, fun K => ?_⟩
      · rw [hl, ← hfl, ← h6, ← List.drop_drop, List.drop_take]
        congr 1
        omega
      · have : (p : Int) ≤ rows.length := by omega
        simp [hc, this, hp]
theorem RdAt.at (h : RdAt w v k rows S) {i : Nat} (hi : i < rows.length) :
    ∃ bl o T c fr, bl ∈ S ∧ w.heap[bl]? = some (.cells c T fr) ∧ (∀ kd K, ia k v (.int kd i) K = K (.pointer (some ⟨bl, o, none⟩))) ∧ o + k ≤ c.size ∧ c.extract o (o + k) = rows[i].toArray ∧
      ∀ j, j < k → c[o + j]? = rows[i][j]? := by
  rcases h with ⟨h1, h2⟩ | ⟨bl, o, cap, c, T, fr, h1, h2, h3, h4, h5, h6, h7⟩
  · subst h2; cases hi
  · subst h1
    have hle : i * k + k ≤ rows.length * k := by rw [← Nat.succ_mul]; exact Nat.mul_le_mul_right _ hi
    have hget := flat_get h4 hi
    have hrow : (c.toList.drop (o + i * k)).take k = rows[i] := by
      rw [← hget, ← h6, List.drop_take, List.take_take, List.drop_drop]
      congr 1
      omega
    refine ⟨bl, o + i * k, T, c, fr, by rw [h2]; simp, h3, ?_, by omega, by rw [extract_toList, hrow], ?_⟩
    · intro kd K
      simp only [ia_p, Int.toNat_natCast]
      have : (0 ≤ (i : Int) ∧ (i : Int) < rows.length) = True := by simp; omega
      rw [this, true_and]
    · intro j hj
      rw [← Array.getElem?_toList, ← List.getElem?_drop, ← hrow, List.getElem?_take_of_lt hj]
end
end Go.Q

set_option linter.unusedVariables false
set_option linter.unusedSimpArgs false
namespace Go.Q
def RowsT (w : World) (v : Value) (k : Nat) (e : TypeId) (rows : List (List Value)) (S : List Nat) : Prop :=
  (v = .slice none 0 0 ∧ rows = [] ∧ S = []) ∨
  ∃ (bl : Nat) (F : List (List Value)), v = .slice (some ⟨bl, 0, none⟩) rows.length F.length ∧ S = [bl] ∧ w.heap[bl]? = some (.cells F.flatten.toArray e (0, 0)) ∧ (∀ x ∈ F, x.length = k) ∧ F.take rows.length = rows ∧ rows.length ≤ F.length
theorem RowsT.at_ {w : World} {v : Value} {k : Nat} {e : TypeId} {rows : List (List Value)} {S : List Nat} (h : RowsT w v k e rows S) : RowsAt w v k rows S := by
  rcases h with h | ⟨bl, F, h⟩
  · exact .inl h
  · exact .inr ⟨bl, F, e, h⟩
theorem RowsT.row {w : World} {v : Value} {k : Nat} {e : TypeId} {rows : List (List Value)} {S : List Nat} (h : RowsT w v k e rows S) {x : List Value} (hx : x ∈ rows) : x.length = k := h.at_.row hx
theorem RowsT.keep {w w' : World} {v : Value} {k : Nat} {e : TypeId} {rows : List (List Value)} {S S' : List Nat} (h : RowsT w v k e rows S) (hk : Kp S' w w') (hd : ∀ x ∈ S, x ∉ S') : RowsT w' v k e rows S := by
  rcases h with h | ⟨bl, F, h1, h2, h3, h4⟩
  · exact .inl h
  · subst h2
    exact .inr ⟨bl, F, h1, rfl, hk.get h3 (hd bl (by simp)), h4⟩
theorem rowsT_app {e k bytes : Nat} {z : List Value} {v x : Value} {w : World} {rows G : List (List Value)} {S : List Nat} (h : RowsT w v k e rows S) (hk : 0 < k) (hz : z.length = k)
    (hG : ∀ y ∈ G, y.length = k) (hone : G.flatten.all one = true) (hsrc : ∀ K' : Nat → Array Value → Prop, K' G.length G.flatten.toArray → srcA k x w K')
    (hb : 2 * (rows.length + G.length) * bytes ≤ 2 ^ 48) (hb2 : rows.length + G.length < 2 ^ 62) {K : Value → World → Prop}
    (hK : ∀ v' w' S', RowsT w' v' k e (rows ++ G) S' → Kp S w w' → (∀ y ∈ S', y ∈ S ∨ w.heap.size ≤ y) → K v' w') : app e k bytes z.toArray v x w K := by
  have grow : ∀ (old : Array Value) (cap : Nat) , old = rows.flatten.toArray → (∀ y ∈ rows, y.length = k) → rows.length + G.length ≤ cap →
      K (.slice (some ⟨w.heap.size, 0, none⟩) (rows.length + G.length) cap) (w.drew.alloc (.cells (old ++ G.flatten.toArray ++ rep z.toArray ((cap - (rows.length + G.length)) * k)) e)) := by
    intro old cap hold hr hc
    have hF : (old ++ G.flatten.toArray ++ rep z.toArray ((cap - (rows.length + G.length)) * k)) = (rows ++ G ++ List.replicate (cap - (rows.length + G.length)) z).flatten.toArray := by
      rw [hold]
      have : rep z.toArray ((cap - (rows.length + G.length)) * k) = (List.replicate (cap - (rows.length + G.length)) z).flatten.toArray := by
        apply Array.ext
        · simp [rep, hz]
        · intro i h1 h2
          have hi : i < (cap - (rows.length + G.length)) * k := by simpa [rep] using h1
          simp only [rep, Array.getElem_map, Array.getElem_range, List.size_toArray, hz]
          have hm : i % k < k := Nat.mod_lt _ hk
          have hd : i / k < cap - (rows.length + G.length) := (Nat.div_lt_iff_lt_mul hk).2 hi
          have hfl : ((List.replicate (cap - (rows.length + G.length)) z).flatten.drop ((i / k) * k)).take k = z := by
            rw [flat_get (k := k) (by intro x hx; rw [List.mem_replicate] at hx; rw [hx.2, hz]) (by simpa using hd)]
            simp
          have hidx : i / k * k + i % k = i := by rw [Nat.mul_comm]; exact Nat.div_add_mod i k
          have e2 := congrArg (fun l => l[i % k]?) hfl
          simp only [List.getElem?_take_of_lt hm, List.getElem?_drop, hidx] at e2
          have h2' : i < (List.replicate (cap - (rows.length + G.length)) z).flatten.length := by simpa using h2
          rw [List.getElem?_eq_getElem h2', List.getElem?_eq_getElem (by omega)] at e2
          injection e2 with e2
          rw [List.getElem_toArray, e2]
          simp [hz, hm]
      rw [this]; simp
    refine hK _ _ [w.heap.size] (.inr ⟨w.heap.size, rows ++ G ++ List.replicate (cap - (rows.length + G.length)) z, ?_, rfl, ?_, ?_, ?_, ?_⟩) ((Kp.refl _ _).drew.alloc _) (by simp)
    · simp; omega
    · rw [← hF]; exact heap_new
    · intro y hy
      rw [List.mem_append, List.mem_append] at hy
      rcases hy with (hy | hy) | hy
      · exact hr y hy
      · exact hG y hy
      · rw [List.mem_replicate] at hy; rw [hy.2, hz]
    · rw [List.take_left]
    · simp
  have hrow : ∀ y ∈ rows, y.length = k := fun y hy => h.row hy
  unfold app
  rcases h with ⟨h1, h2, h3⟩ | ⟨bl, F, h1, h2, h3, h4, h5, h6⟩
  · subst h1; subst h3
    rw [h2] at hb hb2 hK grow
    simp only [List.length_nil, Nat.zero_add] at hb hb2 grow ⊢
    refine hsrc _ ⟨fun hle => ?_, fun hlt => ⟨⟨?_, by omega⟩, fun cap hc _ => grow #[] cap rfl (by simp) hc⟩⟩
    · have hG0 : G = [] := List.length_eq_zero_iff.1 (by omega)
      rw [hG0]
      exact hK _ w [] (.inl ⟨rfl, by simp [hG0], rfl⟩) (Kp.refl _ _) (by simp)
    · have := next_le hlt
      calc _ ≤ (2 * G.length) * bytes := Nat.mul_le_mul_right _ this
        _ ≤ _ := hb
  · subst h1; subst h2
    refine hsrc _ ⟨fun hle => ?_, fun hlt => ⟨⟨?_, by omega⟩, ?_⟩⟩
    · simp only [wrO, add_mk, wrN_mk, h3, okFr0, true_and, Nat.zero_add, List.size_toArray]
      have hfl := flat_len h4
      have hgl := flat_len hG
      have hsp := flat_splice_many (i := rows.length) h4 hG (by omega)
      refine ⟨⟨?_, by simpa using hone⟩, ?_⟩
      · rw [hfl, hgl, ← Nat.add_mul]; exact Nat.mul_le_mul_right _ hle
      · have hF' : splice F.flatten.toArray (rows.length * k) G.flatten.toArray = (F.take rows.length ++ G ++ F.drop (rows.length + G.length)).flatten.toArray := by
          rw [splice_list, hsp]
        rw [hF']
        refine hK _ _ [bl] (.inr ⟨bl, F.take rows.length ++ G ++ F.drop (rows.length + G.length), ?_, rfl, heap_self (live_of h3), ?_, ?_, ?_⟩) ((Kp.refl _ _).setBlk (.inl (by simp)) _) (fun y hy => .inl hy)
        · have : (F.take rows.length ++ G ++ F.drop (rows.length + G.length)).length = F.length := by simp; omega
          rw [this]; simp
        · intro y hy
          rw [List.mem_append, List.mem_append] at hy
          rcases hy with (hy | hy) | hy
          · exact h4 y (List.mem_of_mem_take hy)
          · exact hG y hy
          · exact h4 y (List.mem_of_mem_drop hy)
        · rw [h5, List.take_left]
        · simp; omega
    · have := next_le hlt
      calc _ ≤ (2 * (rows.length + G.length)) * bytes := Nat.mul_le_mul_right _ this
        _ ≤ _ := hb
    · simp only [base, rdN_mk, h3, Nat.zero_add, List.size_toArray]
      have hfl := flat_len h4
      refine ⟨by rw [hfl]; exact Nat.mul_le_mul_right _ h6, fun cap hc _ => grow _ cap ?_ hrow hc⟩
      have := extract_list F.flatten 0 (rows.length * k)
      rw [Nat.zero_add] at this
      rw [this, List.drop_zero, flat_take _ h4, h5]
end Go.Q

set_option linter.unusedVariables false
set_option linter.unusedSimpArgs false
namespace Go.Q
theorem cell_block {w : World} {x : Addr} {v : Value} (h : w.cell? x = some v) : x.spot = none ∧ ∃ c T fr, w.heap[x.block]? = some (.cells c T fr) ∧ c[x.off]? = some v := by
  unfold World.cell? at h
  split at h
  · rename_i c T fr hh
    split at h
    · cases h
    · rename_i hs
      exact ⟨by simpa using hs, c, T, fr, hh, h⟩
  · cases h
end Go.Q

