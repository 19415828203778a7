/- Part of the proof (J3): an engine, rules or contracts of the functions; it states nothing of the claim by itself. -/
import Derived.Test.YtcekhmkhagakiaaJ2
import Derived.Test.YtcekhmkhagakiaaJ1
import Derived.ChangeSlices

set_option linter.unusedVariables false
set_option linter.unusedSimpArgs false
namespace Go.Proofs
open Go Go.Q
set_option maxRecDepth 100000
/-! quayside/entry.state -/
def entry_state_s0 (R : Value → World → Prop) (x0 : Value) (w : World) : Prop :=
  qG Try.prog (bq .eql 3 (.tmp 3) (.const (.int .i64 0)) x0 (.int .i64 0)) w fun t5 =>
  bV t5
  (R (.string ⟨#[97, 99, 116, 105, 118, 101]⟩) w)
  (qG Try.prog (bq .eql 3 (.tmp 3) (.const (.int .i64 1)) x0 (.int .i64 1)) w fun t7 =>
  bV t7
  (R (.string ⟨#[111, 117, 116]⟩) w)
  (qG Try.prog (bq .eql 3 (.tmp 3) (.const (.int .i64 2)) x0 (.int .i64 2)) w fun t9 =>
  bV t9
  (R (.string ⟨#[117, 112]⟩) w)
  (R (.string ⟨#[]⟩) w)))

theorem entry_state_s0_eq (R : Value → World → Prop) : ∀ e w, lift Try.prog 10 (bodyOf Try.f60) (finK Try.prog Try.f60.results.toList R) e w = entry_state_s0 R (e 0) w := fun e w => by kernel_rfl

def entry_state (R : Value → World → Prop) (x0 : Value) (w : World) : Prop := entry_state_s0 R x0 w
theorem entry_state_call {R : Value → World → Prop} {x0 : Value} {w : World} (h : entry_state R x0 w) : callG Try.prog 60 #[x0] w R :=
  calls_lift_eq Try.mixed Try.func60 (args := [x0]) rfl rfl rfl rfl ((entry_state_s0_eq R) (envOf [x0]) w) (by kernel_rfl) h
/-! quayside/entry.kind -/
def entry_kind_s0 (R : Value → World → Prop) (x0 : Value) (w : World) : Prop :=
  qG Try.prog (bq .eql 3 (.tmp 3) (.const (.int .i64 1)) x0 (.int .i64 1)) w fun t5 =>
  bV t5
  (R (.string ⟨#[114, 101, 99, 101, 105, 118, 101]⟩) w)
  (qG Try.prog (bq .eql 3 (.tmp 3) (.const (.int .i64 3)) x0 (.int .i64 3)) w fun t7 =>
  bV t7
  (R (.string ⟨#[99, 111, 109, 109, 105, 116]⟩) w)
  (qG Try.prog (bq .eql 3 (.tmp 3) (.const (.int .i64 6)) x0 (.int .i64 6)) w fun t9 =>
  bV t9
  (R (.string ⟨#[116, 114, 97, 110, 115, 102, 101, 114]⟩) w)
  (qG Try.prog (bq .eql 3 (.tmp 3) (.const (.int .i64 7)) x0 (.int .i64 7)) w fun t11 =>
  bV t11
  (R (.string ⟨#[97, 100, 106, 117, 115, 116]⟩) w)
  (R (.string ⟨#[]⟩) w))))

theorem entry_kind_s0_eq (R : Value → World → Prop) : ∀ e w, lift Try.prog 12 (bodyOf Try.f64) (finK Try.prog Try.f64.results.toList R) e w = entry_kind_s0 R (e 0) w := fun e w => by kernel_rfl

def entry_kind (R : Value → World → Prop) (x0 : Value) (w : World) : Prop := entry_kind_s0 R x0 w
theorem entry_kind_call {R : Value → World → Prop} {x0 : Value} {w : World} (h : entry_kind R x0 w) : callG Try.prog 64 #[x0] w R :=
  calls_lift_eq Try.mixed Try.func64 (args := [x0]) rfl rfl rfl rfl ((entry_kind_s0_eq R) (envOf [x0]) w) (by kernel_rfl) h
/-! quayside/entry.of -/
def entry_of_s0 (R : Value → World → Prop) (w : World) : Prop :=
  R (.tuple #[(.int .i64 0), (.bool false)]) w

theorem entry_of_s0_eq (R : Value → World → Prop) : ∀ e w, lift Try.prog 24 (sub (bodyOf Try.f59) [1, 1]) (finK Try.prog Try.f59.results.toList R) e w = entry_of_s0 R w := fun e w => by kernel_rfl

def entry_of_s1 (R : Value → World → Prop) (N1 : List Value → World → Prop) (x0 x1 x2 x8 : Value) (w : World) : Prop :=
  callV Try.prog x2 #[x8] w fun t20 w =>
  qG Try.prog (bq .eql 9 (.tmp 20) (.tmp 21) t20 x0) w fun t22 =>
  bV t22
  (R (.tuple #[x8, (.bool true)]) w)
  (qG Try.prog (bq .add 3 (.tmp 16) (.const (.int .i64 1)) x8 (.int .i64 1)) w fun t17 =>
  N1 [x0, x1, x2, t17] w)

theorem entry_of_s1_eq (R : Value → World → Prop) (N1 : List Value → World → Prop) : ∀ e w, lift Try.prog 24 (sub (bodyOf Try.f59) [1, 0, 1, 0, 0, 1]) (seqK (fun e w => N1 [e 0, e 1, e 2, e 8] w) (blockK 0 (seqK (fun e w => entry_of_s0 R  w) (finK Try.prog Try.f59.results.toList R)))) e w = entry_of_s1 R N1 (e 0) (e 1) (e 2) (e 8) w := fun e w => by kernel_rfl

def entry_of_s2 (R : Value → World → Prop) (N1 : List Value → World → Prop) (x0 x1 x2 x8 : Value) (w : World) : Prop :=
  qG Try.prog (bq .leq 3 (.tmp 9) (.tmp 10) x8 x1) w fun t11 =>
  bV t11
  (qG Try.prog (bq .neq 9 (.tmp 13) (.const (.string ⟨#[]⟩)) x0 (.string ⟨#[]⟩)) w fun t14 =>
  bV t14
  (entry_of_s1 R N1 x0 x1 x2 x8 w)
  (entry_of_s0 R  w))
  (entry_of_s0 R  w)

theorem entry_of_s2_eq (R : Value → World → Prop) (N1 : List Value → World → Prop) : ∀ e w, lift Try.prog 24 (sub (bodyOf Try.f59) [1, 0, 1, 0, 0]) (seqK (fun e w => N1 [e 0, e 1, e 2, e 8] w) (blockK 0 (seqK (fun e w => entry_of_s0 R  w) (finK Try.prog Try.f59.results.toList R)))) e w = entry_of_s2 R N1 (e 0) (e 1) (e 2) (e 8) w :=
  segs_eq (l := [(sub (bodyOf Try.f59) [1, 0, 1, 0, 0, 0])]) (y := (sub (bodyOf Try.f59) [1, 0, 1, 0, 0, 1])) (Y := (fun e w => entry_of_s1 R N1 (e 0) (e 1) (e 2) (e 8) w)) (entry_of_s1_eq R N1) (fun e w => by kernel_rfl)

def entry_of_L3F (R : Value → World → Prop) (N1 : List Value → World → Prop) (xs : List Value) (w : World) : Prop :=
  match xs with
  | [x0, x1, x2, x8] => entry_of_s2 R N1 x0 x1 x2 x8 w
  | _ => False

def entry_of_L3 (R : Value → World → Prop) (x0 x1 x2 x8 : Value) (w : World) : Prop :=
  ∃ m, loopV (entry_of_L3F R) m [x0, x1, x2, x8] w

theorem entry_of_L3_eq (R : Value → World → Prop) : ∀ e w, lift Try.prog 24 (sub (bodyOf Try.f59) [1, 0, 1, 0]) (blockK 0 (seqK (fun e w => entry_of_s0 R  w) (finK Try.prog Try.f59.results.toList R))) e w = entry_of_L3 R (e 0) (e 1) (e 2) (e 8) w := loop_seg (F := entry_of_L3F R) (sel := fun e => [e 0, e 1, e 2, e 8]) fun N1 => (entry_of_s2_eq R N1)

def entry_of_s4 (R : Value → World → Prop) (x0 x1 x2 : Value) (w : World) : Prop :=
  entry_of_L3 R x0 x1 x2 (.int .i64 0) w

theorem entry_of_s4_eq (R : Value → World → Prop) : ∀ e w, lift Try.prog 24 (sub (bodyOf Try.f59) [1, 0]) (seqK (fun e w => entry_of_s0 R  w) (finK Try.prog Try.f59.results.toList R)) e w = entry_of_s4 R (e 0) (e 1) (e 2) w :=
  segs_eq (l := [(sub (bodyOf Try.f59) [1, 0, 0])]) (y := (sub (bodyOf Try.f59) [1, 0, 1])) (Y := (fun e w => entry_of_L3 R (e 0) (e 1) (e 2) (e 8) w)) (entry_of_L3_eq R) (fun e w => by kernel_rfl)

def entry_of_s5 (R : Value → World → Prop) (x0 x1 x2 : Value) (w : World) : Prop :=
  entry_of_s4 R x0 x1 x2 w

theorem entry_of_s5_eq (R : Value → World → Prop) : ∀ e w, lift Try.prog 24 (bodyOf Try.f59) (finK Try.prog Try.f59.results.toList R) e w = entry_of_s5 R (e 0) (e 1) (e 2) w :=
  segs_eq (l := [(sub (bodyOf Try.f59) [0])]) (y := (sub (bodyOf Try.f59) [1])) (Y := (fun e w => entry_of_s4 R (e 0) (e 1) (e 2) w)) (seq_seg (x := (sub (bodyOf Try.f59) [1, 0])) (y := (sub (bodyOf Try.f59) [1, 1])) (entry_of_s0_eq R) (entry_of_s4_eq R)) (fun e w => by kernel_rfl)

def entry_of (R : Value → World → Prop) (x0 x1 x2 : Value) (w : World) : Prop := entry_of_s5 R x0 x1 x2 w
theorem entry_of_call {R : Value → World → Prop} {x0 x1 x2 : Value} {w : World} (h : entry_of R x0 x1 x2 w) : callG Try.prog 59 #[x0, x1, x2] w R :=
  calls_lift_eq Try.mixed Try.func59 (args := [x0, x1, x2]) rfl rfl rfl rfl ((entry_of_s5_eq R) (envOf [x0, x1, x2]) w) (by kernel_rfl) h
/-! quayside/quaysideref06.state -/
def ref06_state_s0 (R : Value → World → Prop) (x0 : Value) (w : World) : Prop :=
  qG Try.prog (bq .eql 3 (.tmp 3) (.const (.int .i64 0)) x0 (.int .i64 0)) w fun t5 =>
  bV t5
  (R (.string ⟨#[97, 99, 116, 105, 118, 101]⟩) w)
  (qG Try.prog (bq .eql 3 (.tmp 3) (.const (.int .i64 1)) x0 (.int .i64 1)) w fun t7 =>
  bV t7
  (R (.string ⟨#[111, 117, 116]⟩) w)
  (qG Try.prog (bq .eql 3 (.tmp 3) (.const (.int .i64 2)) x0 (.int .i64 2)) w fun t9 =>
  bV t9
  (R (.string ⟨#[117, 112]⟩) w)
  (R (.string ⟨#[]⟩) w)))

theorem ref06_state_s0_eq (R : Value → World → Prop) : ∀ e w, lift Try.prog 10 (bodyOf Try.f61) (finK Try.prog Try.f61.results.toList R) e w = ref06_state_s0 R (e 0) w := fun e w => by kernel_rfl

def ref06_state (R : Value → World → Prop) (x0 : Value) (w : World) : Prop := ref06_state_s0 R x0 w
theorem ref06_state_call {R : Value → World → Prop} {x0 : Value} {w : World} (h : ref06_state R x0 w) : callG Try.prog 61 #[x0] w R :=
  calls_lift_eq Try.mixed Try.func61 (args := [x0]) rfl rfl rfl rfl ((ref06_state_s0_eq R) (envOf [x0]) w) (by kernel_rfl) h
/-! quayside/quaysideref06.kind -/
def ref06_kind_s0 (R : Value → World → Prop) (x0 : Value) (w : World) : Prop :=
  qG Try.prog (bq .eql 3 (.tmp 3) (.const (.int .i64 1)) x0 (.int .i64 1)) w fun t5 =>
  bV t5
  (R (.string ⟨#[114, 101, 99, 101, 105, 118, 101]⟩) w)
  (qG Try.prog (bq .eql 3 (.tmp 3) (.const (.int .i64 3)) x0 (.int .i64 3)) w fun t7 =>
  bV t7
  (R (.string ⟨#[99, 111, 109, 109, 105, 116]⟩) w)
  (qG Try.prog (bq .eql 3 (.tmp 3) (.const (.int .i64 6)) x0 (.int .i64 6)) w fun t9 =>
  bV t9
  (R (.string ⟨#[116, 114, 97, 110, 115, 102, 101, 114]⟩) w)
  (qG Try.prog (bq .eql 3 (.tmp 3) (.const (.int .i64 7)) x0 (.int .i64 7)) w fun t11 =>
  bV t11
  (R (.string ⟨#[97, 100, 106, 117, 115, 116]⟩) w)
  (R (.string ⟨#[]⟩) w))))

theorem ref06_kind_s0_eq (R : Value → World → Prop) : ∀ e w, lift Try.prog 12 (bodyOf Try.f65) (finK Try.prog Try.f65.results.toList R) e w = ref06_kind_s0 R (e 0) w := fun e w => by kernel_rfl

def ref06_kind (R : Value → World → Prop) (x0 : Value) (w : World) : Prop := ref06_kind_s0 R x0 w
theorem ref06_kind_call {R : Value → World → Prop} {x0 : Value} {w : World} (h : ref06_kind R x0 w) : callG Try.prog 65 #[x0] w R :=
  calls_lift_eq Try.mixed Try.func65 (args := [x0]) rfl rfl rfl rfl ((ref06_kind_s0_eq R) (envOf [x0]) w) (by kernel_rfl) h
/-! quayside/entry.StockRow -/
def entry_StockRow_s0 (R : Value → World → Prop) (x0 : Value) (w : World) : Prop :=
  newG (Value.cells x0) 44 w fun t1 w =>
  fa 0 t1 fun t3 =>
  ld1 t3 (World.drew w) fun t4 =>
  fa 1 t1 fun t6 =>
  ld1 t6 (World.drew w) fun t7 =>
  fa 2 t1 fun t9 =>
  ld1 t9 (World.drew w) fun t10 =>
  fa 3 t1 fun t12 =>
  ld1 t12 (World.drew w) fun t13 =>
  callG Try.prog 49 #[t4] (World.drew w) fun t5 w =>
  ld1 t12 w (fun u => u = t13) ∧
  ld1 t9 w (fun u => u = t10) ∧
  ld1 t6 w (fun u => u = t7) ∧
  callG Try.prog 49 #[t7] w fun t8 w =>
  ld1 t12 w (fun u => u = t13) ∧
  ld1 t9 w (fun u => u = t10) ∧
  callG Try.prog 48 #[t10] w fun t11 w =>
  ld1 t12 w (fun u => u = t13) ∧
  callG Try.prog 48 #[t13] w fun t14 w =>
  bsl 79 3 4 (zc Try.prog 79) #[(0, t5), (1, t8), (2, t11), (3, t14)] w fun t15 w =>
  callG Try.prog 47 #[t15] w fun t16 w =>
  R t16 w

theorem entry_StockRow_s0_eq (R : Value → World → Prop) : ∀ e w, lift Try.prog 17 (bodyOf Try.f29) (finK Try.prog Try.f29.results.toList R) e w = entry_StockRow_s0 R (e 0) w := fun e w => by kernel_rfl

def entry_StockRow (R : Value → World → Prop) (x0 : Value) (w : World) : Prop := entry_StockRow_s0 R x0 w
theorem entry_StockRow_call {R : Value → World → Prop} {x0 : Value} {w : World} (h : entry_StockRow R x0 w) : callG Try.prog 29 #[x0] w R :=
  calls_lift_eq Try.mixed Try.func29 (args := [x0]) rfl rfl rfl rfl ((entry_StockRow_s0_eq R) (envOf [x0]) w) (by kernel_rfl) h
/-! quayside/entry.HoldRow -/
def entry_HoldRow_s0 (R : Value → World → Prop) (x0 : Value) (w : World) : Prop :=
  newG (Value.cells x0) 34 w fun t1 w =>
  fa 4 t1 fun t3 =>
  ld1 t3 w fun t4 =>
  callG Try.prog 60 #[t4] w fun t5 w =>
  qG Try.prog (bq .eql 9 (.tmp 5) (.const (.string ⟨#[]⟩)) t5 (.string ⟨#[]⟩)) w fun t6 =>
  bV t6
  (R (.slice none 0 0) w)
  (fa 0 t1 fun t7 =>
  ld1 t7 (World.drew w) fun t8 =>
  fa 1 t1 fun t10 =>
  ld1 t10 (World.drew w) fun t11 =>
  fa 2 t1 fun t13 =>
  ld1 t13 (World.drew w) fun t14 =>
  fa 3 t1 fun t16 =>
  ld1 t16 (World.drew w) fun t17 =>
  fa 4 t1 fun t19 =>
  ld1 t19 (World.drew w) fun t20 =>
  fa 5 t1 fun t23 =>
  ld1 t23 (World.drew w) fun t24 =>
  callG Try.prog 48 #[t8] (World.drew w) fun t9 w =>
  ld1 t23 w (fun u => u = t24) ∧
  ld1 t19 w (fun u => u = t20) ∧
  ld1 t16 w (fun u => u = t17) ∧
  ld1 t13 w (fun u => u = t14) ∧
  ld1 t10 w (fun u => u = t11) ∧
  callG Try.prog 49 #[t11] w fun t12 w =>
  ld1 t23 w (fun u => u = t24) ∧
  ld1 t19 w (fun u => u = t20) ∧
  ld1 t16 w (fun u => u = t17) ∧
  ld1 t13 w (fun u => u = t14) ∧
  callG Try.prog 49 #[t14] w fun t15 w =>
  ld1 t23 w (fun u => u = t24) ∧
  ld1 t19 w (fun u => u = t20) ∧
  ld1 t16 w (fun u => u = t17) ∧
  callG Try.prog 48 #[t17] w fun t18 w =>
  ld1 t23 w (fun u => u = t24) ∧
  ld1 t19 w (fun u => u = t20) ∧
  callG Try.prog 60 #[t20] w fun t21 w =>
  ld1 t23 w (fun u => u = t24) ∧
  callG Try.prog 49 #[t21] w fun t22 w =>
  ld1 t23 w (fun u => u = t24) ∧
  callG Try.prog 62 #[t24] w fun t25 w =>
  bsl 79 3 6 (zc Try.prog 79) #[(0, t9), (1, t12), (2, t15), (3, t18), (4, t22), (5, t25)] w fun t26 w =>
  callG Try.prog 47 #[t26] w fun t27 w =>
  R t27 w)

theorem entry_HoldRow_s0_eq (R : Value → World → Prop) : ∀ e w, lift Try.prog 28 (bodyOf Try.f25) (finK Try.prog Try.f25.results.toList R) e w = entry_HoldRow_s0 R (e 0) w := fun e w => by kernel_rfl

def entry_HoldRow (R : Value → World → Prop) (x0 : Value) (w : World) : Prop := entry_HoldRow_s0 R x0 w
theorem entry_HoldRow_call {R : Value → World → Prop} {x0 : Value} {w : World} (h : entry_HoldRow R x0 w) : callG Try.prog 25 #[x0] w R :=
  calls_lift_eq Try.mixed Try.func25 (args := [x0]) rfl rfl rfl rfl ((entry_HoldRow_s0_eq R) (envOf [x0]) w) (by kernel_rfl) h
/-! quayside/entry.MoveRow -/
def entry_MoveRow_s0 (R : Value → World → Prop) (x0 : Value) (w : World) : Prop :=
  newG (Value.cells x0) 50 w fun t1 w =>
  fa 4 t1 fun t3 =>
  ld1 t3 w fun t4 =>
  callG Try.prog 64 #[t4] w fun t5 w =>
  qG Try.prog (bq .eql 9 (.tmp 5) (.const (.string ⟨#[]⟩)) t5 (.string ⟨#[]⟩)) w fun t6 =>
  bV t6
  (R (.slice none 0 0) w)
  (fa 0 t1 fun t7 =>
  ld1 t7 (World.drew w) fun t8 =>
  fa 1 t1 fun t10 =>
  ld1 t10 (World.drew w) fun t11 =>
  fa 2 t1 fun t13 =>
  ld1 t13 (World.drew w) fun t14 =>
  fa 3 t1 fun t16 =>
  ld1 t16 (World.drew w) fun t17 =>
  fa 4 t1 fun t19 =>
  ld1 t19 (World.drew w) fun t20 =>
  fa 5 t1 fun t23 =>
  ld1 t23 (World.drew w) fun t24 =>
  callG Try.prog 48 #[t8] (World.drew w) fun t9 w =>
  ld1 t23 w (fun u => u = t24) ∧
  ld1 t19 w (fun u => u = t20) ∧
  ld1 t16 w (fun u => u = t17) ∧
  ld1 t13 w (fun u => u = t14) ∧
  ld1 t10 w (fun u => u = t11) ∧
  callG Try.prog 49 #[t11] w fun t12 w =>
  ld1 t23 w (fun u => u = t24) ∧
  ld1 t19 w (fun u => u = t20) ∧
  ld1 t16 w (fun u => u = t17) ∧
  ld1 t13 w (fun u => u = t14) ∧
  callG Try.prog 49 #[t14] w fun t15 w =>
  ld1 t23 w (fun u => u = t24) ∧
  ld1 t19 w (fun u => u = t20) ∧
  ld1 t16 w (fun u => u = t17) ∧
  callG Try.prog 48 #[t17] w fun t18 w =>
  ld1 t23 w (fun u => u = t24) ∧
  ld1 t19 w (fun u => u = t20) ∧
  callG Try.prog 64 #[t20] w fun t21 w =>
  ld1 t23 w (fun u => u = t24) ∧
  callG Try.prog 49 #[t21] w fun t22 w =>
  ld1 t23 w (fun u => u = t24) ∧
  callG Try.prog 62 #[t24] w fun t25 w =>
  bsl 79 3 6 (zc Try.prog 79) #[(0, t9), (1, t12), (2, t15), (3, t18), (4, t22), (5, t25)] w fun t26 w =>
  callG Try.prog 47 #[t26] w fun t27 w =>
  R t27 w)

theorem entry_MoveRow_s0_eq (R : Value → World → Prop) : ∀ e w, lift Try.prog 28 (bodyOf Try.f33) (finK Try.prog Try.f33.results.toList R) e w = entry_MoveRow_s0 R (e 0) w := fun e w => by kernel_rfl

def entry_MoveRow (R : Value → World → Prop) (x0 : Value) (w : World) : Prop := entry_MoveRow_s0 R x0 w
theorem entry_MoveRow_call {R : Value → World → Prop} {x0 : Value} {w : World} (h : entry_MoveRow R x0 w) : callG Try.prog 33 #[x0] w R :=
  calls_lift_eq Try.mixed Try.func33 (args := [x0]) rfl rfl rfl rfl ((entry_MoveRow_s0_eq R) (envOf [x0]) w) (by kernel_rfl) h
/-! quayside/entry.RowStock -/
def entry_RowStock_s0 (R : Value → World → Prop) (x0 : Value) (w : World) : Prop :=
  newG (zc Try.prog 44) 44 w fun t2 w =>
  bsl 3 1 4 (zc Try.prog 3) #[(0, (.int .i64 2)), (1, (.int .i64 2)), (2, (.int .i64 1)), (3, (.int .i64 1))] w fun t5 w =>
  callG Try.prog 56 #[x0, t5] w fun t6 w =>
  qG Try.prog (Op.unary .not t6) w fun t7 =>
  bV t7
  (bld [(0, 1), (1, 1), (2, 1), (3, 1)] (zc Try.prog 44) #[] fun t8 =>
  stn 4 t2 t8 w fun w =>
  qG Try.prog (do loadVar 44 (← asAddr t2)) w fun r2 =>
  R (.tuple #[r2, (.int .i64 50)]) w)
  (ia 3 x0 (.int .i64 0) fun t10 =>
  fa 2 t10 fun t11 =>
  ld1 t11 (World.drew w) fun t12 =>
  ia 3 x0 (.int .i64 1) fun t14 =>
  fa 2 t14 fun t15 =>
  ld1 t15 (World.drew w) fun t16 =>
  ia 3 x0 (.int .i64 2) fun t18 =>
  fa 1 t18 fun t19 =>
  ld1 t19 (World.drew w) fun t20 =>
  ia 3 x0 (.int .i64 3) fun t22 =>
  fa 1 t22 fun t23 =>
  ld1 t23 (World.drew w) fun t24 =>
  bld [(0, 1), (1, 1), (2, 1), (3, 1)] (zc Try.prog 44) #[(0, t12), (1, t16), (2, t20), (3, t24)] fun t25 =>
  stn 4 t2 t25 (World.drew w) fun w =>
  qG Try.prog (do loadVar 44 (← asAddr t2)) w fun r2_1 =>
  R (.tuple #[r2_1, (.int .i64 0)]) w)

theorem entry_RowStock_s0_eq (R : Value → World → Prop) : ∀ e w, lift Try.prog 26 (bodyOf Try.f27) (finK Try.prog Try.f27.results.toList R) e w = entry_RowStock_s0 R (e 0) w := fun e w => by kernel_rfl

def entry_RowStock (R : Value → World → Prop) (x0 : Value) (w : World) : Prop := entry_RowStock_s0 R x0 w
theorem entry_RowStock_call {R : Value → World → Prop} {x0 : Value} {w : World} (h : entry_RowStock R x0 w) : callG Try.prog 27 #[x0] w R :=
  calls_lift_eq Try.mixed Try.func27 (args := [x0]) rfl rfl rfl rfl ((entry_RowStock_s0_eq R) (envOf [x0]) w) (by kernel_rfl) h
/-! quayside/entry.RowHold -/
def entry_RowHold_s0 (R : Value → World → Prop) (x0 : Value) (w : World) : Prop :=
  newG (zc Try.prog 34) 34 w fun t2 w =>
  bsl 3 1 6 (zc Try.prog 3) #[(0, (.int .i64 1)), (1, (.int .i64 2)), (2, (.int .i64 2)), (3, (.int .i64 1)), (4, (.int .i64 2)), (5, (.int .i64 0))] w fun t7 w =>
  callG Try.prog 56 #[x0, t7] w fun t8 w =>
  qG Try.prog (Op.unary .not t8) w fun t9 =>
  bV t9
  (bld [(0, 1), (1, 1), (2, 1), (3, 1), (4, 1), (5, 1)] (zc Try.prog 34) #[] fun t10 =>
  stn 6 t2 t10 w fun w =>
  qG Try.prog (do loadVar 34 (← asAddr t2)) w fun r2 =>
  R (.tuple #[r2, (.int .i64 50)]) w)
  (ia 3 x0 (.int .i64 4) fun t13 =>
  fa 2 t13 fun t14 =>
  ld1 t14 w fun t15 =>
  callG Try.prog 59 #[t15, (.int .i64 2), (.func (.func 60) #[] #[])] w fun t16 w =>
  qG Try.prog (Instr.extract t16 0) w fun t17 =>
  qG Try.prog (Instr.extract t16 1) w fun t18 =>
  qG Try.prog (Op.unary .not t18) w fun t20 =>
  bV t20
  (bld [(0, 1), (1, 1), (2, 1), (3, 1), (4, 1), (5, 1)] (zc Try.prog 34) #[] fun t21 =>
  stn 6 t2 t21 w fun w =>
  qG Try.prog (do loadVar 34 (← asAddr t2)) w fun r2_1 =>
  R (.tuple #[r2_1, (.int .i64 50)]) w)
  (ia 3 x0 (.int .i64 0) fun t23 =>
  fa 1 t23 fun t24 =>
  ld1 t24 (World.drew w) fun t25 =>
  ia 3 x0 (.int .i64 1) fun t27 =>
  fa 2 t27 fun t28 =>
  ld1 t28 (World.drew w) fun t29 =>
  ia 3 x0 (.int .i64 2) fun t31 =>
  fa 2 t31 fun t32 =>
  ld1 t32 (World.drew w) fun t33 =>
  ia 3 x0 (.int .i64 3) fun t35 =>
  fa 1 t35 fun t36 =>
  ld1 t36 (World.drew w) fun t37 =>
  ia 3 x0 (.int .i64 5) fun t40 =>
  fa 1 t40 fun t41 =>
  ld1 t41 (World.drew w) fun t42 =>
  bld [(0, 1), (1, 1), (2, 1), (3, 1), (4, 1), (5, 1)] (zc Try.prog 34) #[(0, t25), (1, t29), (2, t33), (3, t37), (4, t17), (5, t42)] fun t43 =>
  stn 6 t2 t43 (World.drew w) fun w =>
  qG Try.prog (do loadVar 34 (← asAddr t2)) w fun r2_2 =>
  R (.tuple #[r2_2, (.int .i64 0)]) w))

theorem entry_RowHold_s0_eq (R : Value → World → Prop) : ∀ e w, lift Try.prog 44 (bodyOf Try.f22) (finK Try.prog Try.f22.results.toList R) e w = entry_RowHold_s0 R (e 0) w := fun e w => by kernel_rfl

def entry_RowHold (R : Value → World → Prop) (x0 : Value) (w : World) : Prop := entry_RowHold_s0 R x0 w
theorem entry_RowHold_call {R : Value → World → Prop} {x0 : Value} {w : World} (h : entry_RowHold R x0 w) : callG Try.prog 22 #[x0] w R :=
  calls_lift_eq Try.mixed Try.func22 (args := [x0]) rfl rfl rfl rfl ((entry_RowHold_s0_eq R) (envOf [x0]) w) (by kernel_rfl) h
/-! quayside/entry.RowMove -/
def entry_RowMove_s0 (R : Value → World → Prop) (x0 : Value) (w : World) : Prop :=
  newG (zc Try.prog 50) 50 w fun t2 w =>
  bsl 3 1 6 (zc Try.prog 3) #[(0, (.int .i64 1)), (1, (.int .i64 2)), (2, (.int .i64 2)), (3, (.int .i64 1)), (4, (.int .i64 2)), (5, (.int .i64 0))] w fun t7 w =>
  callG Try.prog 56 #[x0, t7] w fun t8 w =>
  qG Try.prog (Op.unary .not t8) w fun t9 =>
  bV t9
  (bld [(0, 1), (1, 1), (2, 1), (3, 1), (4, 1), (5, 1)] (zc Try.prog 50) #[] fun t10 =>
  stn 6 t2 t10 w fun w =>
  qG Try.prog (do loadVar 50 (← asAddr t2)) w fun r2 =>
  R (.tuple #[r2, (.int .i64 50)]) w)
  (ia 3 x0 (.int .i64 4) fun t13 =>
  fa 2 t13 fun t14 =>
  ld1 t14 w fun t15 =>
  callG Try.prog 59 #[t15, (.int .i64 7), (.func (.func 64) #[] #[])] w fun t16 w =>
  qG Try.prog (Instr.extract t16 0) w fun t17 =>
  qG Try.prog (Instr.extract t16 1) w fun t18 =>
  qG Try.prog (Op.unary .not t18) w fun t20 =>
  bV t20
  (bld [(0, 1), (1, 1), (2, 1), (3, 1), (4, 1), (5, 1)] (zc Try.prog 50) #[] fun t21 =>
  stn 6 t2 t21 w fun w =>
  qG Try.prog (do loadVar 50 (← asAddr t2)) w fun r2_1 =>
  R (.tuple #[r2_1, (.int .i64 50)]) w)
  (ia 3 x0 (.int .i64 0) fun t23 =>
  fa 1 t23 fun t24 =>
  ld1 t24 (World.drew w) fun t25 =>
  ia 3 x0 (.int .i64 1) fun t27 =>
  fa 2 t27 fun t28 =>
  ld1 t28 (World.drew w) fun t29 =>
  ia 3 x0 (.int .i64 2) fun t31 =>
  fa 2 t31 fun t32 =>
  ld1 t32 (World.drew w) fun t33 =>
  ia 3 x0 (.int .i64 3) fun t35 =>
  fa 1 t35 fun t36 =>
  ld1 t36 (World.drew w) fun t37 =>
  ia 3 x0 (.int .i64 5) fun t40 =>
  fa 1 t40 fun t41 =>
  ld1 t41 (World.drew w) fun t42 =>
  bld [(0, 1), (1, 1), (2, 1), (3, 1), (4, 1), (5, 1)] (zc Try.prog 50) #[(0, t25), (1, t29), (2, t33), (3, t37), (4, t17), (5, t42)] fun t43 =>
  stn 6 t2 t43 (World.drew w) fun w =>
  qG Try.prog (do loadVar 50 (← asAddr t2)) w fun r2_2 =>
  R (.tuple #[r2_2, (.int .i64 0)]) w))

theorem entry_RowMove_s0_eq (R : Value → World → Prop) : ∀ e w, lift Try.prog 44 (bodyOf Try.f31) (finK Try.prog Try.f31.results.toList R) e w = entry_RowMove_s0 R (e 0) w := fun e w => by kernel_rfl

def entry_RowMove (R : Value → World → Prop) (x0 : Value) (w : World) : Prop := entry_RowMove_s0 R x0 w
theorem entry_RowMove_call {R : Value → World → Prop} {x0 : Value} {w : World} (h : entry_RowMove R x0 w) : callG Try.prog 31 #[x0] w R :=
  calls_lift_eq Try.mixed Try.func31 (args := [x0]) rfl rfl rfl rfl ((entry_RowMove_s0_eq R) (envOf [x0]) w) (by kernel_rfl) h
/-! quayside/quaysideref06.StockRow -/
def ref06_StockRow_s0 (R : Value → World → Prop) (x0 : Value) (w : World) : Prop :=
  newG (Value.cells x0) 44 w fun t1 w =>
  fa 0 t1 fun t3 =>
  ld1 t3 (World.drew w) fun t4 =>
  fa 1 t1 fun t6 =>
  ld1 t6 (World.drew w) fun t7 =>
  fa 2 t1 fun t9 =>
  ld1 t9 (World.drew w) fun t10 =>
  fa 3 t1 fun t12 =>
  ld1 t12 (World.drew w) fun t13 =>
  callG Try.prog 53 #[t4] (World.drew w) fun t5 w =>
  ld1 t12 w (fun u => u = t13) ∧
  ld1 t9 w (fun u => u = t10) ∧
  ld1 t6 w (fun u => u = t7) ∧
  callG Try.prog 53 #[t7] w fun t8 w =>
  ld1 t12 w (fun u => u = t13) ∧
  ld1 t9 w (fun u => u = t10) ∧
  callG Try.prog 52 #[t10] w fun t11 w =>
  ld1 t12 w (fun u => u = t13) ∧
  callG Try.prog 52 #[t13] w fun t14 w =>
  bsl 79 3 4 (zc Try.prog 79) #[(0, t5), (1, t8), (2, t11), (3, t14)] w fun t15 w =>
  R t15 w

theorem ref06_StockRow_s0_eq (R : Value → World → Prop) : ∀ e w, lift Try.prog 16 (bodyOf Try.f30) (finK Try.prog Try.f30.results.toList R) e w = ref06_StockRow_s0 R (e 0) w := fun e w => by kernel_rfl

def ref06_StockRow (R : Value → World → Prop) (x0 : Value) (w : World) : Prop := ref06_StockRow_s0 R x0 w
theorem ref06_StockRow_call {R : Value → World → Prop} {x0 : Value} {w : World} (h : ref06_StockRow R x0 w) : callG Try.prog 30 #[x0] w R :=
  calls_lift_eq Try.mixed Try.func30 (args := [x0]) rfl rfl rfl rfl ((ref06_StockRow_s0_eq R) (envOf [x0]) w) (by kernel_rfl) h
/-! quayside/quaysideref06.HoldRow -/
def ref06_HoldRow_s0 (R : Value → World → Prop) (x0 : Value) (w : World) : Prop :=
  newG (Value.cells x0) 34 w fun t1 w =>
  fa 4 t1 fun t3 =>
  ld1 t3 w fun t4 =>
  callG Try.prog 61 #[t4] w fun t5 w =>
  qG Try.prog (bq .eql 9 (.tmp 5) (.const (.string ⟨#[]⟩)) t5 (.string ⟨#[]⟩)) w fun t6 =>
  bV t6
  (R (.slice none 0 0) w)
  (fa 0 t1 fun t7 =>
  ld1 t7 (World.drew w) fun t8 =>
  fa 1 t1 fun t10 =>
  ld1 t10 (World.drew w) fun t11 =>
  fa 2 t1 fun t13 =>
  ld1 t13 (World.drew w) fun t14 =>
  fa 3 t1 fun t16 =>
  ld1 t16 (World.drew w) fun t17 =>
  fa 4 t1 fun t19 =>
  ld1 t19 (World.drew w) fun t20 =>
  fa 5 t1 fun t23 =>
  ld1 t23 (World.drew w) fun t24 =>
  callG Try.prog 52 #[t8] (World.drew w) fun t9 w =>
  ld1 t23 w (fun u => u = t24) ∧
  ld1 t19 w (fun u => u = t20) ∧
  ld1 t16 w (fun u => u = t17) ∧
  ld1 t13 w (fun u => u = t14) ∧
  ld1 t10 w (fun u => u = t11) ∧
  callG Try.prog 53 #[t11] w fun t12 w =>
  ld1 t23 w (fun u => u = t24) ∧
  ld1 t19 w (fun u => u = t20) ∧
  ld1 t16 w (fun u => u = t17) ∧
  ld1 t13 w (fun u => u = t14) ∧
  callG Try.prog 53 #[t14] w fun t15 w =>
  ld1 t23 w (fun u => u = t24) ∧
  ld1 t19 w (fun u => u = t20) ∧
  ld1 t16 w (fun u => u = t17) ∧
  callG Try.prog 52 #[t17] w fun t18 w =>
  ld1 t23 w (fun u => u = t24) ∧
  ld1 t19 w (fun u => u = t20) ∧
  callG Try.prog 61 #[t20] w fun t21 w =>
  ld1 t23 w (fun u => u = t24) ∧
  callG Try.prog 53 #[t21] w fun t22 w =>
  ld1 t23 w (fun u => u = t24) ∧
  callG Try.prog 63 #[t24] w fun t25 w =>
  bsl 79 3 6 (zc Try.prog 79) #[(0, t9), (1, t12), (2, t15), (3, t18), (4, t22), (5, t25)] w fun t26 w =>
  R t26 w)

theorem ref06_HoldRow_s0_eq (R : Value → World → Prop) : ∀ e w, lift Try.prog 27 (bodyOf Try.f26) (finK Try.prog Try.f26.results.toList R) e w = ref06_HoldRow_s0 R (e 0) w := fun e w => by kernel_rfl

def ref06_HoldRow (R : Value → World → Prop) (x0 : Value) (w : World) : Prop := ref06_HoldRow_s0 R x0 w
theorem ref06_HoldRow_call {R : Value → World → Prop} {x0 : Value} {w : World} (h : ref06_HoldRow R x0 w) : callG Try.prog 26 #[x0] w R :=
  calls_lift_eq Try.mixed Try.func26 (args := [x0]) rfl rfl rfl rfl ((ref06_HoldRow_s0_eq R) (envOf [x0]) w) (by kernel_rfl) h
/-! quayside/quaysideref06.MoveRow -/
def ref06_MoveRow_s0 (R : Value → World → Prop) (x0 : Value) (w : World) : Prop :=
  newG (Value.cells x0) 50 w fun t1 w =>
  fa 4 t1 fun t3 =>
  ld1 t3 w fun t4 =>
  callG Try.prog 65 #[t4] w fun t5 w =>
  qG Try.prog (bq .eql 9 (.tmp 5) (.const (.string ⟨#[]⟩)) t5 (.string ⟨#[]⟩)) w fun t6 =>
  bV t6
  (R (.slice none 0 0) w)
  (fa 0 t1 fun t7 =>
  ld1 t7 (World.drew w) fun t8 =>
  fa 1 t1 fun t10 =>
  ld1 t10 (World.drew w) fun t11 =>
  fa 2 t1 fun t13 =>
  ld1 t13 (World.drew w) fun t14 =>
  fa 3 t1 fun t16 =>
  ld1 t16 (World.drew w) fun t17 =>
  fa 4 t1 fun t19 =>
  ld1 t19 (World.drew w) fun t20 =>
  fa 5 t1 fun t23 =>
  ld1 t23 (World.drew w) fun t24 =>
  callG Try.prog 52 #[t8] (World.drew w) fun t9 w =>
  ld1 t23 w (fun u => u = t24) ∧
  ld1 t19 w (fun u => u = t20) ∧
  ld1 t16 w (fun u => u = t17) ∧
  ld1 t13 w (fun u => u = t14) ∧
  ld1 t10 w (fun u => u = t11) ∧
  callG Try.prog 53 #[t11] w fun t12 w =>
  ld1 t23 w (fun u => u = t24) ∧
  ld1 t19 w (fun u => u = t20) ∧
  ld1 t16 w (fun u => u = t17) ∧
  ld1 t13 w (fun u => u = t14) ∧
  callG Try.prog 53 #[t14] w fun t15 w =>
  ld1 t23 w (fun u => u = t24) ∧
  ld1 t19 w (fun u => u = t20) ∧
  ld1 t16 w (fun u => u = t17) ∧
  callG Try.prog 52 #[t17] w fun t18 w =>
  ld1 t23 w (fun u => u = t24) ∧
  ld1 t19 w (fun u => u = t20) ∧
  callG Try.prog 65 #[t20] w fun t21 w =>
  ld1 t23 w (fun u => u = t24) ∧
  callG Try.prog 53 #[t21] w fun t22 w =>
  ld1 t23 w (fun u => u = t24) ∧
  callG Try.prog 63 #[t24] w fun t25 w =>
  bsl 79 3 6 (zc Try.prog 79) #[(0, t9), (1, t12), (2, t15), (3, t18), (4, t22), (5, t25)] w fun t26 w =>
  R t26 w)

theorem ref06_MoveRow_s0_eq (R : Value → World → Prop) : ∀ e w, lift Try.prog 27 (bodyOf Try.f34) (finK Try.prog Try.f34.results.toList R) e w = ref06_MoveRow_s0 R (e 0) w := fun e w => by kernel_rfl

def ref06_MoveRow (R : Value → World → Prop) (x0 : Value) (w : World) : Prop := ref06_MoveRow_s0 R x0 w
theorem ref06_MoveRow_call {R : Value → World → Prop} {x0 : Value} {w : World} (h : ref06_MoveRow R x0 w) : callG Try.prog 34 #[x0] w R :=
  calls_lift_eq Try.mixed Try.func34 (args := [x0]) rfl rfl rfl rfl ((ref06_MoveRow_s0_eq R) (envOf [x0]) w) (by kernel_rfl) h
/-! quayside/quaysideref06.RowStock -/
def ref06_RowStock_s0 (R : Value → World → Prop) (x0 : Value) (w : World) : Prop :=
  newG (zc Try.prog 44) 44 w fun t2 w =>
  callG Try.prog 58 #[x0, (.string ⟨#[116, 116, 110, 110]⟩)] w fun t5 w =>
  qG Try.prog (Op.unary .not t5) w fun t6 =>
  bV t6
  (bld [(0, 1), (1, 1), (2, 1), (3, 1)] (zc Try.prog 44) #[] fun t7 =>
  stn 4 t2 t7 w fun w =>
  qG Try.prog (do loadVar 44 (← asAddr t2)) w fun r2 =>
  R (.tuple #[r2, (.int .i64 50)]) w)
  (ia 3 x0 (.int .i64 0) fun t9 =>
  fa 2 t9 fun t10 =>
  ld1 t10 (World.drew w) fun t11 =>
  ia 3 x0 (.int .i64 1) fun t13 =>
  fa 2 t13 fun t14 =>
  ld1 t14 (World.drew w) fun t15 =>
  ia 3 x0 (.int .i64 2) fun t17 =>
  fa 1 t17 fun t18 =>
  ld1 t18 (World.drew w) fun t19 =>
  ia 3 x0 (.int .i64 3) fun t21 =>
  fa 1 t21 fun t22 =>
  ld1 t22 (World.drew w) fun t23 =>
  bld [(0, 1), (1, 1), (2, 1), (3, 1)] (zc Try.prog 44) #[(0, t11), (1, t15), (2, t19), (3, t23)] fun t24 =>
  stn 4 t2 t24 (World.drew w) fun w =>
  qG Try.prog (do loadVar 44 (← asAddr t2)) w fun r2_1 =>
  R (.tuple #[r2_1, (.int .i64 0)]) w)

theorem ref06_RowStock_s0_eq (R : Value → World → Prop) : ∀ e w, lift Try.prog 25 (bodyOf Try.f28) (finK Try.prog Try.f28.results.toList R) e w = ref06_RowStock_s0 R (e 0) w := fun e w => by kernel_rfl

def ref06_RowStock (R : Value → World → Prop) (x0 : Value) (w : World) : Prop := ref06_RowStock_s0 R x0 w
theorem ref06_RowStock_call {R : Value → World → Prop} {x0 : Value} {w : World} (h : ref06_RowStock R x0 w) : callG Try.prog 28 #[x0] w R :=
  calls_lift_eq Try.mixed Try.func28 (args := [x0]) rfl rfl rfl rfl ((ref06_RowStock_s0_eq R) (envOf [x0]) w) (by kernel_rfl) h
/-! quayside/quaysideref06.RowHold -/
def ref06_RowHold_s0 (R : Value → World → Prop) (x2 : Value) (w : World) : Prop :=
  bld [(0, 1), (1, 1), (2, 1), (3, 1), (4, 1), (5, 1)] (zc Try.prog 34) #[] fun t42 =>
  stn 6 x2 t42 w fun w =>
  qG Try.prog (do loadVar 34 (← asAddr x2)) w fun r2 =>
  R (.tuple #[r2, (.int .i64 50)]) w

theorem ref06_RowHold_s0_eq (R : Value → World → Prop) : ∀ e w, lift Try.prog 43 (sub (bodyOf Try.f23) [1, 1, 1]) (finK Try.prog Try.f23.results.toList R) e w = ref06_RowHold_s0 R (e 2) w := fun e w => by kernel_rfl

def ref06_RowHold_b1 (R : Value → World → Prop) (N1 : List Value → World → Prop) (x0 x2 x4 : Value) (w : World) : Prop :=
  qG Try.prog (bq .leq 3 (.tmp 9) (.const (.int .i64 2)) x4 (.int .i64 2)) w fun t10 =>
  bV t10
  (ia 3 x0 (.int .i64 4) fun t16 =>
  fa 2 t16 fun t17 =>
  ld1 t17 (World.drew w) fun t18 =>
  callG Try.prog 61 #[x4] (World.drew w) fun t14 w =>
  ld1 t17 w (fun u => u = t18) ∧
  qG Try.prog (bq .eql 9 (.tmp 14) (.tmp 18) t14 t18) w fun t19 =>
  bV t19
  (ia 3 x0 (.int .i64 0) fun t21 =>
  fa 1 t21 fun t22 =>
  ld1 t22 (World.drew w) fun t23 =>
  ia 3 x0 (.int .i64 1) fun t25 =>
  fa 2 t25 fun t26 =>
  ld1 t26 (World.drew w) fun t27 =>
  ia 3 x0 (.int .i64 2) fun t29 =>
  fa 2 t29 fun t30 =>
  ld1 t30 (World.drew w) fun t31 =>
  ia 3 x0 (.int .i64 3) fun t33 =>
  fa 1 t33 fun t34 =>
  ld1 t34 (World.drew w) fun t35 =>
  ia 3 x0 (.int .i64 5) fun t38 =>
  fa 1 t38 fun t39 =>
  ld1 t39 (World.drew w) fun t40 =>
  bld [(0, 1), (1, 1), (2, 1), (3, 1), (4, 1), (5, 1)] (zc Try.prog 34) #[(0, t23), (1, t27), (2, t31), (3, t35), (4, x4), (5, t40)] fun t41 =>
  stn 6 x2 t41 (World.drew w) fun w =>
  qG Try.prog (do loadVar 34 (← asAddr x2)) w fun r2 =>
  R (.tuple #[r2, (.int .i64 0)]) w)
  (qG Try.prog (bq .add 3 (.tmp 11) (.const (.int .i64 1)) x4 (.int .i64 1)) w fun t12 =>
  N1 [x0, x2, t12] w))
  (ref06_RowHold_s0 R x2 w)

theorem ref06_RowHold_b1_eq (R : Value → World → Prop) (N1 : List Value → World → Prop) : ∀ e w, lift Try.prog 43 (sub (bodyOf Try.f23) [1, 1, 0, 1, 0, 0]) (seqK (fun e w => N1 [e 0, e 2, e 4] w) (blockK 0 (seqK (fun e w => ref06_RowHold_s0 R (e 2) w) (finK Try.prog Try.f23.results.toList R)))) e w = ref06_RowHold_b1 R N1 (e 0) (e 2) (e 4) w := fun e w => by kernel_rfl

def ref06_RowHold_L2F (R : Value → World → Prop) (N1 : List Value → World → Prop) (xs : List Value) (w : World) : Prop :=
  match xs with
  | [x0, x2, x4] => ref06_RowHold_b1 R N1 x0 x2 x4 w
  | _ => False

def ref06_RowHold_L2 (R : Value → World → Prop) (x0 x2 x4 : Value) (w : World) : Prop :=
  ∃ m, loopV (ref06_RowHold_L2F R) m [x0, x2, x4] w

theorem ref06_RowHold_L2_eq (R : Value → World → Prop) : ∀ e w, lift Try.prog 43 (sub (bodyOf Try.f23) [1, 1, 0, 1, 0]) (blockK 0 (seqK (fun e w => ref06_RowHold_s0 R (e 2) w) (finK Try.prog Try.f23.results.toList R))) e w = ref06_RowHold_L2 R (e 0) (e 2) (e 4) w := loop_seg (F := ref06_RowHold_L2F R) (sel := fun e => [e 0, e 2, e 4]) fun N1 => (ref06_RowHold_b1_eq R N1)

def ref06_RowHold_s3 (R : Value → World → Prop) (x0 x2 : Value) (w : World) : Prop :=
  ref06_RowHold_L2 R x0 x2 (.int .i64 0) w

theorem ref06_RowHold_s3_eq (R : Value → World → Prop) : ∀ e w, lift Try.prog 43 (sub (bodyOf Try.f23) [1, 1, 0]) (seqK (fun e w => ref06_RowHold_s0 R (e 2) w) (finK Try.prog Try.f23.results.toList R)) e w = ref06_RowHold_s3 R (e 0) (e 2) w :=
  segs_eq (l := [(sub (bodyOf Try.f23) [1, 1, 0, 0])]) (y := (sub (bodyOf Try.f23) [1, 1, 0, 1])) (Y := (fun e w => ref06_RowHold_L2 R (e 0) (e 2) (e 4) w)) (ref06_RowHold_L2_eq R) (fun e w => by kernel_rfl)

def ref06_RowHold_s4 (R : Value → World → Prop) (x0 : Value) (w : World) : Prop :=
  newG (zc Try.prog 34) 34 w fun t2 w =>
  callG Try.prog 58 #[x0, (.string ⟨#[110, 116, 116, 110, 116, 109]⟩)] w fun t6 w =>
  qG Try.prog (Op.unary .not t6) w fun t7 =>
  bV t7
  (bld [(0, 1), (1, 1), (2, 1), (3, 1), (4, 1), (5, 1)] (zc Try.prog 34) #[] fun t8 =>
  stn 6 t2 t8 w fun w =>
  qG Try.prog (do loadVar 34 (← asAddr t2)) w fun r2 =>
  R (.tuple #[r2, (.int .i64 50)]) w)
  (ref06_RowHold_s3 R x0 t2 w)

theorem ref06_RowHold_s4_eq (R : Value → World → Prop) : ∀ e w, lift Try.prog 43 (bodyOf Try.f23) (finK Try.prog Try.f23.results.toList R) e w = ref06_RowHold_s4 R (e 0) w :=
  segs_eq (l := [(sub (bodyOf Try.f23) [0]), (sub (bodyOf Try.f23) [1, 0])]) (y := (sub (bodyOf Try.f23) [1, 1])) (Y := (fun e w => ref06_RowHold_s3 R (e 0) (e 2) w)) (seq_seg (x := (sub (bodyOf Try.f23) [1, 1, 0])) (y := (sub (bodyOf Try.f23) [1, 1, 1])) (ref06_RowHold_s0_eq R) (ref06_RowHold_s3_eq R)) (fun e w => by kernel_rfl)

def ref06_RowHold (R : Value → World → Prop) (x0 : Value) (w : World) : Prop := ref06_RowHold_s4 R x0 w
theorem ref06_RowHold_call {R : Value → World → Prop} {x0 : Value} {w : World} (h : ref06_RowHold R x0 w) : callG Try.prog 23 #[x0] w R :=
  calls_lift_eq Try.mixed Try.func23 (args := [x0]) rfl rfl rfl rfl ((ref06_RowHold_s4_eq R) (envOf [x0]) w) (by kernel_rfl) h
/-! quayside/quaysideref06.RowMove -/
def ref06_RowMove_s0 (R : Value → World → Prop) (x2 : Value) (w : World) : Prop :=
  bld [(0, 1), (1, 1), (2, 1), (3, 1), (4, 1), (5, 1)] (zc Try.prog 50) #[] fun t49 =>
  stn 6 x2 t49 w fun w =>
  qG Try.prog (do loadVar 50 (← asAddr x2)) w fun r2 =>
  R (.tuple #[r2, (.int .i64 50)]) w

theorem ref06_RowMove_s0_eq (R : Value → World → Prop) : ∀ e w, lift Try.prog 50 (sub (bodyOf Try.f32) [1, 1, 1]) (finK Try.prog Try.f32.results.toList R) e w = ref06_RowMove_s0 R (e 2) w := fun e w => by kernel_rfl

def ref06_RowMove_b1 (R : Value → World → Prop) (N1 : List Value → World → Prop) (x0 x2 x4 : Value) (w : World) : Prop :=
  qG Try.prog (bq .leq 3 (.tmp 16) (.const (.int .i64 7)) x4 (.int .i64 7)) w fun t17 =>
  bV t17
  (ia 3 x0 (.int .i64 4) fun t23 =>
  fa 2 t23 fun t24 =>
  ld1 t24 (World.drew w) fun t25 =>
  callG Try.prog 65 #[x4] (World.drew w) fun t21 w =>
  ld1 t24 w (fun u => u = t25) ∧
  qG Try.prog (bq .eql 9 (.tmp 21) (.tmp 25) t21 t25) w fun t26 =>
  bV t26
  (ia 3 x0 (.int .i64 0) fun t28 =>
  fa 1 t28 fun t29 =>
  ld1 t29 (World.drew w) fun t30 =>
  ia 3 x0 (.int .i64 1) fun t32 =>
  fa 2 t32 fun t33 =>
  ld1 t33 (World.drew w) fun t34 =>
  ia 3 x0 (.int .i64 2) fun t36 =>
  fa 2 t36 fun t37 =>
  ld1 t37 (World.drew w) fun t38 =>
  ia 3 x0 (.int .i64 3) fun t40 =>
  fa 1 t40 fun t41 =>
  ld1 t41 (World.drew w) fun t42 =>
  ia 3 x0 (.int .i64 5) fun t45 =>
  fa 1 t45 fun t46 =>
  ld1 t46 (World.drew w) fun t47 =>
  bld [(0, 1), (1, 1), (2, 1), (3, 1), (4, 1), (5, 1)] (zc Try.prog 50) #[(0, t30), (1, t34), (2, t38), (3, t42), (4, x4), (5, t47)] fun t48 =>
  stn 6 x2 t48 (World.drew w) fun w =>
  qG Try.prog (do loadVar 50 (← asAddr x2)) w fun r2 =>
  R (.tuple #[r2, (.int .i64 0)]) w)
  (qG Try.prog (bq .add 3 (.tmp 18) (.const (.int .i64 1)) x4 (.int .i64 1)) w fun t19 =>
  N1 [x0, x2, t19] w))
  (ref06_RowMove_s0 R x2 w)

theorem ref06_RowMove_b1_eq (R : Value → World → Prop) (N1 : List Value → World → Prop) : ∀ e w, lift Try.prog 50 (sub (bodyOf Try.f32) [1, 1, 0, 1, 0, 0]) (seqK (fun e w => N1 [e 0, e 2, e 4] w) (blockK 0 (seqK (fun e w => ref06_RowMove_s0 R (e 2) w) (finK Try.prog Try.f32.results.toList R)))) e w = ref06_RowMove_b1 R N1 (e 0) (e 2) (e 4) w := fun e w => by kernel_rfl

def ref06_RowMove_L2F (R : Value → World → Prop) (N1 : List Value → World → Prop) (xs : List Value) (w : World) : Prop :=
  match xs with
  | [x0, x2, x4] => ref06_RowMove_b1 R N1 x0 x2 x4 w
  | _ => False

def ref06_RowMove_L2 (R : Value → World → Prop) (x0 x2 x4 : Value) (w : World) : Prop :=
  ∃ m, loopV (ref06_RowMove_L2F R) m [x0, x2, x4] w

theorem ref06_RowMove_L2_eq (R : Value → World → Prop) : ∀ e w, lift Try.prog 50 (sub (bodyOf Try.f32) [1, 1, 0, 1, 0]) (blockK 0 (seqK (fun e w => ref06_RowMove_s0 R (e 2) w) (finK Try.prog Try.f32.results.toList R))) e w = ref06_RowMove_L2 R (e 0) (e 2) (e 4) w := loop_seg (F := ref06_RowMove_L2F R) (sel := fun e => [e 0, e 2, e 4]) fun N1 => (ref06_RowMove_b1_eq R N1)

def ref06_RowMove_s3 (R : Value → World → Prop) (x0 x2 : Value) (w : World) : Prop :=
  ref06_RowMove_L2 R x0 x2 (.int .i64 1) w

theorem ref06_RowMove_s3_eq (R : Value → World → Prop) : ∀ e w, lift Try.prog 50 (sub (bodyOf Try.f32) [1, 1, 0]) (seqK (fun e w => ref06_RowMove_s0 R (e 2) w) (finK Try.prog Try.f32.results.toList R)) e w = ref06_RowMove_s3 R (e 0) (e 2) w :=
  segs_eq (l := [(sub (bodyOf Try.f32) [1, 1, 0, 0])]) (y := (sub (bodyOf Try.f32) [1, 1, 0, 1])) (Y := (fun e w => ref06_RowMove_L2 R (e 0) (e 2) (e 4) w)) (ref06_RowMove_L2_eq R) (fun e w => by kernel_rfl)

def ref06_RowMove_s4 (R : Value → World → Prop) (x0 : Value) (w : World) : Prop :=
  newG (zc Try.prog 50) 50 w fun t2 w =>
  callG Try.prog 58 #[x0, (.string ⟨#[110, 116, 116, 110, 116, 109]⟩)] w fun t6 w =>
  qG Try.prog (Op.unary .not t6) w fun t7 =>
  bV t7
  (bld [(0, 1), (1, 1), (2, 1), (3, 1), (4, 1), (5, 1)] (zc Try.prog 50) #[] fun t15 =>
  stn 6 t2 t15 w fun w =>
  qG Try.prog (do loadVar 50 (← asAddr t2)) w fun r2 =>
  R (.tuple #[r2, (.int .i64 50)]) w)
  (ia 3 x0 (.int .i64 4) fun t10 =>
  fa 2 t10 fun t11 =>
  ld1 t11 w fun t12 =>
  qG Try.prog (bq .eql 9 (.tmp 12) (.const (.string ⟨#[]⟩)) t12 (.string ⟨#[]⟩)) w fun t13 =>
  bV t13
  (bld [(0, 1), (1, 1), (2, 1), (3, 1), (4, 1), (5, 1)] (zc Try.prog 50) #[] fun t15_1 =>
  stn 6 t2 t15_1 w fun w =>
  qG Try.prog (do loadVar 50 (← asAddr t2)) w fun r2_1 =>
  R (.tuple #[r2_1, (.int .i64 50)]) w)
  (ref06_RowMove_s3 R x0 t2 w))

theorem ref06_RowMove_s4_eq (R : Value → World → Prop) : ∀ e w, lift Try.prog 50 (bodyOf Try.f32) (finK Try.prog Try.f32.results.toList R) e w = ref06_RowMove_s4 R (e 0) w :=
  segs_eq (l := [(sub (bodyOf Try.f32) [0]), (sub (bodyOf Try.f32) [1, 0])]) (y := (sub (bodyOf Try.f32) [1, 1])) (Y := (fun e w => ref06_RowMove_s3 R (e 0) (e 2) w)) (seq_seg (x := (sub (bodyOf Try.f32) [1, 1, 0])) (y := (sub (bodyOf Try.f32) [1, 1, 1])) (ref06_RowMove_s0_eq R) (ref06_RowMove_s3_eq R)) (fun e w => by kernel_rfl)

def ref06_RowMove (R : Value → World → Prop) (x0 : Value) (w : World) : Prop := ref06_RowMove_s4 R x0 w
theorem ref06_RowMove_call {R : Value → World → Prop} {x0 : Value} {w : World} (h : ref06_RowMove R x0 w) : callG Try.prog 32 #[x0] w R :=
  calls_lift_eq Try.mixed Try.func32 (args := [x0]) rfl rfl rfl rfl ((ref06_RowMove_s4_eq R) (envOf [x0]) w) (by kernel_rfl) h
end Go.Proofs

/- Plain: holds, movements and stocks as rows, and back. -/
set_option linter.unusedVariables false
set_option linter.unusedSimpArgs false
namespace Go.Q
structure HV where
  id : Int
  sku : List UInt8
  loc : List UInt8
  q : Int
  st : Int
  due : Int
  deriving DecidableEq
structure SV where
  sku : List UInt8
  loc : List UInt8
  hand : Int
  held : Int
  deriving DecidableEq
def stateT (n : Int) : List UInt8 := if n = 0 then [97, 99, 116, 105, 118, 101] else if n = 1 then [111, 117, 116] else if n = 2 then [117, 112] else []
def kindT (n : Int) : List UInt8 := if n = 1 then [114, 101, 99, 101, 105, 118, 101] else if n = 3 then [99, 111, 109, 109, 105, 116] else if n = 6 then [116, 114, 97, 110, 115, 102, 101, 114] else if n = 7 then [97, 100, 106, 117, 115, 116] else []
def rowH (txt : Int → List UInt8) (h : HV) : List V3 := if txt h.st = [] then [] else [numV h.id, textV h.sku, textV h.loc, numV h.q, textV (txt h.st), someV h.due]
def findT (txt : Int → List UInt8) (s : List UInt8) : Nat → Nat → Option Nat
  | _, 0 => none
  | n, m + 1 => if txt n = s then some n else findT txt s (n + 1) m
def ofT (txt : Int → List UInt8) (most : Nat) (s : List UInt8) : Option Nat := if s = [] then none else findT txt s 0 (most + 1)
def holdKinds : List Int := [1, 2, 2, 1, 2, 0]
def stockKinds : List Int := [2, 2, 1, 1]
def hZ : HV := ⟨0, [], [], 0, 0, 0⟩
def sZ : SV := ⟨[], [], 0, 0⟩
def v0 : V3 := ⟨0, 0, []⟩
def mkH (r : List V3) (n : Nat) : HV := ⟨(r.getD 0 v0).n, (r.getD 1 v0).s, (r.getD 2 v0).s, (r.getD 3 v0).n, n, (r.getD 5 v0).n⟩
def takeH (txt : Int → List UInt8) (most : Nat) (r : List V3) : HV × Int :=
  if isK r holdKinds = true then match ofT txt most (r.getD 4 v0).s with | some n => (mkH r n, 0) | none => (hZ, 50) else (hZ, 50)
def rowS (s : SV) : List V3 := [textV s.sku, textV s.loc, numV s.hand, numV s.held]
def mkS (r : List V3) : SV := ⟨(r.getD 0 v0).s, (r.getD 1 v0).s, (r.getD 2 v0).n, (r.getD 3 v0).n⟩
def takeS (r : List V3) : SV × Int := if isK r stockKinds = true then (mkS r, 0) else (sZ, 50)
theorem findT_some {txt : Int → List UInt8} {s : List UInt8} : ∀ {m n k : Nat}, findT txt s n m = some k → txt k = s ∧ n ≤ k ∧ k < n + m := by
  intro m
  induction m with
  | zero => intro n k h; cases h
  | succ m ih =>
    intro n k h
    unfold findT at h
    split at h
    · rename_i he
      injection h with h; subst h
      exact ⟨he, by omega, by omega⟩
    · obtain ⟨h1, h2, h3⟩ := ih h
      exact ⟨h1, by omega, by omega⟩
theorem ofT_some {txt : Int → List UInt8} {s : List UInt8} {most k : Nat} (h : ofT txt most s = some k) : txt k = s ∧ s ≠ [] := by
  unfold ofT at h
  split at h
  · cases h
  · rename_i hs; exact ⟨(findT_some h).1, hs⟩
theorem state_of {n : Int} (h : stateT n ≠ []) : ∃ k : Nat, n = k ∧ ofT stateT 2 (stateT n) = some k ∧ (stateT n).length ≤ 64 := by
  unfold stateT at h
  split at h
  · rename_i h0; subst h0; exact ⟨0, rfl, by decide, by decide⟩
  · split at h
    · rename_i h0; subst h0; exact ⟨1, rfl, by decide, by decide⟩
    · split at h
      · rename_i h0; subst h0; exact ⟨2, rfl, by decide, by decide⟩
      · exact absurd rfl h
theorem kind_of {n : Int} (h : kindT n ≠ []) : ∃ k : Nat, n = k ∧ ofT kindT 7 (kindT n) = some k ∧ (kindT n).length ≤ 64 := by
  unfold kindT at h
  split at h
  · rename_i h0; subst h0; exact ⟨1, rfl, by decide, by decide⟩
  · split at h
    · rename_i h0; subst h0; exact ⟨3, rfl, by decide, by decide⟩
    · split at h
      · rename_i h0; subst h0; exact ⟨6, rfl, by decide, by decide⟩
      · split at h
        · rename_i h0; subst h0; exact ⟨7, rfl, by decide, by decide⟩
        · exact absurd rfl h
/-- the document looks from another number on -/
theorem state_find (s : List UInt8) : findT stateT s 0 3 = ofT stateT 2 s := by
  unfold ofT
  split
  · rename_i h; subst h; decide
  · rfl
theorem kind_find {s : List UInt8} (h : s ≠ []) : findT kindT s 1 7 = ofT kindT 7 s := by
  unfold ofT
  rw [if_neg h]
  conv => rhs; unfold findT
  rw [if_neg]
  intro he
  exact h (by rw [← he]; rfl)
theorem isK_rowH {txt : Int → List UInt8} {h : HV} (hn : txt h.st ≠ []) (hl : (txt h.st).length ≤ 64) : isK (rowH txt h) holdKinds = decide (h.sku.length ≤ 64 ∧ h.loc.length ≤ 64) := by
  unfold rowH
  rw [if_neg hn]
  simp [holdKinds, isK, num_kind, text_kind, some_kind, hl]
theorem take_rowH {txt : Int → List UInt8} {most : Nat} (hof : ∀ n, txt n ≠ [] → ∃ k : Nat, n = k ∧ ofT txt most (txt n) = some k ∧ (txt n).length ≤ 64) (h : HV) :
    takeH txt most (rowH txt h) = if h.sku.length ≤ 64 ∧ h.loc.length ≤ 64 ∧ txt h.st ≠ [] then (h, 0) else (hZ, 50) := by
  by_cases hn : txt h.st = []
  · rw [if_neg (fun c => c.2.2 hn)]
    have : rowH txt h = [] := by unfold rowH; rw [if_pos hn]
    rw [this]; rfl
  · obtain ⟨k, hk, ho, hl⟩ := hof _ hn
    have hi := isK_rowH hn hl
    unfold takeH
    rw [hi]
    by_cases hc : h.sku.length ≤ 64 ∧ h.loc.length ≤ 64
    · rw [if_pos (by simpa using hc), if_pos ⟨hc.1, hc.2, hn⟩]
      have h4 : ((rowH txt h).getD 4 v0).s = txt h.st := by unfold rowH; rw [if_neg hn]; rfl
      rw [h4, ho]
      have hd : (someV h.due).n = h.due := by unfold someV; split <;> simp_all [numV]
      simp only [Prod.mk.injEq, and_true]
      unfold mkH rowH
      rw [if_neg hn]
      simp only [List.getD_cons_zero, List.getD_cons_succ, hd]
      obtain ⟨id, sku, loc, q, st, due⟩ := h
      simp only at hk ⊢
      rw [hk]; rfl
    · rw [if_neg (by simpa using hc), if_neg (fun c => hc ⟨c.1, c.2.1⟩)]
theorem row_takeH {txt : Int → List UInt8} {most : Nat} {r : List V3} (h : (takeH txt most r).2 = 0) : rowH txt (takeH txt most r).1 = r := by
  unfold takeH at h ⊢
  split at h
  · rename_i hi
    rw [if_pos hi]
    split at h
    · rename_i n hn
      obtain ⟨ht, hs⟩ := ofT_some hn
      obtain ⟨a, b, c, d, e, f, rfl⟩ := list6 (isK_len hi)
      simp only [holdKinds, isK, Bool.and_eq_true] at hi
      obtain ⟨h1, h2, h3, h4, h5, h6, _⟩ := hi
      simp only [List.getD_cons_zero, List.getD_cons_succ] at ht hs
      unfold rowH mkH
      simp only [List.getD_cons_zero, List.getD_cons_succ]
      rw [ht, if_neg hs, ← kind_num h1, ← kind_text h2, ← kind_text h3, ← kind_num h4, ← kind_text h5, ← kind_some h6]
    · simp at h
  · simp at h
theorem take_rowS (s : SV) : takeS (rowS s) = if s.sku.length ≤ 64 ∧ s.loc.length ≤ 64 then (s, 0) else (sZ, 50) := by
  have hi : isK (rowS s) stockKinds = decide (s.sku.length ≤ 64 ∧ s.loc.length ≤ 64) := by simp [rowS, stockKinds, isK, num_kind, text_kind]
  unfold takeS
  rw [hi]
  by_cases hc : s.sku.length ≤ 64 ∧ s.loc.length ≤ 64
  · rw [if_pos (by simpa using hc), if_pos hc]; rfl
  · rw [if_neg (by simpa using hc), if_neg hc]
theorem row_takeS {r : List V3} (h : (takeS r).2 = 0) : rowS (takeS r).1 = r := by
  unfold takeS at h ⊢
  split at h
  · rename_i hi
    rw [if_pos hi]
    obtain ⟨a, b, c, d, rfl⟩ := list4 (isK_len hi)
    simp only [stockKinds, isK, Bool.and_eq_true] at hi
    obtain ⟨h1, h2, h3, h4, _⟩ := hi
    unfold rowS mkS
    simp only [List.getD_cons_zero, List.getD_cons_succ]
    rw [← kind_text h1, ← kind_text h2, ← kind_num h3, ← kind_num h4]
  · simp at h
end Go.Q

/- Layer 6: holds, movements and stocks as rows, and back: what each function does. -/
set_option linter.unusedVariables false
set_option linter.unusedSimpArgs false
namespace Go.Proofs
open Go Go.Q
def hA (h : HV) : Value := .agg #[.int .i64 h.id, .string (str h.sku), .string (str h.loc), .int .i64 h.q, .int .i64 h.st, .int .i64 h.due]
def sA (s : SV) : Value := .agg #[.string (str s.sku), .string (str s.loc), .int .i64 s.hand, .int .i64 s.held]
theorem zcStock : zc Try.prog 44 = [.string ⟨#[]⟩, .string ⟨#[]⟩, .int .i64 0, .int .i64 0].toArray := by kernel_rfl
theorem aggStockT : aggO Try.prog 44 = some true := by kernel_rfl
theorem szStockT : szO Try.prog 44 = some 4 := by kernel_rfl
theorem eqStock {q d q' d' : Int} {s l s' l' : ByteArray} : aggEq Try.prog 44 [.string s, .string l, .int .i64 q, .int .i64 d] [.string s', .string l', .int .i64 q', .int .i64 d'] = true := by kernel_rfl
theorem lvStock {b : Nat} {w : World} {c : Array Value} {T : TypeId} {fr : Nat × Nat} (hb : Live w b) (hs : c.size = 4) {K : Value → Prop} :
    qG Try.prog (do loadVar 44 (← asAddr (.pointer (some ⟨b, 0, none⟩)))) (setBlk w b (.cells c T fr)) K = K (.agg c) := loadVar_of aggStockT szStockT (heap_self hb) hs
theorem lvStockd {b : Nat} {w : World} {c : Array Value} {T : TypeId} {fr : Nat × Nat} (hb : Live w b) (hs : c.size = 4) {K : Value → Prop} :
    qG Try.prog (do loadVar 44 (← asAddr (.pointer (some ⟨b, 0, none⟩)))) (setBlk w b (.cells c T fr)).drew K = K (.agg c) := loadVar_of aggStockT szStockT (by rw [heap_drew]; exact heap_self hb) hs
theorem zcHold : zc Try.prog 34 = [.int .i64 0, .string ⟨#[]⟩, .string ⟨#[]⟩, .int .i64 0, .int .i64 0, .int .i64 0].toArray := by kernel_rfl
theorem aggHoldT : aggO Try.prog 34 = some true := by kernel_rfl
theorem szHoldT : szO Try.prog 34 = some 6 := by kernel_rfl
theorem eqHold {k q i d k' q' i' d' : Int} {s l s' l' : ByteArray} : aggEq Try.prog 34 [.int .i64 k, .string s, .string l, .int .i64 q, .int .i64 i, .int .i64 d] [.int .i64 k', .string s', .string l', .int .i64 q', .int .i64 i', .int .i64 d'] = true := by kernel_rfl
theorem lvHold {b : Nat} {w : World} {c : Array Value} {T : TypeId} {fr : Nat × Nat} (hb : Live w b) (hs : c.size = 6) {K : Value → Prop} :
    qG Try.prog (do loadVar 34 (← asAddr (.pointer (some ⟨b, 0, none⟩)))) (setBlk w b (.cells c T fr)) K = K (.agg c) := loadVar_of aggHoldT szHoldT (heap_self hb) hs
theorem lvHoldd {b : Nat} {w : World} {c : Array Value} {T : TypeId} {fr : Nat × Nat} (hb : Live w b) (hs : c.size = 6) {K : Value → Prop} :
    qG Try.prog (do loadVar 34 (← asAddr (.pointer (some ⟨b, 0, none⟩)))) (setBlk w b (.cells c T fr)).drew K = K (.agg c) := loadVar_of aggHoldT szHoldT (by rw [heap_drew]; exact heap_self hb) hs
theorem zcMove : zc Try.prog 50 = [.int .i64 0, .string ⟨#[]⟩, .string ⟨#[]⟩, .int .i64 0, .int .i64 0, .int .i64 0].toArray := by kernel_rfl
theorem aggMoveT : aggO Try.prog 50 = some true := by kernel_rfl
theorem szMoveT : szO Try.prog 50 = some 6 := by kernel_rfl
theorem eqMove {k q i d k' q' i' d' : Int} {s l s' l' : ByteArray} : aggEq Try.prog 50 [.int .i64 k, .string s, .string l, .int .i64 q, .int .i64 i, .int .i64 d] [.int .i64 k', .string s', .string l', .int .i64 q', .int .i64 i', .int .i64 d'] = true := by kernel_rfl
theorem lvMove {b : Nat} {w : World} {c : Array Value} {T : TypeId} {fr : Nat × Nat} (hb : Live w b) (hs : c.size = 6) {K : Value → Prop} :
    qG Try.prog (do loadVar 50 (← asAddr (.pointer (some ⟨b, 0, none⟩)))) (setBlk w b (.cells c T fr)) K = K (.agg c) := loadVar_of aggMoveT szMoveT (heap_self hb) hs
theorem lvMoved {b : Nat} {w : World} {c : Array Value} {T : TypeId} {fr : Nat × Nat} (hb : Live w b) (hs : c.size = 6) {K : Value → Prop} :
    qG Try.prog (do loadVar 50 (← asAddr (.pointer (some ⟨b, 0, none⟩)))) (setBlk w b (.cells c T fr)).drew K = K (.agg c) := loadVar_of aggMoveT szMoveT (by rw [heap_drew]; exact heap_self hb) hs
theorem txt_state_spec {w : World} (n : Int) {K : Value → World → Prop} (hK : K (.string (str (stateT n))) w) : callG Try.prog 60 #[.int .i64 n] w K := by
  refine entry_state_call ?_
  unfold stateT at hK
  simp [-getElem?_pos, -Array.all_eq_true, -Array.getElem?_eq_getElem, -List.length_flatten, List.getElem?_cons_zero, List.getElem?_cons_succ, entry_state, entry_state_s0]
  have e : ∀ l : List UInt8, (⟨l.toArray⟩ : ByteArray) = str l := fun _ => rfl
  simp only [e]
  by_cases h0 : n = 0
  · simp_all
  by_cases h1 : n = 1
  · simp_all
  by_cases h2 : n = 2
  · simp_all
  simp_all
theorem txt_kind_spec {w : World} (n : Int) {K : Value → World → Prop} (hK : K (.string (str (kindT n))) w) : callG Try.prog 64 #[.int .i64 n] w K := by
  refine entry_kind_call ?_
  unfold kindT at hK
  simp [-getElem?_pos, -Array.all_eq_true, -Array.getElem?_eq_getElem, -List.length_flatten, List.getElem?_cons_zero, List.getElem?_cons_succ, entry_kind, entry_kind_s0]
  have e : ∀ l : List UInt8, (⟨l.toArray⟩ : ByteArray) = str l := fun _ => rfl
  simp only [e]
  by_cases h0 : n = 1
  · simp_all
  by_cases h1 : n = 3
  · simp_all
  by_cases h2 : n = 6
  · simp_all
  by_cases h3 : n = 7
  · simp_all
  simp_all
theorem reftxt_state_spec {w : World} (n : Int) {K : Value → World → Prop} (hK : K (.string (str (stateT n))) w) : callG Try.prog 61 #[.int .i64 n] w K := by
  refine ref06_state_call ?_
  unfold stateT at hK
  simp [-getElem?_pos, -Array.all_eq_true, -Array.getElem?_eq_getElem, -List.length_flatten, List.getElem?_cons_zero, List.getElem?_cons_succ, ref06_state, ref06_state_s0]
  have e : ∀ l : List UInt8, (⟨l.toArray⟩ : ByteArray) = str l := fun _ => rfl
  simp only [e]
  by_cases h0 : n = 0
  · simp_all
  by_cases h1 : n = 1
  · simp_all
  by_cases h2 : n = 2
  · simp_all
  simp_all
theorem reftxt_kind_spec {w : World} (n : Int) {K : Value → World → Prop} (hK : K (.string (str (kindT n))) w) : callG Try.prog 65 #[.int .i64 n] w K := by
  refine ref06_kind_call ?_
  unfold kindT at hK
  simp [-getElem?_pos, -Array.all_eq_true, -Array.getElem?_eq_getElem, -List.length_flatten, List.getElem?_cons_zero, List.getElem?_cons_succ, ref06_kind, ref06_kind_s0]
  have e : ∀ l : List UInt8, (⟨l.toArray⟩ : ByteArray) = str l := fun _ => rfl
  simp only [e]
  by_cases h0 : n = 1
  · simp_all
  by_cases h1 : n = 3
  · simp_all
  by_cases h2 : n = 6
  · simp_all
  by_cases h3 : n = 7
  · simp_all
  simp_all
theorem of_spec {w : World} {f : FuncId} {txt : Int → List UInt8} {most : Nat} (s : List UInt8) (hb : hasBody Try.prog f = true) (hm : most < 100) (hf : ∀ (n : Int) (w : World) (K : Value → World → Prop), K (.string (str (txt n))) w → callG Try.prog f #[.int .i64 n] w K)
    {K : Value → World → Prop} (hK : ∀ w', Kp [] w w' → K (match ofT txt most s with | some k => .tuple #[.int .i64 k, .bool true] | none => .tuple #[.int .i64 0, .bool false]) w') :
    callG Try.prog 59 #[.string (str s), .int .i64 most, .func (.func f) #[] #[]] w K := by
  refine entry_of_call ?_
  simp only [entry_of, entry_of_s5, entry_of_s4]
  unfold entry_of_L3
  refine loop_inv (fun m xs wi => ∃ i, i ≤ most + 1 ∧ m = most + 1 - i ∧ xs = [.string (str s), .int .i64 most, .func (.func f) #[] #[], .int .i64 (i : Nat)] ∧ Kp [] w wi ∧ (s ≠ [] → ofT txt most s = findT txt s i (most + 1 - i))) ?_ (m := most + 1)
    ⟨0, by omega, rfl, rfl, Kp.refl _ _, fun h => by unfold ofT; rw [if_neg h]; rfl⟩
  rintro m N xs wi ⟨i, hi, rfl, rfl, hk, he⟩ hN
  have hend : (s = [] ∨ ¬ i ≤ most) → entry_of_s0 K wi := by
    intro h
    unfold entry_of_s0
    have := hK wi hk
    have hn : ofT txt most s = none := by
      by_cases hs : s = []
      · unfold ofT; rw [if_pos hs]
      · rw [he hs, show most + 1 - i = 0 by
          rcases h with h | h
          · exact absurd h hs
          · omega]; rfl
    rw [hn] at this
    exact this
  simp only [entry_of_L3F, entry_of_s2, bq_leq, bV_b, str_nil, bq_sneq, str_eq]
  refine ⟨fun hle => ⟨fun hne => ?_, fun h0 => hend (.inl (by simpa using h0))⟩, fun hgt => hend (.inr (by simp at hgt; omega))⟩
  have hle : i ≤ most := by simp at hle; omega
  have hne : s ≠ [] := by simpa using hne
  have hiw : IntKind.i64.wrap ((i : Int) + 1) = ((i + 1 : Nat) : Int) := by rw [w64 (by omega) (by omega)]; simp
  have he := he hne
  rw [show most + 1 - i = (most + 1 - (i + 1)) + 1 by omega] at he
  unfold findT at he
  unfold entry_of_s1
  refine ⟨hb, hf (i : Int) wi _ ?_⟩
  simp only [bq_seql, str_eq, bV_b]
  refine ⟨fun ht => ?_, fun ht => ?_⟩
  · rw [if_pos (by simpa using ht)] at he
    have := hK wi hk
    rw [he] at this
    exact this
  · rw [if_neg (by simpa using ht)] at he
    simp only [bq_add, hiw]
    exact hN (most + 1 - (i + 1)) _ _ (by omega) ⟨i + 1, by omega, rfl, rfl, hk, fun _ => he⟩
theorem HoldRow_spec {w : World} (h : HV) {K : Value → World → Prop} (hK : ∀ v w', Kp [] w w' → Rd w' v 3 ((rowH stateT h).map valV) → K v w') : callG Try.prog 25 #[hA h] w K := by
  refine entry_HoldRow_call ?_
  unfold hA
  simp only [entry_HoldRow, entry_HoldRow_s0, newG_k, cells_agg]
  obtain ⟨w1, hw1⟩ := ex_w (w' := w.alloc (.cells #[.int .i64 h.id, .string (str h.sku), .string (str h.loc), .int .i64 h.q, .int .i64 h.st, .int .i64 h.due] 34))
  have hk1 : Kp [] w w1 := by rw [hw1]; exact kp_alloc
  have hb1 : w1.heap[w.heap.size]? = some (.cells #[.int .i64 h.id, .string (str h.sku), .string (str h.loc), .int .i64 h.q, .int .i64 h.st, .int .i64 h.due] 34) := by rw [hw1]; exact heap_new
  rw [← hw1]
  simp [-getElem?_pos, -Array.all_eq_true, -Array.getElem?_eq_getElem, -List.length_flatten, List.getElem?_cons_zero, List.getElem?_cons_succ, hb1]
  refine txt_state_spec _ ?_
  simp [-getElem?_pos, -Array.all_eq_true, -Array.getElem?_eq_getElem, -List.length_flatten, List.getElem?_cons_zero, List.getElem?_cons_succ, hb1, str_nil]
  refine ⟨fun h0 => ?_, fun h0 => ?_⟩
  · refine hK _ w1 hk1 ?_
    unfold rowH
    rw [if_pos h0]
    exact rd_nil
  have hrow : rowH stateT h = [numV h.id, textV h.sku, textV h.loc, numV h.q, textV (stateT h.st), someV h.due] := by unfold rowH; rw [if_neg h0]
  refine num_spec _ fun w3 hk3 => ?_
  have hb3 := hk3.get (show w1.drew.heap[w.heap.size]? = _ from hb1) (by simp)
  simp [-getElem?_pos, -Array.all_eq_true, -Array.getElem?_eq_getElem, -List.length_flatten, List.getElem?_cons_zero, List.getElem?_cons_succ, hb3]
  refine text_spec _ fun w4 hk4 => ?_
  have hb4 := hk4.get hb3 (by simp)
  simp [-getElem?_pos, -Array.all_eq_true, -Array.getElem?_eq_getElem, -List.length_flatten, List.getElem?_cons_zero, List.getElem?_cons_succ, hb4]
  refine text_spec _ fun w5 hk5 => ?_
  have hb5 := hk5.get hb4 (by simp)
  simp [-getElem?_pos, -Array.all_eq_true, -Array.getElem?_eq_getElem, -List.length_flatten, List.getElem?_cons_zero, List.getElem?_cons_succ, hb5]
  refine num_spec _ fun w6 hk6 => ?_
  have hb6 := hk6.get hb5 (by simp)
  simp [-getElem?_pos, -Array.all_eq_true, -Array.getElem?_eq_getElem, -List.length_flatten, List.getElem?_cons_zero, List.getElem?_cons_succ, hb6]
  refine txt_state_spec _ ?_
  simp [-getElem?_pos, -Array.all_eq_true, -Array.getElem?_eq_getElem, -List.length_flatten, List.getElem?_cons_zero, List.getElem?_cons_succ, hb6]
  refine text_spec _ fun w7 hk7 => ?_
  have hb7 := hk7.get hb6 (by simp)
  simp [-getElem?_pos, -Array.all_eq_true, -Array.getElem?_eq_getElem, -List.length_flatten, List.getElem?_cons_zero, List.getElem?_cons_succ, hb7]
  refine some_spec _ fun w8 hk8 => ?_
  have hk08 := ((((((hk1.trans' kp_drew).trans' hk3).trans' hk4).trans' hk5).trans' hk6).trans' hk7).trans' hk8
  refine bsl_rows (n := 3) (len := 6) (xs := [valA (numV h.id), valA (textV h.sku), valA (textV h.loc), valA (numV h.q), valA (textV (stateT h.st)), valA (someV h.due)]) (rows := (rowH stateT h).map valV) (by omega) rfl (by rw [hrow]; rfl) (by rw [hrow]; simp [valV]) (by omega) fun v wa ha => ?_
  refine row_spec ?_
  exact hK v wa (hk08.trans' ha.kp) ha.rd
theorem MoveRow_spec {w : World} (h : HV) {K : Value → World → Prop} (hK : ∀ v w', Kp [] w w' → Rd w' v 3 ((rowH kindT h).map valV) → K v w') : callG Try.prog 33 #[hA h] w K := by
  refine entry_MoveRow_call ?_
  unfold hA
  simp only [entry_MoveRow, entry_MoveRow_s0, newG_k, cells_agg]
  obtain ⟨w1, hw1⟩ := ex_w (w' := w.alloc (.cells #[.int .i64 h.id, .string (str h.sku), .string (str h.loc), .int .i64 h.q, .int .i64 h.st, .int .i64 h.due] 50))
  have hk1 : Kp [] w w1 := by rw [hw1]; exact kp_alloc
  have hb1 : w1.heap[w.heap.size]? = some (.cells #[.int .i64 h.id, .string (str h.sku), .string (str h.loc), .int .i64 h.q, .int .i64 h.st, .int .i64 h.due] 50) := by rw [hw1]; exact heap_new
  rw [← hw1]
  simp [-getElem?_pos, -Array.all_eq_true, -Array.getElem?_eq_getElem, -List.length_flatten, List.getElem?_cons_zero, List.getElem?_cons_succ, hb1]
  refine txt_kind_spec _ ?_
  simp [-getElem?_pos, -Array.all_eq_true, -Array.getElem?_eq_getElem, -List.length_flatten, List.getElem?_cons_zero, List.getElem?_cons_succ, hb1, str_nil]
  refine ⟨fun h0 => ?_, fun h0 => ?_⟩
  · refine hK _ w1 hk1 ?_
    unfold rowH
    rw [if_pos h0]
    exact rd_nil
  have hrow : rowH kindT h = [numV h.id, textV h.sku, textV h.loc, numV h.q, textV (kindT h.st), someV h.due] := by unfold rowH; rw [if_neg h0]
  refine num_spec _ fun w3 hk3 => ?_
  have hb3 := hk3.get (show w1.drew.heap[w.heap.size]? = _ from hb1) (by simp)
  simp [-getElem?_pos, -Array.all_eq_true, -Array.getElem?_eq_getElem, -List.length_flatten, List.getElem?_cons_zero, List.getElem?_cons_succ, hb3]
  refine text_spec _ fun w4 hk4 => ?_
  have hb4 := hk4.get hb3 (by simp)
  simp [-getElem?_pos, -Array.all_eq_true, -Array.getElem?_eq_getElem, -List.length_flatten, List.getElem?_cons_zero, List.getElem?_cons_succ, hb4]
  refine text_spec _ fun w5 hk5 => ?_
  have hb5 := hk5.get hb4 (by simp)
  simp [-getElem?_pos, -Array.all_eq_true, -Array.getElem?_eq_getElem, -List.length_flatten, List.getElem?_cons_zero, List.getElem?_cons_succ, hb5]
  refine num_spec _ fun w6 hk6 => ?_
  have hb6 := hk6.get hb5 (by simp)
  simp [-getElem?_pos, -Array.all_eq_true, -Array.getElem?_eq_getElem, -List.length_flatten, List.getElem?_cons_zero, List.getElem?_cons_succ, hb6]
  refine txt_kind_spec _ ?_
  simp [-getElem?_pos, -Array.all_eq_true, -Array.getElem?_eq_getElem, -List.length_flatten, List.getElem?_cons_zero, List.getElem?_cons_succ, hb6]
  refine text_spec _ fun w7 hk7 => ?_
  have hb7 := hk7.get hb6 (by simp)
  simp [-getElem?_pos, -Array.all_eq_true, -Array.getElem?_eq_getElem, -List.length_flatten, List.getElem?_cons_zero, List.getElem?_cons_succ, hb7]
  refine some_spec _ fun w8 hk8 => ?_
  have hk08 := ((((((hk1.trans' kp_drew).trans' hk3).trans' hk4).trans' hk5).trans' hk6).trans' hk7).trans' hk8
  refine bsl_rows (n := 3) (len := 6) (xs := [valA (numV h.id), valA (textV h.sku), valA (textV h.loc), valA (numV h.q), valA (textV (kindT h.st)), valA (someV h.due)]) (rows := (rowH kindT h).map valV) (by omega) rfl (by rw [hrow]; rfl) (by rw [hrow]; simp [valV]) (by omega) fun v wa ha => ?_
  refine row_spec ?_
  exact hK v wa (hk08.trans' ha.kp) ha.rd
theorem StockRow_spec {w : World} (s : SV) {K : Value → World → Prop} (hK : ∀ v w', Kp [] w w' → Rd w' v 3 ((rowS s).map valV) → K v w') : callG Try.prog 29 #[sA s] w K := by
  refine entry_StockRow_call ?_
  unfold sA
  simp only [entry_StockRow, entry_StockRow_s0, newG_k, cells_agg]
  obtain ⟨w1, hw1⟩ := ex_w (w' := w.alloc (.cells #[.string (str s.sku), .string (str s.loc), .int .i64 s.hand, .int .i64 s.held] 44))
  have hk1 : Kp [] w w1 := by rw [hw1]; exact kp_alloc
  have hb1 : w1.heap[w.heap.size]? = some (.cells #[.string (str s.sku), .string (str s.loc), .int .i64 s.hand, .int .i64 s.held] 44) := by rw [hw1]; exact heap_new
  rw [← hw1]
  simp [-getElem?_pos, -Array.all_eq_true, -Array.getElem?_eq_getElem, -List.length_flatten, List.getElem?_cons_zero, List.getElem?_cons_succ, hb1]
  refine text_spec _ fun w4 hk4 => ?_
  have hb4 := hk4.get (show w1.drew.heap[w.heap.size]? = _ from hb1) (by simp)
  simp [-getElem?_pos, -Array.all_eq_true, -Array.getElem?_eq_getElem, -List.length_flatten, List.getElem?_cons_zero, List.getElem?_cons_succ, hb4]
  refine text_spec _ fun w5 hk5 => ?_
  have hb5 := hk5.get hb4 (by simp)
  simp [-getElem?_pos, -Array.all_eq_true, -Array.getElem?_eq_getElem, -List.length_flatten, List.getElem?_cons_zero, List.getElem?_cons_succ, hb5]
  refine num_spec _ fun w6 hk6 => ?_
  have hb6 := hk6.get hb5 (by simp)
  simp [-getElem?_pos, -Array.all_eq_true, -Array.getElem?_eq_getElem, -List.length_flatten, List.getElem?_cons_zero, List.getElem?_cons_succ, hb6]
  refine num_spec _ fun w7 hk7 => ?_
  have hk07 := ((((hk1.trans' kp_drew).trans' hk4).trans' hk5).trans' hk6).trans' hk7
  refine bsl_rows (n := 3) (len := 4) (xs := [valA (textV s.sku), valA (textV s.loc), valA (numV s.hand), valA (numV s.held)]) (rows := (rowS s).map valV) (by omega) rfl rfl (by simp [rowS, valV]) (by omega) fun v wa ha => ?_
  refine row_spec ?_
  exact hK v wa (hk07.trans' ha.kp) ha.rd
theorem RowStock_spec {w : World} {v : Value} {r : List V3} (hr : Rd w v 3 (r.map valV)) (hl : r.length < 2 ^ 40) {K : Value → World → Prop} (hK : ∀ w', Kp [] w w' → K (.tuple #[sA (takeS r).1, .int .i64 (takeS r).2]) w') : callG Try.prog 27 #[v] w K := by
  refine entry_RowStock_call ?_
  simp only [entry_RowStock, entry_RowStock_s0, newG_k, zcStock, str_nil]
  obtain ⟨n, hn⟩ : ∃ n, n = w.heap.size := ⟨_, rfl⟩
  obtain ⟨w1, hw1⟩ := ex_w (w' := w.alloc (.cells #[.string (str []), .string (str []), .int .i64 0, .int .i64 0] 44))
  have hk1 : Kp [] w w1 := by rw [hw1]; exact kp_alloc
  have ha1 : w1.heap[n]? = some (.cells #[.string (str []), .string (str []), .int .i64 0, .int .i64 0] 44) := by rw [hw1, hn]; exact heap_new
  rw [← hw1, ← hn]
  refine bsl_rows (n := 1) (len := 4) (xs := [.int .i64 2, .int .i64 2, .int .i64 1, .int .i64 1]) (rows := stockKinds.map intV) (by omega) rfl rfl (by simp [stockKinds, intV]) (by omega) fun v3 wk h3 => ?_
  refine is_spec ((hr.keep hk1).keep h3.kp) h3.rd hl fun w3 hk3' => ?_
  have hk3 := h3.kp.trans' hk3'
  have hk03 := hk1.trans' hk3
  have ha3 := hk3.get ha1 (by simp)
  have la3 := live_of ha3
  have hks : ∀ ob, Kp [] w (setBlk w3 n ob) := fun ob => hk03.setBlk (.inr (by omega)) _
  cases hk : isK r stockKinds with
  | false =>
    simp [-getElem?_pos, -Array.all_eq_true, -Array.getElem?_eq_getElem, -List.length_flatten, List.getElem?_cons_zero, List.getElem?_cons_succ, ha3, bld_done, lvStock, la3]
    have := hK _ (hks (.cells #[.string (str []), .string (str []), .int .i64 0, .int .i64 0] 44))
    simpa [sA, takeS, hk, sZ] using this
  | true =>
    obtain ⟨r0, r1, r2, r3, rfl⟩ := list4 (isK_len hk)
    have hr3 := hr.keep hk03
    obtain ⟨b0, o0, c0, T0, f0, h0, i0, q0, n0, s0⟩ := rd_cells hr3 (i := 0) (by simp)
    obtain ⟨b1, o1, c1, T1, f1, h1, i1, q1, n1, s1⟩ := rd_cells hr3 (i := 1) (by simp)
    obtain ⟨b2, o2, c2, T2, f2, h2, i2, q2, n2, s2⟩ := rd_cells hr3 (i := 2) (by simp)
    obtain ⟨b3, o3, c3, T3, f3, h3, i3, q3, n3, s3⟩ := rd_cells hr3 (i := 3) (by simp)
    have i0' : ∀ K : Value → Prop, ia 3 v (.int .i64 0) K = K (.pointer (some ⟨b0, o0, none⟩)) := fun K => i0 .i64 K
    have i1' : ∀ K : Value → Prop, ia 3 v (.int .i64 1) K = K (.pointer (some ⟨b1, o1, none⟩)) := fun K => i1 .i64 K
    have i2' : ∀ K : Value → Prop, ia 3 v (.int .i64 2) K = K (.pointer (some ⟨b2, o2, none⟩)) := fun K => i2 .i64 K
    have i3' : ∀ K : Value → Prop, ia 3 v (.int .i64 3) K = K (.pointer (some ⟨b3, o3, none⟩)) := fun K => i3 .i64 K
    clear i0 i1 i2 i3
    simp only [List.getElem_cons_zero, List.getElem_cons_succ] at s0 s1 n2 n3
    clear q0 q1 q2 q3 n0 n1 s2 s3
    simp [-getElem?_pos, -Array.all_eq_true, -Array.getElem?_eq_getElem, -List.length_flatten, List.getElem?_cons_zero, List.getElem?_cons_succ, i0', i1', i2', i3', h0, h1, h2, h3, s0, s1, n2, n3, bld_done, bld_if, offAt, putAt, ha3, lvStock, lvStockd, la3]
    have := hK _ (hks (.cells #[.string (str r0.s), .string (str r1.s), .int .i64 r2.n, .int .i64 r3.n] 44)).drew
    simpa [sA, takeS, hk, mkS] using this
theorem refHoldRow_spec {w : World} (h : HV) {K : Value → World → Prop} (hK : ∀ v w', Kp [] w w' → Rd w' v 3 ((rowH stateT h).map valV) → K v w') : callG Try.prog 26 #[hA h] w K := by
  refine ref06_HoldRow_call ?_
  unfold hA
  simp only [ref06_HoldRow, ref06_HoldRow_s0, newG_k, cells_agg]
  obtain ⟨w1, hw1⟩ := ex_w (w' := w.alloc (.cells #[.int .i64 h.id, .string (str h.sku), .string (str h.loc), .int .i64 h.q, .int .i64 h.st, .int .i64 h.due] 34))
  have hk1 : Kp [] w w1 := by rw [hw1]; exact kp_alloc
  have hb1 : w1.heap[w.heap.size]? = some (.cells #[.int .i64 h.id, .string (str h.sku), .string (str h.loc), .int .i64 h.q, .int .i64 h.st, .int .i64 h.due] 34) := by rw [hw1]; exact heap_new
  rw [← hw1]
  simp [-getElem?_pos, -Array.all_eq_true, -Array.getElem?_eq_getElem, -List.length_flatten, List.getElem?_cons_zero, List.getElem?_cons_succ, hb1]
  refine reftxt_state_spec _ ?_
  simp [-getElem?_pos, -Array.all_eq_true, -Array.getElem?_eq_getElem, -List.length_flatten, List.getElem?_cons_zero, List.getElem?_cons_succ, hb1, str_nil]
  refine ⟨fun h0 => ?_, fun h0 => ?_⟩
  · refine hK _ w1 hk1 ?_
    unfold rowH
    rw [if_pos h0]
    exact rd_nil
  have hrow : rowH stateT h = [numV h.id, textV h.sku, textV h.loc, numV h.q, textV (stateT h.st), someV h.due] := by unfold rowH; rw [if_neg h0]
  refine refNum_spec _ fun w3 hk3 => ?_
  have hb3 := hk3.get (show w1.drew.heap[w.heap.size]? = _ from hb1) (by simp)
  simp [-getElem?_pos, -Array.all_eq_true, -Array.getElem?_eq_getElem, -List.length_flatten, List.getElem?_cons_zero, List.getElem?_cons_succ, hb3]
  refine refText_spec _ fun w4 hk4 => ?_
  have hb4 := hk4.get hb3 (by simp)
  simp [-getElem?_pos, -Array.all_eq_true, -Array.getElem?_eq_getElem, -List.length_flatten, List.getElem?_cons_zero, List.getElem?_cons_succ, hb4]
  refine refText_spec _ fun w5 hk5 => ?_
  have hb5 := hk5.get hb4 (by simp)
  simp [-getElem?_pos, -Array.all_eq_true, -Array.getElem?_eq_getElem, -List.length_flatten, List.getElem?_cons_zero, List.getElem?_cons_succ, hb5]
  refine refNum_spec _ fun w6 hk6 => ?_
  have hb6 := hk6.get hb5 (by simp)
  simp [-getElem?_pos, -Array.all_eq_true, -Array.getElem?_eq_getElem, -List.length_flatten, List.getElem?_cons_zero, List.getElem?_cons_succ, hb6]
  refine reftxt_state_spec _ ?_
  simp [-getElem?_pos, -Array.all_eq_true, -Array.getElem?_eq_getElem, -List.length_flatten, List.getElem?_cons_zero, List.getElem?_cons_succ, hb6]
  refine refText_spec _ fun w7 hk7 => ?_
  have hb7 := hk7.get hb6 (by simp)
  simp [-getElem?_pos, -Array.all_eq_true, -Array.getElem?_eq_getElem, -List.length_flatten, List.getElem?_cons_zero, List.getElem?_cons_succ, hb7]
  refine refSome_spec _ fun w8 hk8 => ?_
  have hk08 := ((((((hk1.trans' kp_drew).trans' hk3).trans' hk4).trans' hk5).trans' hk6).trans' hk7).trans' hk8
  refine bsl_rows (n := 3) (len := 6) (xs := [valA (numV h.id), valA (textV h.sku), valA (textV h.loc), valA (numV h.q), valA (textV (stateT h.st)), valA (someV h.due)]) (rows := (rowH stateT h).map valV) (by omega) rfl (by rw [hrow]; rfl) (by rw [hrow]; simp [valV]) (by omega) fun v wa ha => ?_
  exact hK v wa (hk08.trans' ha.kp) ha.rd
theorem refMoveRow_spec {w : World} (h : HV) {K : Value → World → Prop} (hK : ∀ v w', Kp [] w w' → Rd w' v 3 ((rowH kindT h).map valV) → K v w') : callG Try.prog 34 #[hA h] w K := by
  refine ref06_MoveRow_call ?_
  unfold hA
  simp only [ref06_MoveRow, ref06_MoveRow_s0, newG_k, cells_agg]
  obtain ⟨w1, hw1⟩ := ex_w (w' := w.alloc (.cells #[.int .i64 h.id, .string (str h.sku), .string (str h.loc), .int .i64 h.q, .int .i64 h.st, .int .i64 h.due] 50))
  have hk1 : Kp [] w w1 := by rw [hw1]; exact kp_alloc
  have hb1 : w1.heap[w.heap.size]? = some (.cells #[.int .i64 h.id, .string (str h.sku), .string (str h.loc), .int .i64 h.q, .int .i64 h.st, .int .i64 h.due] 50) := by rw [hw1]; exact heap_new
  rw [← hw1]
  simp [-getElem?_pos, -Array.all_eq_true, -Array.getElem?_eq_getElem, -List.length_flatten, List.getElem?_cons_zero, List.getElem?_cons_succ, hb1]
  refine reftxt_kind_spec _ ?_
  simp [-getElem?_pos, -Array.all_eq_true, -Array.getElem?_eq_getElem, -List.length_flatten, List.getElem?_cons_zero, List.getElem?_cons_succ, hb1, str_nil]
  refine ⟨fun h0 => ?_, fun h0 => ?_⟩
  · refine hK _ w1 hk1 ?_
    unfold rowH
    rw [if_pos h0]
    exact rd_nil
  have hrow : rowH kindT h = [numV h.id, textV h.sku, textV h.loc, numV h.q, textV (kindT h.st), someV h.due] := by unfold rowH; rw [if_neg h0]
  refine refNum_spec _ fun w3 hk3 => ?_
  have hb3 := hk3.get (show w1.drew.heap[w.heap.size]? = _ from hb1) (by simp)
  simp [-getElem?_pos, -Array.all_eq_true, -Array.getElem?_eq_getElem, -List.length_flatten, List.getElem?_cons_zero, List.getElem?_cons_succ, hb3]
  refine refText_spec _ fun w4 hk4 => ?_
  have hb4 := hk4.get hb3 (by simp)
  simp [-getElem?_pos, -Array.all_eq_true, -Array.getElem?_eq_getElem, -List.length_flatten, List.getElem?_cons_zero, List.getElem?_cons_succ, hb4]
  refine refText_spec _ fun w5 hk5 => ?_
  have hb5 := hk5.get hb4 (by simp)
  simp [-getElem?_pos, -Array.all_eq_true, -Array.getElem?_eq_getElem, -List.length_flatten, List.getElem?_cons_zero, List.getElem?_cons_succ, hb5]
  refine refNum_spec _ fun w6 hk6 => ?_
  have hb6 := hk6.get hb5 (by simp)
  simp [-getElem?_pos, -Array.all_eq_true, -Array.getElem?_eq_getElem, -List.length_flatten, List.getElem?_cons_zero, List.getElem?_cons_succ, hb6]
  refine reftxt_kind_spec _ ?_
  simp [-getElem?_pos, -Array.all_eq_true, -Array.getElem?_eq_getElem, -List.length_flatten, List.getElem?_cons_zero, List.getElem?_cons_succ, hb6]
  refine refText_spec _ fun w7 hk7 => ?_
  have hb7 := hk7.get hb6 (by simp)
  simp [-getElem?_pos, -Array.all_eq_true, -Array.getElem?_eq_getElem, -List.length_flatten, List.getElem?_cons_zero, List.getElem?_cons_succ, hb7]
  refine refSome_spec _ fun w8 hk8 => ?_
  have hk08 := ((((((hk1.trans' kp_drew).trans' hk3).trans' hk4).trans' hk5).trans' hk6).trans' hk7).trans' hk8
  refine bsl_rows (n := 3) (len := 6) (xs := [valA (numV h.id), valA (textV h.sku), valA (textV h.loc), valA (numV h.q), valA (textV (kindT h.st)), valA (someV h.due)]) (rows := (rowH kindT h).map valV) (by omega) rfl (by rw [hrow]; rfl) (by rw [hrow]; simp [valV]) (by omega) fun v wa ha => ?_
  exact hK v wa (hk08.trans' ha.kp) ha.rd
theorem refStockRow_spec {w : World} (s : SV) {K : Value → World → Prop} (hK : ∀ v w', Kp [] w w' → Rd w' v 3 ((rowS s).map valV) → K v w') : callG Try.prog 30 #[sA s] w K := by
  refine ref06_StockRow_call ?_
  unfold sA
  simp only [ref06_StockRow, ref06_StockRow_s0, newG_k, cells_agg]
  obtain ⟨w1, hw1⟩ := ex_w (w' := w.alloc (.cells #[.string (str s.sku), .string (str s.loc), .int .i64 s.hand, .int .i64 s.held] 44))
  have hk1 : Kp [] w w1 := by rw [hw1]; exact kp_alloc
  have hb1 : w1.heap[w.heap.size]? = some (.cells #[.string (str s.sku), .string (str s.loc), .int .i64 s.hand, .int .i64 s.held] 44) := by rw [hw1]; exact heap_new
  rw [← hw1]
  simp [-getElem?_pos, -Array.all_eq_true, -Array.getElem?_eq_getElem, -List.length_flatten, List.getElem?_cons_zero, List.getElem?_cons_succ, hb1]
  refine refText_spec _ fun w4 hk4 => ?_
  have hb4 := hk4.get (show w1.drew.heap[w.heap.size]? = _ from hb1) (by simp)
  simp [-getElem?_pos, -Array.all_eq_true, -Array.getElem?_eq_getElem, -List.length_flatten, List.getElem?_cons_zero, List.getElem?_cons_succ, hb4]
  refine refText_spec _ fun w5 hk5 => ?_
  have hb5 := hk5.get hb4 (by simp)
  simp [-getElem?_pos, -Array.all_eq_true, -Array.getElem?_eq_getElem, -List.length_flatten, List.getElem?_cons_zero, List.getElem?_cons_succ, hb5]
  refine refNum_spec _ fun w6 hk6 => ?_
  have hb6 := hk6.get hb5 (by simp)
  simp [-getElem?_pos, -Array.all_eq_true, -Array.getElem?_eq_getElem, -List.length_flatten, List.getElem?_cons_zero, List.getElem?_cons_succ, hb6]
  refine refNum_spec _ fun w7 hk7 => ?_
  have hk07 := ((((hk1.trans' kp_drew).trans' hk4).trans' hk5).trans' hk6).trans' hk7
  refine bsl_rows (n := 3) (len := 4) (xs := [valA (textV s.sku), valA (textV s.loc), valA (numV s.hand), valA (numV s.held)]) (rows := (rowS s).map valV) (by omega) rfl rfl (by simp [rowS, valV]) (by omega) fun v wa ha => ?_
  exact hK v wa (hk07.trans' ha.kp) ha.rd
theorem refRowStock_spec {w : World} {v : Value} {r : List V3} (hr : Rd w v 3 (r.map valV)) (hl : r.length < 2 ^ 40) {K : Value → World → Prop} (hK : ∀ w', Kp [] w w' → K (.tuple #[sA (takeS r).1, .int .i64 (takeS r).2]) w') : callG Try.prog 28 #[v] w K := by
  refine ref06_RowStock_call ?_
  simp only [ref06_RowStock, ref06_RowStock_s0, newG_k, zcStock, str_nil]
  obtain ⟨n, hn⟩ : ∃ n, n = w.heap.size := ⟨_, rfl⟩
  obtain ⟨w1, hw1⟩ := ex_w (w' := w.alloc (.cells #[.string (str []), .string (str []), .int .i64 0, .int .i64 0] 44))
  have hk1 : Kp [] w w1 := by rw [hw1]; exact kp_alloc
  have ha1 : w1.heap[n]? = some (.cells #[.string (str []), .string (str []), .int .i64 0, .int .i64 0] 44) := by rw [hw1, hn]; exact heap_new
  rw [← hw1, ← hn]
  have hw : (⟨#[116, 116, 110, 110]⟩ : ByteArray) = str [116, 116, 110, 110] := rfl
  have hkc : [116, 116, 110, 110].map kc = stockKinds := by decide
  rw [hw]
  refine kinds_spec (hr.keep hk1) hl fun w3 hk3 => ?_
  rw [hkc]
  have hk03 := hk1.trans' hk3
  have ha3 := hk3.get ha1 (by simp)
  have la3 := live_of ha3
  have hks : ∀ ob, Kp [] w (setBlk w3 n ob) := fun ob => hk03.setBlk (.inr (by omega)) _
  cases hk : isK r stockKinds with
  | false =>
    simp [-getElem?_pos, -Array.all_eq_true, -Array.getElem?_eq_getElem, -List.length_flatten, List.getElem?_cons_zero, List.getElem?_cons_succ, ha3, bld_done, lvStock, la3]
    have := hK _ (hks (.cells #[.string (str []), .string (str []), .int .i64 0, .int .i64 0] 44))
    simpa [sA, takeS, hk, sZ] using this
  | true =>
    obtain ⟨r0, r1, r2, r3, rfl⟩ := list4 (isK_len hk)
    have hr3 := hr.keep hk03
    obtain ⟨b0, o0, c0, T0, f0, h0, i0, q0, n0, s0⟩ := rd_cells hr3 (i := 0) (by simp)
    obtain ⟨b1, o1, c1, T1, f1, h1, i1, q1, n1, s1⟩ := rd_cells hr3 (i := 1) (by simp)
    obtain ⟨b2, o2, c2, T2, f2, h2, i2, q2, n2, s2⟩ := rd_cells hr3 (i := 2) (by simp)
    obtain ⟨b3, o3, c3, T3, f3, h3, i3, q3, n3, s3⟩ := rd_cells hr3 (i := 3) (by simp)
    have i0' : ∀ K : Value → Prop, ia 3 v (.int .i64 0) K = K (.pointer (some ⟨b0, o0, none⟩)) := fun K => i0 .i64 K
    have i1' : ∀ K : Value → Prop, ia 3 v (.int .i64 1) K = K (.pointer (some ⟨b1, o1, none⟩)) := fun K => i1 .i64 K
    have i2' : ∀ K : Value → Prop, ia 3 v (.int .i64 2) K = K (.pointer (some ⟨b2, o2, none⟩)) := fun K => i2 .i64 K
    have i3' : ∀ K : Value → Prop, ia 3 v (.int .i64 3) K = K (.pointer (some ⟨b3, o3, none⟩)) := fun K => i3 .i64 K
    clear i0 i1 i2 i3
    simp only [List.getElem_cons_zero, List.getElem_cons_succ] at s0 s1 n2 n3
    clear q0 q1 q2 q3 n0 n1 s2 s3
    simp [-getElem?_pos, -Array.all_eq_true, -Array.getElem?_eq_getElem, -List.length_flatten, List.getElem?_cons_zero, List.getElem?_cons_succ, i0', i1', i2', i3', h0, h1, h2, h3, s0, s1, n2, n3, bld_done, bld_if, offAt, putAt, ha3, lvStock, lvStockd, la3]
    have := hK _ (hks (.cells #[.string (str r0.s), .string (str r1.s), .int .i64 r2.n, .int .i64 r3.n] 44)).drew
    simpa [sA, takeS, hk, mkS] using this
end Go.Proofs

/- Layer 6: holds and movements of rows: what each function does. -/
set_option linter.unusedVariables false
set_option linter.unusedSimpArgs false
namespace Go.Proofs
open Go Go.Q
section
variable {w0 : World} {a : Nat} {K : Value → World → Prop}
theorem RowHold_good {w : World} {v : Value} {r : List V3} {k : Nat} {R : Value → World → Prop} (hr : Rd w v 3 (r.map valV)) (hk : isK r holdKinds = true)
    (ha : w.heap[a]? = some (.cells #[.int .i64 0, .string (str []), .string (str []), .int .i64 0, .int .i64 0, .int .i64 0] 34)) (ha0 : w0.heap.size ≤ a) (hkp : Kp [] w0 w)
    (hR : ∀ w', Kp [] w0 w' → R (.tuple #[hA (mkH r k), .int .i64 0]) w') :
    (ia 3 v (.int .i64 0) fun t23 =>
  fa 1 t23 fun t24 =>
  ld1 t24 (World.drew w) fun t25 =>
  ia 3 v (.int .i64 1) fun t27 =>
  fa 2 t27 fun t28 =>
  ld1 t28 (World.drew w) fun t29 =>
  ia 3 v (.int .i64 2) fun t31 =>
  fa 2 t31 fun t32 =>
  ld1 t32 (World.drew w) fun t33 =>
  ia 3 v (.int .i64 3) fun t35 =>
  fa 1 t35 fun t36 =>
  ld1 t36 (World.drew w) fun t37 =>
  ia 3 v (.int .i64 5) fun t40 =>
  fa 1 t40 fun t41 =>
  ld1 t41 (World.drew w) fun t42 =>
  bld [(0, 1), (1, 1), (2, 1), (3, 1), (4, 1), (5, 1)] (zc Try.prog 34) #[(0, t25), (1, t29), (2, t33), (3, t37), (4, .int .i64 k), (5, t42)] fun t43 =>
  stn 6 (.pointer (some ⟨a, 0, none⟩)) t43 (World.drew w) fun w =>
  qG Try.prog (do loadVar 34 (← asAddr (.pointer (some ⟨a, 0, none⟩)))) w fun r2_2 =>
  R (.tuple #[r2_2, (.int .i64 0)]) w) := by
  obtain ⟨r0, r1, r2, r3, r4, r5, rfl⟩ := list6 (isK_len hk)
  obtain ⟨b0, o0, c0, T0, f0, h0, i0, q0, n0, s0⟩ := rd_cells hr (i := 0) (by simp)
  obtain ⟨b1, o1, c1, T1, f1, h1, i1, q1, n1, s1⟩ := rd_cells hr (i := 1) (by simp)
  obtain ⟨b2, o2, c2, T2, f2, h2, i2, q2, n2, s2⟩ := rd_cells hr (i := 2) (by simp)
  obtain ⟨b3, o3, c3, T3, f3, h3, i3, q3, n3, s3⟩ := rd_cells hr (i := 3) (by simp)
  obtain ⟨b5, o5, c5, T5, f5, h5, i5, q5, n5, s5⟩ := rd_cells hr (i := 5) (by simp)
  have i0' : ∀ K : Value → Prop, ia 3 v (.int .i64 0) K = K (.pointer (some ⟨b0, o0, none⟩)) := fun K => i0 .i64 K
  have i1' : ∀ K : Value → Prop, ia 3 v (.int .i64 1) K = K (.pointer (some ⟨b1, o1, none⟩)) := fun K => i1 .i64 K
  have i2' : ∀ K : Value → Prop, ia 3 v (.int .i64 2) K = K (.pointer (some ⟨b2, o2, none⟩)) := fun K => i2 .i64 K
  have i3' : ∀ K : Value → Prop, ia 3 v (.int .i64 3) K = K (.pointer (some ⟨b3, o3, none⟩)) := fun K => i3 .i64 K
  have i5' : ∀ K : Value → Prop, ia 3 v (.int .i64 5) K = K (.pointer (some ⟨b5, o5, none⟩)) := fun K => i5 .i64 K
  clear i0 i1 i2 i3 i5
  simp only [List.getElem_cons_zero, List.getElem_cons_succ] at n0 s1 s2 n3 n5
  clear q0 q1 q2 q3 q5 s0 n1 n2 s3 s5
  have la := live_of ha
  simp [-getElem?_pos, -Array.all_eq_true, -Array.getElem?_eq_getElem, -List.length_flatten, List.getElem?_cons_zero, List.getElem?_cons_succ, i0', i1', i2', i3', i5', h0, h1, h2, h3, h5, n0, s1, s2, n3, n5, zcHold, str_nil, bld_done, bld_if, offAt, putAt, ha, lvHold, lvHoldd, la]
  have := hR _ ((hkp.setBlk (.inr ha0) (.cells #[.int .i64 r0.n, .string (str r1.s), .string (str r2.s), .int .i64 r3.n, .int .i64 k, .int .i64 r5.n] 34)).drew)
  simpa [hA, mkH] using this
end
theorem RowHold_spec {w : World} {v : Value} {r : List V3} (hr : Rd w v 3 (r.map valV)) (hl : r.length < 2 ^ 40) {K : Value → World → Prop} (hK : ∀ w', Kp [] w w' → K (.tuple #[hA (takeH stateT 2 r).1, .int .i64 (takeH stateT 2 r).2]) w') : callG Try.prog 22 #[v] w K := by
  refine entry_RowHold_call ?_
  simp only [entry_RowHold, entry_RowHold_s0, newG_k]
  obtain ⟨n, hn⟩ : ∃ n, n = w.heap.size := ⟨_, rfl⟩
  obtain ⟨w1, hw1⟩ := ex_w (w' := w.alloc (.cells (zc Try.prog 34) 34))
  have hk1 : Kp [] w w1 := by rw [hw1]; exact kp_alloc
  have ha1 : w1.heap[n]? = some (.cells #[.int .i64 0, .string (str []), .string (str []), .int .i64 0, .int .i64 0, .int .i64 0] 34) := by rw [hw1, hn, zcHold]; exact heap_new
  rw [← hw1, ← hn]
  refine bsl_rows (n := 1) (len := 6) (xs := [.int .i64 1, .int .i64 2, .int .i64 2, .int .i64 1, .int .i64 2, .int .i64 0]) (rows := holdKinds.map intV) (by omega) rfl rfl (by simp [holdKinds, intV]) (by omega) fun v3 wk h3 => ?_
  refine is_spec ((hr.keep hk1).keep h3.kp) h3.rd hl fun w3 hk3' => ?_
  have hk3 := h3.kp.trans' hk3'
  have hk03 := hk1.trans' hk3
  have ha3 := hk3.get ha1 (by simp)
  have la3 := live_of ha3
  have bad : takeH stateT 2 r = (hZ, 50) → ∀ W, Kp [] w W → K (.tuple #[hA hZ, .int .i64 50]) W := by
    intro h W hW
    have := hK W hW
    rw [h] at this
    exact this
  cases hk : isK r holdKinds with
  | false =>
    simp [-getElem?_pos, -Array.all_eq_true, -Array.getElem?_eq_getElem, -List.length_flatten, List.getElem?_cons_zero, List.getElem?_cons_succ, ha3, zcHold, str_nil, bld_done, lvHold, la3]
    have := bad (by unfold takeH; rw [hk]; rfl) _ (hk03.setBlk (.inr (show w.heap.size ≤ n by omega)) (.cells #[.int .i64 0, .string (str []), .string (str []), .int .i64 0, .int .i64 0, .int .i64 0] 34))
    simpa [hA, hZ] using this
  | true =>
    have hr3 := hr.keep hk03
    have hlen := isK_len hk
    obtain ⟨b4, o4, c4, T4, f4, h4, i4, q4, n4, s4⟩ := rd_cells hr3 (i := 4) (by rw [hlen]; decide)
    have i4' : ∀ K : Value → Prop, ia 3 v (.int .i64 4) K = K (.pointer (some ⟨b4, o4, none⟩)) := fun K => i4 .i64 K
    have e4 : r[4]'(by rw [hlen]; decide) = r.getD 4 v0 := by simp [List.getD, hlen, holdKinds]
    rw [e4] at s4
    simp only [un_not, bV_b]
    refine ⟨fun h => by simp at h, fun _ => ?_⟩
    rw [i4']
    simp only [fa_p, ld1_p, rd1_mk, h4, Nat.zero_add, s4]
    refine of_spec (txt := stateT) (most := 2) _ (by kernel_rfl) (by omega) (fun n w K h => txt_state_spec n h) fun w4 hk4 => ?_
    have ha4 := hk4.get ha3 (by simp)
    have la4 := live_of ha4
    have hk04 := hk03.trans' hk4
    cases ho : ofT stateT 2 (r.getD 4 v0).s with
    | none =>
      simp only [ex0, ex1, un_not, bV_b]
      refine ⟨fun _ => ?_, fun h => by simp at h⟩
      simp [-getElem?_pos, -Array.all_eq_true, -Array.getElem?_eq_getElem, -List.length_flatten, List.getElem?_cons_zero, List.getElem?_cons_succ, ha4, zcHold, str_nil, bld_done, lvHold, la4]
      have := bad (by unfold takeH; rw [hk, if_pos rfl, ho]) _ (hk04.setBlk (.inr (show w.heap.size ≤ n by omega)) (.cells #[.int .i64 0, .string (str []), .string (str []), .int .i64 0, .int .i64 0, .int .i64 0] 34))
      simpa [hA, hZ] using this
    | some k =>
      simp only [ex0, ex1, un_not, bV_b]
      refine ⟨fun h => by simp at h, fun _ => ?_⟩
      refine RowHold_good (w0 := w) (hr.keep hk04) hk ha4 (by omega) hk04 fun w5 hk5 => ?_
      have := hK w5 hk5
      have ht : takeH stateT 2 r = (mkH r k, 0) := by unfold takeH; rw [hk, if_pos rfl, ho]
      rw [ht] at this
      exact this
theorem refRowHold_spec {w : World} {v : Value} {r : List V3} (hr : Rd w v 3 (r.map valV)) (hl : r.length < 2 ^ 40) {K : Value → World → Prop} (hK : ∀ w', Kp [] w w' → K (.tuple #[hA (takeH stateT 2 r).1, .int .i64 (takeH stateT 2 r).2]) w') : callG Try.prog 23 #[v] w K := by
  refine ref06_RowHold_call ?_
  simp only [ref06_RowHold, ref06_RowHold_s4, newG_k]
  obtain ⟨n, hn⟩ : ∃ n, n = w.heap.size := ⟨_, rfl⟩
  obtain ⟨w1, hw1⟩ := ex_w (w' := w.alloc (.cells (zc Try.prog 34) 34))
  have hk1 : Kp [] w w1 := by rw [hw1]; exact kp_alloc
  have ha1 : w1.heap[n]? = some (.cells #[.int .i64 0, .string (str []), .string (str []), .int .i64 0, .int .i64 0, .int .i64 0] 34) := by rw [hw1, hn, zcHold]; exact heap_new
  rw [← hw1, ← hn]
  have hw : (⟨#[110, 116, 116, 110, 116, 109]⟩ : ByteArray) = str [110, 116, 116, 110, 116, 109] := rfl
  have hkc : [110, 116, 116, 110, 116, 109].map kc = holdKinds := by decide
  rw [hw]
  refine kinds_spec (hr.keep hk1) hl fun w3 hk3 => ?_
  rw [hkc]
  have hk03 := hk1.trans' hk3
  have ha3 := hk3.get ha1 (by simp)
  have la3 := live_of ha3
  have bad : takeH stateT 2 r = (hZ, 50) → ∀ W, Kp [] w W → K (.tuple #[hA hZ, .int .i64 50]) W := by
    intro h W hW
    have := hK W hW
    rw [h] at this
    exact this
  have badW : takeH stateT 2 r = (hZ, 50) → ∀ W : World, Kp [] w W → W.heap[n]? = some (.cells #[.int .i64 0, .string (str []), .string (str []), .int .i64 0, .int .i64 0, .int .i64 0] 34) → ref06_RowHold_s0 K (.pointer (some ⟨n, 0, none⟩)) W := by
    intro h W hW haW
    have laW := live_of haW
    unfold ref06_RowHold_s0
    simp [-getElem?_pos, -Array.all_eq_true, -Array.getElem?_eq_getElem, -List.length_flatten, List.getElem?_cons_zero, List.getElem?_cons_succ, haW, zcHold, str_nil, bld_done, lvHold, laW]
    have := bad h _ (hW.setBlk (.inr (show w.heap.size ≤ n by omega)) (.cells #[.int .i64 0, .string (str []), .string (str []), .int .i64 0, .int .i64 0, .int .i64 0] 34))
    simpa [hA, hZ] using this
  cases hk : isK r holdKinds with
  | false =>
    have hbad := badW (by unfold takeH; rw [hk]; rfl) w3 hk03 ha3
    simp only [un_not, bV_b]
    exact ⟨fun _ => hbad, fun h => by simp at h⟩
  | true =>
    simp only [un_not, bV_b]
    refine ⟨fun h => by simp at h, fun _ => ?_⟩
    have hlen := isK_len hk
    have e4 : r[4]'(by rw [hlen]; decide) = r.getD 4 v0 := by simp [List.getD, hlen, holdKinds]
    unfold ref06_RowHold_s3 ref06_RowHold_L2
    refine loop_inv (fun m xs wi => ∃ i, i ≤ 2 + 1 ∧ m = 2 + 1 - i ∧ xs = [v, .pointer (some ⟨n, 0, none⟩), .int .i64 (i : Nat)] ∧ Kp [] w wi ∧ wi.heap[n]? = some (.cells #[.int .i64 0, .string (str []), .string (str []), .int .i64 0, .int .i64 0, .int .i64 0] 34) ∧
        ofT stateT 2 (r.getD 4 v0).s = findT stateT (r.getD 4 v0).s i (2 + 1 - i)) ?_ (m := 2 + 1 - 0) ⟨0, by omega, rfl, rfl, hk03, ha3, (state_find _).symm⟩
    rintro m N xs wi ⟨i, hi, rfl, rfl, hki, hai, he⟩ hN
    simp only [ref06_RowHold_L2F, ref06_RowHold_b1, bq_leq, bV_b]
    refine ⟨fun hle => ?_, fun hgt => badW ?_ wi hki hai⟩
    · have hle : i ≤ 2 := by simp at hle; omega
      have hiw : IntKind.i64.wrap ((i : Int) + 1) = ((i + 1 : Nat) : Int) := by rw [w64 (by omega) (by omega)]; simp
      rw [show 2 + 1 - i = (2 + 1 - (i + 1)) + 1 by omega] at he
      unfold findT at he
      obtain ⟨b4, o4, c4, T4, f4, h4, i4, q4, n4, s4⟩ := rd_cells (hr.keep hki) (i := 4) (by rw [hlen]; decide)
      have i4' : ∀ K : Value → Prop, ia 3 v (.int .i64 4) K = K (.pointer (some ⟨b4, o4, none⟩)) := fun K => i4 .i64 K
      rw [e4] at s4
      rw [i4']
      simp only [fa_p, ld1_p, rd1_mk, heap_drew, h4, Nat.zero_add, s4]
      refine reftxt_state_spec _ ?_
      simp only [heap_drew, h4, s4, true_and, bq_seql, str_eq, bV_b]
      have had : wi.drew.heap[n]? = _ := hai
      refine ⟨fun ht => ?_, fun ht => ?_⟩
      · rw [if_pos (by simpa using ht)] at he
        refine RowHold_good (w0 := w) (hr.keep (hki.trans' kp_drew)) hk had (by omega) (hki.trans' kp_drew) fun w5 hk5 => ?_
        have := hK w5 hk5
        have ht : takeH stateT 2 r = (mkH r i, 0) := by unfold takeH; rw [hk, if_pos rfl, he]
        rw [ht] at this
        exact this
      · rw [if_neg (by simpa using ht)] at he
        simp only [bq_add, hiw]
        exact hN (2 + 1 - (i + 1)) _ _ (by omega) ⟨i + 1, by omega, rfl, rfl, hki.trans' kp_drew, had, he⟩
    · have hi0 : 2 + 1 - i = 0 := by simp at hgt; omega
      unfold takeH
      rw [hk, if_pos rfl, he, hi0]; rfl
section
variable {w0 : World} {a : Nat} {K : Value → World → Prop}
theorem RowMove_good {w : World} {v : Value} {r : List V3} {k : Nat} {R : Value → World → Prop} (hr : Rd w v 3 (r.map valV)) (hk : isK r holdKinds = true)
    (ha : w.heap[a]? = some (.cells #[.int .i64 0, .string (str []), .string (str []), .int .i64 0, .int .i64 0, .int .i64 0] 50)) (ha0 : w0.heap.size ≤ a) (hkp : Kp [] w0 w)
    (hR : ∀ w', Kp [] w0 w' → R (.tuple #[hA (mkH r k), .int .i64 0]) w') :
    (ia 3 v (.int .i64 0) fun t23 =>
  fa 1 t23 fun t24 =>
  ld1 t24 (World.drew w) fun t25 =>
  ia 3 v (.int .i64 1) fun t27 =>
  fa 2 t27 fun t28 =>
  ld1 t28 (World.drew w) fun t29 =>
  ia 3 v (.int .i64 2) fun t31 =>
  fa 2 t31 fun t32 =>
  ld1 t32 (World.drew w) fun t33 =>
  ia 3 v (.int .i64 3) fun t35 =>
  fa 1 t35 fun t36 =>
  ld1 t36 (World.drew w) fun t37 =>
  ia 3 v (.int .i64 5) fun t40 =>
  fa 1 t40 fun t41 =>
  ld1 t41 (World.drew w) fun t42 =>
  bld [(0, 1), (1, 1), (2, 1), (3, 1), (4, 1), (5, 1)] (zc Try.prog 50) #[(0, t25), (1, t29), (2, t33), (3, t37), (4, .int .i64 k), (5, t42)] fun t43 =>
  stn 6 (.pointer (some ⟨a, 0, none⟩)) t43 (World.drew w) fun w =>
  qG Try.prog (do loadVar 50 (← asAddr (.pointer (some ⟨a, 0, none⟩)))) w fun r2_2 =>
  R (.tuple #[r2_2, (.int .i64 0)]) w) := by
  obtain ⟨r0, r1, r2, r3, r4, r5, rfl⟩ := list6 (isK_len hk)
  obtain ⟨b0, o0, c0, T0, f0, h0, i0, q0, n0, s0⟩ := rd_cells hr (i := 0) (by simp)
  obtain ⟨b1, o1, c1, T1, f1, h1, i1, q1, n1, s1⟩ := rd_cells hr (i := 1) (by simp)
  obtain ⟨b2, o2, c2, T2, f2, h2, i2, q2, n2, s2⟩ := rd_cells hr (i := 2) (by simp)
  obtain ⟨b3, o3, c3, T3, f3, h3, i3, q3, n3, s3⟩ := rd_cells hr (i := 3) (by simp)
  obtain ⟨b5, o5, c5, T5, f5, h5, i5, q5, n5, s5⟩ := rd_cells hr (i := 5) (by simp)
  have i0' : ∀ K : Value → Prop, ia 3 v (.int .i64 0) K = K (.pointer (some ⟨b0, o0, none⟩)) := fun K => i0 .i64 K
  have i1' : ∀ K : Value → Prop, ia 3 v (.int .i64 1) K = K (.pointer (some ⟨b1, o1, none⟩)) := fun K => i1 .i64 K
  have i2' : ∀ K : Value → Prop, ia 3 v (.int .i64 2) K = K (.pointer (some ⟨b2, o2, none⟩)) := fun K => i2 .i64 K
  have i3' : ∀ K : Value → Prop, ia 3 v (.int .i64 3) K = K (.pointer (some ⟨b3, o3, none⟩)) := fun K => i3 .i64 K
  have i5' : ∀ K : Value → Prop, ia 3 v (.int .i64 5) K = K (.pointer (some ⟨b5, o5, none⟩)) := fun K => i5 .i64 K
  clear i0 i1 i2 i3 i5
  simp only [List.getElem_cons_zero, List.getElem_cons_succ] at n0 s1 s2 n3 n5
  clear q0 q1 q2 q3 q5 s0 n1 n2 s3 s5
  have la := live_of ha
  simp [-getElem?_pos, -Array.all_eq_true, -Array.getElem?_eq_getElem, -List.length_flatten, List.getElem?_cons_zero, List.getElem?_cons_succ, i0', i1', i2', i3', i5', h0, h1, h2, h3, h5, n0, s1, s2, n3, n5, zcMove, str_nil, bld_done, bld_if, offAt, putAt, ha, lvMove, lvMoved, la]
  have := hR _ ((hkp.setBlk (.inr ha0) (.cells #[.int .i64 r0.n, .string (str r1.s), .string (str r2.s), .int .i64 r3.n, .int .i64 k, .int .i64 r5.n] 50)).drew)
  simpa [hA, mkH] using this
end
theorem RowMove_spec {w : World} {v : Value} {r : List V3} (hr : Rd w v 3 (r.map valV)) (hl : r.length < 2 ^ 40) {K : Value → World → Prop} (hK : ∀ w', Kp [] w w' → K (.tuple #[hA (takeH kindT 7 r).1, .int .i64 (takeH kindT 7 r).2]) w') : callG Try.prog 31 #[v] w K := by
  refine entry_RowMove_call ?_
  simp only [entry_RowMove, entry_RowMove_s0, newG_k]
  obtain ⟨n, hn⟩ : ∃ n, n = w.heap.size := ⟨_, rfl⟩
  obtain ⟨w1, hw1⟩ := ex_w (w' := w.alloc (.cells (zc Try.prog 50) 50))
  have hk1 : Kp [] w w1 := by rw [hw1]; exact kp_alloc
  have ha1 : w1.heap[n]? = some (.cells #[.int .i64 0, .string (str []), .string (str []), .int .i64 0, .int .i64 0, .int .i64 0] 50) := by rw [hw1, hn, zcMove]; exact heap_new
  rw [← hw1, ← hn]
  refine bsl_rows (n := 1) (len := 6) (xs := [.int .i64 1, .int .i64 2, .int .i64 2, .int .i64 1, .int .i64 2, .int .i64 0]) (rows := holdKinds.map intV) (by omega) rfl rfl (by simp [holdKinds, intV]) (by omega) fun v3 wk h3 => ?_
  refine is_spec ((hr.keep hk1).keep h3.kp) h3.rd hl fun w3 hk3' => ?_
  have hk3 := h3.kp.trans' hk3'
  have hk03 := hk1.trans' hk3
  have ha3 := hk3.get ha1 (by simp)
  have la3 := live_of ha3
  have bad : takeH kindT 7 r = (hZ, 50) → ∀ W, Kp [] w W → K (.tuple #[hA hZ, .int .i64 50]) W := by
    intro h W hW
    have := hK W hW
    rw [h] at this
    exact this
  cases hk : isK r holdKinds with
  | false =>
    simp [-getElem?_pos, -Array.all_eq_true, -Array.getElem?_eq_getElem, -List.length_flatten, List.getElem?_cons_zero, List.getElem?_cons_succ, ha3, zcMove, str_nil, bld_done, lvMove, la3]
    have := bad (by unfold takeH; rw [hk]; rfl) _ (hk03.setBlk (.inr (show w.heap.size ≤ n by omega)) (.cells #[.int .i64 0, .string (str []), .string (str []), .int .i64 0, .int .i64 0, .int .i64 0] 50))
    simpa [hA, hZ] using this
  | true =>
    have hr3 := hr.keep hk03
    have hlen := isK_len hk
    obtain ⟨b4, o4, c4, T4, f4, h4, i4, q4, n4, s4⟩ := rd_cells hr3 (i := 4) (by rw [hlen]; decide)
    have i4' : ∀ K : Value → Prop, ia 3 v (.int .i64 4) K = K (.pointer (some ⟨b4, o4, none⟩)) := fun K => i4 .i64 K
    have e4 : r[4]'(by rw [hlen]; decide) = r.getD 4 v0 := by simp [List.getD, hlen, holdKinds]
    rw [e4] at s4
    simp only [un_not, bV_b]
    refine ⟨fun h => by simp at h, fun _ => ?_⟩
    rw [i4']
    simp only [fa_p, ld1_p, rd1_mk, h4, Nat.zero_add, s4]
    refine of_spec (txt := kindT) (most := 7) _ (by kernel_rfl) (by omega) (fun n w K h => txt_kind_spec n h) fun w4 hk4 => ?_
    have ha4 := hk4.get ha3 (by simp)
    have la4 := live_of ha4
    have hk04 := hk03.trans' hk4
    cases ho : ofT kindT 7 (r.getD 4 v0).s with
    | none =>
      simp only [ex0, ex1, un_not, bV_b]
      refine ⟨fun _ => ?_, fun h => by simp at h⟩
      simp [-getElem?_pos, -Array.all_eq_true, -Array.getElem?_eq_getElem, -List.length_flatten, List.getElem?_cons_zero, List.getElem?_cons_succ, ha4, zcMove, str_nil, bld_done, lvMove, la4]
      have := bad (by unfold takeH; rw [hk, if_pos rfl, ho]) _ (hk04.setBlk (.inr (show w.heap.size ≤ n by omega)) (.cells #[.int .i64 0, .string (str []), .string (str []), .int .i64 0, .int .i64 0, .int .i64 0] 50))
      simpa [hA, hZ] using this
    | some k =>
      simp only [ex0, ex1, un_not, bV_b]
      refine ⟨fun h => by simp at h, fun _ => ?_⟩
      refine RowMove_good (w0 := w) (hr.keep hk04) hk ha4 (by omega) hk04 fun w5 hk5 => ?_
      have := hK w5 hk5
      have ht : takeH kindT 7 r = (mkH r k, 0) := by unfold takeH; rw [hk, if_pos rfl, ho]
      rw [ht] at this
      exact this
theorem refRowMove_spec {w : World} {v : Value} {r : List V3} (hr : Rd w v 3 (r.map valV)) (hl : r.length < 2 ^ 40) {K : Value → World → Prop} (hK : ∀ w', Kp [] w w' → K (.tuple #[hA (takeH kindT 7 r).1, .int .i64 (takeH kindT 7 r).2]) w') : callG Try.prog 32 #[v] w K := by
  refine ref06_RowMove_call ?_
  simp only [ref06_RowMove, ref06_RowMove_s4, newG_k]
  obtain ⟨n, hn⟩ : ∃ n, n = w.heap.size := ⟨_, rfl⟩
  obtain ⟨w1, hw1⟩ := ex_w (w' := w.alloc (.cells (zc Try.prog 50) 50))
  have hk1 : Kp [] w w1 := by rw [hw1]; exact kp_alloc
  have ha1 : w1.heap[n]? = some (.cells #[.int .i64 0, .string (str []), .string (str []), .int .i64 0, .int .i64 0, .int .i64 0] 50) := by rw [hw1, hn, zcMove]; exact heap_new
  rw [← hw1, ← hn]
  have hw : (⟨#[110, 116, 116, 110, 116, 109]⟩ : ByteArray) = str [110, 116, 116, 110, 116, 109] := rfl
  have hkc : [110, 116, 116, 110, 116, 109].map kc = holdKinds := by decide
  rw [hw]
  refine kinds_spec (hr.keep hk1) hl fun w3 hk3 => ?_
  rw [hkc]
  have hk03 := hk1.trans' hk3
  have ha3 := hk3.get ha1 (by simp)
  have la3 := live_of ha3
  have bad : takeH kindT 7 r = (hZ, 50) → ∀ W, Kp [] w W → K (.tuple #[hA hZ, .int .i64 50]) W := by
    intro h W hW
    have := hK W hW
    rw [h] at this
    exact this
  have badW : takeH kindT 7 r = (hZ, 50) → ∀ W : World, Kp [] w W → W.heap[n]? = some (.cells #[.int .i64 0, .string (str []), .string (str []), .int .i64 0, .int .i64 0, .int .i64 0] 50) → ref06_RowMove_s0 K (.pointer (some ⟨n, 0, none⟩)) W := by
    intro h W hW haW
    have laW := live_of haW
    unfold ref06_RowMove_s0
    simp [-getElem?_pos, -Array.all_eq_true, -Array.getElem?_eq_getElem, -List.length_flatten, List.getElem?_cons_zero, List.getElem?_cons_succ, haW, zcMove, str_nil, bld_done, lvMove, laW]
    have := bad h _ (hW.setBlk (.inr (show w.heap.size ≤ n by omega)) (.cells #[.int .i64 0, .string (str []), .string (str []), .int .i64 0, .int .i64 0, .int .i64 0] 50))
    simpa [hA, hZ] using this
  cases hk : isK r holdKinds with
  | false =>
    have hbad := badW (by unfold takeH; rw [hk]; rfl) w3 hk03 ha3
    simp only [un_not, bV_b]
    exact ⟨fun _ => hbad, fun h => by simp at h⟩
  | true =>
    simp only [un_not, bV_b]
    refine ⟨fun h => by simp at h, fun _ => ?_⟩
    have hlen := isK_len hk
    have e4 : r[4]'(by rw [hlen]; decide) = r.getD 4 v0 := by simp [List.getD, hlen, holdKinds]
    obtain ⟨b4, o4, c4, T4, f4, h4, i4, q4, n4, s4⟩ := rd_cells (hr.keep hk03) (i := 4) (by rw [hlen]; decide)
    have i4' : ∀ K : Value → Prop, ia 3 v (.int .i64 4) K = K (.pointer (some ⟨b4, o4, none⟩)) := fun K => i4 .i64 K
    rw [e4] at s4
    rw [i4']
    simp only [fa_p, ld1_p, rd1_mk, h4, Nat.zero_add, s4, str_nil, bq_seql, str_eq, bV_b]
    refine ⟨fun h0 => badW ?_ w3 hk03 ha3, fun h0 => ?_⟩
    · have h0 : (r.getD 4 v0).s = [] := by simpa using h0
      unfold takeH
      rw [hk, if_pos rfl, h0]; rfl
    have h0 : (r.getD 4 v0).s ≠ [] := by simpa using h0
    unfold ref06_RowMove_s3 ref06_RowMove_L2
    refine loop_inv (fun m xs wi => ∃ i, i ≤ 7 + 1 ∧ m = 7 + 1 - i ∧ xs = [v, .pointer (some ⟨n, 0, none⟩), .int .i64 (i : Nat)] ∧ Kp [] w wi ∧ wi.heap[n]? = some (.cells #[.int .i64 0, .string (str []), .string (str []), .int .i64 0, .int .i64 0, .int .i64 0] 50) ∧
        ofT kindT 7 (r.getD 4 v0).s = findT kindT (r.getD 4 v0).s i (7 + 1 - i)) ?_ (m := 7 + 1 - 1) ⟨1, by omega, rfl, rfl, hk03, ha3, (kind_find h0).symm⟩
    rintro m N xs wi ⟨i, hi, rfl, rfl, hki, hai, he⟩ hN
    simp only [ref06_RowMove_L2F, ref06_RowMove_b1, bq_leq, bV_b]
    refine ⟨fun hle => ?_, fun hgt => badW ?_ wi hki hai⟩
    · have hle : i ≤ 7 := by simp at hle; omega
      have hiw : IntKind.i64.wrap ((i : Int) + 1) = ((i + 1 : Nat) : Int) := by rw [w64 (by omega) (by omega)]; simp
      rw [show 7 + 1 - i = (7 + 1 - (i + 1)) + 1 by omega] at he
      unfold findT at he
      obtain ⟨b4, o4, c4, T4, f4, h4, i4, q4, n4, s4⟩ := rd_cells (hr.keep hki) (i := 4) (by rw [hlen]; decide)
      have i4' : ∀ K : Value → Prop, ia 3 v (.int .i64 4) K = K (.pointer (some ⟨b4, o4, none⟩)) := fun K => i4 .i64 K
      rw [e4] at s4
      rw [i4']
      simp only [fa_p, ld1_p, rd1_mk, heap_drew, h4, Nat.zero_add, s4]
      refine reftxt_kind_spec _ ?_
      simp only [heap_drew, h4, s4, true_and, bq_seql, str_eq, bV_b]
      have had : wi.drew.heap[n]? = _ := hai
      refine ⟨fun ht => ?_, fun ht => ?_⟩
      · rw [if_pos (by simpa using ht)] at he
        refine RowMove_good (w0 := w) (hr.keep (hki.trans' kp_drew)) hk had (by omega) (hki.trans' kp_drew) fun w5 hk5 => ?_
        have := hK w5 hk5
        have ht : takeH kindT 7 r = (mkH r i, 0) := by unfold takeH; rw [hk, if_pos rfl, he]
        rw [ht] at this
        exact this
      · rw [if_neg (by simpa using ht)] at he
        simp only [bq_add, hiw]
        exact hN (7 + 1 - (i + 1)) _ _ (by omega) ⟨i + 1, by omega, rfl, rfl, hki.trans' kp_drew, had, he⟩
    · have hi0 : 7 + 1 - i = 0 := by simp at hgt; omega
      unfold takeH
      rw [hk, if_pos rfl, he, hi0]; rfl
end Go.Proofs

/- What the statement's own reading says of the arguments that came in. -/
set_option linter.unusedVariables false
set_option linter.unusedSimpArgs false
namespace Go.Proofs
open Go Go.Q
/-- an argument that the statement's own reading took -/
def Taken (w : World) (t : TypeId) (v : Value) : Prop :=
  ∃ (H : Type) (enc : TypeId × Value → H) (fuel : Nat) (x : DataW H × List MemPlace), DataW.trod enc Try.prog w 0 (fun _ => true) true fuel t v.cells.toList = some x
section
variable {H : Type} {enc : TypeId × Value → H} {w : World} {fuel n : Nat} {cs : List Value} {x : DataW H × List MemPlace}
theorem str_all (s : ByteArray) : s = str s.data.toList := by cases s; simp [str]
theorem one_cell {i : Nat} (hi : i < cs.length) : (cs.drop i).take 1 = [cs[i]] := by rw [List.drop_eq_getElem_cons hi]; rfl
theorem fld_int {i : Nat} {q : Option (DataW H × List MemPlace)} (h : DataW.trod enc Try.prog w 0 (fun _ => true) true n 3 ((cs.drop i).take (Try.prog.cellsOf 3)) = q) (hq : q.isSome = true) (hi : i < cs.length) : ∃ z : Int, cs[i] = .int .i64 z ∧ -9223372036854775808 ≤ z ∧ z < 9223372036854775808 := by
  obtain ⟨y, rfl⟩ := Option.isSome_iff_exists.1 hq
  rw [show Try.prog.cellsOf 3 = 1 by kernel_rfl, one_cell hi] at h
  obtain ⟨z, e, _, hw⟩ := DataW.trod_int Try.underlying3 h
  injection e with e _
  exact ⟨z, e, wf64 hw⟩
theorem fld_str {i : Nat} {q : Option (DataW H × List MemPlace)} (h : DataW.trod enc Try.prog w 0 (fun _ => true) true n 9 ((cs.drop i).take (Try.prog.cellsOf 9)) = q) (hq : q.isSome = true) (hi : i < cs.length) : ∃ s : List UInt8, cs[i] = .string (str s) ∧ s.length ≤ maxLen := by
  obtain ⟨y, rfl⟩ := Option.isSome_iff_exists.1 hq
  rw [show Try.prog.cellsOf 9 = 1 by kernel_rfl, one_cell hi] at h
  obtain ⟨s, e, _, hw⟩ := DataW.trod_string Try.underlying9 h
  injection e with e _
  exact ⟨s.data.toList, by rw [e]; exact congrArg Value.string (str_all s), hw⟩
theorem list3 {α : Type} {r : List α} (h : r.length = 3) : ∃ a b c, r = [a, b, c] := by
  match r, h with
  | [a, b, c], _ => exact ⟨a, b, c, rfl⟩
theorem op_in (h : DataW.trod enc Try.prog w 0 (fun _ => true) true fuel 23 cs = some x) : ∃ o : OpV, cs = opC o ∧ o.Wf := by
  obtain ⟨xs, n, rfl, _, hl, hx, hf⟩ := DataW.trod_struct Try.underlying23 h
  rw [show Try.prog.cellsOf 23 = 7 by kernel_rfl] at hl
  have hx7 : xs.length = 7 := hx
  have g0 : DataW.trod enc Try.prog w 0 (fun _ => true) true n 3 ((cs.drop 0).take (Try.prog.cellsOf 3)) = xs[0]? := hf 0 _ rfl
  obtain ⟨z0, e0, p0⟩ := fld_int g0 (by simp; omega) (by omega)
  have g1 : DataW.trod enc Try.prog w 0 (fun _ => true) true n 9 ((cs.drop 1).take (Try.prog.cellsOf 9)) = xs[1]? := hf 1 _ rfl
  obtain ⟨z1, e1, p1⟩ := fld_str g1 (by simp; omega) (by omega)
  have g2 : DataW.trod enc Try.prog w 0 (fun _ => true) true n 9 ((cs.drop 2).take (Try.prog.cellsOf 9)) = xs[2]? := hf 2 _ rfl
  obtain ⟨z2, e2, p2⟩ := fld_str g2 (by simp; omega) (by omega)
  have g3 : DataW.trod enc Try.prog w 0 (fun _ => true) true n 9 ((cs.drop 3).take (Try.prog.cellsOf 9)) = xs[3]? := hf 3 _ rfl
  obtain ⟨z3, e3, p3⟩ := fld_str g3 (by simp; omega) (by omega)
  have g4 : DataW.trod enc Try.prog w 0 (fun _ => true) true n 3 ((cs.drop 4).take (Try.prog.cellsOf 3)) = xs[4]? := hf 4 _ rfl
  obtain ⟨z4, e4, p4⟩ := fld_int g4 (by simp; omega) (by omega)
  have g5 : DataW.trod enc Try.prog w 0 (fun _ => true) true n 3 ((cs.drop 5).take (Try.prog.cellsOf 3)) = xs[5]? := hf 5 _ rfl
  obtain ⟨z5, e5, p5⟩ := fld_int g5 (by simp; omega) (by omega)
  have g6 : DataW.trod enc Try.prog w 0 (fun _ => true) true n 3 ((cs.drop 6).take (Try.prog.cellsOf 3)) = xs[6]? := hf 6 _ rfl
  obtain ⟨z6, e6, p6⟩ := fld_int g6 (by simp; omega) (by omega)
  obtain ⟨c0, c1, c2, c3, c4, c5, c6, rfl⟩ := list7 hl
  simp only [List.getElem_cons_zero, List.getElem_cons_succ] at e0 e1 e2 e3 e4 e5 e6
  subst e0 e1 e2 e3 e4 e5 e6
  exact ⟨⟨z0, z1, z2, z3, z4, z5, z6⟩, rfl, ⟨p0.1, p0.2, p4.1, p4.2, p5.1, p5.2, p6.1, p6.2⟩⟩
theorem hold_in (h : DataW.trod enc Try.prog w 0 (fun _ => true) true fuel 34 cs = some x) : ∃ h : HV, cs = [.int .i64 h.id, .string (str h.sku), .string (str h.loc), .int .i64 h.q, .int .i64 h.st, .int .i64 h.due] := by
  obtain ⟨xs, n, rfl, _, hl, hx, hf⟩ := DataW.trod_struct Try.underlying34 h
  rw [show Try.prog.cellsOf 34 = 6 by kernel_rfl] at hl
  have hx6 : xs.length = 6 := hx
  have g0 : DataW.trod enc Try.prog w 0 (fun _ => true) true n 3 ((cs.drop 0).take (Try.prog.cellsOf 3)) = xs[0]? := hf 0 _ rfl
  obtain ⟨z0, e0, p0⟩ := fld_int g0 (by simp; omega) (by omega)
  have g1 : DataW.trod enc Try.prog w 0 (fun _ => true) true n 9 ((cs.drop 1).take (Try.prog.cellsOf 9)) = xs[1]? := hf 1 _ rfl
  obtain ⟨z1, e1, p1⟩ := fld_str g1 (by simp; omega) (by omega)
  have g2 : DataW.trod enc Try.prog w 0 (fun _ => true) true n 9 ((cs.drop 2).take (Try.prog.cellsOf 9)) = xs[2]? := hf 2 _ rfl
  obtain ⟨z2, e2, p2⟩ := fld_str g2 (by simp; omega) (by omega)
  have g3 : DataW.trod enc Try.prog w 0 (fun _ => true) true n 3 ((cs.drop 3).take (Try.prog.cellsOf 3)) = xs[3]? := hf 3 _ rfl
  obtain ⟨z3, e3, p3⟩ := fld_int g3 (by simp; omega) (by omega)
  have g4 : DataW.trod enc Try.prog w 0 (fun _ => true) true n 3 ((cs.drop 4).take (Try.prog.cellsOf 3)) = xs[4]? := hf 4 _ rfl
  obtain ⟨z4, e4, p4⟩ := fld_int g4 (by simp; omega) (by omega)
  have g5 : DataW.trod enc Try.prog w 0 (fun _ => true) true n 3 ((cs.drop 5).take (Try.prog.cellsOf 3)) = xs[5]? := hf 5 _ rfl
  obtain ⟨z5, e5, p5⟩ := fld_int g5 (by simp; omega) (by omega)
  obtain ⟨c0, c1, c2, c3, c4, c5, rfl⟩ := list6 hl
  simp only [List.getElem_cons_zero, List.getElem_cons_succ] at e0 e1 e2 e3 e4 e5
  subst e0 e1 e2 e3 e4 e5
  exact ⟨⟨z0, z1, z2, z3, z4, z5⟩, rfl⟩
theorem move_in (h : DataW.trod enc Try.prog w 0 (fun _ => true) true fuel 50 cs = some x) : ∃ h : HV, cs = [.int .i64 h.id, .string (str h.sku), .string (str h.loc), .int .i64 h.q, .int .i64 h.st, .int .i64 h.due] := by
  obtain ⟨xs, n, rfl, _, hl, hx, hf⟩ := DataW.trod_struct Try.underlying50 h
  rw [show Try.prog.cellsOf 50 = 6 by kernel_rfl] at hl
  have hx6 : xs.length = 6 := hx
  have g0 : DataW.trod enc Try.prog w 0 (fun _ => true) true n 3 ((cs.drop 0).take (Try.prog.cellsOf 3)) = xs[0]? := hf 0 _ rfl
  obtain ⟨z0, e0, p0⟩ := fld_int g0 (by simp; omega) (by omega)
  have g1 : DataW.trod enc Try.prog w 0 (fun _ => true) true n 9 ((cs.drop 1).take (Try.prog.cellsOf 9)) = xs[1]? := hf 1 _ rfl
  obtain ⟨z1, e1, p1⟩ := fld_str g1 (by simp; omega) (by omega)
  have g2 : DataW.trod enc Try.prog w 0 (fun _ => true) true n 9 ((cs.drop 2).take (Try.prog.cellsOf 9)) = xs[2]? := hf 2 _ rfl
  obtain ⟨z2, e2, p2⟩ := fld_str g2 (by simp; omega) (by omega)
  have g3 : DataW.trod enc Try.prog w 0 (fun _ => true) true n 3 ((cs.drop 3).take (Try.prog.cellsOf 3)) = xs[3]? := hf 3 _ rfl
  obtain ⟨z3, e3, p3⟩ := fld_int g3 (by simp; omega) (by omega)
  have g4 : DataW.trod enc Try.prog w 0 (fun _ => true) true n 3 ((cs.drop 4).take (Try.prog.cellsOf 3)) = xs[4]? := hf 4 _ rfl
  obtain ⟨z4, e4, p4⟩ := fld_int g4 (by simp; omega) (by omega)
  have g5 : DataW.trod enc Try.prog w 0 (fun _ => true) true n 3 ((cs.drop 5).take (Try.prog.cellsOf 3)) = xs[5]? := hf 5 _ rfl
  obtain ⟨z5, e5, p5⟩ := fld_int g5 (by simp; omega) (by omega)
  obtain ⟨c0, c1, c2, c3, c4, c5, rfl⟩ := list6 hl
  simp only [List.getElem_cons_zero, List.getElem_cons_succ] at e0 e1 e2 e3 e4 e5
  subst e0 e1 e2 e3 e4 e5
  exact ⟨⟨z0, z1, z2, z3, z4, z5⟩, rfl⟩
theorem stock_in (h : DataW.trod enc Try.prog w 0 (fun _ => true) true fuel 44 cs = some x) : ∃ s : SV, cs = [.string (str s.sku), .string (str s.loc), .int .i64 s.hand, .int .i64 s.held] := by
  obtain ⟨xs, n, rfl, _, hl, hx, hf⟩ := DataW.trod_struct Try.underlying44 h
  rw [show Try.prog.cellsOf 44 = 4 by kernel_rfl] at hl
  have hx4 : xs.length = 4 := hx
  have g0 : DataW.trod enc Try.prog w 0 (fun _ => true) true n 9 ((cs.drop 0).take (Try.prog.cellsOf 9)) = xs[0]? := hf 0 _ rfl
  obtain ⟨z0, e0, p0⟩ := fld_str g0 (by simp; omega) (by omega)
  have g1 : DataW.trod enc Try.prog w 0 (fun _ => true) true n 9 ((cs.drop 1).take (Try.prog.cellsOf 9)) = xs[1]? := hf 1 _ rfl
  obtain ⟨z1, e1, p1⟩ := fld_str g1 (by simp; omega) (by omega)
  have g2 : DataW.trod enc Try.prog w 0 (fun _ => true) true n 3 ((cs.drop 2).take (Try.prog.cellsOf 3)) = xs[2]? := hf 2 _ rfl
  obtain ⟨z2, e2, p2⟩ := fld_int g2 (by simp; omega) (by omega)
  have g3 : DataW.trod enc Try.prog w 0 (fun _ => true) true n 3 ((cs.drop 3).take (Try.prog.cellsOf 3)) = xs[3]? := hf 3 _ rfl
  obtain ⟨z3, e3, p3⟩ := fld_int g3 (by simp; omega) (by omega)
  obtain ⟨c0, c1, c2, c3, rfl⟩ := list4 hl
  simp only [List.getElem_cons_zero, List.getElem_cons_succ] at e0 e1 e2 e3
  subst e0 e1 e2 e3
  exact ⟨⟨z0, z1, z2, z3⟩, rfl⟩
theorem val_in (h : DataW.trod enc Try.prog w 0 (fun _ => true) true fuel 79 cs = some x) : ∃ v : V3, cs = valV v ∧ v.s.length ≤ maxLen := by
  obtain ⟨xs, n, rfl, _, hl, hx, hf⟩ := DataW.trod_struct Try.underlying79 h
  rw [show Try.prog.cellsOf 79 = 3 by kernel_rfl] at hl
  have hx3 : xs.length = 3 := hx
  have g0 : DataW.trod enc Try.prog w 0 (fun _ => true) true n 3 ((cs.drop 0).take (Try.prog.cellsOf 3)) = xs[0]? := hf 0 _ rfl
  obtain ⟨z0, e0, p0⟩ := fld_int g0 (by simp; omega) (by omega)
  have g1 : DataW.trod enc Try.prog w 0 (fun _ => true) true n 3 ((cs.drop 1).take (Try.prog.cellsOf 3)) = xs[1]? := hf 1 _ rfl
  obtain ⟨z1, e1, p1⟩ := fld_int g1 (by simp; omega) (by omega)
  have g2 : DataW.trod enc Try.prog w 0 (fun _ => true) true n 9 ((cs.drop 2).take (Try.prog.cellsOf 9)) = xs[2]? := hf 2 _ rfl
  obtain ⟨z2, e2, p2⟩ := fld_str g2 (by simp; omega) (by omega)
  obtain ⟨c0, c1, c2, rfl⟩ := list3 hl
  simp only [List.getElem_cons_zero, List.getElem_cons_succ] at e0 e1 e2
  subst e0 e1 e2
  exact ⟨⟨z0, z1, z2⟩, rfl, p2⟩
theorem vals_of {rows : List (List Value)} (h : ∀ r ∈ rows, ∃ v : V3, r = valV v ∧ v.s.length ≤ maxLen) : ∃ l : List V3, rows = l.map valV ∧ ∀ v ∈ l, v.s.length ≤ maxLen := by
  induction rows with
  | nil => exact ⟨[], rfl, by simp⟩
  | cons r rows ih =>
    obtain ⟨l, h1, h2⟩ := ih fun x hx => h x (by simp [hx])
    obtain ⟨s, h3, h4⟩ := h r (by simp)
    exact ⟨s :: l, by rw [h1, h3]; rfl, fun x hx => by
      rcases List.mem_cons.1 hx with rfl | hx
      · exact h4
      · exact h2 x hx⟩
theorem row_in (h : DataW.trod enc Try.prog w 0 (fun _ => true) true fuel 36 cs = some x) :
    ∃ (v : Value) (l : List V3), cs = [v] ∧ Rd w v 3 (l.map valV) ∧ (∀ v ∈ l, v.s.length ≤ maxLen) ∧ l.length ≤ maxLen := by
  obtain ⟨v, rows, SK, hv, harg, hlt, hlen, hr⟩ := arg_slice Try.underlying36 (n := 3) (by kernel_rfl) (by omega) h
  obtain ⟨l, hl, hs⟩ := vals_of (rows := rows) fun r hm => by
    obtain ⟨f, y, hy⟩ := hr r hm
    exact val_in hy
  subst hl
  exact ⟨v, l, hv, ⟨SK, harg⟩, hs, by simpa using hlen⟩
end
theorem op_taken {w : World} {cs : Array Value} (h : Taken w 23 (.agg cs)) : ∃ o : OpV, Value.agg cs = opA o ∧ o.Wf := by
  obtain ⟨H, enc, fuel, x, h⟩ := h
  obtain ⟨o, e, hw⟩ := op_in h
  exact ⟨o, by rw [show cs = (opC o).toArray by rw [← e]; rfl]; rfl, hw⟩
theorem hold_taken {w : World} {cs : Array Value} (h : Taken w 34 (.agg cs)) : ∃ o : HV, Value.agg cs = hA o := by
  obtain ⟨H, enc, fuel, x, h⟩ := h
  obtain ⟨o, e⟩ := hold_in h
  exact ⟨o, by rw [show cs = cs.toList.toArray from rfl, show cs.toList = _ from e]; rfl⟩
theorem move_taken {w : World} {cs : Array Value} (h : Taken w 50 (.agg cs)) : ∃ o : HV, Value.agg cs = hA o := by
  obtain ⟨H, enc, fuel, x, h⟩ := h
  obtain ⟨o, e⟩ := move_in h
  exact ⟨o, by rw [show cs = cs.toList.toArray from rfl, show cs.toList = _ from e]; rfl⟩
theorem stock_taken {w : World} {cs : Array Value} (h : Taken w 44 (.agg cs)) : ∃ o : SV, Value.agg cs = sA o := by
  obtain ⟨H, enc, fuel, x, h⟩ := h
  obtain ⟨o, e⟩ := stock_in h
  exact ⟨o, by rw [show cs = cs.toList.toArray from rfl, show cs.toList = _ from e]; rfl⟩
theorem row_taken {w : World} {a : Option Addr} {l c : Nat} (h : Taken w 36 (.slice a l c)) :
    ∃ (r : List V3), Rd w (.slice a l c) 3 (r.map valV) ∧ (∀ v ∈ r, v.s.length ≤ maxLen) ∧ r.length ≤ maxLen := by
  obtain ⟨H, enc, fuel, x, h⟩ := h
  obtain ⟨v, r, e, hr, h2, h3⟩ := row_in h
  injection e with e _
  subst e
  exact ⟨r, hr, h2, h3⟩
end Go.Proofs

set_option linter.unusedVariables false
set_option linter.unusedSimpArgs false
namespace Go.Proofs
open Go Go.Q
set_option maxRecDepth 100000
/-! quayside/quaysidelaw06.awake -/
def law06_awake_s0 (R : Value → World → Prop) (w : World) : Prop :=
  bld [(0, 1), (1, 1), (2, 1), (3, 1), (4, 1), (5, 1), (6, 1)] (zc Try.prog 23) #[(0, (.int .i64 2)), (1, (.string ⟨#[115]⟩)), (2, (.string ⟨#[108]⟩)), (4, (.int .i64 3)), (6, (.int .i64 9))] fun t9 =>
  newG (zc Try.prog 23) 23 w fun t1 w =>
  stn 7 t1 t9 w fun w =>
  ldn 7 t1 w fun t11 =>
  callG Try.prog 15 #[t11] w fun t12 w =>
  qG Try.prog (Instr.extract t12 0) w fun t13 =>
  qG Try.prog (Instr.extract t12 1) w fun t14 =>
  callG Try.prog 19 #[t13] w fun t17 w =>
  qG Try.prog (Instr.extract t17 0) w fun t18 =>
  qG Try.prog (Instr.extract t17 1) w fun t19 =>
  newG (zc Try.prog 23) 23 w fun t4 w =>
  stn 7 t4 t18 w fun w =>
  bld [(0, 1), (1, 1), (2, 1), (3, 1), (4, 1), (5, 1)] (zc Try.prog 34) #[(0, (.int .i64 1)), (1, (.string ⟨#[115]⟩)), (2, (.string ⟨#[108]⟩)), (3, (.int .i64 3))] fun t20 =>
  callG Try.prog 25 #[t20] w fun t21 w =>
  callG Try.prog 22 #[t21] w fun t24 w =>
  qG Try.prog (Instr.extract t24 0) w fun t25 =>
  qG Try.prog (Instr.extract t24 1) w fun t26 =>
  newG (zc Try.prog 34) 34 w fun t7 w =>
  stn 6 t7 t25 w fun w =>
  qG Try.prog (bq .eql 26 (.tmp 27) (.const (.int .i64 0)) t14 (.int .i64 0)) w fun t28 =>
  bV t28
  (ldn 7 t4 w fun t30 =>
  ldn 7 t1 w fun t31 =>
  qG Try.prog (bq .eql 23 (.tmp 30) (.tmp 31) t30 t31) w fun t32 =>
  bV t32
  (qG Try.prog (bq .eql 26 (.tmp 35) (.const (.int .i64 0)) t19 (.int .i64 0)) w fun t36 =>
  bV t36
  (lenL t21 fun t40 =>
  qG Try.prog (bq .eql 3 (.tmp 40) (.const (.int .i64 6)) t40 (.int .i64 6)) w fun t41 =>
  bV t41
  (ia 3 t21 (.int .i64 5) fun t45 =>
  ldn 3 t45 w fun t46 =>
  bld [(0, 1), (1, 1), (2, 1)] (zc Try.prog 79) #[] fun t47 =>
  qG Try.prog (bq .eql 79 (.tmp 46) (.tmp 47) t46 t47) w fun t48 =>
  bV t48
  (fa 3 t7 fun t51 =>
  ld1 t51 w fun t52 =>
  qG Try.prog (bq .eql 3 (.tmp 52) (.const (.int .i64 3)) t52 (.int .i64 3)) w fun t53 =>
  bV t53
  (qG Try.prog (bq .eql 26 (.tmp 56) (.const (.int .i64 0)) t26 (.int .i64 0)) w fun t57 =>
  bV t57
  (ldn 7 t1 w fun t60 =>
  callG Try.prog 17 #[t60] w fun t61 w =>
  qG Try.prog (bq .eql 26 (.tmp 61) (.const (.int .i64 0)) t61 (.int .i64 0)) w fun t62 =>
  R t62 w)
  (R (.bool false) w))
  (R (.bool false) w))
  (R (.bool false) w))
  (R (.bool false) w))
  (R (.bool false) w))
  (R (.bool false) w))
  (R (.bool false) w)

theorem law06_awake_s0_eq (R : Value → World → Prop) : ∀ e w, lift Try.prog 64 (bodyOf Try.f14) (finK Try.prog Try.f14.results.toList R) e w = law06_awake_s0 R w := fun e w => by kernel_rfl

def law06_awake (R : Value → World → Prop) (w : World) : Prop := law06_awake_s0 R  w
theorem law06_awake_call {R : Value → World → Prop} {w : World} (h : law06_awake R w) : callG Try.prog 14 #[] w R :=
  calls_lift_eq Try.mixed Try.func14 (args := []) rfl rfl rfl rfl ((law06_awake_s0_eq R) (envOf []) w) (by kernel_rfl) h
/-! quayside/quaysidelaw06.light -/
def law06_light_s0 (R : Value → World → Prop) (x0 : Value) (w : World) : Prop :=
  lenL x0 fun t22 =>
  qG Try.prog (bq .leq 3 (.tmp 22) (.const (.int .i64 20)) t22 (.int .i64 20)) w fun t23 =>
  R t23 w

theorem law06_light_s0_eq (R : Value → World → Prop) : ∀ e w, lift Try.prog 24 (sub (bodyOf Try.f21) [1, 1]) (finK Try.prog Try.f21.results.toList R) e w = law06_light_s0 R (e 0) w := fun e w => by kernel_rfl

def law06_light_s1 (R : Value → World → Prop) (N1 : List Value → World → Prop) (x0 x3 : Value) (w : World) : Prop :=
  ia 3 x0 x3 fun t16 =>
  fa 2 t16 fun t17 =>
  ld1 t17 w fun t18 =>
  lenS t18 fun t19 =>
  qG Try.prog (bq .gtr 3 (.tmp 19) (.const (.int .i64 200)) t19 (.int .i64 200)) w fun t20 =>
  bV t20
  (R (.bool false) w)
  (qG Try.prog (bq .add 3 (.tmp 12) (.const (.int .i64 1)) x3 (.int .i64 1)) w fun t13 =>
  N1 [x0, t13] w)

theorem law06_light_s1_eq (R : Value → World → Prop) (N1 : List Value → World → Prop) : ∀ e w, lift Try.prog 24 (sub (bodyOf Try.f21) [1, 0, 1, 0, 0, 1]) (seqK (fun e w => N1 [e 0, e 3] w) (blockK 0 (seqK (fun e w => law06_light_s0 R (e 0) w) (finK Try.prog Try.f21.results.toList R)))) e w = law06_light_s1 R N1 (e 0) (e 3) w := fun e w => by kernel_rfl

def law06_light_s2 (R : Value → World → Prop) (N1 : List Value → World → Prop) (x0 x3 : Value) (w : World) : Prop :=
  lenL x0 fun t6 =>
  qG Try.prog (bq .lss 3 (.tmp 4) (.tmp 6) x3 t6) w fun t7 =>
  bV t7
  (qG Try.prog (bq .lss 3 (.tmp 9) (.const (.int .i64 20)) x3 (.int .i64 20)) w fun t10 =>
  bV t10
  (law06_light_s1 R N1 x0 x3 w)
  (law06_light_s0 R x0 w))
  (law06_light_s0 R x0 w)

theorem law06_light_s2_eq (R : Value → World → Prop) (N1 : List Value → World → Prop) : ∀ e w, lift Try.prog 24 (sub (bodyOf Try.f21) [1, 0, 1, 0, 0]) (seqK (fun e w => N1 [e 0, e 3] w) (blockK 0 (seqK (fun e w => law06_light_s0 R (e 0) w) (finK Try.prog Try.f21.results.toList R)))) e w = law06_light_s2 R N1 (e 0) (e 3) w :=
  segs_eq (l := [(sub (bodyOf Try.f21) [1, 0, 1, 0, 0, 0])]) (y := (sub (bodyOf Try.f21) [1, 0, 1, 0, 0, 1])) (Y := (fun e w => law06_light_s1 R N1 (e 0) (e 3) w)) (law06_light_s1_eq R N1) (fun e w => by kernel_rfl)

def law06_light_L3F (R : Value → World → Prop) (N1 : List Value → World → Prop) (xs : List Value) (w : World) : Prop :=
  match xs with
  | [x0, x3] => law06_light_s2 R N1 x0 x3 w
  | _ => False

def law06_light_L3 (R : Value → World → Prop) (x0 x3 : Value) (w : World) : Prop :=
  ∃ m, loopV (law06_light_L3F R) m [x0, x3] w

theorem law06_light_L3_eq (R : Value → World → Prop) : ∀ e w, lift Try.prog 24 (sub (bodyOf Try.f21) [1, 0, 1, 0]) (blockK 0 (seqK (fun e w => law06_light_s0 R (e 0) w) (finK Try.prog Try.f21.results.toList R))) e w = law06_light_L3 R (e 0) (e 3) w := loop_seg (F := law06_light_L3F R) (sel := fun e => [e 0, e 3]) fun N1 => (law06_light_s2_eq R N1)

def law06_light_s4 (R : Value → World → Prop) (x0 : Value) (w : World) : Prop :=
  law06_light_L3 R x0 (.int .i64 0) w

theorem law06_light_s4_eq (R : Value → World → Prop) : ∀ e w, lift Try.prog 24 (sub (bodyOf Try.f21) [1, 0]) (seqK (fun e w => law06_light_s0 R (e 0) w) (finK Try.prog Try.f21.results.toList R)) e w = law06_light_s4 R (e 0) w :=
  segs_eq (l := [(sub (bodyOf Try.f21) [1, 0, 0])]) (y := (sub (bodyOf Try.f21) [1, 0, 1])) (Y := (fun e w => law06_light_L3 R (e 0) (e 3) w)) (law06_light_L3_eq R) (fun e w => by kernel_rfl)

def law06_light_s5 (R : Value → World → Prop) (x0 : Value) (w : World) : Prop :=
  law06_light_s4 R x0 w

theorem law06_light_s5_eq (R : Value → World → Prop) : ∀ e w, lift Try.prog 24 (bodyOf Try.f21) (finK Try.prog Try.f21.results.toList R) e w = law06_light_s5 R (e 0) w :=
  segs_eq (l := [(sub (bodyOf Try.f21) [0])]) (y := (sub (bodyOf Try.f21) [1])) (Y := (fun e w => law06_light_s4 R (e 0) w)) (seq_seg (x := (sub (bodyOf Try.f21) [1, 0])) (y := (sub (bodyOf Try.f21) [1, 1])) (law06_light_s0_eq R) (law06_light_s4_eq R)) (fun e w => by kernel_rfl)

def law06_light (R : Value → World → Prop) (x0 : Value) (w : World) : Prop := law06_light_s5 R x0 w
theorem law06_light_call {R : Value → World → Prop} {x0 : Value} {w : World} (h : law06_light R x0 w) : callG Try.prog 21 #[x0] w R :=
  calls_lift_eq Try.mixed Try.func21 (args := [x0]) rfl rfl rfl rfl ((law06_light_s5_eq R) (envOf [x0]) w) (by kernel_rfl) h
/-! quayside/quaysideref06.Light -/
def ref06_Light_s0 (R : Value → World → Prop) (x0 : Value) (w : World) : Prop :=
  newG (Value.cells x0) 23 w fun t1 w =>
  fa 1 t1 fun t3 =>
  ld1 t3 w fun t4 =>
  lenS t4 fun t5 =>
  qG Try.prog (bq .leq 3 (.tmp 5) (.const (.int .i64 200)) t5 (.int .i64 200)) w fun t6 =>
  bV t6
  (fa 2 t1 fun t8 =>
  ld1 t8 w fun t9 =>
  lenS t9 fun t10 =>
  qG Try.prog (bq .leq 3 (.tmp 10) (.const (.int .i64 200)) t10 (.int .i64 200)) w fun t11 =>
  bV t11
  (fa 3 t1 fun t14 =>
  ld1 t14 w fun t15 =>
  lenS t15 fun t16 =>
  qG Try.prog (bq .leq 3 (.tmp 16) (.const (.int .i64 200)) t16 (.int .i64 200)) w fun t17 =>
  R t17 w)
  (R (.bool false) w))
  (R (.bool false) w)

theorem ref06_Light_s0_eq (R : Value → World → Prop) : ∀ e w, lift Try.prog 19 (bodyOf Try.f13) (finK Try.prog Try.f13.results.toList R) e w = ref06_Light_s0 R (e 0) w := fun e w => by kernel_rfl

def ref06_Light (R : Value → World → Prop) (x0 : Value) (w : World) : Prop := ref06_Light_s0 R x0 w
theorem ref06_Light_call {R : Value → World → Prop} {x0 : Value} {w : World} (h : ref06_Light R x0 w) : callG Try.prog 13 #[x0] w R :=
  calls_lift_eq Try.mixed Try.func13 (args := [x0]) rfl rfl rfl rfl ((ref06_Light_s0_eq R) (envOf [x0]) w) (by kernel_rfl) h
/-! quayside/quaysidelaw06.EntryPuts -/
def law06_EntryPuts_s0 (R : Value → World → Prop) (x1 x3 x4 : Value) (w : World) : Prop :=
  qG Try.prog (bq .neq 26 (.tmp 38) (.const (.int .i64 0)) x4 (.int .i64 0)) w fun t39 =>
  bV t39
  (callG Try.prog 14 #[] w fun t40 w =>
  R t40 w)
  (callG Try.prog 19 #[x3] w fun t43 w =>
  qG Try.prog (Instr.extract t43 0) w fun t44 =>
  qG Try.prog (Instr.extract t43 1) w fun t45 =>
  newG (zc Try.prog 23) 23 w fun t7 w =>
  stn 7 t7 t44 w fun w =>
  ldn 7 t7 w fun t46 =>
  ldn 7 x1 w fun t47 =>
  qG Try.prog (bq .eql 23 (.tmp 46) (.tmp 47) t46 t47) w fun t48 =>
  bV t48
  (qG Try.prog (bq .eql 26 (.tmp 50) (.const (.int .i64 0)) t45 (.int .i64 0)) w fun t51 =>
  bV t51
  (callG Try.prog 14 #[] w fun t54 w =>
  R t54 w)
  (R (.bool false) w))
  (R (.bool false) w))

theorem law06_EntryPuts_s0_eq (R : Value → World → Prop) : ∀ e w, lift Try.prog 56 (sub (bodyOf Try.f3) [1, 1, 1, 1, 1]) (finK Try.prog Try.f3.results.toList R) e w = law06_EntryPuts_s0 R (e 1) (e 3) (e 4) w := fun e w => by kernel_rfl

def law06_EntryPuts_s1 (R : Value → World → Prop) (x0 : Value) (w : World) : Prop :=
  newG (Value.cells x0) 23 w fun t1 w =>
  ldn 7 t1 w fun t9 =>
  callG Try.prog 13 #[t9] w fun t10 w =>
  qG Try.prog (Op.unary .not t10) w fun t11 =>
  bV t11
  (callG Try.prog 14 #[] w fun t12 w =>
  R t12 w)
  (ldn 7 t1 w fun t14 =>
  callG Try.prog 15 #[t14] w fun t15 w =>
  qG Try.prog (Instr.extract t15 0) w fun t16 =>
  qG Try.prog (Instr.extract t15 1) w fun t17 =>
  ldn 7 t1 w fun t19 =>
  callG Try.prog 16 #[t19] w fun t20 w =>
  qG Try.prog (Instr.extract t20 0) w fun t21 =>
  qG Try.prog (Instr.extract t20 1) w fun t22 =>
  qG Try.prog (bq .neq 9 (.tmp 23) (.tmp 24) t16 t21) (World.drew w) fun t25 =>
  bV t25
  (R (.bool false) (World.drew w))
  (qG Try.prog (bq .neq 26 (.tmp 27) (.tmp 28) t17 t22) (World.drew w) fun t29 =>
  bV t29
  (R (.bool false) (World.drew w))
  (ldn 7 t1 (World.drew w) fun t32 =>
  ldn 7 t1 (World.drew w) fun t34 =>
  callG Try.prog 17 #[t32] (World.drew w) fun t33 w =>
  ldn 7 t1 w (fun u => u = t34) ∧
  callG Try.prog 18 #[t34] w fun t35 w =>
  qG Try.prog (bq .neq 26 (.tmp 33) (.tmp 35) t33 t35) w fun t36 =>
  bV t36
  (R (.bool false) w)
  (law06_EntryPuts_s0 R t1 t16 t17 w))))

theorem law06_EntryPuts_s1_eq (R : Value → World → Prop) : ∀ e w, lift Try.prog 56 (bodyOf Try.f3) (finK Try.prog Try.f3.results.toList R) e w = law06_EntryPuts_s1 R (e 0) w :=
  segs_eq (l := [(sub (bodyOf Try.f3) [0]), (sub (bodyOf Try.f3) [1, 0]), (sub (bodyOf Try.f3) [1, 1, 0]), (sub (bodyOf Try.f3) [1, 1, 1, 0]), (sub (bodyOf Try.f3) [1, 1, 1, 1, 0])]) (y := (sub (bodyOf Try.f3) [1, 1, 1, 1, 1])) (Y := (fun e w => law06_EntryPuts_s0 R (e 1) (e 3) (e 4) w)) (law06_EntryPuts_s0_eq R) (fun e w => by kernel_rfl)

def law06_EntryPuts (R : Value → World → Prop) (x0 : Value) (w : World) : Prop := law06_EntryPuts_s1 R x0 w
theorem law06_EntryPuts_call {R : Value → World → Prop} {x0 : Value} {w : World} (h : law06_EntryPuts R x0 w) : callG Try.prog 3 #[x0] w R :=
  calls_lift_eq Try.mixed Try.func3 (args := [x0]) rfl rfl rfl rfl ((law06_EntryPuts_s1_eq R) (envOf [x0]) w) (by kernel_rfl) h
/-! quayside/quaysidelaw06.EntryTakes -/
def law06_EntryTakes_s0 (R : Value → World → Prop) (x0 x3 x4 : Value) (w : World) : Prop :=
  qG Try.prog (bq .neq 26 (.tmp 31) (.const (.int .i64 0)) x4 (.int .i64 0)) w fun t32 =>
  bV t32
  (callG Try.prog 14 #[] w fun t33 w =>
  R t33 w)
  (ldn 7 x3 w fun t35 =>
  callG Try.prog 15 #[t35] w fun t36 w =>
  qG Try.prog (Instr.extract t36 0) w fun t37 =>
  qG Try.prog (Instr.extract t36 1) w fun t38 =>
  qG Try.prog (bq .eql 9 (.tmp 39) (.tmp 40) t37 x0) w fun t41 =>
  bV t41
  (qG Try.prog (bq .eql 26 (.tmp 43) (.const (.int .i64 0)) t38 (.int .i64 0)) w fun t44 =>
  bV t44
  (callG Try.prog 14 #[] w fun t47 w =>
  R t47 w)
  (R (.bool false) w))
  (R (.bool false) w))

theorem law06_EntryTakes_s0_eq (R : Value → World → Prop) : ∀ e w, lift Try.prog 49 (sub (bodyOf Try.f4) [1, 1, 1, 1, 1]) (finK Try.prog Try.f4.results.toList R) e w = law06_EntryTakes_s0 R (e 0) (e 3) (e 4) w := fun e w => by kernel_rfl

def law06_EntryTakes_s1 (R : Value → World → Prop) (x0 : Value) (w : World) : Prop :=
  lenS x0 fun t10 =>
  qG Try.prog (bq .gtr 3 (.tmp 10) (.const (.int .i64 1024)) t10 (.int .i64 1024)) w fun t11 =>
  bV t11
  (callG Try.prog 14 #[] w fun t12 w =>
  R t12 w)
  (callG Try.prog 19 #[x0] w fun t15 w =>
  qG Try.prog (Instr.extract t15 0) w fun t16 =>
  qG Try.prog (Instr.extract t15 1) w fun t17 =>
  newG (zc Try.prog 23) 23 w fun t3 w =>
  stn 7 t3 t16 w fun w =>
  callG Try.prog 20 #[x0] w fun t20 w =>
  qG Try.prog (Instr.extract t20 0) w fun t21 =>
  qG Try.prog (Instr.extract t20 1) w fun t22 =>
  newG (zc Try.prog 23) 23 w fun t5 w =>
  stn 7 t5 t21 w fun w =>
  ldn 7 t3 w fun t23 =>
  ldn 7 t5 w fun t24 =>
  qG Try.prog (bq .neq 23 (.tmp 23) (.tmp 24) t23 t24) w fun t25 =>
  bV t25
  (R (.bool false) w)
  (qG Try.prog (bq .neq 26 (.tmp 27) (.tmp 28) t17 t22) w fun t29 =>
  bV t29
  (R (.bool false) w)
  (law06_EntryTakes_s0 R x0 t3 t17 w)))

theorem law06_EntryTakes_s1_eq (R : Value → World → Prop) : ∀ e w, lift Try.prog 49 (bodyOf Try.f4) (finK Try.prog Try.f4.results.toList R) e w = law06_EntryTakes_s1 R (e 0) w :=
  segs_eq (l := [(sub (bodyOf Try.f4) [0]), (sub (bodyOf Try.f4) [1, 0]), (sub (bodyOf Try.f4) [1, 1, 0]), (sub (bodyOf Try.f4) [1, 1, 1, 0]), (sub (bodyOf Try.f4) [1, 1, 1, 1, 0])]) (y := (sub (bodyOf Try.f4) [1, 1, 1, 1, 1])) (Y := (fun e w => law06_EntryTakes_s0 R (e 0) (e 3) (e 4) w)) (law06_EntryTakes_s0_eq R) (fun e w => by kernel_rfl)

def law06_EntryTakes (R : Value → World → Prop) (x0 : Value) (w : World) : Prop := law06_EntryTakes_s1 R x0 w
theorem law06_EntryTakes_call {R : Value → World → Prop} {x0 : Value} {w : World} (h : law06_EntryTakes R x0 w) : callG Try.prog 4 #[x0] w R :=
  calls_lift_eq Try.mixed Try.func4 (args := [x0]) rfl rfl rfl rfl ((law06_EntryTakes_s1_eq R) (envOf [x0]) w) (by kernel_rfl) h
/-! quayside/quaysidelaw06.EntryStocks -/
def law06_EntryStocks_s0 (R : Value → World → Prop) (x1 x2 x5 x6 : Value) (w : World) : Prop :=
  ldn 4 x2 w fun t54 =>
  callG Try.prog 29 #[t54] w fun t55 w =>
  callG Try.prog 27 #[t55] w fun t56 w =>
  qG Try.prog (Instr.extract t56 0) w fun t57 =>
  qG Try.prog (Instr.extract t56 1) w fun t58 =>
  newG (zc Try.prog 44) 44 w fun t9 w =>
  stn 4 t9 t57 w fun w =>
  qG Try.prog (bq .eql 26 (.tmp 59) (.const (.int .i64 0)) t58 (.int .i64 0)) w fun t60 =>
  fa 0 x2 fun t61 =>
  ld1 t61 w fun t62 =>
  lenS t62 fun t63 =>
  qG Try.prog (bq .leq 3 (.tmp 63) (.const (.int .i64 64)) t63 (.int .i64 64)) w fun t64 =>
  bV t64
  (fa 1 x2 fun t66 =>
  ld1 t66 w fun t67 =>
  lenS t67 fun t68 =>
  qG Try.prog (bq .leq 3 (.tmp 68) (.const (.int .i64 64)) t68 (.int .i64 64)) w fun t69 =>
  qG Try.prog (bq .eql 4 (.tmp 60) (.tmp 70) t60 t69) w fun t71 =>
  bV t71
  (qG Try.prog (bq .neq 26 (.tmp 73) (.const (.int .i64 0)) t58 (.int .i64 0)) w fun t74 =>
  bV t74
  (qG Try.prog (bq .neq 26 (.tmp 82) (.const (.int .i64 0)) x6 (.int .i64 0)) w fun t83 =>
  bV t83
  (callG Try.prog 14 #[] w fun t92 w =>
  R t92 w)
  (ldn 4 x5 w fun t85 =>
  callG Try.prog 29 #[t85] w fun t86 w =>
  callG Try.prog 24 #[t86, x1] w fun t88 w =>
  bV t88
  (callG Try.prog 14 #[] w fun t92_1 w =>
  R t92_1 w)
  (R (.bool false) w)))
  (ldn 4 t9 w fun t76 =>
  ldn 4 x2 w fun t77 =>
  qG Try.prog (bq .eql 44 (.tmp 76) (.tmp 77) t76 t77) w fun t78 =>
  bV t78
  (qG Try.prog (bq .neq 26 (.tmp 82) (.const (.int .i64 0)) x6 (.int .i64 0)) w fun t83_1 =>
  bV t83_1
  (callG Try.prog 14 #[] w fun t92_2 w =>
  R t92_2 w)
  (ldn 4 x5 w fun t85_1 =>
  callG Try.prog 29 #[t85_1] w fun t86_1 w =>
  callG Try.prog 24 #[t86_1, x1] w fun t88_1 w =>
  bV t88_1
  (callG Try.prog 14 #[] w fun t92_3 w =>
  R t92_3 w)
  (R (.bool false) w)))
  (R (.bool false) w)))
  (R (.bool false) w))
  (qG Try.prog (bq .eql 4 (.tmp 60) (.tmp 70) t60 (.bool false)) w fun t71_1 =>
  bV t71_1
  (qG Try.prog (bq .neq 26 (.tmp 73) (.const (.int .i64 0)) t58 (.int .i64 0)) w fun t74_1 =>
  bV t74_1
  (qG Try.prog (bq .neq 26 (.tmp 82) (.const (.int .i64 0)) x6 (.int .i64 0)) w fun t83_2 =>
  bV t83_2
  (callG Try.prog 14 #[] w fun t92_4 w =>
  R t92_4 w)
  (ldn 4 x5 w fun t85_2 =>
  callG Try.prog 29 #[t85_2] w fun t86_2 w =>
  callG Try.prog 24 #[t86_2, x1] w fun t88_2 w =>
  bV t88_2
  (callG Try.prog 14 #[] w fun t92_5 w =>
  R t92_5 w)
  (R (.bool false) w)))
  (ldn 4 t9 w fun t76_1 =>
  ldn 4 x2 w fun t77_1 =>
  qG Try.prog (bq .eql 44 (.tmp 76) (.tmp 77) t76_1 t77_1) w fun t78_1 =>
  bV t78_1
  (qG Try.prog (bq .neq 26 (.tmp 82) (.const (.int .i64 0)) x6 (.int .i64 0)) w fun t83_3 =>
  bV t83_3
  (callG Try.prog 14 #[] w fun t92_6 w =>
  R t92_6 w)
  (ldn 4 x5 w fun t85_3 =>
  callG Try.prog 29 #[t85_3] w fun t86_3 w =>
  callG Try.prog 24 #[t86_3, x1] w fun t88_3 w =>
  bV t88_3
  (callG Try.prog 14 #[] w fun t92_7 w =>
  R t92_7 w)
  (R (.bool false) w)))
  (R (.bool false) w)))
  (R (.bool false) w))

theorem law06_EntryStocks_s0_eq (R : Value → World → Prop) : ∀ e w, lift Try.prog 94 (sub (bodyOf Try.f6) [1, 1, 1, 1, 1]) (finK Try.prog Try.f6.results.toList R) e w = law06_EntryStocks_s0 R (e 1) (e 2) (e 5) (e 6) w := fun e w => by kernel_rfl

def law06_EntryStocks_s1 (R : Value → World → Prop) (x1 x2 : Value) (w : World) : Prop :=
  callG Try.prog 27 #[x1] w fun t29 w =>
  qG Try.prog (Instr.extract t29 0) w fun t30 =>
  qG Try.prog (Instr.extract t29 1) w fun t31 =>
  newG (zc Try.prog 44) 44 w fun t5 w =>
  stn 4 t5 t30 w fun w =>
  callG Try.prog 28 #[x1] w fun t34 w =>
  qG Try.prog (Instr.extract t34 0) w fun t35 =>
  qG Try.prog (Instr.extract t34 1) w fun t36 =>
  newG (zc Try.prog 44) 44 w fun t7 w =>
  stn 4 t7 t35 w fun w =>
  ldn 4 x2 (World.drew w) fun t37 =>
  ldn 4 x2 (World.drew w) fun t39 =>
  callG Try.prog 29 #[t37] (World.drew w) fun t38 w =>
  ldn 4 x2 w (fun u => u = t39) ∧
  callG Try.prog 30 #[t39] w fun t40 w =>
  callG Try.prog 24 #[t38, t40] w fun t41 w =>
  qG Try.prog (Op.unary .not t41) w fun t42 =>
  bV t42
  (R (.bool false) w)
  (ldn 4 t5 w fun t44 =>
  ldn 4 t7 w fun t45 =>
  qG Try.prog (bq .neq 44 (.tmp 44) (.tmp 45) t44 t45) w fun t46 =>
  bV t46
  (R (.bool false) w)
  (qG Try.prog (bq .neq 26 (.tmp 49) (.tmp 50) t31 t36) w fun t51 =>
  bV t51
  (R (.bool false) w)
  (law06_EntryStocks_s0 R x1 x2 t5 t31 w)))

theorem law06_EntryStocks_s1_eq (R : Value → World → Prop) : ∀ e w, lift Try.prog 94 (sub (bodyOf Try.f6) [1, 1]) (finK Try.prog Try.f6.results.toList R) e w = law06_EntryStocks_s1 R (e 1) (e 2) w :=
  segs_eq (l := [(sub (bodyOf Try.f6) [1, 1, 0]), (sub (bodyOf Try.f6) [1, 1, 1, 0]), (sub (bodyOf Try.f6) [1, 1, 1, 1, 0])]) (y := (sub (bodyOf Try.f6) [1, 1, 1, 1, 1])) (Y := (fun e w => law06_EntryStocks_s0 R (e 1) (e 2) (e 5) (e 6) w)) (law06_EntryStocks_s0_eq R) (fun e w => by kernel_rfl)

def law06_EntryStocks_s2 (R : Value → World → Prop) (x0 x1 : Value) (w : World) : Prop :=
  newG (Value.cells x0) 44 w fun t2 w =>
  fa 0 t2 fun t11 =>
  ld1 t11 w fun t12 =>
  lenS t12 fun t13 =>
  qG Try.prog (bq .gtr 3 (.tmp 13) (.const (.int .i64 200)) t13 (.int .i64 200)) w fun t14 =>
  bV t14
  (callG Try.prog 14 #[] w fun t26 w =>
  R t26 w)
  (fa 1 t2 fun t16 =>
  ld1 t16 w fun t17 =>
  lenS t17 fun t18 =>
  qG Try.prog (bq .gtr 3 (.tmp 18) (.const (.int .i64 200)) t18 (.int .i64 200)) w fun t19 =>
  bV t19
  (callG Try.prog 14 #[] w fun t26_1 w =>
  R t26_1 w)
  (callG Try.prog 21 #[x1] w fun t23 w =>
  qG Try.prog (Op.unary .not t23) w fun t24 =>
  bV t24
  (callG Try.prog 14 #[] w fun t26_2 w =>
  R t26_2 w)
  (law06_EntryStocks_s1 R x1 t2 w)))

theorem law06_EntryStocks_s2_eq (R : Value → World → Prop) : ∀ e w, lift Try.prog 94 (bodyOf Try.f6) (finK Try.prog Try.f6.results.toList R) e w = law06_EntryStocks_s2 R (e 0) (e 1) w :=
  segs_eq (l := [(sub (bodyOf Try.f6) [0]), (sub (bodyOf Try.f6) [1, 0])]) (y := (sub (bodyOf Try.f6) [1, 1])) (Y := (fun e w => law06_EntryStocks_s1 R (e 1) (e 2) w)) (law06_EntryStocks_s1_eq R) (fun e w => by kernel_rfl)

def law06_EntryStocks (R : Value → World → Prop) (x0 x1 : Value) (w : World) : Prop := law06_EntryStocks_s2 R x0 x1 w
theorem law06_EntryStocks_call {R : Value → World → Prop} {x0 x1 : Value} {w : World} (h : law06_EntryStocks R x0 x1 w) : callG Try.prog 6 #[x0, x1] w R :=
  calls_lift_eq Try.mixed Try.func6 (args := [x0, x1]) rfl rfl rfl rfl ((law06_EntryStocks_s2_eq R) (envOf [x0, x1]) w) (by kernel_rfl) h
/-! quayside/quaysidelaw06.EntryHolds -/
def law06_EntryHolds_s0 (R : Value → World → Prop) (x1 x2 x5 x6 : Value) (w : World) : Prop :=
  ldn 6 x2 w fun t54 =>
  callG Try.prog 25 #[t54] w fun t55 w =>
  callG Try.prog 22 #[t55] w fun t56 w =>
  qG Try.prog (Instr.extract t56 0) w fun t57 =>
  qG Try.prog (Instr.extract t56 1) w fun t58 =>
  newG (zc Try.prog 34) 34 w fun t9 w =>
  stn 6 t9 t57 w fun w =>
  qG Try.prog (bq .eql 26 (.tmp 59) (.const (.int .i64 0)) t58 (.int .i64 0)) w fun t60 =>
  fa 1 x2 fun t61 =>
  ld1 t61 w fun t62 =>
  lenS t62 fun t63 =>
  qG Try.prog (bq .leq 3 (.tmp 63) (.const (.int .i64 64)) t63 (.int .i64 64)) w fun t64 =>
  bV t64
  (fa 2 x2 fun t66 =>
  ld1 t66 w fun t67 =>
  lenS t67 fun t68 =>
  qG Try.prog (bq .leq 3 (.tmp 68) (.const (.int .i64 64)) t68 (.int .i64 64)) w fun t69 =>
  bV t69
  (fa 4 x2 fun t72 =>
  ld1 t72 w fun t73 =>
  qG Try.prog (bq .geq 3 (.tmp 73) (.const (.int .i64 0)) t73 (.int .i64 0)) w fun t74 =>
  bV t74
  (fa 4 x2 fun t77 =>
  ld1 t77 w fun t78 =>
  qG Try.prog (bq .leq 3 (.tmp 78) (.const (.int .i64 2)) t78 (.int .i64 2)) w fun t79 =>
  qG Try.prog (bq .eql 4 (.tmp 60) (.tmp 80) t60 t79) w fun t81 =>
  bV t81
  (qG Try.prog (bq .neq 26 (.tmp 83) (.const (.int .i64 0)) t58 (.int .i64 0)) w fun t84 =>
  bV t84
  (qG Try.prog (bq .neq 26 (.tmp 92) (.const (.int .i64 0)) x6 (.int .i64 0)) w fun t93 =>
  bV t93
  (callG Try.prog 14 #[] w fun t102 w =>
  R t102 w)
  (ldn 6 x5 w fun t95 =>
  callG Try.prog 25 #[t95] w fun t96 w =>
  callG Try.prog 24 #[t96, x1] w fun t98 w =>
  bV t98
  (callG Try.prog 14 #[] w fun t102_1 w =>
  R t102_1 w)
  (R (.bool false) w)))
  (ldn 6 t9 w fun t86 =>
  ldn 6 x2 w fun t87 =>
  qG Try.prog (bq .eql 34 (.tmp 86) (.tmp 87) t86 t87) w fun t88 =>
  bV t88
  (qG Try.prog (bq .neq 26 (.tmp 92) (.const (.int .i64 0)) x6 (.int .i64 0)) w fun t93_1 =>
  bV t93_1
  (callG Try.prog 14 #[] w fun t102_2 w =>
  R t102_2 w)
  (ldn 6 x5 w fun t95_1 =>
  callG Try.prog 25 #[t95_1] w fun t96_1 w =>
  callG Try.prog 24 #[t96_1, x1] w fun t98_1 w =>
  bV t98_1
  (callG Try.prog 14 #[] w fun t102_3 w =>
  R t102_3 w)
  (R (.bool false) w)))
  (R (.bool false) w)))
  (R (.bool false) w))
  (qG Try.prog (bq .eql 4 (.tmp 60) (.tmp 80) t60 (.bool false)) w fun t81_1 =>
  bV t81_1
  (qG Try.prog (bq .neq 26 (.tmp 83) (.const (.int .i64 0)) t58 (.int .i64 0)) w fun t84_1 =>
  bV t84_1
  (qG Try.prog (bq .neq 26 (.tmp 92) (.const (.int .i64 0)) x6 (.int .i64 0)) w fun t93_2 =>
  bV t93_2
  (callG Try.prog 14 #[] w fun t102_4 w =>
  R t102_4 w)
  (ldn 6 x5 w fun t95_2 =>
  callG Try.prog 25 #[t95_2] w fun t96_2 w =>
  callG Try.prog 24 #[t96_2, x1] w fun t98_2 w =>
  bV t98_2
  (callG Try.prog 14 #[] w fun t102_5 w =>
  R t102_5 w)
  (R (.bool false) w)))
  (ldn 6 t9 w fun t86_1 =>
  ldn 6 x2 w fun t87_1 =>
  qG Try.prog (bq .eql 34 (.tmp 86) (.tmp 87) t86_1 t87_1) w fun t88_1 =>
  bV t88_1
  (qG Try.prog (bq .neq 26 (.tmp 92) (.const (.int .i64 0)) x6 (.int .i64 0)) w fun t93_3 =>
  bV t93_3
  (callG Try.prog 14 #[] w fun t102_6 w =>
  R t102_6 w)
  (ldn 6 x5 w fun t95_3 =>
  callG Try.prog 25 #[t95_3] w fun t96_3 w =>
  callG Try.prog 24 #[t96_3, x1] w fun t98_3 w =>
  bV t98_3
  (callG Try.prog 14 #[] w fun t102_7 w =>
  R t102_7 w)
  (R (.bool false) w)))
  (R (.bool false) w)))
  (R (.bool false) w)))
  (qG Try.prog (bq .eql 4 (.tmp 60) (.tmp 80) t60 (.bool false)) w fun t81_2 =>
  bV t81_2
  (qG Try.prog (bq .neq 26 (.tmp 83) (.const (.int .i64 0)) t58 (.int .i64 0)) w fun t84_2 =>
  bV t84_2
  (qG Try.prog (bq .neq 26 (.tmp 92) (.const (.int .i64 0)) x6 (.int .i64 0)) w fun t93_4 =>
  bV t93_4
  (callG Try.prog 14 #[] w fun t102_8 w =>
  R t102_8 w)
  (ldn 6 x5 w fun t95_4 =>
  callG Try.prog 25 #[t95_4] w fun t96_4 w =>
  callG Try.prog 24 #[t96_4, x1] w fun t98_4 w =>
  bV t98_4
  (callG Try.prog 14 #[] w fun t102_9 w =>
  R t102_9 w)
  (R (.bool false) w)))
  (ldn 6 t9 w fun t86_2 =>
  ldn 6 x2 w fun t87_2 =>
  qG Try.prog (bq .eql 34 (.tmp 86) (.tmp 87) t86_2 t87_2) w fun t88_2 =>
  bV t88_2
  (qG Try.prog (bq .neq 26 (.tmp 92) (.const (.int .i64 0)) x6 (.int .i64 0)) w fun t93_5 =>
  bV t93_5
  (callG Try.prog 14 #[] w fun t102_10 w =>
  R t102_10 w)
  (ldn 6 x5 w fun t95_5 =>
  callG Try.prog 25 #[t95_5] w fun t96_5 w =>
  callG Try.prog 24 #[t96_5, x1] w fun t98_5 w =>
  bV t98_5
  (callG Try.prog 14 #[] w fun t102_11 w =>
  R t102_11 w)
  (R (.bool false) w)))
  (R (.bool false) w)))
  (R (.bool false) w)))
  (qG Try.prog (bq .eql 4 (.tmp 60) (.tmp 80) t60 (.bool false)) w fun t81_3 =>
  bV t81_3
  (qG Try.prog (bq .neq 26 (.tmp 83) (.const (.int .i64 0)) t58 (.int .i64 0)) w fun t84_3 =>
  bV t84_3
  (qG Try.prog (bq .neq 26 (.tmp 92) (.const (.int .i64 0)) x6 (.int .i64 0)) w fun t93_6 =>
  bV t93_6
  (callG Try.prog 14 #[] w fun t102_12 w =>
  R t102_12 w)
  (ldn 6 x5 w fun t95_6 =>
  callG Try.prog 25 #[t95_6] w fun t96_6 w =>
  callG Try.prog 24 #[t96_6, x1] w fun t98_6 w =>
  bV t98_6
  (callG Try.prog 14 #[] w fun t102_13 w =>
  R t102_13 w)
  (R (.bool false) w)))
  (ldn 6 t9 w fun t86_3 =>
  ldn 6 x2 w fun t87_3 =>
  qG Try.prog (bq .eql 34 (.tmp 86) (.tmp 87) t86_3 t87_3) w fun t88_3 =>
  bV t88_3
  (qG Try.prog (bq .neq 26 (.tmp 92) (.const (.int .i64 0)) x6 (.int .i64 0)) w fun t93_7 =>
  bV t93_7
  (callG Try.prog 14 #[] w fun t102_14 w =>
  R t102_14 w)
  (ldn 6 x5 w fun t95_7 =>
  callG Try.prog 25 #[t95_7] w fun t96_7 w =>
  callG Try.prog 24 #[t96_7, x1] w fun t98_7 w =>
  bV t98_7
  (callG Try.prog 14 #[] w fun t102_15 w =>
  R t102_15 w)
  (R (.bool false) w)))
  (R (.bool false) w)))
  (R (.bool false) w))

theorem law06_EntryHolds_s0_eq (R : Value → World → Prop) : ∀ e w, lift Try.prog 104 (sub (bodyOf Try.f5) [1, 1, 1, 1, 1]) (finK Try.prog Try.f5.results.toList R) e w = law06_EntryHolds_s0 R (e 1) (e 2) (e 5) (e 6) w := fun e w => by kernel_rfl

def law06_EntryHolds_s1 (R : Value → World → Prop) (x1 x2 : Value) (w : World) : Prop :=
  callG Try.prog 22 #[x1] w fun t29 w =>
  qG Try.prog (Instr.extract t29 0) w fun t30 =>
  qG Try.prog (Instr.extract t29 1) w fun t31 =>
  newG (zc Try.prog 34) 34 w fun t5 w =>
  stn 6 t5 t30 w fun w =>
  callG Try.prog 23 #[x1] w fun t34 w =>
  qG Try.prog (Instr.extract t34 0) w fun t35 =>
  qG Try.prog (Instr.extract t34 1) w fun t36 =>
  newG (zc Try.prog 34) 34 w fun t7 w =>
  stn 6 t7 t35 w fun w =>
  ldn 6 x2 (World.drew w) fun t37 =>
  ldn 6 x2 (World.drew w) fun t39 =>
  callG Try.prog 25 #[t37] (World.drew w) fun t38 w =>
  ldn 6 x2 w (fun u => u = t39) ∧
  callG Try.prog 26 #[t39] w fun t40 w =>
  callG Try.prog 24 #[t38, t40] w fun t41 w =>
  qG Try.prog (Op.unary .not t41) w fun t42 =>
  bV t42
  (R (.bool false) w)
  (ldn 6 t5 w fun t44 =>
  ldn 6 t7 w fun t45 =>
  qG Try.prog (bq .neq 34 (.tmp 44) (.tmp 45) t44 t45) w fun t46 =>
  bV t46
  (R (.bool false) w)
  (qG Try.prog (bq .neq 26 (.tmp 49) (.tmp 50) t31 t36) w fun t51 =>
  bV t51
  (R (.bool false) w)
  (law06_EntryHolds_s0 R x1 x2 t5 t31 w)))

theorem law06_EntryHolds_s1_eq (R : Value → World → Prop) : ∀ e w, lift Try.prog 104 (sub (bodyOf Try.f5) [1, 1]) (finK Try.prog Try.f5.results.toList R) e w = law06_EntryHolds_s1 R (e 1) (e 2) w :=
  segs_eq (l := [(sub (bodyOf Try.f5) [1, 1, 0]), (sub (bodyOf Try.f5) [1, 1, 1, 0]), (sub (bodyOf Try.f5) [1, 1, 1, 1, 0])]) (y := (sub (bodyOf Try.f5) [1, 1, 1, 1, 1])) (Y := (fun e w => law06_EntryHolds_s0 R (e 1) (e 2) (e 5) (e 6) w)) (law06_EntryHolds_s0_eq R) (fun e w => by kernel_rfl)

def law06_EntryHolds_s2 (R : Value → World → Prop) (x0 x1 : Value) (w : World) : Prop :=
  newG (Value.cells x0) 34 w fun t2 w =>
  fa 1 t2 fun t11 =>
  ld1 t11 w fun t12 =>
  lenS t12 fun t13 =>
  qG Try.prog (bq .gtr 3 (.tmp 13) (.const (.int .i64 200)) t13 (.int .i64 200)) w fun t14 =>
  bV t14
  (callG Try.prog 14 #[] w fun t26 w =>
  R t26 w)
  (fa 2 t2 fun t16 =>
  ld1 t16 w fun t17 =>
  lenS t17 fun t18 =>
  qG Try.prog (bq .gtr 3 (.tmp 18) (.const (.int .i64 200)) t18 (.int .i64 200)) w fun t19 =>
  bV t19
  (callG Try.prog 14 #[] w fun t26_1 w =>
  R t26_1 w)
  (callG Try.prog 21 #[x1] w fun t23 w =>
  qG Try.prog (Op.unary .not t23) w fun t24 =>
  bV t24
  (callG Try.prog 14 #[] w fun t26_2 w =>
  R t26_2 w)
  (law06_EntryHolds_s1 R x1 t2 w)))

theorem law06_EntryHolds_s2_eq (R : Value → World → Prop) : ∀ e w, lift Try.prog 104 (bodyOf Try.f5) (finK Try.prog Try.f5.results.toList R) e w = law06_EntryHolds_s2 R (e 0) (e 1) w :=
  segs_eq (l := [(sub (bodyOf Try.f5) [0]), (sub (bodyOf Try.f5) [1, 0])]) (y := (sub (bodyOf Try.f5) [1, 1])) (Y := (fun e w => law06_EntryHolds_s1 R (e 1) (e 2) w)) (law06_EntryHolds_s1_eq R) (fun e w => by kernel_rfl)

def law06_EntryHolds (R : Value → World → Prop) (x0 x1 : Value) (w : World) : Prop := law06_EntryHolds_s2 R x0 x1 w
theorem law06_EntryHolds_call {R : Value → World → Prop} {x0 x1 : Value} {w : World} (h : law06_EntryHolds R x0 x1 w) : callG Try.prog 5 #[x0, x1] w R :=
  calls_lift_eq Try.mixed Try.func5 (args := [x0, x1]) rfl rfl rfl rfl ((law06_EntryHolds_s2_eq R) (envOf [x0, x1]) w) (by kernel_rfl) h
/-! quayside/quaysidelaw06.EntryMoves -/
def law06_EntryMoves_s0 (R : Value → World → Prop) (x1 x2 x5 x6 : Value) (w : World) : Prop :=
  ldn 6 x2 w fun t54 =>
  callG Try.prog 33 #[t54] w fun t55 w =>
  callG Try.prog 31 #[t55] w fun t56 w =>
  qG Try.prog (Instr.extract t56 0) w fun t57 =>
  qG Try.prog (Instr.extract t56 1) w fun t58 =>
  newG (zc Try.prog 50) 50 w fun t9 w =>
  stn 6 t9 t57 w fun w =>
  qG Try.prog (bq .neq 26 (.tmp 59) (.const (.int .i64 0)) t58 (.int .i64 0)) w fun t60 =>
  bV t60
  (qG Try.prog (bq .neq 26 (.tmp 67) (.const (.int .i64 0)) x6 (.int .i64 0)) w fun t68 =>
  bV t68
  (callG Try.prog 14 #[] w fun t77 w =>
  R t77 w)
  (ldn 6 x5 w fun t70 =>
  callG Try.prog 33 #[t70] w fun t71 w =>
  callG Try.prog 24 #[t71, x1] w fun t73 w =>
  bV t73
  (callG Try.prog 14 #[] w fun t77_1 w =>
  R t77_1 w)
  (R (.bool false) w)))
  (ldn 6 t9 w fun t62 =>
  ldn 6 x2 w fun t63 =>
  qG Try.prog (bq .eql 50 (.tmp 62) (.tmp 63) t62 t63) w fun t64 =>
  bV t64
  (qG Try.prog (bq .neq 26 (.tmp 67) (.const (.int .i64 0)) x6 (.int .i64 0)) w fun t68_1 =>
  bV t68_1
  (callG Try.prog 14 #[] w fun t77_2 w =>
  R t77_2 w)
  (ldn 6 x5 w fun t70_1 =>
  callG Try.prog 33 #[t70_1] w fun t71_1 w =>
  callG Try.prog 24 #[t71_1, x1] w fun t73_1 w =>
  bV t73_1
  (callG Try.prog 14 #[] w fun t77_3 w =>
  R t77_3 w)
  (R (.bool false) w)))
  (R (.bool false) w))

theorem law06_EntryMoves_s0_eq (R : Value → World → Prop) : ∀ e w, lift Try.prog 79 (sub (bodyOf Try.f7) [1, 1, 1, 1, 1]) (finK Try.prog Try.f7.results.toList R) e w = law06_EntryMoves_s0 R (e 1) (e 2) (e 5) (e 6) w := fun e w => by kernel_rfl

def law06_EntryMoves_s1 (R : Value → World → Prop) (x1 x2 : Value) (w : World) : Prop :=
  callG Try.prog 31 #[x1] w fun t29 w =>
  qG Try.prog (Instr.extract t29 0) w fun t30 =>
  qG Try.prog (Instr.extract t29 1) w fun t31 =>
  newG (zc Try.prog 50) 50 w fun t5 w =>
  stn 6 t5 t30 w fun w =>
  callG Try.prog 32 #[x1] w fun t34 w =>
  qG Try.prog (Instr.extract t34 0) w fun t35 =>
  qG Try.prog (Instr.extract t34 1) w fun t36 =>
  newG (zc Try.prog 50) 50 w fun t7 w =>
  stn 6 t7 t35 w fun w =>
  ldn 6 x2 (World.drew w) fun t37 =>
  ldn 6 x2 (World.drew w) fun t39 =>
  callG Try.prog 33 #[t37] (World.drew w) fun t38 w =>
  ldn 6 x2 w (fun u => u = t39) ∧
  callG Try.prog 34 #[t39] w fun t40 w =>
  callG Try.prog 24 #[t38, t40] w fun t41 w =>
  qG Try.prog (Op.unary .not t41) w fun t42 =>
  bV t42
  (R (.bool false) w)
  (ldn 6 t5 w fun t44 =>
  ldn 6 t7 w fun t45 =>
  qG Try.prog (bq .neq 50 (.tmp 44) (.tmp 45) t44 t45) w fun t46 =>
  bV t46
  (R (.bool false) w)
  (qG Try.prog (bq .neq 26 (.tmp 49) (.tmp 50) t31 t36) w fun t51 =>
  bV t51
  (R (.bool false) w)
  (law06_EntryMoves_s0 R x1 x2 t5 t31 w)))

theorem law06_EntryMoves_s1_eq (R : Value → World → Prop) : ∀ e w, lift Try.prog 79 (sub (bodyOf Try.f7) [1, 1]) (finK Try.prog Try.f7.results.toList R) e w = law06_EntryMoves_s1 R (e 1) (e 2) w :=
  segs_eq (l := [(sub (bodyOf Try.f7) [1, 1, 0]), (sub (bodyOf Try.f7) [1, 1, 1, 0]), (sub (bodyOf Try.f7) [1, 1, 1, 1, 0])]) (y := (sub (bodyOf Try.f7) [1, 1, 1, 1, 1])) (Y := (fun e w => law06_EntryMoves_s0 R (e 1) (e 2) (e 5) (e 6) w)) (law06_EntryMoves_s0_eq R) (fun e w => by kernel_rfl)

def law06_EntryMoves_s2 (R : Value → World → Prop) (x0 x1 : Value) (w : World) : Prop :=
  newG (Value.cells x0) 50 w fun t2 w =>
  fa 1 t2 fun t11 =>
  ld1 t11 w fun t12 =>
  lenS t12 fun t13 =>
  qG Try.prog (bq .gtr 3 (.tmp 13) (.const (.int .i64 200)) t13 (.int .i64 200)) w fun t14 =>
  bV t14
  (callG Try.prog 14 #[] w fun t26 w =>
  R t26 w)
  (fa 2 t2 fun t16 =>
  ld1 t16 w fun t17 =>
  lenS t17 fun t18 =>
  qG Try.prog (bq .gtr 3 (.tmp 18) (.const (.int .i64 200)) t18 (.int .i64 200)) w fun t19 =>
  bV t19
  (callG Try.prog 14 #[] w fun t26_1 w =>
  R t26_1 w)
  (callG Try.prog 21 #[x1] w fun t23 w =>
  qG Try.prog (Op.unary .not t23) w fun t24 =>
  bV t24
  (callG Try.prog 14 #[] w fun t26_2 w =>
  R t26_2 w)
  (law06_EntryMoves_s1 R x1 t2 w)))

theorem law06_EntryMoves_s2_eq (R : Value → World → Prop) : ∀ e w, lift Try.prog 79 (bodyOf Try.f7) (finK Try.prog Try.f7.results.toList R) e w = law06_EntryMoves_s2 R (e 0) (e 1) w :=
  segs_eq (l := [(sub (bodyOf Try.f7) [0]), (sub (bodyOf Try.f7) [1, 0])]) (y := (sub (bodyOf Try.f7) [1, 1])) (Y := (fun e w => law06_EntryMoves_s1 R (e 1) (e 2) w)) (law06_EntryMoves_s1_eq R) (fun e w => by kernel_rfl)

def law06_EntryMoves (R : Value → World → Prop) (x0 x1 : Value) (w : World) : Prop := law06_EntryMoves_s2 R x0 x1 w
theorem law06_EntryMoves_call {R : Value → World → Prop} {x0 x1 : Value} {w : World} (h : law06_EntryMoves R x0 x1 w) : callG Try.prog 7 #[x0, x1] w R :=
  calls_lift_eq Try.mixed Try.func7 (args := [x0, x1]) rfl rfl rfl rfl ((law06_EntryMoves_s2_eq R) (envOf [x0, x1]) w) (by kernel_rfl) h
end Go.Proofs

/- Layer 6: the laws. -/
set_option linter.unusedVariables false
set_option linter.unusedSimpArgs false
namespace Go.Proofs
open Go Go.Q
theorem boxG {z c : Array Value} {T : TypeId} {k : Nat} {w : World} {K : Value → World → Prop} (hz : z.size = k) (hc : c.size = k) (ho : c.all (fun a => one a) 0 k = true)
    (h : ∀ b w1, w.heap.size ≤ b → w1.heap[b]? = some (.cells c T) → Kp [] w w1 → K (.pointer (some ⟨b, 0, none⟩)) w1) : newG z T w fun p w => stn k p (.agg c) w fun w => K p w := by
  simp [-getElem?_pos, -Array.all_eq_true, -Array.getElem?_eq_getElem, -List.length_flatten, List.getElem?_cons_zero, List.getElem?_cons_succ, heap_new, hz, hc]
  refine ⟨ho, ?_⟩
  rw [splice_all (by omega)]
  exact h _ _ (Nat.le_refl _) heap_new kp_alloc
theorem ldAll {b k : Nat} {c : Array Value} {T : TypeId} {w : World} (h : w.heap[b]? = some (.cells c T)) (hc : c.size = k) {K : Value → Prop} : ldn k (.pointer (some ⟨b, 0, none⟩)) w K = K (.agg c) := by
  simp [-getElem?_pos, -Array.all_eq_true, -Array.getElem?_eq_getElem, -List.length_flatten, List.getElem?_cons_zero, List.getElem?_cons_succ, h, hc]
  subst hc
  rw [Array.extract_size]
def hC (h : HV) : List Value := [.int .i64 h.id, .string (str h.sku), .string (str h.loc), .int .i64 h.q, .int .i64 h.st, .int .i64 h.due]
def sC (s : SV) : List Value := [.string (str s.sku), .string (str s.loc), .int .i64 s.hand, .int .i64 s.held]
theorem op_inj {a b : OpV} : eqC (opC a) (opC b) = decide (a = b) := by
  obtain ⟨k, sku, loc, to, q, id, due⟩ := a
  obtain ⟨k', sku', loc', to', q', id', due'⟩ := b
  simp only [opC, eqC_cons, eqC_nil, eqV_int, eqV_str, str_eq, OpV.mk.injEq]
  simp [Bool.decide_and]
theorem hv_inj {a b : HV} : eqC [.int .i64 a.id, .string (str a.sku), .string (str a.loc), .int .i64 a.q, .int .i64 a.st, .int .i64 a.due] [.int .i64 b.id, .string (str b.sku), .string (str b.loc), .int .i64 b.q, .int .i64 b.st, .int .i64 b.due] = decide (a = b) := by
  obtain ⟨k, sku, loc, to, q, id⟩ := a
  obtain ⟨k', sku', loc', to', q', id'⟩ := b
  simp only [eqC_cons, eqC_nil, eqV_int, eqV_str, str_eq, HV.mk.injEq]
  simp [Bool.decide_and]
theorem sv_inj {a b : SV} : eqC [.string (str a.sku), .string (str a.loc), .int .i64 a.hand, .int .i64 a.held] [.string (str b.sku), .string (str b.loc), .int .i64 b.hand, .int .i64 b.held] = decide (a = b) := by
  obtain ⟨k, sku, loc, to⟩ := a
  obtain ⟨k', sku', loc', to'⟩ := b
  simp only [eqC_cons, eqC_nil, eqV_int, eqV_str, str_eq, SV.mk.injEq]
  simp [Bool.decide_and]
section
variable {w : World} {xo yo : Operand} {K : Value → Prop}
theorem op_eql {a b : OpV} : qG Try.prog (bq .eql 23 xo yo (opA a) (opA b)) w K = K (.bool (decide (a = b))) := by
  rw [← op_inj]; exact bq_aggeql (xs := opC a) (ys := opC b) eqOp
theorem op_neq {a b : OpV} : qG Try.prog (bq .neq 23 xo yo (opA a) (opA b)) w K = K (.bool !decide (a = b)) := by
  rw [← op_inj]; exact bq_aggneq (xs := opC a) (ys := opC b) eqOp
theorem hold_eql {a b : HV} : qG Try.prog (bq .eql 34 xo yo (hA a) (hA b)) w K = K (.bool (decide (a = b))) := by
  rw [← hv_inj]; exact bq_aggeql eqHold
theorem hold_neq {a b : HV} : qG Try.prog (bq .neq 34 xo yo (hA a) (hA b)) w K = K (.bool !decide (a = b)) := by
  rw [← hv_inj]; exact bq_aggneq eqHold
theorem move_eql {a b : HV} : qG Try.prog (bq .eql 50 xo yo (hA a) (hA b)) w K = K (.bool (decide (a = b))) := by
  rw [← hv_inj]; exact bq_aggeql eqMove
theorem move_neq {a b : HV} : qG Try.prog (bq .neq 50 xo yo (hA a) (hA b)) w K = K (.bool !decide (a = b)) := by
  rw [← hv_inj]; exact bq_aggneq eqMove
theorem stock_eql {a b : SV} : qG Try.prog (bq .eql 44 xo yo (sA a) (sA b)) w K = K (.bool (decide (a = b))) := by
  rw [← sv_inj]; exact bq_aggeql eqStock
theorem stock_neq {a b : SV} : qG Try.prog (bq .neq 44 xo yo (sA a) (sA b)) w K = K (.bool !decide (a = b)) := by
  rw [← sv_inj]; exact bq_aggneq eqStock
end

theorem boxOp {z : Array Value} {o : OpV} {w : World} {K : Value → World → Prop} (hz : z.size = 7)
    (h : ∀ b w1, w.heap.size ≤ b → w1.heap[b]? = some (.cells (opC o).toArray 23) → Kp [] w w1 → K (.pointer (some ⟨b, 0, none⟩)) w1) : newG z 23 w fun p w => stn 7 p (opA o) w fun w => K p w :=
  boxG hz rfl (by simp [one]) h
theorem ldOp {b : Nat} {o : OpV} {w : World} (h : w.heap[b]? = some (.cells (opC o).toArray 23)) {K : Value → Prop} : ldn 7 (.pointer (some ⟨b, 0, none⟩)) w K = K (opA o) := ldAll h rfl
def o0 : OpV := ⟨2, [115], [108], [], 3, 0, 9⟩
def h0 : HV := ⟨1, [115], [108], 3, 0, 0⟩
theorem o0_ok : o0.ok = true := by decide +kernel
theorem o0_wf : o0.Wf := by constructor <;> decide
theorem boxHold {z : Array Value} {o : HV} {w : World} {K : Value → World → Prop} (hz : z.size = 6)
    (h : ∀ b w1, w.heap.size ≤ b → w1.heap[b]? = some (.cells (hC o).toArray 34) → Kp [] w w1 → K (.pointer (some ⟨b, 0, none⟩)) w1) : newG z 34 w fun p w => stn 6 p (hA o) w fun w => K p w :=
  boxG hz rfl (by simp [one]) h
theorem ldHold {b : Nat} {o : HV} {w : World} {T : TypeId} (h : w.heap[b]? = some (.cells (hC o).toArray T)) {K : Value → Prop} : ldn 6 (.pointer (some ⟨b, 0, none⟩)) w K = K (hA o) := ldAll h rfl
theorem boxMove {z : Array Value} {o : HV} {w : World} {K : Value → World → Prop} (hz : z.size = 6)
    (h : ∀ b w1, w.heap.size ≤ b → w1.heap[b]? = some (.cells (hC o).toArray 50) → Kp [] w w1 → K (.pointer (some ⟨b, 0, none⟩)) w1) : newG z 50 w fun p w => stn 6 p (hA o) w fun w => K p w :=
  boxG hz rfl (by simp [one]) h
theorem boxStock {z : Array Value} {o : SV} {w : World} {K : Value → World → Prop} (hz : z.size = 4)
    (h : ∀ b w1, w.heap.size ≤ b → w1.heap[b]? = some (.cells (sC o).toArray 44) → Kp [] w w1 → K (.pointer (some ⟨b, 0, none⟩)) w1) : newG z 44 w fun p w => stn 4 p (sA o) w fun w => K p w :=
  boxG hz rfl (by simp [one]) h
theorem ldStock {b : Nat} {o : SV} {w : World} {T : TypeId} (h : w.heap[b]? = some (.cells (sC o).toArray T)) {K : Value → Prop} : ldn 4 (.pointer (some ⟨b, 0, none⟩)) w K = K (sA o) := ldAll h rfl
theorem putOp_len (o : OpV) : (putOp o).1.length < 2 ^ 39 := by
  unfold putOp
  split
  · have := putRow_len (r := opRow o) (by simp [opRow])
    omega
  · simp
theorem v0_eql {x : V3} {w : World} {xo yo : Operand} {K : Value → Prop} : qG Try.prog (bq .eql 79 xo yo (.agg #[.int .i64 x.k, .int .i64 x.n, .string (str x.s)]) (.agg #[.int .i64 0, .int .i64 0, .string (str [])])) w K = K (.bool (decide (x = v0))) := by
  rw [bq_aggeql (xs := [.int .i64 x.k, .int .i64 x.n, .string (str x.s)]) (ys := [.int .i64 0, .int .i64 0, .string (str [])]) eqVal]
  simp only [eqC_cons, eqC_nil, eqV_int, eqV_str, str_eq]
  obtain ⟨k, n, s⟩ := x
  simp only [v0, V3.mk.injEq]
  simp [Bool.decide_and]
theorem awake_spec {w : World} {K : Value → World → Prop} (hK : ∀ w', Kp [] w w' → K (.bool true) w') : callG Try.prog 14 #[] w K := by
  refine law06_awake_call ?_
  unfold law06_awake law06_awake_s0
  rw [zcOp, zcHold]
  simp [-getElem?_pos, -Array.all_eq_true, -Array.getElem?_eq_getElem, -List.length_flatten, List.getElem?_cons_zero, List.getElem?_cons_succ, bld_done, bld_if, offAt, putAt, -newG_k, -stn_p, -ldn_p]
  refine boxOp (o := o0) rfl fun b1 w1 hb1 hh1 hk1 => ?_
  rw [ldOp hh1]
  refine PutOp_spec o0 o0_wf fun w2 hk2 => ?_
  have e2 : (putOp o0).2 = 0 := by rw [putOp_ok o0_ok]
  rw [e2]
  simp [-getElem?_pos, -Array.all_eq_true, -Array.getElem?_eq_getElem, -List.length_flatten, List.getElem?_cons_zero, List.getElem?_cons_succ, -newG_k, -stn_p, -ldn_p]
  refine TakeOp_spec (putOp o0).1 (putOp_len o0) fun w3 hk3 => ?_
  rw [take_putOp o0_ok o0_wf]
  simp [-getElem?_pos, -Array.all_eq_true, -Array.getElem?_eq_getElem, -List.length_flatten, List.getElem?_cons_zero, List.getElem?_cons_succ, -newG_k, -stn_p, -ldn_p]
  refine boxOp (o := o0) rfl fun b4 w4 hb4 hh4 hk4 => ?_
  refine HoldRow_spec h0 fun v w5 hk5 hr5 => ?_
  have er : rowH stateT h0 = [numV 1, textV [115], textV [108], numV 3, textV [97, 99, 116, 105, 118, 101], v0] := by decide +kernel
  refine RowHold_spec hr5 (by rw [er]; decide) fun w6 hk6 => ?_
  have et : takeH stateT 2 (rowH stateT h0) = (h0, 0) := by rw [take_rowH (fun n => state_of), if_pos (by decide +kernel)]
  rw [et]
  simp [-getElem?_pos, -Array.all_eq_true, -Array.getElem?_eq_getElem, -List.length_flatten, List.getElem?_cons_zero, List.getElem?_cons_succ, -newG_k, -stn_p, -ldn_p]
  refine boxHold (o := h0) rfl fun b7 w7 hb7 hh7 hk7 => ?_
  have hh47 := hk7.get (hk6.get (hk5.get hh4 (by simp)) (by simp)) (by simp)
  have hk17 := ((((hk2.trans' hk3).trans' hk4).trans' hk5).trans' hk6).trans' hk7
  have hh17 := hk17.get hh1 (by simp)
  have hr7 := hr5.keep (hk6.trans' hk7)
  rw [er] at hr7
  obtain ⟨p5, ip5, lp5⟩ := rd_val hr7 (i := 5) (by decide)
  have lp5' : ∀ K : Value → Prop, ldn 3 p5 w7 K = K (.agg #[.int .i64 v0.k, .int .i64 v0.n, .string (str v0.s)]) := lp5
  have ip5' : ∀ K : Value → Prop, ia 3 v (.int .i64 5) K = K p5 := fun K => ip5 .i64 K
  rw [ldOp hh47, ldOp hh17, op_eql]
  simp [-getElem?_pos, -Array.all_eq_true, -Array.getElem?_eq_getElem, -List.length_flatten, List.getElem?_cons_zero, List.getElem?_cons_succ, -newG_k, -stn_p, -ldn_p, hr7.lenL, ip5', lp5', zcVl, str_nil, v0_eql, ldOp hh17, hh7, hC, h0]
  refine CheckOp_spec o0 fun w8 hk8 => ?_
  rw [o0_ok]
  have := hK w8 ((hk1.trans' hk17).trans' hk8)
  simp [-getElem?_pos, -Array.all_eq_true, -Array.getElem?_eq_getElem, -List.length_flatten, List.getElem?_cons_zero, List.getElem?_cons_succ, this]
end Go.Proofs

/- Layer 6: the laws, each whatever it is given. -/
set_option linter.unusedVariables false
set_option linter.unusedSimpArgs false
namespace Go.Proofs
open Go Go.Q
theorem argBox {cs : List Value} {T : TypeId} {w : World} {K : Value → World → Prop} (h : ∀ b w1, w.heap.size ≤ b → w1.heap[b]? = some (.cells cs.toArray T) → Kp [] w w1 → K (.pointer (some ⟨b, 0, none⟩)) w1) :
    newG (Value.cells (.agg cs.toArray)) T w K := h _ _ (Nat.le_refl _) heap_new kp_alloc
theorem lightOp_spec {w : World} (o : OpV) {K : Value → World → Prop} (hK : ∀ b w', Kp [] w w' → K (.bool b) w') : callG Try.prog 13 #[opA o] w K := by
  refine ref06_Light_call ?_
  unfold ref06_Light ref06_Light_s0
  refine argBox (cs := opC o) fun b w1 hb hh hk => ?_
  simp [-getElem?_pos, -Array.all_eq_true, -Array.getElem?_eq_getElem, -List.length_flatten, List.getElem?_cons_zero, List.getElem?_cons_succ, hh, opC]
  refine ⟨fun _ => ⟨fun _ => ?_, fun _ => hK _ _ hk⟩, fun _ => hK _ _ hk⟩
  exact hK _ _ hk
theorem puts_spec {w : World} (o : OpV) (hw : o.Wf) {K : Value → World → Prop} (hK : ∀ w', Kp [] w w' → K (.bool true) w') : callG Try.prog 3 #[opA o] w K := by
  refine law06_EntryPuts_call ?_
  unfold law06_EntryPuts law06_EntryPuts_s1
  refine argBox (cs := opC o) fun b1 w1 hb1 hh1 hk1 => ?_
  rw [ldOp hh1]
  refine lightOp_spec o fun l w2 hk2 => ?_
  have hk02 := hk1.trans' hk2
  cases l with
  | false => simp [-getElem?_pos, -Array.all_eq_true, -Array.getElem?_eq_getElem, -List.length_flatten, List.getElem?_cons_zero, List.getElem?_cons_succ, -newG_k, -stn_p, -ldn_p]; exact awake_spec fun w' hk => hK w' (hk02.trans' hk)
  | true =>
  have hh2 := hk2.get hh1 (by simp)
  simp [-getElem?_pos, -Array.all_eq_true, -Array.getElem?_eq_getElem, -List.length_flatten, List.getElem?_cons_zero, List.getElem?_cons_succ, -newG_k, -stn_p, -ldn_p, ldOp hh2]
  refine PutOp_spec o hw fun w3 hk3 => ?_
  have hh3 := hk3.get hh2 (by simp)
  simp [-getElem?_pos, -Array.all_eq_true, -Array.getElem?_eq_getElem, -List.length_flatten, List.getElem?_cons_zero, List.getElem?_cons_succ, -newG_k, -stn_p, -ldn_p, ldOp hh3]
  refine refPutOp_spec o hw fun w4 hk4 => ?_
  have hh4 := (hk4.trans' kp_drew).get hh3 (by simp)
  simp [-getElem?_pos, -Array.all_eq_true, -Array.getElem?_eq_getElem, -List.length_flatten, List.getElem?_cons_zero, List.getElem?_cons_succ, -newG_k, -stn_p, -ldn_p, ldOp hh4]
  refine CheckOp_spec o fun w5 hk5 => ?_
  have hh5 := hk5.get hh4 (by simp)
  simp [-getElem?_pos, -Array.all_eq_true, -Array.getElem?_eq_getElem, -List.length_flatten, List.getElem?_cons_zero, List.getElem?_cons_succ, -newG_k, -stn_p, -ldn_p, ldOp hh5]
  refine refCheckOp_spec o fun w6 hk6 => ?_
  have hh6 := hk6.get hh5 (by simp)
  have hk06 := (((hk02.trans' hk3).trans' (hk4.trans' kp_drew)).trans' hk5).trans' hk6
  simp [-getElem?_pos, -Array.all_eq_true, -Array.getElem?_eq_getElem, -List.length_flatten, List.getElem?_cons_zero, List.getElem?_cons_succ, -newG_k, -stn_p, -ldn_p]
  unfold law06_EntryPuts_s0
  cases ho : o.ok with
  | false =>
    have e : (putOp o).2 = 1 := by simp [putOp, ho]
    rw [e]
    simp [-getElem?_pos, -Array.all_eq_true, -Array.getElem?_eq_getElem, -List.length_flatten, List.getElem?_cons_zero, List.getElem?_cons_succ, -newG_k, -stn_p, -ldn_p]
    exact awake_spec fun w' hk => hK w' (hk06.trans' hk)
  | true =>
    have e : (putOp o).2 = 0 := by rw [putOp_ok ho]
    rw [e]
    simp [-getElem?_pos, -Array.all_eq_true, -Array.getElem?_eq_getElem, -List.length_flatten, List.getElem?_cons_zero, List.getElem?_cons_succ, -newG_k, -stn_p, -ldn_p]
    refine TakeOp_spec (putOp o).1 (putOp_len o) fun w7 hk7 => ?_
    rw [take_putOp ho hw]
    simp [-getElem?_pos, -Array.all_eq_true, -Array.getElem?_eq_getElem, -List.length_flatten, List.getElem?_cons_zero, List.getElem?_cons_succ, -newG_k, -stn_p, -ldn_p]
    refine boxOp (o := o) (by rw [zcOp]; rfl) fun b8 w8 hb8 hh8 hk8 => ?_
    have hh18 := (hk7.trans' hk8).get hh6 (by simp)
    rw [ldOp hh8, ldOp hh18, op_eql]
    simp [-getElem?_pos, -Array.all_eq_true, -Array.getElem?_eq_getElem, -List.length_flatten, List.getElem?_cons_zero, List.getElem?_cons_succ, -newG_k, -stn_p, -ldn_p]
    exact awake_spec fun w' hk => hK w' (((hk06.trans' hk7).trans' hk8).trans' hk)
theorem takes_spec {w : World} (s : List UInt8) {K : Value → World → Prop} (hK : ∀ w', Kp [] w w' → K (.bool true) w') : callG Try.prog 4 #[.string (str s)] w K := by
  refine law06_EntryTakes_call ?_
  unfold law06_EntryTakes law06_EntryTakes_s1
  simp [-getElem?_pos, -Array.all_eq_true, -Array.getElem?_eq_getElem, -List.length_flatten, List.getElem?_cons_zero, List.getElem?_cons_succ, -newG_k, -stn_p, -ldn_p]
  refine ⟨fun _ => awake_spec hK, fun hl => ?_⟩
  have hl : s.length < 2 ^ 39 := by omega
  refine TakeOp_spec s hl fun w1 hk1 => ?_
  simp [-getElem?_pos, -Array.all_eq_true, -Array.getElem?_eq_getElem, -List.length_flatten, List.getElem?_cons_zero, List.getElem?_cons_succ, -newG_k, -stn_p, -ldn_p]
  refine boxOp (o := (takeOp s).1) (by rw [zcOp]; rfl) fun b2 w2 hb2 hh2 hk2 => ?_
  refine refTakeOp_spec s hl fun w3 hk3 => ?_
  simp [-getElem?_pos, -Array.all_eq_true, -Array.getElem?_eq_getElem, -List.length_flatten, List.getElem?_cons_zero, List.getElem?_cons_succ, -newG_k, -stn_p, -ldn_p]
  refine boxOp (o := (takeOp s).1) (by rw [zcOp]; rfl) fun b4 w4 hb4 hh4 hk4 => ?_
  have hh24 := (hk3.trans' hk4).get hh2 (by simp)
  have hk04 := ((hk1.trans' hk2).trans' hk3).trans' hk4
  rw [ldOp hh24, ldOp hh4, op_neq]
  simp [-getElem?_pos, -Array.all_eq_true, -Array.getElem?_eq_getElem, -List.length_flatten, List.getElem?_cons_zero, List.getElem?_cons_succ, -newG_k, -stn_p, -ldn_p]
  unfold law06_EntryTakes_s0
  by_cases he : (takeOp s).2 = 0
  · obtain ⟨hp, ho, hw⟩ := put_takeOp he
    rw [he]
    simp [-getElem?_pos, -Array.all_eq_true, -Array.getElem?_eq_getElem, -List.length_flatten, List.getElem?_cons_zero, List.getElem?_cons_succ, -newG_k, -stn_p, -ldn_p, ldOp hh24]
    refine PutOp_spec (takeOp s).1 hw fun w5 hk5 => ?_
    rw [hp]
    simp [-getElem?_pos, -Array.all_eq_true, -Array.getElem?_eq_getElem, -List.length_flatten, List.getElem?_cons_zero, List.getElem?_cons_succ, -newG_k, -stn_p, -ldn_p]
    exact awake_spec fun w' hk => hK w' ((hk04.trans' hk5).trans' hk)
  · simp [-getElem?_pos, -Array.all_eq_true, -Array.getElem?_eq_getElem, -List.length_flatten, List.getElem?_cons_zero, List.getElem?_cons_succ, -newG_k, -stn_p, -ldn_p, he]
    exact awake_spec fun w' hk => hK w' (hk04.trans' hk)
theorem light_spec {w : World} {v : Value} {r : List V3} (hr : Rd w v 3 (r.map valV)) {K : Value → World → Prop} (hK : ∀ b, (b = true → r.length ≤ 20) → K (.bool b) w) : callG Try.prog 21 #[v] w K := by
  refine law06_light_call ?_
  simp only [law06_light, law06_light_s5, law06_light_s4]
  unfold law06_light_L3
  have fin : law06_light_s0 K v w := by
    unfold law06_light_s0
    simp [-getElem?_pos, -Array.all_eq_true, -Array.getElem?_eq_getElem, -List.length_flatten, List.getElem?_cons_zero, List.getElem?_cons_succ, hr.lenL, -newG_k, -stn_p, -ldn_p]
    exact hK _ (by simp; omega)
  refine loop_inv (fun m xs wi => ∃ i, i ≤ 20 ∧ m = 20 - i ∧ xs = [v, .int .i64 (i : Nat)] ∧ wi = w) ?_ (m := 20) ⟨0, by omega, rfl, rfl, rfl⟩
  rintro m N xs wi ⟨i, hi, rfl, rfl, rfl⟩ hN
  unfold law06_light_L3F law06_light_s2
  simp [-getElem?_pos, -Array.all_eq_true, -Array.getElem?_eq_getElem, -List.length_flatten, List.getElem?_cons_zero, List.getElem?_cons_succ, hr.lenL, -newG_k, -stn_p, -ldn_p]
  refine ⟨fun h1 => ⟨fun h2 => ?_, fun _ => fin⟩, fun _ => fin⟩
  obtain ⟨bl, o, c, T, fr, h0, h3, q0, q1, q2⟩ := rd_cells hr (i := i) (by omega)
  have hiw : IntKind.i64.wrap ((i : Int) + 1) = ((i + 1 : Nat) : Int) := by rw [w64 (by omega) (by omega)]; simp
  unfold law06_light_s1
  rw [h3]
  simp [-getElem?_pos, -Array.all_eq_true, -Array.getElem?_eq_getElem, -List.length_flatten, List.getElem?_cons_zero, List.getElem?_cons_succ, h0, q2, hiw]
  exact ⟨fun _ => hK _ (by simp), fun _ => hN (20 - (i + 1)) _ _ (by omega) ⟨i + 1, by omega, rfl, rfl, rfl⟩⟩
theorem lenS (s : SV) : (rowS s).length ≤ 4 := by simp [rowS]
theorem lenH (txt : Int → List UInt8) (h : HV) : (rowH txt h).length ≤ 6 := by unfold rowH; split <;> simp
theorem stocks_spec {w : World} (h : SV) {v : Value} {r : List V3} (hr : Rd w v 3 (r.map valV)) {K : Value → World → Prop} (hK : ∀ w', Kp [] w w' → K (.bool true) w') : callG Try.prog 6 #[sA h, v] w K := by
  refine law06_EntryStocks_call ?_
  unfold law06_EntryStocks law06_EntryStocks_s2
  refine argBox (cs := sC h) fun b1 w1 hb1 hh1 hk1 => ?_
  simp [-getElem?_pos, -Array.all_eq_true, -Array.getElem?_eq_getElem, -List.length_flatten, List.getElem?_cons_zero, List.getElem?_cons_succ, -newG_k, -stn_p, -ldn_p, hh1, sC]
  refine ⟨fun _ => awake_spec fun w' hk => hK w' (hk1.trans' hk), fun hs => ⟨fun _ => awake_spec fun w' hk => hK w' (hk1.trans' hk), fun hl => ?_⟩⟩
  have hr1 := hr.keep hk1
  refine light_spec hr1 fun l hlen => ?_
  cases l with
  | false => simp [-getElem?_pos, -Array.all_eq_true, -Array.getElem?_eq_getElem, -List.length_flatten, List.getElem?_cons_zero, List.getElem?_cons_succ, -newG_k, -stn_p, -ldn_p]; exact awake_spec fun w' hk => hK w' (hk1.trans' hk)
  | true =>
  simp [-getElem?_pos, -Array.all_eq_true, -Array.getElem?_eq_getElem, -List.length_flatten, List.getElem?_cons_zero, List.getElem?_cons_succ, -newG_k, -stn_p, -ldn_p]
  have hlen := hlen rfl
  unfold law06_EntryStocks_s1
  refine RowStock_spec hr1 (by omega) fun w2 hk2 => ?_
  simp [-getElem?_pos, -Array.all_eq_true, -Array.getElem?_eq_getElem, -List.length_flatten, List.getElem?_cons_zero, List.getElem?_cons_succ, -newG_k, -stn_p, -ldn_p]
  refine boxStock (o := (takeS r).1) (by rw [zcStock]; rfl) fun b3 w3 hb3 hh3 hk3 => ?_
  have hr3 := hr1.keep (hk2.trans' hk3)
  refine refRowStock_spec hr3 (by omega) fun w4 hk4 => ?_
  simp [-getElem?_pos, -Array.all_eq_true, -Array.getElem?_eq_getElem, -List.length_flatten, List.getElem?_cons_zero, List.getElem?_cons_succ, -newG_k, -stn_p, -ldn_p]
  refine boxStock (o := (takeS r).1) (by rw [zcStock]; rfl) fun b5 w5 hb5 hh5 hk5 => ?_
  have hk35 := hk4.trans' hk5
  have hh35 := hk35.get hh3 (by simp)
  have hh15 := ((hk2.trans' hk3).trans' hk35).get hh1 (by simp)
  have hh15d := kp_drew.get hh15 (by simp)
  rw [ldStock hh15d, ldStock hh15d]
  refine StockRow_spec h fun va w6 hk6 hra => ?_
  rw [ldStock (hk6.get hh15d (by simp))]
  refine ⟨rfl, refStockRow_spec h fun vb w7 hk7 hrb => ?_⟩
  refine Same_spec (hra.keep hk7) hrb (Nat.lt_of_le_of_lt (lenS h) (by omega)) fun w8 hk8 => ?_
  have hk58 := ((kp_drew.trans' hk6).trans' hk7).trans' hk8
  have hh38 := hk58.get hh35 (by simp)
  have hh58 := hk58.get hh5 (by simp)
  have hh18 := hk58.get hh15 (by simp)
  have hr8 := hr3.keep (hk35.trans' hk58)
  have hk08 := (((hk1.trans' hk2).trans' hk3).trans' hk35).trans' hk58
  simp [-getElem?_pos, -Array.all_eq_true, -Array.getElem?_eq_getElem, -List.length_flatten, List.getElem?_cons_zero, List.getElem?_cons_succ, -newG_k, -stn_p, -ldn_p]
  rw [ldStock hh38, ldStock hh58, stock_neq]
  simp [-getElem?_pos, -Array.all_eq_true, -Array.getElem?_eq_getElem, -List.length_flatten, List.getElem?_cons_zero, List.getElem?_cons_succ, -newG_k, -stn_p, -ldn_p]
  have fin : ∀ w', Kp [] w8 w' → callG Try.prog 14 #[] w' fun t w => K t w := fun w' hk => awake_spec fun w'' hk' => hK w'' ((hk08.trans' hk).trans' hk')
  clear hK hk08 hk58 hh15d hh15 hh35 hh5 hh3 hh1 hrb hra hk1 hk2 hk3 hk4 hk5 hk6 hk7 hk8 hk35 hr1 hr3 hr
  unfold law06_EntryStocks_s0
  rw [ldStock hh18]
  refine StockRow_spec h fun vc w9 hk9 hrc => ?_
  refine RowStock_spec hrc (Nat.lt_of_le_of_lt (lenS h) (by omega)) fun w10 hk10 => ?_
  rw [take_rowS]
  simp [-getElem?_pos, -Array.all_eq_true, -Array.getElem?_eq_getElem, -List.length_flatten, List.getElem?_cons_zero, List.getElem?_cons_succ, -newG_k, -stn_p, -ldn_p]
  have hk810 := hk9.trans' hk10
  obtain ⟨x, hx⟩ : ∃ x, x = (if h.sku.length ≤ 64 ∧ h.loc.length ≤ 64 then (h, (0 : Int)) else (sZ, 50)) := ⟨_, rfl⟩
  rw [← hx]
  refine boxStock (o := x.1) (by rw [zcStock]; rfl) fun b11 w11 hb11 hh11 hk11 => ?_
  have hk811 := hk810.trans' hk11
  have hhb := hk811.get hh18 (by simp)
  have F : (¬(takeS r).2 = 0 → callG Try.prog 14 #[] w11 fun t92 w => K t92 w) ∧ ((takeS r).2 = 0 → ldn 4 (.pointer (some ⟨b3, 0, none⟩)) w11 fun t85 => callG Try.prog 29 #[t85] w11 fun t86 w => callG Try.prog 24 #[t86, v] w fun t88 w => bV t88 (callG Try.prog 14 #[] w fun t92 w => K t92 w) (K (.bool false) w)) := by
    refine ⟨fun _ => fin _ hk811, fun he => ?_⟩
    rw [ldStock (hk811.get hh38 (by simp))]
    refine StockRow_spec (takeS r).1 fun vd w12 hk12 hrd => ?_
    rw [row_takeS he] at hrd
    refine Same_spec hrd (hr8.keep (hk811.trans' hk12)) (by omega) fun w13 hk13 => ?_
    simp [-getElem?_pos, -Array.all_eq_true, -Array.getElem?_eq_getElem, -List.length_flatten, List.getElem?_cons_zero, List.getElem?_cons_succ, -newG_k, -stn_p, -ldn_p]
    exact fin _ ((hk811.trans' hk12).trans' hk13)
  have e11 := ldStock hh11 (K := fun _ => True)
  obtain ⟨hF, hG⟩ := F
  rcases Decidable.em (h.sku.length ≤ 64) with hA | hA <;> rcases Decidable.em (h.loc.length ≤ 64) with hB | hB
  all_goals
    simp only [hA, hB, and_self, and_true, and_false, false_and, if_true, if_false] at hx
    subst hx
    have hA' := hA
    have hB' := hB
    simp [-getElem?_pos, -Array.all_eq_true, -Array.getElem?_eq_getElem, -List.length_flatten, List.getElem?_cons_zero, List.getElem?_cons_succ, -newG_k, -stn_p, -ldn_p, hhb, sC, hA, hB, ldStock hh11, ldStock hhb, stock_eql]
    repeat' (first | exact ⟨hF, hG⟩ | (exfalso; omega) | intro _ | refine And.intro ?_ ?_)


theorem holds_spec {w : World} (h : HV) {v : Value} {r : List V3} (hr : Rd w v 3 (r.map valV)) {K : Value → World → Prop} (hK : ∀ w', Kp [] w w' → K (.bool true) w') : callG Try.prog 5 #[hA h, v] w K := by
  refine law06_EntryHolds_call ?_
  unfold law06_EntryHolds law06_EntryHolds_s2
  refine argBox (cs := hC h) fun b1 w1 hb1 hh1 hk1 => ?_
  simp [-getElem?_pos, -Array.all_eq_true, -Array.getElem?_eq_getElem, -List.length_flatten, List.getElem?_cons_zero, List.getElem?_cons_succ, -newG_k, -stn_p, -ldn_p, hh1, hC]
  refine ⟨fun _ => awake_spec fun w' hk => hK w' (hk1.trans' hk), fun hs => ⟨fun _ => awake_spec fun w' hk => hK w' (hk1.trans' hk), fun hl => ?_⟩⟩
  have hr1 := hr.keep hk1
  refine light_spec hr1 fun l hlen => ?_
  cases l with
  | false => simp [-getElem?_pos, -Array.all_eq_true, -Array.getElem?_eq_getElem, -List.length_flatten, List.getElem?_cons_zero, List.getElem?_cons_succ, -newG_k, -stn_p, -ldn_p]; exact awake_spec fun w' hk => hK w' (hk1.trans' hk)
  | true =>
  simp [-getElem?_pos, -Array.all_eq_true, -Array.getElem?_eq_getElem, -List.length_flatten, List.getElem?_cons_zero, List.getElem?_cons_succ, -newG_k, -stn_p, -ldn_p]
  have hlen := hlen rfl
  unfold law06_EntryHolds_s1
  refine RowHold_spec hr1 (by omega) fun w2 hk2 => ?_
  simp [-getElem?_pos, -Array.all_eq_true, -Array.getElem?_eq_getElem, -List.length_flatten, List.getElem?_cons_zero, List.getElem?_cons_succ, -newG_k, -stn_p, -ldn_p]
  refine boxHold (o := (takeH stateT 2 r).1) (by rw [zcHold]; rfl) fun b3 w3 hb3 hh3 hk3 => ?_
  have hr3 := hr1.keep (hk2.trans' hk3)
  refine refRowHold_spec hr3 (by omega) fun w4 hk4 => ?_
  simp [-getElem?_pos, -Array.all_eq_true, -Array.getElem?_eq_getElem, -List.length_flatten, List.getElem?_cons_zero, List.getElem?_cons_succ, -newG_k, -stn_p, -ldn_p]
  refine boxHold (o := (takeH stateT 2 r).1) (by rw [zcHold]; rfl) fun b5 w5 hb5 hh5 hk5 => ?_
  have hk35 := hk4.trans' hk5
  have hh35 := hk35.get hh3 (by simp)
  have hh15 := ((hk2.trans' hk3).trans' hk35).get hh1 (by simp)
  have hh15d := kp_drew.get hh15 (by simp)
  rw [ldHold hh15d, ldHold hh15d]
  refine HoldRow_spec h fun va w6 hk6 hra => ?_
  rw [ldHold (hk6.get hh15d (by simp))]
  refine ⟨rfl, refHoldRow_spec h fun vb w7 hk7 hrb => ?_⟩
  refine Same_spec (hra.keep hk7) hrb (Nat.lt_of_le_of_lt (lenH stateT h) (by omega)) fun w8 hk8 => ?_
  have hk58 := ((kp_drew.trans' hk6).trans' hk7).trans' hk8
  have hh38 := hk58.get hh35 (by simp)
  have hh58 := hk58.get hh5 (by simp)
  have hh18 := hk58.get hh15 (by simp)
  have hr8 := hr3.keep (hk35.trans' hk58)
  have hk08 := (((hk1.trans' hk2).trans' hk3).trans' hk35).trans' hk58
  simp [-getElem?_pos, -Array.all_eq_true, -Array.getElem?_eq_getElem, -List.length_flatten, List.getElem?_cons_zero, List.getElem?_cons_succ, -newG_k, -stn_p, -ldn_p]
  rw [ldHold hh38, ldHold hh58, hold_neq]
  simp [-getElem?_pos, -Array.all_eq_true, -Array.getElem?_eq_getElem, -List.length_flatten, List.getElem?_cons_zero, List.getElem?_cons_succ, -newG_k, -stn_p, -ldn_p]
  have fin : ∀ w', Kp [] w8 w' → callG Try.prog 14 #[] w' fun t w => K t w := fun w' hk => awake_spec fun w'' hk' => hK w'' ((hk08.trans' hk).trans' hk')
  clear hK hk08 hk58 hh15d hh15 hh35 hh5 hh3 hh1 hrb hra hk1 hk2 hk3 hk4 hk5 hk6 hk7 hk8 hk35 hr1 hr3 hr
  unfold law06_EntryHolds_s0
  rw [ldHold hh18]
  refine HoldRow_spec h fun vc w9 hk9 hrc => ?_
  refine RowHold_spec hrc (Nat.lt_of_le_of_lt (lenH stateT h) (by omega)) fun w10 hk10 => ?_
  rw [take_rowH (fun n => state_of)]
  simp [-getElem?_pos, -Array.all_eq_true, -Array.getElem?_eq_getElem, -List.length_flatten, List.getElem?_cons_zero, List.getElem?_cons_succ, -newG_k, -stn_p, -ldn_p]
  have hk810 := hk9.trans' hk10
  obtain ⟨x, hx⟩ : ∃ x, x = (if h.sku.length ≤ 64 ∧ h.loc.length ≤ 64 ∧ stateT h.st ≠ [] then (h, (0 : Int)) else (hZ, 50)) := ⟨_, rfl⟩
  rw [← hx]
  refine boxHold (o := x.1) (by rw [zcHold]; rfl) fun b11 w11 hb11 hh11 hk11 => ?_
  have hk811 := hk810.trans' hk11
  have hhb := hk811.get hh18 (by simp)
  have F : (¬(takeH stateT 2 r).2 = 0 → callG Try.prog 14 #[] w11 fun t92 w => K t92 w) ∧ ((takeH stateT 2 r).2 = 0 → ldn 6 (.pointer (some ⟨b3, 0, none⟩)) w11 fun t85 => callG Try.prog 25 #[t85] w11 fun t86 w => callG Try.prog 24 #[t86, v] w fun t88 w => bV t88 (callG Try.prog 14 #[] w fun t92 w => K t92 w) (K (.bool false) w)) := by
    refine ⟨fun _ => fin _ hk811, fun he => ?_⟩
    rw [ldHold (hk811.get hh38 (by simp))]
    refine HoldRow_spec (takeH stateT 2 r).1 fun vd w12 hk12 hrd => ?_
    rw [row_takeH he] at hrd
    refine Same_spec hrd (hr8.keep (hk811.trans' hk12)) (by omega) fun w13 hk13 => ?_
    simp [-getElem?_pos, -Array.all_eq_true, -Array.getElem?_eq_getElem, -List.length_flatten, List.getElem?_cons_zero, List.getElem?_cons_succ, -newG_k, -stn_p, -ldn_p]
    exact fin _ ((hk811.trans' hk12).trans' hk13)
  have e11 := ldHold hh11 (K := fun _ => True)
  obtain ⟨hF, hG⟩ := F
  have hst : stateT h.st ≠ [] ↔ 0 ≤ h.st ∧ h.st ≤ 2 := by
    unfold stateT
    split
    · simp; omega
    · split
      · simp; omega
      · split
        · simp; omega
        · simp; omega
  rcases Decidable.em (h.sku.length ≤ 64) with hA | hA <;> rcases Decidable.em (h.loc.length ≤ 64) with hB | hB <;> rcases Decidable.em (0 ≤ h.st) with hC0 | hC0 <;> rcases Decidable.em (h.st ≤ 2) with hD | hD
  all_goals
    simp only [hA, hB, hst, hC0, hD, and_self, and_true, and_false, false_and, if_true, if_false] at hx
    subst hx
    simp [-getElem?_pos, -Array.all_eq_true, -Array.getElem?_eq_getElem, -List.length_flatten, List.getElem?_cons_zero, List.getElem?_cons_succ, -newG_k, -stn_p, -ldn_p, hhb, hC, hA, hB, ldHold hh11, ldHold hhb, hold_eql]
    repeat' (first | exact ⟨hF, hG⟩ | (exfalso; omega) | intro _ | refine And.intro ?_ ?_)


theorem moves_spec {w : World} (h : HV) {v : Value} {r : List V3} (hr : Rd w v 3 (r.map valV)) {K : Value → World → Prop} (hK : ∀ w', Kp [] w w' → K (.bool true) w') : callG Try.prog 7 #[hA h, v] w K := by
  refine law06_EntryMoves_call ?_
  unfold law06_EntryMoves law06_EntryMoves_s2
  refine argBox (cs := hC h) fun b1 w1 hb1 hh1 hk1 => ?_
  simp [-getElem?_pos, -Array.all_eq_true, -Array.getElem?_eq_getElem, -List.length_flatten, List.getElem?_cons_zero, List.getElem?_cons_succ, -newG_k, -stn_p, -ldn_p, hh1, hC]
  refine ⟨fun _ => awake_spec fun w' hk => hK w' (hk1.trans' hk), fun hs => ⟨fun _ => awake_spec fun w' hk => hK w' (hk1.trans' hk), fun hl => ?_⟩⟩
  have hr1 := hr.keep hk1
  refine light_spec hr1 fun l hlen => ?_
  cases l with
  | false => simp [-getElem?_pos, -Array.all_eq_true, -Array.getElem?_eq_getElem, -List.length_flatten, List.getElem?_cons_zero, List.getElem?_cons_succ, -newG_k, -stn_p, -ldn_p]; exact awake_spec fun w' hk => hK w' (hk1.trans' hk)
  | true =>
  simp [-getElem?_pos, -Array.all_eq_true, -Array.getElem?_eq_getElem, -List.length_flatten, List.getElem?_cons_zero, List.getElem?_cons_succ, -newG_k, -stn_p, -ldn_p]
  have hlen := hlen rfl
  unfold law06_EntryMoves_s1
  refine RowMove_spec hr1 (by omega) fun w2 hk2 => ?_
  simp [-getElem?_pos, -Array.all_eq_true, -Array.getElem?_eq_getElem, -List.length_flatten, List.getElem?_cons_zero, List.getElem?_cons_succ, -newG_k, -stn_p, -ldn_p]
  refine boxMove (o := (takeH kindT 7 r).1) (by rw [zcMove]; rfl) fun b3 w3 hb3 hh3 hk3 => ?_
  have hr3 := hr1.keep (hk2.trans' hk3)
  refine refRowMove_spec hr3 (by omega) fun w4 hk4 => ?_
  simp [-getElem?_pos, -Array.all_eq_true, -Array.getElem?_eq_getElem, -List.length_flatten, List.getElem?_cons_zero, List.getElem?_cons_succ, -newG_k, -stn_p, -ldn_p]
  refine boxMove (o := (takeH kindT 7 r).1) (by rw [zcMove]; rfl) fun b5 w5 hb5 hh5 hk5 => ?_
  have hk35 := hk4.trans' hk5
  have hh35 := hk35.get hh3 (by simp)
  have hh15 := ((hk2.trans' hk3).trans' hk35).get hh1 (by simp)
  have hh15d := kp_drew.get hh15 (by simp)
  rw [ldHold hh15d, ldHold hh15d]
  refine MoveRow_spec h fun va w6 hk6 hra => ?_
  rw [ldHold (hk6.get hh15d (by simp))]
  refine ⟨rfl, refMoveRow_spec h fun vb w7 hk7 hrb => ?_⟩
  refine Same_spec (hra.keep hk7) hrb (Nat.lt_of_le_of_lt (lenH kindT h) (by omega)) fun w8 hk8 => ?_
  have hk58 := ((kp_drew.trans' hk6).trans' hk7).trans' hk8
  have hh38 := hk58.get hh35 (by simp)
  have hh58 := hk58.get hh5 (by simp)
  have hh18 := hk58.get hh15 (by simp)
  have hr8 := hr3.keep (hk35.trans' hk58)
  have hk08 := (((hk1.trans' hk2).trans' hk3).trans' hk35).trans' hk58
  simp [-getElem?_pos, -Array.all_eq_true, -Array.getElem?_eq_getElem, -List.length_flatten, List.getElem?_cons_zero, List.getElem?_cons_succ, -newG_k, -stn_p, -ldn_p]
  rw [ldHold hh38, ldHold hh58, move_neq]
  simp [-getElem?_pos, -Array.all_eq_true, -Array.getElem?_eq_getElem, -List.length_flatten, List.getElem?_cons_zero, List.getElem?_cons_succ, -newG_k, -stn_p, -ldn_p]
  have fin : ∀ w', Kp [] w8 w' → callG Try.prog 14 #[] w' fun t w => K t w := fun w' hk => awake_spec fun w'' hk' => hK w'' ((hk08.trans' hk).trans' hk')
  clear hK hk08 hk58 hh15d hh15 hh35 hh5 hh3 hh1 hrb hra hk1 hk2 hk3 hk4 hk5 hk6 hk7 hk8 hk35 hr1 hr3 hr
  unfold law06_EntryMoves_s0
  rw [ldHold hh18]
  refine MoveRow_spec h fun vc w9 hk9 hrc => ?_
  refine RowMove_spec hrc (Nat.lt_of_le_of_lt (lenH kindT h) (by omega)) fun w10 hk10 => ?_
  rw [take_rowH (fun n => kind_of)]
  simp [-getElem?_pos, -Array.all_eq_true, -Array.getElem?_eq_getElem, -List.length_flatten, List.getElem?_cons_zero, List.getElem?_cons_succ, -newG_k, -stn_p, -ldn_p]
  have hk810 := hk9.trans' hk10
  obtain ⟨x, hx⟩ : ∃ x, x = (if h.sku.length ≤ 64 ∧ h.loc.length ≤ 64 ∧ kindT h.st ≠ [] then (h, (0 : Int)) else (hZ, 50)) := ⟨_, rfl⟩
  rw [← hx]
  refine boxMove (o := x.1) (by rw [zcMove]; rfl) fun b11 w11 hb11 hh11 hk11 => ?_
  have hk811 := hk810.trans' hk11
  have hhb := hk811.get hh18 (by simp)
  have F : (¬(takeH kindT 7 r).2 = 0 → callG Try.prog 14 #[] w11 fun t92 w => K t92 w) ∧ ((takeH kindT 7 r).2 = 0 → ldn 6 (.pointer (some ⟨b3, 0, none⟩)) w11 fun t85 => callG Try.prog 33 #[t85] w11 fun t86 w => callG Try.prog 24 #[t86, v] w fun t88 w => bV t88 (callG Try.prog 14 #[] w fun t92 w => K t92 w) (K (.bool false) w)) := by
    refine ⟨fun _ => fin _ hk811, fun he => ?_⟩
    rw [ldHold (hk811.get hh38 (by simp))]
    refine MoveRow_spec (takeH kindT 7 r).1 fun vd w12 hk12 hrd => ?_
    rw [row_takeH he] at hrd
    refine Same_spec hrd (hr8.keep (hk811.trans' hk12)) (by omega) fun w13 hk13 => ?_
    simp [-getElem?_pos, -Array.all_eq_true, -Array.getElem?_eq_getElem, -List.length_flatten, List.getElem?_cons_zero, List.getElem?_cons_succ, -newG_k, -stn_p, -ldn_p]
    exact fin _ ((hk811.trans' hk12).trans' hk13)
  have e11 := ldHold hh11 (K := fun _ => True)
  obtain ⟨hF, hG⟩ := F
  have hx1 : x.2 = 0 → x.1 = h := by rw [hx]; split <;> simp
  rcases Decidable.em (x.2 = 0) with hA | hA
  all_goals
    simp [-getElem?_pos, -Array.all_eq_true, -Array.getElem?_eq_getElem, -List.length_flatten, List.getElem?_cons_zero, List.getElem?_cons_succ, -newG_k, -stn_p, -ldn_p, hA, ldHold hh11, ldHold hhb, move_eql, hx1]
    repeat' (first | exact ⟨hF, hG⟩ | (exfalso; omega) | intro _ | refine And.intro ?_ ?_)


end Go.Proofs
