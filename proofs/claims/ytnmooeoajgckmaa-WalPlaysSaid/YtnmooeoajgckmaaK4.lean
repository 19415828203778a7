/- Part of the proof (K4): an engine, rules or contracts of the functions; it states nothing of the claim by itself. -/
import Derived.Test.YtnmooeoajgckmaaK3
import Derived.ChangeSlices
import Derived.Test.YtnmooeoajgckmaaK2
import Derived.Test.YtnmooeoajgckmaaK1
import Derived.Laws.StructEq

/- DiskPlays: what the statement's own reading says of the calls that came in. -/
set_option linter.unusedVariables false
set_option linter.unusedSimpArgs false
namespace Go.Proofs
open Go Go.Q
/-- an argument that the statement's own reading took -/
def Taken (w : World) (t : TypeId) (v : Value) : Prop :=
  ∃ (H : Type) (enc : TypeId × Value → H) (fuel : Nat) (x : DataW H × List MemPlace), DataW.trod enc Try.prog w 0 (fun _ => true) true fuel t [v] = some x
theorem ints_taken {H : Type} {enc : TypeId × Value → H} {w : World} {fuel : Nat} {v : Value} {x : DataW H × List MemPlace} (h : DataW.trod enc Try.prog w 0 (fun _ => true) true fuel 22 [v] = some x) :
    ∃ ks SK, IntsAt w v ks SK ∧ (∀ b ∈ SK, b < w.heap.size) ∧ ∀ x ∈ ks, -9223372036854775808 ≤ x ∧ x < 9223372036854775808 := by
  rcases Go.ChangeShapes.open_ints Try.underlying22 Try.underlying3 (by kernel_rfl) h with ⟨hcs, _⟩ | ⟨x, l, c, zs, hcs, _, hl, hm, hz, _, hcell, hwz⟩
  · injection hcs with hcs _
    subst hcs
    exact ⟨[], [], ints_nil, by simp, by simp⟩
  · injection hcs with hcs _
    subst hcs
    simp only [if_true] at hz
    obtain ⟨SK, h1, h2⟩ := ints_in (len := l) (cap := c) hcell (by omega)
    exact ⟨_, SK, h1, h2, fun y hy => wf64 (hwz y (List.mem_of_mem_take hy))⟩
theorem wf8 {n : Int} (h : (Lit.int .u8 n).wf = true) : n = ((UInt8.ofNat n.toNat).toNat : Int) := by
  simp [Lit.wf, IntKind.min, IntKind.max, IntKind.bits, IntKind.signed] at h
  simp
  omega
theorem str_all (s : ByteArray) : s = str s.data.toList := by cases s; simp [str]
theorem list5 {r : List Value} (h : r.length = 5) : ∃ a b c d e, r = [a, b, c, d, e] := by
  match r, h with
  | [a, b, c, d, e], _ => exact ⟨a, b, c, d, e, rfl⟩
theorem act_in {H : Type} {enc : TypeId × Value → H} {w : World} {fuel : Nat} {r : List Value} {x : DataW H × List MemPlace} (h : DataW.trod enc Try.prog w 0 (fun _ => true) true fuel 43 r = some x) :
    ∃ kind at_ c s kv ks SK, ActIs w r kind at_ c s kv ks SK := by
  obtain ⟨xs, n, rfl, _, hl, hx, hf⟩ := DataW.trod_struct Try.underlying43 h
  have h43 : Try.prog.cellsOf 43 = 5 := by kernel_rfl
  have h3 : Try.prog.cellsOf 3 = 1 := by kernel_rfl
  have h5 : Try.prog.cellsOf 5 = 1 := by kernel_rfl
  have h9 : Try.prog.cellsOf 9 = 1 := by kernel_rfl
  have h22 : Try.prog.cellsOf 22 = 1 := by kernel_rfl
  rw [h43] at hl
  have hx5 : xs.length = 5 := hx
  obtain ⟨r0, r1, r2, r3, r4, rfl⟩ := list5 hl
  have g0 : DataW.trod enc Try.prog w 0 (fun _ => true) true n 3 (([r0, r1, r2, r3, r4].drop 0).take (Try.prog.cellsOf 3)) = xs[0]? := hf 0 _ rfl
  have g1 : DataW.trod enc Try.prog w 0 (fun _ => true) true n 3 (([r0, r1, r2, r3, r4].drop 1).take (Try.prog.cellsOf 3)) = xs[1]? := hf 1 _ rfl
  have g2 : DataW.trod enc Try.prog w 0 (fun _ => true) true n 5 (([r0, r1, r2, r3, r4].drop 2).take (Try.prog.cellsOf 5)) = xs[2]? := hf 2 _ rfl
  have g3 : DataW.trod enc Try.prog w 0 (fun _ => true) true n 9 (([r0, r1, r2, r3, r4].drop 3).take (Try.prog.cellsOf 9)) = xs[3]? := hf 3 _ rfl
  have g4 : DataW.trod enc Try.prog w 0 (fun _ => true) true n 22 (([r0, r1, r2, r3, r4].drop 4).take (Try.prog.cellsOf 22)) = xs[4]? := hf 4 _ rfl
  rw [List.getElem?_eq_getElem (by omega)] at g0 g1 g2 g3 g4
  rw [h3] at g0 g1
  rw [h5] at g2
  rw [h9] at g3
  rw [h22] at g4
  have e0 : ([r0, r1, r2, r3, r4].drop 0).take 1 = [r0] := rfl
  have e1 : ([r0, r1, r2, r3, r4].drop 1).take 1 = [r1] := rfl
  have e2 : ([r0, r1, r2, r3, r4].drop 2).take 1 = [r2] := rfl
  have e3 : ([r0, r1, r2, r3, r4].drop 3).take 1 = [r3] := rfl
  have e4 : ([r0, r1, r2, r3, r4].drop 4).take 1 = [r4] := rfl
  rw [e0] at g0
  rw [e1] at g1
  rw [e2] at g2
  rw [e3] at g3
  rw [e4] at g4
  clear e0 e1 e2 e3 e4
  obtain ⟨kind, e0, _, _⟩ := DataW.trod_int Try.underlying3 g0
  obtain ⟨at_, e1, _, wf1⟩ := DataW.trod_int Try.underlying3 g1
  obtain ⟨c, e2, _, wf2⟩ := DataW.trod_int Try.underlying5 g2
  obtain ⟨s, e3, _, _⟩ := DataW.trod_string Try.underlying9 g3
  obtain ⟨ks, SK, hk, hlt, hw⟩ := ints_taken g4
  injection e0 with e0 _
  injection e1 with e1 _
  injection e2 with e2 _
  injection e3 with e3 _
  subst e0; subst e1; subst e2; subst e3
  exact ⟨kind, at_, UInt8.ofNat c.toNat, s.data.toList, r4, ks, SK, by rw [← wf8 wf2, ← str_all], hk, hlt, (wf64 wf1).2, hw⟩
theorem acts_in {w : World} {v : Value} (h : Taken w 35 v) : ∃ rows SA, ActsAt w v rows SA := by
  obtain ⟨H, enc, fuel, x, h⟩ := h
  obtain ⟨v', rows, SK, hv, harg, hlt, _, hr⟩ := arg_slice Try.underlying35 (n := 5) (by kernel_rfl) (by omega) h
  injection hv with hv _
  subst hv
  exact ⟨rows, SK, harg, hlt, fun r hm => by obtain ⟨f, y, hy⟩ := hr r hm; exact act_in hy⟩
end Go.Proofs

/- What the statement's own reading says of lists of texts that came in. -/
set_option linter.unusedVariables false
set_option linter.unusedSimpArgs false
namespace Go.Proofs
open Go Go.Q
theorem strs_of {rows : List (List Value)} (h : ∀ r ∈ rows, ∃ s : List UInt8, s.length ≤ maxLen ∧ r = strV s) : ∃ l : List (List UInt8), rows = l.map strV ∧ ∀ s ∈ l, s.length ≤ maxLen := by
  induction rows with
  | nil => exact ⟨[], rfl, by simp⟩
  | cons r rows ih =>
    obtain ⟨l, h1, h2⟩ := ih fun x hx => h x (by simp [hx])
    obtain ⟨s, h3, h4⟩ := h r (by simp)
    exact ⟨s :: l, by rw [h1, h4]; rfl, fun x hx => by
      rcases List.mem_cons.1 hx with rfl | hx
      · exact h3
      · exact h2 x hx⟩
theorem strs_in {H : Type} {enc : TypeId × Value → H} {w : World} {fuel : Nat} {v : Value} {x : DataW H × List MemPlace} (h : DataW.trod enc Try.prog w 0 (fun _ => true) true fuel 36 [v] = some x) :
    ∃ (l : List (List UInt8)) (SA : List Nat), ArgAt w v 1 (l.map strV) SA ∧ (∀ z ∈ SA, z < w.heap.size) ∧ (∀ s ∈ l, s.length ≤ maxLen) ∧ l.length ≤ maxLen := by
  obtain ⟨v', rows, SK, hv, harg, hlt, hlen, hr⟩ := arg_slice Try.underlying36 (n := 1) (by kernel_rfl) (by omega) h
  injection hv with hv _
  subst hv
  obtain ⟨l, hl, hs⟩ := strs_of (rows := rows) fun r hm => by
    obtain ⟨f, y, hy⟩ := hr r hm
    have hrl := harg.row hm
    obtain ⟨a, rfl⟩ : ∃ a, r = [a] := by
      match r, hrl with
      | [a], _ => exact ⟨a, rfl⟩
    obtain ⟨s, e, _, hw⟩ := DataW.trod_string Try.underlying9 hy
    injection e with e _
    exact ⟨s.data.toList, hw, by rw [e]; show [Value.string s] = [Value.string (str s.data.toList)]; rw [← str_all s]⟩
  subst hl
  exact ⟨l, SK, harg, hlt, hs, by simpa using hlen⟩
theorem strs_taken {w : World} {v : Value} (h : Taken w 36 v) : ∃ (l : List (List UInt8)) (SA : List Nat), ArgAt w v 1 (l.map strV) SA ∧ (∀ z ∈ SA, z < w.heap.size) ∧ (∀ s ∈ l, s.length ≤ maxLen) ∧ l.length ≤ maxLen := by
  obtain ⟨H, enc, fuel, x, h⟩ := h
  exact strs_in h
end Go.Proofs

set_option linter.unusedVariables false
set_option linter.unusedSimpArgs false
namespace Go.Proofs
open Go Go.Q
set_option maxRecDepth 100000
/-! quayside/quaysidelaw04.chance -/
def law04_chance_s0 (R : Value → World → Prop) (x0 x1 x2 : Value) (w : World) : Prop :=
  ia 1 x1 x2 fun t14 =>
  ld1 t14 w fun t15 =>
  callG Try.prog 30 #[(.int .i64 1), t15] w fun t16 w =>
  qG Try.prog (Instr.extract t16 0) w fun t17 =>
  qG Try.prog (Instr.extract t16 1) w fun t18 =>
  qG Try.prog (bq .neq 24 (.tmp 19) (.const (.int .i64 0)) t18 (.int .i64 0)) w fun t20 =>
  bV t20
  (R (.bool false) w)
  (lenL x0 fun t23 =>
  qG Try.prog (bq .geq 3 (.tmp 21) (.tmp 23) x2 t23) w fun t24 =>
  bV t24
  (R (.bool true) w)
  (ia 1 x0 x2 fun t28 =>
  ld1 t28 w fun t29 =>
  callG Try.prog 30 #[(.int .i64 1), t29] w fun t30 w =>
  qG Try.prog (Instr.extract t30 0) w fun t31 =>
  qG Try.prog (Instr.extract t30 1) w fun t32 =>
  qG Try.prog (bq .eql 24 (.tmp 33) (.const (.int .i64 0)) t32 (.int .i64 0)) w fun t34 =>
  bV t34
  (qG Try.prog (bq .neq 9 (.tmp 36) (.tmp 37) t17 t31) w fun t38 =>
  R t38 w)
  (R (.bool false) w)))

theorem law04_chance_s0_eq (R : Value → World → Prop) : ∀ e w, lift Try.prog 40 (bodyOf Try.f43) (finK Try.prog Try.f43.results.toList R) e w = law04_chance_s0 R (e 0) (e 1) (e 2) w := fun e w => by kernel_rfl

def law04_chance (R : Value → World → Prop) (x0 x1 x2 : Value) (w : World) : Prop := law04_chance_s0 R x0 x1 x2 w
theorem law04_chance_call {R : Value → World → Prop} {x0 x1 x2 : Value} {w : World} (h : law04_chance R x0 x1 x2 w) : callG Try.prog 43 #[x0, x1, x2] w R :=
  calls_lift_eq Try.mixed Try.func43 (args := [x0, x1, x2]) rfl rfl rfl rfl ((law04_chance_s0_eq R) (envOf [x0, x1, x2]) w) (by kernel_rfl) h
/-! quayside/quaysidelaw04.WalCrash -/
def law04_WalCrash_s0 (R : Value → World → Prop) (x12 x17 : Value) (w : World) : Prop :=
  lenL x17 fun t171 =>
  qG Try.prog (bq .geq 3 (.tmp 171) (.tmp 172) t171 x12) w fun t173 =>
  bV t173
  (callG Try.prog 29 #[] w fun t175 w =>
  R t175 w)
  (R (.bool false) w)

theorem law04_WalCrash_s0_eq (R : Value → World → Prop) : ∀ e w, lift Try.prog 177 (sub (bodyOf Try.f11) [1, 1, 1, 1, 1, 1, 1, 1, 1, 1, 1, 1, 1, 1, 1]) (finK Try.prog Try.f11.results.toList R) e w = law04_WalCrash_s0 R (e 12) (e 17) w := fun e w => by kernel_rfl

def law04_WalCrash_s1 (R : Value → World → Prop) (N1 : List Value → World → Prop) (x11 x12 x17 x18 : Value) (w : World) : Prop :=
  qG Try.prog (bq .add 3 (.tmp 141) (.const (.int .i64 1)) x18 (.int .i64 1)) w fun t142 =>
  N1 [x11, x12, x17, t142] w

theorem law04_WalCrash_s1_eq (R : Value → World → Prop) (N1 : List Value → World → Prop) : ∀ e w, lift Try.prog 177 (sub (bodyOf Try.f11) [1, 1, 1, 1, 1, 1, 1, 1, 1, 1, 1, 1, 1, 1, 0, 1, 0, 0, 1, 1]) (seqK (fun e w => N1 [e 11, e 12, e 17, e 18] w) (blockK 2 (seqK (fun e w => law04_WalCrash_s0 R (e 12) (e 17) w) (finK Try.prog Try.f11.results.toList R)))) e w = law04_WalCrash_s1 R N1 (e 11) (e 12) (e 17) (e 18) w := fun e w => by kernel_rfl

def law04_WalCrash_s2 (R : Value → World → Prop) (N1 : List Value → World → Prop) (x11 x12 x17 x18 x157 : Value) (w : World) : Prop :=
  bV x157
  (qG Try.prog (bq .geq 3 (.tmp 158) (.tmp 159) x18 x12) w fun t160 =>
  bV t160
  (callG Try.prog 43 #[x11, x17, x18] w fun t165 w =>
  bV t165
  (callG Try.prog 29 #[] w fun t168 w =>
  R t168 w)
  (R (.bool false) w))
  (R (.bool false) w))
  (law04_WalCrash_s1 R N1 x11 x12 x17 x18 w)

theorem law04_WalCrash_s2_eq (R : Value → World → Prop) (N1 : List Value → World → Prop) : ∀ e w, lift Try.prog 177 (sub (bodyOf Try.f11) [1, 1, 1, 1, 1, 1, 1, 1, 1, 1, 1, 1, 1, 1, 0, 1, 0, 0, 1, 0, 0, 1]) (blockK 3 (seqK (fun e w => law04_WalCrash_s1 R N1 (e 11) (e 12) (e 17) (e 18) w) (seqK (fun e w => N1 [e 11, e 12, e 17, e 18] w) (blockK 2 (seqK (fun e w => law04_WalCrash_s0 R (e 12) (e 17) w) (finK Try.prog Try.f11.results.toList R)))))) e w = law04_WalCrash_s2 R N1 (e 11) (e 12) (e 17) (e 18) (e 157) w := fun e w => by kernel_rfl

def law04_WalCrash_s3 (R : Value → World → Prop) (N1 : List Value → World → Prop) (x11 x12 x17 x18 : Value) (w : World) : Prop :=
  lenL x11 fun t145 =>
  qG Try.prog (bq .geq 3 (.tmp 143) (.tmp 145) x18 t145) (World.drew w) fun t146 =>
  bV t146
  (law04_WalCrash_s2 R N1 x11 x12 x17 x18 (.bool true) (World.drew w))
  (ia 1 x17 x18 fun t150 =>
  ld1 t150 (World.drew w) fun t151 =>
  ia 1 x11 x18 fun t154 =>
  ld1 t154 (World.drew w) fun t155 =>
  qG Try.prog (bq .neq 9 (.tmp 151) (.tmp 155) t151 t155) (World.drew w) fun t156 =>
  law04_WalCrash_s2 R N1 x11 x12 x17 x18 t156 (World.drew w))

theorem law04_WalCrash_s3_eq (R : Value → World → Prop) (N1 : List Value → World → Prop) : ∀ e w, lift Try.prog 177 (sub (bodyOf Try.f11) [1, 1, 1, 1, 1, 1, 1, 1, 1, 1, 1, 1, 1, 1, 0, 1, 0, 0, 1, 0, 0]) (blockK 3 (seqK (fun e w => law04_WalCrash_s1 R N1 (e 11) (e 12) (e 17) (e 18) w) (seqK (fun e w => N1 [e 11, e 12, e 17, e 18] w) (blockK 2 (seqK (fun e w => law04_WalCrash_s0 R (e 12) (e 17) w) (finK Try.prog Try.f11.results.toList R)))))) e w = law04_WalCrash_s3 R N1 (e 11) (e 12) (e 17) (e 18) w :=
  segs_eq (l := [(sub (bodyOf Try.f11) [1, 1, 1, 1, 1, 1, 1, 1, 1, 1, 1, 1, 1, 1, 0, 1, 0, 0, 1, 0, 0, 0])]) (y := (sub (bodyOf Try.f11) [1, 1, 1, 1, 1, 1, 1, 1, 1, 1, 1, 1, 1, 1, 0, 1, 0, 0, 1, 0, 0, 1])) (Y := (fun e w => law04_WalCrash_s2 R N1 (e 11) (e 12) (e 17) (e 18) (e 157) w)) (law04_WalCrash_s2_eq R N1) (fun e w => by kernel_rfl)

def law04_WalCrash_s4 (R : Value → World → Prop) (N1 : List Value → World → Prop) (x11 x12 x17 x18 : Value) (w : World) : Prop :=
  lenL x17 fun t139 =>
  qG Try.prog (bq .lss 3 (.tmp 137) (.tmp 139) x18 t139) w fun t140 =>
  bV t140
  (law04_WalCrash_s3 R N1 x11 x12 x17 x18 w)
  (law04_WalCrash_s0 R x12 x17 w)

theorem law04_WalCrash_s4_eq (R : Value → World → Prop) (N1 : List Value → World → Prop) : ∀ e w, lift Try.prog 177 (sub (bodyOf Try.f11) [1, 1, 1, 1, 1, 1, 1, 1, 1, 1, 1, 1, 1, 1, 0, 1, 0, 0]) (seqK (fun e w => N1 [e 11, e 12, e 17, e 18] w) (blockK 2 (seqK (fun e w => law04_WalCrash_s0 R (e 12) (e 17) w) (finK Try.prog Try.f11.results.toList R)))) e w = law04_WalCrash_s4 R N1 (e 11) (e 12) (e 17) (e 18) w :=
  segs_eq (l := [(sub (bodyOf Try.f11) [1, 1, 1, 1, 1, 1, 1, 1, 1, 1, 1, 1, 1, 1, 0, 1, 0, 0, 0])]) (y := (sub (bodyOf Try.f11) [1, 1, 1, 1, 1, 1, 1, 1, 1, 1, 1, 1, 1, 1, 0, 1, 0, 0, 1])) (Y := (fun e w => law04_WalCrash_s3 R N1 (e 11) (e 12) (e 17) (e 18) w)) (seq_seg (x := (sub (bodyOf Try.f11) [1, 1, 1, 1, 1, 1, 1, 1, 1, 1, 1, 1, 1, 1, 0, 1, 0, 0, 1, 0])) (y := (sub (bodyOf Try.f11) [1, 1, 1, 1, 1, 1, 1, 1, 1, 1, 1, 1, 1, 1, 0, 1, 0, 0, 1, 1])) (law04_WalCrash_s1_eq R N1) (law04_WalCrash_s3_eq R N1)) (fun e w => by kernel_rfl)

def law04_WalCrash_L5F (R : Value → World → Prop) (N1 : List Value → World → Prop) (xs : List Value) (w : World) : Prop :=
  match xs with
  | [x11, x12, x17, x18] => law04_WalCrash_s4 R N1 x11 x12 x17 x18 w
  | _ => False

def law04_WalCrash_L5 (R : Value → World → Prop) (x11 x12 x17 x18 : Value) (w : World) : Prop :=
  ∃ m, loopV (law04_WalCrash_L5F R) m [x11, x12, x17, x18] w

theorem law04_WalCrash_L5_eq (R : Value → World → Prop) : ∀ e w, lift Try.prog 177 (sub (bodyOf Try.f11) [1, 1, 1, 1, 1, 1, 1, 1, 1, 1, 1, 1, 1, 1, 0, 1, 0]) (blockK 2 (seqK (fun e w => law04_WalCrash_s0 R (e 12) (e 17) w) (finK Try.prog Try.f11.results.toList R))) e w = law04_WalCrash_L5 R (e 11) (e 12) (e 17) (e 18) w := loop_seg (F := law04_WalCrash_L5F R) (sel := fun e => [e 11, e 12, e 17, e 18]) fun N1 => (law04_WalCrash_s4_eq R N1)

def law04_WalCrash_s6 (R : Value → World → Prop) (x11 x12 x17 : Value) (w : World) : Prop :=
  law04_WalCrash_L5 R x11 x12 x17 (.int .i64 0) w

theorem law04_WalCrash_s6_eq (R : Value → World → Prop) : ∀ e w, lift Try.prog 177 (sub (bodyOf Try.f11) [1, 1, 1, 1, 1, 1, 1, 1, 1, 1, 1, 1, 1, 1, 0]) (seqK (fun e w => law04_WalCrash_s0 R (e 12) (e 17) w) (finK Try.prog Try.f11.results.toList R)) e w = law04_WalCrash_s6 R (e 11) (e 12) (e 17) w :=
  segs_eq (l := [(sub (bodyOf Try.f11) [1, 1, 1, 1, 1, 1, 1, 1, 1, 1, 1, 1, 1, 1, 0, 0])]) (y := (sub (bodyOf Try.f11) [1, 1, 1, 1, 1, 1, 1, 1, 1, 1, 1, 1, 1, 1, 0, 1])) (Y := (fun e w => law04_WalCrash_L5 R (e 11) (e 12) (e 17) (e 18) w)) (law04_WalCrash_L5_eq R) (fun e w => by kernel_rfl)

def law04_WalCrash_s7 (R : Value → World → Prop) (x11 x12 x15 : Value) (w : World) : Prop :=
  callG Try.prog 37 #[x15] w fun t136 w =>
  law04_WalCrash_s6 R x11 x12 t136 w

theorem law04_WalCrash_s7_eq (R : Value → World → Prop) : ∀ e w, lift Try.prog 177 (sub (bodyOf Try.f11) [1, 1, 1, 1, 1, 1, 1, 1, 1, 1, 1, 1, 1]) (finK Try.prog Try.f11.results.toList R) e w = law04_WalCrash_s7 R (e 11) (e 12) (e 15) w :=
  segs_eq (l := [(sub (bodyOf Try.f11) [1, 1, 1, 1, 1, 1, 1, 1, 1, 1, 1, 1, 1, 0])]) (y := (sub (bodyOf Try.f11) [1, 1, 1, 1, 1, 1, 1, 1, 1, 1, 1, 1, 1, 1])) (Y := (fun e w => law04_WalCrash_s6 R (e 11) (e 12) (e 17) w)) (seq_seg (x := (sub (bodyOf Try.f11) [1, 1, 1, 1, 1, 1, 1, 1, 1, 1, 1, 1, 1, 1, 0])) (y := (sub (bodyOf Try.f11) [1, 1, 1, 1, 1, 1, 1, 1, 1, 1, 1, 1, 1, 1, 1])) (law04_WalCrash_s0_eq R) (law04_WalCrash_s6_eq R)) (fun e w => by kernel_rfl)

def law04_WalCrash_s8 (R : Value → World → Prop) (x7 x11 x12 x14 : Value) (w : World) : Prop :=
  callG Try.prog 16 #[x7, x14] w fun t122 w =>
  qG Try.prog (bq .neq 24 (.tmp 122) (.const (.int .i64 0)) t122 (.int .i64 0)) w fun t123 =>
  bV t123
  (R (.bool false) w)
  (callG Try.prog 35 #[x7, (.int .i64 0), (.int .i64 40), (.int .i64 1)] w fun t126 w =>
  qG Try.prog (Instr.extract t126 0) w fun t127 =>
  qG Try.prog (Instr.extract t126 1) w fun t128 =>
  qG Try.prog (bq .neq 24 (.tmp 129) (.const (.int .i64 0)) t128 (.int .i64 0)) w fun t130 =>
  bV t130
  (R (.bool false) w)
  (qG Try.prog (bq .eql 64 (.tmp 132) (.const (.pointer none)) t127 (.pointer none)) w fun t133 =>
  bV t133
  (R (.bool false) w)
  (law04_WalCrash_s7 R x11 x12 t127 w)))

theorem law04_WalCrash_s8_eq (R : Value → World → Prop) : ∀ e w, lift Try.prog 177 (sub (bodyOf Try.f11) [1, 1, 1, 1, 1, 1, 1, 1, 1, 1]) (finK Try.prog Try.f11.results.toList R) e w = law04_WalCrash_s8 R (e 7) (e 11) (e 12) (e 14) w :=
  segs_eq (l := [(sub (bodyOf Try.f11) [1, 1, 1, 1, 1, 1, 1, 1, 1, 1, 0]), (sub (bodyOf Try.f11) [1, 1, 1, 1, 1, 1, 1, 1, 1, 1, 1, 0]), (sub (bodyOf Try.f11) [1, 1, 1, 1, 1, 1, 1, 1, 1, 1, 1, 1, 0])]) (y := (sub (bodyOf Try.f11) [1, 1, 1, 1, 1, 1, 1, 1, 1, 1, 1, 1, 1])) (Y := (fun e w => law04_WalCrash_s7 R (e 11) (e 12) (e 15) w)) (law04_WalCrash_s7_eq R) (fun e w => by kernel_rfl)

def law04_WalCrash_s9 (R : Value → World → Prop) (x2 x7 x11 x12 : Value) (w : World) : Prop :=
  lenL x2 fun t116 =>
  qG Try.prog (bq .gtr 3 (.tmp 116) (.const (.int .i64 0)) t116 (.int .i64 0)) w fun t117 =>
  bV t117
  (slL 1 x2 (some (.int .i64 1)) none fun t119 =>
  law04_WalCrash_s8 R x7 x11 x12 t119 w)
  (law04_WalCrash_s8 R x7 x11 x12 (.slice none 0 0) w)

theorem law04_WalCrash_s9_eq (R : Value → World → Prop) : ∀ e w, lift Try.prog 177 (sub (bodyOf Try.f11) [1, 1, 1, 1, 1, 1, 1, 1]) (finK Try.prog Try.f11.results.toList R) e w = law04_WalCrash_s9 R (e 2) (e 7) (e 11) (e 12) w :=
  segs_eq (l := [(sub (bodyOf Try.f11) [1, 1, 1, 1, 1, 1, 1, 1, 0]), (sub (bodyOf Try.f11) [1, 1, 1, 1, 1, 1, 1, 1, 1, 0])]) (y := (sub (bodyOf Try.f11) [1, 1, 1, 1, 1, 1, 1, 1, 1, 1])) (Y := (fun e w => law04_WalCrash_s8 R (e 7) (e 11) (e 12) (e 14) w)) (law04_WalCrash_s8_eq R) (fun e w => by kernel_rfl)

def law04_WalCrash_s10 (R : Value → World → Prop) (N1 : List Value → World → Prop) (x0 x1 x2 x7 x9 x11 x12 x13 : Value) (w : World) : Prop :=
  qG Try.prog (bq .add 3 (.tmp 72) (.const (.int .i64 1)) x13 (.int .i64 1)) w fun t73 =>
  N1 [x0, x1, x2, x7, x9, x11, x12, t73] w

theorem law04_WalCrash_s10_eq (R : Value → World → Prop) (N1 : List Value → World → Prop) : ∀ e w, lift Try.prog 177 (sub (bodyOf Try.f11) [1, 1, 1, 1, 1, 1, 1, 0, 1, 0, 0, 1, 1]) (seqK (fun e w => N1 [e 0, e 1, e 2, e 7, e 9, e 11, e 12, e 13] w) (blockK 0 (seqK (fun e w => law04_WalCrash_s9 R (e 2) (e 7) (e 11) (e 12) w) (finK Try.prog Try.f11.results.toList R)))) e w = law04_WalCrash_s10 R N1 (e 0) (e 1) (e 2) (e 7) (e 9) (e 11) (e 12) (e 13) w := fun e w => by kernel_rfl

def law04_WalCrash_s11 (R : Value → World → Prop) (N1 : List Value → World → Prop) (x0 x1 x2 x7 x9 x11 x12 x13 : Value) (w : World) : Prop :=
  ia 1 x0 x13 fun t91 =>
  ld1 t91 w fun t92 =>
  bsl 9 1 1 (zc Try.prog 9) #[(0, t92)] w fun t93 w =>
  app 9 1 16 (zc Try.prog 9) x11 t93 w fun t94 w =>
  ia 1 x0 x13 fun t98 =>
  ld1 t98 w fun t99 =>
  bsl 9 1 1 (zc Try.prog 9) #[(0, t99)] w fun t100 w =>
  callG Try.prog 36 #[x9, t100] w fun t101 w =>
  qG Try.prog (bq .neq 24 (.tmp 101) (.const (.int .i64 0)) t101 (.int .i64 0)) w fun t102 =>
  bV t102
  (law04_WalCrash_s9 R x2 x7 t94 x12 w)
  (qG Try.prog (bq .shr 3 (.tmp 103) (.tmp 104) x1 x13) w fun t105 =>
  qG Try.prog (bq .and 3 (.tmp 105) (.const (.int .i64 1)) t105 (.int .i64 1)) w fun t106 =>
  qG Try.prog (bq .eql 3 (.tmp 106) (.const (.int .i64 1)) t106 (.int .i64 1)) w fun t107 =>
  bV t107
  (callG Try.prog 39 #[x9] w fun t110 w =>
  qG Try.prog (bq .eql 24 (.tmp 110) (.const (.int .i64 0)) t110 (.int .i64 0)) w fun t111 =>
  bV t111
  (lenL t94 fun t114 =>
  law04_WalCrash_s10 R N1 x0 x1 x2 x7 x9 t94 t114 x13 w)
  (law04_WalCrash_s10 R N1 x0 x1 x2 x7 x9 t94 x12 x13 w))
  (law04_WalCrash_s10 R N1 x0 x1 x2 x7 x9 t94 x12 x13 w))

theorem law04_WalCrash_s11_eq (R : Value → World → Prop) (N1 : List Value → World → Prop) : ∀ e w, lift Try.prog 177 (sub (bodyOf Try.f11) [1, 1, 1, 1, 1, 1, 1, 0, 1, 0, 0, 1, 0, 0, 1]) (blockK 1 (seqK (fun e w => law04_WalCrash_s10 R N1 (e 0) (e 1) (e 2) (e 7) (e 9) (e 11) (e 12) (e 13) w) (seqK (fun e w => N1 [e 0, e 1, e 2, e 7, e 9, e 11, e 12, e 13] w) (blockK 0 (seqK (fun e w => law04_WalCrash_s9 R (e 2) (e 7) (e 11) (e 12) w) (finK Try.prog Try.f11.results.toList R)))))) e w = law04_WalCrash_s11 R N1 (e 0) (e 1) (e 2) (e 7) (e 9) (e 11) (e 12) (e 13) w := fun e w => by kernel_rfl

def law04_WalCrash_s12 (R : Value → World → Prop) (N1 : List Value → World → Prop) (x0 x1 x2 x7 x9 x11 x12 x13 : Value) (w : World) : Prop :=
  ia 1 x0 x13 fun t76 =>
  ld1 t76 w fun t77 =>
  lenS t77 fun t78 =>
  qG Try.prog (bq .gtr 3 (.tmp 78) (.const (.int .i64 60)) t78 (.int .i64 60)) w fun t79 =>
  bV t79
  (callG Try.prog 29 #[] w fun t87 w =>
  R t87 w)
  (ia 1 x0 x13 fun t83 =>
  ld1 t83 w fun t84 =>
  qG Try.prog (bq .eql 9 (.tmp 84) (.const (.string ⟨#[]⟩)) t84 (.string ⟨#[]⟩)) w fun t85 =>
  bV t85
  (callG Try.prog 29 #[] w fun t87_1 w =>
  R t87_1 w)
  (law04_WalCrash_s11 R N1 x0 x1 x2 x7 x9 x11 x12 x13 w))

theorem law04_WalCrash_s12_eq (R : Value → World → Prop) (N1 : List Value → World → Prop) : ∀ e w, lift Try.prog 177 (sub (bodyOf Try.f11) [1, 1, 1, 1, 1, 1, 1, 0, 1, 0, 0, 1, 0, 0]) (blockK 1 (seqK (fun e w => law04_WalCrash_s10 R N1 (e 0) (e 1) (e 2) (e 7) (e 9) (e 11) (e 12) (e 13) w) (seqK (fun e w => N1 [e 0, e 1, e 2, e 7, e 9, e 11, e 12, e 13] w) (blockK 0 (seqK (fun e w => law04_WalCrash_s9 R (e 2) (e 7) (e 11) (e 12) w) (finK Try.prog Try.f11.results.toList R)))))) e w = law04_WalCrash_s12 R N1 (e 0) (e 1) (e 2) (e 7) (e 9) (e 11) (e 12) (e 13) w :=
  segs_eq (l := [(sub (bodyOf Try.f11) [1, 1, 1, 1, 1, 1, 1, 0, 1, 0, 0, 1, 0, 0, 0])]) (y := (sub (bodyOf Try.f11) [1, 1, 1, 1, 1, 1, 1, 0, 1, 0, 0, 1, 0, 0, 1])) (Y := (fun e w => law04_WalCrash_s11 R N1 (e 0) (e 1) (e 2) (e 7) (e 9) (e 11) (e 12) (e 13) w)) (law04_WalCrash_s11_eq R N1) (fun e w => by kernel_rfl)

def law04_WalCrash_s13 (R : Value → World → Prop) (N1 : List Value → World → Prop) (x0 x1 x2 x7 x9 x11 x12 x13 : Value) (w : World) : Prop :=
  lenL x0 fun t70 =>
  qG Try.prog (bq .lss 3 (.tmp 68) (.tmp 70) x13 t70) w fun t71 =>
  bV t71
  (law04_WalCrash_s12 R N1 x0 x1 x2 x7 x9 x11 x12 x13 w)
  (law04_WalCrash_s9 R x2 x7 x11 x12 w)

theorem law04_WalCrash_s13_eq (R : Value → World → Prop) (N1 : List Value → World → Prop) : ∀ e w, lift Try.prog 177 (sub (bodyOf Try.f11) [1, 1, 1, 1, 1, 1, 1, 0, 1, 0, 0]) (seqK (fun e w => N1 [e 0, e 1, e 2, e 7, e 9, e 11, e 12, e 13] w) (blockK 0 (seqK (fun e w => law04_WalCrash_s9 R (e 2) (e 7) (e 11) (e 12) w) (finK Try.prog Try.f11.results.toList R)))) e w = law04_WalCrash_s13 R N1 (e 0) (e 1) (e 2) (e 7) (e 9) (e 11) (e 12) (e 13) w :=
  segs_eq (l := [(sub (bodyOf Try.f11) [1, 1, 1, 1, 1, 1, 1, 0, 1, 0, 0, 0])]) (y := (sub (bodyOf Try.f11) [1, 1, 1, 1, 1, 1, 1, 0, 1, 0, 0, 1])) (Y := (fun e w => law04_WalCrash_s12 R N1 (e 0) (e 1) (e 2) (e 7) (e 9) (e 11) (e 12) (e 13) w)) (seq_seg (x := (sub (bodyOf Try.f11) [1, 1, 1, 1, 1, 1, 1, 0, 1, 0, 0, 1, 0])) (y := (sub (bodyOf Try.f11) [1, 1, 1, 1, 1, 1, 1, 0, 1, 0, 0, 1, 1])) (law04_WalCrash_s10_eq R N1) (law04_WalCrash_s12_eq R N1)) (fun e w => by kernel_rfl)

def law04_WalCrash_L14F (R : Value → World → Prop) (N1 : List Value → World → Prop) (xs : List Value) (w : World) : Prop :=
  match xs with
  | [x0, x1, x2, x7, x9, x11, x12, x13] => law04_WalCrash_s13 R N1 x0 x1 x2 x7 x9 x11 x12 x13 w
  | _ => False

def law04_WalCrash_L14 (R : Value → World → Prop) (x0 x1 x2 x7 x9 x11 x12 x13 : Value) (w : World) : Prop :=
  ∃ m, loopV (law04_WalCrash_L14F R) m [x0, x1, x2, x7, x9, x11, x12, x13] w

theorem law04_WalCrash_L14_eq (R : Value → World → Prop) : ∀ e w, lift Try.prog 177 (sub (bodyOf Try.f11) [1, 1, 1, 1, 1, 1, 1, 0, 1, 0]) (blockK 0 (seqK (fun e w => law04_WalCrash_s9 R (e 2) (e 7) (e 11) (e 12) w) (finK Try.prog Try.f11.results.toList R))) e w = law04_WalCrash_L14 R (e 0) (e 1) (e 2) (e 7) (e 9) (e 11) (e 12) (e 13) w := loop_seg (F := law04_WalCrash_L14F R) (sel := fun e => [e 0, e 1, e 2, e 7, e 9, e 11, e 12, e 13]) fun N1 => (law04_WalCrash_s13_eq R N1)

def law04_WalCrash_s15 (R : Value → World → Prop) (x0 x1 x2 x7 x9 x11 x12 : Value) (w : World) : Prop :=
  law04_WalCrash_L14 R x0 x1 x2 x7 x9 x11 x12 (.int .i64 0) w

theorem law04_WalCrash_s15_eq (R : Value → World → Prop) : ∀ e w, lift Try.prog 177 (sub (bodyOf Try.f11) [1, 1, 1, 1, 1, 1, 1, 0]) (seqK (fun e w => law04_WalCrash_s9 R (e 2) (e 7) (e 11) (e 12) w) (finK Try.prog Try.f11.results.toList R)) e w = law04_WalCrash_s15 R (e 0) (e 1) (e 2) (e 7) (e 9) (e 11) (e 12) w :=
  segs_eq (l := [(sub (bodyOf Try.f11) [1, 1, 1, 1, 1, 1, 1, 0, 0])]) (y := (sub (bodyOf Try.f11) [1, 1, 1, 1, 1, 1, 1, 0, 1])) (Y := (fun e w => law04_WalCrash_L14 R (e 0) (e 1) (e 2) (e 7) (e 9) (e 11) (e 12) (e 13) w)) (law04_WalCrash_L14_eq R) (fun e w => by kernel_rfl)

def law04_WalCrash_s16 (R : Value → World → Prop) (x0 x1 x2 x7 x9 : Value) (w : World) : Prop :=
  law04_WalCrash_s15 R x0 x1 x2 x7 x9 (.slice none 0 0) (.int .i64 0) w

theorem law04_WalCrash_s16_eq (R : Value → World → Prop) : ∀ e w, lift Try.prog 177 (sub (bodyOf Try.f11) [1, 1, 1, 1, 1]) (finK Try.prog Try.f11.results.toList R) e w = law04_WalCrash_s16 R (e 0) (e 1) (e 2) (e 7) (e 9) w :=
  segs_eq (l := [(sub (bodyOf Try.f11) [1, 1, 1, 1, 1, 0]), (sub (bodyOf Try.f11) [1, 1, 1, 1, 1, 1, 0])]) (y := (sub (bodyOf Try.f11) [1, 1, 1, 1, 1, 1, 1])) (Y := (fun e w => law04_WalCrash_s15 R (e 0) (e 1) (e 2) (e 7) (e 9) (e 11) (e 12) w)) (seq_seg (x := (sub (bodyOf Try.f11) [1, 1, 1, 1, 1, 1, 1, 0])) (y := (sub (bodyOf Try.f11) [1, 1, 1, 1, 1, 1, 1, 1])) (law04_WalCrash_s9_eq R) (law04_WalCrash_s15_eq R)) (fun e w => by kernel_rfl)

def law04_WalCrash_s17 (R : Value → World → Prop) (x0 x1 x2 x7 x9 : Value) (w : World) : Prop :=
  lenL x2 fun t57 =>
  qG Try.prog (bq .gtr 3 (.tmp 57) (.const (.int .i64 0)) t57 (.int .i64 0)) w fun t58 =>
  bV t58
  (ia 1 x2 (.int .i64 0) fun t62 =>
  ld1 t62 w fun t63 =>
  qG Try.prog (bq .and 3 (.tmp 63) (.const (.int .i64 127)) t63 (.int .i64 127)) w fun t64 =>
  callG Try.prog 23 #[x7, t64] w fun t65 w =>
  qG Try.prog (bq .neq 24 (.tmp 65) (.const (.int .i64 0)) t65 (.int .i64 0)) w fun t66 =>
  bV t66
  (R (.bool false) w)
  (law04_WalCrash_s16 R x0 x1 x2 x7 x9 w))
  (law04_WalCrash_s16 R x0 x1 x2 x7 x9 w)

theorem law04_WalCrash_s17_eq (R : Value → World → Prop) : ∀ e w, lift Try.prog 177 (sub (bodyOf Try.f11) [1, 1, 1, 1]) (finK Try.prog Try.f11.results.toList R) e w = law04_WalCrash_s17 R (e 0) (e 1) (e 2) (e 7) (e 9) w :=
  segs_eq (l := [(sub (bodyOf Try.f11) [1, 1, 1, 1, 0])]) (y := (sub (bodyOf Try.f11) [1, 1, 1, 1, 1])) (Y := (fun e w => law04_WalCrash_s16 R (e 0) (e 1) (e 2) (e 7) (e 9) w)) (law04_WalCrash_s16_eq R) (fun e w => by kernel_rfl)

def law04_WalCrash_s18 (R : Value → World → Prop) (x0 x1 x2 x7 x8 x9 x10 x42 : Value) (w : World) : Prop :=
  bV x42
  (qG Try.prog (bq .eql 24 (.tmp 43) (.const (.int .i64 0)) x8 (.int .i64 0)) w fun t44 =>
  bV t44
  (qG Try.prog (bq .eql 24 (.tmp 46) (.const (.int .i64 0)) x10 (.int .i64 0)) w fun t47 =>
  bV t47
  (qG Try.prog (bq .neq 64 (.tmp 50) (.const (.pointer none)) x9 (.pointer none)) w fun t51 =>
  bV t51
  (callG Try.prog 29 #[] w fun t54 w =>
  R t54 w)
  (R (.bool false) w))
  (R (.bool false) w))
  (R (.bool false) w))
  (law04_WalCrash_s17 R x0 x1 x2 x7 x9 w)

theorem law04_WalCrash_s18_eq (R : Value → World → Prop) : ∀ e w, lift Try.prog 177 (sub (bodyOf Try.f11) [1, 1, 1, 0, 1]) (seqK (fun e w => law04_WalCrash_s17 R (e 0) (e 1) (e 2) (e 7) (e 9) w) (finK Try.prog Try.f11.results.toList R)) e w = law04_WalCrash_s18 R (e 0) (e 1) (e 2) (e 7) (e 8) (e 9) (e 10) (e 42) w := fun e w => by kernel_rfl

def law04_WalCrash_s19 (R : Value → World → Prop) (x0 x1 x2 x7 x8 x9 x10 : Value) (w : World) : Prop :=
  qG Try.prog (bq .neq 24 (.tmp 28) (.const (.int .i64 0)) x8 (.int .i64 0)) w fun t29 =>
  bV t29
  (law04_WalCrash_s18 R x0 x1 x2 x7 x8 x9 x10 (.bool true) w)
  (qG Try.prog (bq .neq 24 (.tmp 31) (.const (.int .i64 0)) x10 (.int .i64 0)) w fun t32 =>
  bV t32
  (law04_WalCrash_s18 R x0 x1 x2 x7 x8 x9 x10 (.bool true) w)
  (qG Try.prog (bq .eql 64 (.tmp 35) (.const (.pointer none)) x9 (.pointer none)) w fun t36 =>
  bV t36
  (law04_WalCrash_s18 R x0 x1 x2 x7 x8 x9 x10 (.bool true) w)
  (lenL x0 fun t40 =>
  qG Try.prog (bq .gtr 3 (.tmp 40) (.const (.int .i64 20)) t40 (.int .i64 20)) w fun t41 =>
  law04_WalCrash_s18 R x0 x1 x2 x7 x8 x9 x10 t41 w)))

theorem law04_WalCrash_s19_eq (R : Value → World → Prop) : ∀ e w, lift Try.prog 177 (sub (bodyOf Try.f11) [1, 1, 1, 0]) (seqK (fun e w => law04_WalCrash_s17 R (e 0) (e 1) (e 2) (e 7) (e 9) w) (finK Try.prog Try.f11.results.toList R)) e w = law04_WalCrash_s19 R (e 0) (e 1) (e 2) (e 7) (e 8) (e 9) (e 10) w :=
  segs_eq (l := [(sub (bodyOf Try.f11) [1, 1, 1, 0, 0])]) (y := (sub (bodyOf Try.f11) [1, 1, 1, 0, 1])) (Y := (fun e w => law04_WalCrash_s18 R (e 0) (e 1) (e 2) (e 7) (e 8) (e 9) (e 10) (e 42) w)) (law04_WalCrash_s18_eq R) (fun e w => by kernel_rfl)

def law04_WalCrash_s20 (R : Value → World → Prop) (x0 x1 x2 : Value) (w : World) : Prop :=
  callG Try.prog 12 #[(.int .i64 40)] w fun t20 w =>
  qG Try.prog (Instr.extract t20 0) w fun t21 =>
  qG Try.prog (Instr.extract t20 1) w fun t22 =>
  callG Try.prog 35 #[t21, (.int .i64 0), (.int .i64 40), (.int .i64 1)] w fun t25 w =>
  qG Try.prog (Instr.extract t25 0) w fun t26 =>
  qG Try.prog (Instr.extract t25 1) w fun t27 =>
  law04_WalCrash_s19 R x0 x1 x2 t21 t22 t26 t27 w

theorem law04_WalCrash_s20_eq (R : Value → World → Prop) : ∀ e w, lift Try.prog 177 (bodyOf Try.f11) (finK Try.prog Try.f11.results.toList R) e w = law04_WalCrash_s20 R (e 0) (e 1) (e 2) w :=
  segs_eq (l := [(sub (bodyOf Try.f11) [0]), (sub (bodyOf Try.f11) [1, 0]), (sub (bodyOf Try.f11) [1, 1, 0])]) (y := (sub (bodyOf Try.f11) [1, 1, 1])) (Y := (fun e w => law04_WalCrash_s19 R (e 0) (e 1) (e 2) (e 7) (e 8) (e 9) (e 10) w)) (seq_seg (x := (sub (bodyOf Try.f11) [1, 1, 1, 0])) (y := (sub (bodyOf Try.f11) [1, 1, 1, 1])) (law04_WalCrash_s17_eq R) (law04_WalCrash_s19_eq R)) (fun e w => by kernel_rfl)

def law04_WalCrash (R : Value → World → Prop) (x0 x1 x2 : Value) (w : World) : Prop := law04_WalCrash_s20 R x0 x1 x2 w
theorem law04_WalCrash_call {R : Value → World → Prop} {x0 x1 x2 : Value} {w : World} (h : law04_WalCrash R x0 x1 x2 w) : callG Try.prog 11 #[x0, x1, x2] w R :=
  calls_lift_eq Try.mixed Try.func11 (args := [x0, x1, x2]) rfl rfl rfl rfl ((law04_WalCrash_s20_eq R) (envOf [x0, x1, x2]) w) (by kernel_rfl) h
end Go.Proofs

/- WalCrash. -/
set_option linter.unusedVariables false
set_option linter.unusedSimpArgs false
namespace Go.Proofs
open Go Go.Q
def intV (k : Int) : List Value := [.int .i64 k]
theorem intV_flat (l : List Int) : (l.map intV).flatten = l.map fun k => Value.int .i64 k := by
  induction l with
  | nil => rfl
  | cons s l ih => rw [List.map_cons, List.flatten_cons, ih]; rfl
theorem arg_ints {w : World} {v : Value} {ks : List Int} {S : List Nat} (h : ArgAt w v 1 (ks.map intV) S) : ∃ S', IntsAt w v ks S' ∧ ∀ x ∈ S', x ∈ S := by
  rcases h with ⟨a, cap, h1, h2⟩ | ⟨h1, h2⟩ | ⟨bl, o, cap, c, T, fr, h1, h2, h3, h4, h5, h6, h7⟩
  · have : ks = [] := by simpa using h2
    subst this
    exact ⟨[], ⟨a, cap, h1, .inl rfl⟩, by simp⟩
  · have : ks = [] := by simpa using h2
    subst this
    exact ⟨[], ⟨none, 0, h1, .inl rfl⟩, by simp⟩
  · refine ⟨S, ⟨some ⟨bl, o, none⟩, cap, by rw [h1]; simp, .inr ⟨bl, o, c, T, fr, rfl, h2, h3, fun i hi => ?_⟩⟩, fun x hx => hx⟩
    rw [intV_flat, List.length_map, Nat.mul_one] at h6
    have e := congrArg (fun l => l[i]?) h6
    simp only [List.getElem?_take_of_lt hi, List.getElem?_drop, Array.getElem?_toList, List.getElem?_map] at e
    rw [e]
    simp [hi, List.getD]
theorem ints_arg {w : World} {v : Value} (h : Taken w 22 v) : ∃ (ks : List Int) (SK : List Nat), ArgAt w v 1 (ks.map intV) SK ∧ (∀ b ∈ SK, b < w.heap.size) ∧ ∀ x ∈ ks, -9223372036854775808 ≤ x ∧ x < 9223372036854775808 := by
  obtain ⟨H, enc, fuel, x, h⟩ := h
  obtain ⟨v', rows, SK, hv, harg, hlt, hlen, hr⟩ := arg_slice Try.underlying22 (n := 1) (by kernel_rfl) (by omega) h
  injection hv with hv _
  subst hv
  have key : ∀ rs : List (List Value), (∀ r ∈ rs, r ∈ rows) → ∃ ks : List Int, rs = ks.map intV ∧ ∀ x ∈ ks, -9223372036854775808 ≤ x ∧ x < 9223372036854775808 := by
    intro rs
    induction rs with
    | nil => intro _; exact ⟨[], rfl, by simp⟩
    | cons r rs ih =>
      intro hrs
      obtain ⟨ks, h1, h2⟩ := ih fun x hx => hrs x (by simp [hx])
      obtain ⟨f, y, hy⟩ := hr r (hrs r (by simp))
      have hrl := harg.row (hrs r (by simp))
      obtain ⟨a, rfl⟩ : ∃ a, r = [a] := by
        match r, hrl with
        | [a], _ => exact ⟨a, rfl⟩
      obtain ⟨k, e, _, hw⟩ := DataW.trod_int Try.underlying3 hy
      injection e with e _
      exact ⟨k :: ks, by rw [h1, e]; rfl, fun x hx => by
        rcases List.mem_cons.1 hx with rfl | hx
        · exact wf64 hw
        · exact h2 x hx⟩
  obtain ⟨ks, h1, h2⟩ := key rows fun _ h => h
  subst h1
  exact ⟨ks, SK, harg, hlt, h2⟩
theorem frame_ok {t : Int} {s : List UInt8} (h : (frame t s).2 = 0) : s.length ≤ 1024 ∧ s ≠ [] := by
  unfold frame at h
  split at h
  · rename_i hc; exact ⟨hc.2.2, hc.2.1⟩
  · simp at h
theorem arg_text {w : World} {v : Value} {l : List (List UInt8)} {S : List Nat} (h : ArgAt w v 1 (l.map strV) S) {i : Nat} (hi : i < l.length) :
    ∃ bl o c T fr, w.heap[bl]? = some (.cells c T fr) ∧ (∀ kd K, ia 1 v (.int kd i) K = K (.pointer (some ⟨bl, o, none⟩))) ∧ c[o]? = some (.string (str l[i])) ∧ bl ∈ S := by
  obtain ⟨bl, o, T, c, fr, hm, hh, hia, _, _, hc⟩ := h.at (i := i) (by simpa using hi)
  refine ⟨bl, o, c, T, fr, hh, hia, ?_, hm⟩
  have := hc 0 (by omega); simpa [strV] using this
theorem chance_spec {w : World} {va vz : Value} {A Z : List (List UInt8)} {Sa Sz : List Nat} (ha : ArgAt w va 1 (A.map strV) Sa) (hz : ArgAt w vz 1 (Z.map strV) Sz) {i : Nat} (hi : i < Z.length)
    (hZ : ∀ s ∈ Z, (frame 1 s).2 = 0) (hA : ∀ s ∈ A, (frame 1 s).2 = 0) (hne : ∀ h : i < A.length, Z[i] ≠ A[i]) {K : Value → World → Prop} (hK : ∀ w', Kp [] w w' → K (.bool true) w') :
    callG Try.prog 43 #[va, vz, .int .i64 i] w K := by
  refine law04_chance_call ?_
  simp only [law04_chance, law04_chance_s0]
  obtain ⟨bl, o, c, T, fr', hh, hia, hc, _⟩ := arg_text hz hi
  have hzi := hZ _ (List.getElem_mem hi)
  have hzl := (frame_ok hzi).1
  simp [-getElem?_pos, -Array.getElem?_eq_getElem, -List.length_flatten, List.getElem?_cons_zero, List.getElem?_cons_succ, hia, hh, hc]
  refine Frame_spec 1 Z[i] (by omega) fun w1 hk1 => ?_
  rw [ex0, ex1, hzi]
  have ha1 := ha.keep hk1 (by simp)
  simp [-getElem?_pos, -Array.getElem?_eq_getElem, -List.length_flatten, List.getElem?_cons_zero, List.getElem?_cons_succ, ha1.lenL]
  refine ⟨fun _ => hK w1 hk1, fun hlt => ?_⟩
  have hiA : i < A.length := by omega
  obtain ⟨bl2, o2, c2, T2, fr2, hh2, hia2, hc2, _⟩ := arg_text ha1 hiA
  have hai := hA _ (List.getElem_mem hiA)
  have hal := (frame_ok hai).1
  simp [-getElem?_pos, -Array.getElem?_eq_getElem, -List.length_flatten, List.getElem?_cons_zero, List.getElem?_cons_succ, hia2, hh2, hc2]
  refine Frame_spec 1 A[i] (by omega) fun w2 hk2 => ?_
  rw [ex0, ex1, hai]
  have : (frame 1 Z[i]).1 ≠ (frame 1 A[i]).1 := fun h => hne hiA (frame_inj hzi hai h)
  simp [-getElem?_pos, -Array.getElem?_eq_getElem, -List.length_flatten, List.getElem?_cons_zero, List.getElem?_cons_succ, this]
  exact hK w2 (hk1.trans' hk2)
section
variable {w0 : World} {R : Value → World → Prop}
theorem crash_s6 (hR : ∀ w', Kp [] w0 w' → R (.bool true) w') {w : World} (hk0 : Kp [] w0 w) {va vz : Value} {A Z : List (List UInt8)} {Sa Sz : List Nat} (ha : ArgAt w va 1 (A.map strV) Sa) (hz : ArgAt w vz 1 (Z.map strV) Sz) {n : Nat}
    (hpre : ∀ i (h1 : i < Z.length) (h2 : i < A.length), i < n → Z[i] = A[i]) (hn : n ≤ A.length) (hnz : n ≤ Z.length) (hZ : ∀ s ∈ Z, (frame 1 s).2 = 0) (hA : ∀ s ∈ A, (frame 1 s).2 = 0) (hlz : Z.length < 2 ^ 40) :
    law04_WalCrash_s6 R va (.int .i64 n) vz w := by
  have haw : ∀ w', Kp [] w0 w' → callG Try.prog 29 #[] w' fun t w => R t w := fun w' hk => awake4_spec fun w'' hk' => hR w'' (hk.trans' hk')
  unfold law04_WalCrash_s6 law04_WalCrash_L5
  refine loop_inv (fun m xs wi => ∃ i, i ≤ Z.length ∧ m = Z.length - i ∧ xs = [va, .int .i64 n, vz, .int .i64 (i : Nat)] ∧ Kp [] w wi) ?_ (m := Z.length) ⟨0, by omega, rfl, rfl, Kp.refl _ _⟩
  rintro m N xs wi ⟨i, hi, rfl, rfl, hki⟩ hN
  have hzi := hz.keep hki (by simp)
  simp only [law04_WalCrash_L5F, law04_WalCrash_s4, hzi.lenL, List.length_map, bq_lss, bV_b]
  refine ⟨fun hlt => ?_, fun hge => ?_⟩
  · have hi : i < Z.length := by simpa using hlt
    have hiw : IntKind.i64.wrap ((i : Int) + 1) = ((i + 1 : Nat) : Int) := by rw [w64 (by omega) (by omega)]; simp
    have hkd := hki.drew
    have had := ha.keep hkd (by simp)
    have hzd := hz.keep hkd (by simp)
    have bad : (∀ h : i < A.length, Z[i] ≠ A[i]) → law04_WalCrash_s2 R N va (.int .i64 n) vz (.int .i64 i) (.bool true) wi.drew := by
      intro hne
      have hni : n ≤ i := by
        rcases Nat.lt_or_ge i n with h | h
        · exact absurd (hpre i hi (by omega) h) (hne (by omega))
        · exact h
      unfold law04_WalCrash_s2
      have : ((n : Int) ≤ i) := by omega
      simp [-getElem?_pos, -Array.getElem?_eq_getElem, -List.length_flatten, List.getElem?_cons_zero, List.getElem?_cons_succ, this]
      refine chance_spec had hzd hi hZ hA hne fun w1 hk1 => ?_
      simp [-getElem?_pos, -Array.getElem?_eq_getElem, -List.length_flatten, List.getElem?_cons_zero, List.getElem?_cons_succ, ]
      exact haw w1 ((hk0.trans' hkd).trans' hk1)
    unfold law04_WalCrash_s3
    simp only [(ha.keep hki (by simp)).lenL, List.length_map, bq_geq, bV_b]
    refine ⟨fun h => bad fun h2 => by simp at h; omega, fun h => ?_⟩
    have hiA : i < A.length := by simpa using h
    obtain ⟨bl, o, c, T, fr', hh, hia, hc, _⟩ := arg_text hzd hi
    obtain ⟨bl2, o2, c2, T2, fr2, hh2, hia2, hc2, _⟩ := arg_text had hiA
    simp only [heap_drew] at hh hh2
    simp [-getElem?_pos, -Array.getElem?_eq_getElem, -List.length_flatten, List.getElem?_cons_zero, List.getElem?_cons_succ, hia, hh, hc, hia2, hh2, hc2]
    by_cases he : Z[i] = A[i]
    · unfold law04_WalCrash_s2 law04_WalCrash_s1
      simp [-getElem?_pos, -Array.getElem?_eq_getElem, -List.length_flatten, List.getElem?_cons_zero, List.getElem?_cons_succ, he, hiw]
      exact hN (Z.length - (i + 1)) _ _ (by omega) ⟨i + 1, by omega, rfl, rfl, hkd⟩
    · have hb := bad fun _ => he
      simp [-getElem?_pos, -Array.getElem?_eq_getElem, -List.length_flatten, List.getElem?_cons_zero, List.getElem?_cons_succ, he]
      exact hb
  · have hie : i = Z.length := by simp at hge; omega
    unfold law04_WalCrash_s0
    have : (n : Int) ≤ Z.length := by omega
    simp [-getElem?_pos, -Array.getElem?_eq_getElem, -List.length_flatten, List.getElem?_cons_zero, List.getElem?_cons_succ, hzi.lenL, this]
    exact haw wi (hk0.trans' hki)
/-- the power goes off, and the log is opened anew -/
theorem crash_s8 (hR : ∀ w', Kp [] w0 w' → R (.bool true) w') {w : World} {a b : Nat} {g : LG} {d : DK} {B : List Nat} (o : OL w0 w a b g d B) (hdl : d.l.length < 2 ^ 40) (hnow : d.now.length = 40)
    {va kv : Value} {A : List (List UInt8)} {Sa : List Nat} (ha : ArgAt w va 1 (A.map strV) Sa) (hab : ∀ z ∈ Sa, z ∉ B) {n : Nat} (hn : n ≤ A.length) (hA : Recs A) (hfl : (fr 1 (A.take n)).length ≤ 1280) (hcw : CW d (fr 1 (A.take n)))
    {ks : List Int} {SK : List Nat} (hks : ArgAt w kv 1 (ks.map intV) SK) (hdis : ∀ x ∈ SK, x ∉ B) (hkw : ∀ x ∈ ks, -9223372036854775808 ≤ x ∧ x < 9223372036854775808) :
    law04_WalCrash_s8 R (.pointer (some ⟨b, 0, none⟩)) va (.int .i64 n) kv w := by
  unfold law04_WalCrash_s8
  have hA0 : ∀ s ∈ A, (frame 1 s).2 = 0 := fun s hs => by rw [frame_rec turn1 (hA s hs)]
  have htr : Recs (A.take n) := fun s hs => hA s (List.mem_of_mem_take hs)
  have ok := o.ok
  obtain ⟨h1, h2, Z, h3, h4⟩ := cw_scan hcw ok hnow htr hfl ks
  have hT := fun w' => OL.turn (w' := w') (S' := B) o
  have hnew := o.new
  obtain ⟨S, SL, lv, hB, hd, hL, _, _⟩ := o.ex
  obtain ⟨SK', hki, hsub⟩ := arg_ints hks
  have hSB : ∀ x ∈ S, x ∈ B := fun x hx => by rw [hB]; simp [hx]
  refine Crash_spec hd hdl hki (fun x hx hm => hdis x (hsub x hx) (hSB x hm)) hkw fun w1 hd1 hk1 => ?_
  have hk1' : Kp B w w1 := hk1.mono fun x hx _ => hSB x hx
  have hk01 := hT w1 hk1' fun x hx => hx
  have o1 : Own w0 w1 b (d.crash ks) S := ⟨hd1, hk01, fun x hx => hnew x (hSB x hx)⟩
  simp [-getElem?_pos, -Array.getElem?_eq_getElem, -List.length_flatten, List.getElem?_cons_zero, List.getElem?_cons_succ, ]
  refine ol_open (lo := 0) (hi := 40) o1 h1 (by omega) (by omega) turn1 fun w2 a2 B2 o2 hk2 hB2 hB2' => ?_
  rw [ex0, ex1]
  simp [-getElem?_pos, -Array.getElem?_eq_getElem, -List.length_flatten, List.getElem?_cons_zero, List.getElem?_cons_succ, ]
  rw [h3] at o2
  unfold law04_WalCrash_s7
  have hlZ : (A.take n ++ Z).length < 2 ^ 40 := by
    have hu := usedOf_len (A.take n ++ Z)
    have hsc := scan_used 1 (allOf (d.crash ks) 0 (40 - 0))
    rw [h3] at hsc
    have hlen : (allOf (d.crash ks) 0 (40 - 0)).length = 32 * (40 - 0) := allOf_len hd1.ok (by omega)
    omega
  refine ol_records o2 hlZ fun w3 v3 S3 hr3 hk3 hS3 => ?_
  have hav := ha.keep hk1' hab
  have hav3 := hav.keep (hk2.trans' hk3) (by simp)
  have htl : (A.take n).length = n := by rw [List.length_take]; omega
  refine crash_s6 hR (hk01.trans' (hk2.trans' hk3)) hav3 (.inr hr3.rd) (fun i g1 g2 hlt => ?_) hn (by show n ≤ (A.take n ++ Z).length; rw [List.length_append]; omega) h4 hA0 hlZ
  show (A.take n ++ Z)[i] = A[i]
  rw [List.getElem_append_left (by omega), List.getElem_take]
end
end Go.Proofs

/- WalCrash: the loop, and the call. -/
set_option linter.unusedVariables false
set_option linter.unusedSimpArgs false
namespace Go.Proofs
open Go Go.Q
theorem ol_fuse {w0 w : World} {a b : Nat} {g : LG} {d : DK} {B : List Nat} (h : OL w0 w a b g d B) (n : Int) (hn : n < 9223372036854775808) {K : Value → World → Prop}
    (hK : ∀ w', OL w0 w' a b g { d with fuse := max n (-1) } B → Kp B w w' → K (.int .i64 0) w') : callG Try.prog 23 #[.pointer (some ⟨b, 0, none⟩), .int .i64 n] w K := by
  have hT := fun w' => OL.turn (w' := w') (S' := B) h
  have hnew := h.new
  obtain ⟨S, SL, lv, rfl, hd, hL, h1, h2⟩ := h.ex
  refine Fuse_spec hd n hn fun w' hd' hk' => ?_
  have hb : b ∈ S := by obtain ⟨bs, bn, lv, SL, T, Ts, Tn, rfl, _⟩ := hd; simp
  have hkS : Kp S w w' := hk'.mono (by simpa using fun _ => hb)
  have hkB : Kp (a :: (SL ++ S)) w w' := hkS.mono fun x hx _ => by simp [hx]
  exact hK w' ⟨⟨S, SL, lv, rfl, hd', hL.keep hkS h1 h2, h1, h2⟩, hT w' hkB fun x hx => hx, hnew⟩ hkB
section
variable {w0 : World} {R : Value → World → Prop} {x0 x2 : Value} {syncs : Int} {l : List (List UInt8)} {SA : List Nat} {ks : List Int} {SK : List Nat}
theorem crash_s9 (hR : ∀ w', Kp [] w0 w' → R (.bool true) w') {w : World} {a b : Nat} {g : LG} {d : DK} {B : List Nat} (o : OL w0 w a b g d B) (hdl : d.l.length < 2 ^ 40) (hnow : d.now.length = 40)
    {va : Value} {A : List (List UInt8)} {Sa : List Nat} (ha : ArgAt w va 1 (A.map strV) Sa) (hab : ∀ z ∈ Sa, z ∉ B) {n : Nat} (hn : n ≤ A.length) (hA : Recs A) (hfl : (fr 1 (A.take n)).length ≤ 1280) (hcw : CW d (fr 1 (A.take n)))
    (hks : ArgAt w0 x2 1 (ks.map intV) SK) (hSK : ∀ x ∈ SK, x < w0.heap.size) (hkw : ∀ x ∈ ks, -9223372036854775808 ≤ x ∧ x < 9223372036854775808) :
    law04_WalCrash_s9 R x2 (.pointer (some ⟨b, 0, none⟩)) va (.int .i64 n) w := by
  unfold law04_WalCrash_s9
  have hk := hks.keep o.kp (by simp)
  have hdis : ∀ x ∈ SK, x ∉ B := fun x hx hm => by have := hSK x hx; have := o.new x hm; omega
  simp only [hk.lenL, List.length_map, bq_gtr, bV_b]
  refine ⟨fun h => ?_, fun h => ?_⟩
  · have h1 : 1 ≤ ks.length := by simp at h; omega
    obtain ⟨v, hv, hs⟩ := hk.drop (p := 1) (by simpa using h1) (kd := .i64)
    have hs' : ∀ K : Value → Prop, slL 1 x2 (some (.int .i64 1)) none K = K v := hs
    rw [hs']
    rw [← List.map_drop] at hv
    exact crash_s8 hR o hdl hnow ha hab hn hA hfl hcw hv hdis fun x hx => hkw x (List.mem_of_mem_drop hx)
  · exact crash_s8 hR o hdl hnow ha hab hn hA hfl hcw (ks := []) (SK := []) (.inl ⟨none, 0, rfl, rfl⟩) (by simp) (by simp)
theorem zc9s : zc Try.prog 9 = (strV []).toArray := by kernel_rfl
theorem crash_loop (hR : ∀ w', Kp [] w0 w' → R (.bool true) w') {w : World} {a b : Nat} {g : LG} {d : DK} {B : List Nat} (o : OL w0 w a b g d B) (hdl : d.l.length = 0) (hcs : CS g d [] 0)
    (hx : ArgAt w0 x0 1 (l.map strV) SA) (hSA : ∀ z ∈ SA, z < w0.heap.size) (hl : l.length ≤ 20)
    (hks : ArgAt w0 x2 1 (ks.map intV) SK) (hSK : ∀ x ∈ SK, x < w0.heap.size) (hkw : ∀ x ∈ ks, -9223372036854775808 ≤ x ∧ x < 9223372036854775808) :
    law04_WalCrash_s16 R x0 (.int .i64 syncs) x2 (.pointer (some ⟨b, 0, none⟩)) (.pointer (some ⟨a, 0, none⟩)) w := by
  have haw : ∀ w', Kp [] w0 w' → callG Try.prog 29 #[] w' fun t w => R t w := fun w' hk => awake4_spec fun w'' hk' => hR w'' (hk.trans' hk')
  unfold law04_WalCrash_s16 law04_WalCrash_s15 law04_WalCrash_L14
  refine loop_inv (fun m xs wi => ∃ i g d B n va Sa, i ≤ l.length ∧ m = l.length - i ∧ xs = [x0, .int .i64 syncs, x2, .pointer (some ⟨b, 0, none⟩), .pointer (some ⟨a, 0, none⟩), va, .int .i64 (n : Nat), .int .i64 (i : Nat)] ∧
      OL w0 wi a b g d B ∧ CS g d (l.take i) n ∧ (fr 1 (l.take i)).length ≤ 1280 ∧ d.l.length ≤ 50 * i ∧ (∀ s ∈ l.take i, s ≠ [] ∧ s.length ≤ 60) ∧ RowsAt wi va 1 ((l.take i).map strV) Sa ∧ (∀ z ∈ Sa, z ∉ B) ∧ ∀ z ∈ Sa, w0.heap.size ≤ z)
    ?_ (m := l.length) ⟨0, g, d, B, 0, .slice none 0 0, [], by omega, rfl, rfl, o, by simpa using hcs, by simp [fr], by omega, by simp, .inl ⟨rfl, rfl, rfl⟩, by simp, by simp⟩
  rintro m N xs wi ⟨i, gi, di, Bi, n, va, Sa, hi, rfl, rfl, oi, ci, hfr, hdi, hri, hva, hab, han⟩ hN
  have hxi := hx.keep oi.kp (by simp)
  have htl : (l.take i).length = i := by rw [List.length_take]; omega
  have hn := ci.n
  have hpre : (fr 1 ((l.take i).take n)).length ≤ 1280 := by
    rw [fr_take 1 (l.take i) n, List.length_append] at hfr; omega
  simp only [law04_WalCrash_L14F, law04_WalCrash_s13, hxi.lenL, List.length_map, bq_lss, bV_b]
  refine ⟨fun hlt => ?_, fun hge => ?_⟩
  · have hi : i < l.length := by simpa using hlt
    have hiw : IntKind.i64.wrap ((i : Int) + 1) = ((i + 1 : Nat) : Int) := by rw [w64 (by omega) (by omega)]; simp
    obtain ⟨bl, of, c, T, fr', hh, hia, hs, hbl⟩ := arg_text hxi hi
    have hnil : (⟨#[]⟩ : ByteArray) = str [] := rfl
    unfold law04_WalCrash_s12
    simp [-getElem?_pos, -Array.getElem?_eq_getElem, -List.length_flatten, List.getElem?_cons_zero, List.getElem?_cons_succ, hia, hh, hs, hnil]
    refine ⟨fun _ => haw _ oi.kp, fun h60 => ⟨fun _ => haw _ oi.kp, fun hne => ?_⟩⟩
    unfold law04_WalCrash_s11
    simp [-getElem?_pos, -Array.getElem?_eq_getElem, -List.length_flatten, List.getElem?_cons_zero, List.getElem?_cons_succ, hia, hh, hs]
    rw [bsl_one rfl]
    obtain ⟨w1, hw1⟩ : ∃ w1, w1 = wi.alloc (.cells #[.string (str l[i])] 9) := ⟨_, rfl⟩
    have hk1 : Kp [] wi w1 := by rw [hw1]; exact (Kp.refl [] wi).alloc _
    have hb1 : w1.heap[wi.heap.size]? = some (.cells #[.string (str l[i])] 9) := by rw [hw1]; exact heap_new
    rw [← hw1]
    have g1 : RdAt w1 (.slice (some ⟨wi.heap.size, 0, none⟩) 1 1) 1 ([l[i]].map strV) [wi.heap.size] :=
      .inr ⟨_, 0, 1, _, _, _, rfl, rfl, hb1, by simp [strV], by simp, by simp [strV], by simp⟩
    have hva1 := hva.keep hk1 (by simp)
    rw [zc9s]
    refine rows_app (k := 1) (G := [l[i]].map strV) hva1 (by omega) rfl (by simp [strV]) (strV_one _) (fun K' hK' => g1.src K' hK') (by simp [htl]; omega) (by simp [htl]; omega) fun v2 w2 S2 hv2 hk2 hS2 => ?_
    rw [← List.map_append] at hv2
    have htk : l.take i ++ [l[i]] = l.take (i + 1) := (List.take_succ_eq_append_getElem hi).symm
    rw [htk] at hv2
    have hsz1 := hk1.size
    have hszi := oi.kp.size
    have hk02 : Kp [] w0 w2 := (oi.kp.trans' hk1).trans hk2 fun x hx hlt => by have := han x hx; omega
    have hBl := oi.live
    have o2 := (oi.keep0 hk1).keep hk2 (fun z hz hm => hab z hm hz) hk02
    have hS2n : ∀ z ∈ S2, w0.heap.size ≤ z := fun z hz => by
      rcases hS2 z hz with h | h
      · exact han z h
      · omega
    have hS2B : ∀ z ∈ S2, z ∉ Bi := fun z hz hm => by
      rcases hS2 z hz with h | h
      · exact hab z h hm
      · have := hBl z hm; omega
    have hh2 := hk2.get (hk1.get hh (by simp)) fun hm => by have := han bl hm; have := hSA bl hbl; omega
    simp [-getElem?_pos, -Array.getElem?_eq_getElem, -List.length_flatten, List.getElem?_cons_zero, List.getElem?_cons_succ, hh2, hs]
    rw [bsl_one rfl]
    obtain ⟨w3, hw3⟩ : ∃ w3, w3 = w2.alloc (.cells #[.string (str l[i])] 9) := ⟨_, rfl⟩
    have hk3 : Kp [] w2 w3 := by rw [hw3]; exact (Kp.refl [] w2).alloc _
    have hb3 : w3.heap[w2.heap.size]? = some (.cells #[.string (str l[i])] 9) := by rw [hw3]; exact heap_new
    rw [← hw3]
    have g3 : RdAt w3 (.slice (some ⟨w2.heap.size, 0, none⟩) 1 1) 1 ([l[i]].map strV) [w2.heap.size] :=
      .inr ⟨_, 0, 1, _, _, _, rfl, rfl, hb3, by simp [strV], by simp, by simp [strV], by simp⟩
    have o3 := o2.keep0 hk3
    have hv3 := hv2.keep hk3 (by simp)
    have hg := ci.g
    have hB2 := o2.live
    have hb3l := lt_of_blk hb3
    have hrec : l[i] ≠ [] ∧ l[i].length ≤ 1024 := ⟨hne, by omega⟩
    obtain ⟨p1, p2, p3, p4⟩ := cs_add ci oi.ok hrec hfr
    have hri' : ∀ s ∈ l.take (i + 1), s ≠ [] ∧ s.length ≤ 60 := by
      rw [← htk]
      intro s hs
      rcases List.mem_append.1 hs with h | h
      · exact hri s h
      · simp only [List.mem_singleton] at h; rw [h]; exact ⟨hne, by omega⟩
    have hrecA : Recs (l.take (i + 1)) := fun s hs => ⟨(hri' s hs).1, by have := (hri' s hs).2; omega⟩
    have hlA : (l.take (i + 1)).length = i + 1 := by rw [List.length_take]; omega
    have htn : (l.take (i + 1)).take n = (l.take i).take n := by rw [List.take_take, List.take_take]; congr 1; omega
    have hul : (fr 1 (l.take i)).length = usedOf (l.take i) := fr_len _ _
    refine ol_add o3 (lo := 0) (hi := 40) (.inr g3) (fun z hz hm => by simp only [List.mem_singleton] at hz; have := hB2 z hm; omega) (fun z hz => by simp only [List.mem_singleton] at hz; omega)
      (by rw [hg]; simp only [htl, List.length_cons, List.length_nil]; omega) (by intro s hs; simp only [List.mem_singleton] at hs; rw [hs]; omega) (by rw [hg]; try rfl) (by rw [hg]; try rfl) (by omega) (by omega) (by rw [hg]; simp only; omega) (by omega) fun w4 B4 o4 hk4 hB4 => ?_
    have hv4 : RowsAt w4 v2 1 ((l.take (i + 1)).map strV) S2 := hv3.keep hk4 hS2B
    have hS2B4 : ∀ z ∈ S2, z ∉ B4 := fun z hz hm => by
      rcases hB4 z hm with h | h
      · exact hS2B z hz h
      · have := hv3.lt z hz; omega
    simp [-getElem?_pos, -Array.getElem?_eq_getElem, -List.length_flatten, List.getElem?_cons_zero, List.getElem?_cons_succ, ]
    refine ⟨fun he => ?_, fun he => ?_⟩
    · exact crash_s9 hR o4 (by omega) p4 (.inr hv4.rd) hS2B4 (by rw [hlA]; omega) hrecA (by rw [htn]; exact hpre) (by rw [htn]; exact p2) hks hSK hkw
    · obtain ⟨c4, hf4⟩ := p1 he
      rw [htk] at c4 hf4
      have next : ∀ (w' : World) (g' : LG) (d' : DK) (n' : Nat), OL w0 w' a b g' d' B4 → CS g' d' (l.take (i + 1)) n' → d'.l.length ≤ 50 * (i + 1) → Kp B4 w4 w' →
          law04_WalCrash_s10 R N x0 (.int .i64 syncs) x2 (.pointer (some ⟨b, 0, none⟩)) (.pointer (some ⟨a, 0, none⟩)) v2 (.int .i64 n') (.int .i64 i) w' := by
        intro w' g' d' n' o' c' hd' hk'
        unfold law04_WalCrash_s10
        simp only [bq_add, hiw]
        exact hN (l.length - (i + 1)) _ _ (by omega) ⟨i + 1, g', d', B4, n', v2, S2, by omega, rfl, rfl, o', c', hf4, hd', hri', hv4.keep hk' hS2B4, hS2B4, hS2n⟩
      rw [shr_of (by omega) (by simp [IntKind.bits]; omega)]
      simp [-getElem?_pos, -Array.getElem?_eq_getElem, -List.length_flatten, List.getElem?_cons_zero, List.getElem?_cons_succ, ]
      refine ⟨fun hbit => ?_, fun hbit => next w4 _ _ n o4 c4 (by omega) (Kp.refl _ _)⟩
      refine ol_sync o4 (by omega) fun w5 o5 hk5 => ?_
      obtain ⟨q1, q2, q3⟩ := cs_sync c4
      simp [-getElem?_pos, -Array.getElem?_eq_getElem, -List.length_flatten, List.getElem?_cons_zero, List.getElem?_cons_succ, ]
      have hv5 := hv4.keep hk5 hS2B4
      refine ⟨fun hz => ?_, fun hz => next w5 _ _ n o5 q2 (by omega) hk5⟩
      rw [hv5.rd.lenL, List.length_map, hlA]
      have c5 := q1 hz
      rw [hlA] at c5
      exact next w5 _ _ (i + 1) o5 c5 (by omega) hk5
  · have hie : i = l.length := by simp at hge; omega
    have hA : Recs (l.take i) := fun s hs => ⟨(hri s hs).1, by have := (hri s hs).2; omega⟩
    exact crash_s9 hR oi (by omega) ci.len (.inr hva.rd) hab hn hA hpre ci.cw hks hSK hkw
theorem crash_call (hR : ∀ w', Kp [] w0 w' → R (.bool true) w') (hx : ArgAt w0 x0 1 (l.map strV) SA) (hSA : ∀ z ∈ SA, z < w0.heap.size)
    (hks : ArgAt w0 x2 1 (ks.map intV) SK) (hSK : ∀ x ∈ SK, x < w0.heap.size) (hkw : ∀ x ∈ ks, -9223372036854775808 ≤ x ∧ x < 9223372036854775808) : callG Try.prog 11 #[x0, .int .i64 syncs, x2] w0 R := by
  refine law04_WalCrash_call ?_
  simp only [law04_WalCrash, law04_WalCrash_s20]
  refine New_ok (n := 40) (by omega) (by omega) fun w1 b S1 d1 hk1 hS1 => ?_
  rw [ex0, ex1]
  have o1 : Own w0 w1 b (DK.fresh 40) S1 := ⟨d1, hk1, hS1⟩
  refine ol_new hk1 (n := 40) (by omega) (by omega) o1 fun w3 a B1 ol1 hk3 hB1 hB1' => ?_
  rw [ex0, ex1]
  have hxi := hx.keep (hk1.trans' hk3) (by simp)
  have hki := hks.keep (hk1.trans' hk3) (by simp)
  unfold law04_WalCrash_s19
  simp [-getElem?_pos, -Array.getElem?_eq_getElem, -List.length_flatten, List.getElem?_cons_zero, List.getElem?_cons_succ, hxi.lenL]
  unfold law04_WalCrash_s18
  by_cases hl : l.length ≤ 20
  · have h8 : ¬ (20 : Int) < l.length := by omega
    simp [-getElem?_pos, -Array.getElem?_eq_getElem, -List.length_flatten, List.getElem?_cons_zero, List.getElem?_cons_succ, h8]
    unfold law04_WalCrash_s17
    have hb : ∀ p, byteAt (DK.fresh 40).now p = ([] : List UInt8).getD p 0 := (gs_fresh 40).bytes
    have c0 : ∀ f, CS ⟨0, 40, 1, [], []⟩ { DK.fresh 40 with fuse := f } [] 0 := fun f =>
      ⟨by simp [fr], by simp [DK.fresh, secs0], fun p hp => by simp [fr] at hp, rfl, ⟨fun p hp => by simp [fr] at hp, fun x hx => by simp [DK.fresh] at hx⟩, by simp⟩
    simp only [hki.lenL, List.length_map, bq_gtr, bV_b]
    refine ⟨fun h => ?_, fun h => ?_⟩
    · have h1 : 0 < ks.length := by simp at h; omega
      obtain ⟨bl, of, T, c, fr', _, hh, hia, _, _, hc⟩ := hki.at (i := 0) (by simpa using h1)
      have hs : c[of]? = some (.int .i64 ks[0]) := by have := hc 0 (by omega); simpa [intV] using this
      have hia' : ∀ K : Value → Prop, ia 1 x2 (.int .i64 0) K = K (.pointer (some ⟨bl, of, none⟩)) := fun K => hia .i64 K
      simp [-getElem?_pos, -Array.getElem?_eq_getElem, -List.length_flatten, List.getElem?_cons_zero, List.getElem?_cons_succ, hia', hh, hs]
      have hm : ks[0] % 128 < 128 := Int.emod_lt_of_pos _ (by omega)
      refine ol_fuse ol1 (ks[0] % 128) (by omega) fun w4 o4 hk4 => ?_
      simp [-getElem?_pos, -Array.getElem?_eq_getElem, -List.length_flatten, List.getElem?_cons_zero, List.getElem?_cons_succ, ]
      exact crash_loop hR o4 (by simp [DK.fresh]) (c0 _) hx hSA hl hks hSK hkw
    · have := c0 (-1)
      exact crash_loop hR ol1 (by simp [DK.fresh]) this hx hSA hl hks hSK hkw
  · have h8 : (20 : Int) < l.length := by omega
    simp [-getElem?_pos, -Array.getElem?_eq_getElem, -List.length_flatten, List.getElem?_cons_zero, List.getElem?_cons_succ, h8]
    exact awake4_spec fun w' hk' => hR w' (ol1.kp.trans' hk')
end
end Go.Proofs

/- Rules for the printed forms: or and xor of 64 bits without a sign; a number shifted, or a byte. -/
set_option linter.unusedVariables false
set_option linter.unusedSimpArgs false
namespace Go.Q
variable {P : Program} {T : TypeId} {xo yo : Operand} {w : World} {K : Value → Prop} {u : Value}
theorem wrap_natu64 {n : Nat} (h : n < 2 ^ 64) : IntKind.u64.wrap (n : Int) = n := by
  simp [IntKind.wrap, IntKind.bits, IntKind.signed]; omega
theorem wrap_natu8 {n : Nat} (h : n < 2 ^ 8) : IntKind.u8.wrap (n : Int) = n := by
  simp [IntKind.wrap, IntKind.bits, IntKind.signed]; omega
theorem oru64_of {x y : Nat} (hx : x < 2 ^ 64) (hy : y < 2 ^ 64) : qG P (bq .or T xo yo (.int .u64 x) (.int .u64 y)) w K = K (.int .u64 ((x ||| y : Nat) : Int)) :=
  qG_of (run_bq_int (s := .pure _) fun w => by
    have h2 : IntKind.u64.wrap ((BitVec.ofInt 64 (x : Int) ||| BitVec.ofInt 64 (y : Int)).toNat : Int) = ((x ||| y : Nat) : Int) := by
      rw [BitVec.toNat_or, ofInt_nat, ofInt_nat, Nat.mod_eq_of_lt (by omega), Nat.mod_eq_of_lt (by omega)]; exact wrap_natu64 (Nat.or_lt_two_pow hx hy)
    simp only [binOp, ne_eq, not_true_eq_false, if_false, Op.intBits]
    show Result.ok _ _ = Result.ok _ _
    congr 2)
theorem xoru64_of {x y : Nat} (hx : x < 2 ^ 64) (hy : y < 2 ^ 64) : qG P (bq .xor T xo yo (.int .u64 x) (.int .u64 y)) w K = K (.int .u64 ((x ^^^ y : Nat) : Int)) :=
  qG_of (run_bq_int (s := .pure _) fun w => by
    have h2 : IntKind.u64.wrap ((BitVec.ofInt 64 (x : Int) ^^^ BitVec.ofInt 64 (y : Int)).toNat : Int) = ((x ^^^ y : Nat) : Int) := by
      rw [BitVec.toNat_xor, ofInt_nat, ofInt_nat, Nat.mod_eq_of_lt (by omega), Nat.mod_eq_of_lt (by omega)]; exact wrap_natu64 (Nat.xor_lt_two_pow hx hy)
    simp only [binOp, ne_eq, not_true_eq_false, if_false, Op.intBits]
    show Result.ok _ _ = Result.ok _ _
    congr 2)
theorem xoru8_of {x y : Nat} (hx : x < 2 ^ 8) (hy : y < 2 ^ 8) : qG P (bq .xor T xo yo (.int .u8 x) (.int .u8 y)) w K = K (.int .u8 ((x ^^^ y : Nat) : Int)) :=
  qG_of (run_bq_int (s := .pure _) fun w => by
    have h2 : IntKind.u8.wrap ((BitVec.ofInt 8 (x : Int) ^^^ BitVec.ofInt 8 (y : Int)).toNat : Int) = ((x ^^^ y : Nat) : Int) := by
      rw [BitVec.toNat_xor, ofInt_nat, ofInt_nat, Nat.mod_eq_of_lt (by omega), Nat.mod_eq_of_lt (by omega)]; exact wrap_natu8 (Nat.xor_lt_two_pow hx hy)
    simp only [binOp, ne_eq, not_true_eq_false, if_false, Op.intBits]
    show Result.ok _ _ = Result.ok _ _
    congr 2)
theorem or_mul {x y k : Nat} (hx : x < 2 ^ k) : (y * 2 ^ k) ||| x = y * 2 ^ k + x := by
  rw [Nat.mul_comm y, Nat.two_pow_add_eq_or_of_lt hx]
/-- a number shifted by eight, or a byte -/
theorem or64s_of {m : Int} {b : Nat} (hb : b < 256) (h0 : -9223372036854775808 ≤ m * 256) (h1 : m * 256 < 9223372036854775808) :
    qG P (bq .or T xo yo (.int .i64 (m * 256)) (.int .i64 b)) w K = K (.int .i64 (m * 256 + b)) :=
  qG_of (run_bq_int (s := .pure _) fun w => by
    have h2 : IntKind.i64.wrap ((BitVec.ofInt 64 (m * 256) ||| BitVec.ofInt 64 (b : Int)).toNat : Int) = m * 256 + b := by
      rw [BitVec.toNat_or, ofInt_nat, Nat.mod_eq_of_lt (by omega), BitVec.toNat_ofInt]
      obtain ⟨q, hq⟩ : ∃ q : Nat, ((m * 256) % ((2 ^ 64 : Nat) : Int)).toNat = q * 2 ^ 8 := ⟨(m % (2 ^ 56 : Int)).toNat, by omega⟩
      rw [hq, or_mul (show b < 2 ^ 8 by omega)]
      simp [IntKind.wrap, IntKind.bits, IntKind.signed]
      omega
    simp only [binOp, ne_eq, not_true_eq_false, if_false, Op.intBits]
    show Result.ok _ _ = Result.ok _ _
    congr 2)
/-- the highest bit turned -/
theorem xor_top {x : Nat} (hx : x < 2 ^ 64) : x ^^^ 2 ^ 63 = (x + 2 ^ 63) % 2 ^ 64 := by
  have key : ∀ y, y < 2 ^ 63 → 2 ^ 63 + y = 2 ^ 63 ||| y := fun y hy => by
    have := Nat.two_pow_add_eq_or_of_lt hy 1
    rw [Nat.mul_one] at this
    exact this
  apply Nat.eq_of_testBit_eq
  intro i
  rw [Nat.testBit_xor, Nat.testBit_two_pow]
  have hx2 : x = (x / 2 ^ 63) * 2 ^ 63 + x % 2 ^ 63 := by omega
  have hr : x % 2 ^ 63 < 2 ^ 63 := Nat.mod_lt _ (by decide)
  have hq : x / 2 ^ 63 = 0 ∨ x / 2 ^ 63 = 1 := by omega
  rcases hq with hq | hq
  · have e : (x + 2 ^ 63) % 2 ^ 64 = 2 ^ 63 + x := by omega
    rw [e, key x (by omega)]
    rw [Nat.testBit_or]
    have hb : (2 ^ 63 : Nat).testBit i = decide (63 = i) := Nat.testBit_two_pow
    rw [hb]
    by_cases hi : 63 = i
    · subst hi
      have : x.testBit 63 = false := Nat.testBit_lt_two_pow (by omega)
      simp [this]
    · simp [hi]
  · have e : (x + 2 ^ 63) % 2 ^ 64 = x - 2 ^ 63 := by omega
    rw [e]
    obtain ⟨y, hy⟩ : ∃ y, y = x - 2 ^ 63 := ⟨_, rfl⟩
    have hxy : x = 2 ^ 63 + y := by omega
    have hylt : y < 2 ^ 63 := by omega
    rw [← hy, hxy, key y hylt]
    rw [Nat.testBit_or]
    have hb : (2 ^ 63 : Nat).testBit i = decide (63 = i) := Nat.testBit_two_pow
    rw [hb]
    by_cases hi : 63 = i
    · subst hi
      have : y.testBit 63 = false := Nat.testBit_lt_two_pow hylt
      simp [this]
    · simp [hi]
theorem xor_top8 {x : Nat} (hx : x < 2 ^ 8) : x ^^^ 128 = (x + 128) % 256 := by
  have : ∀ y : Fin 256, y.val ^^^ 128 = (y.val + 128) % 256 := by decide +kernel
  exact this ⟨x, hx⟩
end Go.Q

/- '==' of structs whose fields are numbers, texts and bools: one Bool. -/
set_option linter.unusedVariables false
set_option linter.unusedSimpArgs false
namespace Go.Q
def eqV : Value → Value → Bool
  | .int _ x, .int _ y => decide (x = y)
  | .string s, .string t => decide (s = t)
  | .bool a, .bool b => a == b
  | _, _ => false
def eqC : List Value → List Value → Bool
  | a :: r, b :: s => eqV a b && eqC r s
  | _, _ => true
@[simp] theorem eqV_int {k k' : IntKind} {x y : Int} : eqV (.int k x) (.int k' y) = decide (x = y) := rfl
@[simp] theorem eqV_str {s t : ByteArray} : eqV (.string s) (.string t) = decide (s = t) := rfl
@[simp] theorem eqV_bool {s t : Bool} : eqV (.bool s) (.bool t) = (s == t) := rfl
@[simp] theorem eqC_cons {a b : Value} {r s : List Value} : eqC (a :: r) (b :: s) = (eqV a b && eqC r s) := rfl
@[simp] theorem eqC_nil : eqC [] [] = true := rfl
def eqK : Option TypeDesc → Value → Value → Bool
  | some (.int _), .int k _, .int k' _ => k == k'
  | some .string, .string _, .string _ => true
  | some .bool, .bool _, .bool _ => true
  | _, _, _ => false
def flatF (P : Program) : List Field → List Value → List Value → Nat → Bool
  | [], _, _, _ => true
  | f :: fs, a :: aas, b :: bbs, i => !(f.name == "_") && Nat.beq f.offset i && (match aggO P f.type with | some false => true | _ => false) && eqK (P.underlying f.type) a b && flatF P fs aas bbs (i + 1)
  | _, _, _, _ => false
def lenF (P : Program) (T : TypeId) : Nat := (P.fieldsOf T).size
def aggEq (P : Program) (T : TypeId) (xs ys : List Value) : Bool :=
  match P.underlying T with
  | some (.struct fs) => !P.stoodInHeld T && !P.eqGuardType P.depth T && flatF P fs.toList xs ys 0 && Nat.beq fs.size xs.length && Nat.beq fs.size ys.length
  | _ => false
variable {P : Program}
theorem eqV_run {d : Nat} {T : TypeId} {a b : Value} {w : World} (h : eqK (P.underlying T) a b = true) : (Op.equalIn (d + 1) T a b).run P w = .ok (eqV a b) w := by
  unfold eqK at h
  split at h
  · rename_i hu
    have hk := eq_of_beq h
    subst hk
    rw [run_equalIn_int w d T _ _ _ _ hu]
    rfl
  · rename_i hu
    rw [run_equalIn_string w d T _ _ hu]
    rw [toList_beq]; rfl
  · rename_i hu
    rw [run_equalIn_bool' w d T _ _ hu]; rfl
  · cases h
theorem flat_run {d : Nat} {xs ys : Array Value} {w : World} : ∀ (fs : List Field) (aas bbs : List Value) (i : Nat), flatF P fs aas bbs i = true → xs.toList.drop i = aas → ys.toList.drop i = bbs → aas.length = fs.length → bbs.length = fs.length →
    (Op.eqFields (d + 1) xs ys fs).run P w = .ok (eqC aas bbs) w := by
  intro fs
  induction fs with
  | nil =>
    intro aas bbs i _ _ _ h1 h2
    have ha : aas = [] := List.length_eq_zero_iff.1 h1
    have hb : bbs = [] := List.length_eq_zero_iff.1 h2
    rw [ha, hb]
    simp [Op.eqFields]
  | cons f fs ih =>
    intro aas bbs i h h1 h2 h3 h4
    cases aas with
    | nil => simp at h3
    | cons a aas =>
      cases bbs with
      | nil => simp at h4
      | cons b bbs =>
        simp only [flatF, Bool.and_eq_true, Bool.not_eq_true'] at h
        obtain ⟨⟨⟨⟨g1, g2⟩, g3⟩, g4⟩, g5⟩ := h
        have hn : f.name ≠ "_" := by simpa using g1
        have ho : f.offset = i := Nat.eq_of_beq_eq_true g2
        have ha : aggO P f.type = some false := by
          revert g3
          cases aggO P f.type with
          | none => intro h; cases h
          | some t => cases t <;> intro h <;> simp at h ⊢
        have hx : xs[i]? = some a := by rw [← Array.getElem?_toList, ← List.head?_drop, h1]; rfl
        have hy : ys[i]? = some b := by rw [← Array.getElem?_toList, ← List.head?_drop, h2]; rfl
        have p1 : (part f.type xs f.offset).run P w = .ok a w := by rw [ho]; simp [part, aggO_run ha, hx, pure, Sem.run]
        have p2 : (part f.type ys f.offset).run P w = .ok b w := by rw [ho]; simp [part, aggO_run ha, hy, pure, Sem.run]
        have hr := ih aas bbs (i + 1) g5 (by rw [← List.drop_drop, h1]; rfl) (by rw [← List.drop_drop, h2]; rfl) (by simpa using h3) (by simpa using h4)
        rw [Op.eqFields]
        simp only [if_pos hn, Sem.run_bind, p1, p2, eqV_run g4, Result.andThen_ok]
        cases hv : eqV a b
        · simp [hv]
        · simp [hv]; exact hr
theorem run_aggs {T : TypeId} {xs ys : Array Value} {xo yo : Operand} {w : World} (h : aggEq P T xs.toList ys.toList = true) :
    (bq .eql T xo yo (.agg xs) (.agg ys)).run P w = .ok (.bool (eqC xs.toList ys.toList)) w ∧ (bq .neq T xo yo (.agg xs) (.agg ys)).run P w = .ok (.bool !eqC xs.toList ys.toList) w := by
  unfold aggEq at h
  split at h
  · rename_i fs hu
    simp only [Bool.and_eq_true, Bool.not_eq_true'] at h
    obtain ⟨⟨⟨⟨h1, h2⟩, h3⟩, h4⟩, h5⟩ := h
    have h4 := Nat.eq_of_beq_eq_true h4
    have h5 := Nat.eq_of_beq_eq_true h5
    have hf : P.fieldsOf T = fs := by simp [Program.fieldsOf, hu]
    have hr := flat_run (d := 9998) (xs := xs) (ys := ys) (w := w) fs.toList xs.toList ys.toList 0 h3 rfl rfl (by simpa using h4.symm) (by simpa using h5.symm)
    have he : (Op.equalIn 10000 T (.agg xs) (.agg ys)).run P w = .ok (eqC xs.toList ys.toList) w := by
      rw [run_equalIn_agg w 9999 T xs ys (by rw [hf]; exact hu) h1, hf]
      exact hr
    constructor
    · unfold bq
      rw [Sem.run_bind, run_eqGuard_agg w _ _ _ _ _ _ h2]
      simp only [Result.andThen_ok]
      rw [run_eql_struct, he]; rfl
    · unfold bq
      rw [Sem.run_bind, run_eqGuard_agg w _ _ _ _ _ _ h2]
      simp only [Result.andThen_ok]
      rw [run_neq_struct, he]; rfl
  · cases h
@[simp] theorem bq_aggeql {T : TypeId} {xs ys : List Value} {xo yo : Operand} {w : World} {K : Value → Prop} (h : aggEq P T xs ys = true) : qG P (bq .eql T xo yo (.agg xs.toArray) (.agg ys.toArray)) w K = K (.bool (eqC xs ys)) := qG_of (run_aggs h).1
@[simp] theorem bq_aggneq {T : TypeId} {xs ys : List Value} {xo yo : Operand} {w : World} {K : Value → Prop} (h : aggEq P T xs ys = true) : qG P (bq .neq T xo yo (.agg xs.toArray) (.agg ys.toArray)) w K = K (.bool !eqC xs ys) := qG_of (run_aggs h).2
end Go.Q

/- Slices of a call's own, and slices that are only read, without a list of their blocks. -/
set_option linter.unusedVariables false
set_option linter.unusedSimpArgs false
namespace Go.Q
/-- a slice that reads so -/
def Rd (w : World) (v : Value) (k : Nat) (rows : List (List Value)) : Prop := ∃ S, ArgAt w v k rows S
/-- a slice that owns its block, which was made behind 'w0' -/
structure Fr (w0 w : World) (v : Value) (k : Nat) (rows : List (List Value)) : Prop where
  ex : ∃ S, RowsAt w v k rows S ∧ ∀ x ∈ S, w0.heap.size ≤ x
  kp : Kp [] w0 w
section
variable {w0 w w' : World} {v : Value} {k : Nat} {rows : List (List Value)}
theorem Rd.keep (h : Rd w v k rows) (hk : Kp [] w w') : Rd w' v k rows := by
  obtain ⟨S, h⟩ := h
  exact ⟨S, h.keep hk (by simp)⟩
theorem Rd.lenL (h : Rd w v k rows) {K : Value → Prop} : lenL v K = K (.int .i64 rows.length) := by
  obtain ⟨S, h⟩ := h
  exact h.lenL
theorem Rd.row (h : Rd w v k rows) {x : List Value} (hx : x ∈ rows) : x.length = k := by
  obtain ⟨S, h⟩ := h
  exact h.row hx
theorem Rd.src (h : Rd w v k rows) (K' : Nat → Array Value → Prop) (hK : K' rows.length rows.flatten.toArray) : Q.srcA k v w K' := by
  obtain ⟨S, h⟩ := h
  exact h.src K' hK
theorem Rd.at (h : Rd w v k rows) {i : Nat} (hi : i < rows.length) :
    ∃ bl o T c fr, w.heap[bl]? = some (.cells c T fr) ∧ (∀ kd K, ia k v (.int kd i) K = K (.pointer (some ⟨bl, o, none⟩))) ∧ o + k ≤ c.size ∧ c.extract o (o + k) = rows[i].toArray ∧ ∀ j, j < k → c[o + j]? = rows[i][j]? := by
  obtain ⟨S, h⟩ := h
  obtain ⟨bl, o, T, c, fr, _, h1, h2, h3, h4, h5⟩ := h.at hi
  exact ⟨bl, o, T, c, fr, h1, h2, h3, h4, h5⟩
theorem Rd.take (h : Rd w v k rows) {p : Nat} (hp : p ≤ rows.length) {kd : IntKind} : ∃ v', Rd w v' k (rows.take p) ∧ ∀ K, slL k v none (some (.int kd p)) K = K v' := by
  obtain ⟨S, h⟩ := h
  obtain ⟨v', h1, h2⟩ := h.take hp (kd := kd)
  exact ⟨v', ⟨S, h1⟩, h2⟩
theorem Rd.drop (h : Rd w v k rows) {p : Nat} (hp : p ≤ rows.length) {kd : IntKind} : ∃ v', Rd w v' k (rows.drop p) ∧ ∀ K, slL k v (some (.int kd p)) none K = K v' := by
  obtain ⟨S, h⟩ := h
  obtain ⟨v', h1, h2⟩ := h.drop hp (kd := kd)
  exact ⟨v', ⟨S, h1⟩, h2⟩
/-- a row is read whole -/
theorem Rd.get (h : Rd w v k rows) {i : Nat} (hi : i < rows.length) :
    ∃ p, (∀ kd K, ia k v (.int kd i) K = K p) ∧ (∀ K : Value → Prop, ldn k p w K = K (.agg rows[i].toArray)) ∧ ∀ j (hj : j < rows[i].length), ∀ K : Value → Prop, fa j p (fun q => ld1 q w K) = K rows[i][j] := by
  have hr := h.row (List.getElem_mem hi)
  obtain ⟨bl, o, T, c, fr, h1, h2, h3, h4, h5⟩ := h.at hi
  refine ⟨_, h2, fun K => ?_, fun j hj K => ?_⟩
  · simp only [ldn_p, rdN_mk, h1, h3, h4, true_and]
  · have := h5 j (by omega)
    rw [List.getElem?_eq_getElem hj] at this
    simp [-getElem?_pos, -Array.getElem?_eq_getElem, h1, this]
/-- a row of one cell is read -/
theorem Rd.one (h : Rd w v 1 rows) {i : Nat} (hi : i < rows.length) {x : Value} (hx : rows[i] = [x]) : ∃ p, (∀ kd K, ia 1 v (.int kd i) K = K p) ∧ ∀ K : Value → Prop, ld1 p w K = K x := by
  obtain ⟨bl, o, T, c, fr, h1, h2, h3, h4, h5⟩ := h.at hi
  refine ⟨_, h2, fun K => ?_⟩
  have := h5 0 (by omega)
  rw [hx, Nat.add_zero, List.getElem?_cons_zero] at this
  simp [-getElem?_pos, -Array.getElem?_eq_getElem, h1, this]
theorem rd_nil : Rd w (.slice none 0 0) k [] := ⟨[], .inl ⟨none, 0, rfl, rfl⟩⟩
theorem Rd.slice (h : Rd w v k rows) : ∃ a c, v = .slice a rows.length c := by
  obtain ⟨S, ⟨a, c, h1, h2⟩ | h⟩ := h
  · exact ⟨a, c, by rw [h1, h2]; rfl⟩
  · obtain ⟨a, c, h1, _⟩ := h.len
    exact ⟨a, c, h1⟩
theorem Fr.rd (h : Fr w0 w v k rows) : Rd w v k rows := by
  obtain ⟨S, h1, h2⟩ := h.ex
  exact ⟨S, .inr h1.rd⟩
theorem Fr.keep (h : Fr w0 w v k rows) (hk : Kp [] w w') : Fr w0 w' v k rows := by
  obtain ⟨S, h1, h2⟩ := h.ex
  exact ⟨⟨S, h1.keep hk (by simp), h2⟩, h.kp.trans' hk⟩
/-- an elder base -/
theorem Fr.base {wb : World} (h : Fr w0 w v k rows) (hk : Kp [] wb w0) : Fr wb w v k rows := by
  obtain ⟨S, h1, h2⟩ := h.ex
  exact ⟨⟨S, h1, fun x hx => by have := h2 x hx; have := hk.size; omega⟩, hk.trans' h.kp⟩
theorem Fr.one (h : Fr w0 w v k rows) : Q.one v = true := by
  obtain ⟨S, h1, h2⟩ := h.ex
  obtain ⟨a, c, hv, _⟩ := h1.len
  rw [hv]; rfl
theorem fr_nil (hk : Kp [] w0 w) : Fr w0 w (.slice none 0 0) k [] := ⟨⟨[], .inl ⟨rfl, rfl, rfl⟩, by simp⟩, hk⟩
theorem fr_app {e bytes : Nat} {z : List Value} {x : Value} {G : List (List Value)} (h : Fr w0 w v k rows) (hk : 0 < k) (hz : z.length = k) (hG : ∀ y ∈ G, y.length = k) (hone : G.flatten.all Q.one = true)
    (hsrc : ∀ K' : Nat → Array Value → Prop, K' G.length G.flatten.toArray → srcA k x w K') (hb : 2 * (rows.length + G.length) * bytes ≤ 2 ^ 48) (hb2 : rows.length + G.length < 2 ^ 62) {K : Value → World → Prop}
    (hK : ∀ v' w', Fr w0 w' v' k (rows ++ G) → K v' w') : app e k bytes z.toArray v x w K := by
  obtain ⟨S, h1, h2⟩ := h.ex
  refine rows_app h1 hk hz hG hone hsrc hb hb2 fun v' w' S' h' hk' hS' => ?_
  have hs := h.kp.size
  refine hK v' w' ⟨⟨S', h', fun x hx => ?_⟩, h.kp.trans hk' fun x hx hlt => by have := h2 x hx; omega⟩
  rcases hS' x hx with h | h
  · exact h2 x h
  · omega
/-- a literal of one row is a slice of its own -/
theorem bsl_rowN {e n : Nat} {z : Array Value} {x : Value} {cs : List Value} (hn : 0 < n) (hc : x.cells = cs.toArray) (hl : cs.length = n) {w : World} {K : Value → World → Prop}
    (hK : ∀ v' w', Fr w w' v' n [cs] → K v' w') : bsl e n 1 z #[(0, x)] w K := by
  have hb : bsl e n 1 z #[(0, x)] w K = K (.slice (some ⟨w.heap.size, 0, none⟩) 1 1) (w.alloc (.cells cs.toArray e)) := by
    unfold bsl
    show (match Instr.fill (fun i => some (i * n, n)) (rep z (1 * n)) [(0, x)] with | some cs => K (Value.slice (some ⟨w.heap.size, 0, none⟩) 1 1) (w.alloc (Obj.cells cs e)) | none => False) = _
    rw [fill_step (off := 0) (size := n) (by simp) (by rw [hc]; simpa using hl) (by rw [rep_size]; omega), hc, splice_all (by rw [rep_size]; simp [hl])]
    rfl
  rw [hb]
  refine hK _ _ ⟨⟨[w.heap.size], .inr ⟨w.heap.size, [cs], e, rfl, rfl, ?_, by simpa using hl, by simp, by simp⟩, by simp⟩, (Kp.refl [] w).alloc _⟩
  rw [heap_new]; simp
/-- one row is appended -/
theorem fr_push {e bytes : Nat} {z : List Value} {x : Value} {y : List Value} {wx : World} (h : Fr w0 w v k rows) (hx : Rd w x k [y]) (hk : 0 < k) (hz : z.length = k) (hone : y.all Q.one = true)
    (hb : 2 * (rows.length + 1) * bytes ≤ 2 ^ 48) (hb2 : rows.length + 1 < 2 ^ 62) {K : Value → World → Prop}
    (hK : ∀ v' w', Fr w0 w' v' k (rows ++ [y]) → K v' w') : app e k bytes z.toArray v x w K := by
  have hy : y.length = k := hx.row (by simp)
  refine fr_app h hk hz (G := [y]) (by simpa using hy) (by simpa using hone) (fun K' hK' => hx.src K' hK') hb hb2 hK
end
/-! ### bytes -/
def byteV (c : UInt8) : List Value := [.int .u8 c.toNat]
theorem byteV_flat (l : List UInt8) : (l.map byteV).flatten = u8c l := by
  induction l with
  | nil => rfl
  | cons c l ih => simp only [List.map_cons, List.flatten_cons, ih]; rfl
theorem byteV_one (l : List UInt8) : ((l.map byteV).flatten).all one = true := by
  rw [byteV_flat]; have := one_u8c l; rw [List.all_toArray] at this; exact this
theorem srcA_str {l : List UInt8} {w : World} (K' : Nat → Array Value → Prop) (hK : K' (l.map byteV).length (l.map byteV).flatten.toArray) : srcA 1 (.string (str l)) w K' := by
  have he : u8s ((str l).extract 0 l.length) = (u8c l).toArray := by rw [str_extract, List.take_length, List.drop_zero, u8s_eq]; rfl
  rw [byteV_flat, List.length_map] at hK
  simp only [srcA, str_size, he]
  exact hK
/-- a text of bytes -/
theorem Rd.text {w : World} {v : Value} {l : List UInt8} (h : Rd w v 1 (l.map byteV)) (hn : (∃ a c, v = .slice a 0 c) → v = .slice none 0 0 ∨ ∃ S, RdAt w v 1 (l.map byteV) S) {K : Value → Prop} : cvBS v w K = K (.string (str l)) := by
  have main : ∀ S, RdAt w v 1 (l.map byteV) S → cvBS v w K = K (.string (str l)) := by
    intro S h
    rcases h with ⟨h1, h2⟩ | ⟨bl, o, cap, c, T, fr, h1, h2, h3, h4, h5, h6, h7⟩
    · have : l = [] := by simpa using h2
      subst this; subst h1
      rfl
    · subst h1
      have hb := bytesOf_u8c l
      simp only [List.length_map, Nat.mul_one] at h5 h6 h7
      have hx : c.extract o (o + l.length) = (u8c l).toArray := by rw [extract_toList, h6, byteV_flat]
      simp only [cvBS, rdN_mk, List.length_map, h3, hx, h5, true_and, hb]
      rfl
  obtain ⟨S, ⟨a, c, h1, h2⟩ | h⟩ := h
  · rcases hn ⟨a, c, h1⟩ with h3 | ⟨S, h3⟩
    · have : l = [] := by simpa using h2
      subst this; subst h3
      rfl
    · exact main S h3
  · exact main S h
theorem Fr.text {w0 w : World} {v : Value} {l : List UInt8} (h : Fr w0 w v 1 (l.map byteV)) {K : Value → Prop} : cvBS v w K = K (.string (str l)) := by
  obtain ⟨S, h1, h2⟩ := h.ex
  exact Rd.text h.rd fun _ => .inr ⟨S, h1.rd⟩
theorem bytes_app {w0 w : World} {v : Value} {l : List UInt8} {e : Nat} {z : Array Value} (hz : z = #[.int .u8 0]) (h : Fr w0 w v 1 (l.map byteV)) (s : List UInt8) (hl : l.length + s.length < 2 ^ 40) {K : Value → World → Prop}
    (hK : ∀ v' w', Fr w0 w' v' 1 ((l ++ s).map byteV) → K v' w') : app e 1 1 z v (.string (Q.str s)) w K := by
  subst hz
  refine fr_app (z := [.int .u8 0]) (G := s.map byteV) h (by omega) rfl (by simp [byteV]) (byteV_one s) (fun K' hK' => srcA_str K' hK') (by simp; omega) (by simp; omega) fun v' w' h' => hK v' w' (by rw [List.map_append]; exact h')
theorem byte_app {w0 w : World} {v x : Value} {l : List UInt8} {c : UInt8} {e : Nat} {z : Array Value} (hz : z = #[.int .u8 0]) (h : Fr w0 w v 1 (l.map byteV)) (hx : Rd w x 1 [byteV c]) (hl : l.length < 2 ^ 40) {K : Value → World → Prop}
    (hK : ∀ v' w', Fr w0 w' v' 1 ((l ++ [c]).map byteV) → K v' w') : app e 1 1 z v x w K := by
  subst hz
  refine fr_app (z := [.int .u8 0]) (G := [byteV c]) h (by omega) rfl (by simp [byteV]) (byteV_one [c]) (fun K' hK' => hx.src K' hK') (by simp; omega) (by simp; omega) fun v' w' h' => hK v' w' (by rw [List.map_append]; exact h')
end Go.Q

/- Plain: values and rows, as bytes and back. -/
set_option linter.unusedVariables false
set_option linter.unusedSimpArgs false
namespace Go.Q
structure V3 where
  k : Int
  n : Int
  s : List UInt8
  deriving DecidableEq
def valV (v : V3) : List Value := [.int .i64 v.k, .int .i64 v.n, .string (str v.s)]
def V3.ok (v : V3) : Bool :=
  if v.k = 0 then decide (v.n = 0 ∧ v.s = []) else if v.k = 1 then decide (v.s = []) else if v.k = 2 then decide (v.n = 0 ∧ v.s.length ≤ 64)
  else if v.k = 3 then decide ((v.n = 0 ∨ v.n = 1) ∧ v.s = []) else false
structure V3.Wf (v : V3) : Prop where
  k0 : -9223372036854775808 ≤ v.k
  k1 : v.k < 9223372036854775808
  n0 : -9223372036854775808 ≤ v.n
  n1 : v.n < 9223372036854775808
  s : v.s.length < 2 ^ 39
def bOf (x : Int) : UInt8 := UInt8.ofNat (x % 256).toNat
/-- digits, the greatest first -/
def be (m N : Nat) : List UInt8 := (List.range m).map fun i => UInt8.ofNat (N / 256 ^ (m - 1 - i) % 256)
def beN (l : List UInt8) : Nat := l.foldl (fun a c => a * 256 + c.toNat) 0
theorem be_len (m N : Nat) : (be m N).length = m := by simp [be]
theorem be_get {m N i : Nat} (h : i < m) : (be m N)[i]? = some (UInt8.ofNat (N / 256 ^ (m - 1 - i) % 256)) := by simp [be, h]
theorem be_succ (m N : Nat) : be (m + 1) N = be m (N / 256) ++ [UInt8.ofNat (N % 256)] := by
  unfold be
  rw [List.range_succ, List.map_append]
  congr 1
  · apply List.map_congr_left
    intro i hi
    rw [List.mem_range] at hi
    rw [Nat.div_div_eq_div_mul]
    have : m + 1 - 1 - i = (m - 1 - i) + 1 := by omega
    rw [this, Nat.pow_succ, Nat.mul_comm]
  · simp
theorem beN_snoc (l : List UInt8) (c : UInt8) : beN (l ++ [c]) = beN l * 256 + c.toNat := by simp [beN]
theorem beN_be : ∀ m N, beN (be m N) = N % 256 ^ m := by
  intro m
  induction m with
  | zero => intro N; simp [be, beN, Nat.mod_one]
  | succ m ih =>
    intro N
    rw [be_succ, beN_snoc, ih]
    have : (UInt8.ofNat (N % 256)).toNat = N % 256 := by simp
    rw [this, Nat.pow_succ, Nat.mul_comm (256 ^ m) 256, Nat.mod_mul]
    omega
theorem beN_lt (l : List UInt8) : beN l < 256 ^ l.length := by
  have key : ∀ (l : List UInt8) (a b : Nat), a < b → l.foldl (fun a c => a * 256 + c.toNat) a < b * 256 ^ l.length := by
    intro l
    induction l with
    | nil => intro a b h; simpa using h
    | cons c l ih =>
      intro a b h
      have hc := c.toNat_lt
      have := ih (a * 256 + c.toNat) (b * 256) (by omega)
      rw [List.foldl_cons, List.length_cons, Nat.pow_succ, Nat.mul_comm (256 ^ l.length) 256, ← Nat.mul_assoc]
      exact this
  have := key l 0 1 (by omega)
  simpa [beN] using this
theorem be_beN : ∀ (m : Nat) (l : List UInt8), l.length = m → be m (beN l) = l := by
  intro m
  induction m with
  | zero => intro l h; have : l = [] := List.length_eq_zero_iff.1 h; subst this; rfl
  | succ m ih =>
    intro l h
    rcases List.eq_nil_or_concat l with h0 | ⟨l', c, h0⟩
    · subst h0; simp at h
    · rw [List.concat_eq_append] at h0
      subst h0
      have hl : l'.length = m := by simpa using h
      have hc := c.toNat_lt
      rw [be_succ, beN_snoc]
      have e1 : (beN l' * 256 + c.toNat) / 256 = beN l' := by omega
      have e2 : (beN l' * 256 + c.toNat) % 256 = c.toNat := by omega
      rw [e1, e2, ih l' hl]
      simp
def be8 (n : Int) : List UInt8 := be 8 (n + 9223372036854775808).toNat
def unbe8 (l : List UInt8) : Int := (beN l : Int) - 9223372036854775808
theorem be8_len (n : Int) : (be8 n).length = 8 := be_len _ _
theorem unbe8_be8 {n : Int} (h0 : -9223372036854775808 ≤ n) (h1 : n < 9223372036854775808) : unbe8 (be8 n) = n := by
  unfold unbe8 be8
  rw [beN_be]
  omega
theorem be8_unbe8 {l : List UInt8} (h : l.length = 8) : be8 (unbe8 l) = l := by
  unfold unbe8 be8
  have : ((beN l : Int) - 9223372036854775808 + 9223372036854775808).toNat = beN l := by omega
  rw [this, be_beN 8 l h]
theorem unbe8_wf {l : List UInt8} (h : l.length = 8) : -9223372036854775808 ≤ unbe8 l ∧ unbe8 l < 9223372036854775808 := by
  have := beN_lt l
  rw [h] at this
  unfold unbe8
  omega
/-! ### values as bytes -/
def V3.bytes (v : V3) : List UInt8 := bOf v.k :: (if v.k = 1 then be8 v.n else if v.k = 2 then bOf v.s.length :: v.s else if v.k = 3 then [bOf v.n] else [])
def rowB (r : List V3) : List UInt8 := (r.map V3.bytes).flatten
def putRow (r : List V3) : List UInt8 × Int := if r.length ≤ 255 ∧ r.all V3.ok = true then (bOf r.length :: rowB r, 0) else ([], 1)
/-- the value that bytes begin with, and how many they are -/
def oneV (s : List UInt8) : Option (V3 × Nat) :=
  match s with
  | [] => none
  | c :: t =>
    if c = 0 then some (⟨0, 0, []⟩, 1)
    else if c = 1 then (if t.length < 8 then none else some (⟨1, unbe8 (t.take 8), []⟩, 9))
    else if c = 2 then
      match t with
      | [] => none
      | d :: u => if u.length < d.toNat ∨ 64 < d.toNat then none else some (⟨2, 0, u.take d.toNat⟩, 2 + d.toNat)
    else if c = 3 then
      match t with
      | [] => none
      | d :: _ => if 1 < d.toNat then none else some (⟨3, d.toNat, []⟩, 2)
    else none
def takeL : Nat → List UInt8 → Option (List V3 × List UInt8)
  | 0, s => some ([], s)
  | n + 1, s =>
    match oneV s with
    | none => none
    | some (v, k) =>
      match takeL n (s.drop k) with
      | none => none
      | some (l, r) => some (v :: l, r)
def takeRow (s : List UInt8) : List V3 × Int :=
  match s with
  | [] => ([], 50)
  | c :: t =>
    match takeL c.toNat t with
    | some (l, []) => (l, 0)
    | _ => ([], 50)
theorem bOf_nat {n : Nat} (h : n < 256) : (bOf (n : Int)).toNat = n := by unfold bOf; simp; omega
theorem bOf_lit (n : Nat) (h : n < 256) : bOf (n : Int) = UInt8.ofNat n := by
  apply UInt8.toNat_inj.1
  rw [bOf_nat h]; simp; omega
theorem oneV_bytes {v : V3} (h : v.ok = true) (hw : v.Wf) (r : List UInt8) : oneV (v.bytes ++ r) = some (v, v.bytes.length) := by
  obtain ⟨k, n, s⟩ := v
  unfold V3.ok at h
  simp only at h
  by_cases h0 : k = 0
  · subst h0
    simp at h
    obtain ⟨rfl, rfl⟩ := h
    rfl
  rw [if_neg h0] at h
  by_cases h1 : k = 1
  · subst h1
    simp at h
    subst h
    have hb : V3.bytes ⟨1, n, []⟩ = 1 :: be8 n := rfl
    have hl := be8_len n
    rw [hb]
    unfold oneV
    simp only [List.cons_append]
    rw [if_neg (by decide), if_pos (by decide), if_neg (by rw [List.length_append]; omega), List.take_left' hl, unbe8_be8 hw.n0 hw.n1]
    simp [hl]
  rw [if_neg h1] at h
  by_cases h2 : k = 2
  · subst h2
    simp at h
    obtain ⟨rfl, hs⟩ := h
    have hb : V3.bytes ⟨2, 0, s⟩ = 2 :: bOf s.length :: s := rfl
    have hd := bOf_nat (n := s.length) (by omega)
    rw [hb]
    unfold oneV
    simp only [List.cons_append]
    rw [if_neg (by decide), if_neg (by decide), if_pos (by decide)]
    simp only [hd]
    rw [if_neg (by rw [List.length_append]; omega), List.take_left' rfl]
    simp; omega
  rw [if_neg h2] at h
  by_cases h3 : k = 3
  · subst h3
    simp at h
    obtain ⟨hn, rfl⟩ := h
    have hb : V3.bytes ⟨3, n, []⟩ = [3, bOf n] := rfl
    rw [hb]
    unfold oneV
    simp only [List.cons_append, List.nil_append]
    rw [if_neg (by decide), if_neg (by decide), if_neg (by decide), if_pos (by decide)]
    rcases hn with rfl | rfl
    · rfl
    · rfl
  rw [if_neg h3] at h
  cases h
/-- what is taken may be, and has just these bytes -/
theorem oneV_some {s : List UInt8} {v : V3} {k : Nat} (h : oneV s = some (v, k)) : v.ok = true ∧ v.Wf ∧ s = v.bytes ++ s.drop k ∧ k = v.bytes.length ∧ 0 < k ∧ k ≤ s.length := by
  cases s with
  | nil => simp [oneV] at h
  | cons c t =>
    unfold oneV at h
    simp only at h
    by_cases h0 : c = 0
    · subst h0
      rw [if_pos rfl] at h
      injection h with h; injection h with h1 h2; subst h1; subst h2
      exact ⟨rfl, ⟨by decide, by decide, by decide, by decide, by decide⟩, rfl, rfl, by omega, by simp⟩
    rw [if_neg h0] at h
    by_cases h1 : c = 1
    · subst h1
      rw [if_pos rfl] at h
      split at h
      · cases h
      · rename_i hl
        injection h with h; injection h with h1 h2; subst h1; subst h2
        have hl8 : (t.take 8).length = 8 := by rw [List.length_take]; omega
        have hw := unbe8_wf hl8
        have hb : V3.bytes ⟨1, unbe8 (t.take 8), []⟩ = 1 :: t.take 8 := by
          show (1 : UInt8) :: be8 (unbe8 (t.take 8)) = _
          rw [be8_unbe8 hl8]
        refine ⟨rfl, ⟨by simp, by simp, hw.1, hw.2, by simp⟩, ?_, ?_, by omega, by simp; omega⟩
        · rw [hb]; simp
        · rw [hb]; simp; omega
    rw [if_neg h1] at h
    by_cases h2 : c = 2
    · subst h2
      rw [if_pos rfl] at h
      cases t with
      | nil => cases h
      | cons d u =>
        simp only at h
        split at h
        · cases h
        · rename_i hl
          injection h with h; injection h with h1 h2; subst h1; subst h2
          have hlt : (u.take d.toNat).length = d.toNat := by rw [List.length_take]; omega
          have hb : V3.bytes ⟨2, 0, u.take d.toNat⟩ = 2 :: d :: u.take d.toNat := by
            show (2 : UInt8) :: bOf (u.take d.toNat).length :: u.take d.toNat = _
            rw [hlt]
            have : bOf (d.toNat : Int) = d := by
              apply UInt8.toNat_inj.1
              exact bOf_nat d.toNat_lt
            rw [this]
          refine ⟨?_, ⟨by simp, by simp, by simp, by simp, by simp only [hlt]; omega⟩, ?_, ?_, by omega, by simp; omega⟩
          · simp [V3.ok]; omega
          · rw [hb, show 2 + d.toNat = d.toNat + 1 + 1 by omega]; simp
          · rw [hb]; simp [hlt]; omega
    rw [if_neg h2] at h
    by_cases h3 : c = 3
    · subst h3
      rw [if_pos rfl] at h
      cases t with
      | nil => cases h
      | cons d u =>
        simp only at h
        split at h
        · cases h
        · rename_i hl
          injection h with h; injection h with h1 h2; subst h1; subst h2
          have hd : d.toNat = 0 ∨ d.toNat = 1 := by omega
          have hb : bOf (d.toNat : Int) = d := by
            apply UInt8.toNat_inj.1
            exact bOf_nat d.toNat_lt
          refine ⟨?_, ⟨by simp, by simp, by simp only; omega, by simp only; omega, by simp⟩, ?_, rfl, by omega, by simp⟩
          · simp [V3.ok]; omega
          · show _ = [(3 : UInt8), bOf (d.toNat : Int)] ++ _
            rw [hb]; rfl
    rw [if_neg h3] at h
    cases h
theorem takeL_row : ∀ (r : List V3) (rest : List UInt8), r.all V3.ok = true → (∀ v ∈ r, v.Wf) → takeL r.length (rowB r ++ rest) = some (r, rest) := by
  intro r
  induction r with
  | nil => intro rest _ _; rfl
  | cons v r ih =>
    intro rest h hw
    simp only [List.all_cons, Bool.and_eq_true] at h
    have e : rowB (v :: r) ++ rest = v.bytes ++ (rowB r ++ rest) := by simp [rowB]
    rw [List.length_cons, e]
    unfold takeL
    rw [oneV_bytes h.1 (hw v (by simp))]
    simp only
    rw [List.drop_left, ih rest h.2 fun x hx => hw x (by simp [hx])]
theorem takeRow_put {r : List V3} (h : r.all V3.ok = true) (hl : r.length ≤ 255) (hw : ∀ v ∈ r, v.Wf) : takeRow (bOf r.length :: rowB r) = (r, 0) := by
  unfold takeRow
  simp only
  rw [bOf_nat (by omega)]
  have := takeL_row r [] h hw
  rw [List.append_nil] at this
  rw [this]
theorem takeL_some : ∀ (n : Nat) {s : List UInt8} {l : List V3} {r : List UInt8}, takeL n s = some (l, r) → l.length = n ∧ l.all V3.ok = true ∧ (∀ v ∈ l, v.Wf) ∧ s = rowB l ++ r := by
  intro n
  induction n with
  | zero =>
    intro s l r h
    unfold takeL at h
    injection h with h; injection h with h1 h2; subst h1; subst h2
    exact ⟨rfl, rfl, by simp, rfl⟩
  | succ n ih =>
    intro s l r h
    unfold takeL at h
    split at h
    · cases h
    · rename_i v k hv
      obtain ⟨h1, h2, h3, h4, h5, h6⟩ := oneV_some hv
      split at h
      · cases h
      · rename_i l' r' hl
        injection h with h; injection h with e1 e2; subst e1; subst e2
        obtain ⟨g1, g2, g3, g4⟩ := ih hl
        refine ⟨by simp [g1], by simp [h1, g2], fun x hx => ?_, ?_⟩
        · rcases List.mem_cons.1 hx with rfl | hx
          · exact h2
          · exact g3 x hx
        · rw [h3, g4]; simp [rowB]
theorem putRow_take {s : List UInt8} {r : List V3} (h : takeRow s = (r, 0)) : putRow r = (s, 0) ∧ ∀ v ∈ r, v.Wf := by
  cases s with
  | nil => simp [takeRow] at h
  | cons c t =>
    unfold takeRow at h
    simp only at h
    split at h
    · rename_i l hl
      injection h with h _
      subst h
      obtain ⟨h1, h2, h3, h4⟩ := takeL_some _ hl
      have hc := c.toNat_lt
      refine ⟨?_, h3⟩
      unfold putRow
      rw [if_pos ⟨by omega, h2⟩, h1]
      have : bOf (c.toNat : Int) = c := by
        apply UInt8.toNat_inj.1
        exact bOf_nat c.toNat_lt
      rw [this, h4]; simp
    · injection h with _ h
      simp at h
theorem oneV_len {s : List UInt8} {v : V3} {k : Nat} (h : oneV s = some (v, k)) : k ≤ s.length := (oneV_some h).2.2.2.2.2
end Go.Q

/- Structs laid part by part; cells of values. -/
set_option linter.unusedVariables false
set_option linter.unusedSimpArgs false
namespace Go.Q
theorem bld_step {places : List (Nat × Nat)} {z : List Value} {i off : Nat} {v : Value} {rest : List (Nat × Value)} {k : Value → Prop} (h : places[i]? = some (off, 1)) (hv : one v = true) (ho : off < z.length) :
    bld places z.toArray ((i, v) :: rest).toArray k = bld places (z.set off v).toArray rest.toArray k := by
  have hc := cells_one hv
  unfold bld
  show (match Instr.fill (places[·]?) z.toArray ((i, v) :: rest) with | some cs => k (.agg cs) | none => False) = (match Instr.fill (places[·]?) (z.set off v).toArray rest with | some cs => k (.agg cs) | none => False)
  rw [fill_step (off := off) (size := 1) h (by rw [hc]; rfl) (by simp only [List.size_toArray]; omega), hc]
  have : splice z.toArray off #[v] = (z.set off v).toArray := by
    have := splice_list z off [v]
    rw [this, List.set_eq_take_append_cons_drop, if_pos ho]
    simp
  rw [this]
def offAt : List (Nat × Nat) → Nat → Option Nat
  | [], _ => none
  | (o, n) :: r, i => if i = 0 then (if n = 1 then some o else none) else offAt r (i - 1)
theorem offAt_get : ∀ {places : List (Nat × Nat)} {i off : Nat}, offAt places i = some off → places[i]? = some (off, 1) := by
  intro places
  induction places with
  | nil => intro i off h; cases h
  | cons p r ih =>
    intro i off h
    obtain ⟨o, n⟩ := p
    unfold offAt at h
    split at h
    · rename_i hi
      split at h
      · rename_i hn
        injection h with h
        subst h; subst hn; subst hi
        rfl
      · cases h
    · rename_i hi
      have := ih h
      obtain ⟨j, rfl⟩ : ∃ j, i = j + 1 := ⟨i - 1, by omega⟩
      rw [List.getElem?_cons_succ]
      simpa using this
/-- one part more -/
def putAt (places : List (Nat × Nat)) (z : List Value) (i : Nat) (v : Value) : List Value := match offAt places i with | some o => z.set o v | none => z
theorem bld_at {places : List (Nat × Nat)} {z : List Value} {i : Nat} {v : Value} {rest : List (Nat × Value)} {k : Value → Prop} (hv : one v = true)
    (ho : (match offAt places i with | some o => decide (o < z.length) | none => false) = true) :
    bld places z.toArray ((i, v) :: rest).toArray k = bld places (putAt places z i v).toArray rest.toArray k := by
  unfold putAt
  cases h : offAt places i with
  | none => rw [h] at ho; cases ho
  | some o =>
    rw [h] at ho
    exact bld_step (offAt_get h) hv (by simpa using ho)
def bld0 (places : List (Nat × Nat)) (z : Array Value) (ps : Array (Nat × Value)) (k : Value → Prop) : Prop := bld places z ps k
theorem bld_if {places : List (Nat × Nat)} {z : List Value} {i : Nat} {v : Value} {rest : List (Nat × Value)} {k : Value → Prop} :
    bld places z.toArray ((i, v) :: rest).toArray k = if one v = true ∧ (match offAt places i with | some o => decide (o < z.length) | none => false) = true then bld places (putAt places z i v).toArray rest.toArray k else bld0 places z.toArray ((i, v) :: rest).toArray k := by
  by_cases h : one v = true ∧ (match offAt places i with | some o => decide (o < z.length) | none => false) = true
  · rw [if_pos h]; exact bld_at h.1 h.2
  · rw [if_neg h]; rfl
theorem bld_done {places : List (Nat × Nat)} {z : Array Value} {k : Value → Prop} : bld places z #[] k = k (.agg z) := rfl
@[simp] theorem cells_agg {cs : Array Value} : Value.cells (.agg cs) = cs := rfl
@[simp] theorem cells_int {k : IntKind} {n : Int} : Value.cells (.int k n) = #[.int k n] := rfl
@[simp] theorem cells_str {s : ByteArray} : Value.cells (.string s) = #[.string s] := rfl
@[simp] theorem all_cons1 {a : Value} {l : List Value} : (List.toArray (a :: l)).all one = (one a && (List.toArray l).all one) := by simp
@[simp] theorem all_nil1 : (List.toArray ([] : List Value)).all one = true := by simp
@[simp] theorem splice_lit {l vs : List Value} (h : l.length = vs.length) : splice l.toArray 0 vs.toArray = vs.toArray := splice_all (by simpa using h)
theorem ixS_lit {s : List UInt8} {kd : IntKind} {i : Nat} (hi : i < s.length) {K : Value → Prop} : ixS (.string (str s)) (.int kd i) K = K (.int .u8 s[i].toNat) := by
  have : (str s)[i]? = some s[i] := by
    have h : i < (str s).size := by simpa using hi
    rw [getElem?_pos (str s) i h]
    rfl
  unfold ixS
  simp only [Int.toNat_natCast, this]
  simp
theorem loadVar_of {P : Program} {t : TypeId} {n b : Nat} {w : World} {c : Array Value} {T : TypeId} {fr : Nat × Nat} (ha : aggO P t = some true) (hn : szO P t = some n) (hh : w.heap[b]? = some (.cells c T fr)) (hs : c.size = n) {K : Value → Prop} :
    qG P (do loadVar t (← asAddr (.pointer (some ⟨b, 0, none⟩)))) w K = K (.agg c) := by
  refine qG_of ?_
  have h : ldn n (.pointer (some ⟨b, 0, none⟩)) w (fun v => v = .agg c) := by
    rw [ldn_p]; unfold rdN; simp only [hh, true_and, hs, Nat.zero_add, Nat.le_refl]
    have : c.extract 0 n = c := by rw [← hs]; simp
    rw [this]
  obtain ⟨v, hr, hv⟩ := ldn_q (P := P) ha hn h
  subst hv
  exact hr
/-! bytes of numbers -/
theorem wrap_u8 (x : Int) : IntKind.u8.wrap x = ((bOf x).toNat : Int) := by
  have h1 : (bOf x).toNat = (x % 256).toNat := by unfold bOf; simp; omega
  rw [h1]
  simp [IntKind.wrap, IntKind.bits, IntKind.signed]
  omega
theorem bOf_mod (x : Int) : bOf (x % 256) = bOf x := by unfold bOf; rw [Int.emod_emod_of_dvd x (Int.dvd_refl 256)]
theorem top_u64 {P : Program} {T : TypeId} {xo yo : Operand} {w : World} {K : Value → Prop} {n : Int} (h0 : -9223372036854775808 ≤ n) (h1 : n < 9223372036854775808) :
    qG P (bq .xor T xo yo (.int .u64 (IntKind.u64.wrap n)) (.int .u64 9223372036854775808)) w K = K (.int .u64 ((n + 9223372036854775808).toNat : Nat)) := by
  have e1 : IntKind.u64.wrap n = (((n % 18446744073709551616).toNat : Nat) : Int) := by
    simp [IntKind.wrap, IntKind.bits, IntKind.signed]; omega
  have e2 : Value.int .u64 9223372036854775808 = .int .u64 ((2 ^ 63 : Nat) : Int) := rfl
  have e3 : ((n % 18446744073709551616).toNat + 2 ^ 63) % 2 ^ 64 = (n + 9223372036854775808).toNat := by omega
  rw [e1, e2, xoru64_of (by omega) (by omega), xor_top (by omega), e3]
theorem top2_u64 {P : Program} {T : TypeId} {xo yo : Operand} {w : World} {K : Value → Prop} {x : Nat} (hx : x < 2 ^ 64) :
    qG P (bq .xor T xo yo (.int .u64 x) (.int .u64 9223372036854775808)) w K = K (.int .u64 ((x + 2 ^ 63) % 2 ^ 64 : Nat)) := by
  have e2 : Value.int .u64 9223372036854775808 = .int .u64 ((2 ^ 63 : Nat) : Int) := rfl
  rw [e2, xoru64_of hx (by omega), xor_top hx]
theorem p256_8 : (256 : Nat) ^ 8 = 2 ^ 64 := by decide
theorem bOf_shift {N i : Nat} (hi : i < 8) : bOf ((N : Int) / 2 ^ (8 * (7 - (i : Int))).toNat) = UInt8.ofNat (N / 256 ^ (8 - 1 - i) % 256) := by
  have e : (8 * (7 - (i : Int))).toNat = 8 * (8 - 1 - i) := by omega
  rw [e]
  have e2 : ((2 : Int) ^ (8 * (8 - 1 - i))) = ((256 ^ (8 - 1 - i) : Nat) : Int) := by rw [Int.pow_mul]; simp
  rw [e2, ← Int.natCast_ediv]
  generalize N / 256 ^ (8 - 1 - i) = q
  unfold bOf
  congr 1
theorem be8_get {n : Int} (h0 : -9223372036854775808 ≤ n) (h1 : n < 9223372036854775808) {i : Nat} (hi : i < 8) : (be8 n)[i]? = some (bOf (n / 2 ^ (8 * (7 - i)) + if i = 0 then 128 else 0)) := by
  unfold be8
  rw [be_get hi]
  congr 1
  apply UInt8.toNat_inj.1
  unfold bOf
  rcases (by omega : i = 0 ∨ i = 1 ∨ i = 2 ∨ i = 3 ∨ i = 4 ∨ i = 5 ∨ i = 6 ∨ i = 7) with rfl | rfl | rfl | rfl | rfl | rfl | rfl | rfl <;> simp <;> omega
theorem bsl_byte {e : Nat} {z : Array Value} (c : UInt8) {w : World} {K : Value → World → Prop} (hK : ∀ v' w', Fr w w' v' 1 ([c].map byteV) → K v' w') : bsl e 1 1 z #[(0, .int .u8 c.toNat)] w K :=
  bsl_rowN (n := 1) (cs := byteV c) (by omega) rfl rfl hK
theorem take_snoc {α : Type} {l : List α} {i : Nat} {x : α} (h : l[i]? = some x) : l.take i ++ [x] = l.take (i + 1) := by
  obtain ⟨hi, hx⟩ := List.getElem?_eq_some_iff.1 h
  rw [List.take_succ_eq_append_getElem hi, hx]
theorem V3.bytes_ok {v : V3} (h : v.ok = true) : v.bytes.length ≤ 66 := by
  obtain ⟨k, n, s⟩ := v
  unfold V3.ok at h
  unfold V3.bytes
  simp only at h ⊢
  by_cases h1 : k = 1
  · simp [h1, be8_len]
  · by_cases h2 : k = 2
    · simp [h2] at h ⊢; omega
    · by_cases h3 : k = 3
      · simp [h3]
      · simp [h1, h2, h3]
theorem rowB_len {r : List V3} (h : r.all V3.ok = true) : (rowB r).length ≤ 66 * r.length := by
  induction r with
  | nil => simp [rowB]
  | cons v r ih =>
    simp only [List.all_cons, Bool.and_eq_true] at h
    have h1 := ih h.2
    have h2 := V3.bytes_ok h.1
    have e : rowB (v :: r) = v.bytes ++ rowB r := by simp [rowB]
    rw [e, List.length_append, List.length_cons]
    omega
theorem rowB_snoc (r : List V3) (v : V3) : rowB (r ++ [v]) = rowB r ++ v.bytes := by simp [rowB]
theorem putRow_bad {r : List V3} {v : V3} (h : v ∈ r) (hv : v.ok = false) : putRow r = ([], 1) := by
  unfold putRow
  rw [if_neg]
  rintro ⟨_, h2⟩
  rw [List.all_eq_true] at h2
  rw [h2 v h] at hv
  cases hv
theorem str_nil : (⟨#[]⟩ : ByteArray) = str [] := rfl
theorem kp_alloc {w : World} {o : Obj} : Kp [] w (w.alloc o) := (Kp.refl [] w).alloc o
theorem kp_drew {w : World} : Kp [] w w.drew := (Kp.refl [] w).drew
theorem ex_w {w' : World} : ∃ w, w = w' := ⟨_, rfl⟩
end Go.Q

set_option linter.unusedVariables false
set_option linter.unusedSimpArgs false
namespace Go.Proofs
open Go Go.Q
set_option maxRecDepth 100000
/-! quayside/quaysidelaw04.few -/
def law04_few_s0 (R : Value → World → Prop) (x0 : Value) (w : World) : Prop :=
  lenL x0 fun t37 =>
  qG Try.prog (bq .leq 3 (.tmp 37) (.const (.int .i64 8)) t37 (.int .i64 8)) w fun t38 =>
  R t38 w

theorem law04_few_s0_eq (R : Value → World → Prop) : ∀ e w, lift Try.prog 39 (sub (bodyOf Try.f41) [1, 1]) (finK Try.prog Try.f41.results.toList R) e w = law04_few_s0 R (e 0) w := fun e w => by kernel_rfl

def law04_few_s1 (R : Value → World → Prop) (N1 : List Value → World → Prop) (x0 x3 : Value) (w : World) : Prop :=
  ia 1 x0 x3 fun t16 =>
  ld1 t16 w fun t17 =>
  lenS t17 fun t18 =>
  qG Try.prog (bq .gtr 3 (.tmp 18) (.const (.int .i64 200)) t18 (.int .i64 200)) w fun t19 =>
  bV t19
  (ia 1 x0 x3 fun t23 =>
  ld1 t23 w fun t24 =>
  lenS t24 fun t25 =>
  qG Try.prog (bq .leq 3 (.tmp 25) (.const (.int .i64 1024)) t25 (.int .i64 1024)) w fun t26 =>
  bV t26
  (R (.bool false) w)
  (ia 1 x0 x3 fun t31 =>
  ld1 t31 w fun t32 =>
  lenS t32 fun t33 =>
  qG Try.prog (bq .gtr 3 (.tmp 33) (.const (.int .i64 4096)) t33 (.int .i64 4096)) w fun t34 =>
  bV t34
  (R (.bool false) w)
  (qG Try.prog (bq .add 3 (.tmp 12) (.const (.int .i64 1)) x3 (.int .i64 1)) w fun t13 =>
  N1 [x0, t13] w)))
  (ia 1 x0 x3 fun t31_1 =>
  ld1 t31_1 w fun t32_1 =>
  lenS t32_1 fun t33_1 =>
  qG Try.prog (bq .gtr 3 (.tmp 33) (.const (.int .i64 4096)) t33_1 (.int .i64 4096)) w fun t34_1 =>
  bV t34_1
  (R (.bool false) w)
  (qG Try.prog (bq .add 3 (.tmp 12) (.const (.int .i64 1)) x3 (.int .i64 1)) w fun t13_1 =>
  N1 [x0, t13_1] w))

theorem law04_few_s1_eq (R : Value → World → Prop) (N1 : List Value → World → Prop) : ∀ e w, lift Try.prog 39 (sub (bodyOf Try.f41) [1, 0, 1, 0, 0, 1]) (seqK (fun e w => N1 [e 0, e 3] w) (blockK 0 (seqK (fun e w => law04_few_s0 R (e 0) w) (finK Try.prog Try.f41.results.toList R)))) e w = law04_few_s1 R N1 (e 0) (e 3) w := fun e w => by kernel_rfl

def law04_few_s2 (R : Value → World → Prop) (N1 : List Value → World → Prop) (x0 x3 : Value) (w : World) : Prop :=
  lenL x0 fun t6 =>
  qG Try.prog (bq .lss 3 (.tmp 4) (.tmp 6) x3 t6) w fun t7 =>
  bV t7
  (qG Try.prog (bq .lss 3 (.tmp 9) (.const (.int .i64 8)) x3 (.int .i64 8)) w fun t10 =>
  bV t10
  (law04_few_s1 R N1 x0 x3 w)
  (law04_few_s0 R x0 w))
  (law04_few_s0 R x0 w)

theorem law04_few_s2_eq (R : Value → World → Prop) (N1 : List Value → World → Prop) : ∀ e w, lift Try.prog 39 (sub (bodyOf Try.f41) [1, 0, 1, 0, 0]) (seqK (fun e w => N1 [e 0, e 3] w) (blockK 0 (seqK (fun e w => law04_few_s0 R (e 0) w) (finK Try.prog Try.f41.results.toList R)))) e w = law04_few_s2 R N1 (e 0) (e 3) w :=
  segs_eq (l := [(sub (bodyOf Try.f41) [1, 0, 1, 0, 0, 0])]) (y := (sub (bodyOf Try.f41) [1, 0, 1, 0, 0, 1])) (Y := (fun e w => law04_few_s1 R N1 (e 0) (e 3) w)) (law04_few_s1_eq R N1) (fun e w => by kernel_rfl)

def law04_few_L3F (R : Value → World → Prop) (N1 : List Value → World → Prop) (xs : List Value) (w : World) : Prop :=
  match xs with
  | [x0, x3] => law04_few_s2 R N1 x0 x3 w
  | _ => False

def law04_few_L3 (R : Value → World → Prop) (x0 x3 : Value) (w : World) : Prop :=
  ∃ m, loopV (law04_few_L3F R) m [x0, x3] w

theorem law04_few_L3_eq (R : Value → World → Prop) : ∀ e w, lift Try.prog 39 (sub (bodyOf Try.f41) [1, 0, 1, 0]) (blockK 0 (seqK (fun e w => law04_few_s0 R (e 0) w) (finK Try.prog Try.f41.results.toList R))) e w = law04_few_L3 R (e 0) (e 3) w := loop_seg (F := law04_few_L3F R) (sel := fun e => [e 0, e 3]) fun N1 => (law04_few_s2_eq R N1)

def law04_few_s4 (R : Value → World → Prop) (x0 : Value) (w : World) : Prop :=
  law04_few_L3 R x0 (.int .i64 0) w

theorem law04_few_s4_eq (R : Value → World → Prop) : ∀ e w, lift Try.prog 39 (sub (bodyOf Try.f41) [1, 0]) (seqK (fun e w => law04_few_s0 R (e 0) w) (finK Try.prog Try.f41.results.toList R)) e w = law04_few_s4 R (e 0) w :=
  segs_eq (l := [(sub (bodyOf Try.f41) [1, 0, 0])]) (y := (sub (bodyOf Try.f41) [1, 0, 1])) (Y := (fun e w => law04_few_L3 R (e 0) (e 3) w)) (law04_few_L3_eq R) (fun e w => by kernel_rfl)

def law04_few_s5 (R : Value → World → Prop) (x0 : Value) (w : World) : Prop :=
  law04_few_s4 R x0 w

theorem law04_few_s5_eq (R : Value → World → Prop) : ∀ e w, lift Try.prog 39 (bodyOf Try.f41) (finK Try.prog Try.f41.results.toList R) e w = law04_few_s5 R (e 0) w :=
  segs_eq (l := [(sub (bodyOf Try.f41) [0])]) (y := (sub (bodyOf Try.f41) [1])) (Y := (fun e w => law04_few_s4 R (e 0) w)) (seq_seg (x := (sub (bodyOf Try.f41) [1, 0])) (y := (sub (bodyOf Try.f41) [1, 1])) (law04_few_s0_eq R) (law04_few_s4_eq R)) (fun e w => by kernel_rfl)

def law04_few (R : Value → World → Prop) (x0 : Value) (w : World) : Prop := law04_few_s5 R x0 w
theorem law04_few_call {R : Value → World → Prop} {x0 : Value} {w : World} (h : law04_few R x0 w) : callG Try.prog 41 #[x0] w R :=
  calls_lift_eq Try.mixed Try.func41 (args := [x0]) rfl rfl rfl rfl ((law04_few_s5_eq R) (envOf [x0]) w) (by kernel_rfl) h
/-! quayside/quaysideref04.Open -/
def ref04_Open_s0 (R : Value → World → Prop) (x2 x4 x6 x8 : Value) (w : World) : Prop :=
  cvBS x8 w fun t69 =>
  callG Try.prog 33 #[x2, t69] w fun t73 w =>
  qG Try.prog (Instr.extract t73 0) w fun t74 =>
  qG Try.prog (Instr.extract t73 1) w fun t75 =>
  iaA 2 1 x4 (.int .i64 0) fun t76 =>
  ld1 t76 (World.drew w) fun t77 =>
  iaA 2 1 x4 (.int .i64 1) fun t78 =>
  ld1 t78 (World.drew w) fun t79 =>
  slS t69 none (some t75) fun t84 =>
  bld [(0, 1), (1, 1), (2, 1), (3, 1), (4, 1)] (zc Try.prog 78) #[(0, t77), (1, t79), (2, x2), (3, t74), (4, t84)] fun t85 =>
  stn 5 x6 t85 (World.drew w) fun w =>
  qG Try.prog (do loadVar 78 (← asAddr x6)) w fun r6 =>
  R (.tuple #[r6, (.int .i64 0)]) w

theorem ref04_Open_s0_eq (R : Value → World → Prop) : ∀ e w, lift Try.prog 86 (sub (bodyOf Try.f64) [1, 1, 1, 1, 1]) (finK Try.prog Try.f64.results.toList R) e w = ref04_Open_s0 R (e 2) (e 4) (e 6) (e 8) w := fun e w => by kernel_rfl

def ref04_Open_b1 (R : Value → World → Prop) (N1 : List Value → World → Prop) (x2 x3 x4 x6 x8 x9 : Value) (w : World) : Prop :=
  iaA 2 1 x4 (.int .i64 1) fun t54 =>
  ld1 t54 w fun t55 =>
  qG Try.prog (bq .lss 3 (.tmp 53) (.tmp 55) x9 t55) w fun t56 =>
  bV t56
  (ldn 4 x3 w fun t60 =>
  callG Try.prog 21 #[t60, x9] w fun t62 w =>
  qG Try.prog (Instr.extract t62 0) w fun t63 =>
  qG Try.prog (Instr.extract t62 1) w fun t64 =>
  app 5 1 1 (zc Try.prog 5) x8 t63 w fun t67 w =>
  qG Try.prog (bq .add 3 (.tmp 57) (.const (.int .i64 1)) x9 (.int .i64 1)) w fun t58 =>
  N1 [x2, x3, x4, x6, t67, t58] w)
  (ref04_Open_s0 R x2 x4 x6 x8 w)

theorem ref04_Open_b1_eq (R : Value → World → Prop) (N1 : List Value → World → Prop) : ∀ e w, lift Try.prog 86 (sub (bodyOf Try.f64) [1, 1, 1, 1, 0, 1, 0, 0]) (seqK (fun e w => N1 [e 2, e 3, e 4, e 6, e 8, e 9] w) (blockK 0 (seqK (fun e w => ref04_Open_s0 R (e 2) (e 4) (e 6) (e 8) w) (finK Try.prog Try.f64.results.toList R)))) e w = ref04_Open_b1 R N1 (e 2) (e 3) (e 4) (e 6) (e 8) (e 9) w := fun e w => by kernel_rfl

def ref04_Open_L2F (R : Value → World → Prop) (N1 : List Value → World → Prop) (xs : List Value) (w : World) : Prop :=
  match xs with
  | [x2, x3, x4, x6, x8, x9] => ref04_Open_b1 R N1 x2 x3 x4 x6 x8 x9 w
  | _ => False

def ref04_Open_L2 (R : Value → World → Prop) (x2 x3 x4 x6 x8 x9 : Value) (w : World) : Prop :=
  ∃ m, loopV (ref04_Open_L2F R) m [x2, x3, x4, x6, x8, x9] w

theorem ref04_Open_L2_eq (R : Value → World → Prop) : ∀ e w, lift Try.prog 86 (sub (bodyOf Try.f64) [1, 1, 1, 1, 0, 1, 0]) (blockK 0 (seqK (fun e w => ref04_Open_s0 R (e 2) (e 4) (e 6) (e 8) w) (finK Try.prog Try.f64.results.toList R))) e w = ref04_Open_L2 R (e 2) (e 3) (e 4) (e 6) (e 8) (e 9) w := loop_seg (F := ref04_Open_L2F R) (sel := fun e => [e 2, e 3, e 4, e 6, e 8, e 9]) fun N1 => (ref04_Open_b1_eq R N1)

def ref04_Open_s3 (R : Value → World → Prop) (x2 x3 x4 x6 x8 : Value) (w : World) : Prop :=
  iaA 2 1 x4 (.int .i64 0) fun t51 =>
  ld1 t51 w fun t52 =>
  ref04_Open_L2 R x2 x3 x4 x6 x8 t52 w

theorem ref04_Open_s3_eq (R : Value → World → Prop) : ∀ e w, lift Try.prog 86 (sub (bodyOf Try.f64) [1, 1, 1, 1, 0]) (seqK (fun e w => ref04_Open_s0 R (e 2) (e 4) (e 6) (e 8) w) (finK Try.prog Try.f64.results.toList R)) e w = ref04_Open_s3 R (e 2) (e 3) (e 4) (e 6) (e 8) w :=
  segs_eq (l := [(sub (bodyOf Try.f64) [1, 1, 1, 1, 0, 0])]) (y := (sub (bodyOf Try.f64) [1, 1, 1, 1, 0, 1])) (Y := (fun e w => ref04_Open_L2 R (e 2) (e 3) (e 4) (e 6) (e 8) (e 9) w)) (ref04_Open_L2_eq R) (fun e w => by kernel_rfl)

def ref04_Open_s4 (R : Value → World → Prop) (x2 x3 x4 x6 : Value) (w : World) : Prop :=
  fa 3 x3 fun t48 =>
  ld1 t48 w fun t49 =>
  bV t49
  (bld [(0, 1), (1, 1), (2, 1), (3, 1), (4, 1)] (zc Try.prog 78) #[] fun t50 =>
  stn 5 x6 t50 w fun w =>
  qG Try.prog (do loadVar 78 (← asAddr x6)) w fun r6 =>
  R (.tuple #[r6, (.int .i64 30)]) w)
  (ref04_Open_s3 R x2 x3 x4 x6 (.slice none 0 0) w)

theorem ref04_Open_s4_eq (R : Value → World → Prop) : ∀ e w, lift Try.prog 86 (sub (bodyOf Try.f64) [1, 1]) (finK Try.prog Try.f64.results.toList R) e w = ref04_Open_s4 R (e 2) (e 3) (e 4) (e 6) w :=
  segs_eq (l := [(sub (bodyOf Try.f64) [1, 1, 0]), (sub (bodyOf Try.f64) [1, 1, 1, 0])]) (y := (sub (bodyOf Try.f64) [1, 1, 1, 1])) (Y := (fun e w => ref04_Open_s3 R (e 2) (e 3) (e 4) (e 6) (e 8) w)) (seq_seg (x := (sub (bodyOf Try.f64) [1, 1, 1, 1, 0])) (y := (sub (bodyOf Try.f64) [1, 1, 1, 1, 1])) (ref04_Open_s0_eq R) (ref04_Open_s3_eq R)) (fun e w => by kernel_rfl)

def ref04_Open_s5 (R : Value → World → Prop) (x0 x1 x2 : Value) (w : World) : Prop :=
  newG (Value.cells x0) 39 w fun t3 w =>
  newG (Value.cells x1) 76 w fun t4 w =>
  newG (zc Try.prog 78) 78 w fun t6 w =>
  fa 0 t3 fun t15 =>
  ld1 t15 w fun t16 =>
  lenL t16 fun t17 =>
  qG Try.prog (bq .eql 3 (.tmp 17) (.const (.int .i64 0)) t17 (.int .i64 0)) w fun t18 =>
  bV t18
  (bld [(0, 1), (1, 1), (2, 1), (3, 1), (4, 1)] (zc Try.prog 78) #[] fun t47 =>
  stn 5 t6 t47 w fun w =>
  qG Try.prog (do loadVar 78 (← asAddr t6)) w fun r6 =>
  R (.tuple #[r6, (.int .i64 1)]) w)
  (iaA 2 1 t4 (.int .i64 0) fun t20 =>
  ld1 t20 w fun t21 =>
  qG Try.prog (bq .lss 3 (.tmp 21) (.const (.int .i64 0)) t21 (.int .i64 0)) w fun t22 =>
  bV t22
  (bld [(0, 1), (1, 1), (2, 1), (3, 1), (4, 1)] (zc Try.prog 78) #[] fun t47_1 =>
  stn 5 t6 t47_1 w fun w =>
  qG Try.prog (do loadVar 78 (← asAddr t6)) w fun r6_1 =>
  R (.tuple #[r6_1, (.int .i64 1)]) w)
  (iaA 2 1 t4 (.int .i64 1) fun t25 =>
  ld1 t25 w fun t26 =>
  fa 0 t3 fun t27 =>
  ld1 t27 w fun t28 =>
  lenL t28 fun t29 =>
  qG Try.prog (bq .gtr 3 (.tmp 26) (.tmp 29) t26 t29) w fun t30 =>
  bV t30
  (bld [(0, 1), (1, 1), (2, 1), (3, 1), (4, 1)] (zc Try.prog 78) #[] fun t47_2 =>
  stn 5 t6 t47_2 w fun w =>
  qG Try.prog (do loadVar 78 (← asAddr t6)) w fun r6_2 =>
  R (.tuple #[r6_2, (.int .i64 1)]) w)
  (iaA 2 1 t4 (.int .i64 0) fun t33 =>
  ld1 t33 w fun t34 =>
  iaA 2 1 t4 (.int .i64 1) fun t35 =>
  ld1 t35 w fun t36 =>
  qG Try.prog (bq .geq 3 (.tmp 34) (.tmp 36) t34 t36) w fun t37 =>
  bV t37
  (bld [(0, 1), (1, 1), (2, 1), (3, 1), (4, 1)] (zc Try.prog 78) #[] fun t47_3 =>
  stn 5 t6 t47_3 w fun w =>
  qG Try.prog (do loadVar 78 (← asAddr t6)) w fun r6_3 =>
  R (.tuple #[r6_3, (.int .i64 1)]) w)
  (qG Try.prog (bq .lss 3 (.tmp 40) (.const (.int .i64 1)) x2 (.int .i64 1)) w fun t41 =>
  bV t41
  (bld [(0, 1), (1, 1), (2, 1), (3, 1), (4, 1)] (zc Try.prog 78) #[] fun t47_4 =>
  stn 5 t6 t47_4 w fun w =>
  qG Try.prog (do loadVar 78 (← asAddr t6)) w fun r6_4 =>
  R (.tuple #[r6_4, (.int .i64 1)]) w)
  (qG Try.prog (bq .gtr 3 (.tmp 44) (.const (.int .i64 2147483647)) x2 (.int .i64 2147483647)) w fun t45 =>
  bV t45
  (bld [(0, 1), (1, 1), (2, 1), (3, 1), (4, 1)] (zc Try.prog 78) #[] fun t47_5 =>
  stn 5 t6 t47_5 w fun w =>
  qG Try.prog (do loadVar 78 (← asAddr t6)) w fun r6_5 =>
  R (.tuple #[r6_5, (.int .i64 1)]) w)
  (ref04_Open_s4 R x2 t3 t4 t6 w))))))

theorem ref04_Open_s5_eq (R : Value → World → Prop) : ∀ e w, lift Try.prog 86 (bodyOf Try.f64) (finK Try.prog Try.f64.results.toList R) e w = ref04_Open_s5 R (e 0) (e 1) (e 2) w :=
  segs_eq (l := [(sub (bodyOf Try.f64) [0]), (sub (bodyOf Try.f64) [1, 0])]) (y := (sub (bodyOf Try.f64) [1, 1])) (Y := (fun e w => ref04_Open_s4 R (e 2) (e 3) (e 4) (e 6) w)) (ref04_Open_s4_eq R) (fun e w => by kernel_rfl)

def ref04_Open (R : Value → World → Prop) (x0 x1 x2 : Value) (w : World) : Prop := ref04_Open_s5 R x0 x1 x2 w
theorem ref04_Open_call {R : Value → World → Prop} {x0 x1 x2 : Value} {w : World} (h : ref04_Open R x0 x1 x2 w) : callG Try.prog 64 #[x0, x1, x2] w R :=
  calls_lift_eq Try.mixed Try.func64 (args := [x0, x1, x2]) rfl rfl rfl rfl ((ref04_Open_s5_eq R) (envOf [x0, x1, x2]) w) (by kernel_rfl) h
/-! quayside/quaysideref04.Add -/
def ref04_Add_s0 (R : Value → World → Prop) (x2 x3 x4 x6 x7 x15 : Value) (w : World) : Prop :=
  fa 3 x4 fun t138 =>
  ld1 t138 w fun t139 =>
  app 9 1 16 (zc Try.prog 9) (.slice none 0 0) t139 w fun t140 w =>
  app 9 1 16 (zc Try.prog 9) t140 x2 w fun t143 w =>
  fa 3 x4 fun t144 =>
  st1 t144 t143 w fun w =>
  fa 4 x4 fun t146 =>
  st1 t146 x15 w fun w =>
  ldn 4 x3 (World.drew w) fun t147 =>
  ldn 5 x4 (World.drew w) fun t148 =>
  stn 4 x6 t147 (World.drew w) fun w =>
  ldn 5 x4 w (fun u => u = t148) ∧
  stn 5 x7 t148 w fun w =>
  qG Try.prog (do loadVar 39 (← asAddr x6)) w fun r6 =>
  qG Try.prog (do loadVar 78 (← asAddr x7)) w fun r7 =>
  R (.tuple #[r6, r7, (.int .i64 0)]) w

theorem ref04_Add_s0_eq (R : Value → World → Prop) : ∀ e w, lift Try.prog 149 (sub (bodyOf Try.f66) [1, 1, 1, 1, 1, 1, 1, 1, 1]) (finK Try.prog Try.f66.results.toList R) e w = ref04_Add_s0 R (e 2) (e 3) (e 4) (e 6) (e 7) (e 15) w := fun e w => by kernel_rfl

def ref04_Add_s1 (R : Value → World → Prop) (N1 : List Value → World → Prop) (x2 x3 x4 x6 x7 x15 x16 : Value) (w : World) : Prop :=
  ldn 4 x3 w fun t91 =>
  fa 0 x4 fun t92 =>
  ld1 t92 w fun t93 =>
  qG Try.prog (bq .add 3 (.tmp 93) (.tmp 94) t93 x16) w fun t95 =>
  callG Try.prog 21 #[t91, t95] w fun t96 w =>
  qG Try.prog (Instr.extract t96 0) w fun t97 =>
  qG Try.prog (Instr.extract t96 1) w fun t98 =>
  qG Try.prog (bq .neq 24 (.tmp 99) (.const (.int .i64 0)) t98 (.int .i64 0)) w fun t100 =>
  bV t100
  (ldn 4 x3 (World.drew w) fun t101 =>
  ldn 5 x4 (World.drew w) fun t102 =>
  stn 4 x6 t101 (World.drew w) fun w =>
  ldn 5 x4 w (fun u => u = t102) ∧
  stn 5 x7 t102 w fun w =>
  qG Try.prog (do loadVar 39 (← asAddr x6)) w fun r6 =>
  qG Try.prog (do loadVar 78 (← asAddr x7)) w fun r7 =>
  R (.tuple #[r6, r7, t98]) w)
  (lenS x15 fun t105 =>
  qG Try.prog (bq .mul 3 (.const (.int .i64 32)) (.tmp 106) (.int .i64 32) x16) w fun t107 =>
  qG Try.prog (bq .sub 3 (.tmp 105) (.tmp 107) t105 t107) w fun t108 =>
  qG Try.prog (Builtin.min_ #[3, 3] 3 #[(.int .i64 32), t108]) w fun t109 =>
  ldn 4 x3 (World.drew w) fun t111 =>
  fa 0 x4 fun t112 =>
  ld1 t112 (World.drew w) fun t113 =>
  qG Try.prog (bq .add 3 (.tmp 113) (.tmp 114) t113 x16) (World.drew w) fun t115 =>
  qG Try.prog (bq .mul 3 (.const (.int .i64 32)) (.tmp 117) (.int .i64 32) x16) (World.drew w) fun t118 =>
  qG Try.prog (bq .mul 3 (.const (.int .i64 32)) (.tmp 119) (.int .i64 32) x16) (World.drew w) fun t120 =>
  qG Try.prog (bq .add 3 (.tmp 120) (.tmp 121) t120 t109) (World.drew w) fun t122 =>
  slS x15 (some t118) (some t122) fun t123 =>
  slS t97 (some t109) none fun t126 =>
  qG Try.prog (bq .add 9 (.tmp 123) (.tmp 126) t123 t126) (World.drew w) fun t127 =>
  (callG Try.prog 20 #[t111, t115, t127] (World.drew w) fun t128 w =>
  qG Try.prog (Instr.extract t128 0) w fun t129 =>
  qG Try.prog (Instr.extract t128 1) w fun t130 =>
  newG (zc Try.prog 39) 39 w fun t20 w =>
  stb Try.prog (Instr.extract t128 1) t130 w ∧
  stb Try.prog (Instr.extract t128 0) t129 w ∧
  stb Try.prog (bq .add 9 (.tmp 123) (.tmp 126) t123 t126) t127 w ∧
  stb Try.prog (bq .add 3 (.tmp 120) (.tmp 121) t120 t109) t122 w ∧
  stb Try.prog (bq .mul 3 (.const (.int .i64 32)) (.tmp 119) (.int .i64 32) x16) t120 w ∧
  stb Try.prog (bq .mul 3 (.const (.int .i64 32)) (.tmp 117) (.int .i64 32) x16) t118 w ∧
  stb Try.prog (bq .add 3 (.tmp 113) (.tmp 114) t113 x16) t115 w ∧
  ld1 t112 w (fun u => u = t113) ∧
  ldn 4 x3 w (fun u => u = t111) ∧
  stn 4 t20 t129 w fun w =>
  stb Try.prog (Instr.extract t128 1) t130 w ∧
  qG Try.prog (bq .neq 24 (.tmp 131) (.const (.int .i64 0)) t130 (.int .i64 0)) w fun t132 =>
  bV t132
  (ldn 4 t20 (World.drew w) fun t133 =>
  ldn 5 x4 (World.drew w) fun t134 =>
  stn 4 x6 t133 (World.drew w) fun w =>
  ldn 5 x4 w (fun u => u = t134) ∧
  stn 5 x7 t134 w fun w =>
  qG Try.prog (do loadVar 39 (← asAddr x6)) w fun r6_1 =>
  qG Try.prog (do loadVar 78 (← asAddr x7)) w fun r7_1 =>
  R (.tuple #[r6_1, r7_1, t130]) w)
  (ldn 4 t20 w fun t136 =>
  stn 4 x3 t136 w fun w =>
  qG Try.prog (bq .add 3 (.tmp 88) (.const (.int .i64 1)) x16 (.int .i64 1)) w fun t89 =>
  N1 [x2, x3, x4, x6, x7, x15, t89] w)) ∧
  (newG (zc Try.prog 39) 39 (World.drew w) fun t20_1 w =>
  stb Try.prog (bq .add 9 (.tmp 123) (.tmp 126) t123 t126) t127 w ∧
  stb Try.prog (bq .add 3 (.tmp 120) (.tmp 121) t120 t109) t122 w ∧
  stb Try.prog (bq .mul 3 (.const (.int .i64 32)) (.tmp 119) (.int .i64 32) x16) t120 w ∧
  stb Try.prog (bq .mul 3 (.const (.int .i64 32)) (.tmp 117) (.int .i64 32) x16) t118 w ∧
  stb Try.prog (bq .add 3 (.tmp 113) (.tmp 114) t113 x16) t115 w ∧
  ld1 t112 w (fun u => u = t113) ∧
  ldn 4 x3 w (fun u => u = t111) ∧
  callG Try.prog 20 #[t111, t115, t127] w fun t128_1 w =>
  qG Try.prog (Instr.extract t128_1 0) w fun t129_1 =>
  qG Try.prog (Instr.extract t128_1 1) w fun t130_1 =>
  stn 4 t20_1 t129_1 w fun w =>
  stb Try.prog (Instr.extract t128_1 1) t130_1 w ∧
  qG Try.prog (bq .neq 24 (.tmp 131) (.const (.int .i64 0)) t130_1 (.int .i64 0)) w fun t132_1 =>
  bV t132_1
  (ldn 4 t20_1 (World.drew w) fun t133_1 =>
  ldn 5 x4 (World.drew w) fun t134_1 =>
  stn 4 x6 t133_1 (World.drew w) fun w =>
  ldn 5 x4 w (fun u => u = t134_1) ∧
  stn 5 x7 t134_1 w fun w =>
  qG Try.prog (do loadVar 39 (← asAddr x6)) w fun r6_2 =>
  qG Try.prog (do loadVar 78 (← asAddr x7)) w fun r7_2 =>
  R (.tuple #[r6_2, r7_2, t130_1]) w)
  (ldn 4 t20_1 w fun t136_1 =>
  stn 4 x3 t136_1 w fun w =>
  qG Try.prog (bq .add 3 (.tmp 88) (.const (.int .i64 1)) x16 (.int .i64 1)) w fun t89_1 =>
  N1 [x2, x3, x4, x6, x7, x15, t89_1] w)))

theorem ref04_Add_s1_eq (R : Value → World → Prop) (N1 : List Value → World → Prop) : ∀ e w, lift Try.prog 149 (sub (bodyOf Try.f66) [1, 1, 1, 1, 1, 1, 1, 1, 0, 1, 0, 0, 1]) (seqK (fun e w => N1 [e 2, e 3, e 4, e 6, e 7, e 15, e 16] w) (blockK 2 (seqK (fun e w => ref04_Add_s0 R (e 2) (e 3) (e 4) (e 6) (e 7) (e 15) w) (finK Try.prog Try.f66.results.toList R)))) e w = ref04_Add_s1 R N1 (e 2) (e 3) (e 4) (e 6) (e 7) (e 15) (e 16) w := fun e w => by kernel_rfl

def ref04_Add_s2 (R : Value → World → Prop) (N1 : List Value → World → Prop) (x2 x3 x4 x6 x7 x15 x16 : Value) (w : World) : Prop :=
  lenL x2 fun t79 =>
  qG Try.prog (bq .gtr 3 (.tmp 79) (.const (.int .i64 0)) t79 (.int .i64 0)) w fun t80 =>
  bV t80
  (qG Try.prog (bq .mul 3 (.const (.int .i64 32)) (.tmp 82) (.int .i64 32) x16) w fun t83 =>
  lenS x15 fun t85 =>
  qG Try.prog (bq .lss 3 (.tmp 83) (.tmp 85) t83 t85) w fun t86 =>
  bV t86
  (ref04_Add_s1 R N1 x2 x3 x4 x6 x7 x15 x16 w)
  (ref04_Add_s0 R x2 x3 x4 x6 x7 x15 w))
  (ref04_Add_s0 R x2 x3 x4 x6 x7 x15 w)

theorem ref04_Add_s2_eq (R : Value → World → Prop) (N1 : List Value → World → Prop) : ∀ e w, lift Try.prog 149 (sub (bodyOf Try.f66) [1, 1, 1, 1, 1, 1, 1, 1, 0, 1, 0, 0]) (seqK (fun e w => N1 [e 2, e 3, e 4, e 6, e 7, e 15, e 16] w) (blockK 2 (seqK (fun e w => ref04_Add_s0 R (e 2) (e 3) (e 4) (e 6) (e 7) (e 15) w) (finK Try.prog Try.f66.results.toList R)))) e w = ref04_Add_s2 R N1 (e 2) (e 3) (e 4) (e 6) (e 7) (e 15) (e 16) w :=
  segs_eq (l := [(sub (bodyOf Try.f66) [1, 1, 1, 1, 1, 1, 1, 1, 0, 1, 0, 0, 0])]) (y := (sub (bodyOf Try.f66) [1, 1, 1, 1, 1, 1, 1, 1, 0, 1, 0, 0, 1])) (Y := (fun e w => ref04_Add_s1 R N1 (e 2) (e 3) (e 4) (e 6) (e 7) (e 15) (e 16) w)) (ref04_Add_s1_eq R N1) (fun e w => by kernel_rfl)

def ref04_Add_L3F (R : Value → World → Prop) (N1 : List Value → World → Prop) (xs : List Value) (w : World) : Prop :=
  match xs with
  | [x2, x3, x4, x6, x7, x15, x16] => ref04_Add_s2 R N1 x2 x3 x4 x6 x7 x15 x16 w
  | _ => False

def ref04_Add_L3 (R : Value → World → Prop) (x2 x3 x4 x6 x7 x15 x16 : Value) (w : World) : Prop :=
  ∃ m, loopV (ref04_Add_L3F R) m [x2, x3, x4, x6, x7, x15, x16] w

theorem ref04_Add_L3_eq (R : Value → World → Prop) : ∀ e w, lift Try.prog 149 (sub (bodyOf Try.f66) [1, 1, 1, 1, 1, 1, 1, 1, 0, 1, 0]) (blockK 2 (seqK (fun e w => ref04_Add_s0 R (e 2) (e 3) (e 4) (e 6) (e 7) (e 15) w) (finK Try.prog Try.f66.results.toList R))) e w = ref04_Add_L3 R (e 2) (e 3) (e 4) (e 6) (e 7) (e 15) (e 16) w := loop_seg (F := ref04_Add_L3F R) (sel := fun e => [e 2, e 3, e 4, e 6, e 7, e 15, e 16]) fun N1 => (ref04_Add_s2_eq R N1)

def ref04_Add_s4 (R : Value → World → Prop) (x2 x3 x4 x6 x7 x15 : Value) (w : World) : Prop :=
  fa 4 x4 fun t74 =>
  ld1 t74 w fun t75 =>
  lenS t75 fun t76 =>
  qG Try.prog (bq .quo 3 (.tmp 76) (.const (.int .i64 32)) t76 (.int .i64 32)) w fun t77 =>
  ref04_Add_L3 R x2 x3 x4 x6 x7 x15 t77 w

theorem ref04_Add_s4_eq (R : Value → World → Prop) : ∀ e w, lift Try.prog 149 (sub (bodyOf Try.f66) [1, 1, 1, 1, 1, 1, 1, 1, 0]) (seqK (fun e w => ref04_Add_s0 R (e 2) (e 3) (e 4) (e 6) (e 7) (e 15) w) (finK Try.prog Try.f66.results.toList R)) e w = ref04_Add_s4 R (e 2) (e 3) (e 4) (e 6) (e 7) (e 15) w :=
  segs_eq (l := [(sub (bodyOf Try.f66) [1, 1, 1, 1, 1, 1, 1, 1, 0, 0])]) (y := (sub (bodyOf Try.f66) [1, 1, 1, 1, 1, 1, 1, 1, 0, 1])) (Y := (fun e w => ref04_Add_L3 R (e 2) (e 3) (e 4) (e 6) (e 7) (e 15) (e 16) w)) (ref04_Add_L3_eq R) (fun e w => by kernel_rfl)

def ref04_Add_s5 (R : Value → World → Prop) (x2 x3 x4 x6 x7 x10 x11 : Value) (w : World) : Prop :=
  bV x11
  (ldn 4 x3 (World.drew w) fun t70 =>
  ldn 5 x4 (World.drew w) fun t71 =>
  stn 4 x6 t70 (World.drew w) fun w =>
  ldn 5 x4 w (fun u => u = t71) ∧
  stn 5 x7 t71 w fun w =>
  qG Try.prog (do loadVar 39 (← asAddr x6)) w fun r6 =>
  qG Try.prog (do loadVar 78 (← asAddr x7)) w fun r7 =>
  R (.tuple #[r6, r7, (.int .i64 2)]) w)
  (cvBS x10 w fun t73 =>
  ref04_Add_s4 R x2 x3 x4 x6 x7 t73 w)

theorem ref04_Add_s5_eq (R : Value → World → Prop) : ∀ e w, lift Try.prog 149 (sub (bodyOf Try.f66) [1, 1, 1, 1, 1, 1]) (finK Try.prog Try.f66.results.toList R) e w = ref04_Add_s5 R (e 2) (e 3) (e 4) (e 6) (e 7) (e 10) (e 11) w :=
  segs_eq (l := [(sub (bodyOf Try.f66) [1, 1, 1, 1, 1, 1, 0]), (sub (bodyOf Try.f66) [1, 1, 1, 1, 1, 1, 1, 0])]) (y := (sub (bodyOf Try.f66) [1, 1, 1, 1, 1, 1, 1, 1])) (Y := (fun e w => ref04_Add_s4 R (e 2) (e 3) (e 4) (e 6) (e 7) (e 15) w)) (seq_seg (x := (sub (bodyOf Try.f66) [1, 1, 1, 1, 1, 1, 1, 1, 0])) (y := (sub (bodyOf Try.f66) [1, 1, 1, 1, 1, 1, 1, 1, 1])) (ref04_Add_s0_eq R) (ref04_Add_s4_eq R)) (fun e w => by kernel_rfl)

def ref04_Add_b6 (R : Value → World → Prop) (N1 : List Value → World → Prop) (x2 x3 x4 x6 x7 x9 x10 x11 x12 : Value) (w : World) : Prop :=
  lenL x2 fun t35 =>
  qG Try.prog (bq .lss 3 (.tmp 33) (.tmp 35) x12 t35) w fun t36 =>
  bV t36
  (fa 2 x4 fun t40 =>
  ld1 t40 (World.drew w) fun t41 =>
  ia 1 x2 x12 fun t44 =>
  ld1 t44 (World.drew w) fun t45 =>
  callG Try.prog 31 #[t41, t45] (World.drew w) fun t46 w =>
  qG Try.prog (Instr.extract t46 0) w fun t47 =>
  qG Try.prog (Instr.extract t46 1) w fun t48 =>
  qG Try.prog (bq .neq 24 (.tmp 49) (.const (.int .i64 0)) t48 (.int .i64 0)) w fun t50 =>
  bV t50
  (ldn 4 x3 (World.drew w) fun t51 =>
  ldn 5 x4 (World.drew w) fun t52 =>
  stn 4 x6 t51 (World.drew w) fun w =>
  ldn 5 x4 w (fun u => u = t52) ∧
  stn 5 x7 t52 w fun w =>
  qG Try.prog (do loadVar 39 (← asAddr x6)) w fun r6 =>
  qG Try.prog (do loadVar 78 (← asAddr x7)) w fun r7 =>
  R (.tuple #[r6, r7, t48]) w)
  (bV x11
  (qG Try.prog (Op.unary .not (.bool true)) w fun t65 =>
  bV t65
  (app 5 1 1 (zc Try.prog 5) x10 t47 w fun t68 w =>
  qG Try.prog (bq .add 3 (.tmp 37) (.const (.int .i64 1)) x12 (.int .i64 1)) w fun t38 =>
  N1 [x2, x3, x4, x6, x7, x9, t68, (.bool true), t38] w)
  (qG Try.prog (bq .add 3 (.tmp 37) (.const (.int .i64 1)) x12 (.int .i64 1)) w fun t38_1 =>
  N1 [x2, x3, x4, x6, x7, x9, x10, (.bool true), t38_1] w))
  (lenS t47 fun t57 =>
  lenL x10 fun t60 =>
  qG Try.prog (bq .sub 3 (.tmp 58) (.tmp 60) x9 t60) w fun t61 =>
  qG Try.prog (bq .gtr 3 (.tmp 57) (.tmp 61) t57 t61) w fun t62 =>
  qG Try.prog (Op.unary .not t62) w fun t65_1 =>
  bV t65_1
  (app 5 1 1 (zc Try.prog 5) x10 t47 w fun t68_1 w =>
  qG Try.prog (bq .add 3 (.tmp 37) (.const (.int .i64 1)) x12 (.int .i64 1)) w fun t38_2 =>
  N1 [x2, x3, x4, x6, x7, x9, t68_1, t62, t38_2] w)
  (qG Try.prog (bq .add 3 (.tmp 37) (.const (.int .i64 1)) x12 (.int .i64 1)) w fun t38_3 =>
  N1 [x2, x3, x4, x6, x7, x9, x10, t62, t38_3] w))))
  (ref04_Add_s5 R x2 x3 x4 x6 x7 x10 x11 w)

theorem ref04_Add_b6_eq (R : Value → World → Prop) (N1 : List Value → World → Prop) : ∀ e w, lift Try.prog 149 (sub (bodyOf Try.f66) [1, 1, 1, 1, 1, 0, 1, 0, 0]) (seqK (fun e w => N1 [e 2, e 3, e 4, e 6, e 7, e 9, e 10, e 11, e 12] w) (blockK 0 (seqK (fun e w => ref04_Add_s5 R (e 2) (e 3) (e 4) (e 6) (e 7) (e 10) (e 11) w) (finK Try.prog Try.f66.results.toList R)))) e w = ref04_Add_b6 R N1 (e 2) (e 3) (e 4) (e 6) (e 7) (e 9) (e 10) (e 11) (e 12) w := fun e w => by kernel_rfl

def ref04_Add_L7F (R : Value → World → Prop) (N1 : List Value → World → Prop) (xs : List Value) (w : World) : Prop :=
  match xs with
  | [x2, x3, x4, x6, x7, x9, x10, x11, x12] => ref04_Add_b6 R N1 x2 x3 x4 x6 x7 x9 x10 x11 x12 w
  | _ => False

def ref04_Add_L7 (R : Value → World → Prop) (x2 x3 x4 x6 x7 x9 x10 x11 x12 : Value) (w : World) : Prop :=
  ∃ m, loopV (ref04_Add_L7F R) m [x2, x3, x4, x6, x7, x9, x10, x11, x12] w

theorem ref04_Add_L7_eq (R : Value → World → Prop) : ∀ e w, lift Try.prog 149 (sub (bodyOf Try.f66) [1, 1, 1, 1, 1, 0, 1, 0]) (blockK 0 (seqK (fun e w => ref04_Add_s5 R (e 2) (e 3) (e 4) (e 6) (e 7) (e 10) (e 11) w) (finK Try.prog Try.f66.results.toList R))) e w = ref04_Add_L7 R (e 2) (e 3) (e 4) (e 6) (e 7) (e 9) (e 10) (e 11) (e 12) w := loop_seg (F := ref04_Add_L7F R) (sel := fun e => [e 2, e 3, e 4, e 6, e 7, e 9, e 10, e 11, e 12]) fun N1 => (ref04_Add_b6_eq R N1)

def ref04_Add_s8 (R : Value → World → Prop) (x2 x3 x4 x6 x7 x9 x10 x11 : Value) (w : World) : Prop :=
  ref04_Add_L7 R x2 x3 x4 x6 x7 x9 x10 x11 (.int .i64 0) w

theorem ref04_Add_s8_eq (R : Value → World → Prop) : ∀ e w, lift Try.prog 149 (sub (bodyOf Try.f66) [1, 1, 1, 1, 1, 0]) (seqK (fun e w => ref04_Add_s5 R (e 2) (e 3) (e 4) (e 6) (e 7) (e 10) (e 11) w) (finK Try.prog Try.f66.results.toList R)) e w = ref04_Add_s8 R (e 2) (e 3) (e 4) (e 6) (e 7) (e 9) (e 10) (e 11) w :=
  segs_eq (l := [(sub (bodyOf Try.f66) [1, 1, 1, 1, 1, 0, 0])]) (y := (sub (bodyOf Try.f66) [1, 1, 1, 1, 1, 0, 1])) (Y := (fun e w => ref04_Add_L7 R (e 2) (e 3) (e 4) (e 6) (e 7) (e 9) (e 10) (e 11) (e 12) w)) (ref04_Add_L7_eq R) (fun e w => by kernel_rfl)

def ref04_Add_s9 (R : Value → World → Prop) (x0 x1 x2 : Value) (w : World) : Prop :=
  newG (Value.cells x0) 39 w fun t3 w =>
  newG (Value.cells x1) 78 w fun t4 w =>
  newG (zc Try.prog 39) 39 w fun t6 w =>
  newG (zc Try.prog 78) 78 w fun t7 w =>
  fa 1 t4 fun t23 =>
  ld1 t23 w fun t24 =>
  fa 0 t4 fun t25 =>
  ld1 t25 w fun t26 =>
  qG Try.prog (bq .sub 3 (.tmp 24) (.tmp 26) t24 t26) w fun t27 =>
  qG Try.prog (bq .mul 3 (.const (.int .i64 32)) (.tmp 27) (.int .i64 32) t27) w fun t28 =>
  fa 4 t4 fun t30 =>
  ld1 t30 w fun t31 =>
  app 5 1 1 (zc Try.prog 5) (.slice none 0 0) t31 w fun t32 w =>
  ref04_Add_s8 R x2 t3 t4 t6 t7 t28 t32 (.bool false) w

theorem ref04_Add_s9_eq (R : Value → World → Prop) : ∀ e w, lift Try.prog 149 (bodyOf Try.f66) (finK Try.prog Try.f66.results.toList R) e w = ref04_Add_s9 R (e 0) (e 1) (e 2) w :=
  segs_eq (l := [(sub (bodyOf Try.f66) [0]), (sub (bodyOf Try.f66) [1, 0]), (sub (bodyOf Try.f66) [1, 1, 0]), (sub (bodyOf Try.f66) [1, 1, 1, 0]), (sub (bodyOf Try.f66) [1, 1, 1, 1, 0])]) (y := (sub (bodyOf Try.f66) [1, 1, 1, 1, 1])) (Y := (fun e w => ref04_Add_s8 R (e 2) (e 3) (e 4) (e 6) (e 7) (e 9) (e 10) (e 11) w)) (seq_seg (x := (sub (bodyOf Try.f66) [1, 1, 1, 1, 1, 0])) (y := (sub (bodyOf Try.f66) [1, 1, 1, 1, 1, 1])) (ref04_Add_s5_eq R) (ref04_Add_s8_eq R)) (fun e w => by kernel_rfl)

def ref04_Add (R : Value → World → Prop) (x0 x1 x2 : Value) (w : World) : Prop := ref04_Add_s9 R x0 x1 x2 w
theorem ref04_Add_call {R : Value → World → Prop} {x0 x1 x2 : Value} {w : World} (h : ref04_Add R x0 x1 x2 w) : callG Try.prog 66 #[x0, x1, x2] w R :=
  calls_lift_eq Try.mixed Try.func66 (args := [x0, x1, x2]) rfl rfl rfl rfl ((ref04_Add_s9_eq R) (envOf [x0, x1, x2]) w) (by kernel_rfl) h
/-! (*quayside/quaysidelaw04.side).same -/
def law04_side_same_s0 (R : Value → World → Prop) (w : World) : Prop :=
  R (.bool true) w

theorem law04_side_same_s0_eq (R : Value → World → Prop) : ∀ e w, lift Try.prog 70 (sub (bodyOf Try.f65) [1, 1, 1]) (finK Try.prog Try.f65.results.toList R) e w = law04_side_same_s0 R w := fun e w => by kernel_rfl

def law04_side_same_b1 (R : Value → World → Prop) (N1 : List Value → World → Prop) (x0 x3 : Value) (w : World) : Prop :=
  nk x0 fun t36 =>
  fa 2 t36 fun t37 =>
  fa 0 t37 fun t38 =>
  ld1 t38 w fun t39 =>
  lenL t39 fun t40 =>
  qG Try.prog (bq .lss 3 (.tmp 34) (.tmp 40) x3 t40) w fun t41 =>
  bV t41
  (nk x0 fun t46 =>
  fa 0 t46 fun t47 =>
  ld1 t47 w fun t48 =>
  callG Try.prog 17 #[t48, x3] w fun t50 w =>
  qG Try.prog (Instr.extract t50 0) w fun t51 =>
  qG Try.prog (Instr.extract t50 1) w fun t52 =>
  nk x0 fun t55 =>
  fa 2 t55 fun t56 =>
  ldn 4 t56 w fun t57 =>
  callG Try.prog 21 #[t57, x3] w fun t59 w =>
  qG Try.prog (Instr.extract t59 0) w fun t60 =>
  qG Try.prog (Instr.extract t59 1) w fun t61 =>
  qG Try.prog (bq .neq 9 (.tmp 62) (.tmp 63) t51 t60) w fun t64 =>
  bV t64
  (R (.bool false) w)
  (qG Try.prog (bq .neq 24 (.tmp 66) (.tmp 67) t52 t61) w fun t68 =>
  bV t68
  (R (.bool false) w)
  (qG Try.prog (bq .add 3 (.tmp 42) (.const (.int .i64 1)) x3 (.int .i64 1)) w fun t43 =>
  N1 [x0, t43] w)))
  (law04_side_same_s0 R  w)

theorem law04_side_same_b1_eq (R : Value → World → Prop) (N1 : List Value → World → Prop) : ∀ e w, lift Try.prog 70 (sub (bodyOf Try.f65) [1, 1, 0, 1, 0, 0]) (seqK (fun e w => N1 [e 0, e 3] w) (blockK 0 (seqK (fun e w => law04_side_same_s0 R  w) (finK Try.prog Try.f65.results.toList R)))) e w = law04_side_same_b1 R N1 (e 0) (e 3) w := fun e w => by kernel_rfl

def law04_side_same_L2F (R : Value → World → Prop) (N1 : List Value → World → Prop) (xs : List Value) (w : World) : Prop :=
  match xs with
  | [x0, x3] => law04_side_same_b1 R N1 x0 x3 w
  | _ => False

def law04_side_same_L2 (R : Value → World → Prop) (x0 x3 : Value) (w : World) : Prop :=
  ∃ m, loopV (law04_side_same_L2F R) m [x0, x3] w

theorem law04_side_same_L2_eq (R : Value → World → Prop) : ∀ e w, lift Try.prog 70 (sub (bodyOf Try.f65) [1, 1, 0, 1, 0]) (blockK 0 (seqK (fun e w => law04_side_same_s0 R  w) (finK Try.prog Try.f65.results.toList R))) e w = law04_side_same_L2 R (e 0) (e 3) w := loop_seg (F := law04_side_same_L2F R) (sel := fun e => [e 0, e 3]) fun N1 => (law04_side_same_b1_eq R N1)

def law04_side_same_s3 (R : Value → World → Prop) (x0 : Value) (w : World) : Prop :=
  law04_side_same_L2 R x0 (.int .i64 0) w

theorem law04_side_same_s3_eq (R : Value → World → Prop) : ∀ e w, lift Try.prog 70 (sub (bodyOf Try.f65) [1, 1, 0]) (seqK (fun e w => law04_side_same_s0 R  w) (finK Try.prog Try.f65.results.toList R)) e w = law04_side_same_s3 R (e 0) w :=
  segs_eq (l := [(sub (bodyOf Try.f65) [1, 1, 0, 0])]) (y := (sub (bodyOf Try.f65) [1, 1, 0, 1])) (Y := (fun e w => law04_side_same_L2 R (e 0) (e 3) w)) (law04_side_same_L2_eq R) (fun e w => by kernel_rfl)

def law04_side_same_s4 (R : Value → World → Prop) (x0 : Value) (w : World) : Prop :=
  nk x0 fun t9 =>
  fa 1 t9 fun t10 =>
  ld1 t10 (World.drew w) fun t11 =>
  nk x0 fun t14 =>
  fa 6 t14 fun t15 =>
  fa 3 t15 fun t16 =>
  ld1 t16 (World.drew w) fun t17 =>
  callG Try.prog 37 #[t11] (World.drew w) fun t12 w =>
  ld1 t16 w (fun u => u = t17) ∧
  callG Try.prog 34 #[t12, t17] w fun t18 w =>
  qG Try.prog (Op.unary .not t18) w fun t19 =>
  bV t19
  (R (.bool false) w)
  (nk x0 fun t22 =>
  fa 1 t22 fun t23 =>
  ld1 t23 w fun t24 =>
  nk x0 fun t27 =>
  fa 6 t27 fun t28 =>
  fa 4 t28 fun t29 =>
  ld1 t29 w fun t30 =>
  lenS t30 fun t31 =>
  callG Try.prog 38 #[t24] w fun t25 w =>
  ld1 t29 w (fun u => u = t30) ∧
  qG Try.prog (bq .neq 3 (.tmp 25) (.tmp 31) t25 t31) w fun t32 =>
  bV t32
  (R (.bool false) w)
  (law04_side_same_s3 R x0 w))

theorem law04_side_same_s4_eq (R : Value → World → Prop) : ∀ e w, lift Try.prog 70 (bodyOf Try.f65) (finK Try.prog Try.f65.results.toList R) e w = law04_side_same_s4 R (e 0) w :=
  segs_eq (l := [(sub (bodyOf Try.f65) [0]), (sub (bodyOf Try.f65) [1, 0])]) (y := (sub (bodyOf Try.f65) [1, 1])) (Y := (fun e w => law04_side_same_s3 R (e 0) w)) (seq_seg (x := (sub (bodyOf Try.f65) [1, 1, 0])) (y := (sub (bodyOf Try.f65) [1, 1, 1])) (law04_side_same_s0_eq R) (law04_side_same_s3_eq R)) (fun e w => by kernel_rfl)

def law04_side_same (R : Value → World → Prop) (x0 : Value) (w : World) : Prop := law04_side_same_s4 R x0 w
theorem law04_side_same_call {R : Value → World → Prop} {x0 : Value} {w : World} (h : law04_side_same R x0 w) : callG Try.prog 65 #[x0] w R :=
  calls_lift_eq Try.mixed Try.func65 (args := [x0]) rfl rfl rfl rfl ((law04_side_same_s4_eq R) (envOf [x0]) w) (by kernel_rfl) h
/-! (*quayside/quaysidelaw04.side).opens -/
def law04_side_opens_s0 (R : Value → World → Prop) (x0 x1 : Value) (w : World) : Prop :=
  nk x0 fun t11 =>
  fa 0 t11 fun t12 =>
  ld1 t12 (World.drew w) fun t13 =>
  nk x0 fun t15 =>
  fa 11 t15 fun t16 =>
  iaA 2 1 t16 (.int .i64 0) fun t17 =>
  ld1 t17 (World.drew w) fun t18 =>
  nk x0 fun t20 =>
  fa 11 t20 fun t21 =>
  iaA 2 1 t21 (.int .i64 1) fun t22 =>
  ld1 t22 (World.drew w) fun t23 =>
  callG Try.prog 35 #[t13, t18, t23, x1] (World.drew w) fun t25 w =>
  qG Try.prog (Instr.extract t25 0) w fun t26 =>
  qG Try.prog (Instr.extract t25 1) w fun t27 =>
  nk x0 fun t30 =>
  fa 2 t30 fun t31 =>
  ldn 4 t31 (World.drew w) fun t32 =>
  nk x0 fun t34 =>
  fa 11 t34 fun t35 =>
  ldn 2 t35 (World.drew w) fun t36 =>
  (callG Try.prog 64 #[t32, t36, x1] (World.drew w) fun t38 w =>
  qG Try.prog (Instr.extract t38 0) w fun t39 =>
  qG Try.prog (Instr.extract t38 1) w fun t40 =>
  newG (zc Try.prog 78) 78 w fun t7 w =>
  stb Try.prog (Instr.extract t38 1) t40 w ∧
  stb Try.prog (Instr.extract t38 0) t39 w ∧
  ldn 2 t35 w (fun u => u = t36) ∧
  ldn 4 t31 w (fun u => u = t32) ∧
  stn 5 t7 t39 w fun w =>
  stb Try.prog (Instr.extract t38 1) t40 w ∧
  nk x0 fun t43 =>
  fa 1 t43 fun t44 =>
  st1 t44 t26 w fun w =>
  ldn 5 t7 w fun t46 =>
  nk x0 fun t47 =>
  fa 6 t47 fun t48 =>
  stn 5 t48 t46 w fun w =>
  qG Try.prog (bq .eql 24 (.tmp 49) (.const (.int .i64 0)) t27 (.int .i64 0)) w fun t50 =>
  bV t50
  (qG Try.prog (bq .eql 24 (.tmp 52) (.const (.int .i64 0)) t40 (.int .i64 0)) w fun t53 =>
  bV t53
  (qG Try.prog (bq .neq 64 (.tmp 56) (.const (.pointer none)) t26 (.pointer none)) w fun t57 =>
  bV t57
  (callG Try.prog 65 #[x0] w fun t61 w =>
  R t61 w)
  (R (.bool false) w))
  (R (.bool false) w))
  (R (.bool false) w)) ∧
  (newG (zc Try.prog 78) 78 (World.drew w) fun t7_1 w =>
  ldn 2 t35 w (fun u => u = t36) ∧
  ldn 4 t31 w (fun u => u = t32) ∧
  callG Try.prog 64 #[t32, t36, x1] w fun t38_1 w =>
  qG Try.prog (Instr.extract t38_1 0) w fun t39_1 =>
  qG Try.prog (Instr.extract t38_1 1) w fun t40_1 =>
  stn 5 t7_1 t39_1 w fun w =>
  stb Try.prog (Instr.extract t38_1 1) t40_1 w ∧
  nk x0 fun t43_1 =>
  fa 1 t43_1 fun t44_1 =>
  st1 t44_1 t26 w fun w =>
  ldn 5 t7_1 w fun t46_1 =>
  nk x0 fun t47_1 =>
  fa 6 t47_1 fun t48_1 =>
  stn 5 t48_1 t46_1 w fun w =>
  qG Try.prog (bq .eql 24 (.tmp 49) (.const (.int .i64 0)) t27 (.int .i64 0)) w fun t50_1 =>
  bV t50_1
  (qG Try.prog (bq .eql 24 (.tmp 52) (.const (.int .i64 0)) t40_1 (.int .i64 0)) w fun t53_1 =>
  bV t53_1
  (qG Try.prog (bq .neq 64 (.tmp 56) (.const (.pointer none)) t26 (.pointer none)) w fun t57_1 =>
  bV t57_1
  (callG Try.prog 65 #[x0] w fun t61_1 w =>
  R t61_1 w)
  (R (.bool false) w))
  (R (.bool false) w))
  (R (.bool false) w))

theorem law04_side_opens_s0_eq (R : Value → World → Prop) : ∀ e w, lift Try.prog 63 (bodyOf Try.f40) (finK Try.prog Try.f40.results.toList R) e w = law04_side_opens_s0 R (e 0) (e 1) w := fun e w => by kernel_rfl

def law04_side_opens (R : Value → World → Prop) (x0 x1 : Value) (w : World) : Prop := law04_side_opens_s0 R x0 x1 w
theorem law04_side_opens_call {R : Value → World → Prop} {x0 x1 : Value} {w : World} (h : law04_side_opens R x0 x1 w) : callG Try.prog 40 #[x0, x1] w R :=
  calls_lift_eq Try.mixed Try.func40 (args := [x0, x1]) rfl rfl rfl rfl ((law04_side_opens_s0_eq R) (envOf [x0, x1]) w) (by kernel_rfl) h
/-! (*quayside/quaysidelaw04.side).crash -/
def law04_side_crash_s0 (R : Value → World → Prop) (x0 x1 x2 : Value) (w : World) : Prop :=
  nk x0 fun t9 =>
  fa 2 t9 fun t10 =>
  ldn 4 t10 w fun t11 =>
  callG Try.prog 25 #[t11, x1] w fun t13 w =>
  nk x0 fun t14 =>
  fa 2 t14 fun t15 =>
  stn 4 t15 t13 w fun w =>
  nk x0 fun t17 =>
  fa 0 t17 fun t18 =>
  ld1 t18 w fun t19 =>
  callG Try.prog 16 #[t19, x1] w fun t21 w =>
  qG Try.prog (bq .eql 24 (.tmp 21) (.const (.int .i64 0)) t21 (.int .i64 0)) w fun t22 =>
  bV t22
  (callG Try.prog 40 #[x0, x2] w fun t26 w =>
  R t26 w)
  (R (.bool false) w)

theorem law04_side_crash_s0_eq (R : Value → World → Prop) : ∀ e w, lift Try.prog 28 (bodyOf Try.f67) (finK Try.prog Try.f67.results.toList R) e w = law04_side_crash_s0 R (e 0) (e 1) (e 2) w := fun e w => by kernel_rfl

def law04_side_crash (R : Value → World → Prop) (x0 x1 x2 : Value) (w : World) : Prop := law04_side_crash_s0 R x0 x1 x2 w
theorem law04_side_crash_call {R : Value → World → Prop} {x0 x1 x2 : Value} {w : World} (h : law04_side_crash R x0 x1 x2 w) : callG Try.prog 67 #[x0, x1, x2] w R :=
  calls_lift_eq Try.mixed Try.func67 (args := [x0, x1, x2]) rfl rfl rfl rfl ((law04_side_crash_s0_eq R) (envOf [x0, x1, x2]) w) (by kernel_rfl) h
/-! (*quayside/quaysidelaw04.side).does -/
def law04_side_does_s0 (R : Value → World → Prop) (x0 x3 x5 x6 : Value) (w : World) : Prop :=
  qG Try.prog (bq .neq 24 (.tmp 105) (.tmp 106) x5 x6) w fun t107 =>
  bV t107
  (R (.bool false) w)
  (qG Try.prog (bq .eql 24 (.tmp 108) (.const (.int .i64 30)) x5 (.int .i64 30)) w fun t109 =>
  bV t109
  (fa 3 x3 fun t111 =>
  ld1 t111 (World.drew w) fun t112 =>
  nk x0 fun t114 =>
  fa 6 t114 fun t115 =>
  fa 2 t115 fun t116 =>
  ld1 t116 (World.drew w) fun t117 =>
  callG Try.prog 67 #[x0, t112, t117] (World.drew w) fun t118 w =>
  R t118 w)
  (callG Try.prog 65 #[x0] w fun t120 w =>
  R t120 w))

theorem law04_side_does_s0_eq (R : Value → World → Prop) : ∀ e w, lift Try.prog 121 (sub (bodyOf Try.f42) [1, 1, 1]) (finK Try.prog Try.f42.results.toList R) e w = law04_side_does_s0 R (e 0) (e 3) (e 5) (e 6) w := fun e w => by kernel_rfl

def law04_side_does_s1 (R : Value → World → Prop) (x0 x1 : Value) (w : World) : Prop :=
  newG (Value.cells x1) 84 w fun t3 w =>
  fa 0 t3 fun t13 =>
  ld1 t13 w fun t14 =>
  qG Try.prog (bq .eql 3 (.tmp 14) (.const (.int .i64 1)) t14 (.int .i64 1)) w fun t33 =>
  bV t33
  (nk x0 fun t35 =>
  fa 1 t35 fun t36 =>
  ld1 t36 (World.drew w) fun t37 =>
  fa 2 t3 fun t38 =>
  ld1 t38 (World.drew w) fun t39 =>
  callG Try.prog 36 #[t37, t39] (World.drew w) fun t40 w =>
  nk x0 fun t43 =>
  fa 2 t43 fun t44 =>
  ldn 4 t44 (World.drew w) fun t45 =>
  nk x0 fun t47 =>
  fa 6 t47 fun t48 =>
  ldn 5 t48 (World.drew w) fun t49 =>
  fa 2 t3 fun t50 =>
  ld1 t50 (World.drew w) fun t51 =>
  (callG Try.prog 66 #[t45, t49, t51] (World.drew w) fun t52 w =>
  qG Try.prog (Instr.extract t52 0) w fun t53 =>
  qG Try.prog (Instr.extract t52 1) w fun t54 =>
  qG Try.prog (Instr.extract t52 2) w fun t55 =>
  (newG (zc Try.prog 39) 39 w fun t7 w =>
  stb Try.prog (Instr.extract t52 2) t55 w ∧
  stb Try.prog (Instr.extract t52 1) t54 w ∧
  stb Try.prog (Instr.extract t52 0) t53 w ∧
  ld1 t50 w (fun u => u = t51) ∧
  ldn 5 t48 w (fun u => u = t49) ∧
  ldn 4 t44 w (fun u => u = t45) ∧
  newG (zc Try.prog 78) 78 w fun t8 w =>
  stb Try.prog (Instr.extract t52 2) t55 w ∧
  stb Try.prog (Instr.extract t52 1) t54 w ∧
  stb Try.prog (Instr.extract t52 0) t53 w ∧
  ld1 t50 w (fun u => u = t51) ∧
  ldn 5 t48 w (fun u => u = t49) ∧
  ldn 4 t44 w (fun u => u = t45) ∧
  stn 4 t7 t53 w fun w =>
  stb Try.prog (Instr.extract t52 2) t55 w ∧
  stb Try.prog (Instr.extract t52 1) t54 w ∧
  stn 5 t8 t54 w fun w =>
  stb Try.prog (Instr.extract t52 2) t55 w ∧
  ldn 4 t7 w fun t57 =>
  nk x0 fun t58 =>
  fa 2 t58 fun t59 =>
  stn 4 t59 t57 w fun w =>
  ldn 5 t8 w fun t61 =>
  nk x0 fun t62 =>
  fa 6 t62 fun t63 =>
  stn 5 t63 t61 w fun w =>
  law04_side_does_s0 R x0 t3 t40 t55 w) ∧
  (newG (zc Try.prog 78) 78 w fun t8_1 w =>
  stb Try.prog (Instr.extract t52 2) t55 w ∧
  stb Try.prog (Instr.extract t52 1) t54 w ∧
  stb Try.prog (Instr.extract t52 0) t53 w ∧
  ld1 t50 w (fun u => u = t51) ∧
  ldn 5 t48 w (fun u => u = t49) ∧
  ldn 4 t44 w (fun u => u = t45) ∧
  newG (zc Try.prog 39) 39 w fun t7_1 w =>
  stb Try.prog (Instr.extract t52 2) t55 w ∧
  stb Try.prog (Instr.extract t52 1) t54 w ∧
  stb Try.prog (Instr.extract t52 0) t53 w ∧
  ld1 t50 w (fun u => u = t51) ∧
  ldn 5 t48 w (fun u => u = t49) ∧
  ldn 4 t44 w (fun u => u = t45) ∧
  stn 4 t7_1 t53 w fun w =>
  stb Try.prog (Instr.extract t52 2) t55 w ∧
  stb Try.prog (Instr.extract t52 1) t54 w ∧
  stn 5 t8_1 t54 w fun w =>
  stb Try.prog (Instr.extract t52 2) t55 w ∧
  ldn 4 t7_1 w fun t57_1 =>
  nk x0 fun t58_1 =>
  fa 2 t58_1 fun t59_1 =>
  stn 4 t59_1 t57_1 w fun w =>
  ldn 5 t8_1 w fun t61_1 =>
  nk x0 fun t62_1 =>
  fa 6 t62_1 fun t63_1 =>
  stn 5 t63_1 t61_1 w fun w =>
  law04_side_does_s0 R x0 t3 t40 t55 w)) ∧
  (newG (zc Try.prog 39) 39 (World.drew w) fun t7_2 w =>
  ld1 t50 w (fun u => u = t51) ∧
  ldn 5 t48 w (fun u => u = t49) ∧
  ldn 4 t44 w (fun u => u = t45) ∧
  (callG Try.prog 66 #[t45, t49, t51] w fun t52_1 w =>
  qG Try.prog (Instr.extract t52_1 0) w fun t53_1 =>
  qG Try.prog (Instr.extract t52_1 1) w fun t54_1 =>
  qG Try.prog (Instr.extract t52_1 2) w fun t55_1 =>
  newG (zc Try.prog 78) 78 w fun t8_2 w =>
  stb Try.prog (Instr.extract t52_1 2) t55_1 w ∧
  stb Try.prog (Instr.extract t52_1 1) t54_1 w ∧
  stb Try.prog (Instr.extract t52_1 0) t53_1 w ∧
  ld1 t50 w (fun u => u = t51) ∧
  ldn 5 t48 w (fun u => u = t49) ∧
  ldn 4 t44 w (fun u => u = t45) ∧
  stn 4 t7_2 t53_1 w fun w =>
  stb Try.prog (Instr.extract t52_1 2) t55_1 w ∧
  stb Try.prog (Instr.extract t52_1 1) t54_1 w ∧
  stn 5 t8_2 t54_1 w fun w =>
  stb Try.prog (Instr.extract t52_1 2) t55_1 w ∧
  ldn 4 t7_2 w fun t57_2 =>
  nk x0 fun t58_2 =>
  fa 2 t58_2 fun t59_2 =>
  stn 4 t59_2 t57_2 w fun w =>
  ldn 5 t8_2 w fun t61_2 =>
  nk x0 fun t62_2 =>
  fa 6 t62_2 fun t63_2 =>
  stn 5 t63_2 t61_2 w fun w =>
  law04_side_does_s0 R x0 t3 t40 t55_1 w) ∧
  (newG (zc Try.prog 78) 78 w fun t8_3 w =>
  ld1 t50 w (fun u => u = t51) ∧
  ldn 5 t48 w (fun u => u = t49) ∧
  ldn 4 t44 w (fun u => u = t45) ∧
  callG Try.prog 66 #[t45, t49, t51] w fun t52_2 w =>
  qG Try.prog (Instr.extract t52_2 0) w fun t53_2 =>
  qG Try.prog (Instr.extract t52_2 1) w fun t54_2 =>
  qG Try.prog (Instr.extract t52_2 2) w fun t55_2 =>
  stn 4 t7_2 t53_2 w fun w =>
  stb Try.prog (Instr.extract t52_2 2) t55_2 w ∧
  stb Try.prog (Instr.extract t52_2 1) t54_2 w ∧
  stn 5 t8_3 t54_2 w fun w =>
  stb Try.prog (Instr.extract t52_2 2) t55_2 w ∧
  ldn 4 t7_2 w fun t57_3 =>
  nk x0 fun t58_3 =>
  fa 2 t58_3 fun t59_3 =>
  stn 4 t59_3 t57_3 w fun w =>
  ldn 5 t8_3 w fun t61_3 =>
  nk x0 fun t62_3 =>
  fa 6 t62_3 fun t63_3 =>
  stn 5 t63_3 t61_3 w fun w =>
  law04_side_does_s0 R x0 t3 t40 t55_2 w)) ∧
  (newG (zc Try.prog 78) 78 (World.drew w) fun t8_4 w =>
  ld1 t50 w (fun u => u = t51) ∧
  ldn 5 t48 w (fun u => u = t49) ∧
  ldn 4 t44 w (fun u => u = t45) ∧
  (callG Try.prog 66 #[t45, t49, t51] w fun t52_3 w =>
  qG Try.prog (Instr.extract t52_3 0) w fun t53_3 =>
  qG Try.prog (Instr.extract t52_3 1) w fun t54_3 =>
  qG Try.prog (Instr.extract t52_3 2) w fun t55_3 =>
  newG (zc Try.prog 39) 39 w fun t7_3 w =>
  stb Try.prog (Instr.extract t52_3 2) t55_3 w ∧
  stb Try.prog (Instr.extract t52_3 1) t54_3 w ∧
  stb Try.prog (Instr.extract t52_3 0) t53_3 w ∧
  ld1 t50 w (fun u => u = t51) ∧
  ldn 5 t48 w (fun u => u = t49) ∧
  ldn 4 t44 w (fun u => u = t45) ∧
  stn 4 t7_3 t53_3 w fun w =>
  stb Try.prog (Instr.extract t52_3 2) t55_3 w ∧
  stb Try.prog (Instr.extract t52_3 1) t54_3 w ∧
  stn 5 t8_4 t54_3 w fun w =>
  stb Try.prog (Instr.extract t52_3 2) t55_3 w ∧
  ldn 4 t7_3 w fun t57_4 =>
  nk x0 fun t58_4 =>
  fa 2 t58_4 fun t59_4 =>
  stn 4 t59_4 t57_4 w fun w =>
  ldn 5 t8_4 w fun t61_4 =>
  nk x0 fun t62_4 =>
  fa 6 t62_4 fun t63_4 =>
  stn 5 t63_4 t61_4 w fun w =>
  law04_side_does_s0 R x0 t3 t40 t55_3 w) ∧
  (newG (zc Try.prog 39) 39 w fun t7_4 w =>
  ld1 t50 w (fun u => u = t51) ∧
  ldn 5 t48 w (fun u => u = t49) ∧
  ldn 4 t44 w (fun u => u = t45) ∧
  callG Try.prog 66 #[t45, t49, t51] w fun t52_4 w =>
  qG Try.prog (Instr.extract t52_4 0) w fun t53_4 =>
  qG Try.prog (Instr.extract t52_4 1) w fun t54_4 =>
  qG Try.prog (Instr.extract t52_4 2) w fun t55_4 =>
  stn 4 t7_4 t53_4 w fun w =>
  stb Try.prog (Instr.extract t52_4 2) t55_4 w ∧
  stb Try.prog (Instr.extract t52_4 1) t54_4 w ∧
  stn 5 t8_4 t54_4 w fun w =>
  stb Try.prog (Instr.extract t52_4 2) t55_4 w ∧
  ldn 4 t7_4 w fun t57_5 =>
  nk x0 fun t58_5 =>
  fa 2 t58_5 fun t59_5 =>
  stn 4 t59_5 t57_5 w fun w =>
  ldn 5 t8_4 w fun t61_5 =>
  nk x0 fun t62_5 =>
  fa 6 t62_5 fun t63_5 =>
  stn 5 t63_5 t61_5 w fun w =>
  law04_side_does_s0 R x0 t3 t40 t55_4 w)))
  (qG Try.prog (bq .eql 3 (.tmp 14) (.const (.int .i64 2)) t14 (.int .i64 2)) w fun t66 =>
  bV t66
  (nk x0 fun t68 =>
  fa 1 t68 fun t69 =>
  ld1 t69 w fun t70 =>
  callG Try.prog 39 #[t70] w fun t71 w =>
  nk x0 fun t74 =>
  fa 2 t74 fun t75 =>
  ldn 4 t75 w fun t76 =>
  callG Try.prog 22 #[t76] w fun t77 w =>
  qG Try.prog (Instr.extract t77 0) w fun t78 =>
  qG Try.prog (Instr.extract t77 1) w fun t79 =>
  newG (zc Try.prog 39) 39 w fun t10 w =>
  stn 4 t10 t78 w fun w =>
  ldn 4 t10 w fun t81 =>
  nk x0 fun t82 =>
  fa 2 t82 fun t83 =>
  stn 4 t83 t81 w fun w =>
  law04_side_does_s0 R x0 t3 t71 t79 w)
  (qG Try.prog (bq .eql 3 (.tmp 14) (.const (.int .i64 3)) t14 (.int .i64 3)) w fun t86 =>
  bV t86
  (nk x0 fun t89 =>
  fa 2 t89 fun t90 =>
  ldn 4 t90 (World.drew w) fun t91 =>
  fa 1 t3 fun t92 =>
  ld1 t92 (World.drew w) fun t93 =>
  callG Try.prog 24 #[t91, t93] (World.drew w) fun t94 w =>
  nk x0 fun t95 =>
  fa 2 t95 fun t96 =>
  stn 4 t96 t94 w fun w =>
  nk x0 fun t98 =>
  fa 0 t98 fun t99 =>
  ld1 t99 (World.drew w) fun t100 =>
  fa 1 t3 fun t101 =>
  ld1 t101 (World.drew w) fun t102 =>
  callG Try.prog 23 #[t100, t102] (World.drew w) fun t103 w =>
  qG Try.prog (bq .eql 24 (.tmp 103) (.const (.int .i64 0)) t103 (.int .i64 0)) w fun t104 =>
  R t104 w)
  (nk x0 fun t16 =>
  fa 6 t16 fun t17 =>
  fa 2 t17 fun t18 =>
  ld1 t18 w fun t19 =>
  fa 4 t3 fun t20 =>
  ld1 t20 w fun t21 =>
  bV t21
  (fa 1 t3 fun t23 =>
  ld1 t23 w fun t24 =>
  qG Try.prog (bq .and 3 (.tmp 24) (.const (.int .i64 7)) t24 (.int .i64 7)) w fun t25 =>
  qG Try.prog (bq .add 3 (.tmp 22) (.tmp 25) t19 t25) w fun t26 =>
  fa 3 t3 fun t28 =>
  ld1 t28 w fun t29 =>
  callG Try.prog 67 #[x0, t29, t26] w fun t31 w =>
  R t31 w)
  (fa 3 t3 fun t28_1 =>
  ld1 t28_1 w fun t29_1 =>
  callG Try.prog 67 #[x0, t29_1, t19] w fun t31_1 w =>
  R t31_1 w))))

theorem law04_side_does_s1_eq (R : Value → World → Prop) : ∀ e w, lift Try.prog 121 (bodyOf Try.f42) (finK Try.prog Try.f42.results.toList R) e w = law04_side_does_s1 R (e 0) (e 1) w :=
  segs_eq (l := [(sub (bodyOf Try.f42) [0]), (sub (bodyOf Try.f42) [1, 0]), (sub (bodyOf Try.f42) [1, 1, 0])]) (y := (sub (bodyOf Try.f42) [1, 1, 1])) (Y := (fun e w => law04_side_does_s0 R (e 0) (e 3) (e 5) (e 6) w)) (law04_side_does_s0_eq R) (fun e w => by kernel_rfl)

def law04_side_does (R : Value → World → Prop) (x0 x1 : Value) (w : World) : Prop := law04_side_does_s1 R x0 x1 w
theorem law04_side_does_call {R : Value → World → Prop} {x0 x1 : Value} {w : World} (h : law04_side_does R x0 x1 w) : callG Try.prog 42 #[x0, x1] w R :=
  calls_lift_eq Try.mixed Try.func42 (args := [x0, x1]) rfl rfl rfl rfl ((law04_side_does_s1_eq R) (envOf [x0, x1]) w) (by kernel_rfl) h
/-! quayside/quaysidelaw04.WalPlays -/
def law04_WalPlays_s0 (R : Value → World → Prop) (w : World) : Prop :=
  callG Try.prog 29 #[] w fun t95 w =>
  R t95 w

theorem law04_WalPlays_s0_eq (R : Value → World → Prop) : ∀ e w, lift Try.prog 96 (sub (bodyOf Try.f10) [1, 1, 1, 1, 1, 1, 1, 1]) (finK Try.prog Try.f10.results.toList R) e w = law04_WalPlays_s0 R w := fun e w => by kernel_rfl

def law04_WalPlays_s1 (R : Value → World → Prop) (N1 : List Value → World → Prop) (x2 x11 x14 : Value) (w : World) : Prop :=
  ia 5 x2 x14 fun t82 =>
  fa 2 t82 fun t83 =>
  ld1 t83 w fun t84 =>
  callG Try.prog 41 #[t84] w fun t85 w =>
  qG Try.prog (Op.unary .not t85) w fun t86 =>
  bV t86
  (callG Try.prog 29 #[] w fun t87 w =>
  R t87 w)
  (ia 5 x2 x14 fun t91 =>
  ldn 5 t91 w fun t92 =>
  callG Try.prog 42 #[x11, t92] w fun t93 w =>
  qG Try.prog (Op.unary .not t93) w fun t94 =>
  bV t94
  (R (.bool false) w)
  (qG Try.prog (bq .add 3 (.tmp 78) (.const (.int .i64 1)) x14 (.int .i64 1)) w fun t79 =>
  N1 [x2, x11, t79] w))

theorem law04_WalPlays_s1_eq (R : Value → World → Prop) (N1 : List Value → World → Prop) : ∀ e w, lift Try.prog 96 (sub (bodyOf Try.f10) [1, 1, 1, 1, 1, 1, 1, 0, 1, 0, 0, 1]) (seqK (fun e w => N1 [e 2, e 11, e 14] w) (blockK 0 (seqK (fun e w => law04_WalPlays_s0 R  w) (finK Try.prog Try.f10.results.toList R)))) e w = law04_WalPlays_s1 R N1 (e 2) (e 11) (e 14) w := fun e w => by kernel_rfl

def law04_WalPlays_s2 (R : Value → World → Prop) (N1 : List Value → World → Prop) (x2 x11 x14 : Value) (w : World) : Prop :=
  lenL x2 fun t72 =>
  qG Try.prog (bq .lss 3 (.tmp 70) (.tmp 72) x14 t72) w fun t73 =>
  bV t73
  (qG Try.prog (bq .lss 3 (.tmp 75) (.const (.int .i64 30)) x14 (.int .i64 30)) w fun t76 =>
  bV t76
  (law04_WalPlays_s1 R N1 x2 x11 x14 w)
  (law04_WalPlays_s0 R  w))
  (law04_WalPlays_s0 R  w)

theorem law04_WalPlays_s2_eq (R : Value → World → Prop) (N1 : List Value → World → Prop) : ∀ e w, lift Try.prog 96 (sub (bodyOf Try.f10) [1, 1, 1, 1, 1, 1, 1, 0, 1, 0, 0]) (seqK (fun e w => N1 [e 2, e 11, e 14] w) (blockK 0 (seqK (fun e w => law04_WalPlays_s0 R  w) (finK Try.prog Try.f10.results.toList R)))) e w = law04_WalPlays_s2 R N1 (e 2) (e 11) (e 14) w :=
  segs_eq (l := [(sub (bodyOf Try.f10) [1, 1, 1, 1, 1, 1, 1, 0, 1, 0, 0, 0])]) (y := (sub (bodyOf Try.f10) [1, 1, 1, 1, 1, 1, 1, 0, 1, 0, 0, 1])) (Y := (fun e w => law04_WalPlays_s1 R N1 (e 2) (e 11) (e 14) w)) (law04_WalPlays_s1_eq R N1) (fun e w => by kernel_rfl)

def law04_WalPlays_L3F (R : Value → World → Prop) (N1 : List Value → World → Prop) (xs : List Value) (w : World) : Prop :=
  match xs with
  | [x2, x11, x14] => law04_WalPlays_s2 R N1 x2 x11 x14 w
  | _ => False

def law04_WalPlays_L3 (R : Value → World → Prop) (x2 x11 x14 : Value) (w : World) : Prop :=
  ∃ m, loopV (law04_WalPlays_L3F R) m [x2, x11, x14] w

theorem law04_WalPlays_L3_eq (R : Value → World → Prop) : ∀ e w, lift Try.prog 96 (sub (bodyOf Try.f10) [1, 1, 1, 1, 1, 1, 1, 0, 1, 0]) (blockK 0 (seqK (fun e w => law04_WalPlays_s0 R  w) (finK Try.prog Try.f10.results.toList R))) e w = law04_WalPlays_L3 R (e 2) (e 11) (e 14) w := loop_seg (F := law04_WalPlays_L3F R) (sel := fun e => [e 2, e 11, e 14]) fun N1 => (law04_WalPlays_s2_eq R N1)

def law04_WalPlays_s4 (R : Value → World → Prop) (x2 x11 : Value) (w : World) : Prop :=
  law04_WalPlays_L3 R x2 x11 (.int .i64 0) w

theorem law04_WalPlays_s4_eq (R : Value → World → Prop) : ∀ e w, lift Try.prog 96 (sub (bodyOf Try.f10) [1, 1, 1, 1, 1, 1, 1, 0]) (seqK (fun e w => law04_WalPlays_s0 R  w) (finK Try.prog Try.f10.results.toList R)) e w = law04_WalPlays_s4 R (e 2) (e 11) w :=
  segs_eq (l := [(sub (bodyOf Try.f10) [1, 1, 1, 1, 1, 1, 1, 0, 0])]) (y := (sub (bodyOf Try.f10) [1, 1, 1, 1, 1, 1, 1, 0, 1])) (Y := (fun e w => law04_WalPlays_L3 R (e 2) (e 11) (e 14) w)) (law04_WalPlays_L3_eq R) (fun e w => by kernel_rfl)

def law04_WalPlays_s5 (R : Value → World → Prop) (x2 x11 : Value) (w : World) : Prop :=
  callG Try.prog 40 #[x11, (.int .i64 1)] w fun t68 w =>
  qG Try.prog (Op.unary .not t68) w fun t69 =>
  bV t69
  (R (.bool false) w)
  (law04_WalPlays_s4 R x2 x11 w)

theorem law04_WalPlays_s5_eq (R : Value → World → Prop) : ∀ e w, lift Try.prog 96 (sub (bodyOf Try.f10) [1, 1, 1, 1, 1, 1]) (finK Try.prog Try.f10.results.toList R) e w = law04_WalPlays_s5 R (e 2) (e 11) w :=
  segs_eq (l := [(sub (bodyOf Try.f10) [1, 1, 1, 1, 1, 1, 0])]) (y := (sub (bodyOf Try.f10) [1, 1, 1, 1, 1, 1, 1])) (Y := (fun e w => law04_WalPlays_s4 R (e 2) (e 11) w)) (seq_seg (x := (sub (bodyOf Try.f10) [1, 1, 1, 1, 1, 1, 1, 0])) (y := (sub (bodyOf Try.f10) [1, 1, 1, 1, 1, 1, 1, 1])) (law04_WalPlays_s0_eq R) (law04_WalPlays_s4_eq R)) (fun e w => by kernel_rfl)

def law04_WalPlays_s6 (R : Value → World → Prop) (x0 x1 x2 x7 x11 x50 : Value) (w : World) : Prop :=
  bV x50
  (callG Try.prog 35 #[x7, x0, x1, (.int .i64 1)] w fun t55 w =>
  qG Try.prog (Instr.extract t55 0) w fun t56 =>
  qG Try.prog (Instr.extract t55 1) w fun t57 =>
  qG Try.prog (bq .eql 64 (.tmp 58) (.const (.pointer none)) t56 (.pointer none)) w fun t59 =>
  bV t59
  (qG Try.prog (bq .eql 24 (.tmp 61) (.const (.int .i64 1)) t57 (.int .i64 1)) w fun t62 =>
  bV t62
  (callG Try.prog 29 #[] w fun t65 w =>
  R t65 w)
  (R (.bool false) w))
  (R (.bool false) w))
  (law04_WalPlays_s5 R x2 x11 w)

theorem law04_WalPlays_s6_eq (R : Value → World → Prop) : ∀ e w, lift Try.prog 96 (sub (bodyOf Try.f10) [1, 1, 1, 1, 1, 0, 1]) (seqK (fun e w => law04_WalPlays_s5 R (e 2) (e 11) w) (finK Try.prog Try.f10.results.toList R)) e w = law04_WalPlays_s6 R (e 0) (e 1) (e 2) (e 7) (e 11) (e 50) w := fun e w => by kernel_rfl

def law04_WalPlays_s7 (R : Value → World → Prop) (x0 x1 x2 x7 x11 : Value) (w : World) : Prop :=
  qG Try.prog (bq .lss 3 (.tmp 40) (.const (.int .i64 0)) x0 (.int .i64 0)) w fun t41 =>
  bV t41
  (law04_WalPlays_s6 R x0 x1 x2 x7 x11 (.bool true) w)
  (qG Try.prog (bq .gtr 3 (.tmp 43) (.const (.int .i64 24)) x1 (.int .i64 24)) w fun t44 =>
  bV t44
  (law04_WalPlays_s6 R x0 x1 x2 x7 x11 (.bool true) w)
  (qG Try.prog (bq .geq 3 (.tmp 47) (.tmp 48) x0 x1) w fun t49 =>
  law04_WalPlays_s6 R x0 x1 x2 x7 x11 t49 w))

theorem law04_WalPlays_s7_eq (R : Value → World → Prop) : ∀ e w, lift Try.prog 96 (sub (bodyOf Try.f10) [1, 1, 1, 1, 1, 0]) (seqK (fun e w => law04_WalPlays_s5 R (e 2) (e 11) w) (finK Try.prog Try.f10.results.toList R)) e w = law04_WalPlays_s7 R (e 0) (e 1) (e 2) (e 7) (e 11) w :=
  segs_eq (l := [(sub (bodyOf Try.f10) [1, 1, 1, 1, 1, 0, 0])]) (y := (sub (bodyOf Try.f10) [1, 1, 1, 1, 1, 0, 1])) (Y := (fun e w => law04_WalPlays_s6 R (e 0) (e 1) (e 2) (e 7) (e 11) (e 50) w)) (law04_WalPlays_s6_eq R) (fun e w => by kernel_rfl)

def law04_WalPlays_s8 (R : Value → World → Prop) (x0 x1 x2 x7 x9 : Value) (w : World) : Prop :=
  ldn 4 x9 w fun t34 =>
  qG Try.prog (Instr.build 76 #[(0, x0), (1, x1)]) w fun t37 =>
  bld [(0, 1), (1, 1), (2, 4), (6, 5), (11, 2)] (zc Try.prog 80) #[(0, x7), (2, t34), (4, t37)] fun t38 =>
  newG (Value.cells t38) 80 w fun t39 w =>
  law04_WalPlays_s7 R x0 x1 x2 x7 t39 w

theorem law04_WalPlays_s8_eq (R : Value → World → Prop) : ∀ e w, lift Try.prog 96 (sub (bodyOf Try.f10) [1, 1, 1, 1]) (finK Try.prog Try.f10.results.toList R) e w = law04_WalPlays_s8 R (e 0) (e 1) (e 2) (e 7) (e 9) w :=
  segs_eq (l := [(sub (bodyOf Try.f10) [1, 1, 1, 1, 0])]) (y := (sub (bodyOf Try.f10) [1, 1, 1, 1, 1])) (Y := (fun e w => law04_WalPlays_s7 R (e 0) (e 1) (e 2) (e 7) (e 11) w)) (seq_seg (x := (sub (bodyOf Try.f10) [1, 1, 1, 1, 1, 0])) (y := (sub (bodyOf Try.f10) [1, 1, 1, 1, 1, 1])) (law04_WalPlays_s5_eq R) (law04_WalPlays_s7_eq R)) (fun e w => by kernel_rfl)

def law04_WalPlays_s9 (R : Value → World → Prop) (x0 x1 x2 : Value) (w : World) : Prop :=
  callG Try.prog 12 #[(.int .i64 24)] w fun t16 w =>
  qG Try.prog (Instr.extract t16 0) w fun t17 =>
  qG Try.prog (Instr.extract t16 1) w fun t18 =>
  callG Try.prog 19 #[(.int .i64 24)] w fun t20 w =>
  qG Try.prog (Instr.extract t20 0) w fun t21 =>
  qG Try.prog (Instr.extract t20 1) w fun t22 =>
  newG (zc Try.prog 39) 39 w fun t9 w =>
  stn 4 t9 t21 w fun w =>
  qG Try.prog (bq .neq 24 (.tmp 23) (.const (.int .i64 0)) t18 (.int .i64 0)) w fun t24 =>
  bV t24
  (R (.bool false) w)
  (qG Try.prog (bq .neq 24 (.tmp 26) (.const (.int .i64 0)) t22 (.int .i64 0)) w fun t27 =>
  bV t27
  (R (.bool false) w)
  (qG Try.prog (bq .eql 23 (.tmp 30) (.const (.pointer none)) t17 (.pointer none)) w fun t31 =>
  bV t31
  (R (.bool false) w)
  (law04_WalPlays_s8 R x0 x1 x2 t17 t9 w)))

theorem law04_WalPlays_s9_eq (R : Value → World → Prop) : ∀ e w, lift Try.prog 96 (bodyOf Try.f10) (finK Try.prog Try.f10.results.toList R) e w = law04_WalPlays_s9 R (e 0) (e 1) (e 2) w :=
  segs_eq (l := [(sub (bodyOf Try.f10) [0]), (sub (bodyOf Try.f10) [1, 0]), (sub (bodyOf Try.f10) [1, 1, 0]), (sub (bodyOf Try.f10) [1, 1, 1, 0])]) (y := (sub (bodyOf Try.f10) [1, 1, 1, 1])) (Y := (fun e w => law04_WalPlays_s8 R (e 0) (e 1) (e 2) (e 7) (e 9) w)) (law04_WalPlays_s8_eq R) (fun e w => by kernel_rfl)

def law04_WalPlays (R : Value → World → Prop) (x0 x1 x2 : Value) (w : World) : Prop := law04_WalPlays_s9 R x0 x1 x2 w
theorem law04_WalPlays_call {R : Value → World → Prop} {x0 x1 x2 : Value} {w : World} (h : law04_WalPlays R x0 x1 x2 w) : callG Try.prog 10 #[x0, x1, x2] w R :=
  calls_lift_eq Try.mixed Try.func10 (args := [x0, x1, x2]) rfl rfl rfl rfl ((law04_WalPlays_s9_eq R) (envOf [x0, x1, x2]) w) (by kernel_rfl) h
end Go.Proofs

/- Layer 4: the document's log: Open. -/
set_option linter.unusedVariables false
set_option linter.unusedSimpArgs false
namespace Go.Proofs
open Go Go.Q
def logC (g : LG) (lv : Value) : List Value := [.int .i64 g.lo, .int .i64 g.hi, .int .i64 g.turn, lv, .string (str g.used)]
/-- the document's log, as a value -/
def RefLog (w : World) (x : Value) (g : LG) (S : List Nat) : Prop := ∃ lv, x = .agg (logC g lv).toArray ∧ RowsAt w lv 1 (g.l.map strV) S
theorem RefLog.keep {w w' : World} {x : Value} {g : LG} {S S' : List Nat} (h : RefLog w x g S) (hk : Kp S' w w') (hd : ∀ y ∈ S, y ∉ S') : RefLog w' x g S := by
  obtain ⟨lv, h1, h2⟩ := h
  exact ⟨lv, h1, h2.keep hk hd⟩
theorem zc78 : zc Try.prog 78 = [.int .i64 0, .int .i64 0, .int .i64 0, .slice none 0 0, .string (str [])].toArray := by kernel_rfl
theorem agg78 : aggO Try.prog 78 = some true := by kernel_rfl
theorem sz78 : szO Try.prog 78 = some 5 := by kernel_rfl
theorem lv78 {b : Nat} {w : World} {c : Array Value} {T : TypeId} {fr : Nat × Nat} (hb : Live w b) (hs : c.size = 5) {K : Value → Prop} :
    qG Try.prog (do loadVar 78 (← asAddr (.pointer (some ⟨b, 0, none⟩)))) (setBlk w b (.cells c T fr)) K = K (.agg c) := loadVar_of agg78 sz78 (heap_self hb) hs
theorem lv78w {b : Nat} {w : World} {c : Array Value} {T : TypeId} {fr : Nat × Nat} (hh : w.heap[b]? = some (.cells c T fr)) (hs : c.size = 5) {K : Value → Prop} :
    qG Try.prog (do loadVar 78 (← asAddr (.pointer (some ⟨b, 0, none⟩)))) w K = K (.agg c) := loadVar_of agg78 sz78 hh hs
theorem qc_inj {a b c e : Value} {d : DK} (h : Value.agg (qc a b d) = .agg (qc c e d)) : a = c ∧ b = e := by
  simp only [qc, Value.agg.injEq, Array.mk.injEq, List.cons.injEq] at h
  exact ⟨h.1, h.2.1⟩
theorem refOpen_spec {w : World} {x : Value} {d : DK} {SR : List Nat} (h : RefAt w x d SR) (ok : d.Ok) (hsyn : Syn d) (hoff : d.off = false) (hl : d.l.length < 2 ^ 40) {lo hi : Nat} (hlh : lo < hi) (hhi : hi ≤ d.now.length) {turn : Int} (ht : turnOk turn = true) {K : Value → World → Prop}
    (hK : ∀ w' y S, RefLog w' y ⟨lo, hi, turn, scan turn (allOf d lo (hi - lo)), (allOf d lo (hi - lo)).take (usedOf (scan turn (allOf d lo (hi - lo))))⟩ S → Kp [] w w' → (∀ x ∈ S, w.heap.size ≤ x) →
      K (.tuple #[y, .int .i64 0]) w') : callG Try.prog 64 #[x, .agg #[.int .i64 lo, .int .i64 hi], .int .i64 turn] w K := by
  refine ref04_Open_call ?_
  obtain ⟨sv, lv, hx, o1, o2⟩ := h.form
  have h4096 := ok.most
  have hpos := ok.pos
  have hlen := ok.len
  have ht' : 1 ≤ turn ∧ turn ≤ 2147483647 := by simpa [turnOk] using ht
  subst hx
  simp only [ref04_Open, ref04_Open_s5, newG_k, cells_agg, zc78]
  obtain ⟨a, ha⟩ : ∃ a, a = w.heap.size := ⟨_, rfl⟩
  obtain ⟨w1, hw1⟩ := ex_w (w' := w.alloc (.cells (qc sv lv d) 39))
  have hk1 : Kp [] w w1 := by rw [hw1]; exact kp_alloc
  have hA1 : w1.heap[a]? = some (.cells (qc sv lv d) 39) := by rw [hw1, ha]; exact heap_new
  rw [← hw1, ← ha]
  obtain ⟨b, hb⟩ : ∃ b, b = w1.heap.size := ⟨_, rfl⟩
  obtain ⟨w2, hw2⟩ := ex_w (w' := w1.alloc (.cells #[.int .i64 lo, .int .i64 hi] 76))
  have hk2 : Kp [] w1 w2 := by rw [hw2]; exact kp_alloc
  have hB2 : w2.heap[b]? = some (.cells #[.int .i64 lo, .int .i64 hi] 76) := by rw [hw2, hb]; exact heap_new
  rw [← hw2, ← hb]
  obtain ⟨c, hc⟩ : ∃ c, c = w2.heap.size := ⟨_, rfl⟩
  obtain ⟨w3, hw3⟩ := ex_w (w' := w2.alloc (.cells [.int .i64 0, .int .i64 0, .int .i64 0, .slice none 0 0, .string (str [])].toArray 78))
  have hk3 : Kp [] w2 w3 := by rw [hw3]; exact kp_alloc
  have hC3 : w3.heap[c]? = some (.cells [.int .i64 0, .int .i64 0, .int .i64 0, .slice none 0 0, .string (str [])].toArray 78) := by rw [hw3, hc]; exact heap_new
  rw [← hw3, ← hc]
  have hB3 := hk3.get hB2 (by simp)
  have hA3 := (hk2.trans' hk3).get hA1 (by simp)
  have hk03 := (hk1.trans' hk2).trans' hk3
  obtain ⟨sv', lv', SS, SL, he, hs, hlg, hSR⟩ := h
  obtain ⟨rfl, rfl⟩ := qc_inj he
  obtain ⟨sa, sc, hsv, _⟩ := hs.len
  have hsl : sv = .slice sa d.sure.length sc := by simpa using hsv
  have hcw : w.heap.size ≤ c := by have := hk1.size; have := hk2.size; omega
  have hgo : ref04_Open_s4 K (.int .i64 turn) (.pointer (some ⟨a, 0, none⟩)) (.pointer (some ⟨b, 0, none⟩)) (.pointer (some ⟨c, 0, none⟩)) w3 := by
    unfold ref04_Open_s4
    have hA3' := hA3
    unfold qc at hA3'
    simp [-getElem?_pos, -Array.getElem?_eq_getElem, -List.length_flatten, List.getElem?_cons_zero, List.getElem?_cons_succ, hA3', hoff]
    unfold ref04_Open_s3
    simp [-getElem?_pos, -Array.getElem?_eq_getElem, -List.length_flatten, List.getElem?_cons_zero, List.getElem?_cons_succ, hB3]
    unfold ref04_Open_L2
    have hr3 : RefAt w3 (.agg (qc sv lv d)) d SR := ⟨sv, lv, SS, SL, rfl, hs.keep hk03 (by simp), hlg.keep hk03 (by simp), hSR⟩
    refine loop_inv (fun m xs wi => ∃ n v, n ≤ hi - lo ∧ m = hi - lo - n ∧ xs = [.int .i64 turn, .pointer (some ⟨a, 0, none⟩), .pointer (some ⟨b, 0, none⟩), .pointer (some ⟨c, 0, none⟩), v, .int .i64 (lo + n : Nat)] ∧ Fr w3 wi v 1 ((allOf d lo n).map byteV))
      ?_ (m := hi - lo) ⟨0, .slice none 0 0, by omega, rfl, by simp, by simpa [allOf] using fr_nil (Kp.refl _ _)⟩
    rintro m N xs wi ⟨n, v, hn, rfl, rfl, hf⟩ hN
    have hA := hf.kp.get hA3 (by simp)
    have hB := hf.kp.get hB3 (by simp)
    have hC := hf.kp.get hC3 (by simp)
    have hal := allOf_len ok (lo := lo) (n := n) (by omega)
    unfold ref04_Open_L2F ref04_Open_b1
    simp [-getElem?_pos, -Array.getElem?_eq_getElem, -List.length_flatten, List.getElem?_cons_zero, List.getElem?_cons_succ, hB, -ldn_p]
    refine ⟨fun hlt => ?_, fun hge => ?_⟩
    · have hlt : lo + n < hi := by omega
      rw [ld_var hA]
      refine ref_Read (hr3.keep hf.kp (by simp)) ok hsyn (by omega) _ fun w4 hk4 => ?_
      have hrd : (d.read ((lo : Int) + n)).1 = d.now.getD (lo + n) [] := by
        unfold DK.read
        rw [if_pos ⟨by omega, by omega⟩, if_neg (by simp [hoff])]
        rw [show ((lo : Int) + n).toNat = lo + n by omega]
      have hsz : (d.now.getD (lo + n) []).length = 32 := by
        simp only [List.getD, List.getElem?_eq_getElem (show lo + n < d.now.length by omega), Option.getD_some]
        exact ok.sz2 _ (List.getElem_mem _)
      obtain ⟨sec, hsec⟩ : ∃ sec, sec = d.now.getD (lo + n) [] := ⟨_, rfl⟩
      rw [← hsec] at hrd hsz
      simp [-getElem?_pos, -Array.getElem?_eq_getElem, -List.length_flatten, List.getElem?_cons_zero, List.getElem?_cons_succ, hrd]
      refine bytes_app zc5 (hf.keep hk4) _ (by rw [hal, hsz]; omega) fun v5 w5 hf5 => ?_
      have hiw' : IntKind.i64.wrap ((lo : Int) + n + 1) = (lo : Int) + ((n + 1 : Nat) : Int) := by rw [w64 (by omega) (by omega)]; omega
      simp [-getElem?_pos, -Array.getElem?_eq_getElem, -List.length_flatten, List.getElem?_cons_zero, List.getElem?_cons_succ, hiw']
      refine hN (hi - lo - (n + 1)) _ _ (by omega) ⟨n + 1, v5, by omega, rfl, by simp, ?_⟩
      rw [allOf_succ (by omega), ← hsec]
      exact hf5
    · have hn' : n = hi - lo := by omega
      subst hn'
      unfold ref04_Open_s0
      rw [hf.text]
      refine refScan_spec turn _ (by rw [hal]; omega) fun w4 v4 S4 h4 hk4 hS4 => ?_
      have hB4 := hk4.get hB (by simp)
      have hC4 := hk4.get hC (by simp)
      have hu := scan_used turn (allOf d lo (hi - lo))
      have lC := live_of hC4
      have h41 := rows_one h4
      have hkf := hk03.trans' hf.kp
      simp [-getElem?_pos, -Array.getElem?_eq_getElem, -List.length_flatten, List.getElem?_cons_zero, List.getElem?_cons_succ, hB4, hC4, zc78, bld_done, bld_if, offAt, putAt, h41, slS_p, bnd, hu]
      rw [lv78w (by rw [heap_drew]; exact heap_self lC) rfl, str_extract, List.drop_zero]
      refine hK _ _ S4 ⟨v4, rfl, h4.keep (S' := [c]) (((Kp.refl _ _).setBlk (.inl (by simp)) _).drew) (fun y hy hm => ?_)⟩ (((hkf.trans' hk4).setBlk (.inr hcw) _).drew) (fun y hy => by have := hS4 y hy; have := hkf.size; omega)
      have := hS4 y hy
      have := lt_of_blk hC
      simp at hm
      omega
  have hne : ¬ d.sure = [] := by intro hh; rw [hh] at hlen; simp at hlen; omega
  simp [-getElem?_pos, -Array.getElem?_eq_getElem, -List.length_flatten, List.getElem?_cons_zero, List.getElem?_cons_succ, qc, hA3, hB3, hC3, hsl, hne]
  repeat' (first | exact hgo | refine And.intro ?_ ?_ | (intro hh; first | (exfalso; omega) | skip))
end Go.Proofs

/- Layer 4: the document's log: Add. -/
set_option linter.unusedVariables false
set_option linter.unusedSimpArgs false
namespace Go.Proofs
open Go Go.Q
/-- what is given back: the disk of one variable, the log of another -/
def retX (R : Value → World → Prop) (x3 x4 x6 x7 er : Value) (w : World) : Prop :=
  ldn 4 x3 (World.drew w) fun t51 =>
  ldn 5 x4 (World.drew w) fun t52 =>
  stn 4 x6 t51 (World.drew w) fun w =>
  ldn 5 x4 w (fun u => u = t52) ∧
  stn 5 x7 t52 w fun w =>
  qG Try.prog (do loadVar 39 (← asAddr x6)) w fun r6 =>
  qG Try.prog (do loadVar 78 (← asAddr x7)) w fun r7 =>
  R (.tuple #[r6, r7, er]) w
theorem ldA {b k : Nat} {c : Array Value} {T : TypeId} {w : World} (h : w.heap[b]? = some (.cells c T)) (hc : c.size = k) {K : Value → Prop} : ldn k (.pointer (some ⟨b, 0, none⟩)) w K = K (.agg c) := by
  subst hc
  simp [-getElem?_pos, -Array.getElem?_eq_getElem, -List.length_flatten, List.getElem?_cons_zero, List.getElem?_cons_succ, h, Array.extract_size]
theorem stA {b k : Nat} {old c : Array Value} {T : TypeId} {w : World} (h : w.heap[b]? = some (.cells old T)) (ho : old.size = k) (hc : c.size = k) (hone : c.all one = true) {K : World → Prop} :
    stn k (.pointer (some ⟨b, 0, none⟩)) (.agg c) w K = K (setBlk w b (.cells c T)) := by
  rw [stn_p, wrN_mk, h]
  have hsp : splice old 0 c = c := splice_all (by rw [ho, hc])
  apply propext
  constructor
  · rintro ⟨_, _, hk⟩
    rw [hsp] at hk
    exact hk
  · intro hk
    refine ⟨hc, ⟨by omega, by rw [okFr0]; trivial, hone⟩, ?_⟩
    rw [hsp]; exact hk
theorem qc_one {sv lv : Value} {d : DK} (h1 : one sv = true) (h2 : one lv = true) : (qc sv lv d).all one = true := by rw [qc, one4, h1, h2]; rfl
theorem logC_one {g : LG} {ll : Value} (h : one ll = true) : (logC g ll).toArray.all one = true := by simp only [logC, all_cons1, all_nil1, h]; rfl
theorem ret_spec {R : Value → World → Prop} {w : World} {a b c e : Nat} {sv lv er : Value} {d : DK} {L : List Value} {q l : Array Value} (hA : w.heap[a]? = some (.cells (qc sv lv d) 39)) (hB : w.heap[b]? = some (.cells L.toArray 78)) (hL : L.length = 5) (hL1 : L.toArray.all one = true)
    (hC : w.heap[c]? = some (.cells q 39)) (hq : q.size = 4) (hE : w.heap[e]? = some (.cells l 78)) (hl : l.size = 5) (o1 : one sv = true) (o2 : one lv = true) (hbc : b ≠ c) (hce : c ≠ e)
    (hR : ∀ w', Kp [c, e] w w' → R (.tuple #[.agg (qc sv lv d), .agg L.toArray, er]) w') : retX R (.pointer (some ⟨a, 0, none⟩)) (.pointer (some ⟨b, 0, none⟩)) (.pointer (some ⟨c, 0, none⟩)) (.pointer (some ⟨e, 0, none⟩)) er w := by
  unfold retX
  have lc := live_of hC
  have le := live_of hE
  rw [ldA (k := 4) (c := qc sv lv d) (w := w.drew) (by rw [heap_drew]; exact hA) rfl, ldA (k := 5) (w := w.drew) (by rw [heap_drew]; exact hB) (by simpa using hL), stA (k := 4) (w := w.drew) (by rw [heap_drew]; exact hC) hq rfl (qc_one o1 o2)]
  have lc' : Live w.drew c := by unfold Live; rw [heap_drew]; exact lc
  have hB1 : (setBlk w.drew c (.cells (qc sv lv d) 39)).heap[b]? = some (.cells L.toArray 78) := by rw [heap_ne (Ne.symm hbc), heap_drew]; exact hB
  have hE1 : (setBlk w.drew c (.cells (qc sv lv d) 39)).heap[e]? = some (.cells l 78) := by rw [heap_ne hce, heap_drew]; exact hE
  have hC1 : (setBlk w.drew c (.cells (qc sv lv d) 39)).heap[c]? = some (.cells (qc sv lv d) 39) := heap_self lc'
  rw [ldA (k := 5) hB1 (by simpa using hL)]
  refine ⟨rfl, ?_⟩
  rw [stA (k := 5) hE1 hl (by simpa using hL) hL1]
  have lv39' : ∀ {K : Value → Prop}, qG Try.prog (do loadVar 39 (← asAddr (.pointer (some ⟨c, 0, none⟩)))) (setBlk (setBlk w.drew c (.cells (qc sv lv d) 39)) e (.cells L.toArray 78)) K = K (.agg (qc sv lv d)) := by
    intro K
    exact lv39 (by rw [heap_ne (Ne.symm hce)]; exact hC1) rfl
  rw [lv39', lv78w (heap_self (live_of hE1)) (by simpa using hL)]
  exact hR _ (((Kp.refl _ w).drew.setBlk (.inl (by simp)) _).setBlk (.inl (by simp)) _)
/-- the variables of the document's Add -/
structure RA (w : World) (a b c e : Nat) (d : DK) (sv lv : Value) (SR : List Nat) (g : LG) (ll : Value) (SL : List Nat) : Prop where
  hA : w.heap[a]? = some (.cells (qc sv lv d) 39)
  hB : w.heap[b]? = some (.cells (logC g ll).toArray 78)
  hC : w.heap[c]? = some (.cells #[.slice none 0 0, .slice none 0 0, .int .i64 0, .bool false] 39)
  hE : w.heap[e]? = some (.cells [.int .i64 0, .int .i64 0, .int .i64 0, .slice none 0 0, .string (str [])].toArray 78)
  ref : RefAt w (.agg (qc sv lv d)) d SR
  rl : RowsAt w ll 1 (g.l.map strV) SL
  ab : a ≠ b
  ac : a ≠ c
  ae : a ≠ e
  bc : b ≠ c
  be : b ≠ e
  ce : c ≠ e
  apR : ∀ y ∈ SR, y ≠ a ∧ y ≠ b ∧ y ≠ c ∧ y ≠ e
  apL : ∀ y ∈ SL, y ≠ a ∧ y ≠ b ∧ y ≠ c ∧ y ≠ e
section
variable {w w' : World} {a b c e : Nat} {d : DK} {sv lv : Value} {SR : List Nat} {g : LG} {ll : Value} {SL : List Nat}
theorem RA.keep (h : RA w a b c e d sv lv SR g ll SL) (hk : Kp [] w w') : RA w' a b c e d sv lv SR g ll SL :=
  ⟨hk.get h.hA (by simp), hk.get h.hB (by simp), hk.get h.hC (by simp), hk.get h.hE (by simp), h.ref.keep hk (by simp), h.rl.keep hk (by simp), h.ab, h.ac, h.ae, h.bc, h.be, h.ce, h.apR, h.apL⟩
theorem RA.ones (h : RA w a b c e d sv lv SR g ll SL) : one sv = true ∧ one lv = true ∧ one ll = true := by
  obtain ⟨sv', lv', he, o1, o2⟩ := h.ref.form
  obtain ⟨rfl, rfl⟩ := qc_inj he
  exact ⟨o1, o2, rows_one h.rl⟩
theorem RA.put (h : RA w a b c e d sv lv SR g ll SL) {d' : DK} {sv' lv' : Value} {SR' : List Nat} (hr : RefAt w (.agg (qc sv' lv' d')) d' SR') (hap : ∀ y ∈ SR', y ≠ a ∧ y ≠ b ∧ y ≠ c ∧ y ≠ e) :
    RA (setBlk w a (.cells (qc sv' lv' d') 39)) a b c e d' sv' lv' SR' g ll SL := by
  have hk : Kp [a] w (setBlk w a (.cells (qc sv' lv' d') 39)) := (Kp.refl _ w).setBlk (.inl (by simp)) _
  exact ⟨heap_self (live_of h.hA), hk.get h.hB (by simpa using h.ab.symm), hk.get h.hC (by simpa using h.ac.symm), hk.get h.hE (by simpa using h.ae.symm), hr.keep hk (fun y hy => by simpa using (hap y hy).1), h.rl.keep hk (fun y hy => by simpa using (h.apL y hy).1), h.ab, h.ac, h.ae, h.bc, h.be, h.ce, hap, h.apL⟩
/-- the answer: disk, log, error -/
def AnsOk (w0 : World) (R : Value → World → Prop) (SR SL : List Nat) (d : DK) (g : LG) (er : Int) : Prop :=
  ∀ w' x y SR' SL', RefAt w' x d SR' → RefLog w' y g SL' → Kp [] w0 w' → (∀ z ∈ SR', z ∈ SR ∨ w0.heap.size ≤ z) → (∀ z ∈ SL', z ∈ SL ∨ w0.heap.size ≤ z) → R (.tuple #[x, y, .int .i64 er]) w'
theorem ret_ans {w0 : World} {R : Value → World → Prop} {SR0 SL0 : List Nat} {er : Int} (h : RA w a b c e d sv lv SR g ll SL) {n : Nat} {d' : DK} {sv' lv' : Value} {SR' : List Nat} (hn : w.heap[n]? = some (.cells (qc sv' lv' d') 39)) (hr : RefAt w (.agg (qc sv' lv' d')) d' SR')
    (hap : ∀ y ∈ SR', y ≠ c ∧ y ≠ e) (hk : Kp [] w0 w) (hc : w0.heap.size ≤ c) (he : w0.heap.size ≤ e) (hSR : ∀ z ∈ SR', z ∈ SR0 ∨ w0.heap.size ≤ z) (hSL : ∀ z ∈ SL, z ∈ SL0 ∨ w0.heap.size ≤ z) (hA : AnsOk w0 R SR0 SL0 d' g er) :
    retX R (.pointer (some ⟨n, 0, none⟩)) (.pointer (some ⟨b, 0, none⟩)) (.pointer (some ⟨c, 0, none⟩)) (.pointer (some ⟨e, 0, none⟩)) (.int .i64 er) w := by
  obtain ⟨sv2, lv2, he2, o1, o2⟩ := hr.form
  obtain ⟨rfl, rfl⟩ := qc_inj he2
  refine ret_spec hn h.hB rfl (logC_one h.ones.2.2) h.hC rfl h.hE rfl o1 o2 h.bc h.ce fun w' hk' => ?_
  refine hA w' _ _ SR' SL (hr.keep hk' fun y hy => by simpa using hap y hy) ⟨ll, rfl, h.rl.keep hk' fun y hy => by simpa using (h.apL y hy).2.2⟩ (hk.trans hk' fun x hx hlt => ?_) hSR hSL
  simp at hx
  omega
end
end Go.Proofs

/- Layer 4: the document's Add: the sectors. -/
set_option linter.unusedVariables false
set_option linter.unusedSimpArgs false
namespace Go.Proofs
open Go Go.Q
section
variable {w0 : World} {a b c e : Nat} {g : LG} {ll : Value} {SL SR0 SL0 : List Nat} {R : Value → World → Prop} {gv : Value}
/-- how things stand between two sectors -/
structure WA (w0 w : World) (a b c e : Nat) (d : DK) (sv lv : Value) (SR : List Nat) (g : LG) (ll : Value) (SL SR0 : List Nat) : Prop where
  ra : RA w a b c e d sv lv SR g ll SL
  kp : Kp [] w0 w
  ok : d.Ok
  syn : Syn d
  new : ∀ z ∈ SR, z ∈ SR0 ∨ w0.heap.size ≤ z
theorem write_ok {d : DK} (ok : d.Ok) (at_ : Int) (s : List UInt8) : (d.write at_ s).1.Ok := by
  have hb : d.burns.1.Ok := by
    unfold DK.burns
    have h0 := ok.f0
    have h1 := ok.f1
    split
    · exact ⟨ok.len, ok.pos, ok.most, ok.sz1, ok.sz2, ok.szl, by simp, by simp⟩
    · refine ⟨ok.len, ok.pos, ok.most, ok.sz1, ok.sz2, ok.szl, ?_, ?_⟩
      · show -1 ≤ (if d.fuse > 0 then d.fuse - 1 else d.fuse)
        split <;> omega
      · show (if d.fuse > 0 then d.fuse - 1 else d.fuse) < _
        split <;> omega
  have hn := DK.burns_now d
  unfold DK.write
  split
  · rename_i hc
    split
    · refine ⟨?_, ?_, ?_, ?_, ?_, ?_, hb.f0, hb.f1⟩
      · simpa [hn.2.2] using ok.len
      · simpa using ok.pos
      · simpa using ok.most
      · simpa [hn.2.2] using ok.sz1
      · intro x hx
        rcases List.mem_or_eq_of_mem_set hx with h | h
        · exact ok.sz2 x h
        · rw [h]; exact hc.2
      · intro x hx
        simp only [List.mem_append, List.mem_singleton] at hx
        simp only [List.length_set]
        rcases hx with h | h
        · exact ok.szl x h
        · subst h; exact ⟨by simp; omega, hc.2⟩
    · exact hb
  · exact ok
theorem stb_sadd {T : TypeId} {xo yo : Operand} {x y : ByteArray} {u : Value} {w : World} (h : x.size + y.size < 2 ^ 62) : stb Try.prog (bq .add T xo yo (.string x) (.string y)) u w = (.string (x ++ y) = u) := stb_of (run_sadd (by omega))
theorem wr_step {w : World} {d : DK} {sv lv : Value} {SR : List Nat} (h : WA w0 w a b c e d sv lv SR g ll SL SR0) (ha : w0.heap.size ≤ a) (hb : w0.heap.size ≤ b) (hc : w0.heap.size ≤ c) (he : w0.heap.size ≤ e) (h0 : ∀ z ∈ SR0, z < w0.heap.size)
    (hSL : ∀ z ∈ SL, z ∈ SL0 ∨ w0.heap.size ≤ z) (hl : d.l.length < 2 ^ 39) {lo : Nat} (hlo : g.lo = (lo : Int)) (hlo2 : lo < 2 ^ 40) {all : List UInt8} (hall : all.length < 2 ^ 40) {k : Nat} (hk : 32 * k < all.length) {N1 : List Value → World → Prop}
    (hbad : (putK d lo all k).2 ≠ 0 → AnsOk w0 R SR0 SL0 (putK d lo all k).1 g (putK d lo all k).2)
    (hN : ∀ w' sv' lv' SR', (putK d lo all k).2 = 0 → WA w0 w' a b c e (putK d lo all k).1 sv' lv' SR' g ll SL SR0 → N1 [gv, .pointer (some ⟨a, 0, none⟩), .pointer (some ⟨b, 0, none⟩), .pointer (some ⟨c, 0, none⟩), .pointer (some ⟨e, 0, none⟩), .string (str all), .int .i64 ((k + 1 : Nat) : Int)] w') :
    ref04_Add_s1 R N1 gv (.pointer (some ⟨a, 0, none⟩)) (.pointer (some ⟨b, 0, none⟩)) (.pointer (some ⟨c, 0, none⟩)) (.pointer (some ⟨e, 0, none⟩)) (.string (str all)) (.int .i64 k) w := by
  have h32 : IntKind.i64.wrap (32 * (k : Int)) = 32 * (k : Int) := w64 (by omega) (by omega)
  obtain ⟨x, hx⟩ : ∃ x, x = min (32 * k + 32) all.length := ⟨_, rfl⟩
  have hsub : IntKind.i64.wrap ((all.length : Int) - 32 * k) = (all.length : Int) - 32 * k := w64 (by omega) (by omega)
  have hmin : min (32 : Int) ((all.length : Int) - 32 * k) = ((x - 32 * k : Nat) : Int) := by omega
  have hadd : IntKind.i64.wrap (32 * (k : Int) + ((x - 32 * k : Nat) : Int)) = (x : Int) := by rw [w64 (by omega) (by omega)]; omega
  have hlk : IntKind.i64.wrap ((lo : Int) + (k : Int)) = (lo : Int) + (k : Int) := w64 (by omega) (by omega)
  have hkk : IntKind.i64.wrap ((k : Int) + 1) = ((k + 1 : Nat) : Int) := by rw [w64 (by omega) (by omega)]; simp
  have htn : (32 * (k : Int)).toNat = 32 * k := by omega
  have hsec : (str all).extract (32 * k) x = str (secOf all k) := by rw [str_extract, hx]; rfl
  have hsl : (secOf all k).length = x - 32 * k := by unfold secOf; rw [← hx]; simp; omega
  have hb1 : x ≤ all.length := by omega
  have hb2 : 32 * (k : Int) ≤ x := by omega
  have hB := h.ra.hB
  unfold logC at hB
  rw [hlo] at hB
  obtain ⟨o1, o2, o3⟩ := h.ra.ones
  unfold ref04_Add_s1
  rw [ldA (k := 4) h.ra.hA rfl]
  simp [-getElem?_pos, -Array.getElem?_eq_getElem, -List.length_flatten, List.getElem?_cons_zero, List.getElem?_cons_succ, hB, hlk, -ldn_p, -stn_p, -newG_k]
  refine ref_Read h.ra.ref h.ok h.syn (by omega) _ fun w1 hk1 => ?_
  have r1 := h.ra.keep hk1
  have hB1 := r1.hB
  unfold logC at hB1
  rw [hlo] at hB1
  unfold putK at hbad hN
  have hcast : ((lo + k : Nat) : Int) = (lo : Int) + (k : Int) := by simp
  rw [hcast] at hbad hN
  have hk01 := h.kp.trans' hk1
  simp [-getElem?_pos, -Array.getElem?_eq_getElem, -List.length_flatten, List.getElem?_cons_zero, List.getElem?_cons_succ, h32, hsub, hmin, hadd, hB1, hlk, -ldn_p, -stn_p, -newG_k]
  refine ⟨fun hr => ?_, fun hr => ?_⟩
  · rw [if_neg hr] at hbad
    exact ret_ans r1 r1.hA r1.ref (fun y hy => (r1.apR y hy).2.2) hk01 hc he h.new hSL (hbad hr)
  · rw [if_pos hr] at hbad hN
    have hrl := read_len h.ok hr
    have hext : (str (d.read ((lo : Int) + (k : Int))).1).extract (x - 32 * k) (d.read ((lo : Int) + (k : Int))).1.length = str ((d.read ((lo : Int) + (k : Int))).1.drop (secOf all k).length) := by
      rw [str_extract, List.take_length, hsl]
    rw [ldA (k := 4) (w := w1.drew) (by rw [heap_drew]; exact r1.hA) rfl]
    refine ⟨hb1, ⟨by omega, hb2⟩, by omega, ?_⟩
    rw [htn, hsec, hext, bq_sadd (by simp [hsl]; omega), str_append]
    obtain ⟨sec, hsecd⟩ : ∃ sec, sec = secOf all k ++ (d.read ((lo : Int) + (k : Int))).1.drop (secOf all k).length := ⟨_, rfl⟩
    rw [← hsecd] at hbad hN ⊢
    have hwok := write_ok h.ok ((lo : Int) + k) sec
    have hwsyn := (syn_write h.syn ((lo : Int) + k) sec).1
    have hstb : ∀ w : World, stb Try.prog (bq .add 9 (.tmp 123) (.tmp 126) (.string (str (secOf all k))) (.string (str ((d.read ((lo : Int) + (k : Int))).1.drop (secOf all k).length)))) (.string (str sec)) w := by
      intro w
      rw [stb_sadd (by simp [hsl]; omega), str_append, hsecd]
    have tail : ∀ (w3 : World) (n : Nat) (sv' lv' : Value) (SR' : List Nat) (old : Array Value), Kp [] w1 w3 → w1.heap.size ≤ n → w3.heap[n]? = some (.cells old 39) → old.size = 4 → RefAt w3 (.agg (qc sv' lv' (d.write ((lo : Int) + k) sec).1)) (d.write ((lo : Int) + k) sec).1 SR' → (∀ y ∈ SR', (y ∈ SR ∨ w1.heap.size ≤ y) ∧ y ≠ n) →
        stn 4 (.pointer (some ⟨n, 0, none⟩)) (.agg (qc sv' lv' (d.write ((lo : Int) + k) sec).1)) w3 fun w =>
          ((d.write ((lo : Int) + k) sec).2 ≠ 0 → retX R (.pointer (some ⟨n, 0, none⟩)) (.pointer (some ⟨b, 0, none⟩)) (.pointer (some ⟨c, 0, none⟩)) (.pointer (some ⟨e, 0, none⟩)) (.int .i64 (d.write ((lo : Int) + k) sec).2) w) ∧
          ((d.write ((lo : Int) + k) sec).2 = 0 → ldn 4 (.pointer (some ⟨n, 0, none⟩)) w fun t136 => stn 4 (.pointer (some ⟨a, 0, none⟩)) t136 w fun w => N1 [gv, .pointer (some ⟨a, 0, none⟩), .pointer (some ⟨b, 0, none⟩), .pointer (some ⟨c, 0, none⟩), .pointer (some ⟨e, 0, none⟩), .string (str all), .int .i64 ((k + 1 : Nat) : Int)] w) := by
      intro w3 n sv' lv' SR' old hk3 hn hold ho hr' hS'
      obtain ⟨sv2, lv2, he2, p1, p2⟩ := hr'.form
      obtain ⟨rfl, rfl⟩ := qc_inj he2
      rw [stA hold ho rfl (qc_one p1 p2)]
      have hkn : Kp [n] w3 (setBlk w3 n (.cells (qc sv' lv' (d.write ((lo : Int) + k) sec).1) 39)) := (Kp.refl _ w3).setBlk (.inl (by simp)) _
      have hkn1 : Kp [] w1 (setBlk w3 n (.cells (qc sv' lv' (d.write ((lo : Int) + k) sec).1) 39)) := hk3.trans hkn fun x hx hlt => by simp at hx; omega
      have r4 := r1.keep hkn1
      have hn4 : (setBlk w3 n (.cells (qc sv' lv' (d.write ((lo : Int) + k) sec).1) 39)).heap[n]? = some (.cells (qc sv' lv' (d.write ((lo : Int) + k) sec).1) 39) := heap_self (live_of hold)
      have hr4 := hr'.keep hkn fun y hy => by simpa using (hS' y hy).2
      have hap : ∀ y ∈ SR', y ≠ a ∧ y ≠ b ∧ y ≠ c ∧ y ≠ e := fun y hy => by
        have l1 := lt_of_blk r1.hA
        have l2 := lt_of_blk r1.hB
        have l3 := lt_of_blk r1.hC
        have l4 := lt_of_blk r1.hE
        rcases (hS' y hy).1 with hh | hh
        · exact r1.apR y hh
        · exact ⟨by omega, by omega, by omega, by omega⟩
      have hnew : ∀ z ∈ SR', z ∈ SR0 ∨ w0.heap.size ≤ z := fun z hz => by
        have := hk01.size
        rcases (hS' z hz).1 with hh | hh
        · exact h.new z hh
        · exact .inr (by omega)
      refine ⟨fun hw => ?_, fun hw => ?_⟩
      · exact ret_ans r4 hn4 hr4 (fun y hy => (hap y hy).2.2) (hk01.trans' hkn1) hc he hnew hSL (hbad hw)
      · rw [ldA (k := 4) hn4 rfl, stA (k := 4) r4.hA rfl rfl (qc_one p1 p2)]
        refine hN _ sv' lv' SR' hw ⟨r4.put hr4 hap, (hk01.trans' hkn1).trans ((Kp.refl _ _).setBlk (S := [a]) (.inl (by simp)) _) (fun x hx hlt => by simp at hx; omega), hwok, hwsyn, hnew⟩
    have hz39 : (#[.slice none 0 0, .slice none 0 0, .int .i64 0, .bool false] : Array Value).size = 4 := rfl
    rw [zc39]
    refine ⟨?_, ?_⟩
    · refine ref_Write (r1.ref.keep kp_drew (by simp)) h.ok (by omega) _ sec fun w2 x2 SR2 hr2 hk2 hS2 => ?_
      obtain ⟨sv2, lv2, rfl, p1, p2⟩ := hr2.form
      have hk12 : Kp [] w1 w2 := kp_drew.trans' hk2
      have hB2 := hk12.get hB1 (by simp)
      have hA2 := hk12.get r1.hA (by simp)
      have hl2 := hr2.lt
      have T := tail (w2.alloc (.cells #[.slice none 0 0, .slice none 0 0, .int .i64 0, .bool false] 39)) w2.heap.size sv2 lv2 SR2 _ (hk12.trans' kp_alloc) hk12.size heap_new hz39 (hr2.keep kp_alloc (by simp)) (fun y hy => ⟨by simpa using hS2 y hy, by have := hl2 y hy; omega⟩)
      have hBa : (w2.alloc (.cells #[.slice none 0 0, .slice none 0 0, .int .i64 0, .bool false] 39)).heap[b]? = _ := kp_alloc.get hB2 (by simp)
      have hAa : (w2.alloc (.cells #[.slice none 0 0, .slice none 0 0, .int .i64 0, .bool false] 39)).heap[a]? = _ := kp_alloc.get hA2 (by simp)
      simp [-getElem?_pos, -Array.getElem?_eq_getElem, -List.length_flatten, List.getElem?_cons_zero, List.getElem?_cons_succ, -ldn_p, -stn_p, hstb, hBa, hkk]
      rw [ldA (k := 4) hAa rfl]
      exact ⟨rfl, T⟩
    · have hB2 := (kp_drew.trans' (kp_alloc (o := .cells #[.slice none 0 0, .slice none 0 0, .int .i64 0, .bool false] 39))).get hB1 (by simp)
      have hA2 := (kp_drew.trans' (kp_alloc (o := .cells #[.slice none 0 0, .slice none 0 0, .int .i64 0, .bool false] 39))).get r1.hA (by simp)
      have hX2 : (w1.drew.alloc (.cells #[.slice none 0 0, .slice none 0 0, .int .i64 0, .bool false] 39)).heap[w1.drew.heap.size]? = some (.cells #[.slice none 0 0, .slice none 0 0, .int .i64 0, .bool false] 39) := heap_new
      rw [newG_k]
      obtain ⟨w2, hw2⟩ := ex_w (w' := w1.drew.alloc (.cells #[.slice none 0 0, .slice none 0 0, .int .i64 0, .bool false] 39))
      obtain ⟨n, hn⟩ : ∃ n, n = w1.drew.heap.size := ⟨_, rfl⟩
      have hk2 : Kp [] w1 w2 := by rw [hw2]; exact kp_drew.trans' kp_alloc
      have hsz2 : n < w2.heap.size := by rw [hw2, hn]; simp
      rw [← hw2] at hB2 hA2 hX2
      rw [← hn] at hX2
      have hn1 : w1.heap.size ≤ n := by rw [hn]; simp
      rw [← hw2, ← hn]
      have hrl1 := r1.ref.lt
      simp [-getElem?_pos, -Array.getElem?_eq_getElem, -List.length_flatten, List.getElem?_cons_zero, List.getElem?_cons_succ, -ldn_p, -stn_p, -newG_k, hstb, hB2]
      rw [ldA (k := 4) hA2 rfl]
      refine ⟨rfl, ?_⟩
      refine ref_Write (r1.ref.keep hk2 (by simp)) h.ok (by omega) _ sec fun w3 x3 SR3 hr3 hk3 hS3 => ?_
      obtain ⟨sv3, lv3, rfl, p1, p2⟩ := hr3.form
      have T := tail w3 n sv3 lv3 SR3 _ (hk2.trans' hk3) hn1 (hk3.get hX2 (by simp)) hz39 hr3 (fun y hy => ?_)
      · simp [-getElem?_pos, -Array.getElem?_eq_getElem, -List.length_flatten, List.getElem?_cons_zero, List.getElem?_cons_succ, -ldn_p, -stn_p, hstb, hkk]
        exact T
      · have := hk2.size
        rcases hS3 y hy with hh | hh
        · have := hrl1 y hh
          exact ⟨.inl hh, by omega⟩
        · exact ⟨.inr (by omega), by omega⟩
end
end Go.Proofs

/- Layer 4: the document's Add. -/
set_option linter.unusedVariables false
set_option linter.unusedSimpArgs false
namespace Go.Proofs
open Go Go.Q
section
variable {w0 : World} {a b c e : Nat} {g : LG} {ll : Value} {SL SR0 SL0 : List Nat} {R : Value → World → Prop} {gv : Value}
theorem wr_loop {w : World} {d : DK} {sv lv : Value} {SR : List Nat} (h : WA w0 w a b c e d sv lv SR g ll SL SR0) (ha : w0.heap.size ≤ a) (hb : w0.heap.size ≤ b) (hc : w0.heap.size ≤ c) (he : w0.heap.size ≤ e) (h0 : ∀ z ∈ SR0, z < w0.heap.size)
    (hSL : ∀ z ∈ SL, z ∈ SL0 ∨ w0.heap.size ≤ z) (hl : d.l.length < 2 ^ 38) {lo : Nat} (hlo : g.lo = (lo : Int)) (hlo2 : lo < 2 ^ 40) {all : List UInt8} (hall : all.length < 2 ^ 30) {group : List (List UInt8)} {SG : List Nat} (hgv : ArgAt w0 gv 1 (group.map strV) SG) (hne : 0 < group.length) (hgl : group.length < 2 ^ 40) {k0 : Nat} (hk0 : k0 ≤ (all.length + 31) / 32)
    (hbad : (putN lo all d k0 ((all.length + 31) / 32 - k0)).2 ≠ 0 → AnsOk w0 R SR0 SL0 (putN lo all d k0 ((all.length + 31) / 32 - k0)).1 g (putN lo all d k0 ((all.length + 31) / 32 - k0)).2)
    (hend : ∀ w' sv' lv' SR', (putN lo all d k0 ((all.length + 31) / 32 - k0)).2 = 0 → WA w0 w' a b c e (putN lo all d k0 ((all.length + 31) / 32 - k0)).1 sv' lv' SR' g ll SL SR0 →
      ref04_Add_s0 R gv (.pointer (some ⟨a, 0, none⟩)) (.pointer (some ⟨b, 0, none⟩)) (.pointer (some ⟨c, 0, none⟩)) (.pointer (some ⟨e, 0, none⟩)) (.string (str all)) w') :
    ref04_Add_L3 R gv (.pointer (some ⟨a, 0, none⟩)) (.pointer (some ⟨b, 0, none⟩)) (.pointer (some ⟨c, 0, none⟩)) (.pointer (some ⟨e, 0, none⟩)) (.string (str all)) (.int .i64 k0) w := by
  unfold ref04_Add_L3
  obtain ⟨last, hlast⟩ : ∃ last, last = (all.length + 31) / 32 := ⟨_, rfl⟩
  rw [← hlast] at hbad hend hk0
  refine loop_inv (fun m xs wi => ∃ k dk sv lv SRk, k0 ≤ k ∧ k ≤ last ∧ m = last - k ∧ xs = [gv, .pointer (some ⟨a, 0, none⟩), .pointer (some ⟨b, 0, none⟩), .pointer (some ⟨c, 0, none⟩), .pointer (some ⟨e, 0, none⟩), .string (str all), .int .i64 (k : Nat)] ∧
      putN lo all d k0 (last - k0) = putN lo all dk k (last - k) ∧ WA w0 wi a b c e dk sv lv SRk g ll SL SR0 ∧ dk.l.length ≤ d.l.length + (k - k0))
    ?_ (m := last - k0) ⟨k0, d, sv, lv, SR, Nat.le_refl _, hk0, rfl, rfl, rfl, h, by omega⟩
  rintro m N xs wi ⟨k, dk, svk, lvk, SRk, hk1, hk2, rfl, rfl, hput, hwk, hdk⟩ hN
  have hgi := hgv.keep hwk.kp (by simp)
  have h32 : IntKind.i64.wrap (32 * (k : Int)) = 32 * (k : Int) := w64 (by omega) (by omega)
  unfold ref04_Add_L3F ref04_Add_s2
  simp [-getElem?_pos, -Array.getElem?_eq_getElem, -List.length_flatten, List.getElem?_cons_zero, List.getElem?_cons_succ, hgi.lenL, h32]
  refine ⟨fun _ => ⟨fun hlt => ?_, fun hge => ?_⟩, fun hz => by exfalso; first | omega | (subst hz; simp at hne)⟩
  · have hlt : k < last := by omega
    rw [show last - k = (last - (k + 1)) + 1 by omega] at hput
    simp only [putN] at hput
    refine wr_step hwk ha hb hc he h0 hSL (by omega) hlo hlo2 (by omega) (by omega) (fun hb => ?_) (fun w' sv' lv' SR' hz hw' => ?_)
    · rw [if_neg hb] at hput
      rw [hput] at hbad
      exact hbad hb
    · rw [if_pos hz] at hput
      have := putK_l dk lo all k
      exact hN (last - (k + 1)) _ w' (by omega) ⟨k + 1, _, sv', lv', SR', by omega, by omega, rfl, rfl, hput, hw', by omega⟩
  · have hke : k = last := by omega
    subst hke
    rw [Nat.sub_self] at hput
    rw [hput] at hend
    exact hend wi svk lvk SRk rfl hwk
/-- the end: the log has the records -/
theorem wr_end {w : World} {d : DK} {sv lv : Value} {SR : List Nat} (h : WA w0 w a b c e d sv lv SR g ll SL SR0) (ha : w0.heap.size ≤ a) (hb : w0.heap.size ≤ b) (hc : w0.heap.size ≤ c) (he : w0.heap.size ≤ e)
    {all : List UInt8} {group : List (List UInt8)} {SG : List Nat} (hgv : ArgAt w0 gv 1 (group.map strV) SG) (hgl : g.l.length + group.length < 2 ^ 38) (hA : AnsOk w0 R SR0 SL0 d { g with l := g.l ++ group, used := all } 0) :
    ref04_Add_s0 R gv (.pointer (some ⟨a, 0, none⟩)) (.pointer (some ⟨b, 0, none⟩)) (.pointer (some ⟨c, 0, none⟩)) (.pointer (some ⟨e, 0, none⟩)) (.string (str all)) w := by
  unfold ref04_Add_s0
  have hB := h.ra.hB
  unfold logC at hB
  simp [-getElem?_pos, -Array.getElem?_eq_getElem, -List.length_flatten, List.getElem?_cons_zero, List.getElem?_cons_succ, hB, -ldn_p, -stn_p]
  rw [zc9]
  have hgL := h.ra.rl
  have hlv := strV_one g.l
  refine rows_app (w := w) (k := 1) (z := [.string ⟨#[]⟩]) (rows := []) (S := []) (G := g.l.map strV) (.inl ⟨rfl, rfl, rfl⟩) (by omega) rfl (fun y hy => hgL.rd.row hy) hlv (fun K' hK' => hgL.rd.src K' hK') (by simp; omega) (by simp; omega) fun v1 w1 S1 h1 hk1 hS1 => ?_
  have hg1 := hgv.keep (h.kp.trans' hk1) (by simp)
  refine rows_app (k := 1) (z := [.string ⟨#[]⟩]) (G := group.map strV) h1 (by omega) rfl (fun y hy => hgv.row hy) (strV_one group) (fun K' hK' => hg1.src K' hK') (by simp; omega) (by simp; omega) fun v2 w2 S2 h2 hk2 hS2 => ?_
  have hS1' : ∀ y ∈ S1, w.heap.size ≤ y := fun y hy => by
    rcases hS1 y hy with hh | hh
    · simp at hh
    · exact hh
  have hk12 : Kp [] w w2 := hk1.trans hk2 fun x hx hlt => by have := hS1' x hx; omega
  have hs1 := hk1.size
  have hS2' : ∀ y ∈ S2, w.heap.size ≤ y := fun y hy => by
    rcases hS2 y hy with hh | hh
    · exact hS1' y hh
    · omega
  have r2 := h.ra.keep hk12
  have hB2 := hk12.get hB (by simp)
  have lB := live_of hB2
  have hv2 := rows_one h2
  have la := lt_of_blk h.ra.hA
  have lb := lt_of_blk h.ra.hB
  have lc := lt_of_blk h.ra.hC
  have le := lt_of_blk h.ra.hE
  simp [-getElem?_pos, -Array.getElem?_eq_getElem, -List.length_flatten, List.getElem?_cons_zero, List.getElem?_cons_succ, hB2, heap_self lB, hv2, -ldn_p, -stn_p]
  obtain ⟨w3, hw3⟩ := ex_w (w' := setBlk w2 b (.cells #[.int .i64 g.lo, .int .i64 g.hi, .int .i64 g.turn, v2, .string (str all)] 78))
  have hk3 : Kp [b] w2 w3 := by rw [hw3]; exact (Kp.refl _ w2).setBlk (.inl (by simp)) _
  have hB3 : w3.heap[b]? = some (.cells (logC { g with l := g.l ++ group, used := all } v2).toArray 78) := by rw [hw3]; exact heap_self lB
  rw [← hw3]
  have r3 : RA w3 a b c e d sv lv SR { g with l := g.l ++ group, used := all } v2 S2 := by
    refine ⟨hk3.get r2.hA (by simpa using r2.ab), hB3, hk3.get r2.hC (by simpa using r2.bc.symm), hk3.get r2.hE (by simpa using r2.be.symm), r2.ref.keep hk3 (fun y hy => by simpa using (r2.apR y hy).2.1), ?_, r2.ab, r2.ac, r2.ae, r2.bc, r2.be, r2.ce, r2.apR, fun y hy => ?_⟩
    · show RowsAt w3 v2 1 ((g.l ++ group).map strV) S2
      rw [List.map_append]
      exact h2.keep hk3 fun y hy => by have := hS2' y hy; simp; omega
    · have := hS2' y hy
      exact ⟨by omega, by omega, by omega, by omega⟩
  have hk03 : Kp [] w0 w3 := (h.kp.trans' hk12).trans hk3 fun x hx hlt => by simp at hx; omega
  have hsz := h.kp.size
  exact ret_ans r3 r3.hA r3.ref (fun y hy => (r3.apR y hy).2.2) hk03 hc he h.new (fun z hz => .inr (by have := hS2' z hz; omega)) hA
end
end Go.Proofs

/- Layer 4: the document's Add, whole. -/
set_option linter.unusedVariables false
set_option linter.unusedSimpArgs false
namespace Go.Proofs
open Go Go.Q
theorem frame_pos {t : Int} {s : List UInt8} (h : (frame t s).2 = 0) : 10 ≤ (frame t s).1.length := by
  unfold frame at h ⊢
  split at h
  · rename_i hc; rw [if_pos hc, frameB_len]; omega
  · simp at h
theorem addRun_grow (turn room : Int) : ∀ (r : List (List UInt8)) (b : List UInt8) (full : Bool) (b' : List UInt8), addRun turn room r b full = (0, b', false) → b.length + r.length ≤ b'.length := by
  intro r
  induction r with
  | nil => intro b full b' h; simp [addRun] at h; rw [h.1]; simp
  | cons s r ih =>
    intro b full b' h
    rw [addRun_cons] at h
    split at h
    · rename_i h0
      have hp := frame_pos h0
      split at h
      · have hfull : ∀ (r : List (List UInt8)) (b : List UInt8), (addRun turn room r b true).1 = 0 → (addRun turn room r b true).2.2 = true := by
          intro r
          induction r with
          | nil => intro b _; rfl
          | cons s r ih' =>
            intro b hz
            rw [addRun_cons] at hz ⊢
            split at hz
            · rename_i h0'
              rw [if_pos h0']
              rw [if_pos (.inl rfl)] at hz ⊢
              exact ih' b hz
            · rename_i h0'
              exact absurd hz h0'
        have := hfull r b (by rw [h])
        rw [h] at this
        simp at this
      · have := ih _ _ _ h
        simp at this ⊢
        omega
    · rename_i h0
      exact absurd (by rw [Prod.mk.injEq] at h; exact h.1) h0
theorem refAdd_spec {w : World} {x y gv : Value} {d : DK} {g : LG} {SR SL SG : List Nat} {group : List (List UInt8)} (h : RefAt w x d SR) (hg : RefLog w y g SL) (ok : d.Ok) (syn : Syn d) (hgv : ArgAt w gv 1 (group.map strV) SG)
    (hSR : ∀ z ∈ SR, z < w.heap.size) (hSL : ∀ z ∈ SL, z < w.heap.size) (hgl : g.l.length + group.length < 2 ^ 38) (hgs : ∀ s ∈ group, s.length < 2 ^ 62) {lo hi : Nat} (hlo : g.lo = (lo : Int)) (hhi : g.hi = (hi : Int)) (hlh : lo ≤ hi) (hhi2 : hi ≤ 4096)
    (hroom : (g.used.length : Int) ≤ 32 * (hi - lo)) (hdl : d.l.length < 2 ^ 38) {K : Value → World → Prop} (hK : AnsOk w K SR SL (addG g d group).2.1 (addG g d group).1 (addG g d group).2.2) : callG Try.prog 66 #[x, y, gv] w K := by
  refine ref04_Add_call ?_
  obtain ⟨sv, lv, hx, o1, o2⟩ := h.form
  subst hx
  obtain ⟨ll, rfl, hrl⟩ := hg
  simp only [ref04_Add, ref04_Add_s9, newG_k, cells_agg, zc78, zc39]
  obtain ⟨a, ha⟩ : ∃ a, a = w.heap.size := ⟨_, rfl⟩
  obtain ⟨w1, hw1⟩ := ex_w (w' := w.alloc (.cells (qc sv lv d) 39))
  have hk1 : Kp [] w w1 := by rw [hw1]; exact kp_alloc
  have hA1 : w1.heap[a]? = some (.cells (qc sv lv d) 39) := by rw [hw1, ha]; exact heap_new
  have hs1 : w1.heap.size = a + 1 := by rw [hw1, ha]; simp
  rw [← hw1, ← ha, hs1]
  obtain ⟨w2, hw2⟩ := ex_w (w' := w1.alloc (.cells (logC g ll).toArray 78))
  have hk2 : Kp [] w1 w2 := by rw [hw2]; exact kp_alloc
  have hB2 : w2.heap[a + 1]? = some (.cells (logC g ll).toArray 78) := by rw [hw2, ← hs1]; exact heap_new
  have hs2 : w2.heap.size = a + 1 + 1 := by rw [hw2]; simp [hs1]
  rw [← hw2, hs2]
  obtain ⟨w3, hw3⟩ := ex_w (w' := w2.alloc (.cells #[.slice none 0 0, .slice none 0 0, .int .i64 0, .bool false] 39))
  have hk3 : Kp [] w2 w3 := by rw [hw3]; exact kp_alloc
  have hC3 : w3.heap[a + 1 + 1]? = some (.cells #[.slice none 0 0, .slice none 0 0, .int .i64 0, .bool false] 39) := by rw [hw3, ← hs2]; exact heap_new
  have hs3 : w3.heap.size = a + 1 + 1 + 1 := by rw [hw3]; simp [hs2]
  rw [← hw3, hs3]
  obtain ⟨w4, hw4⟩ := ex_w (w' := w3.alloc (.cells [.int .i64 0, .int .i64 0, .int .i64 0, .slice none 0 0, .string (str [])].toArray 78))
  have hk4 : Kp [] w3 w4 := by rw [hw4]; exact kp_alloc
  have hE4 : w4.heap[a + 1 + 1 + 1]? = some (.cells [.int .i64 0, .int .i64 0, .int .i64 0, .slice none 0 0, .string (str [])].toArray 78) := by rw [hw4, ← hs3]; exact heap_new
  rw [← hw4]
  have hk04 := ((hk1.trans' hk2).trans' hk3).trans' hk4
  have r4 : RA w4 a (a + 1) (a + 1 + 1) (a + 1 + 1 + 1) d sv lv SR g ll SL :=
    ⟨((hk2.trans' hk3).trans' hk4).get hA1 (by simp), (hk3.trans' hk4).get hB2 (by simp), hk4.get hC3 (by simp), hE4, h.keep hk04 (by simp), hrl.keep hk04 (by simp), by omega, by omega, by omega, by omega, by omega, by omega,
      fun y hy => by have := hSR y hy; exact ⟨by omega, by omega, by omega, by omega⟩, fun y hy => by have := hSL y hy; exact ⟨by omega, by omega, by omega, by omega⟩⟩
  have a0 : w.heap.size ≤ a := by omega
  have b0 : w.heap.size ≤ a + 1 := by omega
  have c0 : w.heap.size ≤ a + 1 + 1 := by omega
  have e0 : w.heap.size ≤ a + 1 + 1 + 1 := by omega
  generalize a + 1 + 1 + 1 = e at *
  generalize a + 1 + 1 = c at *
  generalize a + 1 = b at *
  clear hw1 hw2 hw3 hw4 hs1 hs2 hs3 hA1 hB2 hC3 hE4 ha hk1 hk2 hk3 hk4
  have e1 : IntKind.i64.wrap ((hi : Int) - lo) = (hi : Int) - lo := w64 (by omega) (by omega)
  have e2 : IntKind.i64.wrap (32 * ((hi : Int) - lo)) = 32 * ((hi : Int) - lo) := w64 (by omega) (by omega)
  have hB4 := r4.hB
  unfold logC at hB4
  rw [hlo, hhi] at hB4
  simp [-getElem?_pos, -Array.getElem?_eq_getElem, -List.length_flatten, List.getElem?_cons_zero, List.getElem?_cons_succ, hB4, e1, e2, -ldn_p, -stn_p]
  refine bytes_app zc5 (l := []) (by simpa using fr_nil (Kp.refl [] w4)) g.used (by simp; omega) fun v5 w5 hf5 => ?_
  have ans : ∀ er dd gg, addG g d group = (gg, dd, er) → AnsOk w K SR SL dd gg er := fun er dd gg hh => by rw [hh] at hK; exact hK
  have hrm : roomOf g = 32 * ((hi : Int) - lo) - g.used.length := by unfold roomOf; rw [hlo, hhi]
  unfold ref04_Add_s8 ref04_Add_L7
  refine loop_inv (fun m xs wi => ∃ i bi fi v, i ≤ group.length ∧ m = group.length - i ∧ xs = [gv, .pointer (some ⟨a, 0, none⟩), .pointer (some ⟨b, 0, none⟩), .pointer (some ⟨c, 0, none⟩), .pointer (some ⟨e, 0, none⟩), .int .i64 (32 * ((hi : Int) - lo)), v, .bool fi, .int .i64 (i : Nat)] ∧
      addRun g.turn (roomOf g) group [] false = addRun g.turn (roomOf g) (group.drop i) bi fi ∧ (bi.length : Int) ≤ roomOf g ∧ Fr w4 wi v 1 ((g.used ++ bi).map Q.byteV))
    ?_ (m := group.length) ⟨0, [], false, v5, by omega, rfl, rfl, rfl, by simp; omega, by simpa using hf5⟩
  rintro m N xs wi ⟨i, bi, fi, v, hi', rfl, rfl, hrun, hbl, hf⟩ hN
  have ri := r4.keep hf.kp
  have hki := hk04.trans' hf.kp
  have hgi := hgv.keep hki (by simp)
  have hBi := hf.kp.get hB4 (by simp)
  have hsl : ∀ z ∈ SL, z ∈ SL ∨ w.heap.size ≤ z := fun z hz => .inl hz
  unfold ref04_Add_L7F ref04_Add_b6
  simp [-getElem?_pos, -Array.getElem?_eq_getElem, -List.length_flatten, List.getElem?_cons_zero, List.getElem?_cons_succ, hgi.lenL, -ldn_p, -stn_p]
  refine ⟨fun hlt => ?_, fun hge => ?_⟩
  · obtain ⟨bl, o, T, cc, fr, _, hh, hia, _, _, hc⟩ := hgi.at (i := i) (by simpa using hlt)
    have h1 : cc[o]? = some (.string (str group[i])) := by have := hc 0 (by omega); simpa [strV] using this
    have hiw : IntKind.i64.wrap ((i : Int) + 1) = ((i + 1 : Nat) : Int) := by rw [w64 (by omega) (by omega)]; simp
    rw [List.drop_eq_getElem_cons hlt, addRun_cons] at hrun
    simp [-getElem?_pos, -Array.getElem?_eq_getElem, -List.length_flatten, List.getElem?_cons_zero, List.getElem?_cons_succ, hBi, hia, hh, h1, -ldn_p, -stn_p]
    refine refFrame_spec g.turn group[i] (hgs _ (List.getElem_mem hlt)) fun w6 hk6 => ?_
    have r6 := ri.keep (kp_drew.trans' hk6)
    have hf6 := hf.keep (kp_drew.trans' hk6)
    have hk06 := hki.trans' (kp_drew.trans' hk6)
    have hfl := frame_len_le g.turn group[i]
    simp [-getElem?_pos, -Array.getElem?_eq_getElem, -List.length_flatten, List.getElem?_cons_zero, List.getElem?_cons_succ, hiw, -ldn_p, -stn_p]
    refine ⟨fun hne => ?_, fun h0 => ?_⟩
    · rw [if_neg hne] at hrun
      refine ret_ans r6 r6.hA r6.ref (fun y hy => (r6.apR y hy).2.2) hk06 c0 e0 (fun z hz => .inl hz) hsl (ans _ _ _ ?_)
      simp only [addG, hrun]
      rw [if_pos hne]
    · rw [if_pos h0] at hrun
      have hlen6 : lenL v = lenL v := rfl
      cases fi with
      | true =>
        rw [if_pos (.inl rfl)] at hrun
        simp [-getElem?_pos, -Array.getElem?_eq_getElem, -List.length_flatten, List.getElem?_cons_zero, List.getElem?_cons_succ, -ldn_p, -stn_p]
        exact hN (group.length - (i + 1)) _ _ (by omega) ⟨i + 1, bi, true, v, by omega, rfl, rfl, hrun, hbl, hf6⟩
      | false =>
        have e3 : IntKind.i64.wrap (32 * ((hi : Int) - lo) - ((g.used.length : Int) + bi.length)) = 32 * ((hi : Int) - lo) - ((g.used.length : Int) + bi.length) := w64 (by omega) (by omega)
        simp [-getElem?_pos, -Array.getElem?_eq_getElem, -List.length_flatten, List.getElem?_cons_zero, List.getElem?_cons_succ, hf6.rd.lenL, e3, -ldn_p, -stn_p]
        refine ⟨fun hc => ?_, fun hc => ?_⟩
        · rw [if_neg (by simp; omega)] at hrun
          refine bytes_app zc5 hf6 _ (by simp; omega) fun v7 w7 hf7 => ?_
          refine hN (group.length - (i + 1)) _ _ (by omega) ⟨i + 1, _, false, v7, by omega, rfl, ?_, hrun, by simp; omega, by simpa using hf7⟩
          simp; omega
        · rw [if_pos (by simp; omega)] at hrun
          refine hN (group.length - (i + 1)) _ _ (by omega) ⟨i + 1, bi, true, v, by omega, rfl, ?_, hrun, hbl, hf6⟩
          simp; omega
  · have hie : i = group.length := by omega
    subst hie
    rw [List.drop_length] at hrun
    simp only [addRun] at hrun
    unfold ref04_Add_s5
    cases fi with
    | true =>
      simp [-getElem?_pos, -Array.getElem?_eq_getElem, -List.length_flatten, List.getElem?_cons_zero, List.getElem?_cons_succ, -ldn_p, -stn_p]
      refine ret_ans ri ri.hA ri.ref (fun y hy => (ri.apR y hy).2.2) hki c0 e0 (fun z hz => .inl hz) hsl (ans _ _ _ ?_)
      simp [addG, hrun]
    | false =>
      simp [-getElem?_pos, -Array.getElem?_eq_getElem, -List.length_flatten, List.getElem?_cons_zero, List.getElem?_cons_succ, -ldn_p, -stn_p]
      rw [hf.text]
      unfold ref04_Add_s4
      have wa : WA w wi a b c e d sv lv SR g ll SL SR := ⟨ri, hki, ok, syn, fun z hz => .inl hz⟩
      have hq : IntKind.i64.wrap ((g.used.length : Int) / 32) = ((g.used.length / 32 : Nat) : Int) := by
        rw [w64 (by omega) (by omega)]; omega
      simp [-getElem?_pos, -Array.getElem?_eq_getElem, -List.length_flatten, List.getElem?_cons_zero, List.getElem?_cons_succ, hBi, -ldn_p, -stn_p]
      rw [quo_of (by omega) (by omega), hq]
      have hgrow := addRun_grow _ _ _ _ _ _ hrun
      simp at hgrow
      by_cases hg0 : group.length = 0
      · have hgn : group = [] := by simpa using hg0
        subst hgn
        have hb0 : bi = [] := by
          simp [addRun] at hrun
          exact hrun
        subst hb0
        unfold ref04_Add_L3
        refine loop_inv (fun m xs wj => xs = [gv, .pointer (some ⟨a, 0, none⟩), .pointer (some ⟨b, 0, none⟩), .pointer (some ⟨c, 0, none⟩), .pointer (some ⟨e, 0, none⟩), .string (str (g.used ++ [])), .int .i64 ((g.used.length / 32 : Nat) : Int)] ∧ wj = wi) ?_ (m := 0) ⟨rfl, rfl⟩
        rintro m N xs wj ⟨rfl, rfl⟩ hN
        unfold ref04_Add_L3F ref04_Add_s2
        simp [-getElem?_pos, -Array.getElem?_eq_getElem, -List.length_flatten, List.getElem?_cons_zero, List.getElem?_cons_succ, hgi.lenL, -ldn_p, -stn_p, -List.append_nil]
        refine wr_end wa a0 b0 c0 e0 hgv (by simpa using hgl) (ans _ _ _ ?_)
        simp [addG, addRun]
      · have hlen : (g.used ++ bi).length ≤ 32 * 4096 := by simp; omega
        have hk := wr_loop (gv := gv) (group := group) (R := K) (SL0 := SL) (all := g.used ++ bi) (k0 := g.used.length / 32) wa a0 b0 c0 e0 hSR hsl hdl hlo (by omega) (by omega) hgv (by omega) (by omega) (by simp; omega) (fun hb => ans _ _ _ ?_) (fun w' sv' lv' SR' hz hw' => wr_end hw' a0 b0 c0 e0 hgv hgl (ans _ _ _ ?_))
        · exact hk
        · simp only [addG, hrun]
          rw [if_neg (by simp), if_neg (by simp), if_pos (show 0 < bi.length by omega), if_neg (by rw [hlo]; exact hb), hlo]
          rfl
        · simp only [addG, hrun]
          rw [if_neg (by simp), if_neg (by simp), if_pos (show 0 < bi.length by omega), if_pos (by rw [hlo]; exact hz), hlo]
          rfl
end Go.Proofs

/- Layer 4: a log beside the document's: same, opens. -/
set_option linter.unusedVariables false
set_option linter.unusedSimpArgs false
namespace Go.Proofs
open Go Go.Q
def sideC (bp lp sv lv : Value) (d : DK) (m0 m1 m2 m3 m4 : Value) (lo hi : Int) : Array Value := #[bp, lp, sv, lv, .int .i64 d.fuse, .bool d.off, m0, m1, m2, m3, m4, .int .i64 lo, .int .i64 hi]
theorem ldO {b k o : Nat} {c r : Array Value} {T : TypeId} {fr : Nat × Nat} {w : World} (h : w.heap[b]? = some (.cells c T fr)) (ho : o + k ≤ c.size) (hr : c.extract o (o + k) = r) {K : Value → Prop} : ldn k (.pointer (some ⟨b, o, none⟩)) w K = K (.agg r) := by
  subst hr
  simp [-getElem?_pos, -Array.getElem?_eq_getElem, -List.length_flatten, List.getElem?_cons_zero, List.getElem?_cons_succ, h, ho]
theorem stO {b k o : Nat} {old c r : Array Value} {T : TypeId} {w : World} (h : w.heap[b]? = some (.cells old T)) (ho : o + k ≤ old.size) (hc : c.size = k) (hone : c.all one = true) (hr : splice old o c = r) {K : World → Prop} :
    stn k (.pointer (some ⟨b, o, none⟩)) (.agg c) w K = K (setBlk w b (.cells r T)) := by
  rw [stn_p, wrN_mk, h]
  apply propext
  constructor
  · rintro ⟨_, _, hk⟩
    rw [hr] at hk
    exact hk
  · intro hk
    refine ⟨hc, ⟨by omega, by rw [okFr0]; trivial, hone⟩, ?_⟩
    rw [hr]; exact hk
section
variable {w0 w : World} {x a b : Nat} {g : LG} {d : DK} {B SR SM : List Nat} {sv lv ll bp lp m0 m1 m2 m3 m4 : Value} {lo hi : Int} {T : TypeId}
theorem ld_q (h : w.heap[x]? = some (.cells (sideC bp lp sv lv d m0 m1 m2 m3 m4 lo hi) T)) {K : Value → Prop} : ldn 4 (.pointer (some ⟨x, 2, none⟩)) w K = K (.agg (qc sv lv d)) := ldO h (by simp [sideC]) rfl
theorem ld_m (h : w.heap[x]? = some (.cells (sideC bp lp sv lv d m0 m1 m2 m3 m4 lo hi) T)) {K : Value → Prop} : ldn 5 (.pointer (some ⟨x, 6, none⟩)) w K = K (.agg #[m0, m1, m2, m3, m4]) := ldO h (by simp [sideC]) rfl
theorem ld_at (h : w.heap[x]? = some (.cells (sideC bp lp sv lv d m0 m1 m2 m3 m4 lo hi) T)) {K : Value → Prop} : ldn 2 (.pointer (some ⟨x, 11, none⟩)) w K = K (.agg #[.int .i64 lo, .int .i64 hi]) := ldO h (by simp [sideC]) rfl
theorem st_q (h : w.heap[x]? = some (.cells (sideC bp lp sv lv d m0 m1 m2 m3 m4 lo hi) T)) {sv' lv' : Value} {d' : DK} (o1 : one sv' = true) (o2 : one lv' = true) {K : World → Prop} :
    stn 4 (.pointer (some ⟨x, 2, none⟩)) (.agg (qc sv' lv' d')) w K = K (setBlk w x (.cells (sideC bp lp sv' lv' d' m0 m1 m2 m3 m4 lo hi) T)) := stO (k := 4) h (by simp [sideC]) rfl (qc_one o1 o2) rfl
theorem st_m (h : w.heap[x]? = some (.cells (sideC bp lp sv lv d m0 m1 m2 m3 m4 lo hi) T)) {g : LG} (o1 : one ll = true) {K : World → Prop} :
    stn 5 (.pointer (some ⟨x, 6, none⟩)) (.agg (logC g ll).toArray) w K = K (setBlk w x (.cells (sideC bp lp sv lv d (.int .i64 g.lo) (.int .i64 g.hi) (.int .i64 g.turn) ll (.string (str g.used)) lo hi) T)) := stO (k := 5) h (by simp [sideC]) rfl (logC_one o1) rfl
end
/-- a log and its disk, and the document's, side by side -/
structure PS (w0 w : World) (x a b : Nat) (g : LG) (d : DK) (B SR SM : List Nat) (sv lv ll : Value) (lo hi : Nat) : Prop where
  hx : w.heap[x]? = some (.cells (sideC (.pointer (some ⟨b, 0, none⟩)) (.pointer (some ⟨a, 0, none⟩)) sv lv d (.int .i64 g.lo) (.int .i64 g.hi) (.int .i64 g.turn) ll (.string (str g.used)) lo hi) 80)
  ol : OL w0 w a b g d B
  ref : RefAt w (.agg (qc sv lv d)) d SR
  rl : RowsAt w ll 1 (g.l.map strV) SM
  x0 : w0.heap.size ≤ x
  xB : x ∉ B
  apR : ∀ y ∈ SR, y ∉ B ∧ y ≠ x ∧ w0.heap.size ≤ y
  apM : ∀ y ∈ SM, y ∉ B ∧ y ≠ x ∧ w0.heap.size ≤ y
  syn : Syn d
  glo : g.lo = (lo : Int)
  ghi : g.hi = (hi : Int)
  lh : lo < hi
  h24 : hi ≤ 24
  now : d.now.length = 24
  turn : turnOk g.turn = true
  room : (g.used.length : Int) ≤ 32 * (hi - lo)
  recs : g.l.length ≤ g.used.length
section
variable {w0 w : World} {x a b : Nat} {g : LG} {d : DK} {B SR SM : List Nat} {sv lv ll : Value} {lo hi : Nat}
theorem PS.ones (p : PS w0 w x a b g d B SR SM sv lv ll lo hi) : one sv = true ∧ one lv = true ∧ one ll = true := by
  obtain ⟨sv', lv', he, o1, o2⟩ := p.ref.form
  obtain ⟨rfl, rfl⟩ := qc_inj he
  exact ⟨o1, o2, rows_one p.rl⟩
theorem PS.keep {w' : World} (p : PS w0 w x a b g d B SR SM sv lv ll lo hi) (hk : Kp [] w w') : PS w0 w' x a b g d B SR SM sv lv ll lo hi :=
  ⟨hk.get p.hx (by simp), p.ol.keep0 hk, p.ref.keep hk (by simp), p.rl.keep hk (by simp), p.x0, p.xB, p.apR, p.apM, p.syn, p.glo, p.ghi, p.lh, p.h24, p.now, p.turn, p.room, p.recs⟩
theorem sideSame_spec (p : PS w0 w x a b g d B SR SM sv lv ll lo hi) (hl : d.l.length < 2 ^ 40) {K : Value → World → Prop} (hK : ∀ w', Kp [] w w' → K (.bool true) w') : callG Try.prog 65 #[.pointer (some ⟨x, 0, none⟩)] w K := by
  refine law04_side_same_call ?_
  have hx := p.hx
  have hlh := p.lh
  have h24 := p.h24
  have hroom := p.room
  have hrecs := p.recs
  have hok := p.ol.ok
  unfold sideC at hx
  unfold law04_side_same law04_side_same_s4
  simp [-getElem?_pos, -Array.getElem?_eq_getElem, -List.length_flatten, List.getElem?_cons_zero, List.getElem?_cons_succ, hx]
  refine ol_records (p.ol.keep0 kp_drew) (by omega) fun w1 v1 S1 h1 hk1 hS1 => ?_
  have hk01 : Kp [] w w1 := kp_drew.trans' hk1
  have hx1 := hk01.get hx (by simp)
  simp [-getElem?_pos, -Array.getElem?_eq_getElem, -List.length_flatten, List.getElem?_cons_zero, List.getElem?_cons_succ, hx1]
  refine same_spec (.inr h1.rd) (.inr (p.rl.keep hk01 (by simp)).rd) (by omega) fun w2 hk2 => ?_
  have hk02 := hk01.trans' hk2
  have hx2 := hk02.get hx (by simp)
  simp [-getElem?_pos, -Array.getElem?_eq_getElem, -List.length_flatten, List.getElem?_cons_zero, List.getElem?_cons_succ, hx2]
  refine ol_used (p.ol.keep0 hk02) ?_
  simp [-getElem?_pos, -Array.getElem?_eq_getElem, -List.length_flatten, List.getElem?_cons_zero, List.getElem?_cons_succ, hx2]
  unfold law04_side_same_s3 law04_side_same_L2
  obtain ⟨sv', lv', SS, SL, he, hs, hlg, hSR⟩ := p.ref
  obtain ⟨rfl, rfl⟩ := qc_inj he
  obtain ⟨sa, sc, hsv, _⟩ := hs.len
  have hsl : sv = .slice sa d.sure.length sc := by simpa using hsv
  have hln := hok.len
  refine loop_inv (fun m xs wi => ∃ i, i ≤ d.sure.length ∧ m = d.sure.length - i ∧ xs = [.pointer (some ⟨x, 0, none⟩), .int .i64 (i : Nat)] ∧ Kp [] w wi) ?_ (m := d.sure.length) ⟨0, by omega, rfl, rfl, hk02⟩
  rintro m N xs wi ⟨i, hi', rfl, rfl, hki⟩ hN
  have hxi := hki.get p.hx (by simp)
  have hxu := hki.get hx (by simp)
  have hnow := p.now
  have hiw : IntKind.i64.wrap ((i : Int) + 1) = ((i + 1 : Nat) : Int) := by rw [w64 (by omega) (by omega)]; simp
  unfold law04_side_same_L2F law04_side_same_b1
  simp [-getElem?_pos, -Array.getElem?_eq_getElem, -List.length_flatten, List.getElem?_cons_zero, List.getElem?_cons_succ, hxu, hsl, -ldn_p]
  refine ⟨fun hlt => ?_, fun hge => ?_⟩
  · refine ol_read (p.ol.keep0 hki) _ ?_
    simp [-getElem?_pos, -Array.getElem?_eq_getElem, -List.length_flatten, List.getElem?_cons_zero, List.getElem?_cons_succ, -ldn_p]
    rw [ld_q hxi]
    refine ref_Read (p.ref.keep hki (by simp)) hok p.syn hl _ fun w3 hk3 => ?_
    simp [-getElem?_pos, -Array.getElem?_eq_getElem, -List.length_flatten, List.getElem?_cons_zero, List.getElem?_cons_succ, hiw]
    exact hN (d.sure.length - (i + 1)) _ w3 (by omega) ⟨i + 1, by omega, rfl, rfl, hki.trans' hk3⟩
  · exact hK wi hki
end
end Go.Proofs

/- Layer 4: a log beside the document's: opens, crash. -/
set_option linter.unusedVariables false
set_option linter.unusedSimpArgs false
namespace Go.Proofs
open Go Go.Q
theorem st_lp {w : World} {x : Nat} {d : DK} {sv lv bp lp m0 m1 m2 m3 m4 : Value} {lo hi : Int} {T : TypeId} (h : w.heap[x]? = some (.cells (sideC bp lp sv lv d m0 m1 m2 m3 m4 lo hi) T)) {v : Value} (hv : one v = true) {K : World → Prop} :
    st1 (.pointer (some ⟨x, 1, none⟩)) v w K = K (setBlk w x (.cells (sideC bp v sv lv d m0 m1 m2 m3 m4 lo hi) T)) := by
  unfold sideC at h ⊢
  simp [-getElem?_pos, -Array.getElem?_eq_getElem, -List.length_flatten, List.getElem?_cons_zero, List.getElem?_cons_succ, h, hv]
/-- a disk and the document's, ahead of Open -/
structure PO (w0 w : World) (x b : Nat) (d : DK) (S SR : List Nat) (sv lv lp m0 m1 m2 m3 m4 : Value) (lo hi : Nat) : Prop where
  hx : w.heap[x]? = some (.cells (sideC (.pointer (some ⟨b, 0, none⟩)) lp sv lv d m0 m1 m2 m3 m4 lo hi) 80)
  own : Own w0 w b d S
  ref : RefAt w (.agg (qc sv lv d)) d SR
  x0 : w0.heap.size ≤ x
  xS : x ∉ S
  apR : ∀ y ∈ SR, y ∉ S ∧ y ≠ x ∧ w0.heap.size ≤ y
  syn : Syn d
  lh : lo < hi
  h24 : hi ≤ 24
  now : d.now.length = 24
  off : d.off = false
section
variable {w0 w : World} {x b : Nat} {d : DK} {S SR : List Nat} {sv lv lp m0 m1 m2 m3 m4 : Value} {lo hi : Nat}
theorem PO.keep {w' : World} (p : PO w0 w x b d S SR sv lv lp m0 m1 m2 m3 m4 lo hi) (hk : Kp [] w w') : PO w0 w' x b d S SR sv lv lp m0 m1 m2 m3 m4 lo hi :=
  ⟨hk.get p.hx (by simp), p.own.keep hk, p.ref.keep hk (by simp), p.x0, p.xS, p.apR, p.syn, p.lh, p.h24, p.now, p.off⟩
theorem opens_spec (p : PO w0 w x b d S SR sv lv lp m0 m1 m2 m3 m4 lo hi) (hl : d.l.length < 2 ^ 38) {turn : Int} (ht : turnOk turn = true) {K : Value → World → Prop}
    (hK : ∀ w' a g B SM ll, g.turn = turn → PS w0 w' x a b g d B SR SM sv lv ll lo hi → K (.bool true) w') : callG Try.prog 40 #[.pointer (some ⟨x, 0, none⟩), .int .i64 turn] w K := by
  refine law04_side_opens_call ?_
  have hlh := p.lh
  have h24 := p.h24
  have hnow := p.now
  have hok := p.own.at_.ok
  have hxl := lt_of_blk p.hx
  have hx := p.hx
  unfold sideC at hx
  have hal := allOf_len hok (lo := lo) (n := hi - lo) (by omega)
  have hu := scan_used turn (allOf d lo (hi - lo))
  have hul := usedOf_len (scan turn (allOf d lo (hi - lo)))
  obtain ⟨g, hg⟩ : ∃ g : LG, g = ⟨lo, hi, turn, scan turn (allOf d lo (hi - lo)), (allOf d lo (hi - lo)).take (usedOf (scan turn (allOf d lo (hi - lo))))⟩ := ⟨_, rfl⟩
  unfold law04_side_opens law04_side_opens_s0
  simp [-getElem?_pos, -Array.getElem?_eq_getElem, -List.length_flatten, List.getElem?_cons_zero, List.getElem?_cons_succ, hx, -ldn_p, -stn_p, -newG_k]
  refine ol_open (p.own.keep kp_drew) p.off hlh (by omega) ht fun w1 a B o1 hk1 hB hSB => ?_
  rw [← hg] at o1
  have hk01 : Kp [] w w1 := kp_drew.trans' hk1
  have p1 := p.keep hk01
  have hx1 := hk01.get hx (by simp)
  have hRl := p.ref.lt
  have hxB : x ∉ B := fun hm => by
    rcases hB x hm with hh | hh
    · exact p.xS hh
    · simp at hh; omega
  have hRB : ∀ y ∈ SR, y ∉ B := fun y hy hm => by
    have := hRl y hy
    rcases hB y hm with hh | hh
    · exact (p.apR y hy).1 hh
    · simp at hh; omega
  have hBl := o1.live
  simp [-getElem?_pos, -Array.getElem?_eq_getElem, -List.length_flatten, List.getElem?_cons_zero, List.getElem?_cons_succ, hx1, -ldn_p, -stn_p, -newG_k]
  rw [ld_q (w := w1.drew) (by rw [heap_drew]; exact p1.hx), ld_at (w := w1.drew) (by rw [heap_drew]; exact p1.hx)]
  have tail : ∀ (W : World) (n : Nat) (ll : Value) (SM : List Nat), Kp [] w1 W → w1.heap.size ≤ n → W.heap[n]? = some (.cells [.int .i64 0, .int .i64 0, .int .i64 0, .slice none 0 0, .string (str [])].toArray 78) → RowsAt W ll 1 (g.l.map strV) SM → (∀ y ∈ SM, w1.heap.size ≤ y ∧ y ≠ n) →
      stn 5 (.pointer (some ⟨n, 0, none⟩)) (.agg (logC g ll).toArray) W fun w => st1 (.pointer (some ⟨x, 1, none⟩)) (.pointer (some ⟨a, 0, none⟩)) w fun w => ldn 5 (.pointer (some ⟨n, 0, none⟩)) w fun t46 => stn 5 (.pointer (some ⟨x, 6, none⟩)) t46 w fun w =>
        callG Try.prog 65 #[.pointer (some ⟨x, 0, none⟩)] w fun t61 w => K t61 w := by
    intro W n ll SM hkW hn hbox hrl hSM
    have h1 := rows_one hrl
    have hx1l := lt_of_blk p1.hx
    have hsz1 := o1.kp.size
    have hnx : n ≠ x := by omega
    rw [stA (k := 5) hbox rfl rfl (logC_one h1)]
    have hkn : Kp [n] W (setBlk W n (.cells (logC g ll).toArray 78)) := (Kp.refl _ W).setBlk (.inl (by simp)) _
    have hkn1 : Kp [] w1 (setBlk W n (.cells (logC g ll).toArray 78)) := hkW.trans hkn fun y hy hlt => by simp at hy; omega
    have p2 := p1.keep hkn1
    rw [st_lp p2.hx rfl]
    obtain ⟨w4, hw4⟩ := ex_w (w' := setBlk W n (.cells (logC g ll).toArray 78))
    rw [← hw4] at hkn hkn1 p2 ⊢
    have hn4 : w4.heap[n]? = some (.cells (logC g ll).toArray 78) := by rw [hw4]; exact heap_self (live_of hbox)
    have lx := live_of p2.hx
    obtain ⟨w5, hw5⟩ := ex_w (w' := setBlk w4 x (.cells (sideC (.pointer (some ⟨b, 0, none⟩)) (.pointer (some ⟨a, 0, none⟩)) sv lv d m0 m1 m2 m3 m4 lo hi) 80))
    have hx5 : w5.heap[x]? = some (.cells (sideC (.pointer (some ⟨b, 0, none⟩)) (.pointer (some ⟨a, 0, none⟩)) sv lv d m0 m1 m2 m3 m4 lo hi) 80) := by rw [hw5]; exact heap_self lx
    have hk5 : Kp [x] w4 w5 := by rw [hw5]; exact (Kp.refl _ w4).setBlk (.inl (by simp)) _
    rw [← hw5]
    rw [ldA (k := 5) (hk5.get hn4 (by simpa using hnx)) rfl, st_m hx5 h1]
    obtain ⟨w6, hw6⟩ := ex_w (w' := setBlk w5 x (.cells (sideC (.pointer (some ⟨b, 0, none⟩)) (.pointer (some ⟨a, 0, none⟩)) sv lv d (.int .i64 g.lo) (.int .i64 g.hi) (.int .i64 g.turn) ll (.string (str g.used)) lo hi) 80))
    have hx6 : w6.heap[x]? = some (.cells (sideC (.pointer (some ⟨b, 0, none⟩)) (.pointer (some ⟨a, 0, none⟩)) sv lv d (.int .i64 g.lo) (.int .i64 g.hi) (.int .i64 g.turn) ll (.string (str g.used)) lo hi) 80) := by rw [hw6]; exact heap_self (live_of hx5)
    have hk6 : Kp [x] w5 w6 := by rw [hw6]; exact (Kp.refl _ w5).setBlk (.inl (by simp)) _
    rw [← hw6]
    have hk46 : Kp [x] w4 w6 := hk5.trans' hk6
    have hk06 : Kp [] w0 w6 := (o1.kp.trans' hkn1).trans hk46 fun y hy hlt => by have := p.x0; simp at hy; omega
    have ps : PS w0 w6 x a b g d B SR SM sv lv ll lo hi := by
      refine ⟨hx6, (o1.keep0 hkn1).keep hk46 (fun y hy hm => by simp at hm; subst hm; exact hxB hy) hk06, p2.ref.keep hk46 (fun y hy => by simpa using (p.apR y hy).2.1), ?_, p.x0, hxB, fun y hy => ⟨hRB y hy, (p.apR y hy).2⟩, fun y hy => ?_, p.syn, by rw [hg], by rw [hg], hlh, h24, hnow, by rw [hg]; exact ht, ?_, ?_⟩
      · exact (hrl.keep hkn (fun y hy => by simpa using (hSM y hy).2)).keep hk46 (fun y hy => by have := (hSM y hy).1; simp; omega)
      · have := (hSM y hy).1
        exact ⟨fun hm => by have := hBl y hm; omega, by omega, by omega⟩
      · rw [hg]; simp; omega
      · rw [hg]; simp; omega
    exact sideSame_spec ps (by omega) fun w7 hk7 => hK w7 a g B SM ll (by rw [hg]) (ps.keep hk7)
  rw [zc78]
  refine ⟨?_, ?_⟩
  · refine refOpen_spec (p1.ref.keep kp_drew (by simp)) hok p.syn p.off (by omega) hlh (by omega) ht fun w2 y SM hrl hk2 hSM => ?_
    rw [← hg] at hrl
    obtain ⟨ll, rfl, hrl⟩ := hrl
    have hk12 : Kp [] w1 w2 := kp_drew.trans' hk2
    have T := tail (w2.alloc (.cells [.int .i64 0, .int .i64 0, .int .i64 0, .slice none 0 0, .string (str [])].toArray 78)) w2.heap.size ll SM (hk12.trans' kp_alloc) hk12.size heap_new (hrl.keep kp_alloc (by simp)) (fun y hy => ⟨by simpa using hSM y hy, by have := hrl.lt y hy; omega⟩)
    have pa := (p1.keep hk12).keep (kp_alloc (o := .cells [.int .i64 0, .int .i64 0, .int .i64 0, .slice none 0 0, .string (str [])].toArray 78))
    simp [-getElem?_pos, -Array.getElem?_eq_getElem, -List.length_flatten, List.getElem?_cons_zero, List.getElem?_cons_succ, -ldn_p, -stn_p] at T
    simp [-getElem?_pos, -Array.getElem?_eq_getElem, -List.length_flatten, List.getElem?_cons_zero, List.getElem?_cons_succ, -ldn_p, -stn_p]
    rw [ld_at pa.hx, ld_q pa.hx]
    exact ⟨rfl, rfl, T⟩
  · rw [newG_k]
    obtain ⟨n, hn⟩ : ∃ n, n = w1.drew.heap.size := ⟨_, rfl⟩
    obtain ⟨w2, hw2⟩ := ex_w (w' := w1.drew.alloc (.cells [.int .i64 0, .int .i64 0, .int .i64 0, .slice none 0 0, .string (str [])].toArray 78))
    have hk2 : Kp [] w1 w2 := by rw [hw2]; exact kp_drew.trans' kp_alloc
    have hb2 : w2.heap[n]? = some (.cells [.int .i64 0, .int .i64 0, .int .i64 0, .slice none 0 0, .string (str [])].toArray 78) := by rw [hw2, hn]; exact heap_new
    have hn1 : w1.heap.size ≤ n := by rw [hn]; simp
    have hn2 := lt_of_blk hb2
    rw [← hw2, ← hn]
    have p2 := p1.keep hk2
    rw [ld_at p2.hx, ld_q p2.hx]
    refine ⟨rfl, rfl, ?_⟩
    refine refOpen_spec p2.ref hok p.syn p.off (by omega) hlh (by omega) ht fun w3 y SM hrl hk3 hSM => ?_
    rw [← hg] at hrl
    obtain ⟨ll, rfl, hrl⟩ := hrl
    have hsz := hk2.size
    have T := tail w3 n ll SM (hk2.trans' hk3) hn1 (hk3.get hb2 (by simp)) hrl (fun y hy => ⟨by have := hSM y hy; omega, by have := hSM y hy; omega⟩)
    simp [-getElem?_pos, -Array.getElem?_eq_getElem, -List.length_flatten, List.getElem?_cons_zero, List.getElem?_cons_succ, -ldn_p, -stn_p] at T
    simp [-getElem?_pos, -Array.getElem?_eq_getElem, -List.length_flatten, List.getElem?_cons_zero, List.getElem?_cons_succ, -ldn_p, -stn_p]
    exact T
end
end Go.Proofs
