/- Part of the proof (J1): an engine, rules or contracts of the functions; it states nothing of the claim by itself. -/
import Derived.Test.YtcekhmkhagakiaaJ0
import Derived.Below
import Derived.Laws.Append
import Derived.ChangeArms
import Derived.DataReads
import Derived.Laws.StructEq
import Derived.Test.YtcekhmkhagakiaaProg
import Derived.KernelRfl
import Derived.Lib.Builder
import Derived.Laws.Externs
import Derived.Lib.UnsafeStr

/- Rules for the printed forms: what an operation comes to when its operands are known; worlds; what is kept. -/
set_option linter.unusedVariables false
set_option linter.unusedSimpArgs false
namespace Go.Q
variable {P : Program}

theorem qG_of {s : Sem Value} {w : World} {v : Value} {K : Value → Prop} (h : s.run P w = .ok v w) : qG P s w K = K v := by
  apply propext
  constructor
  · rintro ⟨v', hr, hk⟩
    rw [h] at hr
    injection hr with h1
    subst h1; exact hk
  · exact fun hk => ⟨v, h, hk⟩
theorem stb_of {s : Sem Value} {w : World} {v u : Value} (h : s.run P w = .ok v w) : stb P s u w = (v = u) := by
  unfold stb; rw [h]; simp

/-! ### numbers -/
section
variable {T : TypeId} {xo yo : Operand} {k : IntKind} {a b : Int} {w : World} {K : Value → Prop} {u : Value}
theorem run_bq_int {op : BinOp} {s : Sem Value} (hop : ∀ w : World, (binOp op T (.int k a) (.int k b)).run P w = s.run P w) : (bq op T xo yo (.int k a) (.int k b)).run P w = s.run P w := by
  cases op <;> exact hop w
theorem run_add : (bq .add T xo yo (.int k a) (.int k b)).run P w = .ok (.int k (k.wrap (a + b))) w := run_bq_int (s := .pure _) fun w => by simp [binOp, Op.intArith]
theorem run_sub : (bq .sub T xo yo (.int k a) (.int k b)).run P w = .ok (.int k (k.wrap (a - b))) w := run_bq_int (s := .pure _) fun w => by simp [binOp, Op.intArith]
theorem run_mul : (bq .mul T xo yo (.int k a) (.int k b)).run P w = .ok (.int k (k.wrap (a * b))) w := run_bq_int (s := .pure _) fun w => by simp [binOp, Op.intArith]
theorem run_lss : (bq .lss T xo yo (.int k a) (.int k b)).run P w = .ok (.bool (decide (a < b))) w := run_bq_int (s := .pure _) fun w => by simp [binOp, Op.intCmp]
theorem run_leq : (bq .leq T xo yo (.int k a) (.int k b)).run P w = .ok (.bool (decide (a ≤ b))) w := run_bq_int (s := .pure _) fun w => by simp [binOp, Op.intCmp]
theorem run_gtr : (bq .gtr T xo yo (.int k a) (.int k b)).run P w = .ok (.bool (decide (a > b))) w := run_bq_int (s := .pure _) fun w => by simp [binOp, Op.intCmp]
theorem run_geq : (bq .geq T xo yo (.int k a) (.int k b)).run P w = .ok (.bool (decide (a ≥ b))) w := run_bq_int (s := .pure _) fun w => by simp [binOp, Op.intCmp]
theorem run_eql : (bq .eql T xo yo (.int k a) (.int k b)).run P w = .ok (.bool (decide (a = b))) w := run_bq_int (s := .pure _) fun w => by simp [binOp, Op.intCmp]; rfl
theorem run_neq : (bq .neq T xo yo (.int k a) (.int k b)).run P w = .ok (.bool (decide (a ≠ b))) w := run_bq_int (s := .pure _) fun w => by simp [binOp, Op.intCmp, bne]; rfl
@[simp] theorem bq_add : qG P (bq .add T xo yo (.int k a) (.int k b)) w K = K (.int k (k.wrap (a + b))) := qG_of run_add
@[simp] theorem bq_sub : qG P (bq .sub T xo yo (.int k a) (.int k b)) w K = K (.int k (k.wrap (a - b))) := qG_of run_sub
@[simp] theorem bq_mul : qG P (bq .mul T xo yo (.int k a) (.int k b)) w K = K (.int k (k.wrap (a * b))) := qG_of run_mul
@[simp] theorem bq_lss : qG P (bq .lss T xo yo (.int k a) (.int k b)) w K = K (.bool (decide (a < b))) := qG_of run_lss
@[simp] theorem bq_leq : qG P (bq .leq T xo yo (.int k a) (.int k b)) w K = K (.bool (decide (a ≤ b))) := qG_of run_leq
@[simp] theorem bq_gtr : qG P (bq .gtr T xo yo (.int k a) (.int k b)) w K = K (.bool (decide (a > b))) := qG_of run_gtr
@[simp] theorem bq_geq : qG P (bq .geq T xo yo (.int k a) (.int k b)) w K = K (.bool (decide (a ≥ b))) := qG_of run_geq
@[simp] theorem bq_eql : qG P (bq .eql T xo yo (.int k a) (.int k b)) w K = K (.bool (decide (a = b))) := qG_of run_eql
@[simp] theorem bq_neq : qG P (bq .neq T xo yo (.int k a) (.int k b)) w K = K (.bool (decide (a ≠ b))) := qG_of run_neq
@[simp] theorem stb_add : stb P (bq .add T xo yo (.int k a) (.int k b)) u w = (.int k (k.wrap (a + b)) = u) := stb_of run_add
@[simp] theorem stb_sub : stb P (bq .sub T xo yo (.int k a) (.int k b)) u w = (.int k (k.wrap (a - b)) = u) := stb_of run_sub
@[simp] theorem stb_mul : stb P (bq .mul T xo yo (.int k a) (.int k b)) u w = (.int k (k.wrap (a * b)) = u) := stb_of run_mul
@[simp] theorem stb_lss : stb P (bq .lss T xo yo (.int k a) (.int k b)) u w = (.bool (decide (a < b)) = u) := stb_of run_lss
@[simp] theorem stb_eql : stb P (bq .eql T xo yo (.int k a) (.int k b)) u w = (.bool (decide (a = b)) = u) := stb_of run_eql
@[simp] theorem stb_neq : stb P (bq .neq T xo yo (.int k a) (.int k b)) u w = (.bool (decide (a ≠ b)) = u) := stb_of run_neq
end
theorem run_not {b : Bool} {w : World} : (Op.unary .not (.bool b)).run P w = .ok (.bool !b) w := rfl
@[simp] theorem un_not {b : Bool} {w : World} {K : Value → Prop} : qG P (Op.unary .not (.bool b)) w K = K (.bool !b) := qG_of run_not
@[simp] theorem stb_not {b : Bool} {w : World} {u : Value} : stb P (Op.unary .not (.bool b)) u w = (.bool (!b) = u) := stb_of run_not
theorem run_extract {vs : Array Value} {i : Nat} {v : Value} {w : World} (h : vs[i]? = some v) : (Instr.extract (.tuple vs) i).run P w = .ok v w := by simp [Instr.extract, h]
@[simp] theorem ex0 {a b : Value} {w : World} {K : Value → Prop} : qG P (Instr.extract (.tuple #[a, b]) 0) w K = K a := qG_of (run_extract rfl)
@[simp] theorem ex1 {a b : Value} {w : World} {K : Value → Prop} : qG P (Instr.extract (.tuple #[a, b]) 1) w K = K b := qG_of (run_extract rfl)
@[simp] theorem ex30 {a b c : Value} {w : World} {K : Value → Prop} : qG P (Instr.extract (.tuple #[a, b, c]) 0) w K = K a := qG_of (run_extract rfl)
@[simp] theorem ex31 {a b c : Value} {w : World} {K : Value → Prop} : qG P (Instr.extract (.tuple #[a, b, c]) 1) w K = K b := qG_of (run_extract rfl)
@[simp] theorem ex32 {a b c : Value} {w : World} {K : Value → Prop} : qG P (Instr.extract (.tuple #[a, b, c]) 2) w K = K c := qG_of (run_extract rfl)
@[simp] theorem stb_ex0 {a b u : Value} {w : World} : stb P (Instr.extract (.tuple #[a, b]) 0) u w = (a = u) := stb_of (run_extract rfl)
@[simp] theorem stb_ex1 {a b u : Value} {w : World} : stb P (Instr.extract (.tuple #[a, b]) 1) u w = (b = u) := stb_of (run_extract rfl)
@[simp] theorem stb_ex30 {a b c u : Value} {w : World} : stb P (Instr.extract (.tuple #[a, b, c]) 0) u w = (a = u) := stb_of (run_extract rfl)
@[simp] theorem stb_ex31 {a b c u : Value} {w : World} : stb P (Instr.extract (.tuple #[a, b, c]) 1) u w = (b = u) := stb_of (run_extract rfl)
@[simp] theorem stb_ex32 {a b c u : Value} {w : World} : stb P (Instr.extract (.tuple #[a, b, c]) 2) u w = (c = u) := stb_of (run_extract rfl)
theorem run_max {ts : Array TypeId} {t : TypeId} {k : IntKind} {a b : Int} {w : World} : (Builtin.max_ ts t #[.int k a, .int k b]).run P w = .ok (.int k (max a b)) w := by
  simp only [Builtin.max_, List.foldlM_cons, List.foldlM_nil, Builtin.max2, pure_bind]
  show Result.ok _ _ = _
  congr 2; omega
theorem run_min {ts : Array TypeId} {t : TypeId} {k : IntKind} {a b : Int} {w : World} : (Builtin.min_ ts t #[.int k a, .int k b]).run P w = .ok (.int k (min a b)) w := by
  simp only [Builtin.min_, List.foldlM_cons, List.foldlM_nil, Builtin.min2, pure_bind]
  show Result.ok _ _ = _
  congr 2; omega
@[simp] theorem q_max {ts : Array TypeId} {t : TypeId} {k : IntKind} {a b : Int} {w : World} {K : Value → Prop} : qG P (Builtin.max_ ts t #[.int k a, .int k b]) w K = K (.int k (max a b)) := qG_of run_max
@[simp] theorem q_min {ts : Array TypeId} {t : TypeId} {k : IntKind} {a b : Int} {w : World} {K : Value → Prop} : qG P (Builtin.min_ ts t #[.int k a, .int k b]) w K = K (.int k (min a b)) := qG_of run_min

/-! ### strings, bools, pointers against nil -/
theorem toList_beq (s t : ByteArray) : (s.toList == t.toList) = decide (s = t) := by
  by_cases h : s = t
  · subst h; simp
  · have : s.toList ≠ t.toList := by
      intro h'
      apply h
      rw [ByteArray.toList_eq, ByteArray.toList_eq] at h'
      cases s; cases t
      simp only [ByteArray.mk.injEq]
      exact Array.toList_inj.1 h'
    rw [decide_eq_false h]
    exact beq_false_of_ne this
def sLt (s t : ByteArray) : Bool := Op.bytesLess s.toList t.toList
section
variable {T : TypeId} {xo yo : Operand} {a b : ByteArray} {w : World} {K : Value → Prop} {u : Value}
theorem run_bq_str {op : BinOp} {s : Sem Value} (hop : ∀ w : World, (binOp op T (.string a) (.string b)).run P w = s.run P w) : (bq op T xo yo (.string a) (.string b)).run P w = s.run P w := by
  cases op <;> exact hop w
theorem run_seql : (bq .eql T xo yo (.string a) (.string b)).run P w = .ok (.bool (decide (a = b))) w := run_bq_str (s := .pure _) fun w => by simp only [binOp, Op.stringOp, toList_beq]; rfl
theorem run_sneq : (bq .neq T xo yo (.string a) (.string b)).run P w = .ok (.bool (!decide (a = b))) w := run_bq_str (s := .pure _) fun w => by simp only [binOp, Op.stringOp, toList_beq]; rfl
theorem run_slss : (bq .lss T xo yo (.string a) (.string b)).run P w = .ok (.bool (sLt a b)) w := run_bq_str (s := .pure _) fun _ => rfl
theorem run_sadd (h : a.size + b.size < 9223372036854775808) : (bq .add T xo yo (.string a) (.string b)).run P w = .ok (.string (a ++ b)) w := run_bq_str (s := .pure _) fun w => by
  have : ¬ (((a.size + b.size : Nat) : Int) > IntKind.i64.max) := by
    have : IntKind.i64.max = 9223372036854775807 := by decide
    rw [this]; omega
  simp only [binOp, Op.stringOp, this, if_false]; rfl
@[simp] theorem bq_seql : qG P (bq .eql T xo yo (.string a) (.string b)) w K = K (.bool (decide (a = b))) := qG_of run_seql
@[simp] theorem bq_sneq : qG P (bq .neq T xo yo (.string a) (.string b)) w K = K (.bool (!decide (a = b))) := qG_of run_sneq
@[simp] theorem bq_slss : qG P (bq .lss T xo yo (.string a) (.string b)) w K = K (.bool (sLt a b)) := qG_of run_slss
theorem bq_sadd (h : a.size + b.size < 9223372036854775808) : qG P (bq .add T xo yo (.string a) (.string b)) w K = K (.string (a ++ b)) := qG_of (run_sadd h)
@[simp] theorem stb_seql : stb P (bq .eql T xo yo (.string a) (.string b)) u w = (.bool (decide (a = b)) = u) := stb_of run_seql
@[simp] theorem stb_sneq : stb P (bq .neq T xo yo (.string a) (.string b)) u w = (.bool (!decide (a = b)) = u) := stb_of run_sneq
end
def isPtr (P : Program) (T : TypeId) : Bool := match P.underlying T with | some (.pointer _) => true | _ => false
def isBoolT (P : Program) (T : TypeId) : Bool := match P.underlying T with | some .bool => true | _ => false
def isSl (P : Program) (T : TypeId) : Bool := match P.underlying T with | some (.slice _) => true | _ => false
theorem run_equal1 {T : TypeId} {x y : Value} {w : World} {b : Bool} (h : (Op.equal T x y).run P w = .ok b w) (hx : ∀ c d, ¬ (x = .agg c ∧ y = .agg d)) (hn : ¬ (x = .nilIface ∧ y = .nilIface)) (xo yo : Operand)
    (he : binOp .eql T x y = (do pure (.bool (← Op.equal T x y)))) (hne : binOp .neq T x y = (do pure (.bool (!(← Op.equal T x y))))) :
    (bq .eql T xo yo x y).run P w = .ok (.bool b) w ∧ (bq .neq T xo yo x y).run P w = .ok (.bool !b) w := by
  have hg : ∀ op, op = .eql ∨ op = .neq → (eqGuard op T xo yo x y).run P w = .ok () w := by
    rintro op (rfl | rfl)
    all_goals
      unfold eqGuard
      simp only [Bool.not_true, Bool.false_eq_true, if_false]
      split
      · exact absurd ⟨rfl, rfl⟩ hn
      · exact absurd ⟨rfl, rfl⟩ (hx _ _)
      · rfl
  constructor
  · unfold bq; rw [Sem.run_bind, hg _ (.inl rfl)]; simp only [Result.andThen_ok, he, Sem.run_bind, h]; rfl
  · unfold bq; rw [Sem.run_bind, hg _ (.inr rfl)]; simp only [Result.andThen_ok, hne, Sem.run_bind, h]; rfl
section
variable {T : TypeId} {xo yo : Operand} {w : World} {K : Value → Prop} {u : Value}
theorem run_pnil (a : Option Addr) (hT : isPtr P T = true) : (bq .eql T xo yo (.pointer a) (.pointer none)).run P w = .ok (.bool a.isNone) w ∧ (bq .neq T xo yo (.pointer a) (.pointer none)).run P w = .ok (.bool !a.isNone) w := by
  unfold isPtr at hT
  split at hT
  · rename_i e hu
    refine run_equal1 ?_ (fun _ _ h => by cases h.1) (fun h => by cases h.1) xo yo (by cases a <;> rfl) (by cases a <;> rfl)
    unfold Op.equal Op.maxDepth Op.equalIn
    simp only [Sem.run_bind, run_underlying hu, Result.andThen_ok]
    cases a <;> rfl
  · cases hT
@[simp] theorem bq_peql (a : Option Addr) (hT : isPtr P T = true) : qG P (bq .eql T xo yo (.pointer a) (.pointer none)) w K = K (.bool a.isNone) := qG_of (run_pnil a hT).1
@[simp] theorem bq_pneq (a : Option Addr) (hT : isPtr P T = true) : qG P (bq .neq T xo yo (.pointer a) (.pointer none)) w K = K (.bool !a.isNone) := qG_of (run_pnil a hT).2
@[simp] theorem stb_peql (a : Option Addr) (hT : isPtr P T = true) : stb P (bq .eql T xo yo (.pointer a) (.pointer none)) u w = (.bool a.isNone = u) := stb_of (run_pnil a hT).1
@[simp] theorem stb_pneq (a : Option Addr) (hT : isPtr P T = true) : stb P (bq .neq T xo yo (.pointer a) (.pointer none)) u w = (.bool (!a.isNone) = u) := stb_of (run_pnil a hT).2
theorem run_bools (a b : Bool) (hT : isBoolT P T = true) : (bq .eql T xo yo (.bool a) (.bool b)).run P w = .ok (.bool (a == b)) w ∧ (bq .neq T xo yo (.bool a) (.bool b)).run P w = .ok (.bool !(a == b)) w := by
  unfold isBoolT at hT
  split at hT
  · rename_i hu
    refine run_equal1 ?_ (fun _ _ h => by cases h.1) (fun h => by cases h.1) xo yo rfl rfl
    unfold Op.equal Op.maxDepth Op.equalIn
    simp only [Sem.run_bind, run_underlying hu, Result.andThen_ok]
    rfl
  · cases hT
@[simp] theorem bq_beql (a b : Bool) (hT : isBoolT P T = true) : qG P (bq .eql T xo yo (.bool a) (.bool b)) w K = K (.bool (a == b)) := qG_of (run_bools a b hT).1
@[simp] theorem bq_bneq (a b : Bool) (hT : isBoolT P T = true) : qG P (bq .neq T xo yo (.bool a) (.bool b)) w K = K (.bool !(a == b)) := qG_of (run_bools a b hT).2
@[simp] theorem stb_beql (a b : Bool) (hT : isBoolT P T = true) : stb P (bq .eql T xo yo (.bool a) (.bool b)) u w = (.bool (a == b) = u) := stb_of (run_bools a b hT).1
@[simp] theorem stb_bneq (a b : Bool) (hT : isBoolT P T = true) : stb P (bq .neq T xo yo (.bool a) (.bool b)) u w = (.bool (!(a == b)) = u) := stb_of (run_bools a b hT).2
theorem run_slnil (a : Option Addr) (n c n' c' : Nat) (hT : isSl P T = true) : (bq .eql T xo yo (.slice a n c) (.slice none n' c')).run P w = .ok (.bool a.isNone) w ∧ (bq .neq T xo yo (.slice a n c) (.slice none n' c')).run P w = .ok (.bool !a.isNone) w := by
  unfold isSl at hT
  split at hT
  · rename_i e hu
    refine run_equal1 ?_ (fun _ _ h => by cases h.1) (fun h => by cases h.1) xo yo (by cases a <;> rfl) (by cases a <;> rfl)
    unfold Op.equal Op.maxDepth Op.equalIn
    simp only [Sem.run_bind, run_underlying hu, Result.andThen_ok]
    cases a <;> rfl
  · cases hT
@[simp] theorem bq_sleql (a : Option Addr) (n c n' c' : Nat) (hT : isSl P T = true) : qG P (bq .eql T xo yo (.slice a n c) (.slice none n' c')) w K = K (.bool a.isNone) := qG_of (run_slnil a n c n' c' hT).1
@[simp] theorem bq_slneq (a : Option Addr) (n c n' c' : Nat) (hT : isSl P T = true) : qG P (bq .neq T xo yo (.slice a n c) (.slice none n' c')) w K = K (.bool !a.isNone) := qG_of (run_slnil a n c n' c' hT).2
end

/-! ### the forms, their operands known -/
@[simp] theorem pk_b {t : Bool} {a b : Value} {K : Value → Prop} : pk (.bool t) a b K = K (bif t then a else b) := rfl
@[simp] theorem nk_p {a : Addr} {K : Value → Prop} : nk (.pointer (some a)) K = K (.pointer (some a)) := rfl
@[simp] theorem bV_b {t : Bool} {T F : Prop} : bV (.bool t) T F = ((t = true → T) ∧ (t = false → F)) := by cases t <;> simp [bV]
@[simp] theorem ld1_p {a : Addr} {w : World} {K : Value → Prop} : ld1 (.pointer (some a)) w K = rd1 w a K := rfl
@[simp] theorem ldn_p {n : Nat} {a : Addr} {w : World} {K : Value → Prop} : ldn n (.pointer (some a)) w K = rdN w a n fun cs => K (.agg cs) := rfl
@[simp] theorem st1_p {a : Addr} {v : Value} {w : World} {K : World → Prop} : st1 (.pointer (some a)) v w K = (one v = true ∧ wr1 w a v K) := rfl
@[simp] theorem stn_p {n : Nat} {a : Addr} {cs : Array Value} {w : World} {K : World → Prop} : stn n (.pointer (some a)) (.agg cs) w K = (cs.size = n ∧ wrN w a cs K) := rfl
@[simp] theorem add_mk {b o n : Nat} : (⟨b, o, none⟩ : Addr).add n = ⟨b, o + n, none⟩ := add_none rfl n
@[simp] theorem fa_p {off b o : Nat} {K : Value → Prop} : fa off (.pointer (some ⟨b, o, none⟩)) K = K (.pointer (some ⟨b, o + off, none⟩)) := by unfold fa; simp
@[simp] theorem ia_p {n b o len cap : Nat} {k : IntKind} {j : Int} {K : Value → Prop} : ia n (.slice (some ⟨b, o, none⟩) len cap) (.int k j) K = ((0 ≤ j ∧ j < len) ∧ K (.pointer (some ⟨b, o + j.toNat * n, none⟩))) := by unfold ia; simp
@[simp] theorem iaA_p {len n b o : Nat} {k : IntKind} {j : Int} {K : Value → Prop} : iaA len n (.pointer (some ⟨b, o, none⟩)) (.int k j) K = ((0 ≤ j ∧ j < len) ∧ K (.pointer (some ⟨b, o + j.toNat * n, none⟩))) := by unfold iaA; simp
@[simp] theorem slL_p {n len cap : Nat} {a : Option Addr} {lo hi : Option Value} {K : Value → Prop} : slL n (.slice a len cap) lo hi K = bnd hi len cap fun h => bnd lo 0 h fun l => K (.slice (if cap = l then a else a.map (·.add (l * n))) (h - l) (cap - l)) := rfl
@[simp] theorem slA_p {len n b o : Nat} {lo hi : Option Value} {K : Value → Prop} : slA len n (.pointer (some ⟨b, o, none⟩)) lo hi K = bnd hi len len fun h => bnd lo 0 h fun l => K (.slice (some ⟨b, (if len = l then o else o + l * n), none⟩) (h - l) (len - l)) := by
  unfold slA
  have : ∀ l, (if len = l then (⟨b, o, none⟩ : Addr) else (⟨b, o, none⟩ : Addr).add (l * n)) = ⟨b, (if len = l then o else o + l * n), none⟩ := by intro l; split <;> simp
  simp only [this]
@[simp] theorem slS_p {s : ByteArray} {lo hi : Option Value} {K : Value → Prop} : slS (.string s) lo hi K = bnd hi s.size s.size fun h => bnd lo 0 h fun l => K (.string (s.extract l h)) := rfl
@[simp] theorem bnd_none {d y : Nat} {K : Nat → Prop} : bnd none d y K = K d := rfl
@[simp] theorem bnd_some {k : IntKind} {i : Int} {d y : Nat} {K : Nat → Prop} : bnd (some (.int k i)) d y K = ((0 ≤ i ∧ i ≤ y) ∧ K i.toNat) := rfl
@[simp] theorem lenS_s {s : ByteArray} {K : Value → Prop} : lenS (.string s) K = K (.int .i64 s.size) := rfl
@[simp] theorem lenL_s {a : Option Addr} {n c : Nat} {K : Value → Prop} : lenL (.slice a n c) K = K (.int .i64 n) := rfl
@[simp] theorem cvI_i {kd k : IntKind} {n : Int} {K : Value → Prop} : cvI kd (.int k n) K = K (.int kd (kd.wrap n)) := rfl
@[simp] theorem cvSS_s {s : ByteArray} {K : Value → Prop} : cvSS (.string s) K = K (.string s) := rfl
@[simp] theorem fld_a {agg : Bool} {off n : Nat} {cs : Array Value} {K : Value → Prop} : fld agg off n (.agg cs) K = partG agg off n cs K := rfl
@[simp] theorem part_t {off n : Nat} {cs : Array Value} {K : Value → Prop} : partG true off n cs K = K (.agg (cs.extract off (off + n))) := rfl
@[simp] theorem part_f {off n : Nat} {cs : Array Value} {K : Value → Prop} : partG false off n cs K = match cs[off]? with | some v => K v | none => False := rfl
@[simp] theorem newG_k {c : Array Value} {T : TypeId} {w : World} {K : Value → World → Prop} : newG c T w K = K (.pointer (some ⟨w.heap.size, 0, none⟩)) (w.alloc (.cells c T)) := rfl
@[simp] theorem rd1_mk {w : World} {b o : Nat} {K : Value → Prop} : rd1 w ⟨b, o, none⟩ K = match w.heap[b]? with | some (.cells c _ _) => (match c[o]? with | some v => K v | none => False) | _ => False := by
  unfold rd1
  cases h : w.heap[b]? with
  | none => rfl
  | some x => cases x <;> first | rfl | (simp only [true_and]; rfl)
@[simp] theorem rdN_mk {w : World} {b o n : Nat} {K : Array Value → Prop} : rdN w ⟨b, o, none⟩ n K = match w.heap[b]? with | some (.cells c _ _) => o + n ≤ c.size ∧ K (c.extract o (o + n)) | _ => False := by
  unfold rdN; split <;> simp_all
@[simp] theorem wr1_mk {w : World} {b o : Nat} {v : Value} {K : World → Prop} : wr1 w ⟨b, o, none⟩ v K = match w.heap[b]? with | some (.cells c T fr) => (o < c.size ∧ okFr fr o 1) ∧ K (setBlk w b (.cells (c.setIfInBounds o v) T fr)) | _ => False := by
  unfold wr1; split <;> simp_all
@[simp] theorem wrN_mk {w : World} {b o : Nat} {vs : Array Value} {K : World → Prop} : wrN w ⟨b, o, none⟩ vs K = match w.heap[b]? with | some (.cells c T fr) => (o + vs.size ≤ c.size ∧ okFr fr o vs.size ∧ vs.all one = true) ∧ K (setBlk w b (.cells (splice c o vs) T fr)) | _ => False := by
  unfold wrN; split <;> simp_all
@[simp] theorem okFr0 {o n : Nat} : okFr (0, 0) o n = True := by simp [okFr]
@[simp] theorem one_int {k : IntKind} {n : Int} : one (.int k n) = true := rfl
@[simp] theorem one_bool {b : Bool} : one (.bool b) = true := rfl
@[simp] theorem one_str {s : ByteArray} : one (.string s) = true := rfl
@[simp] theorem one_ptr {a : Option Addr} : one (.pointer a) = true := rfl
@[simp] theorem one_sl {a : Option Addr} {n c : Nat} : one (.slice a n c) = true := rfl

/-! ### worlds -/
@[simp] theorem heap_drew {w : World} : w.drew.heap = w.heap := rfl
@[simp] theorem size_setBlk {w : World} {b : Nat} {o : Obj} : (setBlk w b o).heap.size = w.heap.size := by simp [setBlk]
theorem heap_setBlk {w : World} {b b' : Nat} {o : Obj} : (setBlk w b o).heap[b']? = if b = b' then (if b < w.heap.size then some o else none) else w.heap[b']? := by
  simp only [setBlk, Array.getElem?_setIfInBounds]
/-- there is such a block -/
def Live (w : World) (b : Nat) : Prop := b < w.heap.size
theorem live_of {w : World} {b : Nat} {o : Obj} (h : w.heap[b]? = some o) : Live w b := (Array.getElem?_eq_some_iff.1 h).1
theorem heap_self {w : World} {b : Nat} {o : Obj} (h : Live w b) : (setBlk w b o).heap[b]? = some o := by
  unfold Live at h; rw [heap_setBlk, if_pos rfl, if_pos h]
theorem heap_ne {w : World} {b b' : Nat} {o : Obj} (h : ¬ b = b') : (setBlk w b o).heap[b']? = w.heap[b']? := by
  rw [heap_setBlk, if_neg h]
@[simp] theorem live_setBlk {w : World} {b b' : Nat} {o : Obj} : Live (setBlk w b o) b' = Live w b' := by simp [Live]
@[simp] theorem live_drew {w : World} {b : Nat} : Live w.drew b = Live w b := rfl
theorem live_alloc {w : World} {b : Nat} {o : Obj} (h : Live w b) : Live (w.alloc o) b := by unfold Live at *; simp; omega
theorem heap_new {w : World} {o : Obj} : (w.alloc o).heap[w.heap.size]? = some o := by
  show (w.heap.push o)[w.heap.size]? = _
  simp
theorem heap_old {w : World} {b : Nat} {o : Obj} (h : Live w b) : (w.alloc o).heap[b]? = w.heap[b]? := by
  show (w.heap.push o)[b]? = _
  rw [Array.getElem?_push, if_neg (by unfold Live at h; omega)]
@[simp] theorem setBlk_new {w : World} {o o' : Obj} : Q.setBlk (w.alloc o) w.heap.size o' = w.alloc o' := by
  unfold Q.setBlk World.alloc
  simp only [World.mk.injEq, and_true]
  apply Array.ext_getElem?
  intro j
  rw [Array.getElem?_setIfInBounds, Array.getElem?_push, Array.getElem?_push]
  by_cases hj : w.heap.size = j
  · subst hj; simp
  · have : ¬ j = w.heap.size := fun h => hj h.symm
    simp [hj, this]
theorem heap_alloc {w : World} {b' : Nat} {o : Obj} : (w.alloc o).heap[b']? = if b' = w.heap.size then some o else w.heap[b']? := by
  show (w.heap.push o)[b']? = _
  rw [Array.getElem?_push]
@[simp] theorem setBlk2 {w : World} {b : Nat} {o o' : Obj} : setBlk (setBlk w b o) b o' = setBlk w b o' := setBlk_setBlk w b o o'
@[simp] theorem setBlk_drew {w : World} {b : Nat} {o : Obj} : setBlk w.drew b o = (setBlk w b o).drew := rfl
@[simp] theorem alloc_drew' {w : World} {o : Obj} : w.drew.alloc o = (w.alloc o).drew := rfl
theorem lt_of_blk {w : World} {b : Nat} {o : Obj} (h : w.heap[b]? = some o) : b < w.heap.size := (Array.getElem?_eq_some_iff.1 h).1
theorem ne_of_lt_size {w : World} {b : Nat} (h : b < w.heap.size) : b ≠ w.heap.size := Nat.ne_of_lt h

/-- outside the blocks 'S' what there was is as it was -/
structure Kp (S : List Nat) (w w' : World) : Prop where
  os : w'.os = w.os
  tape : w'.tape = w.tape
  output : w'.output = w.output
  size : w.heap.size ≤ w'.heap.size
  keep : ∀ b, b < w.heap.size → b ∉ S → w'.heap[b]? = w.heap[b]?
theorem Kp.refl (S : List Nat) (w : World) : Kp S w w := ⟨rfl, rfl, rfl, Nat.le_refl _, fun _ _ _ => rfl⟩
theorem Kp.trans {S S' : List Nat} {w w1 w2 : World} (h : Kp S w w1) (h' : Kp S' w1 w2) (hS : ∀ b, b ∈ S' → b < w.heap.size → b ∈ S) : Kp S w w2 :=
  ⟨h'.os.trans h.os, h'.tape.trans h.tape, h'.output.trans h.output, Nat.le_trans h.size h'.size, fun b hb hn => (h'.keep b (Nat.lt_of_lt_of_le hb h.size) (fun hm => hn (hS b hm hb))).trans (h.keep b hb hn)⟩
theorem Kp.trans' {S : List Nat} {w w1 w2 : World} (h : Kp S w w1) (h' : Kp S w1 w2) : Kp S w w2 := h.trans h' fun _ h _ => h
theorem Kp.mono {S S' : List Nat} {w w' : World} (h : Kp S w w') (hS : ∀ b, b ∈ S → b < w.heap.size → b ∈ S') : Kp S' w w' := (Kp.refl S' w).trans h hS
theorem Kp.drew {S : List Nat} {w w' : World} (h : Kp S w w') : Kp S w w'.drew := ⟨h.os, h.tape, h.output, h.size, h.keep⟩
theorem Kp.alloc {S : List Nat} {w w' : World} (h : Kp S w w') (o : Obj) : Kp S w (w'.alloc o) :=
  ⟨h.os, h.tape, h.output, by simp; have := h.size; omega, fun b hb hn => by
    rw [heap_alloc, if_neg (by have := h.size; omega)]; exact h.keep b hb hn⟩
theorem Kp.setBlk {S : List Nat} {w w' : World} (h : Kp S w w') {b : Nat} (hb : b ∈ S ∨ w.heap.size ≤ b) (o : Obj) : Kp S w (setBlk w' b o) :=
  ⟨h.os, h.tape, h.output, by simpa using h.size, fun b' hb' hn => by
    rw [heap_setBlk, if_neg (by intro hh; subst hh; rcases hb with hb | hb; exact hn hb; omega)]; exact h.keep b' hb' hn⟩
theorem Kp.get {S : List Nat} {w w' : World} (h : Kp S w w') {b : Nat} {o : Obj} (hb : w.heap[b]? = some o) (hn : b ∉ S) : w'.heap[b]? = some o := by
  rw [h.keep b (lt_of_blk hb) hn]; exact hb
theorem Kp.below {w w' : World} (h : Kp [] w w') : Go.RowKit.Below w.heap.size w w' := ⟨h.os, h.tape, h.output, h.size, fun k hk => h.keep k hk (by simp)⟩

theorem callG.mono {f : FuncId} {args : Array Value} {w : World} {K K' : Value → World → Prop} (h : callG P f args w K) (hk : ∀ v w', K v w' → K' v w') : callG P f args w K' :=
  Calls.mono h fun _ _ ⟨v, he, hv⟩ => ⟨v, he, hk v _ hv⟩

/-! ### numbers that fit -/
theorem w64 {x : Int} (h0 : -9223372036854775808 ≤ x) (h1 : x < 9223372036854775808) : IntKind.i64.wrap x = x := wrap64 x h0 h1

/-! ### loops: what holds at a round's head, and how many rounds are left -/
theorem loop_inv {F : (List Value → World → Prop) → List Value → World → Prop} (I : Nat → List Value → World → Prop) (hF : ∀ m N xs w, I m xs w → (∀ m' xs' w', m' < m → I m' xs' w' → N xs' w') → F N xs w)
    {m : Nat} {xs : List Value} {w : World} (h : I m xs w) : ∃ k, loopV F k xs w := by
  have key : ∀ k m, m < k → ∀ xs w, I m xs w → loopV F k xs w := by
    intro k
    induction k with
    | zero => intro m hm; omega
    | succ k ih => intro m hm xs w h; exact hF m _ xs w h fun m' xs' w' hlt h' => ih m' (by omega) xs' w' h'
  exact ⟨m + 1, key (m + 1) m (by omega) xs w h⟩
end Go.Q

/- Rows of cells: a block that is a list of rows of one length; lists of bytes as cells. Plain. -/
set_option linter.unusedVariables false
set_option linter.unusedSimpArgs false
namespace Go.Q

theorem flat_len {α : Type} {k : Nat} : ∀ {F : List (List α)}, (∀ x ∈ F, x.length = k) → F.flatten.length = F.length * k := by
  intro F
  induction F with
  | nil => intro _; simp
  | cons x r ih =>
    intro h
    rw [List.flatten_cons, List.length_append, ih fun y hy => h y (by simp [hy]), h x (by simp), List.length_cons, Nat.succ_mul]; omega
theorem flat_drop {α : Type} {k : Nat} : ∀ {F : List (List α)} (i : Nat), (∀ x ∈ F, x.length = k) → F.flatten.drop (i * k) = (F.drop i).flatten := by
  intro F
  induction F with
  | nil => intro i _; simp
  | cons x r ih =>
    intro i h
    cases i with
    | zero => simp
    | succ i =>
      have hx := h x (by simp)
      rw [List.flatten_cons, List.drop_succ_cons, ← ih i fun y hy => h y (by simp [hy])]
      have e : (i + 1) * k = k + i * k := by rw [Nat.succ_mul]; omega
      rw [e, ← List.drop_drop, ← hx, List.drop_left]
theorem flat_take {α : Type} {k : Nat} : ∀ {F : List (List α)} (i : Nat), (∀ x ∈ F, x.length = k) → F.flatten.take (i * k) = (F.take i).flatten := by
  intro F
  induction F with
  | nil => intro i _; simp
  | cons x r ih =>
    intro i h
    cases i with
    | zero => simp
    | succ i =>
      have hx := h x (by simp)
      rw [List.flatten_cons, List.take_succ_cons, List.flatten_cons, ← ih i fun y hy => h y (by simp [hy])]
      rw [List.take_append, hx, Nat.succ_mul, List.take_of_length_le (by omega)]
      congr 2; omega
theorem flat_get {α : Type} {k : Nat} {F : List (List α)} {i : Nat} (h : ∀ x ∈ F, x.length = k) (hi : i < F.length) : (F.flatten.drop (i * k)).take k = F[i] := by
  rw [flat_drop i h, List.drop_eq_getElem_cons hi, List.flatten_cons]
  rw [List.take_append_of_le_length (by rw [h _ (List.getElem_mem hi)]; omega)]
  rw [List.take_of_length_le (by rw [h _ (List.getElem_mem hi)]; omega)]
theorem flat_splice {α : Type} {k : Nat} {F : List (List α)} {i : Nat} (h : ∀ x ∈ F, x.length = k) (hi : i < F.length) {pre : List α} (hp : pre.length ≤ k) :
    F.flatten.take (i * k) ++ pre ++ F.flatten.drop (i * k + pre.length) = (F.set i (pre ++ (F[i]).drop pre.length)).flatten := by
  have hF : F.drop i = F[i] :: F.drop (i + 1) := List.drop_eq_getElem_cons hi
  rw [flat_take i h, ← List.drop_drop, flat_drop i h, hF, List.flatten_cons]
  rw [List.drop_append_of_le_length (by rw [h _ (List.getElem_mem hi)]; omega)]
  rw [List.set_eq_take_append_cons_drop, if_pos hi, List.flatten_append, List.flatten_cons]
  simp
theorem flat_splice_many {α : Type} {k : Nat} {F G : List (List α)} {i : Nat} (h : ∀ x ∈ F, x.length = k) (hG : ∀ x ∈ G, x.length = k) (_hi : i + G.length ≤ F.length) :
    F.flatten.take (i * k) ++ G.flatten ++ F.flatten.drop (i * k + G.flatten.length) = (F.take i ++ G ++ F.drop (i + G.length)).flatten := by
  rw [flat_take i h, flat_len hG, ← Nat.add_mul, flat_drop _ h]
  simp
/-- bytes as cells -/
def u8c (l : List UInt8) : List Value := l.map fun c => .int .u8 c.toNat
@[simp] theorem u8c_len (l : List UInt8) : (u8c l).length = l.length := by simp [u8c]
theorem u8c_take (l : List UInt8) (n : Nat) : (u8c l).take n = u8c (l.take n) := by simp [u8c]
theorem u8c_drop (l : List UInt8) (n : Nat) : (u8c l).drop n = u8c (l.drop n) := by simp [u8c]
theorem u8c_append (l m : List UInt8) : u8c (l ++ m) = u8c l ++ u8c m := by simp [u8c]
theorem u8_back (c : UInt8) : UInt8.ofNat (c.toNat : Int).toNat = c := by simp
theorem bytesOf_u8c (l : List UInt8) : bytesOf (u8c l) = some l := by
  induction l with
  | nil => rfl
  | cons c r ih =>
    show (bytesOf (u8c r)).map _ = _
    rw [ih]
    simp
theorem one_u8c (l : List UInt8) : (u8c l).toArray.all one = true := by
  rw [List.all_toArray, List.all_eq_true]
  intro v hv
  unfold u8c at hv
  rw [List.mem_map] at hv
  obtain ⟨c, _, rfl⟩ := hv
  rfl
theorem u8s_eq (s : ByteArray) : u8s s = (u8c s.data.toList).toArray := by
  unfold u8s u8c
  apply Array.toList_inj.1
  simp
theorem rep_replicate (v : Value) (k n : Nat) (hk : 0 < k) : rep (Array.replicate k v) n = Array.replicate n v := by
  apply Array.ext
  · simp [rep]
  · intro i h1 h2
    simp only [rep, Array.getElem_map, Array.getElem_range, Array.size_replicate, Array.getElem_replicate]
    have : i % k < k := Nat.mod_lt _ hk
    simp [this]
theorem splice_list (c : List Value) (o : Nat) (vs : List Value) : splice c.toArray o vs.toArray = (c.take o ++ vs ++ c.drop (o + vs.length)).toArray := by
  simp [splice]
theorem extract_list {α : Type} (c : List α) (o n : Nat) : (c.toArray).extract o (o + n) = ((c.drop o).take n).toArray := by
  simp
/-- a string of a list of bytes -/
def str (l : List UInt8) : ByteArray := ⟨l.toArray⟩
@[simp] theorem str_data (l : List UInt8) : (str l).data.toList = l := rfl
@[simp] theorem str_size (l : List UInt8) : (str l).size = l.length := by simp [str, ByteArray.size]
theorem str_of (s : ByteArray) : str s.data.toList = s := by cases s; simp [str]
theorem str_inj {l m : List UInt8} : str l = str m ↔ l = m := by
  constructor
  · intro h; have := congrArg (fun s : ByteArray => s.data.toList) h; simpa using this
  · intro h; rw [h]

@[simp] theorem str_eq (l m : List UInt8) : (str l = str m) = (l = m) := propext str_inj
@[simp] theorem str_append (l m : List UInt8) : str l ++ str m = str (l ++ m) := by
  have : (str l ++ str m).data.toList = l ++ m := by simp [str, ByteArray.data_append]
  rw [← str_of (str l ++ str m), this]
theorem str_extract (l : List UInt8) (i j : Nat) : (str l).extract i j = str ((l.take j).drop i) := by
  have : ((str l).extract i j).data.toList = (l.take j).drop i := by
    simp [str, ByteArray.data_extract, List.drop_take]
  rw [← str_of ((str l).extract i j), this]
end Go.Q

/- Slices whose elements are rows of cells: owned ones (which start at their block's head), appended to; and ones that are only read. -/
set_option linter.unusedVariables false
set_option linter.unusedSimpArgs false
namespace Go.Q

/-- a slice that owns its block -/
def RowsAt (w : World) (v : Value) (k : Nat) (rows : List (List Value)) (S : List Nat) : Prop :=
  (v = .slice none 0 0 ∧ rows = [] ∧ S = []) ∨
  ∃ (bl : Nat) (F : List (List Value)) (T : Nat), v = .slice (some ⟨bl, 0, none⟩) rows.length F.length ∧ S = [bl] ∧ w.heap[bl]? = some (.cells F.flatten.toArray T (0, 0)) ∧ (∀ x ∈ F, x.length = k) ∧ F.take rows.length = rows ∧ rows.length ≤ F.length

theorem RowsAt.keep {w w' : World} {v : Value} {k : Nat} {rows : List (List Value)} {S S' : List Nat} (h : RowsAt w v k rows S) (hk : Kp S' w w') (hd : ∀ x ∈ S, x ∉ S') : RowsAt w' v k rows S := by
  rcases h with h | ⟨bl, F, T, h1, h2, h3, h4, h5, h6⟩
  · exact .inl h
  · subst h2
    exact .inr ⟨bl, F, T, h1, rfl, hk.get h3 (hd bl (by simp)), h4, h5, h6⟩
theorem RowsAt.len {w : World} {v : Value} {k : Nat} {rows : List (List Value)} {S : List Nat} (h : RowsAt w v k rows S) : ∃ a c, v = .slice a rows.length c ∧ rows.length ≤ c := by
  rcases h with ⟨h1, h2, h3⟩ | ⟨bl, F, T, h1, h2, h3, h4, h5, h6⟩
  · exact ⟨none, 0, by rw [h1, h2]; rfl, by simp [h2]⟩
  · exact ⟨_, _, h1, h6⟩
theorem RowsAt.row {w : World} {v : Value} {k : Nat} {rows : List (List Value)} {S : List Nat} (h : RowsAt w v k rows S) {x : List Value} (hx : x ∈ rows) : x.length = k := by
  rcases h with ⟨h1, h2, h3⟩ | ⟨bl, F, T, h1, h2, h3, h4, h5, h6⟩
  · rw [h2] at hx; cases hx
  · rw [← h5] at hx; exact h4 x (List.mem_of_mem_take hx)
theorem RowsAt.nodup {w : World} {v : Value} {k : Nat} {rows : List (List Value)} {S : List Nat} (h : RowsAt w v k rows S) : S.Nodup := by
  rcases h with ⟨h1, h2, h3⟩ | ⟨bl, F, T, h1, h2, h3⟩
  · rw [h3]; simp
  · rw [h2]; simp
theorem RowsAt.lt {w : World} {v : Value} {k : Nat} {rows : List (List Value)} {S : List Nat} (h : RowsAt w v k rows S) : ∀ x ∈ S, x < w.heap.size := by
  rcases h with ⟨h1, h2, h3⟩ | ⟨bl, F, T, h1, h2, h3, h4⟩
  · rw [h3]; simp
  · rw [h2]; simp; exact live_of h3

theorem next_le {need old : Nat} (h : old < need) : Builtin.nextslicecap need old ≤ 2 * need := nextslicecap_le h

/-- rows are appended -/
theorem rows_app {e k bytes : Nat} {z : List Value} {v x : Value} {w : World} {rows G : List (List Value)} {S : List Nat} (h : RowsAt w v k rows S) (hk : 0 < k) (hz : z.length = k)
    (hG : ∀ y ∈ G, y.length = k) (hone : G.flatten.all one = true) (hsrc : ∀ K' : Nat → Array Value → Prop, K' G.length G.flatten.toArray → srcA k x w K')
    (hb : 2 * (rows.length + G.length) * bytes ≤ 2 ^ 48) (hb2 : rows.length + G.length < 2 ^ 62) {K : Value → World → Prop}
    (hK : ∀ v' w' S', RowsAt w' v' k (rows ++ G) S' → Kp S w w' → (∀ y ∈ S', y ∈ S ∨ w.heap.size ≤ y) → K v' w') : app e k bytes z.toArray v x w K := by
  have grow : ∀ (old : Array Value) (cap : Nat) , old = rows.flatten.toArray → (∀ y ∈ rows, y.length = k) → rows.length + G.length ≤ cap →
      K (.slice (some ⟨w.heap.size, 0, none⟩) (rows.length + G.length) cap) (w.drew.alloc (.cells (old ++ G.flatten.toArray ++ rep z.toArray ((cap - (rows.length + G.length)) * k)) e)) := by
    intro old cap hold hr hc
    have hF : (old ++ G.flatten.toArray ++ rep z.toArray ((cap - (rows.length + G.length)) * k)) = (rows ++ G ++ List.replicate (cap - (rows.length + G.length)) z).flatten.toArray := by
      rw [hold]
      have : rep z.toArray ((cap - (rows.length + G.length)) * k) = (List.replicate (cap - (rows.length + G.length)) z).flatten.toArray := by
        apply Array.ext
        · simp [rep, hz]
        · intro i h1 h2
          have hi : i < (cap - (rows.length + G.length)) * k := by simpa [rep] using h1
          simp only [rep, Array.getElem_map, Array.getElem_range, List.size_toArray, hz]
          have hm : i % k < k := Nat.mod_lt _ hk
          have hd : i / k < cap - (rows.length + G.length) := (Nat.div_lt_iff_lt_mul hk).2 hi
          have hfl : ((List.replicate (cap - (rows.length + G.length)) z).flatten.drop ((i / k) * k)).take k = z := by
            rw [flat_get (k := k) (by intro x hx; rw [List.mem_replicate] at hx; rw [hx.2, hz]) (by simpa using hd)]
            simp
          have hidx : i / k * k + i % k = i := by rw [Nat.mul_comm]; exact Nat.div_add_mod i k
          have e2 := congrArg (fun l => l[i % k]?) hfl
          simp only [List.getElem?_take_of_lt hm, List.getElem?_drop, hidx] at e2
          have h2' : i < (List.replicate (cap - (rows.length + G.length)) z).flatten.length := by simpa using h2
          rw [List.getElem?_eq_getElem h2', List.getElem?_eq_getElem (by omega)] at e2
          injection e2 with e2
          rw [List.getElem_toArray, e2]
          simp [hz, hm]
      rw [this]; simp
    refine hK _ _ [w.heap.size] (.inr ⟨w.heap.size, rows ++ G ++ List.replicate (cap - (rows.length + G.length)) z, e, ?_, rfl, ?_, ?_, ?_, ?_⟩) ((Kp.refl _ _).drew.alloc _) (by simp)
    · simp; omega
    · rw [← hF]; exact heap_new
    · intro y hy
      rw [List.mem_append, List.mem_append] at hy
      rcases hy with (hy | hy) | hy
      · exact hr y hy
      · exact hG y hy
      · rw [List.mem_replicate] at hy; rw [hy.2, hz]
    · rw [List.take_left]
    · simp
  have hrow : ∀ y ∈ rows, y.length = k := fun y hy => h.row hy
  unfold app
  rcases h with ⟨h1, h2, h3⟩ | ⟨bl, F, T, h1, h2, h3, h4, h5, h6⟩
  · subst h1; subst h3
    rw [h2] at hb hb2 hK grow
    simp only [List.length_nil, Nat.zero_add] at hb hb2 grow ⊢
    refine hsrc _ ⟨fun hle => ?_, fun hlt => ⟨⟨?_, by omega⟩, fun cap hc _ => grow #[] cap rfl (by simp) hc⟩⟩
    · have hG0 : G = [] := List.length_eq_zero_iff.1 (by omega)
      rw [hG0]
      exact hK _ w [] (.inl ⟨rfl, by simp [hG0], rfl⟩) (Kp.refl _ _) (by simp)
    · have := next_le hlt
      calc _ ≤ (2 * G.length) * bytes := Nat.mul_le_mul_right _ this
        _ ≤ _ := hb
  · subst h1; subst h2
    refine hsrc _ ⟨fun hle => ?_, fun hlt => ⟨⟨?_, by omega⟩, ?_⟩⟩
    · simp only [wrO, add_mk, wrN_mk, h3, okFr0, true_and, Nat.zero_add, List.size_toArray]
      have hfl := flat_len h4
      have hgl := flat_len hG
      have hsp := flat_splice_many (i := rows.length) h4 hG (by omega)
      refine ⟨⟨?_, by simpa using hone⟩, ?_⟩
      · rw [hfl, hgl, ← Nat.add_mul]; exact Nat.mul_le_mul_right _ hle
      · have hF' : splice F.flatten.toArray (rows.length * k) G.flatten.toArray = (F.take rows.length ++ G ++ F.drop (rows.length + G.length)).flatten.toArray := by
          rw [splice_list, hsp]
        rw [hF']
        refine hK _ _ [bl] (.inr ⟨bl, F.take rows.length ++ G ++ F.drop (rows.length + G.length), T, ?_, rfl, heap_self (live_of h3), ?_, ?_, ?_⟩) ((Kp.refl _ _).setBlk (.inl (by simp)) _) (fun y hy => .inl hy)
        · have : (F.take rows.length ++ G ++ F.drop (rows.length + G.length)).length = F.length := by simp; omega
          rw [this]; simp
        · intro y hy
          rw [List.mem_append, List.mem_append] at hy
          rcases hy with (hy | hy) | hy
          · exact h4 y (List.mem_of_mem_take hy)
          · exact hG y hy
          · exact h4 y (List.mem_of_mem_drop hy)
        · rw [h5, List.take_left]
        · simp; omega
    · have := next_le hlt
      calc _ ≤ (2 * (rows.length + G.length)) * bytes := Nat.mul_le_mul_right _ this
        _ ≤ _ := hb
    · simp only [base, rdN_mk, h3, Nat.zero_add, List.size_toArray]
      have hfl := flat_len h4
      refine ⟨by rw [hfl]; exact Nat.mul_le_mul_right _ h6, fun cap hc _ => grow _ cap ?_ hrow hc⟩
      have := extract_list F.flatten 0 (rows.length * k)
      rw [Nat.zero_add] at this
      rw [this, List.drop_zero, flat_take _ h4, h5]

/-- a row is looked at -/
theorem RowsAt.at {w : World} {v : Value} {k : Nat} {rows : List (List Value)} {S : List Nat} (h : RowsAt w v k rows S) {i : Nat} (hi : i < rows.length) :
    ∃ bl T c, bl ∈ S ∧ w.heap[bl]? = some (.cells c T (0, 0)) ∧ (∀ kd K, ia k v (.int kd i) K = K (.pointer (some ⟨bl, i * k, none⟩))) ∧ i * k + k ≤ c.size ∧ c.extract (i * k) (i * k + k) = rows[i].toArray ∧
      ∀ j, j < k → c[i * k + j]? = rows[i][j]? := by
  rcases h with ⟨h1, h2, h3⟩ | ⟨bl, F, T, h1, h2, h3, h4, h5, h6⟩
  · rw [h2] at hi; cases hi
  · have hiF : i < F.length := by omega
    have hrow : F[i] = rows[i] := by
      have e : rows[i]? = F[i]? := by rw [← h5, List.getElem?_take_of_lt (by omega)]
      rw [List.getElem?_eq_getElem hi, List.getElem?_eq_getElem hiF] at e
      injection e with e
      exact e.symm
    have hfl := flat_len h4
    have hget := flat_get h4 hiF
    have hle : i * k + k ≤ F.flatten.length := by rw [hfl, ← Nat.succ_mul]; exact Nat.mul_le_mul_right _ hiF
    refine ⟨bl, T, F.flatten.toArray, by rw [h2]; simp, h3, ?_, by simpa [-List.length_flatten] using hle, ?_, ?_⟩
    · intro kd K
      have hlt : (i : Int) < rows.length := by omega
      rw [h1]; simp only [ia_p, Nat.zero_add, Int.toNat_natCast]
      have : (0 ≤ (i : Int) ∧ (i : Int) < rows.length) = True := by simp; omega
      rw [this, true_and]
    · rw [extract_list, hget, hrow]
    · intro j hj
      rw [List.getElem?_toArray, ← List.getElem?_drop, ← hrow, ← hget, List.getElem?_take_of_lt hj]

/-! ### structs and literals of slices, laid part by part -/
theorem fold_set (off : Nat) : ∀ (l : List Value) (k : Nat) (c : Array Value), off + k + l.length ≤ c.size →
    (l.zipIdx k).foldl (fun cs p => cs.setIfInBounds (off + p.2) p.1) c = splice c (off + k) l.toArray := by
  intro l
  induction l with
  | nil => intro k c _; simp [splice]
  | cons v r ih =>
    intro k c h
    simp only [List.length_cons] at h
    rw [List.zipIdx_cons, List.foldl_cons]
    have := ih (k + 1) (c.setIfInBounds (off + k) v) (by simp; omega)
    simp only at this ⊢
    rw [this]
    unfold splice
    congr 1
    have e := list_seg_step c.toList (off + k) v r (by simp; omega)
    simpa [Array.toList_setIfInBounds, Nat.add_assoc] using e
theorem fill_step {place : Nat → Option (Nat × Nat)} {c : Array Value} {i off size : Nat} {v : Value} {rest : List (Nat × Value)} (hp : place i = some (off, size)) (hv : v.cells.size = size) (hc : off + size ≤ c.size) :
    Instr.fill place c ((i, v) :: rest) = Instr.fill place (splice c off v.cells) rest := by
  have h1 : v.cells.size = size := hv
  conv => lhs; unfold Instr.fill
  rw [hp]
  simp only [h1, ne_eq, not_true_eq_false, decide_false, Bool.false_or, decide_eq_true_eq]
  rw [if_neg (by omega)]
  congr 1
  have := fold_set off v.cells.toList 0 c (by simp; omega)
  simp only [Nat.add_zero, Array.toArray_toList] at this
  rw [← this]
  rw [← Array.foldl_toList, Array.toList_zipIdx]
theorem splice_size {c : Array Value} {o : Nat} {vs : Array Value} (h : o + vs.size ≤ c.size) : (splice c o vs).size = c.size := by
  unfold splice; simp; omega

/-- a slice of numbers that is only read -/
def IntsAt (w : World) (v : Value) (ks : List Int) (S : List Nat) : Prop :=
  ∃ a cap, v = .slice a ks.length cap ∧ (ks = [] ∨ ∃ bl o c T fr, a = some ⟨bl, o, none⟩ ∧ S = [bl] ∧ w.heap[bl]? = some (.cells c T fr) ∧ ∀ i, i < ks.length → c[o + i]? = some (.int .i64 (ks.getD i 0)))
theorem IntsAt.keep {w w' : World} {v : Value} {ks : List Int} {S S' : List Nat} (h : IntsAt w v ks S) (hk : Kp S' w w') (hd : ∀ x ∈ S, x ∉ S') : IntsAt w' v ks S := by
  obtain ⟨a, cap, h1, h2⟩ := h
  refine ⟨a, cap, h1, h2.imp id ?_⟩
  rintro ⟨bl, o, c, T, fr, g1, g2, g3, g4⟩
  subst g2
  exact ⟨bl, o, c, T, fr, g1, rfl, hk.get g3 (hd bl (by simp)), g4⟩
theorem IntsAt.at {w : World} {v : Value} {ks : List Int} {S : List Nat} (h : IntsAt w v ks S) {i : Nat} (hi : i < ks.length) :
    ∃ bl o c T fr, bl ∈ S ∧ w.heap[bl]? = some (.cells c T fr) ∧ (∀ kd K, ia 1 v (.int kd i) K = K (.pointer (some ⟨bl, o, none⟩))) ∧ c[o]? = some (.int .i64 (ks.getD i 0)) := by
  obtain ⟨a, cap, h1, h2⟩ := h
  rcases h2 with h2 | ⟨bl, o, c, T, fr, g1, g2, g3, g4⟩
  · rw [h2] at hi; cases hi
  · refine ⟨bl, o + i, c, T, fr, by rw [g2]; simp, g3, ?_, g4 i hi⟩
    intro kd K
    rw [h1, g1]
    have : (0 ≤ (i : Int) ∧ (i : Int) < ks.length) = True := by simp; omega
    simp only [ia_p, Int.toNat_natCast, Nat.mul_one, this, true_and]
theorem IntsAt.len {w : World} {v : Value} {ks : List Int} {S : List Nat} (h : IntsAt w v ks S) : ∃ a cap, v = .slice a ks.length cap := by
  obtain ⟨a, cap, h1, _⟩ := h
  exact ⟨a, cap, h1⟩

theorem rep_size (z : Array Value) (n : Nat) : (rep z n).size = n := by simp [rep]
theorem splice_all {c vs : Array Value} (h : c.size = vs.size) : splice c 0 vs = vs := by
  have : c.toList.drop vs.size = [] := List.drop_of_length_le (by simp [h])
  simp [splice, this]
/-- a literal of one scalar -/
theorem bsl_one {e : Nat} {z : Array Value} {v : Value} (hv : one v = true) {w : World} {k : Value → World → Prop} : bsl e 1 1 z #[(0, v)] w k = k (.slice (some ⟨w.heap.size, 0, none⟩) 1 1) (w.alloc (.cells #[v] e)) := by
  have hc := cells_one hv
  unfold bsl
  show (match Instr.fill (fun i => some (i * 1, 1)) (rep z (1 * 1)) [(0, v)] with | some cs => k (Value.slice (some ⟨w.heap.size, 0, none⟩) 1 1) (w.alloc (Obj.cells cs e)) | none => False) = _
  rw [fill_step (off := 0) (size := 1) rfl (by rw [hc]; rfl) (by rw [rep_size]; omega), hc, splice_all (by rw [rep_size]; rfl)]
  rfl
end Go.Q

/- Slices that are read: rows of cells from anywhere in a block; parts of them; what is appended from them. -/
set_option linter.unusedVariables false
set_option linter.unusedSimpArgs false
namespace Go.Q
/-- a slice that reads as these rows -/
def RdAt (w : World) (v : Value) (k : Nat) (rows : List (List Value)) (S : List Nat) : Prop :=
  (v = .slice none 0 0 ∧ rows = []) ∨
  ∃ (bl o cap : Nat) (c : Array Value) (T : TypeId) (fr : Nat × Nat), v = .slice (some ⟨bl, o, none⟩) rows.length cap ∧ S = [bl] ∧ w.heap[bl]? = some (.cells c T fr) ∧ (∀ x ∈ rows, x.length = k) ∧
    o + rows.length * k ≤ c.size ∧ (c.toList.drop o).take (rows.length * k) = rows.flatten ∧ rows.length ≤ cap
section
variable {w : World} {v : Value} {k : Nat} {rows : List (List Value)} {S : List Nat}
theorem RowsAt.rd (h : RowsAt w v k rows S) : RdAt w v k rows S := by
  rcases h with ⟨h1, h2, h3⟩ | ⟨bl, F, T, h1, h2, h3, h4, h5, h6⟩
  · exact .inl ⟨h1, h2⟩
  · refine .inr ⟨bl, 0, F.length, _, T, _, h1, h2, h3, ?_, ?_, ?_, h6⟩
    · intro x hx; rw [← h5] at hx; exact h4 x (List.mem_of_mem_take hx)
    · have := flat_len h4
      simp only [List.size_toArray, this, Nat.zero_add]
      exact Nat.mul_le_mul_right _ h6
    · rw [List.drop_zero, flat_take _ h4, h5]
theorem RdAt.keep {w' : World} {S' : List Nat} (h : RdAt w v k rows S) (hk : Kp S' w w') (hd : ∀ x ∈ S, x ∉ S') : RdAt w' v k rows S := by
  rcases h with h | ⟨bl, o, cap, c, T, fr, h1, h2, h3, h4⟩
  · exact .inl h
  · subst h2
    exact .inr ⟨bl, o, cap, c, T, fr, h1, rfl, hk.get h3 (hd bl (by simp)), h4⟩
theorem RdAt.len (h : RdAt w v k rows S) : ∃ a c, v = .slice a rows.length c ∧ rows.length ≤ c := by
  rcases h with ⟨h1, h2⟩ | ⟨bl, o, cap, c, T, fr, h1, h2, h3, h4, h5, h6, h7⟩
  · exact ⟨none, 0, by rw [h1, h2]; rfl, by simp [h2]⟩
  · exact ⟨_, _, h1, h7⟩
theorem RdAt.lenL (h : RdAt w v k rows S) {K : Value → Prop} : lenL v K = K (.int .i64 rows.length) := by
  obtain ⟨a, c, h1, _⟩ := h.len
  rw [h1]; rfl
theorem RdAt.row (h : RdAt w v k rows S) {x : List Value} (hx : x ∈ rows) : x.length = k := by
  rcases h with ⟨h1, h2⟩ | ⟨bl, o, cap, c, T, fr, h1, h2, h3, h4, _⟩
  · rw [h2] at hx; cases hx
  · exact h4 x hx
theorem extract_toList (c : Array Value) (o n : Nat) : c.extract o (o + n) = ((c.toList.drop o).take n).toArray := by
  apply Array.toList_inj.1
  simp [List.take_drop]
theorem RdAt.src (h : RdAt w v k rows S) (K' : Nat → Array Value → Prop) (hK : K' rows.length rows.flatten.toArray) : Q.srcA k v w K' := by
  rcases h with ⟨h1, h2⟩ | ⟨bl, o, cap, c, T, fr, h1, h2, h3, h4, h5, h6, h7⟩
  · subst h1; subst h2; exact hK
  · subst h1
    simp only [Q.srcA]
    split
    · rename_i h0
      have : rows.flatten = [] := by rw [← h6, h0]; simp
      rw [this] at hK
      exact hK
    · simp only [rdN_mk, h3]
      refine ⟨h5, ?_⟩
      rw [extract_toList, h6]; exact hK
theorem RdAt.take (h : RdAt w v k rows S) {p : Nat} (hp : p ≤ rows.length) {kd : IntKind} : ∃ v', RdAt w v' k (rows.take p) S ∧ ∀ K, slL k v none (some (.int kd p)) K = K v' := by
  rcases h with ⟨h1, h2⟩ | ⟨bl, o, cap, c, T, fr, h1, h2, h3, h4, h5, h6, h7⟩
  · subst h1; subst h2
    have : p = 0 := by simpa using hp
    subst this
    exact ⟨_, .inl ⟨rfl, by simp⟩, fun K => by simp⟩
  · subst h1
    have hl : (rows.take p).length = p := by simp; omega
    have hle : p * k ≤ rows.length * k := Nat.mul_le_mul_right _ hp
    refine ⟨.slice (some ⟨bl, o, none⟩) p cap, .inr ⟨bl, o, cap, c, T, fr, by rw [hl], h2, h3, fun x hx => h4 x (List.mem_of_mem_take hx), by rw [hl]; omega, ?_, by omega⟩, fun K => ?_⟩
    · rw [hl]
      have h8 : (c.toList.drop o).take (p * k) = ((c.toList.drop o).take (rows.length * k)).take (p * k) := by rw [List.take_take, Nat.min_eq_left hle]
      rw [h8, h6]
      exact flat_take p h4
    · have : (p : Int) ≤ cap := by omega
      simp [this]
theorem RdAt.drop (h : RdAt w v k rows S) {p : Nat} (hp : p ≤ rows.length) {kd : IntKind} : ∃ v', RdAt w v' k (rows.drop p) S ∧ ∀ K, slL k v (some (.int kd p)) none K = K v' := by
  rcases h with ⟨h1, h2⟩ | ⟨bl, o, cap, c, T, fr, h1, h2, h3, h4, h5, h6, h7⟩
  · subst h1; subst h2
    have : p = 0 := by simpa using hp
    subst this
    exact ⟨_, .inl ⟨rfl, by simp⟩, fun K => by simp⟩
  · subst h1
    have hl : (rows.drop p).length = rows.length - p := by simp
    have hsum : p * k + (rows.length - p) * k = rows.length * k := by rw [← Nat.add_mul]; congr 1; omega
    have hfl : rows.flatten.drop (p * k) = (rows.drop p).flatten := flat_drop p h4
    by_cases hc : cap = p
    · have hr : rows.length = p := by omega
      have hd : rows.drop p = [] := by rw [← hr]; simp
      refine ⟨.slice (some ⟨bl, o, none⟩) (rows.drop p).length (cap - p), .inr ⟨bl, o, cap - p, c, T, fr, rfl, h2, h3, by rw [hd]; simp, by rw [hd]; simp; omega, by rw [hd]; simp, by rw [hd]; simp⟩, fun K => ?_⟩
      have : (p : Int) ≤ rows.length := by omega
      simp [hc, this, hr]
    · refine ⟨.slice (some ⟨bl, o + p * k, none⟩) (rows.drop p).length (cap - p), .inr ⟨bl, o + p * k, cap - p, c, T, fr, rfl, h2, h3, fun x hx => h4 x (List.mem_of_mem_drop hx), by rw [hl]; omega, ?_, by rw [hl]; omega⟩, fun K => ?_⟩
      · rw [hl, ← hfl, ← h6, ← List.drop_drop, List.drop_take]
        congr 1
        omega
      · have : (p : Int) ≤ rows.length := by omega
        simp [hc, this, hp]
theorem RdAt.at (h : RdAt w v k rows S) {i : Nat} (hi : i < rows.length) :
    ∃ bl o T c fr, bl ∈ S ∧ w.heap[bl]? = some (.cells c T fr) ∧ (∀ kd K, ia k v (.int kd i) K = K (.pointer (some ⟨bl, o, none⟩))) ∧ o + k ≤ c.size ∧ c.extract o (o + k) = rows[i].toArray ∧
      ∀ j, j < k → c[o + j]? = rows[i][j]? := by
  rcases h with ⟨h1, h2⟩ | ⟨bl, o, cap, c, T, fr, h1, h2, h3, h4, h5, h6, h7⟩
  · subst h2; cases hi
  · subst h1
    have hle : i * k + k ≤ rows.length * k := by rw [← Nat.succ_mul]; exact Nat.mul_le_mul_right _ hi
    have hget := flat_get h4 hi
    have hrow : (c.toList.drop (o + i * k)).take k = rows[i] := by
      rw [← hget, ← h6, List.drop_take, List.take_take, List.drop_drop]
      congr 1
      omega
    refine ⟨bl, o + i * k, T, c, fr, by rw [h2]; simp, h3, ?_, by omega, by rw [extract_toList, hrow], ?_⟩
    · intro kd K
      simp only [ia_p, Int.toNat_natCast]
      have : (0 ≤ (i : Int) ∧ (i : Int) < rows.length) = True := by simp; omega
      rw [this, true_and]
    · intro j hj
      rw [← Array.getElem?_toList, ← List.getElem?_drop, ← hrow, List.getElem?_take_of_lt hj]
end
end Go.Q

/- Owned slices whose block's type is known; appended to. -/
set_option linter.unusedVariables false
set_option linter.unusedSimpArgs false
namespace Go.Q
/-- a slice that owns its block, of a type -/
def RowsT (w : World) (v : Value) (k : Nat) (e : TypeId) (rows : List (List Value)) (S : List Nat) : Prop :=
  (v = .slice none 0 0 ∧ rows = [] ∧ S = []) ∨
  ∃ (bl : Nat) (F : List (List Value)), v = .slice (some ⟨bl, 0, none⟩) rows.length F.length ∧ S = [bl] ∧ w.heap[bl]? = some (.cells F.flatten.toArray e (0, 0)) ∧ (∀ x ∈ F, x.length = k) ∧ F.take rows.length = rows ∧ rows.length ≤ F.length
theorem RowsT.at_ {w : World} {v : Value} {k : Nat} {e : TypeId} {rows : List (List Value)} {S : List Nat} (h : RowsT w v k e rows S) : RowsAt w v k rows S := by
  rcases h with h | ⟨bl, F, h⟩
  · exact .inl h
  · exact .inr ⟨bl, F, e, h⟩
theorem RowsT.row {w : World} {v : Value} {k : Nat} {e : TypeId} {rows : List (List Value)} {S : List Nat} (h : RowsT w v k e rows S) {x : List Value} (hx : x ∈ rows) : x.length = k := h.at_.row hx
theorem RowsT.keep {w w' : World} {v : Value} {k : Nat} {e : TypeId} {rows : List (List Value)} {S S' : List Nat} (h : RowsT w v k e rows S) (hk : Kp S' w w') (hd : ∀ x ∈ S, x ∉ S') : RowsT w' v k e rows S := by
  rcases h with h | ⟨bl, F, h1, h2, h3, h4⟩
  · exact .inl h
  · subst h2
    exact .inr ⟨bl, F, h1, rfl, hk.get h3 (hd bl (by simp)), h4⟩
/-- rows are appended -/
theorem rowsT_app {e k bytes : Nat} {z : List Value} {v x : Value} {w : World} {rows G : List (List Value)} {S : List Nat} (h : RowsT w v k e rows S) (hk : 0 < k) (hz : z.length = k)
    (hG : ∀ y ∈ G, y.length = k) (hone : G.flatten.all one = true) (hsrc : ∀ K' : Nat → Array Value → Prop, K' G.length G.flatten.toArray → srcA k x w K')
    (hb : 2 * (rows.length + G.length) * bytes ≤ 2 ^ 48) (hb2 : rows.length + G.length < 2 ^ 62) {K : Value → World → Prop}
    (hK : ∀ v' w' S', RowsT w' v' k e (rows ++ G) S' → Kp S w w' → (∀ y ∈ S', y ∈ S ∨ w.heap.size ≤ y) → K v' w') : app e k bytes z.toArray v x w K := by
  have grow : ∀ (old : Array Value) (cap : Nat) , old = rows.flatten.toArray → (∀ y ∈ rows, y.length = k) → rows.length + G.length ≤ cap →
      K (.slice (some ⟨w.heap.size, 0, none⟩) (rows.length + G.length) cap) (w.drew.alloc (.cells (old ++ G.flatten.toArray ++ rep z.toArray ((cap - (rows.length + G.length)) * k)) e)) := by
    intro old cap hold hr hc
    have hF : (old ++ G.flatten.toArray ++ rep z.toArray ((cap - (rows.length + G.length)) * k)) = (rows ++ G ++ List.replicate (cap - (rows.length + G.length)) z).flatten.toArray := by
      rw [hold]
      have : rep z.toArray ((cap - (rows.length + G.length)) * k) = (List.replicate (cap - (rows.length + G.length)) z).flatten.toArray := by
        apply Array.ext
        · simp [rep, hz]
        · intro i h1 h2
          have hi : i < (cap - (rows.length + G.length)) * k := by simpa [rep] using h1
          simp only [rep, Array.getElem_map, Array.getElem_range, List.size_toArray, hz]
          have hm : i % k < k := Nat.mod_lt _ hk
          have hd : i / k < cap - (rows.length + G.length) := (Nat.div_lt_iff_lt_mul hk).2 hi
          have hfl : ((List.replicate (cap - (rows.length + G.length)) z).flatten.drop ((i / k) * k)).take k = z := by
            rw [flat_get (k := k) (by intro x hx; rw [List.mem_replicate] at hx; rw [hx.2, hz]) (by simpa using hd)]
            simp
          have hidx : i / k * k + i % k = i := by rw [Nat.mul_comm]; exact Nat.div_add_mod i k
          have e2 := congrArg (fun l => l[i % k]?) hfl
          simp only [List.getElem?_take_of_lt hm, List.getElem?_drop, hidx] at e2
          have h2' : i < (List.replicate (cap - (rows.length + G.length)) z).flatten.length := by simpa using h2
          rw [List.getElem?_eq_getElem h2', List.getElem?_eq_getElem (by omega)] at e2
          injection e2 with e2
          rw [List.getElem_toArray, e2]
          simp [hz, hm]
      rw [this]; simp
    refine hK _ _ [w.heap.size] (.inr ⟨w.heap.size, rows ++ G ++ List.replicate (cap - (rows.length + G.length)) z, ?_, rfl, ?_, ?_, ?_, ?_⟩) ((Kp.refl _ _).drew.alloc _) (by simp)
    · simp; omega
    · rw [← hF]; exact heap_new
    · intro y hy
      rw [List.mem_append, List.mem_append] at hy
      rcases hy with (hy | hy) | hy
      · exact hr y hy
      · exact hG y hy
      · rw [List.mem_replicate] at hy; rw [hy.2, hz]
    · rw [List.take_left]
    · simp
  have hrow : ∀ y ∈ rows, y.length = k := fun y hy => h.row hy
  unfold app
  rcases h with ⟨h1, h2, h3⟩ | ⟨bl, F, h1, h2, h3, h4, h5, h6⟩
  · subst h1; subst h3
    rw [h2] at hb hb2 hK grow
    simp only [List.length_nil, Nat.zero_add] at hb hb2 grow ⊢
    refine hsrc _ ⟨fun hle => ?_, fun hlt => ⟨⟨?_, by omega⟩, fun cap hc _ => grow #[] cap rfl (by simp) hc⟩⟩
    · have hG0 : G = [] := List.length_eq_zero_iff.1 (by omega)
      rw [hG0]
      exact hK _ w [] (.inl ⟨rfl, by simp [hG0], rfl⟩) (Kp.refl _ _) (by simp)
    · have := next_le hlt
      calc _ ≤ (2 * G.length) * bytes := Nat.mul_le_mul_right _ this
        _ ≤ _ := hb
  · subst h1; subst h2
    refine hsrc _ ⟨fun hle => ?_, fun hlt => ⟨⟨?_, by omega⟩, ?_⟩⟩
    · simp only [wrO, add_mk, wrN_mk, h3, okFr0, true_and, Nat.zero_add, List.size_toArray]
      have hfl := flat_len h4
      have hgl := flat_len hG
      have hsp := flat_splice_many (i := rows.length) h4 hG (by omega)
      refine ⟨⟨?_, by simpa using hone⟩, ?_⟩
      · rw [hfl, hgl, ← Nat.add_mul]; exact Nat.mul_le_mul_right _ hle
      · have hF' : splice F.flatten.toArray (rows.length * k) G.flatten.toArray = (F.take rows.length ++ G ++ F.drop (rows.length + G.length)).flatten.toArray := by
          rw [splice_list, hsp]
        rw [hF']
        refine hK _ _ [bl] (.inr ⟨bl, F.take rows.length ++ G ++ F.drop (rows.length + G.length), ?_, rfl, heap_self (live_of h3), ?_, ?_, ?_⟩) ((Kp.refl _ _).setBlk (.inl (by simp)) _) (fun y hy => .inl hy)
        · have : (F.take rows.length ++ G ++ F.drop (rows.length + G.length)).length = F.length := by simp; omega
          rw [this]; simp
        · intro y hy
          rw [List.mem_append, List.mem_append] at hy
          rcases hy with (hy | hy) | hy
          · exact h4 y (List.mem_of_mem_take hy)
          · exact hG y hy
          · exact h4 y (List.mem_of_mem_drop hy)
        · rw [h5, List.take_left]
        · simp; omega
    · have := next_le hlt
      calc _ ≤ (2 * (rows.length + G.length)) * bytes := Nat.mul_le_mul_right _ this
        _ ≤ _ := hb
    · simp only [base, rdN_mk, h3, Nat.zero_add, List.size_toArray]
      have hfl := flat_len h4
      refine ⟨by rw [hfl]; exact Nat.mul_le_mul_right _ h6, fun cap hc _ => grow _ cap ?_ hrow hc⟩
      have := extract_list F.flatten 0 (rows.length * k)
      rw [Nat.zero_add] at this
      rw [this, List.drop_zero, flat_take _ h4, h5]

end Go.Q

/- What a row says of a slice that came in, in the words of the contracts. -/
set_option linter.unusedVariables false
set_option linter.unusedSimpArgs false
namespace Go.Q
theorem wf64 {n : Int} (h : (Lit.int .i64 n).wf = true) : -9223372036854775808 ≤ n ∧ n < 9223372036854775808 := by
  simp [Lit.wf, IntKind.min, IntKind.max, IntKind.bits, IntKind.signed] at h
  omega
theorem cell_block {w : World} {x : Addr} {v : Value} (h : w.cell? x = some v) : x.spot = none ∧ ∃ c T fr, w.heap[x.block]? = some (.cells c T fr) ∧ c[x.off]? = some v := by
  unfold World.cell? at h
  split at h
  · rename_i c T fr hh
    split at h
    · cases h
    · rename_i hs
      exact ⟨by simpa using hs, c, T, fr, hh, h⟩
  · cases h
theorem ints_nil {w : World} {cap : Nat} : IntsAt w (.slice none 0 cap) [] [] := ⟨none, cap, rfl, .inl rfl⟩
theorem ints_in {w : World} {x : Addr} {len cap : Nat} {zs : List Int} (hc : ∀ i, i < zs.length → w.cell? (x.add i) = some (.int .i64 (zs.getD i 0))) (hl : len ≤ zs.length) :
    ∃ SK, IntsAt w (.slice (some x) len cap) (zs.take len) SK ∧ ∀ b ∈ SK, b < w.heap.size := by
  by_cases h0 : len = 0
  · subst h0
    exact ⟨[], ⟨some x, cap, by simp, .inl (by simp)⟩, by simp⟩
  · have hz := hc 0 (by omega)
    have hz' : w.cell? x = some (.int .i64 (zs.getD 0 0)) := by simpa [Addr.add] using hz
    obtain ⟨hs, c, T, fr, hh, hc0⟩ := cell_block hz'
    obtain ⟨b, o, s⟩ := x
    simp only at hs
    subst hs
    refine ⟨[b], ⟨some ⟨b, o, none⟩, cap, by simp; omega, .inr ⟨b, o, c, T, fr, rfl, rfl, hh, fun i hi => ?_⟩⟩, ?_⟩
    · have hi' : i < len ∧ i < zs.length := by simp at hi; omega
      have h1 := hc i hi'.2
      rw [add_none rfl] at h1
      obtain ⟨_, c', T', fr', hh', h2⟩ := cell_block h1
      simp only at hh' h2
      rw [hh] at hh'
      obtain ⟨rfl, rfl, rfl⟩ : c = c' ∧ T = T' ∧ fr = fr' := by simpa using hh'
      rw [h2]
      have : (List.take len zs).getD i 0 = zs.getD i 0 := by simp [List.getD, List.getElem?_take, hi'.1]
      rw [this]
    · intro y hy
      simp only [List.mem_singleton] at hy
      subst hy
      have := (Array.getElem?_eq_some_iff.mp hh).1
      exact this
end Go.Q

/- Slices that came in, whatever their elements are: rows of cells, each of which the statement's own reading took. -/
set_option linter.unusedVariables false
set_option linter.unusedSimpArgs false
namespace Go.Q
/-- a slice that came in -/
def ArgAt (w : World) (v : Value) (k : Nat) (rows : List (List Value)) (S : List Nat) : Prop :=
  (∃ a cap, v = .slice a 0 cap ∧ rows = []) ∨ RdAt w v k rows S
section
variable {w : World} {v : Value} {k : Nat} {rows : List (List Value)} {S : List Nat}
theorem ArgAt.keep {w' : World} {S' : List Nat} (h : ArgAt w v k rows S) (hk : Kp S' w w') (hd : ∀ x ∈ S, x ∉ S') : ArgAt w' v k rows S := h.imp id fun h => h.keep hk hd
theorem ArgAt.lenL (h : ArgAt w v k rows S) {K : Value → Prop} : lenL v K = K (.int .i64 rows.length) := by
  rcases h with ⟨a, cap, h1, h2⟩ | h
  · rw [h1, h2]; rfl
  · exact h.lenL
theorem ArgAt.src (h : ArgAt w v k rows S) (K' : Nat → Array Value → Prop) (hK : K' rows.length rows.flatten.toArray) : Q.srcA k v w K' := by
  rcases h with ⟨a, cap, h1, h2⟩ | h
  · subst h1; subst h2
    cases a with
    | none => exact hK
    | some a =>
      simp only [Q.srcA, Nat.zero_mul, if_true]
      exact hK
  · exact h.src K' hK
theorem ArgAt.take (h : ArgAt w v k rows S) {p : Nat} (hp : p ≤ rows.length) {kd : IntKind} : ∃ v', ArgAt w v' k (rows.take p) S ∧ ∀ K, slL k v none (some (.int kd p)) K = K v' := by
  rcases h with ⟨a, cap, h1, h2⟩ | h
  · subst h1; subst h2
    have : p = 0 := by simpa using hp
    subst this
    exact ⟨.slice (if cap = 0 then a else a.map (·.add (0 * k))) 0 (cap - 0), .inl ⟨_, _, rfl, by simp⟩, fun K => by simp [slL, bnd]⟩
  · obtain ⟨v', h1, h2⟩ := h.take hp (kd := kd)
    exact ⟨v', .inr h1, h2⟩
theorem ArgAt.drop (h : ArgAt w v k rows S) {p : Nat} (hp : p ≤ rows.length) {kd : IntKind} : ∃ v', ArgAt w v' k (rows.drop p) S ∧ ∀ K, slL k v (some (.int kd p)) none K = K v' := by
  rcases h with ⟨a, cap, h1, h2⟩ | h
  · subst h1; subst h2
    have : p = 0 := by simpa using hp
    subst this
    exact ⟨.slice (if cap = 0 then a else a.map (·.add (0 * k))) 0 (cap - 0), .inl ⟨_, _, rfl, by simp⟩, fun K => by simp [slL, bnd]⟩
  · obtain ⟨v', h1, h2⟩ := h.drop hp (kd := kd)
    exact ⟨v', .inr h1, h2⟩
theorem ArgAt.row (h : ArgAt w v k rows S) {x : List Value} (hx : x ∈ rows) : x.length = k := by
  rcases h with ⟨a, cap, h1, h2⟩ | h
  · rw [h2] at hx; cases hx
  · exact h.row hx
theorem ArgAt.at (h : ArgAt w v k rows S) {i : Nat} (hi : i < rows.length) :
    ∃ bl o T c fr, bl ∈ S ∧ w.heap[bl]? = some (.cells c T fr) ∧ (∀ kd K, ia k v (.int kd i) K = K (.pointer (some ⟨bl, o, none⟩))) ∧ o + k ≤ c.size ∧ c.extract o (o + k) = rows[i].toArray ∧
      ∀ j, j < k → c[o + j]? = rows[i][j]? := by
  rcases h with ⟨a, cap, h1, h2⟩ | h
  · rw [h2] at hi; cases hi
  · exact h.at hi
theorem chop_flat (l : List Value) (k : Nat) : ∀ n, ((List.range n).map fun i => (l.drop (i * k)).take k).flatten = l.take (n * k) := by
  intro n
  induction n with
  | zero => simp
  | succ n ih =>
    rw [List.range_succ, List.map_append, List.flatten_append, ih]
    simp only [List.map_cons, List.map_nil, List.flatten_cons, List.flatten_nil, List.append_nil]
    rw [Nat.succ_mul, List.take_add]
end
section
variable {H : Type} {enc : TypeId × Value → H} {P : Program} {w : World} {base : Nat} {spare : Nat → Bool} {held : Bool}
theorem arg_slice {t e : TypeId} {n fuel : Nat} {cs : List Value} {x : DataW H × List MemPlace} (ht : P.underlying t = some (.slice e)) (hc : P.cellsOf e = n) (hn : 0 < n)
    (h : DataW.trod enc P w base spare held fuel t cs = some x) :
    ∃ v rows SK, cs = [v] ∧ ArgAt w v n rows SK ∧ (∀ b ∈ SK, b < w.heap.size) ∧ rows.length ≤ maxLen ∧ ∀ r ∈ rows, ∃ f y, DataW.trod enc P w base spare held f e r = some y := by
  rcases DataW.trod_slice ht h with ⟨h1, _⟩ | ⟨a, len, cap, elems, rest, m, _, rfl, _, hb, hl, hm, hlen, hel, _, _⟩
  · exact ⟨_, [], [], h1, .inl ⟨none, 0, rfl, rfl⟩, by simp, by simp, by simp⟩
  · rw [hc] at hel
    by_cases h0 : len = 0
    · subst h0
      exact ⟨_, [], [], rfl, .inl ⟨some a, cap, rfl, rfl⟩, by simp, by simp, by simp⟩
    · have each : ∀ i, i < len → ∃ cs y, w.cells? base (a.add (i * n)) n = some cs ∧ DataW.trod enc P w base spare held m e cs = some y := by
        intro i hi
        have h1 := hel i hi
        have h2 : elems[i]? = some elems[i] := List.getElem?_eq_getElem (by omega)
        rw [h2, Option.bind_eq_some_iff] at h1
        obtain ⟨cs, h3, h4⟩ := h1
        exact ⟨cs, _, h3, h4⟩
      obtain ⟨cs0, y0, h3, h4⟩ := each 0 (by omega)
      obtain ⟨_, hl0, hc0⟩ := World.cells?_some h3
      have h5 := hc0 0 hn
      rw [Nat.zero_mul, List.getElem?_eq_getElem (by omega)] at h5
      have h6 : w.cell? a = some cs0[0] := by simpa [Addr.add] using h5
      obtain ⟨hs, c, T, fr, hh, _⟩ := cell_block h6
      obtain ⟨b, o, s⟩ := a
      simp only at hs hh
      subst hs
      have cell : ∀ i j, i < len → j < n → ∃ cs y, w.cells? base (Addr.add ⟨b, o, none⟩ (i * n)) n = some cs ∧ DataW.trod enc P w base spare held m e cs = some y ∧ cs.length = n ∧ c[o + i * n + j]? = cs[j]? ∧ o + i * n + j < c.size := by
        intro i j hi hj
        obtain ⟨cs, y, g1, g2⟩ := each i hi
        obtain ⟨_, g3, g4⟩ := World.cells?_some g1
        have g5 := g4 j hj
        simp only [add_mk] at g5
        have g6 : w.cell? ⟨b, o + i * n + j, none⟩ = c[o + i * n + j]? := by simp [World.cell?, hh]
        rw [g6] at g5
        refine ⟨cs, y, g1, g2, g3, g5, ?_⟩
        rw [List.getElem?_eq_getElem (by omega)] at g5
        exact (Array.getElem?_eq_some_iff.mp g5).1
      have hsz : o + len * n ≤ c.size := by
        obtain ⟨_, _, _, _, _, _, g⟩ := cell (len - 1) (n - 1) (by omega) (by omega)
        have : len * n = (len - 1) * n + n := by rw [← Nat.succ_mul]; congr 1; omega
        omega
      have hrow : ∀ i, i < len → (c.toList.drop o |>.drop (i * n)).take n = (c.toList.drop (o + i * n)).take n := fun i _ => by rw [List.drop_drop]
      refine ⟨_, (List.range len).map fun i => ((c.toList.drop o).drop (i * n)).take n, [b], rfl, .inr (.inr ⟨b, o, cap, c, T, fr, by simp, rfl, hh, ?_, by simpa using hsz, ?_, by simpa using hl⟩), ?_, ?_, ?_⟩
      · intro r hr
        simp only [List.mem_map, List.mem_range] at hr
        obtain ⟨i, hi, rfl⟩ := hr
        have : (i + 1) * n ≤ len * n := Nat.mul_le_mul_right _ hi
        rw [Nat.succ_mul] at this
        simp; omega
      · rw [chop_flat]; simp
      · intro y hy
        simp only [List.mem_singleton] at hy
        subst hy
        exact lt_of_blk hh
      · simp; omega
      · intro r hr
        simp only [List.mem_map, List.mem_range] at hr
        obtain ⟨i, hi, rfl⟩ := hr
        obtain ⟨cs, y, g1, g2, g3, _, _⟩ := cell i 0 hi hn
        refine ⟨m, y, ?_⟩
        have he : ((c.toList.drop o).drop (i * n)).take n = cs := by
          apply List.ext_getElem?
          intro j
          by_cases hj : j < n
          · obtain ⟨cs', y', g1', _, _, g4', _⟩ := cell i j hi hj
            rw [g1] at g1'
            injection g1' with g1'
            subst g1'
            rw [List.getElem?_take_of_lt hj, List.drop_drop, List.getElem?_drop, Array.getElem?_toList, g4']
          · rw [List.getElem?_eq_none (by simp; omega), List.getElem?_eq_none (by omega)]
        rw [he]; exact g2
end
end Go.Q

/- '==' of structs whose fields are numbers, texts and bools: one Bool. -/
set_option linter.unusedVariables false
set_option linter.unusedSimpArgs false
namespace Go.Q
def eqV : Value → Value → Bool
  | .int _ x, .int _ y => decide (x = y)
  | .string s, .string t => decide (s = t)
  | .bool a, .bool b => a == b
  | _, _ => false
def eqC : List Value → List Value → Bool
  | a :: r, b :: s => eqV a b && eqC r s
  | _, _ => true
@[simp] theorem eqV_int {k k' : IntKind} {x y : Int} : eqV (.int k x) (.int k' y) = decide (x = y) := rfl
@[simp] theorem eqV_str {s t : ByteArray} : eqV (.string s) (.string t) = decide (s = t) := rfl
@[simp] theorem eqV_bool {s t : Bool} : eqV (.bool s) (.bool t) = (s == t) := rfl
@[simp] theorem eqC_cons {a b : Value} {r s : List Value} : eqC (a :: r) (b :: s) = (eqV a b && eqC r s) := rfl
@[simp] theorem eqC_nil : eqC [] [] = true := rfl
def eqK : Option TypeDesc → Value → Value → Bool
  | some (.int _), .int k _, .int k' _ => k == k'
  | some .string, .string _, .string _ => true
  | some .bool, .bool _, .bool _ => true
  | _, _, _ => false
def flatF (P : Program) : List Field → List Value → List Value → Nat → Bool
  | [], _, _, _ => true
  | f :: fs, a :: aas, b :: bbs, i => !(f.name == "_") && Nat.beq f.offset i && (match aggO P f.type with | some false => true | _ => false) && eqK (P.underlying f.type) a b && flatF P fs aas bbs (i + 1)
  | _, _, _, _ => false
def lenF (P : Program) (T : TypeId) : Nat := (P.fieldsOf T).size
def aggEq (P : Program) (T : TypeId) (xs ys : List Value) : Bool :=
  match P.underlying T with
  | some (.struct fs) => !P.stoodInHeld T && !P.eqGuardType P.depth T && flatF P fs.toList xs ys 0 && Nat.beq fs.size xs.length && Nat.beq fs.size ys.length
  | _ => false
variable {P : Program}
theorem eqV_run {d : Nat} {T : TypeId} {a b : Value} {w : World} (h : eqK (P.underlying T) a b = true) : (Op.equalIn (d + 1) T a b).run P w = .ok (eqV a b) w := by
  unfold eqK at h
  split at h
  · rename_i hu
    have hk := eq_of_beq h
    subst hk
    rw [run_equalIn_int w d T _ _ _ _ hu]
    rfl
  · rename_i hu
    rw [run_equalIn_string w d T _ _ hu]
    rw [toList_beq]; rfl
  · rename_i hu
    rw [run_equalIn_bool' w d T _ _ hu]; rfl
  · cases h
theorem flat_run {d : Nat} {xs ys : Array Value} {w : World} : ∀ (fs : List Field) (aas bbs : List Value) (i : Nat), flatF P fs aas bbs i = true → xs.toList.drop i = aas → ys.toList.drop i = bbs → aas.length = fs.length → bbs.length = fs.length →
    (Op.eqFields (d + 1) xs ys fs).run P w = .ok (eqC aas bbs) w := by
  intro fs
  induction fs with
  | nil =>
    intro aas bbs i _ _ _ h1 h2
    have ha : aas = [] := List.length_eq_zero_iff.1 h1
    have hb : bbs = [] := List.length_eq_zero_iff.1 h2
    rw [ha, hb]
    simp [Op.eqFields]
  | cons f fs ih =>
    intro aas bbs i h h1 h2 h3 h4
    cases aas with
    | nil => simp at h3
    | cons a aas =>
      cases bbs with
      | nil => simp at h4
      | cons b bbs =>
        simp only [flatF, Bool.and_eq_true, Bool.not_eq_true'] at h
        obtain ⟨⟨⟨⟨g1, g2⟩, g3⟩, g4⟩, g5⟩ := h
        have hn : f.name ≠ "_" := by simpa using g1
        have ho : f.offset = i := Nat.eq_of_beq_eq_true g2
        have ha : aggO P f.type = some false := by
          revert g3
          cases aggO P f.type with
          | none => intro h; cases h
          | some t => cases t <;> intro h <;> simp at h ⊢
        have hx : xs[i]? = some a := by rw [← Array.getElem?_toList, ← List.head?_drop, h1]; rfl
        have hy : ys[i]? = some b := by rw [← Array.getElem?_toList, ← List.head?_drop, h2]; rfl
        have p1 : (part f.type xs f.offset).run P w = .ok a w := by rw [ho]; simp [part, aggO_run ha, hx, pure, Sem.run]
        have p2 : (part f.type ys f.offset).run P w = .ok b w := by rw [ho]; simp [part, aggO_run ha, hy, pure, Sem.run]
        have hr := ih aas bbs (i + 1) g5 (by rw [← List.drop_drop, h1]; rfl) (by rw [← List.drop_drop, h2]; rfl) (by simpa using h3) (by simpa using h4)
        rw [Op.eqFields]
        simp only [if_pos hn, Sem.run_bind, p1, p2, eqV_run g4, Result.andThen_ok]
        cases hv : eqV a b
        · simp [hv]
        · simp [hv]; exact hr
theorem run_aggs {T : TypeId} {xs ys : Array Value} {xo yo : Operand} {w : World} (h : aggEq P T xs.toList ys.toList = true) :
    (bq .eql T xo yo (.agg xs) (.agg ys)).run P w = .ok (.bool (eqC xs.toList ys.toList)) w ∧ (bq .neq T xo yo (.agg xs) (.agg ys)).run P w = .ok (.bool !eqC xs.toList ys.toList) w := by
  unfold aggEq at h
  split at h
  · rename_i fs hu
    simp only [Bool.and_eq_true, Bool.not_eq_true'] at h
    obtain ⟨⟨⟨⟨h1, h2⟩, h3⟩, h4⟩, h5⟩ := h
    have h4 := Nat.eq_of_beq_eq_true h4
    have h5 := Nat.eq_of_beq_eq_true h5
    have hf : P.fieldsOf T = fs := by simp [Program.fieldsOf, hu]
    have hr := flat_run (d := 9998) (xs := xs) (ys := ys) (w := w) fs.toList xs.toList ys.toList 0 h3 rfl rfl (by simpa using h4.symm) (by simpa using h5.symm)
    have he : (Op.equalIn 10000 T (.agg xs) (.agg ys)).run P w = .ok (eqC xs.toList ys.toList) w := by
      rw [run_equalIn_agg w 9999 T xs ys (by rw [hf]; exact hu) h1, hf]
      exact hr
    constructor
    · unfold bq
      rw [Sem.run_bind, run_eqGuard_agg w _ _ _ _ _ _ h2]
      simp only [Result.andThen_ok]
      rw [run_eql_struct, he]; rfl
    · unfold bq
      rw [Sem.run_bind, run_eqGuard_agg w _ _ _ _ _ _ h2]
      simp only [Result.andThen_ok]
      rw [run_neq_struct, he]; rfl
  · cases h
@[simp] theorem bq_aggeql {T : TypeId} {xs ys : List Value} {xo yo : Operand} {w : World} {K : Value → Prop} (h : aggEq P T xs ys = true) : qG P (bq .eql T xo yo (.agg xs.toArray) (.agg ys.toArray)) w K = K (.bool (eqC xs ys)) := qG_of (run_aggs h).1
@[simp] theorem bq_aggneq {T : TypeId} {xs ys : List Value} {xo yo : Operand} {w : World} {K : Value → Prop} (h : aggEq P T xs ys = true) : qG P (bq .neq T xo yo (.agg xs.toArray) (.agg ys.toArray)) w K = K (.bool !eqC xs ys) := qG_of (run_aggs h).2
end Go.Q

/- Slices of a call's own, and slices that are only read, without a list of their blocks. -/
set_option linter.unusedVariables false
set_option linter.unusedSimpArgs false
namespace Go.Q
/-- a slice that reads so -/
def Rd (w : World) (v : Value) (k : Nat) (rows : List (List Value)) : Prop := ∃ S, ArgAt w v k rows S
/-- a slice that owns its block, which was made behind 'w0' -/
structure Fr (w0 w : World) (v : Value) (k : Nat) (rows : List (List Value)) : Prop where
  ex : ∃ S, RowsAt w v k rows S ∧ ∀ x ∈ S, w0.heap.size ≤ x
  kp : Kp [] w0 w
section
variable {w0 w w' : World} {v : Value} {k : Nat} {rows : List (List Value)}
theorem Rd.keep (h : Rd w v k rows) (hk : Kp [] w w') : Rd w' v k rows := by
  obtain ⟨S, h⟩ := h
  exact ⟨S, h.keep hk (by simp)⟩
theorem Rd.lenL (h : Rd w v k rows) {K : Value → Prop} : lenL v K = K (.int .i64 rows.length) := by
  obtain ⟨S, h⟩ := h
  exact h.lenL
theorem Rd.row (h : Rd w v k rows) {x : List Value} (hx : x ∈ rows) : x.length = k := by
  obtain ⟨S, h⟩ := h
  exact h.row hx
theorem Rd.src (h : Rd w v k rows) (K' : Nat → Array Value → Prop) (hK : K' rows.length rows.flatten.toArray) : Q.srcA k v w K' := by
  obtain ⟨S, h⟩ := h
  exact h.src K' hK
theorem Rd.at (h : Rd w v k rows) {i : Nat} (hi : i < rows.length) :
    ∃ bl o T c fr, w.heap[bl]? = some (.cells c T fr) ∧ (∀ kd K, ia k v (.int kd i) K = K (.pointer (some ⟨bl, o, none⟩))) ∧ o + k ≤ c.size ∧ c.extract o (o + k) = rows[i].toArray ∧ ∀ j, j < k → c[o + j]? = rows[i][j]? := by
  obtain ⟨S, h⟩ := h
  obtain ⟨bl, o, T, c, fr, _, h1, h2, h3, h4, h5⟩ := h.at hi
  exact ⟨bl, o, T, c, fr, h1, h2, h3, h4, h5⟩
theorem Rd.take (h : Rd w v k rows) {p : Nat} (hp : p ≤ rows.length) {kd : IntKind} : ∃ v', Rd w v' k (rows.take p) ∧ ∀ K, slL k v none (some (.int kd p)) K = K v' := by
  obtain ⟨S, h⟩ := h
  obtain ⟨v', h1, h2⟩ := h.take hp (kd := kd)
  exact ⟨v', ⟨S, h1⟩, h2⟩
theorem Rd.drop (h : Rd w v k rows) {p : Nat} (hp : p ≤ rows.length) {kd : IntKind} : ∃ v', Rd w v' k (rows.drop p) ∧ ∀ K, slL k v (some (.int kd p)) none K = K v' := by
  obtain ⟨S, h⟩ := h
  obtain ⟨v', h1, h2⟩ := h.drop hp (kd := kd)
  exact ⟨v', ⟨S, h1⟩, h2⟩
/-- a row is read whole -/
theorem Rd.get (h : Rd w v k rows) {i : Nat} (hi : i < rows.length) :
    ∃ p, (∀ kd K, ia k v (.int kd i) K = K p) ∧ (∀ K : Value → Prop, ldn k p w K = K (.agg rows[i].toArray)) ∧ ∀ j (hj : j < rows[i].length), ∀ K : Value → Prop, fa j p (fun q => ld1 q w K) = K rows[i][j] := by
  have hr := h.row (List.getElem_mem hi)
  obtain ⟨bl, o, T, c, fr, h1, h2, h3, h4, h5⟩ := h.at hi
  refine ⟨_, h2, fun K => ?_, fun j hj K => ?_⟩
  · simp only [ldn_p, rdN_mk, h1, h3, h4, true_and]
  · have := h5 j (by omega)
    rw [List.getElem?_eq_getElem hj] at this
    simp [-getElem?_pos, -Array.getElem?_eq_getElem, h1, this]
/-- a row of one cell is read -/
theorem Rd.one (h : Rd w v 1 rows) {i : Nat} (hi : i < rows.length) {x : Value} (hx : rows[i] = [x]) : ∃ p, (∀ kd K, ia 1 v (.int kd i) K = K p) ∧ ∀ K : Value → Prop, ld1 p w K = K x := by
  obtain ⟨bl, o, T, c, fr, h1, h2, h3, h4, h5⟩ := h.at hi
  refine ⟨_, h2, fun K => ?_⟩
  have := h5 0 (by omega)
  rw [hx, Nat.add_zero, List.getElem?_cons_zero] at this
  simp [-getElem?_pos, -Array.getElem?_eq_getElem, h1, this]
theorem rd_nil : Rd w (.slice none 0 0) k [] := ⟨[], .inl ⟨none, 0, rfl, rfl⟩⟩
theorem Rd.slice (h : Rd w v k rows) : ∃ a c, v = .slice a rows.length c := by
  obtain ⟨S, ⟨a, c, h1, h2⟩ | h⟩ := h
  · exact ⟨a, c, by rw [h1, h2]; rfl⟩
  · obtain ⟨a, c, h1, _⟩ := h.len
    exact ⟨a, c, h1⟩
theorem Fr.rd (h : Fr w0 w v k rows) : Rd w v k rows := by
  obtain ⟨S, h1, h2⟩ := h.ex
  exact ⟨S, .inr h1.rd⟩
theorem Fr.keep (h : Fr w0 w v k rows) (hk : Kp [] w w') : Fr w0 w' v k rows := by
  obtain ⟨S, h1, h2⟩ := h.ex
  exact ⟨⟨S, h1.keep hk (by simp), h2⟩, h.kp.trans' hk⟩
/-- an elder base -/
theorem Fr.base {wb : World} (h : Fr w0 w v k rows) (hk : Kp [] wb w0) : Fr wb w v k rows := by
  obtain ⟨S, h1, h2⟩ := h.ex
  exact ⟨⟨S, h1, fun x hx => by have := h2 x hx; have := hk.size; omega⟩, hk.trans' h.kp⟩
theorem Fr.one (h : Fr w0 w v k rows) : Q.one v = true := by
  obtain ⟨S, h1, h2⟩ := h.ex
  obtain ⟨a, c, hv, _⟩ := h1.len
  rw [hv]; rfl
theorem fr_nil (hk : Kp [] w0 w) : Fr w0 w (.slice none 0 0) k [] := ⟨⟨[], .inl ⟨rfl, rfl, rfl⟩, by simp⟩, hk⟩
theorem fr_app {e bytes : Nat} {z : List Value} {x : Value} {G : List (List Value)} (h : Fr w0 w v k rows) (hk : 0 < k) (hz : z.length = k) (hG : ∀ y ∈ G, y.length = k) (hone : G.flatten.all Q.one = true)
    (hsrc : ∀ K' : Nat → Array Value → Prop, K' G.length G.flatten.toArray → srcA k x w K') (hb : 2 * (rows.length + G.length) * bytes ≤ 2 ^ 48) (hb2 : rows.length + G.length < 2 ^ 62) {K : Value → World → Prop}
    (hK : ∀ v' w', Fr w0 w' v' k (rows ++ G) → K v' w') : app e k bytes z.toArray v x w K := by
  obtain ⟨S, h1, h2⟩ := h.ex
  refine rows_app h1 hk hz hG hone hsrc hb hb2 fun v' w' S' h' hk' hS' => ?_
  have hs := h.kp.size
  refine hK v' w' ⟨⟨S', h', fun x hx => ?_⟩, h.kp.trans hk' fun x hx hlt => by have := h2 x hx; omega⟩
  rcases hS' x hx with h | h
  · exact h2 x h
  · omega
/-- a literal of one row is a slice of its own -/
theorem bsl_rowN {e n : Nat} {z : Array Value} {x : Value} {cs : List Value} (hn : 0 < n) (hc : x.cells = cs.toArray) (hl : cs.length = n) {w : World} {K : Value → World → Prop}
    (hK : ∀ v' w', Fr w w' v' n [cs] → K v' w') : bsl e n 1 z #[(0, x)] w K := by
  have hb : bsl e n 1 z #[(0, x)] w K = K (.slice (some ⟨w.heap.size, 0, none⟩) 1 1) (w.alloc (.cells cs.toArray e)) := by
    unfold bsl
    show (match Instr.fill (fun i => some (i * n, n)) (rep z (1 * n)) [(0, x)] with | some cs => K (Value.slice (some ⟨w.heap.size, 0, none⟩) 1 1) (w.alloc (Obj.cells cs e)) | none => False) = _
    rw [fill_step (off := 0) (size := n) (by simp) (by rw [hc]; simpa using hl) (by rw [rep_size]; omega), hc, splice_all (by rw [rep_size]; simp [hl])]
    rfl
  rw [hb]
  refine hK _ _ ⟨⟨[w.heap.size], .inr ⟨w.heap.size, [cs], e, rfl, rfl, ?_, by simpa using hl, by simp, by simp⟩, by simp⟩, (Kp.refl [] w).alloc _⟩
  rw [heap_new]; simp
/-- one row is appended -/
theorem fr_push {e bytes : Nat} {z : List Value} {x : Value} {y : List Value} {wx : World} (h : Fr w0 w v k rows) (hx : Rd w x k [y]) (hk : 0 < k) (hz : z.length = k) (hone : y.all Q.one = true)
    (hb : 2 * (rows.length + 1) * bytes ≤ 2 ^ 48) (hb2 : rows.length + 1 < 2 ^ 62) {K : Value → World → Prop}
    (hK : ∀ v' w', Fr w0 w' v' k (rows ++ [y]) → K v' w') : app e k bytes z.toArray v x w K := by
  have hy : y.length = k := hx.row (by simp)
  refine fr_app h hk hz (G := [y]) (by simpa using hy) (by simpa using hone) (fun K' hK' => hx.src K' hK') hb hb2 hK
end
/-! ### bytes -/
def byteV (c : UInt8) : List Value := [.int .u8 c.toNat]
theorem byteV_flat (l : List UInt8) : (l.map byteV).flatten = u8c l := by
  induction l with
  | nil => rfl
  | cons c l ih => simp only [List.map_cons, List.flatten_cons, ih]; rfl
theorem byteV_one (l : List UInt8) : ((l.map byteV).flatten).all one = true := by
  rw [byteV_flat]; have := one_u8c l; rw [List.all_toArray] at this; exact this
theorem srcA_str {l : List UInt8} {w : World} (K' : Nat → Array Value → Prop) (hK : K' (l.map byteV).length (l.map byteV).flatten.toArray) : srcA 1 (.string (str l)) w K' := by
  have he : u8s ((str l).extract 0 l.length) = (u8c l).toArray := by rw [str_extract, List.take_length, List.drop_zero, u8s_eq]; rfl
  rw [byteV_flat, List.length_map] at hK
  simp only [srcA, str_size, he]
  exact hK
/-- a text of bytes -/
theorem Rd.text {w : World} {v : Value} {l : List UInt8} (h : Rd w v 1 (l.map byteV)) (hn : (∃ a c, v = .slice a 0 c) → v = .slice none 0 0 ∨ ∃ S, RdAt w v 1 (l.map byteV) S) {K : Value → Prop} : cvBS v w K = K (.string (str l)) := by
  have main : ∀ S, RdAt w v 1 (l.map byteV) S → cvBS v w K = K (.string (str l)) := by
    intro S h
    rcases h with ⟨h1, h2⟩ | ⟨bl, o, cap, c, T, fr, h1, h2, h3, h4, h5, h6, h7⟩
    · have : l = [] := by simpa using h2
      subst this; subst h1
      rfl
    · subst h1
      have hb := bytesOf_u8c l
      simp only [List.length_map, Nat.mul_one] at h5 h6 h7
      have hx : c.extract o (o + l.length) = (u8c l).toArray := by rw [extract_toList, h6, byteV_flat]
      simp only [cvBS, rdN_mk, List.length_map, h3, hx, h5, true_and, hb]
      rfl
  obtain ⟨S, ⟨a, c, h1, h2⟩ | h⟩ := h
  · rcases hn ⟨a, c, h1⟩ with h3 | ⟨S, h3⟩
    · have : l = [] := by simpa using h2
      subst this; subst h3
      rfl
    · exact main S h3
  · exact main S h
theorem Fr.text {w0 w : World} {v : Value} {l : List UInt8} (h : Fr w0 w v 1 (l.map byteV)) {K : Value → Prop} : cvBS v w K = K (.string (str l)) := by
  obtain ⟨S, h1, h2⟩ := h.ex
  exact Rd.text h.rd fun _ => .inr ⟨S, h1.rd⟩
theorem bytes_app {w0 w : World} {v : Value} {l : List UInt8} {e : Nat} {z : Array Value} (hz : z = #[.int .u8 0]) (h : Fr w0 w v 1 (l.map byteV)) (s : List UInt8) (hl : l.length + s.length < 2 ^ 40) {K : Value → World → Prop}
    (hK : ∀ v' w', Fr w0 w' v' 1 ((l ++ s).map byteV) → K v' w') : app e 1 1 z v (.string (Q.str s)) w K := by
  subst hz
  refine fr_app (z := [.int .u8 0]) (G := s.map byteV) h (by omega) rfl (by simp [byteV]) (byteV_one s) (fun K' hK' => srcA_str K' hK') (by simp; omega) (by simp; omega) fun v' w' h' => hK v' w' (by rw [List.map_append]; exact h')
theorem byte_app {w0 w : World} {v x : Value} {l : List UInt8} {c : UInt8} {e : Nat} {z : Array Value} (hz : z = #[.int .u8 0]) (h : Fr w0 w v 1 (l.map byteV)) (hx : Rd w x 1 [byteV c]) (hl : l.length < 2 ^ 40) {K : Value → World → Prop}
    (hK : ∀ v' w', Fr w0 w' v' 1 ((l ++ [c]).map byteV) → K v' w') : app e 1 1 z v x w K := by
  subst hz
  refine fr_app (z := [.int .u8 0]) (G := [byteV c]) h (by omega) rfl (by simp [byteV]) (byteV_one [c]) (fun K' hK' => hx.src K' hK') (by simp; omega) (by simp; omega) fun v' w' h' => hK v' w' (by rw [List.map_append]; exact h')
end Go.Q

set_option linter.unusedVariables false
set_option linter.unusedSimpArgs false
namespace Go.Proofs
theorem Try.mixed : Try.prog.follows .mixedOrders = true := by kernel_rfl
end Go.Proofs

set_option linter.unusedVariables false
set_option linter.unusedSimpArgs false
namespace Go.Proofs
open Go Go.Q
set_option maxRecDepth 100000
/-! (*strings.Builder).copyCheck -/
def strings_Builder_copyCheck_s0 (R : Value → World → Prop) (x0 : Value) (w : World) : Prop :=
  nk x0 fun t3 =>
  fa 0 t3 fun t4 =>
  ld1 t4 w fun t5 =>
  qG Try.prog (bq .eql 99 (.tmp 5) (.const (.pointer none)) t5 (.pointer none)) w fun t6 =>
  bV t6
  (eG Try.prog (convert 99 149 x0) w fun t9 w =>
  nG Try.prog (callFunc 118 #[t9]) w fun t10 w =>
  eG Try.prog (convert 149 99 t10) w fun t11 w =>
  nk x0 fun t12 =>
  fa 0 t12 fun t13 =>
  st1 t13 t11 w fun w =>
  R (.tuple #[]) w)
  (nk x0 fun t15 =>
  fa 0 t15 fun t16 =>
  ld1 t16 w fun t17 =>
  qG Try.prog (bq .neq 99 (.tmp 17) (.tmp 18) t17 x0) w fun t19 =>
  bV t19
  (False)
  (R (.tuple #[]) w))

theorem strings_Builder_copyCheck_s0_eq (R : Value → World → Prop) : ∀ e w, lift Try.prog 20 (bodyOf Try.f103) (finK Try.prog Try.f103.results.toList R) e w = strings_Builder_copyCheck_s0 R (e 0) w := fun e w => by kernel_rfl

def strings_Builder_copyCheck (R : Value → World → Prop) (x0 : Value) (w : World) : Prop := strings_Builder_copyCheck_s0 R x0 w
theorem strings_Builder_copyCheck_call {R : Value → World → Prop} {x0 : Value} {w : World} (h : strings_Builder_copyCheck R x0 w) : callG Try.prog 103 #[x0] w R :=
  calls_lift_eq Try.mixed Try.func103 (args := [x0]) rfl rfl rfl rfl ((strings_Builder_copyCheck_s0_eq R) (envOf [x0]) w) (by kernel_rfl) h
/-! (*strings.Builder).WriteByte -/
def strings_Builder_WriteByte_s0 (R : Value → World → Prop) (x0 x1 : Value) (w : World) : Prop :=
  callG Try.prog 103 #[x0] w fun t6 w =>
  nk x0 fun t9 =>
  fa 1 t9 fun t10 =>
  ld1 t10 w fun t11 =>
  bsl 5 1 1 (zc Try.prog 5) #[(0, x1)] w fun t13 w =>
  app 5 1 1 (zc Try.prog 5) t11 t13 w fun t14 w =>
  nk x0 fun t15 =>
  fa 1 t15 fun t16 =>
  st1 t16 t14 w fun w =>
  R .nilIface w

theorem strings_Builder_WriteByte_s0_eq (R : Value → World → Prop) : ∀ e w, lift Try.prog 17 (bodyOf Try.f78) (finK Try.prog Try.f78.results.toList R) e w = strings_Builder_WriteByte_s0 R (e 0) (e 1) w := fun e w => by kernel_rfl

def strings_Builder_WriteByte (R : Value → World → Prop) (x0 x1 : Value) (w : World) : Prop := strings_Builder_WriteByte_s0 R x0 x1 w
theorem strings_Builder_WriteByte_call {R : Value → World → Prop} {x0 x1 : Value} {w : World} (h : strings_Builder_WriteByte R x0 x1 w) : callG Try.prog 78 #[x0, x1] w R :=
  calls_lift_eq Try.mixed Try.func78 (args := [x0, x1]) rfl rfl rfl rfl ((strings_Builder_WriteByte_s0_eq R) (envOf [x0, x1]) w) (by kernel_rfl) h
/-! (*strings.Builder).WriteString -/
def strings_Builder_WriteString_s0 (R : Value → World → Prop) (x0 x1 : Value) (w : World) : Prop :=
  callG Try.prog 103 #[x0] w fun t7 w =>
  nk x0 fun t10 =>
  fa 1 t10 fun t11 =>
  ld1 t11 w fun t12 =>
  app 5 1 1 (zc Try.prog 5) t12 x1 w fun t14 w =>
  nk x0 fun t15 =>
  fa 1 t15 fun t16 =>
  st1 t16 t14 w fun w =>
  lenS x1 fun t18 =>
  R (.tuple #[t18, .nilIface]) w

theorem strings_Builder_WriteString_s0_eq (R : Value → World → Prop) : ∀ e w, lift Try.prog 19 (bodyOf Try.f80) (finK Try.prog Try.f80.results.toList R) e w = strings_Builder_WriteString_s0 R (e 0) (e 1) w := fun e w => by kernel_rfl

def strings_Builder_WriteString (R : Value → World → Prop) (x0 x1 : Value) (w : World) : Prop := strings_Builder_WriteString_s0 R x0 x1 w
theorem strings_Builder_WriteString_call {R : Value → World → Prop} {x0 x1 : Value} {w : World} (h : strings_Builder_WriteString R x0 x1 w) : callG Try.prog 80 #[x0, x1] w R :=
  calls_lift_eq Try.mixed Try.func80 (args := [x0, x1]) rfl rfl rfl rfl ((strings_Builder_WriteString_s0_eq R) (envOf [x0, x1]) w) (by kernel_rfl) h
/-! (*strings.Builder).String -/
def strings_Builder_String_s0 (R : Value → World → Prop) (x0 : Value) (w : World) : Prop :=
  nk x0 fun t4 =>
  fa 1 t4 fun t5 =>
  ld1 t5 (World.drew w) fun t6 =>
  nk x0 fun t9 =>
  fa 1 t9 fun t10 =>
  ld1 t10 (World.drew w) fun t11 =>
  lenL t11 fun t12 =>
  eG Try.prog (Builtin.unsafeSliceData_ #[100] 136 #[t6]) (World.drew w) fun t7 w =>
  ld1 t10 w (fun u => u = t11) ∧
  eG Try.prog (Builtin.unsafeString_ #[136, 3] 9 #[t7, t12]) w fun t13 w =>
  R t13 w

theorem strings_Builder_String_s0_eq (R : Value → World → Prop) : ∀ e w, lift Try.prog 14 (bodyOf Try.f82) (finK Try.prog Try.f82.results.toList R) e w = strings_Builder_String_s0 R (e 0) w := fun e w => by kernel_rfl

def strings_Builder_String (R : Value → World → Prop) (x0 : Value) (w : World) : Prop := strings_Builder_String_s0 R x0 w
theorem strings_Builder_String_call {R : Value → World → Prop} {x0 : Value} {w : World} (h : strings_Builder_String R x0 w) : callG Try.prog 82 #[x0] w R :=
  calls_lift_eq Try.mixed Try.func82 (args := [x0]) rfl rfl rfl rfl ((strings_Builder_String_s0_eq R) (envOf [x0]) w) (by kernel_rfl) h
end Go.Proofs

set_option linter.unusedVariables false
set_option linter.unusedSimpArgs false
namespace Go.Proofs
open Go Go.Q
@[simp] theorem Try.isBool4 : isBoolT Try.prog 4 = true := by kernel_rfl
@[simp] theorem Try.isPtr15 : isPtr Try.prog 15 = true := by kernel_rfl
@[simp] theorem Try.isPtr16 : isPtr Try.prog 16 = true := by kernel_rfl
@[simp] theorem Try.isPtr17 : isPtr Try.prog 17 = true := by kernel_rfl
@[simp] theorem Try.isSl35 : isSl Try.prog 35 = true := by kernel_rfl
@[simp] theorem Try.isSl36 : isSl Try.prog 36 = true := by kernel_rfl
@[simp] theorem Try.isSl55 : isSl Try.prog 55 = true := by kernel_rfl
@[simp] theorem Try.isSl56 : isSl Try.prog 56 = true := by kernel_rfl
@[simp] theorem Try.isSl57 : isSl Try.prog 57 = true := by kernel_rfl
@[simp] theorem Try.isSl58 : isSl Try.prog 58 = true := by kernel_rfl
@[simp] theorem Try.isSl93 : isSl Try.prog 93 = true := by kernel_rfl
@[simp] theorem Try.isPtr99 : isPtr Try.prog 99 = true := by kernel_rfl
@[simp] theorem Try.isSl100 : isSl Try.prog 100 = true := by kernel_rfl
@[simp] theorem Try.isPtr124 : isPtr Try.prog 124 = true := by kernel_rfl
@[simp] theorem Try.isPtr136 : isPtr Try.prog 136 = true := by kernel_rfl
@[simp] theorem Try.isPtr153 : isPtr Try.prog 153 = true := by kernel_rfl
end Go.Proofs

/- strings.Builder: what each function of it does. -/
set_option linter.unusedVariables false
set_option linter.unusedSimpArgs false
namespace Go.Proofs
open Go Go.Q
theorem rows_one {w : World} {v : Value} {k : Nat} {rows : List (List Value)} {S : List Nat} (h : RowsAt w v k rows S) : Q.one v = true := by
  obtain ⟨a, c, hv, _⟩ := h.len
  rw [hv]; rfl
theorem info_some {t : TypeId} {n : Nat} (h : szO Try.prog t = some n) : ∃ j, Try.prog.info? t = some j ∧ j.size = n := by
  unfold szO at h
  cases hi : Try.prog.info? t with
  | none => rw [hi] at h; cases h
  | some j => rw [hi] at h; exact ⟨j, rfl, by simpa using h⟩
theorem Try.szB : szO Try.prog 102 = some 2 := by kernel_rfl
theorem Try.cellsOf5 : Try.prog.cellsOf 5 = 1 := by kernel_rfl
theorem bq_psame {xo yo : Operand} {w : World} {a : Addr} {K : Value → Prop} : qG Try.prog (bq .neq 99 xo yo (.pointer (some a)) (.pointer (some a))) w K = K (.bool false) := by
  obtain ⟨j, hj, _⟩ := info_some Try.szB
  refine qG_of ((run_equal1 (P := Try.prog) (T := 99) (x := .pointer (some a)) (y := .pointer (some a)) (w := w) (b := true) ?_ (fun _ _ h => by cases h.1) (fun h => by cases h.1) xo yo rfl rfl).2)
  have h := Go.Lib.run_neq_ptr_same (P := Try.prog) w a Try.underlying99 hj
  have h2 : ∀ d : Nat, (Op.equalIn (d + 1) 99 (.pointer (some a)) (.pointer (some a))).run Try.prog w = .ok true w := fun d => by
    simp [Op.equalIn, Go.run_underlying Try.underlying99, sizeOf, typeInfo, hj, Go.run_sameAddr_same]
  simp [Op.equal, Op.maxDepth, h2 9999]
theorem to_unsafe {w : World} {b : Nat} {cs : Array Value} {fr : Nat × Nat} (hb : w.heap[b]? = some (.cells cs 102 fr)) (hs : cs.size = 2) {K : Value → World → Prop} (hK : K (.pointer (some ⟨b, 0, none⟩)) w) :
    eG Try.prog (convert 99 149 (.pointer (some ⟨b, 0, none⟩))) w K := by
  obtain ⟨j, hj, hsz⟩ := info_some Try.szB
  exact ⟨_, w, Go.Lib.run_to_unsafe (P := Try.prog) (cells := 2) (e := 102) w ⟨b, 0, none⟩ Try.underlying99 Try.underlying149 hj (by omega) (by simp [World.shape?, hb, hs]) (Nat.zero_lt_succ 1), hK⟩
theorem from_unsafe {w : World} {b : Nat} {cs : Array Value} {fr : Nat × Nat} (hb : w.heap[b]? = some (.cells cs 102 fr)) (hs : cs.size = 2) {K : Value → World → Prop} (hK : K (.pointer (some ⟨b, 0, none⟩)) w) :
    eG Try.prog (convert 149 99 (.pointer (some ⟨b, 0, none⟩))) w K := by
  obtain ⟨j, hj, hsz⟩ := info_some Try.szB
  exact ⟨_, w, Go.Lib.run_from_unsafe (P := Try.prog) (cells := 2) (e := 102) w ⟨b, 0, none⟩ Try.underlying149 Try.underlying99 hj (by simp [World.shape?, hb, hs]) (by kernel_rfl), hK⟩
theorem no_escape {w : World} {x : Value} {K : Value → World → Prop} (hK : K x w) : nG Try.prog (callFunc 118 #[x]) w K := by
  refine ⟨x, w, ?_, hK⟩
  rw [run_callFunc_extern (e := Extern.AbiNoEscape.same) Try.func118 (by kernel_rfl) rfl (by kernel_rfl) (by kernel_rfl)]
  rfl
/-- a builder's buffer, frozen or not -/
def BufT (w : World) (v : Value) (l : List UInt8) (S : List Nat) : Prop :=
  (v = .slice none 0 0 ∧ l = [] ∧ S = []) ∨
  ∃ (bl cap : Nat) (c : Array Value) (fr : Nat × Nat), v = .slice (some ⟨bl, 0, none⟩) l.length cap ∧ S = [bl] ∧ w.heap[bl]? = some (.cells c 5 fr) ∧ l ≠ [] ∧ l.length ≤ c.size ∧ l.length ≤ cap ∧ c.toList.take l.length = u8c l
/-- a builder that may be written on -/
def Bld (w : World) (b : Nat) (l : List UInt8) (S : List Nat) : Prop :=
  ∃ p v SB, w.heap[b]? = some (.cells #[p, v] 102) ∧ (p = .pointer none ∨ p = .pointer (some ⟨b, 0, none⟩)) ∧ RowsT w v 1 5 (l.map byteV) SB ∧ (l = [] → v = .slice none 0 0) ∧ S = b :: SB ∧ b ∉ SB
/-- a builder that is read -/
def BldD (w : World) (b : Nat) (l : List UInt8) (S : List Nat) : Prop :=
  ∃ p v SB, w.heap[b]? = some (.cells #[p, v] 102) ∧ BufT w v l SB ∧ S = b :: SB ∧ b ∉ SB
theorem Bld.keep {w w' : World} {b : Nat} {l : List UInt8} {S S' : List Nat} (h : Bld w b l S) (hk : Kp S' w w') (hd : ∀ x ∈ S, x ∉ S') : Bld w' b l S := by
  obtain ⟨p, v, SB, h1, h2, h3, h4, rfl, h5⟩ := h
  exact ⟨p, v, SB, hk.get h1 (hd b (by simp)), h2, h3.keep hk (fun x hx => hd x (by simp [hx])), h4, rfl, h5⟩
theorem BufT.keep {w w' : World} {v : Value} {l : List UInt8} {S S' : List Nat} (h : BufT w v l S) (hk : Kp S' w w') (hd : ∀ x ∈ S, x ∉ S') : BufT w' v l S := by
  rcases h with h | ⟨bl, cap, c, fr, h1, rfl, h3, h4⟩
  · exact .inl h
  · exact .inr ⟨bl, cap, c, fr, h1, rfl, hk.get h3 (hd bl (by simp)), h4⟩
theorem BldD.keep {w w' : World} {b : Nat} {l : List UInt8} {S S' : List Nat} (h : BldD w b l S) (hk : Kp S' w w') (hd : ∀ x ∈ S, x ∉ S') : BldD w' b l S := by
  obtain ⟨p, v, SB, h1, h2, rfl, h5⟩ := h
  exact ⟨p, v, SB, hk.get h1 (hd b (by simp)), h2.keep hk (fun x hx => hd x (by simp [hx])), rfl, h5⟩
theorem Bld.done {w : World} {b : Nat} {l : List UInt8} {S : List Nat} (h : Bld w b l S) : BldD w b l S := by
  obtain ⟨p, v, SB, h1, h2, h3, h4, rfl, h5⟩ := h
  refine ⟨p, v, SB, h1, ?_, rfl, h5⟩
  by_cases hl : l = []
  · have hv := h4 hl
    subst hl
    rcases h3 with ⟨_, _, h6⟩ | ⟨bl, F, h7, _⟩
    · exact .inl ⟨hv, rfl, h6⟩
    · rw [hv] at h7; cases h7
  · rcases h3 with ⟨_, h6, _⟩ | ⟨bl, F, h7, h8, h9, h10, h11, h12⟩
    · exact absurd (by simpa using h6) hl
    · have hfl := flat_len h10
      simp only [List.length_map] at h7 h11 h12
      refine .inr ⟨bl, F.length, F.flatten.toArray, (0, 0), by rw [h7], h8, h9, hl, ?_, h12, ?_⟩
      · simp only [List.size_toArray, hfl]; omega
      · have := flat_take l.length h10
        rw [Nat.mul_one] at this
        rw [this, h11, byteV_flat]
theorem Bld.live {w : World} {b : Nat} {l : List UInt8} {S : List Nat} (h : Bld w b l S) : ∀ x ∈ S, x < w.heap.size := by
  obtain ⟨p, v, SB, h1, h2, h3, h4, rfl, h5⟩ := h
  intro x hx
  rcases List.mem_cons.1 hx with rfl | hx
  · exact lt_of_blk h1
  · exact h3.at_.lt x hx
theorem bld_new {w : World} : Bld (w.alloc (.cells #[.pointer none, .slice none 0 0] 102)) w.heap.size [] [w.heap.size] :=
  ⟨.pointer none, .slice none 0 0, [], heap_new, .inl rfl, .inl ⟨rfl, rfl, rfl⟩, fun _ => rfl, rfl, by simp⟩
theorem copy_spec {w : World} {b : Nat} {l : List UInt8} {S : List Nat} (h : Bld w b l S) {K : Value → World → Prop} (hK : ∀ w', Bld w' b l S → Kp S w w' → K (.tuple #[]) w') : callG Try.prog 103 #[.pointer (some ⟨b, 0, none⟩)] w K := by
  refine strings_Builder_copyCheck_call ?_
  have h0 := h
  obtain ⟨p, v, SB, h1, h2, h3, h4, rfl, h5⟩ := h
  simp only [strings_Builder_copyCheck, strings_Builder_copyCheck_s0]
  rcases h2 with rfl | rfl
  · simp [-getElem?_pos, -Array.getElem?_eq_getElem, -List.length_flatten, List.getElem?_cons_zero, List.getElem?_cons_succ, h1]
    refine to_unsafe h1 rfl ?_
    refine no_escape ?_
    refine from_unsafe h1 rfl ?_
    have lb := live_of h1
    simp [-getElem?_pos, -Array.getElem?_eq_getElem, -List.length_flatten, List.getElem?_cons_zero, List.getElem?_cons_succ, h1, lb]
    have hk : Kp [b] w (setBlk w b (.cells #[.pointer (some ⟨b, 0, none⟩), v] 102)) := (Kp.refl _ w).setBlk (.inl (by simp)) _
    refine hK _ ⟨_, v, SB, heap_self lb, .inr rfl, h3.keep hk (fun x hx => by simp; intro hh; exact h5 (hh ▸ hx)), h4, rfl, h5⟩ (hk.mono fun x hx _ => by simp at hx; simp [hx])
  · simp [-getElem?_pos, -Array.getElem?_eq_getElem, -List.length_flatten, List.getElem?_cons_zero, List.getElem?_cons_succ, h1]
    rw [bq_psame]
    simp [-getElem?_pos, -Array.getElem?_eq_getElem, -List.length_flatten, List.getElem?_cons_zero, List.getElem?_cons_succ, ]
    exact hK w h0 (Kp.refl _ _)
theorem app_nothing {w : World} {z : Array Value} {K : Value → World → Prop} (hK : K (.slice none 0 0) w) : app 5 1 1 z (.slice none 0 0) (.string (str [])) w K := by
  unfold app
  simp [srcA]
  exact hK
theorem zc5l : zc Try.prog 5 = [Value.int .u8 0].toArray := by kernel_rfl
theorem WriteString_spec {w : World} {b : Nat} {l : List UInt8} {S : List Nat} (h : Bld w b l S) (s : List UInt8) (hl : l.length + s.length < 2 ^ 40) {K : Value → World → Prop}
    (hK : ∀ w' S', Bld w' b (l ++ s) S' → Kp S w w' → (∀ x ∈ S', x ∈ S ∨ w.heap.size ≤ x) → K (.tuple #[.int .i64 s.length, .nilIface]) w') : callG Try.prog 80 #[.pointer (some ⟨b, 0, none⟩), .string (str s)] w K := by
  refine strings_Builder_WriteString_call ?_
  simp only [strings_Builder_WriteString, strings_Builder_WriteString_s0]
  refine copy_spec h fun w1 h1 hk1 => ?_
  obtain ⟨p, v, SB, g1, g2, g3, g4, rfl, g5⟩ := h1
  have lb := live_of g1
  have hsz := hk1.size
  simp [-getElem?_pos, -Array.getElem?_eq_getElem, -List.length_flatten, List.getElem?_cons_zero, List.getElem?_cons_succ, g1]
  by_cases h0 : l = [] ∧ s = []
  · obtain ⟨rfl, rfl⟩ := h0
    have hv := g4 rfl
    subst hv
    refine app_nothing ?_
    simp [-getElem?_pos, -Array.getElem?_eq_getElem, -List.length_flatten, List.getElem?_cons_zero, List.getElem?_cons_succ, g1, lb]
    have hk : Kp [b] w1 (setBlk w1 b (.cells #[p, .slice none 0 0] 102)) := (Kp.refl _ w1).setBlk (.inl (by simp)) _
    refine hK _ (b :: SB) ⟨p, _, SB, heap_self lb, g2, g3.keep hk (fun x hx => by simp; intro hh; exact g5 (hh ▸ hx)), fun _ => rfl, rfl, g5⟩ (hk1.trans hk fun x hx _ => by simp at hx; simp [hx]) (fun x hx => .inl hx)
  · have hone : ((s.map byteV).flatten).all Q.one = true := by rw [byteV_flat]; have := one_u8c s; rw [List.all_toArray] at this; exact this
    have hsrc : ∀ K' : Nat → Array Value → Prop, K' (s.map byteV).length (s.map byteV).flatten.toArray → srcA 1 (.string (str s)) w1 K' := by
      intro K' hK'
      have he : u8s ((str s).extract 0 s.length) = (u8c s).toArray := by rw [str_extract, List.take_length, List.drop_zero, u8s_eq]; rfl
      rw [byteV_flat, List.length_map] at hK'
      simp only [srcA, str_size, he]
      exact hK'
    rw [zc5l]
    refine rowsT_app (k := 1) (z := [Value.int .u8 0]) (G := s.map byteV) g3 (by omega) rfl (by simp [byteV]) hone hsrc (by simp; omega) (by simp; omega) fun v2 w2 S2 h2 hk2 hS2 => ?_
    have gg := hk2.get g1 g5
    have lb2 := live_of gg
    have hv2 := rows_one h2.at_
    have hbS2 : b ∉ S2 := fun hm => by
      rcases hS2 b hm with h | h
      · exact g5 h
      · have : b < w1.heap.size := lb
        omega
    have hk : Kp [b] w2 (setBlk w2 b (.cells #[p, v2] 102)) := (Kp.refl _ w2).setBlk (.inl (by simp)) _
    simp [-getElem?_pos, -Array.getElem?_eq_getElem, -List.length_flatten, List.getElem?_cons_zero, List.getElem?_cons_succ, gg, lb2, hv2]
    refine hK _ (b :: S2) ⟨p, v2, S2, heap_self lb2, g2, ?_, ?_, rfl, hbS2⟩ ?_ ?_
    · rw [List.map_append]
      exact h2.keep hk (fun x hx => by simp; intro hh; exact hbS2 (hh ▸ hx))
    · intro hn
      exact absurd (by simpa using hn) h0
    · exact (hk1.trans hk2 fun x hx _ => by simp [hx]).trans hk fun x hx _ => by simp at hx; simp [hx]
    · intro x hx
      rcases List.mem_cons.1 hx with rfl | hx
      · exact .inl (by simp)
      · rcases hS2 x hx with h | h
        · exact .inl (by simp [h])
        · exact .inr (by omega)
theorem BufT.lenL {w : World} {v : Value} {l : List UInt8} {S : List Nat} (h : BufT w v l S) {K : Value → Prop} : lenL v K = K (.int .i64 l.length) := by
  rcases h with ⟨h1, h2, _⟩ | ⟨bl, cap, c, fr, h1, _⟩
  · rw [h1, h2]; rfl
  · rw [h1]; rfl
theorem freeze_blk {w : World} {bl n : Nat} {c : Array Value} {T : TypeId} {fr : Nat × Nat} (h : w.heap[bl]? = some (.cells c T fr)) (hn : n ≠ 0) : ∃ fr', w.freeze ⟨bl, 0, none⟩ n = setBlk w bl (.cells c T fr') := by
  obtain ⟨lo, hi⟩ := fr
  refine ⟨if lo == hi then (0, 0 + n) else (min lo 0, max hi (0 + n)), ?_⟩
  unfold World.freeze
  rw [if_neg hn]
  unfold setBlk
  congr 1
  apply Array.ext_getElem?
  intro j
  rw [Array.getElem?_modify, Array.getElem?_setIfInBounds]
  by_cases hj : bl = j
  · subst hj
    rw [if_pos rfl, if_pos rfl, h]
    have := (Array.getElem?_eq_some_iff.1 h).1
    rw [if_pos this]
    rfl
  · rw [if_neg hj, if_neg hj]
theorem String_spec {w : World} {b : Nat} {l : List UInt8} {S : List Nat} (h : BldD w b l S) (hl : l.length < 2 ^ 62) {K : Value → World → Prop}
    (hK : ∀ w', BldD w' b l S → Kp S w w' → K (.string (str l)) w') : callG Try.prog 82 #[.pointer (some ⟨b, 0, none⟩)] w K := by
  refine strings_Builder_String_call ?_
  have h0 := h
  obtain ⟨p, v, SB, h1, h2, rfl, h5⟩ := h
  simp only [strings_Builder_String, strings_Builder_String_s0]
  simp [-getElem?_pos, -Array.getElem?_eq_getElem, -List.length_flatten, List.getElem?_cons_zero, List.getElem?_cons_succ, h1]
  rw [BufT.lenL h2]
  have hkd : Kp (b :: SB) w w.drew := (Kp.refl _ _).drew
  rcases h2 with ⟨rfl, rfl, rfl⟩ | ⟨bl, cap, c, fr, rfl, rfl, g3, g4, g5, g6, g7⟩
  · refine ⟨_, _, Go.Lib.run_unsafeSliceData_nil _ _ _ _ _, ?_⟩
    simp [-getElem?_pos, -Array.getElem?_eq_getElem, -List.length_flatten, List.getElem?_cons_zero, List.getElem?_cons_succ, h1]
    refine ⟨_, _, Go.Lib.run_unsafeString_none _ _ _ _ _, ?_⟩
    exact hK w.drew h0 hkd
  · have hpos : l.length ≠ 0 := by simpa using g4
    refine ⟨_, _, Go.Lib.run_unsafeSliceData_row _ _ _ _ _ _ (by omega), ?_⟩
    simp [-getElem?_pos, -Array.getElem?_eq_getElem, -List.length_flatten, List.getElem?_cons_zero, List.getElem?_cons_succ, h1]
    refine ⟨_, _, Go.Lib.run_unsafeString_row (e := 5) w.drew 136 3 9 Try.underlying136 Try.cellsOf5 bl c.size (by simp [World.shape?, g3]) l g4 g5 (by omega) ?_, ?_⟩
    · intro j x hx
      have hj : j < l.length := (List.getElem?_eq_some_iff.1 hx).1
      have : c.toList[j]? = (u8c l)[j]? := by rw [← g7, List.getElem?_take_of_lt hj]
      simp only [add_mk, World.cell?, heap_drew, g3, Nat.zero_add]
      rw [← Array.getElem?_toList, this]
      simp [u8c, hx]
    · obtain ⟨fr', hf⟩ := freeze_blk (w := w.drew) (bl := bl) (n := l.length) g3 hpos
      rw [hf]
      have hk : Kp [bl] w.drew (setBlk w.drew bl (.cells c 5 fr')) := (Kp.refl _ _).setBlk (.inl (by simp)) _
      have hne : ¬ b = bl := by simpa using h5
      refine hK _ ⟨p, _, [bl], by rw [heap_ne (fun h => hne h.symm)]; exact h1, .inr ⟨bl, cap, c, fr', rfl, rfl, heap_self (live_of g3), g4, g5, g6, g7⟩, rfl, h5⟩ (hkd.trans hk fun x hx _ => by simp at hx; simp [hx])
theorem WriteByte_spec {w : World} {b : Nat} {l : List UInt8} {S : List Nat} (h : Bld w b l S) (c : UInt8) (hl : l.length < 2 ^ 40) {K : Value → World → Prop}
    (hK : ∀ w' S', Bld w' b (l ++ [c]) S' → Kp S w w' → (∀ x ∈ S', x ∈ S ∨ w.heap.size ≤ x) → K .nilIface w') : callG Try.prog 78 #[.pointer (some ⟨b, 0, none⟩), .int .u8 c.toNat] w K := by
  refine strings_Builder_WriteByte_call ?_
  simp only [strings_Builder_WriteByte, strings_Builder_WriteByte_s0]
  refine copy_spec h fun w1 h1 hk1 => ?_
  obtain ⟨p, v, SB, g1, g2, g3, g4, rfl, g5⟩ := h1
  have hsz := hk1.size
  have lb0 : b < w1.heap.size := lt_of_blk g1
  simp [-getElem?_pos, -Array.getElem?_eq_getElem, -List.length_flatten, List.getElem?_cons_zero, List.getElem?_cons_succ, g1]
  rw [bsl_one rfl]
  obtain ⟨wa, hwa⟩ : ∃ wa, wa = w1.alloc (.cells #[.int .u8 c.toNat] 5) := ⟨_, rfl⟩
  have hka : Kp [] w1 wa := by rw [hwa]; exact (Kp.refl [] w1).alloc _
  have hba : wa.heap[w1.heap.size]? = some (.cells #[.int .u8 c.toNat] 5) := by rw [hwa]; exact heap_new
  rw [← hwa]
  have hrd : RdAt wa (.slice (some ⟨w1.heap.size, 0, none⟩) 1 1) 1 ([c].map byteV) [w1.heap.size] :=
    .inr ⟨_, 0, 1, _, _, _, rfl, rfl, hba, by simp [byteV], by simp, by simp [byteV], by simp⟩
  have g3a := g3.keep hka (by simp)
  have g1a := hka.get g1 (by simp)
  have hsza := hka.size
  rw [zc5l]
  refine rowsT_app (k := 1) (z := [Value.int .u8 0]) (G := [c].map byteV) g3a (by omega) rfl (by simp [byteV]) (byteV_one [c]) (fun K' hK' => hrd.src K' hK') (by simp; omega) (by simp; omega) fun v2 w2 S2 h2 hk2 hS2 => ?_
  have gg := hk2.get g1a g5
  have lb2 := live_of gg
  have hv2 := rows_one h2.at_
  have hbS2 : b ∉ S2 := fun hm => by
    rcases hS2 b hm with h | h
    · exact g5 h
    · omega
  have hk : Kp [b] w2 (setBlk w2 b (.cells #[p, v2] 102)) := (Kp.refl _ w2).setBlk (.inl (by simp)) _
  simp [-getElem?_pos, -Array.getElem?_eq_getElem, -List.length_flatten, List.getElem?_cons_zero, List.getElem?_cons_succ, gg, lb2, hv2]
  refine hK _ (b :: S2) ⟨p, v2, S2, heap_self lb2, g2, ?_, ?_, rfl, hbS2⟩ ?_ ?_
  · rw [List.map_append]
    exact h2.keep hk (fun x hx => by simp; intro hh; exact hbS2 (hh ▸ hx))
  · intro hn
    simp at hn
  · exact ((hk1.trans' (hka.mono (by simp))).trans hk2 fun x hx _ => by simp [hx]).trans hk fun x hx _ => by simp at hx; simp [hx]
  · intro x hx
    rcases List.mem_cons.1 hx with rfl | hx
    · exact .inl (by simp)
    · rcases hS2 x hx with h | h
      · exact .inl (by simp [h])
      · exact .inr (by omega)
/-- a builder of the call's own -/
structure Bd (w0 w : World) (b : Nat) (l : List UInt8) : Prop where
  ex : ∃ S, Bld w b l S ∧ ∀ x ∈ S, w0.heap.size ≤ x
  kp : Kp [] w0 w
theorem Bd.keep {w0 w w' : World} {b : Nat} {l : List UInt8} (h : Bd w0 w b l) (hk : Kp [] w w') : Bd w0 w' b l := by
  obtain ⟨S, h1, h2⟩ := h.ex
  exact ⟨⟨S, h1.keep hk (by simp), h2⟩, h.kp.trans' hk⟩
theorem bd_new {w : World} : Bd w (w.alloc (.cells #[.pointer none, .slice none 0 0] 102)) w.heap.size [] := ⟨⟨_, bld_new, by simp⟩, (Kp.refl [] w).alloc _⟩
theorem zcB : zc Try.prog 102 = #[.pointer none, .slice none 0 0] := by kernel_rfl
theorem bd_string {w0 w : World} {b : Nat} {l : List UInt8} (h : Bd w0 w b l) (s : List UInt8) (hl : l.length + s.length < 2 ^ 40) {K : Value → World → Prop}
    (hK : ∀ w', Bd w0 w' b (l ++ s) → K (.tuple #[.int .i64 s.length, .nilIface]) w') : callG Try.prog 80 #[.pointer (some ⟨b, 0, none⟩), .string (str s)] w K := by
  obtain ⟨S, h1, h2⟩ := h.ex
  refine WriteString_spec h1 s hl fun w' S' h' hk hS => ?_
  have hs := h.kp.size
  refine hK w' ⟨⟨S', h', fun x hx => ?_⟩, h.kp.trans hk fun x hx hlt => by have := h2 x hx; omega⟩
  rcases hS x hx with h | h
  · exact h2 x h
  · omega
theorem bd_byte {w0 w : World} {b : Nat} {l : List UInt8} (h : Bd w0 w b l) (c : UInt8) (hl : l.length < 2 ^ 40) {K : Value → World → Prop}
    (hK : ∀ w', Bd w0 w' b (l ++ [c]) → K .nilIface w') : callG Try.prog 78 #[.pointer (some ⟨b, 0, none⟩), .int .u8 c.toNat] w K := by
  obtain ⟨S, h1, h2⟩ := h.ex
  refine WriteByte_spec h1 c hl fun w' S' h' hk hS => ?_
  have hs := h.kp.size
  refine hK w' ⟨⟨S', h', fun x hx => ?_⟩, h.kp.trans hk fun x hx hlt => by have := h2 x hx; omega⟩
  rcases hS x hx with h | h
  · exact h2 x h
  · omega
/-- the text; the builder is read from now on -/
theorem bd_text {w0 w : World} {b : Nat} {l : List UInt8} (h : Bd w0 w b l) (hl : l.length < 2 ^ 62) {K : Value → World → Prop} (hK : ∀ w', Kp [] w0 w' → K (.string (str l)) w') :
    callG Try.prog 82 #[.pointer (some ⟨b, 0, none⟩)] w K := by
  obtain ⟨S, h1, h2⟩ := h.ex
  exact String_spec h1.done hl fun w' _ hk => hK w' (h.kp.trans hk fun x hx hlt => by have := h2 x hx; omega)
end Go.Proofs

set_option linter.unusedVariables false
set_option linter.unusedSimpArgs false
namespace Go.Proofs
open Go Go.Q
set_option maxRecDepth 100000
/-! quayside/value.Check -/
def value_Check_s0 (R : Value → World → Prop) (x0 : Value) (w : World) : Prop :=
  newG (Value.cells x0) 79 w fun t1 w =>
  fa 0 t1 fun t4 =>
  ld1 t4 w fun t5 =>
  qG Try.prog (bq .eql 3 (.tmp 5) (.const (.int .i64 0)) t5 (.int .i64 0)) w fun t7 =>
  bV t7
  (ldn 3 t1 w fun t8 =>
  bld [(0, 1), (1, 1), (2, 1)] (zc Try.prog 79) #[] fun t9 =>
  qG Try.prog (bq .eql 79 (.tmp 8) (.tmp 9) t8 t9) w fun t10 =>
  qG Try.prog (Op.unary .not t10) w fun t40 =>
  bV t40
  (R (.int .i64 1) w)
  (R (.int .i64 0) w))
  (qG Try.prog (bq .eql 3 (.tmp 5) (.const (.int .i64 1)) t5 (.int .i64 1)) w fun t12 =>
  bV t12
  (ldn 3 t1 w fun t13 =>
  fa 1 t1 fun t14 =>
  ld1 t14 w fun t15 =>
  bld [(0, 1), (1, 1), (2, 1)] (zc Try.prog 79) #[(0, (.int .i64 1)), (1, t15)] fun t16 =>
  qG Try.prog (bq .eql 79 (.tmp 13) (.tmp 16) t13 t16) w fun t17 =>
  qG Try.prog (Op.unary .not t17) w fun t40_1 =>
  bV t40_1
  (R (.int .i64 1) w)
  (R (.int .i64 0) w))
  (qG Try.prog (bq .eql 3 (.tmp 5) (.const (.int .i64 2)) t5 (.int .i64 2)) w fun t19 =>
  bV t19
  (ldn 3 t1 w fun t20 =>
  fa 2 t1 fun t21 =>
  ld1 t21 w fun t22 =>
  bld [(0, 1), (1, 1), (2, 1)] (zc Try.prog 79) #[(0, (.int .i64 2)), (2, t22)] fun t23 =>
  qG Try.prog (bq .eql 79 (.tmp 20) (.tmp 23) t20 t23) w fun t24 =>
  bV t24
  (fa 2 t1 fun t26 =>
  ld1 t26 w fun t27 =>
  lenS t27 fun t28 =>
  qG Try.prog (bq .leq 3 (.tmp 28) (.const (.int .i64 64)) t28 (.int .i64 64)) w fun t29 =>
  qG Try.prog (Op.unary .not t29) w fun t40_2 =>
  bV t40_2
  (R (.int .i64 1) w)
  (R (.int .i64 0) w))
  (qG Try.prog (Op.unary .not (.bool false)) w fun t40_3 =>
  bV t40_3
  (R (.int .i64 1) w)
  (R (.int .i64 0) w)))
  (qG Try.prog (bq .eql 3 (.tmp 5) (.const (.int .i64 3)) t5 (.int .i64 3)) w fun t32 =>
  bV t32
  (ldn 3 t1 w fun t33 =>
  fa 1 t1 fun t34 =>
  ld1 t34 w fun t35 =>
  qG Try.prog (bq .and 3 (.tmp 35) (.const (.int .i64 1)) t35 (.int .i64 1)) w fun t36 =>
  bld [(0, 1), (1, 1), (2, 1)] (zc Try.prog 79) #[(0, (.int .i64 3)), (1, t36)] fun t37 =>
  qG Try.prog (bq .eql 79 (.tmp 33) (.tmp 37) t33 t37) w fun t38 =>
  qG Try.prog (Op.unary .not t38) w fun t40_4 =>
  bV t40_4
  (R (.int .i64 1) w)
  (R (.int .i64 0) w))
  (qG Try.prog (Op.unary .not (.bool false)) w fun t40_5 =>
  bV t40_5
  (R (.int .i64 1) w)
  (R (.int .i64 0) w)))))

theorem value_Check_s0_eq (R : Value → World → Prop) : ∀ e w, lift Try.prog 41 (bodyOf Try.f79) (finK Try.prog Try.f79.results.toList R) e w = value_Check_s0 R (e 0) w := fun e w => by kernel_rfl

def value_Check (R : Value → World → Prop) (x0 : Value) (w : World) : Prop := value_Check_s0 R x0 w
theorem value_Check_call {R : Value → World → Prop} {x0 : Value} {w : World} (h : value_Check R x0 w) : callG Try.prog 79 #[x0] w R :=
  calls_lift_eq Try.mixed Try.func79 (args := [x0]) rfl rfl rfl rfl ((value_Check_s0_eq R) (envOf [x0]) w) (by kernel_rfl) h
/-! quayside/quaysideref05.May -/
def ref05_May_s0 (R : Value → World → Prop) (x0 : Value) (w : World) : Prop :=
  newG (Value.cells x0) 79 w fun t1 w =>
  fa 0 t1 fun t3 =>
  ld1 t3 w fun t4 =>
  qG Try.prog (bq .eql 3 (.tmp 4) (.const (.int .i64 0)) t4 (.int .i64 0)) w fun t6 =>
  bV t6
  (fa 1 t1 fun t7 =>
  ld1 t7 w fun t8 =>
  qG Try.prog (bq .eql 3 (.tmp 8) (.const (.int .i64 0)) t8 (.int .i64 0)) w fun t9 =>
  bV t9
  (fa 2 t1 fun t11 =>
  ld1 t11 w fun t12 =>
  qG Try.prog (bq .eql 9 (.tmp 12) (.const (.string ⟨#[]⟩)) t12 (.string ⟨#[]⟩)) w fun t13 =>
  R t13 w)
  (R (.bool false) w))
  (qG Try.prog (bq .eql 3 (.tmp 4) (.const (.int .i64 1)) t4 (.int .i64 1)) w fun t16 =>
  bV t16
  (fa 2 t1 fun t17 =>
  ld1 t17 w fun t18 =>
  qG Try.prog (bq .eql 9 (.tmp 18) (.const (.string ⟨#[]⟩)) t18 (.string ⟨#[]⟩)) w fun t19 =>
  R t19 w)
  (qG Try.prog (bq .eql 3 (.tmp 4) (.const (.int .i64 2)) t4 (.int .i64 2)) w fun t21 =>
  bV t21
  (fa 1 t1 fun t22 =>
  ld1 t22 w fun t23 =>
  qG Try.prog (bq .eql 3 (.tmp 23) (.const (.int .i64 0)) t23 (.int .i64 0)) w fun t24 =>
  bV t24
  (fa 2 t1 fun t26 =>
  ld1 t26 w fun t27 =>
  lenS t27 fun t28 =>
  qG Try.prog (bq .leq 3 (.tmp 28) (.const (.int .i64 64)) t28 (.int .i64 64)) w fun t29 =>
  R t29 w)
  (R (.bool false) w))
  (qG Try.prog (bq .eql 3 (.tmp 4) (.const (.int .i64 3)) t4 (.int .i64 3)) w fun t32 =>
  bV t32
  (fa 1 t1 fun t33 =>
  ld1 t33 w fun t34 =>
  qG Try.prog (bq .eql 3 (.tmp 34) (.const (.int .i64 0)) t34 (.int .i64 0)) w fun t35 =>
  bV t35
  (fa 2 t1 fun t42 =>
  ld1 t42 w fun t43 =>
  qG Try.prog (bq .eql 9 (.tmp 43) (.const (.string ⟨#[]⟩)) t43 (.string ⟨#[]⟩)) w fun t44 =>
  R t44 w)
  (fa 1 t1 fun t37 =>
  ld1 t37 w fun t38 =>
  qG Try.prog (bq .eql 3 (.tmp 38) (.const (.int .i64 1)) t38 (.int .i64 1)) w fun t39 =>
  bV t39
  (fa 2 t1 fun t42_1 =>
  ld1 t42_1 w fun t43_1 =>
  qG Try.prog (bq .eql 9 (.tmp 43) (.const (.string ⟨#[]⟩)) t43_1 (.string ⟨#[]⟩)) w fun t44_1 =>
  R t44_1 w)
  (R (.bool false) w)))
  (R (.bool false) w))))

theorem ref05_May_s0_eq (R : Value → World → Prop) : ∀ e w, lift Try.prog 46 (bodyOf Try.f83) (finK Try.prog Try.f83.results.toList R) e w = ref05_May_s0 R (e 0) w := fun e w => by kernel_rfl

def ref05_May (R : Value → World → Prop) (x0 : Value) (w : World) : Prop := ref05_May_s0 R x0 w
theorem ref05_May_call {R : Value → World → Prop} {x0 : Value} {w : World} (h : ref05_May R x0 w) : callG Try.prog 83 #[x0] w R :=
  calls_lift_eq Try.mixed Try.func83 (args := [x0]) rfl rfl rfl rfl ((ref05_May_s0_eq R) (envOf [x0]) w) (by kernel_rfl) h
/-! quayside/value.bytes -/
def value_bytes_s0 (R : Value → World → Prop) (x3 : Value) (w : World) : Prop :=
  cvBS x3 w fun t52 =>
  R t52 w

theorem value_bytes_s0_eq (R : Value → World → Prop) : ∀ e w, lift Try.prog 53 (sub (bodyOf Try.f81) [1, 1, 1]) (finK Try.prog Try.f81.results.toList R) e w = value_bytes_s0 R (e 3) w := fun e w => by kernel_rfl

def value_bytes_b1 (R : Value → World → Prop) (N1 : List Value → World → Prop) (x3 x4 x18 : Value) (w : World) : Prop :=
  qG Try.prog (bq .lss 3 (.tmp 18) (.const (.int .i64 8)) x18 (.int .i64 8)) w fun t19 =>
  bV t19
  (qG Try.prog (bq .sub 3 (.const (.int .i64 7)) (.tmp 23) (.int .i64 7) x18) w fun t24 =>
  qG Try.prog (bq .mul 3 (.const (.int .i64 8)) (.tmp 24) (.int .i64 8) t24) w fun t25 =>
  qG Try.prog (bq .shr 135 (.tmp 22) (.tmp 25) x4 t25) w fun t26 =>
  cvI .u8 t26 fun t27 =>
  bsl 5 1 1 (zc Try.prog 5) #[(0, t27)] w fun t28 w =>
  app 5 1 1 (zc Try.prog 5) x3 t28 w fun t29 w =>
  qG Try.prog (bq .add 3 (.tmp 18) (.const (.int .i64 1)) x18 (.int .i64 1)) w fun t30 =>
  N1 [t29, x4, t30] w)
  (value_bytes_s0 R x3 w)

theorem value_bytes_b1_eq (R : Value → World → Prop) (N1 : List Value → World → Prop) : ∀ e w, lift Try.prog 53 (sub (bodyOf Try.f81) [1, 1, 0, 1, 0, 1, 0, 1, 1, 0, 0]) (seqK (fun e w => N1 [e 3, e 4, e 18] w) (blockK 1 (blockK 0 (seqK (fun e w => value_bytes_s0 R (e 3) w) (finK Try.prog Try.f81.results.toList R))))) e w = value_bytes_b1 R N1 (e 3) (e 4) (e 18) w := fun e w => by kernel_rfl

def value_bytes_L2F (R : Value → World → Prop) (N1 : List Value → World → Prop) (xs : List Value) (w : World) : Prop :=
  match xs with
  | [x3, x4, x18] => value_bytes_b1 R N1 x3 x4 x18 w
  | _ => False

def value_bytes_L2 (R : Value → World → Prop) (x3 x4 x18 : Value) (w : World) : Prop :=
  ∃ m, loopV (value_bytes_L2F R) m [x3, x4, x18] w

theorem value_bytes_L2_eq (R : Value → World → Prop) : ∀ e w, lift Try.prog 53 (sub (bodyOf Try.f81) [1, 1, 0, 1, 0, 1, 0, 1, 1, 0]) (blockK 1 (blockK 0 (seqK (fun e w => value_bytes_s0 R (e 3) w) (finK Try.prog Try.f81.results.toList R)))) e w = value_bytes_L2 R (e 3) (e 4) (e 18) w := loop_seg (F := value_bytes_L2F R) (sel := fun e => [e 3, e 4, e 18]) fun N1 => (value_bytes_b1_eq R N1)

def value_bytes_s3 (R : Value → World → Prop) (x1 x3 : Value) (w : World) : Prop :=
  fa 1 x1 fun t14 =>
  ld1 t14 w fun t15 =>
  cvI .u64 t15 fun t16 =>
  qG Try.prog (bq .xor 135 (.tmp 16) (.const (.int .u64 9223372036854775808)) t16 (.int .u64 9223372036854775808)) w fun t17 =>
  value_bytes_L2 R x3 t17 (.int .i64 0) w

theorem value_bytes_s3_eq (R : Value → World → Prop) : ∀ e w, lift Try.prog 53 (sub (bodyOf Try.f81) [1, 1, 0, 1, 0, 1, 0]) (blockK 0 (seqK (fun e w => value_bytes_s0 R (e 3) w) (finK Try.prog Try.f81.results.toList R))) e w = value_bytes_s3 R (e 1) (e 3) w :=
  segs_eq (l := [(sub (bodyOf Try.f81) [1, 1, 0, 1, 0, 1, 0, 0]), (sub (bodyOf Try.f81) [1, 1, 0, 1, 0, 1, 0, 1, 0])]) (y := (sub (bodyOf Try.f81) [1, 1, 0, 1, 0, 1, 0, 1, 1])) (Y := (fun e w => value_bytes_L2 R (e 3) (e 4) (e 18) w)) (value_bytes_L2_eq R) (fun e w => by kernel_rfl)

def value_bytes_s4 (R : Value → World → Prop) (x1 x3 x11 : Value) (w : World) : Prop :=
  qG Try.prog (bq .eql 3 (.tmp 11) (.const (.int .i64 2)) x11 (.int .i64 2)) w fun t32 =>
  bV t32
  (fa 2 x1 fun t34 =>
  ld1 t34 (World.drew w) fun t35 =>
  lenS t35 fun t36 =>
  cvI .u8 t36 fun t37 =>
  fa 2 x1 fun t40 =>
  ld1 t40 (World.drew w) fun t41 =>
  bsl 5 1 1 (zc Try.prog 5) #[(0, t37)] (World.drew w) fun t38 w =>
  ld1 t40 w (fun u => u = t41) ∧
  app 5 1 1 (zc Try.prog 5) x3 t38 w fun t39 w =>
  ld1 t40 w (fun u => u = t41) ∧
  app 5 1 1 (zc Try.prog 5) t39 t41 w fun t42 w =>
  value_bytes_s0 R t42 w)
  (qG Try.prog (bq .eql 3 (.tmp 11) (.const (.int .i64 3)) x11 (.int .i64 3)) w fun t44 =>
  bV t44
  (fa 1 x1 fun t46 =>
  ld1 t46 w fun t47 =>
  cvI .u8 t47 fun t48 =>
  bsl 5 1 1 (zc Try.prog 5) #[(0, t48)] w fun t49 w =>
  app 5 1 1 (zc Try.prog 5) x3 t49 w fun t50 w =>
  value_bytes_s0 R t50 w)
  (value_bytes_s0 R x3 w))

theorem value_bytes_s4_eq (R : Value → World → Prop) : ∀ e w, lift Try.prog 53 (sub (bodyOf Try.f81) [1, 1, 0, 1, 0, 1, 1]) (blockK 0 (seqK (fun e w => value_bytes_s0 R (e 3) w) (finK Try.prog Try.f81.results.toList R))) e w = value_bytes_s4 R (e 1) (e 3) (e 11) w := fun e w => by kernel_rfl

def value_bytes_s5 (R : Value → World → Prop) (x1 x3 x11 x12 : Value) (w : World) : Prop :=
  bV x12 (value_bytes_s3 R x1 x3 w) (value_bytes_s4 R x1 x3 x11 w)

theorem value_bytes_s5_eq (R : Value → World → Prop) : ∀ e w, lift Try.prog 53 (sub (bodyOf Try.f81) [1, 1, 0, 1, 0, 1]) (blockK 0 (seqK (fun e w => value_bytes_s0 R (e 3) w) (finK Try.prog Try.f81.results.toList R))) e w = value_bytes_s5 R (e 1) (e 3) (e 11) (e 12) w := fun e w => (cond_seg (value_bytes_s3_eq R) (value_bytes_s4_eq R) e w).trans (by kernel_rfl)

def value_bytes_s6 (R : Value → World → Prop) (x1 x3 x11 : Value) (w : World) : Prop :=
  qG Try.prog (bq .eql 3 (.tmp 11) (.const (.int .i64 1)) x11 (.int .i64 1)) w fun t13 =>
  value_bytes_s5 R x1 x3 x11 t13 w

theorem value_bytes_s6_eq (R : Value → World → Prop) : ∀ e w, lift Try.prog 53 (sub (bodyOf Try.f81) [1, 1, 0, 1, 0]) (blockK 0 (seqK (fun e w => value_bytes_s0 R (e 3) w) (finK Try.prog Try.f81.results.toList R))) e w = value_bytes_s6 R (e 1) (e 3) (e 11) w :=
  segs_eq (l := [(sub (bodyOf Try.f81) [1, 1, 0, 1, 0, 0])]) (y := (sub (bodyOf Try.f81) [1, 1, 0, 1, 0, 1])) (Y := (fun e w => value_bytes_s5 R (e 1) (e 3) (e 11) (e 12) w)) (value_bytes_s5_eq R) (fun e w => by kernel_rfl)

def value_bytes_s7 (R : Value → World → Prop) (x1 x3 : Value) (w : World) : Prop :=
  fa 0 x1 fun t10 =>
  ld1 t10 w fun t11 =>
  value_bytes_s6 R x1 x3 t11 w

theorem value_bytes_s7_eq (R : Value → World → Prop) : ∀ e w, lift Try.prog 53 (sub (bodyOf Try.f81) [1, 1, 0]) (seqK (fun e w => value_bytes_s0 R (e 3) w) (finK Try.prog Try.f81.results.toList R)) e w = value_bytes_s7 R (e 1) (e 3) w :=
  segs_eq (l := [(sub (bodyOf Try.f81) [1, 1, 0, 0])]) (y := (sub (bodyOf Try.f81) [1, 1, 0, 1])) (Y := (fun e w => value_bytes_s6 R (e 1) (e 3) (e 11) w)) (value_bytes_s6_eq R) (fun e w => by kernel_rfl)

def value_bytes_s8 (R : Value → World → Prop) (x0 : Value) (w : World) : Prop :=
  newG (Value.cells x0) 79 w fun t1 w =>
  fa 0 t1 fun t6 =>
  ld1 t6 w fun t7 =>
  cvI .u8 t7 fun t8 =>
  bsl 5 1 1 (zc Try.prog 5) #[(0, t8)] w fun t9 w =>
  value_bytes_s7 R t1 t9 w

theorem value_bytes_s8_eq (R : Value → World → Prop) : ∀ e w, lift Try.prog 53 (bodyOf Try.f81) (finK Try.prog Try.f81.results.toList R) e w = value_bytes_s8 R (e 0) w :=
  segs_eq (l := [(sub (bodyOf Try.f81) [0]), (sub (bodyOf Try.f81) [1, 0])]) (y := (sub (bodyOf Try.f81) [1, 1])) (Y := (fun e w => value_bytes_s7 R (e 1) (e 3) w)) (seq_seg (x := (sub (bodyOf Try.f81) [1, 1, 0])) (y := (sub (bodyOf Try.f81) [1, 1, 1])) (value_bytes_s0_eq R) (value_bytes_s7_eq R)) (fun e w => by kernel_rfl)

def value_bytes (R : Value → World → Prop) (x0 : Value) (w : World) : Prop := value_bytes_s8 R x0 w
theorem value_bytes_call {R : Value → World → Prop} {x0 : Value} {w : World} (h : value_bytes R x0 w) : callG Try.prog 81 #[x0] w R :=
  calls_lift_eq Try.mixed Try.func81 (args := [x0]) rfl rfl rfl rfl ((value_bytes_s8_eq R) (envOf [x0]) w) (by kernel_rfl) h
/-! quayside/quaysideref05.bytes -/
def ref05_bytes_s0 (R : Value → World → Prop) (x3 : Value) (w : World) : Prop :=
  cvBS x3 w fun t58 =>
  R t58 w

theorem ref05_bytes_s0_eq (R : Value → World → Prop) : ∀ e w, lift Try.prog 59 (sub (bodyOf Try.f84) [1, 1, 1]) (finK Try.prog Try.f84.results.toList R) e w = ref05_bytes_s0 R (e 3) w := fun e w => by kernel_rfl

def ref05_bytes_b1 (R : Value → World → Prop) (N1 : List Value → World → Prop) (x1 x3 x4 : Value) (w : World) : Prop :=
  qG Try.prog (bq .geq 3 (.tmp 15) (.const (.int .i64 0)) x4 (.int .i64 0)) w fun t16 =>
  bV t16
  (fa 1 x1 fun t19 =>
  ld1 t19 w fun t20 =>
  qG Try.prog (bq .mul 3 (.const (.int .i64 8)) (.tmp 21) (.int .i64 8) x4) w fun t22 =>
  qG Try.prog (bq .shr 3 (.tmp 20) (.tmp 22) t20 t22) w fun t23 =>
  qG Try.prog (bq .and 3 (.tmp 23) (.const (.int .i64 255)) t23 (.int .i64 255)) w fun t24 =>
  cvI .u8 t24 fun t25 =>
  qG Try.prog (bq .eql 3 (.tmp 26) (.const (.int .i64 7)) x4 (.int .i64 7)) w fun t27 =>
  bV t27
  (qG Try.prog (bq .xor 5 (.tmp 28) (.const (.int .u8 128)) t25 (.int .u8 128)) w fun t29 =>
  bsl 5 1 1 (zc Try.prog 5) #[(0, t29)] w fun t32 w =>
  app 5 1 1 (zc Try.prog 5) x3 t32 w fun t33 w =>
  qG Try.prog (bq .sub 3 (.tmp 17) (.const (.int .i64 1)) x4 (.int .i64 1)) w fun t18 =>
  N1 [x1, t33, t18] w)
  (bsl 5 1 1 (zc Try.prog 5) #[(0, t25)] w fun t32_1 w =>
  app 5 1 1 (zc Try.prog 5) x3 t32_1 w fun t33_1 w =>
  qG Try.prog (bq .sub 3 (.tmp 17) (.const (.int .i64 1)) x4 (.int .i64 1)) w fun t18_1 =>
  N1 [x1, t33_1, t18_1] w))
  (ref05_bytes_s0 R x3 w)

theorem ref05_bytes_b1_eq (R : Value → World → Prop) (N1 : List Value → World → Prop) : ∀ e w, lift Try.prog 59 (sub (bodyOf Try.f84) [1, 1, 0, 1, 0, 1, 0, 1, 0, 0]) (seqK (fun e w => N1 [e 1, e 3, e 4] w) (blockK 1 (blockK 0 (seqK (fun e w => ref05_bytes_s0 R (e 3) w) (finK Try.prog Try.f84.results.toList R))))) e w = ref05_bytes_b1 R N1 (e 1) (e 3) (e 4) w := fun e w => by kernel_rfl

def ref05_bytes_L2F (R : Value → World → Prop) (N1 : List Value → World → Prop) (xs : List Value) (w : World) : Prop :=
  match xs with
  | [x1, x3, x4] => ref05_bytes_b1 R N1 x1 x3 x4 w
  | _ => False

def ref05_bytes_L2 (R : Value → World → Prop) (x1 x3 x4 : Value) (w : World) : Prop :=
  ∃ m, loopV (ref05_bytes_L2F R) m [x1, x3, x4] w

theorem ref05_bytes_L2_eq (R : Value → World → Prop) : ∀ e w, lift Try.prog 59 (sub (bodyOf Try.f84) [1, 1, 0, 1, 0, 1, 0, 1, 0]) (blockK 1 (blockK 0 (seqK (fun e w => ref05_bytes_s0 R (e 3) w) (finK Try.prog Try.f84.results.toList R)))) e w = ref05_bytes_L2 R (e 1) (e 3) (e 4) w := loop_seg (F := ref05_bytes_L2F R) (sel := fun e => [e 1, e 3, e 4]) fun N1 => (ref05_bytes_b1_eq R N1)

def ref05_bytes_s3 (R : Value → World → Prop) (x1 x3 : Value) (w : World) : Prop :=
  ref05_bytes_L2 R x1 x3 (.int .i64 7) w

theorem ref05_bytes_s3_eq (R : Value → World → Prop) : ∀ e w, lift Try.prog 59 (sub (bodyOf Try.f84) [1, 1, 0, 1, 0, 1, 0]) (blockK 0 (seqK (fun e w => ref05_bytes_s0 R (e 3) w) (finK Try.prog Try.f84.results.toList R))) e w = ref05_bytes_s3 R (e 1) (e 3) w :=
  segs_eq (l := [(sub (bodyOf Try.f84) [1, 1, 0, 1, 0, 1, 0, 0])]) (y := (sub (bodyOf Try.f84) [1, 1, 0, 1, 0, 1, 0, 1])) (Y := (fun e w => ref05_bytes_L2 R (e 1) (e 3) (e 4) w)) (ref05_bytes_L2_eq R) (fun e w => by kernel_rfl)

def ref05_bytes_s4 (R : Value → World → Prop) (x1 x3 x12 : Value) (w : World) : Prop :=
  qG Try.prog (bq .eql 3 (.tmp 12) (.const (.int .i64 2)) x12 (.int .i64 2)) w fun t35 =>
  bV t35
  (fa 2 x1 fun t37 =>
  ld1 t37 w fun t38 =>
  lenS t38 fun t39 =>
  qG Try.prog (bq .and 3 (.tmp 39) (.const (.int .i64 255)) t39 (.int .i64 255)) w fun t40 =>
  cvI .u8 t40 fun t41 =>
  bsl 5 1 1 (zc Try.prog 5) #[(0, t41)] w fun t42 w =>
  app 5 1 1 (zc Try.prog 5) x3 t42 w fun t43 w =>
  fa 2 x1 fun t45 =>
  ld1 t45 w fun t46 =>
  app 5 1 1 (zc Try.prog 5) t43 t46 w fun t47 w =>
  ref05_bytes_s0 R t47 w)
  (qG Try.prog (bq .eql 3 (.tmp 12) (.const (.int .i64 3)) x12 (.int .i64 3)) w fun t49 =>
  bV t49
  (fa 1 x1 fun t51 =>
  ld1 t51 w fun t52 =>
  qG Try.prog (bq .and 3 (.tmp 52) (.const (.int .i64 255)) t52 (.int .i64 255)) w fun t53 =>
  cvI .u8 t53 fun t54 =>
  bsl 5 1 1 (zc Try.prog 5) #[(0, t54)] w fun t55 w =>
  app 5 1 1 (zc Try.prog 5) x3 t55 w fun t56 w =>
  ref05_bytes_s0 R t56 w)
  (ref05_bytes_s0 R x3 w))

theorem ref05_bytes_s4_eq (R : Value → World → Prop) : ∀ e w, lift Try.prog 59 (sub (bodyOf Try.f84) [1, 1, 0, 1, 0, 1, 1]) (blockK 0 (seqK (fun e w => ref05_bytes_s0 R (e 3) w) (finK Try.prog Try.f84.results.toList R))) e w = ref05_bytes_s4 R (e 1) (e 3) (e 12) w := fun e w => by kernel_rfl

def ref05_bytes_s5 (R : Value → World → Prop) (x1 x3 x12 x13 : Value) (w : World) : Prop :=
  bV x13 (ref05_bytes_s3 R x1 x3 w) (ref05_bytes_s4 R x1 x3 x12 w)

theorem ref05_bytes_s5_eq (R : Value → World → Prop) : ∀ e w, lift Try.prog 59 (sub (bodyOf Try.f84) [1, 1, 0, 1, 0, 1]) (blockK 0 (seqK (fun e w => ref05_bytes_s0 R (e 3) w) (finK Try.prog Try.f84.results.toList R))) e w = ref05_bytes_s5 R (e 1) (e 3) (e 12) (e 13) w := fun e w => (cond_seg (ref05_bytes_s3_eq R) (ref05_bytes_s4_eq R) e w).trans (by kernel_rfl)

def ref05_bytes_s6 (R : Value → World → Prop) (x1 x3 x12 : Value) (w : World) : Prop :=
  qG Try.prog (bq .eql 3 (.tmp 12) (.const (.int .i64 1)) x12 (.int .i64 1)) w fun t14 =>
  ref05_bytes_s5 R x1 x3 x12 t14 w

theorem ref05_bytes_s6_eq (R : Value → World → Prop) : ∀ e w, lift Try.prog 59 (sub (bodyOf Try.f84) [1, 1, 0, 1, 0]) (blockK 0 (seqK (fun e w => ref05_bytes_s0 R (e 3) w) (finK Try.prog Try.f84.results.toList R))) e w = ref05_bytes_s6 R (e 1) (e 3) (e 12) w :=
  segs_eq (l := [(sub (bodyOf Try.f84) [1, 1, 0, 1, 0, 0])]) (y := (sub (bodyOf Try.f84) [1, 1, 0, 1, 0, 1])) (Y := (fun e w => ref05_bytes_s5 R (e 1) (e 3) (e 12) (e 13) w)) (ref05_bytes_s5_eq R) (fun e w => by kernel_rfl)

def ref05_bytes_s7 (R : Value → World → Prop) (x1 x3 : Value) (w : World) : Prop :=
  fa 0 x1 fun t11 =>
  ld1 t11 w fun t12 =>
  ref05_bytes_s6 R x1 x3 t12 w

theorem ref05_bytes_s7_eq (R : Value → World → Prop) : ∀ e w, lift Try.prog 59 (sub (bodyOf Try.f84) [1, 1, 0]) (seqK (fun e w => ref05_bytes_s0 R (e 3) w) (finK Try.prog Try.f84.results.toList R)) e w = ref05_bytes_s7 R (e 1) (e 3) w :=
  segs_eq (l := [(sub (bodyOf Try.f84) [1, 1, 0, 0])]) (y := (sub (bodyOf Try.f84) [1, 1, 0, 1])) (Y := (fun e w => ref05_bytes_s6 R (e 1) (e 3) (e 12) w)) (ref05_bytes_s6_eq R) (fun e w => by kernel_rfl)

def ref05_bytes_s8 (R : Value → World → Prop) (x0 : Value) (w : World) : Prop :=
  newG (Value.cells x0) 79 w fun t1 w =>
  fa 0 t1 fun t6 =>
  ld1 t6 w fun t7 =>
  qG Try.prog (bq .and 3 (.tmp 7) (.const (.int .i64 255)) t7 (.int .i64 255)) w fun t8 =>
  cvI .u8 t8 fun t9 =>
  bsl 5 1 1 (zc Try.prog 5) #[(0, t9)] w fun t10 w =>
  ref05_bytes_s7 R t1 t10 w

theorem ref05_bytes_s8_eq (R : Value → World → Prop) : ∀ e w, lift Try.prog 59 (bodyOf Try.f84) (finK Try.prog Try.f84.results.toList R) e w = ref05_bytes_s8 R (e 0) w :=
  segs_eq (l := [(sub (bodyOf Try.f84) [0]), (sub (bodyOf Try.f84) [1, 0])]) (y := (sub (bodyOf Try.f84) [1, 1])) (Y := (fun e w => ref05_bytes_s7 R (e 1) (e 3) w)) (seq_seg (x := (sub (bodyOf Try.f84) [1, 1, 0])) (y := (sub (bodyOf Try.f84) [1, 1, 1])) (ref05_bytes_s0_eq R) (ref05_bytes_s7_eq R)) (fun e w => by kernel_rfl)

def ref05_bytes (R : Value → World → Prop) (x0 : Value) (w : World) : Prop := ref05_bytes_s8 R x0 w
theorem ref05_bytes_call {R : Value → World → Prop} {x0 : Value} {w : World} (h : ref05_bytes R x0 w) : callG Try.prog 84 #[x0] w R :=
  calls_lift_eq Try.mixed Try.func84 (args := [x0]) rfl rfl rfl rfl ((ref05_bytes_s8_eq R) (envOf [x0]) w) (by kernel_rfl) h
/-! quayside/value.Put -/
def value_Put_s0 (R : Value → World → Prop) (x4 : Value) (w : World) : Prop :=
  callG Try.prog 82 #[x4] w fun t30 w =>
  R (.tuple #[t30, (.int .i64 0)]) w

theorem value_Put_s0_eq (R : Value → World → Prop) : ∀ e w, lift Try.prog 31 (sub (bodyOf Try.f46) [1, 1, 1, 1, 1]) (finK Try.prog Try.f46.results.toList R) e w = value_Put_s0 R (e 4) w := fun e w => by kernel_rfl

def value_Put_b1 (R : Value → World → Prop) (N1 : List Value → World → Prop) (x4 x15 x16 x17 : Value) (w : World) : Prop :=
  qG Try.prog (bq .lss 3 (.tmp 17) (.tmp 16) x17 x16) w fun t18 =>
  bV t18
  (ia 3 x15 x17 fun t19 =>
  ldn 3 t19 w fun t20 =>
  newG (zc Try.prog 79) 79 w fun t6 w =>
  stn 3 t6 t20 w fun w =>
  ldn 3 t6 w fun t21 =>
  callG Try.prog 79 #[t21] w fun t22 w =>
  qG Try.prog (bq .neq 26 (.tmp 23) (.const (.int .i64 0)) t22 (.int .i64 0)) w fun t24 =>
  bV t24
  (R (.tuple #[(.string ⟨#[]⟩), t22]) w)
  (ldn 3 t6 w fun t26 =>
  callG Try.prog 81 #[t26] w fun t27 w =>
  callG Try.prog 80 #[x4, t27] w fun t28 w =>
  qG Try.prog (bq .add 3 (.tmp 17) (.const (.int .i64 1)) x17 (.int .i64 1)) w fun t29 =>
  N1 [x4, x15, x16, t29] w))
  (value_Put_s0 R x4 w)

theorem value_Put_b1_eq (R : Value → World → Prop) (N1 : List Value → World → Prop) : ∀ e w, lift Try.prog 31 (sub (bodyOf Try.f46) [1, 1, 1, 1, 0, 1, 0, 0]) (seqK (fun e w => N1 [e 4, e 15, e 16, e 17] w) (blockK 0 (seqK (fun e w => value_Put_s0 R (e 4) w) (finK Try.prog Try.f46.results.toList R)))) e w = value_Put_b1 R N1 (e 4) (e 15) (e 16) (e 17) w := fun e w => by kernel_rfl

def value_Put_L2F (R : Value → World → Prop) (N1 : List Value → World → Prop) (xs : List Value) (w : World) : Prop :=
  match xs with
  | [x4, x15, x16, x17] => value_Put_b1 R N1 x4 x15 x16 x17 w
  | _ => False

def value_Put_L2 (R : Value → World → Prop) (x4 x15 x16 x17 : Value) (w : World) : Prop :=
  ∃ m, loopV (value_Put_L2F R) m [x4, x15, x16, x17] w

theorem value_Put_L2_eq (R : Value → World → Prop) : ∀ e w, lift Try.prog 31 (sub (bodyOf Try.f46) [1, 1, 1, 1, 0, 1, 0]) (blockK 0 (seqK (fun e w => value_Put_s0 R (e 4) w) (finK Try.prog Try.f46.results.toList R))) e w = value_Put_L2 R (e 4) (e 15) (e 16) (e 17) w := loop_seg (F := value_Put_L2F R) (sel := fun e => [e 4, e 15, e 16, e 17]) fun N1 => (value_Put_b1_eq R N1)

def value_Put_s3 (R : Value → World → Prop) (x0 x4 : Value) (w : World) : Prop :=
  lenL x0 fun t16 =>
  value_Put_L2 R x4 x0 t16 (.int .i64 0) w

theorem value_Put_s3_eq (R : Value → World → Prop) : ∀ e w, lift Try.prog 31 (sub (bodyOf Try.f46) [1, 1, 1, 1, 0]) (seqK (fun e w => value_Put_s0 R (e 4) w) (finK Try.prog Try.f46.results.toList R)) e w = value_Put_s3 R (e 0) (e 4) w :=
  segs_eq (l := [(sub (bodyOf Try.f46) [1, 1, 1, 1, 0, 0])]) (y := (sub (bodyOf Try.f46) [1, 1, 1, 1, 0, 1])) (Y := (fun e w => value_Put_L2 R (e 4) (e 15) (e 16) (e 17) w)) (value_Put_L2_eq R) (fun e w => by kernel_rfl)

def value_Put_s4 (R : Value → World → Prop) (x0 : Value) (w : World) : Prop :=
  lenL x0 fun t9 =>
  qG Try.prog (bq .gtr 3 (.tmp 9) (.const (.int .i64 255)) t9 (.int .i64 255)) w fun t10 =>
  bV t10
  (R (.tuple #[(.string ⟨#[]⟩), (.int .i64 1)]) w)
  (newG (zc Try.prog 102) 102 w fun t4 w =>
  lenL x0 fun t12 =>
  cvI .u8 t12 fun t13 =>
  callG Try.prog 78 #[t4, t13] w fun t14 w =>
  value_Put_s3 R x0 t4 w)

theorem value_Put_s4_eq (R : Value → World → Prop) : ∀ e w, lift Try.prog 31 (bodyOf Try.f46) (finK Try.prog Try.f46.results.toList R) e w = value_Put_s4 R (e 0) w :=
  segs_eq (l := [(sub (bodyOf Try.f46) [0]), (sub (bodyOf Try.f46) [1, 0]), (sub (bodyOf Try.f46) [1, 1, 0]), (sub (bodyOf Try.f46) [1, 1, 1, 0])]) (y := (sub (bodyOf Try.f46) [1, 1, 1, 1])) (Y := (fun e w => value_Put_s3 R (e 0) (e 4) w)) (seq_seg (x := (sub (bodyOf Try.f46) [1, 1, 1, 1, 0])) (y := (sub (bodyOf Try.f46) [1, 1, 1, 1, 1])) (value_Put_s0_eq R) (value_Put_s3_eq R)) (fun e w => by kernel_rfl)

def value_Put (R : Value → World → Prop) (x0 : Value) (w : World) : Prop := value_Put_s4 R x0 w
theorem value_Put_call {R : Value → World → Prop} {x0 : Value} {w : World} (h : value_Put R x0 w) : callG Try.prog 46 #[x0] w R :=
  calls_lift_eq Try.mixed Try.func46 (args := [x0]) rfl rfl rfl rfl ((value_Put_s4_eq R) (envOf [x0]) w) (by kernel_rfl) h
/-! quayside/quaysideref05.Put -/
def ref05_Put_s0 (R : Value → World → Prop) (x4 : Value) (w : World) : Prop :=
  cvBS x4 w fun t33 =>
  R (.tuple #[t33, (.int .i64 0)]) w

theorem ref05_Put_s0_eq (R : Value → World → Prop) : ∀ e w, lift Try.prog 34 (sub (bodyOf Try.f51) [1, 1, 1, 1]) (finK Try.prog Try.f51.results.toList R) e w = ref05_Put_s0 R (e 4) w := fun e w => by kernel_rfl

def ref05_Put_b1 (R : Value → World → Prop) (N1 : List Value → World → Prop) (x0 x4 x5 : Value) (w : World) : Prop :=
  lenL x0 fun t15 =>
  qG Try.prog (bq .lss 3 (.tmp 13) (.tmp 15) x5 t15) w fun t16 =>
  bV t16
  (ia 3 x0 x5 fun t21 =>
  ldn 3 t21 w fun t22 =>
  callG Try.prog 83 #[t22] w fun t23 w =>
  qG Try.prog (Op.unary .not t23) w fun t24 =>
  bV t24
  (R (.tuple #[(.string ⟨#[]⟩), (.int .i64 1)]) w)
  (ia 3 x0 x5 fun t28 =>
  ldn 3 t28 w fun t29 =>
  callG Try.prog 84 #[t29] w fun t30 w =>
  app 5 1 1 (zc Try.prog 5) x4 t30 w fun t31 w =>
  qG Try.prog (bq .add 3 (.tmp 17) (.const (.int .i64 1)) x5 (.int .i64 1)) w fun t18 =>
  N1 [x0, t31, t18] w))
  (ref05_Put_s0 R x4 w)

theorem ref05_Put_b1_eq (R : Value → World → Prop) (N1 : List Value → World → Prop) : ∀ e w, lift Try.prog 34 (sub (bodyOf Try.f51) [1, 1, 1, 0, 1, 0, 0]) (seqK (fun e w => N1 [e 0, e 4, e 5] w) (blockK 0 (seqK (fun e w => ref05_Put_s0 R (e 4) w) (finK Try.prog Try.f51.results.toList R)))) e w = ref05_Put_b1 R N1 (e 0) (e 4) (e 5) w := fun e w => by kernel_rfl

def ref05_Put_L2F (R : Value → World → Prop) (N1 : List Value → World → Prop) (xs : List Value) (w : World) : Prop :=
  match xs with
  | [x0, x4, x5] => ref05_Put_b1 R N1 x0 x4 x5 w
  | _ => False

def ref05_Put_L2 (R : Value → World → Prop) (x0 x4 x5 : Value) (w : World) : Prop :=
  ∃ m, loopV (ref05_Put_L2F R) m [x0, x4, x5] w

theorem ref05_Put_L2_eq (R : Value → World → Prop) : ∀ e w, lift Try.prog 34 (sub (bodyOf Try.f51) [1, 1, 1, 0, 1, 0]) (blockK 0 (seqK (fun e w => ref05_Put_s0 R (e 4) w) (finK Try.prog Try.f51.results.toList R))) e w = ref05_Put_L2 R (e 0) (e 4) (e 5) w := loop_seg (F := ref05_Put_L2F R) (sel := fun e => [e 0, e 4, e 5]) fun N1 => (ref05_Put_b1_eq R N1)

def ref05_Put_s3 (R : Value → World → Prop) (x0 x4 : Value) (w : World) : Prop :=
  ref05_Put_L2 R x0 x4 (.int .i64 0) w

theorem ref05_Put_s3_eq (R : Value → World → Prop) : ∀ e w, lift Try.prog 34 (sub (bodyOf Try.f51) [1, 1, 1, 0]) (seqK (fun e w => ref05_Put_s0 R (e 4) w) (finK Try.prog Try.f51.results.toList R)) e w = ref05_Put_s3 R (e 0) (e 4) w :=
  segs_eq (l := [(sub (bodyOf Try.f51) [1, 1, 1, 0, 0])]) (y := (sub (bodyOf Try.f51) [1, 1, 1, 0, 1])) (Y := (fun e w => ref05_Put_L2 R (e 0) (e 4) (e 5) w)) (ref05_Put_L2_eq R) (fun e w => by kernel_rfl)

def ref05_Put_s4 (R : Value → World → Prop) (x0 : Value) (w : World) : Prop :=
  lenL x0 fun t7 =>
  qG Try.prog (bq .gtr 3 (.tmp 7) (.const (.int .i64 255)) t7 (.int .i64 255)) w fun t8 =>
  bV t8
  (R (.tuple #[(.string ⟨#[]⟩), (.int .i64 1)]) w)
  (lenL x0 fun t10 =>
  cvI .u8 t10 fun t11 =>
  bsl 5 1 1 (zc Try.prog 5) #[(0, t11)] w fun t12 w =>
  ref05_Put_s3 R x0 t12 w)

theorem ref05_Put_s4_eq (R : Value → World → Prop) : ∀ e w, lift Try.prog 34 (bodyOf Try.f51) (finK Try.prog Try.f51.results.toList R) e w = ref05_Put_s4 R (e 0) w :=
  segs_eq (l := [(sub (bodyOf Try.f51) [0]), (sub (bodyOf Try.f51) [1, 0]), (sub (bodyOf Try.f51) [1, 1, 0])]) (y := (sub (bodyOf Try.f51) [1, 1, 1])) (Y := (fun e w => ref05_Put_s3 R (e 0) (e 4) w)) (seq_seg (x := (sub (bodyOf Try.f51) [1, 1, 1, 0])) (y := (sub (bodyOf Try.f51) [1, 1, 1, 1])) (ref05_Put_s0_eq R) (ref05_Put_s3_eq R)) (fun e w => by kernel_rfl)

def ref05_Put (R : Value → World → Prop) (x0 : Value) (w : World) : Prop := ref05_Put_s4 R x0 w
theorem ref05_Put_call {R : Value → World → Prop} {x0 : Value} {w : World} (h : ref05_Put R x0 w) : callG Try.prog 51 #[x0] w R :=
  calls_lift_eq Try.mixed Try.func51 (args := [x0]) rfl rfl rfl rfl ((ref05_Put_s4_eq R) (envOf [x0]) w) (by kernel_rfl) h
/-! quayside/value.one -/
def value_one_s0 (R : Value → World → Prop) (x0 x2 x5 x6 : Value) (w : World) : Prop :=
  ldn 3 x5 (World.drew w) fun t76 =>
  slS x0 (some x6) none fun t79 =>
  ldn 3 x5 (World.drew w) fun t80 =>
  callG Try.prog 79 #[t80] (World.drew w) fun t81 w =>
  ldn 3 x5 w (fun u => u = t76) ∧
  qG Try.prog (bq .eql 26 (.tmp 81) (.const (.int .i64 0)) t81 (.int .i64 0)) w fun t82 =>
  stn 3 x2 t76 w fun w =>
  stb Try.prog (bq .eql 26 (.tmp 81) (.const (.int .i64 0)) t81 (.int .i64 0)) t82 w ∧
  qG Try.prog (do loadVar 79 (← asAddr x2)) w fun r2 =>
  R (.tuple #[r2, t79, t82]) w

theorem value_one_s0_eq (R : Value → World → Prop) : ∀ e w, lift Try.prog 83 (sub (bodyOf Try.f85) [1, 1, 1, 1, 1, 1, 1, 1]) (finK Try.prog Try.f85.results.toList R) e w = value_one_s0 R (e 0) (e 2) (e 5) (e 6) w := fun e w => by kernel_rfl

def value_one_s1 (R : Value → World → Prop) (x0 x2 x5 x6 x7 : Value) (w : World) : Prop :=
  qG Try.prog (bq .xor 135 (.tmp 50) (.const (.int .u64 9223372036854775808)) x7 (.int .u64 9223372036854775808)) w fun t51 =>
  cvI .i64 t51 fun t52 =>
  fa 1 x5 fun t53 =>
  st1 t53 t52 w fun w =>
  value_one_s0 R x0 x2 x5 x6 w

theorem value_one_s1_eq (R : Value → World → Prop) : ∀ e w, lift Try.prog 83 (sub (bodyOf Try.f85) [1, 1, 1, 1, 1, 1, 1, 0, 1, 0, 1, 0, 1, 1]) (blockK 1 (seqK (fun e w => value_one_s0 R (e 0) (e 2) (e 5) (e 6) w) (finK Try.prog Try.f85.results.toList R))) e w = value_one_s1 R (e 0) (e 2) (e 5) (e 6) (e 7) w := fun e w => by kernel_rfl

def value_one_b2 (R : Value → World → Prop) (N1 : List Value → World → Prop) (x0 x2 x5 x6 x7 x39 : Value) (w : World) : Prop :=
  qG Try.prog (bq .lss 3 (.tmp 39) (.const (.int .i64 8)) x39 (.int .i64 8)) w fun t40 =>
  bV t40
  (qG Try.prog (bq .shl 135 (.tmp 42) (.const (.int .u64 8)) x7 (.int .u64 8)) w fun t43 =>
  ixS x0 x39 fun t46 =>
  cvI .u64 t46 fun t47 =>
  qG Try.prog (bq .or 135 (.tmp 43) (.tmp 47) t43 t47) w fun t48 =>
  qG Try.prog (bq .add 3 (.tmp 39) (.const (.int .i64 1)) x39 (.int .i64 1)) w fun t49 =>
  N1 [x0, x2, x5, x6, t48, t49] w)
  (value_one_s1 R x0 x2 x5 x6 x7 w)

theorem value_one_b2_eq (R : Value → World → Prop) (N1 : List Value → World → Prop) : ∀ e w, lift Try.prog 83 (sub (bodyOf Try.f85) [1, 1, 1, 1, 1, 1, 1, 0, 1, 0, 1, 0, 1, 0, 1, 0, 0]) (seqK (fun e w => N1 [e 0, e 2, e 5, e 6, e 7, e 39] w) (blockK 2 (seqK (fun e w => value_one_s1 R (e 0) (e 2) (e 5) (e 6) (e 7) w) (blockK 1 (seqK (fun e w => value_one_s0 R (e 0) (e 2) (e 5) (e 6) w) (finK Try.prog Try.f85.results.toList R)))))) e w = value_one_b2 R N1 (e 0) (e 2) (e 5) (e 6) (e 7) (e 39) w := fun e w => by kernel_rfl

def value_one_L3F (R : Value → World → Prop) (N1 : List Value → World → Prop) (xs : List Value) (w : World) : Prop :=
  match xs with
  | [x0, x2, x5, x6, x7, x39] => value_one_b2 R N1 x0 x2 x5 x6 x7 x39 w
  | _ => False

def value_one_L3 (R : Value → World → Prop) (x0 x2 x5 x6 x7 x39 : Value) (w : World) : Prop :=
  ∃ m, loopV (value_one_L3F R) m [x0, x2, x5, x6, x7, x39] w

theorem value_one_L3_eq (R : Value → World → Prop) : ∀ e w, lift Try.prog 83 (sub (bodyOf Try.f85) [1, 1, 1, 1, 1, 1, 1, 0, 1, 0, 1, 0, 1, 0, 1, 0]) (blockK 2 (seqK (fun e w => value_one_s1 R (e 0) (e 2) (e 5) (e 6) (e 7) w) (blockK 1 (seqK (fun e w => value_one_s0 R (e 0) (e 2) (e 5) (e 6) w) (finK Try.prog Try.f85.results.toList R))))) e w = value_one_L3 R (e 0) (e 2) (e 5) (e 6) (e 7) (e 39) w := loop_seg (F := value_one_L3F R) (sel := fun e => [e 0, e 2, e 5, e 6, e 7, e 39]) fun N1 => (value_one_b2_eq R N1)

def value_one_s4 (R : Value → World → Prop) (x0 x2 x5 x6 x7 : Value) (w : World) : Prop :=
  value_one_L3 R x0 x2 x5 x6 x7 (.int .i64 0) w

theorem value_one_s4_eq (R : Value → World → Prop) : ∀ e w, lift Try.prog 83 (sub (bodyOf Try.f85) [1, 1, 1, 1, 1, 1, 1, 0, 1, 0, 1, 0, 1, 0]) (seqK (fun e w => value_one_s1 R (e 0) (e 2) (e 5) (e 6) (e 7) w) (blockK 1 (seqK (fun e w => value_one_s0 R (e 0) (e 2) (e 5) (e 6) w) (finK Try.prog Try.f85.results.toList R)))) e w = value_one_s4 R (e 0) (e 2) (e 5) (e 6) (e 7) w :=
  segs_eq (l := [(sub (bodyOf Try.f85) [1, 1, 1, 1, 1, 1, 1, 0, 1, 0, 1, 0, 1, 0, 0])]) (y := (sub (bodyOf Try.f85) [1, 1, 1, 1, 1, 1, 1, 0, 1, 0, 1, 0, 1, 0, 1])) (Y := (fun e w => value_one_L3 R (e 0) (e 2) (e 5) (e 6) (e 7) (e 39) w)) (value_one_L3_eq R) (fun e w => by kernel_rfl)

def value_one_s5 (R : Value → World → Prop) (x0 x2 x5 x6 : Value) (w : World) : Prop :=
  value_one_s4 R x0 x2 x5 x6 (.int .u64 0) w

theorem value_one_s5_eq (R : Value → World → Prop) : ∀ e w, lift Try.prog 83 (sub (bodyOf Try.f85) [1, 1, 1, 1, 1, 1, 1, 0, 1, 0, 1, 0]) (blockK 1 (seqK (fun e w => value_one_s0 R (e 0) (e 2) (e 5) (e 6) w) (finK Try.prog Try.f85.results.toList R))) e w = value_one_s5 R (e 0) (e 2) (e 5) (e 6) w :=
  segs_eq (l := [(sub (bodyOf Try.f85) [1, 1, 1, 1, 1, 1, 1, 0, 1, 0, 1, 0, 0])]) (y := (sub (bodyOf Try.f85) [1, 1, 1, 1, 1, 1, 1, 0, 1, 0, 1, 0, 1])) (Y := (fun e w => value_one_s4 R (e 0) (e 2) (e 5) (e 6) (e 7) w)) (seq_seg (x := (sub (bodyOf Try.f85) [1, 1, 1, 1, 1, 1, 1, 0, 1, 0, 1, 0, 1, 0])) (y := (sub (bodyOf Try.f85) [1, 1, 1, 1, 1, 1, 1, 0, 1, 0, 1, 0, 1, 1])) (value_one_s1_eq R) (value_one_s4_eq R)) (fun e w => by kernel_rfl)

def value_one_s6 (R : Value → World → Prop) (x0 x2 x5 x6 x36 : Value) (w : World) : Prop :=
  qG Try.prog (bq .eql 3 (.tmp 36) (.const (.int .i64 2)) x36 (.int .i64 2)) w fun t55 =>
  bV t55
  (ixS x0 (.int .i64 0) fun t58 =>
  cvI .i64 t58 fun t59 =>
  qG Try.prog (bq .add 3 (.tmp 56) (.tmp 59) x6 t59) w fun t60 =>
  lenS x0 fun t62 =>
  qG Try.prog (bq .lss 3 (.tmp 62) (.tmp 63) t62 t60) w fun t64 =>
  bV t64
  (ldn 3 x5 w fun t65 =>
  stn 3 x2 t65 w fun w =>
  qG Try.prog (do loadVar 79 (← asAddr x2)) w fun r2 =>
  R (.tuple #[r2, (.string ⟨#[]⟩), (.bool false)]) w)
  (slS x0 (some (.int .i64 1)) (some t60) fun t68 =>
  fa 2 x5 fun t69 =>
  st1 t69 t68 w fun w =>
  value_one_s0 R x0 x2 x5 t60 w))
  (qG Try.prog (bq .eql 3 (.tmp 36) (.const (.int .i64 3)) x36 (.int .i64 3)) w fun t71 =>
  bV t71
  (ixS x0 (.int .i64 0) fun t73 =>
  cvI .i64 t73 fun t74 =>
  fa 1 x5 fun t75 =>
  st1 t75 t74 w fun w =>
  value_one_s0 R x0 x2 x5 x6 w)
  (value_one_s0 R x0 x2 x5 x6 w))

theorem value_one_s6_eq (R : Value → World → Prop) : ∀ e w, lift Try.prog 83 (sub (bodyOf Try.f85) [1, 1, 1, 1, 1, 1, 1, 0, 1, 0, 1, 1]) (blockK 1 (seqK (fun e w => value_one_s0 R (e 0) (e 2) (e 5) (e 6) w) (finK Try.prog Try.f85.results.toList R))) e w = value_one_s6 R (e 0) (e 2) (e 5) (e 6) (e 36) w := fun e w => by kernel_rfl

def value_one_s7 (R : Value → World → Prop) (x0 x2 x5 x6 x36 x37 : Value) (w : World) : Prop :=
  bV x37 (value_one_s5 R x0 x2 x5 x6 w) (value_one_s6 R x0 x2 x5 x6 x36 w)

theorem value_one_s7_eq (R : Value → World → Prop) : ∀ e w, lift Try.prog 83 (sub (bodyOf Try.f85) [1, 1, 1, 1, 1, 1, 1, 0, 1, 0, 1]) (blockK 1 (seqK (fun e w => value_one_s0 R (e 0) (e 2) (e 5) (e 6) w) (finK Try.prog Try.f85.results.toList R))) e w = value_one_s7 R (e 0) (e 2) (e 5) (e 6) (e 36) (e 37) w := fun e w => (cond_seg (value_one_s5_eq R) (value_one_s6_eq R) e w).trans (by kernel_rfl)

def value_one_s8 (R : Value → World → Prop) (x0 x2 x5 x6 x36 : Value) (w : World) : Prop :=
  qG Try.prog (bq .eql 3 (.tmp 36) (.const (.int .i64 1)) x36 (.int .i64 1)) w fun t38 =>
  value_one_s7 R x0 x2 x5 x6 x36 t38 w

theorem value_one_s8_eq (R : Value → World → Prop) : ∀ e w, lift Try.prog 83 (sub (bodyOf Try.f85) [1, 1, 1, 1, 1, 1, 1, 0, 1, 0]) (blockK 1 (seqK (fun e w => value_one_s0 R (e 0) (e 2) (e 5) (e 6) w) (finK Try.prog Try.f85.results.toList R))) e w = value_one_s8 R (e 0) (e 2) (e 5) (e 6) (e 36) w :=
  segs_eq (l := [(sub (bodyOf Try.f85) [1, 1, 1, 1, 1, 1, 1, 0, 1, 0, 0])]) (y := (sub (bodyOf Try.f85) [1, 1, 1, 1, 1, 1, 1, 0, 1, 0, 1])) (Y := (fun e w => value_one_s7 R (e 0) (e 2) (e 5) (e 6) (e 36) (e 37) w)) (value_one_s7_eq R) (fun e w => by kernel_rfl)

def value_one_s9 (R : Value → World → Prop) (x0 x2 x5 x6 : Value) (w : World) : Prop :=
  fa 0 x5 fun t35 =>
  ld1 t35 w fun t36 =>
  value_one_s8 R x0 x2 x5 x6 t36 w

theorem value_one_s9_eq (R : Value → World → Prop) : ∀ e w, lift Try.prog 83 (sub (bodyOf Try.f85) [1, 1, 1, 1, 1, 1, 1, 0]) (seqK (fun e w => value_one_s0 R (e 0) (e 2) (e 5) (e 6) w) (finK Try.prog Try.f85.results.toList R)) e w = value_one_s9 R (e 0) (e 2) (e 5) (e 6) w :=
  segs_eq (l := [(sub (bodyOf Try.f85) [1, 1, 1, 1, 1, 1, 1, 0, 0])]) (y := (sub (bodyOf Try.f85) [1, 1, 1, 1, 1, 1, 1, 0, 1])) (Y := (fun e w => value_one_s8 R (e 0) (e 2) (e 5) (e 6) (e 36) w)) (value_one_s8_eq R) (fun e w => by kernel_rfl)

def value_one_s10 (R : Value → World → Prop) (x0 x2 x5 x6 : Value) (w : World) : Prop :=
  lenS x0 fun t31 =>
  qG Try.prog (bq .lss 3 (.tmp 31) (.tmp 32) t31 x6) w fun t33 =>
  bV t33
  (ldn 3 x5 w fun t34 =>
  stn 3 x2 t34 w fun w =>
  qG Try.prog (do loadVar 79 (← asAddr x2)) w fun r2 =>
  R (.tuple #[r2, (.string ⟨#[]⟩), (.bool false)]) w)
  (value_one_s9 R x0 x2 x5 x6 w)

theorem value_one_s10_eq (R : Value → World → Prop) : ∀ e w, lift Try.prog 83 (sub (bodyOf Try.f85) [1, 1, 1, 1, 1, 1]) (finK Try.prog Try.f85.results.toList R) e w = value_one_s10 R (e 0) (e 2) (e 5) (e 6) w :=
  segs_eq (l := [(sub (bodyOf Try.f85) [1, 1, 1, 1, 1, 1, 0])]) (y := (sub (bodyOf Try.f85) [1, 1, 1, 1, 1, 1, 1])) (Y := (fun e w => value_one_s9 R (e 0) (e 2) (e 5) (e 6) w)) (seq_seg (x := (sub (bodyOf Try.f85) [1, 1, 1, 1, 1, 1, 1, 0])) (y := (sub (bodyOf Try.f85) [1, 1, 1, 1, 1, 1, 1, 1])) (value_one_s0_eq R) (value_one_s9_eq R)) (fun e w => by kernel_rfl)

def value_one_s11 (R : Value → World → Prop) (x0 : Value) (w : World) : Prop :=
  newG (zc Try.prog 79) 79 w fun t2 w =>
  qG Try.prog (bq .eql 9 (.tmp 9) (.const (.string ⟨#[]⟩)) x0 (.string ⟨#[]⟩)) w fun t10 =>
  bV t10
  (bld [(0, 1), (1, 1), (2, 1)] (zc Try.prog 79) #[] fun t11 =>
  stn 3 t2 t11 w fun w =>
  qG Try.prog (do loadVar 79 (← asAddr t2)) w fun r2 =>
  R (.tuple #[r2, (.string ⟨#[]⟩), (.bool false)]) w)
  (ixS x0 (.int .i64 0) fun t13 =>
  cvI .i64 t13 fun t14 =>
  bld [(0, 1), (1, 1), (2, 1)] (zc Try.prog 79) #[(0, t14)] fun t15 =>
  newG (zc Try.prog 79) 79 w fun t5 w =>
  stn 3 t5 t15 w fun w =>
  slS x0 (some (.int .i64 1)) none fun t17 =>
  fa 0 t5 fun t18 =>
  ld1 t18 w fun t19 =>
  qG Try.prog (bq .eql 3 (.tmp 19) (.const (.int .i64 0)) t19 (.int .i64 0)) w fun t22 =>
  bV t22
  (ldn 3 t5 w fun t23 =>
  stn 3 t2 t23 w fun w =>
  qG Try.prog (do loadVar 79 (← asAddr t2)) w fun r2_1 =>
  R (.tuple #[r2_1, t17, (.bool true)]) w)
  (qG Try.prog (bq .eql 3 (.tmp 19) (.const (.int .i64 1)) t19 (.int .i64 1)) w fun t26 =>
  bV t26
  (value_one_s10 R t17 t2 t5 (.int .i64 8) w)
  (qG Try.prog (bq .eql 3 (.tmp 19) (.const (.int .i64 2)) t19 (.int .i64 2)) w fun t28 =>
  bV t28
  (value_one_s10 R t17 t2 t5 (.int .i64 1) w)
  (qG Try.prog (bq .eql 3 (.tmp 19) (.const (.int .i64 3)) t19 (.int .i64 3)) w fun t29 =>
  bV t29
  (value_one_s10 R t17 t2 t5 (.int .i64 1) w)
  (ldn 3 t5 w fun t20 =>
  stn 3 t2 t20 w fun w =>
  qG Try.prog (do loadVar 79 (← asAddr t2)) w fun r2_2 =>
  R (.tuple #[r2_2, (.string ⟨#[]⟩), (.bool false)]) w)))))

theorem value_one_s11_eq (R : Value → World → Prop) : ∀ e w, lift Try.prog 83 (bodyOf Try.f85) (finK Try.prog Try.f85.results.toList R) e w = value_one_s11 R (e 0) w :=
  segs_eq (l := [(sub (bodyOf Try.f85) [0]), (sub (bodyOf Try.f85) [1, 0]), (sub (bodyOf Try.f85) [1, 1, 0]), (sub (bodyOf Try.f85) [1, 1, 1, 0]), (sub (bodyOf Try.f85) [1, 1, 1, 1, 0]), (sub (bodyOf Try.f85) [1, 1, 1, 1, 1, 0])]) (y := (sub (bodyOf Try.f85) [1, 1, 1, 1, 1, 1])) (Y := (fun e w => value_one_s10 R (e 0) (e 2) (e 5) (e 6) w)) (value_one_s10_eq R) (fun e w => by kernel_rfl)

def value_one (R : Value → World → Prop) (x0 : Value) (w : World) : Prop := value_one_s11 R x0 w
theorem value_one_call {R : Value → World → Prop} {x0 : Value} {w : World} (h : value_one R x0 w) : callG Try.prog 85 #[x0] w R :=
  calls_lift_eq Try.mixed Try.func85 (args := [x0]) rfl rfl rfl rfl ((value_one_s11_eq R) (envOf [x0]) w) (by kernel_rfl) h
/-! quayside/quaysideref05.one -/
def ref05_one_s0 (R : Value → World → Prop) (x2 x4 : Value) (w : World) : Prop :=
  ldn 3 x4 w fun t91 =>
  stn 3 x2 t91 w fun w =>
  qG Try.prog (do loadVar 79 (← asAddr x2)) w fun r2 =>
  R (.tuple #[r2, (.int .i64 0)]) w

theorem ref05_one_s0_eq (R : Value → World → Prop) : ∀ e w, lift Try.prog 92 (sub (bodyOf Try.f86) [1, 1, 1, 1]) (finK Try.prog Try.f86.results.toList R) e w = ref05_one_s0 R (e 2) (e 4) w := fun e w => by kernel_rfl

def ref05_one_s1 (R : Value → World → Prop) (x2 x4 : Value) (w : World) : Prop :=
  ldn 3 x4 w fun t17 =>
  stn 3 x2 t17 w fun w =>
  qG Try.prog (do loadVar 79 (← asAddr x2)) w fun r2 =>
  R (.tuple #[r2, (.int .i64 1)]) w

theorem ref05_one_s1_eq (R : Value → World → Prop) : ∀ e w, lift Try.prog 92 (sub (bodyOf Try.f86) [1, 1, 1, 0, 1, 0, 1, 0]) (blockK 0 (seqK (fun e w => ref05_one_s0 R (e 2) (e 4) w) (finK Try.prog Try.f86.results.toList R))) e w = ref05_one_s1 R (e 2) (e 4) w := fun e w => by kernel_rfl

def ref05_one_s2 (R : Value → World → Prop) (x2 x4 : Value) (w : World) : Prop :=
  ldn 3 x4 w fun t42 =>
  stn 3 x2 t42 w fun w =>
  qG Try.prog (do loadVar 79 (← asAddr x2)) w fun r2 =>
  R (.tuple #[r2, (.int .i64 9)]) w

theorem ref05_one_s2_eq (R : Value → World → Prop) : ∀ e w, lift Try.prog 92 (sub (bodyOf Try.f86) [1, 1, 1, 0, 1, 0, 1, 1, 1, 0, 1, 1, 1]) (blockK 0 (seqK (fun e w => ref05_one_s0 R (e 2) (e 4) w) (finK Try.prog Try.f86.results.toList R))) e w = ref05_one_s2 R (e 2) (e 4) w := fun e w => by kernel_rfl

def ref05_one_b3 (R : Value → World → Prop) (N1 : List Value → World → Prop) (x0 x2 x4 x5 : Value) (w : World) : Prop :=
  qG Try.prog (bq .lss 3 (.tmp 29) (.const (.int .i64 9)) x5 (.int .i64 9)) w fun t30 =>
  bV t30
  (fa 1 x4 fun t33 =>
  ld1 t33 (World.drew w) fun t34 =>
  qG Try.prog (bq .shl 3 (.tmp 34) (.const (.int .u64 8)) t34 (.int .u64 8)) (World.drew w) fun t35 =>
  ixS x0 x5 fun t38 =>
  cvI .i64 t38 fun t39 =>
  qG Try.prog (bq .or 3 (.tmp 35) (.tmp 39) t35 t39) (World.drew w) fun t40 =>
  fa 1 x4 fun t41 =>
  st1 t41 t40 (World.drew w) fun w =>
  qG Try.prog (bq .add 3 (.tmp 31) (.const (.int .i64 1)) x5 (.int .i64 1)) w fun t32 =>
  N1 [x0, x2, x4, t32] w)
  (ref05_one_s2 R x2 x4 w)

theorem ref05_one_b3_eq (R : Value → World → Prop) (N1 : List Value → World → Prop) : ∀ e w, lift Try.prog 92 (sub (bodyOf Try.f86) [1, 1, 1, 0, 1, 0, 1, 1, 1, 0, 1, 1, 0, 1, 0, 0]) (seqK (fun e w => N1 [e 0, e 2, e 4, e 5] w) (blockK 1 (seqK (fun e w => ref05_one_s2 R (e 2) (e 4) w) (blockK 0 (seqK (fun e w => ref05_one_s0 R (e 2) (e 4) w) (finK Try.prog Try.f86.results.toList R)))))) e w = ref05_one_b3 R N1 (e 0) (e 2) (e 4) (e 5) w := fun e w => by kernel_rfl

def ref05_one_L4F (R : Value → World → Prop) (N1 : List Value → World → Prop) (xs : List Value) (w : World) : Prop :=
  match xs with
  | [x0, x2, x4, x5] => ref05_one_b3 R N1 x0 x2 x4 x5 w
  | _ => False

def ref05_one_L4 (R : Value → World → Prop) (x0 x2 x4 x5 : Value) (w : World) : Prop :=
  ∃ m, loopV (ref05_one_L4F R) m [x0, x2, x4, x5] w

theorem ref05_one_L4_eq (R : Value → World → Prop) : ∀ e w, lift Try.prog 92 (sub (bodyOf Try.f86) [1, 1, 1, 0, 1, 0, 1, 1, 1, 0, 1, 1, 0, 1, 0]) (blockK 1 (seqK (fun e w => ref05_one_s2 R (e 2) (e 4) w) (blockK 0 (seqK (fun e w => ref05_one_s0 R (e 2) (e 4) w) (finK Try.prog Try.f86.results.toList R))))) e w = ref05_one_L4 R (e 0) (e 2) (e 4) (e 5) w := loop_seg (F := ref05_one_L4F R) (sel := fun e => [e 0, e 2, e 4, e 5]) fun N1 => (ref05_one_b3_eq R N1)

def ref05_one_s5 (R : Value → World → Prop) (x0 x2 x4 : Value) (w : World) : Prop :=
  ref05_one_L4 R x0 x2 x4 (.int .i64 2) w

theorem ref05_one_s5_eq (R : Value → World → Prop) : ∀ e w, lift Try.prog 92 (sub (bodyOf Try.f86) [1, 1, 1, 0, 1, 0, 1, 1, 1, 0, 1, 1, 0]) (seqK (fun e w => ref05_one_s2 R (e 2) (e 4) w) (blockK 0 (seqK (fun e w => ref05_one_s0 R (e 2) (e 4) w) (finK Try.prog Try.f86.results.toList R)))) e w = ref05_one_s5 R (e 0) (e 2) (e 4) w :=
  segs_eq (l := [(sub (bodyOf Try.f86) [1, 1, 1, 0, 1, 0, 1, 1, 1, 0, 1, 1, 0, 0])]) (y := (sub (bodyOf Try.f86) [1, 1, 1, 0, 1, 0, 1, 1, 1, 0, 1, 1, 0, 1])) (Y := (fun e w => ref05_one_L4 R (e 0) (e 2) (e 4) (e 5) w)) (ref05_one_L4_eq R) (fun e w => by kernel_rfl)

def ref05_one_s6 (R : Value → World → Prop) (x0 x2 x4 : Value) (w : World) : Prop :=
  lenS x0 fun t21 =>
  qG Try.prog (bq .lss 3 (.tmp 21) (.const (.int .i64 9)) t21 (.int .i64 9)) w fun t22 =>
  bV t22
  (ldn 3 x4 w fun t23 =>
  stn 3 x2 t23 w fun w =>
  qG Try.prog (do loadVar 79 (← asAddr x2)) w fun r2 =>
  R (.tuple #[r2, (.int .i64 0)]) w)
  (ixS x0 (.int .i64 1) fun t25 =>
  cvI .i64 t25 fun t26 =>
  qG Try.prog (bq .sub 3 (.tmp 26) (.const (.int .i64 128)) t26 (.int .i64 128)) w fun t27 =>
  fa 1 x4 fun t28 =>
  st1 t28 t27 w fun w =>
  ref05_one_s5 R x0 x2 x4 w)

theorem ref05_one_s6_eq (R : Value → World → Prop) : ∀ e w, lift Try.prog 92 (sub (bodyOf Try.f86) [1, 1, 1, 0, 1, 0, 1, 1, 1, 0]) (blockK 0 (seqK (fun e w => ref05_one_s0 R (e 2) (e 4) w) (finK Try.prog Try.f86.results.toList R))) e w = ref05_one_s6 R (e 0) (e 2) (e 4) w :=
  segs_eq (l := [(sub (bodyOf Try.f86) [1, 1, 1, 0, 1, 0, 1, 1, 1, 0, 0]), (sub (bodyOf Try.f86) [1, 1, 1, 0, 1, 0, 1, 1, 1, 0, 1, 0])]) (y := (sub (bodyOf Try.f86) [1, 1, 1, 0, 1, 0, 1, 1, 1, 0, 1, 1])) (Y := (fun e w => ref05_one_s5 R (e 0) (e 2) (e 4) w)) (seq_seg (x := (sub (bodyOf Try.f86) [1, 1, 1, 0, 1, 0, 1, 1, 1, 0, 1, 1, 0])) (y := (sub (bodyOf Try.f86) [1, 1, 1, 0, 1, 0, 1, 1, 1, 0, 1, 1, 1])) (ref05_one_s2_eq R) (ref05_one_s5_eq R)) (fun e w => by kernel_rfl)

def ref05_one_s7 (R : Value → World → Prop) (x0 x2 x4 : Value) (w : World) : Prop :=
  ixS x0 (.int .i64 1) fun t65 =>
  cvI .i64 t65 fun t66 =>
  qG Try.prog (bq .add 3 (.const (.int .i64 2)) (.tmp 66) (.int .i64 2) t66) w fun t67 =>
  slS x0 (some (.int .i64 2)) (some t67) fun t68 =>
  fa 2 x4 fun t69 =>
  st1 t69 t68 w fun w =>
  ldn 3 x4 (World.drew w) fun t70 =>
  fa 2 x4 fun t71 =>
  ld1 t71 (World.drew w) fun t72 =>
  lenS t72 fun t73 =>
  qG Try.prog (bq .add 3 (.const (.int .i64 2)) (.tmp 73) (.int .i64 2) t73) (World.drew w) fun t74 =>
  stn 3 x2 t70 (World.drew w) fun w =>
  stb Try.prog (bq .add 3 (.const (.int .i64 2)) (.tmp 73) (.int .i64 2) t73) t74 w ∧
  ld1 t71 w (fun u => u = t72) ∧
  qG Try.prog (do loadVar 79 (← asAddr x2)) w fun r2 =>
  R (.tuple #[r2, t74]) w

theorem ref05_one_s7_eq (R : Value → World → Prop) : ∀ e w, lift Try.prog 92 (sub (bodyOf Try.f86) [1, 1, 1, 0, 1, 0, 1, 1, 1, 1, 1, 0, 1]) (blockK 0 (seqK (fun e w => ref05_one_s0 R (e 2) (e 4) w) (finK Try.prog Try.f86.results.toList R))) e w = ref05_one_s7 R (e 0) (e 2) (e 4) w := fun e w => by kernel_rfl

def ref05_one_s8 (R : Value → World → Prop) (x0 x2 x4 : Value) (w : World) : Prop :=
  lenS x0 fun t46 =>
  qG Try.prog (bq .lss 3 (.tmp 46) (.const (.int .i64 2)) t46 (.int .i64 2)) w fun t47 =>
  bV t47
  (ldn 3 x4 w fun t62 =>
  stn 3 x2 t62 w fun w =>
  qG Try.prog (do loadVar 79 (← asAddr x2)) w fun r2 =>
  R (.tuple #[r2, (.int .i64 0)]) w)
  (lenS x0 fun t50 =>
  qG Try.prog (bq .sub 3 (.tmp 50) (.const (.int .i64 2)) t50 (.int .i64 2)) w fun t51 =>
  ixS x0 (.int .i64 1) fun t53 =>
  cvI .i64 t53 fun t54 =>
  qG Try.prog (bq .lss 3 (.tmp 51) (.tmp 54) t51 t54) w fun t55 =>
  bV t55
  (ldn 3 x4 w fun t62_1 =>
  stn 3 x2 t62_1 w fun w =>
  qG Try.prog (do loadVar 79 (← asAddr x2)) w fun r2_1 =>
  R (.tuple #[r2_1, (.int .i64 0)]) w)
  (ixS x0 (.int .i64 1) fun t59 =>
  qG Try.prog (bq .gtr 5 (.tmp 59) (.const (.int .u8 64)) t59 (.int .u8 64)) w fun t60 =>
  bV t60
  (ldn 3 x4 w fun t62_2 =>
  stn 3 x2 t62_2 w fun w =>
  qG Try.prog (do loadVar 79 (← asAddr x2)) w fun r2_2 =>
  R (.tuple #[r2_2, (.int .i64 0)]) w)
  (ref05_one_s7 R x0 x2 x4 w)))

theorem ref05_one_s8_eq (R : Value → World → Prop) : ∀ e w, lift Try.prog 92 (sub (bodyOf Try.f86) [1, 1, 1, 0, 1, 0, 1, 1, 1, 1, 1, 0]) (blockK 0 (seqK (fun e w => ref05_one_s0 R (e 2) (e 4) w) (finK Try.prog Try.f86.results.toList R))) e w = ref05_one_s8 R (e 0) (e 2) (e 4) w :=
  segs_eq (l := [(sub (bodyOf Try.f86) [1, 1, 1, 0, 1, 0, 1, 1, 1, 1, 1, 0, 0])]) (y := (sub (bodyOf Try.f86) [1, 1, 1, 0, 1, 0, 1, 1, 1, 1, 1, 0, 1])) (Y := (fun e w => ref05_one_s7 R (e 0) (e 2) (e 4) w)) (ref05_one_s7_eq R) (fun e w => by kernel_rfl)

def ref05_one_s9 (R : Value → World → Prop) (x0 x2 x4 : Value) (w : World) : Prop :=
  ixS x0 (.int .i64 1) fun t87 =>
  cvI .i64 t87 fun t88 =>
  fa 1 x4 fun t89 =>
  st1 t89 t88 w fun w =>
  ldn 3 x4 w fun t90 =>
  stn 3 x2 t90 w fun w =>
  qG Try.prog (do loadVar 79 (← asAddr x2)) w fun r2 =>
  R (.tuple #[r2, (.int .i64 2)]) w

theorem ref05_one_s9_eq (R : Value → World → Prop) : ∀ e w, lift Try.prog 92 (sub (bodyOf Try.f86) [1, 1, 1, 0, 1, 0, 1, 1, 1, 1, 1, 1, 1, 0, 1]) (blockK 0 (seqK (fun e w => ref05_one_s0 R (e 2) (e 4) w) (finK Try.prog Try.f86.results.toList R))) e w = ref05_one_s9 R (e 0) (e 2) (e 4) w := fun e w => by kernel_rfl

def ref05_one_s10 (R : Value → World → Prop) (x0 x2 x4 : Value) (w : World) : Prop :=
  lenS x0 fun t78 =>
  qG Try.prog (bq .lss 3 (.tmp 78) (.const (.int .i64 2)) t78 (.int .i64 2)) w fun t79 =>
  bV t79
  (ldn 3 x4 w fun t85 =>
  stn 3 x2 t85 w fun w =>
  qG Try.prog (do loadVar 79 (← asAddr x2)) w fun r2 =>
  R (.tuple #[r2, (.int .i64 0)]) w)
  (ixS x0 (.int .i64 1) fun t82 =>
  qG Try.prog (bq .gtr 5 (.tmp 82) (.const (.int .u8 1)) t82 (.int .u8 1)) w fun t83 =>
  bV t83
  (ldn 3 x4 w fun t85_1 =>
  stn 3 x2 t85_1 w fun w =>
  qG Try.prog (do loadVar 79 (← asAddr x2)) w fun r2_1 =>
  R (.tuple #[r2_1, (.int .i64 0)]) w)
  (ref05_one_s9 R x0 x2 x4 w))

theorem ref05_one_s10_eq (R : Value → World → Prop) : ∀ e w, lift Try.prog 92 (sub (bodyOf Try.f86) [1, 1, 1, 0, 1, 0, 1, 1, 1, 1, 1, 1, 1, 0]) (blockK 0 (seqK (fun e w => ref05_one_s0 R (e 2) (e 4) w) (finK Try.prog Try.f86.results.toList R))) e w = ref05_one_s10 R (e 0) (e 2) (e 4) w :=
  segs_eq (l := [(sub (bodyOf Try.f86) [1, 1, 1, 0, 1, 0, 1, 1, 1, 1, 1, 1, 1, 0, 0])]) (y := (sub (bodyOf Try.f86) [1, 1, 1, 0, 1, 0, 1, 1, 1, 1, 1, 1, 1, 0, 1])) (Y := (fun e w => ref05_one_s9 R (e 0) (e 2) (e 4) w)) (ref05_one_s9_eq R) (fun e w => by kernel_rfl)

def ref05_one_s11 (R : Value → World → Prop) (x2 x4 : Value) (w : World) : Prop :=
  ref05_one_s0 R x2 x4 w

theorem ref05_one_s11_eq (R : Value → World → Prop) : ∀ e w, lift Try.prog 92 (sub (bodyOf Try.f86) [1, 1, 1, 0, 1, 0, 1, 1, 1, 1, 1, 1, 1, 1]) (blockK 0 (seqK (fun e w => ref05_one_s0 R (e 2) (e 4) w) (finK Try.prog Try.f86.results.toList R))) e w = ref05_one_s11 R (e 2) (e 4) w := fun e w => by kernel_rfl

def ref05_one_s12 (R : Value → World → Prop) (x0 x2 x4 x75 : Value) (w : World) : Prop :=
  bV x75 (ref05_one_s10 R x0 x2 x4 w) (ref05_one_s11 R x2 x4 w)

theorem ref05_one_s12_eq (R : Value → World → Prop) : ∀ e w, lift Try.prog 92 (sub (bodyOf Try.f86) [1, 1, 1, 0, 1, 0, 1, 1, 1, 1, 1, 1, 1]) (blockK 0 (seqK (fun e w => ref05_one_s0 R (e 2) (e 4) w) (finK Try.prog Try.f86.results.toList R))) e w = ref05_one_s12 R (e 0) (e 2) (e 4) (e 75) w := fun e w => (cond_seg (ref05_one_s10_eq R) (ref05_one_s11_eq R) e w).trans (by kernel_rfl)

def ref05_one_s13 (R : Value → World → Prop) (x0 x2 x4 x14 : Value) (w : World) : Prop :=
  qG Try.prog (bq .eql 3 (.tmp 14) (.const (.int .i64 3)) x14 (.int .i64 3)) w fun t76 =>
  ref05_one_s12 R x0 x2 x4 t76 w

theorem ref05_one_s13_eq (R : Value → World → Prop) : ∀ e w, lift Try.prog 92 (sub (bodyOf Try.f86) [1, 1, 1, 0, 1, 0, 1, 1, 1, 1, 1, 1]) (blockK 0 (seqK (fun e w => ref05_one_s0 R (e 2) (e 4) w) (finK Try.prog Try.f86.results.toList R))) e w = ref05_one_s13 R (e 0) (e 2) (e 4) (e 14) w :=
  segs_eq (l := [(sub (bodyOf Try.f86) [1, 1, 1, 0, 1, 0, 1, 1, 1, 1, 1, 1, 0])]) (y := (sub (bodyOf Try.f86) [1, 1, 1, 0, 1, 0, 1, 1, 1, 1, 1, 1, 1])) (Y := (fun e w => ref05_one_s12 R (e 0) (e 2) (e 4) (e 75) w)) (ref05_one_s12_eq R) (fun e w => by kernel_rfl)

def ref05_one_s14 (R : Value → World → Prop) (x0 x2 x4 x14 x43 : Value) (w : World) : Prop :=
  bV x43 (ref05_one_s8 R x0 x2 x4 w) (ref05_one_s13 R x0 x2 x4 x14 w)

theorem ref05_one_s14_eq (R : Value → World → Prop) : ∀ e w, lift Try.prog 92 (sub (bodyOf Try.f86) [1, 1, 1, 0, 1, 0, 1, 1, 1, 1, 1]) (blockK 0 (seqK (fun e w => ref05_one_s0 R (e 2) (e 4) w) (finK Try.prog Try.f86.results.toList R))) e w = ref05_one_s14 R (e 0) (e 2) (e 4) (e 14) (e 43) w := fun e w => (cond_seg (ref05_one_s8_eq R) (ref05_one_s13_eq R) e w).trans (by kernel_rfl)

def ref05_one_s15 (R : Value → World → Prop) (x0 x2 x4 x14 : Value) (w : World) : Prop :=
  qG Try.prog (bq .eql 3 (.tmp 14) (.const (.int .i64 2)) x14 (.int .i64 2)) w fun t44 =>
  ref05_one_s14 R x0 x2 x4 x14 t44 w

theorem ref05_one_s15_eq (R : Value → World → Prop) : ∀ e w, lift Try.prog 92 (sub (bodyOf Try.f86) [1, 1, 1, 0, 1, 0, 1, 1, 1, 1]) (blockK 0 (seqK (fun e w => ref05_one_s0 R (e 2) (e 4) w) (finK Try.prog Try.f86.results.toList R))) e w = ref05_one_s15 R (e 0) (e 2) (e 4) (e 14) w :=
  segs_eq (l := [(sub (bodyOf Try.f86) [1, 1, 1, 0, 1, 0, 1, 1, 1, 1, 0])]) (y := (sub (bodyOf Try.f86) [1, 1, 1, 0, 1, 0, 1, 1, 1, 1, 1])) (Y := (fun e w => ref05_one_s14 R (e 0) (e 2) (e 4) (e 14) (e 43) w)) (ref05_one_s14_eq R) (fun e w => by kernel_rfl)

def ref05_one_s16 (R : Value → World → Prop) (x0 x2 x4 x14 x18 : Value) (w : World) : Prop :=
  bV x18 (ref05_one_s6 R x0 x2 x4 w) (ref05_one_s15 R x0 x2 x4 x14 w)

theorem ref05_one_s16_eq (R : Value → World → Prop) : ∀ e w, lift Try.prog 92 (sub (bodyOf Try.f86) [1, 1, 1, 0, 1, 0, 1, 1, 1]) (blockK 0 (seqK (fun e w => ref05_one_s0 R (e 2) (e 4) w) (finK Try.prog Try.f86.results.toList R))) e w = ref05_one_s16 R (e 0) (e 2) (e 4) (e 14) (e 18) w := fun e w => (cond_seg (ref05_one_s6_eq R) (ref05_one_s15_eq R) e w).trans (by kernel_rfl)

def ref05_one_s17 (R : Value → World → Prop) (x0 x2 x4 x14 : Value) (w : World) : Prop :=
  qG Try.prog (bq .eql 3 (.tmp 14) (.const (.int .i64 1)) x14 (.int .i64 1)) w fun t19 =>
  ref05_one_s16 R x0 x2 x4 x14 t19 w

theorem ref05_one_s17_eq (R : Value → World → Prop) : ∀ e w, lift Try.prog 92 (sub (bodyOf Try.f86) [1, 1, 1, 0, 1, 0, 1, 1]) (blockK 0 (seqK (fun e w => ref05_one_s0 R (e 2) (e 4) w) (finK Try.prog Try.f86.results.toList R))) e w = ref05_one_s17 R (e 0) (e 2) (e 4) (e 14) w :=
  segs_eq (l := [(sub (bodyOf Try.f86) [1, 1, 1, 0, 1, 0, 1, 1, 0])]) (y := (sub (bodyOf Try.f86) [1, 1, 1, 0, 1, 0, 1, 1, 1])) (Y := (fun e w => ref05_one_s16 R (e 0) (e 2) (e 4) (e 14) (e 18) w)) (ref05_one_s16_eq R) (fun e w => by kernel_rfl)

def ref05_one_s18 (R : Value → World → Prop) (x0 x2 x4 x14 x15 : Value) (w : World) : Prop :=
  bV x15 (ref05_one_s1 R x2 x4 w) (ref05_one_s17 R x0 x2 x4 x14 w)

theorem ref05_one_s18_eq (R : Value → World → Prop) : ∀ e w, lift Try.prog 92 (sub (bodyOf Try.f86) [1, 1, 1, 0, 1, 0, 1]) (blockK 0 (seqK (fun e w => ref05_one_s0 R (e 2) (e 4) w) (finK Try.prog Try.f86.results.toList R))) e w = ref05_one_s18 R (e 0) (e 2) (e 4) (e 14) (e 15) w := fun e w => (cond_seg (ref05_one_s1_eq R) (ref05_one_s17_eq R) e w).trans (by kernel_rfl)

def ref05_one_s19 (R : Value → World → Prop) (x0 x2 x4 x14 : Value) (w : World) : Prop :=
  qG Try.prog (bq .eql 3 (.tmp 14) (.const (.int .i64 0)) x14 (.int .i64 0)) w fun t16 =>
  ref05_one_s18 R x0 x2 x4 x14 t16 w

theorem ref05_one_s19_eq (R : Value → World → Prop) : ∀ e w, lift Try.prog 92 (sub (bodyOf Try.f86) [1, 1, 1, 0, 1, 0]) (blockK 0 (seqK (fun e w => ref05_one_s0 R (e 2) (e 4) w) (finK Try.prog Try.f86.results.toList R))) e w = ref05_one_s19 R (e 0) (e 2) (e 4) (e 14) w :=
  segs_eq (l := [(sub (bodyOf Try.f86) [1, 1, 1, 0, 1, 0, 0])]) (y := (sub (bodyOf Try.f86) [1, 1, 1, 0, 1, 0, 1])) (Y := (fun e w => ref05_one_s18 R (e 0) (e 2) (e 4) (e 14) (e 15) w)) (ref05_one_s18_eq R) (fun e w => by kernel_rfl)

def ref05_one_s20 (R : Value → World → Prop) (x0 x2 x4 : Value) (w : World) : Prop :=
  fa 0 x4 fun t13 =>
  ld1 t13 w fun t14 =>
  ref05_one_s19 R x0 x2 x4 t14 w

theorem ref05_one_s20_eq (R : Value → World → Prop) : ∀ e w, lift Try.prog 92 (sub (bodyOf Try.f86) [1, 1, 1, 0]) (seqK (fun e w => ref05_one_s0 R (e 2) (e 4) w) (finK Try.prog Try.f86.results.toList R)) e w = ref05_one_s20 R (e 0) (e 2) (e 4) w :=
  segs_eq (l := [(sub (bodyOf Try.f86) [1, 1, 1, 0, 0])]) (y := (sub (bodyOf Try.f86) [1, 1, 1, 0, 1])) (Y := (fun e w => ref05_one_s19 R (e 0) (e 2) (e 4) (e 14) w)) (ref05_one_s19_eq R) (fun e w => by kernel_rfl)

def ref05_one_s21 (R : Value → World → Prop) (x0 : Value) (w : World) : Prop :=
  newG (zc Try.prog 79) 79 w fun t2 w =>
  qG Try.prog (bq .eql 9 (.tmp 6) (.const (.string ⟨#[]⟩)) x0 (.string ⟨#[]⟩)) w fun t7 =>
  bV t7
  (bld [(0, 1), (1, 1), (2, 1)] (zc Try.prog 79) #[] fun t8 =>
  stn 3 t2 t8 w fun w =>
  qG Try.prog (do loadVar 79 (← asAddr t2)) w fun r2 =>
  R (.tuple #[r2, (.int .i64 0)]) w)
  (ixS x0 (.int .i64 0) fun t10 =>
  cvI .i64 t10 fun t11 =>
  bld [(0, 1), (1, 1), (2, 1)] (zc Try.prog 79) #[(0, t11)] fun t12 =>
  newG (zc Try.prog 79) 79 w fun t4 w =>
  stn 3 t4 t12 w fun w =>
  ref05_one_s20 R x0 t2 t4 w)

theorem ref05_one_s21_eq (R : Value → World → Prop) : ∀ e w, lift Try.prog 92 (bodyOf Try.f86) (finK Try.prog Try.f86.results.toList R) e w = ref05_one_s21 R (e 0) w :=
  segs_eq (l := [(sub (bodyOf Try.f86) [0]), (sub (bodyOf Try.f86) [1, 0]), (sub (bodyOf Try.f86) [1, 1, 0])]) (y := (sub (bodyOf Try.f86) [1, 1, 1])) (Y := (fun e w => ref05_one_s20 R (e 0) (e 2) (e 4) w)) (seq_seg (x := (sub (bodyOf Try.f86) [1, 1, 1, 0])) (y := (sub (bodyOf Try.f86) [1, 1, 1, 1])) (ref05_one_s0_eq R) (ref05_one_s20_eq R)) (fun e w => by kernel_rfl)

def ref05_one (R : Value → World → Prop) (x0 : Value) (w : World) : Prop := ref05_one_s21 R x0 w
theorem ref05_one_call {R : Value → World → Prop} {x0 : Value} {w : World} (h : ref05_one R x0 w) : callG Try.prog 86 #[x0] w R :=
  calls_lift_eq Try.mixed Try.func86 (args := [x0]) rfl rfl rfl rfl ((ref05_one_s21_eq R) (envOf [x0]) w) (by kernel_rfl) h
/-! quayside/value.Take -/
def value_Take_s0 (R : Value → World → Prop) (x4 x5 : Value) (w : World) : Prop :=
  qG Try.prog (bq .neq 9 (.tmp 31) (.const (.string ⟨#[]⟩)) x5 (.string ⟨#[]⟩)) w fun t32 =>
  bV t32
  (R (.tuple #[(.slice none 0 0), (.int .i64 50)]) w)
  (R (.tuple #[x4, (.int .i64 0)]) w)

theorem value_Take_s0_eq (R : Value → World → Prop) : ∀ e w, lift Try.prog 34 (sub (bodyOf Try.f55) [1, 1, 1, 1, 1]) (finK Try.prog Try.f55.results.toList R) e w = value_Take_s0 R (e 4) (e 5) w := fun e w => by kernel_rfl

def value_Take_b1 (R : Value → World → Prop) (N1 : List Value → World → Prop) (x4 x5 x14 x15 : Value) (w : World) : Prop :=
  qG Try.prog (bq .lss 5 (.tmp 15) (.tmp 14) x15 x14) w fun t16 =>
  bV t16
  (callG Try.prog 85 #[x5] w fun t19 w =>
  qG Try.prog (Instr.extract t19 0) w fun t20 =>
  qG Try.prog (Instr.extract t19 1) w fun t21 =>
  qG Try.prog (Instr.extract t19 2) w fun t22 =>
  newG (zc Try.prog 79) 79 w fun t6 w =>
  stn 3 t6 t20 w fun w =>
  qG Try.prog (Op.unary .not t22) w fun t24 =>
  bV t24
  (R (.tuple #[(.slice none 0 0), (.int .i64 50)]) w)
  (ldn 3 t6 w fun t26 =>
  bsl 79 3 1 (zc Try.prog 79) #[(0, t26)] w fun t27 w =>
  app 79 3 32 (zc Try.prog 79) x4 t27 w fun t28 w =>
  qG Try.prog (bq .add 5 (.tmp 15) (.const (.int .u8 1)) x15 (.int .u8 1)) w fun t30 =>
  N1 [t28, t21, x14, t30] w))
  (value_Take_s0 R x4 x5 w)

theorem value_Take_b1_eq (R : Value → World → Prop) (N1 : List Value → World → Prop) : ∀ e w, lift Try.prog 34 (sub (bodyOf Try.f55) [1, 1, 1, 1, 0, 1, 0, 0]) (seqK (fun e w => N1 [e 4, e 5, e 14, e 15] w) (blockK 0 (seqK (fun e w => value_Take_s0 R (e 4) (e 5) w) (finK Try.prog Try.f55.results.toList R)))) e w = value_Take_b1 R N1 (e 4) (e 5) (e 14) (e 15) w := fun e w => by kernel_rfl

def value_Take_L2F (R : Value → World → Prop) (N1 : List Value → World → Prop) (xs : List Value) (w : World) : Prop :=
  match xs with
  | [x4, x5, x14, x15] => value_Take_b1 R N1 x4 x5 x14 x15 w
  | _ => False

def value_Take_L2 (R : Value → World → Prop) (x4 x5 x14 x15 : Value) (w : World) : Prop :=
  ∃ m, loopV (value_Take_L2F R) m [x4, x5, x14, x15] w

theorem value_Take_L2_eq (R : Value → World → Prop) : ∀ e w, lift Try.prog 34 (sub (bodyOf Try.f55) [1, 1, 1, 1, 0, 1, 0]) (blockK 0 (seqK (fun e w => value_Take_s0 R (e 4) (e 5) w) (finK Try.prog Try.f55.results.toList R))) e w = value_Take_L2 R (e 4) (e 5) (e 14) (e 15) w := loop_seg (F := value_Take_L2F R) (sel := fun e => [e 4, e 5, e 14, e 15]) fun N1 => (value_Take_b1_eq R N1)

def value_Take_s3 (R : Value → World → Prop) (x0 x4 x5 : Value) (w : World) : Prop :=
  ixS x0 (.int .i64 0) fun t14 =>
  value_Take_L2 R x4 x5 t14 (.int .u8 0) w

theorem value_Take_s3_eq (R : Value → World → Prop) : ∀ e w, lift Try.prog 34 (sub (bodyOf Try.f55) [1, 1, 1, 1, 0]) (seqK (fun e w => value_Take_s0 R (e 4) (e 5) w) (finK Try.prog Try.f55.results.toList R)) e w = value_Take_s3 R (e 0) (e 4) (e 5) w :=
  segs_eq (l := [(sub (bodyOf Try.f55) [1, 1, 1, 1, 0, 0])]) (y := (sub (bodyOf Try.f55) [1, 1, 1, 1, 0, 1])) (Y := (fun e w => value_Take_L2 R (e 4) (e 5) (e 14) (e 15) w)) (value_Take_L2_eq R) (fun e w => by kernel_rfl)

def value_Take_s4 (R : Value → World → Prop) (x0 : Value) (w : World) : Prop :=
  qG Try.prog (bq .eql 9 (.tmp 9) (.const (.string ⟨#[]⟩)) x0 (.string ⟨#[]⟩)) w fun t10 =>
  bV t10
  (R (.tuple #[(.slice none 0 0), (.int .i64 50)]) w)
  (slS x0 (some (.int .i64 1)) none fun t12 =>
  value_Take_s3 R x0 (.slice none 0 0) t12 w)

theorem value_Take_s4_eq (R : Value → World → Prop) : ∀ e w, lift Try.prog 34 (bodyOf Try.f55) (finK Try.prog Try.f55.results.toList R) e w = value_Take_s4 R (e 0) w :=
  segs_eq (l := [(sub (bodyOf Try.f55) [0]), (sub (bodyOf Try.f55) [1, 0]), (sub (bodyOf Try.f55) [1, 1, 0]), (sub (bodyOf Try.f55) [1, 1, 1, 0])]) (y := (sub (bodyOf Try.f55) [1, 1, 1, 1])) (Y := (fun e w => value_Take_s3 R (e 0) (e 4) (e 5) w)) (seq_seg (x := (sub (bodyOf Try.f55) [1, 1, 1, 1, 0])) (y := (sub (bodyOf Try.f55) [1, 1, 1, 1, 1])) (value_Take_s0_eq R) (value_Take_s3_eq R)) (fun e w => by kernel_rfl)

def value_Take (R : Value → World → Prop) (x0 : Value) (w : World) : Prop := value_Take_s4 R x0 w
theorem value_Take_call {R : Value → World → Prop} {x0 : Value} {w : World} (h : value_Take R x0 w) : callG Try.prog 55 #[x0] w R :=
  calls_lift_eq Try.mixed Try.func55 (args := [x0]) rfl rfl rfl rfl ((value_Take_s4_eq R) (envOf [x0]) w) (by kernel_rfl) h
/-! quayside/quaysideref05.Take -/
def ref05_Take_s0 (R : Value → World → Prop) (x0 x4 x5 : Value) (w : World) : Prop :=
  lenS x0 fun t36 =>
  qG Try.prog (bq .neq 3 (.tmp 34) (.tmp 36) x5 t36) w fun t37 =>
  bV t37
  (R (.tuple #[(.slice none 0 0), (.int .i64 50)]) w)
  (R (.tuple #[x4, (.int .i64 0)]) w)

theorem ref05_Take_s0_eq (R : Value → World → Prop) : ∀ e w, lift Try.prog 39 (sub (bodyOf Try.f57) [1, 1, 1, 1, 1]) (finK Try.prog Try.f57.results.toList R) e w = ref05_Take_s0 R (e 0) (e 4) (e 5) w := fun e w => by kernel_rfl

def ref05_Take_b1 (R : Value → World → Prop) (N1 : List Value → World → Prop) (x0 x4 x5 x6 : Value) (w : World) : Prop :=
  ixS x0 (.int .i64 0) fun t13 =>
  cvI .i64 t13 fun t14 =>
  qG Try.prog (bq .lss 3 (.tmp 11) (.tmp 14) x6 t14) w fun t15 =>
  bV t15
  (slS x0 (some x5) none fun t21 =>
  callG Try.prog 86 #[t21] w fun t22 w =>
  qG Try.prog (Instr.extract t22 0) w fun t23 =>
  qG Try.prog (Instr.extract t22 1) w fun t24 =>
  newG (zc Try.prog 79) 79 w fun t7 w =>
  stn 3 t7 t23 w fun w =>
  qG Try.prog (bq .eql 3 (.tmp 25) (.const (.int .i64 0)) t24 (.int .i64 0)) w fun t26 =>
  bV t26
  (R (.tuple #[(.slice none 0 0), (.int .i64 50)]) w)
  (ldn 3 t7 w fun t28 =>
  bsl 79 3 1 (zc Try.prog 79) #[(0, t28)] w fun t29 w =>
  app 79 3 32 (zc Try.prog 79) x4 t29 w fun t30 w =>
  qG Try.prog (bq .add 3 (.tmp 31) (.tmp 32) x5 t24) w fun t33 =>
  qG Try.prog (bq .add 3 (.tmp 16) (.const (.int .i64 1)) x6 (.int .i64 1)) w fun t17 =>
  N1 [x0, t30, t33, t17] w))
  (ref05_Take_s0 R x0 x4 x5 w)

theorem ref05_Take_b1_eq (R : Value → World → Prop) (N1 : List Value → World → Prop) : ∀ e w, lift Try.prog 39 (sub (bodyOf Try.f57) [1, 1, 1, 1, 0, 1, 0, 0]) (seqK (fun e w => N1 [e 0, e 4, e 5, e 6] w) (blockK 0 (seqK (fun e w => ref05_Take_s0 R (e 0) (e 4) (e 5) w) (finK Try.prog Try.f57.results.toList R)))) e w = ref05_Take_b1 R N1 (e 0) (e 4) (e 5) (e 6) w := fun e w => by kernel_rfl

def ref05_Take_L2F (R : Value → World → Prop) (N1 : List Value → World → Prop) (xs : List Value) (w : World) : Prop :=
  match xs with
  | [x0, x4, x5, x6] => ref05_Take_b1 R N1 x0 x4 x5 x6 w
  | _ => False

def ref05_Take_L2 (R : Value → World → Prop) (x0 x4 x5 x6 : Value) (w : World) : Prop :=
  ∃ m, loopV (ref05_Take_L2F R) m [x0, x4, x5, x6] w

theorem ref05_Take_L2_eq (R : Value → World → Prop) : ∀ e w, lift Try.prog 39 (sub (bodyOf Try.f57) [1, 1, 1, 1, 0, 1, 0]) (blockK 0 (seqK (fun e w => ref05_Take_s0 R (e 0) (e 4) (e 5) w) (finK Try.prog Try.f57.results.toList R))) e w = ref05_Take_L2 R (e 0) (e 4) (e 5) (e 6) w := loop_seg (F := ref05_Take_L2F R) (sel := fun e => [e 0, e 4, e 5, e 6]) fun N1 => (ref05_Take_b1_eq R N1)

def ref05_Take_s3 (R : Value → World → Prop) (x0 x4 x5 : Value) (w : World) : Prop :=
  ref05_Take_L2 R x0 x4 x5 (.int .i64 0) w

theorem ref05_Take_s3_eq (R : Value → World → Prop) : ∀ e w, lift Try.prog 39 (sub (bodyOf Try.f57) [1, 1, 1, 1, 0]) (seqK (fun e w => ref05_Take_s0 R (e 0) (e 4) (e 5) w) (finK Try.prog Try.f57.results.toList R)) e w = ref05_Take_s3 R (e 0) (e 4) (e 5) w :=
  segs_eq (l := [(sub (bodyOf Try.f57) [1, 1, 1, 1, 0, 0])]) (y := (sub (bodyOf Try.f57) [1, 1, 1, 1, 0, 1])) (Y := (fun e w => ref05_Take_L2 R (e 0) (e 4) (e 5) (e 6) w)) (ref05_Take_L2_eq R) (fun e w => by kernel_rfl)

def ref05_Take_s4 (R : Value → World → Prop) (x0 : Value) (w : World) : Prop :=
  qG Try.prog (bq .eql 9 (.tmp 9) (.const (.string ⟨#[]⟩)) x0 (.string ⟨#[]⟩)) w fun t10 =>
  bV t10
  (R (.tuple #[(.slice none 0 0), (.int .i64 50)]) w)
  (ref05_Take_s3 R x0 (.slice none 0 0) (.int .i64 1) w)

theorem ref05_Take_s4_eq (R : Value → World → Prop) : ∀ e w, lift Try.prog 39 (bodyOf Try.f57) (finK Try.prog Try.f57.results.toList R) e w = ref05_Take_s4 R (e 0) w :=
  segs_eq (l := [(sub (bodyOf Try.f57) [0]), (sub (bodyOf Try.f57) [1, 0]), (sub (bodyOf Try.f57) [1, 1, 0]), (sub (bodyOf Try.f57) [1, 1, 1, 0])]) (y := (sub (bodyOf Try.f57) [1, 1, 1, 1])) (Y := (fun e w => ref05_Take_s3 R (e 0) (e 4) (e 5) w)) (seq_seg (x := (sub (bodyOf Try.f57) [1, 1, 1, 1, 0])) (y := (sub (bodyOf Try.f57) [1, 1, 1, 1, 1])) (ref05_Take_s0_eq R) (ref05_Take_s3_eq R)) (fun e w => by kernel_rfl)

def ref05_Take (R : Value → World → Prop) (x0 : Value) (w : World) : Prop := ref05_Take_s4 R x0 w
theorem ref05_Take_call {R : Value → World → Prop} {x0 : Value} {w : World} (h : ref05_Take R x0 w) : callG Try.prog 57 #[x0] w R :=
  calls_lift_eq Try.mixed Try.func57 (args := [x0]) rfl rfl rfl rfl ((ref05_Take_s4_eq R) (envOf [x0]) w) (by kernel_rfl) h
/-! quayside/quaysideref05.Same -/
def ref05_Same_s0 (R : Value → World → Prop) (w : World) : Prop :=
  R (.bool true) w

theorem ref05_Same_s0_eq (R : Value → World → Prop) : ∀ e w, lift Try.prog 26 (sub (bodyOf Try.f24) [1, 1, 1]) (finK Try.prog Try.f24.results.toList R) e w = ref05_Same_s0 R w := fun e w => by kernel_rfl

def ref05_Same_b1 (R : Value → World → Prop) (N1 : List Value → World → Prop) (x0 x1 x5 : Value) (w : World) : Prop :=
  lenL x0 fun t13 =>
  qG Try.prog (bq .lss 3 (.tmp 11) (.tmp 13) x5 t13) w fun t14 =>
  bV t14
  (ia 3 x0 x5 fun t19 =>
  ldn 3 t19 (World.drew w) fun t20 =>
  ia 3 x1 x5 fun t23 =>
  ldn 3 t23 (World.drew w) fun t24 =>
  qG Try.prog (bq .neq 79 (.tmp 20) (.tmp 24) t20 t24) (World.drew w) fun t25 =>
  bV t25
  (R (.bool false) (World.drew w))
  (qG Try.prog (bq .add 3 (.tmp 15) (.const (.int .i64 1)) x5 (.int .i64 1)) (World.drew w) fun t16 =>
  N1 [x0, x1, t16] (World.drew w)))
  (ref05_Same_s0 R  w)

theorem ref05_Same_b1_eq (R : Value → World → Prop) (N1 : List Value → World → Prop) : ∀ e w, lift Try.prog 26 (sub (bodyOf Try.f24) [1, 1, 0, 1, 0, 0]) (seqK (fun e w => N1 [e 0, e 1, e 5] w) (blockK 0 (seqK (fun e w => ref05_Same_s0 R  w) (finK Try.prog Try.f24.results.toList R)))) e w = ref05_Same_b1 R N1 (e 0) (e 1) (e 5) w := fun e w => by kernel_rfl

def ref05_Same_L2F (R : Value → World → Prop) (N1 : List Value → World → Prop) (xs : List Value) (w : World) : Prop :=
  match xs with
  | [x0, x1, x5] => ref05_Same_b1 R N1 x0 x1 x5 w
  | _ => False

def ref05_Same_L2 (R : Value → World → Prop) (x0 x1 x5 : Value) (w : World) : Prop :=
  ∃ m, loopV (ref05_Same_L2F R) m [x0, x1, x5] w

theorem ref05_Same_L2_eq (R : Value → World → Prop) : ∀ e w, lift Try.prog 26 (sub (bodyOf Try.f24) [1, 1, 0, 1, 0]) (blockK 0 (seqK (fun e w => ref05_Same_s0 R  w) (finK Try.prog Try.f24.results.toList R))) e w = ref05_Same_L2 R (e 0) (e 1) (e 5) w := loop_seg (F := ref05_Same_L2F R) (sel := fun e => [e 0, e 1, e 5]) fun N1 => (ref05_Same_b1_eq R N1)

def ref05_Same_s3 (R : Value → World → Prop) (x0 x1 : Value) (w : World) : Prop :=
  ref05_Same_L2 R x0 x1 (.int .i64 0) w

theorem ref05_Same_s3_eq (R : Value → World → Prop) : ∀ e w, lift Try.prog 26 (sub (bodyOf Try.f24) [1, 1, 0]) (seqK (fun e w => ref05_Same_s0 R  w) (finK Try.prog Try.f24.results.toList R)) e w = ref05_Same_s3 R (e 0) (e 1) w :=
  segs_eq (l := [(sub (bodyOf Try.f24) [1, 1, 0, 0])]) (y := (sub (bodyOf Try.f24) [1, 1, 0, 1])) (Y := (fun e w => ref05_Same_L2 R (e 0) (e 1) (e 5) w)) (ref05_Same_L2_eq R) (fun e w => by kernel_rfl)

def ref05_Same_s4 (R : Value → World → Prop) (x0 x1 : Value) (w : World) : Prop :=
  lenL x0 fun t7 =>
  lenL x1 fun t9 =>
  qG Try.prog (bq .neq 3 (.tmp 7) (.tmp 9) t7 t9) w fun t10 =>
  bV t10
  (R (.bool false) w)
  (ref05_Same_s3 R x0 x1 w)

theorem ref05_Same_s4_eq (R : Value → World → Prop) : ∀ e w, lift Try.prog 26 (bodyOf Try.f24) (finK Try.prog Try.f24.results.toList R) e w = ref05_Same_s4 R (e 0) (e 1) w :=
  segs_eq (l := [(sub (bodyOf Try.f24) [0]), (sub (bodyOf Try.f24) [1, 0])]) (y := (sub (bodyOf Try.f24) [1, 1])) (Y := (fun e w => ref05_Same_s3 R (e 0) (e 1) w)) (seq_seg (x := (sub (bodyOf Try.f24) [1, 1, 0])) (y := (sub (bodyOf Try.f24) [1, 1, 1])) (ref05_Same_s0_eq R) (ref05_Same_s3_eq R)) (fun e w => by kernel_rfl)

def ref05_Same (R : Value → World → Prop) (x0 x1 : Value) (w : World) : Prop := ref05_Same_s4 R x0 x1 w
theorem ref05_Same_call {R : Value → World → Prop} {x0 x1 : Value} {w : World} (h : ref05_Same R x0 x1 w) : callG Try.prog 24 #[x0, x1] w R :=
  calls_lift_eq Try.mixed Try.func24 (args := [x0, x1]) rfl rfl rfl rfl ((ref05_Same_s4_eq R) (envOf [x0, x1]) w) (by kernel_rfl) h
end Go.Proofs

/- Rules for the printed forms: bits, shifts, quotients. -/
set_option linter.unusedVariables false
set_option linter.unusedSimpArgs false
namespace Go.Q
variable {P : Program} {T : TypeId} {xo yo : Operand} {w : World} {K : Value → Prop} {u : Value}
theorem and_mask (x : Int) (m : Nat) (hm : m < 63) : IntKind.i64.wrap ((BitVec.ofInt 64 x &&& BitVec.ofInt 64 (2 ^ m - 1)).toNat : Int) = x % 2 ^ m := by
  have hp : (2 : Nat) ^ m ≤ 2 ^ 62 := Nat.pow_le_pow_right (by omega) (by omega)
  have hpos : 0 < (2 : Nat) ^ m := Nat.two_pow_pos m
  have h1 : (BitVec.ofInt 64 ((2 : Int) ^ m - 1)).toNat = 2 ^ m - 1 := by
    rw [BitVec.toNat_ofInt]
    have : ((2 : Int) ^ m - 1) = ((2 ^ m - 1 : Nat) : Int) := by
      rw [Int.ofNat_sub hpos]; simp
    rw [this]
    have hlt : 2 ^ m - 1 < 2 ^ 64 := by omega
    omega
  have h2 : ((BitVec.ofInt 64 x).toNat : Int) = x % 2 ^ 64 := by
    rw [BitVec.toNat_ofInt, Int.toNat_of_nonneg (Int.emod_nonneg _ (by decide))]
    rfl
  rw [BitVec.toNat_and, h1, Nat.and_two_pow_sub_one_eq_mod]
  have hd : ((2 : Int) ^ m) ∣ 2 ^ 64 := ⟨2 ^ (64 - m), by rw [← Int.pow_add, show m + (64 - m) = 64 by omega]⟩
  have h3 : (((BitVec.ofInt 64 x).toNat % 2 ^ m : Nat) : Int) = x % 2 ^ m := by
    rw [Int.natCast_emod, h2]
    have : ((2 ^ m : Nat) : Int) = (2 : Int) ^ m := by simp
    rw [this]
    exact Int.emod_emod_of_dvd x hd
  rw [h3]
  have hp' : (2 : Int) ^ m ≤ 2 ^ 62 := by
    have : ((2 ^ m : Nat) : Int) = (2 : Int) ^ m := by simp
    rw [← this]; omega
  have hpos' : (0 : Int) < 2 ^ m := Int.pow_pos (by omega)
  have := Int.emod_nonneg x (Int.ne_of_gt hpos')
  have := Int.emod_lt_of_pos x hpos'
  exact wrap64 _ (by omega) (by omega)
theorem run_and_mask {x c : Int} (m : Nat) (hm : m < 63) (hc : c = 2 ^ m - 1) : (bq .and T xo yo (.int .i64 x) (.int .i64 c)).run P w = .ok (.int .i64 (x % 2 ^ m)) w :=
  run_bq_int (s := .pure _) fun w => by
    have := and_mask x m hm
    rw [← hc] at this
    simp only [binOp, ne_eq, not_true_eq_false, if_false, Op.intBits]
    show Result.ok _ _ = Result.ok _ _
    congr 2
theorem and_of {x c : Int} (m : Nat) (hm : m < 63) (hc : c = 2 ^ m - 1) : qG P (bq .and T xo yo (.int .i64 x) (.int .i64 c)) w K = K (.int .i64 (x % 2 ^ m)) := qG_of (run_and_mask m hm hc)
theorem sand_of {x c : Int} (m : Nat) (hm : m < 63) (hc : c = 2 ^ m - 1) : stb P (bq .and T xo yo (.int .i64 x) (.int .i64 c)) u w = (.int .i64 (x % 2 ^ m) = u) := stb_of (run_and_mask m hm hc)
@[simp] theorem and1 {x : Int} : qG P (bq .and T xo yo (.int .i64 x) (.int .i64 1)) w K = K (.int .i64 (x % 2)) := and_of 1 (by omega) (by decide)
@[simp] theorem and7 {x : Int} : qG P (bq .and T xo yo (.int .i64 x) (.int .i64 7)) w K = K (.int .i64 (x % 8)) := and_of 3 (by omega) (by decide)
@[simp] theorem and15 {x : Int} : qG P (bq .and T xo yo (.int .i64 x) (.int .i64 15)) w K = K (.int .i64 (x % 16)) := and_of 4 (by omega) (by decide)
@[simp] theorem and127 {x : Int} : qG P (bq .and T xo yo (.int .i64 x) (.int .i64 127)) w K = K (.int .i64 (x % 128)) := and_of 7 (by omega) (by decide)
@[simp] theorem and255 {x : Int} : qG P (bq .and T xo yo (.int .i64 x) (.int .i64 255)) w K = K (.int .i64 (x % 256)) := and_of 8 (by omega) (by decide)
@[simp] theorem and511 {x : Int} : qG P (bq .and T xo yo (.int .i64 x) (.int .i64 511)) w K = K (.int .i64 (x % 512)) := and_of 9 (by omega) (by decide)
@[simp] theorem and65535 {x : Int} : qG P (bq .and T xo yo (.int .i64 x) (.int .i64 65535)) w K = K (.int .i64 (x % 65536)) := and_of 16 (by omega) (by decide)
@[simp] theorem sand1 {x : Int} : stb P (bq .and T xo yo (.int .i64 x) (.int .i64 1)) u w = (.int .i64 (x % 2) = u) := sand_of 1 (by omega) (by decide)
@[simp] theorem sand7 {x : Int} : stb P (bq .and T xo yo (.int .i64 x) (.int .i64 7)) u w = (.int .i64 (x % 8) = u) := sand_of 3 (by omega) (by decide)
@[simp] theorem sand255 {x : Int} : stb P (bq .and T xo yo (.int .i64 x) (.int .i64 255)) u w = (.int .i64 (x % 256) = u) := sand_of 8 (by omega) (by decide)
theorem run_shr {x y : Int} {k yk : IntKind} (h0 : 0 ≤ y) (h1 : y < k.bits) : (bq .shr T xo yo (.int k x) (.int yk y)).run P w = .ok (.int k (x / 2 ^ y.toNat)) w := by
  show (Op.shift .shr k x yk y).run P w = _
  have hn : ¬ y < 0 := by omega
  have hm : min y.toNat k.bits = y.toNat := by omega
  simp only [Op.shift, hn, if_false, hm]
  show Result.ok _ _ = Result.ok _ _
  congr 2
  exact (Int.fdiv_eq_ediv_of_nonneg x (Int.le_of_lt (Int.pow_pos (by omega))))
theorem shr_of {x y : Int} {k yk : IntKind} (h0 : 0 ≤ y) (h1 : y < k.bits) : qG P (bq .shr T xo yo (.int k x) (.int yk y)) w K = K (.int k (x / 2 ^ y.toNat)) := qG_of (run_shr h0 h1)
theorem run_rem {x y : Int} {k : IntKind} (hx : 0 ≤ x) (hy : 0 < y) : (bq .rem T xo yo (.int k x) (.int k y)).run P w = .ok (.int k (x % y)) w :=
  run_bq_int (s := .pure _) fun w => by
    have : ¬ y = 0 := by omega
    simp only [binOp, ne_eq, not_true_eq_false, if_false, Op.intDiv, this]
    show Result.ok _ _ = Result.ok _ _
    rw [Int.tmod_eq_emod_of_nonneg hx]
theorem rem_of {x y : Int} {k : IntKind} (hx : 0 ≤ x) (hy : 0 < y) : qG P (bq .rem T xo yo (.int k x) (.int k y)) w K = K (.int k (x % y)) := qG_of (run_rem hx hy)
theorem run_quo {x y : Int} {k : IntKind} (hx : 0 ≤ x) (hy : 0 < y) : (bq .quo T xo yo (.int k x) (.int k y)).run P w = .ok (.int k (k.wrap (x / y))) w :=
  run_bq_int (s := .pure _) fun w => by
    have : ¬ y = 0 := by omega
    simp only [binOp, ne_eq, not_true_eq_false, if_false, Op.intDiv, this]
    show Result.ok _ _ = Result.ok _ _
    rw [Int.tdiv_eq_ediv_of_nonneg hx]
theorem quo_of {x y : Int} {k : IntKind} (hx : 0 ≤ x) (hy : 0 < y) : qG P (bq .quo T xo yo (.int k x) (.int k y)) w K = K (.int k (k.wrap (x / y))) := qG_of (run_quo hx hy)
end Go.Q

/- Rules for the printed forms: or, xor and and of natural numbers, shifts to the left, negation and complement of 32 bits. -/
set_option linter.unusedVariables false
set_option linter.unusedSimpArgs false
namespace Go.Q
variable {P : Program} {T : TypeId} {xo yo : Operand} {w : World} {K : Value → Prop} {u : Value}
theorem ofInt_nat (n : Nat) (b : Nat) : (BitVec.ofInt b (n : Int)).toNat = n % 2 ^ b := by simp [BitVec.toNat_ofInt]
theorem wrap_nat64 {n : Nat} (h : n < 2 ^ 63) : IntKind.i64.wrap (n : Int) = n := wrap64 _ (by omega) (by omega)
theorem wrap_nat32 {n : Nat} (h : n < 2 ^ 32) : IntKind.u32.wrap (n : Int) = n := by
  simp [IntKind.wrap, IntKind.bits, IntKind.signed]; omega
theorem xor64_of {x y : Nat} (hx : x < 2 ^ 63) (hy : y < 2 ^ 63) : qG P (bq .xor T xo yo (.int .i64 x) (.int .i64 y)) w K = K (.int .i64 ((x ^^^ y : Nat) : Int)) :=
  qG_of (run_bq_int (s := .pure _) fun w => by
    have h2 : IntKind.i64.wrap ((BitVec.ofInt 64 (x : Int) ^^^ BitVec.ofInt 64 (y : Int)).toNat : Int) = ((x ^^^ y : Nat) : Int) := by
      rw [BitVec.toNat_xor, ofInt_nat, ofInt_nat, Nat.mod_eq_of_lt (by omega), Nat.mod_eq_of_lt (by omega)]; exact wrap_nat64 (Nat.xor_lt_two_pow hx hy)
    simp only [binOp, ne_eq, not_true_eq_false, if_false, Op.intBits]
    show Result.ok _ _ = Result.ok _ _
    congr 2)
theorem or64_of {x y : Nat} (hx : x < 2 ^ 63) (hy : y < 2 ^ 63) : qG P (bq .or T xo yo (.int .i64 x) (.int .i64 y)) w K = K (.int .i64 ((x ||| y : Nat) : Int)) :=
  qG_of (run_bq_int (s := .pure _) fun w => by
    have h2 : IntKind.i64.wrap ((BitVec.ofInt 64 (x : Int) ||| BitVec.ofInt 64 (y : Int)).toNat : Int) = ((x ||| y : Nat) : Int) := by
      rw [BitVec.toNat_or, ofInt_nat, ofInt_nat, Nat.mod_eq_of_lt (by omega), Nat.mod_eq_of_lt (by omega)]; exact wrap_nat64 (Nat.or_lt_two_pow hx hy)
    simp only [binOp, ne_eq, not_true_eq_false, if_false, Op.intBits]
    show Result.ok _ _ = Result.ok _ _
    congr 2)
theorem xor32_of {x y : Nat} (hx : x < 2 ^ 32) (hy : y < 2 ^ 32) : qG P (bq .xor T xo yo (.int .u32 x) (.int .u32 y)) w K = K (.int .u32 ((x ^^^ y : Nat) : Int)) :=
  qG_of (run_bq_int (s := .pure _) fun w => by
    have h2 : IntKind.u32.wrap ((BitVec.ofInt 32 (x : Int) ^^^ BitVec.ofInt 32 (y : Int)).toNat : Int) = ((x ^^^ y : Nat) : Int) := by
      rw [BitVec.toNat_xor, ofInt_nat, ofInt_nat, Nat.mod_eq_of_lt (by omega), Nat.mod_eq_of_lt (by omega)]; exact wrap_nat32 (Nat.xor_lt_two_pow hx hy)
    simp only [binOp, ne_eq, not_true_eq_false, if_false, Op.intBits]
    show Result.ok _ _ = Result.ok _ _
    congr 2)
theorem and32_of {x y : Nat} (hx : x < 2 ^ 32) (hy : y < 2 ^ 32) : qG P (bq .and T xo yo (.int .u32 x) (.int .u32 y)) w K = K (.int .u32 ((x &&& y : Nat) : Int)) :=
  qG_of (run_bq_int (s := .pure _) fun w => by
    have h2 : IntKind.u32.wrap ((BitVec.ofInt 32 (x : Int) &&& BitVec.ofInt 32 (y : Int)).toNat : Int) = ((x &&& y : Nat) : Int) := by
      rw [BitVec.toNat_and, ofInt_nat, ofInt_nat, Nat.mod_eq_of_lt (by omega), Nat.mod_eq_of_lt (by omega)]; exact wrap_nat32 (Nat.and_lt_two_pow _ hy)
    simp only [binOp, ne_eq, not_true_eq_false, if_false, Op.intBits]
    show Result.ok _ _ = Result.ok _ _
    congr 2)
theorem neg32_of {x : Nat} (hx : x < 2 ^ 32) : qG P (Op.unary .neg (.int .u32 x)) w K = K (.int .u32 (((2 ^ 32 - x) % 2 ^ 32 : Nat) : Int)) :=
  qG_of (by
    have : IntKind.u32.wrap (0 - (x : Int)) = (((2 ^ 32 - x) % 2 ^ 32 : Nat) : Int) := by
      simp [IntKind.wrap, IntKind.bits, IntKind.signed]; omega
    show Result.ok _ _ = Result.ok _ _
    congr 2)
theorem not32_of {x : Nat} (hx : x < 2 ^ 32) : qG P (Op.unary .xor (.int .u32 x)) w K = K (.int .u32 (((2 ^ 32 - 1) ^^^ x : Nat) : Int)) :=
  qG_of (by
    have h2 : IntKind.u32.wrap ((BitVec.ofInt 32 IntKind.u32.max ^^^ BitVec.ofInt 32 (x : Int)).toNat : Int) = (((2 ^ 32 - 1) ^^^ x : Nat) : Int) := by
      have hm : IntKind.u32.max = ((2 ^ 32 - 1 : Nat) : Int) := by decide
      rw [hm, BitVec.toNat_xor, ofInt_nat, ofInt_nat, Nat.mod_eq_of_lt (by omega), Nat.mod_eq_of_lt (by omega)]; exact wrap_nat32 (Nat.xor_lt_two_pow (by omega) hx)
    show Result.ok _ _ = Result.ok _ _
    congr 2)
theorem shl_of {x y : Int} {k yk : IntKind} (h0 : 0 ≤ y) (h1 : y < k.bits) : qG P (bq .shl T xo yo (.int k x) (.int yk y)) w K = K (.int k (k.wrap (x * 2 ^ y.toNat))) := by
  refine qG_of ?_
  show (Op.shift .shl k x yk y).run P w = _
  have hn : ¬ y < 0 := by omega
  have hm : min y.toNat k.bits = y.toNat := by omega
  simp only [Op.shift, hn, if_false, hm]
  rfl
end Go.Q

/- Rules for the printed forms: or and xor of 64 bits without a sign; a number shifted, or a byte. -/
set_option linter.unusedVariables false
set_option linter.unusedSimpArgs false
namespace Go.Q
variable {P : Program} {T : TypeId} {xo yo : Operand} {w : World} {K : Value → Prop} {u : Value}
theorem wrap_natu64 {n : Nat} (h : n < 2 ^ 64) : IntKind.u64.wrap (n : Int) = n := by
  simp [IntKind.wrap, IntKind.bits, IntKind.signed]; omega
theorem wrap_natu8 {n : Nat} (h : n < 2 ^ 8) : IntKind.u8.wrap (n : Int) = n := by
  simp [IntKind.wrap, IntKind.bits, IntKind.signed]; omega
theorem oru64_of {x y : Nat} (hx : x < 2 ^ 64) (hy : y < 2 ^ 64) : qG P (bq .or T xo yo (.int .u64 x) (.int .u64 y)) w K = K (.int .u64 ((x ||| y : Nat) : Int)) :=
  qG_of (run_bq_int (s := .pure _) fun w => by
    have h2 : IntKind.u64.wrap ((BitVec.ofInt 64 (x : Int) ||| BitVec.ofInt 64 (y : Int)).toNat : Int) = ((x ||| y : Nat) : Int) := by
      rw [BitVec.toNat_or, ofInt_nat, ofInt_nat, Nat.mod_eq_of_lt (by omega), Nat.mod_eq_of_lt (by omega)]; exact wrap_natu64 (Nat.or_lt_two_pow hx hy)
    simp only [binOp, ne_eq, not_true_eq_false, if_false, Op.intBits]
    show Result.ok _ _ = Result.ok _ _
    congr 2)
theorem xoru64_of {x y : Nat} (hx : x < 2 ^ 64) (hy : y < 2 ^ 64) : qG P (bq .xor T xo yo (.int .u64 x) (.int .u64 y)) w K = K (.int .u64 ((x ^^^ y : Nat) : Int)) :=
  qG_of (run_bq_int (s := .pure _) fun w => by
    have h2 : IntKind.u64.wrap ((BitVec.ofInt 64 (x : Int) ^^^ BitVec.ofInt 64 (y : Int)).toNat : Int) = ((x ^^^ y : Nat) : Int) := by
      rw [BitVec.toNat_xor, ofInt_nat, ofInt_nat, Nat.mod_eq_of_lt (by omega), Nat.mod_eq_of_lt (by omega)]; exact wrap_natu64 (Nat.xor_lt_two_pow hx hy)
    simp only [binOp, ne_eq, not_true_eq_false, if_false, Op.intBits]
    show Result.ok _ _ = Result.ok _ _
    congr 2)
theorem xoru8_of {x y : Nat} (hx : x < 2 ^ 8) (hy : y < 2 ^ 8) : qG P (bq .xor T xo yo (.int .u8 x) (.int .u8 y)) w K = K (.int .u8 ((x ^^^ y : Nat) : Int)) :=
  qG_of (run_bq_int (s := .pure _) fun w => by
    have h2 : IntKind.u8.wrap ((BitVec.ofInt 8 (x : Int) ^^^ BitVec.ofInt 8 (y : Int)).toNat : Int) = ((x ^^^ y : Nat) : Int) := by
      rw [BitVec.toNat_xor, ofInt_nat, ofInt_nat, Nat.mod_eq_of_lt (by omega), Nat.mod_eq_of_lt (by omega)]; exact wrap_natu8 (Nat.xor_lt_two_pow hx hy)
    simp only [binOp, ne_eq, not_true_eq_false, if_false, Op.intBits]
    show Result.ok _ _ = Result.ok _ _
    congr 2)
theorem or_mul {x y k : Nat} (hx : x < 2 ^ k) : (y * 2 ^ k) ||| x = y * 2 ^ k + x := by
  rw [Nat.mul_comm y, Nat.two_pow_add_eq_or_of_lt hx]
/-- a number shifted by eight, or a byte -/
theorem or64s_of {m : Int} {b : Nat} (hb : b < 256) (h0 : -9223372036854775808 ≤ m * 256) (h1 : m * 256 < 9223372036854775808) :
    qG P (bq .or T xo yo (.int .i64 (m * 256)) (.int .i64 b)) w K = K (.int .i64 (m * 256 + b)) :=
  qG_of (run_bq_int (s := .pure _) fun w => by
    have h2 : IntKind.i64.wrap ((BitVec.ofInt 64 (m * 256) ||| BitVec.ofInt 64 (b : Int)).toNat : Int) = m * 256 + b := by
      rw [BitVec.toNat_or, ofInt_nat, Nat.mod_eq_of_lt (by omega), BitVec.toNat_ofInt]
      obtain ⟨q, hq⟩ : ∃ q : Nat, ((m * 256) % ((2 ^ 64 : Nat) : Int)).toNat = q * 2 ^ 8 := ⟨(m % (2 ^ 56 : Int)).toNat, by omega⟩
      rw [hq, or_mul (show b < 2 ^ 8 by omega)]
      simp [IntKind.wrap, IntKind.bits, IntKind.signed]
      omega
    simp only [binOp, ne_eq, not_true_eq_false, if_false, Op.intBits]
    show Result.ok _ _ = Result.ok _ _
    congr 2)
/-- the highest bit turned -/
theorem xor_top {x : Nat} (hx : x < 2 ^ 64) : x ^^^ 2 ^ 63 = (x + 2 ^ 63) % 2 ^ 64 := by
  have key : ∀ y, y < 2 ^ 63 → 2 ^ 63 + y = 2 ^ 63 ||| y := fun y hy => by
    have := Nat.two_pow_add_eq_or_of_lt hy 1
    rw [Nat.mul_one] at this
    exact this
  apply Nat.eq_of_testBit_eq
  intro i
  rw [Nat.testBit_xor, Nat.testBit_two_pow]
  have hx2 : x = (x / 2 ^ 63) * 2 ^ 63 + x % 2 ^ 63 := by omega
  have hr : x % 2 ^ 63 < 2 ^ 63 := Nat.mod_lt _ (by decide)
  have hq : x / 2 ^ 63 = 0 ∨ x / 2 ^ 63 = 1 := by omega
  rcases hq with hq | hq
  · have e : (x + 2 ^ 63) % 2 ^ 64 = 2 ^ 63 + x := by omega
    rw [e, key x (by omega)]
    rw [Nat.testBit_or]
    have hb : (2 ^ 63 : Nat).testBit i = decide (63 = i) := Nat.testBit_two_pow
    rw [hb]
    by_cases hi : 63 = i
    · subst hi
      have : x.testBit 63 = false := Nat.testBit_lt_two_pow (by omega)
      simp [this]
    · simp [hi]
  · have e : (x + 2 ^ 63) % 2 ^ 64 = x - 2 ^ 63 := by omega
    rw [e]
    obtain ⟨y, hy⟩ : ∃ y, y = x - 2 ^ 63 := ⟨_, rfl⟩
    have hxy : x = 2 ^ 63 + y := by omega
    have hylt : y < 2 ^ 63 := by omega
    rw [← hy, hxy, key y hylt]
    rw [Nat.testBit_or]
    have hb : (2 ^ 63 : Nat).testBit i = decide (63 = i) := Nat.testBit_two_pow
    rw [hb]
    by_cases hi : 63 = i
    · subst hi
      have : y.testBit 63 = false := Nat.testBit_lt_two_pow hylt
      simp [this]
    · simp [hi]
theorem xor_top8 {x : Nat} (hx : x < 2 ^ 8) : x ^^^ 128 = (x + 128) % 256 := by
  have : ∀ y : Fin 256, y.val ^^^ 128 = (y.val + 128) % 256 := by decide +kernel
  exact this ⟨x, hx⟩
end Go.Q

/- Plain: values and rows, as bytes and back. -/
set_option linter.unusedVariables false
set_option linter.unusedSimpArgs false
namespace Go.Q
structure V3 where
  k : Int
  n : Int
  s : List UInt8
  deriving DecidableEq
def valV (v : V3) : List Value := [.int .i64 v.k, .int .i64 v.n, .string (str v.s)]
def V3.ok (v : V3) : Bool :=
  if v.k = 0 then decide (v.n = 0 ∧ v.s = []) else if v.k = 1 then decide (v.s = []) else if v.k = 2 then decide (v.n = 0 ∧ v.s.length ≤ 64)
  else if v.k = 3 then decide ((v.n = 0 ∨ v.n = 1) ∧ v.s = []) else false
structure V3.Wf (v : V3) : Prop where
  k0 : -9223372036854775808 ≤ v.k
  k1 : v.k < 9223372036854775808
  n0 : -9223372036854775808 ≤ v.n
  n1 : v.n < 9223372036854775808
  s : v.s.length < 2 ^ 39
def bOf (x : Int) : UInt8 := UInt8.ofNat (x % 256).toNat
/-- digits, the greatest first -/
def be (m N : Nat) : List UInt8 := (List.range m).map fun i => UInt8.ofNat (N / 256 ^ (m - 1 - i) % 256)
def beN (l : List UInt8) : Nat := l.foldl (fun a c => a * 256 + c.toNat) 0
theorem be_len (m N : Nat) : (be m N).length = m := by simp [be]
theorem be_get {m N i : Nat} (h : i < m) : (be m N)[i]? = some (UInt8.ofNat (N / 256 ^ (m - 1 - i) % 256)) := by simp [be, h]
theorem be_succ (m N : Nat) : be (m + 1) N = be m (N / 256) ++ [UInt8.ofNat (N % 256)] := by
  unfold be
  rw [List.range_succ, List.map_append]
  congr 1
  · apply List.map_congr_left
    intro i hi
    rw [List.mem_range] at hi
    rw [Nat.div_div_eq_div_mul]
    have : m + 1 - 1 - i = (m - 1 - i) + 1 := by omega
    rw [this, Nat.pow_succ, Nat.mul_comm]
  · simp
theorem beN_snoc (l : List UInt8) (c : UInt8) : beN (l ++ [c]) = beN l * 256 + c.toNat := by simp [beN]
theorem beN_be : ∀ m N, beN (be m N) = N % 256 ^ m := by
  intro m
  induction m with
  | zero => intro N; simp [be, beN, Nat.mod_one]
  | succ m ih =>
    intro N
    rw [be_succ, beN_snoc, ih]
    have : (UInt8.ofNat (N % 256)).toNat = N % 256 := by simp
    rw [this, Nat.pow_succ, Nat.mul_comm (256 ^ m) 256, Nat.mod_mul]
    omega
theorem beN_lt (l : List UInt8) : beN l < 256 ^ l.length := by
  have key : ∀ (l : List UInt8) (a b : Nat), a < b → l.foldl (fun a c => a * 256 + c.toNat) a < b * 256 ^ l.length := by
    intro l
    induction l with
    | nil => intro a b h; simpa using h
    | cons c l ih =>
      intro a b h
      have hc := c.toNat_lt
      have := ih (a * 256 + c.toNat) (b * 256) (by omega)
      rw [List.foldl_cons, List.length_cons, Nat.pow_succ, Nat.mul_comm (256 ^ l.length) 256, ← Nat.mul_assoc]
      exact this
  have := key l 0 1 (by omega)
  simpa [beN] using this
theorem be_beN : ∀ (m : Nat) (l : List UInt8), l.length = m → be m (beN l) = l := by
  intro m
  induction m with
  | zero => intro l h; have : l = [] := List.length_eq_zero_iff.1 h; subst this; rfl
  | succ m ih =>
    intro l h
    rcases List.eq_nil_or_concat l with h0 | ⟨l', c, h0⟩
    · subst h0; simp at h
    · rw [List.concat_eq_append] at h0
      subst h0
      have hl : l'.length = m := by simpa using h
      have hc := c.toNat_lt
      rw [be_succ, beN_snoc]
      have e1 : (beN l' * 256 + c.toNat) / 256 = beN l' := by omega
      have e2 : (beN l' * 256 + c.toNat) % 256 = c.toNat := by omega
      rw [e1, e2, ih l' hl]
      simp
def be8 (n : Int) : List UInt8 := be 8 (n + 9223372036854775808).toNat
def unbe8 (l : List UInt8) : Int := (beN l : Int) - 9223372036854775808
theorem be8_len (n : Int) : (be8 n).length = 8 := be_len _ _
theorem unbe8_be8 {n : Int} (h0 : -9223372036854775808 ≤ n) (h1 : n < 9223372036854775808) : unbe8 (be8 n) = n := by
  unfold unbe8 be8
  rw [beN_be]
  omega
theorem be8_unbe8 {l : List UInt8} (h : l.length = 8) : be8 (unbe8 l) = l := by
  unfold unbe8 be8
  have : ((beN l : Int) - 9223372036854775808 + 9223372036854775808).toNat = beN l := by omega
  rw [this, be_beN 8 l h]
theorem unbe8_wf {l : List UInt8} (h : l.length = 8) : -9223372036854775808 ≤ unbe8 l ∧ unbe8 l < 9223372036854775808 := by
  have := beN_lt l
  rw [h] at this
  unfold unbe8
  omega
/-! ### values as bytes -/
def V3.bytes (v : V3) : List UInt8 := bOf v.k :: (if v.k = 1 then be8 v.n else if v.k = 2 then bOf v.s.length :: v.s else if v.k = 3 then [bOf v.n] else [])
def rowB (r : List V3) : List UInt8 := (r.map V3.bytes).flatten
def putRow (r : List V3) : List UInt8 × Int := if r.length ≤ 255 ∧ r.all V3.ok = true then (bOf r.length :: rowB r, 0) else ([], 1)
/-- the value that bytes begin with, and how many they are -/
def oneV (s : List UInt8) : Option (V3 × Nat) :=
  match s with
  | [] => none
  | c :: t =>
    if c = 0 then some (⟨0, 0, []⟩, 1)
    else if c = 1 then (if t.length < 8 then none else some (⟨1, unbe8 (t.take 8), []⟩, 9))
    else if c = 2 then
      match t with
      | [] => none
      | d :: u => if u.length < d.toNat ∨ 64 < d.toNat then none else some (⟨2, 0, u.take d.toNat⟩, 2 + d.toNat)
    else if c = 3 then
      match t with
      | [] => none
      | d :: _ => if 1 < d.toNat then none else some (⟨3, d.toNat, []⟩, 2)
    else none
def takeL : Nat → List UInt8 → Option (List V3 × List UInt8)
  | 0, s => some ([], s)
  | n + 1, s =>
    match oneV s with
    | none => none
    | some (v, k) =>
      match takeL n (s.drop k) with
      | none => none
      | some (l, r) => some (v :: l, r)
def takeRow (s : List UInt8) : List V3 × Int :=
  match s with
  | [] => ([], 50)
  | c :: t =>
    match takeL c.toNat t with
    | some (l, []) => (l, 0)
    | _ => ([], 50)
theorem bOf_nat {n : Nat} (h : n < 256) : (bOf (n : Int)).toNat = n := by unfold bOf; simp; omega
theorem bOf_lit (n : Nat) (h : n < 256) : bOf (n : Int) = UInt8.ofNat n := by
  apply UInt8.toNat_inj.1
  rw [bOf_nat h]; simp; omega
theorem oneV_bytes {v : V3} (h : v.ok = true) (hw : v.Wf) (r : List UInt8) : oneV (v.bytes ++ r) = some (v, v.bytes.length) := by
  obtain ⟨k, n, s⟩ := v
  unfold V3.ok at h
  simp only at h
  by_cases h0 : k = 0
  · subst h0
    simp at h
    obtain ⟨rfl, rfl⟩ := h
    rfl
  rw [if_neg h0] at h
  by_cases h1 : k = 1
  · subst h1
    simp at h
    subst h
    have hb : V3.bytes ⟨1, n, []⟩ = 1 :: be8 n := rfl
    have hl := be8_len n
    rw [hb]
    unfold oneV
    simp only [List.cons_append]
    rw [if_neg (by decide), if_pos (by decide), if_neg (by rw [List.length_append]; omega), List.take_left' hl, unbe8_be8 hw.n0 hw.n1]
    simp [hl]
  rw [if_neg h1] at h
  by_cases h2 : k = 2
  · subst h2
    simp at h
    obtain ⟨rfl, hs⟩ := h
    have hb : V3.bytes ⟨2, 0, s⟩ = 2 :: bOf s.length :: s := rfl
    have hd := bOf_nat (n := s.length) (by omega)
    rw [hb]
    unfold oneV
    simp only [List.cons_append]
    rw [if_neg (by decide), if_neg (by decide), if_pos (by decide)]
    simp only [hd]
    rw [if_neg (by rw [List.length_append]; omega), List.take_left' rfl]
    simp; omega
  rw [if_neg h2] at h
  by_cases h3 : k = 3
  · subst h3
    simp at h
    obtain ⟨hn, rfl⟩ := h
    have hb : V3.bytes ⟨3, n, []⟩ = [3, bOf n] := rfl
    rw [hb]
    unfold oneV
    simp only [List.cons_append, List.nil_append]
    rw [if_neg (by decide), if_neg (by decide), if_neg (by decide), if_pos (by decide)]
    rcases hn with rfl | rfl
    · rfl
    · rfl
  rw [if_neg h3] at h
  cases h
/-- what is taken may be, and has just these bytes -/
theorem oneV_some {s : List UInt8} {v : V3} {k : Nat} (h : oneV s = some (v, k)) : v.ok = true ∧ v.Wf ∧ s = v.bytes ++ s.drop k ∧ k = v.bytes.length ∧ 0 < k ∧ k ≤ s.length := by
  cases s with
  | nil => simp [oneV] at h
  | cons c t =>
    unfold oneV at h
    simp only at h
    by_cases h0 : c = 0
    · subst h0
      rw [if_pos rfl] at h
      injection h with h; injection h with h1 h2; subst h1; subst h2
      exact ⟨rfl, ⟨by decide, by decide, by decide, by decide, by decide⟩, rfl, rfl, by omega, by simp⟩
    rw [if_neg h0] at h
    by_cases h1 : c = 1
    · subst h1
      rw [if_pos rfl] at h
      split at h
      · cases h
      · rename_i hl
        injection h with h; injection h with h1 h2; subst h1; subst h2
        have hl8 : (t.take 8).length = 8 := by rw [List.length_take]; omega
        have hw := unbe8_wf hl8
        have hb : V3.bytes ⟨1, unbe8 (t.take 8), []⟩ = 1 :: t.take 8 := by
          show (1 : UInt8) :: be8 (unbe8 (t.take 8)) = _
          rw [be8_unbe8 hl8]
        refine ⟨rfl, ⟨by simp, by simp, hw.1, hw.2, by simp⟩, ?_, ?_, by omega, by simp; omega⟩
        · rw [hb]; simp
        · rw [hb]; simp; omega
    rw [if_neg h1] at h
    by_cases h2 : c = 2
    · subst h2
      rw [if_pos rfl] at h
      cases t with
      | nil => cases h
      | cons d u =>
        simp only at h
        split at h
        · cases h
        · rename_i hl
          injection h with h; injection h with h1 h2; subst h1; subst h2
          have hlt : (u.take d.toNat).length = d.toNat := by rw [List.length_take]; omega
          have hb : V3.bytes ⟨2, 0, u.take d.toNat⟩ = 2 :: d :: u.take d.toNat := by
            show (2 : UInt8) :: bOf (u.take d.toNat).length :: u.take d.toNat = _
            rw [hlt]
            have : bOf (d.toNat : Int) = d := by
              apply UInt8.toNat_inj.1
              exact bOf_nat d.toNat_lt
            rw [this]
          refine ⟨?_, ⟨by simp, by simp, by simp, by simp, by simp only [hlt]; omega⟩, ?_, ?_, by omega, by simp; omega⟩
          · simp [V3.ok]; omega
          · rw [hb, show 2 + d.toNat = d.toNat + 1 + 1 by omega]; simp
          · rw [hb]; simp [hlt]; omega
    rw [if_neg h2] at h
    by_cases h3 : c = 3
    · subst h3
      rw [if_pos rfl] at h
      cases t with
      | nil => cases h
      | cons d u =>
        simp only at h
        split at h
        · cases h
        · rename_i hl
          injection h with h; injection h with h1 h2; subst h1; subst h2
          have hd : d.toNat = 0 ∨ d.toNat = 1 := by omega
          have hb : bOf (d.toNat : Int) = d := by
            apply UInt8.toNat_inj.1
            exact bOf_nat d.toNat_lt
          refine ⟨?_, ⟨by simp, by simp, by simp only; omega, by simp only; omega, by simp⟩, ?_, rfl, by omega, by simp⟩
          · simp [V3.ok]; omega
          · show _ = [(3 : UInt8), bOf (d.toNat : Int)] ++ _
            rw [hb]; rfl
    rw [if_neg h3] at h
    cases h
theorem takeL_row : ∀ (r : List V3) (rest : List UInt8), r.all V3.ok = true → (∀ v ∈ r, v.Wf) → takeL r.length (rowB r ++ rest) = some (r, rest) := by
  intro r
  induction r with
  | nil => intro rest _ _; rfl
  | cons v r ih =>
    intro rest h hw
    simp only [List.all_cons, Bool.and_eq_true] at h
    have e : rowB (v :: r) ++ rest = v.bytes ++ (rowB r ++ rest) := by simp [rowB]
    rw [List.length_cons, e]
    unfold takeL
    rw [oneV_bytes h.1 (hw v (by simp))]
    simp only
    rw [List.drop_left, ih rest h.2 fun x hx => hw x (by simp [hx])]
theorem takeRow_put {r : List V3} (h : r.all V3.ok = true) (hl : r.length ≤ 255) (hw : ∀ v ∈ r, v.Wf) : takeRow (bOf r.length :: rowB r) = (r, 0) := by
  unfold takeRow
  simp only
  rw [bOf_nat (by omega)]
  have := takeL_row r [] h hw
  rw [List.append_nil] at this
  rw [this]
theorem takeL_some : ∀ (n : Nat) {s : List UInt8} {l : List V3} {r : List UInt8}, takeL n s = some (l, r) → l.length = n ∧ l.all V3.ok = true ∧ (∀ v ∈ l, v.Wf) ∧ s = rowB l ++ r := by
  intro n
  induction n with
  | zero =>
    intro s l r h
    unfold takeL at h
    injection h with h; injection h with h1 h2; subst h1; subst h2
    exact ⟨rfl, rfl, by simp, rfl⟩
  | succ n ih =>
    intro s l r h
    unfold takeL at h
    split at h
    · cases h
    · rename_i v k hv
      obtain ⟨h1, h2, h3, h4, h5, h6⟩ := oneV_some hv
      split at h
      · cases h
      · rename_i l' r' hl
        injection h with h; injection h with e1 e2; subst e1; subst e2
        obtain ⟨g1, g2, g3, g4⟩ := ih hl
        refine ⟨by simp [g1], by simp [h1, g2], fun x hx => ?_, ?_⟩
        · rcases List.mem_cons.1 hx with rfl | hx
          · exact h2
          · exact g3 x hx
        · rw [h3, g4]; simp [rowB]
theorem putRow_take {s : List UInt8} {r : List V3} (h : takeRow s = (r, 0)) : putRow r = (s, 0) ∧ ∀ v ∈ r, v.Wf := by
  cases s with
  | nil => simp [takeRow] at h
  | cons c t =>
    unfold takeRow at h
    simp only at h
    split at h
    · rename_i l hl
      injection h with h _
      subst h
      obtain ⟨h1, h2, h3, h4⟩ := takeL_some _ hl
      have hc := c.toNat_lt
      refine ⟨?_, h3⟩
      unfold putRow
      rw [if_pos ⟨by omega, h2⟩, h1]
      have : bOf (c.toNat : Int) = c := by
        apply UInt8.toNat_inj.1
        exact bOf_nat c.toNat_lt
      rw [this, h4]; simp
    · injection h with _ h
      simp at h
theorem oneV_len {s : List UInt8} {v : V3} {k : Nat} (h : oneV s = some (v, k)) : k ≤ s.length := (oneV_some h).2.2.2.2.2
end Go.Q

/- Structs laid part by part; cells of values. -/
set_option linter.unusedVariables false
set_option linter.unusedSimpArgs false
namespace Go.Q
theorem bld_step {places : List (Nat × Nat)} {z : List Value} {i off : Nat} {v : Value} {rest : List (Nat × Value)} {k : Value → Prop} (h : places[i]? = some (off, 1)) (hv : one v = true) (ho : off < z.length) :
    bld places z.toArray ((i, v) :: rest).toArray k = bld places (z.set off v).toArray rest.toArray k := by
  have hc := cells_one hv
  unfold bld
  show (match Instr.fill (places[·]?) z.toArray ((i, v) :: rest) with | some cs => k (.agg cs) | none => False) = (match Instr.fill (places[·]?) (z.set off v).toArray rest with | some cs => k (.agg cs) | none => False)
  rw [fill_step (off := off) (size := 1) h (by rw [hc]; rfl) (by simp only [List.size_toArray]; omega), hc]
  have : splice z.toArray off #[v] = (z.set off v).toArray := by
    have := splice_list z off [v]
    rw [this, List.set_eq_take_append_cons_drop, if_pos ho]
    simp
  rw [this]
def offAt : List (Nat × Nat) → Nat → Option Nat
  | [], _ => none
  | (o, n) :: r, i => if i = 0 then (if n = 1 then some o else none) else offAt r (i - 1)
theorem offAt_get : ∀ {places : List (Nat × Nat)} {i off : Nat}, offAt places i = some off → places[i]? = some (off, 1) := by
  intro places
  induction places with
  | nil => intro i off h; cases h
  | cons p r ih =>
    intro i off h
    obtain ⟨o, n⟩ := p
    unfold offAt at h
    split at h
    · rename_i hi
      split at h
      · rename_i hn
        injection h with h
        subst h; subst hn; subst hi
        rfl
      · cases h
    · rename_i hi
      have := ih h
      obtain ⟨j, rfl⟩ : ∃ j, i = j + 1 := ⟨i - 1, by omega⟩
      rw [List.getElem?_cons_succ]
      simpa using this
/-- one part more -/
def putAt (places : List (Nat × Nat)) (z : List Value) (i : Nat) (v : Value) : List Value := match offAt places i with | some o => z.set o v | none => z
theorem bld_at {places : List (Nat × Nat)} {z : List Value} {i : Nat} {v : Value} {rest : List (Nat × Value)} {k : Value → Prop} (hv : one v = true)
    (ho : (match offAt places i with | some o => decide (o < z.length) | none => false) = true) :
    bld places z.toArray ((i, v) :: rest).toArray k = bld places (putAt places z i v).toArray rest.toArray k := by
  unfold putAt
  cases h : offAt places i with
  | none => rw [h] at ho; cases ho
  | some o =>
    rw [h] at ho
    exact bld_step (offAt_get h) hv (by simpa using ho)
def bld0 (places : List (Nat × Nat)) (z : Array Value) (ps : Array (Nat × Value)) (k : Value → Prop) : Prop := bld places z ps k
theorem bld_if {places : List (Nat × Nat)} {z : List Value} {i : Nat} {v : Value} {rest : List (Nat × Value)} {k : Value → Prop} :
    bld places z.toArray ((i, v) :: rest).toArray k = if one v = true ∧ (match offAt places i with | some o => decide (o < z.length) | none => false) = true then bld places (putAt places z i v).toArray rest.toArray k else bld0 places z.toArray ((i, v) :: rest).toArray k := by
  by_cases h : one v = true ∧ (match offAt places i with | some o => decide (o < z.length) | none => false) = true
  · rw [if_pos h]; exact bld_at h.1 h.2
  · rw [if_neg h]; rfl
theorem bld_done {places : List (Nat × Nat)} {z : Array Value} {k : Value → Prop} : bld places z #[] k = k (.agg z) := rfl
@[simp] theorem cells_agg {cs : Array Value} : Value.cells (.agg cs) = cs := rfl
@[simp] theorem cells_int {k : IntKind} {n : Int} : Value.cells (.int k n) = #[.int k n] := rfl
@[simp] theorem cells_str {s : ByteArray} : Value.cells (.string s) = #[.string s] := rfl
@[simp] theorem all_cons1 {a : Value} {l : List Value} : (List.toArray (a :: l)).all one = (one a && (List.toArray l).all one) := by simp
@[simp] theorem all_nil1 : (List.toArray ([] : List Value)).all one = true := by simp
@[simp] theorem splice_lit {l vs : List Value} (h : l.length = vs.length) : splice l.toArray 0 vs.toArray = vs.toArray := splice_all (by simpa using h)
theorem ixS_lit {s : List UInt8} {kd : IntKind} {i : Nat} (hi : i < s.length) {K : Value → Prop} : ixS (.string (str s)) (.int kd i) K = K (.int .u8 s[i].toNat) := by
  have : (str s)[i]? = some s[i] := by
    have h : i < (str s).size := by simpa using hi
    rw [getElem?_pos (str s) i h]
    rfl
  unfold ixS
  simp only [Int.toNat_natCast, this]
  simp
theorem loadVar_of {P : Program} {t : TypeId} {n b : Nat} {w : World} {c : Array Value} {T : TypeId} {fr : Nat × Nat} (ha : aggO P t = some true) (hn : szO P t = some n) (hh : w.heap[b]? = some (.cells c T fr)) (hs : c.size = n) {K : Value → Prop} :
    qG P (do loadVar t (← asAddr (.pointer (some ⟨b, 0, none⟩)))) w K = K (.agg c) := by
  refine qG_of ?_
  have h : ldn n (.pointer (some ⟨b, 0, none⟩)) w (fun v => v = .agg c) := by
    rw [ldn_p]; unfold rdN; simp only [hh, true_and, hs, Nat.zero_add, Nat.le_refl]
    have : c.extract 0 n = c := by rw [← hs]; simp
    rw [this]
  obtain ⟨v, hr, hv⟩ := ldn_q (P := P) ha hn h
  subst hv
  exact hr
/-! bytes of numbers -/
theorem wrap_u8 (x : Int) : IntKind.u8.wrap x = ((bOf x).toNat : Int) := by
  have h1 : (bOf x).toNat = (x % 256).toNat := by unfold bOf; simp; omega
  rw [h1]
  simp [IntKind.wrap, IntKind.bits, IntKind.signed]
  omega
theorem bOf_mod (x : Int) : bOf (x % 256) = bOf x := by unfold bOf; rw [Int.emod_emod_of_dvd x (Int.dvd_refl 256)]
theorem top_u64 {P : Program} {T : TypeId} {xo yo : Operand} {w : World} {K : Value → Prop} {n : Int} (h0 : -9223372036854775808 ≤ n) (h1 : n < 9223372036854775808) :
    qG P (bq .xor T xo yo (.int .u64 (IntKind.u64.wrap n)) (.int .u64 9223372036854775808)) w K = K (.int .u64 ((n + 9223372036854775808).toNat : Nat)) := by
  have e1 : IntKind.u64.wrap n = (((n % 18446744073709551616).toNat : Nat) : Int) := by
    simp [IntKind.wrap, IntKind.bits, IntKind.signed]; omega
  have e2 : Value.int .u64 9223372036854775808 = .int .u64 ((2 ^ 63 : Nat) : Int) := rfl
  have e3 : ((n % 18446744073709551616).toNat + 2 ^ 63) % 2 ^ 64 = (n + 9223372036854775808).toNat := by omega
  rw [e1, e2, xoru64_of (by omega) (by omega), xor_top (by omega), e3]
theorem top2_u64 {P : Program} {T : TypeId} {xo yo : Operand} {w : World} {K : Value → Prop} {x : Nat} (hx : x < 2 ^ 64) :
    qG P (bq .xor T xo yo (.int .u64 x) (.int .u64 9223372036854775808)) w K = K (.int .u64 ((x + 2 ^ 63) % 2 ^ 64 : Nat)) := by
  have e2 : Value.int .u64 9223372036854775808 = .int .u64 ((2 ^ 63 : Nat) : Int) := rfl
  rw [e2, xoru64_of hx (by omega), xor_top hx]
theorem p256_8 : (256 : Nat) ^ 8 = 2 ^ 64 := by decide
theorem bOf_shift {N i : Nat} (hi : i < 8) : bOf ((N : Int) / 2 ^ (8 * (7 - (i : Int))).toNat) = UInt8.ofNat (N / 256 ^ (8 - 1 - i) % 256) := by
  have e : (8 * (7 - (i : Int))).toNat = 8 * (8 - 1 - i) := by omega
  rw [e]
  have e2 : ((2 : Int) ^ (8 * (8 - 1 - i))) = ((256 ^ (8 - 1 - i) : Nat) : Int) := by rw [Int.pow_mul]; simp
  rw [e2, ← Int.natCast_ediv]
  generalize N / 256 ^ (8 - 1 - i) = q
  unfold bOf
  congr 1
theorem be8_get {n : Int} (h0 : -9223372036854775808 ≤ n) (h1 : n < 9223372036854775808) {i : Nat} (hi : i < 8) : (be8 n)[i]? = some (bOf (n / 2 ^ (8 * (7 - i)) + if i = 0 then 128 else 0)) := by
  unfold be8
  rw [be_get hi]
  congr 1
  apply UInt8.toNat_inj.1
  unfold bOf
  rcases (by omega : i = 0 ∨ i = 1 ∨ i = 2 ∨ i = 3 ∨ i = 4 ∨ i = 5 ∨ i = 6 ∨ i = 7) with rfl | rfl | rfl | rfl | rfl | rfl | rfl | rfl <;> simp <;> omega
theorem bsl_byte {e : Nat} {z : Array Value} (c : UInt8) {w : World} {K : Value → World → Prop} (hK : ∀ v' w', Fr w w' v' 1 ([c].map byteV) → K v' w') : bsl e 1 1 z #[(0, .int .u8 c.toNat)] w K :=
  bsl_rowN (n := 1) (cs := byteV c) (by omega) rfl rfl hK
theorem take_snoc {α : Type} {l : List α} {i : Nat} {x : α} (h : l[i]? = some x) : l.take i ++ [x] = l.take (i + 1) := by
  obtain ⟨hi, hx⟩ := List.getElem?_eq_some_iff.1 h
  rw [List.take_succ_eq_append_getElem hi, hx]
theorem V3.bytes_ok {v : V3} (h : v.ok = true) : v.bytes.length ≤ 66 := by
  obtain ⟨k, n, s⟩ := v
  unfold V3.ok at h
  unfold V3.bytes
  simp only at h ⊢
  by_cases h1 : k = 1
  · simp [h1, be8_len]
  · by_cases h2 : k = 2
    · simp [h2] at h ⊢; omega
    · by_cases h3 : k = 3
      · simp [h3]
      · simp [h1, h2, h3]
theorem rowB_len {r : List V3} (h : r.all V3.ok = true) : (rowB r).length ≤ 66 * r.length := by
  induction r with
  | nil => simp [rowB]
  | cons v r ih =>
    simp only [List.all_cons, Bool.and_eq_true] at h
    have h1 := ih h.2
    have h2 := V3.bytes_ok h.1
    have e : rowB (v :: r) = v.bytes ++ rowB r := by simp [rowB]
    rw [e, List.length_append, List.length_cons]
    omega
theorem rowB_snoc (r : List V3) (v : V3) : rowB (r ++ [v]) = rowB r ++ v.bytes := by simp [rowB]
theorem putRow_bad {r : List V3} {v : V3} (h : v ∈ r) (hv : v.ok = false) : putRow r = ([], 1) := by
  unfold putRow
  rw [if_neg]
  rintro ⟨_, h2⟩
  rw [List.all_eq_true] at h2
  rw [h2 v h] at hv
  cases hv
theorem str_nil : (⟨#[]⟩ : ByteArray) = str [] := rfl
theorem kp_alloc {w : World} {o : Obj} : Kp [] w (w.alloc o) := (Kp.refl [] w).alloc o
theorem kp_drew {w : World} : Kp [] w w.drew := (Kp.refl [] w).drew
theorem ex_w {w' : World} : ∃ w, w = w' := ⟨_, rfl⟩
end Go.Q
