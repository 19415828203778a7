/- Part of the proof (P1): an engine, rules or contracts of the functions; it states nothing of the claim by itself. -/
import Derived.Test.YtojnmknankmhcaaGreatP0
import Derived.Below
import Derived.Laws.Append
import Derived.ChangeArms
import Derived.DataReads
import Derived.Laws.StructEq
import Derived.Test.YtojnmknankmhcaaGreatProg
import Derived.KernelRfl
import Derived.Lib.Builder
import Derived.Laws.Externs
import Derived.Lib.UnsafeStr

/- Rules for the printed forms: what an operation comes to when its operands are known; worlds; what is kept. -/
set_option linter.unusedVariables false
set_option linter.unusedSimpArgs false
namespace Go.Q
variable {P : Program}

theorem qG_of {s : Sem Value} {w : World} {v : Value} {K : Value → Prop} (h : s.run P w = .ok v w) : qG P s w K = K v := by
  apply propext
  constructor
  · rintro ⟨v', hr, hk⟩
    rw [h] at hr
    injection hr with h1
    subst h1; exact hk
  · exact fun hk => ⟨v, h, hk⟩
theorem stb_of {s : Sem Value} {w : World} {v u : Value} (h : s.run P w = .ok v w) : stb P s u w = (v = u) := by
  unfold stb; rw [h]; simp
/-! ### numbers -/
section
variable {T : TypeId} {xo yo : Operand} {k : IntKind} {a b : Int} {w : World} {K : Value → Prop} {u : Value}
theorem run_bq_int {op : BinOp} {s : Sem Value} (hop : ∀ w : World, (binOp op T (.int k a) (.int k b)).run P w = s.run P w) : (bq op T xo yo (.int k a) (.int k b)).run P w = s.run P w := by
  cases op <;> exact hop w
theorem run_add : (bq .add T xo yo (.int k a) (.int k b)).run P w = .ok (.int k (k.wrap (a + b))) w := run_bq_int (s := .pure _) fun w => by simp [binOp, Op.intArith]
theorem run_sub : (bq .sub T xo yo (.int k a) (.int k b)).run P w = .ok (.int k (k.wrap (a - b))) w := run_bq_int (s := .pure _) fun w => by simp [binOp, Op.intArith]
theorem run_mul : (bq .mul T xo yo (.int k a) (.int k b)).run P w = .ok (.int k (k.wrap (a * b))) w := run_bq_int (s := .pure _) fun w => by simp [binOp, Op.intArith]
theorem run_lss : (bq .lss T xo yo (.int k a) (.int k b)).run P w = .ok (.bool (decide (a < b))) w := run_bq_int (s := .pure _) fun w => by simp [binOp, Op.intCmp]
theorem run_leq : (bq .leq T xo yo (.int k a) (.int k b)).run P w = .ok (.bool (decide (a ≤ b))) w := run_bq_int (s := .pure _) fun w => by simp [binOp, Op.intCmp]
theorem run_gtr : (bq .gtr T xo yo (.int k a) (.int k b)).run P w = .ok (.bool (decide (a > b))) w := run_bq_int (s := .pure _) fun w => by simp [binOp, Op.intCmp]
theorem run_geq : (bq .geq T xo yo (.int k a) (.int k b)).run P w = .ok (.bool (decide (a ≥ b))) w := run_bq_int (s := .pure _) fun w => by simp [binOp, Op.intCmp]
theorem run_eql : (bq .eql T xo yo (.int k a) (.int k b)).run P w = .ok (.bool (decide (a = b))) w := run_bq_int (s := .pure _) fun w => by simp [binOp, Op.intCmp]; rfl
theorem run_neq : (bq .neq T xo yo (.int k a) (.int k b)).run P w = .ok (.bool (decide (a ≠ b))) w := run_bq_int (s := .pure _) fun w => by simp [binOp, Op.intCmp, bne]; rfl
@[simp] theorem bq_add : qG P (bq .add T xo yo (.int k a) (.int k b)) w K = K (.int k (k.wrap (a + b))) := qG_of run_add
@[simp] theorem bq_sub : qG P (bq .sub T xo yo (.int k a) (.int k b)) w K = K (.int k (k.wrap (a - b))) := qG_of run_sub
@[simp] theorem bq_mul : qG P (bq .mul T xo yo (.int k a) (.int k b)) w K = K (.int k (k.wrap (a * b))) := qG_of run_mul
@[simp] theorem bq_lss : qG P (bq .lss T xo yo (.int k a) (.int k b)) w K = K (.bool (decide (a < b))) := qG_of run_lss
@[simp] theorem bq_leq : qG P (bq .leq T xo yo (.int k a) (.int k b)) w K = K (.bool (decide (a ≤ b))) := qG_of run_leq
@[simp] theorem bq_gtr : qG P (bq .gtr T xo yo (.int k a) (.int k b)) w K = K (.bool (decide (a > b))) := qG_of run_gtr
@[simp] theorem bq_geq : qG P (bq .geq T xo yo (.int k a) (.int k b)) w K = K (.bool (decide (a ≥ b))) := qG_of run_geq
@[simp] theorem bq_eql : qG P (bq .eql T xo yo (.int k a) (.int k b)) w K = K (.bool (decide (a = b))) := qG_of run_eql
@[simp] theorem bq_neq : qG P (bq .neq T xo yo (.int k a) (.int k b)) w K = K (.bool (decide (a ≠ b))) := qG_of run_neq
@[simp] theorem stb_add : stb P (bq .add T xo yo (.int k a) (.int k b)) u w = (.int k (k.wrap (a + b)) = u) := stb_of run_add
@[simp] theorem stb_sub : stb P (bq .sub T xo yo (.int k a) (.int k b)) u w = (.int k (k.wrap (a - b)) = u) := stb_of run_sub
@[simp] theorem stb_mul : stb P (bq .mul T xo yo (.int k a) (.int k b)) u w = (.int k (k.wrap (a * b)) = u) := stb_of run_mul
@[simp] theorem stb_lss : stb P (bq .lss T xo yo (.int k a) (.int k b)) u w = (.bool (decide (a < b)) = u) := stb_of run_lss
@[simp] theorem stb_eql : stb P (bq .eql T xo yo (.int k a) (.int k b)) u w = (.bool (decide (a = b)) = u) := stb_of run_eql
@[simp] theorem stb_neq : stb P (bq .neq T xo yo (.int k a) (.int k b)) u w = (.bool (decide (a ≠ b)) = u) := stb_of run_neq
end
theorem run_not {b : Bool} {w : World} : (Op.unary .not (.bool b)).run P w = .ok (.bool !b) w := rfl
@[simp] theorem un_not {b : Bool} {w : World} {K : Value → Prop} : qG P (Op.unary .not (.bool b)) w K = K (.bool !b) := qG_of run_not
@[simp] theorem stb_not {b : Bool} {w : World} {u : Value} : stb P (Op.unary .not (.bool b)) u w = (.bool (!b) = u) := stb_of run_not
theorem run_extract {vs : Array Value} {i : Nat} {v : Value} {w : World} (h : vs[i]? = some v) : (Instr.extract (.tuple vs) i).run P w = .ok v w := by simp [Instr.extract, h]
@[simp] theorem ex0 {a b : Value} {w : World} {K : Value → Prop} : qG P (Instr.extract (.tuple #[a, b]) 0) w K = K a := qG_of (run_extract rfl)
@[simp] theorem ex1 {a b : Value} {w : World} {K : Value → Prop} : qG P (Instr.extract (.tuple #[a, b]) 1) w K = K b := qG_of (run_extract rfl)
@[simp] theorem ex30 {a b c : Value} {w : World} {K : Value → Prop} : qG P (Instr.extract (.tuple #[a, b, c]) 0) w K = K a := qG_of (run_extract rfl)
@[simp] theorem ex31 {a b c : Value} {w : World} {K : Value → Prop} : qG P (Instr.extract (.tuple #[a, b, c]) 1) w K = K b := qG_of (run_extract rfl)
@[simp] theorem ex32 {a b c : Value} {w : World} {K : Value → Prop} : qG P (Instr.extract (.tuple #[a, b, c]) 2) w K = K c := qG_of (run_extract rfl)
@[simp] theorem stb_ex0 {a b u : Value} {w : World} : stb P (Instr.extract (.tuple #[a, b]) 0) u w = (a = u) := stb_of (run_extract rfl)
@[simp] theorem stb_ex1 {a b u : Value} {w : World} : stb P (Instr.extract (.tuple #[a, b]) 1) u w = (b = u) := stb_of (run_extract rfl)
@[simp] theorem stb_ex30 {a b c u : Value} {w : World} : stb P (Instr.extract (.tuple #[a, b, c]) 0) u w = (a = u) := stb_of (run_extract rfl)
@[simp] theorem stb_ex31 {a b c u : Value} {w : World} : stb P (Instr.extract (.tuple #[a, b, c]) 1) u w = (b = u) := stb_of (run_extract rfl)
@[simp] theorem stb_ex32 {a b c u : Value} {w : World} : stb P (Instr.extract (.tuple #[a, b, c]) 2) u w = (c = u) := stb_of (run_extract rfl)
theorem run_max {ts : Array TypeId} {t : TypeId} {k : IntKind} {a b : Int} {w : World} : (Builtin.max_ ts t #[.int k a, .int k b]).run P w = .ok (.int k (max a b)) w := by
  simp only [Builtin.max_, List.foldlM_cons, List.foldlM_nil, Builtin.max2, pure_bind]
  show Result.ok _ _ = _
  congr 2; omega
theorem run_min {ts : Array TypeId} {t : TypeId} {k : IntKind} {a b : Int} {w : World} : (Builtin.min_ ts t #[.int k a, .int k b]).run P w = .ok (.int k (min a b)) w := by
  simp only [Builtin.min_, List.foldlM_cons, List.foldlM_nil, Builtin.min2, pure_bind]
  show Result.ok _ _ = _
  congr 2; omega
@[simp] theorem q_max {ts : Array TypeId} {t : TypeId} {k : IntKind} {a b : Int} {w : World} {K : Value → Prop} : qG P (Builtin.max_ ts t #[.int k a, .int k b]) w K = K (.int k (max a b)) := qG_of run_max
@[simp] theorem q_min {ts : Array TypeId} {t : TypeId} {k : IntKind} {a b : Int} {w : World} {K : Value → Prop} : qG P (Builtin.min_ ts t #[.int k a, .int k b]) w K = K (.int k (min a b)) := qG_of run_min
/-! ### strings, bools, pointers against nil -/
theorem toList_beq (s t : ByteArray) : (s.toList == t.toList) = decide (s = t) := by
  by_cases h : s = t
  · subst h; simp
  · have : s.toList ≠ t.toList := by
      intro h'
      apply h
      rw [ByteArray.toList_eq, ByteArray.toList_eq] at h'
      cases s; cases t
      simp only [ByteArray.mk.injEq]
      exact Array.toList_inj.1 h'
    rw [decide_eq_false h]
    exact beq_false_of_ne this
def sLt (s t : ByteArray) : Bool := Op.bytesLess s.toList t.toList
section
variable {T : TypeId} {xo yo : Operand} {a b : ByteArray} {w : World} {K : Value → Prop} {u : Value}
theorem run_bq_str {op : BinOp} {s : Sem Value} (hop : ∀ w : World, (binOp op T (.string a) (.string b)).run P w = s.run P w) : (bq op T xo yo (.string a) (.string b)).run P w = s.run P w := by
  cases op <;> exact hop w
theorem run_seql : (bq .eql T xo yo (.string a) (.string b)).run P w = .ok (.bool (decide (a = b))) w := run_bq_str (s := .pure _) fun w => by simp only [binOp, Op.stringOp, toList_beq]; rfl
theorem run_sneq : (bq .neq T xo yo (.string a) (.string b)).run P w = .ok (.bool (!decide (a = b))) w := run_bq_str (s := .pure _) fun w => by simp only [binOp, Op.stringOp, toList_beq]; rfl
theorem run_slss : (bq .lss T xo yo (.string a) (.string b)).run P w = .ok (.bool (sLt a b)) w := run_bq_str (s := .pure _) fun _ => rfl
theorem run_sadd (h : a.size + b.size < 9223372036854775808) : (bq .add T xo yo (.string a) (.string b)).run P w = .ok (.string (a ++ b)) w := run_bq_str (s := .pure _) fun w => by
  have : ¬ (((a.size + b.size : Nat) : Int) > IntKind.i64.max) := by
    have : IntKind.i64.max = 9223372036854775807 := by decide
    rw [this]; omega
  simp only [binOp, Op.stringOp, this, if_false]; rfl
@[simp] theorem bq_seql : qG P (bq .eql T xo yo (.string a) (.string b)) w K = K (.bool (decide (a = b))) := qG_of run_seql
@[simp] theorem bq_sneq : qG P (bq .neq T xo yo (.string a) (.string b)) w K = K (.bool (!decide (a = b))) := qG_of run_sneq
@[simp] theorem bq_slss : qG P (bq .lss T xo yo (.string a) (.string b)) w K = K (.bool (sLt a b)) := qG_of run_slss
theorem bq_sadd (h : a.size + b.size < 9223372036854775808) : qG P (bq .add T xo yo (.string a) (.string b)) w K = K (.string (a ++ b)) := qG_of (run_sadd h)
@[simp] theorem stb_seql : stb P (bq .eql T xo yo (.string a) (.string b)) u w = (.bool (decide (a = b)) = u) := stb_of run_seql
@[simp] theorem stb_sneq : stb P (bq .neq T xo yo (.string a) (.string b)) u w = (.bool (!decide (a = b)) = u) := stb_of run_sneq
end
def isPtr (P : Program) (T : TypeId) : Bool := match P.underlying T with | some (.pointer _) => true | _ => false
def isBoolT (P : Program) (T : TypeId) : Bool := match P.underlying T with | some .bool => true | _ => false
def isSl (P : Program) (T : TypeId) : Bool := match P.underlying T with | some (.slice _) => true | _ => false
theorem run_equal1 {T : TypeId} {x y : Value} {w : World} {b : Bool} (h : (Op.equal T x y).run P w = .ok b w) (hx : ∀ c d, ¬ (x = .agg c ∧ y = .agg d)) (hn : ¬ (x = .nilIface ∧ y = .nilIface)) (xo yo : Operand)
    (he : binOp .eql T x y = (do pure (.bool (← Op.equal T x y)))) (hne : binOp .neq T x y = (do pure (.bool (!(← Op.equal T x y))))) :
    (bq .eql T xo yo x y).run P w = .ok (.bool b) w ∧ (bq .neq T xo yo x y).run P w = .ok (.bool !b) w := by
  have hg : ∀ op, op = .eql ∨ op = .neq → (eqGuard op T xo yo x y).run P w = .ok () w := by
    rintro op (rfl | rfl)
    all_goals
      unfold eqGuard
      simp only [Bool.not_true, Bool.false_eq_true, if_false]
      split
      · exact absurd ⟨rfl, rfl⟩ hn
      · exact absurd ⟨rfl, rfl⟩ (hx _ _)
      · rfl
  constructor
  · unfold bq; rw [Sem.run_bind, hg _ (.inl rfl)]; simp only [Result.andThen_ok, he, Sem.run_bind, h]; rfl
  · unfold bq; rw [Sem.run_bind, hg _ (.inr rfl)]; simp only [Result.andThen_ok, hne, Sem.run_bind, h]; rfl
section
variable {T : TypeId} {xo yo : Operand} {w : World} {K : Value → Prop} {u : Value}
theorem run_pnil (a : Option Addr) (hT : isPtr P T = true) : (bq .eql T xo yo (.pointer a) (.pointer none)).run P w = .ok (.bool a.isNone) w ∧ (bq .neq T xo yo (.pointer a) (.pointer none)).run P w = .ok (.bool !a.isNone) w := by
  unfold isPtr at hT
  split at hT
  · rename_i e hu
    refine run_equal1 ?_ (fun _ _ h => by cases h.1) (fun h => by cases h.1) xo yo (by cases a <;> rfl) (by cases a <;> rfl)
    unfold Op.equal Op.maxDepth Op.equalIn
    simp only [Sem.run_bind, run_underlying hu, Result.andThen_ok]
    cases a <;> rfl
  · cases hT
@[simp] theorem bq_peql (a : Option Addr) (hT : isPtr P T = true) : qG P (bq .eql T xo yo (.pointer a) (.pointer none)) w K = K (.bool a.isNone) := qG_of (run_pnil a hT).1
@[simp] theorem bq_pneq (a : Option Addr) (hT : isPtr P T = true) : qG P (bq .neq T xo yo (.pointer a) (.pointer none)) w K = K (.bool !a.isNone) := qG_of (run_pnil a hT).2
@[simp] theorem stb_peql (a : Option Addr) (hT : isPtr P T = true) : stb P (bq .eql T xo yo (.pointer a) (.pointer none)) u w = (.bool a.isNone = u) := stb_of (run_pnil a hT).1
@[simp] theorem stb_pneq (a : Option Addr) (hT : isPtr P T = true) : stb P (bq .neq T xo yo (.pointer a) (.pointer none)) u w = (.bool (!a.isNone) = u) := stb_of (run_pnil a hT).2
theorem run_bools (a b : Bool) (hT : isBoolT P T = true) : (bq .eql T xo yo (.bool a) (.bool b)).run P w = .ok (.bool (a == b)) w ∧ (bq .neq T xo yo (.bool a) (.bool b)).run P w = .ok (.bool !(a == b)) w := by
  unfold isBoolT at hT
  split at hT
  · rename_i hu
    refine run_equal1 ?_ (fun _ _ h => by cases h.1) (fun h => by cases h.1) xo yo rfl rfl
    unfold Op.equal Op.maxDepth Op.equalIn
    simp only [Sem.run_bind, run_underlying hu, Result.andThen_ok]
    rfl
  · cases hT
@[simp] theorem bq_beql (a b : Bool) (hT : isBoolT P T = true) : qG P (bq .eql T xo yo (.bool a) (.bool b)) w K = K (.bool (a == b)) := qG_of (run_bools a b hT).1
@[simp] theorem bq_bneq (a b : Bool) (hT : isBoolT P T = true) : qG P (bq .neq T xo yo (.bool a) (.bool b)) w K = K (.bool !(a == b)) := qG_of (run_bools a b hT).2
@[simp] theorem stb_beql (a b : Bool) (hT : isBoolT P T = true) : stb P (bq .eql T xo yo (.bool a) (.bool b)) u w = (.bool (a == b) = u) := stb_of (run_bools a b hT).1
@[simp] theorem stb_bneq (a b : Bool) (hT : isBoolT P T = true) : stb P (bq .neq T xo yo (.bool a) (.bool b)) u w = (.bool (!(a == b)) = u) := stb_of (run_bools a b hT).2
theorem run_slnil (a : Option Addr) (n c n' c' : Nat) (hT : isSl P T = true) : (bq .eql T xo yo (.slice a n c) (.slice none n' c')).run P w = .ok (.bool a.isNone) w ∧ (bq .neq T xo yo (.slice a n c) (.slice none n' c')).run P w = .ok (.bool !a.isNone) w := by
  unfold isSl at hT
  split at hT
  · rename_i e hu
    refine run_equal1 ?_ (fun _ _ h => by cases h.1) (fun h => by cases h.1) xo yo (by cases a <;> rfl) (by cases a <;> rfl)
    unfold Op.equal Op.maxDepth Op.equalIn
    simp only [Sem.run_bind, run_underlying hu, Result.andThen_ok]
    cases a <;> rfl
  · cases hT
@[simp] theorem bq_sleql (a : Option Addr) (n c n' c' : Nat) (hT : isSl P T = true) : qG P (bq .eql T xo yo (.slice a n c) (.slice none n' c')) w K = K (.bool a.isNone) := qG_of (run_slnil a n c n' c' hT).1
@[simp] theorem bq_slneq (a : Option Addr) (n c n' c' : Nat) (hT : isSl P T = true) : qG P (bq .neq T xo yo (.slice a n c) (.slice none n' c')) w K = K (.bool !a.isNone) := qG_of (run_slnil a n c n' c' hT).2
end

/-! ### the forms, their operands known -/
@[simp] theorem pk_b {t : Bool} {a b : Value} {K : Value → Prop} : pk (.bool t) a b K = K (bif t then a else b) := rfl
@[simp] theorem nk_p {a : Addr} {K : Value → Prop} : nk (.pointer (some a)) K = K (.pointer (some a)) := rfl
@[simp] theorem bV_b {t : Bool} {T F : Prop} : bV (.bool t) T F = ((t = true → T) ∧ (t = false → F)) := by cases t <;> simp [bV]
@[simp] theorem ld1_p {a : Addr} {w : World} {K : Value → Prop} : ld1 (.pointer (some a)) w K = rd1 w a K := rfl
@[simp] theorem ldn_p {n : Nat} {a : Addr} {w : World} {K : Value → Prop} : ldn n (.pointer (some a)) w K = rdN w a n fun cs => K (.agg cs) := rfl
@[simp] theorem st1_p {a : Addr} {v : Value} {w : World} {K : World → Prop} : st1 (.pointer (some a)) v w K = (one v = true ∧ wr1 w a v K) := rfl
@[simp] theorem stn_p {n : Nat} {a : Addr} {cs : Array Value} {w : World} {K : World → Prop} : stn n (.pointer (some a)) (.agg cs) w K = (cs.size = n ∧ wrN w a cs K) := rfl
@[simp] theorem add_mk {b o n : Nat} : (⟨b, o, none⟩ : Addr).add n = ⟨b, o + n, none⟩ := add_none rfl n
@[simp] theorem fa_p {off b o : Nat} {K : Value → Prop} : fa off (.pointer (some ⟨b, o, none⟩)) K = K (.pointer (some ⟨b, o + off, none⟩)) := by unfold fa; simp
@[simp] theorem ia_p {n b o len cap : Nat} {k : IntKind} {j : Int} {K : Value → Prop} : ia n (.slice (some ⟨b, o, none⟩) len cap) (.int k j) K = ((0 ≤ j ∧ j < len) ∧ K (.pointer (some ⟨b, o + j.toNat * n, none⟩))) := by unfold ia; simp
@[simp] theorem iaA_p {len n b o : Nat} {k : IntKind} {j : Int} {K : Value → Prop} : iaA len n (.pointer (some ⟨b, o, none⟩)) (.int k j) K = ((0 ≤ j ∧ j < len) ∧ K (.pointer (some ⟨b, o + j.toNat * n, none⟩))) := by unfold iaA; simp
@[simp] theorem slL_p {n len cap : Nat} {a : Option Addr} {lo hi : Option Value} {K : Value → Prop} : slL n (.slice a len cap) lo hi K = bnd hi len cap fun h => bnd lo 0 h fun l => K (.slice (if cap = l then a else a.map (·.add (l * n))) (h - l) (cap - l)) := rfl
@[simp] theorem slA_p {len n b o : Nat} {lo hi : Option Value} {K : Value → Prop} : slA len n (.pointer (some ⟨b, o, none⟩)) lo hi K = bnd hi len len fun h => bnd lo 0 h fun l => K (.slice (some ⟨b, (if len = l then o else o + l * n), none⟩) (h - l) (len - l)) := by
  unfold slA
  have : ∀ l, (if len = l then (⟨b, o, none⟩ : Addr) else (⟨b, o, none⟩ : Addr).add (l * n)) = ⟨b, (if len = l then o else o + l * n), none⟩ := by intro l; split <;> simp
  simp only [this]
@[simp] theorem slS_p {s : ByteArray} {lo hi : Option Value} {K : Value → Prop} : slS (.string s) lo hi K = bnd hi s.size s.size fun h => bnd lo 0 h fun l => K (.string (s.extract l h)) := rfl
@[simp] theorem bnd_none {d y : Nat} {K : Nat → Prop} : bnd none d y K = K d := rfl
@[simp] theorem bnd_some {k : IntKind} {i : Int} {d y : Nat} {K : Nat → Prop} : bnd (some (.int k i)) d y K = ((0 ≤ i ∧ i ≤ y) ∧ K i.toNat) := rfl
@[simp] theorem lenS_s {s : ByteArray} {K : Value → Prop} : lenS (.string s) K = K (.int .i64 s.size) := rfl
@[simp] theorem lenL_s {a : Option Addr} {n c : Nat} {K : Value → Prop} : lenL (.slice a n c) K = K (.int .i64 n) := rfl
@[simp] theorem cvI_i {kd k : IntKind} {n : Int} {K : Value → Prop} : cvI kd (.int k n) K = K (.int kd (kd.wrap n)) := rfl
@[simp] theorem cvSS_s {s : ByteArray} {K : Value → Prop} : cvSS (.string s) K = K (.string s) := rfl
@[simp] theorem fld_a {agg : Bool} {off n : Nat} {cs : Array Value} {K : Value → Prop} : fld agg off n (.agg cs) K = partG agg off n cs K := rfl
@[simp] theorem part_t {off n : Nat} {cs : Array Value} {K : Value → Prop} : partG true off n cs K = K (.agg (cs.extract off (off + n))) := rfl
@[simp] theorem part_f {off n : Nat} {cs : Array Value} {K : Value → Prop} : partG false off n cs K = match cs[off]? with | some v => K v | none => False := rfl
@[simp] theorem newG_k {c : Array Value} {T : TypeId} {w : World} {K : Value → World → Prop} : newG c T w K = K (.pointer (some ⟨w.heap.size, 0, none⟩)) (w.alloc (.cells c T)) := rfl
@[simp] theorem rd1_mk {w : World} {b o : Nat} {K : Value → Prop} : rd1 w ⟨b, o, none⟩ K = match w.heap[b]? with | some (.cells c _ _) => (match c[o]? with | some v => K v | none => False) | _ => False := by
  unfold rd1
  cases h : w.heap[b]? with
  | none => rfl
  | some x => cases x <;> first | rfl | (simp only [true_and]; rfl)
@[simp] theorem rdN_mk {w : World} {b o n : Nat} {K : Array Value → Prop} : rdN w ⟨b, o, none⟩ n K = match w.heap[b]? with | some (.cells c _ _) => o + n ≤ c.size ∧ K (c.extract o (o + n)) | _ => False := by
  unfold rdN; split <;> simp_all
@[simp] theorem wr1_mk {w : World} {b o : Nat} {v : Value} {K : World → Prop} : wr1 w ⟨b, o, none⟩ v K = match w.heap[b]? with | some (.cells c T fr) => (o < c.size ∧ okFr fr o 1) ∧ K (setBlk w b (.cells (c.setIfInBounds o v) T fr)) | _ => False := by
  unfold wr1; split <;> simp_all
@[simp] theorem wrN_mk {w : World} {b o : Nat} {vs : Array Value} {K : World → Prop} : wrN w ⟨b, o, none⟩ vs K = match w.heap[b]? with | some (.cells c T fr) => (o + vs.size ≤ c.size ∧ okFr fr o vs.size ∧ vs.all one = true) ∧ K (setBlk w b (.cells (splice c o vs) T fr)) | _ => False := by
  unfold wrN; split <;> simp_all
@[simp] theorem okFr0 {o n : Nat} : okFr (0, 0) o n = True := by simp [okFr]
@[simp] theorem one_int {k : IntKind} {n : Int} : one (.int k n) = true := rfl
@[simp] theorem one_bool {b : Bool} : one (.bool b) = true := rfl
@[simp] theorem one_str {s : ByteArray} : one (.string s) = true := rfl
@[simp] theorem one_ptr {a : Option Addr} : one (.pointer a) = true := rfl
@[simp] theorem one_sl {a : Option Addr} {n c : Nat} : one (.slice a n c) = true := rfl
/-! ### worlds -/
@[simp] theorem heap_drew {w : World} : w.drew.heap = w.heap := rfl
@[simp] theorem size_setBlk {w : World} {b : Nat} {o : Obj} : (setBlk w b o).heap.size = w.heap.size := by simp [setBlk]
theorem heap_setBlk {w : World} {b b' : Nat} {o : Obj} : (setBlk w b o).heap[b']? = if b = b' then (if b < w.heap.size then some o else none) else w.heap[b']? := by
  simp only [setBlk, Array.getElem?_setIfInBounds]
/-- there is such a block -/
def Live (w : World) (b : Nat) : Prop := b < w.heap.size
theorem live_of {w : World} {b : Nat} {o : Obj} (h : w.heap[b]? = some o) : Live w b := (Array.getElem?_eq_some_iff.1 h).1
theorem heap_self {w : World} {b : Nat} {o : Obj} (h : Live w b) : (setBlk w b o).heap[b]? = some o := by
  unfold Live at h; rw [heap_setBlk, if_pos rfl, if_pos h]
theorem heap_ne {w : World} {b b' : Nat} {o : Obj} (h : ¬ b = b') : (setBlk w b o).heap[b']? = w.heap[b']? := by
  rw [heap_setBlk, if_neg h]
@[simp] theorem live_setBlk {w : World} {b b' : Nat} {o : Obj} : Live (setBlk w b o) b' = Live w b' := by simp [Live]
@[simp] theorem live_drew {w : World} {b : Nat} : Live w.drew b = Live w b := rfl
theorem heap_new {w : World} {o : Obj} : (w.alloc o).heap[w.heap.size]? = some o := by
  show (w.heap.push o)[w.heap.size]? = _
  simp
theorem heap_old {w : World} {b : Nat} {o : Obj} (h : Live w b) : (w.alloc o).heap[b]? = w.heap[b]? := by
  show (w.heap.push o)[b]? = _
  rw [Array.getElem?_push, if_neg (by unfold Live at h; omega)]
@[simp] theorem setBlk_new {w : World} {o o' : Obj} : Q.setBlk (w.alloc o) w.heap.size o' = w.alloc o' := by
  unfold Q.setBlk World.alloc
  simp only [World.mk.injEq, and_true]
  apply Array.ext_getElem?
  intro j
  rw [Array.getElem?_setIfInBounds, Array.getElem?_push, Array.getElem?_push]
  by_cases hj : w.heap.size = j
  · subst hj; simp
  · have : ¬ j = w.heap.size := fun h => hj h.symm
    simp [hj, this]
theorem heap_alloc {w : World} {b' : Nat} {o : Obj} : (w.alloc o).heap[b']? = if b' = w.heap.size then some o else w.heap[b']? := by
  show (w.heap.push o)[b']? = _
  rw [Array.getElem?_push]
@[simp] theorem setBlk2 {w : World} {b : Nat} {o o' : Obj} : setBlk (setBlk w b o) b o' = setBlk w b o' := setBlk_setBlk w b o o'
@[simp] theorem setBlk_drew {w : World} {b : Nat} {o : Obj} : setBlk w.drew b o = (setBlk w b o).drew := rfl
@[simp] theorem alloc_drew' {w : World} {o : Obj} : w.drew.alloc o = (w.alloc o).drew := rfl
theorem lt_of_blk {w : World} {b : Nat} {o : Obj} (h : w.heap[b]? = some o) : b < w.heap.size := (Array.getElem?_eq_some_iff.1 h).1
/-- outside the blocks 'S' what there was is as it was -/
structure Kp (S : List Nat) (w w' : World) : Prop where
  os : w'.os = w.os
  tape : w'.tape = w.tape
  output : w'.output = w.output
  size : w.heap.size ≤ w'.heap.size
  keep : ∀ b, b < w.heap.size → b ∉ S → w'.heap[b]? = w.heap[b]?
theorem Kp.refl (S : List Nat) (w : World) : Kp S w w := ⟨rfl, rfl, rfl, Nat.le_refl _, fun _ _ _ => rfl⟩
theorem Kp.trans {S S' : List Nat} {w w1 w2 : World} (h : Kp S w w1) (h' : Kp S' w1 w2) (hS : ∀ b, b ∈ S' → b < w.heap.size → b ∈ S) : Kp S w w2 :=
  ⟨h'.os.trans h.os, h'.tape.trans h.tape, h'.output.trans h.output, Nat.le_trans h.size h'.size, fun b hb hn => (h'.keep b (Nat.lt_of_lt_of_le hb h.size) (fun hm => hn (hS b hm hb))).trans (h.keep b hb hn)⟩
theorem Kp.trans' {S : List Nat} {w w1 w2 : World} (h : Kp S w w1) (h' : Kp S w1 w2) : Kp S w w2 := h.trans h' fun _ h _ => h
theorem Kp.mono {S S' : List Nat} {w w' : World} (h : Kp S w w') (hS : ∀ b, b ∈ S → b < w.heap.size → b ∈ S') : Kp S' w w' := (Kp.refl S' w).trans h hS
theorem Kp.drew {S : List Nat} {w w' : World} (h : Kp S w w') : Kp S w w'.drew := ⟨h.os, h.tape, h.output, h.size, h.keep⟩
theorem Kp.alloc {S : List Nat} {w w' : World} (h : Kp S w w') (o : Obj) : Kp S w (w'.alloc o) :=
  ⟨h.os, h.tape, h.output, by simp; have := h.size; omega, fun b hb hn => by
    rw [heap_alloc, if_neg (by have := h.size; omega)]; exact h.keep b hb hn⟩
theorem Kp.setBlk {S : List Nat} {w w' : World} (h : Kp S w w') {b : Nat} (hb : b ∈ S ∨ w.heap.size ≤ b) (o : Obj) : Kp S w (setBlk w' b o) :=
  ⟨h.os, h.tape, h.output, by simpa using h.size, fun b' hb' hn => by
    rw [heap_setBlk, if_neg (by intro hh; subst hh; rcases hb with hb | hb; exact hn hb; omega)]; exact h.keep b' hb' hn⟩
theorem Kp.get {S : List Nat} {w w' : World} (h : Kp S w w') {b : Nat} {o : Obj} (hb : w.heap[b]? = some o) (hn : b ∉ S) : w'.heap[b]? = some o := by
  rw [h.keep b (lt_of_blk hb) hn]; exact hb
theorem Kp.below {w w' : World} (h : Kp [] w w') : Go.RowKit.Below w.heap.size w w' := ⟨h.os, h.tape, h.output, h.size, fun k hk => h.keep k hk (by simp)⟩
theorem callG.mono {f : FuncId} {args : Array Value} {w : World} {K K' : Value → World → Prop} (h : callG P f args w K) (hk : ∀ v w', K v w' → K' v w') : callG P f args w K' :=
  Calls.mono h fun _ _ ⟨v, he, hv⟩ => ⟨v, he, hk v _ hv⟩
/-! ### numbers that fit -/
theorem w64 {x : Int} (h0 : -9223372036854775808 ≤ x) (h1 : x < 9223372036854775808) : IntKind.i64.wrap x = x := wrap64 x h0 h1
/-! ### loops: what holds at a round's head, and how many rounds are left -/
theorem loop_inv {F : (List Value → World → Prop) → List Value → World → Prop} (I : Nat → List Value → World → Prop) (hF : ∀ m N xs w, I m xs w → (∀ m' xs' w', m' < m → I m' xs' w' → N xs' w') → F N xs w)
    {m : Nat} {xs : List Value} {w : World} (h : I m xs w) : ∃ k, loopV F k xs w := by
  have key : ∀ k m, m < k → ∀ xs w, I m xs w → loopV F k xs w := by
    intro k
    induction k with
    | zero => intro m hm; omega
    | succ k ih => intro m hm xs w h; exact hF m _ xs w h fun m' xs' w' hlt h' => ih m' (by omega) xs' w' h'
  exact ⟨m + 1, key (m + 1) m (by omega) xs w h⟩
end Go.Q

/- Rows of cells: a block that is a list of rows of one length; lists of bytes as cells. Plain. -/
set_option linter.unusedVariables false
set_option linter.unusedSimpArgs false
namespace Go.Q

theorem flat_len {α : Type} {k : Nat} : ∀ {F : List (List α)}, (∀ x ∈ F, x.length = k) → F.flatten.length = F.length * k := by
  intro F
  induction F with
  | nil => intro _; simp
  | cons x r ih =>
    intro h
    rw [List.flatten_cons, List.length_append, ih fun y hy => h y (by simp [hy]), h x (by simp), List.length_cons, Nat.succ_mul]; omega
theorem flat_drop {α : Type} {k : Nat} : ∀ {F : List (List α)} (i : Nat), (∀ x ∈ F, x.length = k) → F.flatten.drop (i * k) = (F.drop i).flatten := by
  intro F
  induction F with
  | nil => intro i _; simp
  | cons x r ih =>
    intro i h
    cases i with
    | zero => simp
    | succ i =>
      have hx := h x (by simp)
      rw [List.flatten_cons, List.drop_succ_cons, ← ih i fun y hy => h y (by simp [hy])]
      have e : (i + 1) * k = k + i * k := by rw [Nat.succ_mul]; omega
      rw [e, ← List.drop_drop, ← hx, List.drop_left]
theorem flat_take {α : Type} {k : Nat} : ∀ {F : List (List α)} (i : Nat), (∀ x ∈ F, x.length = k) → F.flatten.take (i * k) = (F.take i).flatten := by
  intro F
  induction F with
  | nil => intro i _; simp
  | cons x r ih =>
    intro i h
    cases i with
    | zero => simp
    | succ i =>
      have hx := h x (by simp)
      rw [List.flatten_cons, List.take_succ_cons, List.flatten_cons, ← ih i fun y hy => h y (by simp [hy])]
      rw [List.take_append, hx, Nat.succ_mul, List.take_of_length_le (by omega)]
      congr 2; omega
theorem flat_get {α : Type} {k : Nat} {F : List (List α)} {i : Nat} (h : ∀ x ∈ F, x.length = k) (hi : i < F.length) : (F.flatten.drop (i * k)).take k = F[i] := by
  rw [flat_drop i h, List.drop_eq_getElem_cons hi, List.flatten_cons]
  rw [List.take_append_of_le_length (by rw [h _ (List.getElem_mem hi)]; omega)]
  rw [List.take_of_length_le (by rw [h _ (List.getElem_mem hi)]; omega)]
theorem flat_splice {α : Type} {k : Nat} {F : List (List α)} {i : Nat} (h : ∀ x ∈ F, x.length = k) (hi : i < F.length) {pre : List α} (hp : pre.length ≤ k) :
    F.flatten.take (i * k) ++ pre ++ F.flatten.drop (i * k + pre.length) = (F.set i (pre ++ (F[i]).drop pre.length)).flatten := by
  have hF : F.drop i = F[i] :: F.drop (i + 1) := List.drop_eq_getElem_cons hi
  rw [flat_take i h, ← List.drop_drop, flat_drop i h, hF, List.flatten_cons]
  rw [List.drop_append_of_le_length (by rw [h _ (List.getElem_mem hi)]; omega)]
  rw [List.set_eq_take_append_cons_drop, if_pos hi, List.flatten_append, List.flatten_cons]
  simp
theorem flat_splice_many {α : Type} {k : Nat} {F G : List (List α)} {i : Nat} (h : ∀ x ∈ F, x.length = k) (hG : ∀ x ∈ G, x.length = k) (_hi : i + G.length ≤ F.length) :
    F.flatten.take (i * k) ++ G.flatten ++ F.flatten.drop (i * k + G.flatten.length) = (F.take i ++ G ++ F.drop (i + G.length)).flatten := by
  rw [flat_take i h, flat_len hG, ← Nat.add_mul, flat_drop _ h]
  simp
/-- bytes as cells -/
def u8c (l : List UInt8) : List Value := l.map fun c => .int .u8 c.toNat
@[simp] theorem u8c_len (l : List UInt8) : (u8c l).length = l.length := by simp [u8c]
theorem u8c_take (l : List UInt8) (n : Nat) : (u8c l).take n = u8c (l.take n) := by simp [u8c]
theorem u8c_drop (l : List UInt8) (n : Nat) : (u8c l).drop n = u8c (l.drop n) := by simp [u8c]
theorem u8c_append (l m : List UInt8) : u8c (l ++ m) = u8c l ++ u8c m := by simp [u8c]
theorem bytesOf_u8c (l : List UInt8) : bytesOf (u8c l) = some l := by
  induction l with
  | nil => rfl
  | cons c r ih =>
    show (bytesOf (u8c r)).map _ = _
    rw [ih]
    simp
theorem one_u8c (l : List UInt8) : (u8c l).toArray.all one = true := by
  rw [List.all_toArray, List.all_eq_true]
  intro v hv
  unfold u8c at hv
  rw [List.mem_map] at hv
  obtain ⟨c, _, rfl⟩ := hv
  rfl
theorem u8s_eq (s : ByteArray) : u8s s = (u8c s.data.toList).toArray := by
  unfold u8s u8c
  apply Array.toList_inj.1
  simp
theorem splice_list (c : List Value) (o : Nat) (vs : List Value) : splice c.toArray o vs.toArray = (c.take o ++ vs ++ c.drop (o + vs.length)).toArray := by
  simp [splice]
theorem extract_list {α : Type} (c : List α) (o n : Nat) : (c.toArray).extract o (o + n) = ((c.drop o).take n).toArray := by
  simp
/-- a string of a list of bytes -/
def str (l : List UInt8) : ByteArray := ⟨l.toArray⟩
@[simp] theorem str_data (l : List UInt8) : (str l).data.toList = l := rfl
@[simp] theorem str_size (l : List UInt8) : (str l).size = l.length := by simp [str, ByteArray.size]
theorem str_of (s : ByteArray) : str s.data.toList = s := by cases s; simp [str]
theorem str_inj {l m : List UInt8} : str l = str m ↔ l = m := by
  constructor
  · intro h; have := congrArg (fun s : ByteArray => s.data.toList) h; simpa using this
  · intro h; rw [h]
@[simp] theorem str_eq (l m : List UInt8) : (str l = str m) = (l = m) := propext str_inj
@[simp] theorem str_append (l m : List UInt8) : str l ++ str m = str (l ++ m) := by
  have : (str l ++ str m).data.toList = l ++ m := by simp [str, ByteArray.data_append]
  rw [← str_of (str l ++ str m), this]
theorem str_extract (l : List UInt8) (i j : Nat) : (str l).extract i j = str ((l.take j).drop i) := by
  have : ((str l).extract i j).data.toList = (l.take j).drop i := by
    simp [str, ByteArray.data_extract, List.drop_take]
  rw [← str_of ((str l).extract i j), this]
end Go.Q

/- Slices whose elements are rows of cells: owned ones (which start at their block's head), appended to; and ones that are only read. -/
set_option linter.unusedVariables false
set_option linter.unusedSimpArgs false
namespace Go.Q

/-- a slice that owns its block -/
def RowsAt (w : World) (v : Value) (k : Nat) (rows : List (List Value)) (S : List Nat) : Prop :=
  (v = .slice none 0 0 ∧ rows = [] ∧ S = []) ∨
  ∃ (bl : Nat) (F : List (List Value)) (T : Nat), v = .slice (some ⟨bl, 0, none⟩) rows.length F.length ∧ S = [bl] ∧ w.heap[bl]? = some (.cells F.flatten.toArray T (0, 0)) ∧ (∀ x ∈ F, x.length = k) ∧ F.take rows.length = rows ∧ rows.length ≤ F.length
theorem RowsAt.keep {w w' : World} {v : Value} {k : Nat} {rows : List (List Value)} {S S' : List Nat} (h : RowsAt w v k rows S) (hk : Kp S' w w') (hd : ∀ x ∈ S, x ∉ S') : RowsAt w' v k rows S := by
  rcases h with h | ⟨bl, F, T, h1, h2, h3, h4, h5, h6⟩
  · exact .inl h
  · subst h2
    exact .inr ⟨bl, F, T, h1, rfl, hk.get h3 (hd bl (by simp)), h4, h5, h6⟩
theorem RowsAt.len {w : World} {v : Value} {k : Nat} {rows : List (List Value)} {S : List Nat} (h : RowsAt w v k rows S) : ∃ a c, v = .slice a rows.length c ∧ rows.length ≤ c := by
  rcases h with ⟨h1, h2, h3⟩ | ⟨bl, F, T, h1, h2, h3, h4, h5, h6⟩
  · exact ⟨none, 0, by rw [h1, h2]; rfl, by simp [h2]⟩
  · exact ⟨_, _, h1, h6⟩
theorem RowsAt.row {w : World} {v : Value} {k : Nat} {rows : List (List Value)} {S : List Nat} (h : RowsAt w v k rows S) {x : List Value} (hx : x ∈ rows) : x.length = k := by
  rcases h with ⟨h1, h2, h3⟩ | ⟨bl, F, T, h1, h2, h3, h4, h5, h6⟩
  · rw [h2] at hx; cases hx
  · rw [← h5] at hx; exact h4 x (List.mem_of_mem_take hx)
theorem RowsAt.nodup {w : World} {v : Value} {k : Nat} {rows : List (List Value)} {S : List Nat} (h : RowsAt w v k rows S) : S.Nodup := by
  rcases h with ⟨h1, h2, h3⟩ | ⟨bl, F, T, h1, h2, h3⟩
  · rw [h3]; simp
  · rw [h2]; simp
theorem RowsAt.lt {w : World} {v : Value} {k : Nat} {rows : List (List Value)} {S : List Nat} (h : RowsAt w v k rows S) : ∀ x ∈ S, x < w.heap.size := by
  rcases h with ⟨h1, h2, h3⟩ | ⟨bl, F, T, h1, h2, h3, h4⟩
  · rw [h3]; simp
  · rw [h2]; simp; exact live_of h3
theorem next_le {need old : Nat} (h : old < need) : Builtin.nextslicecap need old ≤ 2 * need := nextslicecap_le h
/-- rows are appended -/
theorem rows_app {e k bytes : Nat} {z : List Value} {v x : Value} {w : World} {rows G : List (List Value)} {S : List Nat} (h : RowsAt w v k rows S) (hk : 0 < k) (hz : z.length = k)
    (hG : ∀ y ∈ G, y.length = k) (hone : G.flatten.all one = true) (hsrc : ∀ K' : Nat → Array Value → Prop, K' G.length G.flatten.toArray → srcA k x w K')
    (hb : 2 * (rows.length + G.length) * bytes ≤ 2 ^ 48) (hb2 : rows.length + G.length < 2 ^ 62) {K : Value → World → Prop}
    (hK : ∀ v' w' S', RowsAt w' v' k (rows ++ G) S' → Kp S w w' → (∀ y ∈ S', y ∈ S ∨ w.heap.size ≤ y) → K v' w') : app e k bytes z.toArray v x w K := by
  have grow : ∀ (old : Array Value) (cap : Nat) , old = rows.flatten.toArray → (∀ y ∈ rows, y.length = k) → rows.length + G.length ≤ cap →
      K (.slice (some ⟨w.heap.size, 0, none⟩) (rows.length + G.length) cap) (w.drew.alloc (.cells (old ++ G.flatten.toArray ++ rep z.toArray ((cap - (rows.length + G.length)) * k)) e)) := by
    intro old cap hold hr hc
    have hF : (old ++ G.flatten.toArray ++ rep z.toArray ((cap - (rows.length + G.length)) * k)) = (rows ++ G ++ List.replicate (cap - (rows.length + G.length)) z).flatten.toArray := by
      rw [hold]
      have : rep z.toArray ((cap - (rows.length + G.length)) * k) = (List.replicate (cap - (rows.length + G.length)) z).flatten.toArray := by
        apply Array.ext
        · simp [rep, hz]
        · intro i h1 h2
          have hi : i < (cap - (rows.length + G.length)) * k := by simpa [rep] using h1
          simp only [rep, Array.getElem_map, Array.getElem_range, List.size_toArray, hz]
          have hm : i % k < k := Nat.mod_lt _ hk
          have hd : i / k < cap - (rows.length + G.length) := (Nat.div_lt_iff_lt_mul hk).2 hi
          have hfl : ((List.replicate (cap - (rows.length + G.length)) z).flatten.drop ((i / k) * k)).take k = z := by
            rw [flat_get (k := k) (by intro x hx; rw [List.mem_replicate] at hx; rw [hx.2, hz]) (by simpa using hd)]
            simp
          have hidx : i / k * k + i % k = i := by rw [Nat.mul_comm]; exact Nat.div_add_mod i k
          have e2 := congrArg (fun l => l[i % k]?) hfl
          simp only [List.getElem?_take_of_lt hm, List.getElem?_drop, hidx] at e2
          have h2' : i < (List.replicate (cap - (rows.length + G.length)) z).flatten.length := by simpa using h2
          rw [List.getElem?_eq_getElem h2', List.getElem?_eq_getElem (by omega)] at e2
          injection e2 with e2
          rw [List.getElem_toArray, e2]
          simp [hz, hm]
      rw [this]; simp
    refine hK _ _ [w.heap.size] (.inr ⟨w.heap.size, rows ++ G ++ List.replicate (cap - (rows.length + G.length)) z, e, ?_, rfl, ?_, ?_, ?_, ?_⟩) ((Kp.refl _ _).drew.alloc _) (by simp)
    · simp; omega
    · rw [← hF]; exact heap_new
    · intro y hy
      rw [List.mem_append, List.mem_append] at hy
      rcases hy with (hy | hy) | hy
      · exact hr y hy
      · exact hG y hy
      · rw [List.mem_replicate] at hy; rw [hy.2, hz]
    · rw [List.take_left]
    · simp
  have hrow : ∀ y ∈ rows, y.length = k := fun y hy => h.row hy
  unfold app
  rcases h with ⟨h1, h2, h3⟩ | ⟨bl, F, T, h1, h2, h3, h4, h5, h6⟩
  · subst h1; subst h3
    rw [h2] at hb hb2 hK grow
    simp only [List.length_nil, Nat.zero_add] at hb hb2 grow ⊢
    refine hsrc _ ⟨fun hle => ?_, fun hlt => ⟨⟨?_, by omega⟩, fun cap hc _ => grow #[] cap rfl (by simp) hc⟩⟩
    · have hG0 : G = [] := List.length_eq_zero_iff.1 (by omega)
      rw [hG0]
      exact hK _ w [] (.inl ⟨rfl, by simp [hG0], rfl⟩) (Kp.refl _ _) (by simp)
    · have := next_le hlt
      calc _ ≤ (2 * G.length) * bytes := Nat.mul_le_mul_right _ this
        _ ≤ _ := hb
  · subst h1; subst h2
    refine hsrc _ ⟨fun hle => ?_, fun hlt => ⟨⟨?_, by omega⟩, ?_⟩⟩
    · simp only [wrO, add_mk, wrN_mk, h3, okFr0, true_and, Nat.zero_add, List.size_toArray]
      have hfl := flat_len h4
      have hgl := flat_len hG
      have hsp := flat_splice_many (i := rows.length) h4 hG (by omega)
      refine ⟨⟨?_, by simpa using hone⟩, ?_⟩
      · rw [hfl, hgl, ← Nat.add_mul]; exact Nat.mul_le_mul_right _ hle
      · have hF' : splice F.flatten.toArray (rows.length * k) G.flatten.toArray = (F.take rows.length ++ G ++ F.drop (rows.length + G.length)).flatten.toArray := by
          rw [splice_list, hsp]
        rw [hF']
        refine hK _ _ [bl] (.inr ⟨bl, F.take rows.length ++ G ++ F.drop (rows.length + G.length), T, ?_, rfl, heap_self (live_of h3), ?_, ?_, ?_⟩) ((Kp.refl _ _).setBlk (.inl (by simp)) _) (fun y hy => .inl hy)
        · have : (F.take rows.length ++ G ++ F.drop (rows.length + G.length)).length = F.length := by simp; omega
          rw [this]; simp
        · intro y hy
          rw [List.mem_append, List.mem_append] at hy
          rcases hy with (hy | hy) | hy
          · exact h4 y (List.mem_of_mem_take hy)
          · exact hG y hy
          · exact h4 y (List.mem_of_mem_drop hy)
        · rw [h5, List.take_left]
        · simp; omega
    · have := next_le hlt
      calc _ ≤ (2 * (rows.length + G.length)) * bytes := Nat.mul_le_mul_right _ this
        _ ≤ _ := hb
    · simp only [base, rdN_mk, h3, Nat.zero_add, List.size_toArray]
      have hfl := flat_len h4
      refine ⟨by rw [hfl]; exact Nat.mul_le_mul_right _ h6, fun cap hc _ => grow _ cap ?_ hrow hc⟩
      have := extract_list F.flatten 0 (rows.length * k)
      rw [Nat.zero_add] at this
      rw [this, List.drop_zero, flat_take _ h4, h5]
/-- a row is looked at -/
theorem RowsAt.at {w : World} {v : Value} {k : Nat} {rows : List (List Value)} {S : List Nat} (h : RowsAt w v k rows S) {i : Nat} (hi : i < rows.length) :
    ∃ bl T c, bl ∈ S ∧ w.heap[bl]? = some (.cells c T (0, 0)) ∧ (∀ kd K, ia k v (.int kd i) K = K (.pointer (some ⟨bl, i * k, none⟩))) ∧ i * k + k ≤ c.size ∧ c.extract (i * k) (i * k + k) = rows[i].toArray ∧
      ∀ j, j < k → c[i * k + j]? = rows[i][j]? := by
  rcases h with ⟨h1, h2, h3⟩ | ⟨bl, F, T, h1, h2, h3, h4, h5, h6⟩
  · rw [h2] at hi; cases hi
  · have hiF : i < F.length := by omega
    have hrow : F[i] = rows[i] := by
      have e : rows[i]? = F[i]? := by rw [← h5, List.getElem?_take_of_lt (by omega)]
      rw [List.getElem?_eq_getElem hi, List.getElem?_eq_getElem hiF] at e
      injection e with e
      exact e.symm
    have hfl := flat_len h4
    have hget := flat_get h4 hiF
    have hle : i * k + k ≤ F.flatten.length := by rw [hfl, ← Nat.succ_mul]; exact Nat.mul_le_mul_right _ hiF
    refine ⟨bl, T, F.flatten.toArray, by rw [h2]; simp, h3, ?_, by simpa [-List.length_flatten] using hle, ?_, ?_⟩
    · intro kd K
      have hlt : (i : Int) < rows.length := by omega
      rw [h1]; simp only [ia_p, Nat.zero_add, Int.toNat_natCast]
      have : (0 ≤ (i : Int) ∧ (i : Int) < rows.length) = True := by simp; omega
      rw [this, true_and]
    · rw [extract_list, hget, hrow]
    · intro j hj
      rw [List.getElem?_toArray, ← List.getElem?_drop, ← hrow, ← hget, List.getElem?_take_of_lt hj]
/-! ### structs and literals of slices, laid part by part -/
theorem fold_set (off : Nat) : ∀ (l : List Value) (k : Nat) (c : Array Value), off + k + l.length ≤ c.size →
    (l.zipIdx k).foldl (fun cs p => cs.setIfInBounds (off + p.2) p.1) c = splice c (off + k) l.toArray := by
  intro l
  induction l with
  | nil => intro k c _; simp [splice]
  | cons v r ih =>
    intro k c h
    simp only [List.length_cons] at h
    rw [List.zipIdx_cons, List.foldl_cons]
    have := ih (k + 1) (c.setIfInBounds (off + k) v) (by simp; omega)
    simp only at this ⊢
    rw [this]
    unfold splice
    congr 1
    have e := list_seg_step c.toList (off + k) v r (by simp; omega)
    simpa [Array.toList_setIfInBounds, Nat.add_assoc] using e
theorem fill_step {place : Nat → Option (Nat × Nat)} {c : Array Value} {i off size : Nat} {v : Value} {rest : List (Nat × Value)} (hp : place i = some (off, size)) (hv : v.cells.size = size) (hc : off + size ≤ c.size) :
    Instr.fill place c ((i, v) :: rest) = Instr.fill place (splice c off v.cells) rest := by
  have h1 : v.cells.size = size := hv
  conv => lhs; unfold Instr.fill
  rw [hp]
  simp only [h1, ne_eq, not_true_eq_false, decide_false, Bool.false_or, decide_eq_true_eq]
  rw [if_neg (by omega)]
  congr 1
  have := fold_set off v.cells.toList 0 c (by simp; omega)
  simp only [Nat.add_zero, Array.toArray_toList] at this
  rw [← this]
  rw [← Array.foldl_toList, Array.toList_zipIdx]
theorem splice_size {c : Array Value} {o : Nat} {vs : Array Value} (h : o + vs.size ≤ c.size) : (splice c o vs).size = c.size := by
  unfold splice; simp; omega
/-- a slice of numbers that is only read -/
def IntsAt (w : World) (v : Value) (ks : List Int) (S : List Nat) : Prop :=
  ∃ a cap, v = .slice a ks.length cap ∧ (ks = [] ∨ ∃ bl o c T fr, a = some ⟨bl, o, none⟩ ∧ S = [bl] ∧ w.heap[bl]? = some (.cells c T fr) ∧ ∀ i, i < ks.length → c[o + i]? = some (.int .i64 (ks.getD i 0)))
theorem IntsAt.keep {w w' : World} {v : Value} {ks : List Int} {S S' : List Nat} (h : IntsAt w v ks S) (hk : Kp S' w w') (hd : ∀ x ∈ S, x ∉ S') : IntsAt w' v ks S := by
  obtain ⟨a, cap, h1, h2⟩ := h
  refine ⟨a, cap, h1, h2.imp id ?_⟩
  rintro ⟨bl, o, c, T, fr, g1, g2, g3, g4⟩
  subst g2
  exact ⟨bl, o, c, T, fr, g1, rfl, hk.get g3 (hd bl (by simp)), g4⟩
theorem IntsAt.at {w : World} {v : Value} {ks : List Int} {S : List Nat} (h : IntsAt w v ks S) {i : Nat} (hi : i < ks.length) :
    ∃ bl o c T fr, bl ∈ S ∧ w.heap[bl]? = some (.cells c T fr) ∧ (∀ kd K, ia 1 v (.int kd i) K = K (.pointer (some ⟨bl, o, none⟩))) ∧ c[o]? = some (.int .i64 (ks.getD i 0)) := by
  obtain ⟨a, cap, h1, h2⟩ := h
  rcases h2 with h2 | ⟨bl, o, c, T, fr, g1, g2, g3, g4⟩
  · rw [h2] at hi; cases hi
  · refine ⟨bl, o + i, c, T, fr, by rw [g2]; simp, g3, ?_, g4 i hi⟩
    intro kd K
    rw [h1, g1]
    have : (0 ≤ (i : Int) ∧ (i : Int) < ks.length) = True := by simp; omega
    simp only [ia_p, Int.toNat_natCast, Nat.mul_one, this, true_and]
theorem IntsAt.len {w : World} {v : Value} {ks : List Int} {S : List Nat} (h : IntsAt w v ks S) : ∃ a cap, v = .slice a ks.length cap := by
  obtain ⟨a, cap, h1, _⟩ := h
  exact ⟨a, cap, h1⟩
theorem rep_size (z : Array Value) (n : Nat) : (rep z n).size = n := by simp [rep]
theorem splice_all {c vs : Array Value} (h : c.size = vs.size) : splice c 0 vs = vs := by
  have : c.toList.drop vs.size = [] := List.drop_of_length_le (by simp [h])
  simp [splice, this]
end Go.Q

/- Slices that are read: rows of cells from anywhere in a block; parts of them; what is appended from them. -/
set_option linter.unusedVariables false
set_option linter.unusedSimpArgs false
namespace Go.Q
/-- a slice that reads as these rows -/
def RdAt (w : World) (v : Value) (k : Nat) (rows : List (List Value)) (S : List Nat) : Prop :=
  (v = .slice none 0 0 ∧ rows = []) ∨
  ∃ (bl o cap : Nat) (c : Array Value) (T : TypeId) (fr : Nat × Nat), v = .slice (some ⟨bl, o, none⟩) rows.length cap ∧ S = [bl] ∧ w.heap[bl]? = some (.cells c T fr) ∧ (∀ x ∈ rows, x.length = k) ∧
    o + rows.length * k ≤ c.size ∧ (c.toList.drop o).take (rows.length * k) = rows.flatten ∧ rows.length ≤ cap
section
variable {w : World} {v : Value} {k : Nat} {rows : List (List Value)} {S : List Nat}
theorem RowsAt.rd (h : RowsAt w v k rows S) : RdAt w v k rows S := by
  rcases h with ⟨h1, h2, h3⟩ | ⟨bl, F, T, h1, h2, h3, h4, h5, h6⟩
  · exact .inl ⟨h1, h2⟩
  · refine .inr ⟨bl, 0, F.length, _, T, _, h1, h2, h3, ?_, ?_, ?_, h6⟩
    · intro x hx; rw [← h5] at hx; exact h4 x (List.mem_of_mem_take hx)
    · have := flat_len h4
      simp only [List.size_toArray, this, Nat.zero_add]
      exact Nat.mul_le_mul_right _ h6
    · rw [List.drop_zero, flat_take _ h4, h5]
theorem RdAt.keep {w' : World} {S' : List Nat} (h : RdAt w v k rows S) (hk : Kp S' w w') (hd : ∀ x ∈ S, x ∉ S') : RdAt w' v k rows S := by
  rcases h with h | ⟨bl, o, cap, c, T, fr, h1, h2, h3, h4⟩
  · exact .inl h
  · subst h2
    exact .inr ⟨bl, o, cap, c, T, fr, h1, rfl, hk.get h3 (hd bl (by simp)), h4⟩
theorem RdAt.len (h : RdAt w v k rows S) : ∃ a c, v = .slice a rows.length c ∧ rows.length ≤ c := by
  rcases h with ⟨h1, h2⟩ | ⟨bl, o, cap, c, T, fr, h1, h2, h3, h4, h5, h6, h7⟩
  · exact ⟨none, 0, by rw [h1, h2]; rfl, by simp [h2]⟩
  · exact ⟨_, _, h1, h7⟩
theorem RdAt.lenL (h : RdAt w v k rows S) {K : Value → Prop} : lenL v K = K (.int .i64 rows.length) := by
  obtain ⟨a, c, h1, _⟩ := h.len
  rw [h1]; rfl
theorem RdAt.row (h : RdAt w v k rows S) {x : List Value} (hx : x ∈ rows) : x.length = k := by
  rcases h with ⟨h1, h2⟩ | ⟨bl, o, cap, c, T, fr, h1, h2, h3, h4, _⟩
  · rw [h2] at hx; cases hx
  · exact h4 x hx
theorem extract_toList (c : Array Value) (o n : Nat) : c.extract o (o + n) = ((c.toList.drop o).take n).toArray := by
  apply Array.toList_inj.1
  simp [List.take_drop]
theorem RdAt.src (h : RdAt w v k rows S) (K' : Nat → Array Value → Prop) (hK : K' rows.length rows.flatten.toArray) : Q.srcA k v w K' := by
  rcases h with ⟨h1, h2⟩ | ⟨bl, o, cap, c, T, fr, h1, h2, h3, h4, h5, h6, h7⟩
  · subst h1; subst h2; exact hK
  · subst h1
    simp only [Q.srcA]
    split
    · rename_i h0
      have : rows.flatten = [] := by rw [← h6, h0]; simp
      rw [this] at hK
      exact hK
    · simp only [rdN_mk, h3]
      refine ⟨h5, ?_⟩
      rw [extract_toList, h6]; exact hK
theorem RdAt.take (h : RdAt w v k rows S) {p : Nat} (hp : p ≤ rows.length) {kd : IntKind} : ∃ v', RdAt w v' k (rows.take p) S ∧ ∀ K, slL k v none (some (.int kd p)) K = K v' := by
  rcases h with ⟨h1, h2⟩ | ⟨bl, o, cap, c, T, fr, h1, h2, h3, h4, h5, h6, h7⟩
  · subst h1; subst h2
    have : p = 0 := by simpa using hp
    subst this
    exact ⟨_, .inl ⟨rfl, by simp⟩, fun K => by simp⟩
  · subst h1
    have hl : (rows.take p).length = p := by simp; omega
    have hle : p * k ≤ rows.length * k := Nat.mul_le_mul_right _ hp
    refine ⟨.slice (some ⟨bl, o, none⟩) p cap, .inr ⟨bl, o, cap, c, T, fr, by rw [hl], h2, h3, fun x hx => h4 x (List.mem_of_mem_take hx), by rw [hl]; omega, ?_, by omega⟩, fun K => ?_⟩
    · rw [hl]
      have h8 : (c.toList.drop o).take (p * k) = ((c.toList.drop o).take (rows.length * k)).take (p * k) := by rw [List.take_take, Nat.min_eq_left hle]
      rw [h8, h6]
      exact flat_take p h4
    · have : (p : Int) ≤ cap := by omega
      simp [this]
theorem RdAt.drop (h : RdAt w v k rows S) {p : Nat} (hp : p ≤ rows.length) {kd : IntKind} : ∃ v', RdAt w v' k (rows.drop p) S ∧ ∀ K, slL k v (some (.int kd p)) none K = K v' := by
  rcases h with ⟨h1, h2⟩ | ⟨bl, o, cap, c, T, fr, h1, h2, h3, h4, h5, h6, h7⟩
  · subst h1; subst h2
    have : p = 0 := by simpa using hp
    subst this
    exact ⟨_, .inl ⟨rfl, by simp⟩, fun K => by simp⟩
  · subst h1
    have hl : (rows.drop p).length = rows.length - p := by simp
    have hsum : p * k + (rows.length - p) * k = rows.length * k := by rw [← Nat.add_mul]; congr 1; omega
    have hfl : rows.flatten.drop (p * k) = (rows.drop p).flatten := flat_drop p h4
    by_cases hc : cap = p
    · have hr : rows.length = p := by omega
      have hd : rows.drop p = [] := by rw [← hr]; simp
      refine ⟨.slice (some ⟨bl, o, none⟩) (rows.drop p).length (cap - p), .inr ⟨bl, o, cap - p, c, T, fr, rfl, h2, h3, by rw [hd]; simp, by rw [hd]; simp; omega, by rw [hd]; simp, by rw [hd]; simp⟩, fun K => ?_⟩
      have : (p : Int) ≤ rows.length := by omega
      simp [hc, this, hr]
    · refine ⟨.slice (some ⟨bl, o + p * k, none⟩) (rows.drop p).length (cap - p), .inr ⟨bl, o + p * k, cap - p, c, T, fr, rfl, h2, h3, fun x hx => h4 x (List.mem_of_mem_drop hx), by rw [hl]; omega, ?_, by rw [hl]; omega⟩, fun K => ?_⟩
      · rw [hl, ← hfl, ← h6, ← List.drop_drop, List.drop_take]
        congr 1
        omega
      · have : (p : Int) ≤ rows.length := by omega
        simp [hc, this, hp]
theorem RdAt.at (h : RdAt w v k rows S) {i : Nat} (hi : i < rows.length) :
    ∃ bl o T c fr, bl ∈ S ∧ w.heap[bl]? = some (.cells c T fr) ∧ (∀ kd K, ia k v (.int kd i) K = K (.pointer (some ⟨bl, o, none⟩))) ∧ o + k ≤ c.size ∧ c.extract o (o + k) = rows[i].toArray ∧
      ∀ j, j < k → c[o + j]? = rows[i][j]? := by
  rcases h with ⟨h1, h2⟩ | ⟨bl, o, cap, c, T, fr, h1, h2, h3, h4, h5, h6, h7⟩
  · subst h2; cases hi
  · subst h1
    have hle : i * k + k ≤ rows.length * k := by rw [← Nat.succ_mul]; exact Nat.mul_le_mul_right _ hi
    have hget := flat_get h4 hi
    have hrow : (c.toList.drop (o + i * k)).take k = rows[i] := by
      rw [← hget, ← h6, List.drop_take, List.take_take, List.drop_drop]
      congr 1
      omega
    refine ⟨bl, o + i * k, T, c, fr, by rw [h2]; simp, h3, ?_, by omega, by rw [extract_toList, hrow], ?_⟩
    · intro kd K
      simp only [ia_p, Int.toNat_natCast]
      have : (0 ≤ (i : Int) ∧ (i : Int) < rows.length) = True := by simp; omega
      rw [this, true_and]
    · intro j hj
      rw [← Array.getElem?_toList, ← List.getElem?_drop, ← hrow, List.getElem?_take_of_lt hj]
end
end Go.Q

/- Owned slices whose block's type is known; appended to. -/
set_option linter.unusedVariables false
set_option linter.unusedSimpArgs false
namespace Go.Q
/-- a slice that owns its block, of a type -/
def RowsT (w : World) (v : Value) (k : Nat) (e : TypeId) (rows : List (List Value)) (S : List Nat) : Prop :=
  (v = .slice none 0 0 ∧ rows = [] ∧ S = []) ∨
  ∃ (bl : Nat) (F : List (List Value)), v = .slice (some ⟨bl, 0, none⟩) rows.length F.length ∧ S = [bl] ∧ w.heap[bl]? = some (.cells F.flatten.toArray e (0, 0)) ∧ (∀ x ∈ F, x.length = k) ∧ F.take rows.length = rows ∧ rows.length ≤ F.length
theorem RowsT.at_ {w : World} {v : Value} {k : Nat} {e : TypeId} {rows : List (List Value)} {S : List Nat} (h : RowsT w v k e rows S) : RowsAt w v k rows S := by
  rcases h with h | ⟨bl, F, h⟩
  · exact .inl h
  · exact .inr ⟨bl, F, e, h⟩
theorem RowsT.row {w : World} {v : Value} {k : Nat} {e : TypeId} {rows : List (List Value)} {S : List Nat} (h : RowsT w v k e rows S) {x : List Value} (hx : x ∈ rows) : x.length = k := h.at_.row hx
theorem RowsT.keep {w w' : World} {v : Value} {k : Nat} {e : TypeId} {rows : List (List Value)} {S S' : List Nat} (h : RowsT w v k e rows S) (hk : Kp S' w w') (hd : ∀ x ∈ S, x ∉ S') : RowsT w' v k e rows S := by
  rcases h with h | ⟨bl, F, h1, h2, h3, h4⟩
  · exact .inl h
  · subst h2
    exact .inr ⟨bl, F, h1, rfl, hk.get h3 (hd bl (by simp)), h4⟩
/-- rows are appended -/
theorem rowsT_app {e k bytes : Nat} {z : List Value} {v x : Value} {w : World} {rows G : List (List Value)} {S : List Nat} (h : RowsT w v k e rows S) (hk : 0 < k) (hz : z.length = k)
    (hG : ∀ y ∈ G, y.length = k) (hone : G.flatten.all one = true) (hsrc : ∀ K' : Nat → Array Value → Prop, K' G.length G.flatten.toArray → srcA k x w K')
    (hb : 2 * (rows.length + G.length) * bytes ≤ 2 ^ 48) (hb2 : rows.length + G.length < 2 ^ 62) {K : Value → World → Prop}
    (hK : ∀ v' w' S', RowsT w' v' k e (rows ++ G) S' → Kp S w w' → (∀ y ∈ S', y ∈ S ∨ w.heap.size ≤ y) → K v' w') : app e k bytes z.toArray v x w K := by
  have grow : ∀ (old : Array Value) (cap : Nat) , old = rows.flatten.toArray → (∀ y ∈ rows, y.length = k) → rows.length + G.length ≤ cap →
      K (.slice (some ⟨w.heap.size, 0, none⟩) (rows.length + G.length) cap) (w.drew.alloc (.cells (old ++ G.flatten.toArray ++ rep z.toArray ((cap - (rows.length + G.length)) * k)) e)) := by
    intro old cap hold hr hc
    have hF : (old ++ G.flatten.toArray ++ rep z.toArray ((cap - (rows.length + G.length)) * k)) = (rows ++ G ++ List.replicate (cap - (rows.length + G.length)) z).flatten.toArray := by
      rw [hold]
      have : rep z.toArray ((cap - (rows.length + G.length)) * k) = (List.replicate (cap - (rows.length + G.length)) z).flatten.toArray := by
        apply Array.ext
        · simp [rep, hz]
        · intro i h1 h2
          have hi : i < (cap - (rows.length + G.length)) * k := by simpa [rep] using h1
          simp only [rep, Array.getElem_map, Array.getElem_range, List.size_toArray, hz]
          have hm : i % k < k := Nat.mod_lt _ hk
          have hd : i / k < cap - (rows.length + G.length) := (Nat.div_lt_iff_lt_mul hk).2 hi
          have hfl : ((List.replicate (cap - (rows.length + G.length)) z).flatten.drop ((i / k) * k)).take k = z := by
            rw [flat_get (k := k) (by intro x hx; rw [List.mem_replicate] at hx; rw [hx.2, hz]) (by simpa using hd)]
            simp
          have hidx : i / k * k + i % k = i := by rw [Nat.mul_comm]; exact Nat.div_add_mod i k
          have e2 := congrArg (fun l => l[i % k]?) hfl
          simp only [List.getElem?_take_of_lt hm, List.getElem?_drop, hidx] at e2
          have h2' : i < (List.replicate (cap - (rows.length + G.length)) z).flatten.length := by simpa using h2
          rw [List.getElem?_eq_getElem h2', List.getElem?_eq_getElem (by omega)] at e2
          injection e2 with e2
          rw [List.getElem_toArray, e2]
          simp [hz, hm]
      rw [this]; simp
    refine hK _ _ [w.heap.size] (.inr ⟨w.heap.size, rows ++ G ++ List.replicate (cap - (rows.length + G.length)) z, ?_, rfl, ?_, ?_, ?_, ?_⟩) ((Kp.refl _ _).drew.alloc _) (by simp)
    · simp; omega
    · rw [← hF]; exact heap_new
    · intro y hy
      rw [List.mem_append, List.mem_append] at hy
      rcases hy with (hy | hy) | hy
      · exact hr y hy
      · exact hG y hy
      · rw [List.mem_replicate] at hy; rw [hy.2, hz]
    · rw [List.take_left]
    · simp
  have hrow : ∀ y ∈ rows, y.length = k := fun y hy => h.row hy
  unfold app
  rcases h with ⟨h1, h2, h3⟩ | ⟨bl, F, h1, h2, h3, h4, h5, h6⟩
  · subst h1; subst h3
    rw [h2] at hb hb2 hK grow
    simp only [List.length_nil, Nat.zero_add] at hb hb2 grow ⊢
    refine hsrc _ ⟨fun hle => ?_, fun hlt => ⟨⟨?_, by omega⟩, fun cap hc _ => grow #[] cap rfl (by simp) hc⟩⟩
    · have hG0 : G = [] := List.length_eq_zero_iff.1 (by omega)
      rw [hG0]
      exact hK _ w [] (.inl ⟨rfl, by simp [hG0], rfl⟩) (Kp.refl _ _) (by simp)
    · have := next_le hlt
      calc _ ≤ (2 * G.length) * bytes := Nat.mul_le_mul_right _ this
        _ ≤ _ := hb
  · subst h1; subst h2
    refine hsrc _ ⟨fun hle => ?_, fun hlt => ⟨⟨?_, by omega⟩, ?_⟩⟩
    · simp only [wrO, add_mk, wrN_mk, h3, okFr0, true_and, Nat.zero_add, List.size_toArray]
      have hfl := flat_len h4
      have hgl := flat_len hG
      have hsp := flat_splice_many (i := rows.length) h4 hG (by omega)
      refine ⟨⟨?_, by simpa using hone⟩, ?_⟩
      · rw [hfl, hgl, ← Nat.add_mul]; exact Nat.mul_le_mul_right _ hle
      · have hF' : splice F.flatten.toArray (rows.length * k) G.flatten.toArray = (F.take rows.length ++ G ++ F.drop (rows.length + G.length)).flatten.toArray := by
          rw [splice_list, hsp]
        rw [hF']
        refine hK _ _ [bl] (.inr ⟨bl, F.take rows.length ++ G ++ F.drop (rows.length + G.length), ?_, rfl, heap_self (live_of h3), ?_, ?_, ?_⟩) ((Kp.refl _ _).setBlk (.inl (by simp)) _) (fun y hy => .inl hy)
        · have : (F.take rows.length ++ G ++ F.drop (rows.length + G.length)).length = F.length := by simp; omega
          rw [this]; simp
        · intro y hy
          rw [List.mem_append, List.mem_append] at hy
          rcases hy with (hy | hy) | hy
          · exact h4 y (List.mem_of_mem_take hy)
          · exact hG y hy
          · exact h4 y (List.mem_of_mem_drop hy)
        · rw [h5, List.take_left]
        · simp; omega
    · have := next_le hlt
      calc _ ≤ (2 * (rows.length + G.length)) * bytes := Nat.mul_le_mul_right _ this
        _ ≤ _ := hb
    · simp only [base, rdN_mk, h3, Nat.zero_add, List.size_toArray]
      have hfl := flat_len h4
      refine ⟨by rw [hfl]; exact Nat.mul_le_mul_right _ h6, fun cap hc _ => grow _ cap ?_ hrow hc⟩
      have := extract_list F.flatten 0 (rows.length * k)
      rw [Nat.zero_add] at this
      rw [this, List.drop_zero, flat_take _ h4, h5]
end Go.Q

/- What a row says of a slice that came in, in the words of the contracts. -/
set_option linter.unusedVariables false
set_option linter.unusedSimpArgs false
namespace Go.Q
theorem cell_block {w : World} {x : Addr} {v : Value} (h : w.cell? x = some v) : x.spot = none ∧ ∃ c T fr, w.heap[x.block]? = some (.cells c T fr) ∧ c[x.off]? = some v := by
  unfold World.cell? at h
  split at h
  · rename_i c T fr hh
    split at h
    · cases h
    · rename_i hs
      exact ⟨by simpa using hs, c, T, fr, hh, h⟩
  · cases h
theorem ints_nil {w : World} {cap : Nat} : IntsAt w (.slice none 0 cap) [] [] := ⟨none, cap, rfl, .inl rfl⟩
theorem ints_in {w : World} {x : Addr} {len cap : Nat} {zs : List Int} (hc : ∀ i, i < zs.length → w.cell? (x.add i) = some (.int .i64 (zs.getD i 0))) (hl : len ≤ zs.length) :
    ∃ SK, IntsAt w (.slice (some x) len cap) (zs.take len) SK ∧ ∀ b ∈ SK, b < w.heap.size := by
  by_cases h0 : len = 0
  · subst h0
    exact ⟨[], ⟨some x, cap, by simp, .inl (by simp)⟩, by simp⟩
  · have hz := hc 0 (by omega)
    have hz' : w.cell? x = some (.int .i64 (zs.getD 0 0)) := by simpa [Addr.add] using hz
    obtain ⟨hs, c, T, fr, hh, hc0⟩ := cell_block hz'
    obtain ⟨b, o, s⟩ := x
    simp only at hs
    subst hs
    refine ⟨[b], ⟨some ⟨b, o, none⟩, cap, by simp; omega, .inr ⟨b, o, c, T, fr, rfl, rfl, hh, fun i hi => ?_⟩⟩, ?_⟩
    · have hi' : i < len ∧ i < zs.length := by simp at hi; omega
      have h1 := hc i hi'.2
      rw [add_none rfl] at h1
      obtain ⟨_, c', T', fr', hh', h2⟩ := cell_block h1
      simp only at hh' h2
      rw [hh] at hh'
      obtain ⟨rfl, rfl, rfl⟩ : c = c' ∧ T = T' ∧ fr = fr' := by simpa using hh'
      rw [h2]
      have : (List.take len zs).getD i 0 = zs.getD i 0 := by simp [List.getD, List.getElem?_take, hi'.1]
      rw [this]
    · intro y hy
      simp only [List.mem_singleton] at hy
      subst hy
      have := (Array.getElem?_eq_some_iff.mp hh).1
      exact this
end Go.Q

/- Slices that came in, whatever their elements are: rows of cells, each of which the statement's own reading took. -/
set_option linter.unusedVariables false
set_option linter.unusedSimpArgs false
namespace Go.Q
/-- a slice that came in -/
def ArgAt (w : World) (v : Value) (k : Nat) (rows : List (List Value)) (S : List Nat) : Prop :=
  (∃ a cap, v = .slice a 0 cap ∧ rows = []) ∨ RdAt w v k rows S
section
variable {w : World} {v : Value} {k : Nat} {rows : List (List Value)} {S : List Nat}
theorem ArgAt.keep {w' : World} {S' : List Nat} (h : ArgAt w v k rows S) (hk : Kp S' w w') (hd : ∀ x ∈ S, x ∉ S') : ArgAt w' v k rows S := h.imp id fun h => h.keep hk hd
theorem ArgAt.lenL (h : ArgAt w v k rows S) {K : Value → Prop} : lenL v K = K (.int .i64 rows.length) := by
  rcases h with ⟨a, cap, h1, h2⟩ | h
  · rw [h1, h2]; rfl
  · exact h.lenL
theorem ArgAt.src (h : ArgAt w v k rows S) (K' : Nat → Array Value → Prop) (hK : K' rows.length rows.flatten.toArray) : Q.srcA k v w K' := by
  rcases h with ⟨a, cap, h1, h2⟩ | h
  · subst h1; subst h2
    cases a with
    | none => exact hK
    | some a =>
      simp only [Q.srcA, Nat.zero_mul, if_true]
      exact hK
  · exact h.src K' hK
theorem ArgAt.take (h : ArgAt w v k rows S) {p : Nat} (hp : p ≤ rows.length) {kd : IntKind} : ∃ v', ArgAt w v' k (rows.take p) S ∧ ∀ K, slL k v none (some (.int kd p)) K = K v' := by
  rcases h with ⟨a, cap, h1, h2⟩ | h
  · subst h1; subst h2
    have : p = 0 := by simpa using hp
    subst this
    exact ⟨.slice (if cap = 0 then a else a.map (·.add (0 * k))) 0 (cap - 0), .inl ⟨_, _, rfl, by simp⟩, fun K => by simp [slL, bnd]⟩
  · obtain ⟨v', h1, h2⟩ := h.take hp (kd := kd)
    exact ⟨v', .inr h1, h2⟩
theorem ArgAt.drop (h : ArgAt w v k rows S) {p : Nat} (hp : p ≤ rows.length) {kd : IntKind} : ∃ v', ArgAt w v' k (rows.drop p) S ∧ ∀ K, slL k v (some (.int kd p)) none K = K v' := by
  rcases h with ⟨a, cap, h1, h2⟩ | h
  · subst h1; subst h2
    have : p = 0 := by simpa using hp
    subst this
    exact ⟨.slice (if cap = 0 then a else a.map (·.add (0 * k))) 0 (cap - 0), .inl ⟨_, _, rfl, by simp⟩, fun K => by simp [slL, bnd]⟩
  · obtain ⟨v', h1, h2⟩ := h.drop hp (kd := kd)
    exact ⟨v', .inr h1, h2⟩
theorem ArgAt.row (h : ArgAt w v k rows S) {x : List Value} (hx : x ∈ rows) : x.length = k := by
  rcases h with ⟨a, cap, h1, h2⟩ | h
  · rw [h2] at hx; cases hx
  · exact h.row hx
theorem ArgAt.at (h : ArgAt w v k rows S) {i : Nat} (hi : i < rows.length) :
    ∃ bl o T c fr, bl ∈ S ∧ w.heap[bl]? = some (.cells c T fr) ∧ (∀ kd K, ia k v (.int kd i) K = K (.pointer (some ⟨bl, o, none⟩))) ∧ o + k ≤ c.size ∧ c.extract o (o + k) = rows[i].toArray ∧
      ∀ j, j < k → c[o + j]? = rows[i][j]? := by
  rcases h with ⟨a, cap, h1, h2⟩ | h
  · rw [h2] at hi; cases hi
  · exact h.at hi
theorem chop_flat (l : List Value) (k : Nat) : ∀ n, ((List.range n).map fun i => (l.drop (i * k)).take k).flatten = l.take (n * k) := by
  intro n
  induction n with
  | zero => simp
  | succ n ih =>
    rw [List.range_succ, List.map_append, List.flatten_append, ih]
    simp only [List.map_cons, List.map_nil, List.flatten_cons, List.flatten_nil, List.append_nil]
    rw [Nat.succ_mul, List.take_add]
end
section
variable {H : Type} {enc : TypeId × Value → H} {P : Program} {w : World} {base : Nat} {spare : Nat → Bool} {held : Bool}
theorem arg_slice {t e : TypeId} {n fuel : Nat} {cs : List Value} {x : DataW H × List MemPlace} (ht : P.underlying t = some (.slice e)) (hc : P.cellsOf e = n) (hn : 0 < n)
    (h : DataW.trod enc P w base spare held fuel t cs = some x) :
    ∃ v rows SK, cs = [v] ∧ ArgAt w v n rows SK ∧ (∀ b ∈ SK, b < w.heap.size) ∧ rows.length ≤ maxLen ∧ ∀ r ∈ rows, ∃ f y, DataW.trod enc P w base spare held f e r = some y := by
  rcases DataW.trod_slice ht h with ⟨h1, _⟩ | ⟨a, len, cap, elems, rest, m, _, rfl, _, hb, hl, hm, hlen, hel, _, _⟩
  · exact ⟨_, [], [], h1, .inl ⟨none, 0, rfl, rfl⟩, by simp, by simp, by simp⟩
  · rw [hc] at hel
    by_cases h0 : len = 0
    · subst h0
      exact ⟨_, [], [], rfl, .inl ⟨some a, cap, rfl, rfl⟩, by simp, by simp, by simp⟩
    · have each : ∀ i, i < len → ∃ cs y, w.cells? base (a.add (i * n)) n = some cs ∧ DataW.trod enc P w base spare held m e cs = some y := by
        intro i hi
        have h1 := hel i hi
        have h2 : elems[i]? = some elems[i] := List.getElem?_eq_getElem (by omega)
        rw [h2, Option.bind_eq_some_iff] at h1
        obtain ⟨cs, h3, h4⟩ := h1
        exact ⟨cs, _, h3, h4⟩
      obtain ⟨cs0, y0, h3, h4⟩ := each 0 (by omega)
      obtain ⟨_, hl0, hc0⟩ := World.cells?_some h3
      have h5 := hc0 0 hn
      rw [Nat.zero_mul, List.getElem?_eq_getElem (by omega)] at h5
      have h6 : w.cell? a = some cs0[0] := by simpa [Addr.add] using h5
      obtain ⟨hs, c, T, fr, hh, _⟩ := cell_block h6
      obtain ⟨b, o, s⟩ := a
      simp only at hs hh
      subst hs
      have cell : ∀ i j, i < len → j < n → ∃ cs y, w.cells? base (Addr.add ⟨b, o, none⟩ (i * n)) n = some cs ∧ DataW.trod enc P w base spare held m e cs = some y ∧ cs.length = n ∧ c[o + i * n + j]? = cs[j]? ∧ o + i * n + j < c.size := by
        intro i j hi hj
        obtain ⟨cs, y, g1, g2⟩ := each i hi
        obtain ⟨_, g3, g4⟩ := World.cells?_some g1
        have g5 := g4 j hj
        simp only [add_mk] at g5
        have g6 : w.cell? ⟨b, o + i * n + j, none⟩ = c[o + i * n + j]? := by simp [World.cell?, hh]
        rw [g6] at g5
        refine ⟨cs, y, g1, g2, g3, g5, ?_⟩
        rw [List.getElem?_eq_getElem (by omega)] at g5
        exact (Array.getElem?_eq_some_iff.mp g5).1
      have hsz : o + len * n ≤ c.size := by
        obtain ⟨_, _, _, _, _, _, g⟩ := cell (len - 1) (n - 1) (by omega) (by omega)
        have : len * n = (len - 1) * n + n := by rw [← Nat.succ_mul]; congr 1; omega
        omega
      have hrow : ∀ i, i < len → (c.toList.drop o |>.drop (i * n)).take n = (c.toList.drop (o + i * n)).take n := fun i _ => by rw [List.drop_drop]
      refine ⟨_, (List.range len).map fun i => ((c.toList.drop o).drop (i * n)).take n, [b], rfl, .inr (.inr ⟨b, o, cap, c, T, fr, by simp, rfl, hh, ?_, by simpa using hsz, ?_, by simpa using hl⟩), ?_, ?_, ?_⟩
      · intro r hr
        simp only [List.mem_map, List.mem_range] at hr
        obtain ⟨i, hi, rfl⟩ := hr
        have : (i + 1) * n ≤ len * n := Nat.mul_le_mul_right _ hi
        rw [Nat.succ_mul] at this
        simp; omega
      · rw [chop_flat]; simp
      · intro y hy
        simp only [List.mem_singleton] at hy
        subst hy
        exact lt_of_blk hh
      · simp; omega
      · intro r hr
        simp only [List.mem_map, List.mem_range] at hr
        obtain ⟨i, hi, rfl⟩ := hr
        obtain ⟨cs, y, g1, g2, g3, _, _⟩ := cell i 0 hi hn
        refine ⟨m, y, ?_⟩
        have he : ((c.toList.drop o).drop (i * n)).take n = cs := by
          apply List.ext_getElem?
          intro j
          by_cases hj : j < n
          · obtain ⟨cs', y', g1', _, _, g4', _⟩ := cell i j hi hj
            rw [g1] at g1'
            injection g1' with g1'
            subst g1'
            rw [List.getElem?_take_of_lt hj, List.drop_drop, List.getElem?_drop, Array.getElem?_toList, g4']
          · rw [List.getElem?_eq_none (by simp; omega), List.getElem?_eq_none (by omega)]
        rw [he]; exact g2
end
end Go.Q

/- '==' of structs whose fields are numbers, texts and bools: one Bool. -/
set_option linter.unusedVariables false
set_option linter.unusedSimpArgs false
namespace Go.Q
def eqV : Value → Value → Bool
  | .int _ x, .int _ y => decide (x = y)
  | .string s, .string t => decide (s = t)
  | .bool a, .bool b => a == b
  | _, _ => false
def eqC : List Value → List Value → Bool
  | a :: r, b :: s => eqV a b && eqC r s
  | _, _ => true
@[simp] theorem eqV_int {k k' : IntKind} {x y : Int} : eqV (.int k x) (.int k' y) = decide (x = y) := rfl
@[simp] theorem eqV_str {s t : ByteArray} : eqV (.string s) (.string t) = decide (s = t) := rfl
@[simp] theorem eqV_bool {s t : Bool} : eqV (.bool s) (.bool t) = (s == t) := rfl
@[simp] theorem eqC_cons {a b : Value} {r s : List Value} : eqC (a :: r) (b :: s) = (eqV a b && eqC r s) := rfl
@[simp] theorem eqC_nil : eqC [] [] = true := rfl
def eqK : Option TypeDesc → Value → Value → Bool
  | some (.int _), .int k _, .int k' _ => k == k'
  | some .string, .string _, .string _ => true
  | some .bool, .bool _, .bool _ => true
  | _, _, _ => false
def flatF (P : Program) : List Field → List Value → List Value → Nat → Bool
  | [], _, _, _ => true
  | f :: fs, a :: aas, b :: bbs, i => !(f.name == "_") && Nat.beq f.offset i && (match aggO P f.type with | some false => true | _ => false) && eqK (P.underlying f.type) a b && flatF P fs aas bbs (i + 1)
  | _, _, _, _ => false
def aggEq (P : Program) (T : TypeId) (xs ys : List Value) : Bool :=
  match P.underlying T with
  | some (.struct fs) => !P.stoodInHeld T && !P.eqGuardType P.depth T && flatF P fs.toList xs ys 0 && Nat.beq fs.size xs.length && Nat.beq fs.size ys.length
  | _ => false
variable {P : Program}
theorem eqV_run {d : Nat} {T : TypeId} {a b : Value} {w : World} (h : eqK (P.underlying T) a b = true) : (Op.equalIn (d + 1) T a b).run P w = .ok (eqV a b) w := by
  unfold eqK at h
  split at h
  · rename_i hu
    have hk := eq_of_beq h
    subst hk
    rw [run_equalIn_int w d T _ _ _ _ hu]
    rfl
  · rename_i hu
    rw [run_equalIn_string w d T _ _ hu]
    rw [toList_beq]; rfl
  · rename_i hu
    rw [run_equalIn_bool' w d T _ _ hu]; rfl
  · cases h
theorem flat_run {d : Nat} {xs ys : Array Value} {w : World} : ∀ (fs : List Field) (aas bbs : List Value) (i : Nat), flatF P fs aas bbs i = true → xs.toList.drop i = aas → ys.toList.drop i = bbs → aas.length = fs.length → bbs.length = fs.length →
    (Op.eqFields (d + 1) xs ys fs).run P w = .ok (eqC aas bbs) w := by
  intro fs
  induction fs with
  | nil =>
    intro aas bbs i _ _ _ h1 h2
    have ha : aas = [] := List.length_eq_zero_iff.1 h1
    have hb : bbs = [] := List.length_eq_zero_iff.1 h2
    rw [ha, hb]
    simp [Op.eqFields]
  | cons f fs ih =>
    intro aas bbs i h h1 h2 h3 h4
    cases aas with
    | nil => simp at h3
    | cons a aas =>
      cases bbs with
      | nil => simp at h4
      | cons b bbs =>
        simp only [flatF, Bool.and_eq_true, Bool.not_eq_true'] at h
        obtain ⟨⟨⟨⟨g1, g2⟩, g3⟩, g4⟩, g5⟩ := h
        have hn : f.name ≠ "_" := by simpa using g1
        have ho : f.offset = i := Nat.eq_of_beq_eq_true g2
        have ha : aggO P f.type = some false := by
          revert g3
          cases aggO P f.type with
          | none => intro h; cases h
          | some t => cases t <;> intro h <;> simp at h ⊢
        have hx : xs[i]? = some a := by rw [← Array.getElem?_toList, ← List.head?_drop, h1]; rfl
        have hy : ys[i]? = some b := by rw [← Array.getElem?_toList, ← List.head?_drop, h2]; rfl
        have p1 : (part f.type xs f.offset).run P w = .ok a w := by rw [ho]; simp [part, aggO_run ha, hx, pure, Sem.run]
        have p2 : (part f.type ys f.offset).run P w = .ok b w := by rw [ho]; simp [part, aggO_run ha, hy, pure, Sem.run]
        have hr := ih aas bbs (i + 1) g5 (by rw [← List.drop_drop, h1]; rfl) (by rw [← List.drop_drop, h2]; rfl) (by simpa using h3) (by simpa using h4)
        rw [Op.eqFields]
        simp only [if_pos hn, Sem.run_bind, p1, p2, eqV_run g4, Result.andThen_ok]
        cases hv : eqV a b
        · simp [hv]
        · simp [hv]; exact hr
theorem run_aggs {T : TypeId} {xs ys : Array Value} {xo yo : Operand} {w : World} (h : aggEq P T xs.toList ys.toList = true) :
    (bq .eql T xo yo (.agg xs) (.agg ys)).run P w = .ok (.bool (eqC xs.toList ys.toList)) w ∧ (bq .neq T xo yo (.agg xs) (.agg ys)).run P w = .ok (.bool !eqC xs.toList ys.toList) w := by
  unfold aggEq at h
  split at h
  · rename_i fs hu
    simp only [Bool.and_eq_true, Bool.not_eq_true'] at h
    obtain ⟨⟨⟨⟨h1, h2⟩, h3⟩, h4⟩, h5⟩ := h
    have h4 := Nat.eq_of_beq_eq_true h4
    have h5 := Nat.eq_of_beq_eq_true h5
    have hf : P.fieldsOf T = fs := by simp [Program.fieldsOf, hu]
    have hr := flat_run (d := 9998) (xs := xs) (ys := ys) (w := w) fs.toList xs.toList ys.toList 0 h3 rfl rfl (by simpa using h4.symm) (by simpa using h5.symm)
    have he : (Op.equalIn 10000 T (.agg xs) (.agg ys)).run P w = .ok (eqC xs.toList ys.toList) w := by
      rw [run_equalIn_agg w 9999 T xs ys (by rw [hf]; exact hu) h1, hf]
      exact hr
    constructor
    · unfold bq
      rw [Sem.run_bind, run_eqGuard_agg w _ _ _ _ _ _ h2]
      simp only [Result.andThen_ok]
      rw [run_eql_struct, he]; rfl
    · unfold bq
      rw [Sem.run_bind, run_eqGuard_agg w _ _ _ _ _ _ h2]
      simp only [Result.andThen_ok]
      rw [run_neq_struct, he]; rfl
  · cases h
@[simp] theorem bq_aggeql {T : TypeId} {xs ys : List Value} {xo yo : Operand} {w : World} {K : Value → Prop} (h : aggEq P T xs ys = true) : qG P (bq .eql T xo yo (.agg xs.toArray) (.agg ys.toArray)) w K = K (.bool (eqC xs ys)) := qG_of (run_aggs h).1
@[simp] theorem bq_aggneq {T : TypeId} {xs ys : List Value} {xo yo : Operand} {w : World} {K : Value → Prop} (h : aggEq P T xs ys = true) : qG P (bq .neq T xo yo (.agg xs.toArray) (.agg ys.toArray)) w K = K (.bool !eqC xs ys) := qG_of (run_aggs h).2
end Go.Q

/- Slices of a call's own, and slices that are only read, without a list of their blocks. -/
set_option linter.unusedVariables false
set_option linter.unusedSimpArgs false
namespace Go.Q
/-- a slice that reads so -/
def Rd (w : World) (v : Value) (k : Nat) (rows : List (List Value)) : Prop := ∃ S, ArgAt w v k rows S
/-- a slice that owns its block, which was made behind 'w0' -/
structure Fr (w0 w : World) (v : Value) (k : Nat) (rows : List (List Value)) : Prop where
  ex : ∃ S, RowsAt w v k rows S ∧ ∀ x ∈ S, w0.heap.size ≤ x
  kp : Kp [] w0 w
section
variable {w0 w w' : World} {v : Value} {k : Nat} {rows : List (List Value)}
theorem Rd.keep (h : Rd w v k rows) (hk : Kp [] w w') : Rd w' v k rows := by
  obtain ⟨S, h⟩ := h
  exact ⟨S, h.keep hk (by simp)⟩
theorem Rd.lenL (h : Rd w v k rows) {K : Value → Prop} : lenL v K = K (.int .i64 rows.length) := by
  obtain ⟨S, h⟩ := h
  exact h.lenL
theorem Rd.row (h : Rd w v k rows) {x : List Value} (hx : x ∈ rows) : x.length = k := by
  obtain ⟨S, h⟩ := h
  exact h.row hx
theorem Rd.src (h : Rd w v k rows) (K' : Nat → Array Value → Prop) (hK : K' rows.length rows.flatten.toArray) : Q.srcA k v w K' := by
  obtain ⟨S, h⟩ := h
  exact h.src K' hK
theorem Rd.at (h : Rd w v k rows) {i : Nat} (hi : i < rows.length) :
    ∃ bl o T c fr, w.heap[bl]? = some (.cells c T fr) ∧ (∀ kd K, ia k v (.int kd i) K = K (.pointer (some ⟨bl, o, none⟩))) ∧ o + k ≤ c.size ∧ c.extract o (o + k) = rows[i].toArray ∧ ∀ j, j < k → c[o + j]? = rows[i][j]? := by
  obtain ⟨S, h⟩ := h
  obtain ⟨bl, o, T, c, fr, _, h1, h2, h3, h4, h5⟩ := h.at hi
  exact ⟨bl, o, T, c, fr, h1, h2, h3, h4, h5⟩
theorem Rd.take (h : Rd w v k rows) {p : Nat} (hp : p ≤ rows.length) {kd : IntKind} : ∃ v', Rd w v' k (rows.take p) ∧ ∀ K, slL k v none (some (.int kd p)) K = K v' := by
  obtain ⟨S, h⟩ := h
  obtain ⟨v', h1, h2⟩ := h.take hp (kd := kd)
  exact ⟨v', ⟨S, h1⟩, h2⟩
theorem Rd.drop (h : Rd w v k rows) {p : Nat} (hp : p ≤ rows.length) {kd : IntKind} : ∃ v', Rd w v' k (rows.drop p) ∧ ∀ K, slL k v (some (.int kd p)) none K = K v' := by
  obtain ⟨S, h⟩ := h
  obtain ⟨v', h1, h2⟩ := h.drop hp (kd := kd)
  exact ⟨v', ⟨S, h1⟩, h2⟩
/-- a row is read whole -/
theorem Rd.get (h : Rd w v k rows) {i : Nat} (hi : i < rows.length) :
    ∃ p, (∀ kd K, ia k v (.int kd i) K = K p) ∧ (∀ K : Value → Prop, ldn k p w K = K (.agg rows[i].toArray)) ∧ ∀ j (hj : j < rows[i].length), ∀ K : Value → Prop, fa j p (fun q => ld1 q w K) = K rows[i][j] := by
  have hr := h.row (List.getElem_mem hi)
  obtain ⟨bl, o, T, c, fr, h1, h2, h3, h4, h5⟩ := h.at hi
  refine ⟨_, h2, fun K => ?_, fun j hj K => ?_⟩
  · simp only [ldn_p, rdN_mk, h1, h3, h4, true_and]
  · have := h5 j (by omega)
    rw [List.getElem?_eq_getElem hj] at this
    simp [-getElem?_pos, -Array.getElem?_eq_getElem, h1, this]
/-- a row of one cell is read -/
theorem Rd.one (h : Rd w v 1 rows) {i : Nat} (hi : i < rows.length) {x : Value} (hx : rows[i] = [x]) : ∃ p, (∀ kd K, ia 1 v (.int kd i) K = K p) ∧ ∀ K : Value → Prop, ld1 p w K = K x := by
  obtain ⟨bl, o, T, c, fr, h1, h2, h3, h4, h5⟩ := h.at hi
  refine ⟨_, h2, fun K => ?_⟩
  have := h5 0 (by omega)
  rw [hx, Nat.add_zero, List.getElem?_cons_zero] at this
  simp [-getElem?_pos, -Array.getElem?_eq_getElem, h1, this]
theorem rd_nil : Rd w (.slice none 0 0) k [] := ⟨[], .inl ⟨none, 0, rfl, rfl⟩⟩
theorem Rd.slice (h : Rd w v k rows) : ∃ a c, v = .slice a rows.length c := by
  obtain ⟨S, ⟨a, c, h1, h2⟩ | h⟩ := h
  · exact ⟨a, c, by rw [h1, h2]; rfl⟩
  · obtain ⟨a, c, h1, _⟩ := h.len
    exact ⟨a, c, h1⟩
theorem Fr.rd (h : Fr w0 w v k rows) : Rd w v k rows := by
  obtain ⟨S, h1, h2⟩ := h.ex
  exact ⟨S, .inr h1.rd⟩
theorem Fr.keep (h : Fr w0 w v k rows) (hk : Kp [] w w') : Fr w0 w' v k rows := by
  obtain ⟨S, h1, h2⟩ := h.ex
  exact ⟨⟨S, h1.keep hk (by simp), h2⟩, h.kp.trans' hk⟩
/-- an elder base -/
theorem Fr.base {wb : World} (h : Fr w0 w v k rows) (hk : Kp [] wb w0) : Fr wb w v k rows := by
  obtain ⟨S, h1, h2⟩ := h.ex
  exact ⟨⟨S, h1, fun x hx => by have := h2 x hx; have := hk.size; omega⟩, hk.trans' h.kp⟩
theorem Fr.one (h : Fr w0 w v k rows) : Q.one v = true := by
  obtain ⟨S, h1, h2⟩ := h.ex
  obtain ⟨a, c, hv, _⟩ := h1.len
  rw [hv]; rfl
theorem fr_nil (hk : Kp [] w0 w) : Fr w0 w (.slice none 0 0) k [] := ⟨⟨[], .inl ⟨rfl, rfl, rfl⟩, by simp⟩, hk⟩
theorem fr_app {e bytes : Nat} {z : List Value} {x : Value} {G : List (List Value)} (h : Fr w0 w v k rows) (hk : 0 < k) (hz : z.length = k) (hG : ∀ y ∈ G, y.length = k) (hone : G.flatten.all Q.one = true)
    (hsrc : ∀ K' : Nat → Array Value → Prop, K' G.length G.flatten.toArray → srcA k x w K') (hb : 2 * (rows.length + G.length) * bytes ≤ 2 ^ 48) (hb2 : rows.length + G.length < 2 ^ 62) {K : Value → World → Prop}
    (hK : ∀ v' w', Fr w0 w' v' k (rows ++ G) → K v' w') : app e k bytes z.toArray v x w K := by
  obtain ⟨S, h1, h2⟩ := h.ex
  refine rows_app h1 hk hz hG hone hsrc hb hb2 fun v' w' S' h' hk' hS' => ?_
  have hs := h.kp.size
  refine hK v' w' ⟨⟨S', h', fun x hx => ?_⟩, h.kp.trans hk' fun x hx hlt => by have := h2 x hx; omega⟩
  rcases hS' x hx with h | h
  · exact h2 x h
  · omega
/-- a literal of one row is a slice of its own -/
theorem bsl_rowN {e n : Nat} {z : Array Value} {x : Value} {cs : List Value} (hn : 0 < n) (hc : x.cells = cs.toArray) (hl : cs.length = n) {w : World} {K : Value → World → Prop}
    (hK : ∀ v' w', Fr w w' v' n [cs] → K v' w') : bsl e n 1 z #[(0, x)] w K := by
  have hb : bsl e n 1 z #[(0, x)] w K = K (.slice (some ⟨w.heap.size, 0, none⟩) 1 1) (w.alloc (.cells cs.toArray e)) := by
    unfold bsl
    show (match Instr.fill (fun i => some (i * n, n)) (rep z (1 * n)) [(0, x)] with | some cs => K (Value.slice (some ⟨w.heap.size, 0, none⟩) 1 1) (w.alloc (Obj.cells cs e)) | none => False) = _
    rw [fill_step (off := 0) (size := n) (by simp) (by rw [hc]; simpa using hl) (by rw [rep_size]; omega), hc, splice_all (by rw [rep_size]; simp [hl])]
    rfl
  rw [hb]
  refine hK _ _ ⟨⟨[w.heap.size], .inr ⟨w.heap.size, [cs], e, rfl, rfl, ?_, by simpa using hl, by simp, by simp⟩, by simp⟩, (Kp.refl [] w).alloc _⟩
  rw [heap_new]; simp
/-- one row is appended -/
theorem fr_push {e bytes : Nat} {z : List Value} {x : Value} {y : List Value} {wx : World} (h : Fr w0 w v k rows) (hx : Rd w x k [y]) (hk : 0 < k) (hz : z.length = k) (hone : y.all Q.one = true)
    (hb : 2 * (rows.length + 1) * bytes ≤ 2 ^ 48) (hb2 : rows.length + 1 < 2 ^ 62) {K : Value → World → Prop}
    (hK : ∀ v' w', Fr w0 w' v' k (rows ++ [y]) → K v' w') : app e k bytes z.toArray v x w K := by
  have hy : y.length = k := hx.row (by simp)
  refine fr_app h hk hz (G := [y]) (by simpa using hy) (by simpa using hone) (fun K' hK' => hx.src K' hK') hb hb2 hK
end
/-! ### bytes -/
def byteV (c : UInt8) : List Value := [.int .u8 c.toNat]
theorem byteV_flat (l : List UInt8) : (l.map byteV).flatten = u8c l := by
  induction l with
  | nil => rfl
  | cons c l ih => simp only [List.map_cons, List.flatten_cons, ih]; rfl
/-- a text of bytes -/
theorem Rd.text {w : World} {v : Value} {l : List UInt8} (h : Rd w v 1 (l.map byteV)) (hn : (∃ a c, v = .slice a 0 c) → v = .slice none 0 0 ∨ ∃ S, RdAt w v 1 (l.map byteV) S) {K : Value → Prop} : cvBS v w K = K (.string (str l)) := by
  have main : ∀ S, RdAt w v 1 (l.map byteV) S → cvBS v w K = K (.string (str l)) := by
    intro S h
    rcases h with ⟨h1, h2⟩ | ⟨bl, o, cap, c, T, fr, h1, h2, h3, h4, h5, h6, h7⟩
    · have : l = [] := by simpa using h2
      subst this; subst h1
      rfl
    · subst h1
      have hb := bytesOf_u8c l
      simp only [List.length_map, Nat.mul_one] at h5 h6 h7
      have hx : c.extract o (o + l.length) = (u8c l).toArray := by rw [extract_toList, h6, byteV_flat]
      simp only [cvBS, rdN_mk, List.length_map, h3, hx, h5, true_and, hb]
      rfl
  obtain ⟨S, ⟨a, c, h1, h2⟩ | h⟩ := h
  · rcases hn ⟨a, c, h1⟩ with h3 | ⟨S, h3⟩
    · have : l = [] := by simpa using h2
      subst this; subst h3
      rfl
    · exact main S h3
  · exact main S h
theorem Fr.text {w0 w : World} {v : Value} {l : List UInt8} (h : Fr w0 w v 1 (l.map byteV)) {K : Value → Prop} : cvBS v w K = K (.string (str l)) := by
  obtain ⟨S, h1, h2⟩ := h.ex
  exact Rd.text h.rd fun _ => .inr ⟨S, h1.rd⟩
end Go.Q

set_option linter.unusedVariables false
set_option linter.unusedSimpArgs false
namespace Go.Proofs
theorem Tryz.mixed : Tryz.prog.follows .mixedOrders = true := by kernel_rfl
end Go.Proofs

set_option linter.unusedVariables false
set_option linter.unusedSimpArgs false
namespace Go.Proofs
open Go Go.Q
set_option maxRecDepth 100000
/-! (*strings.Builder).copyCheck -/
def strings_Builder_copyCheck_s0 (R : Value → World → Prop) (x0 : Value) (w : World) : Prop :=
  nk x0 fun t3 =>
  fa 0 t3 fun t4 =>
  ld1 t4 w fun t5 =>
  qG Tryz.prog (bq .eql 118 (.tmp 5) (.const (.pointer none)) t5 (.pointer none)) w fun t6 =>
  bV t6
  (eG Tryz.prog (convert 118 144 x0) w fun t9 w =>
  nG Tryz.prog (callFunc 98 #[t9]) w fun t10 w =>
  eG Tryz.prog (convert 144 118 t10) w fun t11 w =>
  nk x0 fun t12 =>
  fa 0 t12 fun t13 =>
  st1 t13 t11 w fun w =>
  R (.tuple #[]) w)
  (nk x0 fun t15 =>
  fa 0 t15 fun t16 =>
  ld1 t16 w fun t17 =>
  qG Tryz.prog (bq .neq 118 (.tmp 17) (.tmp 18) t17 x0) w fun t19 =>
  bV t19
  (False)
  (R (.tuple #[]) w))
theorem strings_Builder_copyCheck_s0_eq (R : Value → World → Prop) : ∀ e w, lift Tryz.prog 20 (bodyOf Tryz.f93) (finK Tryz.prog Tryz.f93.results.toList R) e w = strings_Builder_copyCheck_s0 R (e 0) w := fun e w => by kernel_rfl
def strings_Builder_copyCheck (R : Value → World → Prop) (x0 : Value) (w : World) : Prop := strings_Builder_copyCheck_s0 R x0 w
theorem strings_Builder_copyCheck_call {R : Value → World → Prop} {x0 : Value} {w : World} (h : strings_Builder_copyCheck R x0 w) : callG Tryz.prog 93 #[x0] w R :=
  calls_lift_eq Tryz.mixed Tryz.func93 (args := [x0]) rfl rfl rfl rfl ((strings_Builder_copyCheck_s0_eq R) (envOf [x0]) w) (by kernel_rfl) h
/-! (*strings.Builder).WriteString -/
def strings_Builder_WriteString_s0 (R : Value → World → Prop) (x0 x1 : Value) (w : World) : Prop :=
  callG Tryz.prog 93 #[x0] w fun t7 w =>
  nk x0 fun t10 =>
  fa 1 t10 fun t11 =>
  ld1 t11 w fun t12 =>
  app 5 1 1 (zc Tryz.prog 5) t12 x1 w fun t14 w =>
  nk x0 fun t15 =>
  fa 1 t15 fun t16 =>
  st1 t16 t14 w fun w =>
  lenS x1 fun t18 =>
  R (.tuple #[t18, .nilIface]) w
theorem strings_Builder_WriteString_s0_eq (R : Value → World → Prop) : ∀ e w, lift Tryz.prog 19 (bodyOf Tryz.f72) (finK Tryz.prog Tryz.f72.results.toList R) e w = strings_Builder_WriteString_s0 R (e 0) (e 1) w := fun e w => by kernel_rfl
def strings_Builder_WriteString (R : Value → World → Prop) (x0 x1 : Value) (w : World) : Prop := strings_Builder_WriteString_s0 R x0 x1 w
theorem strings_Builder_WriteString_call {R : Value → World → Prop} {x0 x1 : Value} {w : World} (h : strings_Builder_WriteString R x0 x1 w) : callG Tryz.prog 72 #[x0, x1] w R :=
  calls_lift_eq Tryz.mixed Tryz.func72 (args := [x0, x1]) rfl rfl rfl rfl ((strings_Builder_WriteString_s0_eq R) (envOf [x0, x1]) w) (by kernel_rfl) h
/-! (*strings.Builder).String -/
def strings_Builder_String_s0 (R : Value → World → Prop) (x0 : Value) (w : World) : Prop :=
  nk x0 fun t4 =>
  fa 1 t4 fun t5 =>
  ld1 t5 (World.drew w) fun t6 =>
  nk x0 fun t9 =>
  fa 1 t9 fun t10 =>
  ld1 t10 (World.drew w) fun t11 =>
  lenL t11 fun t12 =>
  eG Tryz.prog (Builtin.unsafeSliceData_ #[91] 141 #[t6]) (World.drew w) fun t7 w =>
  ld1 t10 w (fun u => u = t11) ∧
  eG Tryz.prog (Builtin.unsafeString_ #[141, 3] 9 #[t7, t12]) w fun t13 w =>
  R t13 w
theorem strings_Builder_String_s0_eq (R : Value → World → Prop) : ∀ e w, lift Tryz.prog 14 (bodyOf Tryz.f74) (finK Tryz.prog Tryz.f74.results.toList R) e w = strings_Builder_String_s0 R (e 0) w := fun e w => by kernel_rfl
def strings_Builder_String (R : Value → World → Prop) (x0 : Value) (w : World) : Prop := strings_Builder_String_s0 R x0 w
theorem strings_Builder_String_call {R : Value → World → Prop} {x0 : Value} {w : World} (h : strings_Builder_String R x0 w) : callG Tryz.prog 74 #[x0] w R :=
  calls_lift_eq Tryz.mixed Tryz.func74 (args := [x0]) rfl rfl rfl rfl ((strings_Builder_String_s0_eq R) (envOf [x0]) w) (by kernel_rfl) h
/-! (*strings.Builder).Len -/
def strings_Builder_Len_s0 (R : Value → World → Prop) (x0 : Value) (w : World) : Prop :=
  nk x0 fun t4 =>
  fa 1 t4 fun t5 =>
  ld1 t5 w fun t6 =>
  lenL t6 fun t7 =>
  R t7 w
theorem strings_Builder_Len_s0_eq (R : Value → World → Prop) : ∀ e w, lift Tryz.prog 8 (bodyOf Tryz.f73) (finK Tryz.prog Tryz.f73.results.toList R) e w = strings_Builder_Len_s0 R (e 0) w := fun e w => by kernel_rfl
def strings_Builder_Len (R : Value → World → Prop) (x0 : Value) (w : World) : Prop := strings_Builder_Len_s0 R x0 w
theorem strings_Builder_Len_call {R : Value → World → Prop} {x0 : Value} {w : World} (h : strings_Builder_Len R x0 w) : callG Tryz.prog 73 #[x0] w R :=
  calls_lift_eq Tryz.mixed Tryz.func73 (args := [x0]) rfl rfl rfl rfl ((strings_Builder_Len_s0_eq R) (envOf [x0]) w) (by kernel_rfl) h
end Go.Proofs

set_option linter.unusedVariables false
set_option linter.unusedSimpArgs false
namespace Go.Proofs
open Go Go.Q
@[simp] theorem Tryz.isBool4 : isBoolT Tryz.prog 4 = true := by kernel_rfl
@[simp] theorem Tryz.isPtr15 : isPtr Tryz.prog 15 = true := by kernel_rfl
@[simp] theorem Tryz.isPtr16 : isPtr Tryz.prog 16 = true := by kernel_rfl
@[simp] theorem Tryz.isPtr17 : isPtr Tryz.prog 17 = true := by kernel_rfl
@[simp] theorem Tryz.isSl22 : isSl Tryz.prog 22 = true := by kernel_rfl
@[simp] theorem Tryz.isPtr23 : isPtr Tryz.prog 23 = true := by kernel_rfl
@[simp] theorem Tryz.isPtr27 : isPtr Tryz.prog 27 = true := by kernel_rfl
@[simp] theorem Tryz.isPtr32 : isPtr Tryz.prog 32 = true := by kernel_rfl
@[simp] theorem Tryz.isSl33 : isSl Tryz.prog 33 = true := by kernel_rfl
@[simp] theorem Tryz.isSl34 : isSl Tryz.prog 34 = true := by kernel_rfl
@[simp] theorem Tryz.isSl35 : isSl Tryz.prog 35 = true := by kernel_rfl
@[simp] theorem Tryz.isSl43 : isSl Tryz.prog 43 = true := by kernel_rfl
@[simp] theorem Tryz.isSl49 : isSl Tryz.prog 49 = true := by kernel_rfl
@[simp] theorem Tryz.isSl50 : isSl Tryz.prog 50 = true := by kernel_rfl
@[simp] theorem Tryz.isSl91 : isSl Tryz.prog 91 = true := by kernel_rfl
@[simp] theorem Tryz.isPtr95 : isPtr Tryz.prog 95 = true := by kernel_rfl
@[simp] theorem Tryz.isPtr118 : isPtr Tryz.prog 118 = true := by kernel_rfl
@[simp] theorem Tryz.isPtr131 : isPtr Tryz.prog 131 = true := by kernel_rfl
@[simp] theorem Tryz.isPtr141 : isPtr Tryz.prog 141 = true := by kernel_rfl
@[simp] theorem Tryz.isPtr160 : isPtr Tryz.prog 160 = true := by kernel_rfl
@[simp] theorem Tryz.isPtr163 : isPtr Tryz.prog 163 = true := by kernel_rfl
end Go.Proofs

/- strings.Builder: what each function of it does. -/
set_option linter.unusedVariables false
set_option linter.unusedSimpArgs false
namespace Go.Proofs
open Go Go.Q
theorem rows_one {w : World} {v : Value} {k : Nat} {rows : List (List Value)} {S : List Nat} (h : RowsAt w v k rows S) : Q.one v = true := by
  obtain ⟨a, c, hv, _⟩ := h.len
  rw [hv]; rfl
theorem info_some {t : TypeId} {n : Nat} (h : szO Tryz.prog t = some n) : ∃ j, Tryz.prog.info? t = some j ∧ j.size = n := by
  unfold szO at h
  cases hi : Tryz.prog.info? t with
  | none => rw [hi] at h; cases h
  | some j => rw [hi] at h; exact ⟨j, rfl, by simpa using h⟩
theorem Tryz.szB : szO Tryz.prog 120 = some 2 := by kernel_rfl
theorem Tryz.cellsOf5 : Tryz.prog.cellsOf 5 = 1 := by kernel_rfl
theorem bq_psame {xo yo : Operand} {w : World} {a : Addr} {K : Value → Prop} : qG Tryz.prog (bq .neq 118 xo yo (.pointer (some a)) (.pointer (some a))) w K = K (.bool false) := by
  obtain ⟨j, hj, _⟩ := info_some Tryz.szB
  refine qG_of ((run_equal1 (P := Tryz.prog) (T := 118) (x := .pointer (some a)) (y := .pointer (some a)) (w := w) (b := true) ?_ (fun _ _ h => by cases h.1) (fun h => by cases h.1) xo yo rfl rfl).2)
  have h := Go.Lib.run_neq_ptr_same (P := Tryz.prog) w a Tryz.underlying118 hj
  have h2 : ∀ d : Nat, (Op.equalIn (d + 1) 118 (.pointer (some a)) (.pointer (some a))).run Tryz.prog w = .ok true w := fun d => by
    simp [Op.equalIn, Go.run_underlying Tryz.underlying118, sizeOf, typeInfo, hj, Go.run_sameAddr_same]
  simp [Op.equal, Op.maxDepth, h2 9999]
theorem to_unsafe {w : World} {b : Nat} {cs : Array Value} {fr : Nat × Nat} (hb : w.heap[b]? = some (.cells cs 120 fr)) (hs : cs.size = 2) {K : Value → World → Prop} (hK : K (.pointer (some ⟨b, 0, none⟩)) w) :
    eG Tryz.prog (convert 118 144 (.pointer (some ⟨b, 0, none⟩))) w K := by
  obtain ⟨j, hj, hsz⟩ := info_some Tryz.szB
  exact ⟨_, w, Go.Lib.run_to_unsafe (P := Tryz.prog) (cells := 2) (e := 120) w ⟨b, 0, none⟩ Tryz.underlying118 Tryz.underlying144 hj (by omega) (by simp [World.shape?, hb, hs]) (Nat.zero_lt_succ 1), hK⟩
theorem from_unsafe {w : World} {b : Nat} {cs : Array Value} {fr : Nat × Nat} (hb : w.heap[b]? = some (.cells cs 120 fr)) (hs : cs.size = 2) {K : Value → World → Prop} (hK : K (.pointer (some ⟨b, 0, none⟩)) w) :
    eG Tryz.prog (convert 144 118 (.pointer (some ⟨b, 0, none⟩))) w K := by
  obtain ⟨j, hj, hsz⟩ := info_some Tryz.szB
  exact ⟨_, w, Go.Lib.run_from_unsafe (P := Tryz.prog) (cells := 2) (e := 120) w ⟨b, 0, none⟩ Tryz.underlying144 Tryz.underlying118 hj (by simp [World.shape?, hb, hs]) (by kernel_rfl), hK⟩
theorem no_escape {w : World} {x : Value} {K : Value → World → Prop} (hK : K x w) : nG Tryz.prog (callFunc 98 #[x]) w K := by
  refine ⟨x, w, ?_, hK⟩
  rw [run_callFunc_extern (e := Extern.AbiNoEscape.same) Tryz.func98 (by kernel_rfl) rfl (by kernel_rfl) (by kernel_rfl)]
  rfl
/-- a builder's buffer, frozen or not -/
def BufT (w : World) (v : Value) (l : List UInt8) (S : List Nat) : Prop :=
  (v = .slice none 0 0 ∧ l = [] ∧ S = []) ∨
  ∃ (bl cap : Nat) (c : Array Value) (fr : Nat × Nat), v = .slice (some ⟨bl, 0, none⟩) l.length cap ∧ S = [bl] ∧ w.heap[bl]? = some (.cells c 5 fr) ∧ l ≠ [] ∧ l.length ≤ c.size ∧ l.length ≤ cap ∧ c.toList.take l.length = u8c l
/-- a builder that may be written on -/
def Bld (w : World) (b : Nat) (l : List UInt8) (S : List Nat) : Prop :=
  ∃ p v SB, w.heap[b]? = some (.cells #[p, v] 120) ∧ (p = .pointer none ∨ p = .pointer (some ⟨b, 0, none⟩)) ∧ RowsT w v 1 5 (l.map byteV) SB ∧ (l = [] → v = .slice none 0 0) ∧ S = b :: SB ∧ b ∉ SB
/-- a builder that is read -/
def BldD (w : World) (b : Nat) (l : List UInt8) (S : List Nat) : Prop :=
  ∃ p v SB, w.heap[b]? = some (.cells #[p, v] 120) ∧ BufT w v l SB ∧ S = b :: SB ∧ b ∉ SB
theorem Bld.keep {w w' : World} {b : Nat} {l : List UInt8} {S S' : List Nat} (h : Bld w b l S) (hk : Kp S' w w') (hd : ∀ x ∈ S, x ∉ S') : Bld w' b l S := by
  obtain ⟨p, v, SB, h1, h2, h3, h4, rfl, h5⟩ := h
  exact ⟨p, v, SB, hk.get h1 (hd b (by simp)), h2, h3.keep hk (fun x hx => hd x (by simp [hx])), h4, rfl, h5⟩
theorem BufT.keep {w w' : World} {v : Value} {l : List UInt8} {S S' : List Nat} (h : BufT w v l S) (hk : Kp S' w w') (hd : ∀ x ∈ S, x ∉ S') : BufT w' v l S := by
  rcases h with h | ⟨bl, cap, c, fr, h1, rfl, h3, h4⟩
  · exact .inl h
  · exact .inr ⟨bl, cap, c, fr, h1, rfl, hk.get h3 (hd bl (by simp)), h4⟩
theorem BldD.keep {w w' : World} {b : Nat} {l : List UInt8} {S S' : List Nat} (h : BldD w b l S) (hk : Kp S' w w') (hd : ∀ x ∈ S, x ∉ S') : BldD w' b l S := by
  obtain ⟨p, v, SB, h1, h2, rfl, h5⟩ := h
  exact ⟨p, v, SB, hk.get h1 (hd b (by simp)), h2.keep hk (fun x hx => hd x (by simp [hx])), rfl, h5⟩
theorem Bld.done {w : World} {b : Nat} {l : List UInt8} {S : List Nat} (h : Bld w b l S) : BldD w b l S := by
  obtain ⟨p, v, SB, h1, h2, h3, h4, rfl, h5⟩ := h
  refine ⟨p, v, SB, h1, ?_, rfl, h5⟩
  by_cases hl : l = []
  · have hv := h4 hl
    subst hl
    rcases h3 with ⟨_, _, h6⟩ | ⟨bl, F, h7, _⟩
    · exact .inl ⟨hv, rfl, h6⟩
    · rw [hv] at h7; cases h7
  · rcases h3 with ⟨_, h6, _⟩ | ⟨bl, F, h7, h8, h9, h10, h11, h12⟩
    · exact absurd (by simpa using h6) hl
    · have hfl := flat_len h10
      simp only [List.length_map] at h7 h11 h12
      refine .inr ⟨bl, F.length, F.flatten.toArray, (0, 0), by rw [h7], h8, h9, hl, ?_, h12, ?_⟩
      · simp only [List.size_toArray, hfl]; omega
      · have := flat_take l.length h10
        rw [Nat.mul_one] at this
        rw [this, h11, byteV_flat]
theorem Bld.live {w : World} {b : Nat} {l : List UInt8} {S : List Nat} (h : Bld w b l S) : ∀ x ∈ S, x < w.heap.size := by
  obtain ⟨p, v, SB, h1, h2, h3, h4, rfl, h5⟩ := h
  intro x hx
  rcases List.mem_cons.1 hx with rfl | hx
  · exact lt_of_blk h1
  · exact h3.at_.lt x hx
theorem bld_new {w : World} : Bld (w.alloc (.cells #[.pointer none, .slice none 0 0] 120)) w.heap.size [] [w.heap.size] :=
  ⟨.pointer none, .slice none 0 0, [], heap_new, .inl rfl, .inl ⟨rfl, rfl, rfl⟩, fun _ => rfl, rfl, by simp⟩
theorem copy_spec {w : World} {b : Nat} {l : List UInt8} {S : List Nat} (h : Bld w b l S) {K : Value → World → Prop} (hK : ∀ w', Bld w' b l S → Kp S w w' → K (.tuple #[]) w') : callG Tryz.prog 93 #[.pointer (some ⟨b, 0, none⟩)] w K := by
  refine strings_Builder_copyCheck_call ?_
  have h0 := h
  obtain ⟨p, v, SB, h1, h2, h3, h4, rfl, h5⟩ := h
  simp only [strings_Builder_copyCheck, strings_Builder_copyCheck_s0]
  rcases h2 with rfl | rfl
  · simp [-getElem?_pos, -Array.all_eq_true, -Array.getElem?_eq_getElem, -List.length_flatten, List.getElem?_cons_zero, List.getElem?_cons_succ, h1]
    refine to_unsafe h1 rfl ?_
    refine no_escape ?_
    refine from_unsafe h1 rfl ?_
    have lb := live_of h1
    simp [-getElem?_pos, -Array.all_eq_true, -Array.getElem?_eq_getElem, -List.length_flatten, List.getElem?_cons_zero, List.getElem?_cons_succ, h1, lb]
    have hk : Kp [b] w (setBlk w b (.cells #[.pointer (some ⟨b, 0, none⟩), v] 120)) := (Kp.refl _ w).setBlk (.inl (by simp)) _
    refine hK _ ⟨_, v, SB, heap_self lb, .inr rfl, h3.keep hk (fun x hx => by simp; intro hh; exact h5 (hh ▸ hx)), h4, rfl, h5⟩ (hk.mono fun x hx _ => by simp at hx; simp [hx])
  · simp [-getElem?_pos, -Array.all_eq_true, -Array.getElem?_eq_getElem, -List.length_flatten, List.getElem?_cons_zero, List.getElem?_cons_succ, h1]
    rw [bq_psame]
    simp [-getElem?_pos, -Array.all_eq_true, -Array.getElem?_eq_getElem, -List.length_flatten, List.getElem?_cons_zero, List.getElem?_cons_succ, ]
    exact hK w h0 (Kp.refl _ _)
theorem app_nothing {w : World} {z : Array Value} {K : Value → World → Prop} (hK : K (.slice none 0 0) w) : app 5 1 1 z (.slice none 0 0) (.string (str [])) w K := by
  unfold app
  simp [srcA]
  exact hK
theorem zc5l : zc Tryz.prog 5 = [Value.int .u8 0].toArray := by kernel_rfl
theorem WriteString_spec {w : World} {b : Nat} {l : List UInt8} {S : List Nat} (h : Bld w b l S) (s : List UInt8) (hl : l.length + s.length < 2 ^ 40) {K : Value → World → Prop}
    (hK : ∀ w' S', Bld w' b (l ++ s) S' → Kp S w w' → (∀ x ∈ S', x ∈ S ∨ w.heap.size ≤ x) → K (.tuple #[.int .i64 s.length, .nilIface]) w') : callG Tryz.prog 72 #[.pointer (some ⟨b, 0, none⟩), .string (str s)] w K := by
  refine strings_Builder_WriteString_call ?_
  simp only [strings_Builder_WriteString, strings_Builder_WriteString_s0]
  refine copy_spec h fun w1 h1 hk1 => ?_
  obtain ⟨p, v, SB, g1, g2, g3, g4, rfl, g5⟩ := h1
  have lb := live_of g1
  have hsz := hk1.size
  simp [-getElem?_pos, -Array.all_eq_true, -Array.getElem?_eq_getElem, -List.length_flatten, List.getElem?_cons_zero, List.getElem?_cons_succ, g1]
  by_cases h0 : l = [] ∧ s = []
  · obtain ⟨rfl, rfl⟩ := h0
    have hv := g4 rfl
    subst hv
    refine app_nothing ?_
    simp [-getElem?_pos, -Array.all_eq_true, -Array.getElem?_eq_getElem, -List.length_flatten, List.getElem?_cons_zero, List.getElem?_cons_succ, g1, lb]
    have hk : Kp [b] w1 (setBlk w1 b (.cells #[p, .slice none 0 0] 120)) := (Kp.refl _ w1).setBlk (.inl (by simp)) _
    refine hK _ (b :: SB) ⟨p, _, SB, heap_self lb, g2, g3.keep hk (fun x hx => by simp; intro hh; exact g5 (hh ▸ hx)), fun _ => rfl, rfl, g5⟩ (hk1.trans hk fun x hx _ => by simp at hx; simp [hx]) (fun x hx => .inl hx)
  · have hone : ((s.map byteV).flatten).all Q.one = true := by rw [byteV_flat]; have := one_u8c s; rw [List.all_toArray] at this; exact this
    have hsrc : ∀ K' : Nat → Array Value → Prop, K' (s.map byteV).length (s.map byteV).flatten.toArray → srcA 1 (.string (str s)) w1 K' := by
      intro K' hK'
      have he : u8s ((str s).extract 0 s.length) = (u8c s).toArray := by rw [str_extract, List.take_length, List.drop_zero, u8s_eq]; rfl
      rw [byteV_flat, List.length_map] at hK'
      simp only [srcA, str_size, he]
      exact hK'
    rw [zc5l]
    refine rowsT_app (k := 1) (z := [Value.int .u8 0]) (G := s.map byteV) g3 (by omega) rfl (by simp [byteV]) hone hsrc (by simp; omega) (by simp; omega) fun v2 w2 S2 h2 hk2 hS2 => ?_
    have gg := hk2.get g1 g5
    have lb2 := live_of gg
    have hv2 := rows_one h2.at_
    have hbS2 : b ∉ S2 := fun hm => by
      rcases hS2 b hm with h | h
      · exact g5 h
      · have : b < w1.heap.size := lb
        omega
    have hk : Kp [b] w2 (setBlk w2 b (.cells #[p, v2] 120)) := (Kp.refl _ w2).setBlk (.inl (by simp)) _
    simp [-getElem?_pos, -Array.all_eq_true, -Array.getElem?_eq_getElem, -List.length_flatten, List.getElem?_cons_zero, List.getElem?_cons_succ, gg, lb2, hv2]
    refine hK _ (b :: S2) ⟨p, v2, S2, heap_self lb2, g2, ?_, ?_, rfl, hbS2⟩ ?_ ?_
    · rw [List.map_append]
      exact h2.keep hk (fun x hx => by simp; intro hh; exact hbS2 (hh ▸ hx))
    · intro hn
      exact absurd (by simpa using hn) h0
    · exact (hk1.trans hk2 fun x hx _ => by simp [hx]).trans hk fun x hx _ => by simp at hx; simp [hx]
    · intro x hx
      rcases List.mem_cons.1 hx with rfl | hx
      · exact .inl (by simp)
      · rcases hS2 x hx with h | h
        · exact .inl (by simp [h])
        · exact .inr (by omega)
theorem BufT.lenL {w : World} {v : Value} {l : List UInt8} {S : List Nat} (h : BufT w v l S) {K : Value → Prop} : lenL v K = K (.int .i64 l.length) := by
  rcases h with ⟨h1, h2, _⟩ | ⟨bl, cap, c, fr, h1, _⟩
  · rw [h1, h2]; rfl
  · rw [h1]; rfl
theorem freeze_blk {w : World} {bl n : Nat} {c : Array Value} {T : TypeId} {fr : Nat × Nat} (h : w.heap[bl]? = some (.cells c T fr)) (hn : n ≠ 0) : ∃ fr', w.freeze ⟨bl, 0, none⟩ n = setBlk w bl (.cells c T fr') := by
  obtain ⟨lo, hi⟩ := fr
  refine ⟨if lo == hi then (0, 0 + n) else (min lo 0, max hi (0 + n)), ?_⟩
  unfold World.freeze
  rw [if_neg hn]
  unfold setBlk
  congr 1
  apply Array.ext_getElem?
  intro j
  rw [Array.getElem?_modify, Array.getElem?_setIfInBounds]
  by_cases hj : bl = j
  · subst hj
    rw [if_pos rfl, if_pos rfl, h]
    have := (Array.getElem?_eq_some_iff.1 h).1
    rw [if_pos this]
    rfl
  · rw [if_neg hj, if_neg hj]
theorem String_spec {w : World} {b : Nat} {l : List UInt8} {S : List Nat} (h : BldD w b l S) (hl : l.length < 2 ^ 62) {K : Value → World → Prop}
    (hK : ∀ w', BldD w' b l S → Kp S w w' → K (.string (str l)) w') : callG Tryz.prog 74 #[.pointer (some ⟨b, 0, none⟩)] w K := by
  refine strings_Builder_String_call ?_
  have h0 := h
  obtain ⟨p, v, SB, h1, h2, rfl, h5⟩ := h
  simp only [strings_Builder_String, strings_Builder_String_s0]
  simp [-getElem?_pos, -Array.all_eq_true, -Array.getElem?_eq_getElem, -List.length_flatten, List.getElem?_cons_zero, List.getElem?_cons_succ, h1]
  rw [BufT.lenL h2]
  have hkd : Kp (b :: SB) w w.drew := (Kp.refl _ _).drew
  rcases h2 with ⟨rfl, rfl, rfl⟩ | ⟨bl, cap, c, fr, rfl, rfl, g3, g4, g5, g6, g7⟩
  · refine ⟨_, _, Go.Lib.run_unsafeSliceData_nil _ _ _ _ _, ?_⟩
    simp [-getElem?_pos, -Array.all_eq_true, -Array.getElem?_eq_getElem, -List.length_flatten, List.getElem?_cons_zero, List.getElem?_cons_succ, h1]
    refine ⟨_, _, Go.Lib.run_unsafeString_none _ _ _ _ _, ?_⟩
    exact hK w.drew h0 hkd
  · have hpos : l.length ≠ 0 := by simpa using g4
    refine ⟨_, _, Go.Lib.run_unsafeSliceData_row _ _ _ _ _ _ (by omega), ?_⟩
    simp [-getElem?_pos, -Array.all_eq_true, -Array.getElem?_eq_getElem, -List.length_flatten, List.getElem?_cons_zero, List.getElem?_cons_succ, h1]
    refine ⟨_, _, Go.Lib.run_unsafeString_row (e := 5) w.drew 141 3 9 Tryz.underlying141 Tryz.cellsOf5 bl c.size (by simp [World.shape?, g3]) l g4 g5 (by omega) ?_, ?_⟩
    · intro j x hx
      have hj : j < l.length := (List.getElem?_eq_some_iff.1 hx).1
      have : c.toList[j]? = (u8c l)[j]? := by rw [← g7, List.getElem?_take_of_lt hj]
      simp only [add_mk, World.cell?, heap_drew, g3, Nat.zero_add]
      rw [← Array.getElem?_toList, this]
      simp [u8c, hx]
    · obtain ⟨fr', hf⟩ := freeze_blk (w := w.drew) (bl := bl) (n := l.length) g3 hpos
      rw [hf]
      have hk : Kp [bl] w.drew (setBlk w.drew bl (.cells c 5 fr')) := (Kp.refl _ _).setBlk (.inl (by simp)) _
      have hne : ¬ b = bl := by simpa using h5
      refine hK _ ⟨p, _, [bl], by rw [heap_ne (fun h => hne h.symm)]; exact h1, .inr ⟨bl, cap, c, fr', rfl, rfl, heap_self (live_of g3), g4, g5, g6, g7⟩, rfl, h5⟩ (hkd.trans hk fun x hx _ => by simp at hx; simp [hx])
/-- a builder of the call's own -/
structure Bd (w0 w : World) (b : Nat) (l : List UInt8) : Prop where
  ex : ∃ S, Bld w b l S ∧ ∀ x ∈ S, w0.heap.size ≤ x
  kp : Kp [] w0 w
theorem Bd.keep {w0 w w' : World} {b : Nat} {l : List UInt8} (h : Bd w0 w b l) (hk : Kp [] w w') : Bd w0 w' b l := by
  obtain ⟨S, h1, h2⟩ := h.ex
  exact ⟨⟨S, h1.keep hk (by simp), h2⟩, h.kp.trans' hk⟩
theorem bd_new {w : World} : Bd w (w.alloc (.cells #[.pointer none, .slice none 0 0] 120)) w.heap.size [] := ⟨⟨_, bld_new, by simp⟩, (Kp.refl [] w).alloc _⟩
theorem zcB : zc Tryz.prog 120 = #[.pointer none, .slice none 0 0] := by kernel_rfl
theorem bd_string {w0 w : World} {b : Nat} {l : List UInt8} (h : Bd w0 w b l) (s : List UInt8) (hl : l.length + s.length < 2 ^ 40) {K : Value → World → Prop}
    (hK : ∀ w', Bd w0 w' b (l ++ s) → K (.tuple #[.int .i64 s.length, .nilIface]) w') : callG Tryz.prog 72 #[.pointer (some ⟨b, 0, none⟩), .string (str s)] w K := by
  obtain ⟨S, h1, h2⟩ := h.ex
  refine WriteString_spec h1 s hl fun w' S' h' hk hS => ?_
  have hs := h.kp.size
  refine hK w' ⟨⟨S', h', fun x hx => ?_⟩, h.kp.trans hk fun x hx hlt => by have := h2 x hx; omega⟩
  rcases hS x hx with h | h
  · exact h2 x h
  · omega
/-- the text; the builder is read from now on -/
theorem bd_text {w0 w : World} {b : Nat} {l : List UInt8} (h : Bd w0 w b l) (hl : l.length < 2 ^ 62) {K : Value → World → Prop} (hK : ∀ w', Kp [] w0 w' → K (.string (str l)) w') :
    callG Tryz.prog 74 #[.pointer (some ⟨b, 0, none⟩)] w K := by
  obtain ⟨S, h1, h2⟩ := h.ex
  exact String_spec h1.done hl fun w' _ hk => hK w' (h.kp.trans hk fun x hx hlt => by have := h2 x hx; omega)
end Go.Proofs

set_option linter.unusedVariables false
set_option linter.unusedSimpArgs false
namespace Go.Proofs
open Go Go.Q
set_option maxRecDepth 100000
/-! (*strings.Builder).Grow -/
def strings_Builder_Grow_s0 (R : Value → World → Prop) (x0 x1 : Value) (w : World) : Prop :=
  nk x0 fun t10 =>
  fa 1 t10 fun t11 =>
  ld1 t11 (World.drew w) fun t12 =>
  qG Tryz.prog (Builtin.cap_ #[91] 3 #[t12]) (World.drew w) fun t13 =>
  nk x0 fun t15 =>
  fa 1 t15 fun t16 =>
  ld1 t16 (World.drew w) fun t17 =>
  lenL t17 fun t18 =>
  qG Tryz.prog (bq .sub 3 (.tmp 13) (.tmp 18) t13 t18) (World.drew w) fun t19 =>
  qG Tryz.prog (bq .lss 3 (.tmp 19) (.tmp 20) t19 x1) (World.drew w) fun t21 =>
  bV t21
  (callG Tryz.prog 94 #[x0, x1] (World.drew w) fun t24 w =>
  R (.tuple #[]) w)
  (R (.tuple #[]) (World.drew w))
theorem strings_Builder_Grow_s0_eq (R : Value → World → Prop) : ∀ e w, lift Tryz.prog 25 (sub (bodyOf Tryz.f71) [1, 1]) (finK Tryz.prog Tryz.f71.results.toList R) e w = strings_Builder_Grow_s0 R (e 0) (e 1) w := fun e w => by kernel_rfl
def strings_Builder_Grow_s1 (R : Value → World → Prop) (x0 x1 : Value) (w : World) : Prop :=
  callG Tryz.prog 93 #[x0] w fun t5 w =>
  qG Tryz.prog (bq .lss 3 (.tmp 6) (.const (.int .i64 0)) x1 (.int .i64 0)) w fun t7 =>
  bV t7
  (qG Tryz.prog (Instr.makeInterface 9 (.string ⟨#[115, 116, 114, 105, 110, 103, 115, 46, 66, 117, 105, 108, 100, 101, 114, 46, 71, 114, 111, 119, 58, 32, 110, 101, 103, 97, 116, 105, 118, 101, 32, 99, 111, 117, 110, 116]⟩)) w fun t8 =>
  False)
  (strings_Builder_Grow_s0 R x0 x1 w)
theorem strings_Builder_Grow_s1_eq (R : Value → World → Prop) : ∀ e w, lift Tryz.prog 25 (bodyOf Tryz.f71) (finK Tryz.prog Tryz.f71.results.toList R) e w = strings_Builder_Grow_s1 R (e 0) (e 1) w :=
  segs_eq (l := [(sub (bodyOf Tryz.f71) [0]), (sub (bodyOf Tryz.f71) [1, 0])]) (y := (sub (bodyOf Tryz.f71) [1, 1])) (Y := (fun e w => strings_Builder_Grow_s0 R (e 0) (e 1) w)) (strings_Builder_Grow_s0_eq R) (fun e w => by kernel_rfl)
def strings_Builder_Grow (R : Value → World → Prop) (x0 x1 : Value) (w : World) : Prop := strings_Builder_Grow_s1 R x0 x1 w
theorem strings_Builder_Grow_call {R : Value → World → Prop} {x0 x1 : Value} {w : World} (h : strings_Builder_Grow R x0 x1 w) : callG Tryz.prog 71 #[x0, x1] w R :=
  calls_lift_eq Tryz.mixed Tryz.func71 (args := [x0, x1]) rfl rfl rfl rfl ((strings_Builder_Grow_s1_eq R) (envOf [x0, x1]) w) (by kernel_rfl) h
/-! (*strings.Builder).grow -/
def strings_Builder_grow_s0 (R : Value → World → Prop) (x0 x1 : Value) (w : World) : Prop :=
  nk x0 fun t6 =>
  fa 1 t6 fun t7 =>
  ld1 t7 (World.drew w) fun t8 =>
  qG Tryz.prog (Builtin.cap_ #[91] 3 #[t8]) (World.drew w) fun t9 =>
  qG Tryz.prog (bq .mul 3 (.const (.int .i64 2)) (.tmp 9) (.int .i64 2) t9) (World.drew w) fun t10 =>
  qG Tryz.prog (bq .add 3 (.tmp 10) (.tmp 11) t10 x1) (World.drew w) fun t12 =>
  nk x0 fun t15 =>
  fa 1 t15 fun t16 =>
  ld1 t16 (World.drew w) fun t17 =>
  lenL t17 fun t18 =>
  nG Tryz.prog (callFunc 99 #[t12]) (World.drew w) fun t13 w =>
  ld1 t16 w (fun u => u = t17) ∧
  slL 1 t13 none (some t18) fun t19 =>
  nk x0 fun t22 =>
  fa 1 t22 fun t23 =>
  ld1 t23 w fun t24 =>
  cp 1 t19 t24 w fun t25 w =>
  nk x0 fun t28 =>
  fa 1 t28 fun t29 =>
  st1 t29 t19 w fun w =>
  R (.tuple #[]) w
theorem strings_Builder_grow_s0_eq (R : Value → World → Prop) : ∀ e w, lift Tryz.prog 30 (bodyOf Tryz.f94) (finK Tryz.prog Tryz.f94.results.toList R) e w = strings_Builder_grow_s0 R (e 0) (e 1) w := fun e w => by kernel_rfl
def strings_Builder_grow (R : Value → World → Prop) (x0 x1 : Value) (w : World) : Prop := strings_Builder_grow_s0 R x0 x1 w
theorem strings_Builder_grow_call {R : Value → World → Prop} {x0 x1 : Value} {w : World} (h : strings_Builder_grow R x0 x1 w) : callG Tryz.prog 94 #[x0, x1] w R :=
  calls_lift_eq Tryz.mixed Tryz.func94 (args := [x0, x1]) rfl rfl rfl rfl ((strings_Builder_grow_s0_eq R) (envOf [x0, x1]) w) (by kernel_rfl) h
/-! math/bits.Mul -/
def math_bits_Mul_s0 (R : Value → World → Prop) (x0 x1 : Value) (w : World) : Prop :=
  callG Tryz.prog 92 #[x0, x1] w fun t25 w =>
  qG Tryz.prog (Instr.extract t25 0) w fun t26 =>
  qG Tryz.prog (Instr.extract t25 1) w fun t27 =>
  R (.tuple #[t26, t27]) w
theorem math_bits_Mul_s0_eq (R : Value → World → Prop) : ∀ e w, lift Tryz.prog 30 (bodyOf Tryz.f70) (finK Tryz.prog Tryz.f70.results.toList R) e w = math_bits_Mul_s0 R (e 0) (e 1) w := fun e w => by kernel_rfl
def math_bits_Mul (R : Value → World → Prop) (x0 x1 : Value) (w : World) : Prop := math_bits_Mul_s0 R x0 x1 w
theorem math_bits_Mul_call {R : Value → World → Prop} {x0 x1 : Value} {w : World} (h : math_bits_Mul R x0 x1 w) : callG Tryz.prog 70 #[x0, x1] w R :=
  calls_lift_eq Tryz.mixed Tryz.func70 (args := [x0, x1]) rfl rfl rfl rfl ((math_bits_Mul_s0_eq R) (envOf [x0, x1]) w) (by kernel_rfl) h
/-! math/bits.Mul64 -/
def math_bits_Mul64_s0 (R : Value → World → Prop) (x0 x1 : Value) (w : World) : Prop :=
  qG Tryz.prog (bq .and 138 (.tmp 14) (.const (.int .u64 4294967295)) x0 (.int .u64 4294967295)) w fun t15 =>
  qG Tryz.prog (bq .shr 138 (.tmp 16) (.const (.int .u64 32)) x0 (.int .u64 32)) w fun t17 =>
  qG Tryz.prog (bq .and 138 (.tmp 18) (.const (.int .u64 4294967295)) x1 (.int .u64 4294967295)) w fun t19 =>
  qG Tryz.prog (bq .shr 138 (.tmp 20) (.const (.int .u64 32)) x1 (.int .u64 32)) w fun t21 =>
  qG Tryz.prog (bq .mul 138 (.tmp 22) (.tmp 23) t15 t19) w fun t24 =>
  qG Tryz.prog (bq .mul 138 (.tmp 25) (.tmp 26) t17 t19) w fun t27 =>
  qG Tryz.prog (bq .shr 138 (.tmp 28) (.const (.int .u64 32)) t24 (.int .u64 32)) w fun t29 =>
  qG Tryz.prog (bq .add 138 (.tmp 27) (.tmp 29) t27 t29) w fun t30 =>
  qG Tryz.prog (bq .and 138 (.tmp 31) (.const (.int .u64 4294967295)) t30 (.int .u64 4294967295)) w fun t32 =>
  qG Tryz.prog (bq .shr 138 (.tmp 33) (.const (.int .u64 32)) t30 (.int .u64 32)) w fun t34 =>
  qG Tryz.prog (bq .mul 138 (.tmp 36) (.tmp 37) t15 t21) w fun t38 =>
  qG Tryz.prog (bq .add 138 (.tmp 35) (.tmp 38) t32 t38) w fun t39 =>
  qG Tryz.prog (bq .mul 138 (.tmp 40) (.tmp 41) t17 t21) w fun t42 =>
  qG Tryz.prog (bq .add 138 (.tmp 42) (.tmp 43) t42 t34) w fun t44 =>
  qG Tryz.prog (bq .shr 138 (.tmp 45) (.const (.int .u64 32)) t39 (.int .u64 32)) w fun t46 =>
  qG Tryz.prog (bq .add 138 (.tmp 44) (.tmp 46) t44 t46) w fun t47 =>
  qG Tryz.prog (bq .mul 138 (.tmp 48) (.tmp 49) x0 x1) w fun t50 =>
  R (.tuple #[t47, t50]) w
theorem math_bits_Mul64_s0_eq (R : Value → World → Prop) : ∀ e w, lift Tryz.prog 51 (bodyOf Tryz.f92) (finK Tryz.prog Tryz.f92.results.toList R) e w = math_bits_Mul64_s0 R (e 0) (e 1) w := fun e w => by kernel_rfl
def math_bits_Mul64 (R : Value → World → Prop) (x0 x1 : Value) (w : World) : Prop := math_bits_Mul64_s0 R x0 x1 w
theorem math_bits_Mul64_call {R : Value → World → Prop} {x0 x1 : Value} {w : World} (h : math_bits_Mul64 R x0 x1 w) : callG Tryz.prog 92 #[x0, x1] w R :=
  calls_lift_eq Tryz.mixed Tryz.func92 (args := [x0, x1]) rfl rfl rfl rfl ((math_bits_Mul64_s0_eq R) (envOf [x0, x1]) w) (by kernel_rfl) h
end Go.Proofs

set_option linter.unusedVariables false
set_option linter.unusedSimpArgs false
namespace Go.Proofs
open Go Go.Q
set_option maxRecDepth 100000
/-! quayside/disk.New -/
def disk_New_s0 (R : Value → World → Prop) (x0 : Value) (w : World) : Prop :=
  qG Tryz.prog (bq .lss 3 (.tmp 4) (.const (.int .i64 1)) x0 (.int .i64 1)) w fun t5 =>
  bV t5
  (R (.tuple #[(.pointer none), (.int .i64 1)]) w)
  (qG Tryz.prog (bq .gtr 3 (.tmp 7) (.const (.int .i64 4096)) x0 (.int .i64 4096)) w fun t8 =>
  bV t8
  (R (.tuple #[(.pointer none), (.int .i64 1)]) w)
  ((mkG 93 32 32 (zc Tryz.prog 93) x0 x0 (World.drew w) fun t11 w =>
  mkG 93 32 32 (zc Tryz.prog 93) x0 x0 w fun t13 w =>
  bld [(0, 1), (1, 1), (2, 1), (3, 1), (4, 1)] (zc Tryz.prog 52) #[(0, t11), (1, t13), (3, (.int .i64 (-1)))] fun t14 =>
  newG (Value.cells t14) 52 w fun t15 w =>
  R (.tuple #[t15, (.int .i64 0)]) w) ∧
  (mkG 93 32 32 (zc Tryz.prog 93) x0 x0 (World.drew w) fun t13_1 w =>
  mkG 93 32 32 (zc Tryz.prog 93) x0 x0 w fun t11_1 w =>
  bld [(0, 1), (1, 1), (2, 1), (3, 1), (4, 1)] (zc Tryz.prog 52) #[(0, t11_1), (1, t13_1), (3, (.int .i64 (-1)))] fun t14_1 =>
  newG (Value.cells t14_1) 52 w fun t15_1 w =>
  R (.tuple #[t15_1, (.int .i64 0)]) w)))
theorem disk_New_s0_eq (R : Value → World → Prop) : ∀ e w, lift Tryz.prog 16 (bodyOf Tryz.f4) (finK Tryz.prog Tryz.f4.results.toList R) e w = disk_New_s0 R (e 0) w := fun e w => by kernel_rfl
def disk_New (R : Value → World → Prop) (x0 : Value) (w : World) : Prop := disk_New_s0 R x0 w
theorem disk_New_call {R : Value → World → Prop} {x0 : Value} {w : World} (h : disk_New R x0 w) : callG Tryz.prog 4 #[x0] w R :=
  calls_lift_eq Tryz.mixed Tryz.func4 (args := [x0]) rfl rfl rfl rfl ((disk_New_s0_eq R) (envOf [x0]) w) (by kernel_rfl) h
/-! (*quayside/disk.Disk).Write -/
def disk_Disk_Write_s0 (R : Value → World → Prop) (x0 x1 x2 : Value) (w : World) : Prop :=
  callG Tryz.prog 90 #[x0] w fun t17 w =>
  qG Tryz.prog (Op.unary .not t17) w fun t18 =>
  bV t18
  (R (.int .i64 30) w)
  (nk x0 fun t20 =>
  fa 1 t20 fun t21 =>
  ld1 t21 w fun t22 =>
  ia 32 t22 x1 fun t24 =>
  slA 32 1 t24 none none fun t25 =>
  cp 1 t25 x2 w fun t27 w =>
  nk x0 fun t30 =>
  fa 2 t30 fun t31 =>
  ld1 t31 (World.drew w) fun t32 =>
  nk x0 fun t35 =>
  fa 1 t35 fun t36 =>
  ld1 t36 (World.drew w) fun t37 =>
  ia 32 t37 x1 fun t39 =>
  ldn 32 t39 (World.drew w) fun t40 =>
  bld [(0, 1), (1, 32)] (zc Tryz.prog 107) #[(0, x1), (1, t40)] fun t41 =>
  bsl 107 33 1 (zc Tryz.prog 107) #[(0, t41)] (World.drew w) fun t42 w =>
  ld1 t31 w (fun u => u = t32) ∧
  app 107 33 40 (zc Tryz.prog 107) t32 t42 w fun t43 w =>
  nk x0 fun t44 =>
  fa 2 t44 fun t45 =>
  st1 t45 t43 w fun w =>
  R (.int .i64 0) w)
theorem disk_Disk_Write_s0_eq (R : Value → World → Prop) : ∀ e w, lift Tryz.prog 46 (sub (bodyOf Tryz.f63) [1, 1]) (finK Tryz.prog Tryz.f63.results.toList R) e w = disk_Disk_Write_s0 R (e 0) (e 1) (e 2) w := fun e w => by kernel_rfl
def disk_Disk_Write_s1 (R : Value → World → Prop) (x0 x1 x2 : Value) (w : World) : Prop :=
  callG Tryz.prog 43 #[x0, x1] w fun t9 w =>
  qG Tryz.prog (Op.unary .not t9) w fun t10 =>
  bV t10
  (R (.int .i64 1) w)
  (lenS x2 fun t13 =>
  qG Tryz.prog (bq .neq 3 (.tmp 13) (.const (.int .i64 32)) t13 (.int .i64 32)) w fun t14 =>
  bV t14
  (R (.int .i64 1) w)
  (disk_Disk_Write_s0 R x0 x1 x2 w))
theorem disk_Disk_Write_s1_eq (R : Value → World → Prop) : ∀ e w, lift Tryz.prog 46 (bodyOf Tryz.f63) (finK Tryz.prog Tryz.f63.results.toList R) e w = disk_Disk_Write_s1 R (e 0) (e 1) (e 2) w :=
  segs_eq (l := [(sub (bodyOf Tryz.f63) [0]), (sub (bodyOf Tryz.f63) [1, 0])]) (y := (sub (bodyOf Tryz.f63) [1, 1])) (Y := (fun e w => disk_Disk_Write_s0 R (e 0) (e 1) (e 2) w)) (disk_Disk_Write_s0_eq R) (fun e w => by kernel_rfl)
def disk_Disk_Write (R : Value → World → Prop) (x0 x1 x2 : Value) (w : World) : Prop := disk_Disk_Write_s1 R x0 x1 x2 w
theorem disk_Disk_Write_call {R : Value → World → Prop} {x0 x1 x2 : Value} {w : World} (h : disk_Disk_Write R x0 x1 x2 w) : callG Tryz.prog 63 #[x0, x1, x2] w R :=
  calls_lift_eq Tryz.mixed Tryz.func63 (args := [x0, x1, x2]) rfl rfl rfl rfl ((disk_Disk_Write_s1_eq R) (envOf [x0, x1, x2]) w) (by kernel_rfl) h
/-! (*quayside/disk.Disk).has -/
def disk_Disk_has_s0 (R : Value → World → Prop) (x0 x1 : Value) (w : World) : Prop :=
  qG Tryz.prog (bq .geq 3 (.tmp 5) (.const (.int .i64 0)) x1 (.int .i64 0)) w fun t6 =>
  bV t6
  (callG Tryz.prog 11 #[x0] w fun t10 w =>
  qG Tryz.prog (bq .lss 3 (.tmp 8) (.tmp 10) x1 t10) w fun t11 =>
  R t11 w)
  (R (.bool false) w)
theorem disk_Disk_has_s0_eq (R : Value → World → Prop) : ∀ e w, lift Tryz.prog 13 (bodyOf Tryz.f43) (finK Tryz.prog Tryz.f43.results.toList R) e w = disk_Disk_has_s0 R (e 0) (e 1) w := fun e w => by kernel_rfl
def disk_Disk_has (R : Value → World → Prop) (x0 x1 : Value) (w : World) : Prop := disk_Disk_has_s0 R x0 x1 w
theorem disk_Disk_has_call {R : Value → World → Prop} {x0 x1 : Value} {w : World} (h : disk_Disk_has R x0 x1 w) : callG Tryz.prog 43 #[x0, x1] w R :=
  calls_lift_eq Tryz.mixed Tryz.func43 (args := [x0, x1]) rfl rfl rfl rfl ((disk_Disk_has_s0_eq R) (envOf [x0, x1]) w) (by kernel_rfl) h
/-! (*quayside/disk.Disk).Size -/
def disk_Disk_Size_s0 (R : Value → World → Prop) (x0 : Value) (w : World) : Prop :=
  qG Tryz.prog (bq .eql 23 (.tmp 3) (.const (.pointer none)) x0 (.pointer none)) w fun t4 =>
  bV t4
  (R (.int .i64 0) w)
  (nk x0 fun t6 =>
  fa 1 t6 fun t7 =>
  ld1 t7 w fun t8 =>
  lenL t8 fun t9 =>
  R t9 w)
theorem disk_Disk_Size_s0_eq (R : Value → World → Prop) : ∀ e w, lift Tryz.prog 10 (bodyOf Tryz.f11) (finK Tryz.prog Tryz.f11.results.toList R) e w = disk_Disk_Size_s0 R (e 0) w := fun e w => by kernel_rfl
def disk_Disk_Size (R : Value → World → Prop) (x0 : Value) (w : World) : Prop := disk_Disk_Size_s0 R x0 w
theorem disk_Disk_Size_call {R : Value → World → Prop} {x0 : Value} {w : World} (h : disk_Disk_Size R x0 w) : callG Tryz.prog 11 #[x0] w R :=
  calls_lift_eq Tryz.mixed Tryz.func11 (args := [x0]) rfl rfl rfl rfl ((disk_Disk_Size_s0_eq R) (envOf [x0]) w) (by kernel_rfl) h
/-! (*quayside/disk.Disk).burns -/
def disk_Disk_burns_s0 (R : Value → World → Prop) (x0 : Value) (w : World) : Prop :=
  nk x0 fun t25 =>
  fa 3 t25 fun t26 =>
  ld1 t26 w fun t27 =>
  qG Tryz.prog (bq .gtr 3 (.tmp 27) (.const (.int .i64 0)) t27 (.int .i64 0)) w fun t28 =>
  bV t28
  (nk x0 fun t30 =>
  fa 3 t30 fun t31 =>
  ld1 t31 w fun t32 =>
  qG Tryz.prog (bq .sub 3 (.tmp 32) (.const (.int .i64 1)) t32 (.int .i64 1)) w fun t33 =>
  nk x0 fun t34 =>
  fa 3 t34 fun t35 =>
  st1 t35 t33 w fun w =>
  R (.bool true) w)
  (R (.bool true) w)
theorem disk_Disk_burns_s0_eq (R : Value → World → Prop) : ∀ e w, lift Tryz.prog 36 (sub (bodyOf Tryz.f90) [1, 1]) (finK Tryz.prog Tryz.f90.results.toList R) e w = disk_Disk_burns_s0 R (e 0) w := fun e w => by kernel_rfl
def disk_Disk_burns_s1 (R : Value → World → Prop) (x0 : Value) (w : World) : Prop :=
  nk x0 fun t18 =>
  fa 4 t18 fun t19 =>
  ld1 t19 w fun t20 =>
  bV t20
  (nk x0 fun t22 =>
  fa 3 t22 fun t23 =>
  st1 t23 (.int .i64 (-1)) w fun w =>
  R (.bool false) w)
  (disk_Disk_burns_s0 R x0 w)
theorem disk_Disk_burns_s1_eq (R : Value → World → Prop) : ∀ e w, lift Tryz.prog 36 (sub (bodyOf Tryz.f90) [1, 0, 1]) (seqK (fun e w => disk_Disk_burns_s0 R (e 0) w) (finK Tryz.prog Tryz.f90.results.toList R)) e w = disk_Disk_burns_s1 R (e 0) w := fun e w => by kernel_rfl
def disk_Disk_burns_s2 (R : Value → World → Prop) (x0 : Value) (w : World) : Prop :=
  nk x0 fun t5 =>
  fa 4 t5 fun t6 =>
  ld1 t6 w fun t7 =>
  bV t7
  (nk x0 fun t15 =>
  fa 4 t15 fun t16 =>
  st1 t16 (.bool true) w fun w =>
  disk_Disk_burns_s1 R x0 w)
  (nk x0 fun t10 =>
  fa 3 t10 fun t11 =>
  ld1 t11 w fun t12 =>
  qG Tryz.prog (bq .eql 3 (.tmp 12) (.const (.int .i64 0)) t12 (.int .i64 0)) w fun t13 =>
  nk x0 fun t15_1 =>
  fa 4 t15_1 fun t16_1 =>
  st1 t16_1 t13 w fun w =>
  disk_Disk_burns_s1 R x0 w)
theorem disk_Disk_burns_s2_eq (R : Value → World → Prop) : ∀ e w, lift Tryz.prog 36 (sub (bodyOf Tryz.f90) [1, 0]) (seqK (fun e w => disk_Disk_burns_s0 R (e 0) w) (finK Tryz.prog Tryz.f90.results.toList R)) e w = disk_Disk_burns_s2 R (e 0) w :=
  segs_eq (l := [(sub (bodyOf Tryz.f90) [1, 0, 0])]) (y := (sub (bodyOf Tryz.f90) [1, 0, 1])) (Y := (fun e w => disk_Disk_burns_s1 R (e 0) w)) (disk_Disk_burns_s1_eq R) (fun e w => by kernel_rfl)
def disk_Disk_burns_s3 (R : Value → World → Prop) (x0 : Value) (w : World) : Prop :=
  disk_Disk_burns_s2 R x0 w
theorem disk_Disk_burns_s3_eq (R : Value → World → Prop) : ∀ e w, lift Tryz.prog 36 (bodyOf Tryz.f90) (finK Tryz.prog Tryz.f90.results.toList R) e w = disk_Disk_burns_s3 R (e 0) w :=
  segs_eq (l := [(sub (bodyOf Tryz.f90) [0])]) (y := (sub (bodyOf Tryz.f90) [1])) (Y := (fun e w => disk_Disk_burns_s2 R (e 0) w)) (seq_seg (x := (sub (bodyOf Tryz.f90) [1, 0])) (y := (sub (bodyOf Tryz.f90) [1, 1])) (disk_Disk_burns_s0_eq R) (disk_Disk_burns_s2_eq R)) (fun e w => by kernel_rfl)
def disk_Disk_burns (R : Value → World → Prop) (x0 : Value) (w : World) : Prop := disk_Disk_burns_s3 R x0 w
theorem disk_Disk_burns_call {R : Value → World → Prop} {x0 : Value} {w : World} (h : disk_Disk_burns R x0 w) : callG Tryz.prog 90 #[x0] w R :=
  calls_lift_eq Tryz.mixed Tryz.func90 (args := [x0]) rfl rfl rfl rfl ((disk_Disk_burns_s3_eq R) (envOf [x0]) w) (by kernel_rfl) h
/-! (*quayside/disk.Disk).Flush -/
def disk_Disk_Flush_s0 (R : Value → World → Prop) (x0 : Value) (w : World) : Prop :=
  callG Tryz.prog 64 #[x0] w fun t33 w =>
  R (.int .i64 0) w
theorem disk_Disk_Flush_s0_eq (R : Value → World → Prop) : ∀ e w, lift Tryz.prog 34 (sub (bodyOf Tryz.f62) [1, 1, 1]) (finK Tryz.prog Tryz.f62.results.toList R) e w = disk_Disk_Flush_s0 R (e 0) w := fun e w => by kernel_rfl
def disk_Disk_Flush_b1 (R : Value → World → Prop) (N1 : List Value → World → Prop) (x0 x16 x17 x18 : Value) (w : World) : Prop :=
  qG Tryz.prog (bq .lss 3 (.tmp 18) (.tmp 17) x18 x17) w fun t19 =>
  bV t19
  (ia 33 x16 x18 fun t20 =>
  ldn 33 t20 w fun t21 =>
  newG (zc Tryz.prog 107) 107 w fun t4 w =>
  stn 33 t4 t21 w fun w =>
  nk x0 fun t23 =>
  fa 0 t23 fun t24 =>
  ld1 t24 (World.drew w) fun t25 =>
  fa 0 t4 fun t26 =>
  ld1 t26 (World.drew w) fun t27 =>
  fa 1 t4 fun t28 =>
  ldn 32 t28 (World.drew w) fun t29 =>
  ia 32 t25 t27 fun t30 =>
  stn 32 t30 t29 (World.drew w) fun w =>
  qG Tryz.prog (bq .add 3 (.tmp 18) (.const (.int .i64 1)) x18 (.int .i64 1)) w fun t31 =>
  N1 [x0, x16, x17, t31] w)
  (disk_Disk_Flush_s0 R x0 w)
theorem disk_Disk_Flush_b1_eq (R : Value → World → Prop) (N1 : List Value → World → Prop) : ∀ e w, lift Tryz.prog 34 (sub (bodyOf Tryz.f62) [1, 1, 0, 1, 0, 0]) (seqK (fun e w => N1 [e 0, e 16, e 17, e 18] w) (blockK 1 (seqK (fun e w => disk_Disk_Flush_s0 R (e 0) w) (finK Tryz.prog Tryz.f62.results.toList R)))) e w = disk_Disk_Flush_b1 R N1 (e 0) (e 16) (e 17) (e 18) w := fun e w => by kernel_rfl
def disk_Disk_Flush_L2F (R : Value → World → Prop) (N1 : List Value → World → Prop) (xs : List Value) (w : World) : Prop :=
  match xs with
  | [x0, x16, x17, x18] => disk_Disk_Flush_b1 R N1 x0 x16 x17 x18 w
  | _ => False
def disk_Disk_Flush_L2 (R : Value → World → Prop) (x0 x16 x17 x18 : Value) (w : World) : Prop :=
  ∃ m, loopV (disk_Disk_Flush_L2F R) m [x0, x16, x17, x18] w
theorem disk_Disk_Flush_L2_eq (R : Value → World → Prop) : ∀ e w, lift Tryz.prog 34 (sub (bodyOf Tryz.f62) [1, 1, 0, 1, 0]) (blockK 1 (seqK (fun e w => disk_Disk_Flush_s0 R (e 0) w) (finK Tryz.prog Tryz.f62.results.toList R))) e w = disk_Disk_Flush_L2 R (e 0) (e 16) (e 17) (e 18) w := loop_seg (F := disk_Disk_Flush_L2F R) (sel := fun e => [e 0, e 16, e 17, e 18]) fun N1 => (disk_Disk_Flush_b1_eq R N1)
def disk_Disk_Flush_s3 (R : Value → World → Prop) (x0 : Value) (w : World) : Prop :=
  nk x0 fun t14 =>
  fa 2 t14 fun t15 =>
  ld1 t15 w fun t16 =>
  lenL t16 fun t17 =>
  disk_Disk_Flush_L2 R x0 t16 t17 (.int .i64 0) w
theorem disk_Disk_Flush_s3_eq (R : Value → World → Prop) : ∀ e w, lift Tryz.prog 34 (sub (bodyOf Tryz.f62) [1, 1, 0]) (seqK (fun e w => disk_Disk_Flush_s0 R (e 0) w) (finK Tryz.prog Tryz.f62.results.toList R)) e w = disk_Disk_Flush_s3 R (e 0) w :=
  segs_eq (l := [(sub (bodyOf Tryz.f62) [1, 1, 0, 0])]) (y := (sub (bodyOf Tryz.f62) [1, 1, 0, 1])) (Y := (fun e w => disk_Disk_Flush_L2 R (e 0) (e 16) (e 17) (e 18) w)) (disk_Disk_Flush_L2_eq R) (fun e w => by kernel_rfl)
def disk_Disk_Flush_s4 (R : Value → World → Prop) (x0 : Value) (w : World) : Prop :=
  callG Tryz.prog 11 #[x0] w fun t7 w =>
  qG Tryz.prog (bq .eql 3 (.tmp 7) (.const (.int .i64 0)) t7 (.int .i64 0)) w fun t8 =>
  bV t8
  (R (.int .i64 1) w)
  (callG Tryz.prog 90 #[x0] w fun t11 w =>
  qG Tryz.prog (Op.unary .not t11) w fun t12 =>
  bV t12
  (R (.int .i64 30) w)
  (disk_Disk_Flush_s3 R x0 w))
theorem disk_Disk_Flush_s4_eq (R : Value → World → Prop) : ∀ e w, lift Tryz.prog 34 (bodyOf Tryz.f62) (finK Tryz.prog Tryz.f62.results.toList R) e w = disk_Disk_Flush_s4 R (e 0) w :=
  segs_eq (l := [(sub (bodyOf Tryz.f62) [0]), (sub (bodyOf Tryz.f62) [1, 0])]) (y := (sub (bodyOf Tryz.f62) [1, 1])) (Y := (fun e w => disk_Disk_Flush_s3 R (e 0) w)) (seq_seg (x := (sub (bodyOf Tryz.f62) [1, 1, 0])) (y := (sub (bodyOf Tryz.f62) [1, 1, 1])) (disk_Disk_Flush_s0_eq R) (disk_Disk_Flush_s3_eq R)) (fun e w => by kernel_rfl)
def disk_Disk_Flush (R : Value → World → Prop) (x0 : Value) (w : World) : Prop := disk_Disk_Flush_s4 R x0 w
theorem disk_Disk_Flush_call {R : Value → World → Prop} {x0 : Value} {w : World} (h : disk_Disk_Flush R x0 w) : callG Tryz.prog 62 #[x0] w R :=
  calls_lift_eq Tryz.mixed Tryz.func62 (args := [x0]) rfl rfl rfl rfl ((disk_Disk_Flush_s4_eq R) (envOf [x0]) w) (by kernel_rfl) h
/-! (*quayside/disk.Disk).settles -/
def disk_Disk_settles_s0 (R : Value → World → Prop) (x0 : Value) (w : World) : Prop :=
  nk x0 fun t3 =>
  fa 2 t3 fun t4 =>
  ld1 t4 w fun t5 =>
  clr 33 (zc Tryz.prog 107) t5 w fun _ w =>
  nk x0 fun t8 =>
  fa 2 t8 fun t9 =>
  ld1 t9 w fun t10 =>
  slL 33 t10 none (some (.int .i64 0)) fun t11 =>
  nk x0 fun t12 =>
  fa 2 t12 fun t13 =>
  st1 t13 t11 w fun w =>
  R (.tuple #[]) w
theorem disk_Disk_settles_s0_eq (R : Value → World → Prop) : ∀ e w, lift Tryz.prog 14 (bodyOf Tryz.f64) (finK Tryz.prog Tryz.f64.results.toList R) e w = disk_Disk_settles_s0 R (e 0) w := fun e w => by kernel_rfl
def disk_Disk_settles (R : Value → World → Prop) (x0 : Value) (w : World) : Prop := disk_Disk_settles_s0 R x0 w
theorem disk_Disk_settles_call {R : Value → World → Prop} {x0 : Value} {w : World} (h : disk_Disk_settles R x0 w) : callG Tryz.prog 64 #[x0] w R :=
  calls_lift_eq Tryz.mixed Tryz.func64 (args := [x0]) rfl rfl rfl rfl ((disk_Disk_settles_s0_eq R) (envOf [x0]) w) (by kernel_rfl) h
/-! (*quayside/disk.Disk).Crash -/
def disk_Disk_Crash_s0 (R : Value → World → Prop) (x0 : Value) (w : World) : Prop :=
  nk x0 fun t45 =>
  fa 1 t45 fun t46 =>
  ld1 t46 (World.drew w) fun t47 =>
  nk x0 fun t49 =>
  fa 0 t49 fun t50 =>
  ld1 t50 (World.drew w) fun t51 =>
  cp 32 t47 t51 (World.drew w) fun t52 w =>
  callG Tryz.prog 64 #[x0] w fun t54 w =>
  nk x0 fun t57 =>
  fa 4 t57 fun t58 =>
  st1 t58 (.bool false) w fun w =>
  nk x0 fun t59 =>
  fa 3 t59 fun t60 =>
  st1 t60 (.int .i64 (-1)) w fun w =>
  R (.int .i64 0) w
theorem disk_Disk_Crash_s0_eq (R : Value → World → Prop) : ∀ e w, lift Tryz.prog 61 (sub (bodyOf Tryz.f24) [1, 1, 1]) (finK Tryz.prog Tryz.f24.results.toList R) e w = disk_Disk_Crash_s0 R (e 0) w := fun e w => by kernel_rfl
def disk_Disk_Crash_b1 (R : Value → World → Prop) (N1 : List Value → World → Prop) (x0 x1 x14 x15 x16 : Value) (w : World) : Prop :=
  qG Tryz.prog (bq .lss 3 (.tmp 16) (.tmp 15) x16 x15) w fun t17 =>
  bV t17
  (ia 33 x14 x16 fun t19 =>
  ldn 33 t19 w fun t20 =>
  newG (zc Tryz.prog 107) 107 w fun t6 w =>
  stn 33 t6 t20 w fun w =>
  lenL x1 fun t23 =>
  qG Tryz.prog (bq .lss 3 (.tmp 21) (.tmp 23) x16 t23) w fun t24 =>
  bV t24
  (ia 1 x1 x16 fun t27 =>
  ld1 t27 w fun t28 =>
  qG Tryz.prog (Builtin.min_ #[3, 3] 3 #[t28, (.int .i64 32)]) w fun t29 =>
  qG Tryz.prog (Builtin.max_ #[3, 3] 3 #[(.int .i64 0), t29]) w fun t30 =>
  nk x0 fun t32 =>
  fa 0 t32 fun t33 =>
  ld1 t33 (World.drew w) fun t34 =>
  fa 0 t6 fun t35 =>
  ld1 t35 (World.drew w) fun t36 =>
  ia 32 t34 t36 fun t37 =>
  slA 32 1 t37 none (some t30) fun t39 =>
  fa 1 t6 fun t40 =>
  slA 32 1 t40 none none fun t41 =>
  cp 1 t39 t41 (World.drew w) fun t42 w =>
  qG Tryz.prog (bq .add 3 (.tmp 16) (.const (.int .i64 1)) x16 (.int .i64 1)) w fun t43 =>
  N1 [x0, x1, x14, x15, t43] w)
  (qG Tryz.prog (bq .add 3 (.tmp 16) (.const (.int .i64 1)) x16 (.int .i64 1)) w fun t43_1 =>
  N1 [x0, x1, x14, x15, t43_1] w))
  (disk_Disk_Crash_s0 R x0 w)
theorem disk_Disk_Crash_b1_eq (R : Value → World → Prop) (N1 : List Value → World → Prop) : ∀ e w, lift Tryz.prog 61 (sub (bodyOf Tryz.f24) [1, 1, 0, 1, 0, 0]) (seqK (fun e w => N1 [e 0, e 1, e 14, e 15, e 16] w) (blockK 0 (seqK (fun e w => disk_Disk_Crash_s0 R (e 0) w) (finK Tryz.prog Tryz.f24.results.toList R)))) e w = disk_Disk_Crash_b1 R N1 (e 0) (e 1) (e 14) (e 15) (e 16) w := fun e w => by kernel_rfl
def disk_Disk_Crash_L2F (R : Value → World → Prop) (N1 : List Value → World → Prop) (xs : List Value) (w : World) : Prop :=
  match xs with
  | [x0, x1, x14, x15, x16] => disk_Disk_Crash_b1 R N1 x0 x1 x14 x15 x16 w
  | _ => False
def disk_Disk_Crash_L2 (R : Value → World → Prop) (x0 x1 x14 x15 x16 : Value) (w : World) : Prop :=
  ∃ m, loopV (disk_Disk_Crash_L2F R) m [x0, x1, x14, x15, x16] w
theorem disk_Disk_Crash_L2_eq (R : Value → World → Prop) : ∀ e w, lift Tryz.prog 61 (sub (bodyOf Tryz.f24) [1, 1, 0, 1, 0]) (blockK 0 (seqK (fun e w => disk_Disk_Crash_s0 R (e 0) w) (finK Tryz.prog Tryz.f24.results.toList R))) e w = disk_Disk_Crash_L2 R (e 0) (e 1) (e 14) (e 15) (e 16) w := loop_seg (F := disk_Disk_Crash_L2F R) (sel := fun e => [e 0, e 1, e 14, e 15, e 16]) fun N1 => (disk_Disk_Crash_b1_eq R N1)
def disk_Disk_Crash_s3 (R : Value → World → Prop) (x0 x1 : Value) (w : World) : Prop :=
  nk x0 fun t12 =>
  fa 2 t12 fun t13 =>
  ld1 t13 w fun t14 =>
  lenL t14 fun t15 =>
  disk_Disk_Crash_L2 R x0 x1 t14 t15 (.int .i64 0) w
theorem disk_Disk_Crash_s3_eq (R : Value → World → Prop) : ∀ e w, lift Tryz.prog 61 (sub (bodyOf Tryz.f24) [1, 1, 0]) (seqK (fun e w => disk_Disk_Crash_s0 R (e 0) w) (finK Tryz.prog Tryz.f24.results.toList R)) e w = disk_Disk_Crash_s3 R (e 0) (e 1) w :=
  segs_eq (l := [(sub (bodyOf Tryz.f24) [1, 1, 0, 0])]) (y := (sub (bodyOf Tryz.f24) [1, 1, 0, 1])) (Y := (fun e w => disk_Disk_Crash_L2 R (e 0) (e 1) (e 14) (e 15) (e 16) w)) (disk_Disk_Crash_L2_eq R) (fun e w => by kernel_rfl)
def disk_Disk_Crash_s4 (R : Value → World → Prop) (x0 x1 : Value) (w : World) : Prop :=
  callG Tryz.prog 11 #[x0] w fun t9 w =>
  qG Tryz.prog (bq .eql 3 (.tmp 9) (.const (.int .i64 0)) t9 (.int .i64 0)) w fun t10 =>
  bV t10
  (R (.int .i64 1) w)
  (disk_Disk_Crash_s3 R x0 x1 w)
theorem disk_Disk_Crash_s4_eq (R : Value → World → Prop) : ∀ e w, lift Tryz.prog 61 (bodyOf Tryz.f24) (finK Tryz.prog Tryz.f24.results.toList R) e w = disk_Disk_Crash_s4 R (e 0) (e 1) w :=
  segs_eq (l := [(sub (bodyOf Tryz.f24) [0]), (sub (bodyOf Tryz.f24) [1, 0])]) (y := (sub (bodyOf Tryz.f24) [1, 1])) (Y := (fun e w => disk_Disk_Crash_s3 R (e 0) (e 1) w)) (seq_seg (x := (sub (bodyOf Tryz.f24) [1, 1, 0])) (y := (sub (bodyOf Tryz.f24) [1, 1, 1])) (disk_Disk_Crash_s0_eq R) (disk_Disk_Crash_s3_eq R)) (fun e w => by kernel_rfl)
def disk_Disk_Crash (R : Value → World → Prop) (x0 x1 : Value) (w : World) : Prop := disk_Disk_Crash_s4 R x0 x1 w
theorem disk_Disk_Crash_call {R : Value → World → Prop} {x0 x1 : Value} {w : World} (h : disk_Disk_Crash R x0 x1 w) : callG Tryz.prog 24 #[x0, x1] w R :=
  calls_lift_eq Tryz.mixed Tryz.func24 (args := [x0, x1]) rfl rfl rfl rfl ((disk_Disk_Crash_s4_eq R) (envOf [x0, x1]) w) (by kernel_rfl) h
/-! (*quayside/disk.Disk).Read -/
def disk_Disk_Read_s0 (R : Value → World → Prop) (x0 x1 : Value) (w : World) : Prop :=
  callG Tryz.prog 43 #[x0, x1] w fun t9 w =>
  qG Tryz.prog (Op.unary .not t9) w fun t10 =>
  bV t10
  (R (.tuple #[(.string ⟨#[]⟩), (.int .i64 1)]) w)
  (nk x0 fun t13 =>
  fa 4 t13 fun t14 =>
  ld1 t14 w fun t15 =>
  bV t15
  (R (.tuple #[(.string ⟨#[]⟩), (.int .i64 30)]) w)
  (nk x0 fun t17 =>
  fa 1 t17 fun t18 =>
  ld1 t18 w fun t19 =>
  ia 32 t19 x1 fun t21 =>
  slA 32 1 t21 none none fun t22 =>
  cvBS t22 w fun t23 =>
  R (.tuple #[t23, (.int .i64 0)]) w))
theorem disk_Disk_Read_s0_eq (R : Value → World → Prop) : ∀ e w, lift Tryz.prog 24 (bodyOf Tryz.f13) (finK Tryz.prog Tryz.f13.results.toList R) e w = disk_Disk_Read_s0 R (e 0) (e 1) w := fun e w => by kernel_rfl
def disk_Disk_Read (R : Value → World → Prop) (x0 x1 : Value) (w : World) : Prop := disk_Disk_Read_s0 R x0 x1 w
theorem disk_Disk_Read_call {R : Value → World → Prop} {x0 x1 : Value} {w : World} (h : disk_Disk_Read R x0 x1 w) : callG Tryz.prog 13 #[x0, x1] w R :=
  calls_lift_eq Tryz.mixed Tryz.func13 (args := [x0, x1]) rfl rfl rfl rfl ((disk_Disk_Read_s0_eq R) (envOf [x0, x1]) w) (by kernel_rfl) h
/-! (*quayside/disk.Disk).Fuse -/
def disk_Disk_Fuse_s0 (R : Value → World → Prop) (x0 x1 : Value) (w : World) : Prop :=
  callG Tryz.prog 11 #[x0] w fun t6 w =>
  qG Tryz.prog (bq .eql 3 (.tmp 6) (.const (.int .i64 0)) t6 (.int .i64 0)) w fun t7 =>
  bV t7
  (R (.int .i64 1) w)
  (qG Tryz.prog (Builtin.max_ #[3, 3] 3 #[x1, (.int .i64 (-1))]) w fun t10 =>
  nk x0 fun t11 =>
  fa 3 t11 fun t12 =>
  st1 t12 t10 w fun w =>
  R (.int .i64 0) w)
theorem disk_Disk_Fuse_s0_eq (R : Value → World → Prop) : ∀ e w, lift Tryz.prog 13 (bodyOf Tryz.f40) (finK Tryz.prog Tryz.f40.results.toList R) e w = disk_Disk_Fuse_s0 R (e 0) (e 1) w := fun e w => by kernel_rfl
def disk_Disk_Fuse (R : Value → World → Prop) (x0 x1 : Value) (w : World) : Prop := disk_Disk_Fuse_s0 R x0 x1 w
theorem disk_Disk_Fuse_call {R : Value → World → Prop} {x0 x1 : Value} {w : World} (h : disk_Disk_Fuse R x0 x1 w) : callG Tryz.prog 40 #[x0, x1] w R :=
  calls_lift_eq Tryz.mixed Tryz.func40 (args := [x0, x1]) rfl rfl rfl rfl ((disk_Disk_Fuse_s0_eq R) (envOf [x0, x1]) w) (by kernel_rfl) h
/-! (*quayside/disk.Disk).Off -/
def disk_Disk_Off_s0 (R : Value → World → Prop) (x0 : Value) (w : World) : Prop :=
  qG Tryz.prog (bq .neq 23 (.tmp 3) (.const (.pointer none)) x0 (.pointer none)) w fun t4 =>
  bV t4
  (nk x0 fun t7 =>
  fa 4 t7 fun t8 =>
  ld1 t8 w fun t9 =>
  R t9 w)
  (R (.bool false) w)
theorem disk_Disk_Off_s0_eq (R : Value → World → Prop) : ∀ e w, lift Tryz.prog 11 (bodyOf Tryz.f12) (finK Tryz.prog Tryz.f12.results.toList R) e w = disk_Disk_Off_s0 R (e 0) w := fun e w => by kernel_rfl
def disk_Disk_Off (R : Value → World → Prop) (x0 : Value) (w : World) : Prop := disk_Disk_Off_s0 R x0 w
theorem disk_Disk_Off_call {R : Value → World → Prop} {x0 : Value} {w : World} (h : disk_Disk_Off R x0 w) : callG Tryz.prog 12 #[x0] w R :=
  calls_lift_eq Tryz.mixed Tryz.func12 (args := [x0]) rfl rfl rfl rfl ((disk_Disk_Off_s0_eq R) (envOf [x0]) w) (by kernel_rfl) h
end Go.Proofs

