/- Part of the proof (K1): an engine, rules or contracts of the functions; it states nothing of the claim by itself. -/
import Derived.Test.YtnmooeoajgckmaaK0
import Derived.Below
import Derived.Laws.Append
import Derived.Test.YtnmooeoajgckmaaProg
import Derived.KernelRfl

/- Rules for the printed forms: what an operation comes to when its operands are known; worlds; what is kept. -/
set_option linter.unusedVariables false
set_option linter.unusedSimpArgs false
namespace Go.Q
variable {P : Program}

theorem qG_of {s : Sem Value} {w : World} {v : Value} {K : Value → Prop} (h : s.run P w = .ok v w) : qG P s w K = K v := by
  apply propext
  constructor
  · rintro ⟨v', hr, hk⟩
    rw [h] at hr
    injection hr with h1
    subst h1; exact hk
  · exact fun hk => ⟨v, h, hk⟩
theorem stb_of {s : Sem Value} {w : World} {v u : Value} (h : s.run P w = .ok v w) : stb P s u w = (v = u) := by
  unfold stb; rw [h]; simp

/-! ### numbers -/
section
variable {T : TypeId} {xo yo : Operand} {k : IntKind} {a b : Int} {w : World} {K : Value → Prop} {u : Value}
theorem run_bq_int {op : BinOp} {s : Sem Value} (hop : ∀ w : World, (binOp op T (.int k a) (.int k b)).run P w = s.run P w) : (bq op T xo yo (.int k a) (.int k b)).run P w = s.run P w := by
  cases op <;> exact hop w
theorem run_add : (bq .add T xo yo (.int k a) (.int k b)).run P w = .ok (.int k (k.wrap (a + b))) w := run_bq_int (s := .pure _) fun w => by simp [binOp, Op.intArith]
theorem run_sub : (bq .sub T xo yo (.int k a) (.int k b)).run P w = .ok (.int k (k.wrap (a - b))) w := run_bq_int (s := .pure _) fun w => by simp [binOp, Op.intArith]
theorem run_mul : (bq .mul T xo yo (.int k a) (.int k b)).run P w = .ok (.int k (k.wrap (a * b))) w := run_bq_int (s := .pure _) fun w => by simp [binOp, Op.intArith]
theorem run_lss : (bq .lss T xo yo (.int k a) (.int k b)).run P w = .ok (.bool (decide (a < b))) w := run_bq_int (s := .pure _) fun w => by simp [binOp, Op.intCmp]
theorem run_leq : (bq .leq T xo yo (.int k a) (.int k b)).run P w = .ok (.bool (decide (a ≤ b))) w := run_bq_int (s := .pure _) fun w => by simp [binOp, Op.intCmp]
theorem run_gtr : (bq .gtr T xo yo (.int k a) (.int k b)).run P w = .ok (.bool (decide (a > b))) w := run_bq_int (s := .pure _) fun w => by simp [binOp, Op.intCmp]
theorem run_geq : (bq .geq T xo yo (.int k a) (.int k b)).run P w = .ok (.bool (decide (a ≥ b))) w := run_bq_int (s := .pure _) fun w => by simp [binOp, Op.intCmp]
theorem run_eql : (bq .eql T xo yo (.int k a) (.int k b)).run P w = .ok (.bool (decide (a = b))) w := run_bq_int (s := .pure _) fun w => by simp [binOp, Op.intCmp]; rfl
theorem run_neq : (bq .neq T xo yo (.int k a) (.int k b)).run P w = .ok (.bool (decide (a ≠ b))) w := run_bq_int (s := .pure _) fun w => by simp [binOp, Op.intCmp, bne]; rfl
@[simp] theorem bq_add : qG P (bq .add T xo yo (.int k a) (.int k b)) w K = K (.int k (k.wrap (a + b))) := qG_of run_add
@[simp] theorem bq_sub : qG P (bq .sub T xo yo (.int k a) (.int k b)) w K = K (.int k (k.wrap (a - b))) := qG_of run_sub
@[simp] theorem bq_mul : qG P (bq .mul T xo yo (.int k a) (.int k b)) w K = K (.int k (k.wrap (a * b))) := qG_of run_mul
@[simp] theorem bq_lss : qG P (bq .lss T xo yo (.int k a) (.int k b)) w K = K (.bool (decide (a < b))) := qG_of run_lss
@[simp] theorem bq_leq : qG P (bq .leq T xo yo (.int k a) (.int k b)) w K = K (.bool (decide (a ≤ b))) := qG_of run_leq
@[simp] theorem bq_gtr : qG P (bq .gtr T xo yo (.int k a) (.int k b)) w K = K (.bool (decide (a > b))) := qG_of run_gtr
@[simp] theorem bq_geq : qG P (bq .geq T xo yo (.int k a) (.int k b)) w K = K (.bool (decide (a ≥ b))) := qG_of run_geq
@[simp] theorem bq_eql : qG P (bq .eql T xo yo (.int k a) (.int k b)) w K = K (.bool (decide (a = b))) := qG_of run_eql
@[simp] theorem bq_neq : qG P (bq .neq T xo yo (.int k a) (.int k b)) w K = K (.bool (decide (a ≠ b))) := qG_of run_neq
@[simp] theorem stb_add : stb P (bq .add T xo yo (.int k a) (.int k b)) u w = (.int k (k.wrap (a + b)) = u) := stb_of run_add
@[simp] theorem stb_sub : stb P (bq .sub T xo yo (.int k a) (.int k b)) u w = (.int k (k.wrap (a - b)) = u) := stb_of run_sub
@[simp] theorem stb_mul : stb P (bq .mul T xo yo (.int k a) (.int k b)) u w = (.int k (k.wrap (a * b)) = u) := stb_of run_mul
@[simp] theorem stb_lss : stb P (bq .lss T xo yo (.int k a) (.int k b)) u w = (.bool (decide (a < b)) = u) := stb_of run_lss
@[simp] theorem stb_eql : stb P (bq .eql T xo yo (.int k a) (.int k b)) u w = (.bool (decide (a = b)) = u) := stb_of run_eql
@[simp] theorem stb_neq : stb P (bq .neq T xo yo (.int k a) (.int k b)) u w = (.bool (decide (a ≠ b)) = u) := stb_of run_neq
end
theorem run_not {b : Bool} {w : World} : (Op.unary .not (.bool b)).run P w = .ok (.bool !b) w := rfl
@[simp] theorem un_not {b : Bool} {w : World} {K : Value → Prop} : qG P (Op.unary .not (.bool b)) w K = K (.bool !b) := qG_of run_not
@[simp] theorem stb_not {b : Bool} {w : World} {u : Value} : stb P (Op.unary .not (.bool b)) u w = (.bool (!b) = u) := stb_of run_not
theorem run_extract {vs : Array Value} {i : Nat} {v : Value} {w : World} (h : vs[i]? = some v) : (Instr.extract (.tuple vs) i).run P w = .ok v w := by simp [Instr.extract, h]
@[simp] theorem ex0 {a b : Value} {w : World} {K : Value → Prop} : qG P (Instr.extract (.tuple #[a, b]) 0) w K = K a := qG_of (run_extract rfl)
@[simp] theorem ex1 {a b : Value} {w : World} {K : Value → Prop} : qG P (Instr.extract (.tuple #[a, b]) 1) w K = K b := qG_of (run_extract rfl)
@[simp] theorem ex30 {a b c : Value} {w : World} {K : Value → Prop} : qG P (Instr.extract (.tuple #[a, b, c]) 0) w K = K a := qG_of (run_extract rfl)
@[simp] theorem ex31 {a b c : Value} {w : World} {K : Value → Prop} : qG P (Instr.extract (.tuple #[a, b, c]) 1) w K = K b := qG_of (run_extract rfl)
@[simp] theorem ex32 {a b c : Value} {w : World} {K : Value → Prop} : qG P (Instr.extract (.tuple #[a, b, c]) 2) w K = K c := qG_of (run_extract rfl)
@[simp] theorem stb_ex0 {a b u : Value} {w : World} : stb P (Instr.extract (.tuple #[a, b]) 0) u w = (a = u) := stb_of (run_extract rfl)
@[simp] theorem stb_ex1 {a b u : Value} {w : World} : stb P (Instr.extract (.tuple #[a, b]) 1) u w = (b = u) := stb_of (run_extract rfl)
@[simp] theorem stb_ex30 {a b c u : Value} {w : World} : stb P (Instr.extract (.tuple #[a, b, c]) 0) u w = (a = u) := stb_of (run_extract rfl)
@[simp] theorem stb_ex31 {a b c u : Value} {w : World} : stb P (Instr.extract (.tuple #[a, b, c]) 1) u w = (b = u) := stb_of (run_extract rfl)
@[simp] theorem stb_ex32 {a b c u : Value} {w : World} : stb P (Instr.extract (.tuple #[a, b, c]) 2) u w = (c = u) := stb_of (run_extract rfl)
theorem run_max {ts : Array TypeId} {t : TypeId} {k : IntKind} {a b : Int} {w : World} : (Builtin.max_ ts t #[.int k a, .int k b]).run P w = .ok (.int k (max a b)) w := by
  simp only [Builtin.max_, List.foldlM_cons, List.foldlM_nil, Builtin.max2, pure_bind]
  show Result.ok _ _ = _
  congr 2; omega
theorem run_min {ts : Array TypeId} {t : TypeId} {k : IntKind} {a b : Int} {w : World} : (Builtin.min_ ts t #[.int k a, .int k b]).run P w = .ok (.int k (min a b)) w := by
  simp only [Builtin.min_, List.foldlM_cons, List.foldlM_nil, Builtin.min2, pure_bind]
  show Result.ok _ _ = _
  congr 2; omega
@[simp] theorem q_max {ts : Array TypeId} {t : TypeId} {k : IntKind} {a b : Int} {w : World} {K : Value → Prop} : qG P (Builtin.max_ ts t #[.int k a, .int k b]) w K = K (.int k (max a b)) := qG_of run_max
@[simp] theorem q_min {ts : Array TypeId} {t : TypeId} {k : IntKind} {a b : Int} {w : World} {K : Value → Prop} : qG P (Builtin.min_ ts t #[.int k a, .int k b]) w K = K (.int k (min a b)) := qG_of run_min

/-! ### strings, bools, pointers against nil -/
theorem toList_beq (s t : ByteArray) : (s.toList == t.toList) = decide (s = t) := by
  by_cases h : s = t
  · subst h; simp
  · have : s.toList ≠ t.toList := by
      intro h'
      apply h
      rw [ByteArray.toList_eq, ByteArray.toList_eq] at h'
      cases s; cases t
      simp only [ByteArray.mk.injEq]
      exact Array.toList_inj.1 h'
    rw [decide_eq_false h]
    exact beq_false_of_ne this
def sLt (s t : ByteArray) : Bool := Op.bytesLess s.toList t.toList
section
variable {T : TypeId} {xo yo : Operand} {a b : ByteArray} {w : World} {K : Value → Prop} {u : Value}
theorem run_bq_str {op : BinOp} {s : Sem Value} (hop : ∀ w : World, (binOp op T (.string a) (.string b)).run P w = s.run P w) : (bq op T xo yo (.string a) (.string b)).run P w = s.run P w := by
  cases op <;> exact hop w
theorem run_seql : (bq .eql T xo yo (.string a) (.string b)).run P w = .ok (.bool (decide (a = b))) w := run_bq_str (s := .pure _) fun w => by simp only [binOp, Op.stringOp, toList_beq]; rfl
theorem run_sneq : (bq .neq T xo yo (.string a) (.string b)).run P w = .ok (.bool (!decide (a = b))) w := run_bq_str (s := .pure _) fun w => by simp only [binOp, Op.stringOp, toList_beq]; rfl
theorem run_slss : (bq .lss T xo yo (.string a) (.string b)).run P w = .ok (.bool (sLt a b)) w := run_bq_str (s := .pure _) fun _ => rfl
theorem run_sadd (h : a.size + b.size < 9223372036854775808) : (bq .add T xo yo (.string a) (.string b)).run P w = .ok (.string (a ++ b)) w := run_bq_str (s := .pure _) fun w => by
  have : ¬ (((a.size + b.size : Nat) : Int) > IntKind.i64.max) := by
    have : IntKind.i64.max = 9223372036854775807 := by decide
    rw [this]; omega
  simp only [binOp, Op.stringOp, this, if_false]; rfl
@[simp] theorem bq_seql : qG P (bq .eql T xo yo (.string a) (.string b)) w K = K (.bool (decide (a = b))) := qG_of run_seql
@[simp] theorem bq_sneq : qG P (bq .neq T xo yo (.string a) (.string b)) w K = K (.bool (!decide (a = b))) := qG_of run_sneq
@[simp] theorem bq_slss : qG P (bq .lss T xo yo (.string a) (.string b)) w K = K (.bool (sLt a b)) := qG_of run_slss
theorem bq_sadd (h : a.size + b.size < 9223372036854775808) : qG P (bq .add T xo yo (.string a) (.string b)) w K = K (.string (a ++ b)) := qG_of (run_sadd h)
@[simp] theorem stb_seql : stb P (bq .eql T xo yo (.string a) (.string b)) u w = (.bool (decide (a = b)) = u) := stb_of run_seql
@[simp] theorem stb_sneq : stb P (bq .neq T xo yo (.string a) (.string b)) u w = (.bool (!decide (a = b)) = u) := stb_of run_sneq
end
def isPtr (P : Program) (T : TypeId) : Bool := match P.underlying T with | some (.pointer _) => true | _ => false
def isBoolT (P : Program) (T : TypeId) : Bool := match P.underlying T with | some .bool => true | _ => false
def isSl (P : Program) (T : TypeId) : Bool := match P.underlying T with | some (.slice _) => true | _ => false
theorem run_equal1 {T : TypeId} {x y : Value} {w : World} {b : Bool} (h : (Op.equal T x y).run P w = .ok b w) (hx : ∀ c d, ¬ (x = .agg c ∧ y = .agg d)) (hn : ¬ (x = .nilIface ∧ y = .nilIface)) (xo yo : Operand)
    (he : binOp .eql T x y = (do pure (.bool (← Op.equal T x y)))) (hne : binOp .neq T x y = (do pure (.bool (!(← Op.equal T x y))))) :
    (bq .eql T xo yo x y).run P w = .ok (.bool b) w ∧ (bq .neq T xo yo x y).run P w = .ok (.bool !b) w := by
  have hg : ∀ op, op = .eql ∨ op = .neq → (eqGuard op T xo yo x y).run P w = .ok () w := by
    rintro op (rfl | rfl)
    all_goals
      unfold eqGuard
      simp only [Bool.not_true, Bool.false_eq_true, if_false]
      split
      · exact absurd ⟨rfl, rfl⟩ hn
      · exact absurd ⟨rfl, rfl⟩ (hx _ _)
      · rfl
  constructor
  · unfold bq; rw [Sem.run_bind, hg _ (.inl rfl)]; simp only [Result.andThen_ok, he, Sem.run_bind, h]; rfl
  · unfold bq; rw [Sem.run_bind, hg _ (.inr rfl)]; simp only [Result.andThen_ok, hne, Sem.run_bind, h]; rfl
section
variable {T : TypeId} {xo yo : Operand} {w : World} {K : Value → Prop} {u : Value}
theorem run_pnil (a : Option Addr) (hT : isPtr P T = true) : (bq .eql T xo yo (.pointer a) (.pointer none)).run P w = .ok (.bool a.isNone) w ∧ (bq .neq T xo yo (.pointer a) (.pointer none)).run P w = .ok (.bool !a.isNone) w := by
  unfold isPtr at hT
  split at hT
  · rename_i e hu
    refine run_equal1 ?_ (fun _ _ h => by cases h.1) (fun h => by cases h.1) xo yo (by cases a <;> rfl) (by cases a <;> rfl)
    unfold Op.equal Op.maxDepth Op.equalIn
    simp only [Sem.run_bind, run_underlying hu, Result.andThen_ok]
    cases a <;> rfl
  · cases hT
@[simp] theorem bq_peql (a : Option Addr) (hT : isPtr P T = true) : qG P (bq .eql T xo yo (.pointer a) (.pointer none)) w K = K (.bool a.isNone) := qG_of (run_pnil a hT).1
@[simp] theorem bq_pneq (a : Option Addr) (hT : isPtr P T = true) : qG P (bq .neq T xo yo (.pointer a) (.pointer none)) w K = K (.bool !a.isNone) := qG_of (run_pnil a hT).2
@[simp] theorem stb_peql (a : Option Addr) (hT : isPtr P T = true) : stb P (bq .eql T xo yo (.pointer a) (.pointer none)) u w = (.bool a.isNone = u) := stb_of (run_pnil a hT).1
@[simp] theorem stb_pneq (a : Option Addr) (hT : isPtr P T = true) : stb P (bq .neq T xo yo (.pointer a) (.pointer none)) u w = (.bool (!a.isNone) = u) := stb_of (run_pnil a hT).2
theorem run_bools (a b : Bool) (hT : isBoolT P T = true) : (bq .eql T xo yo (.bool a) (.bool b)).run P w = .ok (.bool (a == b)) w ∧ (bq .neq T xo yo (.bool a) (.bool b)).run P w = .ok (.bool !(a == b)) w := by
  unfold isBoolT at hT
  split at hT
  · rename_i hu
    refine run_equal1 ?_ (fun _ _ h => by cases h.1) (fun h => by cases h.1) xo yo rfl rfl
    unfold Op.equal Op.maxDepth Op.equalIn
    simp only [Sem.run_bind, run_underlying hu, Result.andThen_ok]
    rfl
  · cases hT
@[simp] theorem bq_beql (a b : Bool) (hT : isBoolT P T = true) : qG P (bq .eql T xo yo (.bool a) (.bool b)) w K = K (.bool (a == b)) := qG_of (run_bools a b hT).1
@[simp] theorem bq_bneq (a b : Bool) (hT : isBoolT P T = true) : qG P (bq .neq T xo yo (.bool a) (.bool b)) w K = K (.bool !(a == b)) := qG_of (run_bools a b hT).2
@[simp] theorem stb_beql (a b : Bool) (hT : isBoolT P T = true) : stb P (bq .eql T xo yo (.bool a) (.bool b)) u w = (.bool (a == b) = u) := stb_of (run_bools a b hT).1
@[simp] theorem stb_bneq (a b : Bool) (hT : isBoolT P T = true) : stb P (bq .neq T xo yo (.bool a) (.bool b)) u w = (.bool (!(a == b)) = u) := stb_of (run_bools a b hT).2
theorem run_slnil (a : Option Addr) (n c n' c' : Nat) (hT : isSl P T = true) : (bq .eql T xo yo (.slice a n c) (.slice none n' c')).run P w = .ok (.bool a.isNone) w ∧ (bq .neq T xo yo (.slice a n c) (.slice none n' c')).run P w = .ok (.bool !a.isNone) w := by
  unfold isSl at hT
  split at hT
  · rename_i e hu
    refine run_equal1 ?_ (fun _ _ h => by cases h.1) (fun h => by cases h.1) xo yo (by cases a <;> rfl) (by cases a <;> rfl)
    unfold Op.equal Op.maxDepth Op.equalIn
    simp only [Sem.run_bind, run_underlying hu, Result.andThen_ok]
    cases a <;> rfl
  · cases hT
@[simp] theorem bq_sleql (a : Option Addr) (n c n' c' : Nat) (hT : isSl P T = true) : qG P (bq .eql T xo yo (.slice a n c) (.slice none n' c')) w K = K (.bool a.isNone) := qG_of (run_slnil a n c n' c' hT).1
@[simp] theorem bq_slneq (a : Option Addr) (n c n' c' : Nat) (hT : isSl P T = true) : qG P (bq .neq T xo yo (.slice a n c) (.slice none n' c')) w K = K (.bool !a.isNone) := qG_of (run_slnil a n c n' c' hT).2
end

/-! ### the forms, their operands known -/
@[simp] theorem pk_b {t : Bool} {a b : Value} {K : Value → Prop} : pk (.bool t) a b K = K (bif t then a else b) := rfl
@[simp] theorem nk_p {a : Addr} {K : Value → Prop} : nk (.pointer (some a)) K = K (.pointer (some a)) := rfl
@[simp] theorem bV_b {t : Bool} {T F : Prop} : bV (.bool t) T F = ((t = true → T) ∧ (t = false → F)) := by cases t <;> simp [bV]
@[simp] theorem ld1_p {a : Addr} {w : World} {K : Value → Prop} : ld1 (.pointer (some a)) w K = rd1 w a K := rfl
@[simp] theorem ldn_p {n : Nat} {a : Addr} {w : World} {K : Value → Prop} : ldn n (.pointer (some a)) w K = rdN w a n fun cs => K (.agg cs) := rfl
@[simp] theorem st1_p {a : Addr} {v : Value} {w : World} {K : World → Prop} : st1 (.pointer (some a)) v w K = (one v = true ∧ wr1 w a v K) := rfl
@[simp] theorem stn_p {n : Nat} {a : Addr} {cs : Array Value} {w : World} {K : World → Prop} : stn n (.pointer (some a)) (.agg cs) w K = (cs.size = n ∧ wrN w a cs K) := rfl
@[simp] theorem add_mk {b o n : Nat} : (⟨b, o, none⟩ : Addr).add n = ⟨b, o + n, none⟩ := add_none rfl n
@[simp] theorem fa_p {off b o : Nat} {K : Value → Prop} : fa off (.pointer (some ⟨b, o, none⟩)) K = K (.pointer (some ⟨b, o + off, none⟩)) := by unfold fa; simp
@[simp] theorem ia_p {n b o len cap : Nat} {k : IntKind} {j : Int} {K : Value → Prop} : ia n (.slice (some ⟨b, o, none⟩) len cap) (.int k j) K = ((0 ≤ j ∧ j < len) ∧ K (.pointer (some ⟨b, o + j.toNat * n, none⟩))) := by unfold ia; simp
@[simp] theorem iaA_p {len n b o : Nat} {k : IntKind} {j : Int} {K : Value → Prop} : iaA len n (.pointer (some ⟨b, o, none⟩)) (.int k j) K = ((0 ≤ j ∧ j < len) ∧ K (.pointer (some ⟨b, o + j.toNat * n, none⟩))) := by unfold iaA; simp
@[simp] theorem slL_p {n len cap : Nat} {a : Option Addr} {lo hi : Option Value} {K : Value → Prop} : slL n (.slice a len cap) lo hi K = bnd hi len cap fun h => bnd lo 0 h fun l => K (.slice (if cap = l then a else a.map (·.add (l * n))) (h - l) (cap - l)) := rfl
@[simp] theorem slA_p {len n b o : Nat} {lo hi : Option Value} {K : Value → Prop} : slA len n (.pointer (some ⟨b, o, none⟩)) lo hi K = bnd hi len len fun h => bnd lo 0 h fun l => K (.slice (some ⟨b, (if len = l then o else o + l * n), none⟩) (h - l) (len - l)) := by
  unfold slA
  have : ∀ l, (if len = l then (⟨b, o, none⟩ : Addr) else (⟨b, o, none⟩ : Addr).add (l * n)) = ⟨b, (if len = l then o else o + l * n), none⟩ := by intro l; split <;> simp
  simp only [this]
@[simp] theorem slS_p {s : ByteArray} {lo hi : Option Value} {K : Value → Prop} : slS (.string s) lo hi K = bnd hi s.size s.size fun h => bnd lo 0 h fun l => K (.string (s.extract l h)) := rfl
@[simp] theorem bnd_none {d y : Nat} {K : Nat → Prop} : bnd none d y K = K d := rfl
@[simp] theorem bnd_some {k : IntKind} {i : Int} {d y : Nat} {K : Nat → Prop} : bnd (some (.int k i)) d y K = ((0 ≤ i ∧ i ≤ y) ∧ K i.toNat) := rfl
@[simp] theorem lenS_s {s : ByteArray} {K : Value → Prop} : lenS (.string s) K = K (.int .i64 s.size) := rfl
@[simp] theorem lenL_s {a : Option Addr} {n c : Nat} {K : Value → Prop} : lenL (.slice a n c) K = K (.int .i64 n) := rfl
@[simp] theorem cvI_i {kd k : IntKind} {n : Int} {K : Value → Prop} : cvI kd (.int k n) K = K (.int kd (kd.wrap n)) := rfl
@[simp] theorem cvSS_s {s : ByteArray} {K : Value → Prop} : cvSS (.string s) K = K (.string s) := rfl
@[simp] theorem fld_a {agg : Bool} {off n : Nat} {cs : Array Value} {K : Value → Prop} : fld agg off n (.agg cs) K = partG agg off n cs K := rfl
@[simp] theorem part_t {off n : Nat} {cs : Array Value} {K : Value → Prop} : partG true off n cs K = K (.agg (cs.extract off (off + n))) := rfl
@[simp] theorem part_f {off n : Nat} {cs : Array Value} {K : Value → Prop} : partG false off n cs K = match cs[off]? with | some v => K v | none => False := rfl
@[simp] theorem newG_k {c : Array Value} {T : TypeId} {w : World} {K : Value → World → Prop} : newG c T w K = K (.pointer (some ⟨w.heap.size, 0, none⟩)) (w.alloc (.cells c T)) := rfl
@[simp] theorem rd1_mk {w : World} {b o : Nat} {K : Value → Prop} : rd1 w ⟨b, o, none⟩ K = match w.heap[b]? with | some (.cells c _ _) => (match c[o]? with | some v => K v | none => False) | _ => False := by
  unfold rd1
  cases h : w.heap[b]? with
  | none => rfl
  | some x => cases x <;> first | rfl | (simp only [true_and]; rfl)
@[simp] theorem rdN_mk {w : World} {b o n : Nat} {K : Array Value → Prop} : rdN w ⟨b, o, none⟩ n K = match w.heap[b]? with | some (.cells c _ _) => o + n ≤ c.size ∧ K (c.extract o (o + n)) | _ => False := by
  unfold rdN; split <;> simp_all
@[simp] theorem wr1_mk {w : World} {b o : Nat} {v : Value} {K : World → Prop} : wr1 w ⟨b, o, none⟩ v K = match w.heap[b]? with | some (.cells c T fr) => (o < c.size ∧ okFr fr o 1) ∧ K (setBlk w b (.cells (c.setIfInBounds o v) T fr)) | _ => False := by
  unfold wr1; split <;> simp_all
@[simp] theorem wrN_mk {w : World} {b o : Nat} {vs : Array Value} {K : World → Prop} : wrN w ⟨b, o, none⟩ vs K = match w.heap[b]? with | some (.cells c T fr) => (o + vs.size ≤ c.size ∧ okFr fr o vs.size ∧ vs.all one = true) ∧ K (setBlk w b (.cells (splice c o vs) T fr)) | _ => False := by
  unfold wrN; split <;> simp_all
@[simp] theorem okFr0 {o n : Nat} : okFr (0, 0) o n = True := by simp [okFr]
@[simp] theorem one_int {k : IntKind} {n : Int} : one (.int k n) = true := rfl
@[simp] theorem one_bool {b : Bool} : one (.bool b) = true := rfl
@[simp] theorem one_str {s : ByteArray} : one (.string s) = true := rfl
@[simp] theorem one_ptr {a : Option Addr} : one (.pointer a) = true := rfl
@[simp] theorem one_sl {a : Option Addr} {n c : Nat} : one (.slice a n c) = true := rfl

/-! ### worlds -/
@[simp] theorem heap_drew {w : World} : w.drew.heap = w.heap := rfl
@[simp] theorem size_setBlk {w : World} {b : Nat} {o : Obj} : (setBlk w b o).heap.size = w.heap.size := by simp [setBlk]
theorem heap_setBlk {w : World} {b b' : Nat} {o : Obj} : (setBlk w b o).heap[b']? = if b = b' then (if b < w.heap.size then some o else none) else w.heap[b']? := by
  simp only [setBlk, Array.getElem?_setIfInBounds]
/-- there is such a block -/
def Live (w : World) (b : Nat) : Prop := b < w.heap.size
theorem live_of {w : World} {b : Nat} {o : Obj} (h : w.heap[b]? = some o) : Live w b := (Array.getElem?_eq_some_iff.1 h).1
theorem heap_self {w : World} {b : Nat} {o : Obj} (h : Live w b) : (setBlk w b o).heap[b]? = some o := by
  unfold Live at h; rw [heap_setBlk, if_pos rfl, if_pos h]
theorem heap_ne {w : World} {b b' : Nat} {o : Obj} (h : ¬ b = b') : (setBlk w b o).heap[b']? = w.heap[b']? := by
  rw [heap_setBlk, if_neg h]
@[simp] theorem live_setBlk {w : World} {b b' : Nat} {o : Obj} : Live (setBlk w b o) b' = Live w b' := by simp [Live]
@[simp] theorem live_drew {w : World} {b : Nat} : Live w.drew b = Live w b := rfl
theorem live_alloc {w : World} {b : Nat} {o : Obj} (h : Live w b) : Live (w.alloc o) b := by unfold Live at *; simp; omega
theorem heap_new {w : World} {o : Obj} : (w.alloc o).heap[w.heap.size]? = some o := by
  show (w.heap.push o)[w.heap.size]? = _
  simp
theorem heap_old {w : World} {b : Nat} {o : Obj} (h : Live w b) : (w.alloc o).heap[b]? = w.heap[b]? := by
  show (w.heap.push o)[b]? = _
  rw [Array.getElem?_push, if_neg (by unfold Live at h; omega)]
@[simp] theorem setBlk_new {w : World} {o o' : Obj} : Q.setBlk (w.alloc o) w.heap.size o' = w.alloc o' := by
  unfold Q.setBlk World.alloc
  simp only [World.mk.injEq, and_true]
  apply Array.ext_getElem?
  intro j
  rw [Array.getElem?_setIfInBounds, Array.getElem?_push, Array.getElem?_push]
  by_cases hj : w.heap.size = j
  · subst hj; simp
  · have : ¬ j = w.heap.size := fun h => hj h.symm
    simp [hj, this]
theorem heap_alloc {w : World} {b' : Nat} {o : Obj} : (w.alloc o).heap[b']? = if b' = w.heap.size then some o else w.heap[b']? := by
  show (w.heap.push o)[b']? = _
  rw [Array.getElem?_push]
@[simp] theorem setBlk2 {w : World} {b : Nat} {o o' : Obj} : setBlk (setBlk w b o) b o' = setBlk w b o' := setBlk_setBlk w b o o'
@[simp] theorem setBlk_drew {w : World} {b : Nat} {o : Obj} : setBlk w.drew b o = (setBlk w b o).drew := rfl
@[simp] theorem alloc_drew' {w : World} {o : Obj} : w.drew.alloc o = (w.alloc o).drew := rfl
theorem lt_of_blk {w : World} {b : Nat} {o : Obj} (h : w.heap[b]? = some o) : b < w.heap.size := (Array.getElem?_eq_some_iff.1 h).1
theorem ne_of_lt_size {w : World} {b : Nat} (h : b < w.heap.size) : b ≠ w.heap.size := Nat.ne_of_lt h

/-- outside the blocks 'S' what there was is as it was -/
structure Kp (S : List Nat) (w w' : World) : Prop where
  os : w'.os = w.os
  tape : w'.tape = w.tape
  output : w'.output = w.output
  size : w.heap.size ≤ w'.heap.size
  keep : ∀ b, b < w.heap.size → b ∉ S → w'.heap[b]? = w.heap[b]?
theorem Kp.refl (S : List Nat) (w : World) : Kp S w w := ⟨rfl, rfl, rfl, Nat.le_refl _, fun _ _ _ => rfl⟩
theorem Kp.trans {S S' : List Nat} {w w1 w2 : World} (h : Kp S w w1) (h' : Kp S' w1 w2) (hS : ∀ b, b ∈ S' → b < w.heap.size → b ∈ S) : Kp S w w2 :=
  ⟨h'.os.trans h.os, h'.tape.trans h.tape, h'.output.trans h.output, Nat.le_trans h.size h'.size, fun b hb hn => (h'.keep b (Nat.lt_of_lt_of_le hb h.size) (fun hm => hn (hS b hm hb))).trans (h.keep b hb hn)⟩
theorem Kp.trans' {S : List Nat} {w w1 w2 : World} (h : Kp S w w1) (h' : Kp S w1 w2) : Kp S w w2 := h.trans h' fun _ h _ => h
theorem Kp.mono {S S' : List Nat} {w w' : World} (h : Kp S w w') (hS : ∀ b, b ∈ S → b < w.heap.size → b ∈ S') : Kp S' w w' := (Kp.refl S' w).trans h hS
theorem Kp.drew {S : List Nat} {w w' : World} (h : Kp S w w') : Kp S w w'.drew := ⟨h.os, h.tape, h.output, h.size, h.keep⟩
theorem Kp.alloc {S : List Nat} {w w' : World} (h : Kp S w w') (o : Obj) : Kp S w (w'.alloc o) :=
  ⟨h.os, h.tape, h.output, by simp; have := h.size; omega, fun b hb hn => by
    rw [heap_alloc, if_neg (by have := h.size; omega)]; exact h.keep b hb hn⟩
theorem Kp.setBlk {S : List Nat} {w w' : World} (h : Kp S w w') {b : Nat} (hb : b ∈ S ∨ w.heap.size ≤ b) (o : Obj) : Kp S w (setBlk w' b o) :=
  ⟨h.os, h.tape, h.output, by simpa using h.size, fun b' hb' hn => by
    rw [heap_setBlk, if_neg (by intro hh; subst hh; rcases hb with hb | hb; exact hn hb; omega)]; exact h.keep b' hb' hn⟩
theorem Kp.get {S : List Nat} {w w' : World} (h : Kp S w w') {b : Nat} {o : Obj} (hb : w.heap[b]? = some o) (hn : b ∉ S) : w'.heap[b]? = some o := by
  rw [h.keep b (lt_of_blk hb) hn]; exact hb
theorem Kp.below {w w' : World} (h : Kp [] w w') : Go.RowKit.Below w.heap.size w w' := ⟨h.os, h.tape, h.output, h.size, fun k hk => h.keep k hk (by simp)⟩

theorem callG.mono {f : FuncId} {args : Array Value} {w : World} {K K' : Value → World → Prop} (h : callG P f args w K) (hk : ∀ v w', K v w' → K' v w') : callG P f args w K' :=
  Calls.mono h fun _ _ ⟨v, he, hv⟩ => ⟨v, he, hk v _ hv⟩

/-! ### numbers that fit -/
theorem w64 {x : Int} (h0 : -9223372036854775808 ≤ x) (h1 : x < 9223372036854775808) : IntKind.i64.wrap x = x := wrap64 x h0 h1

/-! ### loops: what holds at a round's head, and how many rounds are left -/
theorem loop_inv {F : (List Value → World → Prop) → List Value → World → Prop} (I : Nat → List Value → World → Prop) (hF : ∀ m N xs w, I m xs w → (∀ m' xs' w', m' < m → I m' xs' w' → N xs' w') → F N xs w)
    {m : Nat} {xs : List Value} {w : World} (h : I m xs w) : ∃ k, loopV F k xs w := by
  have key : ∀ k m, m < k → ∀ xs w, I m xs w → loopV F k xs w := by
    intro k
    induction k with
    | zero => intro m hm; omega
    | succ k ih => intro m hm xs w h; exact hF m _ xs w h fun m' xs' w' hlt h' => ih m' (by omega) xs' w' h'
  exact ⟨m + 1, key (m + 1) m (by omega) xs w h⟩
end Go.Q

/- Rows of cells: a block that is a list of rows of one length; lists of bytes as cells. Plain. -/
set_option linter.unusedVariables false
set_option linter.unusedSimpArgs false
namespace Go.Q

theorem flat_len {α : Type} {k : Nat} : ∀ {F : List (List α)}, (∀ x ∈ F, x.length = k) → F.flatten.length = F.length * k := by
  intro F
  induction F with
  | nil => intro _; simp
  | cons x r ih =>
    intro h
    rw [List.flatten_cons, List.length_append, ih fun y hy => h y (by simp [hy]), h x (by simp), List.length_cons, Nat.succ_mul]; omega
theorem flat_drop {α : Type} {k : Nat} : ∀ {F : List (List α)} (i : Nat), (∀ x ∈ F, x.length = k) → F.flatten.drop (i * k) = (F.drop i).flatten := by
  intro F
  induction F with
  | nil => intro i _; simp
  | cons x r ih =>
    intro i h
    cases i with
    | zero => simp
    | succ i =>
      have hx := h x (by simp)
      rw [List.flatten_cons, List.drop_succ_cons, ← ih i fun y hy => h y (by simp [hy])]
      have e : (i + 1) * k = k + i * k := by rw [Nat.succ_mul]; omega
      rw [e, ← List.drop_drop, ← hx, List.drop_left]
theorem flat_take {α : Type} {k : Nat} : ∀ {F : List (List α)} (i : Nat), (∀ x ∈ F, x.length = k) → F.flatten.take (i * k) = (F.take i).flatten := by
  intro F
  induction F with
  | nil => intro i _; simp
  | cons x r ih =>
    intro i h
    cases i with
    | zero => simp
    | succ i =>
      have hx := h x (by simp)
      rw [List.flatten_cons, List.take_succ_cons, List.flatten_cons, ← ih i fun y hy => h y (by simp [hy])]
      rw [List.take_append, hx, Nat.succ_mul, List.take_of_length_le (by omega)]
      congr 2; omega
theorem flat_get {α : Type} {k : Nat} {F : List (List α)} {i : Nat} (h : ∀ x ∈ F, x.length = k) (hi : i < F.length) : (F.flatten.drop (i * k)).take k = F[i] := by
  rw [flat_drop i h, List.drop_eq_getElem_cons hi, List.flatten_cons]
  rw [List.take_append_of_le_length (by rw [h _ (List.getElem_mem hi)]; omega)]
  rw [List.take_of_length_le (by rw [h _ (List.getElem_mem hi)]; omega)]
theorem flat_splice {α : Type} {k : Nat} {F : List (List α)} {i : Nat} (h : ∀ x ∈ F, x.length = k) (hi : i < F.length) {pre : List α} (hp : pre.length ≤ k) :
    F.flatten.take (i * k) ++ pre ++ F.flatten.drop (i * k + pre.length) = (F.set i (pre ++ (F[i]).drop pre.length)).flatten := by
  have hF : F.drop i = F[i] :: F.drop (i + 1) := List.drop_eq_getElem_cons hi
  rw [flat_take i h, ← List.drop_drop, flat_drop i h, hF, List.flatten_cons]
  rw [List.drop_append_of_le_length (by rw [h _ (List.getElem_mem hi)]; omega)]
  rw [List.set_eq_take_append_cons_drop, if_pos hi, List.flatten_append, List.flatten_cons]
  simp
theorem flat_splice_many {α : Type} {k : Nat} {F G : List (List α)} {i : Nat} (h : ∀ x ∈ F, x.length = k) (hG : ∀ x ∈ G, x.length = k) (_hi : i + G.length ≤ F.length) :
    F.flatten.take (i * k) ++ G.flatten ++ F.flatten.drop (i * k + G.flatten.length) = (F.take i ++ G ++ F.drop (i + G.length)).flatten := by
  rw [flat_take i h, flat_len hG, ← Nat.add_mul, flat_drop _ h]
  simp
/-- bytes as cells -/
def u8c (l : List UInt8) : List Value := l.map fun c => .int .u8 c.toNat
@[simp] theorem u8c_len (l : List UInt8) : (u8c l).length = l.length := by simp [u8c]
theorem u8c_take (l : List UInt8) (n : Nat) : (u8c l).take n = u8c (l.take n) := by simp [u8c]
theorem u8c_drop (l : List UInt8) (n : Nat) : (u8c l).drop n = u8c (l.drop n) := by simp [u8c]
theorem u8c_append (l m : List UInt8) : u8c (l ++ m) = u8c l ++ u8c m := by simp [u8c]
theorem u8_back (c : UInt8) : UInt8.ofNat (c.toNat : Int).toNat = c := by simp
theorem bytesOf_u8c (l : List UInt8) : bytesOf (u8c l) = some l := by
  induction l with
  | nil => rfl
  | cons c r ih =>
    show (bytesOf (u8c r)).map _ = _
    rw [ih]
    simp
theorem one_u8c (l : List UInt8) : (u8c l).toArray.all one = true := by
  rw [List.all_toArray, List.all_eq_true]
  intro v hv
  unfold u8c at hv
  rw [List.mem_map] at hv
  obtain ⟨c, _, rfl⟩ := hv
  rfl
theorem u8s_eq (s : ByteArray) : u8s s = (u8c s.data.toList).toArray := by
  unfold u8s u8c
  apply Array.toList_inj.1
  simp
theorem rep_replicate (v : Value) (k n : Nat) (hk : 0 < k) : rep (Array.replicate k v) n = Array.replicate n v := by
  apply Array.ext
  · simp [rep]
  · intro i h1 h2
    simp only [rep, Array.getElem_map, Array.getElem_range, Array.size_replicate, Array.getElem_replicate]
    have : i % k < k := Nat.mod_lt _ hk
    simp [this]
theorem splice_list (c : List Value) (o : Nat) (vs : List Value) : splice c.toArray o vs.toArray = (c.take o ++ vs ++ c.drop (o + vs.length)).toArray := by
  simp [splice]
theorem extract_list {α : Type} (c : List α) (o n : Nat) : (c.toArray).extract o (o + n) = ((c.drop o).take n).toArray := by
  simp
/-- a string of a list of bytes -/
def str (l : List UInt8) : ByteArray := ⟨l.toArray⟩
@[simp] theorem str_data (l : List UInt8) : (str l).data.toList = l := rfl
@[simp] theorem str_size (l : List UInt8) : (str l).size = l.length := by simp [str, ByteArray.size]
theorem str_of (s : ByteArray) : str s.data.toList = s := by cases s; simp [str]
theorem str_inj {l m : List UInt8} : str l = str m ↔ l = m := by
  constructor
  · intro h; have := congrArg (fun s : ByteArray => s.data.toList) h; simpa using this
  · intro h; rw [h]

@[simp] theorem str_eq (l m : List UInt8) : (str l = str m) = (l = m) := propext str_inj
@[simp] theorem str_append (l m : List UInt8) : str l ++ str m = str (l ++ m) := by
  have : (str l ++ str m).data.toList = l ++ m := by simp [str, ByteArray.data_append]
  rw [← str_of (str l ++ str m), this]
theorem str_extract (l : List UInt8) (i j : Nat) : (str l).extract i j = str ((l.take j).drop i) := by
  have : ((str l).extract i j).data.toList = (l.take j).drop i := by
    simp [str, ByteArray.data_extract, List.drop_take]
  rw [← str_of ((str l).extract i j), this]
end Go.Q

/- Slices whose elements are rows of cells: owned ones (which start at their block's head), appended to; and ones that are only read. -/
set_option linter.unusedVariables false
set_option linter.unusedSimpArgs false
namespace Go.Q

/-- a slice that owns its block -/
def RowsAt (w : World) (v : Value) (k : Nat) (rows : List (List Value)) (S : List Nat) : Prop :=
  (v = .slice none 0 0 ∧ rows = [] ∧ S = []) ∨
  ∃ (bl : Nat) (F : List (List Value)) (T : Nat), v = .slice (some ⟨bl, 0, none⟩) rows.length F.length ∧ S = [bl] ∧ w.heap[bl]? = some (.cells F.flatten.toArray T (0, 0)) ∧ (∀ x ∈ F, x.length = k) ∧ F.take rows.length = rows ∧ rows.length ≤ F.length

theorem RowsAt.keep {w w' : World} {v : Value} {k : Nat} {rows : List (List Value)} {S S' : List Nat} (h : RowsAt w v k rows S) (hk : Kp S' w w') (hd : ∀ x ∈ S, x ∉ S') : RowsAt w' v k rows S := by
  rcases h with h | ⟨bl, F, T, h1, h2, h3, h4, h5, h6⟩
  · exact .inl h
  · subst h2
    exact .inr ⟨bl, F, T, h1, rfl, hk.get h3 (hd bl (by simp)), h4, h5, h6⟩
theorem RowsAt.len {w : World} {v : Value} {k : Nat} {rows : List (List Value)} {S : List Nat} (h : RowsAt w v k rows S) : ∃ a c, v = .slice a rows.length c ∧ rows.length ≤ c := by
  rcases h with ⟨h1, h2, h3⟩ | ⟨bl, F, T, h1, h2, h3, h4, h5, h6⟩
  · exact ⟨none, 0, by rw [h1, h2]; rfl, by simp [h2]⟩
  · exact ⟨_, _, h1, h6⟩
theorem RowsAt.row {w : World} {v : Value} {k : Nat} {rows : List (List Value)} {S : List Nat} (h : RowsAt w v k rows S) {x : List Value} (hx : x ∈ rows) : x.length = k := by
  rcases h with ⟨h1, h2, h3⟩ | ⟨bl, F, T, h1, h2, h3, h4, h5, h6⟩
  · rw [h2] at hx; cases hx
  · rw [← h5] at hx; exact h4 x (List.mem_of_mem_take hx)
theorem RowsAt.nodup {w : World} {v : Value} {k : Nat} {rows : List (List Value)} {S : List Nat} (h : RowsAt w v k rows S) : S.Nodup := by
  rcases h with ⟨h1, h2, h3⟩ | ⟨bl, F, T, h1, h2, h3⟩
  · rw [h3]; simp
  · rw [h2]; simp
theorem RowsAt.lt {w : World} {v : Value} {k : Nat} {rows : List (List Value)} {S : List Nat} (h : RowsAt w v k rows S) : ∀ x ∈ S, x < w.heap.size := by
  rcases h with ⟨h1, h2, h3⟩ | ⟨bl, F, T, h1, h2, h3, h4⟩
  · rw [h3]; simp
  · rw [h2]; simp; exact live_of h3

theorem next_le {need old : Nat} (h : old < need) : Builtin.nextslicecap need old ≤ 2 * need := nextslicecap_le h

/-- rows are appended -/
theorem rows_app {e k bytes : Nat} {z : List Value} {v x : Value} {w : World} {rows G : List (List Value)} {S : List Nat} (h : RowsAt w v k rows S) (hk : 0 < k) (hz : z.length = k)
    (hG : ∀ y ∈ G, y.length = k) (hone : G.flatten.all one = true) (hsrc : ∀ K' : Nat → Array Value → Prop, K' G.length G.flatten.toArray → srcA k x w K')
    (hb : 2 * (rows.length + G.length) * bytes ≤ 2 ^ 48) (hb2 : rows.length + G.length < 2 ^ 62) {K : Value → World → Prop}
    (hK : ∀ v' w' S', RowsAt w' v' k (rows ++ G) S' → Kp S w w' → (∀ y ∈ S', y ∈ S ∨ w.heap.size ≤ y) → K v' w') : app e k bytes z.toArray v x w K := by
  have grow : ∀ (old : Array Value) (cap : Nat) , old = rows.flatten.toArray → (∀ y ∈ rows, y.length = k) → rows.length + G.length ≤ cap →
      K (.slice (some ⟨w.heap.size, 0, none⟩) (rows.length + G.length) cap) (w.drew.alloc (.cells (old ++ G.flatten.toArray ++ rep z.toArray ((cap - (rows.length + G.length)) * k)) e)) := by
    intro old cap hold hr hc
    have hF : (old ++ G.flatten.toArray ++ rep z.toArray ((cap - (rows.length + G.length)) * k)) = (rows ++ G ++ List.replicate (cap - (rows.length + G.length)) z).flatten.toArray := by
      rw [hold]
      have : rep z.toArray ((cap - (rows.length + G.length)) * k) = (List.replicate (cap - (rows.length + G.length)) z).flatten.toArray := by
        apply Array.ext
        · simp [rep, hz]
        · intro i h1 h2
          have hi : i < (cap - (rows.length + G.length)) * k := by simpa [rep] using h1
          simp only [rep, Array.getElem_map, Array.getElem_range, List.size_toArray, hz]
          have hm : i % k < k := Nat.mod_lt _ hk
          have hd : i / k < cap - (rows.length + G.length) := (Nat.div_lt_iff_lt_mul hk).2 hi
          have hfl : ((List.replicate (cap - (rows.length + G.length)) z).flatten.drop ((i / k) * k)).take k = z := by
            rw [flat_get (k := k) (by intro x hx; rw [List.mem_replicate] at hx; rw [hx.2, hz]) (by simpa using hd)]
            simp
          have hidx : i / k * k + i % k = i := by rw [Nat.mul_comm]; exact Nat.div_add_mod i k
          have e2 := congrArg (fun l => l[i % k]?) hfl
          simp only [List.getElem?_take_of_lt hm, List.getElem?_drop, hidx] at e2
          have h2' : i < (List.replicate (cap - (rows.length + G.length)) z).flatten.length := by simpa using h2
          rw [List.getElem?_eq_getElem h2', List.getElem?_eq_getElem (by omega)] at e2
          injection e2 with e2
          rw [List.getElem_toArray, e2]
          simp [hz, hm]
      rw [this]; simp
    refine hK _ _ [w.heap.size] (.inr ⟨w.heap.size, rows ++ G ++ List.replicate (cap - (rows.length + G.length)) z, e, ?_, rfl, ?_, ?_, ?_, ?_⟩) ((Kp.refl _ _).drew.alloc _) (by simp)
    · simp; omega
    · rw [← hF]; exact heap_new
    · intro y hy
      rw [List.mem_append, List.mem_append] at hy
      rcases hy with (hy | hy) | hy
      · exact hr y hy
      · exact hG y hy
      · rw [List.mem_replicate] at hy; rw [hy.2, hz]
    · rw [List.take_left]
    · simp
  have hrow : ∀ y ∈ rows, y.length = k := fun y hy => h.row hy
  unfold app
  rcases h with ⟨h1, h2, h3⟩ | ⟨bl, F, T, h1, h2, h3, h4, h5, h6⟩
  · subst h1; subst h3
    rw [h2] at hb hb2 hK grow
    simp only [List.length_nil, Nat.zero_add] at hb hb2 grow ⊢
    refine hsrc _ ⟨fun hle => ?_, fun hlt => ⟨⟨?_, by omega⟩, fun cap hc _ => grow #[] cap rfl (by simp) hc⟩⟩
    · have hG0 : G = [] := List.length_eq_zero_iff.1 (by omega)
      rw [hG0]
      exact hK _ w [] (.inl ⟨rfl, by simp [hG0], rfl⟩) (Kp.refl _ _) (by simp)
    · have := next_le hlt
      calc _ ≤ (2 * G.length) * bytes := Nat.mul_le_mul_right _ this
        _ ≤ _ := hb
  · subst h1; subst h2
    refine hsrc _ ⟨fun hle => ?_, fun hlt => ⟨⟨?_, by omega⟩, ?_⟩⟩
    · simp only [wrO, add_mk, wrN_mk, h3, okFr0, true_and, Nat.zero_add, List.size_toArray]
      have hfl := flat_len h4
      have hgl := flat_len hG
      have hsp := flat_splice_many (i := rows.length) h4 hG (by omega)
      refine ⟨⟨?_, by simpa using hone⟩, ?_⟩
      · rw [hfl, hgl, ← Nat.add_mul]; exact Nat.mul_le_mul_right _ hle
      · have hF' : splice F.flatten.toArray (rows.length * k) G.flatten.toArray = (F.take rows.length ++ G ++ F.drop (rows.length + G.length)).flatten.toArray := by
          rw [splice_list, hsp]
        rw [hF']
        refine hK _ _ [bl] (.inr ⟨bl, F.take rows.length ++ G ++ F.drop (rows.length + G.length), T, ?_, rfl, heap_self (live_of h3), ?_, ?_, ?_⟩) ((Kp.refl _ _).setBlk (.inl (by simp)) _) (fun y hy => .inl hy)
        · have : (F.take rows.length ++ G ++ F.drop (rows.length + G.length)).length = F.length := by simp; omega
          rw [this]; simp
        · intro y hy
          rw [List.mem_append, List.mem_append] at hy
          rcases hy with (hy | hy) | hy
          · exact h4 y (List.mem_of_mem_take hy)
          · exact hG y hy
          · exact h4 y (List.mem_of_mem_drop hy)
        · rw [h5, List.take_left]
        · simp; omega
    · have := next_le hlt
      calc _ ≤ (2 * (rows.length + G.length)) * bytes := Nat.mul_le_mul_right _ this
        _ ≤ _ := hb
    · simp only [base, rdN_mk, h3, Nat.zero_add, List.size_toArray]
      have hfl := flat_len h4
      refine ⟨by rw [hfl]; exact Nat.mul_le_mul_right _ h6, fun cap hc _ => grow _ cap ?_ hrow hc⟩
      have := extract_list F.flatten 0 (rows.length * k)
      rw [Nat.zero_add] at this
      rw [this, List.drop_zero, flat_take _ h4, h5]

/-- a row is looked at -/
theorem RowsAt.at {w : World} {v : Value} {k : Nat} {rows : List (List Value)} {S : List Nat} (h : RowsAt w v k rows S) {i : Nat} (hi : i < rows.length) :
    ∃ bl T c, bl ∈ S ∧ w.heap[bl]? = some (.cells c T (0, 0)) ∧ (∀ kd K, ia k v (.int kd i) K = K (.pointer (some ⟨bl, i * k, none⟩))) ∧ i * k + k ≤ c.size ∧ c.extract (i * k) (i * k + k) = rows[i].toArray ∧
      ∀ j, j < k → c[i * k + j]? = rows[i][j]? := by
  rcases h with ⟨h1, h2, h3⟩ | ⟨bl, F, T, h1, h2, h3, h4, h5, h6⟩
  · rw [h2] at hi; cases hi
  · have hiF : i < F.length := by omega
    have hrow : F[i] = rows[i] := by
      have e : rows[i]? = F[i]? := by rw [← h5, List.getElem?_take_of_lt (by omega)]
      rw [List.getElem?_eq_getElem hi, List.getElem?_eq_getElem hiF] at e
      injection e with e
      exact e.symm
    have hfl := flat_len h4
    have hget := flat_get h4 hiF
    have hle : i * k + k ≤ F.flatten.length := by rw [hfl, ← Nat.succ_mul]; exact Nat.mul_le_mul_right _ hiF
    refine ⟨bl, T, F.flatten.toArray, by rw [h2]; simp, h3, ?_, by simpa [-List.length_flatten] using hle, ?_, ?_⟩
    · intro kd K
      have hlt : (i : Int) < rows.length := by omega
      rw [h1]; simp only [ia_p, Nat.zero_add, Int.toNat_natCast]
      have : (0 ≤ (i : Int) ∧ (i : Int) < rows.length) = True := by simp; omega
      rw [this, true_and]
    · rw [extract_list, hget, hrow]
    · intro j hj
      rw [List.getElem?_toArray, ← List.getElem?_drop, ← hrow, ← hget, List.getElem?_take_of_lt hj]

/-! ### structs and literals of slices, laid part by part -/
theorem fold_set (off : Nat) : ∀ (l : List Value) (k : Nat) (c : Array Value), off + k + l.length ≤ c.size →
    (l.zipIdx k).foldl (fun cs p => cs.setIfInBounds (off + p.2) p.1) c = splice c (off + k) l.toArray := by
  intro l
  induction l with
  | nil => intro k c _; simp [splice]
  | cons v r ih =>
    intro k c h
    simp only [List.length_cons] at h
    rw [List.zipIdx_cons, List.foldl_cons]
    have := ih (k + 1) (c.setIfInBounds (off + k) v) (by simp; omega)
    simp only at this ⊢
    rw [this]
    unfold splice
    congr 1
    have e := list_seg_step c.toList (off + k) v r (by simp; omega)
    simpa [Array.toList_setIfInBounds, Nat.add_assoc] using e
theorem fill_step {place : Nat → Option (Nat × Nat)} {c : Array Value} {i off size : Nat} {v : Value} {rest : List (Nat × Value)} (hp : place i = some (off, size)) (hv : v.cells.size = size) (hc : off + size ≤ c.size) :
    Instr.fill place c ((i, v) :: rest) = Instr.fill place (splice c off v.cells) rest := by
  have h1 : v.cells.size = size := hv
  conv => lhs; unfold Instr.fill
  rw [hp]
  simp only [h1, ne_eq, not_true_eq_false, decide_false, Bool.false_or, decide_eq_true_eq]
  rw [if_neg (by omega)]
  congr 1
  have := fold_set off v.cells.toList 0 c (by simp; omega)
  simp only [Nat.add_zero, Array.toArray_toList] at this
  rw [← this]
  rw [← Array.foldl_toList, Array.toList_zipIdx]
theorem splice_size {c : Array Value} {o : Nat} {vs : Array Value} (h : o + vs.size ≤ c.size) : (splice c o vs).size = c.size := by
  unfold splice; simp; omega

/-- a slice of numbers that is only read -/
def IntsAt (w : World) (v : Value) (ks : List Int) (S : List Nat) : Prop :=
  ∃ a cap, v = .slice a ks.length cap ∧ (ks = [] ∨ ∃ bl o c T fr, a = some ⟨bl, o, none⟩ ∧ S = [bl] ∧ w.heap[bl]? = some (.cells c T fr) ∧ ∀ i, i < ks.length → c[o + i]? = some (.int .i64 (ks.getD i 0)))
theorem IntsAt.keep {w w' : World} {v : Value} {ks : List Int} {S S' : List Nat} (h : IntsAt w v ks S) (hk : Kp S' w w') (hd : ∀ x ∈ S, x ∉ S') : IntsAt w' v ks S := by
  obtain ⟨a, cap, h1, h2⟩ := h
  refine ⟨a, cap, h1, h2.imp id ?_⟩
  rintro ⟨bl, o, c, T, fr, g1, g2, g3, g4⟩
  subst g2
  exact ⟨bl, o, c, T, fr, g1, rfl, hk.get g3 (hd bl (by simp)), g4⟩
theorem IntsAt.at {w : World} {v : Value} {ks : List Int} {S : List Nat} (h : IntsAt w v ks S) {i : Nat} (hi : i < ks.length) :
    ∃ bl o c T fr, bl ∈ S ∧ w.heap[bl]? = some (.cells c T fr) ∧ (∀ kd K, ia 1 v (.int kd i) K = K (.pointer (some ⟨bl, o, none⟩))) ∧ c[o]? = some (.int .i64 (ks.getD i 0)) := by
  obtain ⟨a, cap, h1, h2⟩ := h
  rcases h2 with h2 | ⟨bl, o, c, T, fr, g1, g2, g3, g4⟩
  · rw [h2] at hi; cases hi
  · refine ⟨bl, o + i, c, T, fr, by rw [g2]; simp, g3, ?_, g4 i hi⟩
    intro kd K
    rw [h1, g1]
    have : (0 ≤ (i : Int) ∧ (i : Int) < ks.length) = True := by simp; omega
    simp only [ia_p, Int.toNat_natCast, Nat.mul_one, this, true_and]
theorem IntsAt.len {w : World} {v : Value} {ks : List Int} {S : List Nat} (h : IntsAt w v ks S) : ∃ a cap, v = .slice a ks.length cap := by
  obtain ⟨a, cap, h1, _⟩ := h
  exact ⟨a, cap, h1⟩

theorem rep_size (z : Array Value) (n : Nat) : (rep z n).size = n := by simp [rep]
theorem splice_all {c vs : Array Value} (h : c.size = vs.size) : splice c 0 vs = vs := by
  have : c.toList.drop vs.size = [] := List.drop_of_length_le (by simp [h])
  simp [splice, this]
/-- a literal of one scalar -/
theorem bsl_one {e : Nat} {z : Array Value} {v : Value} (hv : one v = true) {w : World} {k : Value → World → Prop} : bsl e 1 1 z #[(0, v)] w k = k (.slice (some ⟨w.heap.size, 0, none⟩) 1 1) (w.alloc (.cells #[v] e)) := by
  have hc := cells_one hv
  unfold bsl
  show (match Instr.fill (fun i => some (i * 1, 1)) (rep z (1 * 1)) [(0, v)] with | some cs => k (Value.slice (some ⟨w.heap.size, 0, none⟩) 1 1) (w.alloc (Obj.cells cs e)) | none => False) = _
  rw [fill_step (off := 0) (size := 1) rfl (by rw [hc]; rfl) (by rw [rep_size]; omega), hc, splice_all (by rw [rep_size]; rfl)]
  rfl
end Go.Q

/- Slices that are read: rows of cells from anywhere in a block; parts of them; what is appended from them. -/
set_option linter.unusedVariables false
set_option linter.unusedSimpArgs false
namespace Go.Q
/-- a slice that reads as these rows -/
def RdAt (w : World) (v : Value) (k : Nat) (rows : List (List Value)) (S : List Nat) : Prop :=
  (v = .slice none 0 0 ∧ rows = []) ∨
  ∃ (bl o cap : Nat) (c : Array Value) (T : TypeId) (fr : Nat × Nat), v = .slice (some ⟨bl, o, none⟩) rows.length cap ∧ S = [bl] ∧ w.heap[bl]? = some (.cells c T fr) ∧ (∀ x ∈ rows, x.length = k) ∧
    o + rows.length * k ≤ c.size ∧ (c.toList.drop o).take (rows.length * k) = rows.flatten ∧ rows.length ≤ cap
section
variable {w : World} {v : Value} {k : Nat} {rows : List (List Value)} {S : List Nat}
theorem RowsAt.rd (h : RowsAt w v k rows S) : RdAt w v k rows S := by
  rcases h with ⟨h1, h2, h3⟩ | ⟨bl, F, T, h1, h2, h3, h4, h5, h6⟩
  · exact .inl ⟨h1, h2⟩
  · refine .inr ⟨bl, 0, F.length, _, T, _, h1, h2, h3, ?_, ?_, ?_, h6⟩
    · intro x hx; rw [← h5] at hx; exact h4 x (List.mem_of_mem_take hx)
    · have := flat_len h4
      simp only [List.size_toArray, this, Nat.zero_add]
      exact Nat.mul_le_mul_right _ h6
    · rw [List.drop_zero, flat_take _ h4, h5]
theorem RdAt.keep {w' : World} {S' : List Nat} (h : RdAt w v k rows S) (hk : Kp S' w w') (hd : ∀ x ∈ S, x ∉ S') : RdAt w' v k rows S := by
  rcases h with h | ⟨bl, o, cap, c, T, fr, h1, h2, h3, h4⟩
  · exact .inl h
  · subst h2
    exact .inr ⟨bl, o, cap, c, T, fr, h1, rfl, hk.get h3 (hd bl (by simp)), h4⟩
theorem RdAt.len (h : RdAt w v k rows S) : ∃ a c, v = .slice a rows.length c ∧ rows.length ≤ c := by
  rcases h with ⟨h1, h2⟩ | ⟨bl, o, cap, c, T, fr, h1, h2, h3, h4, h5, h6, h7⟩
  · exact ⟨none, 0, by rw [h1, h2]; rfl, by simp [h2]⟩
  · exact ⟨_, _, h1, h7⟩
theorem RdAt.lenL (h : RdAt w v k rows S) {K : Value → Prop} : lenL v K = K (.int .i64 rows.length) := by
  obtain ⟨a, c, h1, _⟩ := h.len
  rw [h1]; rfl
theorem RdAt.row (h : RdAt w v k rows S) {x : List Value} (hx : x ∈ rows) : x.length = k := by
  rcases h with ⟨h1, h2⟩ | ⟨bl, o, cap, c, T, fr, h1, h2, h3, h4, _⟩
  · rw [h2] at hx; cases hx
  · exact h4 x hx
theorem extract_toList (c : Array Value) (o n : Nat) : c.extract o (o + n) = ((c.toList.drop o).take n).toArray := by
  apply Array.toList_inj.1
  simp [List.take_drop]
theorem RdAt.src (h : RdAt w v k rows S) (K' : Nat → Array Value → Prop) (hK : K' rows.length rows.flatten.toArray) : Q.srcA k v w K' := by
  rcases h with ⟨h1, h2⟩ | ⟨bl, o, cap, c, T, fr, h1, h2, h3, h4, h5, h6, h7⟩
  · subst h1; subst h2; exact hK
  · subst h1
    simp only [Q.srcA]
    split
    · rename_i h0
      have : rows.flatten = [] := by rw [← h6, h0]; simp
      rw [this] at hK
      exact hK
    · simp only [rdN_mk, h3]
      refine ⟨h5, ?_⟩
      rw [extract_toList, h6]; exact hK
theorem RdAt.take (h : RdAt w v k rows S) {p : Nat} (hp : p ≤ rows.length) {kd : IntKind} : ∃ v', RdAt w v' k (rows.take p) S ∧ ∀ K, slL k v none (some (.int kd p)) K = K v' := by
  rcases h with ⟨h1, h2⟩ | ⟨bl, o, cap, c, T, fr, h1, h2, h3, h4, h5, h6, h7⟩
  · subst h1; subst h2
    have : p = 0 := by simpa using hp
    subst this
    exact ⟨_, .inl ⟨rfl, by simp⟩, fun K => by simp⟩
  · subst h1
    have hl : (rows.take p).length = p := by simp; omega
    have hle : p * k ≤ rows.length * k := Nat.mul_le_mul_right _ hp
    refine ⟨.slice (some ⟨bl, o, none⟩) p cap, .inr ⟨bl, o, cap, c, T, fr, by rw [hl], h2, h3, fun x hx => h4 x (List.mem_of_mem_take hx), by rw [hl]; omega, ?_, by omega⟩, fun K => ?_⟩
    · rw [hl]
      have h8 : (c.toList.drop o).take (p * k) = ((c.toList.drop o).take (rows.length * k)).take (p * k) := by rw [List.take_take, Nat.min_eq_left hle]
      rw [h8, h6]
      exact flat_take p h4
    · have : (p : Int) ≤ cap := by omega
      simp [this]
theorem RdAt.drop (h : RdAt w v k rows S) {p : Nat} (hp : p ≤ rows.length) {kd : IntKind} : ∃ v', RdAt w v' k (rows.drop p) S ∧ ∀ K, slL k v (some (.int kd p)) none K = K v' := by
  rcases h with ⟨h1, h2⟩ | ⟨bl, o, cap, c, T, fr, h1, h2, h3, h4, h5, h6, h7⟩
  · subst h1; subst h2
    have : p = 0 := by simpa using hp
    subst this
    exact ⟨_, .inl ⟨rfl, by simp⟩, fun K => by simp⟩
  · subst h1
    have hl : (rows.drop p).length = rows.length - p := by simp
    have hsum : p * k + (rows.length - p) * k = rows.length * k := by rw [← Nat.add_mul]; congr 1; omega
    have hfl : rows.flatten.drop (p * k) = (rows.drop p).flatten := flat_drop p h4
    by_cases hc : cap = p
    · have hr : rows.length = p := by omega
      have hd : rows.drop p = [] := by rw [← hr]; simp
      refine ⟨.slice (some ⟨bl, o, none⟩) (rows.drop p).length (cap - p), .inr ⟨bl, o, cap - p, c, T, fr, rfl, h2, h3, by rw [hd]; simp, by rw [hd]; simp; omega, by rw [hd]; simp, by rw [hd]; simp⟩, fun K => ?_⟩
      have : (p : Int) ≤ rows.length := by omega
      simp [hc, this, hr]
    · refine ⟨.slice (some ⟨bl, o + p * k, none⟩) (rows.drop p).length (cap - p), .inr ⟨bl, o + p * k, cap - p, c, T, fr, rfl, h2, h3, fun x hx => h4 x (List.mem_of_mem_drop hx), by rw [hl]; omega, ?_, by rw [hl]; omega⟩, fun K => ?_⟩
      · rw [hl, ← hfl, ← h6, ← List.drop_drop, List.drop_take]
        congr 1
        omega
      · have : (p : Int) ≤ rows.length := by omega
        simp [hc, this, hp]
theorem RdAt.at (h : RdAt w v k rows S) {i : Nat} (hi : i < rows.length) :
    ∃ bl o T c fr, bl ∈ S ∧ w.heap[bl]? = some (.cells c T fr) ∧ (∀ kd K, ia k v (.int kd i) K = K (.pointer (some ⟨bl, o, none⟩))) ∧ o + k ≤ c.size ∧ c.extract o (o + k) = rows[i].toArray ∧
      ∀ j, j < k → c[o + j]? = rows[i][j]? := by
  rcases h with ⟨h1, h2⟩ | ⟨bl, o, cap, c, T, fr, h1, h2, h3, h4, h5, h6, h7⟩
  · subst h2; cases hi
  · subst h1
    have hle : i * k + k ≤ rows.length * k := by rw [← Nat.succ_mul]; exact Nat.mul_le_mul_right _ hi
    have hget := flat_get h4 hi
    have hrow : (c.toList.drop (o + i * k)).take k = rows[i] := by
      rw [← hget, ← h6, List.drop_take, List.take_take, List.drop_drop]
      congr 1
      omega
    refine ⟨bl, o + i * k, T, c, fr, by rw [h2]; simp, h3, ?_, by omega, by rw [extract_toList, hrow], ?_⟩
    · intro kd K
      simp only [ia_p, Int.toNat_natCast]
      have : (0 ≤ (i : Int) ∧ (i : Int) < rows.length) = True := by simp; omega
      rw [this, true_and]
    · intro j hj
      rw [← Array.getElem?_toList, ← List.getElem?_drop, ← hrow, List.getElem?_take_of_lt hj]
end
end Go.Q

/- Owned slices whose block's type is known; appended to. -/
set_option linter.unusedVariables false
set_option linter.unusedSimpArgs false
namespace Go.Q
/-- a slice that owns its block, of a type -/
def RowsT (w : World) (v : Value) (k : Nat) (e : TypeId) (rows : List (List Value)) (S : List Nat) : Prop :=
  (v = .slice none 0 0 ∧ rows = [] ∧ S = []) ∨
  ∃ (bl : Nat) (F : List (List Value)), v = .slice (some ⟨bl, 0, none⟩) rows.length F.length ∧ S = [bl] ∧ w.heap[bl]? = some (.cells F.flatten.toArray e (0, 0)) ∧ (∀ x ∈ F, x.length = k) ∧ F.take rows.length = rows ∧ rows.length ≤ F.length
theorem RowsT.at_ {w : World} {v : Value} {k : Nat} {e : TypeId} {rows : List (List Value)} {S : List Nat} (h : RowsT w v k e rows S) : RowsAt w v k rows S := by
  rcases h with h | ⟨bl, F, h⟩
  · exact .inl h
  · exact .inr ⟨bl, F, e, h⟩
theorem RowsT.row {w : World} {v : Value} {k : Nat} {e : TypeId} {rows : List (List Value)} {S : List Nat} (h : RowsT w v k e rows S) {x : List Value} (hx : x ∈ rows) : x.length = k := h.at_.row hx
theorem RowsT.keep {w w' : World} {v : Value} {k : Nat} {e : TypeId} {rows : List (List Value)} {S S' : List Nat} (h : RowsT w v k e rows S) (hk : Kp S' w w') (hd : ∀ x ∈ S, x ∉ S') : RowsT w' v k e rows S := by
  rcases h with h | ⟨bl, F, h1, h2, h3, h4⟩
  · exact .inl h
  · subst h2
    exact .inr ⟨bl, F, h1, rfl, hk.get h3 (hd bl (by simp)), h4⟩
/-- rows are appended -/
theorem rowsT_app {e k bytes : Nat} {z : List Value} {v x : Value} {w : World} {rows G : List (List Value)} {S : List Nat} (h : RowsT w v k e rows S) (hk : 0 < k) (hz : z.length = k)
    (hG : ∀ y ∈ G, y.length = k) (hone : G.flatten.all one = true) (hsrc : ∀ K' : Nat → Array Value → Prop, K' G.length G.flatten.toArray → srcA k x w K')
    (hb : 2 * (rows.length + G.length) * bytes ≤ 2 ^ 48) (hb2 : rows.length + G.length < 2 ^ 62) {K : Value → World → Prop}
    (hK : ∀ v' w' S', RowsT w' v' k e (rows ++ G) S' → Kp S w w' → (∀ y ∈ S', y ∈ S ∨ w.heap.size ≤ y) → K v' w') : app e k bytes z.toArray v x w K := by
  have grow : ∀ (old : Array Value) (cap : Nat) , old = rows.flatten.toArray → (∀ y ∈ rows, y.length = k) → rows.length + G.length ≤ cap →
      K (.slice (some ⟨w.heap.size, 0, none⟩) (rows.length + G.length) cap) (w.drew.alloc (.cells (old ++ G.flatten.toArray ++ rep z.toArray ((cap - (rows.length + G.length)) * k)) e)) := by
    intro old cap hold hr hc
    have hF : (old ++ G.flatten.toArray ++ rep z.toArray ((cap - (rows.length + G.length)) * k)) = (rows ++ G ++ List.replicate (cap - (rows.length + G.length)) z).flatten.toArray := by
      rw [hold]
      have : rep z.toArray ((cap - (rows.length + G.length)) * k) = (List.replicate (cap - (rows.length + G.length)) z).flatten.toArray := by
        apply Array.ext
        · simp [rep, hz]
        · intro i h1 h2
          have hi : i < (cap - (rows.length + G.length)) * k := by simpa [rep] using h1
          simp only [rep, Array.getElem_map, Array.getElem_range, List.size_toArray, hz]
          have hm : i % k < k := Nat.mod_lt _ hk
          have hd : i / k < cap - (rows.length + G.length) := (Nat.div_lt_iff_lt_mul hk).2 hi
          have hfl : ((List.replicate (cap - (rows.length + G.length)) z).flatten.drop ((i / k) * k)).take k = z := by
            rw [flat_get (k := k) (by intro x hx; rw [List.mem_replicate] at hx; rw [hx.2, hz]) (by simpa using hd)]
            simp
          have hidx : i / k * k + i % k = i := by rw [Nat.mul_comm]; exact Nat.div_add_mod i k
          have e2 := congrArg (fun l => l[i % k]?) hfl
          simp only [List.getElem?_take_of_lt hm, List.getElem?_drop, hidx] at e2
          have h2' : i < (List.replicate (cap - (rows.length + G.length)) z).flatten.length := by simpa using h2
          rw [List.getElem?_eq_getElem h2', List.getElem?_eq_getElem (by omega)] at e2
          injection e2 with e2
          rw [List.getElem_toArray, e2]
          simp [hz, hm]
      rw [this]; simp
    refine hK _ _ [w.heap.size] (.inr ⟨w.heap.size, rows ++ G ++ List.replicate (cap - (rows.length + G.length)) z, ?_, rfl, ?_, ?_, ?_, ?_⟩) ((Kp.refl _ _).drew.alloc _) (by simp)
    · simp; omega
    · rw [← hF]; exact heap_new
    · intro y hy
      rw [List.mem_append, List.mem_append] at hy
      rcases hy with (hy | hy) | hy
      · exact hr y hy
      · exact hG y hy
      · rw [List.mem_replicate] at hy; rw [hy.2, hz]
    · rw [List.take_left]
    · simp
  have hrow : ∀ y ∈ rows, y.length = k := fun y hy => h.row hy
  unfold app
  rcases h with ⟨h1, h2, h3⟩ | ⟨bl, F, h1, h2, h3, h4, h5, h6⟩
  · subst h1; subst h3
    rw [h2] at hb hb2 hK grow
    simp only [List.length_nil, Nat.zero_add] at hb hb2 grow ⊢
    refine hsrc _ ⟨fun hle => ?_, fun hlt => ⟨⟨?_, by omega⟩, fun cap hc _ => grow #[] cap rfl (by simp) hc⟩⟩
    · have hG0 : G = [] := List.length_eq_zero_iff.1 (by omega)
      rw [hG0]
      exact hK _ w [] (.inl ⟨rfl, by simp [hG0], rfl⟩) (Kp.refl _ _) (by simp)
    · have := next_le hlt
      calc _ ≤ (2 * G.length) * bytes := Nat.mul_le_mul_right _ this
        _ ≤ _ := hb
  · subst h1; subst h2
    refine hsrc _ ⟨fun hle => ?_, fun hlt => ⟨⟨?_, by omega⟩, ?_⟩⟩
    · simp only [wrO, add_mk, wrN_mk, h3, okFr0, true_and, Nat.zero_add, List.size_toArray]
      have hfl := flat_len h4
      have hgl := flat_len hG
      have hsp := flat_splice_many (i := rows.length) h4 hG (by omega)
      refine ⟨⟨?_, by simpa using hone⟩, ?_⟩
      · rw [hfl, hgl, ← Nat.add_mul]; exact Nat.mul_le_mul_right _ hle
      · have hF' : splice F.flatten.toArray (rows.length * k) G.flatten.toArray = (F.take rows.length ++ G ++ F.drop (rows.length + G.length)).flatten.toArray := by
          rw [splice_list, hsp]
        rw [hF']
        refine hK _ _ [bl] (.inr ⟨bl, F.take rows.length ++ G ++ F.drop (rows.length + G.length), ?_, rfl, heap_self (live_of h3), ?_, ?_, ?_⟩) ((Kp.refl _ _).setBlk (.inl (by simp)) _) (fun y hy => .inl hy)
        · have : (F.take rows.length ++ G ++ F.drop (rows.length + G.length)).length = F.length := by simp; omega
          rw [this]; simp
        · intro y hy
          rw [List.mem_append, List.mem_append] at hy
          rcases hy with (hy | hy) | hy
          · exact h4 y (List.mem_of_mem_take hy)
          · exact hG y hy
          · exact h4 y (List.mem_of_mem_drop hy)
        · rw [h5, List.take_left]
        · simp; omega
    · have := next_le hlt
      calc _ ≤ (2 * (rows.length + G.length)) * bytes := Nat.mul_le_mul_right _ this
        _ ≤ _ := hb
    · simp only [base, rdN_mk, h3, Nat.zero_add, List.size_toArray]
      have hfl := flat_len h4
      refine ⟨by rw [hfl]; exact Nat.mul_le_mul_right _ h6, fun cap hc _ => grow _ cap ?_ hrow hc⟩
      have := extract_list F.flatten 0 (rows.length * k)
      rw [Nat.zero_add] at this
      rw [this, List.drop_zero, flat_take _ h4, h5]

end Go.Q

set_option linter.unusedVariables false
set_option linter.unusedSimpArgs false
namespace Go.Proofs
theorem Try.mixed : Try.prog.follows .mixedOrders = true := by kernel_rfl
end Go.Proofs

set_option linter.unusedVariables false
set_option linter.unusedSimpArgs false
namespace Go.Proofs
open Go Go.Q
set_option maxRecDepth 100000
/-! quayside/crc.More -/
def crc_More_s0 (R : Value → World → Prop) (x5 : Value) (w : World) : Prop :=
  qG Try.prog (Op.unary .xor x5) w fun t33 =>
  cvI .i64 t33 fun t34 =>
  R t34 w

theorem crc_More_s0_eq (R : Value → World → Prop) : ∀ e w, lift Try.prog 35 (sub (bodyOf Try.f51) [1, 1, 1]) (finK Try.prog Try.f51.results.toList R) e w = crc_More_s0 R (e 5) w := fun e w => by kernel_rfl

def crc_More_s1 (R : Value → World → Prop) (N1 : List Value → World → Prop) (x1 x5 x11 x12 : Value) (w : World) : Prop :=
  qG Try.prog (bq .add 3 (.tmp 12) (.const (.int .i64 1)) x12 (.int .i64 1)) w fun t31 =>
  N1 [x1, x5, x11, t31] w

theorem crc_More_s1_eq (R : Value → World → Prop) (N1 : List Value → World → Prop) : ∀ e w, lift Try.prog 35 (sub (bodyOf Try.f51) [1, 1, 0, 1, 0, 0, 1, 1, 1]) (seqK (fun e w => N1 [e 1, e 5, e 11, e 12] w) (blockK 0 (seqK (fun e w => crc_More_s0 R (e 5) w) (finK Try.prog Try.f51.results.toList R)))) e w = crc_More_s1 R N1 (e 1) (e 5) (e 11) (e 12) w := fun e w => by kernel_rfl

def crc_More_b2 (R : Value → World → Prop) (N1 : List Value → World → Prop) (N2 : List Value → World → Prop) (x1 x5 x11 x12 x21 : Value) (w : World) : Prop :=
  qG Try.prog (bq .lss 3 (.tmp 21) (.const (.int .i64 8)) x21 (.int .i64 8)) w fun t22 =>
  bV t22
  (qG Try.prog (bq .shr 120 (.tmp 23) (.const (.int .u64 1)) x5 (.int .u64 1)) w fun t24 =>
  qG Try.prog (bq .and 120 (.tmp 25) (.const (.int .u32 1)) x5 (.int .u32 1)) w fun t26 =>
  qG Try.prog (Op.unary .neg t26) w fun t27 =>
  qG Try.prog (bq .and 120 (.const (.int .u32 3988292384)) (.tmp 27) (.int .u32 3988292384) t27) w fun t28 =>
  qG Try.prog (bq .xor 120 (.tmp 24) (.tmp 28) t24 t28) w fun t29 =>
  qG Try.prog (bq .add 3 (.tmp 21) (.const (.int .i64 1)) x21 (.int .i64 1)) w fun t30 =>
  N2 [x1, t29, x11, x12, t30] w)
  (crc_More_s1 R N1 x1 x5 x11 x12 w)

theorem crc_More_b2_eq (R : Value → World → Prop) (N1 : List Value → World → Prop) (N2 : List Value → World → Prop) : ∀ e w, lift Try.prog 35 (sub (bodyOf Try.f51) [1, 1, 0, 1, 0, 0, 1, 1, 0, 0, 1, 1, 1, 0, 0]) (seqK (fun e w => N2 [e 1, e 5, e 11, e 12, e 21] w) (blockK 2 (blockK 1 (seqK (fun e w => crc_More_s1 R N1 (e 1) (e 5) (e 11) (e 12) w) (seqK (fun e w => N1 [e 1, e 5, e 11, e 12] w) (blockK 0 (seqK (fun e w => crc_More_s0 R (e 5) w) (finK Try.prog Try.f51.results.toList R)))))))) e w = crc_More_b2 R N1 N2 (e 1) (e 5) (e 11) (e 12) (e 21) w := fun e w => by kernel_rfl

def crc_More_L3F (R : Value → World → Prop) (N1 : List Value → World → Prop) (N2 : List Value → World → Prop) (xs : List Value) (w : World) : Prop :=
  match xs with
  | [x1, x5, x11, x12, x21] => crc_More_b2 R N1 N2 x1 x5 x11 x12 x21 w
  | _ => False

def crc_More_L3 (R : Value → World → Prop) (N1 : List Value → World → Prop) (x1 x5 x11 x12 x21 : Value) (w : World) : Prop :=
  ∃ m, loopV (crc_More_L3F R N1) m [x1, x5, x11, x12, x21] w

theorem crc_More_L3_eq (R : Value → World → Prop) (N1 : List Value → World → Prop) : ∀ e w, lift Try.prog 35 (sub (bodyOf Try.f51) [1, 1, 0, 1, 0, 0, 1, 1, 0, 0, 1, 1, 1, 0]) (blockK 2 (blockK 1 (seqK (fun e w => crc_More_s1 R N1 (e 1) (e 5) (e 11) (e 12) w) (seqK (fun e w => N1 [e 1, e 5, e 11, e 12] w) (blockK 0 (seqK (fun e w => crc_More_s0 R (e 5) w) (finK Try.prog Try.f51.results.toList R))))))) e w = crc_More_L3 R N1 (e 1) (e 5) (e 11) (e 12) (e 21) w := loop_seg (F := crc_More_L3F R N1) (sel := fun e => [e 1, e 5, e 11, e 12, e 21]) fun N2 => (crc_More_b2_eq R N1 N2)

def crc_More_s4 (R : Value → World → Prop) (N1 : List Value → World → Prop) (x1 x5 x11 x12 : Value) (w : World) : Prop :=
  ixS x1 x12 fun t18 =>
  cvI .u32 t18 fun t19 =>
  qG Try.prog (bq .xor 120 (.tmp 15) (.tmp 19) x5 t19) w fun t20 =>
  crc_More_L3 R N1 x1 t20 x11 x12 (.int .i64 0) w

theorem crc_More_s4_eq (R : Value → World → Prop) (N1 : List Value → World → Prop) : ∀ e w, lift Try.prog 35 (sub (bodyOf Try.f51) [1, 1, 0, 1, 0, 0, 1, 1, 0, 0]) (blockK 1 (seqK (fun e w => crc_More_s1 R N1 (e 1) (e 5) (e 11) (e 12) w) (seqK (fun e w => N1 [e 1, e 5, e 11, e 12] w) (blockK 0 (seqK (fun e w => crc_More_s0 R (e 5) w) (finK Try.prog Try.f51.results.toList R)))))) e w = crc_More_s4 R N1 (e 1) (e 5) (e 11) (e 12) w :=
  segs_eq (l := [(sub (bodyOf Try.f51) [1, 1, 0, 1, 0, 0, 1, 1, 0, 0, 0]), (sub (bodyOf Try.f51) [1, 1, 0, 1, 0, 0, 1, 1, 0, 0, 1, 0]), (sub (bodyOf Try.f51) [1, 1, 0, 1, 0, 0, 1, 1, 0, 0, 1, 1, 0])]) (y := (sub (bodyOf Try.f51) [1, 1, 0, 1, 0, 0, 1, 1, 0, 0, 1, 1, 1])) (Y := (fun e w => crc_More_L3 R N1 (e 1) (e 5) (e 11) (e 12) (e 21) w)) (crc_More_L3_eq R N1) (fun e w => by kernel_rfl)

def crc_More_s5 (R : Value → World → Prop) (N1 : List Value → World → Prop) (x1 x5 x11 x12 : Value) (w : World) : Prop :=
  qG Try.prog (bq .lss 3 (.tmp 12) (.tmp 11) x12 x11) w fun t13 =>
  bV t13
  (crc_More_s4 R N1 x1 x5 x11 x12 w)
  (crc_More_s0 R x5 w)

theorem crc_More_s5_eq (R : Value → World → Prop) (N1 : List Value → World → Prop) : ∀ e w, lift Try.prog 35 (sub (bodyOf Try.f51) [1, 1, 0, 1, 0, 0]) (seqK (fun e w => N1 [e 1, e 5, e 11, e 12] w) (blockK 0 (seqK (fun e w => crc_More_s0 R (e 5) w) (finK Try.prog Try.f51.results.toList R)))) e w = crc_More_s5 R N1 (e 1) (e 5) (e 11) (e 12) w :=
  segs_eq (l := [(sub (bodyOf Try.f51) [1, 1, 0, 1, 0, 0, 0]), (sub (bodyOf Try.f51) [1, 1, 0, 1, 0, 0, 1, 0])]) (y := (sub (bodyOf Try.f51) [1, 1, 0, 1, 0, 0, 1, 1])) (Y := (fun e w => crc_More_s4 R N1 (e 1) (e 5) (e 11) (e 12) w)) (seq_seg (x := (sub (bodyOf Try.f51) [1, 1, 0, 1, 0, 0, 1, 1, 0])) (y := (sub (bodyOf Try.f51) [1, 1, 0, 1, 0, 0, 1, 1, 1])) (crc_More_s1_eq R N1) (crc_More_s4_eq R N1)) (fun e w => by kernel_rfl)

def crc_More_L6F (R : Value → World → Prop) (N1 : List Value → World → Prop) (xs : List Value) (w : World) : Prop :=
  match xs with
  | [x1, x5, x11, x12] => crc_More_s5 R N1 x1 x5 x11 x12 w
  | _ => False

def crc_More_L6 (R : Value → World → Prop) (x1 x5 x11 x12 : Value) (w : World) : Prop :=
  ∃ m, loopV (crc_More_L6F R) m [x1, x5, x11, x12] w

theorem crc_More_L6_eq (R : Value → World → Prop) : ∀ e w, lift Try.prog 35 (sub (bodyOf Try.f51) [1, 1, 0, 1, 0]) (blockK 0 (seqK (fun e w => crc_More_s0 R (e 5) w) (finK Try.prog Try.f51.results.toList R))) e w = crc_More_L6 R (e 1) (e 5) (e 11) (e 12) w := loop_seg (F := crc_More_L6F R) (sel := fun e => [e 1, e 5, e 11, e 12]) fun N1 => (crc_More_s5_eq R N1)

def crc_More_s7 (R : Value → World → Prop) (x1 x5 : Value) (w : World) : Prop :=
  lenS x1 fun t11 =>
  crc_More_L6 R x1 x5 t11 (.int .i64 0) w

theorem crc_More_s7_eq (R : Value → World → Prop) : ∀ e w, lift Try.prog 35 (sub (bodyOf Try.f51) [1, 1, 0]) (seqK (fun e w => crc_More_s0 R (e 5) w) (finK Try.prog Try.f51.results.toList R)) e w = crc_More_s7 R (e 1) (e 5) w :=
  segs_eq (l := [(sub (bodyOf Try.f51) [1, 1, 0, 0])]) (y := (sub (bodyOf Try.f51) [1, 1, 0, 1])) (Y := (fun e w => crc_More_L6 R (e 1) (e 5) (e 11) (e 12) w)) (crc_More_L6_eq R) (fun e w => by kernel_rfl)

def crc_More_s8 (R : Value → World → Prop) (x0 x1 : Value) (w : World) : Prop :=
  cvI .u32 x0 fun t8 =>
  qG Try.prog (Op.unary .xor t8) w fun t9 =>
  crc_More_s7 R x1 t9 w

theorem crc_More_s8_eq (R : Value → World → Prop) : ∀ e w, lift Try.prog 35 (bodyOf Try.f51) (finK Try.prog Try.f51.results.toList R) e w = crc_More_s8 R (e 0) (e 1) w :=
  segs_eq (l := [(sub (bodyOf Try.f51) [0]), (sub (bodyOf Try.f51) [1, 0])]) (y := (sub (bodyOf Try.f51) [1, 1])) (Y := (fun e w => crc_More_s7 R (e 1) (e 5) w)) (seq_seg (x := (sub (bodyOf Try.f51) [1, 1, 0])) (y := (sub (bodyOf Try.f51) [1, 1, 1])) (crc_More_s0_eq R) (crc_More_s7_eq R)) (fun e w => by kernel_rfl)

def crc_More (R : Value → World → Prop) (x0 x1 : Value) (w : World) : Prop := crc_More_s8 R x0 x1 w
theorem crc_More_call {R : Value → World → Prop} {x0 x1 : Value} {w : World} (h : crc_More R x0 x1 w) : callG Try.prog 51 #[x0, x1] w R :=
  calls_lift_eq Try.mixed Try.func51 (args := [x0, x1]) rfl rfl rfl rfl ((crc_More_s8_eq R) (envOf [x0, x1]) w) (by kernel_rfl) h
/-! quayside/crc.Sum -/
def crc_Sum_s0 (R : Value → World → Prop) (x0 : Value) (w : World) : Prop :=
  callG Try.prog 51 #[(.int .i64 0), x0] w fun t4 w =>
  R t4 w

theorem crc_Sum_s0_eq (R : Value → World → Prop) : ∀ e w, lift Try.prog 5 (bodyOf Try.f52) (finK Try.prog Try.f52.results.toList R) e w = crc_Sum_s0 R (e 0) w := fun e w => by kernel_rfl

def crc_Sum (R : Value → World → Prop) (x0 : Value) (w : World) : Prop := crc_Sum_s0 R x0 w
theorem crc_Sum_call {R : Value → World → Prop} {x0 : Value} {w : World} (h : crc_Sum R x0 w) : callG Try.prog 52 #[x0] w R :=
  calls_lift_eq Try.mixed Try.func52 (args := [x0]) rfl rfl rfl rfl ((crc_Sum_s0_eq R) (envOf [x0]) w) (by kernel_rfl) h
/-! quayside/crc.Put -/
def crc_Put_s0 (R : Value → World → Prop) (x3 : Value) (w : World) : Prop :=
  slA 4 1 x3 none none fun t16 =>
  cvBS t16 w fun t17 =>
  R t17 w

theorem crc_Put_s0_eq (R : Value → World → Prop) : ∀ e w, lift Try.prog 18 (sub (bodyOf Try.f50) [1, 1, 1]) (finK Try.prog Try.f50.results.toList R) e w = crc_Put_s0 R (e 3) w := fun e w => by kernel_rfl

def crc_Put_b1 (R : Value → World → Prop) (N1 : List Value → World → Prop) (x0 x3 x5 : Value) (w : World) : Prop :=
  qG Try.prog (bq .lss 3 (.tmp 5) (.const (.int .i64 4)) x5 (.int .i64 4)) w fun t6 =>
  bV t6
  (qG Try.prog (bq .mul 3 (.const (.int .i64 8)) (.tmp 10) (.int .i64 8) x5) w fun t11 =>
  qG Try.prog (bq .shr 3 (.tmp 9) (.tmp 11) x0 t11) w fun t12 =>
  cvI .u8 t12 fun t13 =>
  iaA 4 1 x3 x5 fun t14 =>
  st1 t14 t13 w fun w =>
  qG Try.prog (bq .add 3 (.tmp 5) (.const (.int .i64 1)) x5 (.int .i64 1)) w fun t15 =>
  N1 [x0, x3, t15] w)
  (crc_Put_s0 R x3 w)

theorem crc_Put_b1_eq (R : Value → World → Prop) (N1 : List Value → World → Prop) : ∀ e w, lift Try.prog 18 (sub (bodyOf Try.f50) [1, 1, 0, 1, 0, 0]) (seqK (fun e w => N1 [e 0, e 3, e 5] w) (blockK 0 (seqK (fun e w => crc_Put_s0 R (e 3) w) (finK Try.prog Try.f50.results.toList R)))) e w = crc_Put_b1 R N1 (e 0) (e 3) (e 5) w := fun e w => by kernel_rfl

def crc_Put_L2F (R : Value → World → Prop) (N1 : List Value → World → Prop) (xs : List Value) (w : World) : Prop :=
  match xs with
  | [x0, x3, x5] => crc_Put_b1 R N1 x0 x3 x5 w
  | _ => False

def crc_Put_L2 (R : Value → World → Prop) (x0 x3 x5 : Value) (w : World) : Prop :=
  ∃ m, loopV (crc_Put_L2F R) m [x0, x3, x5] w

theorem crc_Put_L2_eq (R : Value → World → Prop) : ∀ e w, lift Try.prog 18 (sub (bodyOf Try.f50) [1, 1, 0, 1, 0]) (blockK 0 (seqK (fun e w => crc_Put_s0 R (e 3) w) (finK Try.prog Try.f50.results.toList R))) e w = crc_Put_L2 R (e 0) (e 3) (e 5) w := loop_seg (F := crc_Put_L2F R) (sel := fun e => [e 0, e 3, e 5]) fun N1 => (crc_Put_b1_eq R N1)

def crc_Put_s3 (R : Value → World → Prop) (x0 x3 : Value) (w : World) : Prop :=
  crc_Put_L2 R x0 x3 (.int .i64 0) w

theorem crc_Put_s3_eq (R : Value → World → Prop) : ∀ e w, lift Try.prog 18 (sub (bodyOf Try.f50) [1, 1, 0]) (seqK (fun e w => crc_Put_s0 R (e 3) w) (finK Try.prog Try.f50.results.toList R)) e w = crc_Put_s3 R (e 0) (e 3) w :=
  segs_eq (l := [(sub (bodyOf Try.f50) [1, 1, 0, 0])]) (y := (sub (bodyOf Try.f50) [1, 1, 0, 1])) (Y := (fun e w => crc_Put_L2 R (e 0) (e 3) (e 5) w)) (crc_Put_L2_eq R) (fun e w => by kernel_rfl)

def crc_Put_s4 (R : Value → World → Prop) (x0 : Value) (w : World) : Prop :=
  newG (zc Try.prog 119) 119 w fun t3 w =>
  crc_Put_s3 R x0 t3 w

theorem crc_Put_s4_eq (R : Value → World → Prop) : ∀ e w, lift Try.prog 18 (bodyOf Try.f50) (finK Try.prog Try.f50.results.toList R) e w = crc_Put_s4 R (e 0) w :=
  segs_eq (l := [(sub (bodyOf Try.f50) [0]), (sub (bodyOf Try.f50) [1, 0])]) (y := (sub (bodyOf Try.f50) [1, 1])) (Y := (fun e w => crc_Put_s3 R (e 0) (e 3) w)) (seq_seg (x := (sub (bodyOf Try.f50) [1, 1, 0])) (y := (sub (bodyOf Try.f50) [1, 1, 1])) (crc_Put_s0_eq R) (crc_Put_s3_eq R)) (fun e w => by kernel_rfl)

def crc_Put (R : Value → World → Prop) (x0 : Value) (w : World) : Prop := crc_Put_s4 R x0 w
theorem crc_Put_call {R : Value → World → Prop} {x0 : Value} {w : World} (h : crc_Put R x0 w) : callG Try.prog 50 #[x0] w R :=
  calls_lift_eq Try.mixed Try.func50 (args := [x0]) rfl rfl rfl rfl ((crc_Put_s4_eq R) (envOf [x0]) w) (by kernel_rfl) h
/-! quayside/crc.Take -/
def crc_Take_s0 (R : Value → World → Prop) (x3 : Value) (w : World) : Prop :=
  R x3 w

theorem crc_Take_s0_eq (R : Value → World → Prop) : ∀ e w, lift Try.prog 22 (sub (bodyOf Try.f69) [1, 1, 1, 1]) (finK Try.prog Try.f69.results.toList R) e w = crc_Take_s0 R (e 3) w := fun e w => by kernel_rfl

def crc_Take_b1 (R : Value → World → Prop) (N1 : List Value → World → Prop) (x0 x3 x8 : Value) (w : World) : Prop :=
  qG Try.prog (bq .lss 3 (.tmp 8) (.const (.int .i64 4)) x8 (.int .i64 4)) w fun t9 =>
  bV t9
  (ixS x0 x8 fun t14 =>
  cvI .i64 t14 fun t15 =>
  qG Try.prog (bq .mul 3 (.const (.int .i64 8)) (.tmp 16) (.int .i64 8) x8) w fun t17 =>
  qG Try.prog (bq .shl 3 (.tmp 15) (.tmp 17) t15 t17) w fun t18 =>
  qG Try.prog (bq .or 3 (.tmp 11) (.tmp 18) x3 t18) w fun t19 =>
  qG Try.prog (bq .add 3 (.tmp 8) (.const (.int .i64 1)) x8 (.int .i64 1)) w fun t20 =>
  N1 [x0, t19, t20] w)
  (crc_Take_s0 R x3 w)

theorem crc_Take_b1_eq (R : Value → World → Prop) (N1 : List Value → World → Prop) : ∀ e w, lift Try.prog 22 (sub (bodyOf Try.f69) [1, 1, 1, 0, 1, 0, 0]) (seqK (fun e w => N1 [e 0, e 3, e 8] w) (blockK 0 (seqK (fun e w => crc_Take_s0 R (e 3) w) (finK Try.prog Try.f69.results.toList R)))) e w = crc_Take_b1 R N1 (e 0) (e 3) (e 8) w := fun e w => by kernel_rfl

def crc_Take_L2F (R : Value → World → Prop) (N1 : List Value → World → Prop) (xs : List Value) (w : World) : Prop :=
  match xs with
  | [x0, x3, x8] => crc_Take_b1 R N1 x0 x3 x8 w
  | _ => False

def crc_Take_L2 (R : Value → World → Prop) (x0 x3 x8 : Value) (w : World) : Prop :=
  ∃ m, loopV (crc_Take_L2F R) m [x0, x3, x8] w

theorem crc_Take_L2_eq (R : Value → World → Prop) : ∀ e w, lift Try.prog 22 (sub (bodyOf Try.f69) [1, 1, 1, 0, 1, 0]) (blockK 0 (seqK (fun e w => crc_Take_s0 R (e 3) w) (finK Try.prog Try.f69.results.toList R))) e w = crc_Take_L2 R (e 0) (e 3) (e 8) w := loop_seg (F := crc_Take_L2F R) (sel := fun e => [e 0, e 3, e 8]) fun N1 => (crc_Take_b1_eq R N1)

def crc_Take_s3 (R : Value → World → Prop) (x0 x3 : Value) (w : World) : Prop :=
  crc_Take_L2 R x0 x3 (.int .i64 0) w

theorem crc_Take_s3_eq (R : Value → World → Prop) : ∀ e w, lift Try.prog 22 (sub (bodyOf Try.f69) [1, 1, 1, 0]) (seqK (fun e w => crc_Take_s0 R (e 3) w) (finK Try.prog Try.f69.results.toList R)) e w = crc_Take_s3 R (e 0) (e 3) w :=
  segs_eq (l := [(sub (bodyOf Try.f69) [1, 1, 1, 0, 0])]) (y := (sub (bodyOf Try.f69) [1, 1, 1, 0, 1])) (Y := (fun e w => crc_Take_L2 R (e 0) (e 3) (e 8) w)) (crc_Take_L2_eq R) (fun e w => by kernel_rfl)

def crc_Take_s4 (R : Value → World → Prop) (x0 : Value) (w : World) : Prop :=
  lenS x0 fun t6 =>
  qG Try.prog (bq .lss 3 (.tmp 6) (.const (.int .i64 4)) t6 (.int .i64 4)) w fun t7 =>
  bV t7
  (R (.int .i64 (-1)) w)
  (crc_Take_s3 R x0 (.int .i64 0) w)

theorem crc_Take_s4_eq (R : Value → World → Prop) : ∀ e w, lift Try.prog 22 (bodyOf Try.f69) (finK Try.prog Try.f69.results.toList R) e w = crc_Take_s4 R (e 0) w :=
  segs_eq (l := [(sub (bodyOf Try.f69) [0]), (sub (bodyOf Try.f69) [1, 0]), (sub (bodyOf Try.f69) [1, 1, 0])]) (y := (sub (bodyOf Try.f69) [1, 1, 1])) (Y := (fun e w => crc_Take_s3 R (e 0) (e 3) w)) (seq_seg (x := (sub (bodyOf Try.f69) [1, 1, 1, 0])) (y := (sub (bodyOf Try.f69) [1, 1, 1, 1])) (crc_Take_s0_eq R) (crc_Take_s3_eq R)) (fun e w => by kernel_rfl)

def crc_Take (R : Value → World → Prop) (x0 : Value) (w : World) : Prop := crc_Take_s4 R x0 w
theorem crc_Take_call {R : Value → World → Prop} {x0 : Value} {w : World} (h : crc_Take R x0 w) : callG Try.prog 69 #[x0] w R :=
  calls_lift_eq Try.mixed Try.func69 (args := [x0]) rfl rfl rfl rfl ((crc_Take_s4_eq R) (envOf [x0]) w) (by kernel_rfl) h
/-! quayside/quaysideref02.Put -/
def ref02_Put_s0 (R : Value → World → Prop) (x0 : Value) (w : World) : Prop :=
  qG Try.prog (bq .and 3 (.tmp 3) (.const (.int .i64 255)) x0 (.int .i64 255)) w fun t4 =>
  cvI .u8 t4 fun t5 =>
  qG Try.prog (bq .shr 3 (.tmp 6) (.const (.int .u64 8)) x0 (.int .u64 8)) w fun t7 =>
  qG Try.prog (bq .and 3 (.tmp 7) (.const (.int .i64 255)) t7 (.int .i64 255)) w fun t8 =>
  cvI .u8 t8 fun t9 =>
  qG Try.prog (bq .shr 3 (.tmp 10) (.const (.int .u64 16)) x0 (.int .u64 16)) w fun t11 =>
  qG Try.prog (bq .and 3 (.tmp 11) (.const (.int .i64 255)) t11 (.int .i64 255)) w fun t12 =>
  cvI .u8 t12 fun t13 =>
  qG Try.prog (bq .shr 3 (.tmp 14) (.const (.int .u64 24)) x0 (.int .u64 24)) w fun t15 =>
  qG Try.prog (bq .and 3 (.tmp 15) (.const (.int .i64 255)) t15 (.int .i64 255)) w fun t16 =>
  cvI .u8 t16 fun t17 =>
  bsl 5 1 4 (zc Try.prog 5) #[(0, t5), (1, t9), (2, t13), (3, t17)] w fun t18 w =>
  cvBS t18 w fun t19 =>
  R t19 w

theorem ref02_Put_s0_eq (R : Value → World → Prop) : ∀ e w, lift Try.prog 20 (bodyOf Try.f53) (finK Try.prog Try.f53.results.toList R) e w = ref02_Put_s0 R (e 0) w := fun e w => by kernel_rfl

def ref02_Put (R : Value → World → Prop) (x0 : Value) (w : World) : Prop := ref02_Put_s0 R x0 w
theorem ref02_Put_call {R : Value → World → Prop} {x0 : Value} {w : World} (h : ref02_Put R x0 w) : callG Try.prog 53 #[x0] w R :=
  calls_lift_eq Try.mixed Try.func53 (args := [x0]) rfl rfl rfl rfl ((ref02_Put_s0_eq R) (envOf [x0]) w) (by kernel_rfl) h
/-! quayside/quaysideref02.More -/
def ref02_More_s0 (R : Value → World → Prop) (x5 : Value) (w : World) : Prop :=
  qG Try.prog (bq .xor 3 (.tmp 35) (.const (.int .i64 4294967295)) x5 (.int .i64 4294967295)) w fun t36 =>
  R t36 w

theorem ref02_More_s0_eq (R : Value → World → Prop) : ∀ e w, lift Try.prog 37 (sub (bodyOf Try.f68) [1, 1, 1]) (finK Try.prog Try.f68.results.toList R) e w = ref02_More_s0 R (e 5) w := fun e w => by kernel_rfl

def ref02_More_s1 (R : Value → World → Prop) (N1 : List Value → World → Prop) (x1 x5 x6 : Value) (w : World) : Prop :=
  qG Try.prog (bq .add 3 (.tmp 15) (.const (.int .i64 1)) x6 (.int .i64 1)) w fun t16 =>
  N1 [x1, x5, t16] w

theorem ref02_More_s1_eq (R : Value → World → Prop) (N1 : List Value → World → Prop) : ∀ e w, lift Try.prog 37 (sub (bodyOf Try.f68) [1, 1, 0, 1, 0, 0, 1, 1]) (seqK (fun e w => N1 [e 1, e 5, e 6] w) (blockK 0 (seqK (fun e w => ref02_More_s0 R (e 5) w) (finK Try.prog Try.f68.results.toList R)))) e w = ref02_More_s1 R N1 (e 1) (e 5) (e 6) w := fun e w => by kernel_rfl

def ref02_More_b2 (R : Value → World → Prop) (N1 : List Value → World → Prop) (N2 : List Value → World → Prop) (x1 x5 x6 x7 : Value) (w : World) : Prop :=
  qG Try.prog (bq .lss 3 (.tmp 23) (.const (.int .i64 8)) x7 (.int .i64 8)) w fun t24 =>
  bV t24
  (qG Try.prog (bq .and 3 (.tmp 27) (.const (.int .i64 1)) x5 (.int .i64 1)) w fun t28 =>
  qG Try.prog (bq .eql 3 (.tmp 28) (.const (.int .i64 1)) t28 (.int .i64 1)) w fun t29 =>
  bV t29
  (qG Try.prog (bq .shr 3 (.tmp 30) (.const (.int .u64 1)) x5 (.int .u64 1)) w fun t31 =>
  qG Try.prog (bq .xor 3 (.tmp 31) (.const (.int .i64 3988292384)) t31 (.int .i64 3988292384)) w fun t32 =>
  qG Try.prog (bq .add 3 (.tmp 25) (.const (.int .i64 1)) x7 (.int .i64 1)) w fun t26 =>
  N2 [x1, t32, x6, t26] w)
  (qG Try.prog (bq .shr 3 (.tmp 33) (.const (.int .u64 1)) x5 (.int .u64 1)) w fun t34 =>
  qG Try.prog (bq .add 3 (.tmp 25) (.const (.int .i64 1)) x7 (.int .i64 1)) w fun t26_1 =>
  N2 [x1, t34, x6, t26_1] w))
  (ref02_More_s1 R N1 x1 x5 x6 w)

theorem ref02_More_b2_eq (R : Value → World → Prop) (N1 : List Value → World → Prop) (N2 : List Value → World → Prop) : ∀ e w, lift Try.prog 37 (sub (bodyOf Try.f68) [1, 1, 0, 1, 0, 0, 1, 0, 0, 1, 1, 0, 0]) (seqK (fun e w => N2 [e 1, e 5, e 6, e 7] w) (blockK 2 (blockK 1 (seqK (fun e w => ref02_More_s1 R N1 (e 1) (e 5) (e 6) w) (seqK (fun e w => N1 [e 1, e 5, e 6] w) (blockK 0 (seqK (fun e w => ref02_More_s0 R (e 5) w) (finK Try.prog Try.f68.results.toList R)))))))) e w = ref02_More_b2 R N1 N2 (e 1) (e 5) (e 6) (e 7) w := fun e w => by kernel_rfl

def ref02_More_L3F (R : Value → World → Prop) (N1 : List Value → World → Prop) (N2 : List Value → World → Prop) (xs : List Value) (w : World) : Prop :=
  match xs with
  | [x1, x5, x6, x7] => ref02_More_b2 R N1 N2 x1 x5 x6 x7 w
  | _ => False

def ref02_More_L3 (R : Value → World → Prop) (N1 : List Value → World → Prop) (x1 x5 x6 x7 : Value) (w : World) : Prop :=
  ∃ m, loopV (ref02_More_L3F R N1) m [x1, x5, x6, x7] w

theorem ref02_More_L3_eq (R : Value → World → Prop) (N1 : List Value → World → Prop) : ∀ e w, lift Try.prog 37 (sub (bodyOf Try.f68) [1, 1, 0, 1, 0, 0, 1, 0, 0, 1, 1, 0]) (blockK 2 (blockK 1 (seqK (fun e w => ref02_More_s1 R N1 (e 1) (e 5) (e 6) w) (seqK (fun e w => N1 [e 1, e 5, e 6] w) (blockK 0 (seqK (fun e w => ref02_More_s0 R (e 5) w) (finK Try.prog Try.f68.results.toList R))))))) e w = ref02_More_L3 R N1 (e 1) (e 5) (e 6) (e 7) w := loop_seg (F := ref02_More_L3F R N1) (sel := fun e => [e 1, e 5, e 6, e 7]) fun N2 => (ref02_More_b2_eq R N1 N2)

def ref02_More_s4 (R : Value → World → Prop) (N1 : List Value → World → Prop) (x1 x5 x6 : Value) (w : World) : Prop :=
  ixS x1 x6 fun t20 =>
  cvI .i64 t20 fun t21 =>
  qG Try.prog (bq .xor 3 (.tmp 17) (.tmp 21) x5 t21) w fun t22 =>
  ref02_More_L3 R N1 x1 t22 x6 (.int .i64 0) w

theorem ref02_More_s4_eq (R : Value → World → Prop) (N1 : List Value → World → Prop) : ∀ e w, lift Try.prog 37 (sub (bodyOf Try.f68) [1, 1, 0, 1, 0, 0, 1, 0, 0]) (blockK 1 (seqK (fun e w => ref02_More_s1 R N1 (e 1) (e 5) (e 6) w) (seqK (fun e w => N1 [e 1, e 5, e 6] w) (blockK 0 (seqK (fun e w => ref02_More_s0 R (e 5) w) (finK Try.prog Try.f68.results.toList R)))))) e w = ref02_More_s4 R N1 (e 1) (e 5) (e 6) w :=
  segs_eq (l := [(sub (bodyOf Try.f68) [1, 1, 0, 1, 0, 0, 1, 0, 0, 0]), (sub (bodyOf Try.f68) [1, 1, 0, 1, 0, 0, 1, 0, 0, 1, 0])]) (y := (sub (bodyOf Try.f68) [1, 1, 0, 1, 0, 0, 1, 0, 0, 1, 1])) (Y := (fun e w => ref02_More_L3 R N1 (e 1) (e 5) (e 6) (e 7) w)) (ref02_More_L3_eq R N1) (fun e w => by kernel_rfl)

def ref02_More_s5 (R : Value → World → Prop) (N1 : List Value → World → Prop) (x1 x5 x6 : Value) (w : World) : Prop :=
  lenS x1 fun t13 =>
  qG Try.prog (bq .lss 3 (.tmp 11) (.tmp 13) x6 t13) w fun t14 =>
  bV t14
  (ref02_More_s4 R N1 x1 x5 x6 w)
  (ref02_More_s0 R x5 w)

theorem ref02_More_s5_eq (R : Value → World → Prop) (N1 : List Value → World → Prop) : ∀ e w, lift Try.prog 37 (sub (bodyOf Try.f68) [1, 1, 0, 1, 0, 0]) (seqK (fun e w => N1 [e 1, e 5, e 6] w) (blockK 0 (seqK (fun e w => ref02_More_s0 R (e 5) w) (finK Try.prog Try.f68.results.toList R)))) e w = ref02_More_s5 R N1 (e 1) (e 5) (e 6) w :=
  segs_eq (l := [(sub (bodyOf Try.f68) [1, 1, 0, 1, 0, 0, 0])]) (y := (sub (bodyOf Try.f68) [1, 1, 0, 1, 0, 0, 1])) (Y := (fun e w => ref02_More_s4 R N1 (e 1) (e 5) (e 6) w)) (seq_seg (x := (sub (bodyOf Try.f68) [1, 1, 0, 1, 0, 0, 1, 0])) (y := (sub (bodyOf Try.f68) [1, 1, 0, 1, 0, 0, 1, 1])) (ref02_More_s1_eq R N1) (ref02_More_s4_eq R N1)) (fun e w => by kernel_rfl)

def ref02_More_L6F (R : Value → World → Prop) (N1 : List Value → World → Prop) (xs : List Value) (w : World) : Prop :=
  match xs with
  | [x1, x5, x6] => ref02_More_s5 R N1 x1 x5 x6 w
  | _ => False

def ref02_More_L6 (R : Value → World → Prop) (x1 x5 x6 : Value) (w : World) : Prop :=
  ∃ m, loopV (ref02_More_L6F R) m [x1, x5, x6] w

theorem ref02_More_L6_eq (R : Value → World → Prop) : ∀ e w, lift Try.prog 37 (sub (bodyOf Try.f68) [1, 1, 0, 1, 0]) (blockK 0 (seqK (fun e w => ref02_More_s0 R (e 5) w) (finK Try.prog Try.f68.results.toList R))) e w = ref02_More_L6 R (e 1) (e 5) (e 6) w := loop_seg (F := ref02_More_L6F R) (sel := fun e => [e 1, e 5, e 6]) fun N1 => (ref02_More_s5_eq R N1)

def ref02_More_s7 (R : Value → World → Prop) (x1 x5 : Value) (w : World) : Prop :=
  ref02_More_L6 R x1 x5 (.int .i64 0) w

theorem ref02_More_s7_eq (R : Value → World → Prop) : ∀ e w, lift Try.prog 37 (sub (bodyOf Try.f68) [1, 1, 0]) (seqK (fun e w => ref02_More_s0 R (e 5) w) (finK Try.prog Try.f68.results.toList R)) e w = ref02_More_s7 R (e 1) (e 5) w :=
  segs_eq (l := [(sub (bodyOf Try.f68) [1, 1, 0, 0])]) (y := (sub (bodyOf Try.f68) [1, 1, 0, 1])) (Y := (fun e w => ref02_More_L6 R (e 1) (e 5) (e 6) w)) (ref02_More_L6_eq R) (fun e w => by kernel_rfl)

def ref02_More_s8 (R : Value → World → Prop) (x0 x1 : Value) (w : World) : Prop :=
  qG Try.prog (bq .and 3 (.tmp 8) (.const (.int .i64 4294967295)) x0 (.int .i64 4294967295)) w fun t9 =>
  qG Try.prog (bq .xor 3 (.tmp 9) (.const (.int .i64 4294967295)) t9 (.int .i64 4294967295)) w fun t10 =>
  ref02_More_s7 R x1 t10 w

theorem ref02_More_s8_eq (R : Value → World → Prop) : ∀ e w, lift Try.prog 37 (bodyOf Try.f68) (finK Try.prog Try.f68.results.toList R) e w = ref02_More_s8 R (e 0) (e 1) w :=
  segs_eq (l := [(sub (bodyOf Try.f68) [0]), (sub (bodyOf Try.f68) [1, 0])]) (y := (sub (bodyOf Try.f68) [1, 1])) (Y := (fun e w => ref02_More_s7 R (e 1) (e 5) w)) (seq_seg (x := (sub (bodyOf Try.f68) [1, 1, 0])) (y := (sub (bodyOf Try.f68) [1, 1, 1])) (ref02_More_s0_eq R) (ref02_More_s7_eq R)) (fun e w => by kernel_rfl)

def ref02_More (R : Value → World → Prop) (x0 x1 : Value) (w : World) : Prop := ref02_More_s8 R x0 x1 w
theorem ref02_More_call {R : Value → World → Prop} {x0 x1 : Value} {w : World} (h : ref02_More R x0 x1 w) : callG Try.prog 68 #[x0, x1] w R :=
  calls_lift_eq Try.mixed Try.func68 (args := [x0, x1]) rfl rfl rfl rfl ((ref02_More_s8_eq R) (envOf [x0, x1]) w) (by kernel_rfl) h
/-! quayside/quaysideref02.Sum -/
def ref02_Sum_s0 (R : Value → World → Prop) (x0 : Value) (w : World) : Prop :=
  callG Try.prog 68 #[(.int .i64 0), x0] w fun t4 w =>
  R t4 w

theorem ref02_Sum_s0_eq (R : Value → World → Prop) : ∀ e w, lift Try.prog 5 (bodyOf Try.f54) (finK Try.prog Try.f54.results.toList R) e w = ref02_Sum_s0 R (e 0) w := fun e w => by kernel_rfl

def ref02_Sum (R : Value → World → Prop) (x0 : Value) (w : World) : Prop := ref02_Sum_s0 R x0 w
theorem ref02_Sum_call {R : Value → World → Prop} {x0 : Value} {w : World} (h : ref02_Sum R x0 w) : callG Try.prog 54 #[x0] w R :=
  calls_lift_eq Try.mixed Try.func54 (args := [x0]) rfl rfl rfl rfl ((ref02_Sum_s0_eq R) (envOf [x0]) w) (by kernel_rfl) h
end Go.Proofs

set_option linter.unusedVariables false
set_option linter.unusedSimpArgs false
namespace Go.Proofs
open Go Go.Q
set_option maxRecDepth 100000
/-! quayside/quaysidelaw04.same -/
def law04_same_s0 (R : Value → World → Prop) (w : World) : Prop :=
  R (.bool true) w

theorem law04_same_s0_eq (R : Value → World → Prop) : ∀ e w, lift Try.prog 26 (sub (bodyOf Try.f34) [1, 1, 1]) (finK Try.prog Try.f34.results.toList R) e w = law04_same_s0 R w := fun e w => by kernel_rfl

def law04_same_b1 (R : Value → World → Prop) (N1 : List Value → World → Prop) (x0 x1 x5 : Value) (w : World) : Prop :=
  lenL x0 fun t13 =>
  qG Try.prog (bq .lss 3 (.tmp 11) (.tmp 13) x5 t13) w fun t14 =>
  bV t14
  (ia 1 x0 x5 fun t19 =>
  ld1 t19 (World.drew w) fun t20 =>
  ia 1 x1 x5 fun t23 =>
  ld1 t23 (World.drew w) fun t24 =>
  qG Try.prog (bq .neq 9 (.tmp 20) (.tmp 24) t20 t24) (World.drew w) fun t25 =>
  bV t25
  (R (.bool false) (World.drew w))
  (qG Try.prog (bq .add 3 (.tmp 15) (.const (.int .i64 1)) x5 (.int .i64 1)) (World.drew w) fun t16 =>
  N1 [x0, x1, t16] (World.drew w)))
  (law04_same_s0 R  w)

theorem law04_same_b1_eq (R : Value → World → Prop) (N1 : List Value → World → Prop) : ∀ e w, lift Try.prog 26 (sub (bodyOf Try.f34) [1, 1, 0, 1, 0, 0]) (seqK (fun e w => N1 [e 0, e 1, e 5] w) (blockK 0 (seqK (fun e w => law04_same_s0 R  w) (finK Try.prog Try.f34.results.toList R)))) e w = law04_same_b1 R N1 (e 0) (e 1) (e 5) w := fun e w => by kernel_rfl

def law04_same_L2F (R : Value → World → Prop) (N1 : List Value → World → Prop) (xs : List Value) (w : World) : Prop :=
  match xs with
  | [x0, x1, x5] => law04_same_b1 R N1 x0 x1 x5 w
  | _ => False

def law04_same_L2 (R : Value → World → Prop) (x0 x1 x5 : Value) (w : World) : Prop :=
  ∃ m, loopV (law04_same_L2F R) m [x0, x1, x5] w

theorem law04_same_L2_eq (R : Value → World → Prop) : ∀ e w, lift Try.prog 26 (sub (bodyOf Try.f34) [1, 1, 0, 1, 0]) (blockK 0 (seqK (fun e w => law04_same_s0 R  w) (finK Try.prog Try.f34.results.toList R))) e w = law04_same_L2 R (e 0) (e 1) (e 5) w := loop_seg (F := law04_same_L2F R) (sel := fun e => [e 0, e 1, e 5]) fun N1 => (law04_same_b1_eq R N1)

def law04_same_s3 (R : Value → World → Prop) (x0 x1 : Value) (w : World) : Prop :=
  law04_same_L2 R x0 x1 (.int .i64 0) w

theorem law04_same_s3_eq (R : Value → World → Prop) : ∀ e w, lift Try.prog 26 (sub (bodyOf Try.f34) [1, 1, 0]) (seqK (fun e w => law04_same_s0 R  w) (finK Try.prog Try.f34.results.toList R)) e w = law04_same_s3 R (e 0) (e 1) w :=
  segs_eq (l := [(sub (bodyOf Try.f34) [1, 1, 0, 0])]) (y := (sub (bodyOf Try.f34) [1, 1, 0, 1])) (Y := (fun e w => law04_same_L2 R (e 0) (e 1) (e 5) w)) (law04_same_L2_eq R) (fun e w => by kernel_rfl)

def law04_same_s4 (R : Value → World → Prop) (x0 x1 : Value) (w : World) : Prop :=
  lenL x0 fun t7 =>
  lenL x1 fun t9 =>
  qG Try.prog (bq .neq 3 (.tmp 7) (.tmp 9) t7 t9) w fun t10 =>
  bV t10
  (R (.bool false) w)
  (law04_same_s3 R x0 x1 w)

theorem law04_same_s4_eq (R : Value → World → Prop) : ∀ e w, lift Try.prog 26 (bodyOf Try.f34) (finK Try.prog Try.f34.results.toList R) e w = law04_same_s4 R (e 0) (e 1) w :=
  segs_eq (l := [(sub (bodyOf Try.f34) [0]), (sub (bodyOf Try.f34) [1, 0])]) (y := (sub (bodyOf Try.f34) [1, 1])) (Y := (fun e w => law04_same_s3 R (e 0) (e 1) w)) (seq_seg (x := (sub (bodyOf Try.f34) [1, 1, 0])) (y := (sub (bodyOf Try.f34) [1, 1, 1])) (law04_same_s0_eq R) (law04_same_s3_eq R)) (fun e w => by kernel_rfl)

def law04_same (R : Value → World → Prop) (x0 x1 : Value) (w : World) : Prop := law04_same_s4 R x0 x1 w
theorem law04_same_call {R : Value → World → Prop} {x0 x1 : Value} {w : World} (h : law04_same R x0 x1 w) : callG Try.prog 34 #[x0, x1] w R :=
  calls_lift_eq Try.mixed Try.func34 (args := [x0, x1]) rfl rfl rfl rfl ((law04_same_s4_eq R) (envOf [x0, x1]) w) (by kernel_rfl) h
/-! (*quayside/wal.Log).given -/
def wal_Log_given_s0 (R : Value → World → Prop) (x0 : Value) (w : World) : Prop :=
  qG Try.prog (bq .neq 64 (.tmp 3) (.const (.pointer none)) x0 (.pointer none)) w fun t4 =>
  bV t4
  (nk x0 fun t7 =>
  fa 0 t7 fun t8 =>
  ld1 t8 w fun t9 =>
  qG Try.prog (bq .neq 23 (.tmp 9) (.const (.pointer none)) t9 (.pointer none)) w fun t10 =>
  R t10 w)
  (R (.bool false) w)

theorem wal_Log_given_s0_eq (R : Value → World → Prop) : ∀ e w, lift Try.prog 12 (bodyOf Try.f60) (finK Try.prog Try.f60.results.toList R) e w = wal_Log_given_s0 R (e 0) w := fun e w => by kernel_rfl

def wal_Log_given (R : Value → World → Prop) (x0 : Value) (w : World) : Prop := wal_Log_given_s0 R x0 w
theorem wal_Log_given_call {R : Value → World → Prop} {x0 : Value} {w : World} (h : wal_Log_given R x0 w) : callG Try.prog 60 #[x0] w R :=
  calls_lift_eq Try.mixed Try.func60 (args := [x0]) rfl rfl rfl rfl ((wal_Log_given_s0_eq R) (envOf [x0]) w) (by kernel_rfl) h
/-! (*quayside/wal.Log).Records -/
def wal_Log_Records_s0 (R : Value → World → Prop) (x0 : Value) (w : World) : Prop :=
  callG Try.prog 60 #[x0] w fun t4 w =>
  qG Try.prog (Op.unary .not t4) w fun t5 =>
  bV t5
  (R (.slice none 0 0) w)
  (nk x0 fun t7 =>
  fa 4 t7 fun t8 =>
  ld1 t8 w fun t9 =>
  callG Try.prog 63 #[t9] w fun t10 w =>
  R t10 w)

theorem wal_Log_Records_s0_eq (R : Value → World → Prop) : ∀ e w, lift Try.prog 11 (bodyOf Try.f37) (finK Try.prog Try.f37.results.toList R) e w = wal_Log_Records_s0 R (e 0) w := fun e w => by kernel_rfl

def wal_Log_Records (R : Value → World → Prop) (x0 : Value) (w : World) : Prop := wal_Log_Records_s0 R x0 w
theorem wal_Log_Records_call {R : Value → World → Prop} {x0 : Value} {w : World} (h : wal_Log_Records R x0 w) : callG Try.prog 37 #[x0] w R :=
  calls_lift_eq Try.mixed Try.func37 (args := [x0]) rfl rfl rfl rfl ((wal_Log_Records_s0_eq R) (envOf [x0]) w) (by kernel_rfl) h
/-! (*quayside/wal.Log).Used -/
def wal_Log_Used_s0 (R : Value → World → Prop) (x0 : Value) (w : World) : Prop :=
  callG Try.prog 60 #[x0] w fun t4 w =>
  qG Try.prog (Op.unary .not t4) w fun t5 =>
  bV t5
  (R (.int .i64 0) w)
  (nk x0 fun t7 =>
  fa 5 t7 fun t8 =>
  ld1 t8 w fun t9 =>
  lenS t9 fun t10 =>
  R t10 w)

theorem wal_Log_Used_s0_eq (R : Value → World → Prop) : ∀ e w, lift Try.prog 11 (bodyOf Try.f38) (finK Try.prog Try.f38.results.toList R) e w = wal_Log_Used_s0 R (e 0) w := fun e w => by kernel_rfl

def wal_Log_Used (R : Value → World → Prop) (x0 : Value) (w : World) : Prop := wal_Log_Used_s0 R x0 w
theorem wal_Log_Used_call {R : Value → World → Prop} {x0 : Value} {w : World} (h : wal_Log_Used R x0 w) : callG Try.prog 38 #[x0] w R :=
  calls_lift_eq Try.mixed Try.func38 (args := [x0]) rfl rfl rfl rfl ((wal_Log_Used_s0_eq R) (envOf [x0]) w) (by kernel_rfl) h
/-! (*quayside/wal.Log).Sync -/
def wal_Log_Sync_s0 (R : Value → World → Prop) (x0 : Value) (w : World) : Prop :=
  callG Try.prog 60 #[x0] w fun t4 w =>
  qG Try.prog (Op.unary .not t4) w fun t5 =>
  bV t5
  (R (.int .i64 1) w)
  (nk x0 fun t7 =>
  fa 0 t7 fun t8 =>
  ld1 t8 w fun t9 =>
  callG Try.prog 15 #[t9] w fun t10 w =>
  R t10 w)

theorem wal_Log_Sync_s0_eq (R : Value → World → Prop) : ∀ e w, lift Try.prog 11 (bodyOf Try.f39) (finK Try.prog Try.f39.results.toList R) e w = wal_Log_Sync_s0 R (e 0) w := fun e w => by kernel_rfl

def wal_Log_Sync (R : Value → World → Prop) (x0 : Value) (w : World) : Prop := wal_Log_Sync_s0 R x0 w
theorem wal_Log_Sync_call {R : Value → World → Prop} {x0 : Value} {w : World} (h : wal_Log_Sync R x0 w) : callG Try.prog 39 #[x0] w R :=
  calls_lift_eq Try.mixed Try.func39 (args := [x0]) rfl rfl rfl rfl ((wal_Log_Sync_s0_eq R) (envOf [x0]) w) (by kernel_rfl) h
/-! slices.Clone[[]string,string] -/
def slices_Clone_string_string_s0 (R : Value → World → Prop) (x0 : Value) (w : World) : Prop :=
  qG Try.prog (bq .eql 36 (.tmp 3) (.const (.slice none 0 0)) x0 (.slice none 0 0)) w fun t4 =>
  bV t4
  (R (.slice none 0 0) w)
  (bsl 9 1 0 (zc Try.prog 9) #[] w fun t5 w =>
  app 9 1 16 (zc Try.prog 9) t5 x0 w fun t7 w =>
  R t7 w)

theorem slices_Clone_string_string_s0_eq (R : Value → World → Prop) : ∀ e w, lift Try.prog 8 (bodyOf Try.f63) (finK Try.prog Try.f63.results.toList R) e w = slices_Clone_string_string_s0 R (e 0) w := fun e w => by kernel_rfl

def slices_Clone_string_string (R : Value → World → Prop) (x0 : Value) (w : World) : Prop := slices_Clone_string_string_s0 R x0 w
theorem slices_Clone_string_string_call {R : Value → World → Prop} {x0 : Value} {w : World} (h : slices_Clone_string_string R x0 w) : callG Try.prog 63 #[x0] w R :=
  calls_lift_eq Try.mixed Try.func63 (args := [x0]) rfl rfl rfl rfl ((slices_Clone_string_string_s0_eq R) (envOf [x0]) w) (by kernel_rfl) h
/-! (*quayside/wal.Log).sectors -/
def wal_Log_sectors_s0 (R : Value → World → Prop) (w : World) : Prop :=
  R (.int .i64 0) w

theorem wal_Log_sectors_s0_eq (R : Value → World → Prop) : ∀ e w, lift Try.prog 23 (sub (bodyOf Try.f56) [1, 1]) (finK Try.prog Try.f56.results.toList R) e w = wal_Log_sectors_s0 R w := fun e w => by kernel_rfl

def wal_Log_sectors_b1 (R : Value → World → Prop) (N1 : List Value → World → Prop) (x2 x3 x9 : Value) (w : World) : Prop :=
  qG Try.prog (bq .lss 3 (.tmp 12) (.tmp 13) x9 x2) w fun t14 =>
  bV t14
  (callV Try.prog x3 #[x9] w fun t19 w =>
  qG Try.prog (bq .neq 24 (.tmp 20) (.const (.int .i64 0)) t19 (.int .i64 0)) w fun t21 =>
  bV t21
  (R t19 w)
  (qG Try.prog (bq .add 3 (.tmp 15) (.const (.int .i64 1)) x9 (.int .i64 1)) w fun t16 =>
  N1 [x2, x3, t16] w))
  (wal_Log_sectors_s0 R  w)

theorem wal_Log_sectors_b1_eq (R : Value → World → Prop) (N1 : List Value → World → Prop) : ∀ e w, lift Try.prog 23 (sub (bodyOf Try.f56) [1, 0, 1, 0, 0]) (seqK (fun e w => N1 [e 2, e 3, e 9] w) (blockK 0 (seqK (fun e w => wal_Log_sectors_s0 R  w) (finK Try.prog Try.f56.results.toList R)))) e w = wal_Log_sectors_b1 R N1 (e 2) (e 3) (e 9) w := fun e w => by kernel_rfl

def wal_Log_sectors_L2F (R : Value → World → Prop) (N1 : List Value → World → Prop) (xs : List Value) (w : World) : Prop :=
  match xs with
  | [x2, x3, x9] => wal_Log_sectors_b1 R N1 x2 x3 x9 w
  | _ => False

def wal_Log_sectors_L2 (R : Value → World → Prop) (x2 x3 x9 : Value) (w : World) : Prop :=
  ∃ m, loopV (wal_Log_sectors_L2F R) m [x2, x3, x9] w

theorem wal_Log_sectors_L2_eq (R : Value → World → Prop) : ∀ e w, lift Try.prog 23 (sub (bodyOf Try.f56) [1, 0, 1, 0]) (blockK 0 (seqK (fun e w => wal_Log_sectors_s0 R  w) (finK Try.prog Try.f56.results.toList R))) e w = wal_Log_sectors_L2 R (e 2) (e 3) (e 9) w := loop_seg (F := wal_Log_sectors_L2F R) (sel := fun e => [e 2, e 3, e 9]) fun N1 => (wal_Log_sectors_b1_eq R N1)

def wal_Log_sectors_s3 (R : Value → World → Prop) (x1 x2 x3 : Value) (w : World) : Prop :=
  wal_Log_sectors_L2 R x2 x3 x1 w

theorem wal_Log_sectors_s3_eq (R : Value → World → Prop) : ∀ e w, lift Try.prog 23 (sub (bodyOf Try.f56) [1, 0]) (seqK (fun e w => wal_Log_sectors_s0 R  w) (finK Try.prog Try.f56.results.toList R)) e w = wal_Log_sectors_s3 R (e 1) (e 2) (e 3) w :=
  segs_eq (l := [(sub (bodyOf Try.f56) [1, 0, 0])]) (y := (sub (bodyOf Try.f56) [1, 0, 1])) (Y := (fun e w => wal_Log_sectors_L2 R (e 2) (e 3) (e 9) w)) (wal_Log_sectors_L2_eq R) (fun e w => by kernel_rfl)

def wal_Log_sectors_s4 (R : Value → World → Prop) (x1 x2 x3 : Value) (w : World) : Prop :=
  wal_Log_sectors_s3 R x1 x2 x3 w

theorem wal_Log_sectors_s4_eq (R : Value → World → Prop) : ∀ e w, lift Try.prog 23 (bodyOf Try.f56) (finK Try.prog Try.f56.results.toList R) e w = wal_Log_sectors_s4 R (e 1) (e 2) (e 3) w :=
  segs_eq (l := [(sub (bodyOf Try.f56) [0])]) (y := (sub (bodyOf Try.f56) [1])) (Y := (fun e w => wal_Log_sectors_s3 R (e 1) (e 2) (e 3) w)) (seq_seg (x := (sub (bodyOf Try.f56) [1, 0])) (y := (sub (bodyOf Try.f56) [1, 1])) (wal_Log_sectors_s0_eq R) (wal_Log_sectors_s3_eq R)) (fun e w => by kernel_rfl)

def wal_Log_sectors (R : Value → World → Prop) (x0 x1 x2 x3 : Value) (w : World) : Prop := wal_Log_sectors_s4 R x1 x2 x3 w
theorem wal_Log_sectors_call {R : Value → World → Prop} {x0 x1 x2 x3 : Value} {w : World} (h : wal_Log_sectors R x0 x1 x2 x3 w) : callG Try.prog 56 #[x0, x1, x2, x3] w R :=
  calls_lift_eq Try.mixed Try.func56 (args := [x0, x1, x2, x3]) rfl rfl rfl rfl ((wal_Log_sectors_s4_eq R) (envOf [x0, x1, x2, x3]) w) (by kernel_rfl) h
/-! quayside/wal.Open -/
def wal_Open_s0 (R : Value → World → Prop) (x1 x2 x3 x4 : Value) (w : World) : Prop :=
  ld1 x4 w fun t32 =>
  bld [(0, 1), (1, 1), (2, 1), (3, 1), (4, 1), (5, 1)] (zc Try.prog 71) #[(0, t32), (1, x1), (2, x2), (3, x3)] fun t36 =>
  newG (Value.cells t36) 71 w fun t37 w =>
  newG (zc Try.prog 107) 107 w fun t11 w =>
  qG Try.prog (Instr.makeFunc (.func 57) #[] #[x4, t11]) w fun t41 =>
  callG Try.prog 56 #[t37, x1, x2, t41] w fun t42 w =>
  qG Try.prog (bq .neq 24 (.tmp 43) (.const (.int .i64 0)) t42 (.int .i64 0)) w fun t44 =>
  bV t44
  (R (.tuple #[(.pointer none), t42]) w)
  (callG Try.prog 59 #[t11] w fun t49 w =>
  callG Try.prog 32 #[x3, t49] w fun t50 w =>
  qG Try.prog (Instr.extract t50 0) w fun t51 =>
  qG Try.prog (Instr.extract t50 1) w fun t52 =>
  nk t37 fun t53 =>
  fa 4 t53 fun t54 =>
  st1 t54 t51 w fun w =>
  callG Try.prog 59 #[t11] w fun t56 w =>
  slS t56 none (some t52) fun t58 =>
  nk t37 fun t59 =>
  fa 5 t59 fun t60 =>
  st1 t60 t58 w fun w =>
  R (.tuple #[t37, (.int .i64 0)]) w)

theorem wal_Open_s0_eq (R : Value → World → Prop) : ∀ e w, lift Try.prog 62 (sub (bodyOf Try.f35) [1, 1]) (finK Try.prog Try.f35.results.toList R) e w = wal_Open_s0 R (e 1) (e 2) (e 3) (e 4) w := fun e w => by kernel_rfl

def wal_Open_s1 (R : Value → World → Prop) (x0 x1 x2 x3 : Value) (w : World) : Prop :=
  newG (Value.cells x0) 23 w fun t4 w =>
  qG Try.prog (bq .lss 3 (.tmp 14) (.const (.int .i64 0)) x1 (.int .i64 0)) w fun t15 =>
  bV t15
  (R (.tuple #[(.pointer none), (.int .i64 1)]) w)
  (ld1 t4 w fun t18 =>
  callG Try.prog 28 #[t18] w fun t19 w =>
  qG Try.prog (bq .gtr 3 (.tmp 17) (.tmp 19) x2 t19) w fun t20 =>
  bV t20
  (R (.tuple #[(.pointer none), (.int .i64 1)]) w)
  (qG Try.prog (bq .geq 3 (.tmp 23) (.tmp 24) x1 x2) w fun t25 =>
  bV t25
  (R (.tuple #[(.pointer none), (.int .i64 1)]) w)
  (callG Try.prog 49 #[x3] w fun t29 w =>
  qG Try.prog (Op.unary .not t29) w fun t30 =>
  bV t30
  (R (.tuple #[(.pointer none), (.int .i64 1)]) w)
  (wal_Open_s0 R x1 x2 x3 t4 w))))

theorem wal_Open_s1_eq (R : Value → World → Prop) : ∀ e w, lift Try.prog 62 (bodyOf Try.f35) (finK Try.prog Try.f35.results.toList R) e w = wal_Open_s1 R (e 0) (e 1) (e 2) (e 3) w :=
  segs_eq (l := [(sub (bodyOf Try.f35) [0]), (sub (bodyOf Try.f35) [1, 0])]) (y := (sub (bodyOf Try.f35) [1, 1])) (Y := (fun e w => wal_Open_s0 R (e 1) (e 2) (e 3) (e 4) w)) (wal_Open_s0_eq R) (fun e w => by kernel_rfl)

def wal_Open (R : Value → World → Prop) (x0 x1 x2 x3 : Value) (w : World) : Prop := wal_Open_s1 R x0 x1 x2 x3 w
theorem wal_Open_call {R : Value → World → Prop} {x0 x1 x2 x3 : Value} {w : World} (h : wal_Open R x0 x1 x2 x3 w) : callG Try.prog 35 #[x0, x1, x2, x3] w R :=
  calls_lift_eq Try.mixed Try.func35 (args := [x0, x1, x2, x3]) rfl rfl rfl rfl ((wal_Open_s1_eq R) (envOf [x0, x1, x2, x3]) w) (by kernel_rfl) h
/-! quayside/wal.Open$1 -/
def wal_Open_1_s0 (R : Value → World → Prop) (x0 x1 x2 : Value) (w : World) : Prop :=
  ld1 x1 w fun t8 =>
  callG Try.prog 17 #[t8, x0] w fun t10 w =>
  qG Try.prog (Instr.extract t10 0) w fun t11 =>
  qG Try.prog (Instr.extract t10 1) w fun t12 =>
  callG Try.prog 58 #[x2, t11] w fun t14 w =>
  R t12 w

theorem wal_Open_1_s0_eq (R : Value → World → Prop) : ∀ e w, lift Try.prog 16 (bodyOf Try.f57) (finK Try.prog Try.f57.results.toList R) e w = wal_Open_1_s0 R (e 0) (e 1) (e 2) w := fun e w => by kernel_rfl

def wal_Open_1 (R : Value → World → Prop) (x0 x1 x2 : Value) (w : World) : Prop := wal_Open_1_s0 R x0 x1 x2 w
theorem wal_Open_1_call {R : Value → World → Prop} {x0 x1 x2 : Value} {w : World} (h : wal_Open_1 R x0 x1 x2 w) : callG Try.prog 57 #[x0, x1, x2] w R :=
  calls_lift_eq Try.mixed Try.func57 (args := [x0, x1, x2]) rfl rfl rfl rfl ((wal_Open_1_s0_eq R) (envOf [x0, x1, x2]) w) (by kernel_rfl) h
/-! (*strings.Builder).WriteString -/
def strings_Builder_WriteString_s0 (R : Value → World → Prop) (x0 x1 : Value) (w : World) : Prop :=
  callG Try.prog 70 #[x0] w fun t7 w =>
  nk x0 fun t10 =>
  fa 1 t10 fun t11 =>
  ld1 t11 w fun t12 =>
  app 5 1 1 (zc Try.prog 5) t12 x1 w fun t14 w =>
  nk x0 fun t15 =>
  fa 1 t15 fun t16 =>
  st1 t16 t14 w fun w =>
  lenS x1 fun t18 =>
  R (.tuple #[t18, .nilIface]) w

theorem strings_Builder_WriteString_s0_eq (R : Value → World → Prop) : ∀ e w, lift Try.prog 19 (bodyOf Try.f58) (finK Try.prog Try.f58.results.toList R) e w = strings_Builder_WriteString_s0 R (e 0) (e 1) w := fun e w => by kernel_rfl

def strings_Builder_WriteString (R : Value → World → Prop) (x0 x1 : Value) (w : World) : Prop := strings_Builder_WriteString_s0 R x0 x1 w
theorem strings_Builder_WriteString_call {R : Value → World → Prop} {x0 x1 : Value} {w : World} (h : strings_Builder_WriteString R x0 x1 w) : callG Try.prog 58 #[x0, x1] w R :=
  calls_lift_eq Try.mixed Try.func58 (args := [x0, x1]) rfl rfl rfl rfl ((strings_Builder_WriteString_s0_eq R) (envOf [x0, x1]) w) (by kernel_rfl) h
/-! (*strings.Builder).copyCheck -/
def strings_Builder_copyCheck_s0 (R : Value → World → Prop) (x0 : Value) (w : World) : Prop :=
  nk x0 fun t3 =>
  fa 0 t3 fun t4 =>
  ld1 t4 w fun t5 =>
  qG Try.prog (bq .eql 105 (.tmp 5) (.const (.pointer none)) t5 (.pointer none)) w fun t6 =>
  bV t6
  (eG Try.prog (convert 105 122 x0) w fun t9 w =>
  nG Try.prog (callFunc 71 #[t9]) w fun t10 w =>
  eG Try.prog (convert 122 105 t10) w fun t11 w =>
  nk x0 fun t12 =>
  fa 0 t12 fun t13 =>
  st1 t13 t11 w fun w =>
  R (.tuple #[]) w)
  (nk x0 fun t15 =>
  fa 0 t15 fun t16 =>
  ld1 t16 w fun t17 =>
  qG Try.prog (bq .neq 105 (.tmp 17) (.tmp 18) t17 x0) w fun t19 =>
  bV t19
  (False)
  (R (.tuple #[]) w))

theorem strings_Builder_copyCheck_s0_eq (R : Value → World → Prop) : ∀ e w, lift Try.prog 20 (bodyOf Try.f70) (finK Try.prog Try.f70.results.toList R) e w = strings_Builder_copyCheck_s0 R (e 0) w := fun e w => by kernel_rfl

def strings_Builder_copyCheck (R : Value → World → Prop) (x0 : Value) (w : World) : Prop := strings_Builder_copyCheck_s0 R x0 w
theorem strings_Builder_copyCheck_call {R : Value → World → Prop} {x0 : Value} {w : World} (h : strings_Builder_copyCheck R x0 w) : callG Try.prog 70 #[x0] w R :=
  calls_lift_eq Try.mixed Try.func70 (args := [x0]) rfl rfl rfl rfl ((strings_Builder_copyCheck_s0_eq R) (envOf [x0]) w) (by kernel_rfl) h
/-! (*strings.Builder).String -/
def strings_Builder_String_s0 (R : Value → World → Prop) (x0 : Value) (w : World) : Prop :=
  nk x0 fun t4 =>
  fa 1 t4 fun t5 =>
  ld1 t5 (World.drew w) fun t6 =>
  nk x0 fun t9 =>
  fa 1 t9 fun t10 =>
  ld1 t10 (World.drew w) fun t11 =>
  lenL t11 fun t12 =>
  eG Try.prog (Builtin.unsafeSliceData_ #[89] 121 #[t6]) (World.drew w) fun t7 w =>
  ld1 t10 w (fun u => u = t11) ∧
  eG Try.prog (Builtin.unsafeString_ #[121, 3] 9 #[t7, t12]) w fun t13 w =>
  R t13 w

theorem strings_Builder_String_s0_eq (R : Value → World → Prop) : ∀ e w, lift Try.prog 14 (bodyOf Try.f59) (finK Try.prog Try.f59.results.toList R) e w = strings_Builder_String_s0 R (e 0) w := fun e w => by kernel_rfl

def strings_Builder_String (R : Value → World → Prop) (x0 : Value) (w : World) : Prop := strings_Builder_String_s0 R x0 w
theorem strings_Builder_String_call {R : Value → World → Prop} {x0 : Value} {w : World} (h : strings_Builder_String R x0 w) : callG Try.prog 59 #[x0] w R :=
  calls_lift_eq Try.mixed Try.func59 (args := [x0]) rfl rfl rfl rfl ((strings_Builder_String_s0_eq R) (envOf [x0]) w) (by kernel_rfl) h
/-! (*strings.Builder).Len -/
def strings_Builder_Len_s0 (R : Value → World → Prop) (x0 : Value) (w : World) : Prop :=
  nk x0 fun t4 =>
  fa 1 t4 fun t5 =>
  ld1 t5 w fun t6 =>
  lenL t6 fun t7 =>
  R t7 w

theorem strings_Builder_Len_s0_eq (R : Value → World → Prop) : ∀ e w, lift Try.prog 8 (bodyOf Try.f61) (finK Try.prog Try.f61.results.toList R) e w = strings_Builder_Len_s0 R (e 0) w := fun e w => by kernel_rfl

def strings_Builder_Len (R : Value → World → Prop) (x0 : Value) (w : World) : Prop := strings_Builder_Len_s0 R x0 w
theorem strings_Builder_Len_call {R : Value → World → Prop} {x0 : Value} {w : World} (h : strings_Builder_Len R x0 w) : callG Try.prog 61 #[x0] w R :=
  calls_lift_eq Try.mixed Try.func61 (args := [x0]) rfl rfl rfl rfl ((strings_Builder_Len_s0_eq R) (envOf [x0]) w) (by kernel_rfl) h
/-! (*quayside/wal.Log).Add -/
def wal_Log_Add_s0 (R : Value → World → Prop) (x1 x2 x12 : Value) (w : World) : Prop :=
  ld1 x2 (World.drew w) fun t93 =>
  ld1 x2 (World.drew w) fun t94 =>
  ld1 x2 (World.drew w) fun t95 =>
  nk t95 fun t96 =>
  fa 4 t96 fun t97 =>
  ld1 t97 (World.drew w) fun t98 =>
  ld1 x12 (World.drew w) fun t101 =>
  app 9 1 16 (zc Try.prog 9) t98 x1 (World.drew w) fun t100 w =>
  ld1 x12 w (fun u => u = t101) ∧
  ld1 x2 w (fun u => u = t94) ∧
  ld1 x2 w (fun u => u = t93) ∧
  nk t93 fun t102 =>
  fa 4 t102 fun t103 =>
  st1 t103 t100 w fun w =>
  ld1 x12 w (fun u => u = t101) ∧
  ld1 x2 w (fun u => u = t94) ∧
  nk t94 fun t104 =>
  fa 5 t104 fun t105 =>
  st1 t105 t101 w fun w =>
  R (.int .i64 0) w

theorem wal_Log_Add_s0_eq (R : Value → World → Prop) : ∀ e w, lift Try.prog 106 (sub (bodyOf Try.f36) [1, 1, 1, 1, 1, 1, 1, 1, 1, 1]) (finK Try.prog Try.f36.results.toList R) e w = wal_Log_Add_s0 R (e 1) (e 2) (e 12) w := fun e w => by kernel_rfl

def wal_Log_Add_s1 (R : Value → World → Prop) (x1 x2 x5 x7 : Value) (w : World) : Prop :=
  bV x7
  (R (.int .i64 2) w)
  (ld1 x2 (World.drew w) fun t67 =>
  nk t67 fun t68 =>
  fa 5 t68 fun t69 =>
  ld1 t69 (World.drew w) fun t70 =>
  (callG Try.prog 59 #[x5] (World.drew w) fun t71 w =>
  ld1 t69 w (fun u => u = t70) ∧
  ld1 x2 w (fun u => u = t67) ∧
  qG Try.prog (bq .add 9 (.tmp 70) (.tmp 71) t70 t71) w fun t72 =>
  newG (zc Try.prog 9) 9 w fun t12 w =>
  stb Try.prog (bq .add 9 (.tmp 70) (.tmp 71) t70 t71) t72 w ∧
  ld1 t69 w (fun u => u = t70) ∧
  ld1 x2 w (fun u => u = t67) ∧
  st1 t12 t72 w fun w =>
  ld1 x2 w fun t73 =>
  nk t73 fun t74 =>
  fa 5 t74 fun t75 =>
  ld1 t75 w fun t76 =>
  lenS t76 fun t77 =>
  qG Try.prog (bq .quo 3 (.tmp 77) (.const (.int .i64 32)) t77 (.int .i64 32)) w fun t78 =>
  callG Try.prog 61 #[x5] w fun t79 w =>
  qG Try.prog (bq .gtr 3 (.tmp 79) (.const (.int .i64 0)) t79 (.int .i64 0)) w fun t80 =>
  bV t80
  (ld1 x2 w fun t81 =>
  ld1 t12 w fun t83 =>
  lenS t83 fun t84 =>
  qG Try.prog (bq .add 3 (.tmp 84) (.const (.int .i64 32)) t84 (.int .i64 32)) w fun t85 =>
  qG Try.prog (bq .sub 3 (.tmp 85) (.const (.int .i64 1)) t85 (.int .i64 1)) w fun t86 =>
  qG Try.prog (bq .quo 3 (.tmp 86) (.const (.int .i64 32)) t86 (.int .i64 32)) w fun t87 =>
  qG Try.prog (Instr.makeFunc (.func 62) #[] #[t12, x2]) w fun t88 =>
  callG Try.prog 56 #[t81, t78, t87, t88] w fun t89 w =>
  qG Try.prog (bq .neq 24 (.tmp 90) (.const (.int .i64 0)) t89 (.int .i64 0)) w fun t91 =>
  bV t91
  (R t89 w)
  (wal_Log_Add_s0 R x1 x2 t12 w))
  (wal_Log_Add_s0 R x1 x2 t12 w)) ∧
  (newG (zc Try.prog 9) 9 (World.drew w) fun t12_1 w =>
  ld1 t69 w (fun u => u = t70) ∧
  ld1 x2 w (fun u => u = t67) ∧
  callG Try.prog 59 #[x5] w fun t71_1 w =>
  ld1 t69 w (fun u => u = t70) ∧
  ld1 x2 w (fun u => u = t67) ∧
  qG Try.prog (bq .add 9 (.tmp 70) (.tmp 71) t70 t71_1) w fun t72_1 =>
  st1 t12_1 t72_1 w fun w =>
  ld1 x2 w fun t73_1 =>
  nk t73_1 fun t74_1 =>
  fa 5 t74_1 fun t75_1 =>
  ld1 t75_1 w fun t76_1 =>
  lenS t76_1 fun t77_1 =>
  qG Try.prog (bq .quo 3 (.tmp 77) (.const (.int .i64 32)) t77_1 (.int .i64 32)) w fun t78_1 =>
  callG Try.prog 61 #[x5] w fun t79_1 w =>
  qG Try.prog (bq .gtr 3 (.tmp 79) (.const (.int .i64 0)) t79_1 (.int .i64 0)) w fun t80_1 =>
  bV t80_1
  (ld1 x2 w fun t81_1 =>
  ld1 t12_1 w fun t83_1 =>
  lenS t83_1 fun t84_1 =>
  qG Try.prog (bq .add 3 (.tmp 84) (.const (.int .i64 32)) t84_1 (.int .i64 32)) w fun t85_1 =>
  qG Try.prog (bq .sub 3 (.tmp 85) (.const (.int .i64 1)) t85_1 (.int .i64 1)) w fun t86_1 =>
  qG Try.prog (bq .quo 3 (.tmp 86) (.const (.int .i64 32)) t86_1 (.int .i64 32)) w fun t87_1 =>
  qG Try.prog (Instr.makeFunc (.func 62) #[] #[t12_1, x2]) w fun t88_1 =>
  callG Try.prog 56 #[t81_1, t78_1, t87_1, t88_1] w fun t89_1 w =>
  qG Try.prog (bq .neq 24 (.tmp 90) (.const (.int .i64 0)) t89_1 (.int .i64 0)) w fun t91_1 =>
  bV t91_1
  (R t89_1 w)
  (wal_Log_Add_s0 R x1 x2 t12_1 w))
  (wal_Log_Add_s0 R x1 x2 t12_1 w)))

theorem wal_Log_Add_s1_eq (R : Value → World → Prop) : ∀ e w, lift Try.prog 106 (sub (bodyOf Try.f36) [1, 1, 1, 1, 1, 1]) (finK Try.prog Try.f36.results.toList R) e w = wal_Log_Add_s1 R (e 1) (e 2) (e 5) (e 7) w :=
  segs_eq (l := [(sub (bodyOf Try.f36) [1, 1, 1, 1, 1, 1, 0]), (sub (bodyOf Try.f36) [1, 1, 1, 1, 1, 1, 1, 0]), (sub (bodyOf Try.f36) [1, 1, 1, 1, 1, 1, 1, 1, 0]), (sub (bodyOf Try.f36) [1, 1, 1, 1, 1, 1, 1, 1, 1, 0])]) (y := (sub (bodyOf Try.f36) [1, 1, 1, 1, 1, 1, 1, 1, 1, 1])) (Y := (fun e w => wal_Log_Add_s0 R (e 1) (e 2) (e 12) w)) (wal_Log_Add_s0_eq R) (fun e w => by kernel_rfl)

def wal_Log_Add_b2 (R : Value → World → Prop) (N1 : List Value → World → Prop) (x1 x2 x5 x6 x7 x34 x35 x36 : Value) (w : World) : Prop :=
  qG Try.prog (bq .lss 3 (.tmp 36) (.tmp 35) x36 x35) w fun t37 =>
  bV t37
  (ia 1 x34 x36 fun t38 =>
  ld1 t38 w fun t39 =>
  ld1 x2 w fun t41 =>
  nk t41 fun t42 =>
  fa 3 t42 fun t43 =>
  ld1 t43 w fun t44 =>
  callG Try.prog 30 #[t44, t39] w fun t46 w =>
  qG Try.prog (Instr.extract t46 0) w fun t47 =>
  qG Try.prog (Instr.extract t46 1) w fun t48 =>
  qG Try.prog (bq .neq 24 (.tmp 49) (.const (.int .i64 0)) t48 (.int .i64 0)) w fun t50 =>
  bV t50
  (R t48 w)
  (bV x7
  (qG Try.prog (Op.unary .not (.bool true)) w fun t62 =>
  bV t62
  (callG Try.prog 58 #[x5, t47] w fun t64 w =>
  qG Try.prog (bq .add 3 (.tmp 36) (.const (.int .i64 1)) x36 (.int .i64 1)) w fun t65 =>
  N1 [x1, x2, x5, x6, (.bool true), x34, x35, t65] w)
  (qG Try.prog (bq .add 3 (.tmp 36) (.const (.int .i64 1)) x36 (.int .i64 1)) w fun t65_1 =>
  N1 [x1, x2, x5, x6, (.bool true), x34, x35, t65_1] w))
  (lenS t47 fun t55 =>
  callG Try.prog 61 #[x5] w fun t57 w =>
  qG Try.prog (bq .sub 3 (.tmp 56) (.tmp 57) x6 t57) w fun t58 =>
  qG Try.prog (bq .gtr 3 (.tmp 55) (.tmp 58) t55 t58) w fun t59 =>
  qG Try.prog (Op.unary .not t59) w fun t62_1 =>
  bV t62_1
  (callG Try.prog 58 #[x5, t47] w fun t64_1 w =>
  qG Try.prog (bq .add 3 (.tmp 36) (.const (.int .i64 1)) x36 (.int .i64 1)) w fun t65_2 =>
  N1 [x1, x2, x5, x6, t59, x34, x35, t65_2] w)
  (qG Try.prog (bq .add 3 (.tmp 36) (.const (.int .i64 1)) x36 (.int .i64 1)) w fun t65_3 =>
  N1 [x1, x2, x5, x6, t59, x34, x35, t65_3] w))))
  (wal_Log_Add_s1 R x1 x2 x5 x7 w)

theorem wal_Log_Add_b2_eq (R : Value → World → Prop) (N1 : List Value → World → Prop) : ∀ e w, lift Try.prog 106 (sub (bodyOf Try.f36) [1, 1, 1, 1, 1, 0, 1, 0, 0]) (seqK (fun e w => N1 [e 1, e 2, e 5, e 6, e 7, e 34, e 35, e 36] w) (blockK 0 (seqK (fun e w => wal_Log_Add_s1 R (e 1) (e 2) (e 5) (e 7) w) (finK Try.prog Try.f36.results.toList R)))) e w = wal_Log_Add_b2 R N1 (e 1) (e 2) (e 5) (e 6) (e 7) (e 34) (e 35) (e 36) w := fun e w => by kernel_rfl

def wal_Log_Add_L3F (R : Value → World → Prop) (N1 : List Value → World → Prop) (xs : List Value) (w : World) : Prop :=
  match xs with
  | [x1, x2, x5, x6, x7, x34, x35, x36] => wal_Log_Add_b2 R N1 x1 x2 x5 x6 x7 x34 x35 x36 w
  | _ => False

def wal_Log_Add_L3 (R : Value → World → Prop) (x1 x2 x5 x6 x7 x34 x35 x36 : Value) (w : World) : Prop :=
  ∃ m, loopV (wal_Log_Add_L3F R) m [x1, x2, x5, x6, x7, x34, x35, x36] w

theorem wal_Log_Add_L3_eq (R : Value → World → Prop) : ∀ e w, lift Try.prog 106 (sub (bodyOf Try.f36) [1, 1, 1, 1, 1, 0, 1, 0]) (blockK 0 (seqK (fun e w => wal_Log_Add_s1 R (e 1) (e 2) (e 5) (e 7) w) (finK Try.prog Try.f36.results.toList R))) e w = wal_Log_Add_L3 R (e 1) (e 2) (e 5) (e 6) (e 7) (e 34) (e 35) (e 36) w := loop_seg (F := wal_Log_Add_L3F R) (sel := fun e => [e 1, e 2, e 5, e 6, e 7, e 34, e 35, e 36]) fun N1 => (wal_Log_Add_b2_eq R N1)

def wal_Log_Add_s4 (R : Value → World → Prop) (x1 x2 x5 x6 x7 : Value) (w : World) : Prop :=
  lenL x1 fun t35 =>
  wal_Log_Add_L3 R x1 x2 x5 x6 x7 x1 t35 (.int .i64 0) w

theorem wal_Log_Add_s4_eq (R : Value → World → Prop) : ∀ e w, lift Try.prog 106 (sub (bodyOf Try.f36) [1, 1, 1, 1, 1, 0]) (seqK (fun e w => wal_Log_Add_s1 R (e 1) (e 2) (e 5) (e 7) w) (finK Try.prog Try.f36.results.toList R)) e w = wal_Log_Add_s4 R (e 1) (e 2) (e 5) (e 6) (e 7) w :=
  segs_eq (l := [(sub (bodyOf Try.f36) [1, 1, 1, 1, 1, 0, 0])]) (y := (sub (bodyOf Try.f36) [1, 1, 1, 1, 1, 0, 1])) (Y := (fun e w => wal_Log_Add_L3 R (e 1) (e 2) (e 5) (e 6) (e 7) (e 34) (e 35) (e 36) w)) (wal_Log_Add_L3_eq R) (fun e w => by kernel_rfl)

def wal_Log_Add_s5 (R : Value → World → Prop) (x0 x1 : Value) (w : World) : Prop :=
  newG (Value.cells x0) 64 w fun t2 w =>
  ld1 t2 w fun t15 =>
  callG Try.prog 60 #[t15] w fun t16 w =>
  qG Try.prog (Op.unary .not t16) w fun t17 =>
  bV t17
  (R (.int .i64 1) w)
  (newG (zc Try.prog 107) 107 w fun t5 w =>
  ld1 t2 (World.drew w) fun t18 =>
  nk t18 fun t19 =>
  fa 2 t19 fun t20 =>
  ld1 t20 (World.drew w) fun t21 =>
  ld1 t2 (World.drew w) fun t22 =>
  nk t22 fun t23 =>
  fa 1 t23 fun t24 =>
  ld1 t24 (World.drew w) fun t25 =>
  qG Try.prog (bq .sub 3 (.tmp 21) (.tmp 25) t21 t25) (World.drew w) fun t26 =>
  qG Try.prog (bq .mul 3 (.const (.int .i64 32)) (.tmp 26) (.int .i64 32) t26) (World.drew w) fun t27 =>
  ld1 t2 (World.drew w) fun t28 =>
  nk t28 fun t29 =>
  fa 5 t29 fun t30 =>
  ld1 t30 (World.drew w) fun t31 =>
  lenS t31 fun t32 =>
  qG Try.prog (bq .sub 3 (.tmp 27) (.tmp 32) t27 t32) (World.drew w) fun t33 =>
  wal_Log_Add_s4 R x1 t2 t5 t33 (.bool false) (World.drew w))

theorem wal_Log_Add_s5_eq (R : Value → World → Prop) : ∀ e w, lift Try.prog 106 (bodyOf Try.f36) (finK Try.prog Try.f36.results.toList R) e w = wal_Log_Add_s5 R (e 0) (e 1) w :=
  segs_eq (l := [(sub (bodyOf Try.f36) [0]), (sub (bodyOf Try.f36) [1, 0]), (sub (bodyOf Try.f36) [1, 1, 0]), (sub (bodyOf Try.f36) [1, 1, 1, 0]), (sub (bodyOf Try.f36) [1, 1, 1, 1, 0])]) (y := (sub (bodyOf Try.f36) [1, 1, 1, 1, 1])) (Y := (fun e w => wal_Log_Add_s4 R (e 1) (e 2) (e 5) (e 6) (e 7) w)) (seq_seg (x := (sub (bodyOf Try.f36) [1, 1, 1, 1, 1, 0])) (y := (sub (bodyOf Try.f36) [1, 1, 1, 1, 1, 1])) (wal_Log_Add_s1_eq R) (wal_Log_Add_s4_eq R)) (fun e w => by kernel_rfl)

def wal_Log_Add (R : Value → World → Prop) (x0 x1 : Value) (w : World) : Prop := wal_Log_Add_s5 R x0 x1 w
theorem wal_Log_Add_call {R : Value → World → Prop} {x0 x1 : Value} {w : World} (h : wal_Log_Add R x0 x1 w) : callG Try.prog 36 #[x0, x1] w R :=
  calls_lift_eq Try.mixed Try.func36 (args := [x0, x1]) rfl rfl rfl rfl ((wal_Log_Add_s5_eq R) (envOf [x0, x1]) w) (by kernel_rfl) h
/-! (*quayside/wal.Log).Add$1 -/
def wal_Log_Add_1_s0 (R : Value → World → Prop) (x0 x1 x2 : Value) (w : World) : Prop :=
  ld1 x1 w fun t8 =>
  qG Try.prog (bq .mul 3 (.const (.int .i64 32)) (.tmp 9) (.int .i64 32) x0) w fun t10 =>
  qG Try.prog (bq .mul 3 (.const (.int .i64 32)) (.tmp 11) (.int .i64 32) x0) w fun t12 =>
  qG Try.prog (bq .add 3 (.tmp 12) (.const (.int .i64 32)) t12 (.int .i64 32)) w fun t13 =>
  ld1 x1 w fun t14 =>
  lenS t14 fun t15 =>
  qG Try.prog (Builtin.min_ #[3, 3] 3 #[t13, t15]) w fun t16 =>
  slS t8 (some t10) (some t16) fun t17 =>
  ld1 x2 (World.drew w) fun t19 =>
  nk t19 fun t20 =>
  fa 0 t20 fun t21 =>
  ld1 t21 (World.drew w) fun t22 =>
  ld1 x2 (World.drew w) fun t23 =>
  nk t23 fun t24 =>
  fa 1 t24 fun t25 =>
  ld1 t25 (World.drew w) fun t26 =>
  qG Try.prog (bq .add 3 (.tmp 26) (.tmp 27) t26 x0) (World.drew w) fun t28 =>
  callG Try.prog 17 #[t22, t28] (World.drew w) fun t29 w =>
  qG Try.prog (Instr.extract t29 0) w fun t30 =>
  qG Try.prog (Instr.extract t29 1) w fun t31 =>
  qG Try.prog (bq .neq 24 (.tmp 32) (.const (.int .i64 0)) t31 (.int .i64 0)) w fun t33 =>
  bV t33
  (R t31 w)
  (ld1 x2 (World.drew w) fun t35 =>
  nk t35 fun t36 =>
  fa 0 t36 fun t37 =>
  ld1 t37 (World.drew w) fun t38 =>
  ld1 x2 (World.drew w) fun t39 =>
  nk t39 fun t40 =>
  fa 1 t40 fun t41 =>
  ld1 t41 (World.drew w) fun t42 =>
  qG Try.prog (bq .add 3 (.tmp 42) (.tmp 43) t42 x0) (World.drew w) fun t44 =>
  lenS t17 fun t48 =>
  slS t30 (some t48) none fun t49 =>
  qG Try.prog (bq .add 9 (.tmp 45) (.tmp 49) t17 t49) (World.drew w) fun t50 =>
  callG Try.prog 13 #[t38, t44, t50] (World.drew w) fun t51 w =>
  R t51 w)

theorem wal_Log_Add_1_s0_eq (R : Value → World → Prop) : ∀ e w, lift Try.prog 52 (bodyOf Try.f62) (finK Try.prog Try.f62.results.toList R) e w = wal_Log_Add_1_s0 R (e 0) (e 1) (e 2) w := fun e w => by kernel_rfl

def wal_Log_Add_1 (R : Value → World → Prop) (x0 x1 x2 : Value) (w : World) : Prop := wal_Log_Add_1_s0 R x0 x1 x2 w
theorem wal_Log_Add_1_call {R : Value → World → Prop} {x0 x1 x2 : Value} {w : World} (h : wal_Log_Add_1 R x0 x1 x2 w) : callG Try.prog 62 #[x0, x1, x2] w R :=
  calls_lift_eq Try.mixed Try.func62 (args := [x0, x1, x2]) rfl rfl rfl rfl ((wal_Log_Add_1_s0_eq R) (envOf [x0, x1, x2]) w) (by kernel_rfl) h
/-! quayside/quaysidelaw04.awake -/
def law04_awake_s0 (R : Value → World → Prop) (x1 : Value) (w : World) : Prop :=
  callG Try.prog 35 #[x1, (.int .i64 1), (.int .i64 8), (.int .i64 3)] w fun t41 w =>
  qG Try.prog (Instr.extract t41 0) w fun t42 =>
  qG Try.prog (Instr.extract t41 1) w fun t43 =>
  callG Try.prog 35 #[x1, (.int .i64 1), (.int .i64 8), (.int .i64 4)] w fun t46 w =>
  qG Try.prog (Instr.extract t46 0) w fun t47 =>
  qG Try.prog (Instr.extract t46 1) w fun t48 =>
  qG Try.prog (bq .eql 24 (.tmp 49) (.const (.int .i64 0)) t43 (.int .i64 0)) w fun t50 =>
  bV t50
  (qG Try.prog (bq .neq 64 (.tmp 52) (.const (.pointer none)) t42 (.pointer none)) w fun t53 =>
  bV t53
  (callG Try.prog 37 #[t42] w fun t57 w =>
  bsl 9 1 2 (zc Try.prog 9) #[(0, (.string ⟨#[111, 110, 101]⟩)), (1, (.string ⟨#[116, 119, 111]⟩))] w fun t58 w =>
  callG Try.prog 34 #[t57, t58] w fun t59 w =>
  bV t59
  (callG Try.prog 38 #[t42] w fun t63 w =>
  qG Try.prog (bq .eql 3 (.tmp 63) (.const (.int .i64 26)) t63 (.int .i64 26)) w fun t64 =>
  bV t64
  (qG Try.prog (bq .eql 24 (.tmp 67) (.const (.int .i64 0)) t48 (.int .i64 0)) w fun t68 =>
  bV t68
  (qG Try.prog (bq .neq 64 (.tmp 71) (.const (.pointer none)) t47 (.pointer none)) w fun t72 =>
  bV t72
  (callG Try.prog 37 #[t47] w fun t76 w =>
  lenL t76 fun t77 =>
  qG Try.prog (bq .eql 3 (.tmp 77) (.const (.int .i64 0)) t77 (.int .i64 0)) w fun t78 =>
  R t78 w)
  (R (.bool false) w))
  (R (.bool false) w))
  (R (.bool false) w))
  (R (.bool false) w))
  (R (.bool false) w))
  (R (.bool false) w)

theorem law04_awake_s0_eq (R : Value → World → Prop) : ∀ e w, lift Try.prog 80 (sub (bodyOf Try.f29) [1, 1, 1, 1]) (finK Try.prog Try.f29.results.toList R) e w = law04_awake_s0 R (e 1) w := fun e w => by kernel_rfl

def law04_awake_s1 (R : Value → World → Prop) (w : World) : Prop :=
  callG Try.prog 12 #[(.int .i64 8)] w fun t10 w =>
  qG Try.prog (Instr.extract t10 0) w fun t11 =>
  qG Try.prog (Instr.extract t10 1) w fun t12 =>
  callG Try.prog 35 #[t11, (.int .i64 1), (.int .i64 8), (.int .i64 3)] w fun t15 w =>
  qG Try.prog (Instr.extract t15 0) w fun t16 =>
  qG Try.prog (Instr.extract t15 1) w fun t17 =>
  qG Try.prog (bq .neq 24 (.tmp 18) (.const (.int .i64 0)) t12 (.int .i64 0)) w fun t19 =>
  bV t19
  (R (.bool false) w)
  (qG Try.prog (bq .neq 24 (.tmp 21) (.const (.int .i64 0)) t17 (.int .i64 0)) w fun t22 =>
  bV t22
  (R (.bool false) w)
  (qG Try.prog (bq .eql 64 (.tmp 25) (.const (.pointer none)) t16 (.pointer none)) w fun t26 =>
  bV t26
  (R (.bool false) w)
  (bsl 9 1 2 (zc Try.prog 9) #[(0, (.string ⟨#[111, 110, 101]⟩)), (1, (.string ⟨#[116, 119, 111]⟩))] w fun t30 w =>
  callG Try.prog 36 #[t16, t30] w fun t31 w =>
  qG Try.prog (bq .neq 24 (.tmp 31) (.const (.int .i64 0)) t31 (.int .i64 0)) w fun t32 =>
  bV t32
  (R (.bool false) w)
  (callG Try.prog 39 #[t16] w fun t36 w =>
  qG Try.prog (bq .neq 24 (.tmp 36) (.const (.int .i64 0)) t36 (.int .i64 0)) w fun t37 =>
  bV t37
  (R (.bool false) w)
  (law04_awake_s0 R t11 w)))))

theorem law04_awake_s1_eq (R : Value → World → Prop) : ∀ e w, lift Try.prog 80 (bodyOf Try.f29) (finK Try.prog Try.f29.results.toList R) e w = law04_awake_s1 R w :=
  segs_eq (l := [(sub (bodyOf Try.f29) [0]), (sub (bodyOf Try.f29) [1, 0]), (sub (bodyOf Try.f29) [1, 1, 0]), (sub (bodyOf Try.f29) [1, 1, 1, 0])]) (y := (sub (bodyOf Try.f29) [1, 1, 1, 1])) (Y := (fun e w => law04_awake_s0 R (e 1) w)) (law04_awake_s0_eq R) (fun e w => by kernel_rfl)

def law04_awake (R : Value → World → Prop) (w : World) : Prop := law04_awake_s1 R  w
theorem law04_awake_call {R : Value → World → Prop} {w : World} (h : law04_awake R w) : callG Try.prog 29 #[] w R :=
  calls_lift_eq Try.mixed Try.func29 (args := []) rfl rfl rfl rfl ((law04_awake_s1_eq R) (envOf []) w) (by kernel_rfl) h
end Go.Proofs

set_option linter.unusedVariables false
set_option linter.unusedSimpArgs false
namespace Go.Proofs
open Go Go.Q
@[simp] theorem Try.isBool4 : isBoolT Try.prog 4 = true := by kernel_rfl
@[simp] theorem Try.isPtr15 : isPtr Try.prog 15 = true := by kernel_rfl
@[simp] theorem Try.isPtr16 : isPtr Try.prog 16 = true := by kernel_rfl
@[simp] theorem Try.isPtr17 : isPtr Try.prog 17 = true := by kernel_rfl
@[simp] theorem Try.isSl22 : isSl Try.prog 22 = true := by kernel_rfl
@[simp] theorem Try.isPtr23 : isPtr Try.prog 23 = true := by kernel_rfl
@[simp] theorem Try.isSl35 : isSl Try.prog 35 = true := by kernel_rfl
@[simp] theorem Try.isSl36 : isSl Try.prog 36 = true := by kernel_rfl
@[simp] theorem Try.isSl37 : isSl Try.prog 37 = true := by kernel_rfl
@[simp] theorem Try.isSl53 : isSl Try.prog 53 = true := by kernel_rfl
@[simp] theorem Try.isSl54 : isSl Try.prog 54 = true := by kernel_rfl
@[simp] theorem Try.isSl57 : isSl Try.prog 57 = true := by kernel_rfl
@[simp] theorem Try.isPtr64 : isPtr Try.prog 64 = true := by kernel_rfl
@[simp] theorem Try.isSl72 : isSl Try.prog 72 = true := by kernel_rfl
@[simp] theorem Try.isSl74 : isSl Try.prog 74 = true := by kernel_rfl
@[simp] theorem Try.isPtr75 : isPtr Try.prog 75 = true := by kernel_rfl
@[simp] theorem Try.isSl89 : isSl Try.prog 89 = true := by kernel_rfl
@[simp] theorem Try.isPtr105 : isPtr Try.prog 105 = true := by kernel_rfl
@[simp] theorem Try.isPtr121 : isPtr Try.prog 121 = true := by kernel_rfl
end Go.Proofs

/- Rules for the printed forms: bits, shifts, quotients. -/
set_option linter.unusedVariables false
set_option linter.unusedSimpArgs false
namespace Go.Q
variable {P : Program} {T : TypeId} {xo yo : Operand} {w : World} {K : Value → Prop} {u : Value}
theorem and_mask (x : Int) (m : Nat) (hm : m < 63) : IntKind.i64.wrap ((BitVec.ofInt 64 x &&& BitVec.ofInt 64 (2 ^ m - 1)).toNat : Int) = x % 2 ^ m := by
  have hp : (2 : Nat) ^ m ≤ 2 ^ 62 := Nat.pow_le_pow_right (by omega) (by omega)
  have hpos : 0 < (2 : Nat) ^ m := Nat.two_pow_pos m
  have h1 : (BitVec.ofInt 64 ((2 : Int) ^ m - 1)).toNat = 2 ^ m - 1 := by
    rw [BitVec.toNat_ofInt]
    have : ((2 : Int) ^ m - 1) = ((2 ^ m - 1 : Nat) : Int) := by
      rw [Int.ofNat_sub hpos]; simp
    rw [this]
    have hlt : 2 ^ m - 1 < 2 ^ 64 := by omega
    omega
  have h2 : ((BitVec.ofInt 64 x).toNat : Int) = x % 2 ^ 64 := by
    rw [BitVec.toNat_ofInt, Int.toNat_of_nonneg (Int.emod_nonneg _ (by decide))]
    rfl
  rw [BitVec.toNat_and, h1, Nat.and_two_pow_sub_one_eq_mod]
  have hd : ((2 : Int) ^ m) ∣ 2 ^ 64 := ⟨2 ^ (64 - m), by rw [← Int.pow_add, show m + (64 - m) = 64 by omega]⟩
  have h3 : (((BitVec.ofInt 64 x).toNat % 2 ^ m : Nat) : Int) = x % 2 ^ m := by
    rw [Int.natCast_emod, h2]
    have : ((2 ^ m : Nat) : Int) = (2 : Int) ^ m := by simp
    rw [this]
    exact Int.emod_emod_of_dvd x hd
  rw [h3]
  have hp' : (2 : Int) ^ m ≤ 2 ^ 62 := by
    have : ((2 ^ m : Nat) : Int) = (2 : Int) ^ m := by simp
    rw [← this]; omega
  have hpos' : (0 : Int) < 2 ^ m := Int.pow_pos (by omega)
  have := Int.emod_nonneg x (Int.ne_of_gt hpos')
  have := Int.emod_lt_of_pos x hpos'
  exact wrap64 _ (by omega) (by omega)
theorem run_and_mask {x c : Int} (m : Nat) (hm : m < 63) (hc : c = 2 ^ m - 1) : (bq .and T xo yo (.int .i64 x) (.int .i64 c)).run P w = .ok (.int .i64 (x % 2 ^ m)) w :=
  run_bq_int (s := .pure _) fun w => by
    have := and_mask x m hm
    rw [← hc] at this
    simp only [binOp, ne_eq, not_true_eq_false, if_false, Op.intBits]
    show Result.ok _ _ = Result.ok _ _
    congr 2
theorem and_of {x c : Int} (m : Nat) (hm : m < 63) (hc : c = 2 ^ m - 1) : qG P (bq .and T xo yo (.int .i64 x) (.int .i64 c)) w K = K (.int .i64 (x % 2 ^ m)) := qG_of (run_and_mask m hm hc)
theorem sand_of {x c : Int} (m : Nat) (hm : m < 63) (hc : c = 2 ^ m - 1) : stb P (bq .and T xo yo (.int .i64 x) (.int .i64 c)) u w = (.int .i64 (x % 2 ^ m) = u) := stb_of (run_and_mask m hm hc)
@[simp] theorem and1 {x : Int} : qG P (bq .and T xo yo (.int .i64 x) (.int .i64 1)) w K = K (.int .i64 (x % 2)) := and_of 1 (by omega) (by decide)
@[simp] theorem and7 {x : Int} : qG P (bq .and T xo yo (.int .i64 x) (.int .i64 7)) w K = K (.int .i64 (x % 8)) := and_of 3 (by omega) (by decide)
@[simp] theorem and15 {x : Int} : qG P (bq .and T xo yo (.int .i64 x) (.int .i64 15)) w K = K (.int .i64 (x % 16)) := and_of 4 (by omega) (by decide)
@[simp] theorem and127 {x : Int} : qG P (bq .and T xo yo (.int .i64 x) (.int .i64 127)) w K = K (.int .i64 (x % 128)) := and_of 7 (by omega) (by decide)
@[simp] theorem and255 {x : Int} : qG P (bq .and T xo yo (.int .i64 x) (.int .i64 255)) w K = K (.int .i64 (x % 256)) := and_of 8 (by omega) (by decide)
@[simp] theorem and511 {x : Int} : qG P (bq .and T xo yo (.int .i64 x) (.int .i64 511)) w K = K (.int .i64 (x % 512)) := and_of 9 (by omega) (by decide)
@[simp] theorem and65535 {x : Int} : qG P (bq .and T xo yo (.int .i64 x) (.int .i64 65535)) w K = K (.int .i64 (x % 65536)) := and_of 16 (by omega) (by decide)
@[simp] theorem sand1 {x : Int} : stb P (bq .and T xo yo (.int .i64 x) (.int .i64 1)) u w = (.int .i64 (x % 2) = u) := sand_of 1 (by omega) (by decide)
@[simp] theorem sand7 {x : Int} : stb P (bq .and T xo yo (.int .i64 x) (.int .i64 7)) u w = (.int .i64 (x % 8) = u) := sand_of 3 (by omega) (by decide)
@[simp] theorem sand255 {x : Int} : stb P (bq .and T xo yo (.int .i64 x) (.int .i64 255)) u w = (.int .i64 (x % 256) = u) := sand_of 8 (by omega) (by decide)
theorem run_shr {x y : Int} {k yk : IntKind} (h0 : 0 ≤ y) (h1 : y < k.bits) : (bq .shr T xo yo (.int k x) (.int yk y)).run P w = .ok (.int k (x / 2 ^ y.toNat)) w := by
  show (Op.shift .shr k x yk y).run P w = _
  have hn : ¬ y < 0 := by omega
  have hm : min y.toNat k.bits = y.toNat := by omega
  simp only [Op.shift, hn, if_false, hm]
  show Result.ok _ _ = Result.ok _ _
  congr 2
  exact (Int.fdiv_eq_ediv_of_nonneg x (Int.le_of_lt (Int.pow_pos (by omega))))
theorem shr_of {x y : Int} {k yk : IntKind} (h0 : 0 ≤ y) (h1 : y < k.bits) : qG P (bq .shr T xo yo (.int k x) (.int yk y)) w K = K (.int k (x / 2 ^ y.toNat)) := qG_of (run_shr h0 h1)
theorem run_rem {x y : Int} {k : IntKind} (hx : 0 ≤ x) (hy : 0 < y) : (bq .rem T xo yo (.int k x) (.int k y)).run P w = .ok (.int k (x % y)) w :=
  run_bq_int (s := .pure _) fun w => by
    have : ¬ y = 0 := by omega
    simp only [binOp, ne_eq, not_true_eq_false, if_false, Op.intDiv, this]
    show Result.ok _ _ = Result.ok _ _
    rw [Int.tmod_eq_emod_of_nonneg hx]
theorem rem_of {x y : Int} {k : IntKind} (hx : 0 ≤ x) (hy : 0 < y) : qG P (bq .rem T xo yo (.int k x) (.int k y)) w K = K (.int k (x % y)) := qG_of (run_rem hx hy)
theorem run_quo {x y : Int} {k : IntKind} (hx : 0 ≤ x) (hy : 0 < y) : (bq .quo T xo yo (.int k x) (.int k y)).run P w = .ok (.int k (k.wrap (x / y))) w :=
  run_bq_int (s := .pure _) fun w => by
    have : ¬ y = 0 := by omega
    simp only [binOp, ne_eq, not_true_eq_false, if_false, Op.intDiv, this]
    show Result.ok _ _ = Result.ok _ _
    rw [Int.tdiv_eq_ediv_of_nonneg hx]
theorem quo_of {x y : Int} {k : IntKind} (hx : 0 ≤ x) (hy : 0 < y) : qG P (bq .quo T xo yo (.int k x) (.int k y)) w K = K (.int k (k.wrap (x / y))) := qG_of (run_quo hx hy)
end Go.Q

/- Rules for the printed forms: or, xor and and of natural numbers, shifts to the left, negation and complement of 32 bits. -/
set_option linter.unusedVariables false
set_option linter.unusedSimpArgs false
namespace Go.Q
variable {P : Program} {T : TypeId} {xo yo : Operand} {w : World} {K : Value → Prop} {u : Value}
theorem ofInt_nat (n : Nat) (b : Nat) : (BitVec.ofInt b (n : Int)).toNat = n % 2 ^ b := by simp [BitVec.toNat_ofInt]
theorem wrap_nat64 {n : Nat} (h : n < 2 ^ 63) : IntKind.i64.wrap (n : Int) = n := wrap64 _ (by omega) (by omega)
theorem wrap_nat32 {n : Nat} (h : n < 2 ^ 32) : IntKind.u32.wrap (n : Int) = n := by
  simp [IntKind.wrap, IntKind.bits, IntKind.signed]; omega
theorem xor64_of {x y : Nat} (hx : x < 2 ^ 63) (hy : y < 2 ^ 63) : qG P (bq .xor T xo yo (.int .i64 x) (.int .i64 y)) w K = K (.int .i64 ((x ^^^ y : Nat) : Int)) :=
  qG_of (run_bq_int (s := .pure _) fun w => by
    have h2 : IntKind.i64.wrap ((BitVec.ofInt 64 (x : Int) ^^^ BitVec.ofInt 64 (y : Int)).toNat : Int) = ((x ^^^ y : Nat) : Int) := by
      rw [BitVec.toNat_xor, ofInt_nat, ofInt_nat, Nat.mod_eq_of_lt (by omega), Nat.mod_eq_of_lt (by omega)]; exact wrap_nat64 (Nat.xor_lt_two_pow hx hy)
    simp only [binOp, ne_eq, not_true_eq_false, if_false, Op.intBits]
    show Result.ok _ _ = Result.ok _ _
    congr 2)
theorem or64_of {x y : Nat} (hx : x < 2 ^ 63) (hy : y < 2 ^ 63) : qG P (bq .or T xo yo (.int .i64 x) (.int .i64 y)) w K = K (.int .i64 ((x ||| y : Nat) : Int)) :=
  qG_of (run_bq_int (s := .pure _) fun w => by
    have h2 : IntKind.i64.wrap ((BitVec.ofInt 64 (x : Int) ||| BitVec.ofInt 64 (y : Int)).toNat : Int) = ((x ||| y : Nat) : Int) := by
      rw [BitVec.toNat_or, ofInt_nat, ofInt_nat, Nat.mod_eq_of_lt (by omega), Nat.mod_eq_of_lt (by omega)]; exact wrap_nat64 (Nat.or_lt_two_pow hx hy)
    simp only [binOp, ne_eq, not_true_eq_false, if_false, Op.intBits]
    show Result.ok _ _ = Result.ok _ _
    congr 2)
theorem xor32_of {x y : Nat} (hx : x < 2 ^ 32) (hy : y < 2 ^ 32) : qG P (bq .xor T xo yo (.int .u32 x) (.int .u32 y)) w K = K (.int .u32 ((x ^^^ y : Nat) : Int)) :=
  qG_of (run_bq_int (s := .pure _) fun w => by
    have h2 : IntKind.u32.wrap ((BitVec.ofInt 32 (x : Int) ^^^ BitVec.ofInt 32 (y : Int)).toNat : Int) = ((x ^^^ y : Nat) : Int) := by
      rw [BitVec.toNat_xor, ofInt_nat, ofInt_nat, Nat.mod_eq_of_lt (by omega), Nat.mod_eq_of_lt (by omega)]; exact wrap_nat32 (Nat.xor_lt_two_pow hx hy)
    simp only [binOp, ne_eq, not_true_eq_false, if_false, Op.intBits]
    show Result.ok _ _ = Result.ok _ _
    congr 2)
theorem and32_of {x y : Nat} (hx : x < 2 ^ 32) (hy : y < 2 ^ 32) : qG P (bq .and T xo yo (.int .u32 x) (.int .u32 y)) w K = K (.int .u32 ((x &&& y : Nat) : Int)) :=
  qG_of (run_bq_int (s := .pure _) fun w => by
    have h2 : IntKind.u32.wrap ((BitVec.ofInt 32 (x : Int) &&& BitVec.ofInt 32 (y : Int)).toNat : Int) = ((x &&& y : Nat) : Int) := by
      rw [BitVec.toNat_and, ofInt_nat, ofInt_nat, Nat.mod_eq_of_lt (by omega), Nat.mod_eq_of_lt (by omega)]; exact wrap_nat32 (Nat.and_lt_two_pow _ hy)
    simp only [binOp, ne_eq, not_true_eq_false, if_false, Op.intBits]
    show Result.ok _ _ = Result.ok _ _
    congr 2)
theorem neg32_of {x : Nat} (hx : x < 2 ^ 32) : qG P (Op.unary .neg (.int .u32 x)) w K = K (.int .u32 (((2 ^ 32 - x) % 2 ^ 32 : Nat) : Int)) :=
  qG_of (by
    have : IntKind.u32.wrap (0 - (x : Int)) = (((2 ^ 32 - x) % 2 ^ 32 : Nat) : Int) := by
      simp [IntKind.wrap, IntKind.bits, IntKind.signed]; omega
    show Result.ok _ _ = Result.ok _ _
    congr 2)
theorem not32_of {x : Nat} (hx : x < 2 ^ 32) : qG P (Op.unary .xor (.int .u32 x)) w K = K (.int .u32 (((2 ^ 32 - 1) ^^^ x : Nat) : Int)) :=
  qG_of (by
    have h2 : IntKind.u32.wrap ((BitVec.ofInt 32 IntKind.u32.max ^^^ BitVec.ofInt 32 (x : Int)).toNat : Int) = (((2 ^ 32 - 1) ^^^ x : Nat) : Int) := by
      have hm : IntKind.u32.max = ((2 ^ 32 - 1 : Nat) : Int) := by decide
      rw [hm, BitVec.toNat_xor, ofInt_nat, ofInt_nat, Nat.mod_eq_of_lt (by omega), Nat.mod_eq_of_lt (by omega)]; exact wrap_nat32 (Nat.xor_lt_two_pow (by omega) hx)
    show Result.ok _ _ = Result.ok _ _
    congr 2)
theorem shl_of {x y : Int} {k yk : IntKind} (h0 : 0 ≤ y) (h1 : y < k.bits) : qG P (bq .shl T xo yo (.int k x) (.int yk y)) w K = K (.int k (k.wrap (x * 2 ^ y.toNat))) := by
  refine qG_of ?_
  show (Op.shift .shl k x yk y).run P w = _
  have hn : ¬ y < 0 := by omega
  have hm : min y.toNat k.bits = y.toNat := by omega
  simp only [Op.shift, hn, if_false, hm]
  rfl
end Go.Q

/- Layer 2, sums of texts: what each function computes; the document's too. -/
set_option linter.unusedVariables false
set_option linter.unusedSimpArgs false
namespace Go.Proofs
open Go Go.Q
def crcBit (c : Nat) : Nat := if c % 2 = 1 then (c / 2) ^^^ 3988292384 else c / 2
def crcBits : Nat → Nat → Nat
  | 0, c => c
  | n + 1, c => crcBit (crcBits n c)
def crcByte (c : Nat) (b : UInt8) : Nat := crcBits 8 (c ^^^ b.toNat)
def crcRun (c : Nat) (s : List UInt8) : Nat := s.foldl crcByte c
def crcMore (sum : Int) (s : List UInt8) : Nat := 4294967295 ^^^ crcRun (4294967295 ^^^ (sum % 4294967296).toNat) s
theorem crcBit_lt {c : Nat} (h : c < 2 ^ 32) : crcBit c < 2 ^ 32 := by
  unfold crcBit
  split
  · exact Nat.xor_lt_two_pow (by omega) (by omega)
  · omega
theorem crcBits_lt {c : Nat} (h : c < 2 ^ 32) : ∀ n, crcBits n c < 2 ^ 32 := by
  intro n
  induction n with
  | zero => exact h
  | succ n ih => exact crcBit_lt ih
theorem crcByte_lt {c : Nat} (h : c < 2 ^ 32) (b : UInt8) : crcByte c b < 2 ^ 32 := crcBits_lt (Nat.xor_lt_two_pow h (by have := b.toNat_lt; omega)) 8
theorem crcRun_lt {s : List UInt8} : ∀ {c : Nat}, c < 2 ^ 32 → crcRun c s < 2 ^ 32 := by
  induction s with
  | nil => intro c h; exact h
  | cons b s ih => intro c h; exact ih (crcByte_lt h b)
theorem crcRun_take {c : Nat} {s : List UInt8} {i : Nat} (hi : i < s.length) : crcRun c (s.take (i + 1)) = crcByte (crcRun c (s.take i)) s[i] := by
  rw [List.take_succ_eq_append_getElem hi]
  unfold crcRun
  rw [List.foldl_append]; rfl
theorem ixS_str {s : List UInt8} {kd : IntKind} {i : Nat} (hi : i < s.length) {K : Value → Prop} : ixS (.string (str s)) (.int kd i) K = K (.int .u8 s[i].toNat) := by
  have : (str s)[i]? = some s[i] := by
    have h : i < (str s).size := by simpa using hi
    rw [getElem?_pos (str s) i h]
    rfl
  unfold ixS
  simp only [Int.toNat_natCast, this]
  simp
/-- eight bits, as the program goes -/
theorem crc_step {c : Nat} (h : c < 2 ^ 32) : (c / 2) ^^^ (3988292384 &&& ((2 ^ 32 - c % 2) % 2 ^ 32)) = crcBit c := by
  unfold crcBit
  rcases Nat.mod_two_eq_zero_or_one c with h0 | h0
  · rw [h0, if_neg (by omega)]; simp
  · rw [h0, if_pos rfl]
    have : (2 ^ 32 - 1) % 2 ^ 32 = 4294967295 := by decide
    rw [this]
    rfl
theorem crcMore_lt (sum : Int) (s : List UInt8) : crcMore sum s < 2 ^ 32 := by
  unfold crcMore
  have h0 : (sum % 4294967296).toNat < 2 ^ 32 := by omega
  exact Nat.xor_lt_two_pow (by omega) (crcRun_lt (Nat.xor_lt_two_pow (by omega) h0))
theorem More_spec {w : World} (sum : Int) (s : List UInt8) (hs : s.length < 2 ^ 62) {K : Value → World → Prop} (hK : K (.int .i64 (crcMore sum s)) w) : callG Try.prog 51 #[.int .i64 sum, .string (str s)] w K := by
  refine crc_More_call ?_
  simp only [crc_More, crc_More_s8]
  obtain ⟨c0, hc0⟩ : ∃ c0, c0 = (sum % 4294967296).toNat := ⟨_, rfl⟩
  have hlt0 : c0 < 2 ^ 32 := by omega
  have hw : IntKind.u32.wrap sum = (c0 : Int) := by
    simp [IntKind.wrap, IntKind.bits, IntKind.signed]; omega
  simp only [cvI_i, hw]
  rw [not32_of hlt0]
  obtain ⟨c, hc⟩ : ∃ c, c = 4294967295 ^^^ c0 := ⟨_, rfl⟩
  have hlt : c < 2 ^ 32 := by rw [hc]; exact Nat.xor_lt_two_pow (by omega) hlt0
  have hcm : crcMore sum s = 4294967295 ^^^ crcRun c s := by unfold crcMore; rw [hc, hc0]
  have hc2 : (2 ^ 32 - 1) ^^^ c0 = c := by rw [hc]
  rw [hc2]
  rw [hcm] at hK
  unfold crc_More_s7 crc_More_L6
  simp only [lenS_s, str_size]
  refine loop_inv (fun m xs w' => ∃ i, i ≤ s.length ∧ m = s.length - i ∧ xs = [.string (str s), .int .u32 (crcRun c (s.take i)), .int .i64 s.length, .int .i64 (i : Nat)] ∧ w' = w)
    ?_ (m := s.length) ⟨0, by omega, rfl, rfl, rfl⟩
  rintro m N xs w' ⟨i, hi, rfl, rfl, rfl⟩ hN
  simp only [crc_More_L6F, crc_More_s5, bq_lss, bV_b]
  have hri := crcRun_lt (s := s.take i) hlt
  refine ⟨fun h => ?_, fun h => ?_⟩
  · have hi : i < s.length := by simpa using h
    have hN' := hN (s.length - (i + 1)) _ w' (by omega) ⟨i + 1, by omega, rfl, rfl, rfl⟩
    have hiw : IntKind.i64.wrap ((i : Int) + 1) = ((i + 1 : Nat) : Int) := by rw [w64 (by omega) (by omega)]; simp
    rw [crcRun_take hi] at hN'
    obtain ⟨r, hr⟩ : ∃ r, r = crcRun c (s.take i) := ⟨_, rfl⟩
    rw [← hr] at hri hN' ⊢
    unfold crc_More_s4
    rw [ixS_str hi]
    have hb := s[i].toNat_lt
    simp only [cvI_i, wrap_nat32 (show s[i].toNat < 2 ^ 32 by omega)]
    rw [xor32_of hri (by omega)]
    unfold crc_More_L3
    have hx : r ^^^ s[i].toNat < 2 ^ 32 := Nat.xor_lt_two_pow hri (by omega)
    obtain ⟨x, hxe⟩ : ∃ x, x = r ^^^ s[i].toNat := ⟨_, rfl⟩
    have hby : crcByte r s[i] = crcBits 8 x := by rw [hxe]; rfl
    rw [hby] at hN'
    rw [← hxe] at hx ⊢
    refine loop_inv (fun m xs w'' => ∃ j, j ≤ 8 ∧ m = 8 - j ∧ xs = [.string (str s), .int .u32 (crcBits j x), .int .i64 s.length, .int .i64 (i : Nat), .int .i64 (j : Nat)] ∧ w'' = w')
      ?_ (m := 8) ⟨0, by omega, rfl, rfl, rfl⟩
    rintro m N2 xs w'' ⟨j, hj, rfl, rfl, rfl⟩ hN2
    simp only [crc_More_L3F, crc_More_b2, bq_lss, bV_b]
    have hbl := crcBits_lt hx j
    refine ⟨fun h => ?_, fun h => ?_⟩
    · have hj : j < 8 := by simp at h; omega
      have hN2' := hN2 (8 - (j + 1)) _ w'' (by omega) ⟨j + 1, by omega, rfl, rfl, rfl⟩
      have hjw : IntKind.i64.wrap ((j : Int) + 1) = ((j + 1 : Nat) : Int) := by rw [w64 (by omega) (by omega)]; simp
      have hst := crc_step hbl
      have hcj : crcBits (j + 1) x = crcBit (crcBits j x) := rfl
      rw [hcj, ← hst] at hN2'
      obtain ⟨y, hy⟩ : ∃ y, y = crcBits j x := ⟨_, rfl⟩
      rw [← hy] at hbl hN2' ⊢
      rw [shr_of (by omega) (by decide)]
      have h1 : ((y : Int) / 2 ^ (1 : Int).toNat) = ((y / 2 : Nat) : Int) := by simp
      rw [h1]
      rw [show ((1 : Int)) = ((1 : Nat) : Int) from rfl, and32_of hbl (by omega), Nat.and_one_is_mod, neg32_of (by omega)]
      rw [show ((3988292384 : Int)) = ((3988292384 : Nat) : Int) from rfl, and32_of (by omega) (by omega)]
      have ha : 3988292384 &&& ((2 ^ 32 - y % 2) % 2 ^ 32) < 2 ^ 32 := Nat.and_lt_two_pow _ (by omega)
      rw [xor32_of (by omega) ha]
      simp only [bq_add]
      rw [show ((1 : Nat) : Int) = 1 from rfl, hjw]
      exact hN2'
    · have hje : j = 8 := by simp at h; omega
      subst hje
      unfold crc_More_s1
      simp only [bq_add, hiw]
      exact hN'
  · have hie : i = s.length := by simp at h; omega
    subst hie
    rw [List.take_length] at hri ⊢
    unfold crc_More_s0
    rw [not32_of hri]
    simp only [cvI_i]
    have hx : (2 ^ 32 - 1) ^^^ crcRun c s < 2 ^ 32 := Nat.xor_lt_two_pow (by omega) hri
    rw [wrap_nat64 (by omega)]
    exact hK
theorem Sum_spec {w : World} (s : List UInt8) (hs : s.length < 2 ^ 62) {K : Value → World → Prop} (hK : K (.int .i64 (crcMore 0 s)) w) : callG Try.prog 52 #[.string (str s)] w K := by
  refine crc_Sum_call ?_
  simp only [crc_Sum, crc_Sum_s0]
  exact More_spec 0 s hs hK
end Go.Proofs

set_option linter.unusedVariables false
set_option linter.unusedSimpArgs false
namespace Go.Proofs
open Go Go.Q
set_option maxRecDepth 100000
/-! quayside/disk.New -/
def disk_New_s0 (R : Value → World → Prop) (x0 : Value) (w : World) : Prop :=
  qG Try.prog (bq .lss 3 (.tmp 4) (.const (.int .i64 1)) x0 (.int .i64 1)) w fun t5 =>
  bV t5
  (R (.tuple #[(.pointer none), (.int .i64 1)]) w)
  (qG Try.prog (bq .gtr 3 (.tmp 7) (.const (.int .i64 4096)) x0 (.int .i64 4096)) w fun t8 =>
  bV t8
  (R (.tuple #[(.pointer none), (.int .i64 1)]) w)
  ((mkG 91 32 32 (zc Try.prog 91) x0 x0 (World.drew w) fun t11 w =>
  mkG 91 32 32 (zc Try.prog 91) x0 x0 w fun t13 w =>
  bld [(0, 1), (1, 1), (2, 1), (3, 1), (4, 1)] (zc Try.prog 56) #[(0, t11), (1, t13), (3, (.int .i64 (-1)))] fun t14 =>
  newG (Value.cells t14) 56 w fun t15 w =>
  R (.tuple #[t15, (.int .i64 0)]) w) ∧
  (mkG 91 32 32 (zc Try.prog 91) x0 x0 (World.drew w) fun t13_1 w =>
  mkG 91 32 32 (zc Try.prog 91) x0 x0 w fun t11_1 w =>
  bld [(0, 1), (1, 1), (2, 1), (3, 1), (4, 1)] (zc Try.prog 56) #[(0, t11_1), (1, t13_1), (3, (.int .i64 (-1)))] fun t14_1 =>
  newG (Value.cells t14_1) 56 w fun t15_1 w =>
  R (.tuple #[t15_1, (.int .i64 0)]) w)))

theorem disk_New_s0_eq (R : Value → World → Prop) : ∀ e w, lift Try.prog 16 (bodyOf Try.f12) (finK Try.prog Try.f12.results.toList R) e w = disk_New_s0 R (e 0) w := fun e w => by kernel_rfl

def disk_New (R : Value → World → Prop) (x0 : Value) (w : World) : Prop := disk_New_s0 R x0 w
theorem disk_New_call {R : Value → World → Prop} {x0 : Value} {w : World} (h : disk_New R x0 w) : callG Try.prog 12 #[x0] w R :=
  calls_lift_eq Try.mixed Try.func12 (args := [x0]) rfl rfl rfl rfl ((disk_New_s0_eq R) (envOf [x0]) w) (by kernel_rfl) h
/-! (*quayside/disk.Disk).Write -/
def disk_Disk_Write_s0 (R : Value → World → Prop) (x0 x1 x2 : Value) (w : World) : Prop :=
  callG Try.prog 45 #[x0] w fun t17 w =>
  qG Try.prog (Op.unary .not t17) w fun t18 =>
  bV t18
  (R (.int .i64 30) w)
  (nk x0 fun t20 =>
  fa 1 t20 fun t21 =>
  ld1 t21 w fun t22 =>
  ia 32 t22 x1 fun t24 =>
  slA 32 1 t24 none none fun t25 =>
  cp 1 t25 x2 w fun t27 w =>
  nk x0 fun t30 =>
  fa 2 t30 fun t31 =>
  ld1 t31 (World.drew w) fun t32 =>
  nk x0 fun t35 =>
  fa 1 t35 fun t36 =>
  ld1 t36 (World.drew w) fun t37 =>
  ia 32 t37 x1 fun t39 =>
  ldn 32 t39 (World.drew w) fun t40 =>
  bld [(0, 1), (1, 32)] (zc Try.prog 93) #[(0, x1), (1, t40)] fun t41 =>
  bsl 93 33 1 (zc Try.prog 93) #[(0, t41)] (World.drew w) fun t42 w =>
  ld1 t31 w (fun u => u = t32) ∧
  app 93 33 40 (zc Try.prog 93) t32 t42 w fun t43 w =>
  nk x0 fun t44 =>
  fa 2 t44 fun t45 =>
  st1 t45 t43 w fun w =>
  R (.int .i64 0) w)

theorem disk_Disk_Write_s0_eq (R : Value → World → Prop) : ∀ e w, lift Try.prog 46 (sub (bodyOf Try.f13) [1, 1]) (finK Try.prog Try.f13.results.toList R) e w = disk_Disk_Write_s0 R (e 0) (e 1) (e 2) w := fun e w => by kernel_rfl

def disk_Disk_Write_s1 (R : Value → World → Prop) (x0 x1 x2 : Value) (w : World) : Prop :=
  callG Try.prog 44 #[x0, x1] w fun t9 w =>
  qG Try.prog (Op.unary .not t9) w fun t10 =>
  bV t10
  (R (.int .i64 1) w)
  (lenS x2 fun t13 =>
  qG Try.prog (bq .neq 3 (.tmp 13) (.const (.int .i64 32)) t13 (.int .i64 32)) w fun t14 =>
  bV t14
  (R (.int .i64 1) w)
  (disk_Disk_Write_s0 R x0 x1 x2 w))

theorem disk_Disk_Write_s1_eq (R : Value → World → Prop) : ∀ e w, lift Try.prog 46 (bodyOf Try.f13) (finK Try.prog Try.f13.results.toList R) e w = disk_Disk_Write_s1 R (e 0) (e 1) (e 2) w :=
  segs_eq (l := [(sub (bodyOf Try.f13) [0]), (sub (bodyOf Try.f13) [1, 0])]) (y := (sub (bodyOf Try.f13) [1, 1])) (Y := (fun e w => disk_Disk_Write_s0 R (e 0) (e 1) (e 2) w)) (disk_Disk_Write_s0_eq R) (fun e w => by kernel_rfl)

def disk_Disk_Write (R : Value → World → Prop) (x0 x1 x2 : Value) (w : World) : Prop := disk_Disk_Write_s1 R x0 x1 x2 w
theorem disk_Disk_Write_call {R : Value → World → Prop} {x0 x1 x2 : Value} {w : World} (h : disk_Disk_Write R x0 x1 x2 w) : callG Try.prog 13 #[x0, x1, x2] w R :=
  calls_lift_eq Try.mixed Try.func13 (args := [x0, x1, x2]) rfl rfl rfl rfl ((disk_Disk_Write_s1_eq R) (envOf [x0, x1, x2]) w) (by kernel_rfl) h
/-! (*quayside/disk.Disk).has -/
def disk_Disk_has_s0 (R : Value → World → Prop) (x0 x1 : Value) (w : World) : Prop :=
  qG Try.prog (bq .geq 3 (.tmp 5) (.const (.int .i64 0)) x1 (.int .i64 0)) w fun t6 =>
  bV t6
  (callG Try.prog 28 #[x0] w fun t10 w =>
  qG Try.prog (bq .lss 3 (.tmp 8) (.tmp 10) x1 t10) w fun t11 =>
  R t11 w)
  (R (.bool false) w)

theorem disk_Disk_has_s0_eq (R : Value → World → Prop) : ∀ e w, lift Try.prog 13 (bodyOf Try.f44) (finK Try.prog Try.f44.results.toList R) e w = disk_Disk_has_s0 R (e 0) (e 1) w := fun e w => by kernel_rfl

def disk_Disk_has (R : Value → World → Prop) (x0 x1 : Value) (w : World) : Prop := disk_Disk_has_s0 R x0 x1 w
theorem disk_Disk_has_call {R : Value → World → Prop} {x0 x1 : Value} {w : World} (h : disk_Disk_has R x0 x1 w) : callG Try.prog 44 #[x0, x1] w R :=
  calls_lift_eq Try.mixed Try.func44 (args := [x0, x1]) rfl rfl rfl rfl ((disk_Disk_has_s0_eq R) (envOf [x0, x1]) w) (by kernel_rfl) h
/-! (*quayside/disk.Disk).Size -/
def disk_Disk_Size_s0 (R : Value → World → Prop) (x0 : Value) (w : World) : Prop :=
  qG Try.prog (bq .eql 23 (.tmp 3) (.const (.pointer none)) x0 (.pointer none)) w fun t4 =>
  bV t4
  (R (.int .i64 0) w)
  (nk x0 fun t6 =>
  fa 1 t6 fun t7 =>
  ld1 t7 w fun t8 =>
  lenL t8 fun t9 =>
  R t9 w)

theorem disk_Disk_Size_s0_eq (R : Value → World → Prop) : ∀ e w, lift Try.prog 10 (bodyOf Try.f28) (finK Try.prog Try.f28.results.toList R) e w = disk_Disk_Size_s0 R (e 0) w := fun e w => by kernel_rfl

def disk_Disk_Size (R : Value → World → Prop) (x0 : Value) (w : World) : Prop := disk_Disk_Size_s0 R x0 w
theorem disk_Disk_Size_call {R : Value → World → Prop} {x0 : Value} {w : World} (h : disk_Disk_Size R x0 w) : callG Try.prog 28 #[x0] w R :=
  calls_lift_eq Try.mixed Try.func28 (args := [x0]) rfl rfl rfl rfl ((disk_Disk_Size_s0_eq R) (envOf [x0]) w) (by kernel_rfl) h
/-! (*quayside/disk.Disk).burns -/
def disk_Disk_burns_s0 (R : Value → World → Prop) (x0 : Value) (w : World) : Prop :=
  nk x0 fun t25 =>
  fa 3 t25 fun t26 =>
  ld1 t26 w fun t27 =>
  qG Try.prog (bq .gtr 3 (.tmp 27) (.const (.int .i64 0)) t27 (.int .i64 0)) w fun t28 =>
  bV t28
  (nk x0 fun t30 =>
  fa 3 t30 fun t31 =>
  ld1 t31 w fun t32 =>
  qG Try.prog (bq .sub 3 (.tmp 32) (.const (.int .i64 1)) t32 (.int .i64 1)) w fun t33 =>
  nk x0 fun t34 =>
  fa 3 t34 fun t35 =>
  st1 t35 t33 w fun w =>
  R (.bool true) w)
  (R (.bool true) w)

theorem disk_Disk_burns_s0_eq (R : Value → World → Prop) : ∀ e w, lift Try.prog 36 (sub (bodyOf Try.f45) [1, 1]) (finK Try.prog Try.f45.results.toList R) e w = disk_Disk_burns_s0 R (e 0) w := fun e w => by kernel_rfl

def disk_Disk_burns_s1 (R : Value → World → Prop) (x0 : Value) (w : World) : Prop :=
  nk x0 fun t18 =>
  fa 4 t18 fun t19 =>
  ld1 t19 w fun t20 =>
  bV t20
  (nk x0 fun t22 =>
  fa 3 t22 fun t23 =>
  st1 t23 (.int .i64 (-1)) w fun w =>
  R (.bool false) w)
  (disk_Disk_burns_s0 R x0 w)

theorem disk_Disk_burns_s1_eq (R : Value → World → Prop) : ∀ e w, lift Try.prog 36 (sub (bodyOf Try.f45) [1, 0, 1]) (seqK (fun e w => disk_Disk_burns_s0 R (e 0) w) (finK Try.prog Try.f45.results.toList R)) e w = disk_Disk_burns_s1 R (e 0) w := fun e w => by kernel_rfl

def disk_Disk_burns_s2 (R : Value → World → Prop) (x0 : Value) (w : World) : Prop :=
  nk x0 fun t5 =>
  fa 4 t5 fun t6 =>
  ld1 t6 w fun t7 =>
  bV t7
  (nk x0 fun t15 =>
  fa 4 t15 fun t16 =>
  st1 t16 (.bool true) w fun w =>
  disk_Disk_burns_s1 R x0 w)
  (nk x0 fun t10 =>
  fa 3 t10 fun t11 =>
  ld1 t11 w fun t12 =>
  qG Try.prog (bq .eql 3 (.tmp 12) (.const (.int .i64 0)) t12 (.int .i64 0)) w fun t13 =>
  nk x0 fun t15_1 =>
  fa 4 t15_1 fun t16_1 =>
  st1 t16_1 t13 w fun w =>
  disk_Disk_burns_s1 R x0 w)

theorem disk_Disk_burns_s2_eq (R : Value → World → Prop) : ∀ e w, lift Try.prog 36 (sub (bodyOf Try.f45) [1, 0]) (seqK (fun e w => disk_Disk_burns_s0 R (e 0) w) (finK Try.prog Try.f45.results.toList R)) e w = disk_Disk_burns_s2 R (e 0) w :=
  segs_eq (l := [(sub (bodyOf Try.f45) [1, 0, 0])]) (y := (sub (bodyOf Try.f45) [1, 0, 1])) (Y := (fun e w => disk_Disk_burns_s1 R (e 0) w)) (disk_Disk_burns_s1_eq R) (fun e w => by kernel_rfl)

def disk_Disk_burns_s3 (R : Value → World → Prop) (x0 : Value) (w : World) : Prop :=
  disk_Disk_burns_s2 R x0 w

theorem disk_Disk_burns_s3_eq (R : Value → World → Prop) : ∀ e w, lift Try.prog 36 (bodyOf Try.f45) (finK Try.prog Try.f45.results.toList R) e w = disk_Disk_burns_s3 R (e 0) w :=
  segs_eq (l := [(sub (bodyOf Try.f45) [0])]) (y := (sub (bodyOf Try.f45) [1])) (Y := (fun e w => disk_Disk_burns_s2 R (e 0) w)) (seq_seg (x := (sub (bodyOf Try.f45) [1, 0])) (y := (sub (bodyOf Try.f45) [1, 1])) (disk_Disk_burns_s0_eq R) (disk_Disk_burns_s2_eq R)) (fun e w => by kernel_rfl)

def disk_Disk_burns (R : Value → World → Prop) (x0 : Value) (w : World) : Prop := disk_Disk_burns_s3 R x0 w
theorem disk_Disk_burns_call {R : Value → World → Prop} {x0 : Value} {w : World} (h : disk_Disk_burns R x0 w) : callG Try.prog 45 #[x0] w R :=
  calls_lift_eq Try.mixed Try.func45 (args := [x0]) rfl rfl rfl rfl ((disk_Disk_burns_s3_eq R) (envOf [x0]) w) (by kernel_rfl) h
/-! (*quayside/disk.Disk).Flush -/
def disk_Disk_Flush_s0 (R : Value → World → Prop) (x0 : Value) (w : World) : Prop :=
  callG Try.prog 46 #[x0] w fun t33 w =>
  R (.int .i64 0) w

theorem disk_Disk_Flush_s0_eq (R : Value → World → Prop) : ∀ e w, lift Try.prog 34 (sub (bodyOf Try.f15) [1, 1, 1]) (finK Try.prog Try.f15.results.toList R) e w = disk_Disk_Flush_s0 R (e 0) w := fun e w => by kernel_rfl

def disk_Disk_Flush_b1 (R : Value → World → Prop) (N1 : List Value → World → Prop) (x0 x16 x17 x18 : Value) (w : World) : Prop :=
  qG Try.prog (bq .lss 3 (.tmp 18) (.tmp 17) x18 x17) w fun t19 =>
  bV t19
  (ia 33 x16 x18 fun t20 =>
  ldn 33 t20 w fun t21 =>
  newG (zc Try.prog 93) 93 w fun t4 w =>
  stn 33 t4 t21 w fun w =>
  nk x0 fun t23 =>
  fa 0 t23 fun t24 =>
  ld1 t24 (World.drew w) fun t25 =>
  fa 0 t4 fun t26 =>
  ld1 t26 (World.drew w) fun t27 =>
  fa 1 t4 fun t28 =>
  ldn 32 t28 (World.drew w) fun t29 =>
  ia 32 t25 t27 fun t30 =>
  stn 32 t30 t29 (World.drew w) fun w =>
  qG Try.prog (bq .add 3 (.tmp 18) (.const (.int .i64 1)) x18 (.int .i64 1)) w fun t31 =>
  N1 [x0, x16, x17, t31] w)
  (disk_Disk_Flush_s0 R x0 w)

theorem disk_Disk_Flush_b1_eq (R : Value → World → Prop) (N1 : List Value → World → Prop) : ∀ e w, lift Try.prog 34 (sub (bodyOf Try.f15) [1, 1, 0, 1, 0, 0]) (seqK (fun e w => N1 [e 0, e 16, e 17, e 18] w) (blockK 1 (seqK (fun e w => disk_Disk_Flush_s0 R (e 0) w) (finK Try.prog Try.f15.results.toList R)))) e w = disk_Disk_Flush_b1 R N1 (e 0) (e 16) (e 17) (e 18) w := fun e w => by kernel_rfl

def disk_Disk_Flush_L2F (R : Value → World → Prop) (N1 : List Value → World → Prop) (xs : List Value) (w : World) : Prop :=
  match xs with
  | [x0, x16, x17, x18] => disk_Disk_Flush_b1 R N1 x0 x16 x17 x18 w
  | _ => False

def disk_Disk_Flush_L2 (R : Value → World → Prop) (x0 x16 x17 x18 : Value) (w : World) : Prop :=
  ∃ m, loopV (disk_Disk_Flush_L2F R) m [x0, x16, x17, x18] w

theorem disk_Disk_Flush_L2_eq (R : Value → World → Prop) : ∀ e w, lift Try.prog 34 (sub (bodyOf Try.f15) [1, 1, 0, 1, 0]) (blockK 1 (seqK (fun e w => disk_Disk_Flush_s0 R (e 0) w) (finK Try.prog Try.f15.results.toList R))) e w = disk_Disk_Flush_L2 R (e 0) (e 16) (e 17) (e 18) w := loop_seg (F := disk_Disk_Flush_L2F R) (sel := fun e => [e 0, e 16, e 17, e 18]) fun N1 => (disk_Disk_Flush_b1_eq R N1)

def disk_Disk_Flush_s3 (R : Value → World → Prop) (x0 : Value) (w : World) : Prop :=
  nk x0 fun t14 =>
  fa 2 t14 fun t15 =>
  ld1 t15 w fun t16 =>
  lenL t16 fun t17 =>
  disk_Disk_Flush_L2 R x0 t16 t17 (.int .i64 0) w

theorem disk_Disk_Flush_s3_eq (R : Value → World → Prop) : ∀ e w, lift Try.prog 34 (sub (bodyOf Try.f15) [1, 1, 0]) (seqK (fun e w => disk_Disk_Flush_s0 R (e 0) w) (finK Try.prog Try.f15.results.toList R)) e w = disk_Disk_Flush_s3 R (e 0) w :=
  segs_eq (l := [(sub (bodyOf Try.f15) [1, 1, 0, 0])]) (y := (sub (bodyOf Try.f15) [1, 1, 0, 1])) (Y := (fun e w => disk_Disk_Flush_L2 R (e 0) (e 16) (e 17) (e 18) w)) (disk_Disk_Flush_L2_eq R) (fun e w => by kernel_rfl)

def disk_Disk_Flush_s4 (R : Value → World → Prop) (x0 : Value) (w : World) : Prop :=
  callG Try.prog 28 #[x0] w fun t7 w =>
  qG Try.prog (bq .eql 3 (.tmp 7) (.const (.int .i64 0)) t7 (.int .i64 0)) w fun t8 =>
  bV t8
  (R (.int .i64 1) w)
  (callG Try.prog 45 #[x0] w fun t11 w =>
  qG Try.prog (Op.unary .not t11) w fun t12 =>
  bV t12
  (R (.int .i64 30) w)
  (disk_Disk_Flush_s3 R x0 w))

theorem disk_Disk_Flush_s4_eq (R : Value → World → Prop) : ∀ e w, lift Try.prog 34 (bodyOf Try.f15) (finK Try.prog Try.f15.results.toList R) e w = disk_Disk_Flush_s4 R (e 0) w :=
  segs_eq (l := [(sub (bodyOf Try.f15) [0]), (sub (bodyOf Try.f15) [1, 0])]) (y := (sub (bodyOf Try.f15) [1, 1])) (Y := (fun e w => disk_Disk_Flush_s3 R (e 0) w)) (seq_seg (x := (sub (bodyOf Try.f15) [1, 1, 0])) (y := (sub (bodyOf Try.f15) [1, 1, 1])) (disk_Disk_Flush_s0_eq R) (disk_Disk_Flush_s3_eq R)) (fun e w => by kernel_rfl)

def disk_Disk_Flush (R : Value → World → Prop) (x0 : Value) (w : World) : Prop := disk_Disk_Flush_s4 R x0 w
theorem disk_Disk_Flush_call {R : Value → World → Prop} {x0 : Value} {w : World} (h : disk_Disk_Flush R x0 w) : callG Try.prog 15 #[x0] w R :=
  calls_lift_eq Try.mixed Try.func15 (args := [x0]) rfl rfl rfl rfl ((disk_Disk_Flush_s4_eq R) (envOf [x0]) w) (by kernel_rfl) h
/-! (*quayside/disk.Disk).settles -/
def disk_Disk_settles_s0 (R : Value → World → Prop) (x0 : Value) (w : World) : Prop :=
  nk x0 fun t3 =>
  fa 2 t3 fun t4 =>
  ld1 t4 w fun t5 =>
  clr 33 (zc Try.prog 93) t5 w fun _ w =>
  nk x0 fun t8 =>
  fa 2 t8 fun t9 =>
  ld1 t9 w fun t10 =>
  slL 33 t10 none (some (.int .i64 0)) fun t11 =>
  nk x0 fun t12 =>
  fa 2 t12 fun t13 =>
  st1 t13 t11 w fun w =>
  R (.tuple #[]) w

theorem disk_Disk_settles_s0_eq (R : Value → World → Prop) : ∀ e w, lift Try.prog 14 (bodyOf Try.f46) (finK Try.prog Try.f46.results.toList R) e w = disk_Disk_settles_s0 R (e 0) w := fun e w => by kernel_rfl

def disk_Disk_settles (R : Value → World → Prop) (x0 : Value) (w : World) : Prop := disk_Disk_settles_s0 R x0 w
theorem disk_Disk_settles_call {R : Value → World → Prop} {x0 : Value} {w : World} (h : disk_Disk_settles R x0 w) : callG Try.prog 46 #[x0] w R :=
  calls_lift_eq Try.mixed Try.func46 (args := [x0]) rfl rfl rfl rfl ((disk_Disk_settles_s0_eq R) (envOf [x0]) w) (by kernel_rfl) h
/-! (*quayside/disk.Disk).Crash -/
def disk_Disk_Crash_s0 (R : Value → World → Prop) (x0 : Value) (w : World) : Prop :=
  nk x0 fun t45 =>
  fa 1 t45 fun t46 =>
  ld1 t46 (World.drew w) fun t47 =>
  nk x0 fun t49 =>
  fa 0 t49 fun t50 =>
  ld1 t50 (World.drew w) fun t51 =>
  cp 32 t47 t51 (World.drew w) fun t52 w =>
  callG Try.prog 46 #[x0] w fun t54 w =>
  nk x0 fun t57 =>
  fa 4 t57 fun t58 =>
  st1 t58 (.bool false) w fun w =>
  nk x0 fun t59 =>
  fa 3 t59 fun t60 =>
  st1 t60 (.int .i64 (-1)) w fun w =>
  R (.int .i64 0) w

theorem disk_Disk_Crash_s0_eq (R : Value → World → Prop) : ∀ e w, lift Try.prog 61 (sub (bodyOf Try.f16) [1, 1, 1]) (finK Try.prog Try.f16.results.toList R) e w = disk_Disk_Crash_s0 R (e 0) w := fun e w => by kernel_rfl

def disk_Disk_Crash_b1 (R : Value → World → Prop) (N1 : List Value → World → Prop) (x0 x1 x14 x15 x16 : Value) (w : World) : Prop :=
  qG Try.prog (bq .lss 3 (.tmp 16) (.tmp 15) x16 x15) w fun t17 =>
  bV t17
  (ia 33 x14 x16 fun t19 =>
  ldn 33 t19 w fun t20 =>
  newG (zc Try.prog 93) 93 w fun t6 w =>
  stn 33 t6 t20 w fun w =>
  lenL x1 fun t23 =>
  qG Try.prog (bq .lss 3 (.tmp 21) (.tmp 23) x16 t23) w fun t24 =>
  bV t24
  (ia 1 x1 x16 fun t27 =>
  ld1 t27 w fun t28 =>
  qG Try.prog (Builtin.min_ #[3, 3] 3 #[t28, (.int .i64 32)]) w fun t29 =>
  qG Try.prog (Builtin.max_ #[3, 3] 3 #[(.int .i64 0), t29]) w fun t30 =>
  nk x0 fun t32 =>
  fa 0 t32 fun t33 =>
  ld1 t33 (World.drew w) fun t34 =>
  fa 0 t6 fun t35 =>
  ld1 t35 (World.drew w) fun t36 =>
  ia 32 t34 t36 fun t37 =>
  slA 32 1 t37 none (some t30) fun t39 =>
  fa 1 t6 fun t40 =>
  slA 32 1 t40 none none fun t41 =>
  cp 1 t39 t41 (World.drew w) fun t42 w =>
  qG Try.prog (bq .add 3 (.tmp 16) (.const (.int .i64 1)) x16 (.int .i64 1)) w fun t43 =>
  N1 [x0, x1, x14, x15, t43] w)
  (qG Try.prog (bq .add 3 (.tmp 16) (.const (.int .i64 1)) x16 (.int .i64 1)) w fun t43_1 =>
  N1 [x0, x1, x14, x15, t43_1] w))
  (disk_Disk_Crash_s0 R x0 w)

theorem disk_Disk_Crash_b1_eq (R : Value → World → Prop) (N1 : List Value → World → Prop) : ∀ e w, lift Try.prog 61 (sub (bodyOf Try.f16) [1, 1, 0, 1, 0, 0]) (seqK (fun e w => N1 [e 0, e 1, e 14, e 15, e 16] w) (blockK 0 (seqK (fun e w => disk_Disk_Crash_s0 R (e 0) w) (finK Try.prog Try.f16.results.toList R)))) e w = disk_Disk_Crash_b1 R N1 (e 0) (e 1) (e 14) (e 15) (e 16) w := fun e w => by kernel_rfl

def disk_Disk_Crash_L2F (R : Value → World → Prop) (N1 : List Value → World → Prop) (xs : List Value) (w : World) : Prop :=
  match xs with
  | [x0, x1, x14, x15, x16] => disk_Disk_Crash_b1 R N1 x0 x1 x14 x15 x16 w
  | _ => False

def disk_Disk_Crash_L2 (R : Value → World → Prop) (x0 x1 x14 x15 x16 : Value) (w : World) : Prop :=
  ∃ m, loopV (disk_Disk_Crash_L2F R) m [x0, x1, x14, x15, x16] w

theorem disk_Disk_Crash_L2_eq (R : Value → World → Prop) : ∀ e w, lift Try.prog 61 (sub (bodyOf Try.f16) [1, 1, 0, 1, 0]) (blockK 0 (seqK (fun e w => disk_Disk_Crash_s0 R (e 0) w) (finK Try.prog Try.f16.results.toList R))) e w = disk_Disk_Crash_L2 R (e 0) (e 1) (e 14) (e 15) (e 16) w := loop_seg (F := disk_Disk_Crash_L2F R) (sel := fun e => [e 0, e 1, e 14, e 15, e 16]) fun N1 => (disk_Disk_Crash_b1_eq R N1)

def disk_Disk_Crash_s3 (R : Value → World → Prop) (x0 x1 : Value) (w : World) : Prop :=
  nk x0 fun t12 =>
  fa 2 t12 fun t13 =>
  ld1 t13 w fun t14 =>
  lenL t14 fun t15 =>
  disk_Disk_Crash_L2 R x0 x1 t14 t15 (.int .i64 0) w

theorem disk_Disk_Crash_s3_eq (R : Value → World → Prop) : ∀ e w, lift Try.prog 61 (sub (bodyOf Try.f16) [1, 1, 0]) (seqK (fun e w => disk_Disk_Crash_s0 R (e 0) w) (finK Try.prog Try.f16.results.toList R)) e w = disk_Disk_Crash_s3 R (e 0) (e 1) w :=
  segs_eq (l := [(sub (bodyOf Try.f16) [1, 1, 0, 0])]) (y := (sub (bodyOf Try.f16) [1, 1, 0, 1])) (Y := (fun e w => disk_Disk_Crash_L2 R (e 0) (e 1) (e 14) (e 15) (e 16) w)) (disk_Disk_Crash_L2_eq R) (fun e w => by kernel_rfl)

def disk_Disk_Crash_s4 (R : Value → World → Prop) (x0 x1 : Value) (w : World) : Prop :=
  callG Try.prog 28 #[x0] w fun t9 w =>
  qG Try.prog (bq .eql 3 (.tmp 9) (.const (.int .i64 0)) t9 (.int .i64 0)) w fun t10 =>
  bV t10
  (R (.int .i64 1) w)
  (disk_Disk_Crash_s3 R x0 x1 w)

theorem disk_Disk_Crash_s4_eq (R : Value → World → Prop) : ∀ e w, lift Try.prog 61 (bodyOf Try.f16) (finK Try.prog Try.f16.results.toList R) e w = disk_Disk_Crash_s4 R (e 0) (e 1) w :=
  segs_eq (l := [(sub (bodyOf Try.f16) [0]), (sub (bodyOf Try.f16) [1, 0])]) (y := (sub (bodyOf Try.f16) [1, 1])) (Y := (fun e w => disk_Disk_Crash_s3 R (e 0) (e 1) w)) (seq_seg (x := (sub (bodyOf Try.f16) [1, 1, 0])) (y := (sub (bodyOf Try.f16) [1, 1, 1])) (disk_Disk_Crash_s0_eq R) (disk_Disk_Crash_s3_eq R)) (fun e w => by kernel_rfl)

def disk_Disk_Crash (R : Value → World → Prop) (x0 x1 : Value) (w : World) : Prop := disk_Disk_Crash_s4 R x0 x1 w
theorem disk_Disk_Crash_call {R : Value → World → Prop} {x0 x1 : Value} {w : World} (h : disk_Disk_Crash R x0 x1 w) : callG Try.prog 16 #[x0, x1] w R :=
  calls_lift_eq Try.mixed Try.func16 (args := [x0, x1]) rfl rfl rfl rfl ((disk_Disk_Crash_s4_eq R) (envOf [x0, x1]) w) (by kernel_rfl) h
/-! (*quayside/disk.Disk).Read -/
def disk_Disk_Read_s0 (R : Value → World → Prop) (x0 x1 : Value) (w : World) : Prop :=
  callG Try.prog 44 #[x0, x1] w fun t9 w =>
  qG Try.prog (Op.unary .not t9) w fun t10 =>
  bV t10
  (R (.tuple #[(.string ⟨#[]⟩), (.int .i64 1)]) w)
  (nk x0 fun t13 =>
  fa 4 t13 fun t14 =>
  ld1 t14 w fun t15 =>
  bV t15
  (R (.tuple #[(.string ⟨#[]⟩), (.int .i64 30)]) w)
  (nk x0 fun t17 =>
  fa 1 t17 fun t18 =>
  ld1 t18 w fun t19 =>
  ia 32 t19 x1 fun t21 =>
  slA 32 1 t21 none none fun t22 =>
  cvBS t22 w fun t23 =>
  R (.tuple #[t23, (.int .i64 0)]) w))

theorem disk_Disk_Read_s0_eq (R : Value → World → Prop) : ∀ e w, lift Try.prog 24 (bodyOf Try.f17) (finK Try.prog Try.f17.results.toList R) e w = disk_Disk_Read_s0 R (e 0) (e 1) w := fun e w => by kernel_rfl

def disk_Disk_Read (R : Value → World → Prop) (x0 x1 : Value) (w : World) : Prop := disk_Disk_Read_s0 R x0 x1 w
theorem disk_Disk_Read_call {R : Value → World → Prop} {x0 x1 : Value} {w : World} (h : disk_Disk_Read R x0 x1 w) : callG Try.prog 17 #[x0, x1] w R :=
  calls_lift_eq Try.mixed Try.func17 (args := [x0, x1]) rfl rfl rfl rfl ((disk_Disk_Read_s0_eq R) (envOf [x0, x1]) w) (by kernel_rfl) h
/-! (*quayside/disk.Disk).Waits -/
def disk_Disk_Waits_s0 (R : Value → World → Prop) (x0 : Value) (w : World) : Prop :=
  qG Try.prog (bq .eql 23 (.tmp 3) (.const (.pointer none)) x0 (.pointer none)) w fun t4 =>
  bV t4
  (R (.int .i64 0) w)
  (nk x0 fun t6 =>
  fa 2 t6 fun t7 =>
  ld1 t7 w fun t8 =>
  lenL t8 fun t9 =>
  R t9 w)

theorem disk_Disk_Waits_s0_eq (R : Value → World → Prop) : ∀ e w, lift Try.prog 10 (bodyOf Try.f27) (finK Try.prog Try.f27.results.toList R) e w = disk_Disk_Waits_s0 R (e 0) w := fun e w => by kernel_rfl

def disk_Disk_Waits (R : Value → World → Prop) (x0 : Value) (w : World) : Prop := disk_Disk_Waits_s0 R x0 w
theorem disk_Disk_Waits_call {R : Value → World → Prop} {x0 : Value} {w : World} (h : disk_Disk_Waits R x0 w) : callG Try.prog 27 #[x0] w R :=
  calls_lift_eq Try.mixed Try.func27 (args := [x0]) rfl rfl rfl rfl ((disk_Disk_Waits_s0_eq R) (envOf [x0]) w) (by kernel_rfl) h
/-! (*quayside/disk.Disk).Fuse -/
def disk_Disk_Fuse_s0 (R : Value → World → Prop) (x0 x1 : Value) (w : World) : Prop :=
  callG Try.prog 28 #[x0] w fun t6 w =>
  qG Try.prog (bq .eql 3 (.tmp 6) (.const (.int .i64 0)) t6 (.int .i64 0)) w fun t7 =>
  bV t7
  (R (.int .i64 1) w)
  (qG Try.prog (Builtin.max_ #[3, 3] 3 #[x1, (.int .i64 (-1))]) w fun t10 =>
  nk x0 fun t11 =>
  fa 3 t11 fun t12 =>
  st1 t12 t10 w fun w =>
  R (.int .i64 0) w)

theorem disk_Disk_Fuse_s0_eq (R : Value → World → Prop) : ∀ e w, lift Try.prog 13 (bodyOf Try.f23) (finK Try.prog Try.f23.results.toList R) e w = disk_Disk_Fuse_s0 R (e 0) (e 1) w := fun e w => by kernel_rfl

def disk_Disk_Fuse (R : Value → World → Prop) (x0 x1 : Value) (w : World) : Prop := disk_Disk_Fuse_s0 R x0 x1 w
theorem disk_Disk_Fuse_call {R : Value → World → Prop} {x0 x1 : Value} {w : World} (h : disk_Disk_Fuse R x0 x1 w) : callG Try.prog 23 #[x0, x1] w R :=
  calls_lift_eq Try.mixed Try.func23 (args := [x0, x1]) rfl rfl rfl rfl ((disk_Disk_Fuse_s0_eq R) (envOf [x0, x1]) w) (by kernel_rfl) h
/-! (*quayside/disk.Disk).Off -/
def disk_Disk_Off_s0 (R : Value → World → Prop) (x0 : Value) (w : World) : Prop :=
  qG Try.prog (bq .neq 23 (.tmp 3) (.const (.pointer none)) x0 (.pointer none)) w fun t4 =>
  bV t4
  (nk x0 fun t7 =>
  fa 4 t7 fun t8 =>
  ld1 t8 w fun t9 =>
  R t9 w)
  (R (.bool false) w)

theorem disk_Disk_Off_s0_eq (R : Value → World → Prop) : ∀ e w, lift Try.prog 11 (bodyOf Try.f26) (finK Try.prog Try.f26.results.toList R) e w = disk_Disk_Off_s0 R (e 0) w := fun e w => by kernel_rfl

def disk_Disk_Off (R : Value → World → Prop) (x0 : Value) (w : World) : Prop := disk_Disk_Off_s0 R x0 w
theorem disk_Disk_Off_call {R : Value → World → Prop} {x0 : Value} {w : World} (h : disk_Disk_Off R x0 w) : callG Try.prog 26 #[x0] w R :=
  calls_lift_eq Try.mixed Try.func26 (args := [x0]) rfl rfl rfl rfl ((disk_Disk_Off_s0_eq R) (envOf [x0]) w) (by kernel_rfl) h
end Go.Proofs

set_option linter.unusedVariables false
set_option linter.unusedSimpArgs false
namespace Go.Proofs
open Go Go.Q
set_option maxRecDepth 100000
/-! quayside/quaysidelaw03.filled -/
def law03_filled_s0 (R : Value → World → Prop) (x3 : Value) (w : World) : Prop :=
  cvBS x3 w fun t15 =>
  R t15 w

theorem law03_filled_s0_eq (R : Value → World → Prop) : ∀ e w, lift Try.prog 16 (sub (bodyOf Try.f14) [1, 1, 1]) (finK Try.prog Try.f14.results.toList R) e w = law03_filled_s0 R (e 3) w := fun e w => by kernel_rfl

def law03_filled_b1 (R : Value → World → Prop) (N1 : List Value → World → Prop) (x0 x3 x4 : Value) (w : World) : Prop :=
  qG Try.prog (bq .lss 3 (.tmp 6) (.const (.int .i64 32)) x4 (.int .i64 32)) w fun t7 =>
  bV t7
  (ia 1 x3 x4 fun t13 =>
  st1 t13 x0 w fun w =>
  qG Try.prog (bq .add 3 (.tmp 8) (.const (.int .i64 1)) x4 (.int .i64 1)) w fun t9 =>
  N1 [x0, x3, t9] w)
  (law03_filled_s0 R x3 w)

theorem law03_filled_b1_eq (R : Value → World → Prop) (N1 : List Value → World → Prop) : ∀ e w, lift Try.prog 16 (sub (bodyOf Try.f14) [1, 1, 0, 1, 0, 0]) (seqK (fun e w => N1 [e 0, e 3, e 4] w) (blockK 0 (seqK (fun e w => law03_filled_s0 R (e 3) w) (finK Try.prog Try.f14.results.toList R)))) e w = law03_filled_b1 R N1 (e 0) (e 3) (e 4) w := fun e w => by kernel_rfl

def law03_filled_L2F (R : Value → World → Prop) (N1 : List Value → World → Prop) (xs : List Value) (w : World) : Prop :=
  match xs with
  | [x0, x3, x4] => law03_filled_b1 R N1 x0 x3 x4 w
  | _ => False

def law03_filled_L2 (R : Value → World → Prop) (x0 x3 x4 : Value) (w : World) : Prop :=
  ∃ m, loopV (law03_filled_L2F R) m [x0, x3, x4] w

theorem law03_filled_L2_eq (R : Value → World → Prop) : ∀ e w, lift Try.prog 16 (sub (bodyOf Try.f14) [1, 1, 0, 1, 0]) (blockK 0 (seqK (fun e w => law03_filled_s0 R (e 3) w) (finK Try.prog Try.f14.results.toList R))) e w = law03_filled_L2 R (e 0) (e 3) (e 4) w := loop_seg (F := law03_filled_L2F R) (sel := fun e => [e 0, e 3, e 4]) fun N1 => (law03_filled_b1_eq R N1)

def law03_filled_s3 (R : Value → World → Prop) (x0 x3 : Value) (w : World) : Prop :=
  law03_filled_L2 R x0 x3 (.int .i64 0) w

theorem law03_filled_s3_eq (R : Value → World → Prop) : ∀ e w, lift Try.prog 16 (sub (bodyOf Try.f14) [1, 1, 0]) (seqK (fun e w => law03_filled_s0 R (e 3) w) (finK Try.prog Try.f14.results.toList R)) e w = law03_filled_s3 R (e 0) (e 3) w :=
  segs_eq (l := [(sub (bodyOf Try.f14) [1, 1, 0, 0])]) (y := (sub (bodyOf Try.f14) [1, 1, 0, 1])) (Y := (fun e w => law03_filled_L2 R (e 0) (e 3) (e 4) w)) (law03_filled_L2_eq R) (fun e w => by kernel_rfl)

def law03_filled_s4 (R : Value → World → Prop) (x0 : Value) (w : World) : Prop :=
  mkG 5 1 1 (zc Try.prog 5) (.int .i64 32) (.int .i64 32) w fun t5 w =>
  law03_filled_s3 R x0 t5 w

theorem law03_filled_s4_eq (R : Value → World → Prop) : ∀ e w, lift Try.prog 16 (bodyOf Try.f14) (finK Try.prog Try.f14.results.toList R) e w = law03_filled_s4 R (e 0) w :=
  segs_eq (l := [(sub (bodyOf Try.f14) [0]), (sub (bodyOf Try.f14) [1, 0])]) (y := (sub (bodyOf Try.f14) [1, 1])) (Y := (fun e w => law03_filled_s3 R (e 0) (e 3) w)) (seq_seg (x := (sub (bodyOf Try.f14) [1, 1, 0])) (y := (sub (bodyOf Try.f14) [1, 1, 1])) (law03_filled_s0_eq R) (law03_filled_s3_eq R)) (fun e w => by kernel_rfl)

def law03_filled (R : Value → World → Prop) (x0 : Value) (w : World) : Prop := law03_filled_s4 R x0 w
theorem law03_filled_call {R : Value → World → Prop} {x0 : Value} {w : World} (h : law03_filled R x0 w) : callG Try.prog 14 #[x0] w R :=
  calls_lift_eq Try.mixed Try.func14 (args := [x0]) rfl rfl rfl rfl ((law03_filled_s4_eq R) (envOf [x0]) w) (by kernel_rfl) h
/-! quayside/quaysidelaw03.awake -/
def law03_awake_s0 (R : Value → World → Prop) (x1 : Value) (w : World) : Prop :=
  callG Try.prog 17 #[x1, (.int .i64 0)] w fun t59 w =>
  qG Try.prog (Instr.extract t59 0) w fun t60 =>
  qG Try.prog (Instr.extract t59 1) w fun t61 =>
  callG Try.prog 14 #[(.int .u8 98)] (World.drew w) fun t63 w =>
  slS t63 none (some (.int .i64 5)) fun t64 =>
  callG Try.prog 14 #[(.int .u8 97)] w fun t65 w =>
  slS t65 (some (.int .i64 5)) none fun t66 =>
  qG Try.prog (bq .add 9 (.tmp 64) (.tmp 66) t64 t66) w fun t67 =>
  qG Try.prog (bq .eql 9 (.tmp 62) (.tmp 67) t60 t67) w fun t68 =>
  bV t68
  (qG Try.prog (bq .eql 24 (.tmp 70) (.const (.int .i64 0)) t61 (.int .i64 0)) w fun t71 =>
  bV t71
  (callG Try.prog 28 #[x1] w fun t75 w =>
  qG Try.prog (bq .eql 3 (.tmp 75) (.const (.int .i64 2)) t75 (.int .i64 2)) w fun t76 =>
  bV t76
  (callG Try.prog 27 #[x1] w fun t80 w =>
  qG Try.prog (bq .eql 3 (.tmp 80) (.const (.int .i64 0)) t80 (.int .i64 0)) w fun t81 =>
  R t81 w)
  (R (.bool false) w))
  (R (.bool false) w))
  (R (.bool false) w)

theorem law03_awake_s0_eq (R : Value → World → Prop) : ∀ e w, lift Try.prog 83 (sub (bodyOf Try.f18) [1, 1, 1, 1, 1]) (finK Try.prog Try.f18.results.toList R) e w = law03_awake_s0 R (e 1) w := fun e w => by kernel_rfl

def law03_awake_s1 (R : Value → World → Prop) (x1 : Value) (w : World) : Prop :=
  callG Try.prog 17 #[x1, (.int .i64 0)] w fun t41 w =>
  qG Try.prog (Instr.extract t41 0) w fun t42 =>
  qG Try.prog (Instr.extract t41 1) w fun t43 =>
  callG Try.prog 14 #[(.int .u8 98)] w fun t45 w =>
  qG Try.prog (bq .neq 9 (.tmp 44) (.tmp 45) t42 t45) w fun t46 =>
  bV t46
  (R (.bool false) w)
  (qG Try.prog (bq .neq 24 (.tmp 48) (.const (.int .i64 0)) t43 (.int .i64 0)) w fun t49 =>
  bV t49
  (R (.bool false) w)
  (bsl 3 1 1 (zc Try.prog 3) #[(0, (.int .i64 5))] w fun t53 w =>
  callG Try.prog 16 #[x1, t53] w fun t54 w =>
  qG Try.prog (bq .neq 24 (.tmp 54) (.const (.int .i64 0)) t54 (.int .i64 0)) w fun t55 =>
  bV t55
  (R (.bool false) w)
  (law03_awake_s0 R x1 w)))

theorem law03_awake_s1_eq (R : Value → World → Prop) : ∀ e w, lift Try.prog 83 (sub (bodyOf Try.f18) [1, 1, 1]) (finK Try.prog Try.f18.results.toList R) e w = law03_awake_s1 R (e 1) w :=
  segs_eq (l := [(sub (bodyOf Try.f18) [1, 1, 1, 0]), (sub (bodyOf Try.f18) [1, 1, 1, 1, 0])]) (y := (sub (bodyOf Try.f18) [1, 1, 1, 1, 1])) (Y := (fun e w => law03_awake_s0 R (e 1) w)) (law03_awake_s0_eq R) (fun e w => by kernel_rfl)

def law03_awake_s2 (R : Value → World → Prop) (w : World) : Prop :=
  callG Try.prog 12 #[(.int .i64 2)] w fun t8 w =>
  qG Try.prog (Instr.extract t8 0) w fun t9 =>
  qG Try.prog (Instr.extract t8 1) w fun t10 =>
  qG Try.prog (bq .neq 24 (.tmp 11) (.const (.int .i64 0)) t10 (.int .i64 0)) w fun t12 =>
  bV t12
  (R (.bool false) w)
  (qG Try.prog (bq .eql 23 (.tmp 14) (.const (.pointer none)) t9 (.pointer none)) w fun t15 =>
  bV t15
  (R (.bool false) w)
  (callG Try.prog 14 #[(.int .u8 97)] w fun t19 w =>
  callG Try.prog 13 #[t9, (.int .i64 0), t19] w fun t20 w =>
  qG Try.prog (bq .neq 24 (.tmp 20) (.const (.int .i64 0)) t20 (.int .i64 0)) w fun t21 =>
  bV t21
  (R (.bool false) w)
  (callG Try.prog 15 #[t9] w fun t25 w =>
  qG Try.prog (bq .neq 24 (.tmp 25) (.const (.int .i64 0)) t25 (.int .i64 0)) w fun t26 =>
  bV t26
  (R (.bool false) w)
  (callG Try.prog 14 #[(.int .u8 98)] w fun t30 w =>
  callG Try.prog 13 #[t9, (.int .i64 0), t30] w fun t31 w =>
  qG Try.prog (bq .neq 24 (.tmp 31) (.const (.int .i64 0)) t31 (.int .i64 0)) w fun t32 =>
  bV t32
  (R (.bool false) w)
  (callG Try.prog 27 #[t9] w fun t36 w =>
  qG Try.prog (bq .neq 3 (.tmp 36) (.const (.int .i64 1)) t36 (.int .i64 1)) w fun t37 =>
  bV t37
  (R (.bool false) w)
  (law03_awake_s1 R t9 w))))))

theorem law03_awake_s2_eq (R : Value → World → Prop) : ∀ e w, lift Try.prog 83 (bodyOf Try.f18) (finK Try.prog Try.f18.results.toList R) e w = law03_awake_s2 R w :=
  segs_eq (l := [(sub (bodyOf Try.f18) [0]), (sub (bodyOf Try.f18) [1, 0]), (sub (bodyOf Try.f18) [1, 1, 0])]) (y := (sub (bodyOf Try.f18) [1, 1, 1])) (Y := (fun e w => law03_awake_s1 R (e 1) w)) (law03_awake_s1_eq R) (fun e w => by kernel_rfl)

def law03_awake (R : Value → World → Prop) (w : World) : Prop := law03_awake_s2 R  w
theorem law03_awake_call {R : Value → World → Prop} {w : World} (h : law03_awake R w) : callG Try.prog 18 #[] w R :=
  calls_lift_eq Try.mixed Try.func18 (args := []) rfl rfl rfl rfl ((law03_awake_s2_eq R) (envOf []) w) (by kernel_rfl) h
/-! quayside/quaysidelaw03.DiskSure -/
def law03_DiskSure_s0 (R : Value → World → Prop) (w : World) : Prop :=
  callG Try.prog 18 #[] w fun t120 w =>
  R t120 w

theorem law03_DiskSure_s0_eq (R : Value → World → Prop) : ∀ e w, lift Try.prog 121 (sub (bodyOf Try.f3) [1, 1, 1, 1, 1, 1, 1, 1, 1, 1]) (finK Try.prog Try.f3.results.toList R) e w = law03_DiskSure_s0 R w := fun e w => by kernel_rfl

def law03_DiskSure_s1 (R : Value → World → Prop) (N1 : List Value → World → Prop) (x1 x2 x7 x9 x12 x13 : Value) (w : World) : Prop :=
  qG Try.prog (bq .add 3 (.tmp 71) (.const (.int .i64 1)) x13 (.int .i64 1)) w fun t72 =>
  N1 [x1, x2, x7, x9, x12, t72] w

theorem law03_DiskSure_s1_eq (R : Value → World → Prop) (N1 : List Value → World → Prop) : ∀ e w, lift Try.prog 121 (sub (bodyOf Try.f3) [1, 1, 1, 1, 1, 1, 1, 1, 1, 0, 1, 0, 0, 1, 1]) (seqK (fun e w => N1 [e 1, e 2, e 7, e 9, e 12, e 13] w) (blockK 4 (seqK (fun e w => law03_DiskSure_s0 R  w) (finK Try.prog Try.f3.results.toList R)))) e w = law03_DiskSure_s1 R N1 (e 1) (e 2) (e 7) (e 9) (e 12) (e 13) w := fun e w => by kernel_rfl

def law03_DiskSure_s2 (R : Value → World → Prop) (N1 : List Value → World → Prop) (x1 x2 x7 x9 x12 x13 x14 x15 : Value) (w : World) : Prop :=
  callG Try.prog 17 #[x7, x13] w fun t101 w =>
  qG Try.prog (Instr.extract t101 0) w fun t102 =>
  qG Try.prog (Instr.extract t101 1) w fun t103 =>
  qG Try.prog (bq .neq 24 (.tmp 104) (.const (.int .i64 0)) t103 (.int .i64 0)) (World.drew w) fun t105 =>
  bV t105
  (R (.bool false) (World.drew w))
  (qG Try.prog (bq .add 3 (.const (.int .i64 65)) (.tmp 108) (.int .i64 65) x13) (World.drew w) fun t109 =>
  cvI .u8 t109 fun t110 =>
  slS x14 (some x15) none fun t116 =>
  callG Try.prog 14 #[t110] (World.drew w) fun t111 w =>
  slS t111 none (some x15) fun t113 =>
  qG Try.prog (bq .add 9 (.tmp 113) (.tmp 116) t113 t116) w fun t117 =>
  qG Try.prog (bq .neq 9 (.tmp 107) (.tmp 117) t102 t117) w fun t118 =>
  bV t118
  (R (.bool false) w)
  (law03_DiskSure_s1 R N1 x1 x2 x7 x9 x12 x13 w))

theorem law03_DiskSure_s2_eq (R : Value → World → Prop) (N1 : List Value → World → Prop) : ∀ e w, lift Try.prog 121 (sub (bodyOf Try.f3) [1, 1, 1, 1, 1, 1, 1, 1, 1, 0, 1, 0, 0, 1, 0, 0, 1, 1, 1, 1]) (blockK 5 (seqK (fun e w => law03_DiskSure_s1 R N1 (e 1) (e 2) (e 7) (e 9) (e 12) (e 13) w) (seqK (fun e w => N1 [e 1, e 2, e 7, e 9, e 12, e 13] w) (blockK 4 (seqK (fun e w => law03_DiskSure_s0 R  w) (finK Try.prog Try.f3.results.toList R)))))) e w = law03_DiskSure_s2 R N1 (e 1) (e 2) (e 7) (e 9) (e 12) (e 13) (e 14) (e 15) w := fun e w => by kernel_rfl

def law03_DiskSure_s3 (R : Value → World → Prop) (N1 : List Value → World → Prop) (x1 x2 x7 x9 x12 x13 x14 : Value) (w : World) : Prop :=
  qG Try.prog (bq .shr 3 (.tmp 81) (.tmp 82) x1 x13) w fun t83 =>
  qG Try.prog (bq .and 3 (.tmp 83) (.const (.int .i64 1)) t83 (.int .i64 1)) w fun t84 =>
  qG Try.prog (bq .eql 3 (.tmp 84) (.const (.int .i64 1)) t84 (.int .i64 1)) w fun t85 =>
  bV t85
  (lenL x2 fun t88 =>
  qG Try.prog (bq .lss 3 (.tmp 86) (.tmp 88) x12 t88) w fun t89 =>
  bV t89
  (ia 1 x2 x12 fun t92 =>
  ld1 t92 w fun t93 =>
  qG Try.prog (Builtin.min_ #[3, 3] 3 #[t93, (.int .i64 32)]) w fun t94 =>
  qG Try.prog (Builtin.max_ #[3, 3] 3 #[(.int .i64 0), t94]) w fun t95 =>
  qG Try.prog (bq .add 3 (.tmp 96) (.const (.int .i64 1)) x12 (.int .i64 1)) w fun t97 =>
  law03_DiskSure_s2 R N1 x1 x2 x7 x9 t97 x13 x14 t95 w)
  (qG Try.prog (bq .add 3 (.tmp 96) (.const (.int .i64 1)) x12 (.int .i64 1)) w fun t97_1 =>
  law03_DiskSure_s2 R N1 x1 x2 x7 x9 t97_1 x13 x14 (.int .i64 0) w))
  (law03_DiskSure_s2 R N1 x1 x2 x7 x9 x12 x13 x14 (.int .i64 0) w)

theorem law03_DiskSure_s3_eq (R : Value → World → Prop) (N1 : List Value → World → Prop) : ∀ e w, lift Try.prog 121 (sub (bodyOf Try.f3) [1, 1, 1, 1, 1, 1, 1, 1, 1, 0, 1, 0, 0, 1, 0, 0, 1, 1]) (blockK 5 (seqK (fun e w => law03_DiskSure_s1 R N1 (e 1) (e 2) (e 7) (e 9) (e 12) (e 13) w) (seqK (fun e w => N1 [e 1, e 2, e 7, e 9, e 12, e 13] w) (blockK 4 (seqK (fun e w => law03_DiskSure_s0 R  w) (finK Try.prog Try.f3.results.toList R)))))) e w = law03_DiskSure_s3 R N1 (e 1) (e 2) (e 7) (e 9) (e 12) (e 13) (e 14) w :=
  segs_eq (l := [(sub (bodyOf Try.f3) [1, 1, 1, 1, 1, 1, 1, 1, 1, 0, 1, 0, 0, 1, 0, 0, 1, 1, 0]), (sub (bodyOf Try.f3) [1, 1, 1, 1, 1, 1, 1, 1, 1, 0, 1, 0, 0, 1, 0, 0, 1, 1, 1, 0])]) (y := (sub (bodyOf Try.f3) [1, 1, 1, 1, 1, 1, 1, 1, 1, 0, 1, 0, 0, 1, 0, 0, 1, 1, 1, 1])) (Y := (fun e w => law03_DiskSure_s2 R N1 (e 1) (e 2) (e 7) (e 9) (e 12) (e 13) (e 14) (e 15) w)) (law03_DiskSure_s2_eq R N1) (fun e w => by kernel_rfl)

def law03_DiskSure_s4 (R : Value → World → Prop) (N1 : List Value → World → Prop) (x1 x2 x7 x9 x12 x13 : Value) (w : World) : Prop :=
  callG Try.prog 14 #[(.int .u8 0)] w fun t73 w =>
  qG Try.prog (bq .lss 3 (.tmp 74) (.tmp 75) x13 x9) w fun t76 =>
  bV t76
  (qG Try.prog (bq .add 3 (.const (.int .i64 97)) (.tmp 77) (.int .i64 97) x13) w fun t78 =>
  cvI .u8 t78 fun t79 =>
  callG Try.prog 14 #[t79] w fun t80 w =>
  law03_DiskSure_s3 R N1 x1 x2 x7 x9 x12 x13 t80 w)
  (law03_DiskSure_s3 R N1 x1 x2 x7 x9 x12 x13 t73 w)

theorem law03_DiskSure_s4_eq (R : Value → World → Prop) (N1 : List Value → World → Prop) : ∀ e w, lift Try.prog 121 (sub (bodyOf Try.f3) [1, 1, 1, 1, 1, 1, 1, 1, 1, 0, 1, 0, 0, 1, 0, 0]) (blockK 5 (seqK (fun e w => law03_DiskSure_s1 R N1 (e 1) (e 2) (e 7) (e 9) (e 12) (e 13) w) (seqK (fun e w => N1 [e 1, e 2, e 7, e 9, e 12, e 13] w) (blockK 4 (seqK (fun e w => law03_DiskSure_s0 R  w) (finK Try.prog Try.f3.results.toList R)))))) e w = law03_DiskSure_s4 R N1 (e 1) (e 2) (e 7) (e 9) (e 12) (e 13) w :=
  segs_eq (l := [(sub (bodyOf Try.f3) [1, 1, 1, 1, 1, 1, 1, 1, 1, 0, 1, 0, 0, 1, 0, 0, 0]), (sub (bodyOf Try.f3) [1, 1, 1, 1, 1, 1, 1, 1, 1, 0, 1, 0, 0, 1, 0, 0, 1, 0])]) (y := (sub (bodyOf Try.f3) [1, 1, 1, 1, 1, 1, 1, 1, 1, 0, 1, 0, 0, 1, 0, 0, 1, 1])) (Y := (fun e w => law03_DiskSure_s3 R N1 (e 1) (e 2) (e 7) (e 9) (e 12) (e 13) (e 14) w)) (law03_DiskSure_s3_eq R N1) (fun e w => by kernel_rfl)

def law03_DiskSure_s5 (R : Value → World → Prop) (N1 : List Value → World → Prop) (x1 x2 x7 x9 x12 x13 : Value) (w : World) : Prop :=
  qG Try.prog (bq .lss 3 (.tmp 69) (.const (.int .i64 16)) x13 (.int .i64 16)) w fun t70 =>
  bV t70
  (law03_DiskSure_s4 R N1 x1 x2 x7 x9 x12 x13 w)
  (law03_DiskSure_s0 R  w)

theorem law03_DiskSure_s5_eq (R : Value → World → Prop) (N1 : List Value → World → Prop) : ∀ e w, lift Try.prog 121 (sub (bodyOf Try.f3) [1, 1, 1, 1, 1, 1, 1, 1, 1, 0, 1, 0, 0]) (seqK (fun e w => N1 [e 1, e 2, e 7, e 9, e 12, e 13] w) (blockK 4 (seqK (fun e w => law03_DiskSure_s0 R  w) (finK Try.prog Try.f3.results.toList R)))) e w = law03_DiskSure_s5 R N1 (e 1) (e 2) (e 7) (e 9) (e 12) (e 13) w :=
  segs_eq (l := [(sub (bodyOf Try.f3) [1, 1, 1, 1, 1, 1, 1, 1, 1, 0, 1, 0, 0, 0])]) (y := (sub (bodyOf Try.f3) [1, 1, 1, 1, 1, 1, 1, 1, 1, 0, 1, 0, 0, 1])) (Y := (fun e w => law03_DiskSure_s4 R N1 (e 1) (e 2) (e 7) (e 9) (e 12) (e 13) w)) (seq_seg (x := (sub (bodyOf Try.f3) [1, 1, 1, 1, 1, 1, 1, 1, 1, 0, 1, 0, 0, 1, 0])) (y := (sub (bodyOf Try.f3) [1, 1, 1, 1, 1, 1, 1, 1, 1, 0, 1, 0, 0, 1, 1])) (law03_DiskSure_s1_eq R N1) (law03_DiskSure_s4_eq R N1)) (fun e w => by kernel_rfl)

def law03_DiskSure_L6F (R : Value → World → Prop) (N1 : List Value → World → Prop) (xs : List Value) (w : World) : Prop :=
  match xs with
  | [x1, x2, x7, x9, x12, x13] => law03_DiskSure_s5 R N1 x1 x2 x7 x9 x12 x13 w
  | _ => False

def law03_DiskSure_L6 (R : Value → World → Prop) (x1 x2 x7 x9 x12 x13 : Value) (w : World) : Prop :=
  ∃ m, loopV (law03_DiskSure_L6F R) m [x1, x2, x7, x9, x12, x13] w

theorem law03_DiskSure_L6_eq (R : Value → World → Prop) : ∀ e w, lift Try.prog 121 (sub (bodyOf Try.f3) [1, 1, 1, 1, 1, 1, 1, 1, 1, 0, 1, 0]) (blockK 4 (seqK (fun e w => law03_DiskSure_s0 R  w) (finK Try.prog Try.f3.results.toList R))) e w = law03_DiskSure_L6 R (e 1) (e 2) (e 7) (e 9) (e 12) (e 13) w := loop_seg (F := law03_DiskSure_L6F R) (sel := fun e => [e 1, e 2, e 7, e 9, e 12, e 13]) fun N1 => (law03_DiskSure_s5_eq R N1)

def law03_DiskSure_s7 (R : Value → World → Prop) (x1 x2 x7 x9 x12 : Value) (w : World) : Prop :=
  law03_DiskSure_L6 R x1 x2 x7 x9 x12 (.int .i64 0) w

theorem law03_DiskSure_s7_eq (R : Value → World → Prop) : ∀ e w, lift Try.prog 121 (sub (bodyOf Try.f3) [1, 1, 1, 1, 1, 1, 1, 1, 1, 0]) (seqK (fun e w => law03_DiskSure_s0 R  w) (finK Try.prog Try.f3.results.toList R)) e w = law03_DiskSure_s7 R (e 1) (e 2) (e 7) (e 9) (e 12) w :=
  segs_eq (l := [(sub (bodyOf Try.f3) [1, 1, 1, 1, 1, 1, 1, 1, 1, 0, 0])]) (y := (sub (bodyOf Try.f3) [1, 1, 1, 1, 1, 1, 1, 1, 1, 0, 1])) (Y := (fun e w => law03_DiskSure_L6 R (e 1) (e 2) (e 7) (e 9) (e 12) (e 13) w)) (law03_DiskSure_L6_eq R) (fun e w => by kernel_rfl)

def law03_DiskSure_s8 (R : Value → World → Prop) (x1 x2 x7 x9 : Value) (w : World) : Prop :=
  callG Try.prog 16 #[x7, x2] w fun t67 w =>
  qG Try.prog (bq .neq 24 (.tmp 67) (.const (.int .i64 0)) t67 (.int .i64 0)) w fun t68 =>
  bV t68
  (R (.bool false) w)
  (law03_DiskSure_s7 R x1 x2 x7 x9 (.int .i64 0) w)

theorem law03_DiskSure_s8_eq (R : Value → World → Prop) : ∀ e w, lift Try.prog 121 (sub (bodyOf Try.f3) [1, 1, 1, 1, 1, 1, 1]) (finK Try.prog Try.f3.results.toList R) e w = law03_DiskSure_s8 R (e 1) (e 2) (e 7) (e 9) w :=
  segs_eq (l := [(sub (bodyOf Try.f3) [1, 1, 1, 1, 1, 1, 1, 0]), (sub (bodyOf Try.f3) [1, 1, 1, 1, 1, 1, 1, 1, 0])]) (y := (sub (bodyOf Try.f3) [1, 1, 1, 1, 1, 1, 1, 1, 1])) (Y := (fun e w => law03_DiskSure_s7 R (e 1) (e 2) (e 7) (e 9) (e 12) w)) (seq_seg (x := (sub (bodyOf Try.f3) [1, 1, 1, 1, 1, 1, 1, 1, 1, 0])) (y := (sub (bodyOf Try.f3) [1, 1, 1, 1, 1, 1, 1, 1, 1, 1])) (law03_DiskSure_s0_eq R) (law03_DiskSure_s7_eq R)) (fun e w => by kernel_rfl)

def law03_DiskSure_b9 (R : Value → World → Prop) (N1 : List Value → World → Prop) (x1 x2 x7 x9 x11 : Value) (w : World) : Prop :=
  qG Try.prog (bq .lss 3 (.tmp 46) (.const (.int .i64 16)) x11 (.int .i64 16)) w fun t47 =>
  bV t47
  (qG Try.prog (bq .shr 3 (.tmp 50) (.tmp 51) x1 x11) w fun t52 =>
  qG Try.prog (bq .and 3 (.tmp 52) (.const (.int .i64 1)) t52 (.int .i64 1)) w fun t53 =>
  qG Try.prog (bq .eql 3 (.tmp 53) (.const (.int .i64 1)) t53 (.int .i64 1)) w fun t54 =>
  bV t54
  (qG Try.prog (bq .add 3 (.const (.int .i64 65)) (.tmp 58) (.int .i64 65) x11) w fun t59 =>
  cvI .u8 t59 fun t60 =>
  callG Try.prog 14 #[t60] w fun t61 w =>
  callG Try.prog 13 #[x7, x11, t61] w fun t62 w =>
  qG Try.prog (bq .neq 24 (.tmp 62) (.const (.int .i64 0)) t62 (.int .i64 0)) w fun t63 =>
  bV t63
  (R (.bool false) w)
  (qG Try.prog (bq .add 3 (.tmp 48) (.const (.int .i64 1)) x11 (.int .i64 1)) w fun t49 =>
  N1 [x1, x2, x7, x9, t49] w))
  (qG Try.prog (bq .add 3 (.tmp 48) (.const (.int .i64 1)) x11 (.int .i64 1)) w fun t49_1 =>
  N1 [x1, x2, x7, x9, t49_1] w))
  (law03_DiskSure_s8 R x1 x2 x7 x9 w)

theorem law03_DiskSure_b9_eq (R : Value → World → Prop) (N1 : List Value → World → Prop) : ∀ e w, lift Try.prog 121 (sub (bodyOf Try.f3) [1, 1, 1, 1, 1, 1, 0, 1, 0, 0]) (seqK (fun e w => N1 [e 1, e 2, e 7, e 9, e 11] w) (blockK 2 (seqK (fun e w => law03_DiskSure_s8 R (e 1) (e 2) (e 7) (e 9) w) (finK Try.prog Try.f3.results.toList R)))) e w = law03_DiskSure_b9 R N1 (e 1) (e 2) (e 7) (e 9) (e 11) w := fun e w => by kernel_rfl

def law03_DiskSure_L10F (R : Value → World → Prop) (N1 : List Value → World → Prop) (xs : List Value) (w : World) : Prop :=
  match xs with
  | [x1, x2, x7, x9, x11] => law03_DiskSure_b9 R N1 x1 x2 x7 x9 x11 w
  | _ => False

def law03_DiskSure_L10 (R : Value → World → Prop) (x1 x2 x7 x9 x11 : Value) (w : World) : Prop :=
  ∃ m, loopV (law03_DiskSure_L10F R) m [x1, x2, x7, x9, x11] w

theorem law03_DiskSure_L10_eq (R : Value → World → Prop) : ∀ e w, lift Try.prog 121 (sub (bodyOf Try.f3) [1, 1, 1, 1, 1, 1, 0, 1, 0]) (blockK 2 (seqK (fun e w => law03_DiskSure_s8 R (e 1) (e 2) (e 7) (e 9) w) (finK Try.prog Try.f3.results.toList R))) e w = law03_DiskSure_L10 R (e 1) (e 2) (e 7) (e 9) (e 11) w := loop_seg (F := law03_DiskSure_L10F R) (sel := fun e => [e 1, e 2, e 7, e 9, e 11]) fun N1 => (law03_DiskSure_b9_eq R N1)

def law03_DiskSure_s11 (R : Value → World → Prop) (x1 x2 x7 x9 : Value) (w : World) : Prop :=
  law03_DiskSure_L10 R x1 x2 x7 x9 (.int .i64 0) w

theorem law03_DiskSure_s11_eq (R : Value → World → Prop) : ∀ e w, lift Try.prog 121 (sub (bodyOf Try.f3) [1, 1, 1, 1, 1, 1, 0]) (seqK (fun e w => law03_DiskSure_s8 R (e 1) (e 2) (e 7) (e 9) w) (finK Try.prog Try.f3.results.toList R)) e w = law03_DiskSure_s11 R (e 1) (e 2) (e 7) (e 9) w :=
  segs_eq (l := [(sub (bodyOf Try.f3) [1, 1, 1, 1, 1, 1, 0, 0])]) (y := (sub (bodyOf Try.f3) [1, 1, 1, 1, 1, 1, 0, 1])) (Y := (fun e w => law03_DiskSure_L10 R (e 1) (e 2) (e 7) (e 9) (e 11) w)) (law03_DiskSure_L10_eq R) (fun e w => by kernel_rfl)

def law03_DiskSure_s12 (R : Value → World → Prop) (x1 x2 x7 x9 : Value) (w : World) : Prop :=
  callG Try.prog 15 #[x7] w fun t44 w =>
  qG Try.prog (bq .neq 24 (.tmp 44) (.const (.int .i64 0)) t44 (.int .i64 0)) w fun t45 =>
  bV t45
  (R (.bool false) w)
  (law03_DiskSure_s11 R x1 x2 x7 x9 w)

theorem law03_DiskSure_s12_eq (R : Value → World → Prop) : ∀ e w, lift Try.prog 121 (sub (bodyOf Try.f3) [1, 1, 1, 1, 1]) (finK Try.prog Try.f3.results.toList R) e w = law03_DiskSure_s12 R (e 1) (e 2) (e 7) (e 9) w :=
  segs_eq (l := [(sub (bodyOf Try.f3) [1, 1, 1, 1, 1, 0])]) (y := (sub (bodyOf Try.f3) [1, 1, 1, 1, 1, 1])) (Y := (fun e w => law03_DiskSure_s11 R (e 1) (e 2) (e 7) (e 9) w)) (seq_seg (x := (sub (bodyOf Try.f3) [1, 1, 1, 1, 1, 1, 0])) (y := (sub (bodyOf Try.f3) [1, 1, 1, 1, 1, 1, 1])) (law03_DiskSure_s8_eq R) (law03_DiskSure_s11_eq R)) (fun e w => by kernel_rfl)

def law03_DiskSure_b13 (R : Value → World → Prop) (N1 : List Value → World → Prop) (x1 x2 x7 x9 x10 : Value) (w : World) : Prop :=
  qG Try.prog (bq .lss 3 (.tmp 30) (.tmp 31) x10 x9) w fun t32 =>
  bV t32
  (qG Try.prog (bq .add 3 (.const (.int .i64 97)) (.tmp 37) (.int .i64 97) x10) w fun t38 =>
  cvI .u8 t38 fun t39 =>
  callG Try.prog 14 #[t39] w fun t40 w =>
  callG Try.prog 13 #[x7, x10, t40] w fun t41 w =>
  qG Try.prog (bq .neq 24 (.tmp 41) (.const (.int .i64 0)) t41 (.int .i64 0)) w fun t42 =>
  bV t42
  (R (.bool false) w)
  (qG Try.prog (bq .add 3 (.tmp 33) (.const (.int .i64 1)) x10 (.int .i64 1)) w fun t34 =>
  N1 [x1, x2, x7, x9, t34] w))
  (law03_DiskSure_s12 R x1 x2 x7 x9 w)

theorem law03_DiskSure_b13_eq (R : Value → World → Prop) (N1 : List Value → World → Prop) : ∀ e w, lift Try.prog 121 (sub (bodyOf Try.f3) [1, 1, 1, 1, 0, 1, 0, 0]) (seqK (fun e w => N1 [e 1, e 2, e 7, e 9, e 10] w) (blockK 0 (seqK (fun e w => law03_DiskSure_s12 R (e 1) (e 2) (e 7) (e 9) w) (finK Try.prog Try.f3.results.toList R)))) e w = law03_DiskSure_b13 R N1 (e 1) (e 2) (e 7) (e 9) (e 10) w := fun e w => by kernel_rfl

def law03_DiskSure_L14F (R : Value → World → Prop) (N1 : List Value → World → Prop) (xs : List Value) (w : World) : Prop :=
  match xs with
  | [x1, x2, x7, x9, x10] => law03_DiskSure_b13 R N1 x1 x2 x7 x9 x10 w
  | _ => False

def law03_DiskSure_L14 (R : Value → World → Prop) (x1 x2 x7 x9 x10 : Value) (w : World) : Prop :=
  ∃ m, loopV (law03_DiskSure_L14F R) m [x1, x2, x7, x9, x10] w

theorem law03_DiskSure_L14_eq (R : Value → World → Prop) : ∀ e w, lift Try.prog 121 (sub (bodyOf Try.f3) [1, 1, 1, 1, 0, 1, 0]) (blockK 0 (seqK (fun e w => law03_DiskSure_s12 R (e 1) (e 2) (e 7) (e 9) w) (finK Try.prog Try.f3.results.toList R))) e w = law03_DiskSure_L14 R (e 1) (e 2) (e 7) (e 9) (e 10) w := loop_seg (F := law03_DiskSure_L14F R) (sel := fun e => [e 1, e 2, e 7, e 9, e 10]) fun N1 => (law03_DiskSure_b13_eq R N1)

def law03_DiskSure_s15 (R : Value → World → Prop) (x1 x2 x7 x9 : Value) (w : World) : Prop :=
  law03_DiskSure_L14 R x1 x2 x7 x9 (.int .i64 0) w

theorem law03_DiskSure_s15_eq (R : Value → World → Prop) : ∀ e w, lift Try.prog 121 (sub (bodyOf Try.f3) [1, 1, 1, 1, 0]) (seqK (fun e w => law03_DiskSure_s12 R (e 1) (e 2) (e 7) (e 9) w) (finK Try.prog Try.f3.results.toList R)) e w = law03_DiskSure_s15 R (e 1) (e 2) (e 7) (e 9) w :=
  segs_eq (l := [(sub (bodyOf Try.f3) [1, 1, 1, 1, 0, 0])]) (y := (sub (bodyOf Try.f3) [1, 1, 1, 1, 0, 1])) (Y := (fun e w => law03_DiskSure_L14 R (e 1) (e 2) (e 7) (e 9) (e 10) w)) (law03_DiskSure_L14_eq R) (fun e w => by kernel_rfl)

def law03_DiskSure_s16 (R : Value → World → Prop) (x0 x1 x2 x7 : Value) (w : World) : Prop :=
  qG Try.prog (bq .and 3 (.tmp 28) (.const (.int .i64 15)) x0 (.int .i64 15)) w fun t29 =>
  law03_DiskSure_s15 R x1 x2 x7 t29 w

theorem law03_DiskSure_s16_eq (R : Value → World → Prop) : ∀ e w, lift Try.prog 121 (sub (bodyOf Try.f3) [1, 1, 1]) (finK Try.prog Try.f3.results.toList R) e w = law03_DiskSure_s16 R (e 0) (e 1) (e 2) (e 7) w :=
  segs_eq (l := [(sub (bodyOf Try.f3) [1, 1, 1, 0])]) (y := (sub (bodyOf Try.f3) [1, 1, 1, 1])) (Y := (fun e w => law03_DiskSure_s15 R (e 1) (e 2) (e 7) (e 9) w)) (seq_seg (x := (sub (bodyOf Try.f3) [1, 1, 1, 1, 0])) (y := (sub (bodyOf Try.f3) [1, 1, 1, 1, 1])) (law03_DiskSure_s12_eq R) (law03_DiskSure_s15_eq R)) (fun e w => by kernel_rfl)

def law03_DiskSure_s17 (R : Value → World → Prop) (x0 x1 x2 : Value) (w : World) : Prop :=
  callG Try.prog 12 #[(.int .i64 16)] w fun t19 w =>
  qG Try.prog (Instr.extract t19 0) w fun t20 =>
  qG Try.prog (Instr.extract t19 1) w fun t21 =>
  qG Try.prog (bq .neq 24 (.tmp 22) (.const (.int .i64 0)) t21 (.int .i64 0)) w fun t23 =>
  bV t23
  (R (.bool false) w)
  (qG Try.prog (bq .eql 23 (.tmp 25) (.const (.pointer none)) t20 (.pointer none)) w fun t26 =>
  bV t26
  (R (.bool false) w)
  (law03_DiskSure_s16 R x0 x1 x2 t20 w))

theorem law03_DiskSure_s17_eq (R : Value → World → Prop) : ∀ e w, lift Try.prog 121 (bodyOf Try.f3) (finK Try.prog Try.f3.results.toList R) e w = law03_DiskSure_s17 R (e 0) (e 1) (e 2) w :=
  segs_eq (l := [(sub (bodyOf Try.f3) [0]), (sub (bodyOf Try.f3) [1, 0]), (sub (bodyOf Try.f3) [1, 1, 0])]) (y := (sub (bodyOf Try.f3) [1, 1, 1])) (Y := (fun e w => law03_DiskSure_s16 R (e 0) (e 1) (e 2) (e 7) w)) (law03_DiskSure_s16_eq R) (fun e w => by kernel_rfl)

def law03_DiskSure (R : Value → World → Prop) (x0 x1 x2 : Value) (w : World) : Prop := law03_DiskSure_s17 R x0 x1 x2 w
theorem law03_DiskSure_call {R : Value → World → Prop} {x0 x1 x2 : Value} {w : World} (h : law03_DiskSure R x0 x1 x2 w) : callG Try.prog 3 #[x0, x1, x2] w R :=
  calls_lift_eq Try.mixed Try.func3 (args := [x0, x1, x2]) rfl rfl rfl rfl ((law03_DiskSure_s17_eq R) (envOf [x0, x1, x2]) w) (by kernel_rfl) h
end Go.Proofs

/- Layer 3, the disk: what each function does. -/
set_option linter.unusedVariables false
set_option linter.unusedSimpArgs false
namespace Go.Proofs
open Go Go.Q

structure DK where
  sure : List (List UInt8)
  now : List (List UInt8)
  l : List (Nat × List UInt8)
  fuse : Int
  off : Bool
structure DK.Ok (d : DK) : Prop where
  len : d.sure.length = d.now.length
  pos : 0 < d.now.length
  most : d.now.length ≤ 4096
  sz1 : ∀ x ∈ d.sure, x.length = 32
  sz2 : ∀ x ∈ d.now, x.length = 32
  szl : ∀ x ∈ d.l, x.1 < d.now.length ∧ x.2.length = 32
  f0 : -1 ≤ d.fuse
  f1 : d.fuse < 9223372036854775808
def encW (x : Nat × List UInt8) : List Value := .int .i64 x.1 :: u8c x.2
def LogAt (w : World) (lv : Value) (l : List (Nat × List UInt8)) (S : List Nat) : Prop := RowsAt w lv 33 (l.map encW) S
structure DiskIs (w : World) (b : Nat) (d : DK) (bs bn : Nat) (lv : Value) (SL : List Nat) (T Ts Tn : Nat) : Prop where
  hb : w.heap[b]? = some (.cells #[.slice (some ⟨bs, 0, none⟩) d.now.length d.now.length, .slice (some ⟨bn, 0, none⟩) d.now.length d.now.length, lv, .int .i64 d.fuse, .bool d.off] T (0, 0))
  hs : w.heap[bs]? = some (.cells (d.sure.map u8c).flatten.toArray Ts (0, 0))
  hn : w.heap[bn]? = some (.cells (d.now.map u8c).flatten.toArray Tn (0, 0))
  hl : LogAt w lv d.l SL
  nd : (b :: bs :: bn :: SL).Nodup
  ok : d.Ok
def DiskAt (w : World) (b : Nat) (d : DK) (S : List Nat) : Prop := ∃ bs bn lv SL T Ts Tn, S = b :: bs :: bn :: SL ∧ DiskIs w b d bs bn lv SL T Ts Tn

theorem DiskAt.keep {w w' : World} {b : Nat} {d : DK} {S S' : List Nat} (h : DiskAt w b d S) (hk : Kp S' w w') (hd : ∀ x ∈ S, x ∉ S') : DiskAt w' b d S := by
  obtain ⟨bs, bn, lv, SL, T, Ts, Tn, rfl, h⟩ := h
  exact ⟨bs, bn, lv, SL, T, Ts, Tn, rfl, hk.get h.hb (hd _ (by simp)), hk.get h.hs (hd _ (by simp)), hk.get h.hn (hd _ (by simp)), RowsAt.keep h.hl hk (fun x hx => hd x (by simp [hx])), h.nd, h.ok⟩

def DK.burns (d : DK) : DK × Bool :=
  if d.off = true ∨ d.fuse = 0 then ({ d with off := true, fuse := -1 }, false) else ({ d with fuse := if d.fuse > 0 then d.fuse - 1 else d.fuse }, true)

theorem Size_spec {w : World} {b : Nat} {d : DK} {S : List Nat} (h : DiskAt w b d S) {K : Value → World → Prop} (hK : K (.int .i64 d.now.length) w) : callG Try.prog 28 #[.pointer (some ⟨b, 0, none⟩)] w K := by
  obtain ⟨bs, bn, lv, SL, T, Ts, Tn, rfl, h⟩ := h
  refine disk_Disk_Size_call ?_
  simpa [disk_Disk_Size, disk_Disk_Size_s0, h.hb] using hK
theorem Size_nil {w : World} {K : Value → World → Prop} (hK : K (.int .i64 0) w) : callG Try.prog 28 #[.pointer none] w K := by
  refine disk_Disk_Size_call ?_
  simpa [disk_Disk_Size, disk_Disk_Size_s0] using hK
theorem has_spec {w : World} {b : Nat} {d : DK} {S : List Nat} (h : DiskAt w b d S) (at_ : Int) {K : Value → World → Prop} (hK : K (.bool (decide (0 ≤ at_ ∧ at_ < d.now.length))) w) :
    callG Try.prog 44 #[.pointer (some ⟨b, 0, none⟩), .int .i64 at_] w K := by
  refine disk_Disk_has_call ?_
  simp only [disk_Disk_has, disk_Disk_has_s0, bq_geq, bV_b]
  refine ⟨fun h0 => Size_spec h ?_, fun h0 => ?_⟩
  · simp at h0
    simpa [h0] using hK
  · simp at h0
    have : ¬ 0 ≤ at_ := by omega
    simpa [this, h0] using hK
theorem DiskIs.ne {w : World} {b : Nat} {d : DK} {bs bn : Nat} {lv : Value} {SL : List Nat} {T Ts Tn : Nat} (h : DiskIs w b d bs bn lv SL T Ts Tn) :
    ¬ b = bs ∧ ¬ b = bn ∧ b ∉ SL ∧ ¬ bs = bn ∧ bs ∉ SL ∧ bn ∉ SL ∧ SL.Nodup ∧ ¬ bs = b ∧ ¬ bn = b ∧ ¬ bn = bs := by
  have hnd := h.nd
  simp only [List.nodup_cons, List.mem_cons, not_or] at hnd
  obtain ⟨⟨n1, n2, n3⟩, ⟨n4, n5⟩, n6, n7⟩ := hnd
  exact ⟨n1, n2, n3, n4, n5, n6, n7, fun h => n1 h.symm, fun h => n2 h.symm, fun h => n4 h.symm⟩
/-- the head of a disk is another one -/
theorem DiskIs.head {w : World} {b : Nat} {d : DK} {bs bn : Nat} {lv : Value} {SL : List Nat} {T Ts Tn : Nat} (h : DiskIs w b d bs bn lv SL T Ts Tn) (f : Int) (o : Bool) (hf : -1 ≤ f) (hf' : f < 9223372036854775808) :
    let w' := setBlk w b (.cells #[.slice (some ⟨bs, 0, none⟩) d.now.length d.now.length, .slice (some ⟨bn, 0, none⟩) d.now.length d.now.length, lv, .int .i64 f, .bool o] T (0, 0))
    DiskIs w' b { d with fuse := f, off := o } bs bn lv SL T Ts Tn ∧ Kp [b] w w' := by
  obtain ⟨n1, n2, n3, n4, n5, n6, n7, n8, n9, n10⟩ := h.ne
  have hk : Kp [b] w (setBlk w b (.cells #[.slice (some ⟨bs, 0, none⟩) d.now.length d.now.length, .slice (some ⟨bn, 0, none⟩) d.now.length d.now.length, lv, .int .i64 f, .bool o] T (0, 0))) := (Kp.refl _ _).setBlk (.inl (by simp)) _
  exact ⟨⟨heap_self (live_of h.hb), hk.get h.hs (by simp [n8]), hk.get h.hn (by simp [n9]), RowsAt.keep h.hl hk (fun x hx => by simp; intro hh; subst hh; exact n3 hx), h.nd,
    ⟨h.ok.len, h.ok.pos, h.ok.most, h.ok.sz1, h.ok.sz2, h.ok.szl, hf, hf'⟩⟩, hk⟩
theorem burns_spec {w : World} {b : Nat} {d : DK} {S : List Nat} (h : DiskAt w b d S) {K : Value → World → Prop} (hK : ∀ w', DiskAt w' b d.burns.1 S → Kp [b] w w' → K (.bool d.burns.2) w') :
    callG Try.prog 45 #[.pointer (some ⟨b, 0, none⟩)] w K := by
  obtain ⟨bs, bn, lv, SL, T, Ts, Tn, rfl, h⟩ := h
  have hlv := live_of h.hb
  have f0 := h.ok.f0
  have f1 := h.ok.f1
  refine disk_Disk_burns_call ?_
  have put : ∀ f o, d.burns.1 = { d with fuse := f, off := o } → -1 ≤ f → f < 9223372036854775808 → K (.bool d.burns.2) (setBlk w b (.cells #[.slice (some ⟨bs, 0, none⟩) d.now.length d.now.length, .slice (some ⟨bn, 0, none⟩) d.now.length d.now.length, lv, .int .i64 f, .bool o] T (0, 0))) := by
    intro f o hb h0 h1
    obtain ⟨g1, g2⟩ := h.head f o h0 h1
    exact hK _ (by rw [hb]; exact ⟨bs, bn, lv, SL, T, Ts, Tn, rfl, g1⟩) g2
  have hw : IntKind.i64.wrap (d.fuse - 1) = d.fuse - 1 := w64 (by omega) (by omega)
  cases ho : d.off with
  | true =>
    have hbb : d.burns = ({ d with fuse := -1, off := true }, false) := by simp [DK.burns, ho]
    have := put (-1) true (by rw [hbb]) (by omega) (by omega)
    rw [hbb] at this
    simpa [disk_Disk_burns, disk_Disk_burns_s0, disk_Disk_burns_s1, disk_Disk_burns_s2, disk_Disk_burns_s3, h.hb, heap_self, hlv, ho] using this
  | false =>
    by_cases hz : d.fuse = 0
    · have hbb : d.burns = ({ d with fuse := -1, off := true }, false) := by simp [DK.burns, hz]
      have := put (-1) true (by rw [hbb]) (by omega) (by omega)
      rw [hbb] at this
      simpa [disk_Disk_burns, disk_Disk_burns_s0, disk_Disk_burns_s1, disk_Disk_burns_s2, disk_Disk_burns_s3, h.hb, heap_self, hlv, ho, hz] using this
    · by_cases hp : 0 < d.fuse
      · have hbb : d.burns = ({ d with fuse := d.fuse - 1, off := false }, true) := by simp [DK.burns, ho, hz, hp]
        have := put (d.fuse - 1) false (by rw [hbb]) (by omega) (by omega)
        rw [hbb] at this
        have hle : ¬ d.fuse ≤ 0 := by omega
        simpa [disk_Disk_burns, disk_Disk_burns_s0, disk_Disk_burns_s1, disk_Disk_burns_s2, disk_Disk_burns_s3, h.hb, heap_self, hlv, ho, hz, hp, hw, hle] using this
      · have hbb : d.burns = ({ d with fuse := d.fuse, off := false }, true) := by simp [DK.burns, ho, hz, hp]
        have := put d.fuse false (by rw [hbb]) (by omega) (by omega)
        rw [hbb] at this
        have hle : d.fuse ≤ 0 := by omega
        simpa [disk_Disk_burns, disk_Disk_burns_s0, disk_Disk_burns_s1, disk_Disk_burns_s2, disk_Disk_burns_s3, h.hb, heap_self, hlv, ho, hz, hp, hle] using this
theorem Fuse_spec {w : World} {b : Nat} {d : DK} {S : List Nat} (h : DiskAt w b d S) (n : Int) (hn : n < 9223372036854775808) {K : Value → World → Prop}
    (hK : ∀ w', DiskAt w' b { d with fuse := max n (-1) } S → Kp [b] w w' → K (.int .i64 0) w') : callG Try.prog 23 #[.pointer (some ⟨b, 0, none⟩), .int .i64 n] w K := by
  refine disk_Disk_Fuse_call ?_
  simp only [disk_Disk_Fuse, disk_Disk_Fuse_s0]
  refine Size_spec h ?_
  obtain ⟨bs, bn, lv, SL, T, Ts, Tn, rfl, h⟩ := h
  have hp := h.ok.pos
  have hz : ¬ ((d.now.length : Int) = 0) := by omega
  obtain ⟨g1, g2⟩ := h.head (max n (-1)) d.off (by omega) (by omega)
  have := hK _ ⟨bs, bn, lv, SL, T, Ts, Tn, rfl, g1⟩ g2
  have hne : d.now ≠ [] := by intro hh; rw [hh] at hp; simp at hp
  simpa [hne, h.hb] using this
theorem Off_spec {w : World} {b : Nat} {d : DK} {S : List Nat} (h : DiskAt w b d S) {K : Value → World → Prop} (hK : K (.bool d.off) w) : callG Try.prog 26 #[.pointer (some ⟨b, 0, none⟩)] w K := by
  obtain ⟨bs, bn, lv, SL, T, Ts, Tn, rfl, h⟩ := h
  refine disk_Disk_Off_call ?_
  simpa [disk_Disk_Off, disk_Disk_Off_s0, h.hb] using hK
theorem LogAt.len {w : World} {lv : Value} {l : List (Nat × List UInt8)} {S : List Nat} (h : LogAt w lv l S) : ∃ a c, lv = .slice a l.length c := by
  obtain ⟨a, c, h, _⟩ := RowsAt.len h
  exact ⟨a, c, by simpa using h⟩
theorem Waits_spec {w : World} {b : Nat} {d : DK} {S : List Nat} (h : DiskAt w b d S) {K : Value → World → Prop} (hK : K (.int .i64 d.l.length) w) : callG Try.prog 27 #[.pointer (some ⟨b, 0, none⟩)] w K := by
  obtain ⟨bs, bn, lv, SL, T, Ts, Tn, rfl, h⟩ := h
  obtain ⟨a, c, hlv⟩ := h.hl.len
  refine disk_Disk_Waits_call ?_
  simpa [disk_Disk_Waits, disk_Disk_Waits_s0, h.hb, hlv] using hK
/-- what Read answers -/
def DK.read (d : DK) (at_ : Int) : List UInt8 × Int :=
  if 0 ≤ at_ ∧ at_ < d.now.length then (if d.off = true then ([], 30) else (d.now.getD at_.toNat [], 0)) else ([], 1)
theorem rows_get {L : List (List UInt8)} (h : ∀ x ∈ L, x.length = 32) {i : Nat} (hi : i < L.length) : ((L.map u8c).flatten.drop (i * 32)).take 32 = u8c (L.getD i []) := by
  rw [flat_get (k := 32) (by intro x hx; rw [List.mem_map] at hx; obtain ⟨y, hy, rfl⟩ := hx; simp [h y hy]) (by simpa using hi)]
  simp [List.getD, hi]
theorem rows_len {L : List (List UInt8)} (h : ∀ x ∈ L, x.length = 32) : (L.map u8c).flatten.length = L.length * 32 := by
  rw [flat_len (k := 32) (by intro x hx; rw [List.mem_map] at hx; obtain ⟨y, hy, rfl⟩ := hx; simp [h y hy])]
  simp
theorem Read_spec {w : World} {b : Nat} {d : DK} {S : List Nat} (h : DiskAt w b d S) (at_ : Int) {K : Value → World → Prop} (hK : K (.tuple #[.string (str (d.read at_).1), .int .i64 (d.read at_).2]) w) :
    callG Try.prog 17 #[.pointer (some ⟨b, 0, none⟩), .int .i64 at_] w K := by
  refine disk_Disk_Read_call ?_
  simp only [disk_Disk_Read, disk_Disk_Read_s0]
  refine has_spec h at_ ?_
  obtain ⟨bs, bn, lv, SL, T, Ts, Tn, rfl, h⟩ := h
  unfold DK.read at hK
  by_cases hat : 0 ≤ at_ ∧ at_ < d.now.length
  · rw [if_pos hat] at hK
    cases ho : d.off with
    | true => rw [ho, if_pos rfl] at hK; simpa [hat, h.hb, ho, str] using hK
    | false =>
      rw [ho, if_neg (by simp)] at hK
      have hi : at_.toNat < d.now.length := by omega
      have hlen := rows_len h.ok.sz2
      have hget := rows_get h.ok.sz2 hi
      have hle : at_.toNat * 32 + 32 ≤ (d.now.map u8c).flatten.length := by rw [hlen]; omega
      simpa [-List.length_flatten, hat, h.hb, ho, cvBS, h.hn, hle, hget, bytesOf_u8c, str] using hK
  · rw [if_neg hat] at hK
    simpa [hat, str] using hK

/-- the log is emptied -/
def DK.settled (d : DK) : DK := { d with l := [] }
theorem rep_rows {k : Nat} {v : List Value} (hv : v.length = k) (hk : 0 < k) (n : Nat) : rep v.toArray (n * k) = (List.replicate n v).flatten.toArray := by
  apply Array.ext
  · simp [rep, hv]
  · intro i h1 h2
    have hi : i < n * k := by simpa [rep] using h1
    simp only [rep, Array.getElem_map, Array.getElem_range, List.size_toArray, hv]
    have hm : i % k < k := Nat.mod_lt _ hk
    have hd : i / k < n := (Nat.div_lt_iff_lt_mul hk).2 hi
    have hfl : ((List.replicate n v).flatten.drop ((i / k) * k)).take k = v := by
      rw [flat_get (k := k) (by intro x hx; rw [List.mem_replicate] at hx; rw [hx.2, hv]) (by simpa using hd)]
      simp
    have hidx : i / k * k + i % k = i := by rw [Nat.mul_comm]; exact Nat.div_add_mod i k
    have e2 := congrArg (fun l => l[i % k]?) hfl
    simp only [List.getElem?_take_of_lt hm, List.getElem?_drop, hidx] at e2
    have h2' : i < (List.replicate n v).flatten.length := by simpa using h2
    rw [List.getElem?_eq_getElem h2', List.getElem?_eq_getElem (by omega)] at e2
    injection e2 with e2
    rw [List.getElem_toArray, e2]
    simp [hv, hm]
theorem zc93 : zc Try.prog 93 = (Value.int .i64 0 :: List.replicate 32 (Value.int .u8 0)).toArray := by kernel_rfl
theorem zc91 : zc Try.prog 91 = (List.replicate 32 (Value.int .u8 0)).toArray := by kernel_rfl
theorem one_all_replicate (n : Nat) (v : List Value) (hv : v.all one = true) : (List.replicate n v).flatten.toArray.all one = true := by
  rw [List.all_toArray, List.all_eq_true]
  intro x hx
  rw [List.mem_flatten] at hx
  obtain ⟨y, hy, hxy⟩ := hx
  rw [List.mem_replicate] at hy
  rw [hy.2] at hxy
  exact List.all_eq_true.1 hv x hxy
theorem settles_spec {w : World} {b : Nat} {d : DK} {S : List Nat} (h : DiskAt w b d S) {K : Value → World → Prop} (hK : ∀ w', DiskAt w' b d.settled S → Kp S w w' → K (.tuple #[]) w') :
    callG Try.prog 46 #[.pointer (some ⟨b, 0, none⟩)] w K := by
  refine disk_Disk_settles_call ?_
  obtain ⟨bs, bn, lv, SL, T, Ts, Tn, rfl, h⟩ := h
  obtain ⟨n1, n2, n3, n4, n5, n6, n7, n8, n9, n10⟩ := h.ne
  have hlv := live_of h.hb
  rcases h.hl with ⟨h1, h2, h3⟩ | ⟨bl, F, TF, h1, h2, h3, h4, h5, h6⟩
  · subst h1; subst h3
    have g := h.head d.fuse d.off h.ok.f0 h.ok.f1
    have hl0 : d.l = [] := by simpa using h2
    have hd : d.settled = { d with fuse := d.fuse, off := d.off } := by simp [DK.settled, ← hl0]
    have := hK _ (by rw [hd]; exact ⟨bs, bn, _, [], T, Ts, Tn, rfl, g.1⟩) (g.2.mono (by simp))
    simpa [disk_Disk_settles, disk_Disk_settles_s0, h.hb, clr] using this
  · simp only [List.length_map] at h1 h5 h6
    subst h1; subst h2
    simp only [List.mem_singleton] at n3 n5 n6
    have nl : ¬ bl = b := fun hh => n3 hh.symm
    have nl2 : ¬ bl = bs := fun hh => n5 hh.symm
    have nl3 : ¬ bl = bn := fun hh => n6 hh.symm
    have hlvl := live_of h3
    -- the head behind it
    have fin : ∀ F' : List (List Value), F'.length = F.length → (∀ x ∈ F', x.length = 33) →
        K (.tuple #[]) (setBlk (setBlk w bl (.cells F'.flatten.toArray TF (0, 0))) b (.cells #[.slice (some ⟨bs, 0, none⟩) d.now.length d.now.length, .slice (some ⟨bn, 0, none⟩) d.now.length d.now.length, .slice (some ⟨bl, 0, none⟩) 0 F.length, .int .i64 d.fuse, .bool d.off] T (0, 0))) := by
      intro F' hF' hF'r
      have hk : Kp [b, bl] w (setBlk (setBlk w bl (.cells F'.flatten.toArray TF (0, 0))) b (.cells #[.slice (some ⟨bs, 0, none⟩) d.now.length d.now.length, .slice (some ⟨bn, 0, none⟩) d.now.length d.now.length, .slice (some ⟨bl, 0, none⟩) 0 F.length, .int .i64 d.fuse, .bool d.off] T (0, 0))) :=
        ((Kp.refl _ _).setBlk (.inl (by simp)) _).setBlk (.inl (by simp)) _
      refine hK _ ⟨bs, bn, .slice (some ⟨bl, 0, none⟩) 0 F.length, [bl], T, Ts, Tn, rfl, heap_self (by simpa using hlv), hk.get h.hs (by simp [n8]; exact fun hh => nl2 hh.symm), hk.get h.hn (by simp [n9]; exact fun hh => nl3 hh.symm), ?_, h.nd, ?_⟩ (hk.mono (by simp))
      · refine .inr ⟨bl, F', TF, by simp [DK.settled, hF'], rfl, ?_, hF'r, by simp [DK.settled], by simp [DK.settled]⟩
        rw [heap_ne n3, heap_self hlvl]
      · exact ⟨h.ok.len, h.ok.pos, h.ok.most, h.ok.sz1, h.ok.sz2, by simp [DK.settled], h.ok.f0, h.ok.f1⟩
    cases hm : d.l.length with
    | zero =>
      have := fin F rfl h4
      have hself : setBlk w bl (.cells F.flatten.toArray TF (0, 0)) = w := setBlk_self h3
      rw [hself] at this
      have hite : (if F.length = 0 then some (⟨bl, 0, none⟩ : Addr) else some ⟨bl, 0, none⟩) = some ⟨bl, 0, none⟩ := by split <;> rfl
      simpa [disk_Disk_settles, disk_Disk_settles_s0, h.hb, clr, hm, hite] using this
    | succ m =>
      have hle : m + 1 ≤ F.length := by omega
      have hfl := flat_len h4
      have := fin (List.replicate (m + 1) (Value.int .i64 0 :: List.replicate 32 (Value.int .u8 0)) ++ F.drop (m + 1)) (by simp; omega) (by
        intro x hx
        rw [List.mem_append] at hx
        rcases hx with hx | hx
        · rw [List.mem_replicate] at hx; rw [hx.2]; simp
        · exact h4 x (List.mem_of_mem_drop hx))
      have hsp := flat_splice_many (i := 0) h4 (G := List.replicate (m + 1) (Value.int .i64 0 :: List.replicate 32 (Value.int .u8 0))) (by intro x hx; rw [List.mem_replicate] at hx; rw [hx.2]; simp) (by simp; omega)
      have hrep := rep_rows (k := 33) (v := Value.int .i64 0 :: List.replicate 32 (Value.int .u8 0)) (by simp) (by omega) (m + 1)
      have hite : (if F.length = 0 then some (⟨bl, 0, none⟩ : Addr) else some ⟨bl, 0, none⟩) = some ⟨bl, 0, none⟩ := by split <;> rfl
      have hcells : splice F.flatten.toArray 0 (rep (zc Try.prog 93) ((m + 1) * 33)) = (List.replicate (m + 1) (Value.int .i64 0 :: List.replicate 32 (Value.int .u8 0)) ++ F.drop (m + 1)).flatten.toArray := by
        rw [zc93, hrep, splice_list]
        congr 1
        simpa [-List.length_flatten, -List.flatten_append] using hsp
      have hone : (rep (zc Try.prog 93) ((m + 1) * 33)).all one = true := by rw [zc93, hrep]; exact one_all_replicate _ _ (by simp)
      have hsz : (rep (zc Try.prog 93) ((m + 1) * 33)).size ≤ F.flatten.length := by
        rw [hfl]; simp [rep]; omega
      simpa [-List.length_flatten, disk_Disk_settles, disk_Disk_settles_s0, h.hb, clr, hm, hite, h3, hcells, hone, hsz, heap_ne nl] using this
end Go.Proofs

/- Layer 3, the disk: New, Write, Flush, Crash. -/
set_option linter.unusedVariables false
set_option linter.unusedSimpArgs false
namespace Go.Proofs
open Go Go.Q
theorem zc56 : zc Try.prog 56 = #[.slice none 0 0, .slice none 0 0, .slice none 0 0, .int .i64 0, .bool false] := by kernel_rfl
def secs0 (n : Nat) : List (List UInt8) := List.replicate n (List.replicate 32 0)
def DK.fresh (n : Nat) : DK := { sure := secs0 n, now := secs0 n, l := [], fuse := -1, off := false }
theorem secs0_cells (n : Nat) : rep (zc Try.prog 91) (n * 32) = ((secs0 n).map u8c).flatten.toArray := by
  rw [zc91, rep_rows (k := 32) (by simp) (by omega)]
  simp [secs0, u8c]
theorem New_bad {w : World} {n : Int} (hn : ¬ (1 ≤ n ∧ n ≤ 4096)) {K : Value → World → Prop} (hK : K (.tuple #[.pointer none, .int .i64 1]) w) : callG Try.prog 12 #[.int .i64 n] w K := by
  refine disk_New_call ?_
  by_cases h1 : n < 1
  · simpa [disk_New, disk_New_s0, h1] using hK
  · have h2 : n > 4096 := by omega
    have h2' : (4096 : Int) < n := by omega
    have h3 : ¬ n ≤ 4096 := by omega
    simpa [disk_New, disk_New_s0, h1, h2'] using hK
theorem fresh_ok {n : Nat} (h1 : 1 ≤ n) (h2 : n ≤ 4096) : (DK.fresh n).Ok :=
  ⟨rfl, by simp [DK.fresh, secs0]; omega, by simp [DK.fresh, secs0]; omega, by intro x hx; simp only [DK.fresh, secs0, List.mem_replicate] at hx; rw [hx.2]; simp,
   by intro x hx; simp only [DK.fresh, secs0, List.mem_replicate] at hx; rw [hx.2]; simp, by simp [DK.fresh], by simp [DK.fresh], by simp [DK.fresh]⟩
theorem New_ok {w : World} {n : Nat} (h1 : 1 ≤ n) (h2 : n ≤ 4096) {K : Value → World → Prop}
    (hK : ∀ w' b S, DiskAt w' b (DK.fresh n) S → Kp [] w w' → (∀ x ∈ S, w.heap.size ≤ x) → K (.tuple #[.pointer (some ⟨b, 0, none⟩), .int .i64 0]) w') : callG Try.prog 12 #[.int .i64 n] w K := by
  refine disk_New_call ?_
  have ha : ¬ ((n : Int) < 1) := by omega
  have hb : ¬ ((4096 : Int) < n) := by omega
  have hn1 : ((n : Int)).toNat = n := by omega
  have hlen : (DK.fresh n).now.length = n := by simp [DK.fresh, secs0]
  have one : ∀ bs bn, ((bs = w.heap.size ∧ bn = w.heap.size + 1) ∨ (bs = w.heap.size + 1 ∧ bn = w.heap.size)) →
      K (.tuple #[.pointer (some ⟨w.heap.size + 2, 0, none⟩), .int .i64 0]) ((((w.alloc (.cells ((secs0 n).map u8c).flatten.toArray 91)).alloc (.cells ((secs0 n).map u8c).flatten.toArray 91)).alloc
        (.cells #[.slice (some ⟨bs, 0, none⟩) n n, .slice (some ⟨bn, 0, none⟩) n n, .slice none 0 0, .int .i64 (-1), .bool false] 56)).drew) := by
    intro bs bn hbb
    refine hK _ _ [w.heap.size + 2, bs, bn] ⟨bs, bn, .slice none 0 0, [], 56, 91, 91, rfl, ?_, ?_, ?_, .inl ⟨rfl, rfl, rfl⟩, ?_, fresh_ok h1 h2⟩ ?_ ?_
    · rw [hlen]; simp only [heap_drew, heap_alloc, World.size_alloc]; (repeat (first | rw [if_pos (by first | trivial | omega)] | rw [if_neg (by omega)])); rfl
    · rcases hbb with ⟨rfl, rfl⟩ | ⟨rfl, rfl⟩ <;> simp only [heap_drew, heap_alloc, World.size_alloc] <;> (repeat (first | rw [if_pos (by first | trivial | omega)] | rw [if_neg (by omega)])) <;> rfl
    · rcases hbb with ⟨rfl, rfl⟩ | ⟨rfl, rfl⟩ <;> simp only [heap_drew, heap_alloc, World.size_alloc] <;> (repeat (first | rw [if_pos (by first | trivial | omega)] | rw [if_neg (by omega)])) <;> rfl
    · rcases hbb with ⟨rfl, rfl⟩ | ⟨rfl, rfl⟩ <;> simp
    · exact ((((Kp.refl _ _).alloc _).alloc _).alloc _).drew
    · intro x hx
      simp only [List.mem_cons, List.not_mem_nil, or_false] at hx
      rcases hbb with ⟨rfl, rfl⟩ | ⟨rfl, rfl⟩ <;> rcases hx with hx | hx | hx <;> omega
  have hone := one w.heap.size (w.heap.size + 1) (.inl ⟨rfl, rfl⟩)
  have htwo := one (w.heap.size + 1) w.heap.size (.inr ⟨rfl, rfl⟩)
  have hb2 : (32 : Int) * n ≤ 281474976710656 := by omega
  have hb3 : (n : Int) < 9223372036854775808 := by omega
  have hb0 : (0 : Int) ≤ n := by omega
  simp [disk_New, disk_New_s0, ha, hb, mkG, hb2, hb3, hn1, secs0_cells, zc56, bld, Instr.fill, Value.cells]
  exact ⟨hone, htwo⟩
end Go.Proofs

/- Layer 3, the disk: Write. -/
set_option linter.unusedVariables false
set_option linter.unusedSimpArgs false
namespace Go.Proofs
open Go Go.Q
def DK.write (d : DK) (at_ : Int) (s : List UInt8) : DK × Int :=
  if (0 ≤ at_ ∧ at_ < d.now.length) ∧ s.length = 32 then
    (if d.burns.2 = true then ({ d.burns.1 with now := d.now.set at_.toNat s, l := d.l ++ [(at_.toNat, s)] }, 0) else (d.burns.1, 30))
  else (d, 1)
theorem DK.burns_now (d : DK) : d.burns.1.now = d.now ∧ d.burns.1.l = d.l ∧ d.burns.1.sure = d.sure := by
  unfold DK.burns; split <;> simp
theorem set_cells {L : List (List UInt8)} (h : ∀ x ∈ L, x.length = 32) {i : Nat} (hi : i < L.length) {s : List UInt8} (hs : s.length = 32) :
    splice (L.map u8c).flatten.toArray (i * 32) (u8c s).toArray = ((L.set i s).map u8c).flatten.toArray := by
  rw [splice_list, flat_splice (k := 32) (by intro x hx; rw [List.mem_map] at hx; obtain ⟨y, hy, rfl⟩ := hx; simp [h y hy]) (by simpa using hi) (by simp [hs])]
  congr 2
  rw [List.map_set]
  congr 1
  rw [List.drop_of_length_le (by simp [hs, h _ (List.getElem_mem hi)])]
  simp
theorem bld93 {n : Int} {cs : Array Value} (hc : cs.size = 32) {k : Value → Prop} : bld [(0, 1), (1, 32)] (zc Try.prog 93) #[(0, .int .i64 n), (1, .agg cs)] k = k (.agg (.int .i64 n :: cs.toList).toArray) := by
  have hz : (zc Try.prog 93).size = 33 := by rw [zc93]; simp
  unfold bld
  rw [fill_step (off := 0) (size := 1) rfl rfl (by omega), fill_step (off := 1) (size := 32) rfl (show (Value.agg cs).cells.size = 32 from hc) (by rw [splice_size (by simp [Value.cells, hz])]; omega)]
  have hdrop : (zc Try.prog 93).toList.drop 33 = [] := List.drop_of_length_le (by simp [hz])
  have e : splice (splice (zc Try.prog 93) 0 (Value.cells (.int .i64 n))) 1 (Value.cells (.agg cs)) = (.int .i64 n :: cs.toList).toArray := by
    simp [splice, Value.cells, hc, hdrop]
  simp only [Instr.fill, e]
theorem bsl93 {cs : Array Value} (hc : cs.size = 33) {w : World} {k : Value → World → Prop} : bsl 93 33 1 (zc Try.prog 93) #[(0, .agg cs)] w k = k (.slice (some ⟨w.heap.size, 0, none⟩) 1 1) (w.alloc (.cells cs 93)) := by
  have hr : (rep (zc Try.prog 93) (1 * 33)).size = 33 := by simp [rep]
  unfold bsl
  show (match Instr.fill (fun i => some (i * 33, 33)) (rep (zc Try.prog 93) (1 * 33)) [(0, Value.agg cs)] with | some cs => k (Value.slice (some ⟨w.heap.size, 0, none⟩) 1 1) (w.alloc (Obj.cells cs 93)) | none => False) = _
  rw [fill_step (off := 0) (size := 33) rfl (show (Value.agg cs).cells.size = 33 from hc) (by omega)]
  have hdrop : (rep (zc Try.prog 93) 33).toList.drop 33 = [] := List.drop_of_length_le (by simpa using Nat.le_of_eq hr)
  have e : splice (rep (zc Try.prog 93) (1 * 33)) 0 (Value.cells (.agg cs)) = cs := by
    simp [splice, Value.cells, hc, hdrop]
  simp only [Instr.fill, e]
theorem Write_spec {w : World} {b : Nat} {d : DK} {S : List Nat} (h : DiskAt w b d S) (hl : d.l.length < 2 ^ 40) (at_ : Int) (s : List UInt8) {K : Value → World → Prop}
    (hK : ∀ w' S', DiskAt w' b (d.write at_ s).1 S' → Kp S w w' → (∀ x ∈ S', x ∈ S ∨ w.heap.size ≤ x) → K (.int .i64 (d.write at_ s).2) w') :
    callG Try.prog 13 #[.pointer (some ⟨b, 0, none⟩), .int .i64 at_, .string (str s)] w K := by
  refine disk_Disk_Write_call ?_
  simp only [disk_Disk_Write, disk_Disk_Write_s1]
  refine has_spec h at_ ?_
  unfold DK.write at hK
  by_cases hat : (0 ≤ at_ ∧ at_ < d.now.length) ∧ s.length = 32
  case neg =>
    rw [if_neg hat] at hK
    have := hK w S h (Kp.refl _ _) (fun x hx => .inl hx)
    by_cases ha : 0 ≤ at_ ∧ at_ < d.now.length
    · have hs : ¬ s.length = 32 := fun hs => hat ⟨ha, hs⟩
      have hs' : ¬ ((s.length : Int) = 32) := by omega
      simpa [ha, hs'] using this
    · simpa [ha] using this
  case pos =>
    rw [if_pos hat] at hK
    obtain ⟨ha, hs⟩ := hat
    have hs' : ((s.length : Int) = 32) := by omega
    suffices hmain : disk_Disk_Write_s0 K (.pointer (some ⟨b, 0, none⟩)) (.int .i64 at_) (.string (str s)) w by
      simpa [ha, hs'] using hmain
    unfold disk_Disk_Write_s0
    refine burns_spec h fun w1 h1 hk1 => ?_
    obtain ⟨hnow, hlog, hsure⟩ := d.burns_now
    have hbS : b ∈ S := by obtain ⟨bs, bn, lv, SL, T, Ts, Tn, rfl, _⟩ := h; simp
    cases hb2 : d.burns.2 with
    | false =>
      rw [hb2] at hK
      have := hK w1 S h1 (hk1.mono (by simpa using fun _ => hbS)) (fun x hx => .inl hx)
      simpa using this
    | true =>
      rw [hb2] at hK
      simp only [if_true] at hK
      generalize hd1 : d.burns.1 = d1 at *
      obtain ⟨bs, bn, lv, SL, T, Ts, Tn, rfl, h1⟩ := h1
      obtain ⟨n1, n2, n3, n4, n5, n6, n7, n8, n9, n10⟩ := h1.ne
      have hlv := live_of h1.hb
      have hlvn := live_of h1.hn
      have hi : at_.toNat < d1.now.length := by rw [hnow]; omega
      have hlen := rows_len h1.ok.sz2
      have hle : at_.toNat * 32 + 32 ≤ (d1.now.map u8c).flatten.length := by rw [hlen]; omega
      have hset := set_cells h1.ok.sz2 hi hs
      have hsz2 : ∀ x ∈ d1.now.set at_.toNat s, x.length = 32 := by
        intro x hx
        rcases List.mem_or_eq_of_mem_set hx with hx | hx
        · exact h1.ok.sz2 x hx
        · rw [hx, hs]
      have hget := rows_get hsz2 (i := at_.toNat) (by simpa using hi)
      have hsget : (d1.now.set at_.toNat s).getD at_.toNat [] = s := by simp [List.getD, hi]
      have hext : (str s).extract 0 32 = str s := by
        have := ByteArray.extract_zero_size (b := str s)
        simpa [hs] using this
      have hcs : u8s (str s) = (u8c s).toArray := by rw [u8s_eq]; rfl
      have hon := one_u8c s
      have hle2 : at_.toNat * 32 + 32 ≤ ((d1.now.set at_.toNat s).map u8c).flatten.length := by rw [rows_len hsz2]; simp; omega
      have hat' : at_ < d1.now.length := by rw [hnow]; exact ha.2
      obtain ⟨N2, hN2⟩ : ∃ N2, N2 = ((d1.now.set at_.toNat s).map u8c).flatten.toArray := ⟨_, rfl⟩
      obtain ⟨N1, hN1⟩ : ∃ N1, N1 = (d1.now.map u8c).flatten.toArray := ⟨_, rfl⟩
      obtain ⟨cs, hcs2⟩ : ∃ cs, cs = (u8c s).toArray := ⟨_, rfl⟩
      have hn1 := h1.hn
      have hcsz : cs.size = 32 := by rw [hcs2]; simp [hs]
      have hN1s : at_.toNat * 32 + 32 ≤ N1.size := by rw [hN1]; exact hle
      have hN2s : at_.toNat * 32 + 32 ≤ N2.size := by rw [hN2]; exact hle2
      have hN2e : N2.extract (at_.toNat * 32) (at_.toNat * 32 + 32) = cs := by rw [hN2, extract_list, hget, hsget, hcs2]
      rw [← hcs2] at hcs hset hon
      rw [← hN1, ← hN2] at hset
      rw [← hN1] at hn1
      have hencs : encW (at_.toNat, s) = .int .i64 at_ :: cs.toList := by rw [hcs2]; simp [encW, Int.toNat_of_nonneg ha.1]
      simp [hs, ha.1, hat', h1.hb, hn1, cp, src, wrO, hext, hcs, hcsz, hN1s, hset, hN2s, hN2e, heap_self, hlv, hlvn, heap_ne n9, bld93, bsl93, heap_old]
      refine ⟨fun i hi => by rw [Array.all_eq_true] at hon; exact hon i (by omega), ?_⟩
      obtain ⟨W, hW⟩ : ∃ W, W = ((setBlk w1 bn (Obj.cells N2 Tn)).alloc (Obj.cells (Value.int IntKind.i64 at_ :: cs.toList).toArray 93)).drew := ⟨_, rfl⟩
      rw [← hW]
      have hkW : Kp [bn] w1 W := by rw [hW]; exact (((Kp.refl _ _).setBlk (.inl (by simp)) _).alloc _).drew
      have hWb := hkW.get h1.hb (by simpa using n2)
      have hWs := hkW.get h1.hs (by simpa using n4)
      have hWn : W.heap[bn]? = some (.cells N2 Tn (0, 0)) := by rw [hW]; simp only [heap_drew]; rw [heap_old (by simpa using hlvn), heap_self hlvn]
      have hWl : RowsAt W lv 33 (d1.l.map encW) SL := RowsAt.keep h1.hl hkW (fun x hx => by simp; intro hh; subst hh; exact n6 hx)
      have hWx : W.heap[w1.heap.size]? = some (.cells (encW (at_.toNat, s)).toArray 93 (0, 0)) := by
        rw [hW, hencs]; simp only [heap_drew]
        have := heap_new (w := setBlk w1 bn (Obj.cells N2 Tn)) (o := Obj.cells (Value.int IntKind.i64 at_ :: cs.toList).toArray 93)
        rw [size_setBlk] at this
        exact this
      have henl : (encW (at_.toNat, s)).length = 33 := by simp [encW, hs]
      rw [zc93]
      refine rows_app (rows := d1.l.map encW) (G := [encW (at_.toNat, s)]) hWl (by omega) (by simp) (by simpa using henl) ?_ ?_ ?_ ?_ ?_
      · have := one_u8c s
        rw [List.all_toArray] at this
        simpa [encW] using this
      · intro K' hk'
        have : (encW (at_.toNat, s)).toArray.extract 0 33 = (encW (at_.toNat, s)).toArray := by rw [← henl]; simp
        simpa [srcA, hWx, henl, this] using hk'
      · simp only [List.length_map, List.length_singleton, hlog]; omega
      · simp only [List.length_map, List.length_singleton, hlog]; omega
      · intro v' w' S' hr hk' hS'
        obtain ⟨a, c, hv', _⟩ := hr.len
        have hone' : one v' = true := by rw [hv']; rfl
        have hb' := hk'.get hWb n3
        have hs2 := hk'.get hWs n5
        have hn2 := hk'.get hWn n6
        have hlt : ∀ x, x ∈ b :: bs :: bn :: SL → x < w1.heap.size := by
          intro x hx
          simp only [List.mem_cons] at hx
          rcases hx with rfl | rfl | rfl | hx
          · exact hlv
          · exact live_of h1.hs
          · exact hlvn
          · exact RowsAt.lt h1.hl x hx
        have hWsz := hkW.size
        have hd' : ∀ x ∈ S', x ≠ b ∧ x ≠ bs ∧ x ≠ bn := by
          intro x hx
          rcases hS' x hx with hx | hx
          · exact ⟨fun hh => n3 (hh ▸ hx), fun hh => n5 (hh ▸ hx), fun hh => n6 (hh ▸ hx)⟩
          · have := hlt b (by simp); have := hlt bs (by simp); have := hlt bn (by simp)
            exact ⟨by omega, by omega, by omega⟩
        obtain ⟨w2, hw2⟩ : ∃ w2, w2 = setBlk w' b (.cells #[.slice (some ⟨bs, 0, none⟩) d1.now.length d1.now.length, .slice (some ⟨bn, 0, none⟩) d1.now.length d1.now.length, v', .int .i64 d1.fuse, .bool d1.off] T (0, 0)) := ⟨_, rfl⟩
        have hk2 : Kp [b] w' w2 := by rw [hw2]; exact (Kp.refl _ _).setBlk (.inl (by simp)) _
        have := hK w2 (b :: bs :: bn :: S') ⟨bs, bn, v', S', T, Ts, Tn, rfl, ?_, ?_, ?_, ?_, ?_, ?_⟩ ?_ ?_
        · simpa [hone', hb', hw2] using this
        · have := heap_self (o := .cells #[.slice (some ⟨bs, 0, none⟩) d1.now.length d1.now.length, .slice (some ⟨bn, 0, none⟩) d1.now.length d1.now.length, v', .int .i64 d1.fuse, .bool d1.off] T (0, 0)) (live_of hb')
          rw [hw2, this]; simp [hnow]
        · exact hk2.get hs2 (by simpa using n8)
        · rw [hN2, hnow] at hn2; exact hk2.get hn2 (by simpa using n9)
        · have := RowsAt.keep hr hk2 (fun x hx => by simpa using (hd' x hx).1)
          rw [hlog] at this
          simpa [LogAt] using this
        · have := hr.nodup
          simp only [List.nodup_cons, List.mem_cons, not_or]
          exact ⟨⟨n1, n2, fun hx => (hd' _ hx).1 rfl⟩, ⟨n4, fun hx => (hd' _ hx).2.1 rfl⟩, fun hx => (hd' _ hx).2.2 rfl, this⟩
        · refine ⟨by simpa [hsure, hnow] using h1.ok.len, by simpa [hnow] using h1.ok.pos, by simpa [hnow] using h1.ok.most, h1.ok.sz1, by rw [hnow] at hsz2; exact hsz2, ?_, h1.ok.f0, h1.ok.f1⟩
          intro x hx
          rw [List.mem_append] at hx
          simp only [List.length_set]
          rcases hx with hx | hx
          · have := h1.ok.szl x (by rw [hlog]; exact hx); rw [hnow] at this; exact this
          · simp only [List.mem_singleton] at hx; subst hx; exact ⟨by rw [hnow] at hi; exact hi, hs⟩
        · have e1 : Kp (b :: bs :: bn :: SL) w w1 := hk1.mono (by simp)
          have e2 : Kp (b :: bs :: bn :: SL) w1 W := hkW.mono (by simp)
          have e3 : Kp (b :: bs :: bn :: SL) W w' := hk'.mono (fun x hx _ => by simp [hx])
          have e4 : Kp (b :: bs :: bn :: SL) w' w2 := hk2.mono (by simp)
          exact ((e1.trans' e2).trans' e3).trans' e4
        · intro x hx
          simp only [List.mem_cons] at hx ⊢
          rcases hx with hx | hx | hx | hx
          · exact .inl (.inl hx)
          · exact .inl (.inr (.inl hx))
          · exact .inl (.inr (.inr (.inl hx)))
          · rcases hS' x hx with hx | hx
            · exact .inl (.inr (.inr (.inr hx)))
            · exact .inr (by have := hk1.size; omega)
end Go.Proofs
