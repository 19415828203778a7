/- Part of the proof (M1): an engine, rules or contracts of the functions; it states nothing of the claim by itself. -/
import Derived.Test.YtcekhmkhagakiaaProg
import Derived.Test.YtcekhmkhagakiaaM0
import Derived.KernelRfl
import Derived.Below
import Derived.Laws.Append
import Derived.ChangeArms
import Derived.DataReads
import Derived.Laws.StructEq
import Derived.Lib.Builder
import Derived.Laws.Externs
import Derived.Lib.UnsafeStr
import Derived.ChangeSlices
import GoSem.Extern.BytealgCompare
import Derived.MapKept
import Derived.WideKeyRuns

set_option linter.unusedVariables false
set_option linter.unusedSimpArgs false
namespace Go.Proofs
theorem Try.mixed : Try.prog.follows .mixedOrders = true := by kernel_rfl
end Go.Proofs

/- Rules for the printed forms: what an operation comes to when its operands are known; worlds; what is kept. -/
set_option linter.unusedVariables false
set_option linter.unusedSimpArgs false
namespace Go.Q
variable {P : Program}

theorem qG_of {s : Sem Value} {w : World} {v : Value} {K : Value → Prop} (h : s.run P w = .ok v w) : qG P s w K = K v := by
  apply propext
  constructor
  · rintro ⟨v', hr, hk⟩
    rw [h] at hr
    injection hr with h1
    subst h1; exact hk
  · exact fun hk => ⟨v, h, hk⟩
theorem stb_of {s : Sem Value} {w : World} {v u : Value} (h : s.run P w = .ok v w) : stb P s u w = (v = u) := by
  unfold stb; rw [h]; simp
/-! ### numbers -/
section
variable {T : TypeId} {xo yo : Operand} {k : IntKind} {a b : Int} {w : World} {K : Value → Prop} {u : Value}
theorem run_bq_int {op : BinOp} {s : Sem Value} (hop : ∀ w : World, (binOp op T (.int k a) (.int k b)).run P w = s.run P w) : (bq op T xo yo (.int k a) (.int k b)).run P w = s.run P w := by
  cases op <;> exact hop w
theorem run_add : (bq .add T xo yo (.int k a) (.int k b)).run P w = .ok (.int k (k.wrap (a + b))) w := run_bq_int (s := .pure _) fun w => by simp [binOp, Op.intArith]
theorem run_sub : (bq .sub T xo yo (.int k a) (.int k b)).run P w = .ok (.int k (k.wrap (a - b))) w := run_bq_int (s := .pure _) fun w => by simp [binOp, Op.intArith]
theorem run_mul : (bq .mul T xo yo (.int k a) (.int k b)).run P w = .ok (.int k (k.wrap (a * b))) w := run_bq_int (s := .pure _) fun w => by simp [binOp, Op.intArith]
theorem run_lss : (bq .lss T xo yo (.int k a) (.int k b)).run P w = .ok (.bool (decide (a < b))) w := run_bq_int (s := .pure _) fun w => by simp [binOp, Op.intCmp]
theorem run_leq : (bq .leq T xo yo (.int k a) (.int k b)).run P w = .ok (.bool (decide (a ≤ b))) w := run_bq_int (s := .pure _) fun w => by simp [binOp, Op.intCmp]
theorem run_gtr : (bq .gtr T xo yo (.int k a) (.int k b)).run P w = .ok (.bool (decide (a > b))) w := run_bq_int (s := .pure _) fun w => by simp [binOp, Op.intCmp]
theorem run_geq : (bq .geq T xo yo (.int k a) (.int k b)).run P w = .ok (.bool (decide (a ≥ b))) w := run_bq_int (s := .pure _) fun w => by simp [binOp, Op.intCmp]
theorem run_eql : (bq .eql T xo yo (.int k a) (.int k b)).run P w = .ok (.bool (decide (a = b))) w := run_bq_int (s := .pure _) fun w => by simp [binOp, Op.intCmp]; rfl
theorem run_neq : (bq .neq T xo yo (.int k a) (.int k b)).run P w = .ok (.bool (decide (a ≠ b))) w := run_bq_int (s := .pure _) fun w => by simp [binOp, Op.intCmp, bne]; rfl
@[simp] theorem bq_add : qG P (bq .add T xo yo (.int k a) (.int k b)) w K = K (.int k (k.wrap (a + b))) := qG_of run_add
@[simp] theorem bq_sub : qG P (bq .sub T xo yo (.int k a) (.int k b)) w K = K (.int k (k.wrap (a - b))) := qG_of run_sub
@[simp] theorem bq_mul : qG P (bq .mul T xo yo (.int k a) (.int k b)) w K = K (.int k (k.wrap (a * b))) := qG_of run_mul
@[simp] theorem bq_lss : qG P (bq .lss T xo yo (.int k a) (.int k b)) w K = K (.bool (decide (a < b))) := qG_of run_lss
@[simp] theorem bq_leq : qG P (bq .leq T xo yo (.int k a) (.int k b)) w K = K (.bool (decide (a ≤ b))) := qG_of run_leq
@[simp] theorem bq_gtr : qG P (bq .gtr T xo yo (.int k a) (.int k b)) w K = K (.bool (decide (a > b))) := qG_of run_gtr
@[simp] theorem bq_geq : qG P (bq .geq T xo yo (.int k a) (.int k b)) w K = K (.bool (decide (a ≥ b))) := qG_of run_geq
@[simp] theorem bq_eql : qG P (bq .eql T xo yo (.int k a) (.int k b)) w K = K (.bool (decide (a = b))) := qG_of run_eql
@[simp] theorem bq_neq : qG P (bq .neq T xo yo (.int k a) (.int k b)) w K = K (.bool (decide (a ≠ b))) := qG_of run_neq
@[simp] theorem stb_add : stb P (bq .add T xo yo (.int k a) (.int k b)) u w = (.int k (k.wrap (a + b)) = u) := stb_of run_add
@[simp] theorem stb_sub : stb P (bq .sub T xo yo (.int k a) (.int k b)) u w = (.int k (k.wrap (a - b)) = u) := stb_of run_sub
@[simp] theorem stb_mul : stb P (bq .mul T xo yo (.int k a) (.int k b)) u w = (.int k (k.wrap (a * b)) = u) := stb_of run_mul
@[simp] theorem stb_lss : stb P (bq .lss T xo yo (.int k a) (.int k b)) u w = (.bool (decide (a < b)) = u) := stb_of run_lss
@[simp] theorem stb_eql : stb P (bq .eql T xo yo (.int k a) (.int k b)) u w = (.bool (decide (a = b)) = u) := stb_of run_eql
@[simp] theorem stb_neq : stb P (bq .neq T xo yo (.int k a) (.int k b)) u w = (.bool (decide (a ≠ b)) = u) := stb_of run_neq
end
theorem run_not {b : Bool} {w : World} : (Op.unary .not (.bool b)).run P w = .ok (.bool !b) w := rfl
@[simp] theorem un_not {b : Bool} {w : World} {K : Value → Prop} : qG P (Op.unary .not (.bool b)) w K = K (.bool !b) := qG_of run_not
@[simp] theorem stb_not {b : Bool} {w : World} {u : Value} : stb P (Op.unary .not (.bool b)) u w = (.bool (!b) = u) := stb_of run_not
theorem run_extract {vs : Array Value} {i : Nat} {v : Value} {w : World} (h : vs[i]? = some v) : (Instr.extract (.tuple vs) i).run P w = .ok v w := by simp [Instr.extract, h]
@[simp] theorem ex0 {a b : Value} {w : World} {K : Value → Prop} : qG P (Instr.extract (.tuple #[a, b]) 0) w K = K a := qG_of (run_extract rfl)
@[simp] theorem ex1 {a b : Value} {w : World} {K : Value → Prop} : qG P (Instr.extract (.tuple #[a, b]) 1) w K = K b := qG_of (run_extract rfl)
@[simp] theorem ex30 {a b c : Value} {w : World} {K : Value → Prop} : qG P (Instr.extract (.tuple #[a, b, c]) 0) w K = K a := qG_of (run_extract rfl)
@[simp] theorem ex31 {a b c : Value} {w : World} {K : Value → Prop} : qG P (Instr.extract (.tuple #[a, b, c]) 1) w K = K b := qG_of (run_extract rfl)
@[simp] theorem ex32 {a b c : Value} {w : World} {K : Value → Prop} : qG P (Instr.extract (.tuple #[a, b, c]) 2) w K = K c := qG_of (run_extract rfl)
@[simp] theorem stb_ex0 {a b u : Value} {w : World} : stb P (Instr.extract (.tuple #[a, b]) 0) u w = (a = u) := stb_of (run_extract rfl)
@[simp] theorem stb_ex1 {a b u : Value} {w : World} : stb P (Instr.extract (.tuple #[a, b]) 1) u w = (b = u) := stb_of (run_extract rfl)
@[simp] theorem stb_ex30 {a b c u : Value} {w : World} : stb P (Instr.extract (.tuple #[a, b, c]) 0) u w = (a = u) := stb_of (run_extract rfl)
@[simp] theorem stb_ex31 {a b c u : Value} {w : World} : stb P (Instr.extract (.tuple #[a, b, c]) 1) u w = (b = u) := stb_of (run_extract rfl)
@[simp] theorem stb_ex32 {a b c u : Value} {w : World} : stb P (Instr.extract (.tuple #[a, b, c]) 2) u w = (c = u) := stb_of (run_extract rfl)
theorem run_max {ts : Array TypeId} {t : TypeId} {k : IntKind} {a b : Int} {w : World} : (Builtin.max_ ts t #[.int k a, .int k b]).run P w = .ok (.int k (max a b)) w := by
  simp only [Builtin.max_, List.foldlM_cons, List.foldlM_nil, Builtin.max2, pure_bind]
  show Result.ok _ _ = _
  congr 2; omega
theorem run_min {ts : Array TypeId} {t : TypeId} {k : IntKind} {a b : Int} {w : World} : (Builtin.min_ ts t #[.int k a, .int k b]).run P w = .ok (.int k (min a b)) w := by
  simp only [Builtin.min_, List.foldlM_cons, List.foldlM_nil, Builtin.min2, pure_bind]
  show Result.ok _ _ = _
  congr 2; omega
@[simp] theorem q_max {ts : Array TypeId} {t : TypeId} {k : IntKind} {a b : Int} {w : World} {K : Value → Prop} : qG P (Builtin.max_ ts t #[.int k a, .int k b]) w K = K (.int k (max a b)) := qG_of run_max
@[simp] theorem q_min {ts : Array TypeId} {t : TypeId} {k : IntKind} {a b : Int} {w : World} {K : Value → Prop} : qG P (Builtin.min_ ts t #[.int k a, .int k b]) w K = K (.int k (min a b)) := qG_of run_min
/-! ### strings, bools, pointers against nil -/
theorem toList_beq (s t : ByteArray) : (s.toList == t.toList) = decide (s = t) := by
  by_cases h : s = t
  · subst h; simp
  · have : s.toList ≠ t.toList := by
      intro h'
      apply h
      rw [ByteArray.toList_eq, ByteArray.toList_eq] at h'
      cases s; cases t
      simp only [ByteArray.mk.injEq]
      exact Array.toList_inj.1 h'
    rw [decide_eq_false h]
    exact beq_false_of_ne this
def sLt (s t : ByteArray) : Bool := Op.bytesLess s.toList t.toList
section
variable {T : TypeId} {xo yo : Operand} {a b : ByteArray} {w : World} {K : Value → Prop} {u : Value}
theorem run_bq_str {op : BinOp} {s : Sem Value} (hop : ∀ w : World, (binOp op T (.string a) (.string b)).run P w = s.run P w) : (bq op T xo yo (.string a) (.string b)).run P w = s.run P w := by
  cases op <;> exact hop w
theorem run_seql : (bq .eql T xo yo (.string a) (.string b)).run P w = .ok (.bool (decide (a = b))) w := run_bq_str (s := .pure _) fun w => by simp only [binOp, Op.stringOp, toList_beq]; rfl
theorem run_sneq : (bq .neq T xo yo (.string a) (.string b)).run P w = .ok (.bool (!decide (a = b))) w := run_bq_str (s := .pure _) fun w => by simp only [binOp, Op.stringOp, toList_beq]; rfl
theorem run_slss : (bq .lss T xo yo (.string a) (.string b)).run P w = .ok (.bool (sLt a b)) w := run_bq_str (s := .pure _) fun _ => rfl
@[simp] theorem bq_seql : qG P (bq .eql T xo yo (.string a) (.string b)) w K = K (.bool (decide (a = b))) := qG_of run_seql
@[simp] theorem bq_sneq : qG P (bq .neq T xo yo (.string a) (.string b)) w K = K (.bool (!decide (a = b))) := qG_of run_sneq
@[simp] theorem bq_slss : qG P (bq .lss T xo yo (.string a) (.string b)) w K = K (.bool (sLt a b)) := qG_of run_slss
@[simp] theorem stb_seql : stb P (bq .eql T xo yo (.string a) (.string b)) u w = (.bool (decide (a = b)) = u) := stb_of run_seql
@[simp] theorem stb_sneq : stb P (bq .neq T xo yo (.string a) (.string b)) u w = (.bool (!decide (a = b)) = u) := stb_of run_sneq
end
def isPtr (P : Program) (T : TypeId) : Bool := match P.underlying T with | some (.pointer _) => true | _ => false
def isBoolT (P : Program) (T : TypeId) : Bool := match P.underlying T with | some .bool => true | _ => false
def isSl (P : Program) (T : TypeId) : Bool := match P.underlying T with | some (.slice _) => true | _ => false
theorem run_equal1 {T : TypeId} {x y : Value} {w : World} {b : Bool} (h : (Op.equal T x y).run P w = .ok b w) (hx : ∀ c d, ¬ (x = .agg c ∧ y = .agg d)) (hn : ¬ (x = .nilIface ∧ y = .nilIface)) (xo yo : Operand)
    (he : binOp .eql T x y = (do pure (.bool (← Op.equal T x y)))) (hne : binOp .neq T x y = (do pure (.bool (!(← Op.equal T x y))))) :
    (bq .eql T xo yo x y).run P w = .ok (.bool b) w ∧ (bq .neq T xo yo x y).run P w = .ok (.bool !b) w := by
  have hg : ∀ op, op = .eql ∨ op = .neq → (eqGuard op T xo yo x y).run P w = .ok () w := by
    rintro op (rfl | rfl)
    all_goals
      unfold eqGuard
      simp only [Bool.not_true, Bool.false_eq_true, if_false]
      split
      · exact absurd ⟨rfl, rfl⟩ hn
      · exact absurd ⟨rfl, rfl⟩ (hx _ _)
      · rfl
  constructor
  · unfold bq; rw [Sem.run_bind, hg _ (.inl rfl)]; simp only [Result.andThen_ok, he, Sem.run_bind, h]; rfl
  · unfold bq; rw [Sem.run_bind, hg _ (.inr rfl)]; simp only [Result.andThen_ok, hne, Sem.run_bind, h]; rfl
section
variable {T : TypeId} {xo yo : Operand} {w : World} {K : Value → Prop} {u : Value}
theorem run_pnil (a : Option Addr) (hT : isPtr P T = true) : (bq .eql T xo yo (.pointer a) (.pointer none)).run P w = .ok (.bool a.isNone) w ∧ (bq .neq T xo yo (.pointer a) (.pointer none)).run P w = .ok (.bool !a.isNone) w := by
  unfold isPtr at hT
  split at hT
  · rename_i e hu
    refine run_equal1 ?_ (fun _ _ h => by cases h.1) (fun h => by cases h.1) xo yo (by cases a <;> rfl) (by cases a <;> rfl)
    unfold Op.equal Op.maxDepth Op.equalIn
    simp only [Sem.run_bind, run_underlying hu, Result.andThen_ok]
    cases a <;> rfl
  · cases hT
@[simp] theorem bq_peql (a : Option Addr) (hT : isPtr P T = true) : qG P (bq .eql T xo yo (.pointer a) (.pointer none)) w K = K (.bool a.isNone) := qG_of (run_pnil a hT).1
@[simp] theorem bq_pneq (a : Option Addr) (hT : isPtr P T = true) : qG P (bq .neq T xo yo (.pointer a) (.pointer none)) w K = K (.bool !a.isNone) := qG_of (run_pnil a hT).2
@[simp] theorem stb_peql (a : Option Addr) (hT : isPtr P T = true) : stb P (bq .eql T xo yo (.pointer a) (.pointer none)) u w = (.bool a.isNone = u) := stb_of (run_pnil a hT).1
@[simp] theorem stb_pneq (a : Option Addr) (hT : isPtr P T = true) : stb P (bq .neq T xo yo (.pointer a) (.pointer none)) u w = (.bool (!a.isNone) = u) := stb_of (run_pnil a hT).2
theorem run_bools (a b : Bool) (hT : isBoolT P T = true) : (bq .eql T xo yo (.bool a) (.bool b)).run P w = .ok (.bool (a == b)) w ∧ (bq .neq T xo yo (.bool a) (.bool b)).run P w = .ok (.bool !(a == b)) w := by
  unfold isBoolT at hT
  split at hT
  · rename_i hu
    refine run_equal1 ?_ (fun _ _ h => by cases h.1) (fun h => by cases h.1) xo yo rfl rfl
    unfold Op.equal Op.maxDepth Op.equalIn
    simp only [Sem.run_bind, run_underlying hu, Result.andThen_ok]
    rfl
  · cases hT
@[simp] theorem bq_beql (a b : Bool) (hT : isBoolT P T = true) : qG P (bq .eql T xo yo (.bool a) (.bool b)) w K = K (.bool (a == b)) := qG_of (run_bools a b hT).1
@[simp] theorem bq_bneq (a b : Bool) (hT : isBoolT P T = true) : qG P (bq .neq T xo yo (.bool a) (.bool b)) w K = K (.bool !(a == b)) := qG_of (run_bools a b hT).2
@[simp] theorem stb_beql (a b : Bool) (hT : isBoolT P T = true) : stb P (bq .eql T xo yo (.bool a) (.bool b)) u w = (.bool (a == b) = u) := stb_of (run_bools a b hT).1
@[simp] theorem stb_bneq (a b : Bool) (hT : isBoolT P T = true) : stb P (bq .neq T xo yo (.bool a) (.bool b)) u w = (.bool (!(a == b)) = u) := stb_of (run_bools a b hT).2
theorem run_slnil (a : Option Addr) (n c n' c' : Nat) (hT : isSl P T = true) : (bq .eql T xo yo (.slice a n c) (.slice none n' c')).run P w = .ok (.bool a.isNone) w ∧ (bq .neq T xo yo (.slice a n c) (.slice none n' c')).run P w = .ok (.bool !a.isNone) w := by
  unfold isSl at hT
  split at hT
  · rename_i e hu
    refine run_equal1 ?_ (fun _ _ h => by cases h.1) (fun h => by cases h.1) xo yo (by cases a <;> rfl) (by cases a <;> rfl)
    unfold Op.equal Op.maxDepth Op.equalIn
    simp only [Sem.run_bind, run_underlying hu, Result.andThen_ok]
    cases a <;> rfl
  · cases hT
@[simp] theorem bq_sleql (a : Option Addr) (n c n' c' : Nat) (hT : isSl P T = true) : qG P (bq .eql T xo yo (.slice a n c) (.slice none n' c')) w K = K (.bool a.isNone) := qG_of (run_slnil a n c n' c' hT).1
@[simp] theorem bq_slneq (a : Option Addr) (n c n' c' : Nat) (hT : isSl P T = true) : qG P (bq .neq T xo yo (.slice a n c) (.slice none n' c')) w K = K (.bool !a.isNone) := qG_of (run_slnil a n c n' c' hT).2
end

/-! ### the forms, their operands known -/
@[simp] theorem pk_b {t : Bool} {a b : Value} {K : Value → Prop} : pk (.bool t) a b K = K (bif t then a else b) := rfl
@[simp] theorem nk_p {a : Addr} {K : Value → Prop} : nk (.pointer (some a)) K = K (.pointer (some a)) := rfl
@[simp] theorem bV_b {t : Bool} {T F : Prop} : bV (.bool t) T F = ((t = true → T) ∧ (t = false → F)) := by cases t <;> simp [bV]
@[simp] theorem ld1_p {a : Addr} {w : World} {K : Value → Prop} : ld1 (.pointer (some a)) w K = rd1 w a K := rfl
@[simp] theorem ldn_p {n : Nat} {a : Addr} {w : World} {K : Value → Prop} : ldn n (.pointer (some a)) w K = rdN w a n fun cs => K (.agg cs) := rfl
@[simp] theorem st1_p {a : Addr} {v : Value} {w : World} {K : World → Prop} : st1 (.pointer (some a)) v w K = (one v = true ∧ wr1 w a v K) := rfl
@[simp] theorem stn_p {n : Nat} {a : Addr} {cs : Array Value} {w : World} {K : World → Prop} : stn n (.pointer (some a)) (.agg cs) w K = (cs.size = n ∧ wrN w a cs K) := rfl
@[simp] theorem add_mk {b o n : Nat} : (⟨b, o, none⟩ : Addr).add n = ⟨b, o + n, none⟩ := add_none rfl n
@[simp] theorem fa_p {off b o : Nat} {K : Value → Prop} : fa off (.pointer (some ⟨b, o, none⟩)) K = K (.pointer (some ⟨b, o + off, none⟩)) := by unfold fa; simp
@[simp] theorem ia_p {n b o len cap : Nat} {k : IntKind} {j : Int} {K : Value → Prop} : ia n (.slice (some ⟨b, o, none⟩) len cap) (.int k j) K = ((0 ≤ j ∧ j < len) ∧ K (.pointer (some ⟨b, o + j.toNat * n, none⟩))) := by unfold ia; simp
@[simp] theorem iaA_p {len n b o : Nat} {k : IntKind} {j : Int} {K : Value → Prop} : iaA len n (.pointer (some ⟨b, o, none⟩)) (.int k j) K = ((0 ≤ j ∧ j < len) ∧ K (.pointer (some ⟨b, o + j.toNat * n, none⟩))) := by unfold iaA; simp
@[simp] theorem slL_p {n len cap : Nat} {a : Option Addr} {lo hi : Option Value} {K : Value → Prop} : slL n (.slice a len cap) lo hi K = bnd hi len cap fun h => bnd lo 0 h fun l => K (.slice (if cap = l then a else a.map (·.add (l * n))) (h - l) (cap - l)) := rfl
@[simp] theorem slA_p {len n b o : Nat} {lo hi : Option Value} {K : Value → Prop} : slA len n (.pointer (some ⟨b, o, none⟩)) lo hi K = bnd hi len len fun h => bnd lo 0 h fun l => K (.slice (some ⟨b, (if len = l then o else o + l * n), none⟩) (h - l) (len - l)) := by
  unfold slA
  have : ∀ l, (if len = l then (⟨b, o, none⟩ : Addr) else (⟨b, o, none⟩ : Addr).add (l * n)) = ⟨b, (if len = l then o else o + l * n), none⟩ := by intro l; split <;> simp
  simp only [this]
@[simp] theorem slS_p {s : ByteArray} {lo hi : Option Value} {K : Value → Prop} : slS (.string s) lo hi K = bnd hi s.size s.size fun h => bnd lo 0 h fun l => K (.string (s.extract l h)) := rfl
@[simp] theorem bnd_none {d y : Nat} {K : Nat → Prop} : bnd none d y K = K d := rfl
@[simp] theorem bnd_some {k : IntKind} {i : Int} {d y : Nat} {K : Nat → Prop} : bnd (some (.int k i)) d y K = ((0 ≤ i ∧ i ≤ y) ∧ K i.toNat) := rfl
@[simp] theorem lenS_s {s : ByteArray} {K : Value → Prop} : lenS (.string s) K = K (.int .i64 s.size) := rfl
@[simp] theorem lenL_s {a : Option Addr} {n c : Nat} {K : Value → Prop} : lenL (.slice a n c) K = K (.int .i64 n) := rfl
@[simp] theorem cvI_i {kd k : IntKind} {n : Int} {K : Value → Prop} : cvI kd (.int k n) K = K (.int kd (kd.wrap n)) := rfl
@[simp] theorem cvSS_s {s : ByteArray} {K : Value → Prop} : cvSS (.string s) K = K (.string s) := rfl
@[simp] theorem fld_a {agg : Bool} {off n : Nat} {cs : Array Value} {K : Value → Prop} : fld agg off n (.agg cs) K = partG agg off n cs K := rfl
@[simp] theorem part_t {off n : Nat} {cs : Array Value} {K : Value → Prop} : partG true off n cs K = K (.agg (cs.extract off (off + n))) := rfl
@[simp] theorem part_f {off n : Nat} {cs : Array Value} {K : Value → Prop} : partG false off n cs K = match cs[off]? with | some v => K v | none => False := rfl
@[simp] theorem newG_k {c : Array Value} {T : TypeId} {w : World} {K : Value → World → Prop} : newG c T w K = K (.pointer (some ⟨w.heap.size, 0, none⟩)) (w.alloc (.cells c T)) := rfl
@[simp] theorem rd1_mk {w : World} {b o : Nat} {K : Value → Prop} : rd1 w ⟨b, o, none⟩ K = match w.heap[b]? with | some (.cells c _ _) => (match c[o]? with | some v => K v | none => False) | _ => False := by
  unfold rd1
  cases h : w.heap[b]? with
  | none => rfl
  | some x => cases x <;> first | rfl | (simp only [true_and]; rfl)
@[simp] theorem rdN_mk {w : World} {b o n : Nat} {K : Array Value → Prop} : rdN w ⟨b, o, none⟩ n K = match w.heap[b]? with | some (.cells c _ _) => o + n ≤ c.size ∧ K (c.extract o (o + n)) | _ => False := by
  unfold rdN; split <;> simp_all
@[simp] theorem wr1_mk {w : World} {b o : Nat} {v : Value} {K : World → Prop} : wr1 w ⟨b, o, none⟩ v K = match w.heap[b]? with | some (.cells c T fr) => (o < c.size ∧ okFr fr o 1) ∧ K (setBlk w b (.cells (c.setIfInBounds o v) T fr)) | _ => False := by
  unfold wr1; split <;> simp_all
@[simp] theorem wrN_mk {w : World} {b o : Nat} {vs : Array Value} {K : World → Prop} : wrN w ⟨b, o, none⟩ vs K = match w.heap[b]? with | some (.cells c T fr) => (o + vs.size ≤ c.size ∧ okFr fr o vs.size ∧ vs.all one = true) ∧ K (setBlk w b (.cells (splice c o vs) T fr)) | _ => False := by
  unfold wrN; split <;> simp_all
@[simp] theorem okFr0 {o n : Nat} : okFr (0, 0) o n = True := by simp [okFr]
@[simp] theorem one_int {k : IntKind} {n : Int} : one (.int k n) = true := rfl
@[simp] theorem one_bool {b : Bool} : one (.bool b) = true := rfl
@[simp] theorem one_str {s : ByteArray} : one (.string s) = true := rfl
@[simp] theorem one_ptr {a : Option Addr} : one (.pointer a) = true := rfl
@[simp] theorem one_sl {a : Option Addr} {n c : Nat} : one (.slice a n c) = true := rfl
/-! ### worlds -/
@[simp] theorem heap_drew {w : World} : w.drew.heap = w.heap := rfl
@[simp] theorem size_setBlk {w : World} {b : Nat} {o : Obj} : (setBlk w b o).heap.size = w.heap.size := by simp [setBlk]
theorem heap_setBlk {w : World} {b b' : Nat} {o : Obj} : (setBlk w b o).heap[b']? = if b = b' then (if b < w.heap.size then some o else none) else w.heap[b']? := by
  simp only [setBlk, Array.getElem?_setIfInBounds]
/-- there is such a block -/
def Live (w : World) (b : Nat) : Prop := b < w.heap.size
theorem live_of {w : World} {b : Nat} {o : Obj} (h : w.heap[b]? = some o) : Live w b := (Array.getElem?_eq_some_iff.1 h).1
theorem heap_self {w : World} {b : Nat} {o : Obj} (h : Live w b) : (setBlk w b o).heap[b]? = some o := by
  unfold Live at h; rw [heap_setBlk, if_pos rfl, if_pos h]
theorem heap_ne {w : World} {b b' : Nat} {o : Obj} (h : ¬ b = b') : (setBlk w b o).heap[b']? = w.heap[b']? := by
  rw [heap_setBlk, if_neg h]
@[simp] theorem live_setBlk {w : World} {b b' : Nat} {o : Obj} : Live (setBlk w b o) b' = Live w b' := by simp [Live]
@[simp] theorem live_drew {w : World} {b : Nat} : Live w.drew b = Live w b := rfl
theorem heap_new {w : World} {o : Obj} : (w.alloc o).heap[w.heap.size]? = some o := by
  show (w.heap.push o)[w.heap.size]? = _
  simp
theorem heap_old {w : World} {b : Nat} {o : Obj} (h : Live w b) : (w.alloc o).heap[b]? = w.heap[b]? := by
  show (w.heap.push o)[b]? = _
  rw [Array.getElem?_push, if_neg (by unfold Live at h; omega)]
@[simp] theorem setBlk_new {w : World} {o o' : Obj} : Q.setBlk (w.alloc o) w.heap.size o' = w.alloc o' := by
  unfold Q.setBlk World.alloc
  simp only [World.mk.injEq, and_true]
  apply Array.ext_getElem?
  intro j
  rw [Array.getElem?_setIfInBounds, Array.getElem?_push, Array.getElem?_push]
  by_cases hj : w.heap.size = j
  · subst hj; simp
  · have : ¬ j = w.heap.size := fun h => hj h.symm
    simp [hj, this]
theorem heap_alloc {w : World} {b' : Nat} {o : Obj} : (w.alloc o).heap[b']? = if b' = w.heap.size then some o else w.heap[b']? := by
  show (w.heap.push o)[b']? = _
  rw [Array.getElem?_push]
@[simp] theorem setBlk2 {w : World} {b : Nat} {o o' : Obj} : setBlk (setBlk w b o) b o' = setBlk w b o' := setBlk_setBlk w b o o'
@[simp] theorem setBlk_drew {w : World} {b : Nat} {o : Obj} : setBlk w.drew b o = (setBlk w b o).drew := rfl
@[simp] theorem alloc_drew' {w : World} {o : Obj} : w.drew.alloc o = (w.alloc o).drew := rfl
theorem lt_of_blk {w : World} {b : Nat} {o : Obj} (h : w.heap[b]? = some o) : b < w.heap.size := (Array.getElem?_eq_some_iff.1 h).1
/-- outside the blocks 'S' what there was is as it was -/
structure Kp (S : List Nat) (w w' : World) : Prop where
  os : w'.os = w.os
  tape : w'.tape = w.tape
  output : w'.output = w.output
  size : w.heap.size ≤ w'.heap.size
  keep : ∀ b, b < w.heap.size → b ∉ S → w'.heap[b]? = w.heap[b]?
theorem Kp.refl (S : List Nat) (w : World) : Kp S w w := ⟨rfl, rfl, rfl, Nat.le_refl _, fun _ _ _ => rfl⟩
theorem Kp.trans {S S' : List Nat} {w w1 w2 : World} (h : Kp S w w1) (h' : Kp S' w1 w2) (hS : ∀ b, b ∈ S' → b < w.heap.size → b ∈ S) : Kp S w w2 :=
  ⟨h'.os.trans h.os, h'.tape.trans h.tape, h'.output.trans h.output, Nat.le_trans h.size h'.size, fun b hb hn => (h'.keep b (Nat.lt_of_lt_of_le hb h.size) (fun hm => hn (hS b hm hb))).trans (h.keep b hb hn)⟩
theorem Kp.trans' {S : List Nat} {w w1 w2 : World} (h : Kp S w w1) (h' : Kp S w1 w2) : Kp S w w2 := h.trans h' fun _ h _ => h
theorem Kp.mono {S S' : List Nat} {w w' : World} (h : Kp S w w') (hS : ∀ b, b ∈ S → b < w.heap.size → b ∈ S') : Kp S' w w' := (Kp.refl S' w).trans h hS
theorem Kp.drew {S : List Nat} {w w' : World} (h : Kp S w w') : Kp S w w'.drew := ⟨h.os, h.tape, h.output, h.size, h.keep⟩
theorem Kp.alloc {S : List Nat} {w w' : World} (h : Kp S w w') (o : Obj) : Kp S w (w'.alloc o) :=
  ⟨h.os, h.tape, h.output, by simp; have := h.size; omega, fun b hb hn => by
    rw [heap_alloc, if_neg (by have := h.size; omega)]; exact h.keep b hb hn⟩
theorem Kp.setBlk {S : List Nat} {w w' : World} (h : Kp S w w') {b : Nat} (hb : b ∈ S ∨ w.heap.size ≤ b) (o : Obj) : Kp S w (setBlk w' b o) :=
  ⟨h.os, h.tape, h.output, by simpa using h.size, fun b' hb' hn => by
    rw [heap_setBlk, if_neg (by intro hh; subst hh; rcases hb with hb | hb; exact hn hb; omega)]; exact h.keep b' hb' hn⟩
theorem Kp.get {S : List Nat} {w w' : World} (h : Kp S w w') {b : Nat} {o : Obj} (hb : w.heap[b]? = some o) (hn : b ∉ S) : w'.heap[b]? = some o := by
  rw [h.keep b (lt_of_blk hb) hn]; exact hb
theorem Kp.below {w w' : World} (h : Kp [] w w') : Go.RowKit.Below w.heap.size w w' := ⟨h.os, h.tape, h.output, h.size, fun k hk => h.keep k hk (by simp)⟩
theorem callG.mono {f : FuncId} {args : Array Value} {w : World} {K K' : Value → World → Prop} (h : callG P f args w K) (hk : ∀ v w', K v w' → K' v w') : callG P f args w K' :=
  Calls.mono h fun _ _ ⟨v, he, hv⟩ => ⟨v, he, hk v _ hv⟩
/-! ### numbers that fit -/
theorem w64 {x : Int} (h0 : -9223372036854775808 ≤ x) (h1 : x < 9223372036854775808) : IntKind.i64.wrap x = x := wrap64 x h0 h1
/-! ### loops: what holds at a round's head, and how many rounds are left -/
theorem loop_inv {F : (List Value → World → Prop) → List Value → World → Prop} (I : Nat → List Value → World → Prop) (hF : ∀ m N xs w, I m xs w → (∀ m' xs' w', m' < m → I m' xs' w' → N xs' w') → F N xs w)
    {m : Nat} {xs : List Value} {w : World} (h : I m xs w) : ∃ k, loopV F k xs w := by
  have key : ∀ k m, m < k → ∀ xs w, I m xs w → loopV F k xs w := by
    intro k
    induction k with
    | zero => intro m hm; omega
    | succ k ih => intro m hm xs w h; exact hF m _ xs w h fun m' xs' w' hlt h' => ih m' (by omega) xs' w' h'
  exact ⟨m + 1, key (m + 1) m (by omega) xs w h⟩
end Go.Q

set_option linter.unusedVariables false
set_option linter.unusedSimpArgs false
namespace Go.Proofs
open Go Go.Q
@[simp] theorem Try.isBool4 : isBoolT Try.prog 4 = true := by kernel_rfl
@[simp] theorem Try.isPtr15 : isPtr Try.prog 15 = true := by kernel_rfl
@[simp] theorem Try.isPtr16 : isPtr Try.prog 16 = true := by kernel_rfl
@[simp] theorem Try.isPtr17 : isPtr Try.prog 17 = true := by kernel_rfl
@[simp] theorem Try.isSl35 : isSl Try.prog 35 = true := by kernel_rfl
@[simp] theorem Try.isSl36 : isSl Try.prog 36 = true := by kernel_rfl
@[simp] theorem Try.isSl55 : isSl Try.prog 55 = true := by kernel_rfl
@[simp] theorem Try.isSl56 : isSl Try.prog 56 = true := by kernel_rfl
@[simp] theorem Try.isSl57 : isSl Try.prog 57 = true := by kernel_rfl
@[simp] theorem Try.isSl58 : isSl Try.prog 58 = true := by kernel_rfl
@[simp] theorem Try.isSl93 : isSl Try.prog 93 = true := by kernel_rfl
@[simp] theorem Try.isPtr99 : isPtr Try.prog 99 = true := by kernel_rfl
@[simp] theorem Try.isSl100 : isSl Try.prog 100 = true := by kernel_rfl
@[simp] theorem Try.isPtr124 : isPtr Try.prog 124 = true := by kernel_rfl
@[simp] theorem Try.isPtr136 : isPtr Try.prog 136 = true := by kernel_rfl
@[simp] theorem Try.isPtr153 : isPtr Try.prog 153 = true := by kernel_rfl
end Go.Proofs

set_option linter.unusedVariables false
set_option linter.unusedSimpArgs false
namespace Go.Proofs
open Go Go.Q
set_option maxRecDepth 100000
/-! quayside/ledger.name -/
def ledger_name_s0 (R : Value → World → Prop) (x0 : Value) (w : World) : Prop :=
  lenS x0 fun t4 =>
  qG Try.prog (bq .geq 3 (.tmp 4) (.const (.int .i64 1)) t4 (.int .i64 1)) w fun t5 =>
  bV t5
  (lenS x0 fun t8 =>
  qG Try.prog (bq .leq 3 (.tmp 8) (.const (.int .i64 64)) t8 (.int .i64 64)) w fun t9 =>
  R t9 w)
  (R (.bool false) w)
theorem ledger_name_s0_eq (R : Value → World → Prop) : ∀ e w, lift Try.prog 11 (bodyOf Try.f87) (finK Try.prog Try.f87.results.toList R) e w = ledger_name_s0 R (e 0) w := fun e w => by kernel_rfl
def ledger_name (R : Value → World → Prop) (x0 : Value) (w : World) : Prop := ledger_name_s0 R x0 w
theorem ledger_name_call {R : Value → World → Prop} {x0 : Value} {w : World} (h : ledger_name R x0 w) : callG Try.prog 87 #[x0] w R :=
  calls_lift_eq Try.mixed Try.func87 (args := [x0]) rfl rfl rfl rfl ((ledger_name_s0_eq R) (envOf [x0]) w) (by kernel_rfl) h
/-! quayside/ledger.of -/
def ledger_of_s0 (R : Value → World → Prop) (x0 : Value) (w : World) : Prop :=
  newG (Value.cells x0) 44 w fun t1 w =>
  newG (zc Try.prog 119) 119 w fun t2 w =>
  fa 0 t1 fun t3 =>
  ld1 t3 w fun t4 =>
  fa 1 t1 fun t5 =>
  ld1 t5 w fun t6 =>
  bld [(0, 1), (1, 1)] (zc Try.prog 119) #[(0, t4), (1, t6)] fun t7 =>
  stn 2 t2 t7 w fun w =>
  qG Try.prog (do loadVar 119 (← asAddr t2)) w fun r2 =>
  R r2 w
theorem ledger_of_s0_eq (R : Value → World → Prop) : ∀ e w, lift Try.prog 8 (bodyOf Try.f89) (finK Try.prog Try.f89.results.toList R) e w = ledger_of_s0 R (e 0) w := fun e w => by kernel_rfl
def ledger_of (R : Value → World → Prop) (x0 : Value) (w : World) : Prop := ledger_of_s0 R x0 w
theorem ledger_of_call {R : Value → World → Prop} {x0 : Value} {w : World} (h : ledger_of R x0 w) : callG Try.prog 89 #[x0] w R :=
  calls_lift_eq Try.mixed Try.func89 (args := [x0]) rfl rfl rfl rfl ((ledger_of_s0_eq R) (envOf [x0]) w) (by kernel_rfl) h
/-! quayside/ledger.hold -/
def ledger_hold_s0 (R : Value → World → Prop) (x0 x1 : Value) (w : World) : Prop :=
  newG (Value.cells x1) 34 w fun t3 w =>
  fa 0 t3 fun t5 =>
  ld1 t5 w fun t6 =>
  qG Try.prog (bq .add 3 (.tmp 7) (.const (.int .i64 1)) x0 (.int .i64 1)) w fun t8 =>
  qG Try.prog (bq .eql 3 (.tmp 6) (.tmp 8) t6 t8) w fun t9 =>
  bV t9
  (fa 1 t3 fun t11 =>
  ld1 t11 w fun t12 =>
  callG Try.prog 87 #[t12] w fun t13 w =>
  bV t13
  (fa 2 t3 fun t16 =>
  ld1 t16 w fun t17 =>
  callG Try.prog 87 #[t17] w fun t18 w =>
  bV t18
  (fa 3 t3 fun t21 =>
  ld1 t21 w fun t22 =>
  qG Try.prog (bq .geq 3 (.tmp 22) (.const (.int .i64 1)) t22 (.int .i64 1)) w fun t23 =>
  bV t23
  (fa 4 t3 fun t26 =>
  ld1 t26 w fun t27 =>
  qG Try.prog (bq .geq 3 (.tmp 27) (.const (.int .i64 0)) t27 (.int .i64 0)) w fun t28 =>
  bV t28
  (fa 4 t3 fun t31 =>
  ld1 t31 w fun t32 =>
  qG Try.prog (bq .leq 3 (.tmp 32) (.const (.int .i64 2)) t32 (.int .i64 2)) w fun t33 =>
  bV t33
  (fa 5 t3 fun t36 =>
  ld1 t36 w fun t37 =>
  qG Try.prog (bq .geq 3 (.tmp 37) (.const (.int .i64 0)) t37 (.int .i64 0)) w fun t38 =>
  R t38 w)
  (R (.bool false) w))
  (R (.bool false) w))
  (R (.bool false) w))
  (R (.bool false) w))
  (R (.bool false) w))
  (R (.bool false) w)
theorem ledger_hold_s0_eq (R : Value → World → Prop) : ∀ e w, lift Try.prog 40 (bodyOf Try.f90) (finK Try.prog Try.f90.results.toList R) e w = ledger_hold_s0 R (e 0) (e 1) w := fun e w => by kernel_rfl
def ledger_hold (R : Value → World → Prop) (x0 x1 : Value) (w : World) : Prop := ledger_hold_s0 R x0 x1 w
theorem ledger_hold_call {R : Value → World → Prop} {x0 x1 : Value} {w : World} (h : ledger_hold R x0 x1 w) : callG Try.prog 90 #[x0, x1] w R :=
  calls_lift_eq Try.mixed Try.func90 (args := [x0, x1]) rfl rfl rfl rfl ((ledger_hold_s0_eq R) (envOf [x0, x1]) w) (by kernel_rfl) h
/-! quayside/ledger.move -/
def ledger_move_s0 (R : Value → World → Prop) (x0 x3 : Value) (w : World) : Prop :=
  fa 0 x3 fun t19 =>
  ld1 t19 w fun t20 =>
  qG Try.prog (bq .add 3 (.tmp 21) (.const (.int .i64 1)) x0 (.int .i64 1)) w fun t22 =>
  qG Try.prog (bq .eql 3 (.tmp 20) (.tmp 22) t20 t22) w fun t23 =>
  bV t23
  (fa 1 x3 fun t25 =>
  ld1 t25 w fun t26 =>
  callG Try.prog 87 #[t26] w fun t27 w =>
  bV t27
  (fa 2 x3 fun t30 =>
  ld1 t30 w fun t31 =>
  callG Try.prog 87 #[t31] w fun t32 w =>
  bV t32
  (fa 3 x3 fun t35 =>
  ld1 t35 w fun t36 =>
  qG Try.prog (bq .neq 3 (.tmp 36) (.const (.int .i64 0)) t36 (.int .i64 0)) w fun t37 =>
  R t37 w)
  (R (.bool false) w))
  (R (.bool false) w))
  (R (.bool false) w)
theorem ledger_move_s0_eq (R : Value → World → Prop) : ∀ e w, lift Try.prog 39 (sub (bodyOf Try.f91) [1, 1]) (finK Try.prog Try.f91.results.toList R) e w = ledger_move_s0 R (e 0) (e 3) w := fun e w => by kernel_rfl
def ledger_move_s1 (R : Value → World → Prop) (x0 x3 x6 x7 : Value) (w : World) : Prop :=
  bV x7
  (fa 5 x3 fun t11 =>
  ld1 t11 w fun t12 =>
  qG Try.prog (bq .neq 3 (.tmp 12) (.const (.int .i64 0)) t12 (.int .i64 0)) w fun t13 =>
  bV t13
  (R (.bool false) w)
  (ledger_move_s0 R x0 x3 w))
  (qG Try.prog (bq .eql 3 (.tmp 6) (.const (.int .i64 3)) x6 (.int .i64 3)) w fun t15 =>
  bV t15
  (fa 5 x3 fun t16 =>
  ld1 t16 w fun t17 =>
  qG Try.prog (bq .lss 3 (.tmp 17) (.const (.int .i64 1)) t17 (.int .i64 1)) w fun t18 =>
  bV t18
  (R (.bool false) w)
  (ledger_move_s0 R x0 x3 w))
  (R (.bool false) w))
theorem ledger_move_s1_eq (R : Value → World → Prop) : ∀ e w, lift Try.prog 39 (sub (bodyOf Try.f91) [1, 0, 1, 0, 1]) (blockK 0 (seqK (fun e w => ledger_move_s0 R (e 0) (e 3) w) (finK Try.prog Try.f91.results.toList R))) e w = ledger_move_s1 R (e 0) (e 3) (e 6) (e 7) w := fun e w => by kernel_rfl
def ledger_move_s2 (R : Value → World → Prop) (x0 x3 x6 : Value) (w : World) : Prop :=
  qG Try.prog (bq .eql 3 (.tmp 6) (.const (.int .i64 1)) x6 (.int .i64 1)) w fun t8 =>
  bV t8
  (ledger_move_s1 R x0 x3 x6 (.bool true) w)
  (qG Try.prog (bq .eql 3 (.tmp 6) (.const (.int .i64 6)) x6 (.int .i64 6)) w fun t9 =>
  bV t9
  (ledger_move_s1 R x0 x3 x6 (.bool true) w)
  (qG Try.prog (bq .eql 3 (.tmp 6) (.const (.int .i64 7)) x6 (.int .i64 7)) w fun t10 =>
  ledger_move_s1 R x0 x3 x6 t10 w))
theorem ledger_move_s2_eq (R : Value → World → Prop) : ∀ e w, lift Try.prog 39 (sub (bodyOf Try.f91) [1, 0, 1, 0]) (blockK 0 (seqK (fun e w => ledger_move_s0 R (e 0) (e 3) w) (finK Try.prog Try.f91.results.toList R))) e w = ledger_move_s2 R (e 0) (e 3) (e 6) w :=
  segs_eq (l := [(sub (bodyOf Try.f91) [1, 0, 1, 0, 0])]) (y := (sub (bodyOf Try.f91) [1, 0, 1, 0, 1])) (Y := (fun e w => ledger_move_s1 R (e 0) (e 3) (e 6) (e 7) w)) (ledger_move_s1_eq R) (fun e w => by kernel_rfl)
def ledger_move_s3 (R : Value → World → Prop) (x0 x3 : Value) (w : World) : Prop :=
  fa 4 x3 fun t5 =>
  ld1 t5 w fun t6 =>
  ledger_move_s2 R x0 x3 t6 w
theorem ledger_move_s3_eq (R : Value → World → Prop) : ∀ e w, lift Try.prog 39 (sub (bodyOf Try.f91) [1, 0]) (seqK (fun e w => ledger_move_s0 R (e 0) (e 3) w) (finK Try.prog Try.f91.results.toList R)) e w = ledger_move_s3 R (e 0) (e 3) w :=
  segs_eq (l := [(sub (bodyOf Try.f91) [1, 0, 0])]) (y := (sub (bodyOf Try.f91) [1, 0, 1])) (Y := (fun e w => ledger_move_s2 R (e 0) (e 3) (e 6) w)) (ledger_move_s2_eq R) (fun e w => by kernel_rfl)
def ledger_move_s4 (R : Value → World → Prop) (x0 x1 : Value) (w : World) : Prop :=
  newG (Value.cells x1) 50 w fun t3 w =>
  ledger_move_s3 R x0 t3 w
theorem ledger_move_s4_eq (R : Value → World → Prop) : ∀ e w, lift Try.prog 39 (bodyOf Try.f91) (finK Try.prog Try.f91.results.toList R) e w = ledger_move_s4 R (e 0) (e 1) w :=
  segs_eq (l := [(sub (bodyOf Try.f91) [0])]) (y := (sub (bodyOf Try.f91) [1])) (Y := (fun e w => ledger_move_s3 R (e 0) (e 3) w)) (seq_seg (x := (sub (bodyOf Try.f91) [1, 0])) (y := (sub (bodyOf Try.f91) [1, 1])) (ledger_move_s0_eq R) (ledger_move_s3_eq R)) (fun e w => by kernel_rfl)
def ledger_move (R : Value → World → Prop) (x0 x1 : Value) (w : World) : Prop := ledger_move_s4 R x0 x1 w
theorem ledger_move_call {R : Value → World → Prop} {x0 x1 : Value} {w : World} (h : ledger_move R x0 x1 w) : callG Try.prog 91 #[x0, x1] w R :=
  calls_lift_eq Try.mixed Try.func91 (args := [x0, x1]) rfl rfl rfl rfl ((ledger_move_s4_eq R) (envOf [x0, x1]) w) (by kernel_rfl) h
/-! internal/bytealg.CompareString -/
def internal_bytealg_CompareString_s0 (R : Value → World → Prop) (x0 x1 : Value) (w : World) : Prop :=
  nG Try.prog (callFunc 127 #[x0, x1]) w fun t7 w =>
  R t7 w
theorem internal_bytealg_CompareString_s0_eq (R : Value → World → Prop) : ∀ e w, lift Try.prog 8 (bodyOf Try.f119) (finK Try.prog Try.f119.results.toList R) e w = internal_bytealg_CompareString_s0 R (e 0) (e 1) w := fun e w => by kernel_rfl
def internal_bytealg_CompareString (R : Value → World → Prop) (x0 x1 : Value) (w : World) : Prop := internal_bytealg_CompareString_s0 R x0 x1 w
theorem internal_bytealg_CompareString_call {R : Value → World → Prop} {x0 x1 : Value} {w : World} (h : internal_bytealg_CompareString R x0 x1 w) : callG Try.prog 119 #[x0, x1] w R :=
  calls_lift_eq Try.mixed Try.func119 (args := [x0, x1]) rfl rfl rfl rfl ((internal_bytealg_CompareString_s0_eq R) (envOf [x0, x1]) w) (by kernel_rfl) h
/-! strings.Compare -/
def strings_Compare_s0 (R : Value → World → Prop) (x0 x1 : Value) (w : World) : Prop :=
  callG Try.prog 119 #[x0, x1] w fun t7 w =>
  R t7 w
theorem strings_Compare_s0_eq (R : Value → World → Prop) : ∀ e w, lift Try.prog 8 (bodyOf Try.f105) (finK Try.prog Try.f105.results.toList R) e w = strings_Compare_s0 R (e 0) (e 1) w := fun e w => by kernel_rfl
def strings_Compare (R : Value → World → Prop) (x0 x1 : Value) (w : World) : Prop := strings_Compare_s0 R x0 x1 w
theorem strings_Compare_call {R : Value → World → Prop} {x0 x1 : Value} {w : World} (h : strings_Compare R x0 x1 w) : callG Try.prog 105 #[x0, x1] w R :=
  calls_lift_eq Try.mixed Try.func105 (args := [x0, x1]) rfl rfl rfl rfl ((strings_Compare_s0_eq R) (envOf [x0, x1]) w) (by kernel_rfl) h
/-! cmp.Or[int] -/
def cmp_Or_int_s0 (R : Value → World → Prop) (x3 : Value) (w : World) : Prop :=
  R x3 w
theorem cmp_Or_int_s0_eq (R : Value → World → Prop) : ∀ e w, lift Try.prog 18 (sub (bodyOf Try.f104) [1, 1, 1]) (finK Try.prog Try.f104.results.toList R) e w = cmp_Or_int_s0 R (e 3) w := fun e w => by kernel_rfl
def cmp_Or_int_b1 (R : Value → World → Prop) (N1 : List Value → World → Prop) (x3 x6 x7 x8 : Value) (w : World) : Prop :=
  qG Try.prog (bq .lss 3 (.tmp 8) (.tmp 7) x8 x7) w fun t9 =>
  bV t9
  (ia 1 x6 x8 fun t10 =>
  ld1 t10 w fun t11 =>
  qG Try.prog (bq .neq 3 (.tmp 12) (.tmp 13) t11 x3) w fun t14 =>
  bV t14
  (R t11 w)
  (qG Try.prog (bq .add 3 (.tmp 8) (.const (.int .i64 1)) x8 (.int .i64 1)) w fun t16 =>
  N1 [x3, x6, x7, t16] w))
  (cmp_Or_int_s0 R x3 w)
theorem cmp_Or_int_b1_eq (R : Value → World → Prop) (N1 : List Value → World → Prop) : ∀ e w, lift Try.prog 18 (sub (bodyOf Try.f104) [1, 1, 0, 1, 0, 0]) (seqK (fun e w => N1 [e 3, e 6, e 7, e 8] w) (blockK 0 (seqK (fun e w => cmp_Or_int_s0 R (e 3) w) (finK Try.prog Try.f104.results.toList R)))) e w = cmp_Or_int_b1 R N1 (e 3) (e 6) (e 7) (e 8) w := fun e w => by kernel_rfl
def cmp_Or_int_L2F (R : Value → World → Prop) (N1 : List Value → World → Prop) (xs : List Value) (w : World) : Prop :=
  match xs with
  | [x3, x6, x7, x8] => cmp_Or_int_b1 R N1 x3 x6 x7 x8 w
  | _ => False
def cmp_Or_int_L2 (R : Value → World → Prop) (x3 x6 x7 x8 : Value) (w : World) : Prop :=
  ∃ m, loopV (cmp_Or_int_L2F R) m [x3, x6, x7, x8] w
theorem cmp_Or_int_L2_eq (R : Value → World → Prop) : ∀ e w, lift Try.prog 18 (sub (bodyOf Try.f104) [1, 1, 0, 1, 0]) (blockK 0 (seqK (fun e w => cmp_Or_int_s0 R (e 3) w) (finK Try.prog Try.f104.results.toList R))) e w = cmp_Or_int_L2 R (e 3) (e 6) (e 7) (e 8) w := loop_seg (F := cmp_Or_int_L2F R) (sel := fun e => [e 3, e 6, e 7, e 8]) fun N1 => (cmp_Or_int_b1_eq R N1)
def cmp_Or_int_s3 (R : Value → World → Prop) (x0 x3 : Value) (w : World) : Prop :=
  lenL x0 fun t7 =>
  cmp_Or_int_L2 R x3 x0 t7 (.int .i64 0) w
theorem cmp_Or_int_s3_eq (R : Value → World → Prop) : ∀ e w, lift Try.prog 18 (sub (bodyOf Try.f104) [1, 1, 0]) (seqK (fun e w => cmp_Or_int_s0 R (e 3) w) (finK Try.prog Try.f104.results.toList R)) e w = cmp_Or_int_s3 R (e 0) (e 3) w :=
  segs_eq (l := [(sub (bodyOf Try.f104) [1, 1, 0, 0])]) (y := (sub (bodyOf Try.f104) [1, 1, 0, 1])) (Y := (fun e w => cmp_Or_int_L2 R (e 3) (e 6) (e 7) (e 8) w)) (cmp_Or_int_L2_eq R) (fun e w => by kernel_rfl)
def cmp_Or_int_s4 (R : Value → World → Prop) (x0 : Value) (w : World) : Prop :=
  cmp_Or_int_s3 R x0 (.int .i64 0) w
theorem cmp_Or_int_s4_eq (R : Value → World → Prop) : ∀ e w, lift Try.prog 18 (bodyOf Try.f104) (finK Try.prog Try.f104.results.toList R) e w = cmp_Or_int_s4 R (e 0) w :=
  segs_eq (l := [(sub (bodyOf Try.f104) [0]), (sub (bodyOf Try.f104) [1, 0])]) (y := (sub (bodyOf Try.f104) [1, 1])) (Y := (fun e w => cmp_Or_int_s3 R (e 0) (e 3) w)) (seq_seg (x := (sub (bodyOf Try.f104) [1, 1, 0])) (y := (sub (bodyOf Try.f104) [1, 1, 1])) (cmp_Or_int_s0_eq R) (cmp_Or_int_s3_eq R)) (fun e w => by kernel_rfl)
def cmp_Or_int (R : Value → World → Prop) (x0 : Value) (w : World) : Prop := cmp_Or_int_s4 R x0 w
theorem cmp_Or_int_call {R : Value → World → Prop} {x0 : Value} {w : World} (h : cmp_Or_int R x0 w) : callG Try.prog 104 #[x0] w R :=
  calls_lift_eq Try.mixed Try.func104 (args := [x0]) rfl rfl rfl rfl ((cmp_Or_int_s4_eq R) (envOf [x0]) w) (by kernel_rfl) h
/-! quayside/ledger.order -/
def ledger_order_s0 (R : Value → World → Prop) (x0 x1 : Value) (w : World) : Prop :=
  newG (Value.cells x0) 119 w fun t2 w =>
  newG (Value.cells x1) 119 w fun t3 w =>
  fa 0 t2 fun t5 =>
  ld1 t5 (World.drew w) fun t6 =>
  fa 0 t3 fun t7 =>
  ld1 t7 (World.drew w) fun t8 =>
  fa 1 t2 fun t10 =>
  ld1 t10 (World.drew w) fun t11 =>
  fa 1 t3 fun t12 =>
  ld1 t12 (World.drew w) fun t13 =>
  callG Try.prog 105 #[t6, t8] (World.drew w) fun t9 w =>
  ld1 t12 w (fun u => u = t13) ∧
  ld1 t10 w (fun u => u = t11) ∧
  callG Try.prog 105 #[t11, t13] w fun t14 w =>
  bsl 3 1 2 (zc Try.prog 3) #[(0, t9), (1, t14)] w fun t15 w =>
  callG Try.prog 104 #[t15] w fun t16 w =>
  R t16 w
theorem ledger_order_s0_eq (R : Value → World → Prop) : ∀ e w, lift Try.prog 17 (bodyOf Try.f88) (finK Try.prog Try.f88.results.toList R) e w = ledger_order_s0 R (e 0) (e 1) w := fun e w => by kernel_rfl
def ledger_order (R : Value → World → Prop) (x0 x1 : Value) (w : World) : Prop := ledger_order_s0 R x0 x1 w
theorem ledger_order_call {R : Value → World → Prop} {x0 x1 : Value} {w : World} (h : ledger_order R x0 x1 w) : callG Try.prog 88 #[x0, x1] w R :=
  calls_lift_eq Try.mixed Try.func88 (args := [x0, x1]) rfl rfl rfl rfl ((ledger_order_s0_eq R) (envOf [x0, x1]) w) (by kernel_rfl) h
end Go.Proofs

/- Rows of cells: a block that is a list of rows of one length; lists of bytes as cells. Plain. -/
set_option linter.unusedVariables false
set_option linter.unusedSimpArgs false
namespace Go.Q

theorem flat_len {α : Type} {k : Nat} : ∀ {F : List (List α)}, (∀ x ∈ F, x.length = k) → F.flatten.length = F.length * k := by
  intro F
  induction F with
  | nil => intro _; simp
  | cons x r ih =>
    intro h
    rw [List.flatten_cons, List.length_append, ih fun y hy => h y (by simp [hy]), h x (by simp), List.length_cons, Nat.succ_mul]; omega
theorem flat_drop {α : Type} {k : Nat} : ∀ {F : List (List α)} (i : Nat), (∀ x ∈ F, x.length = k) → F.flatten.drop (i * k) = (F.drop i).flatten := by
  intro F
  induction F with
  | nil => intro i _; simp
  | cons x r ih =>
    intro i h
    cases i with
    | zero => simp
    | succ i =>
      have hx := h x (by simp)
      rw [List.flatten_cons, List.drop_succ_cons, ← ih i fun y hy => h y (by simp [hy])]
      have e : (i + 1) * k = k + i * k := by rw [Nat.succ_mul]; omega
      rw [e, ← List.drop_drop, ← hx, List.drop_left]
theorem flat_take {α : Type} {k : Nat} : ∀ {F : List (List α)} (i : Nat), (∀ x ∈ F, x.length = k) → F.flatten.take (i * k) = (F.take i).flatten := by
  intro F
  induction F with
  | nil => intro i _; simp
  | cons x r ih =>
    intro i h
    cases i with
    | zero => simp
    | succ i =>
      have hx := h x (by simp)
      rw [List.flatten_cons, List.take_succ_cons, List.flatten_cons, ← ih i fun y hy => h y (by simp [hy])]
      rw [List.take_append, hx, Nat.succ_mul, List.take_of_length_le (by omega)]
      congr 2; omega
theorem flat_get {α : Type} {k : Nat} {F : List (List α)} {i : Nat} (h : ∀ x ∈ F, x.length = k) (hi : i < F.length) : (F.flatten.drop (i * k)).take k = F[i] := by
  rw [flat_drop i h, List.drop_eq_getElem_cons hi, List.flatten_cons]
  rw [List.take_append_of_le_length (by rw [h _ (List.getElem_mem hi)]; omega)]
  rw [List.take_of_length_le (by rw [h _ (List.getElem_mem hi)]; omega)]
theorem flat_splice_many {α : Type} {k : Nat} {F G : List (List α)} {i : Nat} (h : ∀ x ∈ F, x.length = k) (hG : ∀ x ∈ G, x.length = k) (_hi : i + G.length ≤ F.length) :
    F.flatten.take (i * k) ++ G.flatten ++ F.flatten.drop (i * k + G.flatten.length) = (F.take i ++ G ++ F.drop (i + G.length)).flatten := by
  rw [flat_take i h, flat_len hG, ← Nat.add_mul, flat_drop _ h]
  simp
/-- bytes as cells -/
def u8c (l : List UInt8) : List Value := l.map fun c => .int .u8 c.toNat
@[simp] theorem u8c_len (l : List UInt8) : (u8c l).length = l.length := by simp [u8c]
theorem bytesOf_u8c (l : List UInt8) : bytesOf (u8c l) = some l := by
  induction l with
  | nil => rfl
  | cons c r ih =>
    show (bytesOf (u8c r)).map _ = _
    rw [ih]
    simp
theorem splice_list (c : List Value) (o : Nat) (vs : List Value) : splice c.toArray o vs.toArray = (c.take o ++ vs ++ c.drop (o + vs.length)).toArray := by
  simp [splice]
theorem extract_list {α : Type} (c : List α) (o n : Nat) : (c.toArray).extract o (o + n) = ((c.drop o).take n).toArray := by
  simp
/-- a string of a list of bytes -/
def str (l : List UInt8) : ByteArray := ⟨l.toArray⟩
@[simp] theorem str_data (l : List UInt8) : (str l).data.toList = l := rfl
@[simp] theorem str_size (l : List UInt8) : (str l).size = l.length := by simp [str, ByteArray.size]
theorem str_of (s : ByteArray) : str s.data.toList = s := by cases s; simp [str]
theorem str_inj {l m : List UInt8} : str l = str m ↔ l = m := by
  constructor
  · intro h; have := congrArg (fun s : ByteArray => s.data.toList) h; simpa using this
  · intro h; rw [h]
@[simp] theorem str_eq (l m : List UInt8) : (str l = str m) = (l = m) := propext str_inj
@[simp] theorem str_append (l m : List UInt8) : str l ++ str m = str (l ++ m) := by
  have : (str l ++ str m).data.toList = l ++ m := by simp [str, ByteArray.data_append]
  rw [← str_of (str l ++ str m), this]
end Go.Q

/- Slices whose elements are rows of cells: owned ones (which start at their block's head), appended to; and ones that are only read. -/
set_option linter.unusedVariables false
set_option linter.unusedSimpArgs false
namespace Go.Q

/-- a slice that owns its block -/
def RowsAt (w : World) (v : Value) (k : Nat) (rows : List (List Value)) (S : List Nat) : Prop :=
  (v = .slice none 0 0 ∧ rows = [] ∧ S = []) ∨
  ∃ (bl : Nat) (F : List (List Value)) (T : Nat), v = .slice (some ⟨bl, 0, none⟩) rows.length F.length ∧ S = [bl] ∧ w.heap[bl]? = some (.cells F.flatten.toArray T (0, 0)) ∧ (∀ x ∈ F, x.length = k) ∧ F.take rows.length = rows ∧ rows.length ≤ F.length
theorem RowsAt.keep {w w' : World} {v : Value} {k : Nat} {rows : List (List Value)} {S S' : List Nat} (h : RowsAt w v k rows S) (hk : Kp S' w w') (hd : ∀ x ∈ S, x ∉ S') : RowsAt w' v k rows S := by
  rcases h with h | ⟨bl, F, T, h1, h2, h3, h4, h5, h6⟩
  · exact .inl h
  · subst h2
    exact .inr ⟨bl, F, T, h1, rfl, hk.get h3 (hd bl (by simp)), h4, h5, h6⟩
theorem RowsAt.len {w : World} {v : Value} {k : Nat} {rows : List (List Value)} {S : List Nat} (h : RowsAt w v k rows S) : ∃ a c, v = .slice a rows.length c ∧ rows.length ≤ c := by
  rcases h with ⟨h1, h2, h3⟩ | ⟨bl, F, T, h1, h2, h3, h4, h5, h6⟩
  · exact ⟨none, 0, by rw [h1, h2]; rfl, by simp [h2]⟩
  · exact ⟨_, _, h1, h6⟩
theorem RowsAt.row {w : World} {v : Value} {k : Nat} {rows : List (List Value)} {S : List Nat} (h : RowsAt w v k rows S) {x : List Value} (hx : x ∈ rows) : x.length = k := by
  rcases h with ⟨h1, h2, h3⟩ | ⟨bl, F, T, h1, h2, h3, h4, h5, h6⟩
  · rw [h2] at hx; cases hx
  · rw [← h5] at hx; exact h4 x (List.mem_of_mem_take hx)
theorem RowsAt.nodup {w : World} {v : Value} {k : Nat} {rows : List (List Value)} {S : List Nat} (h : RowsAt w v k rows S) : S.Nodup := by
  rcases h with ⟨h1, h2, h3⟩ | ⟨bl, F, T, h1, h2, h3⟩
  · rw [h3]; simp
  · rw [h2]; simp
theorem RowsAt.lt {w : World} {v : Value} {k : Nat} {rows : List (List Value)} {S : List Nat} (h : RowsAt w v k rows S) : ∀ x ∈ S, x < w.heap.size := by
  rcases h with ⟨h1, h2, h3⟩ | ⟨bl, F, T, h1, h2, h3, h4⟩
  · rw [h3]; simp
  · rw [h2]; simp; exact live_of h3
theorem next_le {need old : Nat} (h : old < need) : Builtin.nextslicecap need old ≤ 2 * need := nextslicecap_le h
/-- rows are appended -/
theorem rows_app {e k bytes : Nat} {z : List Value} {v x : Value} {w : World} {rows G : List (List Value)} {S : List Nat} (h : RowsAt w v k rows S) (hk : 0 < k) (hz : z.length = k)
    (hG : ∀ y ∈ G, y.length = k) (hone : G.flatten.all one = true) (hsrc : ∀ K' : Nat → Array Value → Prop, K' G.length G.flatten.toArray → srcA k x w K')
    (hb : 2 * (rows.length + G.length) * bytes ≤ 2 ^ 48) (hb2 : rows.length + G.length < 2 ^ 62) {K : Value → World → Prop}
    (hK : ∀ v' w' S', RowsAt w' v' k (rows ++ G) S' → Kp S w w' → (∀ y ∈ S', y ∈ S ∨ w.heap.size ≤ y) → K v' w') : app e k bytes z.toArray v x w K := by
  have grow : ∀ (old : Array Value) (cap : Nat) , old = rows.flatten.toArray → (∀ y ∈ rows, y.length = k) → rows.length + G.length ≤ cap →
      K (.slice (some ⟨w.heap.size, 0, none⟩) (rows.length + G.length) cap) (w.drew.alloc (.cells (old ++ G.flatten.toArray ++ rep z.toArray ((cap - (rows.length + G.length)) * k)) e)) := by
    intro old cap hold hr hc
    have hF : (old ++ G.flatten.toArray ++ rep z.toArray ((cap - (rows.length + G.length)) * k)) = (rows ++ G ++ List.replicate (cap - (rows.length + G.length)) z).flatten.toArray := by
      rw [hold]
      have : rep z.toArray ((cap - (rows.length + G.length)) * k) = (List.replicate (cap - (rows.length + G.length)) z).flatten.toArray := by
        apply Array.ext
        · simp [rep, hz]
        · intro i h1 h2
          have hi : i < (cap - (rows.length + G.length)) * k := by simpa [rep] using h1
          simp only [rep, Array.getElem_map, Array.getElem_range, List.size_toArray, hz]
          have hm : i % k < k := Nat.mod_lt _ hk
          have hd : i / k < cap - (rows.length + G.length) := (Nat.div_lt_iff_lt_mul hk).2 hi
          have hfl : ((List.replicate (cap - (rows.length + G.length)) z).flatten.drop ((i / k) * k)).take k = z := by
            rw [flat_get (k := k) (by intro x hx; rw [List.mem_replicate] at hx; rw [hx.2, hz]) (by simpa using hd)]
            simp
          have hidx : i / k * k + i % k = i := by rw [Nat.mul_comm]; exact Nat.div_add_mod i k
          have e2 := congrArg (fun l => l[i % k]?) hfl
          simp only [List.getElem?_take_of_lt hm, List.getElem?_drop, hidx] at e2
          have h2' : i < (List.replicate (cap - (rows.length + G.length)) z).flatten.length := by simpa using h2
          rw [List.getElem?_eq_getElem h2', List.getElem?_eq_getElem (by omega)] at e2
          injection e2 with e2
          rw [List.getElem_toArray, e2]
          simp [hz, hm]
      rw [this]; simp
    refine hK _ _ [w.heap.size] (.inr ⟨w.heap.size, rows ++ G ++ List.replicate (cap - (rows.length + G.length)) z, e, ?_, rfl, ?_, ?_, ?_, ?_⟩) ((Kp.refl _ _).drew.alloc _) (by simp)
    · simp; omega
    · rw [← hF]; exact heap_new
    · intro y hy
      rw [List.mem_append, List.mem_append] at hy
      rcases hy with (hy | hy) | hy
      · exact hr y hy
      · exact hG y hy
      · rw [List.mem_replicate] at hy; rw [hy.2, hz]
    · rw [List.take_left]
    · simp
  have hrow : ∀ y ∈ rows, y.length = k := fun y hy => h.row hy
  unfold app
  rcases h with ⟨h1, h2, h3⟩ | ⟨bl, F, T, h1, h2, h3, h4, h5, h6⟩
  · subst h1; subst h3
    rw [h2] at hb hb2 hK grow
    simp only [List.length_nil, Nat.zero_add] at hb hb2 grow ⊢
    refine hsrc _ ⟨fun hle => ?_, fun hlt => ⟨⟨?_, by omega⟩, fun cap hc _ => grow #[] cap rfl (by simp) hc⟩⟩
    · have hG0 : G = [] := List.length_eq_zero_iff.1 (by omega)
      rw [hG0]
      exact hK _ w [] (.inl ⟨rfl, by simp [hG0], rfl⟩) (Kp.refl _ _) (by simp)
    · have := next_le hlt
      calc _ ≤ (2 * G.length) * bytes := Nat.mul_le_mul_right _ this
        _ ≤ _ := hb
  · subst h1; subst h2
    refine hsrc _ ⟨fun hle => ?_, fun hlt => ⟨⟨?_, by omega⟩, ?_⟩⟩
    · simp only [wrO, add_mk, wrN_mk, h3, okFr0, true_and, Nat.zero_add, List.size_toArray]
      have hfl := flat_len h4
      have hgl := flat_len hG
      have hsp := flat_splice_many (i := rows.length) h4 hG (by omega)
      refine ⟨⟨?_, by simpa using hone⟩, ?_⟩
      · rw [hfl, hgl, ← Nat.add_mul]; exact Nat.mul_le_mul_right _ hle
      · have hF' : splice F.flatten.toArray (rows.length * k) G.flatten.toArray = (F.take rows.length ++ G ++ F.drop (rows.length + G.length)).flatten.toArray := by
          rw [splice_list, hsp]
        rw [hF']
        refine hK _ _ [bl] (.inr ⟨bl, F.take rows.length ++ G ++ F.drop (rows.length + G.length), T, ?_, rfl, heap_self (live_of h3), ?_, ?_, ?_⟩) ((Kp.refl _ _).setBlk (.inl (by simp)) _) (fun y hy => .inl hy)
        · have : (F.take rows.length ++ G ++ F.drop (rows.length + G.length)).length = F.length := by simp; omega
          rw [this]; simp
        · intro y hy
          rw [List.mem_append, List.mem_append] at hy
          rcases hy with (hy | hy) | hy
          · exact h4 y (List.mem_of_mem_take hy)
          · exact hG y hy
          · exact h4 y (List.mem_of_mem_drop hy)
        · rw [h5, List.take_left]
        · simp; omega
    · have := next_le hlt
      calc _ ≤ (2 * (rows.length + G.length)) * bytes := Nat.mul_le_mul_right _ this
        _ ≤ _ := hb
    · simp only [base, rdN_mk, h3, Nat.zero_add, List.size_toArray]
      have hfl := flat_len h4
      refine ⟨by rw [hfl]; exact Nat.mul_le_mul_right _ h6, fun cap hc _ => grow _ cap ?_ hrow hc⟩
      have := extract_list F.flatten 0 (rows.length * k)
      rw [Nat.zero_add] at this
      rw [this, List.drop_zero, flat_take _ h4, h5]
/-- a row is looked at -/
theorem RowsAt.at {w : World} {v : Value} {k : Nat} {rows : List (List Value)} {S : List Nat} (h : RowsAt w v k rows S) {i : Nat} (hi : i < rows.length) :
    ∃ bl T c, bl ∈ S ∧ w.heap[bl]? = some (.cells c T (0, 0)) ∧ (∀ kd K, ia k v (.int kd i) K = K (.pointer (some ⟨bl, i * k, none⟩))) ∧ i * k + k ≤ c.size ∧ c.extract (i * k) (i * k + k) = rows[i].toArray ∧
      ∀ j, j < k → c[i * k + j]? = rows[i][j]? := by
  rcases h with ⟨h1, h2, h3⟩ | ⟨bl, F, T, h1, h2, h3, h4, h5, h6⟩
  · rw [h2] at hi; cases hi
  · have hiF : i < F.length := by omega
    have hrow : F[i] = rows[i] := by
      have e : rows[i]? = F[i]? := by rw [← h5, List.getElem?_take_of_lt (by omega)]
      rw [List.getElem?_eq_getElem hi, List.getElem?_eq_getElem hiF] at e
      injection e with e
      exact e.symm
    have hfl := flat_len h4
    have hget := flat_get h4 hiF
    have hle : i * k + k ≤ F.flatten.length := by rw [hfl, ← Nat.succ_mul]; exact Nat.mul_le_mul_right _ hiF
    refine ⟨bl, T, F.flatten.toArray, by rw [h2]; simp, h3, ?_, by simpa [-List.length_flatten] using hle, ?_, ?_⟩
    · intro kd K
      have hlt : (i : Int) < rows.length := by omega
      rw [h1]; simp only [ia_p, Nat.zero_add, Int.toNat_natCast]
      have : (0 ≤ (i : Int) ∧ (i : Int) < rows.length) = True := by simp; omega
      rw [this, true_and]
    · rw [extract_list, hget, hrow]
    · intro j hj
      rw [List.getElem?_toArray, ← List.getElem?_drop, ← hrow, ← hget, List.getElem?_take_of_lt hj]
/-! ### structs and literals of slices, laid part by part -/
theorem fold_set (off : Nat) : ∀ (l : List Value) (k : Nat) (c : Array Value), off + k + l.length ≤ c.size →
    (l.zipIdx k).foldl (fun cs p => cs.setIfInBounds (off + p.2) p.1) c = splice c (off + k) l.toArray := by
  intro l
  induction l with
  | nil => intro k c _; simp [splice]
  | cons v r ih =>
    intro k c h
    simp only [List.length_cons] at h
    rw [List.zipIdx_cons, List.foldl_cons]
    have := ih (k + 1) (c.setIfInBounds (off + k) v) (by simp; omega)
    simp only at this ⊢
    rw [this]
    unfold splice
    congr 1
    have e := list_seg_step c.toList (off + k) v r (by simp; omega)
    simpa [Array.toList_setIfInBounds, Nat.add_assoc] using e
theorem fill_step {place : Nat → Option (Nat × Nat)} {c : Array Value} {i off size : Nat} {v : Value} {rest : List (Nat × Value)} (hp : place i = some (off, size)) (hv : v.cells.size = size) (hc : off + size ≤ c.size) :
    Instr.fill place c ((i, v) :: rest) = Instr.fill place (splice c off v.cells) rest := by
  have h1 : v.cells.size = size := hv
  conv => lhs; unfold Instr.fill
  rw [hp]
  simp only [h1, ne_eq, not_true_eq_false, decide_false, Bool.false_or, decide_eq_true_eq]
  rw [if_neg (by omega)]
  congr 1
  have := fold_set off v.cells.toList 0 c (by simp; omega)
  simp only [Nat.add_zero, Array.toArray_toList] at this
  rw [← this]
  rw [← Array.foldl_toList, Array.toList_zipIdx]
theorem splice_size {c : Array Value} {o : Nat} {vs : Array Value} (h : o + vs.size ≤ c.size) : (splice c o vs).size = c.size := by
  unfold splice; simp; omega
/-- a slice of numbers that is only read -/
def IntsAt (w : World) (v : Value) (ks : List Int) (S : List Nat) : Prop :=
  ∃ a cap, v = .slice a ks.length cap ∧ (ks = [] ∨ ∃ bl o c T fr, a = some ⟨bl, o, none⟩ ∧ S = [bl] ∧ w.heap[bl]? = some (.cells c T fr) ∧ ∀ i, i < ks.length → c[o + i]? = some (.int .i64 (ks.getD i 0)))
theorem IntsAt.keep {w w' : World} {v : Value} {ks : List Int} {S S' : List Nat} (h : IntsAt w v ks S) (hk : Kp S' w w') (hd : ∀ x ∈ S, x ∉ S') : IntsAt w' v ks S := by
  obtain ⟨a, cap, h1, h2⟩ := h
  refine ⟨a, cap, h1, h2.imp id ?_⟩
  rintro ⟨bl, o, c, T, fr, g1, g2, g3, g4⟩
  subst g2
  exact ⟨bl, o, c, T, fr, g1, rfl, hk.get g3 (hd bl (by simp)), g4⟩
theorem IntsAt.at {w : World} {v : Value} {ks : List Int} {S : List Nat} (h : IntsAt w v ks S) {i : Nat} (hi : i < ks.length) :
    ∃ bl o c T fr, bl ∈ S ∧ w.heap[bl]? = some (.cells c T fr) ∧ (∀ kd K, ia 1 v (.int kd i) K = K (.pointer (some ⟨bl, o, none⟩))) ∧ c[o]? = some (.int .i64 (ks.getD i 0)) := by
  obtain ⟨a, cap, h1, h2⟩ := h
  rcases h2 with h2 | ⟨bl, o, c, T, fr, g1, g2, g3, g4⟩
  · rw [h2] at hi; cases hi
  · refine ⟨bl, o + i, c, T, fr, by rw [g2]; simp, g3, ?_, g4 i hi⟩
    intro kd K
    rw [h1, g1]
    have : (0 ≤ (i : Int) ∧ (i : Int) < ks.length) = True := by simp; omega
    simp only [ia_p, Int.toNat_natCast, Nat.mul_one, this, true_and]
theorem IntsAt.len {w : World} {v : Value} {ks : List Int} {S : List Nat} (h : IntsAt w v ks S) : ∃ a cap, v = .slice a ks.length cap := by
  obtain ⟨a, cap, h1, _⟩ := h
  exact ⟨a, cap, h1⟩
theorem rep_size (z : Array Value) (n : Nat) : (rep z n).size = n := by simp [rep]
theorem splice_all {c vs : Array Value} (h : c.size = vs.size) : splice c 0 vs = vs := by
  have : c.toList.drop vs.size = [] := List.drop_of_length_le (by simp [h])
  simp [splice, this]
end Go.Q

/- Slices that are read: rows of cells from anywhere in a block; parts of them; what is appended from them. -/
set_option linter.unusedVariables false
set_option linter.unusedSimpArgs false
namespace Go.Q
/-- a slice that reads as these rows -/
def RdAt (w : World) (v : Value) (k : Nat) (rows : List (List Value)) (S : List Nat) : Prop :=
  (v = .slice none 0 0 ∧ rows = []) ∨
  ∃ (bl o cap : Nat) (c : Array Value) (T : TypeId) (fr : Nat × Nat), v = .slice (some ⟨bl, o, none⟩) rows.length cap ∧ S = [bl] ∧ w.heap[bl]? = some (.cells c T fr) ∧ (∀ x ∈ rows, x.length = k) ∧
    o + rows.length * k ≤ c.size ∧ (c.toList.drop o).take (rows.length * k) = rows.flatten ∧ rows.length ≤ cap
section
variable {w : World} {v : Value} {k : Nat} {rows : List (List Value)} {S : List Nat}
theorem RowsAt.rd (h : RowsAt w v k rows S) : RdAt w v k rows S := by
  rcases h with ⟨h1, h2, h3⟩ | ⟨bl, F, T, h1, h2, h3, h4, h5, h6⟩
  · exact .inl ⟨h1, h2⟩
  · refine .inr ⟨bl, 0, F.length, _, T, _, h1, h2, h3, ?_, ?_, ?_, h6⟩
    · intro x hx; rw [← h5] at hx; exact h4 x (List.mem_of_mem_take hx)
    · have := flat_len h4
      simp only [List.size_toArray, this, Nat.zero_add]
      exact Nat.mul_le_mul_right _ h6
    · rw [List.drop_zero, flat_take _ h4, h5]
theorem RdAt.keep {w' : World} {S' : List Nat} (h : RdAt w v k rows S) (hk : Kp S' w w') (hd : ∀ x ∈ S, x ∉ S') : RdAt w' v k rows S := by
  rcases h with h | ⟨bl, o, cap, c, T, fr, h1, h2, h3, h4⟩
  · exact .inl h
  · subst h2
    exact .inr ⟨bl, o, cap, c, T, fr, h1, rfl, hk.get h3 (hd bl (by simp)), h4⟩
theorem RdAt.len (h : RdAt w v k rows S) : ∃ a c, v = .slice a rows.length c ∧ rows.length ≤ c := by
  rcases h with ⟨h1, h2⟩ | ⟨bl, o, cap, c, T, fr, h1, h2, h3, h4, h5, h6, h7⟩
  · exact ⟨none, 0, by rw [h1, h2]; rfl, by simp [h2]⟩
  · exact ⟨_, _, h1, h7⟩
theorem RdAt.lenL (h : RdAt w v k rows S) {K : Value → Prop} : lenL v K = K (.int .i64 rows.length) := by
  obtain ⟨a, c, h1, _⟩ := h.len
  rw [h1]; rfl
theorem RdAt.row (h : RdAt w v k rows S) {x : List Value} (hx : x ∈ rows) : x.length = k := by
  rcases h with ⟨h1, h2⟩ | ⟨bl, o, cap, c, T, fr, h1, h2, h3, h4, _⟩
  · rw [h2] at hx; cases hx
  · exact h4 x hx
theorem extract_toList (c : Array Value) (o n : Nat) : c.extract o (o + n) = ((c.toList.drop o).take n).toArray := by
  apply Array.toList_inj.1
  simp [List.take_drop]
theorem RdAt.src (h : RdAt w v k rows S) (K' : Nat → Array Value → Prop) (hK : K' rows.length rows.flatten.toArray) : Q.srcA k v w K' := by
  rcases h with ⟨h1, h2⟩ | ⟨bl, o, cap, c, T, fr, h1, h2, h3, h4, h5, h6, h7⟩
  · subst h1; subst h2; exact hK
  · subst h1
    simp only [Q.srcA]
    split
    · rename_i h0
      have : rows.flatten = [] := by rw [← h6, h0]; simp
      rw [this] at hK
      exact hK
    · simp only [rdN_mk, h3]
      refine ⟨h5, ?_⟩
      rw [extract_toList, h6]; exact hK
theorem RdAt.take (h : RdAt w v k rows S) {p : Nat} (hp : p ≤ rows.length) {kd : IntKind} : ∃ v', RdAt w v' k (rows.take p) S ∧ ∀ K, slL k v none (some (.int kd p)) K = K v' := by
  rcases h with ⟨h1, h2⟩ | ⟨bl, o, cap, c, T, fr, h1, h2, h3, h4, h5, h6, h7⟩
  · subst h1; subst h2
    have : p = 0 := by simpa using hp
    subst this
    exact ⟨_, .inl ⟨rfl, by simp⟩, fun K => by simp⟩
  · subst h1
    have hl : (rows.take p).length = p := by simp; omega
    have hle : p * k ≤ rows.length * k := Nat.mul_le_mul_right _ hp
    refine ⟨.slice (some ⟨bl, o, none⟩) p cap, .inr ⟨bl, o, cap, c, T, fr, by rw [hl], h2, h3, fun x hx => h4 x (List.mem_of_mem_take hx), by rw [hl]; omega, ?_, by omega⟩, fun K => ?_⟩
    · rw [hl]
      have h8 : (c.toList.drop o).take (p * k) = ((c.toList.drop o).take (rows.length * k)).take (p * k) := by rw [List.take_take, Nat.min_eq_left hle]
      rw [h8, h6]
      exact flat_take p h4
    · have : (p : Int) ≤ cap := by omega
      simp [this]
theorem RdAt.drop (h : RdAt w v k rows S) {p : Nat} (hp : p ≤ rows.length) {kd : IntKind} : ∃ v', RdAt w v' k (rows.drop p) S ∧ ∀ K, slL k v (some (.int kd p)) none K = K v' := by
  rcases h with ⟨h1, h2⟩ | ⟨bl, o, cap, c, T, fr, h1, h2, h3, h4, h5, h6, h7⟩
  · subst h1; subst h2
    have : p = 0 := by simpa using hp
    subst this
    exact ⟨_, .inl ⟨rfl, by simp⟩, fun K => by simp⟩
  · subst h1
    have hl : (rows.drop p).length = rows.length - p := by simp
    have hsum : p * k + (rows.length - p) * k = rows.length * k := by rw [← Nat.add_mul]; congr 1; omega
    have hfl : rows.flatten.drop (p * k) = (rows.drop p).flatten := flat_drop p h4
    by_cases hc : cap = p
    · have hr : rows.length = p := by omega
      have hd : rows.drop p = [] := by rw [← hr]; simp
      refine ⟨.slice (some ⟨bl, o, none⟩) (rows.drop p).length (cap - p), .inr ⟨bl, o, cap - p, c, T, fr, rfl, h2, h3, by rw [hd]; simp, by rw [hd]; simp; omega, by rw [hd]; simp, by rw [hd]; simp⟩, fun K => ?_⟩
      have : (p : Int) ≤ rows.length := by omega
      simp [hc, this, hr]
    · refine ⟨.slice (some ⟨bl, o + p * k, none⟩) (rows.drop p).length (cap - p), .inr ⟨bl, o + p * k, cap - p, c, T, fr, rfl, h2, h3, fun x hx => h4 x (List.mem_of_mem_drop hx), by rw [hl]; omega, ?_, by rw [hl]; omega⟩, fun K => ?_⟩
      · rw [hl, ← hfl, ← h6, ← List.drop_drop, List.drop_take]
        congr 1
        omega
      · have : (p : Int) ≤ rows.length := by omega
        simp [hc, this, hp]
theorem RdAt.at (h : RdAt w v k rows S) {i : Nat} (hi : i < rows.length) :
    ∃ bl o T c fr, bl ∈ S ∧ w.heap[bl]? = some (.cells c T fr) ∧ (∀ kd K, ia k v (.int kd i) K = K (.pointer (some ⟨bl, o, none⟩))) ∧ o + k ≤ c.size ∧ c.extract o (o + k) = rows[i].toArray ∧
      ∀ j, j < k → c[o + j]? = rows[i][j]? := by
  rcases h with ⟨h1, h2⟩ | ⟨bl, o, cap, c, T, fr, h1, h2, h3, h4, h5, h6, h7⟩
  · subst h2; cases hi
  · subst h1
    have hle : i * k + k ≤ rows.length * k := by rw [← Nat.succ_mul]; exact Nat.mul_le_mul_right _ hi
    have hget := flat_get h4 hi
    have hrow : (c.toList.drop (o + i * k)).take k = rows[i] := by
      rw [← hget, ← h6, List.drop_take, List.take_take, List.drop_drop]
      congr 1
      omega
    refine ⟨bl, o + i * k, T, c, fr, by rw [h2]; simp, h3, ?_, by omega, by rw [extract_toList, hrow], ?_⟩
    · intro kd K
      simp only [ia_p, Int.toNat_natCast]
      have : (0 ≤ (i : Int) ∧ (i : Int) < rows.length) = True := by simp; omega
      rw [this, true_and]
    · intro j hj
      rw [← Array.getElem?_toList, ← List.getElem?_drop, ← hrow, List.getElem?_take_of_lt hj]
end
end Go.Q

/- Owned slices whose block's type is known; appended to. -/
set_option linter.unusedVariables false
set_option linter.unusedSimpArgs false
namespace Go.Q
/-- a slice that owns its block, of a type -/
def RowsT (w : World) (v : Value) (k : Nat) (e : TypeId) (rows : List (List Value)) (S : List Nat) : Prop :=
  (v = .slice none 0 0 ∧ rows = [] ∧ S = []) ∨
  ∃ (bl : Nat) (F : List (List Value)), v = .slice (some ⟨bl, 0, none⟩) rows.length F.length ∧ S = [bl] ∧ w.heap[bl]? = some (.cells F.flatten.toArray e (0, 0)) ∧ (∀ x ∈ F, x.length = k) ∧ F.take rows.length = rows ∧ rows.length ≤ F.length
theorem RowsT.at_ {w : World} {v : Value} {k : Nat} {e : TypeId} {rows : List (List Value)} {S : List Nat} (h : RowsT w v k e rows S) : RowsAt w v k rows S := by
  rcases h with h | ⟨bl, F, h⟩
  · exact .inl h
  · exact .inr ⟨bl, F, e, h⟩
theorem RowsT.row {w : World} {v : Value} {k : Nat} {e : TypeId} {rows : List (List Value)} {S : List Nat} (h : RowsT w v k e rows S) {x : List Value} (hx : x ∈ rows) : x.length = k := h.at_.row hx
theorem RowsT.keep {w w' : World} {v : Value} {k : Nat} {e : TypeId} {rows : List (List Value)} {S S' : List Nat} (h : RowsT w v k e rows S) (hk : Kp S' w w') (hd : ∀ x ∈ S, x ∉ S') : RowsT w' v k e rows S := by
  rcases h with h | ⟨bl, F, h1, h2, h3, h4⟩
  · exact .inl h
  · subst h2
    exact .inr ⟨bl, F, h1, rfl, hk.get h3 (hd bl (by simp)), h4⟩
end Go.Q

/- What a row says of a slice that came in, in the words of the contracts. -/
set_option linter.unusedVariables false
set_option linter.unusedSimpArgs false
namespace Go.Q
theorem wf64 {n : Int} (h : (Lit.int .i64 n).wf = true) : -9223372036854775808 ≤ n ∧ n < 9223372036854775808 := by
  simp [Lit.wf, IntKind.min, IntKind.max, IntKind.bits, IntKind.signed] at h
  omega
theorem cell_block {w : World} {x : Addr} {v : Value} (h : w.cell? x = some v) : x.spot = none ∧ ∃ c T fr, w.heap[x.block]? = some (.cells c T fr) ∧ c[x.off]? = some v := by
  unfold World.cell? at h
  split at h
  · rename_i c T fr hh
    split at h
    · cases h
    · rename_i hs
      exact ⟨by simpa using hs, c, T, fr, hh, h⟩
  · cases h
end Go.Q

/- Slices that came in, whatever their elements are: rows of cells, each of which the statement's own reading took. -/
set_option linter.unusedVariables false
set_option linter.unusedSimpArgs false
namespace Go.Q
/-- a slice that came in -/
def ArgAt (w : World) (v : Value) (k : Nat) (rows : List (List Value)) (S : List Nat) : Prop :=
  (∃ a cap, v = .slice a 0 cap ∧ rows = []) ∨ RdAt w v k rows S
section
variable {w : World} {v : Value} {k : Nat} {rows : List (List Value)} {S : List Nat}
theorem ArgAt.keep {w' : World} {S' : List Nat} (h : ArgAt w v k rows S) (hk : Kp S' w w') (hd : ∀ x ∈ S, x ∉ S') : ArgAt w' v k rows S := h.imp id fun h => h.keep hk hd
theorem ArgAt.lenL (h : ArgAt w v k rows S) {K : Value → Prop} : lenL v K = K (.int .i64 rows.length) := by
  rcases h with ⟨a, cap, h1, h2⟩ | h
  · rw [h1, h2]; rfl
  · exact h.lenL
theorem ArgAt.src (h : ArgAt w v k rows S) (K' : Nat → Array Value → Prop) (hK : K' rows.length rows.flatten.toArray) : Q.srcA k v w K' := by
  rcases h with ⟨a, cap, h1, h2⟩ | h
  · subst h1; subst h2
    cases a with
    | none => exact hK
    | some a =>
      simp only [Q.srcA, Nat.zero_mul, if_true]
      exact hK
  · exact h.src K' hK
theorem ArgAt.take (h : ArgAt w v k rows S) {p : Nat} (hp : p ≤ rows.length) {kd : IntKind} : ∃ v', ArgAt w v' k (rows.take p) S ∧ ∀ K, slL k v none (some (.int kd p)) K = K v' := by
  rcases h with ⟨a, cap, h1, h2⟩ | h
  · subst h1; subst h2
    have : p = 0 := by simpa using hp
    subst this
    exact ⟨.slice (if cap = 0 then a else a.map (·.add (0 * k))) 0 (cap - 0), .inl ⟨_, _, rfl, by simp⟩, fun K => by simp [slL, bnd]⟩
  · obtain ⟨v', h1, h2⟩ := h.take hp (kd := kd)
    exact ⟨v', .inr h1, h2⟩
theorem ArgAt.drop (h : ArgAt w v k rows S) {p : Nat} (hp : p ≤ rows.length) {kd : IntKind} : ∃ v', ArgAt w v' k (rows.drop p) S ∧ ∀ K, slL k v (some (.int kd p)) none K = K v' := by
  rcases h with ⟨a, cap, h1, h2⟩ | h
  · subst h1; subst h2
    have : p = 0 := by simpa using hp
    subst this
    exact ⟨.slice (if cap = 0 then a else a.map (·.add (0 * k))) 0 (cap - 0), .inl ⟨_, _, rfl, by simp⟩, fun K => by simp [slL, bnd]⟩
  · obtain ⟨v', h1, h2⟩ := h.drop hp (kd := kd)
    exact ⟨v', .inr h1, h2⟩
theorem ArgAt.row (h : ArgAt w v k rows S) {x : List Value} (hx : x ∈ rows) : x.length = k := by
  rcases h with ⟨a, cap, h1, h2⟩ | h
  · rw [h2] at hx; cases hx
  · exact h.row hx
theorem ArgAt.at (h : ArgAt w v k rows S) {i : Nat} (hi : i < rows.length) :
    ∃ bl o T c fr, bl ∈ S ∧ w.heap[bl]? = some (.cells c T fr) ∧ (∀ kd K, ia k v (.int kd i) K = K (.pointer (some ⟨bl, o, none⟩))) ∧ o + k ≤ c.size ∧ c.extract o (o + k) = rows[i].toArray ∧
      ∀ j, j < k → c[o + j]? = rows[i][j]? := by
  rcases h with ⟨a, cap, h1, h2⟩ | h
  · rw [h2] at hi; cases hi
  · exact h.at hi
theorem chop_flat (l : List Value) (k : Nat) : ∀ n, ((List.range n).map fun i => (l.drop (i * k)).take k).flatten = l.take (n * k) := by
  intro n
  induction n with
  | zero => simp
  | succ n ih =>
    rw [List.range_succ, List.map_append, List.flatten_append, ih]
    simp only [List.map_cons, List.map_nil, List.flatten_cons, List.flatten_nil, List.append_nil]
    rw [Nat.succ_mul, List.take_add]
end
section
variable {H : Type} {enc : TypeId × Value → H} {P : Program} {w : World} {base : Nat} {spare : Nat → Bool} {held : Bool}
theorem arg_slice {t e : TypeId} {n fuel : Nat} {cs : List Value} {x : DataW H × List MemPlace} (ht : P.underlying t = some (.slice e)) (hc : P.cellsOf e = n) (hn : 0 < n)
    (h : DataW.trod enc P w base spare held fuel t cs = some x) :
    ∃ v rows SK, cs = [v] ∧ ArgAt w v n rows SK ∧ (∀ b ∈ SK, b < w.heap.size) ∧ rows.length ≤ maxLen ∧ ∀ r ∈ rows, ∃ f y, DataW.trod enc P w base spare held f e r = some y := by
  rcases DataW.trod_slice ht h with ⟨h1, _⟩ | ⟨a, len, cap, elems, rest, m, _, rfl, _, hb, hl, hm, hlen, hel, _, _⟩
  · exact ⟨_, [], [], h1, .inl ⟨none, 0, rfl, rfl⟩, by simp, by simp, by simp⟩
  · rw [hc] at hel
    by_cases h0 : len = 0
    · subst h0
      exact ⟨_, [], [], rfl, .inl ⟨some a, cap, rfl, rfl⟩, by simp, by simp, by simp⟩
    · have each : ∀ i, i < len → ∃ cs y, w.cells? base (a.add (i * n)) n = some cs ∧ DataW.trod enc P w base spare held m e cs = some y := by
        intro i hi
        have h1 := hel i hi
        have h2 : elems[i]? = some elems[i] := List.getElem?_eq_getElem (by omega)
        rw [h2, Option.bind_eq_some_iff] at h1
        obtain ⟨cs, h3, h4⟩ := h1
        exact ⟨cs, _, h3, h4⟩
      obtain ⟨cs0, y0, h3, h4⟩ := each 0 (by omega)
      obtain ⟨_, hl0, hc0⟩ := World.cells?_some h3
      have h5 := hc0 0 hn
      rw [Nat.zero_mul, List.getElem?_eq_getElem (by omega)] at h5
      have h6 : w.cell? a = some cs0[0] := by simpa [Addr.add] using h5
      obtain ⟨hs, c, T, fr, hh, _⟩ := cell_block h6
      obtain ⟨b, o, s⟩ := a
      simp only at hs hh
      subst hs
      have cell : ∀ i j, i < len → j < n → ∃ cs y, w.cells? base (Addr.add ⟨b, o, none⟩ (i * n)) n = some cs ∧ DataW.trod enc P w base spare held m e cs = some y ∧ cs.length = n ∧ c[o + i * n + j]? = cs[j]? ∧ o + i * n + j < c.size := by
        intro i j hi hj
        obtain ⟨cs, y, g1, g2⟩ := each i hi
        obtain ⟨_, g3, g4⟩ := World.cells?_some g1
        have g5 := g4 j hj
        simp only [add_mk] at g5
        have g6 : w.cell? ⟨b, o + i * n + j, none⟩ = c[o + i * n + j]? := by simp [World.cell?, hh]
        rw [g6] at g5
        refine ⟨cs, y, g1, g2, g3, g5, ?_⟩
        rw [List.getElem?_eq_getElem (by omega)] at g5
        exact (Array.getElem?_eq_some_iff.mp g5).1
      have hsz : o + len * n ≤ c.size := by
        obtain ⟨_, _, _, _, _, _, g⟩ := cell (len - 1) (n - 1) (by omega) (by omega)
        have : len * n = (len - 1) * n + n := by rw [← Nat.succ_mul]; congr 1; omega
        omega
      have hrow : ∀ i, i < len → (c.toList.drop o |>.drop (i * n)).take n = (c.toList.drop (o + i * n)).take n := fun i _ => by rw [List.drop_drop]
      refine ⟨_, (List.range len).map fun i => ((c.toList.drop o).drop (i * n)).take n, [b], rfl, .inr (.inr ⟨b, o, cap, c, T, fr, by simp, rfl, hh, ?_, by simpa using hsz, ?_, by simpa using hl⟩), ?_, ?_, ?_⟩
      · intro r hr
        simp only [List.mem_map, List.mem_range] at hr
        obtain ⟨i, hi, rfl⟩ := hr
        have : (i + 1) * n ≤ len * n := Nat.mul_le_mul_right _ hi
        rw [Nat.succ_mul] at this
        simp; omega
      · rw [chop_flat]; simp
      · intro y hy
        simp only [List.mem_singleton] at hy
        subst hy
        exact lt_of_blk hh
      · simp; omega
      · intro r hr
        simp only [List.mem_map, List.mem_range] at hr
        obtain ⟨i, hi, rfl⟩ := hr
        obtain ⟨cs, y, g1, g2, g3, _, _⟩ := cell i 0 hi hn
        refine ⟨m, y, ?_⟩
        have he : ((c.toList.drop o).drop (i * n)).take n = cs := by
          apply List.ext_getElem?
          intro j
          by_cases hj : j < n
          · obtain ⟨cs', y', g1', _, _, g4', _⟩ := cell i j hi hj
            rw [g1] at g1'
            injection g1' with g1'
            subst g1'
            rw [List.getElem?_take_of_lt hj, List.drop_drop, List.getElem?_drop, Array.getElem?_toList, g4']
          · rw [List.getElem?_eq_none (by simp; omega), List.getElem?_eq_none (by omega)]
        rw [he]; exact g2
end
end Go.Q

/- '==' of structs whose fields are numbers, texts and bools: one Bool. -/
set_option linter.unusedVariables false
set_option linter.unusedSimpArgs false
namespace Go.Q
def eqV : Value → Value → Bool
  | .int _ x, .int _ y => decide (x = y)
  | .string s, .string t => decide (s = t)
  | .bool a, .bool b => a == b
  | _, _ => false
def eqC : List Value → List Value → Bool
  | a :: r, b :: s => eqV a b && eqC r s
  | _, _ => true
@[simp] theorem eqV_int {k k' : IntKind} {x y : Int} : eqV (.int k x) (.int k' y) = decide (x = y) := rfl
@[simp] theorem eqV_str {s t : ByteArray} : eqV (.string s) (.string t) = decide (s = t) := rfl
@[simp] theorem eqV_bool {s t : Bool} : eqV (.bool s) (.bool t) = (s == t) := rfl
@[simp] theorem eqC_cons {a b : Value} {r s : List Value} : eqC (a :: r) (b :: s) = (eqV a b && eqC r s) := rfl
@[simp] theorem eqC_nil : eqC [] [] = true := rfl
def eqK : Option TypeDesc → Value → Value → Bool
  | some (.int _), .int k _, .int k' _ => k == k'
  | some .string, .string _, .string _ => true
  | some .bool, .bool _, .bool _ => true
  | _, _, _ => false
def flatF (P : Program) : List Field → List Value → List Value → Nat → Bool
  | [], _, _, _ => true
  | f :: fs, a :: aas, b :: bbs, i => !(f.name == "_") && Nat.beq f.offset i && (match aggO P f.type with | some false => true | _ => false) && eqK (P.underlying f.type) a b && flatF P fs aas bbs (i + 1)
  | _, _, _, _ => false
def aggEq (P : Program) (T : TypeId) (xs ys : List Value) : Bool :=
  match P.underlying T with
  | some (.struct fs) => !P.stoodInHeld T && !P.eqGuardType P.depth T && flatF P fs.toList xs ys 0 && Nat.beq fs.size xs.length && Nat.beq fs.size ys.length
  | _ => false
variable {P : Program}
theorem eqV_run {d : Nat} {T : TypeId} {a b : Value} {w : World} (h : eqK (P.underlying T) a b = true) : (Op.equalIn (d + 1) T a b).run P w = .ok (eqV a b) w := by
  unfold eqK at h
  split at h
  · rename_i hu
    have hk := eq_of_beq h
    subst hk
    rw [run_equalIn_int w d T _ _ _ _ hu]
    rfl
  · rename_i hu
    rw [run_equalIn_string w d T _ _ hu]
    rw [toList_beq]; rfl
  · rename_i hu
    rw [run_equalIn_bool' w d T _ _ hu]; rfl
  · cases h
theorem flat_run {d : Nat} {xs ys : Array Value} {w : World} : ∀ (fs : List Field) (aas bbs : List Value) (i : Nat), flatF P fs aas bbs i = true → xs.toList.drop i = aas → ys.toList.drop i = bbs → aas.length = fs.length → bbs.length = fs.length →
    (Op.eqFields (d + 1) xs ys fs).run P w = .ok (eqC aas bbs) w := by
  intro fs
  induction fs with
  | nil =>
    intro aas bbs i _ _ _ h1 h2
    have ha : aas = [] := List.length_eq_zero_iff.1 h1
    have hb : bbs = [] := List.length_eq_zero_iff.1 h2
    rw [ha, hb]
    simp [Op.eqFields]
  | cons f fs ih =>
    intro aas bbs i h h1 h2 h3 h4
    cases aas with
    | nil => simp at h3
    | cons a aas =>
      cases bbs with
      | nil => simp at h4
      | cons b bbs =>
        simp only [flatF, Bool.and_eq_true, Bool.not_eq_true'] at h
        obtain ⟨⟨⟨⟨g1, g2⟩, g3⟩, g4⟩, g5⟩ := h
        have hn : f.name ≠ "_" := by simpa using g1
        have ho : f.offset = i := Nat.eq_of_beq_eq_true g2
        have ha : aggO P f.type = some false := by
          revert g3
          cases aggO P f.type with
          | none => intro h; cases h
          | some t => cases t <;> intro h <;> simp at h ⊢
        have hx : xs[i]? = some a := by rw [← Array.getElem?_toList, ← List.head?_drop, h1]; rfl
        have hy : ys[i]? = some b := by rw [← Array.getElem?_toList, ← List.head?_drop, h2]; rfl
        have p1 : (part f.type xs f.offset).run P w = .ok a w := by rw [ho]; simp [part, aggO_run ha, hx, pure, Sem.run]
        have p2 : (part f.type ys f.offset).run P w = .ok b w := by rw [ho]; simp [part, aggO_run ha, hy, pure, Sem.run]
        have hr := ih aas bbs (i + 1) g5 (by rw [← List.drop_drop, h1]; rfl) (by rw [← List.drop_drop, h2]; rfl) (by simpa using h3) (by simpa using h4)
        rw [Op.eqFields]
        simp only [if_pos hn, Sem.run_bind, p1, p2, eqV_run g4, Result.andThen_ok]
        cases hv : eqV a b
        · simp [hv]
        · simp [hv]; exact hr
theorem run_aggs {T : TypeId} {xs ys : Array Value} {xo yo : Operand} {w : World} (h : aggEq P T xs.toList ys.toList = true) :
    (bq .eql T xo yo (.agg xs) (.agg ys)).run P w = .ok (.bool (eqC xs.toList ys.toList)) w ∧ (bq .neq T xo yo (.agg xs) (.agg ys)).run P w = .ok (.bool !eqC xs.toList ys.toList) w := by
  unfold aggEq at h
  split at h
  · rename_i fs hu
    simp only [Bool.and_eq_true, Bool.not_eq_true'] at h
    obtain ⟨⟨⟨⟨h1, h2⟩, h3⟩, h4⟩, h5⟩ := h
    have h4 := Nat.eq_of_beq_eq_true h4
    have h5 := Nat.eq_of_beq_eq_true h5
    have hf : P.fieldsOf T = fs := by simp [Program.fieldsOf, hu]
    have hr := flat_run (d := 9998) (xs := xs) (ys := ys) (w := w) fs.toList xs.toList ys.toList 0 h3 rfl rfl (by simpa using h4.symm) (by simpa using h5.symm)
    have he : (Op.equalIn 10000 T (.agg xs) (.agg ys)).run P w = .ok (eqC xs.toList ys.toList) w := by
      rw [run_equalIn_agg w 9999 T xs ys (by rw [hf]; exact hu) h1, hf]
      exact hr
    constructor
    · unfold bq
      rw [Sem.run_bind, run_eqGuard_agg w _ _ _ _ _ _ h2]
      simp only [Result.andThen_ok]
      rw [run_eql_struct, he]; rfl
    · unfold bq
      rw [Sem.run_bind, run_eqGuard_agg w _ _ _ _ _ _ h2]
      simp only [Result.andThen_ok]
      rw [run_neq_struct, he]; rfl
  · cases h
@[simp] theorem bq_aggeql {T : TypeId} {xs ys : List Value} {xo yo : Operand} {w : World} {K : Value → Prop} (h : aggEq P T xs ys = true) : qG P (bq .eql T xo yo (.agg xs.toArray) (.agg ys.toArray)) w K = K (.bool (eqC xs ys)) := qG_of (run_aggs h).1
@[simp] theorem bq_aggneq {T : TypeId} {xs ys : List Value} {xo yo : Operand} {w : World} {K : Value → Prop} (h : aggEq P T xs ys = true) : qG P (bq .neq T xo yo (.agg xs.toArray) (.agg ys.toArray)) w K = K (.bool !eqC xs ys) := qG_of (run_aggs h).2
end Go.Q

/- Slices of a call's own, and slices that are only read, without a list of their blocks. -/
set_option linter.unusedVariables false
set_option linter.unusedSimpArgs false
namespace Go.Q
/-- a slice that reads so -/
def Rd (w : World) (v : Value) (k : Nat) (rows : List (List Value)) : Prop := ∃ S, ArgAt w v k rows S
/-- a slice that owns its block, which was made behind 'w0' -/
structure Fr (w0 w : World) (v : Value) (k : Nat) (rows : List (List Value)) : Prop where
  ex : ∃ S, RowsAt w v k rows S ∧ ∀ x ∈ S, w0.heap.size ≤ x
  kp : Kp [] w0 w
section
variable {w0 w w' : World} {v : Value} {k : Nat} {rows : List (List Value)}
theorem Rd.keep (h : Rd w v k rows) (hk : Kp [] w w') : Rd w' v k rows := by
  obtain ⟨S, h⟩ := h
  exact ⟨S, h.keep hk (by simp)⟩
theorem Rd.lenL (h : Rd w v k rows) {K : Value → Prop} : lenL v K = K (.int .i64 rows.length) := by
  obtain ⟨S, h⟩ := h
  exact h.lenL
theorem Rd.row (h : Rd w v k rows) {x : List Value} (hx : x ∈ rows) : x.length = k := by
  obtain ⟨S, h⟩ := h
  exact h.row hx
theorem Rd.src (h : Rd w v k rows) (K' : Nat → Array Value → Prop) (hK : K' rows.length rows.flatten.toArray) : Q.srcA k v w K' := by
  obtain ⟨S, h⟩ := h
  exact h.src K' hK
theorem Rd.at (h : Rd w v k rows) {i : Nat} (hi : i < rows.length) :
    ∃ bl o T c fr, w.heap[bl]? = some (.cells c T fr) ∧ (∀ kd K, ia k v (.int kd i) K = K (.pointer (some ⟨bl, o, none⟩))) ∧ o + k ≤ c.size ∧ c.extract o (o + k) = rows[i].toArray ∧ ∀ j, j < k → c[o + j]? = rows[i][j]? := by
  obtain ⟨S, h⟩ := h
  obtain ⟨bl, o, T, c, fr, _, h1, h2, h3, h4, h5⟩ := h.at hi
  exact ⟨bl, o, T, c, fr, h1, h2, h3, h4, h5⟩
theorem Rd.take (h : Rd w v k rows) {p : Nat} (hp : p ≤ rows.length) {kd : IntKind} : ∃ v', Rd w v' k (rows.take p) ∧ ∀ K, slL k v none (some (.int kd p)) K = K v' := by
  obtain ⟨S, h⟩ := h
  obtain ⟨v', h1, h2⟩ := h.take hp (kd := kd)
  exact ⟨v', ⟨S, h1⟩, h2⟩
theorem Rd.drop (h : Rd w v k rows) {p : Nat} (hp : p ≤ rows.length) {kd : IntKind} : ∃ v', Rd w v' k (rows.drop p) ∧ ∀ K, slL k v (some (.int kd p)) none K = K v' := by
  obtain ⟨S, h⟩ := h
  obtain ⟨v', h1, h2⟩ := h.drop hp (kd := kd)
  exact ⟨v', ⟨S, h1⟩, h2⟩
/-- a row is read whole -/
theorem Rd.get (h : Rd w v k rows) {i : Nat} (hi : i < rows.length) :
    ∃ p, (∀ kd K, ia k v (.int kd i) K = K p) ∧ (∀ K : Value → Prop, ldn k p w K = K (.agg rows[i].toArray)) ∧ ∀ j (hj : j < rows[i].length), ∀ K : Value → Prop, fa j p (fun q => ld1 q w K) = K rows[i][j] := by
  have hr := h.row (List.getElem_mem hi)
  obtain ⟨bl, o, T, c, fr, h1, h2, h3, h4, h5⟩ := h.at hi
  refine ⟨_, h2, fun K => ?_, fun j hj K => ?_⟩
  · simp only [ldn_p, rdN_mk, h1, h3, h4, true_and]
  · have := h5 j (by omega)
    rw [List.getElem?_eq_getElem hj] at this
    simp [-getElem?_pos, -Array.getElem?_eq_getElem, h1, this]
/-- a row of one cell is read -/
theorem Rd.one (h : Rd w v 1 rows) {i : Nat} (hi : i < rows.length) {x : Value} (hx : rows[i] = [x]) : ∃ p, (∀ kd K, ia 1 v (.int kd i) K = K p) ∧ ∀ K : Value → Prop, ld1 p w K = K x := by
  obtain ⟨bl, o, T, c, fr, h1, h2, h3, h4, h5⟩ := h.at hi
  refine ⟨_, h2, fun K => ?_⟩
  have := h5 0 (by omega)
  rw [hx, Nat.add_zero, List.getElem?_cons_zero] at this
  simp [-getElem?_pos, -Array.getElem?_eq_getElem, h1, this]
theorem Rd.slice (h : Rd w v k rows) : ∃ a c, v = .slice a rows.length c := by
  obtain ⟨S, ⟨a, c, h1, h2⟩ | h⟩ := h
  · exact ⟨a, c, by rw [h1, h2]; rfl⟩
  · obtain ⟨a, c, h1, _⟩ := h.len
    exact ⟨a, c, h1⟩
theorem Fr.rd (h : Fr w0 w v k rows) : Rd w v k rows := by
  obtain ⟨S, h1, h2⟩ := h.ex
  exact ⟨S, .inr h1.rd⟩
theorem Fr.keep (h : Fr w0 w v k rows) (hk : Kp [] w w') : Fr w0 w' v k rows := by
  obtain ⟨S, h1, h2⟩ := h.ex
  exact ⟨⟨S, h1.keep hk (by simp), h2⟩, h.kp.trans' hk⟩
/-- an elder base -/
theorem Fr.base {wb : World} (h : Fr w0 w v k rows) (hk : Kp [] wb w0) : Fr wb w v k rows := by
  obtain ⟨S, h1, h2⟩ := h.ex
  exact ⟨⟨S, h1, fun x hx => by have := h2 x hx; have := hk.size; omega⟩, hk.trans' h.kp⟩
theorem Fr.one (h : Fr w0 w v k rows) : Q.one v = true := by
  obtain ⟨S, h1, h2⟩ := h.ex
  obtain ⟨a, c, hv, _⟩ := h1.len
  rw [hv]; rfl
theorem fr_nil (hk : Kp [] w0 w) : Fr w0 w (.slice none 0 0) k [] := ⟨⟨[], .inl ⟨rfl, rfl, rfl⟩, by simp⟩, hk⟩
theorem fr_app {e bytes : Nat} {z : List Value} {x : Value} {G : List (List Value)} (h : Fr w0 w v k rows) (hk : 0 < k) (hz : z.length = k) (hG : ∀ y ∈ G, y.length = k) (hone : G.flatten.all Q.one = true)
    (hsrc : ∀ K' : Nat → Array Value → Prop, K' G.length G.flatten.toArray → srcA k x w K') (hb : 2 * (rows.length + G.length) * bytes ≤ 2 ^ 48) (hb2 : rows.length + G.length < 2 ^ 62) {K : Value → World → Prop}
    (hK : ∀ v' w', Fr w0 w' v' k (rows ++ G) → K v' w') : app e k bytes z.toArray v x w K := by
  obtain ⟨S, h1, h2⟩ := h.ex
  refine rows_app h1 hk hz hG hone hsrc hb hb2 fun v' w' S' h' hk' hS' => ?_
  have hs := h.kp.size
  refine hK v' w' ⟨⟨S', h', fun x hx => ?_⟩, h.kp.trans hk' fun x hx hlt => by have := h2 x hx; omega⟩
  rcases hS' x hx with h | h
  · exact h2 x h
  · omega
/-- a literal of one row is a slice of its own -/
theorem bsl_rowN {e n : Nat} {z : Array Value} {x : Value} {cs : List Value} (hn : 0 < n) (hc : x.cells = cs.toArray) (hl : cs.length = n) {w : World} {K : Value → World → Prop}
    (hK : ∀ v' w', Fr w w' v' n [cs] → K v' w') : bsl e n 1 z #[(0, x)] w K := by
  have hb : bsl e n 1 z #[(0, x)] w K = K (.slice (some ⟨w.heap.size, 0, none⟩) 1 1) (w.alloc (.cells cs.toArray e)) := by
    unfold bsl
    show (match Instr.fill (fun i => some (i * n, n)) (rep z (1 * n)) [(0, x)] with | some cs => K (Value.slice (some ⟨w.heap.size, 0, none⟩) 1 1) (w.alloc (Obj.cells cs e)) | none => False) = _
    rw [fill_step (off := 0) (size := n) (by simp) (by rw [hc]; simpa using hl) (by rw [rep_size]; omega), hc, splice_all (by rw [rep_size]; simp [hl])]
    rfl
  rw [hb]
  refine hK _ _ ⟨⟨[w.heap.size], .inr ⟨w.heap.size, [cs], e, rfl, rfl, ?_, by simpa using hl, by simp, by simp⟩, by simp⟩, (Kp.refl [] w).alloc _⟩
  rw [heap_new]; simp
end
/-! ### bytes -/
def byteV (c : UInt8) : List Value := [.int .u8 c.toNat]
theorem byteV_flat (l : List UInt8) : (l.map byteV).flatten = u8c l := by
  induction l with
  | nil => rfl
  | cons c l ih => simp only [List.map_cons, List.flatten_cons, ih]; rfl
/-- a text of bytes -/
theorem Rd.text {w : World} {v : Value} {l : List UInt8} (h : Rd w v 1 (l.map byteV)) (hn : (∃ a c, v = .slice a 0 c) → v = .slice none 0 0 ∨ ∃ S, RdAt w v 1 (l.map byteV) S) {K : Value → Prop} : cvBS v w K = K (.string (str l)) := by
  have main : ∀ S, RdAt w v 1 (l.map byteV) S → cvBS v w K = K (.string (str l)) := by
    intro S h
    rcases h with ⟨h1, h2⟩ | ⟨bl, o, cap, c, T, fr, h1, h2, h3, h4, h5, h6, h7⟩
    · have : l = [] := by simpa using h2
      subst this; subst h1
      rfl
    · subst h1
      have hb := bytesOf_u8c l
      simp only [List.length_map, Nat.mul_one] at h5 h6 h7
      have hx : c.extract o (o + l.length) = (u8c l).toArray := by rw [extract_toList, h6, byteV_flat]
      simp only [cvBS, rdN_mk, List.length_map, h3, hx, h5, true_and, hb]
      rfl
  obtain ⟨S, ⟨a, c, h1, h2⟩ | h⟩ := h
  · rcases hn ⟨a, c, h1⟩ with h3 | ⟨S, h3⟩
    · have : l = [] := by simpa using h2
      subst this; subst h3
      rfl
    · exact main S h3
  · exact main S h
theorem Fr.text {w0 w : World} {v : Value} {l : List UInt8} (h : Fr w0 w v 1 (l.map byteV)) {K : Value → Prop} : cvBS v w K = K (.string (str l)) := by
  obtain ⟨S, h1, h2⟩ := h.ex
  exact Rd.text h.rd fun _ => .inr ⟨S, h1.rd⟩
end Go.Q

set_option linter.unusedVariables false
set_option linter.unusedSimpArgs false
namespace Go.Proofs
open Go Go.Q
set_option maxRecDepth 100000
/-! (*strings.Builder).copyCheck -/
/-! (*strings.Builder).WriteByte -/
/-! (*strings.Builder).WriteString -/
/-! (*strings.Builder).String -/
end Go.Proofs

/- strings.Builder: what each function of it does. -/
set_option linter.unusedVariables false
set_option linter.unusedSimpArgs false
namespace Go.Proofs
open Go Go.Q
/-- a builder's buffer, frozen or not -/
def BufT (w : World) (v : Value) (l : List UInt8) (S : List Nat) : Prop :=
  (v = .slice none 0 0 ∧ l = [] ∧ S = []) ∨
  ∃ (bl cap : Nat) (c : Array Value) (fr : Nat × Nat), v = .slice (some ⟨bl, 0, none⟩) l.length cap ∧ S = [bl] ∧ w.heap[bl]? = some (.cells c 5 fr) ∧ l ≠ [] ∧ l.length ≤ c.size ∧ l.length ≤ cap ∧ c.toList.take l.length = u8c l
/-- a builder that may be written on -/
def Bld (w : World) (b : Nat) (l : List UInt8) (S : List Nat) : Prop :=
  ∃ p v SB, w.heap[b]? = some (.cells #[p, v] 102) ∧ (p = .pointer none ∨ p = .pointer (some ⟨b, 0, none⟩)) ∧ RowsT w v 1 5 (l.map byteV) SB ∧ (l = [] → v = .slice none 0 0) ∧ S = b :: SB ∧ b ∉ SB
/-- a builder that is read -/
def BldD (w : World) (b : Nat) (l : List UInt8) (S : List Nat) : Prop :=
  ∃ p v SB, w.heap[b]? = some (.cells #[p, v] 102) ∧ BufT w v l SB ∧ S = b :: SB ∧ b ∉ SB
theorem Bld.keep {w w' : World} {b : Nat} {l : List UInt8} {S S' : List Nat} (h : Bld w b l S) (hk : Kp S' w w') (hd : ∀ x ∈ S, x ∉ S') : Bld w' b l S := by
  obtain ⟨p, v, SB, h1, h2, h3, h4, rfl, h5⟩ := h
  exact ⟨p, v, SB, hk.get h1 (hd b (by simp)), h2, h3.keep hk (fun x hx => hd x (by simp [hx])), h4, rfl, h5⟩
theorem BufT.keep {w w' : World} {v : Value} {l : List UInt8} {S S' : List Nat} (h : BufT w v l S) (hk : Kp S' w w') (hd : ∀ x ∈ S, x ∉ S') : BufT w' v l S := by
  rcases h with h | ⟨bl, cap, c, fr, h1, rfl, h3, h4⟩
  · exact .inl h
  · exact .inr ⟨bl, cap, c, fr, h1, rfl, hk.get h3 (hd bl (by simp)), h4⟩
theorem BldD.keep {w w' : World} {b : Nat} {l : List UInt8} {S S' : List Nat} (h : BldD w b l S) (hk : Kp S' w w') (hd : ∀ x ∈ S, x ∉ S') : BldD w' b l S := by
  obtain ⟨p, v, SB, h1, h2, rfl, h5⟩ := h
  exact ⟨p, v, SB, hk.get h1 (hd b (by simp)), h2.keep hk (fun x hx => hd x (by simp [hx])), rfl, h5⟩
theorem Bld.done {w : World} {b : Nat} {l : List UInt8} {S : List Nat} (h : Bld w b l S) : BldD w b l S := by
  obtain ⟨p, v, SB, h1, h2, h3, h4, rfl, h5⟩ := h
  refine ⟨p, v, SB, h1, ?_, rfl, h5⟩
  by_cases hl : l = []
  · have hv := h4 hl
    subst hl
    rcases h3 with ⟨_, _, h6⟩ | ⟨bl, F, h7, _⟩
    · exact .inl ⟨hv, rfl, h6⟩
    · rw [hv] at h7; cases h7
  · rcases h3 with ⟨_, h6, _⟩ | ⟨bl, F, h7, h8, h9, h10, h11, h12⟩
    · exact absurd (by simpa using h6) hl
    · have hfl := flat_len h10
      simp only [List.length_map] at h7 h11 h12
      refine .inr ⟨bl, F.length, F.flatten.toArray, (0, 0), by rw [h7], h8, h9, hl, ?_, h12, ?_⟩
      · simp only [List.size_toArray, hfl]; omega
      · have := flat_take l.length h10
        rw [Nat.mul_one] at this
        rw [this, h11, byteV_flat]
theorem BufT.lenL {w : World} {v : Value} {l : List UInt8} {S : List Nat} (h : BufT w v l S) {K : Value → Prop} : lenL v K = K (.int .i64 l.length) := by
  rcases h with ⟨h1, h2, _⟩ | ⟨bl, cap, c, fr, h1, _⟩
  · rw [h1, h2]; rfl
  · rw [h1]; rfl
/-- a builder of the call's own -/
structure Bd (w0 w : World) (b : Nat) (l : List UInt8) : Prop where
  ex : ∃ S, Bld w b l S ∧ ∀ x ∈ S, w0.heap.size ≤ x
  kp : Kp [] w0 w
theorem Bd.keep {w0 w w' : World} {b : Nat} {l : List UInt8} (h : Bd w0 w b l) (hk : Kp [] w w') : Bd w0 w' b l := by
  obtain ⟨S, h1, h2⟩ := h.ex
  exact ⟨⟨S, h1.keep hk (by simp), h2⟩, h.kp.trans' hk⟩
end Go.Proofs

set_option linter.unusedVariables false
set_option linter.unusedSimpArgs false
namespace Go.Proofs
open Go Go.Q
set_option maxRecDepth 100000
/-! quayside/value.Check -/
/-! quayside/quaysideref05.May -/
/-! quayside/value.bytes -/
/-! quayside/quaysideref05.bytes -/
/-! quayside/value.Put -/
/-! quayside/quaysideref05.Put -/
/-! quayside/value.one -/
/-! quayside/quaysideref05.one -/
/-! quayside/value.Take -/
/-! quayside/quaysideref05.Take -/
/-! quayside/quaysideref05.Same -/
end Go.Proofs

/- Rules for the printed forms: bits, shifts, quotients. -/
set_option linter.unusedVariables false
set_option linter.unusedSimpArgs false
namespace Go.Q
variable {P : Program} {T : TypeId} {xo yo : Operand} {w : World} {K : Value → Prop} {u : Value}
theorem and_mask (x : Int) (m : Nat) (hm : m < 63) : IntKind.i64.wrap ((BitVec.ofInt 64 x &&& BitVec.ofInt 64 (2 ^ m - 1)).toNat : Int) = x % 2 ^ m := by
  have hp : (2 : Nat) ^ m ≤ 2 ^ 62 := Nat.pow_le_pow_right (by omega) (by omega)
  have hpos : 0 < (2 : Nat) ^ m := Nat.two_pow_pos m
  have h1 : (BitVec.ofInt 64 ((2 : Int) ^ m - 1)).toNat = 2 ^ m - 1 := by
    rw [BitVec.toNat_ofInt]
    have : ((2 : Int) ^ m - 1) = ((2 ^ m - 1 : Nat) : Int) := by
      rw [Int.ofNat_sub hpos]; simp
    rw [this]
    have hlt : 2 ^ m - 1 < 2 ^ 64 := by omega
    omega
  have h2 : ((BitVec.ofInt 64 x).toNat : Int) = x % 2 ^ 64 := by
    rw [BitVec.toNat_ofInt, Int.toNat_of_nonneg (Int.emod_nonneg _ (by decide))]
    rfl
  rw [BitVec.toNat_and, h1, Nat.and_two_pow_sub_one_eq_mod]
  have hd : ((2 : Int) ^ m) ∣ 2 ^ 64 := ⟨2 ^ (64 - m), by rw [← Int.pow_add, show m + (64 - m) = 64 by omega]⟩
  have h3 : (((BitVec.ofInt 64 x).toNat % 2 ^ m : Nat) : Int) = x % 2 ^ m := by
    rw [Int.natCast_emod, h2]
    have : ((2 ^ m : Nat) : Int) = (2 : Int) ^ m := by simp
    rw [this]
    exact Int.emod_emod_of_dvd x hd
  rw [h3]
  have hp' : (2 : Int) ^ m ≤ 2 ^ 62 := by
    have : ((2 ^ m : Nat) : Int) = (2 : Int) ^ m := by simp
    rw [← this]; omega
  have hpos' : (0 : Int) < 2 ^ m := Int.pow_pos (by omega)
  have := Int.emod_nonneg x (Int.ne_of_gt hpos')
  have := Int.emod_lt_of_pos x hpos'
  exact wrap64 _ (by omega) (by omega)
theorem run_and_mask {x c : Int} (m : Nat) (hm : m < 63) (hc : c = 2 ^ m - 1) : (bq .and T xo yo (.int .i64 x) (.int .i64 c)).run P w = .ok (.int .i64 (x % 2 ^ m)) w :=
  run_bq_int (s := .pure _) fun w => by
    have := and_mask x m hm
    rw [← hc] at this
    simp only [binOp, ne_eq, not_true_eq_false, if_false, Op.intBits]
    show Result.ok _ _ = Result.ok _ _
    congr 2
theorem and_of {x c : Int} (m : Nat) (hm : m < 63) (hc : c = 2 ^ m - 1) : qG P (bq .and T xo yo (.int .i64 x) (.int .i64 c)) w K = K (.int .i64 (x % 2 ^ m)) := qG_of (run_and_mask m hm hc)
theorem sand_of {x c : Int} (m : Nat) (hm : m < 63) (hc : c = 2 ^ m - 1) : stb P (bq .and T xo yo (.int .i64 x) (.int .i64 c)) u w = (.int .i64 (x % 2 ^ m) = u) := stb_of (run_and_mask m hm hc)
@[simp] theorem and1 {x : Int} : qG P (bq .and T xo yo (.int .i64 x) (.int .i64 1)) w K = K (.int .i64 (x % 2)) := and_of 1 (by omega) (by decide)
@[simp] theorem and7 {x : Int} : qG P (bq .and T xo yo (.int .i64 x) (.int .i64 7)) w K = K (.int .i64 (x % 8)) := and_of 3 (by omega) (by decide)
@[simp] theorem and15 {x : Int} : qG P (bq .and T xo yo (.int .i64 x) (.int .i64 15)) w K = K (.int .i64 (x % 16)) := and_of 4 (by omega) (by decide)
@[simp] theorem and127 {x : Int} : qG P (bq .and T xo yo (.int .i64 x) (.int .i64 127)) w K = K (.int .i64 (x % 128)) := and_of 7 (by omega) (by decide)
@[simp] theorem and255 {x : Int} : qG P (bq .and T xo yo (.int .i64 x) (.int .i64 255)) w K = K (.int .i64 (x % 256)) := and_of 8 (by omega) (by decide)
@[simp] theorem and511 {x : Int} : qG P (bq .and T xo yo (.int .i64 x) (.int .i64 511)) w K = K (.int .i64 (x % 512)) := and_of 9 (by omega) (by decide)
@[simp] theorem and65535 {x : Int} : qG P (bq .and T xo yo (.int .i64 x) (.int .i64 65535)) w K = K (.int .i64 (x % 65536)) := and_of 16 (by omega) (by decide)
@[simp] theorem sand1 {x : Int} : stb P (bq .and T xo yo (.int .i64 x) (.int .i64 1)) u w = (.int .i64 (x % 2) = u) := sand_of 1 (by omega) (by decide)
@[simp] theorem sand7 {x : Int} : stb P (bq .and T xo yo (.int .i64 x) (.int .i64 7)) u w = (.int .i64 (x % 8) = u) := sand_of 3 (by omega) (by decide)
@[simp] theorem sand255 {x : Int} : stb P (bq .and T xo yo (.int .i64 x) (.int .i64 255)) u w = (.int .i64 (x % 256) = u) := sand_of 8 (by omega) (by decide)
theorem run_shr {x y : Int} {k yk : IntKind} (h0 : 0 ≤ y) (h1 : y < k.bits) : (bq .shr T xo yo (.int k x) (.int yk y)).run P w = .ok (.int k (x / 2 ^ y.toNat)) w := by
  show (Op.shift .shr k x yk y).run P w = _
  have hn : ¬ y < 0 := by omega
  have hm : min y.toNat k.bits = y.toNat := by omega
  simp only [Op.shift, hn, if_false, hm]
  show Result.ok _ _ = Result.ok _ _
  congr 2
  exact (Int.fdiv_eq_ediv_of_nonneg x (Int.le_of_lt (Int.pow_pos (by omega))))
theorem shr_of {x y : Int} {k yk : IntKind} (h0 : 0 ≤ y) (h1 : y < k.bits) : qG P (bq .shr T xo yo (.int k x) (.int yk y)) w K = K (.int k (x / 2 ^ y.toNat)) := qG_of (run_shr h0 h1)
end Go.Q

/- Rules for the printed forms: or, xor and and of natural numbers, shifts to the left, negation and complement of 32 bits. -/
set_option linter.unusedVariables false
set_option linter.unusedSimpArgs false
namespace Go.Q
variable {P : Program} {T : TypeId} {xo yo : Operand} {w : World} {K : Value → Prop} {u : Value}
end Go.Q

/- Rules for the printed forms: or and xor of 64 bits without a sign; a number shifted, or a byte. -/
set_option linter.unusedVariables false
set_option linter.unusedSimpArgs false
namespace Go.Q
variable {P : Program} {T : TypeId} {xo yo : Operand} {w : World} {K : Value → Prop} {u : Value}
end Go.Q

/- Plain: values and rows, as bytes and back. -/
set_option linter.unusedVariables false
set_option linter.unusedSimpArgs false
namespace Go.Q
structure V3 where
  k : Int
  n : Int
  s : List UInt8
  deriving DecidableEq
def V3.ok (v : V3) : Bool :=
  if v.k = 0 then decide (v.n = 0 ∧ v.s = []) else if v.k = 1 then decide (v.s = []) else if v.k = 2 then decide (v.n = 0 ∧ v.s.length ≤ 64)
  else if v.k = 3 then decide ((v.n = 0 ∨ v.n = 1) ∧ v.s = []) else false
structure V3.Wf (v : V3) : Prop where
  k0 : -9223372036854775808 ≤ v.k
  k1 : v.k < 9223372036854775808
  n0 : -9223372036854775808 ≤ v.n
  n1 : v.n < 9223372036854775808
  s : v.s.length < 2 ^ 39
def bOf (x : Int) : UInt8 := UInt8.ofNat (x % 256).toNat
/-- digits, the greatest first -/
def be (m N : Nat) : List UInt8 := (List.range m).map fun i => UInt8.ofNat (N / 256 ^ (m - 1 - i) % 256)
def be8 (n : Int) : List UInt8 := be 8 (n + 9223372036854775808).toNat
/-! ### values as bytes -/
def V3.bytes (v : V3) : List UInt8 := bOf v.k :: (if v.k = 1 then be8 v.n else if v.k = 2 then bOf v.s.length :: v.s else if v.k = 3 then [bOf v.n] else [])
end Go.Q

/- Structs laid part by part; cells of values. -/
set_option linter.unusedVariables false
set_option linter.unusedSimpArgs false
namespace Go.Q
theorem bld_step {places : List (Nat × Nat)} {z : List Value} {i off : Nat} {v : Value} {rest : List (Nat × Value)} {k : Value → Prop} (h : places[i]? = some (off, 1)) (hv : one v = true) (ho : off < z.length) :
    bld places z.toArray ((i, v) :: rest).toArray k = bld places (z.set off v).toArray rest.toArray k := by
  have hc := cells_one hv
  unfold bld
  show (match Instr.fill (places[·]?) z.toArray ((i, v) :: rest) with | some cs => k (.agg cs) | none => False) = (match Instr.fill (places[·]?) (z.set off v).toArray rest with | some cs => k (.agg cs) | none => False)
  rw [fill_step (off := off) (size := 1) h (by rw [hc]; rfl) (by simp only [List.size_toArray]; omega), hc]
  have : splice z.toArray off #[v] = (z.set off v).toArray := by
    have := splice_list z off [v]
    rw [this, List.set_eq_take_append_cons_drop, if_pos ho]
    simp
  rw [this]
def offAt : List (Nat × Nat) → Nat → Option Nat
  | [], _ => none
  | (o, n) :: r, i => if i = 0 then (if n = 1 then some o else none) else offAt r (i - 1)
theorem offAt_get : ∀ {places : List (Nat × Nat)} {i off : Nat}, offAt places i = some off → places[i]? = some (off, 1) := by
  intro places
  induction places with
  | nil => intro i off h; cases h
  | cons p r ih =>
    intro i off h
    obtain ⟨o, n⟩ := p
    unfold offAt at h
    split at h
    · rename_i hi
      split at h
      · rename_i hn
        injection h with h
        subst h; subst hn; subst hi
        rfl
      · cases h
    · rename_i hi
      have := ih h
      obtain ⟨j, rfl⟩ : ∃ j, i = j + 1 := ⟨i - 1, by omega⟩
      rw [List.getElem?_cons_succ]
      simpa using this
/-- one part more -/
def putAt (places : List (Nat × Nat)) (z : List Value) (i : Nat) (v : Value) : List Value := match offAt places i with | some o => z.set o v | none => z
theorem bld_at {places : List (Nat × Nat)} {z : List Value} {i : Nat} {v : Value} {rest : List (Nat × Value)} {k : Value → Prop} (hv : one v = true)
    (ho : (match offAt places i with | some o => decide (o < z.length) | none => false) = true) :
    bld places z.toArray ((i, v) :: rest).toArray k = bld places (putAt places z i v).toArray rest.toArray k := by
  unfold putAt
  cases h : offAt places i with
  | none => rw [h] at ho; cases ho
  | some o =>
    rw [h] at ho
    exact bld_step (offAt_get h) hv (by simpa using ho)
def bld0 (places : List (Nat × Nat)) (z : Array Value) (ps : Array (Nat × Value)) (k : Value → Prop) : Prop := bld places z ps k
theorem bld_if {places : List (Nat × Nat)} {z : List Value} {i : Nat} {v : Value} {rest : List (Nat × Value)} {k : Value → Prop} :
    bld places z.toArray ((i, v) :: rest).toArray k = if one v = true ∧ (match offAt places i with | some o => decide (o < z.length) | none => false) = true then bld places (putAt places z i v).toArray rest.toArray k else bld0 places z.toArray ((i, v) :: rest).toArray k := by
  by_cases h : one v = true ∧ (match offAt places i with | some o => decide (o < z.length) | none => false) = true
  · rw [if_pos h]; exact bld_at h.1 h.2
  · rw [if_neg h]; rfl
theorem bld_done {places : List (Nat × Nat)} {z : Array Value} {k : Value → Prop} : bld places z #[] k = k (.agg z) := rfl
@[simp] theorem cells_agg {cs : Array Value} : Value.cells (.agg cs) = cs := rfl
@[simp] theorem cells_int {k : IntKind} {n : Int} : Value.cells (.int k n) = #[.int k n] := rfl
@[simp] theorem cells_str {s : ByteArray} : Value.cells (.string s) = #[.string s] := rfl
@[simp] theorem all_cons1 {a : Value} {l : List Value} : (List.toArray (a :: l)).all one = (one a && (List.toArray l).all one) := by simp
@[simp] theorem all_nil1 : (List.toArray ([] : List Value)).all one = true := by simp
@[simp] theorem splice_lit {l vs : List Value} (h : l.length = vs.length) : splice l.toArray 0 vs.toArray = vs.toArray := splice_all (by simpa using h)
theorem loadVar_of {P : Program} {t : TypeId} {n b : Nat} {w : World} {c : Array Value} {T : TypeId} {fr : Nat × Nat} (ha : aggO P t = some true) (hn : szO P t = some n) (hh : w.heap[b]? = some (.cells c T fr)) (hs : c.size = n) {K : Value → Prop} :
    qG P (do loadVar t (← asAddr (.pointer (some ⟨b, 0, none⟩)))) w K = K (.agg c) := by
  refine qG_of ?_
  have h : ldn n (.pointer (some ⟨b, 0, none⟩)) w (fun v => v = .agg c) := by
    rw [ldn_p]; unfold rdN; simp only [hh, true_and, hs, Nat.zero_add, Nat.le_refl]
    have : c.extract 0 n = c := by rw [← hs]; simp
    rw [this]
  obtain ⟨v, hr, hv⟩ := ldn_q (P := P) ha hn h
  subst hv
  exact hr
/-! bytes of numbers -/
theorem str_nil : (⟨#[]⟩ : ByteArray) = str [] := rfl
theorem kp_alloc {w : World} {o : Obj} : Kp [] w (w.alloc o) := (Kp.refl [] w).alloc o
theorem kp_drew {w : World} : Kp [] w w.drew := (Kp.refl [] w).drew
theorem ex_w {w' : World} : ∃ w, w = w' := ⟨_, rfl⟩
end Go.Q

/- Layer 5: values and rows, as bytes and back: what each function does. -/
set_option linter.unusedVariables false
set_option linter.unusedSimpArgs false
namespace Go.Proofs
open Go Go.Q
theorem le64 {s : List UInt8} : ((s.length : Int) ≤ 64) = (s.length ≤ 64) := by apply propext; omega
end Go.Proofs

/- Layer 5: values and rows taken from bytes: what each function does. -/
set_option linter.unusedVariables false
set_option linter.unusedSimpArgs false
namespace Go.Proofs
open Go Go.Q
section
variable {w0 : World} {a b : Nat} {R : Value → World → Prop}
end
end Go.Proofs

/- Layer 5: the document's values and rows taken from bytes; rows put. -/
set_option linter.unusedVariables false
set_option linter.unusedSimpArgs false
namespace Go.Proofs
open Go Go.Q
section
variable {w0 : World} {a b : Nat} {R : Value → World → Prop}
end
end Go.Proofs

/- Layer 5: rows. -/
set_option linter.unusedVariables false
set_option linter.unusedSimpArgs false
namespace Go.Proofs
open Go Go.Q
end Go.Proofs

set_option linter.unusedVariables false
set_option linter.unusedSimpArgs false
namespace Go.Proofs
open Go Go.Q
set_option maxRecDepth 100000
/-! quayside/entry.name -/
def entry_name_s0 (R : Value → World → Prop) (x0 : Value) (w : World) : Prop :=
  lenS x0 fun t4 =>
  qG Try.prog (bq .geq 3 (.tmp 4) (.const (.int .i64 1)) t4 (.int .i64 1)) w fun t5 =>
  bV t5
  (lenS x0 fun t8 =>
  qG Try.prog (bq .leq 3 (.tmp 8) (.const (.int .i64 64)) t8 (.int .i64 64)) w fun t9 =>
  R t9 w)
  (R (.bool false) w)
theorem entry_name_s0_eq (R : Value → World → Prop) : ∀ e w, lift Try.prog 11 (bodyOf Try.f54) (finK Try.prog Try.f54.results.toList R) e w = entry_name_s0 R (e 0) w := fun e w => by kernel_rfl
def entry_name (R : Value → World → Prop) (x0 : Value) (w : World) : Prop := entry_name_s0 R x0 w
theorem entry_name_call {R : Value → World → Prop} {x0 : Value} {w : World} (h : entry_name R x0 w) : callG Try.prog 54 #[x0] w R :=
  calls_lift_eq Try.mixed Try.func54 (args := [x0]) rfl rfl rfl rfl ((entry_name_s0_eq R) (envOf [x0]) w) (by kernel_rfl) h
/-! quayside/quaysideref06.Name -/
/-! quayside/entry.Check -/
def entry_Check_s0 (R : Value → World → Prop) (x1 x3 x4 : Value) (w : World) : Prop :=
  fa 0 x1 fun t113 =>
  ld1 t113 w fun t114 =>
  fa 0 x3 fun t115 =>
  st1 t115 t114 w fun w =>
  qG Try.prog (Op.unary .not x4) w fun t117 =>
  bV t117
  (R (.int .i64 1) w)
  (ldn 7 x3 w fun t119 =>
  ldn 7 x1 w fun t120 =>
  qG Try.prog (bq .neq 23 (.tmp 119) (.tmp 120) t119 t120) w fun t121 =>
  bV t121
  (R (.int .i64 1) w)
  (R (.int .i64 0) w))
theorem entry_Check_s0_eq (R : Value → World → Prop) : ∀ e w, lift Try.prog 123 (sub (bodyOf Try.f17) [1, 1, 1, 1]) (finK Try.prog Try.f17.results.toList R) e w = entry_Check_s0 R (e 1) (e 3) (e 4) w := fun e w => by kernel_rfl
def entry_Check_s1 (R : Value → World → Prop) (x1 x3 x4 : Value) (w : World) : Prop :=
  fa 1 x1 fun t17 =>
  ld1 t17 w fun t18 =>
  fa 2 x1 fun t19 =>
  ld1 t19 w fun t20 =>
  fa 4 x1 fun t21 =>
  ld1 t21 w fun t22 =>
  bld [(0, 1), (1, 1), (2, 1), (3, 1), (4, 1), (5, 1), (6, 1)] (zc Try.prog 23) #[(1, t18), (2, t20), (4, t22)] fun t23 =>
  stn 7 x3 t23 w fun w =>
  bV x4
  (fa 4 x1 fun t26 =>
  ld1 t26 w fun t27 =>
  qG Try.prog (bq .geq 3 (.tmp 27) (.const (.int .i64 1)) t27 (.int .i64 1)) w fun t28 =>
  entry_Check_s0 R x1 x3 t28 w)
  (entry_Check_s0 R x1 x3 (.bool false) w)
theorem entry_Check_s1_eq (R : Value → World → Prop) : ∀ e w, lift Try.prog 123 (sub (bodyOf Try.f17) [1, 1, 1, 0, 1, 0, 1, 0]) (blockK 0 (seqK (fun e w => entry_Check_s0 R (e 1) (e 3) (e 4) w) (finK Try.prog Try.f17.results.toList R))) e w = entry_Check_s1 R (e 1) (e 3) (e 4) w := fun e w => by kernel_rfl
def entry_Check_s2 (R : Value → World → Prop) (x1 x3 x4 : Value) (w : World) : Prop :=
  fa 1 x1 fun t32 =>
  ld1 t32 w fun t33 =>
  fa 2 x1 fun t34 =>
  ld1 t34 w fun t35 =>
  fa 4 x1 fun t36 =>
  ld1 t36 w fun t37 =>
  fa 6 x1 fun t38 =>
  ld1 t38 w fun t39 =>
  bld [(0, 1), (1, 1), (2, 1), (3, 1), (4, 1), (5, 1), (6, 1)] (zc Try.prog 23) #[(1, t33), (2, t35), (4, t37), (6, t39)] fun t40 =>
  stn 7 x3 t40 w fun w =>
  bV x4
  (fa 4 x1 fun t43 =>
  ld1 t43 w fun t44 =>
  qG Try.prog (bq .geq 3 (.tmp 44) (.const (.int .i64 1)) t44 (.int .i64 1)) w fun t45 =>
  bV t45
  (fa 6 x1 fun t48 =>
  ld1 t48 w fun t49 =>
  qG Try.prog (bq .geq 3 (.tmp 49) (.const (.int .i64 0)) t49 (.int .i64 0)) w fun t50 =>
  entry_Check_s0 R x1 x3 t50 w)
  (entry_Check_s0 R x1 x3 (.bool false) w))
  (entry_Check_s0 R x1 x3 (.bool false) w)
theorem entry_Check_s2_eq (R : Value → World → Prop) : ∀ e w, lift Try.prog 123 (sub (bodyOf Try.f17) [1, 1, 1, 0, 1, 0, 1, 1, 1, 0]) (blockK 0 (seqK (fun e w => entry_Check_s0 R (e 1) (e 3) (e 4) w) (finK Try.prog Try.f17.results.toList R))) e w = entry_Check_s2 R (e 1) (e 3) (e 4) w := fun e w => by kernel_rfl
def entry_Check_s3 (R : Value → World → Prop) (x1 x3 x4 x14 x52 : Value) (w : World) : Prop :=
  bV x52
  (fa 5 x1 fun t55 =>
  ld1 t55 w fun t56 =>
  bld [(0, 1), (1, 1), (2, 1), (3, 1), (4, 1), (5, 1), (6, 1)] (zc Try.prog 23) #[(5, t56)] fun t57 =>
  stn 7 x3 t57 w fun w =>
  fa 5 x1 fun t58 =>
  ld1 t58 w fun t59 =>
  qG Try.prog (bq .geq 3 (.tmp 59) (.const (.int .i64 1)) t59 (.int .i64 1)) w fun t60 =>
  entry_Check_s0 R x1 x3 t60 w)
  (qG Try.prog (bq .eql 3 (.tmp 14) (.const (.int .i64 5)) x14 (.int .i64 5)) w fun t62 =>
  bV t62
  (fa 6 x1 fun t63 =>
  ld1 t63 w fun t64 =>
  bld [(0, 1), (1, 1), (2, 1), (3, 1), (4, 1), (5, 1), (6, 1)] (zc Try.prog 23) #[(6, t64)] fun t65 =>
  stn 7 x3 t65 w fun w =>
  fa 6 x1 fun t66 =>
  ld1 t66 w fun t67 =>
  qG Try.prog (bq .geq 3 (.tmp 67) (.const (.int .i64 0)) t67 (.int .i64 0)) w fun t68 =>
  entry_Check_s0 R x1 x3 t68 w)
  (qG Try.prog (bq .eql 3 (.tmp 14) (.const (.int .i64 6)) x14 (.int .i64 6)) w fun t70 =>
  bV t70
  (fa 1 x1 fun t71 =>
  ld1 t71 w fun t72 =>
  fa 2 x1 fun t73 =>
  ld1 t73 w fun t74 =>
  fa 3 x1 fun t75 =>
  ld1 t75 w fun t76 =>
  fa 4 x1 fun t77 =>
  ld1 t77 w fun t78 =>
  bld [(0, 1), (1, 1), (2, 1), (3, 1), (4, 1), (5, 1), (6, 1)] (zc Try.prog 23) #[(1, t72), (2, t74), (3, t76), (4, t78)] fun t79 =>
  stn 7 x3 t79 w fun w =>
  bV x4
  (fa 3 x1 fun t82 =>
  ld1 t82 w fun t83 =>
  callG Try.prog 54 #[t83] w fun t84 w =>
  bV t84
  (fa 3 x1 fun t87 =>
  ld1 t87 w fun t88 =>
  fa 2 x1 fun t89 =>
  ld1 t89 w fun t90 =>
  qG Try.prog (bq .neq 9 (.tmp 88) (.tmp 90) t88 t90) w fun t91 =>
  bV t91
  (fa 4 x1 fun t94 =>
  ld1 t94 w fun t95 =>
  qG Try.prog (bq .geq 3 (.tmp 95) (.const (.int .i64 1)) t95 (.int .i64 1)) w fun t96 =>
  entry_Check_s0 R x1 x3 t96 w)
  (entry_Check_s0 R x1 x3 (.bool false) w))
  (entry_Check_s0 R x1 x3 (.bool false) w))
  (entry_Check_s0 R x1 x3 (.bool false) w))
  (qG Try.prog (bq .eql 3 (.tmp 14) (.const (.int .i64 7)) x14 (.int .i64 7)) w fun t99 =>
  bV t99
  (fa 1 x1 fun t100 =>
  ld1 t100 w fun t101 =>
  fa 2 x1 fun t102 =>
  ld1 t102 w fun t103 =>
  fa 4 x1 fun t104 =>
  ld1 t104 w fun t105 =>
  bld [(0, 1), (1, 1), (2, 1), (3, 1), (4, 1), (5, 1), (6, 1)] (zc Try.prog 23) #[(1, t101), (2, t103), (4, t105)] fun t106 =>
  stn 7 x3 t106 w fun w =>
  bV x4
  (fa 4 x1 fun t109 =>
  ld1 t109 w fun t110 =>
  qG Try.prog (bq .neq 3 (.tmp 110) (.const (.int .i64 0)) t110 (.int .i64 0)) w fun t111 =>
  entry_Check_s0 R x1 x3 t111 w)
  (entry_Check_s0 R x1 x3 (.bool false) w))
  (entry_Check_s0 R x1 x3 (.bool false) w))))
theorem entry_Check_s3_eq (R : Value → World → Prop) : ∀ e w, lift Try.prog 123 (sub (bodyOf Try.f17) [1, 1, 1, 0, 1, 0, 1, 1, 1, 1, 1]) (blockK 0 (seqK (fun e w => entry_Check_s0 R (e 1) (e 3) (e 4) w) (finK Try.prog Try.f17.results.toList R))) e w = entry_Check_s3 R (e 1) (e 3) (e 4) (e 14) (e 52) w := fun e w => by kernel_rfl
def entry_Check_s4 (R : Value → World → Prop) (x1 x3 x4 x14 : Value) (w : World) : Prop :=
  qG Try.prog (bq .eql 3 (.tmp 14) (.const (.int .i64 3)) x14 (.int .i64 3)) w fun t53 =>
  bV t53
  (entry_Check_s3 R x1 x3 x4 x14 (.bool true) w)
  (qG Try.prog (bq .eql 3 (.tmp 14) (.const (.int .i64 4)) x14 (.int .i64 4)) w fun t54 =>
  entry_Check_s3 R x1 x3 x4 x14 t54 w)
theorem entry_Check_s4_eq (R : Value → World → Prop) : ∀ e w, lift Try.prog 123 (sub (bodyOf Try.f17) [1, 1, 1, 0, 1, 0, 1, 1, 1, 1]) (blockK 0 (seqK (fun e w => entry_Check_s0 R (e 1) (e 3) (e 4) w) (finK Try.prog Try.f17.results.toList R))) e w = entry_Check_s4 R (e 1) (e 3) (e 4) (e 14) w :=
  segs_eq (l := [(sub (bodyOf Try.f17) [1, 1, 1, 0, 1, 0, 1, 1, 1, 1, 0])]) (y := (sub (bodyOf Try.f17) [1, 1, 1, 0, 1, 0, 1, 1, 1, 1, 1])) (Y := (fun e w => entry_Check_s3 R (e 1) (e 3) (e 4) (e 14) (e 52) w)) (entry_Check_s3_eq R) (fun e w => by kernel_rfl)
def entry_Check_s5 (R : Value → World → Prop) (x1 x3 x4 x14 x30 : Value) (w : World) : Prop :=
  bV x30 (entry_Check_s2 R x1 x3 x4 w) (entry_Check_s4 R x1 x3 x4 x14 w)
theorem entry_Check_s5_eq (R : Value → World → Prop) : ∀ e w, lift Try.prog 123 (sub (bodyOf Try.f17) [1, 1, 1, 0, 1, 0, 1, 1, 1]) (blockK 0 (seqK (fun e w => entry_Check_s0 R (e 1) (e 3) (e 4) w) (finK Try.prog Try.f17.results.toList R))) e w = entry_Check_s5 R (e 1) (e 3) (e 4) (e 14) (e 30) w := fun e w => (cond_seg (entry_Check_s2_eq R) (entry_Check_s4_eq R) e w).trans (by kernel_rfl)
def entry_Check_s6 (R : Value → World → Prop) (x1 x3 x4 x14 : Value) (w : World) : Prop :=
  qG Try.prog (bq .eql 3 (.tmp 14) (.const (.int .i64 2)) x14 (.int .i64 2)) w fun t31 =>
  entry_Check_s5 R x1 x3 x4 x14 t31 w
theorem entry_Check_s6_eq (R : Value → World → Prop) : ∀ e w, lift Try.prog 123 (sub (bodyOf Try.f17) [1, 1, 1, 0, 1, 0, 1, 1]) (blockK 0 (seqK (fun e w => entry_Check_s0 R (e 1) (e 3) (e 4) w) (finK Try.prog Try.f17.results.toList R))) e w = entry_Check_s6 R (e 1) (e 3) (e 4) (e 14) w :=
  segs_eq (l := [(sub (bodyOf Try.f17) [1, 1, 1, 0, 1, 0, 1, 1, 0])]) (y := (sub (bodyOf Try.f17) [1, 1, 1, 0, 1, 0, 1, 1, 1])) (Y := (fun e w => entry_Check_s5 R (e 1) (e 3) (e 4) (e 14) (e 30) w)) (entry_Check_s5_eq R) (fun e w => by kernel_rfl)
def entry_Check_s7 (R : Value → World → Prop) (x1 x3 x4 x14 x15 : Value) (w : World) : Prop :=
  bV x15 (entry_Check_s1 R x1 x3 x4 w) (entry_Check_s6 R x1 x3 x4 x14 w)
theorem entry_Check_s7_eq (R : Value → World → Prop) : ∀ e w, lift Try.prog 123 (sub (bodyOf Try.f17) [1, 1, 1, 0, 1, 0, 1]) (blockK 0 (seqK (fun e w => entry_Check_s0 R (e 1) (e 3) (e 4) w) (finK Try.prog Try.f17.results.toList R))) e w = entry_Check_s7 R (e 1) (e 3) (e 4) (e 14) (e 15) w := fun e w => (cond_seg (entry_Check_s1_eq R) (entry_Check_s6_eq R) e w).trans (by kernel_rfl)
def entry_Check_s8 (R : Value → World → Prop) (x1 x3 x4 x14 : Value) (w : World) : Prop :=
  qG Try.prog (bq .eql 3 (.tmp 14) (.const (.int .i64 1)) x14 (.int .i64 1)) w fun t16 =>
  entry_Check_s7 R x1 x3 x4 x14 t16 w
theorem entry_Check_s8_eq (R : Value → World → Prop) : ∀ e w, lift Try.prog 123 (sub (bodyOf Try.f17) [1, 1, 1, 0, 1, 0]) (blockK 0 (seqK (fun e w => entry_Check_s0 R (e 1) (e 3) (e 4) w) (finK Try.prog Try.f17.results.toList R))) e w = entry_Check_s8 R (e 1) (e 3) (e 4) (e 14) w :=
  segs_eq (l := [(sub (bodyOf Try.f17) [1, 1, 1, 0, 1, 0, 0])]) (y := (sub (bodyOf Try.f17) [1, 1, 1, 0, 1, 0, 1])) (Y := (fun e w => entry_Check_s7 R (e 1) (e 3) (e 4) (e 14) (e 15) w)) (entry_Check_s7_eq R) (fun e w => by kernel_rfl)
def entry_Check_s9 (R : Value → World → Prop) (x1 x3 x4 : Value) (w : World) : Prop :=
  fa 0 x1 fun t13 =>
  ld1 t13 w fun t14 =>
  entry_Check_s8 R x1 x3 x4 t14 w
theorem entry_Check_s9_eq (R : Value → World → Prop) : ∀ e w, lift Try.prog 123 (sub (bodyOf Try.f17) [1, 1, 1, 0]) (seqK (fun e w => entry_Check_s0 R (e 1) (e 3) (e 4) w) (finK Try.prog Try.f17.results.toList R)) e w = entry_Check_s9 R (e 1) (e 3) (e 4) w :=
  segs_eq (l := [(sub (bodyOf Try.f17) [1, 1, 1, 0, 0])]) (y := (sub (bodyOf Try.f17) [1, 1, 1, 0, 1])) (Y := (fun e w => entry_Check_s8 R (e 1) (e 3) (e 4) (e 14) w)) (entry_Check_s8_eq R) (fun e w => by kernel_rfl)
def entry_Check_s10 (R : Value → World → Prop) (x0 : Value) (w : World) : Prop :=
  newG (Value.cells x0) 23 w fun t1 w =>
  newG (zc Try.prog 23) 23 w fun t3 w =>
  fa 1 t1 fun t5 =>
  ld1 t5 w fun t6 =>
  callG Try.prog 54 #[t6] w fun t7 w =>
  bV t7
  (fa 2 t1 fun t9 =>
  ld1 t9 w fun t10 =>
  callG Try.prog 54 #[t10] w fun t11 w =>
  entry_Check_s9 R t1 t3 t11 w)
  (entry_Check_s9 R t1 t3 (.bool false) w)
theorem entry_Check_s10_eq (R : Value → World → Prop) : ∀ e w, lift Try.prog 123 (bodyOf Try.f17) (finK Try.prog Try.f17.results.toList R) e w = entry_Check_s10 R (e 0) w :=
  segs_eq (l := [(sub (bodyOf Try.f17) [0]), (sub (bodyOf Try.f17) [1, 0]), (sub (bodyOf Try.f17) [1, 1, 0])]) (y := (sub (bodyOf Try.f17) [1, 1, 1])) (Y := (fun e w => entry_Check_s9 R (e 1) (e 3) (e 4) w)) (seq_seg (x := (sub (bodyOf Try.f17) [1, 1, 1, 0])) (y := (sub (bodyOf Try.f17) [1, 1, 1, 1])) (entry_Check_s0_eq R) (entry_Check_s9_eq R)) (fun e w => by kernel_rfl)
def entry_Check (R : Value → World → Prop) (x0 : Value) (w : World) : Prop := entry_Check_s10 R x0 w
theorem entry_Check_call {R : Value → World → Prop} {x0 : Value} {w : World} (h : entry_Check R x0 w) : callG Try.prog 17 #[x0] w R :=
  calls_lift_eq Try.mixed Try.func17 (args := [x0]) rfl rfl rfl rfl ((entry_Check_s10_eq R) (envOf [x0]) w) (by kernel_rfl) h
/-! quayside/quaysideref06.May -/
/-! quayside/quaysideref06.Check -/
/-! quayside/entry.num -/
/-! quayside/entry.text -/
/-! quayside/entry.some -/
/-! quayside/entry.row -/
/-! quayside/quaysideref06.num -/
/-! quayside/quaysideref06.text -/
/-! quayside/quaysideref06.some -/
/-! quayside/entry.is -/
/-! quayside/quaysideref06.kinds -/
/-! quayside/entry.Put -/
/-! quayside/quaysideref06.Put -/
/-! quayside/entry.Take -/
/-! quayside/quaysideref06.Take -/
end Go.Proofs

/- Plain: operations. -/
set_option linter.unusedVariables false
set_option linter.unusedSimpArgs false
namespace Go.Q
structure OpV where
  k : Int
  sku : List UInt8
  loc : List UInt8
  to : List UInt8
  q : Int
  id : Int
  due : Int
  deriving DecidableEq
def opC (o : OpV) : List Value := [.int .i64 o.k, .string (str o.sku), .string (str o.loc), .string (str o.to), .int .i64 o.q, .int .i64 o.id, .int .i64 o.due]
def nameOk (s : List UInt8) : Bool := decide (1 ≤ s.length ∧ s.length ≤ 64)
def OpV.ok (o : OpV) : Bool :=
  let names := nameOk o.sku && nameOk o.loc
  let none := decide (o.sku = [] ∧ o.loc = [])
  if o.k = 1 then names && decide (o.to = [] ∧ 1 ≤ o.q ∧ o.id = 0 ∧ o.due = 0)
  else if o.k = 2 then names && decide (o.to = [] ∧ 1 ≤ o.q ∧ o.id = 0 ∧ 0 ≤ o.due)
  else if o.k = 3 ∨ o.k = 4 then none && decide (o.to = [] ∧ o.q = 0 ∧ 1 ≤ o.id ∧ o.due = 0)
  else if o.k = 5 then none && decide (o.to = [] ∧ o.q = 0 ∧ o.id = 0 ∧ 0 ≤ o.due)
  else if o.k = 6 then names && nameOk o.to && decide (o.to ≠ o.loc ∧ 1 ≤ o.q ∧ o.id = 0 ∧ o.due = 0)
  else if o.k = 7 then names && decide (o.to = [] ∧ o.q ≠ 0 ∧ o.id = 0 ∧ o.due = 0)
  else false
/-- as the program asks it: what an operation may have besides is nought -/
def OpV.rest (o : OpV) : OpV :=
  if o.k = 1 ∨ o.k = 7 then ⟨o.k, o.sku, o.loc, [], o.q, 0, 0⟩
  else if o.k = 2 then ⟨o.k, o.sku, o.loc, [], o.q, 0, o.due⟩
  else if o.k = 3 ∨ o.k = 4 then ⟨o.k, [], [], [], 0, o.id, 0⟩
  else if o.k = 5 then ⟨o.k, [], [], [], 0, 0, o.due⟩
  else if o.k = 6 then ⟨o.k, o.sku, o.loc, o.to, o.q, 0, 0⟩
  else ⟨o.k, [], [], [], 0, 0, 0⟩
def OpV.may (o : OpV) (nm : Bool) : Bool :=
  if o.k = 1 then nm && decide (1 ≤ o.q)
  else if o.k = 2 then nm && decide (1 ≤ o.q ∧ 0 ≤ o.due)
  else if o.k = 3 ∨ o.k = 4 then decide (1 ≤ o.id)
  else if o.k = 5 then decide (0 ≤ o.due)
  else if o.k = 6 then nm && nameOk o.to && decide (o.to ≠ o.loc ∧ 1 ≤ o.q)
  else if o.k = 7 then nm && decide (o.q ≠ 0)
  else false
theorem OpV.ok_eq (o : OpV) : (o.may (nameOk o.sku && nameOk o.loc) && decide (o.rest = o)) = o.ok := by
  obtain ⟨k, sku, loc, to, q, id, due⟩ := o
  unfold OpV.may OpV.rest OpV.ok
  simp only
  generalize nameOk sku = a
  generalize nameOk loc = b
  generalize nameOk to = c
  have sym : ∀ {α : Type} (x y : α), (x = y) = (y = x) := fun x y => propext ⟨Eq.symm, Eq.symm⟩
  rw [Bool.eq_iff_iff]
  by_cases h1 : k = 1
  · simp [h1, sym [] to, sym 0 id, sym 0 due]; grind
  by_cases h2 : k = 2
  · simp [h2, sym [] to, sym 0 id]; grind
  by_cases h3 : k = 3 ∨ k = 4
  · have h7 : ¬ k = 7 := by omega
    simp [h1, h2, h3, h7]; grind
  by_cases h5 : k = 5
  · simp [h5]; grind
  by_cases h6 : k = 6
  · simp [h6]; grind
  by_cases h7 : k = 7
  · simp [h7]; grind
  · simp [h1, h2, h3, h5, h6, h7]
end Go.Q

/- Plain: kinds of a row; literals of several rows. -/
set_option linter.unusedVariables false
set_option linter.unusedSimpArgs false
namespace Go.Q
def intV (k : Int) : List Value := [.int .i64 k]
/-! ### literals of several rows -/
def partsFrom : Nat → List Value → List (Nat × Value)
  | _, [] => []
  | i, x :: r => (i, x) :: partsFrom (i + 1) r
theorem fill_rows {n : Nat} (hn : 0 < n) : ∀ (xs : List Value) (rows : List (List Value)) (i : Nat) (c : Array Value), xs.map Value.cells = rows.map List.toArray → (∀ y ∈ rows, y.length = n) → c.size = (i + xs.length) * n →
    Instr.fill (fun i => some (i * n, n)) c (partsFrom i xs) = some (c.toList.take (i * n) ++ rows.flatten).toArray := by
  intro xs
  induction xs with
  | nil =>
    intro rows i c h1 h2 h3
    have : rows = [] := by simpa using h1.symm
    subst this
    simp only [List.length_nil, Nat.add_zero] at h3
    have : c.toList.take (i * n) = c.toList := List.take_of_length_le (by simp [h3])
    simp [partsFrom, Instr.fill, this]
  | cons x xs ih =>
    intro rows i c h1 h2 h3
    cases rows with
    | nil => simp at h1
    | cons y rows =>
      simp only [List.map_cons, List.cons.injEq] at h1
      have hy := h2 y (by simp)
      simp only [List.length_cons] at h3
      have e1 : (i + (xs.length + 1)) * n = i * n + n + xs.length * n := by rw [Nat.add_mul, Nat.add_mul]; omega
      rw [e1] at h3
      unfold partsFrom
      rw [fill_step (off := i * n) (size := n) rfl (by rw [h1.1]; simpa using hy) (by omega), h1.1]
      have hsz : (splice c (i * n) y.toArray).size = (i + 1 + xs.length) * n := by
        rw [splice_size (by simp [hy]; omega), h3, Nat.add_mul, Nat.add_mul]; omega
      rw [ih rows (i + 1) _ h1.2 (fun z hz => h2 z (by simp [hz])) hsz]
      congr 2
      have e2 : (splice c (i * n) y.toArray).toList.take ((i + 1) * n) = c.toList.take (i * n) ++ y := by
        unfold splice
        have hl : (c.toList.take (i * n)).length = i * n := by rw [List.length_take]; simp; omega
        exact List.take_left' (by rw [List.length_append, hl, Nat.add_mul]; simp [hy])
      rw [e2]
      simp
/-- a literal of rows is a slice of the call's own -/
theorem bsl_rows {e n len : Nat} {z : Array Value} {xs : List Value} {rows : List (List Value)} (hn : 0 < n) (hl : xs.length = len) (hc : xs.map Value.cells = rows.map List.toArray) (hr : ∀ y ∈ rows, y.length = n) (hpos : 0 < len) {w : World} {K : Value → World → Prop}
    (hK : ∀ v' w', Fr w w' v' n rows → K v' w') : bsl e n len z (partsFrom 0 xs).toArray w K := by
  have hlen : rows.length = len := by have := congrArg List.length hc; simp at this; omega
  have hf := fill_rows hn xs rows 0 (rep z (len * n)) hc hr (by rw [rep_size, hl, Nat.zero_add])
  simp only [Nat.zero_mul, List.take_zero, List.nil_append] at hf
  unfold bsl
  have hf' : Instr.fill (fun i => some (i * n, n)) (rep z (len * n)) (partsFrom 0 xs).toArray.toList = some rows.flatten.toArray := hf
  rw [hf']
  refine hK _ _ ⟨⟨[w.heap.size], .inr ⟨w.heap.size, rows, e, by rw [hlen], rfl, heap_new, hr, List.take_length, Nat.le_refl _⟩, by simp⟩, kp_alloc⟩
end Go.Q

/- Layer 6: operations, and what a row must be: what each function does. -/
set_option linter.unusedVariables false
set_option linter.unusedSimpArgs false
namespace Go.Proofs
open Go Go.Q
theorem zcOp : zc Try.prog 23 = [.int .i64 0, .string ⟨#[]⟩, .string ⟨#[]⟩, .string ⟨#[]⟩, .int .i64 0, .int .i64 0, .int .i64 0].toArray := by kernel_rfl
theorem eqOp {k q i d k' q' i' d' : Int} {s l t s' l' t' : ByteArray} : aggEq Try.prog 23 [.int .i64 k, .string s, .string l, .string t, .int .i64 q, .int .i64 i, .int .i64 d] [.int .i64 k', .string s', .string l', .string t', .int .i64 q', .int .i64 i', .int .i64 d'] = true := by kernel_rfl
def opA (o : OpV) : Value := .agg #[.int .i64 o.k, .string (str o.sku), .string (str o.loc), .string (str o.to), .int .i64 o.q, .int .i64 o.id, .int .i64 o.due]
theorem name_spec {w : World} (s : List UInt8) {K : Value → World → Prop} (hK : K (.bool (nameOk s)) w) : callG Try.prog 54 #[.string (str s)] w K := by
  refine entry_name_call ?_
  unfold nameOk at hK
  have e1 : ((1 : Int) ≤ (s.length : Int)) = (1 ≤ s.length) := by apply propext; omega
  by_cases h : 1 ≤ s.length
  · simpa [entry_name, entry_name_s0, e1, le64, h] using hK
  · simpa [entry_name, entry_name_s0, e1, le64, h] using hK
section
variable {w0 : World} {a b : Nat} {K : Value → World → Prop}
theorem check_s0 {w : World} {o r : OpV} (ha : w.heap[a]? = some (.cells #[.int .i64 o.k, .string (str o.sku), .string (str o.loc), .string (str o.to), .int .i64 o.q, .int .i64 o.id, .int .i64 o.due] 23))
    (hb : w.heap[b]? = some (.cells #[.int .i64 r.k, .string (str r.sku), .string (str r.loc), .string (str r.to), .int .i64 r.q, .int .i64 r.id, .int .i64 r.due] 23)) (hab : ¬ b = a) (hb0 : w0.heap.size ≤ b) (hk : Kp [] w0 w) (ok : Bool)
    (hK : ∀ w', Kp [] w0 w' → K (.int .i64 (if (ok && decide ({ r with k := o.k } = o)) = true then 0 else 1)) w') : entry_Check_s0 K (.pointer (some ⟨a, 0, none⟩)) (.pointer (some ⟨b, 0, none⟩)) (.bool ok) w := by
  unfold entry_Check_s0
  have lb := live_of hb
  have hkb : ∀ ob, Kp [] w0 (setBlk w b ob) := fun ob => hk.setBlk (.inr hb0) _
  have h := hK _ (hkb (.cells #[.int .i64 o.k, .string (str r.sku), .string (str r.loc), .string (str r.to), .int .i64 r.q, .int .i64 r.id, .int .i64 r.due] 23))
  obtain ⟨k, sku, loc, to, q, id, due⟩ := o
  obtain ⟨k', sku', loc', to', q', id', due'⟩ := r
  simp [-getElem?_pos, -Array.all_eq_true, -Array.getElem?_eq_getElem, -List.length_flatten, List.getElem?_cons_zero, List.getElem?_cons_succ, ha, hb, lb, heap_self lb, heap_ne hab, eqOp]
  simp only [OpV.mk.injEq, true_and] at h
  generalize setBlk w b _ = W at h ⊢
  by_cases c : sku' = sku ∧ loc' = loc ∧ to' = to ∧ q' = q ∧ id' = id ∧ due' = due
  · cases ok <;> simp_all
  · cases ok <;> simp_all
    grind
theorem check_s9 {w : World} {o : OpV} (ha : w.heap[a]? = some (.cells #[.int .i64 o.k, .string (str o.sku), .string (str o.loc), .string (str o.to), .int .i64 o.q, .int .i64 o.id, .int .i64 o.due] 23))
    (hb : w.heap[b]? = some (.cells #[.int .i64 0, .string (str []), .string (str []), .string (str []), .int .i64 0, .int .i64 0, .int .i64 0] 23)) (hab : ¬ b = a) (hb0 : w0.heap.size ≤ b) (hk : Kp [] w0 w) (nm : Bool)
    (hK : ∀ w', Kp [] w0 w' → K (.int .i64 (if (o.may nm && decide (o.rest = o)) = true then 0 else 1)) w') : entry_Check_s9 K (.pointer (some ⟨a, 0, none⟩)) (.pointer (some ⟨b, 0, none⟩)) (.bool nm) w := by
  have lb := live_of hb
  have hkb : ∀ ob, Kp [] w0 (setBlk w b ob) := fun ob => hk.setBlk (.inr hb0) _
  have hfin : ∀ (W : World) (r : OpV) (ok : Bool), W.heap[a]? = some (.cells #[.int .i64 o.k, .string (str o.sku), .string (str o.loc), .string (str o.to), .int .i64 o.q, .int .i64 o.id, .int .i64 o.due] 23) →
      W.heap[b]? = some (.cells #[.int .i64 r.k, .string (str r.sku), .string (str r.loc), .string (str r.to), .int .i64 r.q, .int .i64 r.id, .int .i64 r.due] 23) → Kp [] w0 W → { r with k := o.k } = o.rest → ok = o.may nm →
      entry_Check_s0 K (.pointer (some ⟨a, 0, none⟩)) (.pointer (some ⟨b, 0, none⟩)) (.bool ok) W := by
    intro W r ok h1 h2 h3 h4 h5
    refine check_s0 h1 h2 hab hb0 h3 ok fun w' hk' => ?_
    rw [h4, h5]
    exact hK w' hk'
  have hset : ∀ r : OpV, (setBlk w b (.cells #[.int .i64 r.k, .string (str r.sku), .string (str r.loc), .string (str r.to), .int .i64 r.q, .int .i64 r.id, .int .i64 r.due] 23)).heap[a]? = some (.cells #[.int .i64 o.k, .string (str o.sku), .string (str o.loc), .string (str o.to), .int .i64 o.q, .int .i64 o.id, .int .i64 o.due] 23) :=
    fun r => by rw [heap_ne hab]; exact ha
  have fin2 : ∀ (r : OpV) (ok : Bool), { r with k := o.k } = o.rest → ok = o.may nm → entry_Check_s0 K (.pointer (some ⟨a, 0, none⟩)) (.pointer (some ⟨b, 0, none⟩)) (.bool ok)
      (setBlk w b (.cells #[.int .i64 r.k, .string (str r.sku), .string (str r.loc), .string (str r.to), .int .i64 r.q, .int .i64 r.id, .int .i64 r.due] 23)) := fun r ok h1 h2 => hfin _ r ok (hset r) (heap_self lb) (hkb _) h1 h2
  clear hK
  obtain ⟨k, sku, loc, to, q, id, due⟩ := o
  unfold entry_Check_s9 entry_Check_s8 entry_Check_s7 entry_Check_s6 entry_Check_s5 entry_Check_s4 entry_Check_s3 entry_Check_s1 entry_Check_s2
  simp [-getElem?_pos, -Array.all_eq_true, -Array.getElem?_eq_getElem, -List.length_flatten, List.getElem?_cons_zero, List.getElem?_cons_succ, ha, hb, lb, heap_self lb, heap_ne hab, zcOp, str_nil, bld_done, bld_if, offAt, putAt]
  refine ⟨fun h1 => ?_, fun h1 => ⟨fun h2 => ?_, fun h2 => ?_⟩⟩
  · subst h1
    refine ⟨fun hn => fin2 ⟨0, sku, loc, [], q, 0, 0⟩ _ rfl (by simp [OpV.may, hn]), fun hn => fin2 ⟨0, sku, loc, [], q, 0, 0⟩ _ rfl (by simp [OpV.may, hn])⟩
  · subst h2
    refine ⟨fun hn => ⟨fun hq => fin2 ⟨0, sku, loc, [], q, 0, due⟩ _ rfl (by simp [OpV.may, hn, hq]), fun hq => fin2 ⟨0, sku, loc, [], q, 0, due⟩ _ rfl (by simp [OpV.may, hn]; omega)⟩, fun hn => fin2 ⟨0, sku, loc, [], q, 0, due⟩ _ rfl (by simp [OpV.may, hn])⟩
  · refine ⟨fun h3 => ?_, fun h3 => ⟨fun h4 => ?_, fun h4 => ⟨fun h5 => ?_, fun h5 => ⟨fun h6 => ?_, fun h6 => ⟨fun h7 => ?_, fun h7 => ?_⟩⟩⟩⟩⟩
    · subst h3
      exact fin2 ⟨0, [], [], [], 0, id, 0⟩ _ rfl rfl
    · subst h4
      exact fin2 ⟨0, [], [], [], 0, id, 0⟩ _ rfl rfl
    · subst h5
      exact fin2 ⟨0, [], [], [], 0, 0, due⟩ _ rfl rfl
    · subst h6
      refine ⟨fun hn => name_spec to ?_, fun hn => fin2 ⟨0, sku, loc, to, q, 0, 0⟩ _ rfl (by simp [OpV.may, hn])⟩
      have hs := hset ⟨0, sku, loc, to, q, 0, 0⟩
      simp only at hs
      simp [-getElem?_pos, -Array.all_eq_true, -Array.getElem?_eq_getElem, -List.length_flatten, List.getElem?_cons_zero, List.getElem?_cons_succ, hs]
      refine ⟨fun ht => ⟨fun hne => fin2 ⟨0, sku, loc, to, q, 0, 0⟩ _ rfl (by simp [OpV.may, hn, ht, hne]), fun he => fin2 ⟨0, sku, loc, to, q, 0, 0⟩ _ rfl (by simp [OpV.may, hn, ht, he])⟩, fun ht => fin2 ⟨0, sku, loc, to, q, 0, 0⟩ _ rfl (by simp [OpV.may, hn, ht])⟩
    · subst h7
      refine ⟨fun hn => fin2 ⟨0, sku, loc, [], q, 0, 0⟩ _ rfl (by simp [OpV.may, hn]), fun hn => fin2 ⟨0, sku, loc, [], q, 0, 0⟩ _ rfl (by simp [OpV.may, hn])⟩
    · have := hfin w ⟨0, [], [], [], 0, 0, 0⟩ false ha hb hk (by simp [OpV.rest, h1, h2, h3, h4, h5, h6, h7]) (by simp [OpV.may, h1, h2, h3, h4, h5, h6, h7])
      exact this
end
theorem CheckOp_spec {w : World} (o : OpV) {K : Value → World → Prop} (hK : ∀ w', Kp [] w w' → K (.int .i64 (if o.ok = true then 0 else 1)) w') : callG Try.prog 17 #[opA o] w K := by
  refine entry_Check_call ?_
  unfold opA
  simp only [entry_Check, entry_Check_s10, newG_k, cells_agg, zcOp, str_nil]
  obtain ⟨w1, hw1⟩ := ex_w (w' := w.alloc (.cells #[.int .i64 o.k, .string (str o.sku), .string (str o.loc), .string (str o.to), .int .i64 o.q, .int .i64 o.id, .int .i64 o.due] 23))
  have hk1 : Kp [] w w1 := by rw [hw1]; exact kp_alloc
  have ha1 : w1.heap[w.heap.size]? = some (.cells #[.int .i64 o.k, .string (str o.sku), .string (str o.loc), .string (str o.to), .int .i64 o.q, .int .i64 o.id, .int .i64 o.due] 23) := by rw [hw1]; exact heap_new
  have hs1 : w1.heap.size = w.heap.size + 1 := by rw [hw1]; simp
  rw [← hw1]
  obtain ⟨w2, hw2⟩ := ex_w (w' := w1.alloc (.cells #[.int .i64 0, .string (str []), .string (str []), .string (str []), .int .i64 0, .int .i64 0, .int .i64 0] 23))
  have hk2 : Kp [] w1 w2 := by rw [hw2]; exact kp_alloc
  have hb2 : w2.heap[w1.heap.size]? = some (.cells #[.int .i64 0, .string (str []), .string (str []), .string (str []), .int .i64 0, .int .i64 0, .int .i64 0] 23) := by rw [hw2]; exact heap_new
  have ha2 := hk2.get ha1 (by simp)
  rw [← hw2]
  simp [-getElem?_pos, -Array.all_eq_true, -Array.getElem?_eq_getElem, -List.length_flatten, List.getElem?_cons_zero, List.getElem?_cons_succ, ha2]
  refine name_spec o.sku ?_
  have fin : ∀ nm, nm = (nameOk o.sku && nameOk o.loc) → entry_Check_s9 K (.pointer (some ⟨w.heap.size, 0, none⟩)) (.pointer (some ⟨w1.heap.size, 0, none⟩)) (.bool nm) w2 := by
    intro nm hnm
    refine check_s9 (w0 := w) ha2 hb2 (by omega) (by omega) (hk1.trans' hk2) nm fun w' hk' => ?_
    rw [hnm, OpV.ok_eq]
    exact hK w' hk'
  simp [-getElem?_pos, -Array.all_eq_true, -Array.getElem?_eq_getElem, -List.length_flatten, List.getElem?_cons_zero, List.getElem?_cons_succ, ha2]
  refine ⟨fun h => name_spec o.loc (fin _ (by rw [h]; rfl)), fun h => fin _ (by rw [h]; rfl)⟩
end Go.Proofs

/- Plain: operations as rows, and back. -/
set_option linter.unusedVariables false
set_option linter.unusedSimpArgs false
namespace Go.Q
def numV (n : Int) : V3 := ⟨1, n, []⟩
def textV (s : List UInt8) : V3 := ⟨2, 0, s⟩
structure OpV.Wf (o : OpV) : Prop where
  k0 : -9223372036854775808 ≤ o.k
  k1 : o.k < 9223372036854775808
  q0 : -9223372036854775808 ≤ o.q
  q1 : o.q < 9223372036854775808
  i0 : -9223372036854775808 ≤ o.id
  i1 : o.id < 9223372036854775808
  d0 : -9223372036854775808 ≤ o.due
  d1 : o.due < 9223372036854775808
theorem list7 {α : Type} {r : List α} (h : r.length = 7) : ∃ a b c d e f g, r = [a, b, c, d, e, f, g] := by
  match r, h with
  | [a, b, c, d, e, f, g], _ => exact ⟨a, b, c, d, e, f, g, rfl⟩
end Go.Q

/- Layer 6: operations as bytes, and back: what each function does. -/
set_option linter.unusedVariables false
set_option linter.unusedSimpArgs false
namespace Go.Proofs
open Go Go.Q
end Go.Proofs

/- Layer 6: operations as bytes, and back: what each function does; the document's too. -/
set_option linter.unusedVariables false
set_option linter.unusedSimpArgs false
namespace Go.Proofs
open Go Go.Q
def kc (c : UInt8) : Int := if c = 109 then 0 else if c = 116 then 2 else 1
end Go.Proofs

/- Layer 6: operations taken from bytes. -/
set_option linter.unusedVariables false
set_option linter.unusedSimpArgs false
namespace Go.Proofs
open Go Go.Q
section
variable {w0 : World} {a : Nat} {K : Value → World → Prop}
end
end Go.Proofs

set_option linter.unusedVariables false
set_option linter.unusedSimpArgs false
namespace Go.Proofs
open Go Go.Q
set_option maxRecDepth 100000
/-! quayside/entry.state -/
/-! quayside/entry.kind -/
/-! quayside/entry.of -/
/-! quayside/quaysideref06.state -/
/-! quayside/quaysideref06.kind -/
/-! quayside/entry.StockRow -/
/-! quayside/entry.HoldRow -/
/-! quayside/entry.MoveRow -/
/-! quayside/entry.RowStock -/
/-! quayside/entry.RowHold -/
/-! quayside/entry.RowMove -/
/-! quayside/quaysideref06.StockRow -/
/-! quayside/quaysideref06.HoldRow -/
/-! quayside/quaysideref06.MoveRow -/
/-! quayside/quaysideref06.RowStock -/
/-! quayside/quaysideref06.RowHold -/
/-! quayside/quaysideref06.RowMove -/
end Go.Proofs

/- Plain: holds, movements and stocks as rows, and back. -/
set_option linter.unusedVariables false
set_option linter.unusedSimpArgs false
namespace Go.Q
structure HV where
  id : Int
  sku : List UInt8
  loc : List UInt8
  q : Int
  st : Int
  due : Int
  deriving DecidableEq
structure SV where
  sku : List UInt8
  loc : List UInt8
  hand : Int
  held : Int
  deriving DecidableEq
def hZ : HV := ⟨0, [], [], 0, 0, 0⟩
def v0 : V3 := ⟨0, 0, []⟩
def rowS (s : SV) : List V3 := [textV s.sku, textV s.loc, numV s.hand, numV s.held]
end Go.Q

/- Layer 6: holds, movements and stocks as rows, and back: what each function does. -/
set_option linter.unusedVariables false
set_option linter.unusedSimpArgs false
namespace Go.Proofs
open Go Go.Q
def hA (h : HV) : Value := .agg #[.int .i64 h.id, .string (str h.sku), .string (str h.loc), .int .i64 h.q, .int .i64 h.st, .int .i64 h.due]
def sA (s : SV) : Value := .agg #[.string (str s.sku), .string (str s.loc), .int .i64 s.hand, .int .i64 s.held]
theorem zcStock : zc Try.prog 44 = [.string ⟨#[]⟩, .string ⟨#[]⟩, .int .i64 0, .int .i64 0].toArray := by kernel_rfl
theorem aggStockT : aggO Try.prog 44 = some true := by kernel_rfl
theorem szStockT : szO Try.prog 44 = some 4 := by kernel_rfl
theorem lvStock {b : Nat} {w : World} {c : Array Value} {T : TypeId} {fr : Nat × Nat} (hb : Live w b) (hs : c.size = 4) {K : Value → Prop} :
    qG Try.prog (do loadVar 44 (← asAddr (.pointer (some ⟨b, 0, none⟩)))) (setBlk w b (.cells c T fr)) K = K (.agg c) := loadVar_of aggStockT szStockT (heap_self hb) hs
end Go.Proofs

/- Layer 6: holds and movements of rows: what each function does. -/
set_option linter.unusedVariables false
set_option linter.unusedSimpArgs false
namespace Go.Proofs
open Go Go.Q
section
variable {w0 : World} {a : Nat} {K : Value → World → Prop}
end
section
variable {w0 : World} {a : Nat} {K : Value → World → Prop}
end
end Go.Proofs

/- What the statement's own reading says of the arguments that came in. -/
set_option linter.unusedVariables false
set_option linter.unusedSimpArgs false
namespace Go.Proofs
open Go Go.Q
/-- an argument that the statement's own reading took -/
def Taken (w : World) (t : TypeId) (v : Value) : Prop :=
  ∃ (H : Type) (enc : TypeId × Value → H) (fuel : Nat) (x : DataW H × List MemPlace), DataW.trod enc Try.prog w 0 (fun _ => true) true fuel t v.cells.toList = some x
section
variable {H : Type} {enc : TypeId × Value → H} {w : World} {fuel n : Nat} {cs : List Value} {x : DataW H × List MemPlace}
theorem str_all (s : ByteArray) : s = str s.data.toList := by cases s; simp [str]
theorem one_cell {i : Nat} (hi : i < cs.length) : (cs.drop i).take 1 = [cs[i]] := by rw [List.drop_eq_getElem_cons hi]; rfl
theorem fld_int {i : Nat} {q : Option (DataW H × List MemPlace)} (h : DataW.trod enc Try.prog w 0 (fun _ => true) true n 3 ((cs.drop i).take (Try.prog.cellsOf 3)) = q) (hq : q.isSome = true) (hi : i < cs.length) : ∃ z : Int, cs[i] = .int .i64 z ∧ -9223372036854775808 ≤ z ∧ z < 9223372036854775808 := by
  obtain ⟨y, rfl⟩ := Option.isSome_iff_exists.1 hq
  rw [show Try.prog.cellsOf 3 = 1 by kernel_rfl, one_cell hi] at h
  obtain ⟨z, e, _, hw⟩ := DataW.trod_int Try.underlying3 h
  injection e with e _
  exact ⟨z, e, wf64 hw⟩
theorem fld_str {i : Nat} {q : Option (DataW H × List MemPlace)} (h : DataW.trod enc Try.prog w 0 (fun _ => true) true n 9 ((cs.drop i).take (Try.prog.cellsOf 9)) = q) (hq : q.isSome = true) (hi : i < cs.length) : ∃ s : List UInt8, cs[i] = .string (str s) ∧ s.length ≤ maxLen := by
  obtain ⟨y, rfl⟩ := Option.isSome_iff_exists.1 hq
  rw [show Try.prog.cellsOf 9 = 1 by kernel_rfl, one_cell hi] at h
  obtain ⟨s, e, _, hw⟩ := DataW.trod_string Try.underlying9 h
  injection e with e _
  exact ⟨s.data.toList, by rw [e]; exact congrArg Value.string (str_all s), hw⟩
theorem op_in (h : DataW.trod enc Try.prog w 0 (fun _ => true) true fuel 23 cs = some x) : ∃ o : OpV, cs = opC o ∧ o.Wf := by
  obtain ⟨xs, n, rfl, _, hl, hx, hf⟩ := DataW.trod_struct Try.underlying23 h
  rw [show Try.prog.cellsOf 23 = 7 by kernel_rfl] at hl
  have hx7 : xs.length = 7 := hx
  have g0 : DataW.trod enc Try.prog w 0 (fun _ => true) true n 3 ((cs.drop 0).take (Try.prog.cellsOf 3)) = xs[0]? := hf 0 _ rfl
  obtain ⟨z0, e0, p0⟩ := fld_int g0 (by simp; omega) (by omega)
  have g1 : DataW.trod enc Try.prog w 0 (fun _ => true) true n 9 ((cs.drop 1).take (Try.prog.cellsOf 9)) = xs[1]? := hf 1 _ rfl
  obtain ⟨z1, e1, p1⟩ := fld_str g1 (by simp; omega) (by omega)
  have g2 : DataW.trod enc Try.prog w 0 (fun _ => true) true n 9 ((cs.drop 2).take (Try.prog.cellsOf 9)) = xs[2]? := hf 2 _ rfl
  obtain ⟨z2, e2, p2⟩ := fld_str g2 (by simp; omega) (by omega)
  have g3 : DataW.trod enc Try.prog w 0 (fun _ => true) true n 9 ((cs.drop 3).take (Try.prog.cellsOf 9)) = xs[3]? := hf 3 _ rfl
  obtain ⟨z3, e3, p3⟩ := fld_str g3 (by simp; omega) (by omega)
  have g4 : DataW.trod enc Try.prog w 0 (fun _ => true) true n 3 ((cs.drop 4).take (Try.prog.cellsOf 3)) = xs[4]? := hf 4 _ rfl
  obtain ⟨z4, e4, p4⟩ := fld_int g4 (by simp; omega) (by omega)
  have g5 : DataW.trod enc Try.prog w 0 (fun _ => true) true n 3 ((cs.drop 5).take (Try.prog.cellsOf 3)) = xs[5]? := hf 5 _ rfl
  obtain ⟨z5, e5, p5⟩ := fld_int g5 (by simp; omega) (by omega)
  have g6 : DataW.trod enc Try.prog w 0 (fun _ => true) true n 3 ((cs.drop 6).take (Try.prog.cellsOf 3)) = xs[6]? := hf 6 _ rfl
  obtain ⟨z6, e6, p6⟩ := fld_int g6 (by simp; omega) (by omega)
  obtain ⟨c0, c1, c2, c3, c4, c5, c6, rfl⟩ := list7 hl
  simp only [List.getElem_cons_zero, List.getElem_cons_succ] at e0 e1 e2 e3 e4 e5 e6
  subst e0 e1 e2 e3 e4 e5 e6
  exact ⟨⟨z0, z1, z2, z3, z4, z5, z6⟩, rfl, ⟨p0.1, p0.2, p4.1, p4.2, p5.1, p5.2, p6.1, p6.2⟩⟩
end
end Go.Proofs

set_option linter.unusedVariables false
set_option linter.unusedSimpArgs false
namespace Go.Proofs
open Go Go.Q
set_option maxRecDepth 100000
/-! quayside/quaysidelaw06.awake -/
/-! quayside/quaysidelaw06.light -/
/-! quayside/quaysideref06.Light -/
/-! quayside/quaysidelaw06.EntryPuts -/
/-! quayside/quaysidelaw06.EntryTakes -/
/-! quayside/quaysidelaw06.EntryStocks -/
/-! quayside/quaysidelaw06.EntryHolds -/
/-! quayside/quaysidelaw06.EntryMoves -/
end Go.Proofs

/- Layer 6: the laws. -/
set_option linter.unusedVariables false
set_option linter.unusedSimpArgs false
namespace Go.Proofs
open Go Go.Q
theorem boxG {z c : Array Value} {T : TypeId} {k : Nat} {w : World} {K : Value → World → Prop} (hz : z.size = k) (hc : c.size = k) (ho : c.all (fun a => one a) 0 k = true)
    (h : ∀ b w1, w.heap.size ≤ b → w1.heap[b]? = some (.cells c T) → Kp [] w w1 → K (.pointer (some ⟨b, 0, none⟩)) w1) : newG z T w fun p w => stn k p (.agg c) w fun w => K p w := by
  simp [-getElem?_pos, -Array.all_eq_true, -Array.getElem?_eq_getElem, -List.length_flatten, List.getElem?_cons_zero, List.getElem?_cons_succ, heap_new, hz, hc]
  refine ⟨ho, ?_⟩
  rw [splice_all (by omega)]
  exact h _ _ (Nat.le_refl _) heap_new kp_alloc
theorem ldAll {b k : Nat} {c : Array Value} {T : TypeId} {w : World} (h : w.heap[b]? = some (.cells c T)) (hc : c.size = k) {K : Value → Prop} : ldn k (.pointer (some ⟨b, 0, none⟩)) w K = K (.agg c) := by
  simp [-getElem?_pos, -Array.all_eq_true, -Array.getElem?_eq_getElem, -List.length_flatten, List.getElem?_cons_zero, List.getElem?_cons_succ, h, hc]
  subst hc
  rw [Array.extract_size]
def hC (h : HV) : List Value := [.int .i64 h.id, .string (str h.sku), .string (str h.loc), .int .i64 h.q, .int .i64 h.st, .int .i64 h.due]
def sC (s : SV) : List Value := [.string (str s.sku), .string (str s.loc), .int .i64 s.hand, .int .i64 s.held]
section
variable {w : World} {xo yo : Operand} {K : Value → Prop}
end

def h0 : HV := ⟨1, [115], [108], 3, 0, 0⟩
theorem boxHold {z : Array Value} {o : HV} {w : World} {K : Value → World → Prop} (hz : z.size = 6)
    (h : ∀ b w1, w.heap.size ≤ b → w1.heap[b]? = some (.cells (hC o).toArray 34) → Kp [] w w1 → K (.pointer (some ⟨b, 0, none⟩)) w1) : newG z 34 w fun p w => stn 6 p (hA o) w fun w => K p w :=
  boxG hz rfl (by simp [one]) h
theorem ldHold {b : Nat} {o : HV} {w : World} {T : TypeId} (h : w.heap[b]? = some (.cells (hC o).toArray T)) {K : Value → Prop} : ldn 6 (.pointer (some ⟨b, 0, none⟩)) w K = K (hA o) := ldAll h rfl
theorem boxMove {z : Array Value} {o : HV} {w : World} {K : Value → World → Prop} (hz : z.size = 6)
    (h : ∀ b w1, w.heap.size ≤ b → w1.heap[b]? = some (.cells (hC o).toArray 50) → Kp [] w w1 → K (.pointer (some ⟨b, 0, none⟩)) w1) : newG z 50 w fun p w => stn 6 p (hA o) w fun w => K p w :=
  boxG hz rfl (by simp [one]) h
theorem boxStock {z : Array Value} {o : SV} {w : World} {K : Value → World → Prop} (hz : z.size = 4)
    (h : ∀ b w1, w.heap.size ≤ b → w1.heap[b]? = some (.cells (sC o).toArray 44) → Kp [] w w1 → K (.pointer (some ⟨b, 0, none⟩)) w1) : newG z 44 w fun p w => stn 4 p (sA o) w fun w => K p w :=
  boxG hz rfl (by simp [one]) h
theorem ldStock {b : Nat} {o : SV} {w : World} {T : TypeId} (h : w.heap[b]? = some (.cells (sC o).toArray T)) {K : Value → Prop} : ldn 4 (.pointer (some ⟨b, 0, none⟩)) w K = K (sA o) := ldAll h rfl
end Go.Proofs

/- Layer 6: the laws, each whatever it is given. -/
set_option linter.unusedVariables false
set_option linter.unusedSimpArgs false
namespace Go.Proofs
open Go Go.Q
theorem argBox {cs : List Value} {T : TypeId} {w : World} {K : Value → World → Prop} (h : ∀ b w1, w.heap.size ≤ b → w1.heap[b]? = some (.cells cs.toArray T) → Kp [] w w1 → K (.pointer (some ⟨b, 0, none⟩)) w1) :
    newG (Value.cells (.agg cs.toArray)) T w K := h _ _ (Nat.le_refl _) heap_new kp_alloc
theorem lenS (s : SV) : (rowS s).length ≤ 4 := by simp [rowS]
end Go.Proofs

set_option linter.unusedVariables false
set_option linter.unusedSimpArgs false
namespace Go.Proofs
open Go Go.Q
set_option maxRecDepth 100000
/-! quayside/num.Sum -/
def num_Sum_s0 (R : Value → World → Prop) (x4 x5 : Value) (w : World) : Prop :=
  cvI .i64 x5 fun t32 =>
  qG Try.prog (bq .shr 3 (.tmp 34) (.const (.int .u64 63)) t32 (.int .u64 63)) w fun t35 =>
  cvI .u64 t35 fun t36 =>
  qG Try.prog (bq .eql 135 (.tmp 33) (.tmp 36) x4 t36) w fun t37 =>
  bV t37
  (R (.tuple #[t32, (.int .i64 0)]) w)
  (R (.tuple #[(.int .i64 0), (.int .i64 10)]) w)
theorem num_Sum_s0_eq (R : Value → World → Prop) : ∀ e w, lift Try.prog 39 (sub (bodyOf Try.f92) [1, 1, 1]) (finK Try.prog Try.f92.results.toList R) e w = num_Sum_s0 R (e 4) (e 5) w := fun e w => by kernel_rfl
def num_Sum_b1 (R : Value → World → Prop) (N1 : List Value → World → Prop) (x4 x5 x10 x11 x12 : Value) (w : World) : Prop :=
  qG Try.prog (bq .lss 3 (.tmp 12) (.tmp 11) x12 x11) w fun t13 =>
  bV t13
  (ia 1 x10 x12 fun t14 =>
  ld1 t14 w fun t15 =>
  cvI .u64 t15 fun t19 =>
  nG Try.prog (callFunc 106 #[x5, t19, (.int .u64 0)]) w fun t20 w =>
  qG Try.prog (Instr.extract t20 0) w fun t21 =>
  qG Try.prog (Instr.extract t20 1) w fun t22 =>
  qG Try.prog (bq .shr 3 (.tmp 24) (.const (.int .u64 63)) t15 (.int .u64 63)) w fun t25 =>
  cvI .u64 t25 fun t26 =>
  qG Try.prog (bq .add 135 (.tmp 26) (.tmp 27) t26 t22) w fun t28 =>
  qG Try.prog (bq .add 135 (.tmp 23) (.tmp 28) x4 t28) w fun t29 =>
  qG Try.prog (bq .add 3 (.tmp 12) (.const (.int .i64 1)) x12 (.int .i64 1)) w fun t30 =>
  N1 [t29, t21, x10, x11, t30] w)
  (num_Sum_s0 R x4 x5 w)
theorem num_Sum_b1_eq (R : Value → World → Prop) (N1 : List Value → World → Prop) : ∀ e w, lift Try.prog 39 (sub (bodyOf Try.f92) [1, 1, 0, 1, 0, 0]) (seqK (fun e w => N1 [e 4, e 5, e 10, e 11, e 12] w) (blockK 0 (seqK (fun e w => num_Sum_s0 R (e 4) (e 5) w) (finK Try.prog Try.f92.results.toList R)))) e w = num_Sum_b1 R N1 (e 4) (e 5) (e 10) (e 11) (e 12) w := fun e w => by kernel_rfl
def num_Sum_L2F (R : Value → World → Prop) (N1 : List Value → World → Prop) (xs : List Value) (w : World) : Prop :=
  match xs with
  | [x4, x5, x10, x11, x12] => num_Sum_b1 R N1 x4 x5 x10 x11 x12 w
  | _ => False
def num_Sum_L2 (R : Value → World → Prop) (x4 x5 x10 x11 x12 : Value) (w : World) : Prop :=
  ∃ m, loopV (num_Sum_L2F R) m [x4, x5, x10, x11, x12] w
theorem num_Sum_L2_eq (R : Value → World → Prop) : ∀ e w, lift Try.prog 39 (sub (bodyOf Try.f92) [1, 1, 0, 1, 0]) (blockK 0 (seqK (fun e w => num_Sum_s0 R (e 4) (e 5) w) (finK Try.prog Try.f92.results.toList R))) e w = num_Sum_L2 R (e 4) (e 5) (e 10) (e 11) (e 12) w := loop_seg (F := num_Sum_L2F R) (sel := fun e => [e 4, e 5, e 10, e 11, e 12]) fun N1 => (num_Sum_b1_eq R N1)
def num_Sum_s3 (R : Value → World → Prop) (x0 x4 x5 : Value) (w : World) : Prop :=
  lenL x0 fun t11 =>
  num_Sum_L2 R x4 x5 x0 t11 (.int .i64 0) w
theorem num_Sum_s3_eq (R : Value → World → Prop) : ∀ e w, lift Try.prog 39 (sub (bodyOf Try.f92) [1, 1, 0]) (seqK (fun e w => num_Sum_s0 R (e 4) (e 5) w) (finK Try.prog Try.f92.results.toList R)) e w = num_Sum_s3 R (e 0) (e 4) (e 5) w :=
  segs_eq (l := [(sub (bodyOf Try.f92) [1, 1, 0, 0])]) (y := (sub (bodyOf Try.f92) [1, 1, 0, 1])) (Y := (fun e w => num_Sum_L2 R (e 4) (e 5) (e 10) (e 11) (e 12) w)) (num_Sum_L2_eq R) (fun e w => by kernel_rfl)
def num_Sum_s4 (R : Value → World → Prop) (x0 : Value) (w : World) : Prop :=
  num_Sum_s3 R x0 (.int .u64 0) (.int .u64 0) w
theorem num_Sum_s4_eq (R : Value → World → Prop) : ∀ e w, lift Try.prog 39 (bodyOf Try.f92) (finK Try.prog Try.f92.results.toList R) e w = num_Sum_s4 R (e 0) w :=
  segs_eq (l := [(sub (bodyOf Try.f92) [0]), (sub (bodyOf Try.f92) [1, 0])]) (y := (sub (bodyOf Try.f92) [1, 1])) (Y := (fun e w => num_Sum_s3 R (e 0) (e 4) (e 5) w)) (seq_seg (x := (sub (bodyOf Try.f92) [1, 1, 0])) (y := (sub (bodyOf Try.f92) [1, 1, 1])) (num_Sum_s0_eq R) (num_Sum_s3_eq R)) (fun e w => by kernel_rfl)
def num_Sum (R : Value → World → Prop) (x0 : Value) (w : World) : Prop := num_Sum_s4 R x0 w
theorem num_Sum_call {R : Value → World → Prop} {x0 : Value} {w : World} (h : num_Sum R x0 w) : callG Try.prog 92 #[x0] w R :=
  calls_lift_eq Try.mixed Try.func92 (args := [x0]) rfl rfl rfl rfl ((num_Sum_s4_eq R) (envOf [x0]) w) (by kernel_rfl) h
/-! quayside/num.Sub -/
def num_Sub_s0 (R : Value → World → Prop) (x0 x1 : Value) (w : World) : Prop :=
  qG Try.prog (bq .sub 3 (.tmp 7) (.tmp 8) x0 x1) w fun t9 =>
  qG Try.prog (bq .lss 3 (.tmp 10) (.const (.int .i64 0)) x0 (.int .i64 0)) w fun t11 =>
  qG Try.prog (bq .lss 3 (.tmp 12) (.const (.int .i64 0)) x1 (.int .i64 0)) w fun t13 =>
  qG Try.prog (bq .neq 4 (.tmp 11) (.tmp 13) t11 t13) w fun t14 =>
  bV t14
  (qG Try.prog (bq .lss 3 (.tmp 16) (.const (.int .i64 0)) t9 (.int .i64 0)) w fun t17 =>
  qG Try.prog (bq .lss 3 (.tmp 18) (.const (.int .i64 0)) x0 (.int .i64 0)) w fun t19 =>
  qG Try.prog (bq .neq 4 (.tmp 17) (.tmp 19) t17 t19) w fun t20 =>
  bV t20
  (R (.tuple #[(.int .i64 0), (.int .i64 10)]) w)
  (R (.tuple #[t9, (.int .i64 0)]) w))
  (R (.tuple #[t9, (.int .i64 0)]) w)
theorem num_Sub_s0_eq (R : Value → World → Prop) : ∀ e w, lift Try.prog 23 (bodyOf Try.f75) (finK Try.prog Try.f75.results.toList R) e w = num_Sub_s0 R (e 0) (e 1) w := fun e w => by kernel_rfl
def num_Sub (R : Value → World → Prop) (x0 x1 : Value) (w : World) : Prop := num_Sub_s0 R x0 x1 w
theorem num_Sub_call {R : Value → World → Prop} {x0 x1 : Value} {w : World} (h : num_Sub R x0 x1 w) : callG Try.prog 75 #[x0, x1] w R :=
  calls_lift_eq Try.mixed Try.func75 (args := [x0, x1]) rfl rfl rfl rfl ((num_Sub_s0_eq R) (envOf [x0, x1]) w) (by kernel_rfl) h
/-! quayside/num.Add -/
def num_Add_s0 (R : Value → World → Prop) (x0 x1 : Value) (w : World) : Prop :=
  qG Try.prog (bq .add 3 (.tmp 7) (.tmp 8) x0 x1) w fun t9 =>
  qG Try.prog (bq .lss 3 (.tmp 10) (.const (.int .i64 0)) x0 (.int .i64 0)) w fun t11 =>
  qG Try.prog (bq .lss 3 (.tmp 12) (.const (.int .i64 0)) x1 (.int .i64 0)) w fun t13 =>
  qG Try.prog (bq .eql 4 (.tmp 11) (.tmp 13) t11 t13) w fun t14 =>
  bV t14
  (qG Try.prog (bq .lss 3 (.tmp 16) (.const (.int .i64 0)) t9 (.int .i64 0)) w fun t17 =>
  qG Try.prog (bq .lss 3 (.tmp 18) (.const (.int .i64 0)) x0 (.int .i64 0)) w fun t19 =>
  qG Try.prog (bq .neq 4 (.tmp 17) (.tmp 19) t17 t19) w fun t20 =>
  bV t20
  (R (.tuple #[(.int .i64 0), (.int .i64 10)]) w)
  (R (.tuple #[t9, (.int .i64 0)]) w))
  (R (.tuple #[t9, (.int .i64 0)]) w)
theorem num_Add_s0_eq (R : Value → World → Prop) : ∀ e w, lift Try.prog 23 (bodyOf Try.f120) (finK Try.prog Try.f120.results.toList R) e w = num_Add_s0 R (e 0) (e 1) w := fun e w => by kernel_rfl
def num_Add (R : Value → World → Prop) (x0 x1 : Value) (w : World) : Prop := num_Add_s0 R x0 x1 w
theorem num_Add_call {R : Value → World → Prop} {x0 x1 : Value} {w : World} (h : num_Add R x0 x1 w) : callG Try.prog 120 #[x0, x1] w R :=
  calls_lift_eq Try.mixed Try.func120 (args := [x0, x1]) rfl rfl rfl rfl ((num_Add_s0_eq R) (envOf [x0, x1]) w) (by kernel_rfl) h
/-! quayside/quaysideref01.of -/
/-! quayside/quaysideref01.plus -/
/-! quayside/quaysideref01.number -/
/-! quayside/quaysideref01.less -/
/-! quayside/quaysideref01.Add -/
/-! quayside/quaysideref01.Sub -/
/-! quayside/quaysideref01.Sum -/
end Go.Proofs

/- Plain: a ledger of stocks, holds and movements; what an operation makes of it. -/
set_option linter.unusedVariables false
set_option linter.unusedSimpArgs false
namespace Go.Q
def lexL (a b : List UInt8) : Bool := Op.bytesLess a b
theorem lexL_nil (a : List UInt8) : lexL a [] = false := by cases a <;> rfl
theorem lexL_cons (a b : UInt8) (x y : List UInt8) : lexL (a :: x) (b :: y) = (decide (a < b) || (a == b && lexL x y)) := rfl
theorem lexL_irrefl : ∀ a : List UInt8, lexL a a = false := by
  intro a
  induction a with
  | nil => rfl
  | cons a x ih => rw [lexL_cons, ih]; simp
theorem lexL_trans : ∀ {a b c : List UInt8}, lexL a b = true → lexL b c = true → lexL a c = true := by
  intro a
  induction a with
  | nil =>
    intro b c h1 h2
    cases c with
    | nil => rw [lexL_nil] at h2; cases h2
    | cons c z => rfl
  | cons a x ih =>
    intro b c h1 h2
    cases b with
    | nil => rw [lexL_nil] at h1; cases h1
    | cons b y =>
      cases c with
      | nil => rw [lexL_nil] at h2; cases h2
      | cons c z =>
        rw [lexL_cons] at h1 h2 ⊢
        simp only [Bool.or_eq_true, decide_eq_true_eq, Bool.and_eq_true, beq_iff_eq] at h1 h2 ⊢
        rcases h1 with h1 | ⟨rfl, h1⟩ <;> rcases h2 with h2 | ⟨rfl, h2⟩
        · exact .inl (UInt8.lt_trans h1 h2)
        · exact .inl h1
        · exact .inl h2
        · exact .inr ⟨rfl, ih h1 h2⟩
theorem lexL_tri : ∀ {a b : List UInt8}, lexL a b = false → lexL b a = false → a = b := by
  intro a
  induction a with
  | nil =>
    intro b h1 h2
    cases b with
    | nil => rfl
    | cons b y => cases h1
  | cons a x ih =>
    intro b h1 h2
    cases b with
    | nil => cases h2
    | cons b y =>
      rw [lexL_cons] at h1 h2
      simp only [Bool.or_eq_false_iff, decide_eq_false_iff_not, Bool.and_eq_false_iff, beq_eq_false_iff_ne] at h1 h2
      have hab : a = b := by
        have g1 := UInt8.not_lt.1 h1.1
        have g2 := UInt8.not_lt.1 h2.1
        exact UInt8.le_antisymm g2 g1
      subst hab
      have e1 : lexL x y = false := by
        rcases h1.2 with h | h
        · exact absurd rfl h
        · exact h
      have e2 : lexL y x = false := by
        rcases h2.2 with h | h
        · exact absurd rfl h
        · exact h
      rw [ih e1 e2]
/-! ### places -/
def ahead (a b : SV) : Bool := lexL a.sku b.sku || (decide (a.sku = b.sku) && lexL a.loc b.loc)
def atP (s : SV) (sku loc : List UInt8) : Bool := decide (s.sku = sku ∧ s.loc = loc)
theorem ahead_irrefl (a : SV) : ahead a a = false := by simp [ahead, lexL_irrefl]
theorem ahead_trans {a b c : SV} (h1 : ahead a b = true) (h2 : ahead b c = true) : ahead a c = true := by
  simp only [ahead, Bool.or_eq_true, Bool.and_eq_true, decide_eq_true_eq] at h1 h2 ⊢
  rcases h1 with h1 | ⟨e1, h1⟩ <;> rcases h2 with h2 | ⟨e2, h2⟩
  · exact .inl (lexL_trans h1 h2)
  · exact .inl (e2 ▸ h1)
  · exact .inl (e1 ▸ h2)
  · exact .inr ⟨e1.trans e2, lexL_trans h1 h2⟩
theorem ahead_tri {a b : SV} (h1 : ahead a b = false) (h2 : ahead b a = false) : a.sku = b.sku ∧ a.loc = b.loc := by
  simp only [ahead, Bool.or_eq_false_iff, Bool.and_eq_false_iff, decide_eq_false_iff_not] at h1 h2
  have e := lexL_tri h1.1 h2.1
  refine ⟨e, ?_⟩
  have g1 : lexL a.loc b.loc = false := by
    rcases h1.2 with h | h
    · exact absurd e h
    · exact h
  have g2 : lexL b.loc a.loc = false := by
    rcases h2.2 with h | h
    · exact absurd e.symm h
    · exact h
  exact lexL_tri g1 g2
/-- places matter, numbers do not -/
theorem ahead_key {a b a' b' : SV} (h1 : a.sku = a'.sku) (h2 : a.loc = a'.loc) (h3 : b.sku = b'.sku) (h4 : b.loc = b'.loc) : ahead a b = ahead a' b' := by simp only [ahead, h1, h2, h3, h4]
def Sorted (l : List SV) : Prop := l.Pairwise fun a b => ahead a b = true
/-! ### the ledger -/
structure LV where
  st : List SV
  ho : List HV
  mo : List HV
  ops : Int
  deriving DecidableEq
def lZ : LV := ⟨[], [], [], 0⟩
def fits (n : Int) : Bool := decide (-9223372036854775808 ≤ n ∧ n ≤ 9223372036854775807)
/-- a sum, or that it is none -/
def numO (n : Int) : Int × Int := if fits n = true then (n, 0) else (0, 10)
def findS (l : List SV) (sku loc : List UInt8) : SV := (l.find? fun s => atP s sku loc).getD ⟨sku, loc, 0, 0⟩
def putS : List SV → SV → List SV
  | [], s => [s]
  | x :: r, s => if ahead x s = true then x :: putS r s else if x.sku = s.sku ∧ x.loc = s.loc then s :: r else s :: x :: r
def w64i (n : Int) : Int := IntKind.i64.wrap n
def movedL (l : LV) (sku loc : List UInt8) (n kind hold : Int) : LV :=
  { l with st := putS l.st { findS l.st sku loc with hand := w64i ((findS l.st sku loc).hand + n) }, mo := l.mo ++ [⟨(l.mo.length + 1 : Nat), sku, loc, n, kind, hold⟩] }
def heldL (l : LV) (sku loc : List UInt8) (n : Int) : LV := { l with st := putS l.st { findS l.st sku loc with held := w64i ((findS l.st sku loc).held + n) } }
def stateL (l : LV) (k : Nat) (n : Int) : LV := { l with ho := l.ho.set k { l.ho.getD k hZ with st := n } }
def freeL (l : LV) (sku loc : List UInt8) : Int := (numO ((findS l.st sku loc).hand - (findS l.st sku loc).held)).1
def moreL (l : LV) (sku loc : List UInt8) (n : Int) : Int × Int := numO ((findS l.st sku loc).hand + n)
def holdAt (l : LV) (id : Int) : HV := l.ho.getD (id - 1).toNat hZ
def overL (l : LV) (o : OpV) : LV × Int :=
  if o.id > l.ho.length ∨ (holdAt l o.id).st ≠ 0 then (l, 71)
  else
    let h := holdAt l o.id
    let l1 := heldL l h.sku h.loc (w64i (-h.q))
    if o.k = 4 then (stateL l1 (o.id - 1).toNat 2, 0) else (movedL (stateL l1 (o.id - 1).toNat 1) h.sku h.loc (w64i (-h.q)) o.k h.id, 0)
def dueL (h : HV) (due : Int) : Bool := decide (h.st = 0 ∧ 0 < h.due ∧ h.due ≤ due)
/-- the holds from the i-th one on, as many as there are -/
def expireL (l : LV) (due : Int) (i : Nat) : Nat → LV
  | 0 => l
  | m + 1 =>
    let h := l.ho.getD i hZ
    expireL (if dueL h due = true then stateL (heldL l h.sku h.loc (w64i (-h.q))) i 2 else l) due (i + 1) m
def doesL (l : LV) (o : OpV) : LV × Int :=
  if o.k = 1 ∨ o.k = 7 then
    (if (moreL l o.sku o.loc o.q).2 ≠ 0 then (l, (moreL l o.sku o.loc o.q).2)
     else if (moreL l o.sku o.loc o.q).1 < (findS l.st o.sku o.loc).held then (l, 70) else (movedL l o.sku o.loc o.q o.k 0, 0))
  else if o.k = 2 then
    (if freeL l o.sku o.loc < o.q then (l, 70)
     else
      let l1 := heldL l o.sku o.loc o.q
      ({ l1 with ho := l1.ho ++ [⟨(l1.ho.length + 1 : Nat), o.sku, o.loc, o.q, 0, o.due⟩] }, 0))
  else if o.k = 5 then (expireL l o.due 0 l.ho.length, 0)
  else if o.k = 6 then
    (if freeL l o.sku o.loc < o.q then (l, 70)
     else if (moreL l o.sku o.to o.q).2 ≠ 0 then (l, (moreL l o.sku o.to o.q).2)
     else (movedL (movedL l o.sku o.loc (w64i (-o.q)) o.k 0) o.sku o.to o.q o.k 0, 0))
  else overL l o
def fullL (l : LV) : Bool := decide (4096 < l.st.length ∨ 4096 < l.ho.length ∨ 4096 < l.mo.length)
def stepL (l : LV) (o : OpV) : LV × Int :=
  if o.ok = false then (l, 1)
  else if (doesL l o).2 ≠ 0 then (l, (doesL l o).2)
  else if fullL (doesL l o).1 = true ∨ 4611686018427387904 ≤ l.ops then (l, 2)
  else ({ (doesL l o).1 with ops := l.ops + 1 }, 0)
/-! ### may a ledger be? -/
def activeQ (ho : List HV) (sku loc : List UInt8) : Int := (ho.map fun h => if h.sku = sku ∧ h.loc = loc ∧ h.st = 0 then h.q else 0).sum
def movedQ (mo : List HV) (sku loc : List UInt8) : Int := (mo.map fun m => if m.sku = sku ∧ m.loc = loc then m.q else 0).sum
def stockOk (l : LV) (s : SV) : Bool := nameOk s.sku && nameOk s.loc && decide (0 ≤ s.held ∧ s.held ≤ s.hand) && fits s.hand && decide (s.held = activeQ l.ho s.sku s.loc ∧ s.hand = movedQ l.mo s.sku s.loc)
def knownL (l : LV) (sku loc : List UInt8) : Bool := l.st.any fun s => atP s sku loc
def holdOk (l : LV) (k : Nat) (h : HV) : Bool :=
  decide (h.id = (k + 1 : Nat)) && nameOk h.sku && nameOk h.loc && decide (1 ≤ h.q ∧ 0 ≤ h.st ∧ h.st ≤ 2 ∧ 0 ≤ h.due) && (decide (h.st ≠ 0) || knownL l h.sku h.loc)
def moveOk (l : LV) (k : Nat) (m : HV) : Bool :=
  decide (m.id = (k + 1 : Nat)) && nameOk m.sku && nameOk m.loc && fits m.q && decide (m.q ≠ 0) && decide (m.st = 1 ∨ m.st = 3 ∨ m.st = 6 ∨ m.st = 7) && decide (0 ≤ m.due) && (decide (m.due ≠ 0) == decide (m.st = 3)) && knownL l m.sku m.loc
/-- a ledger that may be -/
structure May (l : LV) : Prop where
  ops : 0 ≤ l.ops
  few : fullL l = false
  sorted : Sorted l.st
  stocks : ∀ s ∈ l.st, stockOk l s = true
  holds : ∀ k (h : k < l.ho.length), holdOk l k l.ho[k] = true
  moves : ∀ k (h : k < l.mo.length), moveOk l k l.mo[k] = true
theorem may_z : May lZ := ⟨by decide, by decide, List.Pairwise.nil, by simp [lZ], by simp [lZ], by simp [lZ]⟩
/-! ### finding and putting -/
theorem findS_key (l : List SV) (sku loc : List UInt8) : (findS l sku loc).sku = sku ∧ (findS l sku loc).loc = loc := by
  unfold findS
  cases h : l.find? fun s => atP s sku loc with
  | none => exact ⟨rfl, rfl⟩
  | some s =>
    have := List.find?_some h
    simpa [atP] using this
theorem putS_mem {l : List SV} {s x : SV} (h : x ∈ putS l s) : x = s ∨ (x ∈ l) := by
  induction l with
  | nil => simp [putS] at h; exact .inl h
  | cons y r ih =>
    unfold putS at h
    split at h
    · rcases List.mem_cons.1 h with rfl | h
      · exact .inr (by simp)
      · rcases ih h with h | h
        · exact .inl h
        · exact .inr (by simp [h])
    · split at h
      · rcases List.mem_cons.1 h with rfl | h
        · exact .inl rfl
        · exact .inr (by simp [h])
      · rcases List.mem_cons.1 h with rfl | h
        · exact .inl rfl
        · exact .inr h
theorem putS_self (l : List SV) (s : SV) : s ∈ putS l s := by
  induction l with
  | nil => simp [putS]
  | cons y r ih =>
    unfold putS
    split
    · simp [ih]
    · split <;> simp
/-- what stands elsewhere stays -/
theorem putS_keep {l : List SV} {s x : SV} (h : x ∈ l) (hk : ¬(x.sku = s.sku ∧ x.loc = s.loc)) : x ∈ putS l s := by
  induction l with
  | nil => cases h
  | cons y r ih =>
    unfold putS
    rcases List.mem_cons.1 h with rfl | h
    · split
      · simp
      · first | (rw [if_neg hk]; simp) | simp
    · split
      · simp [ih h]
      · split
        · simp [h]
        · simp [h]
theorem putS_sorted {l : List SV} {s : SV} (h : Sorted l) : Sorted (putS l s) := by
  induction l with
  | nil => simp [putS, Sorted]
  | cons y r ih =>
    have hr := List.pairwise_cons.1 h
    unfold putS
    split
    · rename_i hy
      refine List.pairwise_cons.2 ⟨fun x hx => ?_, ih hr.2⟩
      rcases putS_mem hx with rfl | hx
      · exact hy
      · exact hr.1 x hx
    · rename_i hy
      have hy : ahead y s = false := by simpa using hy
      split
      · rename_i hk
        refine List.pairwise_cons.2 ⟨fun x hx => ?_, hr.2⟩
        have := hr.1 x hx
        rwa [ahead_key (b' := x) hk.1 hk.2 rfl rfl] at this
      · rename_i hk
        have hsy : ahead s y = true := by
          cases hc : ahead s y with
          | true => rfl
          | false => exact absurd (ahead_tri hy hc) hk
        refine List.pairwise_cons.2 ⟨fun x hx => ?_, h⟩
        rcases List.mem_cons.1 hx with rfl | hx
        · exact hsy
        · exact ahead_trans hsy (hr.1 x hx)
/-- in a sorted list a place stands once -/
theorem sorted_uniq {l : List SV} (h : Sorted l) {a b : SV} (ha : a ∈ l) (hb : b ∈ l) (hk : a.sku = b.sku ∧ a.loc = b.loc) : a = b := by
  induction l with
  | nil => cases ha
  | cons y r ih =>
    have hr := List.pairwise_cons.1 h
    have ne : ∀ x ∈ r, ¬(y.sku = x.sku ∧ y.loc = x.loc) := fun x hx hk => by
      have := hr.1 x hx
      rw [ahead_key (a' := x) (b' := x) hk.1 hk.2 rfl rfl, ahead_irrefl] at this
      cases this
    rcases List.mem_cons.1 ha with rfl | ha <;> rcases List.mem_cons.1 hb with rfl | hb
    · rfl
    · exact absurd hk (ne b hb)
    · exact absurd ⟨hk.1.symm, hk.2.symm⟩ (ne a (by assumption))
    · exact ih hr.2 ha hb
theorem findS_of_mem {l : List SV} (h : Sorted l) {s : SV} (hs : s ∈ l) : findS l s.sku s.loc = s := by
  unfold findS
  cases hf : l.find? fun x => atP x s.sku s.loc with
  | none =>
    have := List.find?_eq_none.1 hf s hs
    simp [atP] at this
  | some x =>
    have h1 := List.mem_of_find?_eq_some hf
    have h2 := List.find?_some hf
    simp only [atP, decide_eq_true_eq] at h2
    exact sorted_uniq h h1 hs h2
theorem findS_none {l : List SV} {sku loc : List UInt8} (h : ∀ s ∈ l, ¬(s.sku = sku ∧ s.loc = loc)) : findS l sku loc = ⟨sku, loc, 0, 0⟩ := by
  unfold findS
  rw [List.find?_eq_none.2 (fun x hx => by simpa [atP] using h x hx)]
  rfl
theorem findS_put {l : List SV} (h : Sorted l) (s : SV) (sku loc : List UInt8) : findS (putS l s) sku loc = if s.sku = sku ∧ s.loc = loc then s else findS l sku loc := by
  by_cases hk : s.sku = sku ∧ s.loc = loc
  · rw [if_pos hk, ← hk.1, ← hk.2]
    exact findS_of_mem (putS_sorted h) (putS_self l s)
  · rw [if_neg hk]
    by_cases hx : ∃ x ∈ l, x.sku = sku ∧ x.loc = loc
    · obtain ⟨x, hx, h1, h2⟩ := hx
      have h3 : x ∈ putS l s := putS_keep hx (fun hh => hk ⟨hh.1.symm.trans h1, hh.2.symm.trans h2⟩)
      rw [← h1, ← h2, findS_of_mem h hx, findS_of_mem (putS_sorted h) h3]
    · rw [findS_none fun x hm hh => hx ⟨x, hm, hh⟩, findS_none]
      intro x hm hh
      rcases putS_mem hm with rfl | hm
      · exact hk hh
      · exact hx ⟨x, hm, hh⟩
theorem putS_put {l : List SV} {s t : SV} (hk : s.sku = t.sku ∧ s.loc = t.loc) : putS (putS l s) t = putS l t := by
  induction l with
  | nil => simp [putS, ahead_key hk.1 hk.2 rfl rfl, ahead_irrefl, hk]
  | cons y r ih =>
    have e : ahead y s = ahead y t := ahead_key rfl rfl hk.1 hk.2
    have e2 : ahead s t = false := by rw [ahead_key (a' := t) (b' := t) hk.1 hk.2 rfl rfl, ahead_irrefl]
    cases hc : ahead y t with
    | true => simp [putS, e, hc, ih]
    | false =>
      by_cases hy : y.sku = s.sku ∧ y.loc = s.loc
      · have hy' : y.sku = t.sku ∧ y.loc = t.loc := ⟨hy.1.trans hk.1, hy.2.trans hk.2⟩
        simp [putS, e, hc, hy, hy', e2, hk]
      · have hy' : ¬(y.sku = t.sku ∧ y.loc = t.loc) := fun h => hy ⟨h.1.trans hk.1.symm, h.2.trans hk.2.symm⟩
        simp [putS, e, hc, hy, hy', e2, hk]
theorem known_find {l : LV} {sku loc : List UInt8} : knownL l sku loc = true ↔ ∃ s ∈ l.st, s.sku = sku ∧ s.loc = loc := by simp [knownL, atP]
end Go.Q

/- Plain: a ledger that may be is one that may be behind each operation. -/
set_option linter.unusedVariables false
set_option linter.unusedSimpArgs false
namespace Go.Q
abbrev Pl := List UInt8 → List UInt8 → Int
/-- stocks that are as two sums say -/
structure MayF (st : List SV) (H M : Pl) : Prop where
  sorted : Sorted st
  ok : ∀ s ∈ st, nameOk s.sku = true ∧ nameOk s.loc = true ∧ fits s.hand = true ∧ 0 ≤ s.held ∧ s.held ≤ s.hand ∧ s.held = H s.sku s.loc ∧ s.hand = M s.sku s.loc
  none : ∀ sku loc, (∀ s ∈ st, ¬(s.sku = sku ∧ s.loc = loc)) → H sku loc = 0 ∧ M sku loc = 0
theorem MayF.find {st : List SV} {H M : Pl} (h : MayF st H M) (sku loc : List UInt8) :
    (findS st sku loc).held = H sku loc ∧ (findS st sku loc).hand = M sku loc ∧ 0 ≤ (findS st sku loc).held ∧ (findS st sku loc).held ≤ (findS st sku loc).hand ∧ fits (findS st sku loc).hand = true := by
  by_cases hx : ∃ s ∈ st, s.sku = sku ∧ s.loc = loc
  · obtain ⟨s, hs, rfl, rfl⟩ := hx
    rw [findS_of_mem h.sorted hs]
    obtain ⟨_, _, h1, h2, h3, h4, h5⟩ := h.ok s hs
    exact ⟨h4, h5, h2, h3, h1⟩
  · have hx' : ∀ s ∈ st, ¬(s.sku = sku ∧ s.loc = loc) := fun s hs hk => hx ⟨s, hs, hk⟩
    rw [findS_none hx']
    have := h.none sku loc hx'
    exact ⟨this.1.symm, this.2.symm, Int.le_refl _, Int.le_refl _, rfl⟩
def updP (H : Pl) (sku loc : List UInt8) (n : Int) : Pl := fun a b => if sku = a ∧ loc = b then n else H a b
theorem MayF.put {st : List SV} {H M : Pl} (h : MayF st H M) (s : SV) (h1 : nameOk s.sku = true) (h2 : nameOk s.loc = true) (h3 : fits s.hand = true) (h4 : 0 ≤ s.held) (h5 : s.held ≤ s.hand) :
    MayF (putS st s) (updP H s.sku s.loc s.held) (updP M s.sku s.loc s.hand) := by
  refine ⟨putS_sorted h.sorted, fun x hx => ?_, fun sku loc hn => ?_⟩
  · by_cases hk : s.sku = x.sku ∧ s.loc = x.loc
    · have : x = s := sorted_uniq (putS_sorted h.sorted) hx (putS_self st s) ⟨hk.1.symm, hk.2.symm⟩
      subst this
      exact ⟨h1, h2, h3, h4, h5, by simp [updP], by simp [updP]⟩
    · rcases putS_mem hx with rfl | hx
      · exact absurd ⟨rfl, rfl⟩ hk
      · obtain ⟨g1, g2, g3, g4, g5, g6, g7⟩ := h.ok x hx
        exact ⟨g1, g2, g3, g4, g5, by rw [updP, if_neg hk]; exact g6, by rw [updP, if_neg hk]; exact g7⟩
  · have hk : ¬(s.sku = sku ∧ s.loc = loc) := hn s (putS_self st s)
    have := h.none sku loc fun x hx hxk => hn x (putS_keep hx fun hh => hk ⟨hh.1.symm.trans hxk.1, hh.2.symm.trans hxk.2⟩) hxk
    exact ⟨by rw [updP, if_neg hk]; exact this.1, by rw [updP, if_neg hk]; exact this.2⟩
theorem MayF.congr {st : List SV} {H M H' M' : Pl} (h : MayF st H M) (hH : ∀ a b, H a b = H' a b) (hM : ∀ a b, M a b = M' a b) : MayF st H' M' := by
  have e1 : H = H' := funext fun a => funext fun b => hH a b
  have e2 : M = M' := funext fun a => funext fun b => hM a b
  exact e1 ▸ e2 ▸ h
theorem fits_iff {n : Int} : fits n = true ↔ -9223372036854775808 ≤ n ∧ n ≤ 9223372036854775807 := by simp [fits]
theorem w64i_eq {n : Int} (h : fits n = true) : w64i n = n := by
  have := fits_iff.1 h
  exact wrap64 _ (by omega) (by omega)
/-! ### sums -/
theorem activeQ_app (ho : List HV) (h : HV) (a b : List UInt8) : activeQ (ho ++ [h]) a b = activeQ ho a b + (if h.sku = a ∧ h.loc = b ∧ h.st = 0 then h.q else 0) := by simp [activeQ]
theorem movedQ_app (mo : List HV) (m : HV) (a b : List UInt8) : movedQ (mo ++ [m]) a b = movedQ mo a b + (if m.sku = a ∧ m.loc = b then m.q else 0) := by simp [movedQ]
theorem sum_set {f : HV → Int} : ∀ {l : List HV} {k : Nat} {x : HV} (h : k < l.length), ((l.set k x).map f).sum = (l.map f).sum - f l[k] + f x := by
  intro l
  induction l with
  | nil => intro k x h; simp at h
  | cons y r ih =>
    intro k x h
    cases k with
    | zero => simp; omega
    | succ k =>
      have := ih (k := k) (x := x) (by simpa using h)
      simp only [List.set_cons_succ, List.map_cons, List.sum_cons, this, List.getElem_cons_succ]
      omega
theorem activeQ_set {ho : List HV} {k : Nat} (hk : k < ho.length) (h0 : ho[k].st = 0) {n : Int} (hn : n ≠ 0) (a b : List UInt8) :
    activeQ (ho.set k { ho[k] with st := n }) a b = activeQ ho a b - (if ho[k].sku = a ∧ ho[k].loc = b then ho[k].q else 0) := by
  unfold activeQ
  rw [sum_set hk]
  simp [h0, hn]
theorem sum_nonneg {f : HV → Int} : ∀ {l : List HV}, (∀ x ∈ l, 0 ≤ f x) → 0 ≤ (l.map f).sum := by
  intro l
  induction l with
  | nil => intro _; simp
  | cons y r ih =>
    intro h
    have h1 := h y (by simp)
    have h2 := ih fun x hx => h x (by simp [hx])
    simp only [List.map_cons, List.sum_cons]
    omega
theorem sum_ge {f : HV → Int} : ∀ {l : List HV}, (∀ x ∈ l, 0 ≤ f x) → ∀ x ∈ l, f x ≤ (l.map f).sum := by
  intro l
  induction l with
  | nil => intro _ x hx; cases hx
  | cons y r ih =>
    intro h x hx
    have h1 := h y (by simp)
    have h2 := sum_nonneg (f := f) fun x (hx : x ∈ r) => h x (by simp [hx])
    simp only [List.map_cons, List.sum_cons]
    rcases List.mem_cons.1 hx with rfl | hx
    · omega
    · have := ih (fun x hx => h x (by simp [hx])) x hx
      omega
/-! ### a ledger that may be, in these words -/
theorem May.f {l : LV} (h : May l) : MayF l.st (activeQ l.ho) (movedQ l.mo) := by
  refine ⟨h.sorted, fun s hs => ?_, fun sku loc hn => ⟨?_, ?_⟩⟩
  · have := h.stocks s hs
    simp only [stockOk, Bool.and_eq_true, decide_eq_true_eq] at this
    obtain ⟨⟨⟨⟨h1, h2⟩, h3, h4⟩, h5⟩, h6, h7⟩ := this
    exact ⟨h1, h2, h5, h3, h4, h6, h7⟩
  · have : ∀ x ∈ l.ho, (if x.sku = sku ∧ x.loc = loc ∧ x.st = 0 then x.q else 0) = 0 := by
      intro x hx
      obtain ⟨k, hk, rfl⟩ := List.getElem_of_mem hx
      rw [if_neg]
      rintro ⟨h1, h2, h3⟩
      have := h.holds k hk
      simp only [holdOk, Bool.and_eq_true, Bool.or_eq_true, decide_eq_true_eq] at this
      rcases this.2 with h4 | h4
      · exact h4 h3
      · obtain ⟨s, hs, h5, h6⟩ := known_find.1 h4
        exact hn s hs ⟨h5.trans h1, h6.trans h2⟩
    unfold activeQ
    rw [List.map_congr_left this]
    generalize l.ho = z
    induction z with
    | nil => rfl
    | cons y r ih => simp at ih ⊢; exact ih
  · have : ∀ x ∈ l.mo, (if x.sku = sku ∧ x.loc = loc then x.q else 0) = 0 := by
      intro x hx
      obtain ⟨k, hk, rfl⟩ := List.getElem_of_mem hx
      rw [if_neg]
      rintro ⟨h1, h2⟩
      have := h.moves k hk
      simp only [moveOk, Bool.and_eq_true, decide_eq_true_eq] at this
      obtain ⟨s, hs, h5, h6⟩ := known_find.1 this.2
      exact hn s hs ⟨h5.trans h1, h6.trans h2⟩
    unfold movedQ
    rw [List.map_congr_left this]
    generalize l.mo = z
    induction z with
    | nil => rfl
    | cons y r ih => simp at ih ⊢; exact ih
/-- all but how many there are -/
structure Mst (l : LV) (H M : Pl) : Prop where
  f : MayF l.st H M
  holds : ∀ k (h : k < l.ho.length), holdOk l k l.ho[k] = true
  moves : ∀ k (h : k < l.mo.length), moveOk l k l.mo[k] = true
theorem May.m {l : LV} (h : May l) : Mst l (activeQ l.ho) (movedQ l.mo) := ⟨h.f, h.holds, h.moves⟩
theorem Mst.may {l : LV} (h : Mst l (activeQ l.ho) (movedQ l.mo)) (ho : 0 ≤ l.ops) (hf : fullL l = false) : May l := by
  refine ⟨ho, hf, h.f.sorted, fun s hs => ?_, h.holds, h.moves⟩
  obtain ⟨h1, h2, h3, h4, h5, h6, h7⟩ := h.f.ok s hs
  simp [stockOk, h1, h2, h3, h4, h5, ← h6, ← h7]
theorem known_put {l : LV} {s : SV} {sku loc : List UInt8} (h : knownL l sku loc = true) : knownL { l with st := putS l.st s } sku loc = true := by
  obtain ⟨x, hx, h1, h2⟩ := known_find.1 h
  by_cases hk : x.sku = s.sku ∧ x.loc = s.loc
  · exact known_find.2 ⟨s, putS_self _ _, hk.1.symm.trans h1, hk.2.symm.trans h2⟩
  · exact known_find.2 ⟨x, putS_keep hx hk, h1, h2⟩
theorem holdOk_put {l : LV} {s : SV} {k : Nat} {h : HV} (hh : holdOk l k h = true) : holdOk { l with st := putS l.st s } k h = true := by
  simp only [holdOk, Bool.and_eq_true, Bool.or_eq_true] at hh ⊢
  exact ⟨hh.1, hh.2.imp id known_put⟩
theorem moveOk_put {l : LV} {s : SV} {k : Nat} {h : HV} (hh : moveOk l k h = true) : moveOk { l with st := putS l.st s } k h = true := by
  simp only [moveOk, Bool.and_eq_true] at hh ⊢
  exact ⟨hh.1, known_put hh.2⟩
theorem Mst.put {l : LV} {H M : Pl} (h : Mst l H M) (s : SV) (h1 : nameOk s.sku = true) (h2 : nameOk s.loc = true) (h3 : fits s.hand = true) (h4 : 0 ≤ s.held) (h5 : s.held ≤ s.hand) :
    Mst { l with st := putS l.st s } (updP H s.sku s.loc s.held) (updP M s.sku s.loc s.hand) :=
  ⟨h.f.put s h1 h2 h3 h4 h5, fun k hk => holdOk_put (h.holds k hk), fun k hk => moveOk_put (h.moves k hk)⟩
theorem Mst.find_eq {l : LV} {H M : Pl} (h : Mst l H M) (sku loc : List UInt8) : findS l.st sku loc = ⟨sku, loc, M sku loc, H sku loc⟩ := by
  obtain ⟨g1, g2, _⟩ := h.f.find sku loc
  obtain ⟨k1, k2⟩ := findS_key l.st sku loc
  cases hs : findS l.st sku loc with
  | mk a b c d => rw [hs] at g1 g2 k1 k2; simp only at g1 g2 k1 k2; rw [g1, g2, k1, k2]
/-- so many more, or fewer, are held -/
theorem Mst.held {l : LV} {H M : Pl} (h : Mst l H M) {sku loc : List UInt8} (h1 : nameOk sku = true) (h2 : nameOk loc = true) {n : Int} (h4 : 0 ≤ H sku loc + n) (h5 : H sku loc + n ≤ M sku loc) :
    Mst (heldL l sku loc n) (updP H sku loc (H sku loc + n)) M ∧ heldL l sku loc n = { l with st := putS l.st ⟨sku, loc, M sku loc, H sku loc + n⟩ } := by
  obtain ⟨g1, g2, g3, g4, g5⟩ := h.f.find sku loc
  have g6 := fits_iff.1 g5
  rw [g2] at g5 g6
  have hw : w64i (H sku loc + n) = H sku loc + n := w64i_eq (fits_iff.2 (by omega))
  have e : heldL l sku loc n = { l with st := putS l.st ⟨sku, loc, M sku loc, H sku loc + n⟩ } := by
    unfold heldL
    rw [h.find_eq]
    simp only [hw]
  have := h.put ⟨sku, loc, M sku loc, H sku loc + n⟩ h1 h2 g5 h4 h5
  rw [e]
  refine ⟨⟨this.f.congr (fun _ _ => rfl) fun a b => ?_, this.holds, this.moves⟩, rfl⟩
  unfold updP
  split
  · rename_i hk; obtain ⟨rfl, rfl⟩ := hk; rfl
  · rfl
/-- so many more, or fewer, are there -/
theorem Mst.moved {l : LV} {H M : Pl} (h : Mst l H M) {sku loc : List UInt8} (h1 : nameOk sku = true) (h2 : nameOk loc = true) {n kind hold : Int} (h3 : fits (M sku loc + n) = true) (h5 : H sku loc ≤ M sku loc + n) (hfn : fits n = true) (hn : n ≠ 0)
    (hk : kind = 1 ∨ kind = 3 ∨ kind = 6 ∨ kind = 7) (hh : 0 ≤ hold) (hh2 : hold ≠ 0 ↔ kind = 3) :
    Mst (movedL l sku loc n kind hold) H (updP M sku loc (M sku loc + n)) ∧ movedL l sku loc n kind hold = { l with st := putS l.st ⟨sku, loc, M sku loc + n, H sku loc⟩, mo := l.mo ++ [⟨(l.mo.length + 1 : Nat), sku, loc, n, kind, hold⟩] } := by
  obtain ⟨g1, g2, g3, g4, g5⟩ := h.f.find sku loc
  rw [g1] at g3
  have hw : w64i (M sku loc + n) = M sku loc + n := w64i_eq h3
  have e : movedL l sku loc n kind hold = { l with st := putS l.st ⟨sku, loc, M sku loc + n, H sku loc⟩, mo := l.mo ++ [⟨(l.mo.length + 1 : Nat), sku, loc, n, kind, hold⟩] } := by
    unfold movedL
    rw [h.find_eq]
    simp only [hw]
  have := h.put ⟨sku, loc, M sku loc + n, H sku loc⟩ h1 h2 h3 g3 h5
  rw [e]
  refine ⟨⟨this.f.congr (fun a b => ?_) (fun _ _ => rfl), fun k hk => this.holds k hk, fun k hk' => ?_⟩, rfl⟩
  · unfold updP
    split
    · rename_i hk; obtain ⟨rfl, rfl⟩ := hk; rfl
    · rfl
  · simp only at hk' ⊢
    by_cases hlt : k < l.mo.length
    · rw [List.getElem_append_left hlt]
      exact this.moves k hlt
    · have hke : k = l.mo.length := by simp at hk'; omega
      subst hke
      rw [List.getElem_append_right (Nat.le_refl _)]
      simp only [Nat.sub_self, List.getElem_cons_zero]
      have hkn : knownL { l with st := putS l.st ⟨sku, loc, M sku loc + n, H sku loc⟩, mo := l.mo ++ [⟨(l.mo.length + 1 : Nat), sku, loc, n, kind, hold⟩] } sku loc = true := known_find.2 ⟨_, putS_self _ _, rfl, rfl⟩
      simp only [moveOk, hkn, h1, h2, hfn, Bool.and_true, Bool.and_eq_true, decide_eq_true_eq, beq_iff_eq]
      refine ⟨⟨⟨⟨by simp, hn⟩, hk⟩, hh⟩, ?_⟩
      simp [hh2]
/-- a hold in another state -/
theorem Mst.state {l : LV} {H M : Pl} (h : Mst l H M) {k : Nat} (hk : k < l.ho.length) {n : Int} (hn : 1 ≤ n ∧ n ≤ 2) : Mst (stateL l k n) H M := by
  unfold stateL
  refine ⟨h.f, fun j hj => ?_, h.moves⟩
  simp only [List.length_set] at hj
  have hg : l.ho.getD k hZ = l.ho[k] := by simp [List.getD, hk]
  simp only [hg]
  by_cases he : k = j
  · subst he
    simp only [List.getElem_set_self]
    have := h.holds k hk
    simp only [holdOk, Bool.and_eq_true, Bool.or_eq_true, decide_eq_true_eq] at this ⊢
    obtain ⟨⟨⟨⟨h1, h2⟩, h3⟩, h4, h5, h6, h7⟩, h8⟩ := this
    exact ⟨⟨⟨⟨h1, h2⟩, h3⟩, h4, by omega, by omega, h7⟩, .inl (by omega)⟩
  · simp only [List.getElem_set_ne he]
    exact h.holds j hj
end Go.Q

/- Plain: each operation leaves a ledger that may be one that may be. -/
set_option linter.unusedVariables false
set_option linter.unusedSimpArgs false
namespace Go.Q
def Good (l : LV) : Prop := Mst l (activeQ l.ho) (movedQ l.mo)
theorem Mst.congr {l : LV} {H M H' M' : Pl} (h : Mst l H M) (hH : ∀ a b, H a b = H' a b) (hM : ∀ a b, M a b = M' a b) : Mst l H' M' := ⟨h.f.congr hH hM, h.holds, h.moves⟩
theorem good_moved {l : LV} (h : Good l) {sku loc : List UInt8} (h1 : nameOk sku = true) (h2 : nameOk loc = true) {n kind hold : Int} (h3 : fits (movedQ l.mo sku loc + n) = true) (h5 : activeQ l.ho sku loc ≤ movedQ l.mo sku loc + n) (hfn : fits n = true) (hn : n ≠ 0)
    (hk : kind = 1 ∨ kind = 3 ∨ kind = 6 ∨ kind = 7) (hh : 0 ≤ hold) (hh2 : hold ≠ 0 ↔ kind = 3) : Good (movedL l sku loc n kind hold) := by
  obtain ⟨g, e⟩ := Mst.moved h h1 h2 h3 h5 hfn hn hk hh hh2
  unfold Good
  refine g.congr (fun a b => ?_) (fun a b => ?_)
  · rw [e]
  · rw [e]
    simp only [movedQ_app, updP]
    split
    · rename_i hk; obtain ⟨rfl, rfl⟩ := hk; rfl
    · simp
theorem act_facts {l : LV} (h : Good l) {k : Nat} (hk : k < l.ho.length) (h0 : l.ho[k].st = 0) :
    nameOk l.ho[k].sku = true ∧ nameOk l.ho[k].loc = true ∧ 1 ≤ l.ho[k].q ∧ l.ho[k].q ≤ activeQ l.ho l.ho[k].sku l.ho[k].loc ∧ activeQ l.ho l.ho[k].sku l.ho[k].loc ≤ movedQ l.mo l.ho[k].sku l.ho[k].loc ∧ fits (movedQ l.mo l.ho[k].sku l.ho[k].loc) = true ∧ w64i (-l.ho[k].q) = -l.ho[k].q ∧ l.ho[k].id = (k + 1 : Nat) := by
  have hh := h.holds k hk
  simp only [holdOk, Bool.and_eq_true, Bool.or_eq_true, decide_eq_true_eq] at hh
  obtain ⟨⟨⟨⟨h1, h2⟩, h3⟩, h4, h5, h6, h7⟩, h8⟩ := hh
  obtain ⟨g1, g2, g3, g4, g5⟩ := h.f.find l.ho[k].sku l.ho[k].loc
  rw [g2] at g5 g4
  rw [g1] at g4
  have hq : l.ho[k].q ≤ activeQ l.ho l.ho[k].sku l.ho[k].loc := by
    have := sum_ge (f := fun x : HV => if x.sku = l.ho[k].sku ∧ x.loc = l.ho[k].loc ∧ x.st = 0 then x.q else 0) (l := l.ho) (fun x hx => ?_) l.ho[k] (List.getElem_mem hk)
    · simpa [h0, activeQ] using this
    · split
      · obtain ⟨j, hj, rfl⟩ := List.getElem_of_mem hx
        have hh := h.holds j hj
        simp only [holdOk, Bool.and_eq_true, decide_eq_true_eq] at hh
        omega
      · exact Int.le_refl _
  have gf := fits_iff.1 g5
  exact ⟨h2, h3, h4, hq, g4, g5, w64i_eq (fits_iff.2 (by omega)), h1⟩
/-- a hold that is active is no more -/
theorem good_over {l : LV} (h : Good l) {k : Nat} (hk : k < l.ho.length) (h0 : l.ho[k].st = 0) {n : Int} (hn : 1 ≤ n ∧ n ≤ 2) :
    Good (stateL (heldL l l.ho[k].sku l.ho[k].loc (-l.ho[k].q)) k n) ∧ (stateL (heldL l l.ho[k].sku l.ho[k].loc (-l.ho[k].q)) k n).ho = l.ho.set k { l.ho[k] with st := n } ∧ (stateL (heldL l l.ho[k].sku l.ho[k].loc (-l.ho[k].q)) k n).mo = l.mo ∧
      (stateL (heldL l l.ho[k].sku l.ho[k].loc (-l.ho[k].q)) k n).ops = l.ops := by
  obtain ⟨f1, f2, f3, f4, f5, f6, f7, f8⟩ := act_facts h hk h0
  obtain ⟨g, e⟩ := Mst.held h f1 f2 (n := -l.ho[k].q) (by omega) (by omega)
  have eh : (heldL l l.ho[k].sku l.ho[k].loc (-l.ho[k].q)).ho = l.ho := rfl
  have g2 := g.state (k := k) (by rw [eh]; exact hk) hn
  have ego : (stateL (heldL l l.ho[k].sku l.ho[k].loc (-l.ho[k].q)) k n).ho = l.ho.set k { l.ho[k] with st := n } := by
    simp [stateL, eh, List.getD, hk]
  refine ⟨?_, ego, rfl, rfl⟩
  unfold Good
  refine g2.congr (fun a b => ?_) (fun a b => rfl)
  rw [ego, activeQ_set hk h0 (by omega)]
  unfold updP
  split
  · rename_i hk; obtain ⟨rfl, rfl⟩ := hk; omega
  · simp
theorem good_commit {l : LV} (h : Good l) {k : Nat} (hk : k < l.ho.length) (h0 : l.ho[k].st = 0) :
    Good (movedL (stateL (heldL l l.ho[k].sku l.ho[k].loc (-l.ho[k].q)) k 1) l.ho[k].sku l.ho[k].loc (-l.ho[k].q) 3 l.ho[k].id) := by
  obtain ⟨f1, f2, f3, f4, f5, f6, f7, f8⟩ := act_facts h hk h0
  obtain ⟨g, e1, e2, _⟩ := good_over h hk h0 (n := 1) (by omega)
  have f6' := fits_iff.1 f6
  refine good_moved g f1 f2 ?_ ?_ (fits_iff.2 (by omega)) (by omega) (.inr (.inl rfl)) (by omega) (by omega)
  · rw [e2]; exact fits_iff.2 (by omega)
  · rw [e1, e2, activeQ_set hk h0 (by omega)]; simp; omega
theorem good_hold {l : LV} (h : Good l) {sku loc : List UInt8} (h1 : nameOk sku = true) (h2 : nameOk loc = true) {q due : Int} (hq : 1 ≤ q) (hd : 0 ≤ due) (hf : activeQ l.ho sku loc + q ≤ movedQ l.mo sku loc) :
    Good { heldL l sku loc q with ho := l.ho ++ [⟨(l.ho.length + 1 : Nat), sku, loc, q, 0, due⟩] } := by
  obtain ⟨g1, g2, g3, g4, g5⟩ := h.f.find sku loc
  rw [g1] at g3
  obtain ⟨g, e⟩ := Mst.held h h1 h2 (n := q) (by omega) hf
  rw [e] at g ⊢
  refine ⟨g.f.congr (fun a b => ?_) (fun a b => rfl), fun k hk => ?_, fun k hk => g.moves k hk⟩
  · simp only [activeQ_app, updP]
    split
    · rename_i hk; obtain ⟨rfl, rfl⟩ := hk; simp
    · rename_i hk
      rw [if_neg (fun hh => hk ⟨hh.1, hh.2.1⟩)]; simp
  · simp only at hk ⊢
    by_cases hlt : k < l.ho.length
    · rw [List.getElem_append_left hlt]
      exact g.holds k hlt
    · have hke : k = l.ho.length := by simp at hk; omega
      subst hke
      rw [List.getElem_append_right (Nat.le_refl _)]
      simp only [Nat.sub_self, List.getElem_cons_zero]
      have hkn : knownL { l with st := putS l.st ⟨sku, loc, movedQ l.mo sku loc, activeQ l.ho sku loc + q⟩, ho := l.ho ++ [⟨(l.ho.length + 1 : Nat), sku, loc, q, 0, due⟩] } sku loc = true := known_find.2 ⟨_, putS_self _ _, rfl, rfl⟩
      simp only [holdOk, hkn, h1, h2, Bool.and_true, Bool.or_true, Bool.and_eq_true, decide_eq_true_eq]
      exact ⟨by simp, hq, by omega, by omega, hd⟩
theorem expireL_good (due : Int) : ∀ (m : Nat) (l : LV) (i : Nat), Good l → i + m ≤ l.ho.length → Good (expireL l due i m) ∧ (expireL l due i m).ho.length = l.ho.length ∧ (expireL l due i m).mo = l.mo ∧ (expireL l due i m).ops = l.ops := by
  intro m
  induction m with
  | zero => intro l i h _; exact ⟨h, rfl, rfl, rfl⟩
  | succ m ih =>
    intro l i h hi
    unfold expireL
    have hil : i < l.ho.length := by omega
    have hg : l.ho.getD i hZ = l.ho[i] := by simp [List.getD, hil]
    simp only [hg]
    split
    · rename_i hd
      simp only [dueL, decide_eq_true_eq] at hd
      obtain ⟨f1, f2, f3, f4, f5, f6, f7, f8⟩ := act_facts h hil hd.1
      rw [f7]
      obtain ⟨g, e1, e2, e3⟩ := good_over h hil hd.1 (n := 2) (by omega)
      obtain ⟨k1, k2, k3, k4⟩ := ih _ (i + 1) g (by rw [e1]; simp; omega)
      exact ⟨k1, by rw [k2, e1]; simp, by rw [k3, e2], by rw [k4, e3]⟩
    · exact ih l (i + 1) h (by omega)
theorem numO_ok {n : Int} (h : (numO n).2 = 0) : fits n = true ∧ (numO n).1 = n := by
  unfold numO at h ⊢
  split at h
  · rename_i hf; rw [if_pos hf]; exact ⟨hf, rfl⟩
  · simp at h
theorem doesL_good {l : LV} (h : Good l) {o : OpV} (ho : o.ok = true) (hw : o.Wf) (he : (doesL l o).2 = 0) : Good (doesL l o).1 ∧ (doesL l o).1.ops = l.ops := by
  obtain ⟨g1, g2, g3, g4, g5⟩ := h.f.find o.sku o.loc
  have hfree : freeL l o.sku o.loc = movedQ l.mo o.sku o.loc - activeQ l.ho o.sku o.loc := by
    unfold freeL numO
    have := fits_iff.1 g5
    rw [if_pos (fits_iff.2 (by omega)), g1, g2]
  unfold OpV.ok at ho
  unfold doesL at he ⊢
  simp only [g1, g2, moreL, hfree] at he ⊢
  by_cases h1 : o.k = 1
  · simp only [h1, if_pos, true_or, Bool.and_eq_true, decide_eq_true_eq] at ho he ⊢
    split at he
    · rename_i hn; exact absurd he hn
    · rename_i hn
      obtain ⟨n1, n2⟩ := numO_ok (Decidable.not_not.1 hn)
      split at he
      · simp at he
      · rename_i hlt
        rw [if_neg hn, if_neg hlt]
        rw [n2] at hlt
        exact ⟨good_moved h ho.1.1 ho.1.2 n1 (by omega) (fits_iff.2 (by have := hw.q0; have := hw.q1; omega)) (by omega) (.inl rfl) (by omega) (by omega), rfl⟩
  by_cases h7 : o.k = 7
  · simp only [h7, if_pos, or_true, Bool.and_eq_true, decide_eq_true_eq] at ho he ⊢
    simp at ho
    split at he
    · rename_i hn; exact absurd he hn
    · rename_i hn
      obtain ⟨n1, n2⟩ := numO_ok (Decidable.not_not.1 hn)
      split at he
      · simp at he
      · rename_i hlt
        rw [if_neg hn, if_neg hlt]
        rw [n2] at hlt
        exact ⟨good_moved h ho.1.1 ho.1.2 n1 (by omega) (fits_iff.2 (by have := hw.q0; have := hw.q1; omega)) (by omega) (by simp) (by omega) (by omega), rfl⟩
  rw [if_neg (by omega)] at he ⊢
  by_cases h2 : o.k = 2
  · simp only [h2, if_true] at he ⊢
    simp [h2] at ho
    split at he
    · simp at he
    · rename_i hlt
      rw [if_neg hlt]
      exact ⟨good_hold h ho.1.1 ho.1.2 ho.2.2.1 ho.2.2.2.2 (by omega), rfl⟩
  rw [if_neg h2] at he ⊢
  by_cases h5 : o.k = 5
  · simp only [h5, if_true] at he ⊢
    obtain ⟨k1, k2, k3, k4⟩ := expireL_good o.due l.ho.length l 0 h (by omega)
    exact ⟨k1, k4⟩
  rw [if_neg h5] at he ⊢
  by_cases h6 : o.k = 6
  · simp only [h6, if_true] at he ⊢
    simp [h6] at ho
    obtain ⟨⟨⟨n1, n2⟩, n3⟩, n4, n5, n6, n7⟩ := ho
    split at he
    · simp at he
    · rename_i hlt
      rw [if_neg hlt]
      split at he
      · rename_i hn; exact absurd he hn
      · rename_i hn
        rw [if_neg hn]
        obtain ⟨m1, m2⟩ := numO_ok (Decidable.not_not.1 hn)
        obtain ⟨t1, t2, t3, t4, t5⟩ := h.f.find o.sku o.to
        rw [t2] at m1
        rw [t1] at t3 t4
        rw [t2] at t4
        have gf := fits_iff.1 g5
        have hq : w64i (-o.q) = -o.q := w64i_eq (fits_iff.2 (by have := hw.q0; have := hw.q1; omega))
        rw [hq]
        have a1 : Good (movedL l o.sku o.loc (-o.q) 6 0) := good_moved h n1 n2 (fits_iff.2 (by omega)) (by omega) (fits_iff.2 (by have := hw.q0; have := hw.q1; omega)) (by omega) (by simp) (by omega) (by omega)
        have em : movedQ (movedL l o.sku o.loc (-o.q) 6 0).mo o.sku o.to = movedQ l.mo o.sku o.to := by
          show movedQ (l.mo ++ [_]) o.sku o.to = _
          rw [movedQ_app, if_neg (fun hh => n4 hh.2.symm)]; simp
        refine ⟨good_moved a1 n1 n3 (by rw [em]; exact m1) ?_ (fits_iff.2 (by have := hw.q0; have := hw.q1; omega)) (by omega) (by simp) (by omega) (by omega), rfl⟩
        rw [em]
        show activeQ l.ho o.sku o.to ≤ _
        omega
  rw [if_neg h6] at he ⊢
  by_cases h34 : o.k = 3 ∨ o.k = 4
  · simp [h1, h2, h34] at ho
    unfold overL at he ⊢
    split at he
    · simp at he
    · rename_i hc
      rw [if_neg hc]
      rw [not_or] at hc
      have hlt : (o.id - 1).toNat < l.ho.length := by omega
      have hg : holdAt l o.id = l.ho[(o.id - 1).toNat] := by simp only [holdAt, List.getD, List.getElem?_eq_getElem hlt, Option.getD_some]
      simp only [hg] at hc ⊢
      have h0 : l.ho[(o.id - 1).toNat].st = 0 := Decidable.not_not.1 hc.2
      obtain ⟨f1, f2, f3, f4, f5, f6, f7, f8⟩ := act_facts h hlt h0
      rw [f7]
      split
      · exact ⟨(good_over h hlt h0 (n := 2) (by omega)).1, rfl⟩
      · have h3 : o.k = 3 := by omega
        rw [h3]
        exact ⟨good_commit h hlt h0, rfl⟩
  · simp [h1, h2, h34, h5, h6, h7] at ho
theorem stepL_may {l : LV} (h : May l) {o : OpV} (hw : o.Wf) : May (stepL l o).1 := by
  unfold stepL
  split
  · exact h
  · rename_i ho
    split
    · exact h
    · rename_i he
      split
      · exact h
      · rename_i hf
        rw [not_or] at hf
        obtain ⟨g, e⟩ := doesL_good h.m (by simpa using ho) hw (Decidable.not_not.1 he)
        have hops := h.ops
        exact Mst.may (l := { (doesL l o).1 with ops := l.ops + 1 }) ⟨g.f, g.holds, g.moves⟩ (by show 0 ≤ l.ops + 1; omega) (by show fullL (doesL l o).1 = false; simpa using hf.1)
end Go.Q

/- Rules for sums of many numbers. -/
set_option linter.unusedVariables false
set_option linter.unusedSimpArgs false
namespace Go.Q
open Go
variable {P : Program} {T : TypeId} {xo yo : Operand} {w : World} {K : Value → Prop} {u : Value}
theorem neg_of {k : IntKind} {x : Int} : qG P (Op.unary .neg (.int k x)) w K = K (.int k (k.wrap (-x))) := qG_of (show (Op.unary .neg (.int k x)).run P w = .ok (.int k (k.wrap (-x))) w by rw [← Int.zero_sub]; rfl)
theorem numO_fit {s : Int} (h : fits s = true) : numO s = (s, 0) := by unfold numO; rw [if_pos h]
theorem numO_unfit {s : Int} (h : fits s = false) : numO s = (0, 10) := by unfold numO; rw [if_neg (by simp [h])]
theorem sum_take {ks : List Int} {i : Nat} (h : i < ks.length) : (ks.take (i + 1)).sum = (ks.take i).sum + ks[i] := by
  rw [List.take_succ_eq_append_getElem h, List.sum_append]; simp
theorem sum_bound : ∀ {ks : List Int}, (∀ x ∈ ks, -9223372036854775808 ≤ x ∧ x < 9223372036854775808) → -9223372036854775808 * ks.length ≤ ks.sum ∧ ks.sum ≤ 9223372036854775808 * ks.length := by
  intro ks
  induction ks with
  | nil => intro _; simp
  | cons x r ih =>
    intro h
    have h1 := h x (by simp)
    have h2 := ih fun y hy => h y (by simp [hy])
    simp only [List.sum_cons, List.length_cons]
    omega
theorem nG_add64 {f : FuncId} {fn : Func} (hf : P.funcs[f]? = some fn) (hname : (fn.name == "runtime.NumGoroutine") = false) (hb : fn.body.isNone = true) (hn : Extern.findNext fn = none) (he : Extern.find fn = some add64Entry) {x y : Int} (hx : 0 ≤ x) (hy : 0 ≤ y)
    {K : Value → World → Prop} (hK : K (.tuple #[.int .u64 ((x + y) % 18446744073709551616), .int .u64 ((x + y) / 18446744073709551616)]) w) : nG P (callFunc f #[.int .u64 x, .int .u64 y, .int .u64 0]) w K := by
  refine ⟨_, w, ?_, hK⟩
  rw [run_callFunc_extern hf hname hb hn he, run_add64 x y 0 hx hy (by omega) (by omega)]
  simp [Result.andThen]
end Go.Q

/- Layer 7: sums and differences: the program's and the document's. -/
set_option linter.unusedVariables false
set_option linter.unusedSimpArgs false
namespace Go.Proofs
open Go Go.Q
def rngI (x : Int) : Prop := -9223372036854775808 ≤ x ∧ x < 9223372036854775808
theorem fits_rng {x : Int} : fits x = true ↔ rngI x := by rw [fits_iff]; unfold rngI; omega
theorem wrapO {s : Int} (h : -18446744073709551616 ≤ s) (h2 : s < 18446744073709551616) : rngI (IntKind.i64.wrap s) ∧ (IntKind.i64.wrap s = s ∨ IntKind.i64.wrap s = s + 18446744073709551616 ∨ IntKind.i64.wrap s = s - 18446744073709551616) := by
  unfold rngI
  simp [IntKind.wrap, IntKind.bits, IntKind.signed]
  omega
theorem numO_cases (s : Int) : (fits s = true ∧ numO s = (s, 0)) ∨ (¬(-9223372036854775808 ≤ s ∧ s ≤ 9223372036854775807) ∧ numO s = (0, 10)) := by
  cases hf : fits s with
  | true => exact .inl ⟨rfl, numO_fit hf⟩
  | false =>
    refine .inr ⟨fun h => ?_, numO_unfit hf⟩
    rw [fits_iff.2 h] at hf
    cases hf
theorem numAdd_spec {w : World} {a b : Int} (ha : rngI a) (hb : rngI b) {K : Value → World → Prop} (hK : K (.tuple #[.int .i64 (numO (a + b)).1, .int .i64 (numO (a + b)).2]) w) : callG Try.prog 120 #[.int .i64 a, .int .i64 b] w K := by
  refine num_Add_call ?_
  unfold num_Add num_Add_s0
  unfold rngI at ha hb
  obtain ⟨h1, h2⟩ := wrapO (s := a + b) (by omega) (by omega)
  unfold rngI at h1
  simp [-getElem?_pos, -Array.all_eq_true, -Array.getElem?_eq_getElem, -List.length_flatten, List.getElem?_cons_zero, List.getElem?_cons_succ, ]
  generalize IntKind.i64.wrap (a + b) = t at *
  rcases numO_cases (a + b) with ⟨hf, e⟩ | ⟨hf, e⟩
  · rw [e] at hK
    have hf := fits_iff.1 hf
    have ht : t = a + b := by omega
    subst ht
    repeat' (first | exact hK | refine And.intro ?_ ?_ | intro _ | (exfalso; omega))
  · rw [e] at hK
    repeat' (first | exact hK | refine And.intro ?_ ?_ | intro _ | (exfalso; omega))
theorem numSub_spec {w : World} {a b : Int} (ha : rngI a) (hb : rngI b) {K : Value → World → Prop} (hK : K (.tuple #[.int .i64 (numO (a - b)).1, .int .i64 (numO (a - b)).2]) w) : callG Try.prog 75 #[.int .i64 a, .int .i64 b] w K := by
  refine num_Sub_call ?_
  unfold num_Sub num_Sub_s0
  unfold rngI at ha hb
  obtain ⟨h1, h2⟩ := wrapO (s := a - b) (by omega) (by omega)
  unfold rngI at h1
  simp [-getElem?_pos, -Array.all_eq_true, -Array.getElem?_eq_getElem, -List.length_flatten, List.getElem?_cons_zero, List.getElem?_cons_succ, ]
  generalize IntKind.i64.wrap (a - b) = t at *
  rcases numO_cases (a - b) with ⟨hf, e⟩ | ⟨hf, e⟩
  · rw [e] at hK
    have hf := fits_iff.1 hf
    have ht : t = a - b := by omega
    subst ht
    repeat' (first | exact hK | refine And.intro ?_ ?_ | intro _ | (exfalso; omega))
  · rw [e] at hK
    repeat' (first | exact hK | refine And.intro ?_ ?_ | intro _ | (exfalso; omega))
/-! ### the program's sum -/
theorem nG106 {w : World} {x y : Int} (hx : 0 ≤ x) (hy : 0 ≤ y) {K : Value → World → Prop} (hK : K (.tuple #[.int .u64 ((x + y) % 18446744073709551616), .int .u64 ((x + y) / 18446744073709551616)]) w) : nG Try.prog (callFunc 106 #[.int .u64 x, .int .u64 y, .int .u64 0]) w K :=
  nG_add64 Try.func106 (by kernel_rfl) (by kernel_rfl) (by kernel_rfl) (by kernel_rfl) hx hy hK
theorem wrapU (x : Int) : IntKind.u64.wrap x = x % 18446744073709551616 := by simp [IntKind.wrap, IntKind.bits, IntKind.signed]
theorem Sum_spec {w : World} {v : Value} {ks : List Int} (hr : Rd w v 1 (ks.map intV)) (hk : ∀ x ∈ ks, rngI x) (hl : ks.length ≤ 1000000) {K : Value → World → Prop} (hK : K (.tuple #[.int .i64 (numO ks.sum).1, .int .i64 (numO ks.sum).2]) w) : callG Try.prog 92 #[v] w K := by
  refine num_Sum_call ?_
  unfold num_Sum num_Sum_s4 num_Sum_s3 num_Sum_L2
  rw [hr.lenL, List.length_map]
  refine loop_inv (fun m xs wi => ∃ i, i ≤ ks.length ∧ m = ks.length - i ∧ xs = [.int .u64 ((ks.take i).sum / 18446744073709551616 % 18446744073709551616), .int .u64 ((ks.take i).sum % 18446744073709551616), v, .int .i64 ks.length, .int .i64 (i : Nat)] ∧ wi = w) ?_ (m := ks.length) ⟨0, by omega, rfl, by simp, rfl⟩
  rintro m N xs wi ⟨i, hi, rfl, rfl, rfl⟩ hN
  have hiw : IntKind.i64.wrap ((i : Int) + 1) = ((i + 1 : Nat) : Int) := by rw [w64 (by omega) (by omega)]; simp
  unfold num_Sum_L2F num_Sum_b1
  simp [-getElem?_pos, -Array.all_eq_true, -Array.getElem?_eq_getElem, -List.length_flatten, List.getElem?_cons_zero, List.getElem?_cons_succ, ]
  refine ⟨fun hlt => ?_, fun hge => ?_⟩
  · obtain ⟨p, hp1, hp2⟩ := hr.one (i := i) (by simpa using hlt) (x := .int .i64 ks[i]) (by simp [intV])
    have hp1' : ∀ K : Value → Prop, ia 1 v (.int .i64 i) K = K p := fun K => hp1 .i64 K
    have hki := hk ks[i] (List.getElem_mem hlt)
    unfold rngI at hki
    obtain ⟨S, hS⟩ : ∃ S, S = (ks.take i).sum := ⟨_, rfl⟩
    have hS' := sum_take hlt
    rw [← hS] at hS' ⊢
    simp [-getElem?_pos, -Array.all_eq_true, -Array.getElem?_eq_getElem, -List.length_flatten, List.getElem?_cons_zero, List.getElem?_cons_succ, hp1', hp2, wrapU]
    refine nG106 (by omega) (by omega) ?_
    simp [-getElem?_pos, -Array.all_eq_true, -Array.getElem?_eq_getElem, -List.length_flatten, List.getElem?_cons_zero, List.getElem?_cons_succ, ]
    rw [shr_of (by omega) (by decide)]
    simp [-getElem?_pos, -Array.all_eq_true, -Array.getElem?_eq_getElem, -List.length_flatten, List.getElem?_cons_zero, List.getElem?_cons_succ, wrapU]
    refine hN (ks.length - (i + 1)) _ wi (by omega) ⟨i + 1, by omega, rfl, ?_, rfl⟩
    rw [hS', hiw]
    congr 2
    · congr 1
      omega
  · have hie : i = ks.length := by omega
    subst hie
    rw [List.take_length]
    unfold num_Sum_s0
    have hb := sum_bound (ks := ks) (fun x hx => hk x hx)
    simp [-getElem?_pos, -Array.all_eq_true, -Array.getElem?_eq_getElem, -List.length_flatten, List.getElem?_cons_zero, List.getElem?_cons_succ, ]
    rw [shr_of (by omega) (by decide)]
    obtain ⟨S, hS⟩ : ∃ S, S = ks.sum := ⟨_, rfl⟩
    rw [← hS] at hK hb ⊢
    have hw : rngI (IntKind.i64.wrap (S % 18446744073709551616)) ∧ (IntKind.i64.wrap (S % 18446744073709551616) = S % 18446744073709551616 ∨ IntKind.i64.wrap (S % 18446744073709551616) = S % 18446744073709551616 - 18446744073709551616) := by
      unfold rngI
      simp [IntKind.wrap, IntKind.bits, IntKind.signed]
      omega
    unfold rngI at hw
    simp [-getElem?_pos, -Array.all_eq_true, -Array.getElem?_eq_getElem, -List.length_flatten, List.getElem?_cons_zero, List.getElem?_cons_succ, wrapU]
    generalize IntKind.i64.wrap (S % 18446744073709551616) = t at *
    rcases numO_cases S with ⟨hf, e⟩ | ⟨hf, e⟩
    · rw [e] at hK
      have hf := fits_iff.1 hf
      have ht : t = S := by omega
      subst ht
      repeat' (first | exact hK | refine And.intro ?_ ?_ | intro _ | (exfalso; omega))
    · rw [e] at hK
      have q1 : -1000000 ≤ S / 18446744073709551616 ∧ S / 18446744073709551616 ≤ 1000000 := by omega
      have t1 : t / 9223372036854775808 = 0 ∨ t / 9223372036854775808 = -1 := by omega
      have main : S / 18446744073709551616 % 18446744073709551616 = t / 9223372036854775808 % 18446744073709551616 → False := by
        intro h
        have q2 : S / 18446744073709551616 = 0 ∨ S / 18446744073709551616 = -1 := by
          generalize S / 18446744073709551616 = q at *
          generalize t / 9223372036854775808 = u at *
          omega
        generalize hq : S / 18446744073709551616 = q at *
        rcases q2 with rfl | rfl <;> rcases t1 with t1 | t1 <;> rw [t1] at h <;> omega
      repeat' (first | exact hK | refine And.intro ?_ ?_ | intro _ | (exfalso; exact main (by assumption)))
/-! ### the document's -/
end Go.Proofs

/- The library's comparing of texts: the order of their bytes. -/
set_option linter.unusedVariables false
set_option linter.unusedSimpArgs false
namespace Go.Q
open Go
def cmpL (a b : List UInt8) : Int := if lexL a b = true then -1 else if lexL b a = true then 1 else 0
theorem cmpL_zero {a b : List UInt8} : cmpL a b = 0 ↔ a = b := by
  unfold cmpL
  constructor
  · intro h
    split at h
    · simp at h
    · split at h
      · simp at h
      · rename_i h1 h2
        exact lexL_tri (by simpa using h1) (by simpa using h2)
  · rintro rfl
    simp [lexL_irrefl]
theorem lexL_pre : ∀ {a b : List UInt8}, (∀ i, i < min a.length b.length → a.getD i 0 = b.getD i 0) → lexL a b = decide (a.length < b.length) := by
  intro a
  induction a with
  | nil => intro b h; cases b <;> rfl
  | cons x a ih =>
    intro b h
    cases b with
    | nil => rfl
    | cons y b =>
      have h0 := h 0 (by simp)
      simp at h0
      subst h0
      rw [lexL_cons, ih (fun i hi => by have := h (i + 1) (by simp at hi ⊢; omega); simpa using this)]
      simp
theorem lexL_diff : ∀ {i : Nat} {a b : List UInt8}, i < min a.length b.length → (∀ j, j < i → a.getD j 0 = b.getD j 0) → a.getD i 0 ≠ b.getD i 0 → lexL a b = decide (a.getD i 0 < b.getD i 0) := by
  intro i
  induction i with
  | zero =>
    intro a b hi _ hne
    cases a with
    | nil => simp at hi
    | cons x a =>
      cases b with
      | nil => simp at hi
      | cons y b =>
        simp at hne ⊢
        rw [lexL_cons]
        simp [hne]
  | succ i ih =>
    intro a b hi h hne
    cases a with
    | nil => simp at hi
    | cons x a =>
      cases b with
      | nil => simp at hi
      | cons y b =>
        have h0 := h 0 (by omega)
        simp at h0
        subst h0
        rw [lexL_cons, ih (by simp at hi ⊢; omega) (fun j hj => by have := h (j + 1) (by omega); simpa using this) (by simpa using hne)]
        simp
theorem str_get (l : List UInt8) (i : Nat) : (str l)[i]! = l.getD i 0 := by
  by_cases h : i < (str l).size
  · rw [getElem!_pos (str l) i h]
    have hl : i < l.length := by simpa using h
    simp only [List.getD, List.getElem?_eq_getElem hl, Option.getD_some]
    show (str l).data[i] = _
    simp [str]
  · rw [getElem!_neg (str l) i h]
    have hl : ¬ i < l.length := by simpa using h
    simp only [List.getD, List.getElem?_eq_none (Nat.le_of_not_lt hl), Option.getD_none]
    rfl
theorem cmp_eq (a b : List UInt8) : Extern.BytealgCompare.cmp (str a) (str b) = cmpL a b := by
  unfold Extern.BytealgCompare.cmp
  simp only [str_get, str_size]
  cases hf : (List.range (min a.length b.length)).find? (fun i => a.getD i 0 != b.getD i 0) with
  | some i =>
    rw [List.find?_range_eq_some] at hf
    obtain ⟨h1, h2, h3⟩ := hf
    have hi : i < min a.length b.length := by simpa using h2
    have hne : a.getD i 0 ≠ b.getD i 0 := by simpa using h1
    have hl : ∀ j, j < i → a.getD j 0 = b.getD j 0 := fun j hj => by have := h3 j hj; simpa using this
    have e1 := lexL_diff hi hl hne
    have e2 := lexL_diff (a := b) (b := a) (by omega) (fun j hj => (hl j hj).symm) (Ne.symm hne)
    unfold cmpL
    rw [e1, e2]
    clear e1 e2 hl h1 h3
    simp only
    generalize a.getD i 0 = p at *
    generalize b.getD i 0 = q at *
    by_cases hc : p < q
    · simp [hc]
    · have : q < p := by
        rcases UInt8.lt_or_lt_of_ne hne with h | h
        · exact absurd h hc
        · exact h
      simp [hc, this]
  | none =>
    rw [List.find?_eq_none] at hf
    have hl : ∀ i, i < min a.length b.length → a.getD i 0 = b.getD i 0 := fun i hi => by have := hf i (by simpa using hi); simpa using this
    unfold cmpL
    rw [lexL_pre hl, lexL_pre (a := b) (b := a) (fun i hi => (hl i (by omega)).symm)]
    by_cases h1 : a.length < b.length
    · simp [h1]
    · by_cases h2 : b.length < a.length
      · simp [h1, h2]
      · simp [h1, h2]
theorem nG_cmp {P : Program} {w : World} {f : FuncId} {fn : Func} (hf : P.funcs[f]? = some fn) (hname : (fn.name == "runtime.NumGoroutine") = false) (hb : fn.body.isNone = true) (hn : Extern.findNext fn = none) (he : Extern.find fn = some Extern.BytealgCompare.compare) (a b : List UInt8)
    {K : Value → World → Prop} (hK : K (.int .i64 (cmpL a b)) w) : nG P (callFunc f #[.string (str a), .string (str b)]) w K := by
  refine ⟨_, w, ?_, hK⟩
  rw [run_callFunc_extern hf hname hb hn he]
  have : (Extern.BytealgCompare.compare #[.string (str a), .string (str b)]).run P w = .ok (.int .i64 (Extern.BytealgCompare.cmp (str a) (str b))) w := rfl
  rw [this, cmp_eq]
  rfl
/-- which of two places stands first: below 0 the first -/
def ordL (s l s' l' : List UInt8) : Int := if cmpL s s' ≠ 0 then cmpL s s' else cmpL l l'
theorem ordL_neg {a b : SV} : (ordL a.sku a.loc b.sku b.loc < 0) ↔ ahead a b = true := by
  unfold ordL ahead
  by_cases h : a.sku = b.sku
  · have h0 := cmpL_zero.2 h
    rw [if_neg (by simp [h0])]
    simp only [h, lexL_irrefl, Bool.false_or, decide_true, Bool.true_and]
    unfold cmpL
    split
    · simp_all
    · split <;> simp_all
  · have h0 : cmpL a.sku b.sku ≠ 0 := fun hh => h (cmpL_zero.1 hh)
    rw [if_pos h0]
    simp only [h, decide_false, Bool.false_and, Bool.or_false]
    unfold cmpL
    split
    · simp_all
    · split <;> simp_all
theorem ordL_zero {s l s' l' : List UInt8} : ordL s l s' l' = 0 ↔ s = s' ∧ l = l' := by
  unfold ordL
  by_cases h : s = s'
  · have h0 := cmpL_zero.2 h
    rw [if_neg (by simp [h0]), cmpL_zero]
    simp [h]
  · have h0 : cmpL s s' ≠ 0 := fun hh => h (cmpL_zero.1 hh)
    rw [if_pos h0]
    simp [h, h0]
end Go.Q

/- Maps whose keys are pairs of texts: what each operation does. -/
set_option linter.unusedVariables false
set_option linter.unusedSimpArgs false
namespace Go.Q
open Go
structure ME where
  a : List UInt8
  b : List UInt8
  v : Value
def keyV (a b : List UInt8) : Value := .agg #[.string (str a), .string (str b)]
def entsFrom : Nat → List ME → List MapEntry
  | _, [] => []
  | i, e :: r => ⟨keyV e.a e.b, e.v, i⟩ :: entsFrom (i + 1) r
/-- a map's entries, in the order in which they came -/
def MapIs (w : World) (n : Nat) (m : List ME) : Prop := w.heap[n]? = some (.map (entsFrom 0 m).toArray m.length)
/-- what is asked of the types of a map -/
structure MapT (P : Program) (T kt et : TypeId) (z : Value) : Prop where
  hm : P.underlying T = some (.map kt et)
  wide : (match P.underlying kt with | some (.array _ _) | some (.struct _) => true | _ => false) = true
  ck : ∀ e a b w, (Instr.checkKey e 10000 kt (keyV a b)).run P w = .ok () w
  eq : ∀ a b c d w, (Op.equal kt (keyV a b) (keyV c d)).run P w = .ok (decide (a = c ∧ b = d)) w
  zv : ∀ w, (zeroValue et).run P w = .ok z w
def findE (a b : List UInt8) : List ME → Nat → Option (Nat × Value)
  | [], _ => none
  | e :: r, i => if a = e.a ∧ b = e.b then some (i, e.v) else findE a b r (i + 1)
section
variable {P : Program} {T kt et : TypeId} {z : Value} {w : World} {n : Nat} {m : List ME} {a b : List UInt8}
theorem MapIs.keep {w' : World} {S : List Nat} (h : MapIs w n m) (hk : Kp S w w') (hn : n ∉ S) : MapIs w' n m := hk.get h hn
theorem ents_get : ∀ (m : List ME) (i j : Nat) (h : j < m.length), (entsFrom i m)[j]? = some ⟨keyV m[j].a m[j].b, m[j].v, i + j⟩ := by
  intro m
  induction m with
  | nil => intro i j h; simp at h
  | cons e r ih =>
    intro i j h
    cases j with
    | zero => rfl
    | succ j =>
      have := ih (i + 1) j (by simpa using h)
      simp only [entsFrom, List.getElem?_cons_succ, this, List.getElem_cons_succ]
      congr 2; omega
theorem ents_app : ∀ (m : List ME) (i : Nat) (e : ME), entsFrom i (m ++ [e]) = entsFrom i m ++ [⟨keyV e.a e.b, e.v, i + m.length⟩] := by
  intro m
  induction m with
  | nil => intro i e; rfl
  | cons x r ih =>
    intro i e
    simp only [List.cons_append, entsFrom, ih, List.length_cons]
    congr 4; omega
theorem asking (h : MapT P T kt et z) : ∀ (m : List ME) (i j : Nat), (Instr.findAsking kt (keyV a b) (entsFrom i m) j).run P w = .ok (findE a b m j) w := by
  intro m
  induction m with
  | nil => intro i j; rfl
  | cons e r ih =>
    intro i j
    simp only [entsFrom, Instr.findAsking, Sem.run_bind, h.eq, Result.andThen_ok, findE]
    by_cases hc : a = e.a ∧ b = e.b
    · simp [hc, Sem.run, pure]
    · simp [hc, ih]
theorem finding (h : MapT P T kt et z) : (Instr.findKey kt (keyV a b) (entsFrom 0 m)).run P w = .ok (findE a b m 0) w := by
  rw [run_findKey_eq w h.wide, asking h]
theorem getO (hm : MapIs w n m) : (getObj n).run P w = .ok (.map (entsFrom 0 m).toArray m.length) w := by
  unfold MapIs at hm
  simp [getObj, Sem.run, hm]
theorem setO {o : Obj} (hm : MapIs w n m) : (setObj n o).run P w = .ok () (setBlk w n o) := by
  unfold MapIs at hm
  simp [setObj, Sem.run, hm, setBlk]
theorem eG_of {s : Sem Value} {w w' : World} {v : Value} {K : Value → World → Prop} (h : s.run P w = .ok v w') (hK : K v w') : eG P s w K := ⟨v, w', h, hK⟩
theorem uG_of {s : Sem Unit} {w w' : World} {K : World → Prop} (h : s.run P w = .ok () w') (hK : K w') : uG P s w K := ⟨w', h, hK⟩
/-- a new map -/
theorem map_new {K : Value → World → Prop} (hK : MapIs (w.alloc (.map #[] 0)) w.heap.size [] → K (.map (some w.heap.size)) (w.alloc (.map #[] 0))) : eG P (Instr.makeMap T none) w K :=
  eG_of (v := .map (some w.heap.size)) (w' := w.alloc (.map #[] 0)) rfl (hK heap_new)
theorem lookup_run (h : MapT P T kt et z) (hm : MapIs w n m) (ok : Bool) :
    (Instr.lookup T (.map (some n)) (keyV a b) ok).run P w = .ok (if ok = true then .tuple #[((findE a b m 0).map (·.2)).getD z, .bool (findE a b m 0).isSome] else ((findE a b m 0).map (·.2)).getD z) w := by
  have hf : (Instr.findKey kt (keyV a b) (entsFrom 0 m).toArray.toList).run P w = .ok (findE a b m 0) w := finding h
  have hp : ∀ x : Array MapEntry, (pure x : Sem (Array MapEntry)).run P w = .ok x w := fun _ => rfl
  simp only [Instr.lookup, Sem.run_bind, run_underlying h.hm, Result.andThen_ok, getO hm, h.ck, hp, hf]
  cases findE a b m 0 with
  | none =>
    simp only [Sem.run_bind, h.zv, Result.andThen_ok]
    cases ok <;> rfl
  | some x =>
    obtain ⟨i, v⟩ := x
    cases ok <;> rfl
theorem map_get (h : MapT P T kt et z) (hm : MapIs w n m) {K : Value → Prop} (hK : K (((findE a b m 0).map (·.2)).getD z)) : qG P (Instr.lookup T (.map (some n)) (keyV a b) false) w K := by
  rw [qG_of (lookup_run h hm false)]; exact hK
theorem map_get2 (h : MapT P T kt et z) (hm : MapIs w n m) {K : Value → Prop} (hK : K (.tuple #[((findE a b m 0).map (·.2)).getD z, .bool (findE a b m 0).isSome])) : qG P (Instr.lookup T (.map (some n)) (keyV a b) true) w K := by
  rw [qG_of (lookup_run h hm true)]; exact hK
theorem findE_none : ∀ {m : List ME} {k : Nat}, findE a b m k = none ↔ ∀ e ∈ m, ¬(a = e.a ∧ b = e.b) := by
  intro m
  induction m with
  | nil => intro k; simp [findE]
  | cons e r ih =>
    intro k
    unfold findE
    split
    · rename_i hc; simp [hc]
    · rename_i hc; rw [ih]; simp only [List.mem_cons, forall_eq_or_imp]; exact ⟨fun h => ⟨hc, h⟩, fun h => h.2⟩
/-- where each key stands once, it is found where it stands -/
theorem findE_at : ∀ {m : List ME} {k i : Nat} (h : i < m.length), (∀ j (hj : j < m.length), j ≠ i → ¬(m[j].a = m[i].a ∧ m[j].b = m[i].b)) → findE m[i].a m[i].b m k = some (k + i, m[i].v) := by
  intro m
  induction m with
  | nil => intro k i h; simp at h
  | cons e r ih =>
    intro k i h hu
    unfold findE
    cases i with
    | zero => simp
    | succ i =>
      have h0 := hu 0 (by simp) (by omega)
      simp only [List.getElem_cons_zero, List.getElem_cons_succ] at h0 ⊢
      rw [if_neg (fun hh => h0 ⟨hh.1.symm, hh.2.symm⟩), ih (k := k + 1) (by simpa using h) (fun j hj hne => by have := hu (j + 1) (by simpa using hj) (by omega); simpa using this)]
      congr 2; omega
theorem ents_modify : ∀ (m : List ME) (i j : Nat) (h : j < m.length) (v : Value), (entsFrom i m).modify j (fun e => { e with val := v }) = entsFrom i (m.set j { m[j] with v := v }) := by
  intro m
  induction m with
  | nil => intro i j h; simp at h
  | cons e r ih =>
    intro i j h v
    cases j with
    | zero => rfl
    | succ j =>
      simp only [entsFrom, List.modify_succ_cons, List.set_cons_succ, List.getElem_cons_succ, ih (i + 1) j (by simpa using h) v]
theorem keyStays (x y : List UInt8) : (Instr.keyThatStays (keyV x y) (keyV x y)).run P w = .ok (keyV x y) w := by
  unfold Instr.keyThatStays
  have : Instr.sameBits 10000 (keyV x y) (keyV x y) = true := by
    show Instr.sameBits (9999 + 1) (.agg #[.string (str x), .string (str y)]) (.agg #[.string (str x), .string (str y)]) = true
    unfold Instr.sameBits
    have hb : ∀ s : ByteArray, (s == s) = true := fun s => by rw [MapKept.bytes_beq]
    simp [Instr.sameBits, hb]
  rw [if_pos this]
  rfl
/-- a key that is not there: an entry is made -/
theorem map_entry_new (h : MapT P T kt et z) (hm : MapIs w n m) (hn : findE a b m 0 = none) {K : Value → World → Prop}
    (hK : ∀ w', MapIs w' n (m ++ [⟨a, b, z⟩]) → Kp [n] w w' → K (.tuple #[z, .int .i64 (m.length : Nat)]) w') : eG P (Instr.mapEntry T (.map (some n)) (keyV a b)) w K := by
  have hf : (Instr.findKey kt (keyV a b) (entsFrom 0 m).toArray.toList).run P w = .ok none w := by rw [← hn]; exact finding h
  refine eG_of (w' := setBlk w n (.map ((entsFrom 0 m).toArray.push ⟨keyV a b, z, m.length⟩) (m.length + 1))) (v := .tuple #[z, .int .i64 (m.length : Nat)]) ?_ (hK _ ?_ ((Kp.refl _ w).setBlk (.inl (by simp)) _))
  · simp only [Instr.mapEntry, Sem.run_bind, run_underlying h.hm, Result.andThen_ok, getO hm, h.ck, hf, h.zv, setO hm]
    rfl
  · unfold MapIs
    rw [heap_self (lt_of_blk hm), ents_app]
    simp
/-- an entry that is there -/
theorem map_entry_old (h : MapT P T kt et z) (hm : MapIs w n m) {i : Nat} (hi : i < m.length) (hf : findE m[i].a m[i].b m 0 = some (i, m[i].v)) {K : Value → World → Prop}
    (hK : ∀ w', MapIs w' n m → Kp [n] w w' → K (.tuple #[m[i].v, .int .i64 (i : Nat)]) w') : eG P (Instr.mapEntry T (.map (some n)) (keyV m[i].a m[i].b)) w K := by
  have hf' : (Instr.findKey kt (keyV m[i].a m[i].b) (entsFrom 0 m).toArray.toList).run P w = .ok (some (i, m[i].v)) w := by rw [← hf]; exact finding h
  have hg : (entsFrom 0 m).toArray[i]? = some ⟨keyV m[i].a m[i].b, m[i].v, i⟩ := by
    have := ents_get m 0 i hi
    simpa using this
  refine eG_of (w' := setBlk w n (.map ((entsFrom 0 m).toArray.modify i fun e => { e with key := keyV m[i].a m[i].b }) m.length)) (v := .tuple #[m[i].v, .int .i64 (i : Nat)]) ?_ (hK _ ?_ ((Kp.refl _ w).setBlk (.inl (by simp)) _))
  · simp only [Instr.mapEntry, Sem.run_bind, run_underlying h.hm, Result.andThen_ok, getO hm, h.ck, hf', hg, Option.map_some, Option.getD_some, keyStays, setO hm]
    rfl
  · unfold MapIs
    rw [heap_self (lt_of_blk hm)]
    congr 2
    apply Array.ext'
    simp only [Array.toList_modify]
    apply List.ext_getElem?
    intro j
    rw [List.getElem?_modify]
    by_cases hj : i = j
    · subst hj
      rw [ents_get m 0 i hi]
      simp
    · simp [hj]
theorem map_update_new (h : MapT P T kt et z) (hm : MapIs w n m) (hn : findE a b m 0 = none) {v : Value} {K : World → Prop}
    (hK : ∀ w', MapIs w' n (m ++ [⟨a, b, v⟩]) → Kp [n] w w' → K w') : uG P (Instr.mapUpdate T (.map (some n)) (keyV a b) v) w K := by
  have hf : (Instr.findKey kt (keyV a b) (entsFrom 0 m).toArray.toList).run P w = .ok none w := by rw [← hn]; exact finding h
  refine uG_of (w' := setBlk w n (.map ((entsFrom 0 m).toArray.push ⟨keyV a b, v, m.length⟩) (m.length + 1))) ?_ (hK _ ?_ ((Kp.refl _ w).setBlk (.inl (by simp)) _))
  · simp only [Instr.mapUpdate, Sem.run_bind, run_underlying h.hm, Result.andThen_ok, getO hm, h.ck, hf, setO hm]
  · unfold MapIs
    rw [heap_self (lt_of_blk hm), ents_app]
    simp
theorem born_find : ∀ (m : List ME) (k i : Nat), i < m.length → (entsFrom k m).findIdx? (fun e => (e.born : Int) == ((k + i : Nat) : Int)) = some i := by
  intro m
  induction m with
  | nil => intro k i h; simp at h
  | cons e r ih =>
    intro k i h
    cases i with
    | zero => simp [entsFrom, List.findIdx?_cons]
    | succ i =>
      have := ih (k + 1) i (by simpa using h)
      simp only [entsFrom, List.findIdx?_cons]
      have hne : ((k : Nat) : Int) ≠ ((k + (i + 1) : Nat) : Int) := by omega
      rw [show ((k + (i + 1) : Nat) : Int) = ((k + 1 + i : Nat) : Int) by omega] at hne ⊢
      simp only [beq_eq_false_iff_ne.2 hne, this]
      simp
theorem map_store (hm : MapIs w n m) {i : Nat} (hi : i < m.length) {v : Value} {K : World → Prop}
    (hK : ∀ w', MapIs w' n (m.set i { m[i] with v := v }) → Kp [n] w w' → K w') : uG P (Instr.entryStore T (.map (some n)) (.int .i64 (i : Nat)) v) w K := by
  refine uG_of (w' := setBlk w n (.map ((entsFrom 0 m).toArray.modify i fun e => { e with val := v }) m.length)) ?_ (hK _ ?_ ((Kp.refl _ w).setBlk (.inl (by simp)) _))
  · have hb : (entsFrom 0 m).toArray.findIdx? (fun e => (e.born : Int) == ((i : Nat) : Int)) = some i := by
      have := born_find m 0 i hi
      simpa using this
    have ha : (asInt (.int .i64 (i : Nat))).run P w = .ok (i : Int) w := rfl
    simp only [Instr.entryStore, Sem.run_bind, getO hm, Result.andThen_ok, ha, hb, setO hm]
  · unfold MapIs
    rw [heap_self (lt_of_blk hm)]
    congr 2
    · apply Array.ext'
      rw [Array.toList_modify]
      exact ents_modify m 0 i hi v
    · simp
end
end Go.Q

/- Layer 7: names, places and their order; what a hold and a movement may be. -/
set_option linter.unusedVariables false
set_option linter.unusedSimpArgs false
namespace Go.Proofs
open Go Go.Q
theorem lname_spec {w : World} (s : List UInt8) {K : Value → World → Prop} (hK : K (.bool (nameOk s)) w) : callG Try.prog 87 #[.string (str s)] w K := by
  refine ledger_name_call ?_
  unfold nameOk at hK
  have e1 : ((1 : Int) ≤ (s.length : Int)) = (1 ≤ s.length) := by apply propext; omega
  by_cases h : 1 ≤ s.length
  · simpa [ledger_name, ledger_name_s0, e1, le64, h] using hK
  · simpa [ledger_name, ledger_name_s0, e1, le64, h] using hK
theorem zcPl : zc Try.prog 119 = [.string (str []), .string (str [])].toArray := by kernel_rfl
theorem aggPl : aggO Try.prog 119 = some true := by kernel_rfl
theorem szPl : szO Try.prog 119 = some 2 := by kernel_rfl
theorem lvPl {b : Nat} {w : World} {c : Array Value} {T : TypeId} {fr : Nat × Nat} (hb : Live w b) (hs : c.size = 2) {K : Value → Prop} :
    qG Try.prog (do loadVar 119 (← asAddr (.pointer (some ⟨b, 0, none⟩)))) (setBlk w b (.cells c T fr)) K = K (.agg c) := loadVar_of aggPl szPl (heap_self hb) hs
theorem of_spec7 {w : World} (s : SV) {K : Value → World → Prop} (hK : ∀ w', Kp [] w w' → K (keyV s.sku s.loc) w') : callG Try.prog 89 #[sA s] w K := by
  refine ledger_of_call ?_
  unfold ledger_of ledger_of_s0 sA
  simp only [newG_k, cells_agg, zcPl]
  obtain ⟨p, hp⟩ : ∃ p, p = w.heap.size := ⟨_, rfl⟩
  obtain ⟨w1, hw1⟩ := ex_w (w' := w.alloc (.cells #[.string (str s.sku), .string (str s.loc), .int .i64 s.hand, .int .i64 s.held] 44))
  have hk1 : Kp [] w w1 := by rw [hw1]; exact kp_alloc
  have h1 : w1.heap[p]? = some (.cells #[.string (str s.sku), .string (str s.loc), .int .i64 s.hand, .int .i64 s.held] 44) := by rw [hw1, hp]; exact heap_new
  rw [← hw1, ← hp]
  obtain ⟨q, hq⟩ : ∃ q, q = w1.heap.size := ⟨_, rfl⟩
  obtain ⟨w2, hw2⟩ := ex_w (w' := w1.alloc (.cells [.string (str []), .string (str [])].toArray 119))
  have hk2 : Kp [] w1 w2 := by rw [hw2]; exact kp_alloc
  have h2 : w2.heap[q]? = some (.cells [.string (str []), .string (str [])].toArray 119) := by rw [hw2, hq]; exact heap_new
  rw [← hw2, ← hq]
  have h12 := hk2.get h1 (by simp)
  have l2 := live_of h2
  have hqs : w.heap.size ≤ q := by have := hk1.size; omega
  simp [-getElem?_pos, -Array.all_eq_true, -Array.getElem?_eq_getElem, -List.length_flatten, List.getElem?_cons_zero, List.getElem?_cons_succ, h12, h2, zcPl, bld_done, bld_if, offAt, putAt, lvPl, l2]
  exact hK _ ((hk1.trans' hk2).setBlk (.inr hqs) _)
theorem Compare_spec {w : World} (a b : List UInt8) {K : Value → World → Prop} (hK : K (.int .i64 (cmpL a b)) w) : callG Try.prog 105 #[.string (str a), .string (str b)] w K := by
  refine strings_Compare_call ?_
  unfold strings_Compare strings_Compare_s0
  refine internal_bytealg_CompareString_call ?_
  unfold internal_bytealg_CompareString internal_bytealg_CompareString_s0
  exact nG_cmp Try.func127 (by kernel_rfl) (by kernel_rfl) (by kernel_rfl) (by kernel_rfl) a b hK
theorem Or_spec {w : World} {v : Value} {p q : Int} (hr : Rd w v 1 ([p, q].map intV)) {K : Value → World → Prop} (hK : K (.int .i64 (if p ≠ 0 then p else q)) w) : callG Try.prog 104 #[v] w K := by
  refine cmp_Or_int_call ?_
  unfold cmp_Or_int cmp_Or_int_s4 cmp_Or_int_s3 cmp_Or_int_L2
  rw [hr.lenL]
  obtain ⟨p0, a0, b0⟩ := hr.one (i := 0) (by simp) (x := .int .i64 p) (by simp [intV])
  obtain ⟨p1, a1, b1⟩ := hr.one (i := 1) (by simp) (x := .int .i64 q) (by simp [intV])
  have a0' : ∀ K : Value → Prop, ia 1 v (.int .i64 0) K = K p0 := fun K => a0 .i64 K
  have a1' : ∀ K : Value → Prop, ia 1 v (.int .i64 1) K = K p1 := fun K => a1 .i64 K
  refine loop_inv (fun m xs wi => (∃ i : Nat, i ≤ 2 ∧ m = 2 - i ∧ xs = [.int .i64 0, v, .int .i64 2, .int .i64 (i : Nat)] ∧ wi = w ∧ (1 ≤ i → p = 0) ∧ (2 ≤ i → q = 0))) ?_ (m := 2) ⟨0, by omega, rfl, rfl, rfl, by omega, by omega⟩
  rintro m N xs wi ⟨i, hi, rfl, rfl, rfl, hp, hq⟩ hN
  unfold cmp_Or_int_L2F cmp_Or_int_b1
  have : i = 0 ∨ i = 1 ∨ i = 2 := by omega
  rcases this with rfl | rfl | rfl
  · simp [-getElem?_pos, -Array.all_eq_true, -Array.getElem?_eq_getElem, -List.length_flatten, List.getElem?_cons_zero, List.getElem?_cons_succ, a0', b0]
    refine ⟨fun h => by rw [if_pos h] at hK; exact hK, fun h => ?_⟩
    have e : IntKind.i64.wrap 1 = 1 := by decide
    first | rw [e] | skip
    exact hN 1 _ wi (by omega) ⟨1, by omega, rfl, rfl, rfl, fun _ => h, by omega⟩
  · have h0 := hp (by omega)
    rw [if_neg (by simp [h0])] at hK
    simp [-getElem?_pos, -Array.all_eq_true, -Array.getElem?_eq_getElem, -List.length_flatten, List.getElem?_cons_zero, List.getElem?_cons_succ, a1', b1]
    refine ⟨fun h => hK, fun h => ?_⟩
    have e : IntKind.i64.wrap 2 = 2 := by decide
    first | rw [e] | skip
    exact hN 0 _ wi (by omega) ⟨2, by omega, rfl, rfl, rfl, fun _ => h0, fun _ => h⟩
  · have h0 := hp (by omega)
    have h1 := hq (by omega)
    rw [if_neg (by simp [h0]), h1] at hK
    simp [-getElem?_pos, -Array.all_eq_true, -Array.getElem?_eq_getElem, -List.length_flatten, List.getElem?_cons_zero, List.getElem?_cons_succ, cmp_Or_int_s0]
    exact hK
theorem order_spec {w : World} (s l s' l' : List UInt8) {K : Value → World → Prop} (hK : ∀ w', Kp [] w w' → K (.int .i64 (ordL s l s' l')) w') : callG Try.prog 88 #[keyV s l, keyV s' l'] w K := by
  refine ledger_order_call ?_
  unfold ledger_order ledger_order_s0 keyV
  simp only [newG_k, cells_agg]
  obtain ⟨p, hp⟩ : ∃ p, p = w.heap.size := ⟨_, rfl⟩
  obtain ⟨w1, hw1⟩ := ex_w (w' := w.alloc (.cells #[.string (str s), .string (str l)] 119))
  have hk1 : Kp [] w w1 := by rw [hw1]; exact kp_alloc
  have h1 : w1.heap[p]? = some (.cells #[.string (str s), .string (str l)] 119) := by rw [hw1, hp]; exact heap_new
  rw [← hw1, ← hp]
  obtain ⟨q, hq⟩ : ∃ q, q = w1.heap.size := ⟨_, rfl⟩
  obtain ⟨w2, hw2⟩ := ex_w (w' := w1.alloc (.cells #[.string (str s'), .string (str l')] 119))
  have hk2 : Kp [] w1 w2 := by rw [hw2]; exact kp_alloc
  have h2 : w2.heap[q]? = some (.cells #[.string (str s'), .string (str l')] 119) := by rw [hw2, hq]; exact heap_new
  rw [← hw2, ← hq]
  have h12 := hk2.get h1 (by simp)
  simp [-getElem?_pos, -Array.all_eq_true, -Array.getElem?_eq_getElem, -List.length_flatten, List.getElem?_cons_zero, List.getElem?_cons_succ, h12, h2]
  refine Compare_spec s s' ?_
  simp [-getElem?_pos, -Array.all_eq_true, -Array.getElem?_eq_getElem, -List.length_flatten, List.getElem?_cons_zero, List.getElem?_cons_succ, h12, h2]
  refine Compare_spec l l' ?_
  refine bsl_rows (n := 1) (len := 2) (xs := [.int .i64 (cmpL s s'), .int .i64 (cmpL l l')]) (rows := [cmpL s s', cmpL l l'].map intV) (by omega) rfl rfl (by simp [intV]) (by omega) fun v3 w3 h3 => ?_
  refine Or_spec h3.rd ?_
  exact hK w3 (((hk1.trans' hk2).trans' kp_drew).trans' h3.kp)
theorem hold_true {w : World} {h : HV} {k : Nat} (hk : k < 1000000) (h1 : h.id = (k + 1 : Nat)) (h2 : nameOk h.sku = true) (h3 : nameOk h.loc = true) (h4 : 1 ≤ h.q) (h5 : 0 ≤ h.st) (h6 : h.st ≤ 2) (h7 : 0 ≤ h.due) {K : Value → World → Prop} (hK : ∀ w', Kp [] w w' → K (.bool true) w') :
    callG Try.prog 90 #[.int .i64 k, hA h] w K := by
  refine ledger_hold_call ?_
  unfold ledger_hold ledger_hold_s0
  refine argBox (cs := hC h) fun b w1 hb hh hk1 => ?_
  have hiw : IntKind.i64.wrap ((k : Int) + 1) = ((k + 1 : Nat) : Int) := by rw [w64 (by omega) (by omega)]; simp
  simp [-getElem?_pos, -Array.all_eq_true, -Array.getElem?_eq_getElem, -List.length_flatten, List.getElem?_cons_zero, List.getElem?_cons_succ, hh, hC, hiw, h1]
  refine lname_spec h.sku ?_
  simp [-getElem?_pos, -Array.all_eq_true, -Array.getElem?_eq_getElem, -List.length_flatten, List.getElem?_cons_zero, List.getElem?_cons_succ, h2, hh, hC]
  refine lname_spec h.loc ?_
  simp [-getElem?_pos, -Array.all_eq_true, -Array.getElem?_eq_getElem, -List.length_flatten, List.getElem?_cons_zero, List.getElem?_cons_succ, h3, hh, hC, h4, h5, h6, h7]
  exact hK w1 hk1
theorem move_true {w : World} {h : HV} {k : Nat} (hk : k < 1000000) (h1 : h.id = (k + 1 : Nat)) (h2 : nameOk h.sku = true) (h3 : nameOk h.loc = true) (h4 : h.q ≠ 0) (h5 : h.st = 1 ∨ h.st = 3 ∨ h.st = 6 ∨ h.st = 7) (h6 : 0 ≤ h.due) (h7 : h.due ≠ 0 ↔ h.st = 3)
    {K : Value → World → Prop} (hK : ∀ w', Kp [] w w' → K (.bool true) w') : callG Try.prog 91 #[.int .i64 k, hA h] w K := by
  refine ledger_move_call ?_
  unfold ledger_move ledger_move_s4 ledger_move_s3 ledger_move_s2
  refine argBox (cs := hC h) fun b w1 hb hh hk1 => ?_
  have hiw : IntKind.i64.wrap ((k : Int) + 1) = ((k + 1 : Nat) : Int) := by rw [w64 (by omega) (by omega)]; simp
  have hs0 : ledger_move_s0 K (.int .i64 k) (.pointer (some ⟨b, 0, none⟩)) w1 := by
    unfold ledger_move_s0
    simp [-getElem?_pos, -Array.all_eq_true, -Array.getElem?_eq_getElem, -List.length_flatten, List.getElem?_cons_zero, List.getElem?_cons_succ, hh, hC, hiw, h1]
    refine lname_spec h.sku ?_
    simp [-getElem?_pos, -Array.all_eq_true, -Array.getElem?_eq_getElem, -List.length_flatten, List.getElem?_cons_zero, List.getElem?_cons_succ, h2, hh, hC]
    refine lname_spec h.loc ?_
    simp [-getElem?_pos, -Array.all_eq_true, -Array.getElem?_eq_getElem, -List.length_flatten, List.getElem?_cons_zero, List.getElem?_cons_succ, h3, hh, hC, h4]
    exact hK w1 hk1
  unfold ledger_move_s1
  simp [-getElem?_pos, -Array.all_eq_true, -Array.getElem?_eq_getElem, -List.length_flatten, List.getElem?_cons_zero, List.getElem?_cons_succ, hh, hC]
  have hK0 := hK w1 hk1
  rcases h5 with h5 | h5 | h5 | h5 <;> simp [h5] at h7 ⊢ <;> repeat' (first | exact hs0 | refine And.intro ?_ ?_ | intro _ | (exfalso; omega))
end Go.Proofs

