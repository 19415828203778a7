/- Part of the proof (M1): an engine, rules or contracts of the functions; it states nothing of the claim by itself. -/
import Derived.Test.YtiljkkdhohnpbaaProg
import Derived.Test.YtiljkkdhohnpbaaM0
import Derived.KernelRfl
import Derived.Below
import Derived.Laws.Append
import Derived.ChangeArms
import Derived.DataReads
import Derived.Laws.StructEq
import Derived.Laws.Externs
import GoSem.Extern.BytealgCompare
import Derived.Shelf.SlSortCmp.NoneTotal
import Derived.Sort.OwnSortedInts
import Derived.Lib.Overlaps
import Derived.MapKept
import Derived.WideKeyRuns
import Derived.Laws.Slices

set_option linter.unusedVariables false
set_option linter.unusedSimpArgs false
namespace Go.Proofs
theorem Try.mixed : Try.prog.follows .mixedOrders = true := by kernel_rfl
end Go.Proofs

/- Rules for the printed forms: what an operation comes to when its operands are known; worlds; what is kept. -/
set_option linter.unusedVariables false
set_option linter.unusedSimpArgs false
namespace Go.Q
variable {P : Program}

theorem qG_of {s : Sem Value} {w : World} {v : Value} {K : Value → Prop} (h : s.run P w = .ok v w) : qG P s w K = K v := by
  apply propext
  constructor
  · rintro ⟨v', hr, hk⟩
    rw [h] at hr
    injection hr with h1
    subst h1; exact hk
  · exact fun hk => ⟨v, h, hk⟩
theorem stb_of {s : Sem Value} {w : World} {v u : Value} (h : s.run P w = .ok v w) : stb P s u w = (v = u) := by
  unfold stb; rw [h]; simp
/-! ### numbers -/
section
variable {T : TypeId} {xo yo : Operand} {k : IntKind} {a b : Int} {w : World} {K : Value → Prop} {u : Value}
theorem run_bq_int {op : BinOp} {s : Sem Value} (hop : ∀ w : World, (binOp op T (.int k a) (.int k b)).run P w = s.run P w) : (bq op T xo yo (.int k a) (.int k b)).run P w = s.run P w := by
  cases op <;> exact hop w
theorem run_add : (bq .add T xo yo (.int k a) (.int k b)).run P w = .ok (.int k (k.wrap (a + b))) w := run_bq_int (s := .pure _) fun w => by simp [binOp, Op.intArith]
theorem run_sub : (bq .sub T xo yo (.int k a) (.int k b)).run P w = .ok (.int k (k.wrap (a - b))) w := run_bq_int (s := .pure _) fun w => by simp [binOp, Op.intArith]
theorem run_mul : (bq .mul T xo yo (.int k a) (.int k b)).run P w = .ok (.int k (k.wrap (a * b))) w := run_bq_int (s := .pure _) fun w => by simp [binOp, Op.intArith]
theorem run_lss : (bq .lss T xo yo (.int k a) (.int k b)).run P w = .ok (.bool (decide (a < b))) w := run_bq_int (s := .pure _) fun w => by simp [binOp, Op.intCmp]
theorem run_leq : (bq .leq T xo yo (.int k a) (.int k b)).run P w = .ok (.bool (decide (a ≤ b))) w := run_bq_int (s := .pure _) fun w => by simp [binOp, Op.intCmp]
theorem run_gtr : (bq .gtr T xo yo (.int k a) (.int k b)).run P w = .ok (.bool (decide (a > b))) w := run_bq_int (s := .pure _) fun w => by simp [binOp, Op.intCmp]
theorem run_geq : (bq .geq T xo yo (.int k a) (.int k b)).run P w = .ok (.bool (decide (a ≥ b))) w := run_bq_int (s := .pure _) fun w => by simp [binOp, Op.intCmp]
theorem run_eql : (bq .eql T xo yo (.int k a) (.int k b)).run P w = .ok (.bool (decide (a = b))) w := run_bq_int (s := .pure _) fun w => by simp [binOp, Op.intCmp]; rfl
theorem run_neq : (bq .neq T xo yo (.int k a) (.int k b)).run P w = .ok (.bool (decide (a ≠ b))) w := run_bq_int (s := .pure _) fun w => by simp [binOp, Op.intCmp, bne]; rfl
@[simp] theorem bq_add : qG P (bq .add T xo yo (.int k a) (.int k b)) w K = K (.int k (k.wrap (a + b))) := qG_of run_add
@[simp] theorem bq_sub : qG P (bq .sub T xo yo (.int k a) (.int k b)) w K = K (.int k (k.wrap (a - b))) := qG_of run_sub
@[simp] theorem bq_mul : qG P (bq .mul T xo yo (.int k a) (.int k b)) w K = K (.int k (k.wrap (a * b))) := qG_of run_mul
@[simp] theorem bq_lss : qG P (bq .lss T xo yo (.int k a) (.int k b)) w K = K (.bool (decide (a < b))) := qG_of run_lss
@[simp] theorem bq_leq : qG P (bq .leq T xo yo (.int k a) (.int k b)) w K = K (.bool (decide (a ≤ b))) := qG_of run_leq
@[simp] theorem bq_gtr : qG P (bq .gtr T xo yo (.int k a) (.int k b)) w K = K (.bool (decide (a > b))) := qG_of run_gtr
@[simp] theorem bq_geq : qG P (bq .geq T xo yo (.int k a) (.int k b)) w K = K (.bool (decide (a ≥ b))) := qG_of run_geq
@[simp] theorem bq_eql : qG P (bq .eql T xo yo (.int k a) (.int k b)) w K = K (.bool (decide (a = b))) := qG_of run_eql
@[simp] theorem bq_neq : qG P (bq .neq T xo yo (.int k a) (.int k b)) w K = K (.bool (decide (a ≠ b))) := qG_of run_neq
@[simp] theorem stb_add : stb P (bq .add T xo yo (.int k a) (.int k b)) u w = (.int k (k.wrap (a + b)) = u) := stb_of run_add
@[simp] theorem stb_sub : stb P (bq .sub T xo yo (.int k a) (.int k b)) u w = (.int k (k.wrap (a - b)) = u) := stb_of run_sub
@[simp] theorem stb_mul : stb P (bq .mul T xo yo (.int k a) (.int k b)) u w = (.int k (k.wrap (a * b)) = u) := stb_of run_mul
@[simp] theorem stb_lss : stb P (bq .lss T xo yo (.int k a) (.int k b)) u w = (.bool (decide (a < b)) = u) := stb_of run_lss
@[simp] theorem stb_eql : stb P (bq .eql T xo yo (.int k a) (.int k b)) u w = (.bool (decide (a = b)) = u) := stb_of run_eql
@[simp] theorem stb_neq : stb P (bq .neq T xo yo (.int k a) (.int k b)) u w = (.bool (decide (a ≠ b)) = u) := stb_of run_neq
end
theorem run_not {b : Bool} {w : World} : (Op.unary .not (.bool b)).run P w = .ok (.bool !b) w := rfl
@[simp] theorem un_not {b : Bool} {w : World} {K : Value → Prop} : qG P (Op.unary .not (.bool b)) w K = K (.bool !b) := qG_of run_not
@[simp] theorem stb_not {b : Bool} {w : World} {u : Value} : stb P (Op.unary .not (.bool b)) u w = (.bool (!b) = u) := stb_of run_not
theorem run_extract {vs : Array Value} {i : Nat} {v : Value} {w : World} (h : vs[i]? = some v) : (Instr.extract (.tuple vs) i).run P w = .ok v w := by simp [Instr.extract, h]
@[simp] theorem ex0 {a b : Value} {w : World} {K : Value → Prop} : qG P (Instr.extract (.tuple #[a, b]) 0) w K = K a := qG_of (run_extract rfl)
@[simp] theorem ex1 {a b : Value} {w : World} {K : Value → Prop} : qG P (Instr.extract (.tuple #[a, b]) 1) w K = K b := qG_of (run_extract rfl)
@[simp] theorem ex30 {a b c : Value} {w : World} {K : Value → Prop} : qG P (Instr.extract (.tuple #[a, b, c]) 0) w K = K a := qG_of (run_extract rfl)
@[simp] theorem ex31 {a b c : Value} {w : World} {K : Value → Prop} : qG P (Instr.extract (.tuple #[a, b, c]) 1) w K = K b := qG_of (run_extract rfl)
@[simp] theorem ex32 {a b c : Value} {w : World} {K : Value → Prop} : qG P (Instr.extract (.tuple #[a, b, c]) 2) w K = K c := qG_of (run_extract rfl)
@[simp] theorem stb_ex0 {a b u : Value} {w : World} : stb P (Instr.extract (.tuple #[a, b]) 0) u w = (a = u) := stb_of (run_extract rfl)
@[simp] theorem stb_ex1 {a b u : Value} {w : World} : stb P (Instr.extract (.tuple #[a, b]) 1) u w = (b = u) := stb_of (run_extract rfl)
@[simp] theorem stb_ex30 {a b c u : Value} {w : World} : stb P (Instr.extract (.tuple #[a, b, c]) 0) u w = (a = u) := stb_of (run_extract rfl)
@[simp] theorem stb_ex31 {a b c u : Value} {w : World} : stb P (Instr.extract (.tuple #[a, b, c]) 1) u w = (b = u) := stb_of (run_extract rfl)
@[simp] theorem stb_ex32 {a b c u : Value} {w : World} : stb P (Instr.extract (.tuple #[a, b, c]) 2) u w = (c = u) := stb_of (run_extract rfl)
theorem run_max {ts : Array TypeId} {t : TypeId} {k : IntKind} {a b : Int} {w : World} : (Builtin.max_ ts t #[.int k a, .int k b]).run P w = .ok (.int k (max a b)) w := by
  simp only [Builtin.max_, List.foldlM_cons, List.foldlM_nil, Builtin.max2, pure_bind]
  show Result.ok _ _ = _
  congr 2; omega
theorem run_min {ts : Array TypeId} {t : TypeId} {k : IntKind} {a b : Int} {w : World} : (Builtin.min_ ts t #[.int k a, .int k b]).run P w = .ok (.int k (min a b)) w := by
  simp only [Builtin.min_, List.foldlM_cons, List.foldlM_nil, Builtin.min2, pure_bind]
  show Result.ok _ _ = _
  congr 2; omega
@[simp] theorem q_max {ts : Array TypeId} {t : TypeId} {k : IntKind} {a b : Int} {w : World} {K : Value → Prop} : qG P (Builtin.max_ ts t #[.int k a, .int k b]) w K = K (.int k (max a b)) := qG_of run_max
@[simp] theorem q_min {ts : Array TypeId} {t : TypeId} {k : IntKind} {a b : Int} {w : World} {K : Value → Prop} : qG P (Builtin.min_ ts t #[.int k a, .int k b]) w K = K (.int k (min a b)) := qG_of run_min
/-! ### strings, bools, pointers against nil -/
theorem toList_beq (s t : ByteArray) : (s.toList == t.toList) = decide (s = t) := by
  by_cases h : s = t
  · subst h; simp
  · have : s.toList ≠ t.toList := by
      intro h'
      apply h
      rw [ByteArray.toList_eq, ByteArray.toList_eq] at h'
      cases s; cases t
      simp only [ByteArray.mk.injEq]
      exact Array.toList_inj.1 h'
    rw [decide_eq_false h]
    exact beq_false_of_ne this
def sLt (s t : ByteArray) : Bool := Op.bytesLess s.toList t.toList
section
variable {T : TypeId} {xo yo : Operand} {a b : ByteArray} {w : World} {K : Value → Prop} {u : Value}
theorem run_bq_str {op : BinOp} {s : Sem Value} (hop : ∀ w : World, (binOp op T (.string a) (.string b)).run P w = s.run P w) : (bq op T xo yo (.string a) (.string b)).run P w = s.run P w := by
  cases op <;> exact hop w
theorem run_seql : (bq .eql T xo yo (.string a) (.string b)).run P w = .ok (.bool (decide (a = b))) w := run_bq_str (s := .pure _) fun w => by simp only [binOp, Op.stringOp, toList_beq]; rfl
theorem run_sneq : (bq .neq T xo yo (.string a) (.string b)).run P w = .ok (.bool (!decide (a = b))) w := run_bq_str (s := .pure _) fun w => by simp only [binOp, Op.stringOp, toList_beq]; rfl
theorem run_slss : (bq .lss T xo yo (.string a) (.string b)).run P w = .ok (.bool (sLt a b)) w := run_bq_str (s := .pure _) fun _ => rfl
@[simp] theorem bq_seql : qG P (bq .eql T xo yo (.string a) (.string b)) w K = K (.bool (decide (a = b))) := qG_of run_seql
@[simp] theorem bq_sneq : qG P (bq .neq T xo yo (.string a) (.string b)) w K = K (.bool (!decide (a = b))) := qG_of run_sneq
@[simp] theorem bq_slss : qG P (bq .lss T xo yo (.string a) (.string b)) w K = K (.bool (sLt a b)) := qG_of run_slss
@[simp] theorem stb_seql : stb P (bq .eql T xo yo (.string a) (.string b)) u w = (.bool (decide (a = b)) = u) := stb_of run_seql
@[simp] theorem stb_sneq : stb P (bq .neq T xo yo (.string a) (.string b)) u w = (.bool (!decide (a = b)) = u) := stb_of run_sneq
end
def isPtr (P : Program) (T : TypeId) : Bool := match P.underlying T with | some (.pointer _) => true | _ => false
def isBoolT (P : Program) (T : TypeId) : Bool := match P.underlying T with | some .bool => true | _ => false
def isSl (P : Program) (T : TypeId) : Bool := match P.underlying T with | some (.slice _) => true | _ => false
theorem run_equal1 {T : TypeId} {x y : Value} {w : World} {b : Bool} (h : (Op.equal T x y).run P w = .ok b w) (hx : ∀ c d, ¬ (x = .agg c ∧ y = .agg d)) (hn : ¬ (x = .nilIface ∧ y = .nilIface)) (xo yo : Operand)
    (he : binOp .eql T x y = (do pure (.bool (← Op.equal T x y)))) (hne : binOp .neq T x y = (do pure (.bool (!(← Op.equal T x y))))) :
    (bq .eql T xo yo x y).run P w = .ok (.bool b) w ∧ (bq .neq T xo yo x y).run P w = .ok (.bool !b) w := by
  have hg : ∀ op, op = .eql ∨ op = .neq → (eqGuard op T xo yo x y).run P w = .ok () w := by
    rintro op (rfl | rfl)
    all_goals
      unfold eqGuard
      simp only [Bool.not_true, Bool.false_eq_true, if_false]
      split
      · exact absurd ⟨rfl, rfl⟩ hn
      · exact absurd ⟨rfl, rfl⟩ (hx _ _)
      · rfl
  constructor
  · unfold bq; rw [Sem.run_bind, hg _ (.inl rfl)]; simp only [Result.andThen_ok, he, Sem.run_bind, h]; rfl
  · unfold bq; rw [Sem.run_bind, hg _ (.inr rfl)]; simp only [Result.andThen_ok, hne, Sem.run_bind, h]; rfl
section
variable {T : TypeId} {xo yo : Operand} {w : World} {K : Value → Prop} {u : Value}
theorem run_pnil (a : Option Addr) (hT : isPtr P T = true) : (bq .eql T xo yo (.pointer a) (.pointer none)).run P w = .ok (.bool a.isNone) w ∧ (bq .neq T xo yo (.pointer a) (.pointer none)).run P w = .ok (.bool !a.isNone) w := by
  unfold isPtr at hT
  split at hT
  · rename_i e hu
    refine run_equal1 ?_ (fun _ _ h => by cases h.1) (fun h => by cases h.1) xo yo (by cases a <;> rfl) (by cases a <;> rfl)
    unfold Op.equal Op.maxDepth Op.equalIn
    simp only [Sem.run_bind, run_underlying hu, Result.andThen_ok]
    cases a <;> rfl
  · cases hT
@[simp] theorem bq_peql (a : Option Addr) (hT : isPtr P T = true) : qG P (bq .eql T xo yo (.pointer a) (.pointer none)) w K = K (.bool a.isNone) := qG_of (run_pnil a hT).1
@[simp] theorem bq_pneq (a : Option Addr) (hT : isPtr P T = true) : qG P (bq .neq T xo yo (.pointer a) (.pointer none)) w K = K (.bool !a.isNone) := qG_of (run_pnil a hT).2
@[simp] theorem stb_peql (a : Option Addr) (hT : isPtr P T = true) : stb P (bq .eql T xo yo (.pointer a) (.pointer none)) u w = (.bool a.isNone = u) := stb_of (run_pnil a hT).1
@[simp] theorem stb_pneq (a : Option Addr) (hT : isPtr P T = true) : stb P (bq .neq T xo yo (.pointer a) (.pointer none)) u w = (.bool (!a.isNone) = u) := stb_of (run_pnil a hT).2
theorem run_bools (a b : Bool) (hT : isBoolT P T = true) : (bq .eql T xo yo (.bool a) (.bool b)).run P w = .ok (.bool (a == b)) w ∧ (bq .neq T xo yo (.bool a) (.bool b)).run P w = .ok (.bool !(a == b)) w := by
  unfold isBoolT at hT
  split at hT
  · rename_i hu
    refine run_equal1 ?_ (fun _ _ h => by cases h.1) (fun h => by cases h.1) xo yo rfl rfl
    unfold Op.equal Op.maxDepth Op.equalIn
    simp only [Sem.run_bind, run_underlying hu, Result.andThen_ok]
    rfl
  · cases hT
@[simp] theorem bq_beql (a b : Bool) (hT : isBoolT P T = true) : qG P (bq .eql T xo yo (.bool a) (.bool b)) w K = K (.bool (a == b)) := qG_of (run_bools a b hT).1
@[simp] theorem bq_bneq (a b : Bool) (hT : isBoolT P T = true) : qG P (bq .neq T xo yo (.bool a) (.bool b)) w K = K (.bool !(a == b)) := qG_of (run_bools a b hT).2
@[simp] theorem stb_beql (a b : Bool) (hT : isBoolT P T = true) : stb P (bq .eql T xo yo (.bool a) (.bool b)) u w = (.bool (a == b) = u) := stb_of (run_bools a b hT).1
@[simp] theorem stb_bneq (a b : Bool) (hT : isBoolT P T = true) : stb P (bq .neq T xo yo (.bool a) (.bool b)) u w = (.bool (!(a == b)) = u) := stb_of (run_bools a b hT).2
theorem run_slnil (a : Option Addr) (n c n' c' : Nat) (hT : isSl P T = true) : (bq .eql T xo yo (.slice a n c) (.slice none n' c')).run P w = .ok (.bool a.isNone) w ∧ (bq .neq T xo yo (.slice a n c) (.slice none n' c')).run P w = .ok (.bool !a.isNone) w := by
  unfold isSl at hT
  split at hT
  · rename_i e hu
    refine run_equal1 ?_ (fun _ _ h => by cases h.1) (fun h => by cases h.1) xo yo (by cases a <;> rfl) (by cases a <;> rfl)
    unfold Op.equal Op.maxDepth Op.equalIn
    simp only [Sem.run_bind, run_underlying hu, Result.andThen_ok]
    cases a <;> rfl
  · cases hT
@[simp] theorem bq_sleql (a : Option Addr) (n c n' c' : Nat) (hT : isSl P T = true) : qG P (bq .eql T xo yo (.slice a n c) (.slice none n' c')) w K = K (.bool a.isNone) := qG_of (run_slnil a n c n' c' hT).1
@[simp] theorem bq_slneq (a : Option Addr) (n c n' c' : Nat) (hT : isSl P T = true) : qG P (bq .neq T xo yo (.slice a n c) (.slice none n' c')) w K = K (.bool !a.isNone) := qG_of (run_slnil a n c n' c' hT).2
end

/-! ### the forms, their operands known -/
@[simp] theorem pk_b {t : Bool} {a b : Value} {K : Value → Prop} : pk (.bool t) a b K = K (bif t then a else b) := rfl
@[simp] theorem nk_p {a : Addr} {K : Value → Prop} : nk (.pointer (some a)) K = K (.pointer (some a)) := rfl
@[simp] theorem bV_b {t : Bool} {T F : Prop} : bV (.bool t) T F = ((t = true → T) ∧ (t = false → F)) := by cases t <;> simp [bV]
@[simp] theorem ld1_p {a : Addr} {w : World} {K : Value → Prop} : ld1 (.pointer (some a)) w K = rd1 w a K := rfl
@[simp] theorem ldn_p {n : Nat} {a : Addr} {w : World} {K : Value → Prop} : ldn n (.pointer (some a)) w K = rdN w a n fun cs => K (.agg cs) := rfl
@[simp] theorem st1_p {a : Addr} {v : Value} {w : World} {K : World → Prop} : st1 (.pointer (some a)) v w K = (one v = true ∧ wr1 w a v K) := rfl
@[simp] theorem stn_p {n : Nat} {a : Addr} {cs : Array Value} {w : World} {K : World → Prop} : stn n (.pointer (some a)) (.agg cs) w K = (cs.size = n ∧ wrN w a cs K) := rfl
@[simp] theorem add_mk {b o n : Nat} : (⟨b, o, none⟩ : Addr).add n = ⟨b, o + n, none⟩ := add_none rfl n
@[simp] theorem fa_p {off b o : Nat} {K : Value → Prop} : fa off (.pointer (some ⟨b, o, none⟩)) K = K (.pointer (some ⟨b, o + off, none⟩)) := by unfold fa; simp
@[simp] theorem ia_p {n b o len cap : Nat} {k : IntKind} {j : Int} {K : Value → Prop} : ia n (.slice (some ⟨b, o, none⟩) len cap) (.int k j) K = ((0 ≤ j ∧ j < len) ∧ K (.pointer (some ⟨b, o + j.toNat * n, none⟩))) := by unfold ia; simp
@[simp] theorem iaA_p {len n b o : Nat} {k : IntKind} {j : Int} {K : Value → Prop} : iaA len n (.pointer (some ⟨b, o, none⟩)) (.int k j) K = ((0 ≤ j ∧ j < len) ∧ K (.pointer (some ⟨b, o + j.toNat * n, none⟩))) := by unfold iaA; simp
@[simp] theorem slL_p {n len cap : Nat} {a : Option Addr} {lo hi : Option Value} {K : Value → Prop} : slL n (.slice a len cap) lo hi K = bnd hi len cap fun h => bnd lo 0 h fun l => K (.slice (if cap = l then a else a.map (·.add (l * n))) (h - l) (cap - l)) := rfl
@[simp] theorem slA_p {len n b o : Nat} {lo hi : Option Value} {K : Value → Prop} : slA len n (.pointer (some ⟨b, o, none⟩)) lo hi K = bnd hi len len fun h => bnd lo 0 h fun l => K (.slice (some ⟨b, (if len = l then o else o + l * n), none⟩) (h - l) (len - l)) := by
  unfold slA
  have : ∀ l, (if len = l then (⟨b, o, none⟩ : Addr) else (⟨b, o, none⟩ : Addr).add (l * n)) = ⟨b, (if len = l then o else o + l * n), none⟩ := by intro l; split <;> simp
  simp only [this]
@[simp] theorem slS_p {s : ByteArray} {lo hi : Option Value} {K : Value → Prop} : slS (.string s) lo hi K = bnd hi s.size s.size fun h => bnd lo 0 h fun l => K (.string (s.extract l h)) := rfl
@[simp] theorem bnd_none {d y : Nat} {K : Nat → Prop} : bnd none d y K = K d := rfl
@[simp] theorem bnd_some {k : IntKind} {i : Int} {d y : Nat} {K : Nat → Prop} : bnd (some (.int k i)) d y K = ((0 ≤ i ∧ i ≤ y) ∧ K i.toNat) := rfl
@[simp] theorem lenS_s {s : ByteArray} {K : Value → Prop} : lenS (.string s) K = K (.int .i64 s.size) := rfl
@[simp] theorem lenL_s {a : Option Addr} {n c : Nat} {K : Value → Prop} : lenL (.slice a n c) K = K (.int .i64 n) := rfl
@[simp] theorem cvI_i {kd k : IntKind} {n : Int} {K : Value → Prop} : cvI kd (.int k n) K = K (.int kd (kd.wrap n)) := rfl
@[simp] theorem cvSS_s {s : ByteArray} {K : Value → Prop} : cvSS (.string s) K = K (.string s) := rfl
@[simp] theorem fld_a {agg : Bool} {off n : Nat} {cs : Array Value} {K : Value → Prop} : fld agg off n (.agg cs) K = partG agg off n cs K := rfl
@[simp] theorem part_t {off n : Nat} {cs : Array Value} {K : Value → Prop} : partG true off n cs K = K (.agg (cs.extract off (off + n))) := rfl
@[simp] theorem part_f {off n : Nat} {cs : Array Value} {K : Value → Prop} : partG false off n cs K = match cs[off]? with | some v => K v | none => False := rfl
@[simp] theorem newG_k {c : Array Value} {T : TypeId} {w : World} {K : Value → World → Prop} : newG c T w K = K (.pointer (some ⟨w.heap.size, 0, none⟩)) (w.alloc (.cells c T)) := rfl
@[simp] theorem rd1_mk {w : World} {b o : Nat} {K : Value → Prop} : rd1 w ⟨b, o, none⟩ K = match w.heap[b]? with | some (.cells c _ _) => (match c[o]? with | some v => K v | none => False) | _ => False := by
  unfold rd1
  cases h : w.heap[b]? with
  | none => rfl
  | some x => cases x <;> first | rfl | (simp only [true_and]; rfl)
@[simp] theorem rdN_mk {w : World} {b o n : Nat} {K : Array Value → Prop} : rdN w ⟨b, o, none⟩ n K = match w.heap[b]? with | some (.cells c _ _) => o + n ≤ c.size ∧ K (c.extract o (o + n)) | _ => False := by
  unfold rdN; split <;> simp_all
@[simp] theorem wr1_mk {w : World} {b o : Nat} {v : Value} {K : World → Prop} : wr1 w ⟨b, o, none⟩ v K = match w.heap[b]? with | some (.cells c T fr) => (o < c.size ∧ okFr fr o 1) ∧ K (setBlk w b (.cells (c.setIfInBounds o v) T fr)) | _ => False := by
  unfold wr1; split <;> simp_all
@[simp] theorem wrN_mk {w : World} {b o : Nat} {vs : Array Value} {K : World → Prop} : wrN w ⟨b, o, none⟩ vs K = match w.heap[b]? with | some (.cells c T fr) => (o + vs.size ≤ c.size ∧ okFr fr o vs.size ∧ vs.all one = true) ∧ K (setBlk w b (.cells (splice c o vs) T fr)) | _ => False := by
  unfold wrN; split <;> simp_all
@[simp] theorem okFr0 {o n : Nat} : okFr (0, 0) o n = True := by simp [okFr]
@[simp] theorem one_int {k : IntKind} {n : Int} : one (.int k n) = true := rfl
@[simp] theorem one_bool {b : Bool} : one (.bool b) = true := rfl
@[simp] theorem one_str {s : ByteArray} : one (.string s) = true := rfl
@[simp] theorem one_ptr {a : Option Addr} : one (.pointer a) = true := rfl
@[simp] theorem one_sl {a : Option Addr} {n c : Nat} : one (.slice a n c) = true := rfl
/-! ### worlds -/
@[simp] theorem heap_drew {w : World} : w.drew.heap = w.heap := rfl
@[simp] theorem size_setBlk {w : World} {b : Nat} {o : Obj} : (setBlk w b o).heap.size = w.heap.size := by simp [setBlk]
theorem heap_setBlk {w : World} {b b' : Nat} {o : Obj} : (setBlk w b o).heap[b']? = if b = b' then (if b < w.heap.size then some o else none) else w.heap[b']? := by
  simp only [setBlk, Array.getElem?_setIfInBounds]
/-- there is such a block -/
def Live (w : World) (b : Nat) : Prop := b < w.heap.size
theorem live_of {w : World} {b : Nat} {o : Obj} (h : w.heap[b]? = some o) : Live w b := (Array.getElem?_eq_some_iff.1 h).1
theorem heap_self {w : World} {b : Nat} {o : Obj} (h : Live w b) : (setBlk w b o).heap[b]? = some o := by
  unfold Live at h; rw [heap_setBlk, if_pos rfl, if_pos h]
theorem heap_ne {w : World} {b b' : Nat} {o : Obj} (h : ¬ b = b') : (setBlk w b o).heap[b']? = w.heap[b']? := by
  rw [heap_setBlk, if_neg h]
@[simp] theorem live_setBlk {w : World} {b b' : Nat} {o : Obj} : Live (setBlk w b o) b' = Live w b' := by simp [Live]
@[simp] theorem live_drew {w : World} {b : Nat} : Live w.drew b = Live w b := rfl
theorem heap_new {w : World} {o : Obj} : (w.alloc o).heap[w.heap.size]? = some o := by
  show (w.heap.push o)[w.heap.size]? = _
  simp
@[simp] theorem setBlk_new {w : World} {o o' : Obj} : Q.setBlk (w.alloc o) w.heap.size o' = w.alloc o' := by
  unfold Q.setBlk World.alloc
  simp only [World.mk.injEq, and_true]
  apply Array.ext_getElem?
  intro j
  rw [Array.getElem?_setIfInBounds, Array.getElem?_push, Array.getElem?_push]
  by_cases hj : w.heap.size = j
  · subst hj; simp
  · have : ¬ j = w.heap.size := fun h => hj h.symm
    simp [hj, this]
theorem heap_alloc {w : World} {b' : Nat} {o : Obj} : (w.alloc o).heap[b']? = if b' = w.heap.size then some o else w.heap[b']? := by
  show (w.heap.push o)[b']? = _
  rw [Array.getElem?_push]
@[simp] theorem setBlk2 {w : World} {b : Nat} {o o' : Obj} : setBlk (setBlk w b o) b o' = setBlk w b o' := setBlk_setBlk w b o o'
@[simp] theorem setBlk_drew {w : World} {b : Nat} {o : Obj} : setBlk w.drew b o = (setBlk w b o).drew := rfl
@[simp] theorem alloc_drew' {w : World} {o : Obj} : w.drew.alloc o = (w.alloc o).drew := rfl
theorem lt_of_blk {w : World} {b : Nat} {o : Obj} (h : w.heap[b]? = some o) : b < w.heap.size := (Array.getElem?_eq_some_iff.1 h).1
/-- outside the blocks 'S' what there was is as it was -/
structure Kp (S : List Nat) (w w' : World) : Prop where
  os : w'.os = w.os
  tape : w'.tape = w.tape
  output : w'.output = w.output
  size : w.heap.size ≤ w'.heap.size
  keep : ∀ b, b < w.heap.size → b ∉ S → w'.heap[b]? = w.heap[b]?
theorem Kp.refl (S : List Nat) (w : World) : Kp S w w := ⟨rfl, rfl, rfl, Nat.le_refl _, fun _ _ _ => rfl⟩
theorem Kp.trans {S S' : List Nat} {w w1 w2 : World} (h : Kp S w w1) (h' : Kp S' w1 w2) (hS : ∀ b, b ∈ S' → b < w.heap.size → b ∈ S) : Kp S w w2 :=
  ⟨h'.os.trans h.os, h'.tape.trans h.tape, h'.output.trans h.output, Nat.le_trans h.size h'.size, fun b hb hn => (h'.keep b (Nat.lt_of_lt_of_le hb h.size) (fun hm => hn (hS b hm hb))).trans (h.keep b hb hn)⟩
theorem Kp.trans' {S : List Nat} {w w1 w2 : World} (h : Kp S w w1) (h' : Kp S w1 w2) : Kp S w w2 := h.trans h' fun _ h _ => h
theorem Kp.mono {S S' : List Nat} {w w' : World} (h : Kp S w w') (hS : ∀ b, b ∈ S → b < w.heap.size → b ∈ S') : Kp S' w w' := (Kp.refl S' w).trans h hS
theorem Kp.drew {S : List Nat} {w w' : World} (h : Kp S w w') : Kp S w w'.drew := ⟨h.os, h.tape, h.output, h.size, h.keep⟩
theorem Kp.alloc {S : List Nat} {w w' : World} (h : Kp S w w') (o : Obj) : Kp S w (w'.alloc o) :=
  ⟨h.os, h.tape, h.output, by simp; have := h.size; omega, fun b hb hn => by
    rw [heap_alloc, if_neg (by have := h.size; omega)]; exact h.keep b hb hn⟩
theorem Kp.setBlk {S : List Nat} {w w' : World} (h : Kp S w w') {b : Nat} (hb : b ∈ S ∨ w.heap.size ≤ b) (o : Obj) : Kp S w (setBlk w' b o) :=
  ⟨h.os, h.tape, h.output, by simpa using h.size, fun b' hb' hn => by
    rw [heap_setBlk, if_neg (by intro hh; subst hh; rcases hb with hb | hb; exact hn hb; omega)]; exact h.keep b' hb' hn⟩
theorem Kp.get {S : List Nat} {w w' : World} (h : Kp S w w') {b : Nat} {o : Obj} (hb : w.heap[b]? = some o) (hn : b ∉ S) : w'.heap[b]? = some o := by
  rw [h.keep b (lt_of_blk hb) hn]; exact hb
theorem Kp.below {w w' : World} (h : Kp [] w w') : Go.RowKit.Below w.heap.size w w' := ⟨h.os, h.tape, h.output, h.size, fun k hk => h.keep k hk (by simp)⟩
theorem callG.mono {f : FuncId} {args : Array Value} {w : World} {K K' : Value → World → Prop} (h : callG P f args w K) (hk : ∀ v w', K v w' → K' v w') : callG P f args w K' :=
  Calls.mono h fun _ _ ⟨v, he, hv⟩ => ⟨v, he, hk v _ hv⟩
/-! ### numbers that fit -/
theorem w64 {x : Int} (h0 : -9223372036854775808 ≤ x) (h1 : x < 9223372036854775808) : IntKind.i64.wrap x = x := wrap64 x h0 h1
/-! ### loops: what holds at a round's head, and how many rounds are left -/
theorem loop_inv {F : (List Value → World → Prop) → List Value → World → Prop} (I : Nat → List Value → World → Prop) (hF : ∀ m N xs w, I m xs w → (∀ m' xs' w', m' < m → I m' xs' w' → N xs' w') → F N xs w)
    {m : Nat} {xs : List Value} {w : World} (h : I m xs w) : ∃ k, loopV F k xs w := by
  have key : ∀ k m, m < k → ∀ xs w, I m xs w → loopV F k xs w := by
    intro k
    induction k with
    | zero => intro m hm; omega
    | succ k ih => intro m hm xs w h; exact hF m _ xs w h fun m' xs' w' hlt h' => ih m' (by omega) xs' w' h'
  exact ⟨m + 1, key (m + 1) m (by omega) xs w h⟩
end Go.Q

set_option linter.unusedVariables false
set_option linter.unusedSimpArgs false
namespace Go.Proofs
open Go Go.Q
@[simp] theorem Try.isBool4 : isBoolT Try.prog 4 = true := by kernel_rfl
@[simp] theorem Try.isPtr15 : isPtr Try.prog 15 = true := by kernel_rfl
@[simp] theorem Try.isPtr16 : isPtr Try.prog 16 = true := by kernel_rfl
@[simp] theorem Try.isPtr17 : isPtr Try.prog 17 = true := by kernel_rfl
@[simp] theorem Try.isSl22 : isSl Try.prog 22 = true := by kernel_rfl
@[simp] theorem Try.isSl25 : isSl Try.prog 25 = true := by kernel_rfl
@[simp] theorem Try.isSl30 : isSl Try.prog 30 = true := by kernel_rfl
@[simp] theorem Try.isSl44 : isSl Try.prog 44 = true := by kernel_rfl
@[simp] theorem Try.isSl59 : isSl Try.prog 59 = true := by kernel_rfl
@[simp] theorem Try.isSl60 : isSl Try.prog 60 = true := by kernel_rfl
@[simp] theorem Try.isSl79 : isSl Try.prog 79 = true := by kernel_rfl
@[simp] theorem Try.isPtr97 : isPtr Try.prog 97 = true := by kernel_rfl
@[simp] theorem Try.isPtr99 : isPtr Try.prog 99 = true := by kernel_rfl
@[simp] theorem Try.isPtr112 : isPtr Try.prog 112 = true := by kernel_rfl
@[simp] theorem Try.isSl117 : isSl Try.prog 117 = true := by kernel_rfl
@[simp] theorem Try.isSl118 : isSl Try.prog 118 = true := by kernel_rfl
@[simp] theorem Try.isSl122 : isSl Try.prog 122 = true := by kernel_rfl
@[simp] theorem Try.isSl123 : isSl Try.prog 123 = true := by kernel_rfl
end Go.Proofs

set_option linter.unusedVariables false
set_option linter.unusedSimpArgs false
namespace Go.Proofs
open Go Go.Q
set_option maxRecDepth 100000
/-! internal/bytealg.CompareString -/
def internal_bytealg_CompareString_s0 (R : Value → World → Prop) (x0 x1 : Value) (w : World) : Prop :=
  nG Try.prog (callFunc 60 #[x0, x1]) w fun t7 w =>
  R t7 w
theorem internal_bytealg_CompareString_s0_eq (R : Value → World → Prop) : ∀ e w, lift Try.prog 8 (bodyOf Try.f49) (finK Try.prog Try.f49.results.toList R) e w = internal_bytealg_CompareString_s0 R (e 0) (e 1) w := fun e w => by kernel_rfl
def internal_bytealg_CompareString (R : Value → World → Prop) (x0 x1 : Value) (w : World) : Prop := internal_bytealg_CompareString_s0 R x0 x1 w
theorem internal_bytealg_CompareString_call {R : Value → World → Prop} {x0 x1 : Value} {w : World} (h : internal_bytealg_CompareString R x0 x1 w) : callG Try.prog 49 #[x0, x1] w R :=
  calls_lift_eq Try.mixed Try.func49 (args := [x0, x1]) rfl rfl rfl rfl ((internal_bytealg_CompareString_s0_eq R) (envOf [x0, x1]) w) (by kernel_rfl) h
/-! strings.Compare -/
def strings_Compare_s0 (R : Value → World → Prop) (x0 x1 : Value) (w : World) : Prop :=
  callG Try.prog 49 #[x0, x1] w fun t7 w =>
  R t7 w
theorem strings_Compare_s0_eq (R : Value → World → Prop) : ∀ e w, lift Try.prog 8 (bodyOf Try.f40) (finK Try.prog Try.f40.results.toList R) e w = strings_Compare_s0 R (e 0) (e 1) w := fun e w => by kernel_rfl
def strings_Compare (R : Value → World → Prop) (x0 x1 : Value) (w : World) : Prop := strings_Compare_s0 R x0 x1 w
theorem strings_Compare_call {R : Value → World → Prop} {x0 x1 : Value} {w : World} (h : strings_Compare R x0 x1 w) : callG Try.prog 40 #[x0, x1] w R :=
  calls_lift_eq Try.mixed Try.func40 (args := [x0, x1]) rfl rfl rfl rfl ((strings_Compare_s0_eq R) (envOf [x0, x1]) w) (by kernel_rfl) h
/-! cmp.Or[int] -/
def cmp_Or_int_s0 (R : Value → World → Prop) (x3 : Value) (w : World) : Prop :=
  R x3 w
theorem cmp_Or_int_s0_eq (R : Value → World → Prop) : ∀ e w, lift Try.prog 18 (sub (bodyOf Try.f38) [1, 1, 1]) (finK Try.prog Try.f38.results.toList R) e w = cmp_Or_int_s0 R (e 3) w := fun e w => by kernel_rfl
def cmp_Or_int_b1 (R : Value → World → Prop) (N1 : List Value → World → Prop) (x3 x6 x7 x8 : Value) (w : World) : Prop :=
  qG Try.prog (bq .lss 3 (.tmp 8) (.tmp 7) x8 x7) w fun t9 =>
  bV t9
  (ia 1 x6 x8 fun t10 =>
  ld1 t10 w fun t11 =>
  qG Try.prog (bq .neq 3 (.tmp 12) (.tmp 13) t11 x3) w fun t14 =>
  bV t14
  (R t11 w)
  (qG Try.prog (bq .add 3 (.tmp 8) (.const (.int .i64 1)) x8 (.int .i64 1)) w fun t16 =>
  N1 [x3, x6, x7, t16] w))
  (cmp_Or_int_s0 R x3 w)
theorem cmp_Or_int_b1_eq (R : Value → World → Prop) (N1 : List Value → World → Prop) : ∀ e w, lift Try.prog 18 (sub (bodyOf Try.f38) [1, 1, 0, 1, 0, 0]) (seqK (fun e w => N1 [e 3, e 6, e 7, e 8] w) (blockK 0 (seqK (fun e w => cmp_Or_int_s0 R (e 3) w) (finK Try.prog Try.f38.results.toList R)))) e w = cmp_Or_int_b1 R N1 (e 3) (e 6) (e 7) (e 8) w := fun e w => by kernel_rfl
def cmp_Or_int_L2F (R : Value → World → Prop) (N1 : List Value → World → Prop) (xs : List Value) (w : World) : Prop :=
  match xs with
  | [x3, x6, x7, x8] => cmp_Or_int_b1 R N1 x3 x6 x7 x8 w
  | _ => False
def cmp_Or_int_L2 (R : Value → World → Prop) (x3 x6 x7 x8 : Value) (w : World) : Prop :=
  ∃ m, loopV (cmp_Or_int_L2F R) m [x3, x6, x7, x8] w
theorem cmp_Or_int_L2_eq (R : Value → World → Prop) : ∀ e w, lift Try.prog 18 (sub (bodyOf Try.f38) [1, 1, 0, 1, 0]) (blockK 0 (seqK (fun e w => cmp_Or_int_s0 R (e 3) w) (finK Try.prog Try.f38.results.toList R))) e w = cmp_Or_int_L2 R (e 3) (e 6) (e 7) (e 8) w := loop_seg (F := cmp_Or_int_L2F R) (sel := fun e => [e 3, e 6, e 7, e 8]) fun N1 => (cmp_Or_int_b1_eq R N1)
def cmp_Or_int_s3 (R : Value → World → Prop) (x0 x3 : Value) (w : World) : Prop :=
  lenL x0 fun t7 =>
  cmp_Or_int_L2 R x3 x0 t7 (.int .i64 0) w
theorem cmp_Or_int_s3_eq (R : Value → World → Prop) : ∀ e w, lift Try.prog 18 (sub (bodyOf Try.f38) [1, 1, 0]) (seqK (fun e w => cmp_Or_int_s0 R (e 3) w) (finK Try.prog Try.f38.results.toList R)) e w = cmp_Or_int_s3 R (e 0) (e 3) w :=
  segs_eq (l := [(sub (bodyOf Try.f38) [1, 1, 0, 0])]) (y := (sub (bodyOf Try.f38) [1, 1, 0, 1])) (Y := (fun e w => cmp_Or_int_L2 R (e 3) (e 6) (e 7) (e 8) w)) (cmp_Or_int_L2_eq R) (fun e w => by kernel_rfl)
def cmp_Or_int_s4 (R : Value → World → Prop) (x0 : Value) (w : World) : Prop :=
  cmp_Or_int_s3 R x0 (.int .i64 0) w
theorem cmp_Or_int_s4_eq (R : Value → World → Prop) : ∀ e w, lift Try.prog 18 (bodyOf Try.f38) (finK Try.prog Try.f38.results.toList R) e w = cmp_Or_int_s4 R (e 0) w :=
  segs_eq (l := [(sub (bodyOf Try.f38) [0]), (sub (bodyOf Try.f38) [1, 0])]) (y := (sub (bodyOf Try.f38) [1, 1])) (Y := (fun e w => cmp_Or_int_s3 R (e 0) (e 3) w)) (seq_seg (x := (sub (bodyOf Try.f38) [1, 1, 0])) (y := (sub (bodyOf Try.f38) [1, 1, 1])) (cmp_Or_int_s0_eq R) (cmp_Or_int_s3_eq R)) (fun e w => by kernel_rfl)
def cmp_Or_int (R : Value → World → Prop) (x0 : Value) (w : World) : Prop := cmp_Or_int_s4 R x0 w
theorem cmp_Or_int_call {R : Value → World → Prop} {x0 : Value} {w : World} (h : cmp_Or_int R x0 w) : callG Try.prog 38 #[x0] w R :=
  calls_lift_eq Try.mixed Try.func38 (args := [x0]) rfl rfl rfl rfl ((cmp_Or_int_s4_eq R) (envOf [x0]) w) (by kernel_rfl) h
end Go.Proofs

set_option linter.unusedVariables false
set_option linter.unusedSimpArgs false
namespace Go.Proofs
open Go Go.Q
set_option maxRecDepth 100000
/-! cmp.isNaN[int] -/
def cmp_isNaN_int_s0 (R : Value → World → Prop) (x0 : Value) (w : World) : Prop :=
  qG Try.prog (bq .neq 3 (.tmp 3) (.tmp 4) x0 x0) w fun t5 =>
  R t5 w
theorem cmp_isNaN_int_s0_eq (R : Value → World → Prop) : ∀ e w, lift Try.prog 6 (bodyOf Try.f48) (finK Try.prog Try.f48.results.toList R) e w = cmp_isNaN_int_s0 R (e 0) w := fun e w => by kernel_rfl
def cmp_isNaN_int (R : Value → World → Prop) (x0 : Value) (w : World) : Prop := cmp_isNaN_int_s0 R x0 w
theorem cmp_isNaN_int_call {R : Value → World → Prop} {x0 : Value} {w : World} (h : cmp_isNaN_int R x0 w) : callG Try.prog 48 #[x0] w R :=
  calls_lift_eq Try.mixed Try.func48 (args := [x0]) rfl rfl rfl rfl ((cmp_isNaN_int_s0_eq R) (envOf [x0]) w) (by kernel_rfl) h
/-! cmp.Compare[int] -/
def cmp_Compare_int_s0 (R : Value → World → Prop) (x0 x1 : Value) (w : World) : Prop :=
  callG Try.prog 48 #[x0] w fun t8 w =>
  callG Try.prog 48 #[x1] w fun t10 w =>
  bV t8
  (bV t10
  (R (.int .i64 0) w)
  (R (.int .i64 (-1)) w))
  (bV t10
  (R (.int .i64 1) w)
  (qG Try.prog (bq .lss 3 (.tmp 14) (.tmp 15) x0 x1) w fun t16 =>
  bV t16
  (R (.int .i64 (-1)) w)
  (qG Try.prog (bq .gtr 3 (.tmp 17) (.tmp 18) x0 x1) w fun t19 =>
  bV t19
  (R (.int .i64 1) w)
  (R (.int .i64 0) w))))
theorem cmp_Compare_int_s0_eq (R : Value → World → Prop) : ∀ e w, lift Try.prog 20 (bodyOf Try.f39) (finK Try.prog Try.f39.results.toList R) e w = cmp_Compare_int_s0 R (e 0) (e 1) w := fun e w => by kernel_rfl
def cmp_Compare_int (R : Value → World → Prop) (x0 x1 : Value) (w : World) : Prop := cmp_Compare_int_s0 R x0 x1 w
theorem cmp_Compare_int_call {R : Value → World → Prop} {x0 x1 : Value} {w : World} (h : cmp_Compare_int R x0 x1 w) : callG Try.prog 39 #[x0, x1] w R :=
  calls_lift_eq Try.mixed Try.func39 (args := [x0, x1]) rfl rfl rfl rfl ((cmp_Compare_int_s0_eq R) (envOf [x0, x1]) w) (by kernel_rfl) h
end Go.Proofs

set_option linter.unusedVariables false
set_option linter.unusedSimpArgs false
namespace Go.Proofs
open Go Go.Q
set_option maxRecDepth 100000
/-! quayside/value.Compare -/
def value_Compare_s0 (R : Value → World → Prop) (x0 x1 : Value) (w : World) : Prop :=
  newG (Value.cells x0) 35 w fun t2 w =>
  newG (Value.cells x1) 35 w fun t3 w =>
  fa 0 t2 fun t5 =>
  ld1 t5 (World.drew w) fun t6 =>
  fa 0 t3 fun t7 =>
  ld1 t7 (World.drew w) fun t8 =>
  fa 1 t2 fun t10 =>
  ld1 t10 (World.drew w) fun t11 =>
  fa 1 t3 fun t12 =>
  ld1 t12 (World.drew w) fun t13 =>
  fa 2 t2 fun t15 =>
  ld1 t15 (World.drew w) fun t16 =>
  fa 2 t3 fun t17 =>
  ld1 t17 (World.drew w) fun t18 =>
  callG Try.prog 39 #[t6, t8] (World.drew w) fun t9 w =>
  ld1 t17 w (fun u => u = t18) ∧
  ld1 t15 w (fun u => u = t16) ∧
  ld1 t12 w (fun u => u = t13) ∧
  ld1 t10 w (fun u => u = t11) ∧
  callG Try.prog 39 #[t11, t13] w fun t14 w =>
  ld1 t17 w (fun u => u = t18) ∧
  ld1 t15 w (fun u => u = t16) ∧
  callG Try.prog 40 #[t16, t18] w fun t19 w =>
  bsl 3 1 3 (zc Try.prog 3) #[(0, t9), (1, t14), (2, t19)] w fun t20 w =>
  callG Try.prog 38 #[t20] w fun t21 w =>
  R t21 w
theorem value_Compare_s0_eq (R : Value → World → Prop) : ∀ e w, lift Try.prog 22 (bodyOf Try.f25) (finK Try.prog Try.f25.results.toList R) e w = value_Compare_s0 R (e 0) (e 1) w := fun e w => by kernel_rfl
def value_Compare (R : Value → World → Prop) (x0 x1 : Value) (w : World) : Prop := value_Compare_s0 R x0 x1 w
theorem value_Compare_call {R : Value → World → Prop} {x0 x1 : Value} {w : World} (h : value_Compare R x0 x1 w) : callG Try.prog 25 #[x0, x1] w R :=
  calls_lift_eq Try.mixed Try.func25 (args := [x0, x1]) rfl rfl rfl rfl ((value_Compare_s0_eq R) (envOf [x0, x1]) w) (by kernel_rfl) h
/-! quayside/quaysideref05.less -/
def ref05_less_s0 (R : Value → World → Prop) (x0 x1 : Value) (w : World) : Prop :=
  newG (Value.cells x0) 35 w fun t2 w =>
  newG (Value.cells x1) 35 w fun t3 w =>
  fa 0 t2 fun t5 =>
  ld1 t5 w fun t6 =>
  fa 0 t3 fun t7 =>
  ld1 t7 w fun t8 =>
  qG Try.prog (bq .neq 3 (.tmp 6) (.tmp 8) t6 t8) w fun t9 =>
  bV t9
  (fa 0 t2 fun t10 =>
  ld1 t10 w fun t11 =>
  fa 0 t3 fun t12 =>
  ld1 t12 w fun t13 =>
  qG Try.prog (bq .lss 3 (.tmp 11) (.tmp 13) t11 t13) w fun t14 =>
  R t14 w)
  (fa 1 t2 fun t15 =>
  ld1 t15 w fun t16 =>
  fa 1 t3 fun t17 =>
  ld1 t17 w fun t18 =>
  qG Try.prog (bq .neq 3 (.tmp 16) (.tmp 18) t16 t18) w fun t19 =>
  bV t19
  (fa 1 t2 fun t20 =>
  ld1 t20 w fun t21 =>
  fa 1 t3 fun t22 =>
  ld1 t22 w fun t23 =>
  qG Try.prog (bq .lss 3 (.tmp 21) (.tmp 23) t21 t23) w fun t24 =>
  R t24 w)
  (fa 2 t2 fun t25 =>
  ld1 t25 w fun t26 =>
  fa 2 t3 fun t27 =>
  ld1 t27 w fun t28 =>
  qG Try.prog (bq .lss 9 (.tmp 26) (.tmp 28) t26 t28) w fun t29 =>
  R t29 w))
theorem ref05_less_s0_eq (R : Value → World → Prop) : ∀ e w, lift Try.prog 30 (bodyOf Try.f32) (finK Try.prog Try.f32.results.toList R) e w = ref05_less_s0 R (e 0) (e 1) w := fun e w => by kernel_rfl
def ref05_less (R : Value → World → Prop) (x0 x1 : Value) (w : World) : Prop := ref05_less_s0 R x0 x1 w
theorem ref05_less_call {R : Value → World → Prop} {x0 x1 : Value} {w : World} (h : ref05_less R x0 x1 w) : callG Try.prog 32 #[x0, x1] w R :=
  calls_lift_eq Try.mixed Try.func32 (args := [x0, x1]) rfl rfl rfl rfl ((ref05_less_s0_eq R) (envOf [x0, x1]) w) (by kernel_rfl) h
/-! quayside/quaysideref05.Compare -/
def ref05_Compare_s0 (R : Value → World → Prop) (x0 x1 : Value) (w : World) : Prop :=
  newG (Value.cells x0) 35 w fun t2 w =>
  newG (Value.cells x1) 35 w fun t3 w =>
  ldn 3 t2 w fun t5 =>
  ldn 3 t3 w fun t6 =>
  callG Try.prog 32 #[t5, t6] w fun t7 w =>
  bV t7
  (R (.int .i64 (-1)) w)
  (ldn 3 t3 w fun t8 =>
  ldn 3 t2 w fun t9 =>
  callG Try.prog 32 #[t8, t9] w fun t10 w =>
  bV t10
  (R (.int .i64 1) w)
  (R (.int .i64 0) w))
theorem ref05_Compare_s0_eq (R : Value → World → Prop) : ∀ e w, lift Try.prog 11 (bodyOf Try.f16) (finK Try.prog Try.f16.results.toList R) e w = ref05_Compare_s0 R (e 0) (e 1) w := fun e w => by kernel_rfl
def ref05_Compare (R : Value → World → Prop) (x0 x1 : Value) (w : World) : Prop := ref05_Compare_s0 R x0 x1 w
theorem ref05_Compare_call {R : Value → World → Prop} {x0 x1 : Value} {w : World} (h : ref05_Compare R x0 x1 w) : callG Try.prog 16 #[x0, x1] w R :=
  calls_lift_eq Try.mixed Try.func16 (args := [x0, x1]) rfl rfl rfl rfl ((ref05_Compare_s0_eq R) (envOf [x0, x1]) w) (by kernel_rfl) h
/-! slices.Clone[[]quayside/api.Value,quayside/api.Value] -/
def slices_Clone_api_Value_api_Value_s0 (R : Value → World → Prop) (x0 : Value) (w : World) : Prop :=
  qG Try.prog (bq .eql 30 (.tmp 3) (.const (.slice none 0 0)) x0 (.slice none 0 0)) w fun t4 =>
  bV t4
  (R (.slice none 0 0) w)
  (bsl 35 3 0 (zc Try.prog 35) #[] w fun t5 w =>
  app 35 3 32 (zc Try.prog 35) t5 x0 w fun t7 w =>
  R t7 w)
theorem slices_Clone_api_Value_api_Value_s0_eq (R : Value → World → Prop) : ∀ e w, lift Try.prog 8 (bodyOf Try.f36) (finK Try.prog Try.f36.results.toList R) e w = slices_Clone_api_Value_api_Value_s0 R (e 0) w := fun e w => by kernel_rfl
def slices_Clone_api_Value_api_Value (R : Value → World → Prop) (x0 : Value) (w : World) : Prop := slices_Clone_api_Value_api_Value_s0 R x0 w
theorem slices_Clone_api_Value_api_Value_call {R : Value → World → Prop} {x0 : Value} {w : World} (h : slices_Clone_api_Value_api_Value R x0 w) : callG Try.prog 36 #[x0] w R :=
  calls_lift_eq Try.mixed Try.func36 (args := [x0]) rfl rfl rfl rfl ((slices_Clone_api_Value_api_Value_s0_eq R) (envOf [x0]) w) (by kernel_rfl) h
/-! slices.Compact[[]quayside/api.Value,quayside/api.Value] -/
def slices_Compact_api_Value_api_Value_s0 (R : Value → World → Prop) (x0 : Value) (w : World) : Prop :=
  R x0 w
theorem slices_Compact_api_Value_api_Value_s0_eq (R : Value → World → Prop) : ∀ e w, lift Try.prog 61 (sub (bodyOf Try.f35) [1, 1, 1]) (finK Try.prog Try.f35.results.toList R) e w = slices_Compact_api_Value_api_Value_s0 R (e 0) w := fun e w => by kernel_rfl
def slices_Compact_api_Value_api_Value_s1 (R : Value → World → Prop) (N1 : List Value → World → Prop) (x0 x3 : Value) (w : World) : Prop :=
  qG Try.prog (bq .add 3 (.tmp 14) (.const (.int .i64 1)) x3 (.int .i64 1)) w fun t15 =>
  N1 [x0, t15] w
theorem slices_Compact_api_Value_api_Value_s1_eq (R : Value → World → Prop) (N1 : List Value → World → Prop) : ∀ e w, lift Try.prog 61 (sub (bodyOf Try.f35) [1, 1, 0, 1, 0, 0, 1, 1]) (seqK (fun e w => N1 [e 0, e 3] w) (blockK 0 (seqK (fun e w => slices_Compact_api_Value_api_Value_s0 R (e 0) w) (finK Try.prog Try.f35.results.toList R)))) e w = slices_Compact_api_Value_api_Value_s1 R N1 (e 0) (e 3) w := fun e w => by kernel_rfl
def slices_Compact_api_Value_api_Value_s2 (R : Value → World → Prop) (N1 : List Value → World → Prop) (x0 x3 : Value) (w : World) : Prop :=
  slL 3 x0 (some x3) none fun t56 =>
  clr 3 (zc Try.prog 35) t56 w fun _ w =>
  slL 3 x0 none (some x3) fun t59 =>
  R t59 w
theorem slices_Compact_api_Value_api_Value_s2_eq (R : Value → World → Prop) (N1 : List Value → World → Prop) : ∀ e w, lift Try.prog 61 (sub (bodyOf Try.f35) [1, 1, 0, 1, 0, 0, 1, 0, 0, 1, 0, 1, 1]) (blockK 1 (seqK (fun e w => slices_Compact_api_Value_api_Value_s1 R N1 (e 0) (e 3) w) (seqK (fun e w => N1 [e 0, e 3] w) (blockK 0 (seqK (fun e w => slices_Compact_api_Value_api_Value_s0 R (e 0) w) (finK Try.prog Try.f35.results.toList R)))))) e w = slices_Compact_api_Value_api_Value_s2 R N1 (e 0) (e 3) w := fun e w => by kernel_rfl
def slices_Compact_api_Value_api_Value_b3 (R : Value → World → Prop) (N1 : List Value → World → Prop) (N2 : List Value → World → Prop) (x0 x3 x4 x5 : Value) (w : World) : Prop :=
  lenL x4 fun t31 =>
  qG Try.prog (bq .lss 3 (.tmp 29) (.tmp 31) x5 t31) w fun t32 =>
  bV t32
  (ia 3 x4 x5 fun t37 =>
  ldn 3 t37 (World.drew w) fun t38 =>
  qG Try.prog (bq .sub 3 (.tmp 40) (.const (.int .i64 1)) x5 (.int .i64 1)) (World.drew w) fun t41 =>
  ia 3 x4 t41 fun t42 =>
  ldn 3 t42 (World.drew w) fun t43 =>
  qG Try.prog (bq .neq 35 (.tmp 38) (.tmp 43) t38 t43) (World.drew w) fun t44 =>
  bV t44
  (ia 3 x4 x5 fun t49 =>
  ldn 3 t49 (World.drew w) fun t50 =>
  ia 3 x0 x3 fun t51 =>
  stn 3 t51 t50 (World.drew w) fun w =>
  qG Try.prog (bq .add 3 (.tmp 52) (.const (.int .i64 1)) x3 (.int .i64 1)) w fun t53 =>
  qG Try.prog (bq .add 3 (.tmp 33) (.const (.int .i64 1)) x5 (.int .i64 1)) w fun t34 =>
  N2 [x0, t53, x4, t34] w)
  (qG Try.prog (bq .add 3 (.tmp 33) (.const (.int .i64 1)) x5 (.int .i64 1)) (World.drew w) fun t34_1 =>
  N2 [x0, x3, x4, t34_1] (World.drew w)))
  (slices_Compact_api_Value_api_Value_s2 R N1 x0 x3 w)
theorem slices_Compact_api_Value_api_Value_b3_eq (R : Value → World → Prop) (N1 : List Value → World → Prop) (N2 : List Value → World → Prop) : ∀ e w, lift Try.prog 61 (sub (bodyOf Try.f35) [1, 1, 0, 1, 0, 0, 1, 0, 0, 1, 0, 1, 0, 1, 0, 0]) (seqK (fun e w => N2 [e 0, e 3, e 4, e 5] w) (blockK 2 (seqK (fun e w => slices_Compact_api_Value_api_Value_s2 R N1 (e 0) (e 3) w) (blockK 1 (seqK (fun e w => slices_Compact_api_Value_api_Value_s1 R N1 (e 0) (e 3) w) (seqK (fun e w => N1 [e 0, e 3] w) (blockK 0 (seqK (fun e w => slices_Compact_api_Value_api_Value_s0 R (e 0) w) (finK Try.prog Try.f35.results.toList R))))))))) e w = slices_Compact_api_Value_api_Value_b3 R N1 N2 (e 0) (e 3) (e 4) (e 5) w := fun e w => by kernel_rfl
def slices_Compact_api_Value_api_Value_L4F (R : Value → World → Prop) (N1 : List Value → World → Prop) (N2 : List Value → World → Prop) (xs : List Value) (w : World) : Prop :=
  match xs with
  | [x0, x3, x4, x5] => slices_Compact_api_Value_api_Value_b3 R N1 N2 x0 x3 x4 x5 w
  | _ => False
def slices_Compact_api_Value_api_Value_L4 (R : Value → World → Prop) (N1 : List Value → World → Prop) (x0 x3 x4 x5 : Value) (w : World) : Prop :=
  ∃ m, loopV (slices_Compact_api_Value_api_Value_L4F R N1) m [x0, x3, x4, x5] w
theorem slices_Compact_api_Value_api_Value_L4_eq (R : Value → World → Prop) (N1 : List Value → World → Prop) : ∀ e w, lift Try.prog 61 (sub (bodyOf Try.f35) [1, 1, 0, 1, 0, 0, 1, 0, 0, 1, 0, 1, 0, 1, 0]) (blockK 2 (seqK (fun e w => slices_Compact_api_Value_api_Value_s2 R N1 (e 0) (e 3) w) (blockK 1 (seqK (fun e w => slices_Compact_api_Value_api_Value_s1 R N1 (e 0) (e 3) w) (seqK (fun e w => N1 [e 0, e 3] w) (blockK 0 (seqK (fun e w => slices_Compact_api_Value_api_Value_s0 R (e 0) w) (finK Try.prog Try.f35.results.toList R)))))))) e w = slices_Compact_api_Value_api_Value_L4 R N1 (e 0) (e 3) (e 4) (e 5) w := loop_seg (F := slices_Compact_api_Value_api_Value_L4F R N1) (sel := fun e => [e 0, e 3, e 4, e 5]) fun N2 => (slices_Compact_api_Value_api_Value_b3_eq R N1 N2)
def slices_Compact_api_Value_api_Value_s5 (R : Value → World → Prop) (N1 : List Value → World → Prop) (x0 x3 x4 : Value) (w : World) : Prop :=
  slices_Compact_api_Value_api_Value_L4 R N1 x0 x3 x4 (.int .i64 1) w
theorem slices_Compact_api_Value_api_Value_s5_eq (R : Value → World → Prop) (N1 : List Value → World → Prop) : ∀ e w, lift Try.prog 61 (sub (bodyOf Try.f35) [1, 1, 0, 1, 0, 0, 1, 0, 0, 1, 0, 1, 0]) (seqK (fun e w => slices_Compact_api_Value_api_Value_s2 R N1 (e 0) (e 3) w) (blockK 1 (seqK (fun e w => slices_Compact_api_Value_api_Value_s1 R N1 (e 0) (e 3) w) (seqK (fun e w => N1 [e 0, e 3] w) (blockK 0 (seqK (fun e w => slices_Compact_api_Value_api_Value_s0 R (e 0) w) (finK Try.prog Try.f35.results.toList R))))))) e w = slices_Compact_api_Value_api_Value_s5 R N1 (e 0) (e 3) (e 4) w :=
  segs_eq (l := [(sub (bodyOf Try.f35) [1, 1, 0, 1, 0, 0, 1, 0, 0, 1, 0, 1, 0, 0])]) (y := (sub (bodyOf Try.f35) [1, 1, 0, 1, 0, 0, 1, 0, 0, 1, 0, 1, 0, 1])) (Y := (fun e w => slices_Compact_api_Value_api_Value_L4 R N1 (e 0) (e 3) (e 4) (e 5) w)) (slices_Compact_api_Value_api_Value_L4_eq R N1) (fun e w => by kernel_rfl)
def slices_Compact_api_Value_api_Value_s6 (R : Value → World → Prop) (N1 : List Value → World → Prop) (x0 x3 : Value) (w : World) : Prop :=
  slL 3 x0 (some x3) none fun t28 =>
  slices_Compact_api_Value_api_Value_s5 R N1 x0 x3 t28 w
theorem slices_Compact_api_Value_api_Value_s6_eq (R : Value → World → Prop) (N1 : List Value → World → Prop) : ∀ e w, lift Try.prog 61 (sub (bodyOf Try.f35) [1, 1, 0, 1, 0, 0, 1, 0, 0, 1, 0]) (blockK 1 (seqK (fun e w => slices_Compact_api_Value_api_Value_s1 R N1 (e 0) (e 3) w) (seqK (fun e w => N1 [e 0, e 3] w) (blockK 0 (seqK (fun e w => slices_Compact_api_Value_api_Value_s0 R (e 0) w) (finK Try.prog Try.f35.results.toList R)))))) e w = slices_Compact_api_Value_api_Value_s6 R N1 (e 0) (e 3) w :=
  segs_eq (l := [(sub (bodyOf Try.f35) [1, 1, 0, 1, 0, 0, 1, 0, 0, 1, 0, 0])]) (y := (sub (bodyOf Try.f35) [1, 1, 0, 1, 0, 0, 1, 0, 0, 1, 0, 1])) (Y := (fun e w => slices_Compact_api_Value_api_Value_s5 R N1 (e 0) (e 3) (e 4) w)) (seq_seg (x := (sub (bodyOf Try.f35) [1, 1, 0, 1, 0, 0, 1, 0, 0, 1, 0, 1, 0])) (y := (sub (bodyOf Try.f35) [1, 1, 0, 1, 0, 0, 1, 0, 0, 1, 0, 1, 1])) (slices_Compact_api_Value_api_Value_s2_eq R N1) (slices_Compact_api_Value_api_Value_s5_eq R N1)) (fun e w => by kernel_rfl)
def slices_Compact_api_Value_api_Value_s7 (R : Value → World → Prop) (N1 : List Value → World → Prop) (x0 x3 : Value) (w : World) : Prop :=
  slices_Compact_api_Value_api_Value_s1 R N1 x0 x3 w
theorem slices_Compact_api_Value_api_Value_s7_eq (R : Value → World → Prop) (N1 : List Value → World → Prop) : ∀ e w, lift Try.prog 61 (sub (bodyOf Try.f35) [1, 1, 0, 1, 0, 0, 1, 0, 0, 1, 1]) (blockK 1 (seqK (fun e w => slices_Compact_api_Value_api_Value_s1 R N1 (e 0) (e 3) w) (seqK (fun e w => N1 [e 0, e 3] w) (blockK 0 (seqK (fun e w => slices_Compact_api_Value_api_Value_s0 R (e 0) w) (finK Try.prog Try.f35.results.toList R)))))) e w = slices_Compact_api_Value_api_Value_s7 R N1 (e 0) (e 3) w := fun e w => by kernel_rfl
def slices_Compact_api_Value_api_Value_s8 (R : Value → World → Prop) (N1 : List Value → World → Prop) (x0 x3 x25 : Value) (w : World) : Prop :=
  bV x25 (slices_Compact_api_Value_api_Value_s6 R N1 x0 x3 w) (slices_Compact_api_Value_api_Value_s7 R N1 x0 x3 w)
theorem slices_Compact_api_Value_api_Value_s8_eq (R : Value → World → Prop) (N1 : List Value → World → Prop) : ∀ e w, lift Try.prog 61 (sub (bodyOf Try.f35) [1, 1, 0, 1, 0, 0, 1, 0, 0, 1]) (blockK 1 (seqK (fun e w => slices_Compact_api_Value_api_Value_s1 R N1 (e 0) (e 3) w) (seqK (fun e w => N1 [e 0, e 3] w) (blockK 0 (seqK (fun e w => slices_Compact_api_Value_api_Value_s0 R (e 0) w) (finK Try.prog Try.f35.results.toList R)))))) e w = slices_Compact_api_Value_api_Value_s8 R N1 (e 0) (e 3) (e 25) w := fun e w => (cond_seg (slices_Compact_api_Value_api_Value_s6_eq R N1) (slices_Compact_api_Value_api_Value_s7_eq R N1) e w).trans (by kernel_rfl)
def slices_Compact_api_Value_api_Value_s9 (R : Value → World → Prop) (N1 : List Value → World → Prop) (x0 x3 : Value) (w : World) : Prop :=
  ia 3 x0 x3 fun t18 =>
  ldn 3 t18 (World.drew w) fun t19 =>
  qG Try.prog (bq .sub 3 (.tmp 21) (.const (.int .i64 1)) x3 (.int .i64 1)) (World.drew w) fun t22 =>
  ia 3 x0 t22 fun t23 =>
  ldn 3 t23 (World.drew w) fun t24 =>
  qG Try.prog (bq .eql 35 (.tmp 19) (.tmp 24) t19 t24) (World.drew w) fun t25 =>
  slices_Compact_api_Value_api_Value_s8 R N1 x0 x3 t25 (World.drew w)
theorem slices_Compact_api_Value_api_Value_s9_eq (R : Value → World → Prop) (N1 : List Value → World → Prop) : ∀ e w, lift Try.prog 61 (sub (bodyOf Try.f35) [1, 1, 0, 1, 0, 0, 1, 0, 0]) (blockK 1 (seqK (fun e w => slices_Compact_api_Value_api_Value_s1 R N1 (e 0) (e 3) w) (seqK (fun e w => N1 [e 0, e 3] w) (blockK 0 (seqK (fun e w => slices_Compact_api_Value_api_Value_s0 R (e 0) w) (finK Try.prog Try.f35.results.toList R)))))) e w = slices_Compact_api_Value_api_Value_s9 R N1 (e 0) (e 3) w :=
  segs_eq (l := [(sub (bodyOf Try.f35) [1, 1, 0, 1, 0, 0, 1, 0, 0, 0])]) (y := (sub (bodyOf Try.f35) [1, 1, 0, 1, 0, 0, 1, 0, 0, 1])) (Y := (fun e w => slices_Compact_api_Value_api_Value_s8 R N1 (e 0) (e 3) (e 25) w)) (slices_Compact_api_Value_api_Value_s8_eq R N1) (fun e w => by kernel_rfl)
def slices_Compact_api_Value_api_Value_s10 (R : Value → World → Prop) (N1 : List Value → World → Prop) (x0 x3 : Value) (w : World) : Prop :=
  lenL x0 fun t12 =>
  qG Try.prog (bq .lss 3 (.tmp 10) (.tmp 12) x3 t12) w fun t13 =>
  bV t13
  (slices_Compact_api_Value_api_Value_s9 R N1 x0 x3 w)
  (slices_Compact_api_Value_api_Value_s0 R x0 w)
theorem slices_Compact_api_Value_api_Value_s10_eq (R : Value → World → Prop) (N1 : List Value → World → Prop) : ∀ e w, lift Try.prog 61 (sub (bodyOf Try.f35) [1, 1, 0, 1, 0, 0]) (seqK (fun e w => N1 [e 0, e 3] w) (blockK 0 (seqK (fun e w => slices_Compact_api_Value_api_Value_s0 R (e 0) w) (finK Try.prog Try.f35.results.toList R)))) e w = slices_Compact_api_Value_api_Value_s10 R N1 (e 0) (e 3) w :=
  segs_eq (l := [(sub (bodyOf Try.f35) [1, 1, 0, 1, 0, 0, 0])]) (y := (sub (bodyOf Try.f35) [1, 1, 0, 1, 0, 0, 1])) (Y := (fun e w => slices_Compact_api_Value_api_Value_s9 R N1 (e 0) (e 3) w)) (seq_seg (x := (sub (bodyOf Try.f35) [1, 1, 0, 1, 0, 0, 1, 0])) (y := (sub (bodyOf Try.f35) [1, 1, 0, 1, 0, 0, 1, 1])) (slices_Compact_api_Value_api_Value_s1_eq R N1) (slices_Compact_api_Value_api_Value_s9_eq R N1)) (fun e w => by kernel_rfl)
def slices_Compact_api_Value_api_Value_L11F (R : Value → World → Prop) (N1 : List Value → World → Prop) (xs : List Value) (w : World) : Prop :=
  match xs with
  | [x0, x3] => slices_Compact_api_Value_api_Value_s10 R N1 x0 x3 w
  | _ => False
def slices_Compact_api_Value_api_Value_L11 (R : Value → World → Prop) (x0 x3 : Value) (w : World) : Prop :=
  ∃ m, loopV (slices_Compact_api_Value_api_Value_L11F R) m [x0, x3] w
theorem slices_Compact_api_Value_api_Value_L11_eq (R : Value → World → Prop) : ∀ e w, lift Try.prog 61 (sub (bodyOf Try.f35) [1, 1, 0, 1, 0]) (blockK 0 (seqK (fun e w => slices_Compact_api_Value_api_Value_s0 R (e 0) w) (finK Try.prog Try.f35.results.toList R))) e w = slices_Compact_api_Value_api_Value_L11 R (e 0) (e 3) w := loop_seg (F := slices_Compact_api_Value_api_Value_L11F R) (sel := fun e => [e 0, e 3]) fun N1 => (slices_Compact_api_Value_api_Value_s10_eq R N1)
def slices_Compact_api_Value_api_Value_s12 (R : Value → World → Prop) (x0 : Value) (w : World) : Prop :=
  slices_Compact_api_Value_api_Value_L11 R x0 (.int .i64 1) w
theorem slices_Compact_api_Value_api_Value_s12_eq (R : Value → World → Prop) : ∀ e w, lift Try.prog 61 (sub (bodyOf Try.f35) [1, 1, 0]) (seqK (fun e w => slices_Compact_api_Value_api_Value_s0 R (e 0) w) (finK Try.prog Try.f35.results.toList R)) e w = slices_Compact_api_Value_api_Value_s12 R (e 0) w :=
  segs_eq (l := [(sub (bodyOf Try.f35) [1, 1, 0, 0])]) (y := (sub (bodyOf Try.f35) [1, 1, 0, 1])) (Y := (fun e w => slices_Compact_api_Value_api_Value_L11 R (e 0) (e 3) w)) (slices_Compact_api_Value_api_Value_L11_eq R) (fun e w => by kernel_rfl)
def slices_Compact_api_Value_api_Value_s13 (R : Value → World → Prop) (x0 : Value) (w : World) : Prop :=
  lenL x0 fun t7 =>
  qG Try.prog (bq .lss 3 (.tmp 7) (.const (.int .i64 2)) t7 (.int .i64 2)) w fun t8 =>
  bV t8
  (R x0 w)
  (slices_Compact_api_Value_api_Value_s12 R x0 w)
theorem slices_Compact_api_Value_api_Value_s13_eq (R : Value → World → Prop) : ∀ e w, lift Try.prog 61 (bodyOf Try.f35) (finK Try.prog Try.f35.results.toList R) e w = slices_Compact_api_Value_api_Value_s13 R (e 0) w :=
  segs_eq (l := [(sub (bodyOf Try.f35) [0]), (sub (bodyOf Try.f35) [1, 0])]) (y := (sub (bodyOf Try.f35) [1, 1])) (Y := (fun e w => slices_Compact_api_Value_api_Value_s12 R (e 0) w)) (seq_seg (x := (sub (bodyOf Try.f35) [1, 1, 0])) (y := (sub (bodyOf Try.f35) [1, 1, 1])) (slices_Compact_api_Value_api_Value_s0_eq R) (slices_Compact_api_Value_api_Value_s12_eq R)) (fun e w => by kernel_rfl)
def slices_Compact_api_Value_api_Value (R : Value → World → Prop) (x0 : Value) (w : World) : Prop := slices_Compact_api_Value_api_Value_s13 R x0 w
theorem slices_Compact_api_Value_api_Value_call {R : Value → World → Prop} {x0 : Value} {w : World} (h : slices_Compact_api_Value_api_Value R x0 w) : callG Try.prog 35 #[x0] w R :=
  calls_lift_eq Try.mixed Try.func35 (args := [x0]) rfl rfl rfl rfl ((slices_Compact_api_Value_api_Value_s13_eq R) (envOf [x0]) w) (by kernel_rfl) h
end Go.Proofs

/- Rows of cells: a block that is a list of rows of one length; lists of bytes as cells. Plain. -/
set_option linter.unusedVariables false
set_option linter.unusedSimpArgs false
namespace Go.Q

theorem flat_len {α : Type} {k : Nat} : ∀ {F : List (List α)}, (∀ x ∈ F, x.length = k) → F.flatten.length = F.length * k := by
  intro F
  induction F with
  | nil => intro _; simp
  | cons x r ih =>
    intro h
    rw [List.flatten_cons, List.length_append, ih fun y hy => h y (by simp [hy]), h x (by simp), List.length_cons, Nat.succ_mul]; omega
theorem flat_drop {α : Type} {k : Nat} : ∀ {F : List (List α)} (i : Nat), (∀ x ∈ F, x.length = k) → F.flatten.drop (i * k) = (F.drop i).flatten := by
  intro F
  induction F with
  | nil => intro i _; simp
  | cons x r ih =>
    intro i h
    cases i with
    | zero => simp
    | succ i =>
      have hx := h x (by simp)
      rw [List.flatten_cons, List.drop_succ_cons, ← ih i fun y hy => h y (by simp [hy])]
      have e : (i + 1) * k = k + i * k := by rw [Nat.succ_mul]; omega
      rw [e, ← List.drop_drop, ← hx, List.drop_left]
theorem flat_take {α : Type} {k : Nat} : ∀ {F : List (List α)} (i : Nat), (∀ x ∈ F, x.length = k) → F.flatten.take (i * k) = (F.take i).flatten := by
  intro F
  induction F with
  | nil => intro i _; simp
  | cons x r ih =>
    intro i h
    cases i with
    | zero => simp
    | succ i =>
      have hx := h x (by simp)
      rw [List.flatten_cons, List.take_succ_cons, List.flatten_cons, ← ih i fun y hy => h y (by simp [hy])]
      rw [List.take_append, hx, Nat.succ_mul, List.take_of_length_le (by omega)]
      congr 2; omega
theorem flat_get {α : Type} {k : Nat} {F : List (List α)} {i : Nat} (h : ∀ x ∈ F, x.length = k) (hi : i < F.length) : (F.flatten.drop (i * k)).take k = F[i] := by
  rw [flat_drop i h, List.drop_eq_getElem_cons hi, List.flatten_cons]
  rw [List.take_append_of_le_length (by rw [h _ (List.getElem_mem hi)]; omega)]
  rw [List.take_of_length_le (by rw [h _ (List.getElem_mem hi)]; omega)]
theorem flat_splice_many {α : Type} {k : Nat} {F G : List (List α)} {i : Nat} (h : ∀ x ∈ F, x.length = k) (hG : ∀ x ∈ G, x.length = k) (_hi : i + G.length ≤ F.length) :
    F.flatten.take (i * k) ++ G.flatten ++ F.flatten.drop (i * k + G.flatten.length) = (F.take i ++ G ++ F.drop (i + G.length)).flatten := by
  rw [flat_take i h, flat_len hG, ← Nat.add_mul, flat_drop _ h]
  simp
/-- bytes as cells -/
def u8c (l : List UInt8) : List Value := l.map fun c => .int .u8 c.toNat
@[simp] theorem u8c_len (l : List UInt8) : (u8c l).length = l.length := by simp [u8c]
theorem splice_list (c : List Value) (o : Nat) (vs : List Value) : splice c.toArray o vs.toArray = (c.take o ++ vs ++ c.drop (o + vs.length)).toArray := by
  simp [splice]
theorem extract_list {α : Type} (c : List α) (o n : Nat) : (c.toArray).extract o (o + n) = ((c.drop o).take n).toArray := by
  simp
/-- a string of a list of bytes -/
def str (l : List UInt8) : ByteArray := ⟨l.toArray⟩
@[simp] theorem str_data (l : List UInt8) : (str l).data.toList = l := rfl
@[simp] theorem str_size (l : List UInt8) : (str l).size = l.length := by simp [str, ByteArray.size]
theorem str_of (s : ByteArray) : str s.data.toList = s := by cases s; simp [str]
theorem str_inj {l m : List UInt8} : str l = str m ↔ l = m := by
  constructor
  · intro h; have := congrArg (fun s : ByteArray => s.data.toList) h; simpa using this
  · intro h; rw [h]
@[simp] theorem str_eq (l m : List UInt8) : (str l = str m) = (l = m) := propext str_inj
@[simp] theorem str_append (l m : List UInt8) : str l ++ str m = str (l ++ m) := by
  have : (str l ++ str m).data.toList = l ++ m := by simp [str, ByteArray.data_append]
  rw [← str_of (str l ++ str m), this]
end Go.Q

/- Slices whose elements are rows of cells: owned ones (which start at their block's head), appended to; and ones that are only read. -/
set_option linter.unusedVariables false
set_option linter.unusedSimpArgs false
namespace Go.Q

/-- a slice that owns its block -/
def RowsAt (w : World) (v : Value) (k : Nat) (rows : List (List Value)) (S : List Nat) : Prop :=
  (v = .slice none 0 0 ∧ rows = [] ∧ S = []) ∨
  ∃ (bl : Nat) (F : List (List Value)) (T : Nat), v = .slice (some ⟨bl, 0, none⟩) rows.length F.length ∧ S = [bl] ∧ w.heap[bl]? = some (.cells F.flatten.toArray T (0, 0)) ∧ (∀ x ∈ F, x.length = k) ∧ F.take rows.length = rows ∧ rows.length ≤ F.length
theorem RowsAt.keep {w w' : World} {v : Value} {k : Nat} {rows : List (List Value)} {S S' : List Nat} (h : RowsAt w v k rows S) (hk : Kp S' w w') (hd : ∀ x ∈ S, x ∉ S') : RowsAt w' v k rows S := by
  rcases h with h | ⟨bl, F, T, h1, h2, h3, h4, h5, h6⟩
  · exact .inl h
  · subst h2
    exact .inr ⟨bl, F, T, h1, rfl, hk.get h3 (hd bl (by simp)), h4, h5, h6⟩
theorem RowsAt.len {w : World} {v : Value} {k : Nat} {rows : List (List Value)} {S : List Nat} (h : RowsAt w v k rows S) : ∃ a c, v = .slice a rows.length c ∧ rows.length ≤ c := by
  rcases h with ⟨h1, h2, h3⟩ | ⟨bl, F, T, h1, h2, h3, h4, h5, h6⟩
  · exact ⟨none, 0, by rw [h1, h2]; rfl, by simp [h2]⟩
  · exact ⟨_, _, h1, h6⟩
theorem RowsAt.row {w : World} {v : Value} {k : Nat} {rows : List (List Value)} {S : List Nat} (h : RowsAt w v k rows S) {x : List Value} (hx : x ∈ rows) : x.length = k := by
  rcases h with ⟨h1, h2, h3⟩ | ⟨bl, F, T, h1, h2, h3, h4, h5, h6⟩
  · rw [h2] at hx; cases hx
  · rw [← h5] at hx; exact h4 x (List.mem_of_mem_take hx)
theorem RowsAt.nodup {w : World} {v : Value} {k : Nat} {rows : List (List Value)} {S : List Nat} (h : RowsAt w v k rows S) : S.Nodup := by
  rcases h with ⟨h1, h2, h3⟩ | ⟨bl, F, T, h1, h2, h3⟩
  · rw [h3]; simp
  · rw [h2]; simp
theorem RowsAt.lt {w : World} {v : Value} {k : Nat} {rows : List (List Value)} {S : List Nat} (h : RowsAt w v k rows S) : ∀ x ∈ S, x < w.heap.size := by
  rcases h with ⟨h1, h2, h3⟩ | ⟨bl, F, T, h1, h2, h3, h4⟩
  · rw [h3]; simp
  · rw [h2]; simp; exact live_of h3
theorem next_le {need old : Nat} (h : old < need) : Builtin.nextslicecap need old ≤ 2 * need := nextslicecap_le h
/-- rows are appended -/
theorem rows_app {e k bytes : Nat} {z : List Value} {v x : Value} {w : World} {rows G : List (List Value)} {S : List Nat} (h : RowsAt w v k rows S) (hk : 0 < k) (hz : z.length = k)
    (hG : ∀ y ∈ G, y.length = k) (hone : G.flatten.all one = true) (hsrc : ∀ K' : Nat → Array Value → Prop, K' G.length G.flatten.toArray → srcA k x w K')
    (hb : 2 * (rows.length + G.length) * bytes ≤ 2 ^ 48) (hb2 : rows.length + G.length < 2 ^ 62) {K : Value → World → Prop}
    (hK : ∀ v' w' S', RowsAt w' v' k (rows ++ G) S' → Kp S w w' → (∀ y ∈ S', y ∈ S ∨ w.heap.size ≤ y) → K v' w') : app e k bytes z.toArray v x w K := by
  have grow : ∀ (old : Array Value) (cap : Nat) , old = rows.flatten.toArray → (∀ y ∈ rows, y.length = k) → rows.length + G.length ≤ cap →
      K (.slice (some ⟨w.heap.size, 0, none⟩) (rows.length + G.length) cap) (w.drew.alloc (.cells (old ++ G.flatten.toArray ++ rep z.toArray ((cap - (rows.length + G.length)) * k)) e)) := by
    intro old cap hold hr hc
    have hF : (old ++ G.flatten.toArray ++ rep z.toArray ((cap - (rows.length + G.length)) * k)) = (rows ++ G ++ List.replicate (cap - (rows.length + G.length)) z).flatten.toArray := by
      rw [hold]
      have : rep z.toArray ((cap - (rows.length + G.length)) * k) = (List.replicate (cap - (rows.length + G.length)) z).flatten.toArray := by
        apply Array.ext
        · simp [rep, hz]
        · intro i h1 h2
          have hi : i < (cap - (rows.length + G.length)) * k := by simpa [rep] using h1
          simp only [rep, Array.getElem_map, Array.getElem_range, List.size_toArray, hz]
          have hm : i % k < k := Nat.mod_lt _ hk
          have hd : i / k < cap - (rows.length + G.length) := (Nat.div_lt_iff_lt_mul hk).2 hi
          have hfl : ((List.replicate (cap - (rows.length + G.length)) z).flatten.drop ((i / k) * k)).take k = z := by
            rw [flat_get (k := k) (by intro x hx; rw [List.mem_replicate] at hx; rw [hx.2, hz]) (by simpa using hd)]
            simp
          have hidx : i / k * k + i % k = i := by rw [Nat.mul_comm]; exact Nat.div_add_mod i k
          have e2 := congrArg (fun l => l[i % k]?) hfl
          simp only [List.getElem?_take_of_lt hm, List.getElem?_drop, hidx] at e2
          have h2' : i < (List.replicate (cap - (rows.length + G.length)) z).flatten.length := by simpa using h2
          rw [List.getElem?_eq_getElem h2', List.getElem?_eq_getElem (by omega)] at e2
          injection e2 with e2
          rw [List.getElem_toArray, e2]
          simp [hz, hm]
      rw [this]; simp
    refine hK _ _ [w.heap.size] (.inr ⟨w.heap.size, rows ++ G ++ List.replicate (cap - (rows.length + G.length)) z, e, ?_, rfl, ?_, ?_, ?_, ?_⟩) ((Kp.refl _ _).drew.alloc _) (by simp)
    · simp; omega
    · rw [← hF]; exact heap_new
    · intro y hy
      rw [List.mem_append, List.mem_append] at hy
      rcases hy with (hy | hy) | hy
      · exact hr y hy
      · exact hG y hy
      · rw [List.mem_replicate] at hy; rw [hy.2, hz]
    · rw [List.take_left]
    · simp
  have hrow : ∀ y ∈ rows, y.length = k := fun y hy => h.row hy
  unfold app
  rcases h with ⟨h1, h2, h3⟩ | ⟨bl, F, T, h1, h2, h3, h4, h5, h6⟩
  · subst h1; subst h3
    rw [h2] at hb hb2 hK grow
    simp only [List.length_nil, Nat.zero_add] at hb hb2 grow ⊢
    refine hsrc _ ⟨fun hle => ?_, fun hlt => ⟨⟨?_, by omega⟩, fun cap hc _ => grow #[] cap rfl (by simp) hc⟩⟩
    · have hG0 : G = [] := List.length_eq_zero_iff.1 (by omega)
      rw [hG0]
      exact hK _ w [] (.inl ⟨rfl, by simp [hG0], rfl⟩) (Kp.refl _ _) (by simp)
    · have := next_le hlt
      calc _ ≤ (2 * G.length) * bytes := Nat.mul_le_mul_right _ this
        _ ≤ _ := hb
  · subst h1; subst h2
    refine hsrc _ ⟨fun hle => ?_, fun hlt => ⟨⟨?_, by omega⟩, ?_⟩⟩
    · simp only [wrO, add_mk, wrN_mk, h3, okFr0, true_and, Nat.zero_add, List.size_toArray]
      have hfl := flat_len h4
      have hgl := flat_len hG
      have hsp := flat_splice_many (i := rows.length) h4 hG (by omega)
      refine ⟨⟨?_, by simpa using hone⟩, ?_⟩
      · rw [hfl, hgl, ← Nat.add_mul]; exact Nat.mul_le_mul_right _ hle
      · have hF' : splice F.flatten.toArray (rows.length * k) G.flatten.toArray = (F.take rows.length ++ G ++ F.drop (rows.length + G.length)).flatten.toArray := by
          rw [splice_list, hsp]
        rw [hF']
        refine hK _ _ [bl] (.inr ⟨bl, F.take rows.length ++ G ++ F.drop (rows.length + G.length), T, ?_, rfl, heap_self (live_of h3), ?_, ?_, ?_⟩) ((Kp.refl _ _).setBlk (.inl (by simp)) _) (fun y hy => .inl hy)
        · have : (F.take rows.length ++ G ++ F.drop (rows.length + G.length)).length = F.length := by simp; omega
          rw [this]; simp
        · intro y hy
          rw [List.mem_append, List.mem_append] at hy
          rcases hy with (hy | hy) | hy
          · exact h4 y (List.mem_of_mem_take hy)
          · exact hG y hy
          · exact h4 y (List.mem_of_mem_drop hy)
        · rw [h5, List.take_left]
        · simp; omega
    · have := next_le hlt
      calc _ ≤ (2 * (rows.length + G.length)) * bytes := Nat.mul_le_mul_right _ this
        _ ≤ _ := hb
    · simp only [base, rdN_mk, h3, Nat.zero_add, List.size_toArray]
      have hfl := flat_len h4
      refine ⟨by rw [hfl]; exact Nat.mul_le_mul_right _ h6, fun cap hc _ => grow _ cap ?_ hrow hc⟩
      have := extract_list F.flatten 0 (rows.length * k)
      rw [Nat.zero_add] at this
      rw [this, List.drop_zero, flat_take _ h4, h5]
/-- a row is looked at -/
theorem RowsAt.at {w : World} {v : Value} {k : Nat} {rows : List (List Value)} {S : List Nat} (h : RowsAt w v k rows S) {i : Nat} (hi : i < rows.length) :
    ∃ bl T c, bl ∈ S ∧ w.heap[bl]? = some (.cells c T (0, 0)) ∧ (∀ kd K, ia k v (.int kd i) K = K (.pointer (some ⟨bl, i * k, none⟩))) ∧ i * k + k ≤ c.size ∧ c.extract (i * k) (i * k + k) = rows[i].toArray ∧
      ∀ j, j < k → c[i * k + j]? = rows[i][j]? := by
  rcases h with ⟨h1, h2, h3⟩ | ⟨bl, F, T, h1, h2, h3, h4, h5, h6⟩
  · rw [h2] at hi; cases hi
  · have hiF : i < F.length := by omega
    have hrow : F[i] = rows[i] := by
      have e : rows[i]? = F[i]? := by rw [← h5, List.getElem?_take_of_lt (by omega)]
      rw [List.getElem?_eq_getElem hi, List.getElem?_eq_getElem hiF] at e
      injection e with e
      exact e.symm
    have hfl := flat_len h4
    have hget := flat_get h4 hiF
    have hle : i * k + k ≤ F.flatten.length := by rw [hfl, ← Nat.succ_mul]; exact Nat.mul_le_mul_right _ hiF
    refine ⟨bl, T, F.flatten.toArray, by rw [h2]; simp, h3, ?_, by simpa [-List.length_flatten] using hle, ?_, ?_⟩
    · intro kd K
      have hlt : (i : Int) < rows.length := by omega
      rw [h1]; simp only [ia_p, Nat.zero_add, Int.toNat_natCast]
      have : (0 ≤ (i : Int) ∧ (i : Int) < rows.length) = True := by simp; omega
      rw [this, true_and]
    · rw [extract_list, hget, hrow]
    · intro j hj
      rw [List.getElem?_toArray, ← List.getElem?_drop, ← hrow, ← hget, List.getElem?_take_of_lt hj]
/-! ### structs and literals of slices, laid part by part -/
theorem fold_set (off : Nat) : ∀ (l : List Value) (k : Nat) (c : Array Value), off + k + l.length ≤ c.size →
    (l.zipIdx k).foldl (fun cs p => cs.setIfInBounds (off + p.2) p.1) c = splice c (off + k) l.toArray := by
  intro l
  induction l with
  | nil => intro k c _; simp [splice]
  | cons v r ih =>
    intro k c h
    simp only [List.length_cons] at h
    rw [List.zipIdx_cons, List.foldl_cons]
    have := ih (k + 1) (c.setIfInBounds (off + k) v) (by simp; omega)
    simp only at this ⊢
    rw [this]
    unfold splice
    congr 1
    have e := list_seg_step c.toList (off + k) v r (by simp; omega)
    simpa [Array.toList_setIfInBounds, Nat.add_assoc] using e
theorem fill_step {place : Nat → Option (Nat × Nat)} {c : Array Value} {i off size : Nat} {v : Value} {rest : List (Nat × Value)} (hp : place i = some (off, size)) (hv : v.cells.size = size) (hc : off + size ≤ c.size) :
    Instr.fill place c ((i, v) :: rest) = Instr.fill place (splice c off v.cells) rest := by
  have h1 : v.cells.size = size := hv
  conv => lhs; unfold Instr.fill
  rw [hp]
  simp only [h1, ne_eq, not_true_eq_false, decide_false, Bool.false_or, decide_eq_true_eq]
  rw [if_neg (by omega)]
  congr 1
  have := fold_set off v.cells.toList 0 c (by simp; omega)
  simp only [Nat.add_zero, Array.toArray_toList] at this
  rw [← this]
  rw [← Array.foldl_toList, Array.toList_zipIdx]
theorem splice_size {c : Array Value} {o : Nat} {vs : Array Value} (h : o + vs.size ≤ c.size) : (splice c o vs).size = c.size := by
  unfold splice; simp; omega
/-- a slice of numbers that is only read -/
def IntsAt (w : World) (v : Value) (ks : List Int) (S : List Nat) : Prop :=
  ∃ a cap, v = .slice a ks.length cap ∧ (ks = [] ∨ ∃ bl o c T fr, a = some ⟨bl, o, none⟩ ∧ S = [bl] ∧ w.heap[bl]? = some (.cells c T fr) ∧ ∀ i, i < ks.length → c[o + i]? = some (.int .i64 (ks.getD i 0)))
theorem IntsAt.keep {w w' : World} {v : Value} {ks : List Int} {S S' : List Nat} (h : IntsAt w v ks S) (hk : Kp S' w w') (hd : ∀ x ∈ S, x ∉ S') : IntsAt w' v ks S := by
  obtain ⟨a, cap, h1, h2⟩ := h
  refine ⟨a, cap, h1, h2.imp id ?_⟩
  rintro ⟨bl, o, c, T, fr, g1, g2, g3, g4⟩
  subst g2
  exact ⟨bl, o, c, T, fr, g1, rfl, hk.get g3 (hd bl (by simp)), g4⟩
theorem IntsAt.at {w : World} {v : Value} {ks : List Int} {S : List Nat} (h : IntsAt w v ks S) {i : Nat} (hi : i < ks.length) :
    ∃ bl o c T fr, bl ∈ S ∧ w.heap[bl]? = some (.cells c T fr) ∧ (∀ kd K, ia 1 v (.int kd i) K = K (.pointer (some ⟨bl, o, none⟩))) ∧ c[o]? = some (.int .i64 (ks.getD i 0)) := by
  obtain ⟨a, cap, h1, h2⟩ := h
  rcases h2 with h2 | ⟨bl, o, c, T, fr, g1, g2, g3, g4⟩
  · rw [h2] at hi; cases hi
  · refine ⟨bl, o + i, c, T, fr, by rw [g2]; simp, g3, ?_, g4 i hi⟩
    intro kd K
    rw [h1, g1]
    have : (0 ≤ (i : Int) ∧ (i : Int) < ks.length) = True := by simp; omega
    simp only [ia_p, Int.toNat_natCast, Nat.mul_one, this, true_and]
theorem IntsAt.len {w : World} {v : Value} {ks : List Int} {S : List Nat} (h : IntsAt w v ks S) : ∃ a cap, v = .slice a ks.length cap := by
  obtain ⟨a, cap, h1, _⟩ := h
  exact ⟨a, cap, h1⟩
theorem rep_size (z : Array Value) (n : Nat) : (rep z n).size = n := by simp [rep]
theorem splice_all {c vs : Array Value} (h : c.size = vs.size) : splice c 0 vs = vs := by
  have : c.toList.drop vs.size = [] := List.drop_of_length_le (by simp [h])
  simp [splice, this]
end Go.Q

/- Slices that are read: rows of cells from anywhere in a block; parts of them; what is appended from them. -/
set_option linter.unusedVariables false
set_option linter.unusedSimpArgs false
namespace Go.Q
/-- a slice that reads as these rows -/
def RdAt (w : World) (v : Value) (k : Nat) (rows : List (List Value)) (S : List Nat) : Prop :=
  (v = .slice none 0 0 ∧ rows = []) ∨
  ∃ (bl o cap : Nat) (c : Array Value) (T : TypeId) (fr : Nat × Nat), v = .slice (some ⟨bl, o, none⟩) rows.length cap ∧ S = [bl] ∧ w.heap[bl]? = some (.cells c T fr) ∧ (∀ x ∈ rows, x.length = k) ∧
    o + rows.length * k ≤ c.size ∧ (c.toList.drop o).take (rows.length * k) = rows.flatten ∧ rows.length ≤ cap
section
variable {w : World} {v : Value} {k : Nat} {rows : List (List Value)} {S : List Nat}
theorem RowsAt.rd (h : RowsAt w v k rows S) : RdAt w v k rows S := by
  rcases h with ⟨h1, h2, h3⟩ | ⟨bl, F, T, h1, h2, h3, h4, h5, h6⟩
  · exact .inl ⟨h1, h2⟩
  · refine .inr ⟨bl, 0, F.length, _, T, _, h1, h2, h3, ?_, ?_, ?_, h6⟩
    · intro x hx; rw [← h5] at hx; exact h4 x (List.mem_of_mem_take hx)
    · have := flat_len h4
      simp only [List.size_toArray, this, Nat.zero_add]
      exact Nat.mul_le_mul_right _ h6
    · rw [List.drop_zero, flat_take _ h4, h5]
theorem RdAt.keep {w' : World} {S' : List Nat} (h : RdAt w v k rows S) (hk : Kp S' w w') (hd : ∀ x ∈ S, x ∉ S') : RdAt w' v k rows S := by
  rcases h with h | ⟨bl, o, cap, c, T, fr, h1, h2, h3, h4⟩
  · exact .inl h
  · subst h2
    exact .inr ⟨bl, o, cap, c, T, fr, h1, rfl, hk.get h3 (hd bl (by simp)), h4⟩
theorem RdAt.len (h : RdAt w v k rows S) : ∃ a c, v = .slice a rows.length c ∧ rows.length ≤ c := by
  rcases h with ⟨h1, h2⟩ | ⟨bl, o, cap, c, T, fr, h1, h2, h3, h4, h5, h6, h7⟩
  · exact ⟨none, 0, by rw [h1, h2]; rfl, by simp [h2]⟩
  · exact ⟨_, _, h1, h7⟩
theorem RdAt.lenL (h : RdAt w v k rows S) {K : Value → Prop} : lenL v K = K (.int .i64 rows.length) := by
  obtain ⟨a, c, h1, _⟩ := h.len
  rw [h1]; rfl
theorem RdAt.row (h : RdAt w v k rows S) {x : List Value} (hx : x ∈ rows) : x.length = k := by
  rcases h with ⟨h1, h2⟩ | ⟨bl, o, cap, c, T, fr, h1, h2, h3, h4, _⟩
  · rw [h2] at hx; cases hx
  · exact h4 x hx
theorem extract_toList (c : Array Value) (o n : Nat) : c.extract o (o + n) = ((c.toList.drop o).take n).toArray := by
  apply Array.toList_inj.1
  simp [List.take_drop]
theorem RdAt.src (h : RdAt w v k rows S) (K' : Nat → Array Value → Prop) (hK : K' rows.length rows.flatten.toArray) : Q.srcA k v w K' := by
  rcases h with ⟨h1, h2⟩ | ⟨bl, o, cap, c, T, fr, h1, h2, h3, h4, h5, h6, h7⟩
  · subst h1; subst h2; exact hK
  · subst h1
    simp only [Q.srcA]
    split
    · rename_i h0
      have : rows.flatten = [] := by rw [← h6, h0]; simp
      rw [this] at hK
      exact hK
    · simp only [rdN_mk, h3]
      refine ⟨h5, ?_⟩
      rw [extract_toList, h6]; exact hK
theorem RdAt.take (h : RdAt w v k rows S) {p : Nat} (hp : p ≤ rows.length) {kd : IntKind} : ∃ v', RdAt w v' k (rows.take p) S ∧ ∀ K, slL k v none (some (.int kd p)) K = K v' := by
  rcases h with ⟨h1, h2⟩ | ⟨bl, o, cap, c, T, fr, h1, h2, h3, h4, h5, h6, h7⟩
  · subst h1; subst h2
    have : p = 0 := by simpa using hp
    subst this
    exact ⟨_, .inl ⟨rfl, by simp⟩, fun K => by simp⟩
  · subst h1
    have hl : (rows.take p).length = p := by simp; omega
    have hle : p * k ≤ rows.length * k := Nat.mul_le_mul_right _ hp
    refine ⟨.slice (some ⟨bl, o, none⟩) p cap, .inr ⟨bl, o, cap, c, T, fr, by rw [hl], h2, h3, fun x hx => h4 x (List.mem_of_mem_take hx), by rw [hl]; omega, ?_, by omega⟩, fun K => ?_⟩
    · rw [hl]
      have h8 : (c.toList.drop o).take (p * k) = ((c.toList.drop o).take (rows.length * k)).take (p * k) := by rw [List.take_take, Nat.min_eq_left hle]
      rw [h8, h6]
      exact flat_take p h4
    · have : (p : Int) ≤ cap := by omega
      simp [this]
theorem RdAt.drop (h : RdAt w v k rows S) {p : Nat} (hp : p ≤ rows.length) {kd : IntKind} : ∃ v', RdAt w v' k (rows.drop p) S ∧ ∀ K, slL k v (some (.int kd p)) none K = K v' := by
  rcases h with ⟨h1, h2⟩ | ⟨bl, o, cap, c, T, fr, h1, h2, h3, h4, h5, h6, h7⟩
  · subst h1; subst h2
    have : p = 0 := by simpa using hp
    subst this
    exact ⟨_, .inl ⟨rfl, by simp⟩, fun K => by simp⟩
  · subst h1
    have hl : (rows.drop p).length = rows.length - p := by simp
    have hsum : p * k + (rows.length - p) * k = rows.length * k := by rw [← Nat.add_mul]; congr 1; omega
    have hfl : rows.flatten.drop (p * k) = (rows.drop p).flatten := flat_drop p h4
    by_cases hc : cap = p
    · have hr : rows.length = p := by omega
      have hd : rows.drop p = [] := by rw [← hr]; simp
      refine ⟨.slice (some ⟨bl, o, none⟩) (rows.drop p).length (cap - p), .inr ⟨bl, o, cap - p, c, T, fr, rfl, h2, h3, by rw [hd]; simp, by rw [hd]; simp; omega, by rw [hd]; simp, by rw [hd]; simp⟩, fun K => ?_⟩
      have : (p : Int) ≤ rows.length := by omega
      simp [hc, this, hr]
    · refine ⟨.slice (some ⟨bl, o + p * k, none⟩) (rows.drop p).length (cap - p), .inr ⟨bl, o + p * k, cap - p, c, T, fr, rfl, h2, h3, fun x hx => h4 x (List.mem_of_mem_drop hx), by rw [hl]; omega, ?_, by rw [hl]; omega⟩, fun K => ?_⟩
      · rw [hl, ← hfl, ← h6, ← List.drop_drop, List.drop_take]
        congr 1
        omega
      · have : (p : Int) ≤ rows.length := by omega
        simp [hc, this, hp]
theorem RdAt.at (h : RdAt w v k rows S) {i : Nat} (hi : i < rows.length) :
    ∃ bl o T c fr, bl ∈ S ∧ w.heap[bl]? = some (.cells c T fr) ∧ (∀ kd K, ia k v (.int kd i) K = K (.pointer (some ⟨bl, o, none⟩))) ∧ o + k ≤ c.size ∧ c.extract o (o + k) = rows[i].toArray ∧
      ∀ j, j < k → c[o + j]? = rows[i][j]? := by
  rcases h with ⟨h1, h2⟩ | ⟨bl, o, cap, c, T, fr, h1, h2, h3, h4, h5, h6, h7⟩
  · subst h2; cases hi
  · subst h1
    have hle : i * k + k ≤ rows.length * k := by rw [← Nat.succ_mul]; exact Nat.mul_le_mul_right _ hi
    have hget := flat_get h4 hi
    have hrow : (c.toList.drop (o + i * k)).take k = rows[i] := by
      rw [← hget, ← h6, List.drop_take, List.take_take, List.drop_drop]
      congr 1
      omega
    refine ⟨bl, o + i * k, T, c, fr, by rw [h2]; simp, h3, ?_, by omega, by rw [extract_toList, hrow], ?_⟩
    · intro kd K
      simp only [ia_p, Int.toNat_natCast]
      have : (0 ≤ (i : Int) ∧ (i : Int) < rows.length) = True := by simp; omega
      rw [this, true_and]
    · intro j hj
      rw [← Array.getElem?_toList, ← List.getElem?_drop, ← hrow, List.getElem?_take_of_lt hj]
end
end Go.Q

/- What a row says of a slice that came in, in the words of the contracts. -/
set_option linter.unusedVariables false
set_option linter.unusedSimpArgs false
namespace Go.Q
theorem cell_block {w : World} {x : Addr} {v : Value} (h : w.cell? x = some v) : x.spot = none ∧ ∃ c T fr, w.heap[x.block]? = some (.cells c T fr) ∧ c[x.off]? = some v := by
  unfold World.cell? at h
  split at h
  · rename_i c T fr hh
    split at h
    · cases h
    · rename_i hs
      exact ⟨by simpa using hs, c, T, fr, hh, h⟩
  · cases h
end Go.Q

/- Slices that came in, whatever their elements are: rows of cells, each of which the statement's own reading took. -/
set_option linter.unusedVariables false
set_option linter.unusedSimpArgs false
namespace Go.Q
/-- a slice that came in -/
def ArgAt (w : World) (v : Value) (k : Nat) (rows : List (List Value)) (S : List Nat) : Prop :=
  (∃ a cap, v = .slice a 0 cap ∧ rows = []) ∨ RdAt w v k rows S
section
variable {w : World} {v : Value} {k : Nat} {rows : List (List Value)} {S : List Nat}
theorem ArgAt.keep {w' : World} {S' : List Nat} (h : ArgAt w v k rows S) (hk : Kp S' w w') (hd : ∀ x ∈ S, x ∉ S') : ArgAt w' v k rows S := h.imp id fun h => h.keep hk hd
theorem ArgAt.lenL (h : ArgAt w v k rows S) {K : Value → Prop} : lenL v K = K (.int .i64 rows.length) := by
  rcases h with ⟨a, cap, h1, h2⟩ | h
  · rw [h1, h2]; rfl
  · exact h.lenL
theorem ArgAt.src (h : ArgAt w v k rows S) (K' : Nat → Array Value → Prop) (hK : K' rows.length rows.flatten.toArray) : Q.srcA k v w K' := by
  rcases h with ⟨a, cap, h1, h2⟩ | h
  · subst h1; subst h2
    cases a with
    | none => exact hK
    | some a =>
      simp only [Q.srcA, Nat.zero_mul, if_true]
      exact hK
  · exact h.src K' hK
theorem ArgAt.take (h : ArgAt w v k rows S) {p : Nat} (hp : p ≤ rows.length) {kd : IntKind} : ∃ v', ArgAt w v' k (rows.take p) S ∧ ∀ K, slL k v none (some (.int kd p)) K = K v' := by
  rcases h with ⟨a, cap, h1, h2⟩ | h
  · subst h1; subst h2
    have : p = 0 := by simpa using hp
    subst this
    exact ⟨.slice (if cap = 0 then a else a.map (·.add (0 * k))) 0 (cap - 0), .inl ⟨_, _, rfl, by simp⟩, fun K => by simp [slL, bnd]⟩
  · obtain ⟨v', h1, h2⟩ := h.take hp (kd := kd)
    exact ⟨v', .inr h1, h2⟩
theorem ArgAt.drop (h : ArgAt w v k rows S) {p : Nat} (hp : p ≤ rows.length) {kd : IntKind} : ∃ v', ArgAt w v' k (rows.drop p) S ∧ ∀ K, slL k v (some (.int kd p)) none K = K v' := by
  rcases h with ⟨a, cap, h1, h2⟩ | h
  · subst h1; subst h2
    have : p = 0 := by simpa using hp
    subst this
    exact ⟨.slice (if cap = 0 then a else a.map (·.add (0 * k))) 0 (cap - 0), .inl ⟨_, _, rfl, by simp⟩, fun K => by simp [slL, bnd]⟩
  · obtain ⟨v', h1, h2⟩ := h.drop hp (kd := kd)
    exact ⟨v', .inr h1, h2⟩
theorem ArgAt.row (h : ArgAt w v k rows S) {x : List Value} (hx : x ∈ rows) : x.length = k := by
  rcases h with ⟨a, cap, h1, h2⟩ | h
  · rw [h2] at hx; cases hx
  · exact h.row hx
theorem ArgAt.at (h : ArgAt w v k rows S) {i : Nat} (hi : i < rows.length) :
    ∃ bl o T c fr, bl ∈ S ∧ w.heap[bl]? = some (.cells c T fr) ∧ (∀ kd K, ia k v (.int kd i) K = K (.pointer (some ⟨bl, o, none⟩))) ∧ o + k ≤ c.size ∧ c.extract o (o + k) = rows[i].toArray ∧
      ∀ j, j < k → c[o + j]? = rows[i][j]? := by
  rcases h with ⟨a, cap, h1, h2⟩ | h
  · rw [h2] at hi; cases hi
  · exact h.at hi
theorem chop_flat (l : List Value) (k : Nat) : ∀ n, ((List.range n).map fun i => (l.drop (i * k)).take k).flatten = l.take (n * k) := by
  intro n
  induction n with
  | zero => simp
  | succ n ih =>
    rw [List.range_succ, List.map_append, List.flatten_append, ih]
    simp only [List.map_cons, List.map_nil, List.flatten_cons, List.flatten_nil, List.append_nil]
    rw [Nat.succ_mul, List.take_add]
end
section
variable {H : Type} {enc : TypeId × Value → H} {P : Program} {w : World} {base : Nat} {spare : Nat → Bool} {held : Bool}
theorem arg_slice {t e : TypeId} {n fuel : Nat} {cs : List Value} {x : DataW H × List MemPlace} (ht : P.underlying t = some (.slice e)) (hc : P.cellsOf e = n) (hn : 0 < n)
    (h : DataW.trod enc P w base spare held fuel t cs = some x) :
    ∃ v rows SK, cs = [v] ∧ ArgAt w v n rows SK ∧ (∀ b ∈ SK, b < w.heap.size) ∧ rows.length ≤ maxLen ∧ ∀ r ∈ rows, ∃ f y, DataW.trod enc P w base spare held f e r = some y := by
  rcases DataW.trod_slice ht h with ⟨h1, _⟩ | ⟨a, len, cap, elems, rest, m, _, rfl, _, hb, hl, hm, hlen, hel, _, _⟩
  · exact ⟨_, [], [], h1, .inl ⟨none, 0, rfl, rfl⟩, by simp, by simp, by simp⟩
  · rw [hc] at hel
    by_cases h0 : len = 0
    · subst h0
      exact ⟨_, [], [], rfl, .inl ⟨some a, cap, rfl, rfl⟩, by simp, by simp, by simp⟩
    · have each : ∀ i, i < len → ∃ cs y, w.cells? base (a.add (i * n)) n = some cs ∧ DataW.trod enc P w base spare held m e cs = some y := by
        intro i hi
        have h1 := hel i hi
        have h2 : elems[i]? = some elems[i] := List.getElem?_eq_getElem (by omega)
        rw [h2, Option.bind_eq_some_iff] at h1
        obtain ⟨cs, h3, h4⟩ := h1
        exact ⟨cs, _, h3, h4⟩
      obtain ⟨cs0, y0, h3, h4⟩ := each 0 (by omega)
      obtain ⟨_, hl0, hc0⟩ := World.cells?_some h3
      have h5 := hc0 0 hn
      rw [Nat.zero_mul, List.getElem?_eq_getElem (by omega)] at h5
      have h6 : w.cell? a = some cs0[0] := by simpa [Addr.add] using h5
      obtain ⟨hs, c, T, fr, hh, _⟩ := cell_block h6
      obtain ⟨b, o, s⟩ := a
      simp only at hs hh
      subst hs
      have cell : ∀ i j, i < len → j < n → ∃ cs y, w.cells? base (Addr.add ⟨b, o, none⟩ (i * n)) n = some cs ∧ DataW.trod enc P w base spare held m e cs = some y ∧ cs.length = n ∧ c[o + i * n + j]? = cs[j]? ∧ o + i * n + j < c.size := by
        intro i j hi hj
        obtain ⟨cs, y, g1, g2⟩ := each i hi
        obtain ⟨_, g3, g4⟩ := World.cells?_some g1
        have g5 := g4 j hj
        simp only [add_mk] at g5
        have g6 : w.cell? ⟨b, o + i * n + j, none⟩ = c[o + i * n + j]? := by simp [World.cell?, hh]
        rw [g6] at g5
        refine ⟨cs, y, g1, g2, g3, g5, ?_⟩
        rw [List.getElem?_eq_getElem (by omega)] at g5
        exact (Array.getElem?_eq_some_iff.mp g5).1
      have hsz : o + len * n ≤ c.size := by
        obtain ⟨_, _, _, _, _, _, g⟩ := cell (len - 1) (n - 1) (by omega) (by omega)
        have : len * n = (len - 1) * n + n := by rw [← Nat.succ_mul]; congr 1; omega
        omega
      have hrow : ∀ i, i < len → (c.toList.drop o |>.drop (i * n)).take n = (c.toList.drop (o + i * n)).take n := fun i _ => by rw [List.drop_drop]
      refine ⟨_, (List.range len).map fun i => ((c.toList.drop o).drop (i * n)).take n, [b], rfl, .inr (.inr ⟨b, o, cap, c, T, fr, by simp, rfl, hh, ?_, by simpa using hsz, ?_, by simpa using hl⟩), ?_, ?_, ?_⟩
      · intro r hr
        simp only [List.mem_map, List.mem_range] at hr
        obtain ⟨i, hi, rfl⟩ := hr
        have : (i + 1) * n ≤ len * n := Nat.mul_le_mul_right _ hi
        rw [Nat.succ_mul] at this
        simp; omega
      · rw [chop_flat]; simp
      · intro y hy
        simp only [List.mem_singleton] at hy
        subst hy
        exact lt_of_blk hh
      · simp; omega
      · intro r hr
        simp only [List.mem_map, List.mem_range] at hr
        obtain ⟨i, hi, rfl⟩ := hr
        obtain ⟨cs, y, g1, g2, g3, _, _⟩ := cell i 0 hi hn
        refine ⟨m, y, ?_⟩
        have he : ((c.toList.drop o).drop (i * n)).take n = cs := by
          apply List.ext_getElem?
          intro j
          by_cases hj : j < n
          · obtain ⟨cs', y', g1', _, _, g4', _⟩ := cell i j hi hj
            rw [g1] at g1'
            injection g1' with g1'
            subst g1'
            rw [List.getElem?_take_of_lt hj, List.drop_drop, List.getElem?_drop, Array.getElem?_toList, g4']
          · rw [List.getElem?_eq_none (by simp; omega), List.getElem?_eq_none (by omega)]
        rw [he]; exact g2
end
end Go.Q

/- '==' of structs whose fields are numbers, texts and bools: one Bool. -/
set_option linter.unusedVariables false
set_option linter.unusedSimpArgs false
namespace Go.Q
def eqV : Value → Value → Bool
  | .int _ x, .int _ y => decide (x = y)
  | .string s, .string t => decide (s = t)
  | .bool a, .bool b => a == b
  | _, _ => false
def eqC : List Value → List Value → Bool
  | a :: r, b :: s => eqV a b && eqC r s
  | _, _ => true
@[simp] theorem eqV_int {k k' : IntKind} {x y : Int} : eqV (.int k x) (.int k' y) = decide (x = y) := rfl
@[simp] theorem eqV_str {s t : ByteArray} : eqV (.string s) (.string t) = decide (s = t) := rfl
@[simp] theorem eqV_bool {s t : Bool} : eqV (.bool s) (.bool t) = (s == t) := rfl
@[simp] theorem eqC_cons {a b : Value} {r s : List Value} : eqC (a :: r) (b :: s) = (eqV a b && eqC r s) := rfl
@[simp] theorem eqC_nil : eqC [] [] = true := rfl
def eqK : Option TypeDesc → Value → Value → Bool
  | some (.int _), .int k _, .int k' _ => k == k'
  | some .string, .string _, .string _ => true
  | some .bool, .bool _, .bool _ => true
  | _, _, _ => false
def flatF (P : Program) : List Field → List Value → List Value → Nat → Bool
  | [], _, _, _ => true
  | f :: fs, a :: aas, b :: bbs, i => !(f.name == "_") && Nat.beq f.offset i && (match aggO P f.type with | some false => true | _ => false) && eqK (P.underlying f.type) a b && flatF P fs aas bbs (i + 1)
  | _, _, _, _ => false
def aggEq (P : Program) (T : TypeId) (xs ys : List Value) : Bool :=
  match P.underlying T with
  | some (.struct fs) => !P.stoodInHeld T && !P.eqGuardType P.depth T && flatF P fs.toList xs ys 0 && Nat.beq fs.size xs.length && Nat.beq fs.size ys.length
  | _ => false
variable {P : Program}
theorem eqV_run {d : Nat} {T : TypeId} {a b : Value} {w : World} (h : eqK (P.underlying T) a b = true) : (Op.equalIn (d + 1) T a b).run P w = .ok (eqV a b) w := by
  unfold eqK at h
  split at h
  · rename_i hu
    have hk := eq_of_beq h
    subst hk
    rw [run_equalIn_int w d T _ _ _ _ hu]
    rfl
  · rename_i hu
    rw [run_equalIn_string w d T _ _ hu]
    rw [toList_beq]; rfl
  · rename_i hu
    rw [run_equalIn_bool' w d T _ _ hu]; rfl
  · cases h
theorem flat_run {d : Nat} {xs ys : Array Value} {w : World} : ∀ (fs : List Field) (aas bbs : List Value) (i : Nat), flatF P fs aas bbs i = true → xs.toList.drop i = aas → ys.toList.drop i = bbs → aas.length = fs.length → bbs.length = fs.length →
    (Op.eqFields (d + 1) xs ys fs).run P w = .ok (eqC aas bbs) w := by
  intro fs
  induction fs with
  | nil =>
    intro aas bbs i _ _ _ h1 h2
    have ha : aas = [] := List.length_eq_zero_iff.1 h1
    have hb : bbs = [] := List.length_eq_zero_iff.1 h2
    rw [ha, hb]
    simp [Op.eqFields]
  | cons f fs ih =>
    intro aas bbs i h h1 h2 h3 h4
    cases aas with
    | nil => simp at h3
    | cons a aas =>
      cases bbs with
      | nil => simp at h4
      | cons b bbs =>
        simp only [flatF, Bool.and_eq_true, Bool.not_eq_true'] at h
        obtain ⟨⟨⟨⟨g1, g2⟩, g3⟩, g4⟩, g5⟩ := h
        have hn : f.name ≠ "_" := by simpa using g1
        have ho : f.offset = i := Nat.eq_of_beq_eq_true g2
        have ha : aggO P f.type = some false := by
          revert g3
          cases aggO P f.type with
          | none => intro h; cases h
          | some t => cases t <;> intro h <;> simp at h ⊢
        have hx : xs[i]? = some a := by rw [← Array.getElem?_toList, ← List.head?_drop, h1]; rfl
        have hy : ys[i]? = some b := by rw [← Array.getElem?_toList, ← List.head?_drop, h2]; rfl
        have p1 : (part f.type xs f.offset).run P w = .ok a w := by rw [ho]; simp [part, aggO_run ha, hx, pure, Sem.run]
        have p2 : (part f.type ys f.offset).run P w = .ok b w := by rw [ho]; simp [part, aggO_run ha, hy, pure, Sem.run]
        have hr := ih aas bbs (i + 1) g5 (by rw [← List.drop_drop, h1]; rfl) (by rw [← List.drop_drop, h2]; rfl) (by simpa using h3) (by simpa using h4)
        rw [Op.eqFields]
        simp only [if_pos hn, Sem.run_bind, p1, p2, eqV_run g4, Result.andThen_ok]
        cases hv : eqV a b
        · simp [hv]
        · simp [hv]; exact hr
theorem run_aggs {T : TypeId} {xs ys : Array Value} {xo yo : Operand} {w : World} (h : aggEq P T xs.toList ys.toList = true) :
    (bq .eql T xo yo (.agg xs) (.agg ys)).run P w = .ok (.bool (eqC xs.toList ys.toList)) w ∧ (bq .neq T xo yo (.agg xs) (.agg ys)).run P w = .ok (.bool !eqC xs.toList ys.toList) w := by
  unfold aggEq at h
  split at h
  · rename_i fs hu
    simp only [Bool.and_eq_true, Bool.not_eq_true'] at h
    obtain ⟨⟨⟨⟨h1, h2⟩, h3⟩, h4⟩, h5⟩ := h
    have h4 := Nat.eq_of_beq_eq_true h4
    have h5 := Nat.eq_of_beq_eq_true h5
    have hf : P.fieldsOf T = fs := by simp [Program.fieldsOf, hu]
    have hr := flat_run (d := 9998) (xs := xs) (ys := ys) (w := w) fs.toList xs.toList ys.toList 0 h3 rfl rfl (by simpa using h4.symm) (by simpa using h5.symm)
    have he : (Op.equalIn 10000 T (.agg xs) (.agg ys)).run P w = .ok (eqC xs.toList ys.toList) w := by
      rw [run_equalIn_agg w 9999 T xs ys (by rw [hf]; exact hu) h1, hf]
      exact hr
    constructor
    · unfold bq
      rw [Sem.run_bind, run_eqGuard_agg w _ _ _ _ _ _ h2]
      simp only [Result.andThen_ok]
      rw [run_eql_struct, he]; rfl
    · unfold bq
      rw [Sem.run_bind, run_eqGuard_agg w _ _ _ _ _ _ h2]
      simp only [Result.andThen_ok]
      rw [run_neq_struct, he]; rfl
  · cases h
@[simp] theorem bq_aggeql {T : TypeId} {xs ys : List Value} {xo yo : Operand} {w : World} {K : Value → Prop} (h : aggEq P T xs ys = true) : qG P (bq .eql T xo yo (.agg xs.toArray) (.agg ys.toArray)) w K = K (.bool (eqC xs ys)) := qG_of (run_aggs h).1
@[simp] theorem bq_aggneq {T : TypeId} {xs ys : List Value} {xo yo : Operand} {w : World} {K : Value → Prop} (h : aggEq P T xs ys = true) : qG P (bq .neq T xo yo (.agg xs.toArray) (.agg ys.toArray)) w K = K (.bool !eqC xs ys) := qG_of (run_aggs h).2
end Go.Q

/- Slices of a call's own, and slices that are only read, without a list of their blocks. -/
set_option linter.unusedVariables false
set_option linter.unusedSimpArgs false
namespace Go.Q
/-- a slice that reads so -/
def Rd (w : World) (v : Value) (k : Nat) (rows : List (List Value)) : Prop := ∃ S, ArgAt w v k rows S
/-- a slice that owns its block, which was made behind 'w0' -/
structure Fr (w0 w : World) (v : Value) (k : Nat) (rows : List (List Value)) : Prop where
  ex : ∃ S, RowsAt w v k rows S ∧ ∀ x ∈ S, w0.heap.size ≤ x
  kp : Kp [] w0 w
section
variable {w0 w w' : World} {v : Value} {k : Nat} {rows : List (List Value)}
theorem Rd.keep (h : Rd w v k rows) (hk : Kp [] w w') : Rd w' v k rows := by
  obtain ⟨S, h⟩ := h
  exact ⟨S, h.keep hk (by simp)⟩
theorem Rd.lenL (h : Rd w v k rows) {K : Value → Prop} : lenL v K = K (.int .i64 rows.length) := by
  obtain ⟨S, h⟩ := h
  exact h.lenL
theorem Rd.row (h : Rd w v k rows) {x : List Value} (hx : x ∈ rows) : x.length = k := by
  obtain ⟨S, h⟩ := h
  exact h.row hx
theorem Rd.src (h : Rd w v k rows) (K' : Nat → Array Value → Prop) (hK : K' rows.length rows.flatten.toArray) : Q.srcA k v w K' := by
  obtain ⟨S, h⟩ := h
  exact h.src K' hK
theorem Rd.at (h : Rd w v k rows) {i : Nat} (hi : i < rows.length) :
    ∃ bl o T c fr, w.heap[bl]? = some (.cells c T fr) ∧ (∀ kd K, ia k v (.int kd i) K = K (.pointer (some ⟨bl, o, none⟩))) ∧ o + k ≤ c.size ∧ c.extract o (o + k) = rows[i].toArray ∧ ∀ j, j < k → c[o + j]? = rows[i][j]? := by
  obtain ⟨S, h⟩ := h
  obtain ⟨bl, o, T, c, fr, _, h1, h2, h3, h4, h5⟩ := h.at hi
  exact ⟨bl, o, T, c, fr, h1, h2, h3, h4, h5⟩
theorem Rd.take (h : Rd w v k rows) {p : Nat} (hp : p ≤ rows.length) {kd : IntKind} : ∃ v', Rd w v' k (rows.take p) ∧ ∀ K, slL k v none (some (.int kd p)) K = K v' := by
  obtain ⟨S, h⟩ := h
  obtain ⟨v', h1, h2⟩ := h.take hp (kd := kd)
  exact ⟨v', ⟨S, h1⟩, h2⟩
theorem Rd.drop (h : Rd w v k rows) {p : Nat} (hp : p ≤ rows.length) {kd : IntKind} : ∃ v', Rd w v' k (rows.drop p) ∧ ∀ K, slL k v (some (.int kd p)) none K = K v' := by
  obtain ⟨S, h⟩ := h
  obtain ⟨v', h1, h2⟩ := h.drop hp (kd := kd)
  exact ⟨v', ⟨S, h1⟩, h2⟩
/-- a row is read whole -/
theorem Rd.get (h : Rd w v k rows) {i : Nat} (hi : i < rows.length) :
    ∃ p, (∀ kd K, ia k v (.int kd i) K = K p) ∧ (∀ K : Value → Prop, ldn k p w K = K (.agg rows[i].toArray)) ∧ ∀ j (hj : j < rows[i].length), ∀ K : Value → Prop, fa j p (fun q => ld1 q w K) = K rows[i][j] := by
  have hr := h.row (List.getElem_mem hi)
  obtain ⟨bl, o, T, c, fr, h1, h2, h3, h4, h5⟩ := h.at hi
  refine ⟨_, h2, fun K => ?_, fun j hj K => ?_⟩
  · simp only [ldn_p, rdN_mk, h1, h3, h4, true_and]
  · have := h5 j (by omega)
    rw [List.getElem?_eq_getElem hj] at this
    simp [-getElem?_pos, -Array.getElem?_eq_getElem, h1, this]
/-- a row of one cell is read -/
theorem Rd.one (h : Rd w v 1 rows) {i : Nat} (hi : i < rows.length) {x : Value} (hx : rows[i] = [x]) : ∃ p, (∀ kd K, ia 1 v (.int kd i) K = K p) ∧ ∀ K : Value → Prop, ld1 p w K = K x := by
  obtain ⟨bl, o, T, c, fr, h1, h2, h3, h4, h5⟩ := h.at hi
  refine ⟨_, h2, fun K => ?_⟩
  have := h5 0 (by omega)
  rw [hx, Nat.add_zero, List.getElem?_cons_zero] at this
  simp [-getElem?_pos, -Array.getElem?_eq_getElem, h1, this]
theorem Rd.slice (h : Rd w v k rows) : ∃ a c, v = .slice a rows.length c := by
  obtain ⟨S, ⟨a, c, h1, h2⟩ | h⟩ := h
  · exact ⟨a, c, by rw [h1, h2]; rfl⟩
  · obtain ⟨a, c, h1, _⟩ := h.len
    exact ⟨a, c, h1⟩
theorem Fr.rd (h : Fr w0 w v k rows) : Rd w v k rows := by
  obtain ⟨S, h1, h2⟩ := h.ex
  exact ⟨S, .inr h1.rd⟩
theorem Fr.keep (h : Fr w0 w v k rows) (hk : Kp [] w w') : Fr w0 w' v k rows := by
  obtain ⟨S, h1, h2⟩ := h.ex
  exact ⟨⟨S, h1.keep hk (by simp), h2⟩, h.kp.trans' hk⟩
/-- an elder base -/
theorem Fr.base {wb : World} (h : Fr w0 w v k rows) (hk : Kp [] wb w0) : Fr wb w v k rows := by
  obtain ⟨S, h1, h2⟩ := h.ex
  exact ⟨⟨S, h1, fun x hx => by have := h2 x hx; have := hk.size; omega⟩, hk.trans' h.kp⟩
theorem Fr.one (h : Fr w0 w v k rows) : Q.one v = true := by
  obtain ⟨S, h1, h2⟩ := h.ex
  obtain ⟨a, c, hv, _⟩ := h1.len
  rw [hv]; rfl
theorem fr_nil (hk : Kp [] w0 w) : Fr w0 w (.slice none 0 0) k [] := ⟨⟨[], .inl ⟨rfl, rfl, rfl⟩, by simp⟩, hk⟩
theorem fr_app {e bytes : Nat} {z : List Value} {x : Value} {G : List (List Value)} (h : Fr w0 w v k rows) (hk : 0 < k) (hz : z.length = k) (hG : ∀ y ∈ G, y.length = k) (hone : G.flatten.all Q.one = true)
    (hsrc : ∀ K' : Nat → Array Value → Prop, K' G.length G.flatten.toArray → srcA k x w K') (hb : 2 * (rows.length + G.length) * bytes ≤ 2 ^ 48) (hb2 : rows.length + G.length < 2 ^ 62) {K : Value → World → Prop}
    (hK : ∀ v' w', Fr w0 w' v' k (rows ++ G) → K v' w') : app e k bytes z.toArray v x w K := by
  obtain ⟨S, h1, h2⟩ := h.ex
  refine rows_app h1 hk hz hG hone hsrc hb hb2 fun v' w' S' h' hk' hS' => ?_
  have hs := h.kp.size
  refine hK v' w' ⟨⟨S', h', fun x hx => ?_⟩, h.kp.trans hk' fun x hx hlt => by have := h2 x hx; omega⟩
  rcases hS' x hx with h | h
  · exact h2 x h
  · omega
/-- a literal of one row is a slice of its own -/
theorem bsl_rowN {e n : Nat} {z : Array Value} {x : Value} {cs : List Value} (hn : 0 < n) (hc : x.cells = cs.toArray) (hl : cs.length = n) {w : World} {K : Value → World → Prop}
    (hK : ∀ v' w', Fr w w' v' n [cs] → K v' w') : bsl e n 1 z #[(0, x)] w K := by
  have hb : bsl e n 1 z #[(0, x)] w K = K (.slice (some ⟨w.heap.size, 0, none⟩) 1 1) (w.alloc (.cells cs.toArray e)) := by
    unfold bsl
    show (match Instr.fill (fun i => some (i * n, n)) (rep z (1 * n)) [(0, x)] with | some cs => K (Value.slice (some ⟨w.heap.size, 0, none⟩) 1 1) (w.alloc (Obj.cells cs e)) | none => False) = _
    rw [fill_step (off := 0) (size := n) (by simp) (by rw [hc]; simpa using hl) (by rw [rep_size]; omega), hc, splice_all (by rw [rep_size]; simp [hl])]
    rfl
  rw [hb]
  refine hK _ _ ⟨⟨[w.heap.size], .inr ⟨w.heap.size, [cs], e, rfl, rfl, ?_, by simpa using hl, by simp, by simp⟩, by simp⟩, (Kp.refl [] w).alloc _⟩
  rw [heap_new]; simp
/-- one row is appended -/
theorem fr_push {e bytes : Nat} {z : List Value} {x : Value} {y : List Value} {wx : World} (h : Fr w0 w v k rows) (hx : Rd w x k [y]) (hk : 0 < k) (hz : z.length = k) (hone : y.all Q.one = true)
    (hb : 2 * (rows.length + 1) * bytes ≤ 2 ^ 48) (hb2 : rows.length + 1 < 2 ^ 62) {K : Value → World → Prop}
    (hK : ∀ v' w', Fr w0 w' v' k (rows ++ [y]) → K v' w') : app e k bytes z.toArray v x w K := by
  have hy : y.length = k := hx.row (by simp)
  refine fr_app h hk hz (G := [y]) (by simpa using hy) (by simpa using hone) (fun K' hK' => hx.src K' hK') hb hb2 hK
end
/-! ### bytes -/
end Go.Q

/- Plain: values and rows, as bytes and back. -/
set_option linter.unusedVariables false
set_option linter.unusedSimpArgs false
namespace Go.Q
structure V3 where
  k : Int
  n : Int
  s : List UInt8
  deriving DecidableEq
def valV (v : V3) : List Value := [.int .i64 v.k, .int .i64 v.n, .string (str v.s)]
def V3.ok (v : V3) : Bool :=
  if v.k = 0 then decide (v.n = 0 ∧ v.s = []) else if v.k = 1 then decide (v.s = []) else if v.k = 2 then decide (v.n = 0 ∧ v.s.length ≤ 64)
  else if v.k = 3 then decide ((v.n = 0 ∨ v.n = 1) ∧ v.s = []) else false
structure V3.Wf (v : V3) : Prop where
  k0 : -9223372036854775808 ≤ v.k
  k1 : v.k < 9223372036854775808
  n0 : -9223372036854775808 ≤ v.n
  n1 : v.n < 9223372036854775808
  s : v.s.length < 2 ^ 39
def bOf (x : Int) : UInt8 := UInt8.ofNat (x % 256).toNat
/-- digits, the greatest first -/
def be (m N : Nat) : List UInt8 := (List.range m).map fun i => UInt8.ofNat (N / 256 ^ (m - 1 - i) % 256)
def be8 (n : Int) : List UInt8 := be 8 (n + 9223372036854775808).toNat
/-! ### values as bytes -/
def V3.bytes (v : V3) : List UInt8 := bOf v.k :: (if v.k = 1 then be8 v.n else if v.k = 2 then bOf v.s.length :: v.s else if v.k = 3 then [bOf v.n] else [])
def rowB (r : List V3) : List UInt8 := (r.map V3.bytes).flatten
def putRow (r : List V3) : List UInt8 × Int := if r.length ≤ 255 ∧ r.all V3.ok = true then (bOf r.length :: rowB r, 0) else ([], 1)
end Go.Q

/- Rules for the printed forms: bits, shifts, quotients. -/
set_option linter.unusedVariables false
set_option linter.unusedSimpArgs false
namespace Go.Q
variable {P : Program} {T : TypeId} {xo yo : Operand} {w : World} {K : Value → Prop} {u : Value}
theorem and_mask (x : Int) (m : Nat) (hm : m < 63) : IntKind.i64.wrap ((BitVec.ofInt 64 x &&& BitVec.ofInt 64 (2 ^ m - 1)).toNat : Int) = x % 2 ^ m := by
  have hp : (2 : Nat) ^ m ≤ 2 ^ 62 := Nat.pow_le_pow_right (by omega) (by omega)
  have hpos : 0 < (2 : Nat) ^ m := Nat.two_pow_pos m
  have h1 : (BitVec.ofInt 64 ((2 : Int) ^ m - 1)).toNat = 2 ^ m - 1 := by
    rw [BitVec.toNat_ofInt]
    have : ((2 : Int) ^ m - 1) = ((2 ^ m - 1 : Nat) : Int) := by
      rw [Int.ofNat_sub hpos]; simp
    rw [this]
    have hlt : 2 ^ m - 1 < 2 ^ 64 := by omega
    omega
  have h2 : ((BitVec.ofInt 64 x).toNat : Int) = x % 2 ^ 64 := by
    rw [BitVec.toNat_ofInt, Int.toNat_of_nonneg (Int.emod_nonneg _ (by decide))]
    rfl
  rw [BitVec.toNat_and, h1, Nat.and_two_pow_sub_one_eq_mod]
  have hd : ((2 : Int) ^ m) ∣ 2 ^ 64 := ⟨2 ^ (64 - m), by rw [← Int.pow_add, show m + (64 - m) = 64 by omega]⟩
  have h3 : (((BitVec.ofInt 64 x).toNat % 2 ^ m : Nat) : Int) = x % 2 ^ m := by
    rw [Int.natCast_emod, h2]
    have : ((2 ^ m : Nat) : Int) = (2 : Int) ^ m := by simp
    rw [this]
    exact Int.emod_emod_of_dvd x hd
  rw [h3]
  have hp' : (2 : Int) ^ m ≤ 2 ^ 62 := by
    have : ((2 ^ m : Nat) : Int) = (2 : Int) ^ m := by simp
    rw [← this]; omega
  have hpos' : (0 : Int) < 2 ^ m := Int.pow_pos (by omega)
  have := Int.emod_nonneg x (Int.ne_of_gt hpos')
  have := Int.emod_lt_of_pos x hpos'
  exact wrap64 _ (by omega) (by omega)
theorem run_and_mask {x c : Int} (m : Nat) (hm : m < 63) (hc : c = 2 ^ m - 1) : (bq .and T xo yo (.int .i64 x) (.int .i64 c)).run P w = .ok (.int .i64 (x % 2 ^ m)) w :=
  run_bq_int (s := .pure _) fun w => by
    have := and_mask x m hm
    rw [← hc] at this
    simp only [binOp, ne_eq, not_true_eq_false, if_false, Op.intBits]
    show Result.ok _ _ = Result.ok _ _
    congr 2
theorem and_of {x c : Int} (m : Nat) (hm : m < 63) (hc : c = 2 ^ m - 1) : qG P (bq .and T xo yo (.int .i64 x) (.int .i64 c)) w K = K (.int .i64 (x % 2 ^ m)) := qG_of (run_and_mask m hm hc)
theorem sand_of {x c : Int} (m : Nat) (hm : m < 63) (hc : c = 2 ^ m - 1) : stb P (bq .and T xo yo (.int .i64 x) (.int .i64 c)) u w = (.int .i64 (x % 2 ^ m) = u) := stb_of (run_and_mask m hm hc)
@[simp] theorem and1 {x : Int} : qG P (bq .and T xo yo (.int .i64 x) (.int .i64 1)) w K = K (.int .i64 (x % 2)) := and_of 1 (by omega) (by decide)
@[simp] theorem and7 {x : Int} : qG P (bq .and T xo yo (.int .i64 x) (.int .i64 7)) w K = K (.int .i64 (x % 8)) := and_of 3 (by omega) (by decide)
@[simp] theorem and15 {x : Int} : qG P (bq .and T xo yo (.int .i64 x) (.int .i64 15)) w K = K (.int .i64 (x % 16)) := and_of 4 (by omega) (by decide)
@[simp] theorem and127 {x : Int} : qG P (bq .and T xo yo (.int .i64 x) (.int .i64 127)) w K = K (.int .i64 (x % 128)) := and_of 7 (by omega) (by decide)
@[simp] theorem and255 {x : Int} : qG P (bq .and T xo yo (.int .i64 x) (.int .i64 255)) w K = K (.int .i64 (x % 256)) := and_of 8 (by omega) (by decide)
@[simp] theorem and511 {x : Int} : qG P (bq .and T xo yo (.int .i64 x) (.int .i64 511)) w K = K (.int .i64 (x % 512)) := and_of 9 (by omega) (by decide)
@[simp] theorem and65535 {x : Int} : qG P (bq .and T xo yo (.int .i64 x) (.int .i64 65535)) w K = K (.int .i64 (x % 65536)) := and_of 16 (by omega) (by decide)
@[simp] theorem sand1 {x : Int} : stb P (bq .and T xo yo (.int .i64 x) (.int .i64 1)) u w = (.int .i64 (x % 2) = u) := sand_of 1 (by omega) (by decide)
@[simp] theorem sand7 {x : Int} : stb P (bq .and T xo yo (.int .i64 x) (.int .i64 7)) u w = (.int .i64 (x % 8) = u) := sand_of 3 (by omega) (by decide)
@[simp] theorem sand255 {x : Int} : stb P (bq .and T xo yo (.int .i64 x) (.int .i64 255)) u w = (.int .i64 (x % 256) = u) := sand_of 8 (by omega) (by decide)
theorem run_rem {x y : Int} {k : IntKind} (hx : 0 ≤ x) (hy : 0 < y) : (bq .rem T xo yo (.int k x) (.int k y)).run P w = .ok (.int k (x % y)) w :=
  run_bq_int (s := .pure _) fun w => by
    have : ¬ y = 0 := by omega
    simp only [binOp, ne_eq, not_true_eq_false, if_false, Op.intDiv, this]
    show Result.ok _ _ = Result.ok _ _
    rw [Int.tmod_eq_emod_of_nonneg hx]
theorem rem_of {x y : Int} {k : IntKind} (hx : 0 ≤ x) (hy : 0 < y) : qG P (bq .rem T xo yo (.int k x) (.int k y)) w K = K (.int k (x % y)) := qG_of (run_rem hx hy)
theorem run_quo {x y : Int} {k : IntKind} (hx : 0 ≤ x) (hy : 0 < y) : (bq .quo T xo yo (.int k x) (.int k y)).run P w = .ok (.int k (k.wrap (x / y))) w :=
  run_bq_int (s := .pure _) fun w => by
    have : ¬ y = 0 := by omega
    simp only [binOp, ne_eq, not_true_eq_false, if_false, Op.intDiv, this]
    show Result.ok _ _ = Result.ok _ _
    rw [Int.tdiv_eq_ediv_of_nonneg hx]
theorem quo_of {x y : Int} {k : IntKind} (hx : 0 ≤ x) (hy : 0 < y) : qG P (bq .quo T xo yo (.int k x) (.int k y)) w K = K (.int k (k.wrap (x / y))) := qG_of (run_quo hx hy)
end Go.Q

/- Rules for the printed forms: or, xor and and of natural numbers, shifts to the left, negation and complement of 32 bits. -/
set_option linter.unusedVariables false
set_option linter.unusedSimpArgs false
namespace Go.Q
variable {P : Program} {T : TypeId} {xo yo : Operand} {w : World} {K : Value → Prop} {u : Value}
theorem wrap_nat64 {n : Nat} (h : n < 2 ^ 63) : IntKind.i64.wrap (n : Int) = n := wrap64 _ (by omega) (by omega)
end Go.Q

/- Rules for the printed forms: or and xor of 64 bits without a sign; a number shifted, or a byte. -/
set_option linter.unusedVariables false
set_option linter.unusedSimpArgs false
namespace Go.Q
variable {P : Program} {T : TypeId} {xo yo : Operand} {w : World} {K : Value → Prop} {u : Value}
end Go.Q

/- Structs laid part by part; cells of values. -/
set_option linter.unusedVariables false
set_option linter.unusedSimpArgs false
namespace Go.Q
@[simp] theorem cells_agg {cs : Array Value} : Value.cells (.agg cs) = cs := rfl
@[simp] theorem cells_int {k : IntKind} {n : Int} : Value.cells (.int k n) = #[.int k n] := rfl
@[simp] theorem cells_str {s : ByteArray} : Value.cells (.string s) = #[.string s] := rfl
@[simp] theorem all_cons1 {a : Value} {l : List Value} : (List.toArray (a :: l)).all one = (one a && (List.toArray l).all one) := by simp
@[simp] theorem all_nil1 : (List.toArray ([] : List Value)).all one = true := by simp
@[simp] theorem splice_lit {l vs : List Value} (h : l.length = vs.length) : splice l.toArray 0 vs.toArray = vs.toArray := splice_all (by simpa using h)
theorem loadVar_of {P : Program} {t : TypeId} {n b : Nat} {w : World} {c : Array Value} {T : TypeId} {fr : Nat × Nat} (ha : aggO P t = some true) (hn : szO P t = some n) (hh : w.heap[b]? = some (.cells c T fr)) (hs : c.size = n) {K : Value → Prop} :
    qG P (do loadVar t (← asAddr (.pointer (some ⟨b, 0, none⟩)))) w K = K (.agg c) := by
  refine qG_of ?_
  have h : ldn n (.pointer (some ⟨b, 0, none⟩)) w (fun v => v = .agg c) := by
    rw [ldn_p]; unfold rdN; simp only [hh, true_and, hs, Nat.zero_add, Nat.le_refl]
    have : c.extract 0 n = c := by rw [← hs]; simp
    rw [this]
  obtain ⟨v, hr, hv⟩ := ldn_q (P := P) ha hn h
  subst hv
  exact hr
/-! bytes of numbers -/
theorem kp_alloc {w : World} {o : Obj} : Kp [] w (w.alloc o) := (Kp.refl [] w).alloc o
theorem kp_drew {w : World} : Kp [] w w.drew := (Kp.refl [] w).drew
end Go.Q

/- Plain: operations. -/
set_option linter.unusedVariables false
set_option linter.unusedSimpArgs false
namespace Go.Q
structure OpV where
  k : Int
  sku : List UInt8
  loc : List UInt8
  to : List UInt8
  q : Int
  id : Int
  due : Int
  deriving DecidableEq
def nameOk (s : List UInt8) : Bool := decide (1 ≤ s.length ∧ s.length ≤ 64)
def OpV.ok (o : OpV) : Bool :=
  let names := nameOk o.sku && nameOk o.loc
  let none := decide (o.sku = [] ∧ o.loc = [])
  if o.k = 1 then names && decide (o.to = [] ∧ 1 ≤ o.q ∧ o.id = 0 ∧ o.due = 0)
  else if o.k = 2 then names && decide (o.to = [] ∧ 1 ≤ o.q ∧ o.id = 0 ∧ 0 ≤ o.due)
  else if o.k = 3 ∨ o.k = 4 then none && decide (o.to = [] ∧ o.q = 0 ∧ 1 ≤ o.id ∧ o.due = 0)
  else if o.k = 5 then none && decide (o.to = [] ∧ o.q = 0 ∧ o.id = 0 ∧ 0 ≤ o.due)
  else if o.k = 6 then names && nameOk o.to && decide (o.to ≠ o.loc ∧ 1 ≤ o.q ∧ o.id = 0 ∧ o.due = 0)
  else if o.k = 7 then names && decide (o.to = [] ∧ o.q ≠ 0 ∧ o.id = 0 ∧ o.due = 0)
  else false
/-- as the program asks it: what an operation may have besides is nought -/
def OpV.rest (o : OpV) : OpV :=
  if o.k = 1 ∨ o.k = 7 then ⟨o.k, o.sku, o.loc, [], o.q, 0, 0⟩
  else if o.k = 2 then ⟨o.k, o.sku, o.loc, [], o.q, 0, o.due⟩
  else if o.k = 3 ∨ o.k = 4 then ⟨o.k, [], [], [], 0, o.id, 0⟩
  else if o.k = 5 then ⟨o.k, [], [], [], 0, 0, o.due⟩
  else if o.k = 6 then ⟨o.k, o.sku, o.loc, o.to, o.q, 0, 0⟩
  else ⟨o.k, [], [], [], 0, 0, 0⟩
def OpV.may (o : OpV) (nm : Bool) : Bool :=
  if o.k = 1 then nm && decide (1 ≤ o.q)
  else if o.k = 2 then nm && decide (1 ≤ o.q ∧ 0 ≤ o.due)
  else if o.k = 3 ∨ o.k = 4 then decide (1 ≤ o.id)
  else if o.k = 5 then decide (0 ≤ o.due)
  else if o.k = 6 then nm && nameOk o.to && decide (o.to ≠ o.loc ∧ 1 ≤ o.q)
  else if o.k = 7 then nm && decide (o.q ≠ 0)
  else false
end Go.Q

/- Plain: kinds of a row; literals of several rows. -/
set_option linter.unusedVariables false
set_option linter.unusedSimpArgs false
namespace Go.Q
def intV (k : Int) : List Value := [.int .i64 k]
/-! ### literals of several rows -/
def partsFrom : Nat → List Value → List (Nat × Value)
  | _, [] => []
  | i, x :: r => (i, x) :: partsFrom (i + 1) r
theorem fill_rows {n : Nat} (hn : 0 < n) : ∀ (xs : List Value) (rows : List (List Value)) (i : Nat) (c : Array Value), xs.map Value.cells = rows.map List.toArray → (∀ y ∈ rows, y.length = n) → c.size = (i + xs.length) * n →
    Instr.fill (fun i => some (i * n, n)) c (partsFrom i xs) = some (c.toList.take (i * n) ++ rows.flatten).toArray := by
  intro xs
  induction xs with
  | nil =>
    intro rows i c h1 h2 h3
    have : rows = [] := by simpa using h1.symm
    subst this
    simp only [List.length_nil, Nat.add_zero] at h3
    have : c.toList.take (i * n) = c.toList := List.take_of_length_le (by simp [h3])
    simp [partsFrom, Instr.fill, this]
  | cons x xs ih =>
    intro rows i c h1 h2 h3
    cases rows with
    | nil => simp at h1
    | cons y rows =>
      simp only [List.map_cons, List.cons.injEq] at h1
      have hy := h2 y (by simp)
      simp only [List.length_cons] at h3
      have e1 : (i + (xs.length + 1)) * n = i * n + n + xs.length * n := by rw [Nat.add_mul, Nat.add_mul]; omega
      rw [e1] at h3
      unfold partsFrom
      rw [fill_step (off := i * n) (size := n) rfl (by rw [h1.1]; simpa using hy) (by omega), h1.1]
      have hsz : (splice c (i * n) y.toArray).size = (i + 1 + xs.length) * n := by
        rw [splice_size (by simp [hy]; omega), h3, Nat.add_mul, Nat.add_mul]; omega
      rw [ih rows (i + 1) _ h1.2 (fun z hz => h2 z (by simp [hz])) hsz]
      congr 2
      have e2 : (splice c (i * n) y.toArray).toList.take ((i + 1) * n) = c.toList.take (i * n) ++ y := by
        unfold splice
        have hl : (c.toList.take (i * n)).length = i * n := by rw [List.length_take]; simp; omega
        exact List.take_left' (by rw [List.length_append, hl, Nat.add_mul]; simp [hy])
      rw [e2]
      simp
end Go.Q

/- Plain: operations as rows, and back. -/
set_option linter.unusedVariables false
set_option linter.unusedSimpArgs false
namespace Go.Q
structure OpV.Wf (o : OpV) : Prop where
  k0 : -9223372036854775808 ≤ o.k
  k1 : o.k < 9223372036854775808
  q0 : -9223372036854775808 ≤ o.q
  q1 : o.q < 9223372036854775808
  i0 : -9223372036854775808 ≤ o.id
  i1 : o.id < 9223372036854775808
  d0 : -9223372036854775808 ≤ o.due
  d1 : o.due < 9223372036854775808
end Go.Q

/- Plain: holds, movements and stocks as rows, and back. -/
set_option linter.unusedVariables false
set_option linter.unusedSimpArgs false
namespace Go.Q
structure HV where
  id : Int
  sku : List UInt8
  loc : List UInt8
  q : Int
  st : Int
  due : Int
  deriving DecidableEq
structure SV where
  sku : List UInt8
  loc : List UInt8
  hand : Int
  held : Int
  deriving DecidableEq
def v0 : V3 := ⟨0, 0, []⟩
end Go.Q

/- Plain: a ledger of stocks, holds and movements; what an operation makes of it. -/
set_option linter.unusedVariables false
set_option linter.unusedSimpArgs false
namespace Go.Q
def lexL (a b : List UInt8) : Bool := Op.bytesLess a b
theorem lexL_nil (a : List UInt8) : lexL a [] = false := by cases a <;> rfl
theorem lexL_cons (a b : UInt8) (x y : List UInt8) : lexL (a :: x) (b :: y) = (decide (a < b) || (a == b && lexL x y)) := rfl
theorem lexL_irrefl : ∀ a : List UInt8, lexL a a = false := by
  intro a
  induction a with
  | nil => rfl
  | cons a x ih => rw [lexL_cons, ih]; simp
theorem lexL_trans : ∀ {a b c : List UInt8}, lexL a b = true → lexL b c = true → lexL a c = true := by
  intro a
  induction a with
  | nil =>
    intro b c h1 h2
    cases c with
    | nil => rw [lexL_nil] at h2; cases h2
    | cons c z => rfl
  | cons a x ih =>
    intro b c h1 h2
    cases b with
    | nil => rw [lexL_nil] at h1; cases h1
    | cons b y =>
      cases c with
      | nil => rw [lexL_nil] at h2; cases h2
      | cons c z =>
        rw [lexL_cons] at h1 h2 ⊢
        simp only [Bool.or_eq_true, decide_eq_true_eq, Bool.and_eq_true, beq_iff_eq] at h1 h2 ⊢
        rcases h1 with h1 | ⟨rfl, h1⟩ <;> rcases h2 with h2 | ⟨rfl, h2⟩
        · exact .inl (UInt8.lt_trans h1 h2)
        · exact .inl h1
        · exact .inl h2
        · exact .inr ⟨rfl, ih h1 h2⟩
theorem lexL_tri : ∀ {a b : List UInt8}, lexL a b = false → lexL b a = false → a = b := by
  intro a
  induction a with
  | nil =>
    intro b h1 h2
    cases b with
    | nil => rfl
    | cons b y => cases h1
  | cons a x ih =>
    intro b h1 h2
    cases b with
    | nil => cases h2
    | cons b y =>
      rw [lexL_cons] at h1 h2
      simp only [Bool.or_eq_false_iff, decide_eq_false_iff_not, Bool.and_eq_false_iff, beq_eq_false_iff_ne] at h1 h2
      have hab : a = b := by
        have g1 := UInt8.not_lt.1 h1.1
        have g2 := UInt8.not_lt.1 h2.1
        exact UInt8.le_antisymm g2 g1
      subst hab
      have e1 : lexL x y = false := by
        rcases h1.2 with h | h
        · exact absurd rfl h
        · exact h
      have e2 : lexL y x = false := by
        rcases h2.2 with h | h
        · exact absurd rfl h
        · exact h
      rw [ih e1 e2]
/-! ### places -/
def ahead (a b : SV) : Bool := lexL a.sku b.sku || (decide (a.sku = b.sku) && lexL a.loc b.loc)
def atP (s : SV) (sku loc : List UInt8) : Bool := decide (s.sku = sku ∧ s.loc = loc)
theorem ahead_irrefl (a : SV) : ahead a a = false := by simp [ahead, lexL_irrefl]
theorem ahead_trans {a b c : SV} (h1 : ahead a b = true) (h2 : ahead b c = true) : ahead a c = true := by
  simp only [ahead, Bool.or_eq_true, Bool.and_eq_true, decide_eq_true_eq] at h1 h2 ⊢
  rcases h1 with h1 | ⟨e1, h1⟩ <;> rcases h2 with h2 | ⟨e2, h2⟩
  · exact .inl (lexL_trans h1 h2)
  · exact .inl (e2 ▸ h1)
  · exact .inl (e1 ▸ h2)
  · exact .inr ⟨e1.trans e2, lexL_trans h1 h2⟩
theorem ahead_tri {a b : SV} (h1 : ahead a b = false) (h2 : ahead b a = false) : a.sku = b.sku ∧ a.loc = b.loc := by
  simp only [ahead, Bool.or_eq_false_iff, Bool.and_eq_false_iff, decide_eq_false_iff_not] at h1 h2
  have e := lexL_tri h1.1 h2.1
  refine ⟨e, ?_⟩
  have g1 : lexL a.loc b.loc = false := by
    rcases h1.2 with h | h
    · exact absurd e h
    · exact h
  have g2 : lexL b.loc a.loc = false := by
    rcases h2.2 with h | h
    · exact absurd e.symm h
    · exact h
  exact lexL_tri g1 g2
/-- places matter, numbers do not -/
theorem ahead_key {a b a' b' : SV} (h1 : a.sku = a'.sku) (h2 : a.loc = a'.loc) (h3 : b.sku = b'.sku) (h4 : b.loc = b'.loc) : ahead a b = ahead a' b' := by simp only [ahead, h1, h2, h3, h4]
def Sorted (l : List SV) : Prop := l.Pairwise fun a b => ahead a b = true
/-! ### the ledger -/
structure LV where
  st : List SV
  ho : List HV
  mo : List HV
  ops : Int
  deriving DecidableEq
def fits (n : Int) : Bool := decide (-9223372036854775808 ≤ n ∧ n ≤ 9223372036854775807)
def findS (l : List SV) (sku loc : List UInt8) : SV := (l.find? fun s => atP s sku loc).getD ⟨sku, loc, 0, 0⟩
def putS : List SV → SV → List SV
  | [], s => [s]
  | x :: r, s => if ahead x s = true then x :: putS r s else if x.sku = s.sku ∧ x.loc = s.loc then s :: r else s :: x :: r
def w64i (n : Int) : Int := IntKind.i64.wrap n
def heldL (l : LV) (sku loc : List UInt8) (n : Int) : LV := { l with st := putS l.st { findS l.st sku loc with held := w64i ((findS l.st sku loc).held + n) } }
def fullL (l : LV) : Bool := decide (4096 < l.st.length ∨ 4096 < l.ho.length ∨ 4096 < l.mo.length)
/-! ### may a ledger be? -/
def activeQ (ho : List HV) (sku loc : List UInt8) : Int := (ho.map fun h => if h.sku = sku ∧ h.loc = loc ∧ h.st = 0 then h.q else 0).sum
def movedQ (mo : List HV) (sku loc : List UInt8) : Int := (mo.map fun m => if m.sku = sku ∧ m.loc = loc then m.q else 0).sum
def stockOk (l : LV) (s : SV) : Bool := nameOk s.sku && nameOk s.loc && decide (0 ≤ s.held ∧ s.held ≤ s.hand) && fits s.hand && decide (s.held = activeQ l.ho s.sku s.loc ∧ s.hand = movedQ l.mo s.sku s.loc)
def knownL (l : LV) (sku loc : List UInt8) : Bool := l.st.any fun s => atP s sku loc
def holdOk (l : LV) (k : Nat) (h : HV) : Bool :=
  decide (h.id = (k + 1 : Nat)) && nameOk h.sku && nameOk h.loc && decide (1 ≤ h.q ∧ 0 ≤ h.st ∧ h.st ≤ 2 ∧ 0 ≤ h.due) && (decide (h.st ≠ 0) || knownL l h.sku h.loc)
def moveOk (l : LV) (k : Nat) (m : HV) : Bool :=
  decide (m.id = (k + 1 : Nat)) && nameOk m.sku && nameOk m.loc && fits m.q && decide (m.q ≠ 0) && decide (m.st = 1 ∨ m.st = 3 ∨ m.st = 6 ∨ m.st = 7) && decide (0 ≤ m.due) && (decide (m.due ≠ 0) == decide (m.st = 3)) && knownL l m.sku m.loc
/-- a ledger that may be -/
structure May (l : LV) : Prop where
  ops : 0 ≤ l.ops
  few : fullL l = false
  sorted : Sorted l.st
  stocks : ∀ s ∈ l.st, stockOk l s = true
  holds : ∀ k (h : k < l.ho.length), holdOk l k l.ho[k] = true
  moves : ∀ k (h : k < l.mo.length), moveOk l k l.mo[k] = true
/-! ### finding and putting -/
theorem findS_key (l : List SV) (sku loc : List UInt8) : (findS l sku loc).sku = sku ∧ (findS l sku loc).loc = loc := by
  unfold findS
  cases h : l.find? fun s => atP s sku loc with
  | none => exact ⟨rfl, rfl⟩
  | some s =>
    have := List.find?_some h
    simpa [atP] using this
theorem putS_mem {l : List SV} {s x : SV} (h : x ∈ putS l s) : x = s ∨ (x ∈ l) := by
  induction l with
  | nil => simp [putS] at h; exact .inl h
  | cons y r ih =>
    unfold putS at h
    split at h
    · rcases List.mem_cons.1 h with rfl | h
      · exact .inr (by simp)
      · rcases ih h with h | h
        · exact .inl h
        · exact .inr (by simp [h])
    · split at h
      · rcases List.mem_cons.1 h with rfl | h
        · exact .inl rfl
        · exact .inr (by simp [h])
      · rcases List.mem_cons.1 h with rfl | h
        · exact .inl rfl
        · exact .inr h
theorem putS_self (l : List SV) (s : SV) : s ∈ putS l s := by
  induction l with
  | nil => simp [putS]
  | cons y r ih =>
    unfold putS
    split
    · simp [ih]
    · split <;> simp
/-- what stands elsewhere stays -/
theorem putS_keep {l : List SV} {s x : SV} (h : x ∈ l) (hk : ¬(x.sku = s.sku ∧ x.loc = s.loc)) : x ∈ putS l s := by
  induction l with
  | nil => cases h
  | cons y r ih =>
    unfold putS
    rcases List.mem_cons.1 h with rfl | h
    · split
      · simp
      · first | (rw [if_neg hk]; simp) | simp
    · split
      · simp [ih h]
      · split
        · simp [h]
        · simp [h]
theorem putS_sorted {l : List SV} {s : SV} (h : Sorted l) : Sorted (putS l s) := by
  induction l with
  | nil => simp [putS, Sorted]
  | cons y r ih =>
    have hr := List.pairwise_cons.1 h
    unfold putS
    split
    · rename_i hy
      refine List.pairwise_cons.2 ⟨fun x hx => ?_, ih hr.2⟩
      rcases putS_mem hx with rfl | hx
      · exact hy
      · exact hr.1 x hx
    · rename_i hy
      have hy : ahead y s = false := by simpa using hy
      split
      · rename_i hk
        refine List.pairwise_cons.2 ⟨fun x hx => ?_, hr.2⟩
        have := hr.1 x hx
        rwa [ahead_key (b' := x) hk.1 hk.2 rfl rfl] at this
      · rename_i hk
        have hsy : ahead s y = true := by
          cases hc : ahead s y with
          | true => rfl
          | false => exact absurd (ahead_tri hy hc) hk
        refine List.pairwise_cons.2 ⟨fun x hx => ?_, h⟩
        rcases List.mem_cons.1 hx with rfl | hx
        · exact hsy
        · exact ahead_trans hsy (hr.1 x hx)
/-- in a sorted list a place stands once -/
theorem sorted_uniq {l : List SV} (h : Sorted l) {a b : SV} (ha : a ∈ l) (hb : b ∈ l) (hk : a.sku = b.sku ∧ a.loc = b.loc) : a = b := by
  induction l with
  | nil => cases ha
  | cons y r ih =>
    have hr := List.pairwise_cons.1 h
    have ne : ∀ x ∈ r, ¬(y.sku = x.sku ∧ y.loc = x.loc) := fun x hx hk => by
      have := hr.1 x hx
      rw [ahead_key (a' := x) (b' := x) hk.1 hk.2 rfl rfl, ahead_irrefl] at this
      cases this
    rcases List.mem_cons.1 ha with rfl | ha <;> rcases List.mem_cons.1 hb with rfl | hb
    · rfl
    · exact absurd hk (ne b hb)
    · exact absurd ⟨hk.1.symm, hk.2.symm⟩ (ne a (by assumption))
    · exact ih hr.2 ha hb
theorem findS_of_mem {l : List SV} (h : Sorted l) {s : SV} (hs : s ∈ l) : findS l s.sku s.loc = s := by
  unfold findS
  cases hf : l.find? fun x => atP x s.sku s.loc with
  | none =>
    have := List.find?_eq_none.1 hf s hs
    simp [atP] at this
  | some x =>
    have h1 := List.mem_of_find?_eq_some hf
    have h2 := List.find?_some hf
    simp only [atP, decide_eq_true_eq] at h2
    exact sorted_uniq h h1 hs h2
theorem findS_none {l : List SV} {sku loc : List UInt8} (h : ∀ s ∈ l, ¬(s.sku = sku ∧ s.loc = loc)) : findS l sku loc = ⟨sku, loc, 0, 0⟩ := by
  unfold findS
  rw [List.find?_eq_none.2 (fun x hx => by simpa [atP] using h x hx)]
  rfl
theorem known_find {l : LV} {sku loc : List UInt8} : knownL l sku loc = true ↔ ∃ s ∈ l.st, s.sku = sku ∧ s.loc = loc := by simp [knownL, atP]
end Go.Q

/- Plain: a ledger that may be is one that may be behind each operation. -/
set_option linter.unusedVariables false
set_option linter.unusedSimpArgs false
namespace Go.Q
abbrev Pl := List UInt8 → List UInt8 → Int
/-- stocks that are as two sums say -/
structure MayF (st : List SV) (H M : Pl) : Prop where
  sorted : Sorted st
  ok : ∀ s ∈ st, nameOk s.sku = true ∧ nameOk s.loc = true ∧ fits s.hand = true ∧ 0 ≤ s.held ∧ s.held ≤ s.hand ∧ s.held = H s.sku s.loc ∧ s.hand = M s.sku s.loc
  none : ∀ sku loc, (∀ s ∈ st, ¬(s.sku = sku ∧ s.loc = loc)) → H sku loc = 0 ∧ M sku loc = 0
theorem MayF.find {st : List SV} {H M : Pl} (h : MayF st H M) (sku loc : List UInt8) :
    (findS st sku loc).held = H sku loc ∧ (findS st sku loc).hand = M sku loc ∧ 0 ≤ (findS st sku loc).held ∧ (findS st sku loc).held ≤ (findS st sku loc).hand ∧ fits (findS st sku loc).hand = true := by
  by_cases hx : ∃ s ∈ st, s.sku = sku ∧ s.loc = loc
  · obtain ⟨s, hs, rfl, rfl⟩ := hx
    rw [findS_of_mem h.sorted hs]
    obtain ⟨_, _, h1, h2, h3, h4, h5⟩ := h.ok s hs
    exact ⟨h4, h5, h2, h3, h1⟩
  · have hx' : ∀ s ∈ st, ¬(s.sku = sku ∧ s.loc = loc) := fun s hs hk => hx ⟨s, hs, hk⟩
    rw [findS_none hx']
    have := h.none sku loc hx'
    exact ⟨this.1.symm, this.2.symm, Int.le_refl _, Int.le_refl _, rfl⟩
def updP (H : Pl) (sku loc : List UInt8) (n : Int) : Pl := fun a b => if sku = a ∧ loc = b then n else H a b
theorem MayF.put {st : List SV} {H M : Pl} (h : MayF st H M) (s : SV) (h1 : nameOk s.sku = true) (h2 : nameOk s.loc = true) (h3 : fits s.hand = true) (h4 : 0 ≤ s.held) (h5 : s.held ≤ s.hand) :
    MayF (putS st s) (updP H s.sku s.loc s.held) (updP M s.sku s.loc s.hand) := by
  refine ⟨putS_sorted h.sorted, fun x hx => ?_, fun sku loc hn => ?_⟩
  · by_cases hk : s.sku = x.sku ∧ s.loc = x.loc
    · have : x = s := sorted_uniq (putS_sorted h.sorted) hx (putS_self st s) ⟨hk.1.symm, hk.2.symm⟩
      subst this
      exact ⟨h1, h2, h3, h4, h5, by simp [updP], by simp [updP]⟩
    · rcases putS_mem hx with rfl | hx
      · exact absurd ⟨rfl, rfl⟩ hk
      · obtain ⟨g1, g2, g3, g4, g5, g6, g7⟩ := h.ok x hx
        exact ⟨g1, g2, g3, g4, g5, by rw [updP, if_neg hk]; exact g6, by rw [updP, if_neg hk]; exact g7⟩
  · have hk : ¬(s.sku = sku ∧ s.loc = loc) := hn s (putS_self st s)
    have := h.none sku loc fun x hx hxk => hn x (putS_keep hx fun hh => hk ⟨hh.1.symm.trans hxk.1, hh.2.symm.trans hxk.2⟩) hxk
    exact ⟨by rw [updP, if_neg hk]; exact this.1, by rw [updP, if_neg hk]; exact this.2⟩
theorem MayF.congr {st : List SV} {H M H' M' : Pl} (h : MayF st H M) (hH : ∀ a b, H a b = H' a b) (hM : ∀ a b, M a b = M' a b) : MayF st H' M' := by
  have e1 : H = H' := funext fun a => funext fun b => hH a b
  have e2 : M = M' := funext fun a => funext fun b => hM a b
  exact e1 ▸ e2 ▸ h
theorem fits_iff {n : Int} : fits n = true ↔ -9223372036854775808 ≤ n ∧ n ≤ 9223372036854775807 := by simp [fits]
theorem w64i_eq {n : Int} (h : fits n = true) : w64i n = n := by
  have := fits_iff.1 h
  exact wrap64 _ (by omega) (by omega)
/-! ### sums -/
/-! ### a ledger that may be, in these words -/
theorem May.f {l : LV} (h : May l) : MayF l.st (activeQ l.ho) (movedQ l.mo) := by
  refine ⟨h.sorted, fun s hs => ?_, fun sku loc hn => ⟨?_, ?_⟩⟩
  · have := h.stocks s hs
    simp only [stockOk, Bool.and_eq_true, decide_eq_true_eq] at this
    obtain ⟨⟨⟨⟨h1, h2⟩, h3, h4⟩, h5⟩, h6, h7⟩ := this
    exact ⟨h1, h2, h5, h3, h4, h6, h7⟩
  · have : ∀ x ∈ l.ho, (if x.sku = sku ∧ x.loc = loc ∧ x.st = 0 then x.q else 0) = 0 := by
      intro x hx
      obtain ⟨k, hk, rfl⟩ := List.getElem_of_mem hx
      rw [if_neg]
      rintro ⟨h1, h2, h3⟩
      have := h.holds k hk
      simp only [holdOk, Bool.and_eq_true, Bool.or_eq_true, decide_eq_true_eq] at this
      rcases this.2 with h4 | h4
      · exact h4 h3
      · obtain ⟨s, hs, h5, h6⟩ := known_find.1 h4
        exact hn s hs ⟨h5.trans h1, h6.trans h2⟩
    unfold activeQ
    rw [List.map_congr_left this]
    generalize l.ho = z
    induction z with
    | nil => rfl
    | cons y r ih => simp at ih ⊢; exact ih
  · have : ∀ x ∈ l.mo, (if x.sku = sku ∧ x.loc = loc then x.q else 0) = 0 := by
      intro x hx
      obtain ⟨k, hk, rfl⟩ := List.getElem_of_mem hx
      rw [if_neg]
      rintro ⟨h1, h2⟩
      have := h.moves k hk
      simp only [moveOk, Bool.and_eq_true, decide_eq_true_eq] at this
      obtain ⟨s, hs, h5, h6⟩ := known_find.1 this.2
      exact hn s hs ⟨h5.trans h1, h6.trans h2⟩
    unfold movedQ
    rw [List.map_congr_left this]
    generalize l.mo = z
    induction z with
    | nil => rfl
    | cons y r ih => simp at ih ⊢; exact ih
/-- all but how many there are -/
structure Mst (l : LV) (H M : Pl) : Prop where
  f : MayF l.st H M
  holds : ∀ k (h : k < l.ho.length), holdOk l k l.ho[k] = true
  moves : ∀ k (h : k < l.mo.length), moveOk l k l.mo[k] = true
theorem May.m {l : LV} (h : May l) : Mst l (activeQ l.ho) (movedQ l.mo) := ⟨h.f, h.holds, h.moves⟩
theorem Mst.may {l : LV} (h : Mst l (activeQ l.ho) (movedQ l.mo)) (ho : 0 ≤ l.ops) (hf : fullL l = false) : May l := by
  refine ⟨ho, hf, h.f.sorted, fun s hs => ?_, h.holds, h.moves⟩
  obtain ⟨h1, h2, h3, h4, h5, h6, h7⟩ := h.f.ok s hs
  simp [stockOk, h1, h2, h3, h4, h5, ← h6, ← h7]
theorem known_put {l : LV} {s : SV} {sku loc : List UInt8} (h : knownL l sku loc = true) : knownL { l with st := putS l.st s } sku loc = true := by
  obtain ⟨x, hx, h1, h2⟩ := known_find.1 h
  by_cases hk : x.sku = s.sku ∧ x.loc = s.loc
  · exact known_find.2 ⟨s, putS_self _ _, hk.1.symm.trans h1, hk.2.symm.trans h2⟩
  · exact known_find.2 ⟨x, putS_keep hx hk, h1, h2⟩
theorem holdOk_put {l : LV} {s : SV} {k : Nat} {h : HV} (hh : holdOk l k h = true) : holdOk { l with st := putS l.st s } k h = true := by
  simp only [holdOk, Bool.and_eq_true, Bool.or_eq_true] at hh ⊢
  exact ⟨hh.1, hh.2.imp id known_put⟩
theorem moveOk_put {l : LV} {s : SV} {k : Nat} {h : HV} (hh : moveOk l k h = true) : moveOk { l with st := putS l.st s } k h = true := by
  simp only [moveOk, Bool.and_eq_true] at hh ⊢
  exact ⟨hh.1, known_put hh.2⟩
theorem Mst.put {l : LV} {H M : Pl} (h : Mst l H M) (s : SV) (h1 : nameOk s.sku = true) (h2 : nameOk s.loc = true) (h3 : fits s.hand = true) (h4 : 0 ≤ s.held) (h5 : s.held ≤ s.hand) :
    Mst { l with st := putS l.st s } (updP H s.sku s.loc s.held) (updP M s.sku s.loc s.hand) :=
  ⟨h.f.put s h1 h2 h3 h4 h5, fun k hk => holdOk_put (h.holds k hk), fun k hk => moveOk_put (h.moves k hk)⟩
theorem Mst.find_eq {l : LV} {H M : Pl} (h : Mst l H M) (sku loc : List UInt8) : findS l.st sku loc = ⟨sku, loc, M sku loc, H sku loc⟩ := by
  obtain ⟨g1, g2, _⟩ := h.f.find sku loc
  obtain ⟨k1, k2⟩ := findS_key l.st sku loc
  cases hs : findS l.st sku loc with
  | mk a b c d => rw [hs] at g1 g2 k1 k2; simp only at g1 g2 k1 k2; rw [g1, g2, k1, k2]
/-- so many more, or fewer, are held -/
theorem Mst.held {l : LV} {H M : Pl} (h : Mst l H M) {sku loc : List UInt8} (h1 : nameOk sku = true) (h2 : nameOk loc = true) {n : Int} (h4 : 0 ≤ H sku loc + n) (h5 : H sku loc + n ≤ M sku loc) :
    Mst (heldL l sku loc n) (updP H sku loc (H sku loc + n)) M ∧ heldL l sku loc n = { l with st := putS l.st ⟨sku, loc, M sku loc, H sku loc + n⟩ } := by
  obtain ⟨g1, g2, g3, g4, g5⟩ := h.f.find sku loc
  have g6 := fits_iff.1 g5
  rw [g2] at g5 g6
  have hw : w64i (H sku loc + n) = H sku loc + n := w64i_eq (fits_iff.2 (by omega))
  have e : heldL l sku loc n = { l with st := putS l.st ⟨sku, loc, M sku loc, H sku loc + n⟩ } := by
    unfold heldL
    rw [h.find_eq]
    simp only [hw]
  have := h.put ⟨sku, loc, M sku loc, H sku loc + n⟩ h1 h2 g5 h4 h5
  rw [e]
  refine ⟨⟨this.f.congr (fun _ _ => rfl) fun a b => ?_, this.holds, this.moves⟩, rfl⟩
  unfold updP
  split
  · rename_i hk; obtain ⟨rfl, rfl⟩ := hk; rfl
  · rfl
end Go.Q

/- Plain: each operation leaves a ledger that may be one that may be. -/
set_option linter.unusedVariables false
set_option linter.unusedSimpArgs false
namespace Go.Q
theorem Mst.congr {l : LV} {H M H' M' : Pl} (h : Mst l H M) (hH : ∀ a b, H a b = H' a b) (hM : ∀ a b, M a b = M' a b) : Mst l H' M' := ⟨h.f.congr hH hM, h.holds, h.moves⟩
end Go.Q

/- The library's comparing of texts: the order of their bytes. -/
set_option linter.unusedVariables false
set_option linter.unusedSimpArgs false
namespace Go.Q
open Go
def cmpL (a b : List UInt8) : Int := if lexL a b = true then -1 else if lexL b a = true then 1 else 0
theorem cmpL_zero {a b : List UInt8} : cmpL a b = 0 ↔ a = b := by
  unfold cmpL
  constructor
  · intro h
    split at h
    · simp at h
    · split at h
      · simp at h
      · rename_i h1 h2
        exact lexL_tri (by simpa using h1) (by simpa using h2)
  · rintro rfl
    simp [lexL_irrefl]
theorem lexL_pre : ∀ {a b : List UInt8}, (∀ i, i < min a.length b.length → a.getD i 0 = b.getD i 0) → lexL a b = decide (a.length < b.length) := by
  intro a
  induction a with
  | nil => intro b h; cases b <;> rfl
  | cons x a ih =>
    intro b h
    cases b with
    | nil => rfl
    | cons y b =>
      have h0 := h 0 (by simp)
      simp at h0
      subst h0
      rw [lexL_cons, ih (fun i hi => by have := h (i + 1) (by simp at hi ⊢; omega); simpa using this)]
      simp
theorem lexL_diff : ∀ {i : Nat} {a b : List UInt8}, i < min a.length b.length → (∀ j, j < i → a.getD j 0 = b.getD j 0) → a.getD i 0 ≠ b.getD i 0 → lexL a b = decide (a.getD i 0 < b.getD i 0) := by
  intro i
  induction i with
  | zero =>
    intro a b hi _ hne
    cases a with
    | nil => simp at hi
    | cons x a =>
      cases b with
      | nil => simp at hi
      | cons y b =>
        simp at hne ⊢
        rw [lexL_cons]
        simp [hne]
  | succ i ih =>
    intro a b hi h hne
    cases a with
    | nil => simp at hi
    | cons x a =>
      cases b with
      | nil => simp at hi
      | cons y b =>
        have h0 := h 0 (by omega)
        simp at h0
        subst h0
        rw [lexL_cons, ih (by simp at hi ⊢; omega) (fun j hj => by have := h (j + 1) (by omega); simpa using this) (by simpa using hne)]
        simp
theorem str_get (l : List UInt8) (i : Nat) : (str l)[i]! = l.getD i 0 := by
  by_cases h : i < (str l).size
  · rw [getElem!_pos (str l) i h]
    have hl : i < l.length := by simpa using h
    simp only [List.getD, List.getElem?_eq_getElem hl, Option.getD_some]
    show (str l).data[i] = _
    simp [str]
  · rw [getElem!_neg (str l) i h]
    have hl : ¬ i < l.length := by simpa using h
    simp only [List.getD, List.getElem?_eq_none (Nat.le_of_not_lt hl), Option.getD_none]
    rfl
theorem cmp_eq (a b : List UInt8) : Extern.BytealgCompare.cmp (str a) (str b) = cmpL a b := by
  unfold Extern.BytealgCompare.cmp
  simp only [str_get, str_size]
  cases hf : (List.range (min a.length b.length)).find? (fun i => a.getD i 0 != b.getD i 0) with
  | some i =>
    rw [List.find?_range_eq_some] at hf
    obtain ⟨h1, h2, h3⟩ := hf
    have hi : i < min a.length b.length := by simpa using h2
    have hne : a.getD i 0 ≠ b.getD i 0 := by simpa using h1
    have hl : ∀ j, j < i → a.getD j 0 = b.getD j 0 := fun j hj => by have := h3 j hj; simpa using this
    have e1 := lexL_diff hi hl hne
    have e2 := lexL_diff (a := b) (b := a) (by omega) (fun j hj => (hl j hj).symm) (Ne.symm hne)
    unfold cmpL
    rw [e1, e2]
    clear e1 e2 hl h1 h3
    simp only
    generalize a.getD i 0 = p at *
    generalize b.getD i 0 = q at *
    by_cases hc : p < q
    · simp [hc]
    · have : q < p := by
        rcases UInt8.lt_or_lt_of_ne hne with h | h
        · exact absurd h hc
        · exact h
      simp [hc, this]
  | none =>
    rw [List.find?_eq_none] at hf
    have hl : ∀ i, i < min a.length b.length → a.getD i 0 = b.getD i 0 := fun i hi => by have := hf i (by simpa using hi); simpa using this
    unfold cmpL
    rw [lexL_pre hl, lexL_pre (a := b) (b := a) (fun i hi => (hl i (by omega)).symm)]
    by_cases h1 : a.length < b.length
    · simp [h1]
    · by_cases h2 : b.length < a.length
      · simp [h1, h2]
      · simp [h1, h2]
theorem nG_cmp {P : Program} {w : World} {f : FuncId} {fn : Func} (hf : P.funcs[f]? = some fn) (hname : (fn.name == "runtime.NumGoroutine") = false) (hb : fn.body.isNone = true) (hn : Extern.findNext fn = none) (he : Extern.find fn = some Extern.BytealgCompare.compare) (a b : List UInt8)
    {K : Value → World → Prop} (hK : K (.int .i64 (cmpL a b)) w) : nG P (callFunc f #[.string (str a), .string (str b)]) w K := by
  refine ⟨_, w, ?_, hK⟩
  rw [run_callFunc_extern hf hname hb hn he]
  have : (Extern.BytealgCompare.compare #[.string (str a), .string (str b)]).run P w = .ok (.int .i64 (Extern.BytealgCompare.cmp (str a) (str b))) w := rfl
  rw [this, cmp_eq]
  rfl
theorem cmpL_bnd (a b : List UInt8) : -1 ≤ cmpL a b ∧ cmpL a b ≤ 1 := by
  unfold cmpL
  split
  · omega
  · split <;> omega
end Go.Q

/- Plain, layer 22: the order of values; what is known of rows. -/
set_option linter.unusedVariables false
set_option linter.unusedSimpArgs false
namespace Go.Q
def cmpI (a b : Int) : Int := if a < b then -1 else if a > b then 1 else 0
/-- which of two values stands first -/
def cmpV (a b : V3) : Int := if cmpI a.k b.k ≠ 0 then cmpI a.k b.k else if cmpI a.n b.n ≠ 0 then cmpI a.n b.n else cmpL a.s b.s
/-- the same as an order -/
def ltV (a b : V3) : Prop := a.k < b.k ∨ a.k = b.k ∧ (a.n < b.n ∨ a.n = b.n ∧ lexL a.s b.s = true)
instance (a b : V3) : Decidable (ltV a b) := by unfold ltV; infer_instance
theorem ltV_irrefl (a : V3) : ¬ ltV a a := by
  unfold ltV
  rintro (h | ⟨_, h | ⟨_, h⟩⟩)
  · omega
  · omega
  · rw [lexL_irrefl] at h; cases h
theorem ltV_trans {a b c : V3} (h : ltV a b) (h' : ltV b c) : ltV a c := by
  unfold ltV at *
  rcases h with h | ⟨h1, h | ⟨h2, h⟩⟩ <;> rcases h' with h' | ⟨h1', h' | ⟨h2', h'⟩⟩
  · left; omega
  · left; omega
  · left; omega
  · left; omega
  · right; exact ⟨by omega, .inl (by omega)⟩
  · right; exact ⟨by omega, .inl (by omega)⟩
  · left; omega
  · right; exact ⟨by omega, .inl (by omega)⟩
  · right; exact ⟨by omega, .inr ⟨by omega, lexL_trans h h'⟩⟩
theorem ltV_tri {a b : V3} (h : ¬ ltV a b) (h' : ¬ ltV b a) : a = b := by
  unfold ltV at *
  obtain ⟨k, n, s⟩ := a
  obtain ⟨k', n', s'⟩ := b
  simp only at *
  have e1 : k = k' := by
    rcases Int.lt_trichotomy k k' with g | g | g
    · exact absurd (.inl g) h
    · exact g
    · exact absurd (.inl g) h'
  subst e1
  have e2 : n = n' := by
    rcases Int.lt_trichotomy n n' with g | g | g
    · exact absurd (.inr ⟨rfl, .inl g⟩) h
    · exact g
    · exact absurd (.inr ⟨rfl, .inl g⟩) h'
  subst e2
  have e3 : s = s' := by
    refine lexL_tri ?_ ?_
    · cases hh : lexL s s'
      · rfl
      · exact absurd (.inr ⟨rfl, .inr ⟨rfl, hh⟩⟩) h
    · cases hh : lexL s' s
      · rfl
      · exact absurd (.inr ⟨rfl, .inr ⟨rfl, hh⟩⟩) h'
  subst e3
  rfl
theorem cmpI_lt {a b : Int} (h : a < b) : cmpI a b = -1 := by unfold cmpI; rw [if_pos h]
theorem cmpI_gt {a b : Int} (h : b < a) : cmpI a b = 1 := by unfold cmpI; rw [if_neg (by omega), if_pos h]
theorem cmpI_self (a : Int) : cmpI a a = 0 := by unfold cmpI; rw [if_neg (by omega), if_neg (by omega)]
theorem cmpV_lt {a b : V3} : cmpV a b < 0 ↔ ltV a b := by
  unfold cmpV ltV
  rcases Int.lt_trichotomy a.k b.k with g | g | g
  · rw [cmpI_lt g]
    exact ⟨fun _ => .inl g, fun _ => by rw [if_pos (by decide)]; decide⟩
  · rw [← g, cmpI_self, if_neg (by decide)]
    rcases Int.lt_trichotomy a.n b.n with g2 | g2 | g2
    · rw [cmpI_lt g2]
      exact ⟨fun _ => .inr ⟨rfl, .inl g2⟩, fun _ => by rw [if_pos (by decide)]; decide⟩
    · rw [← g2, cmpI_self, if_neg (by decide)]
      unfold cmpL
      cases h1 : lexL a.s b.s with
      | true => exact ⟨fun _ => .inr ⟨rfl, .inr ⟨rfl, rfl⟩⟩, fun _ => by simp⟩
      | false =>
        refine ⟨fun h => ?_, fun h => ?_⟩
        · exfalso
          revert h
          cases lexL b.s a.s <;> simp
        · rcases h with h | ⟨_, h | ⟨_, h⟩⟩
          · omega
          · omega
          · cases h
    · rw [cmpI_gt g2]
      refine ⟨fun h => absurd h (by rw [if_pos (by decide)]; decide), fun h => ?_⟩
      rcases h with h | ⟨_, h | ⟨h, _⟩⟩ <;> omega
  · rw [cmpI_gt g]
    refine ⟨fun h => absurd h (by rw [if_pos (by decide)]; decide), fun h => ?_⟩
    rcases h with h | ⟨h, _⟩ <;> omega
theorem cmpV_zero {a b : V3} : cmpV a b = 0 ↔ a = b := by
  constructor
  · intro h
    have g1 : ¬ ltV a b := fun hh => by have := cmpV_lt.2 hh; omega
    have hs : cmpV b a = 0 := by
      have key : ∀ x y : Int, cmpI x y = 0 ↔ x = y := by
        intro x y; unfold cmpI; split
        · simp; omega
        · split
          · simp; omega
          · simp; omega
      unfold cmpV at h ⊢
      by_cases e1 : a.k = b.k
      · have z1 : cmpI a.k b.k = 0 := (key _ _).2 e1
        have z1' : cmpI b.k a.k = 0 := (key _ _).2 e1.symm
        rw [if_neg (by simp [z1])] at h
        rw [if_neg (by simp [z1'])]
        by_cases e2 : a.n = b.n
        · have z2 : cmpI a.n b.n = 0 := (key _ _).2 e2
          have z2' : cmpI b.n a.n = 0 := (key _ _).2 e2.symm
          rw [if_neg (by simp [z2])] at h
          rw [if_neg (by simp [z2'])]
          exact cmpL_zero.2 (cmpL_zero.1 h).symm
        · have z2 : cmpI a.n b.n ≠ 0 := fun hh => e2 ((key _ _).1 hh)
          rw [if_pos z2] at h
          exact absurd h z2
      · have z1 : cmpI a.k b.k ≠ 0 := fun hh => e1 ((key _ _).1 hh)
        rw [if_pos z1] at h
        exact absurd h z1
    have g2 : ¬ ltV b a := fun hh => by have := cmpV_lt.2 hh; omega
    exact ltV_tri g1 g2
  · rintro rfl
    have c0 : ∀ x : Int, cmpI x x = 0 := by intro x; unfold cmpI; simp
    unfold cmpV
    rw [if_neg (by simp [c0]), if_neg (by simp [c0])]
    exact cmpL_zero.2 rfl
/-- not later -/
def leV (a b : V3) : Prop := ¬ ltV b a
instance (a b : V3) : Decidable (leV a b) := by unfold leV; infer_instance
theorem leV_trans {a b c : V3} (h : leV a b) (h' : leV b c) : leV a c := by
  intro hc
  by_cases h1 : ltV b a
  · exact h h1
  · by_cases h2 : ltV a b
    · exact h' (ltV_trans hc h2)
    · have := ltV_tri h1 h2; subst this; exact h' hc
theorem leV_anti {a b : V3} (h : leV a b) (h' : leV b a) : a = b := ltV_tri h' h
def SortV (l : List V3) : Prop := l.Pairwise leV
theorem sortV_eq {a b : List V3} (ha : SortV a) (hb : SortV b) (h : a.Perm b) : a = b :=
  List.Perm.eq_of_pairwise (le := leV) (fun x y _ _ h1 h2 => leV_anti h1 h2) ha hb h
/-- one more, behind those that are the same -/
def insV (l : List V3) (x : V3) : List V3 := l.takeWhile (fun y => decide (leV y x)) ++ [x] ++ l.dropWhile (fun y => decide (leV y x))
theorem insV_perm (l : List V3) (x : V3) : (insV l x).Perm (x :: l) := by
  unfold insV
  have h : l.takeWhile (fun y => decide (leV y x)) ++ l.dropWhile (fun y => decide (leV y x)) = l := List.takeWhile_append_dropWhile
  have h2 : (l.takeWhile (fun y => decide (leV y x)) ++ ([x] ++ l.dropWhile (fun y => decide (leV y x)))).Perm (x :: (l.takeWhile (fun y => decide (leV y x)) ++ l.dropWhile (fun y => decide (leV y x)))) := List.perm_middle
  rw [h] at h2
  rw [List.append_assoc]
  exact h2
theorem insV_sort {l : List V3} (h : SortV l) (x : V3) : SortV (insV l x) := by
  induction l with
  | nil => simp [insV, SortV]
  | cons y r ih =>
    have hr := List.pairwise_cons.1 h
    unfold insV
    by_cases hy : leV y x
    · rw [List.takeWhile_cons_of_pos (by simpa using hy), List.dropWhile_cons_of_pos (by simpa using hy)]
      have := ih hr.2
      unfold insV at this
      simp only [List.cons_append]
      refine List.pairwise_cons.2 ⟨fun z hz => ?_, this⟩
      have hz' := (insV_perm r x).mem_iff.1 hz
      rcases List.mem_cons.1 hz' with rfl | hz'
      · exact hy
      · exact hr.1 z hz'
    · rw [List.takeWhile_cons_of_neg (by simpa using hy), List.dropWhile_cons_of_neg (by simpa using hy)]
      have hxy : leV x y := by
        unfold leV at hy ⊢
        intro hh
        exact hy fun h2 => ltV_irrefl x (ltV_trans h2 hh)
      refine List.pairwise_cons.2 ⟨fun z hz => ?_, h⟩
      rcases List.mem_cons.1 hz with rfl | hz
      · exact hxy
      · exact leV_trans hxy (hr.1 z hz)
def sortV (l : List V3) : List V3 := l.foldl insV []
theorem foldV_ins : ∀ (l acc : List V3), SortV acc → SortV (l.foldl insV acc) ∧ (l.foldl insV acc).Perm (acc ++ l) := by
  intro l
  induction l with
  | nil => intro acc h; exact ⟨h, by simp⟩
  | cons x r ih =>
    intro acc h
    obtain ⟨g1, g2⟩ := ih (insV acc x) (insV_sort h x)
    refine ⟨g1, g2.trans ?_⟩
    refine ((insV_perm acc x).append_right r).trans ?_
    rw [List.cons_append]
    exact List.perm_middle.symm
theorem sortV_ok (l : List V3) : SortV (sortV l) ∧ (sortV l).Perm l := by
  have := foldV_ins l [] List.Pairwise.nil
  simpa [sortV] using this
/-! ### what is known of a column -/
structure ColV where
  nulls : Nat
  distinct : Nat
  steps : List V3
def colVals (c : Nat) (rows : List (List V3)) : List V3 := rows.filterMap fun r => match r[c]? with | some v => if v.k = 0 then none else some v | none => none
/-- how many different ones a list in order has -/
def distV : List V3 → Nat
  | [] => 0
  | [_] => 1
  | a :: b :: r => (if a = b then 0 else 1) + distV (b :: r)
def stepsV (l : List V3) : List V3 := if l.length ≤ 9 then l else (List.range 9).map fun k => l.getD (k * (l.length - 1) / 8) ⟨0, 0, []⟩
def colV (c : Nat) (rows : List (List V3)) : ColV := ⟨rows.length - (colVals c rows).length, distV (sortV (colVals c rows)), stepsV (sortV (colVals c rows))⟩
structure StatV where
  rows : Nat
  cols : List ColV
def statV (n : Int) (rows : List (List V3)) : StatV := ⟨rows.length, (List.range (min n.toNat 64)).map fun c => colV c rows⟩
end Go.Q

/- Plain, layer 22: ranges; about how many rows. -/
set_option linter.unusedVariables false
set_option linter.unusedSimpArgs false
namespace Go.Q
structure Bd where
  has : Bool
  open_ : Bool
  val : V3
def bNone : Bd := ⟨false, false, ⟨0, 0, []⟩⟩
/-- the lower end (or the upper one) that leaves fewer between -/
def tightV (a b : Bd) (sign : Int) : Bd :=
  if a.has = false then b else if b.has = false then a
  else if cmpV a.val b.val * sign < 0 then b else if cmpV a.val b.val * sign = 0 then ⟨a.has, a.open_ || b.open_, a.val⟩ else a
def bothV (a b : Bd) : Bool := if a.has = false ∨ b.has = false then true else decide (cmpV a.val b.val < 0 ∨ cmpV a.val b.val = 0 ∧ a.open_ = false ∧ b.open_ = false)
def narrowV (lo hi low high : Bd) : Bool := bothV (tightV lo low 1) (tightV hi high (-1))
def bAt (v : V3) : Bd := ⟨true, false, v⟩
def inV (v : V3) (lo hi : Bd) : Bool := narrowV lo hi (bAt v) (bAt v)
/-- above a lower end -/
def above (v : V3) (lo : Bd) : Prop := lo.has = true → ltV lo.val v ∨ lo.val = v ∧ lo.open_ = false
def under (v : V3) (hi : Bd) : Prop := hi.has = true → ltV v hi.val ∨ v = hi.val ∧ hi.open_ = false
instance (v : V3) (lo : Bd) : Decidable (above v lo) := by unfold above; infer_instance
instance (v : V3) (hi : Bd) : Decidable (under v hi) := by unfold under; infer_instance
theorem ltV_asymm {a b : V3} (h : ltV a b) : ¬ ltV b a := fun h' => ltV_irrefl a (ltV_trans h h')
theorem cmpV_cases (a b : V3) : (cmpV a b < 0 ∧ ltV a b) ∨ (cmpV a b = 0 ∧ a = b) ∨ (0 < cmpV a b ∧ ltV b a) := by
  by_cases h : ltV a b
  · exact .inl ⟨cmpV_lt.2 h, h⟩
  · by_cases h2 : a = b
    · exact .inr (.inl ⟨cmpV_zero.2 h2, h2⟩)
    · have h0 : cmpV a b ≠ 0 := fun hh => h2 (cmpV_zero.1 hh)
      have h1 : ¬ cmpV a b < 0 := fun hh => h (cmpV_lt.1 hh)
      refine .inr (.inr ⟨by omega, ?_⟩)
      by_cases h3 : ltV b a
      · exact h3
      · exact absurd (ltV_tri h h3) h2
/-! ### shares -/
def shareN (a b c : Nat) : Nat := a / c * b + a % c * b / c
theorem shareN_mono {a b b' c : Nat} (h : b ≤ b') : shareN a b c ≤ shareN a b' c := by
  unfold shareN
  have h1 : a / c * b ≤ a / c * b' := Nat.mul_le_mul_left _ h
  have h2 : a % c * b / c ≤ a % c * b' / c := Nat.div_le_div_right (Nat.mul_le_mul_left _ h)
  omega
theorem shareN_all {a c : Nat} (h : 0 < c) : shareN a c c = a := by
  unfold shareN
  rw [Nat.mul_div_cancel _ h, Nat.mul_comm]
  exact Nat.div_add_mod a c
def atV (s : StatV) (col : Int) : Option ColV := if 0 ≤ col ∧ col < s.cols.length then (match s.cols[col.toNat]? with | some c => if c.steps = [] then none else some c | none => none) else none
def sameQ (s : StatV) (col : Int) (v : V3) : Nat :=
  match atV s col with
  | none => 0
  | some c => if v.k = 0 ∨ cmpV v (c.steps.getD 0 ⟨0, 0, []⟩) < 0 ∨ cmpV v (c.steps.getD (c.steps.length - 1) ⟨0, 0, []⟩) > 0 then 0 else max 1 ((s.rows - c.nulls) / max 1 c.distinct)
def inN (l : List V3) (lo hi : Bd) : Nat := (l.filter fun v => inV v lo hi).length
def betweenQ (s : StatV) (col : Int) (lo hi : Bd) : Nat :=
  match atV s col with
  | none => 0
  | some c => if narrowV lo hi bNone bNone = true then 1 + shareN (s.rows - c.nulls - 1) (inN c.steps lo hi) c.steps.length else 0
def joinedQ (a : StatV) (ca ra : Int) (b : StatV) (cb rb : Int) : Int :=
  match atV a ca, atV b cb with
  | some x, some y => if ra < 1 ∨ rb < 1 then 0 else min 1099511627776 (max 1 (min ra 1073741824 * min rb 1073741824 / (max 1 (max x.distinct y.distinct) : Nat)))
  | _, _ => 0
/-! ### what is known of any rows -/
theorem colVals_le (c : Nat) (rows : List (List V3)) : (colVals c rows).length ≤ rows.length := List.length_filterMap_le _ _
theorem sortV_len (l : List V3) : (sortV l).length = l.length := (sortV_ok l).2.length_eq
theorem stepsV_nil {l : List V3} : stepsV l = [] ↔ l = [] := by
  unfold stepsV
  split
  · exact Iff.rfl
  · rename_i h
    constructor
    · intro hh; simp at hh
    · rintro rfl; simp at h
theorem colV_nil {c : Nat} {rows : List (List V3)} : (colV c rows).steps = [] ↔ colVals c rows = [] := by
  unfold colV
  simp only
  rw [stepsV_nil]
  constructor
  · intro h
    have := sortV_len (colVals c rows)
    rw [h] at this
    exact List.length_eq_zero_iff.1 this.symm
  · intro h; rw [h]; rfl
theorem atV_stat {n col : Int} {rows : List (List V3)} {c : ColV} (h : atV (statV n rows) col = some c) : ∃ k : Nat, col = k ∧ k < min n.toNat 64 ∧ c = colV k rows ∧ colVals k rows ≠ [] := by
  unfold atV at h
  split at h
  · rename_i hc
    split at h
    · rename_i c' hc'
      split at h
      · cases h
      · rename_i hs
        injection h with h
        subst h
        have hk : col.toNat < min n.toNat 64 := by
          have := hc.2
          simp only [statV, List.length_map, List.length_range] at this
          omega
        simp only [statV, List.getElem?_map, List.getElem?_range hk, Option.map_some] at hc'
        injection hc' with hc'
        subst hc'
        exact ⟨col.toNat, by omega, hk, rfl, fun hh => hs (colV_nil.2 hh)⟩
    · cases h
  · cases h
theorem pos_left {k : Nat} {rows : List (List V3)} (h : colVals k rows ≠ []) : 0 < (colVals k rows).length := List.length_pos_iff.2 h
end Go.Q

/- Plain, layer 22: the document's comparing and ranges; different ones counted; two tables. -/
set_option linter.unusedVariables false
set_option linter.unusedSimpArgs false
namespace Go.Q
theorem cmpV_bnd (a b : V3) : -1 ≤ cmpV a b ∧ cmpV a b ≤ 1 := by
  have key : ∀ x y : Int, -1 ≤ cmpI x y ∧ cmpI x y ≤ 1 := by
    intro x y; unfold cmpI; split
    · omega
    · split <;> omega
  unfold cmpV
  split
  · exact key _ _
  · split
    · exact key _ _
    · exact cmpL_bnd _ _
theorem cmpV_eq (a b : V3) : cmpV a b = if ltV a b then -1 else if ltV b a then 1 else 0 := by
  have h := cmpV_bnd a b
  rcases cmpV_cases a b with ⟨h1, h2⟩ | ⟨h1, h2⟩ | ⟨h1, h2⟩
  · rw [if_pos h2]; omega
  · subst h2
    rw [if_neg (ltV_irrefl a), if_neg (ltV_irrefl a)]; omega
  · rw [if_neg (ltV_asymm h2), if_pos h2]; omega
/-- the document's range -/
def inT (v : V3) (lo hi : Bd) : Bool := if v.k = 0 then false else if lo.has = true ∧ (cmpV v lo.val < 0 ∨ lo.open_ = true ∧ v = lo.val) then false else decide (hi.has = false ∨ cmpV v hi.val < 0 ∨ hi.open_ = false ∧ v = hi.val)
/-! ### different ones, counted -/
theorem distV_snoc : ∀ (l : List V3) (x y : V3), distV (l ++ [x, y]) = distV (l ++ [x]) + (if x = y then 0 else 1) := by
  intro l
  induction l with
  | nil =>
    intro x y
    simp only [List.nil_append, distV]
    omega
  | cons a r ih =>
    intro x y
    cases r with
    | nil =>
      have := ih x y
      simp only [List.nil_append, List.cons_append, distV] at this ⊢
      omega
    | cons b r =>
      have := ih x y
      simp only [List.cons_append, distV] at this ⊢
      omega
theorem distV_take {l : List V3} {i : Nat} (h : i < l.length) : distV (l.take (i + 1)) = distV (l.take i) + (if h0 : i = 0 then 1 else if l[i - 1] = l[i] then 0 else 1) := by
  rw [List.take_succ_eq_append_getElem h]
  cases i with
  | zero => simp [distV]
  | succ i =>
    have h1 : i < l.length := by omega
    have e : l.take (i + 1) = l.take i ++ [l[i]] := List.take_succ_eq_append_getElem h1
    rw [e, List.append_assoc]
    have := distV_snoc (l.take i) l[i] l[i + 1]
    simp only [List.cons_append, List.nil_append] at this ⊢
    rw [this]
    simp
theorem distV_le : ∀ (l : List V3), distV l ≤ l.length := by
  intro l
  induction l with
  | nil => simp [distV]
  | cons a r ih =>
    cases r with
    | nil => simp [distV]
    | cons b r =>
      simp only [distV, List.length_cons] at ih ⊢
      split <;> omega
/-! ### two tables -/
theorem joined_symm (a b : StatV) (ca ra cb rb : Int) : joinedQ a ca ra b cb rb = joinedQ b cb rb a ca ra := by
  unfold joinedQ
  cases atV a ca with
  | none =>
    cases atV b cb <;> rfl
  | some x =>
    cases atV b cb with
    | none => rfl
    | some y =>
      simp only
      by_cases h : ra < 1 ∨ rb < 1
      · rw [if_pos h, if_pos h.symm]
      · rw [if_neg h, if_neg fun hh => h hh.symm, Int.mul_comm, Nat.max_comm x.distinct]
theorem joined_bnd {n m ca cb : Int} {a b : List (List V3)} (ha : a.length < 2 ^ 20) (hb : b.length < 2 ^ 20) : 0 ≤ joinedQ (statV n a) ca a.length (statV m b) cb b.length ∧ joinedQ (statV n a) ca a.length (statV m b) cb b.length ≤ (a.length : Int) * b.length := by
  unfold joinedQ
  have hmul : (0 : Int) ≤ (a.length : Int) * b.length := Int.mul_nonneg (by omega) (by omega)
  split
  · rename_i x y hx hy
    split
    · exact ⟨by omega, hmul⟩
    · rename_i h
      have e1 : min (a.length : Int) 1073741824 = a.length := by omega
      have e2 : min (b.length : Int) 1073741824 = b.length := by omega
      rw [e1, e2]
      have h1 : (1 : Int) ≤ (a.length : Int) * b.length := by
        have := Int.mul_le_mul (show (1 : Int) ≤ (a.length : Int) by omega) (show (1 : Int) ≤ (b.length : Int) by omega) (by omega) (by omega)
        omega
      have h2 : (a.length : Int) * b.length / ((max 1 (max x.distinct y.distinct) : Nat) : Int) ≤ (a.length : Int) * b.length := Int.ediv_le_self _ hmul
      constructor
      · omega
      · omega
  · exact ⟨by omega, hmul⟩
end Go.Q

/- Rows of k cells that the library's sort has put in order. -/
set_option linter.unusedVariables false
set_option linter.unusedSimpArgs false
namespace Go.Q
/-- a world that has drawn, and new blocks -/
def Gw (w w' : World) : Prop := ∃ q os, w' = Go.Sort.grow (w.drewN q) os
theorem Gw.refl (w : World) : Gw w w := ⟨0, #[], by rw [Go.Sort.grow_empty]; rfl⟩
theorem Gw.alloc {w w' : World} (h : Gw w w') (o : Obj) : Gw w (w'.alloc o) := by
  obtain ⟨q, os, rfl⟩ := h
  exact ⟨q, os ++ #[o], by rw [Go.Sort.alloc_eq_grow, Go.Sort.grow_grow]⟩
theorem Gw.drew {w w' : World} (h : Gw w w') : Gw w w'.drew := by
  obtain ⟨q, os, rfl⟩ := h
  exact ⟨q + 1, os, rfl⟩
variable {α : Type} [Inhabited α]
theorem flatK_list {enc : α → List Value} {k : Nat} (hk : ∀ x, (enc x).length = k) (k0 : 0 < k) (d : List α) : (Go.Sort.flatK enc k d.toArray).toList = (d.map enc).flatten := by
  have hrow : ∀ y ∈ d.map enc, y.length = k := fun y hy => by
    obtain ⟨x, _, rfl⟩ := List.mem_map.1 hy
    exact hk x
  have hfl := flat_len hrow
  rw [List.length_map] at hfl
  apply List.ext_getElem?
  intro t
  by_cases ht : t < d.length * k
  · have hi : t / k < d.length := (Nat.div_lt_iff_lt_mul k0).2 ht
    have hc : t % k < k := Nat.mod_lt _ k0
    have hg := flat_get hrow (i := t / k) (by simpa using hi)
    have e2 := congrArg (fun l => l[t % k]?) hg
    simp only [List.getElem?_take_of_lt hc, List.getElem?_drop] at e2
    have hidx : t / k * k + t % k = t := by rw [Nat.mul_comm]; exact Nat.div_add_mod t k
    rw [hidx] at e2
    rw [e2]
    have hl : t % k < (enc d[t / k]).length := by rw [hk]; exact hc
    have h1 : (Go.Sort.flatK enc k d.toArray).toList[t]? = some (enc d[t / k])[t % k] := by
      have hs : t < (Go.Sort.flatK enc k d.toArray).size := by simpa using ht
      have := Go.Sort.get_flatK enc k d.toArray t (by simpa using ht)
      rw [getElem!_pos _ t hs] at this
      rw [Array.getElem?_toList, Array.getElem?_eq_getElem hs, this]
      have e3 : d.toArray[t / k]! = d[t / k] := by simp [hi]
      rw [e3, getElem!_pos (enc d[t / k]) (t % k) hl]
    rw [h1]
    simp [hl]
  · rw [List.getElem?_eq_none (by simp; omega), List.getElem?_eq_none (by omega)]
theorem holdsK_of {enc : α → List Value} {k : Nat} (hk : ∀ x, (enc x).length = k) (k0 : 0 < k) {w : World} {bl T : Nat} {F : List (List Value)} {d : List α} (h3 : w.heap[bl]? = some (.cells F.flatten.toArray T (0, 0))) (h4 : ∀ x ∈ F, x.length = k) (h5 : F.take d.length = d.map enc) (h6 : d.length ≤ F.length) :
    Go.Sort.HoldsK enc k w bl 0 d.toArray := by
  have hfl := flatK_list hk k0 d
  have hpre : F.flatten.take (d.length * k) = (d.map enc).flatten := by rw [flat_take d.length h4, h5]
  intro j hj
  have hj2 : j < d.length * k := by simpa using hj
  have hg : F.flatten[j]? = some (Go.Sort.flatK enc k d.toArray)[j]! := by
    rw [← List.getElem?_take_of_lt hj2, hpre, ← hfl, Array.getElem?_toList, Array.getElem?_eq_getElem hj, getElem!_pos _ j hj]
  constructor
  · unfold World.cell?
    simp only [h3, Nat.zero_add]
    simpa using hg
  · unfold World.frozen?
    simp only [h3]
    simp
theorem putCells_app {X cur : Array Value} (h : X.size ≤ cur.size) : Go.Sort.putCells id 0 X cur = (X.toList ++ cur.toList.drop X.size).toArray := by
  apply Array.ext
  · simp [Go.Sort.putCells]; omega
  · intro i h1 h2
    have hi : i < cur.size := by simpa [Go.Sort.putCells] using h1
    by_cases hx : i < X.size
    · simp [Go.Sort.putCells, hx]
    · have h0 : i - X.size + X.size = i := by omega
      simp [Go.Sort.putCells, hx, List.getElem_append]
      congr 1
      omega
/-- what lies there behind the sort -/
theorem sortK_fr {enc : α → List Value} {k : Nat} (hk : ∀ x, (enc x).length = k) (k0 : 0 < k) {w0 w : World} {bl T n : Nat} {os : Array Obj} {F : List (List Value)} {d d' : List α} (hkp : Kp [] w0 w) (hbl : w0.heap.size ≤ bl) (h3 : w.heap[bl]? = some (.cells F.flatten.toArray T (0, 0))) (h4 : ∀ x ∈ F, x.length = k) (h6 : d.length ≤ F.length) (hl : d'.length = d.length) :
    Fr w0 (Go.Proofs.sortWorldK enc k w bl 0 n d'.toArray os) (.slice (some ⟨bl, 0, none⟩) d.length F.length) k (d'.map enc) := by
  have hbw := lt_of_blk h3
  have hfl := flat_len h4
  have hX := flatK_list hk k0 d'
  have hXs : (Go.Sort.flatK enc k d'.toArray).size = d.length * k := by simp [hl]
  have hle : (Go.Sort.flatK enc k d'.toArray).size ≤ F.flatten.toArray.size := by
    rw [hXs]; simp only [List.size_toArray]; rw [hfl]; exact Nat.mul_le_mul_right _ h6
  have hheap : (Go.Proofs.sortWorldK enc k w bl 0 n d'.toArray os).heap[bl]? = some (.cells (Go.Sort.putCells id 0 (Go.Sort.flatK enc k d'.toArray) F.flatten.toArray) T (0, 0)) := by
    unfold Go.Proofs.sortWorldK Go.Sort.putRowK
    rw [Go.Sort.heap_grow_old _ _ (by simpa using hbw)]
    simp [Go.Sort.putRow, Go.Sort.mapBlock, Go.Sort.ahead, Array.getElem?_modify, h3, Go.Sort.onCells]
  rw [putCells_app hle, hX, hXs, List.toList_toArray, flat_drop d.length h4, ← List.flatten_append] at hheap
  refine ⟨⟨[bl], .inr ⟨bl, d'.map enc ++ F.drop d.length, T, ?_, rfl, hheap, ?_, ?_, ?_⟩, by simpa using hbl⟩, ⟨hkp.os, hkp.tape, hkp.output, ?_, fun b hb hn => ?_⟩⟩
  · congr 1
    · simp [hl]
    · simp; omega
  · intro x hx
    rcases List.mem_append.1 hx with hx | hx
    · obtain ⟨y, _, rfl⟩ := List.mem_map.1 hx
      exact hk y
    · exact h4 x (List.mem_of_mem_drop hx)
  · exact List.take_left' rfl
  · simp
  · have := hkp.size
    unfold Go.Proofs.sortWorldK Go.Sort.putRowK
    simp
    have : (Go.Sort.ahead w n).heap.size = w.heap.size := rfl
    omega
  · have hs := hkp.size
    have hne : bl ≠ b := by omega
    unfold Go.Proofs.sortWorldK Go.Sort.putRowK
    rw [Go.Sort.heap_grow_old _ _ (by simp; exact Nat.lt_of_lt_of_le hb hs)]
    have : (Go.Sort.putRow id (Go.Sort.ahead w n) bl 0 (Go.Sort.flatK enc k d'.toArray)).heap[b]? = w.heap[b]? := by
      simp [Go.Sort.putRow, Go.Sort.mapBlock, Go.Sort.ahead, Array.getElem?_modify, hne]
    rw [this]
    exact hkp.keep b hb hn
end Go.Q

/- Rows of a block written over and read; a row's cell turned; slices.Insert of one row. -/
set_option linter.unusedVariables false
set_option linter.unusedSimpArgs false
namespace Go.Q
variable {P : Program}
section
variable {w : World} {k : Nat} {F G : List (List Value)} {T : Nat}
theorem wr_rows {b i : Nat} (h : w.heap[b]? = some (.cells F.flatten.toArray T (0, 0))) (hF : ∀ x ∈ F, x.length = k) (hG : ∀ x ∈ G, x.length = k) (hi : i + G.length ≤ F.length) (hone : G.flatten.all one = true) {K : World → Prop} :
    wrN w ⟨b, i * k, none⟩ G.flatten.toArray K = K (setBlk w b (.cells (F.take i ++ G ++ F.drop (i + G.length)).flatten.toArray T)) := by
  rw [wrN_mk, h]
  simp only
  have h1 := flat_len hF
  have h2 := flat_len hG
  have h3 : i * k + G.flatten.length ≤ F.flatten.length := by rw [h1, h2, ← Nat.add_mul]; exact Nat.mul_le_mul_right _ hi
  rw [splice_list, flat_splice_many hF hG hi]
  apply propext
  constructor
  · rintro ⟨_, h⟩; exact h
  · intro hk
    refine ⟨⟨by simpa [-List.length_flatten] using h3, by rw [okFr0]; trivial, by rw [List.all_toArray]; exact hone⟩, hk⟩
theorem rd_rows {b i m : Nat} (h : w.heap[b]? = some (.cells F.flatten.toArray T (0, 0))) (hF : ∀ x ∈ F, x.length = k) (hi : i + m ≤ F.length) {K : Array Value → Prop} :
    rdN w ⟨b, i * k, none⟩ (m * k) K = K ((F.drop i).take m).flatten.toArray := by
  rw [rdN_mk, h]
  simp only
  have h1 := flat_len hF
  have h3 : i * k + m * k ≤ F.flatten.length := by rw [h1, ← Nat.add_mul]; exact Nat.mul_le_mul_right _ hi
  rw [extract_list, flat_drop i hF, flat_take m (fun x hx => hF x (List.mem_of_mem_drop hx))]
  apply propext
  constructor
  · rintro ⟨_, h⟩; exact h
  · intro hk
    exact ⟨by simpa [-List.length_flatten] using h3, hk⟩
end
theorem set_flat {k : Nat} : ∀ {F : List (List Value)} {i j : Nat} {v : Value}, (∀ x ∈ F, x.length = k) → (hi : i < F.length) → j < k → F.flatten.set (i * k + j) v = (F.set i (F[i].set j v)).flatten := by
  intro F
  induction F with
  | nil => intro i j v _ h; simp at h
  | cons x r ih =>
    intro i j v h hi hj
    have hx := h x (by simp)
    cases i with
    | zero =>
      simp only [List.flatten_cons, Nat.zero_mul, Nat.zero_add, List.set_cons_zero, List.getElem_cons_zero]
      rw [List.set_append_left _ _ (by omega)]
    | succ i =>
      simp only [List.flatten_cons, List.set_cons_succ, List.getElem_cons_succ]
      rw [List.set_append_right _ _ (by rw [hx, Nat.succ_mul]; omega)]
      rw [show (i + 1) * k + j - x.length = i * k + j by rw [hx, Nat.succ_mul]; omega]
      rw [ih (fun y hy => h y (by simp [hy])) (by simpa using hi) hj]
/-- a cell of a row is turned -/
theorem RowsAt.upd {w : World} {v : Value} {k : Nat} {rows : List (List Value)} {S : List Nat} (h : RowsAt w v k rows S) {i : Nat} (hi : i < rows.length) :
    ∃ bl, S = [bl] ∧ (∀ kd K, ia k v (.int kd i) K = K (.pointer (some ⟨bl, i * k, none⟩))) ∧ (∀ j (hj : j < rows[i].length) K, rd1 w ⟨bl, i * k + j, none⟩ K = K rows[i][j]) ∧
      ∀ j, j < k → ∀ y, one y = true → ∀ K : World → Prop, (∀ w', Kp S w w' → RowsAt w' v k (rows.set i (rows[i].set j y)) S → K w') → wr1 w ⟨bl, i * k + j, none⟩ y K := by
  have hrow := h.row (List.getElem_mem hi)
  obtain ⟨bl', T', c', hb', hh', hia', _, _, hat'⟩ := h.at hi
  rcases h with ⟨h1, h2, h3⟩ | ⟨bl, F, T, h1, h2, h3, h4, h5, h6⟩
  · rw [h2] at hi; cases hi
  · rw [h2] at hb'
    simp only [List.mem_singleton] at hb'
    subst hb'
    refine ⟨bl', h2, hia', fun j hj K => ?_, fun j hj y hy K hK => ?_⟩
    · have := hat' j (by omega)
      rw [List.getElem?_eq_getElem hj] at this
      rw [rd1_mk, hh']
      simp only [this]
    · have hiF : i < F.length := by omega
      have hfl := flat_len h4
      have hlt : i * k + j < F.flatten.length := by
        have : (i + 1) * k ≤ F.length * k := Nat.mul_le_mul_right _ hiF
        rw [Nat.succ_mul] at this
        omega
      have hrowF : F[i] = rows[i] := by
        have e : rows[i]? = F[i]? := by rw [← h5, List.getElem?_take_of_lt (by omega)]
        rw [List.getElem?_eq_getElem hi, List.getElem?_eq_getElem hiF] at e
        injection e with e
        exact e.symm
      rw [wr1_mk, h3]
      refine ⟨⟨by simpa [-List.length_flatten] using hlt, by rw [okFr0]; trivial⟩, ?_⟩
      have e : F.flatten.toArray.setIfInBounds (i * k + j) y = (F.set i (F[i].set j y)).flatten.toArray := by
        rw [← set_flat h4 hiF hj]; simp
      rw [e]
      refine hK _ ((Kp.refl _ _).setBlk (.inl (by rw [h2]; simp)) _) (.inr ⟨bl', F.set i (F[i].set j y), T, by rw [h1]; simp, h2, heap_self (live_of h3), fun x hx => ?_, ?_, by simpa using h6⟩)
      · rcases List.mem_or_eq_of_mem_set hx with hx | hx
        · exact h4 x hx
        · rw [hx, List.length_set]; exact h4 _ (List.getElem_mem hiF)
      · rw [List.length_set, List.take_set, h5, hrowF]
/-- the same of rows of things -/
theorem RowsAt.updM {α : Type} {f : α → List Value} {L : List α} {w : World} {v : Value} {k : Nat} {S : List Nat} (h : RowsAt w v k (L.map f) S) {i : Nat} (hi : i < L.length) :
    ∃ bl, S = [bl] ∧ (∀ K, ia k v (.int .i64 i) K = K (.pointer (some ⟨bl, i * k, none⟩))) ∧ (∀ j x, (f L[i])[j]? = some x → ∀ K, ld1 (.pointer (some ⟨bl, i * k + j, none⟩)) w K = K x) ∧
      ∀ j, j < k → ∀ y a, one y = true → f a = (f L[i]).set j y → ∀ K : World → Prop, (∀ w', Kp S w w' → RowsAt w' v k ((L.set i a).map f) S → K w') → st1 (.pointer (some ⟨bl, i * k + j, none⟩)) y w K := by
  have hi' : i < (L.map f).length := by simpa using hi
  obtain ⟨bl, h1, h2, h3, h4⟩ := h.upd hi'
  have e : (L.map f)[i] = f L[i] := by simp
  refine ⟨bl, h1, fun K => h2 .i64 K, fun j x hx K => ?_, fun j hj y a hy hf K hK => ?_⟩
  · obtain ⟨hj, hx⟩ := List.getElem?_eq_some_iff.1 hx
    rw [ld1_p, h3 j (by rw [e]; exact hj)]
    have : (L.map f)[i][j]'(by rw [e]; exact hj) = x := by rw [← hx]; congr 1
    rw [this]
  · rw [st1_p]
    refine ⟨hy, h4 j hj y hy K fun w' hk hr => hK w' hk ?_⟩
    rw [List.map_set, hf, ← e]
    exact hr
/-- the same, later -/
theorem RowsAt.updK {α : Type} {f : α → List Value} {L : List α} {w : World} {v : Value} {k : Nat} {S : List Nat} (h : RowsAt w v k (L.map f) S) {i : Nat} (hi : i < L.length) :
    ∃ bl, S = [bl] ∧ (∀ K, ia k v (.int .i64 i) K = K (.pointer (some ⟨bl, i * k, none⟩))) ∧ (∀ w1, Kp [] w w1 → ∀ j x, (f L[i])[j]? = some x → ∀ K, ld1 (.pointer (some ⟨bl, i * k + j, none⟩)) w1 K = K x) ∧
      ∀ w1, Kp [] w w1 → ∀ j, j < k → ∀ y a, one y = true → f a = (f L[i]).set j y → ∀ K : World → Prop, (∀ w', Kp S w1 w' → RowsAt w' v k ((L.set i a).map f) S → K w') → st1 (.pointer (some ⟨bl, i * k + j, none⟩)) y w1 K := by
  obtain ⟨bl, h1, h2, _, _⟩ := h.updM hi
  refine ⟨bl, h1, h2, fun w1 hk j x hx K => ?_, fun w1 hk j hj y a hy hf K hK => ?_⟩
  · obtain ⟨bl', g1, _, g3, _⟩ := (h.keep hk (by simp)).updM hi
    have : bl' = bl := by rw [h1] at g1; simpa using g1.symm
    subst this
    exact g3 j x hx K
  · obtain ⟨bl', g1, _, _, g4⟩ := (h.keep hk (by simp)).updM hi
    have : bl' = bl := by rw [h1] at g1; simpa using g1.symm
    subst this
    exact g4 j hj y a hy hf K hK
theorem rep_rows {k : Nat} {z : List Value} (hk : 0 < k) (hz : z.length = k) (n : Nat) : rep z.toArray (n * k) = (List.replicate n z).flatten.toArray := by
  apply Array.ext
  · simp [rep, hz]
  · intro i h1 h2
    have hi : i < n * k := by simpa [rep] using h1
    simp only [rep, Array.getElem_map, Array.getElem_range, List.size_toArray, hz]
    have hm : i % k < k := Nat.mod_lt _ hk
    have hd : i / k < n := (Nat.div_lt_iff_lt_mul hk).2 hi
    have hfl : ((List.replicate n z).flatten.drop ((i / k) * k)).take k = z := by
      rw [flat_get (k := k) (by intro x hx; rw [List.mem_replicate] at hx; rw [hx.2, hz]) (by simpa using hd)]
      simp
    have hidx : i / k * k + i % k = i := by rw [Nat.mul_comm]; exact Nat.div_add_mod i k
    have e2 := congrArg (fun l => l[i % k]?) hfl
    simp only [List.getElem?_take_of_lt hm, List.getElem?_drop, hidx] at e2
    have h2' : i < (List.replicate n z).flatten.length := by simpa using h2
    rw [List.getElem?_eq_getElem h2', List.getElem?_eq_getElem (by omega)] at e2
    injection e2 with e2
    rw [List.getElem_toArray, e2]
    simp [hz, hm]
end Go.Q

/- Maps whose keys are pairs of texts: what each operation does. -/
set_option linter.unusedVariables false
set_option linter.unusedSimpArgs false
namespace Go.Q
open Go
structure ME where
  a : List UInt8
  b : List UInt8
  v : Value
def keyV (a b : List UInt8) : Value := .agg #[.string (str a), .string (str b)]
def entsFrom : Nat → List ME → List MapEntry
  | _, [] => []
  | i, e :: r => ⟨keyV e.a e.b, e.v, i⟩ :: entsFrom (i + 1) r
/-- a map's entries, in the order in which they came -/
def MapIs (w : World) (n : Nat) (m : List ME) : Prop := w.heap[n]? = some (.map (entsFrom 0 m).toArray m.length)
/-- what is asked of the types of a map -/
structure MapT (P : Program) (T kt et : TypeId) (z : Value) : Prop where
  hm : P.underlying T = some (.map kt et)
  wide : (match P.underlying kt with | some (.array _ _) | some (.struct _) => true | _ => false) = true
  ck : ∀ e a b w, (Instr.checkKey e 10000 kt (keyV a b)).run P w = .ok () w
  eq : ∀ a b c d w, (Op.equal kt (keyV a b) (keyV c d)).run P w = .ok (decide (a = c ∧ b = d)) w
  zv : ∀ w, (zeroValue et).run P w = .ok z w
def findE (a b : List UInt8) : List ME → Nat → Option (Nat × Value)
  | [], _ => none
  | e :: r, i => if a = e.a ∧ b = e.b then some (i, e.v) else findE a b r (i + 1)
section
variable {P : Program} {T kt et : TypeId} {z : Value} {w : World} {n : Nat} {m : List ME} {a b : List UInt8}
theorem MapIs.keep {w' : World} {S : List Nat} (h : MapIs w n m) (hk : Kp S w w') (hn : n ∉ S) : MapIs w' n m := hk.get h hn
theorem asking (h : MapT P T kt et z) : ∀ (m : List ME) (i j : Nat), (Instr.findAsking kt (keyV a b) (entsFrom i m) j).run P w = .ok (findE a b m j) w := by
  intro m
  induction m with
  | nil => intro i j; rfl
  | cons e r ih =>
    intro i j
    simp only [entsFrom, Instr.findAsking, Sem.run_bind, h.eq, Result.andThen_ok, findE]
    by_cases hc : a = e.a ∧ b = e.b
    · simp [hc, Sem.run, pure]
    · simp [hc, ih]
theorem finding (h : MapT P T kt et z) : (Instr.findKey kt (keyV a b) (entsFrom 0 m)).run P w = .ok (findE a b m 0) w := by
  rw [run_findKey_eq w h.wide, asking h]
end
end Go.Q

/- Maps from places to lists of numbers. -/
set_option linter.unusedVariables false
set_option linter.unusedSimpArgs false
namespace Go.Q
open Go
structure IE where
  a : List UInt8
  b : List UInt8
  ks : List Int
  v : Value
  S : List Nat
def IE.me (e : IE) : ME := ⟨e.a, e.b, e.v⟩
def blksI (R : List IE) : List Nat := (R.map (·.S)).flatten
structure IMap (wb w : World) (n : Nat) (R : List IE) : Prop where
  map : MapIs w n (R.map IE.me)
  rows : ∀ e ∈ R, RowsAt w e.v 1 (e.ks.map intV) e.S
  nd : (blksI R).Nodup
  new : ∀ x ∈ blksI R, wb.heap.size ≤ x
  old : n < wb.heap.size
  kp : Kp [n] wb w
section
variable {P : Program} {T kt et : TypeId} {z : Value} {wb w : World} {n : Nat} {R : List IE}
theorem IMap.keep {w' : World} (h : IMap wb w n R) (hk : Kp [] w w') : IMap wb w' n R :=
  ⟨h.map.keep hk (by simp), fun e he => (h.rows e he).keep hk (by simp), h.nd, h.new, h.old, h.kp.trans hk (by simp)⟩
end
/-- at each place of a list of stocks so many numbers -/
def Shape (R : List IE) (st : List SV) (f : List UInt8 → List UInt8 → List Int) : Prop := R.map (fun e => (e.a, e.b, e.ks)) = st.map fun s => (s.sku, s.loc, f s.sku s.loc)
theorem Shape.len {R : List IE} {st : List SV} {f : List UInt8 → List UInt8 → List Int} (h : Shape R st f) : R.length = st.length := by
  have := congrArg List.length h
  simpa using this
theorem Shape.at {R : List IE} {st : List SV} {f : List UInt8 → List UInt8 → List Int} (h : Shape R st f) {i : Nat} (hi : i < R.length) (hs : i < st.length) : R[i].a = st[i].sku ∧ R[i].b = st[i].loc ∧ R[i].ks = f st[i].sku st[i].loc := by
  have := congrArg (fun l => l[i]?) h
  simp only [List.getElem?_map, List.getElem?_eq_getElem hi, List.getElem?_eq_getElem hs, Option.map_some, Option.some.injEq, Prod.mk.injEq] at this
  exact this
theorem sorted_get {st : List SV} (h : Sorted st) {i j : Nat} (hi : i < st.length) (hj : j < st.length) (hne : i ≠ j) : ¬(st[i].sku = st[j].sku ∧ st[i].loc = st[j].loc) := by
  intro hk
  rcases Nat.lt_or_gt_of_ne hne with hlt | hlt
  · have := List.pairwise_iff_getElem.1 h i j hi hj hlt
    rw [ahead_key (a' := st[j]) (b' := st[j]) hk.1 hk.2 rfl rfl, ahead_irrefl] at this
    cases this
  · have := List.pairwise_iff_getElem.1 h j i hj hi hlt
    rw [ahead_key (a' := st[i]) (b' := st[i]) hk.1.symm hk.2.symm rfl rfl, ahead_irrefl] at this
    cases this
theorem Shape.uniq {R : List IE} {st : List SV} {f : List UInt8 → List UInt8 → List Int} (h : Shape R st f) (hs : Sorted st) {i j : Nat} (hi : i < R.length) (hj : j < R.length) (hne : i ≠ j) : ¬(R[i].a = R[j].a ∧ R[i].b = R[j].b) := by
  have hl := h.len
  obtain ⟨a1, b1, _⟩ := h.at hi (by omega)
  obtain ⟨a2, b2, _⟩ := h.at hj (by omega)
  rw [a1, b1, a2, b2]
  exact sorted_get hs _ _ hne
/-- a number more at one place -/
theorem Shape.add {R : List IE} {st : List SV} {f : List UInt8 → List UInt8 → List Int} (h : Shape R st f) (hs : Sorted st) {j : Nat} (hj : j < R.length) (q : Int) (v : Value) (S : List Nat) :
    Shape (R.set j { R[j] with ks := R[j].ks ++ [q], v := v, S := S }) st (fun x y => f x y ++ if R[j].a = x ∧ R[j].b = y then [q] else []) := by
  have hl := h.len
  unfold Shape
  apply List.ext_getElem?
  intro i
  simp only [List.getElem?_map]
  by_cases hi : i < st.length
  · have hiR : i < R.length := by omega
    obtain ⟨a1, b1, k1⟩ := h.at hiR hi
    rw [List.getElem?_eq_getElem hi, List.getElem?_eq_getElem (by simpa using hiR)]
    simp only [Option.map_some, Option.some.injEq, Prod.mk.injEq]
    by_cases hij : j = i
    · subst hij
      simp only [List.getElem_set_self]
      exact ⟨a1, b1, by rw [k1, if_pos ⟨a1, b1⟩]⟩
    · simp only [List.getElem_set_ne hij]
      refine ⟨a1, b1, ?_⟩
      rw [k1, if_neg]
      · simp
      · rintro ⟨e1, e2⟩
        exact h.uniq hs hj hiR hij ⟨e1.trans a1.symm, e2.trans b1.symm⟩
  · rw [List.getElem?_eq_none (by rw [List.length_set]; omega), List.getElem?_eq_none (by omega)]
    rfl
end Go.Q

/- A struct in a variable, of which some parts are slices of its own. -/
set_option linter.unusedVariables false
set_option linter.unusedSimpArgs false
namespace Go.Q
/-- a part of a struct is read -/
theorem ldF {w : World} {b j : Nat} {c : Array Value} {T : TypeId} {fr : Nat × Nat} {x : Value} (h : w.heap[b]? = some (.cells c T fr)) (hx : c[j]? = some x) {K : Value → Prop} : ld1 (.pointer (some ⟨b, j, none⟩)) w K = K x := by
  rw [ld1_p, rd1_mk, h]
  simp only [hx]
/-- a part of a struct is written -/
theorem stF {w : World} {b j : Nat} {c : Array Value} {T : TypeId} {x : Value} (h : w.heap[b]? = some (.cells c T (0, 0))) (hj : j < c.size) (hx : one x = true) {K : World → Prop} : st1 (.pointer (some ⟨b, j, none⟩)) x w K = K (setBlk w b (.cells (c.setIfInBounds j x) T)) := by
  rw [st1_p, wr1_mk, h]
  apply propext
  constructor
  · rintro ⟨_, _, hk⟩; exact hk
  · intro hk
    exact ⟨hx, ⟨hj, by rw [okFr0]; trivial⟩, hk⟩
structure Cmp where
  v : Value
  k : Nat
  rows : List (List Value)
  S : List Nat
def blksC (cs : List Cmp) : List Nat := (cs.map (·.S)).flatten
structure BoxAt (w : World) (x : Nat) (T : Nat) (cs : List Cmp) (tl : List Value) : Prop where
  cell : w.heap[x]? = some (.cells (cs.map (·.v) ++ tl).toArray T)
  rows : ∀ i (h : i < cs.length), RowsAt w cs[i].v cs[i].k cs[i].rows cs[i].S
  nd : (x :: blksC cs).Nodup
section
variable {w w' : World} {x T : Nat} {cs : List Cmp} {tl : List Value}
theorem blksC_mem {i : Nat} (hi : i < cs.length) {q : Nat} (hq : q ∈ cs[i].S) : q ∈ blksC cs := List.mem_flatten.2 ⟨_, List.mem_map.2 ⟨_, List.getElem_mem hi, rfl⟩, hq⟩
theorem blksC_set {i : Nat} {c : Cmp} {q : Nat} (h : q ∈ blksC (cs.set i c)) : q ∈ c.S ∨ ∃ j, ∃ hj : j < cs.length, j ≠ i ∧ q ∈ cs[j].S := by
  obtain ⟨r, hr, hq⟩ := List.mem_flatten.1 h
  obtain ⟨d, hd, rfl⟩ := List.mem_map.1 hr
  obtain ⟨j, hj, rfl⟩ := List.getElem_of_mem hd
  simp only [List.length_set] at hj
  by_cases he : i = j
  · subst he
    rw [List.getElem_set_self] at hq
    exact .inl hq
  · rw [List.getElem_set_ne he] at hq
    exact .inr ⟨j, hj, fun h => he h.symm, hq⟩
theorem nodup_flat {L : List (List Nat)} : L.flatten.Nodup ↔ (∀ l ∈ L, l.Nodup) ∧ L.Pairwise fun a b => ∀ x ∈ a, ∀ y ∈ b, x ≠ y := List.pairwise_flatten
theorem BoxAt.apart (h : BoxAt w x T cs tl) {i j : Nat} (hi : i < cs.length) (hj : j < cs.length) (hne : i ≠ j) {q : Nat} (hq : q ∈ cs[i].S) : q ∉ cs[j].S := by
  have h1 := (List.nodup_cons.1 h.nd).2
  have h2 := (nodup_flat.1 h1).2
  rw [List.pairwise_map] at h2
  intro hq'
  rcases Nat.lt_or_gt_of_ne hne with hlt | hlt
  · exact (List.pairwise_iff_getElem.1 h2 i j hi hj hlt) q hq q hq' rfl
  · exact (List.pairwise_iff_getElem.1 h2 j i hj hi hlt) q hq' q hq rfl
theorem BoxAt.x_not (h : BoxAt w x T cs tl) {i : Nat} (hi : i < cs.length) : x ∉ cs[i].S := fun hq => (List.nodup_cons.1 h.nd).1 (blksC_mem hi hq)
theorem BoxAt.lt (h : BoxAt w x T cs tl) : ∀ q ∈ x :: blksC cs, q < w.heap.size := by
  intro q hq
  rcases List.mem_cons.1 hq with rfl | hq
  · exact lt_of_blk h.cell
  · obtain ⟨r, hr, hq⟩ := List.mem_flatten.1 hq
    obtain ⟨d, hd, rfl⟩ := List.mem_map.1 hr
    obtain ⟨j, hj, rfl⟩ := List.getElem_of_mem hd
    exact (h.rows j hj).lt q hq
theorem BoxAt.keepS {S : List Nat} (h : BoxAt w x T cs tl) (hk : Kp S w w') (hS : ∀ q ∈ x :: blksC cs, q ∉ S) : BoxAt w' x T cs tl :=
  ⟨hk.get h.cell (hS x (by simp)), fun i hi => (h.rows i hi).keep hk fun q hq => hS q (by simp [blksC_mem hi hq]), h.nd⟩
theorem BoxAt.keep (h : BoxAt w x T cs tl) (hk : Kp [] w w') : BoxAt w' x T cs tl := h.keepS hk (by simp)
theorem BoxAt.rd (h : BoxAt w x T cs tl) {i : Nat} (hi : i < cs.length) {w1 : World} (hk : Kp cs[i].S w w1) {K : Value → Prop} : ld1 (.pointer (some ⟨x, i, none⟩)) w1 K = K cs[i].v := by
  have hc : ((cs.map (·.v) ++ tl).toArray)[i]? = some cs[i].v := by
    rw [List.getElem?_toArray, List.getElem?_append_left (by simpa using hi)]; simp [hi]
  rw [ld1_p, rd1_mk, hk.get h.cell (h.x_not hi)]
  simp only [hc]
/-- a part is another one -/
theorem BoxAt.store (h : BoxAt w x T cs tl) {i : Nat} (hi : i < cs.length) {w1 : World} (hk : Kp cs[i].S w w1) {v' : Value} {rows' : List (List Value)} {S' : List Nat} (hr : RowsAt w1 v' cs[i].k rows' S') (hS : ∀ q ∈ S', q ∈ cs[i].S ∨ w.heap.size ≤ q) {K : World → Prop}
    (hK : ∀ w2, BoxAt w2 x T (cs.set i ⟨v', cs[i].k, rows', S'⟩) tl → Kp (x :: cs[i].S) w w2 → Kp [x] w1 w2 → (∀ q ∈ blksC (cs.set i ⟨v', cs[i].k, rows', S'⟩), q ∈ blksC cs ∨ w.heap.size ≤ q) → K w2) : st1 (.pointer (some ⟨x, i, none⟩)) v' w1 K := by
  have hlt := h.lt
  have g1 := hk.get h.cell (h.x_not hi)
  have l1 := live_of g1
  have hone : one v' = true := by obtain ⟨a, c, hv, _⟩ := hr.len; rw [hv]; rfl
  have k1 : ∀ o, Kp [x] w1 (setBlk w1 x o) := fun o => (Kp.refl _ _).setBlk (.inl (by simp)) o
  have k2 : ∀ o, Kp (x :: cs[i].S) w (setBlk w1 x o) := fun o => (hk.mono (fun q hq _ => by simp [hq])).setBlk (.inl (by simp)) o
  have hx' : x ∉ S' := fun hh => by
    rcases hS x hh with hh | hh
    · exact h.x_not hi hh
    · have := hlt x (by simp); omega
  have hnot : ∀ j (hj : j < cs.length), j ≠ i → ∀ q ∈ cs[j].S, q ∉ x :: cs[i].S := fun j hj hne q hq hh => by
    rcases List.mem_cons.1 hh with rfl | hh
    · exact h.x_not hj hq
    · exact h.apart hj hi hne hq hh
  have hdis : ∀ j (hj : j < cs.length), j ≠ i → ∀ q ∈ cs[j].S, q ∉ S' := fun j hj hne q hq hh => by
    rcases hS q hh with hh | hh
    · exact h.apart hj hi hne hq hh
    · have := hlt q (by simp [blksC_mem hj hq]); omega
  have hin : ∀ q ∈ blksC (cs.set i ⟨v', cs[i].k, rows', S'⟩), q ∈ S' ∨ q ∈ blksC cs := fun q hq => by
    rcases blksC_set hq with hq | ⟨j, hj, _, hq⟩
    · exact .inl hq
    · exact .inr (blksC_mem hj hq)
  rw [st1_p, wr1_mk, g1]
  refine ⟨hone, ⟨by simp; omega, by rw [okFr0]; trivial⟩, ?_⟩
  have hc : (cs.map (·.v) ++ tl).toArray.setIfInBounds i v' = ((cs.set i ⟨v', cs[i].k, rows', S'⟩).map (·.v) ++ tl).toArray := by
    rw [List.map_set]
    simp [List.set_append_left, hi]
  rw [hc]
  refine hK _ ⟨heap_self l1, fun j hj => ?_, ?_⟩ (k2 _) (k1 _) fun q hq => ?_
  · simp only [List.length_set] at hj
    by_cases he : i = j
    · subst he; rw [List.getElem_set_self]; exact hr.keep (k1 _) fun q hq => by simp; intro e; exact hx' (e ▸ hq)
    · rw [List.getElem_set_ne he]
      exact (h.rows j hj).keep (k2 _) fun q hq => hnot j hj (fun e => he e.symm) q hq
  · refine List.nodup_cons.2 ⟨fun hq => ?_, ?_⟩
    · rcases hin x hq with hq | hq
      · exact hx' hq
      · exact (List.nodup_cons.1 h.nd).1 hq
    · have h1 := (List.nodup_cons.1 h.nd).2
      obtain ⟨h2, h3⟩ := nodup_flat.1 h1
      refine nodup_flat.2 ⟨fun r hr' => ?_, ?_⟩
      · obtain ⟨d, hd, rfl⟩ := List.mem_map.1 hr'
        rcases List.mem_or_eq_of_mem_set hd with hd | rfl
        · exact h2 _ (List.mem_map.2 ⟨d, hd, rfl⟩)
        · exact hr.nodup
      · rw [List.pairwise_map] at h3 ⊢
        rw [List.pairwise_iff_getElem] at h3 ⊢
        intro a b ha hb hab
        simp only [List.length_set] at ha hb
        by_cases ea : i = a
        · subst ea
          rw [List.getElem_set_self, List.getElem_set_ne (by omega)]
          exact fun q hq q' hq' he => hdis b hb (by omega) q (he ▸ hq') hq
        · by_cases eb : i = b
          · subst eb
            rw [List.getElem_set_self, List.getElem_set_ne ea]
            exact fun q hq q' hq' he => hdis a ha (by omega) q hq (he ▸ hq')
          · rw [List.getElem_set_ne ea, List.getElem_set_ne eb]
            exact h3 a b ha hb hab
  · rcases hin q hq with hq | hq
    · rcases hS q hq with hq | hq
      · exact .inl (blksC_mem hi hq)
      · exact .inr hq
    · exact .inl hq
end
end Go.Q

/- '==' of structs whose fields are numbers, texts, bools, and structs of such: one Bool. -/
set_option linter.unusedVariables false
set_option linter.unusedSimpArgs false
namespace Go.Q
variable {P : Program}
end Go.Q

/- Plain: sums of texts; a value's number. -/
set_option linter.unusedVariables false
set_option linter.unusedSimpArgs false
namespace Go.Q
end Go.Q

/- Plain, layer 10: numbers by values, in buckets. -/
set_option linter.unusedVariables false
set_option linter.unusedSimpArgs false
namespace Go.Q
structure E where
  v : V3
  n : Int
  deriving DecidableEq
def eC (e : E) : List Value := valV e.v ++ [.int .i64 e.n]
/-! ### put, taken out, put anew -/
/-! ### rising -/
end Go.Q

/- Variables that hold a struct; copies; one row taken out; indexes as values. -/
set_option linter.unusedVariables false
set_option linter.unusedSimpArgs false
namespace Go.Q
variable {P : Program}
theorem argB {cs : Array Value} {T : TypeId} {w : World} {K : Value → World → Prop} (h : ∀ b w1, w.heap.size ≤ b → w1.heap[b]? = some (.cells cs T) → Kp [] w w1 → K (.pointer (some ⟨b, 0, none⟩)) w1) :
    newG (Value.cells (.agg cs)) T w K := h _ _ (Nat.le_refl _) heap_new kp_alloc
theorem newB {cs : Array Value} {T : TypeId} {w : World} {K : Value → World → Prop} (h : ∀ b w1, w.heap.size ≤ b → w1.heap[b]? = some (.cells cs T) → Kp [] w w1 → K (.pointer (some ⟨b, 0, none⟩)) w1) :
    newG cs T w K := h _ _ (Nat.le_refl _) heap_new kp_alloc
theorem ldA {b k : Nat} {c : Array Value} {T : TypeId} {fr : Nat × Nat} {w : World} (h : w.heap[b]? = some (.cells c T fr)) (hc : c.size = k) {K : Value → Prop} : ldn k (.pointer (some ⟨b, 0, none⟩)) w K = K (.agg c) := by
  rw [ldn_p, rdN_mk, h]
  subst hc
  simp
/-- a part that is a struct is read -/
theorem ldP {b o k : Nat} {c : Array Value} {T : TypeId} {fr : Nat × Nat} {w : World} (h : w.heap[b]? = some (.cells c T fr)) {p : Array Value} (hp : c.extract o (o + k) = p) (hs : o + k ≤ c.size) {K : Value → Prop} : ldn k (.pointer (some ⟨b, o, none⟩)) w K = K (.agg p) := by
  rw [ldn_p, rdN_mk, h]
  simp only [hp, hs, true_and]
theorem stA {b k : Nat} {old c : Array Value} {T : TypeId} {w : World} (h : w.heap[b]? = some (.cells old T)) (ho : old.size = k) (hc : c.size = k) (hone : c.all one = true) {K : World → Prop} :
    stn k (.pointer (some ⟨b, 0, none⟩)) (.agg c) w K = K (setBlk w b (.cells c T)) := by
  rw [stn_p, wrN_mk, h]
  have hsp : splice old 0 c = c := splice_all (by rw [ho, hc])
  apply propext
  constructor
  · rintro ⟨_, _, hk⟩
    rw [hsp] at hk
    exact hk
  · intro hk
    refine ⟨hc, ⟨by omega, by rw [okFr0]; trivial, hone⟩, ?_⟩
    rw [hsp]; exact hk
/-- a result's variable is written and read -/
theorem retB {T T' : TypeId} {n z : Nat} {old c : Array Value} {w : World} (ha : aggO P T = some true) (hn : szO P T = some n) (h : w.heap[z]? = some (.cells old T')) (ho : old.size = n) (hc : c.size = n) (hone : c.all one = true) {R : Value → World → Prop}
    (hR : ∀ w', Kp [z] w w' → R (.agg c) w') : stn n (.pointer (some ⟨z, 0, none⟩)) (.agg c) w fun w => qG P (do loadVar T (← asAddr (.pointer (some ⟨z, 0, none⟩)))) w fun r => R r w := by
  rw [stA h ho hc hone, loadVar_of ha hn (heap_self (live_of h)) hc]
  exact hR _ ((Kp.refl _ w).setBlk (.inl (by simp)) _)
theorem rd_none2 {w : World} {k l c : Nat} {rows : List (List Value)} (h : Rd w (.slice none l c) k rows) : rows = [] := by
  obtain ⟨S, ⟨a, cap, h1, h2⟩ | h⟩ := h
  · exact h2
  · rcases h with ⟨_, h2⟩ | ⟨bl, o, cap, c, T, fr, h1, _⟩
    · exact h2
    · cases h1
/-- slices.Clone -/
theorem clone_gen {T e k bytes : Nat} {z : List Value} {xo yo : Operand} {w : World} {v : Value} {rows : List (List Value)} (hT : isSl P T = true) (hz : zc P e = z.toArray) (hzk : z.length = k) (hk : 0 < k) (h : Rd w v k rows) (hone : rows.flatten.all one = true)
    (hb : 2 * rows.length * bytes ≤ 2 ^ 48) (hl : rows.length < 2 ^ 62) {K : Value → World → Prop} (hK : ∀ v' w', Fr w w' v' k rows → K v' w') :
    qG P (bq .eql T xo yo v (.slice none 0 0)) w fun t4 => bV t4 (K (.slice none 0 0) w) (bsl e k 0 (zc P e) #[] w fun t5 w => app e k bytes (zc P e) t5 v w fun t7 w => K t7 w) := by
  obtain ⟨sa, sc, hv⟩ := h.slice
  have hnil : sa = none → rows = [] := by
    intro h0
    subst h0
    rw [hv] at h
    exact rd_none2 h
  rw [hv, bq_sleql _ _ _ _ _ hT]
  simp only [bV_b]
  refine ⟨fun h0 => ?_, fun h0 => ?_⟩
  · have : rows = [] := hnil (by simpa using h0)
    subst this
    exact hK _ w (fr_nil (Kp.refl _ _))
  · have hb : ∀ K : Value → World → Prop, bsl e k 0 (zc P e) #[] w K = K (.slice (some ⟨w.heap.size, 0, none⟩) 0 0) (w.alloc (.cells #[] e)) := by
      intro K
      have hr : rep (zc P e) (0 * k) = #[] := by simp [rep]
      unfold bsl
      rw [hr]
      rfl
    rw [hb]
    obtain ⟨w1, hw1⟩ : ∃ w1, w1 = w.alloc (.cells #[] e) := ⟨_, rfl⟩
    have hk1 : Kp [] w w1 := by rw [hw1]; exact (Kp.refl [] w).alloc _
    have hb1 : w1.heap[w.heap.size]? = some (.cells #[] e) := by rw [hw1]; exact heap_new
    rw [← hw1, ← hv]
    have h1 : Fr w w1 (.slice (some ⟨w.heap.size, 0, none⟩) 0 0) k [] := ⟨⟨[w.heap.size], .inr ⟨_, [], _, rfl, rfl, hb1, by simp, rfl, by simp⟩, by simp⟩, hk1⟩
    have hs := h.keep hk1
    rw [hz]
    exact fr_app (G := rows) h1 hk hzk (fun y hy => hs.row hy) hone (fun K' hK' => hs.src K' hK') (by simpa using ‹2 * rows.length * bytes ≤ 2 ^ 48›) (by simpa using hl) fun v2 w2 h2 => hK v2 w2 (by simpa using h2)
end Go.Q

/- Layer 22: values are compared, by the program and by the document. -/
set_option maxRecDepth 100000
set_option linter.unusedVariables false
set_option linter.unusedSimpArgs false
namespace Go.Proofs
open Go Go.Q
theorem sLt_lex (a b : List UInt8) : sLt (str a) (str b) = lexL a b := by
  unfold sLt lexL
  rw [ByteArray.toList_eq, ByteArray.toList_eq]
  rfl
def valA (v : V3) : Value := .agg (valV v).toArray
theorem isNaN_spec {w : World} (x : Int) {K : Value → World → Prop} (hK : K (.bool false) w) : callG Try.prog 48 #[.int .i64 x] w K := by
  refine cmp_isNaN_int_call ?_
  unfold cmp_isNaN_int cmp_isNaN_int_s0
  simpa using hK
theorem cmpInt_spec {w : World} (x y : Int) {K : Value → World → Prop} (hK : K (.int .i64 (cmpI x y)) w) : callG Try.prog 39 #[.int .i64 x, .int .i64 y] w K := by
  refine cmp_Compare_int_call ?_
  unfold cmp_Compare_int cmp_Compare_int_s0
  refine isNaN_spec x ?_
  refine isNaN_spec y ?_
  unfold cmpI at hK
  simp only [bV_b, bq_lss, bq_gtr, decide_eq_true_eq, decide_eq_false_iff_not]
  refine ⟨fun h => (by cases h), fun _ => ⟨fun h => (by cases h), fun _ => ⟨fun h => ?_, fun h => ⟨fun h2 => ?_, fun h2 => ?_⟩⟩⟩⟩
  · rw [if_pos h] at hK; exact hK
  · rw [if_neg h, if_pos h2] at hK; exact hK
  · rw [if_neg h, if_neg h2] at hK; exact hK
theorem sCompare_spec {w : World} (a b : List UInt8) {K : Value → World → Prop} (hK : K (.int .i64 (cmpL a b)) w) : callG Try.prog 40 #[.string (str a), .string (str b)] w K := by
  refine strings_Compare_call ?_
  unfold strings_Compare strings_Compare_s0
  refine internal_bytealg_CompareString_call ?_
  unfold internal_bytealg_CompareString internal_bytealg_CompareString_s0
  exact nG_cmp Try.func60 (by kernel_rfl) (by kernel_rfl) (by kernel_rfl) (by kernel_rfl) a b hK
def firstI : List Int → Int
  | [] => 0
  | x :: r => if x ≠ 0 then x else firstI r
theorem firstI_at : ∀ {l : List Int} {i : Nat} (h : i < l.length), (∀ j (hj : j < l.length), j < i → l[j] = 0) → l[i] ≠ 0 → firstI l = l[i] := by
  intro l
  induction l with
  | nil => intro i h; simp at h
  | cons x r ih =>
    intro i h h1 h2
    cases i with
    | zero => simp only [List.getElem_cons_zero] at h2 ⊢; unfold firstI; rw [if_pos h2]
    | succ i =>
      have h0 := h1 0 (by simp) (by omega)
      simp only [List.getElem_cons_zero] at h0
      unfold firstI
      rw [if_neg (by simp [h0])]
      simp only [List.getElem_cons_succ] at h2 ⊢
      exact ih (by simpa using h) (fun j hj hji => by have := h1 (j + 1) (by simpa using hj) (by omega); simpa using this) h2
theorem firstI_none : ∀ {l : List Int}, (∀ j (hj : j < l.length), l[j] = 0) → firstI l = 0 := by
  intro l
  induction l with
  | nil => intro _; rfl
  | cons x r ih =>
    intro h
    have h0 := h 0 (by simp)
    simp only [List.getElem_cons_zero] at h0
    unfold firstI
    rw [if_neg (by simp [h0])]
    exact ih fun j hj => by have := h (j + 1) (by simpa using hj); simpa using this
theorem orI_spec {w : World} {v : Value} {l : List Int} (hr : Rd w v 1 (l.map intV)) (hl : l.length < 2 ^ 40) {K : Value → World → Prop} (hK : K (.int .i64 (firstI l)) w) : callG Try.prog 38 #[v] w K := by
  refine cmp_Or_int_call ?_
  unfold cmp_Or_int cmp_Or_int_s4 cmp_Or_int_s3 cmp_Or_int_L2
  rw [hr.lenL, List.length_map]
  refine loop_inv (fun m xs wi => ∃ i : Nat, i ≤ l.length ∧ m = l.length - i ∧ xs = [.int .i64 0, v, .int .i64 l.length, .int .i64 (i : Nat)] ∧ wi = w ∧ ∀ j (hj : j < l.length), j < i → l[j] = 0) ?_ (m := l.length) ⟨0, by omega, rfl, rfl, rfl, fun j _ h => by omega⟩
  rintro m N xs wi ⟨i, hi, rfl, rfl, rfl, hz⟩ hN
  have hiw : IntKind.i64.wrap ((i : Int) + 1) = ((i + 1 : Nat) : Int) := by rw [w64 (by omega) (by omega)]; simp
  unfold cmp_Or_int_L2F cmp_Or_int_b1
  dsimp only
  simp only [bq_lss, bV_b, decide_eq_true_eq, decide_eq_false_iff_not]
  refine ⟨fun hlt => ?_, fun hge => ?_⟩
  · have hlt : i < l.length := by omega
    obtain ⟨p, p1, p2⟩ := hr.one (i := i) (by simpa using hlt) (x := .int .i64 l[i]) (by simp [intV])
    rw [p1, p2]
    simp only [bq_neq, bV_b, decide_eq_true_eq, decide_eq_false_iff_not, bq_add, hiw]
    refine ⟨fun h => ?_, fun h => ?_⟩
    · rw [← firstI_at hlt hz h]; exact hK
    · refine hN (l.length - (i + 1)) _ _ (by omega) ⟨i + 1, by omega, rfl, rfl, rfl, fun j hj hji => ?_⟩
      by_cases e : j = i
      · subst e; simpa using h
      · exact hz j hj (by omega)
  · unfold cmp_Or_int_s0
    have : firstI l = 0 := firstI_none fun j hj => hz j hj (by omega)
    rw [this] at hK
    exact hK
theorem bsl_rowsX {e n len : Nat} {z : Array Value} {xs : List Value} {rows : List (List Value)} (hn : 0 < n) (hl : xs.length = len) (hc : xs.map Value.cells = rows.map List.toArray) (hr : ∀ y ∈ rows, y.length = n) (hpos : 0 < len) {w : World} {K : Value → World → Prop}
    (hK : ∀ v' o, Fr w (w.alloc o) v' n rows → K v' (w.alloc o)) : bsl e n len z (partsFrom 0 xs).toArray w K := by
  have hlen : rows.length = len := by have := congrArg List.length hc; simp at this; omega
  have hf := fill_rows hn xs rows 0 (rep z (len * n)) hc hr (by rw [rep_size, hl, Nat.zero_add])
  simp only [Nat.zero_mul, List.take_zero, List.nil_append] at hf
  unfold bsl
  have hf' : Instr.fill (fun i => some (i * n, n)) (rep z (len * n)) (partsFrom 0 xs).toArray.toList = some rows.flatten.toArray := hf
  rw [hf']
  refine hK _ _ ⟨⟨[w.heap.size], .inr ⟨w.heap.size, rows, e, by rw [hlen], rfl, heap_new, hr, List.take_length, Nat.le_refl _⟩, by simp⟩, kp_alloc⟩
theorem cmpV_first (a b : V3) : firstI [cmpI a.k b.k, cmpI a.n b.n, cmpL a.s b.s] = cmpV a b := by
  unfold cmpV firstI firstI firstI firstI
  by_cases h1 : cmpI a.k b.k ≠ 0
  · rw [if_pos h1, if_pos h1]
  · rw [if_neg h1, if_neg h1]
    by_cases h2 : cmpI a.n b.n ≠ 0
    · rw [if_pos h2, if_pos h2]
    · rw [if_neg h2, if_neg h2]
      by_cases h3 : cmpL a.s b.s ≠ 0
      · rw [if_pos h3]
      · rw [if_neg h3]; exact (Decidable.of_not_not h3).symm
theorem vCompare_spec {w : World} (a b : V3) {K : Value → World → Prop} (hK : ∀ w', Gw w w' → Kp [] w w' → K (.int .i64 (cmpV a b)) w') : callG Try.prog 25 #[valA a, valA b] w K := by
  refine value_Compare_call ?_
  unfold value_Compare value_Compare_s0 valA
  simp only [cells_agg, newG_k]
  obtain ⟨p, hp⟩ : ∃ p, p = w.heap.size := ⟨_, rfl⟩
  obtain ⟨w1, hw1⟩ : ∃ w1, w1 = w.alloc (.cells (valV a).toArray 35) := ⟨_, rfl⟩
  have k1 : Kp [] w w1 := by rw [hw1]; exact kp_alloc
  have g1 : Gw w w1 := by rw [hw1]; exact (Gw.refl w).alloc _
  have h1 : w1.heap[p]? = some (.cells (valV a).toArray 35) := by rw [hw1, hp]; exact heap_new
  rw [← hw1, ← hp]
  obtain ⟨q, hq⟩ : ∃ q, q = w1.heap.size := ⟨_, rfl⟩
  obtain ⟨w2, hw2⟩ : ∃ w2, w2 = w1.alloc (.cells (valV b).toArray 35) := ⟨_, rfl⟩
  have k2 : Kp [] w1 w2 := by rw [hw2]; exact kp_alloc
  have g2 : Gw w w2 := by rw [hw2]; exact g1.alloc _
  have h2 : w2.heap[q]? = some (.cells (valV b).toArray 35) := by rw [hw2, hq]; exact heap_new
  have h12 := k2.get h1 (by simp)
  rw [← hw2, ← hq]
  have a0 : ∀ K : Value → Prop, ld1 (.pointer (some ⟨p, 0 + 0, none⟩)) w2.drew K = K (.int .i64 a.k) := fun K => ldF (x := .int .i64 a.k) (w := w2.drew) h12 rfl
  have a1 : ∀ K : Value → Prop, ld1 (.pointer (some ⟨p, 0 + 1, none⟩)) w2.drew K = K (.int .i64 a.n) := fun K => ldF (x := .int .i64 a.n) (w := w2.drew) h12 rfl
  have a2 : ∀ K : Value → Prop, ld1 (.pointer (some ⟨p, 0 + 2, none⟩)) w2.drew K = K (.string (str a.s)) := fun K => ldF (x := .string (str a.s)) (w := w2.drew) h12 rfl
  have b0 : ∀ K : Value → Prop, ld1 (.pointer (some ⟨q, 0 + 0, none⟩)) w2.drew K = K (.int .i64 b.k) := fun K => ldF (x := .int .i64 b.k) (w := w2.drew) h2 rfl
  have b1 : ∀ K : Value → Prop, ld1 (.pointer (some ⟨q, 0 + 1, none⟩)) w2.drew K = K (.int .i64 b.n) := fun K => ldF (x := .int .i64 b.n) (w := w2.drew) h2 rfl
  have b2 : ∀ K : Value → Prop, ld1 (.pointer (some ⟨q, 0 + 2, none⟩)) w2.drew K = K (.string (str b.s)) := fun K => ldF (x := .string (str b.s)) (w := w2.drew) h2 rfl
  rw [fa_p, a0, fa_p, b0, fa_p, a1, fa_p, b1, fa_p, a2, fa_p, b2]
  refine cmpInt_spec a.k b.k ?_
  rw [b2, a2, b1, a1]
  refine ⟨rfl, rfl, rfl, rfl, ?_⟩
  refine cmpInt_spec a.n b.n ?_
  rw [b2, a2]
  refine ⟨rfl, rfl, ?_⟩
  refine sCompare_spec a.s b.s ?_
  refine bsl_rowsX (n := 1) (len := 3) (xs := [.int .i64 (cmpI a.k b.k), .int .i64 (cmpI a.n b.n), .int .i64 (cmpL a.s b.s)]) (rows := [cmpI a.k b.k, cmpI a.n b.n, cmpL a.s b.s].map intV) (by omega) rfl rfl (by simp [intV]) (by omega) fun t o hf => ?_
  refine orI_spec hf.rd (by simp) ?_
  rw [cmpV_first]
  exact hK _ (g2.drew.alloc _) (((k1.trans' k2).drew).trans' hf.kp)
theorem less_spec {w : World} (a b : V3) {K : Value → World → Prop} (hK : ∀ w', Kp [] w w' → K (.bool (decide (ltV a b))) w') : callG Try.prog 32 #[valA a, valA b] w K := by
  refine ref05_less_call ?_
  unfold ref05_less ref05_less_s0 valA
  refine argB fun p w1 hp h1 k1 => ?_
  refine argB fun q w2 hq h2 k2 => ?_
  have h12 := k2.get h1 (by simp)
  have k02 := k1.trans' k2
  have hK := hK w2 k02
  have a0 : ∀ K : Value → Prop, ld1 (.pointer (some ⟨p, 0 + 0, none⟩)) w2 K = K (.int .i64 a.k) := fun K => ldF (x := .int .i64 a.k) h12 rfl
  have a1 : ∀ K : Value → Prop, ld1 (.pointer (some ⟨p, 0 + 1, none⟩)) w2 K = K (.int .i64 a.n) := fun K => ldF (x := .int .i64 a.n) h12 rfl
  have a2 : ∀ K : Value → Prop, ld1 (.pointer (some ⟨p, 0 + 2, none⟩)) w2 K = K (.string (str a.s)) := fun K => ldF (x := .string (str a.s)) h12 rfl
  have b0 : ∀ K : Value → Prop, ld1 (.pointer (some ⟨q, 0 + 0, none⟩)) w2 K = K (.int .i64 b.k) := fun K => ldF (x := .int .i64 b.k) h2 rfl
  have b1 : ∀ K : Value → Prop, ld1 (.pointer (some ⟨q, 0 + 1, none⟩)) w2 K = K (.int .i64 b.n) := fun K => ldF (x := .int .i64 b.n) h2 rfl
  have b2 : ∀ K : Value → Prop, ld1 (.pointer (some ⟨q, 0 + 2, none⟩)) w2 K = K (.string (str b.s)) := fun K => ldF (x := .string (str b.s)) h2 rfl
  rw [fa_p, a0, fa_p, b0]
  simp only [bq_neq, bV_b, decide_eq_true_eq, decide_eq_false_iff_not]
  refine ⟨fun hk => ?_, fun hk => ?_⟩
  · rw [fa_p, a0, fa_p, b0]
    simp only [bq_lss]
    have e : ltV a b = (a.k < b.k) := propext ⟨fun h => h.elim id fun h => absurd h.1 hk, fun h => .inl h⟩
    simp only [e] at hK
    exact hK
  · have hk : a.k = b.k := by simpa using hk
    rw [fa_p, a1, fa_p, b1]
    simp only [bq_neq, bV_b, decide_eq_true_eq, decide_eq_false_iff_not]
    refine ⟨fun hn => ?_, fun hn => ?_⟩
    · rw [fa_p, a1, fa_p, b1]
      simp only [bq_lss]
      have e : ltV a b = (a.n < b.n) := propext ⟨fun h => h.elim (fun h => absurd h (by omega)) fun h => h.2.elim id fun h => absurd h.1 hn, fun h => .inr ⟨hk, .inl h⟩⟩
      simp only [e] at hK
      exact hK
    · have hn : a.n = b.n := by simpa using hn
      rw [fa_p, a2, fa_p, b2]
      simp only [bq_slss]
      have e : ltV a b = (lexL a.s b.s = true) := propext ⟨fun h => h.elim (fun h => absurd h (by omega)) fun h => h.2.elim (fun h => absurd h (by omega)) fun h => h.2, fun h => .inr ⟨hk, .inr ⟨hn, h⟩⟩⟩
      simp only [e] at hK
      have e2 : sLt (str a.s) (str b.s) = decide (lexL a.s b.s = true) := by
        rw [sLt_lex]
        cases lexL a.s b.s <;> rfl
      rw [e2]
      exact hK
theorem dCompare_spec {w : World} (a b : V3) {K : Value → World → Prop} (hK : ∀ w', Kp [] w w' → K (.int .i64 (cmpV a b)) w') : callG Try.prog 16 #[valA a, valA b] w K := by
  refine ref05_Compare_call ?_
  unfold ref05_Compare ref05_Compare_s0
  have e0 : ∀ (v : V3) (w : World) (k : Value → World → Prop), newG (Value.cells (valA v)) 35 w k = newG (Value.cells (.agg (valV v).toArray)) 35 w k := fun _ _ _ => rfl
  rw [e0]
  refine argB fun p w1 hp h1 k1 => ?_
  rw [e0]
  refine argB fun q w2 hq h2 k2 => ?_
  have h12 := k2.get h1 (by simp)
  have k02 := k1.trans' k2
  have ra : ∀ w', Kp [] w2 w' → ∀ K : Value → Prop, ldn 3 (.pointer (some ⟨p, 0, none⟩)) w' K = K (valA a) := fun w' hk' K => ldA (hk'.get h12 (by simp)) rfl
  have rb : ∀ w', Kp [] w2 w' → ∀ K : Value → Prop, ldn 3 (.pointer (some ⟨q, 0, none⟩)) w' K = K (valA b) := fun w' hk' K => ldA (hk'.get h2 (by simp)) rfl
  rw [ra _ (Kp.refl _ _), rb _ (Kp.refl _ _)]
  rw [cmpV_eq] at hK
  refine less_spec a b fun w3 k3 => ?_
  simp only [bV_b, decide_eq_true_eq, decide_eq_false_iff_not]
  refine ⟨fun h => ?_, fun h => ?_⟩
  · rw [if_pos h] at hK
    exact hK w3 (k02.trans' k3)
  · rw [if_neg h] at hK
    rw [rb _ k3, ra _ k3]
    refine less_spec b a fun w4 k4 => ?_
    simp only [bV_b, decide_eq_true_eq, decide_eq_false_iff_not]
    have k04 := (k02.trans' k3).trans' k4
    refine ⟨fun h2 => ?_, fun h2 => ?_⟩
    · rw [if_pos h2] at hK; exact hK w4 k04
    · rw [if_neg h2] at hK; exact hK w4 k04
end Go.Proofs

/- Layer 22: values are put in order. -/
set_option maxRecDepth 100000
set_option linter.unusedVariables false
set_option linter.unusedSimpArgs false
namespace Go.Proofs
open Go Go.Q
def Try.sortVal_ren : Go.Shelf.Ren := ⟨fun | 6 => 34 | 15 => 47 | 14 => 46 | 28 => 58 | 29 => 59 | 20 => 50 | 21 => 51 | 22 => 52 | 23 => 53 | 24 => 54 | 25 => 55 | 26 => 56 | 27 => 57 | 46 => 61 | 47 => 62 | 48 => 63 | 49 => 64 | 50 => 65 | 57 => 66 | n => n, fun | 22 => 30 | 24 => 35 | 25 => 43 | 3 => 3 | 39 => 78 | 0 => 0 | 53 => 90 | 55 => 92 | 4 => 4 | 46 => 83 | 45 => 82 | 50 => 87 | 5 => 5 | 9 => 9 | 66 => 93 | 70 => 97 | 76 => 99 | 77 => 100 | n => n, fun | n => n⟩
theorem Try.sortVal : Go.Proofs.SlLaysF0.n6 Try.prog Try.sortVal_ren where
  mixed := by kernel_rfl
  f6 := ⟨Try.f34.name, by decide, Try.func34.trans (congrArg some (by kernel_rfl))⟩
  f14 := ⟨Try.f46.name, by decide, Try.func46.trans (congrArg some (by kernel_rfl))⟩
  f15 := Try.func47.trans (congrArg some (by kernel_rfl))
  f20 := ⟨Try.f50.name, by decide, Try.func50.trans (congrArg some (by kernel_rfl))⟩
  f21 := ⟨Try.f51.name, by decide, Try.func51.trans (congrArg some (by kernel_rfl))⟩
  f22 := ⟨Try.f52.name, by decide, Try.func52.trans (congrArg some (by kernel_rfl))⟩
  f23 := ⟨Try.f53.name, by decide, Try.func53.trans (congrArg some (by kernel_rfl))⟩
  f24 := ⟨Try.f54.name, by decide, Try.func54.trans (congrArg some (by kernel_rfl))⟩
  f25 := ⟨Try.f55.name, by decide, Try.func55.trans (congrArg some (by kernel_rfl))⟩
  f26 := ⟨Try.f56.name, by decide, Try.func56.trans (congrArg some (by kernel_rfl))⟩
  f27 := ⟨Try.f57.name, by decide, Try.func57.trans (congrArg some (by kernel_rfl))⟩
  f28 := Try.func58.trans (congrArg some (by kernel_rfl))
  f29 := Try.func59.trans (congrArg some (by kernel_rfl))
  f46 := ⟨Try.f61.name, by decide, Try.func61.trans (congrArg some (by kernel_rfl))⟩
  f47 := Try.func62.trans (congrArg some (by kernel_rfl))
  f48 := Try.func63.trans (congrArg some (by kernel_rfl))
  f49 := ⟨Try.f64.name, by decide, Try.func64.trans (congrArg some (by kernel_rfl))⟩
  f50 := ⟨Try.f65.name, by decide, Try.func65.trans (congrArg some (by kernel_rfl))⟩
  f57 := ⟨Try.f66.name, by decide, Try.func66.trans (congrArg some (by kernel_rfl))⟩
  t0 := Try.underlying0
  a0 := Try.isAgg0
  z0 := Try.sizeOf0
  v0 := Try.zeroValue0
  t3 := Try.underlying3
  a3 := Try.isAgg3
  z3 := Try.sizeOf3
  v3 := Try.zeroValue3
  t4 := Try.underlying4
  a4 := Try.isAgg4
  z4 := Try.sizeOf4
  v4 := Try.zeroValue4
  t5 := Try.underlying5
  a5 := Try.isAgg5
  z5 := Try.sizeOf5
  v5 := Try.zeroValue5
  t9 := Try.underlying9
  a9 := Try.isAgg9
  z9 := Try.sizeOf9
  v9 := Try.zeroValue9
  t22 := Try.underlying30
  a22 := Try.isAgg30
  z22 := Try.sizeOf30
  v22 := Try.zeroValue30
  t25 := Try.underlying43
  a25 := Try.isAgg43
  z25 := Try.sizeOf43
  v25 := Try.zeroValue43
  t39 := Try.underlying78
  a39 := Try.isAgg78
  z39 := Try.sizeOf78
  v39 := Try.zeroValue78
  t45 := Try.underlying82
  a45 := Try.isAgg82
  z45 := Try.sizeOf82
  v45 := Try.zeroValue82
  t46 := Try.underlying83
  a46 := Try.isAgg83
  z46 := Try.sizeOf83
  v46 := Try.zeroValue83
  t50 := Try.underlying87
  a50 := Try.isAgg87
  z50 := Try.sizeOf87
  v50 := Try.zeroValue87
  t53 := Try.underlying90
  a53 := Try.isAgg90
  z53 := Try.sizeOf90
  v53 := Try.zeroValue90
  t55 := Try.underlying92
  a55 := Try.isAgg92
  z55 := Try.sizeOf92
  v55 := Try.zeroValue92
  t66 := Try.underlying93
  a66 := Try.isAgg93
  z66 := Try.sizeOf93
  v66 := Try.zeroValue93
  t70 := Try.underlying97
  a70 := Try.isAgg97
  z70 := Try.sizeOf97
  v70 := Try.zeroValue97
  t76 := Try.underlying99
  a76 := Try.isAgg99
  z76 := Try.sizeOf99
  v76 := Try.zeroValue99
  t77 := Try.underlying100
  a77 := Try.isAgg100
  z77 := Try.sizeOf100
  v77 := Try.zeroValue100
instance : Inhabited V3 := ⟨⟨0, 0, []⟩⟩
theorem ltOfV (x y : V3) : ltOf cmpV x y = decide (ltV x y) := by
  unfold ltOf
  by_cases h : ltV x y
  · rw [decide_eq_true h, decide_eq_true (cmpV_lt.2 h)]
  · rw [decide_eq_false h, decide_eq_false fun hh => h (cmpV_lt.1 hh)]
theorem swoV : Go.Sort.SWO (ltOf cmpV) where
  irrefl x := by rw [ltOfV, decide_eq_false (ltV_irrefl x)]
  trans x y z h1 h2 := by
    rw [ltOfV, decide_eq_true_eq] at *
    exact ltV_trans h1 h2
  ntrans x y z h1 h2 := by
    rw [ltOfV, decide_eq_false_iff_not] at *
    exact leV_trans (a := z) (b := y) (c := x) h2 h1
theorem cmpLaysV (blk off size : Nat) (w : World) : CmpLays Try.prog 25 #[] valV 3 cmpV blk off size w := by
  intro m os dk hs x y
  have := vCompare_spec (w := sortWorldK valV 3 w blk off m dk os) x y (K := fun v w' => v = .int .i64 (cmpV x y) ∧ Gw (sortWorldK valV 3 w blk off m dk os) w') fun w' h _ => ⟨rfl, h⟩
  refine Calls.mono (show Calls _ _ _ _ _ from this) ?_
  rintro e w' ⟨v, rfl, rfl, q, os', rfl⟩
  exact ⟨rfl, q, os', rfl⟩
theorem SortV_spec {w0 w : World} {v : Value} {l : List V3} (h : Fr w0 w v 3 (l.map valV)) (hl : l.length < 2 ^ 60) {K : Value → World → Prop} (hK : ∀ w', Fr w0 w' v 3 ((sortV l).map valV) → K (.tuple #[]) w') :
    callG Try.prog 34 #[v, .func (.func 25) #[] #[]] w K := by
  have hkp := h.kp
  obtain ⟨S, hr, hS⟩ := h.ex
  have hk3 : ∀ x : V3, (valV x).length = 3 := fun _ => rfl
  rcases hr with ⟨h1, h2, h3⟩ | ⟨bl, F, T, h1, h2, h3, h4, h5, h6⟩
  · have hl0 : l = [] := by simpa using h2
    subst hl0; subst h1
    have hcon := AnyF.slices_SortFunc_none { Try.sortVal with } none 0 (.func (.func 25) #[] #[]) w
    refine hcon.mono ?_
    rintro e w' ⟨rfl, rfl⟩
    exact ⟨_, rfl, hK _ h⟩
  · have hbl : w0.heap.size ≤ bl := hS bl (by rw [h2]; simp)
    have hlt := lt_of_blk h3
    simp only [List.length_map] at h1 h5 h6
    have hH := holdsK_of hk3 (by omega) h3 h4 h5 h6
    have hcon := AnyQ.slices_SortFunc_total Try.sortVal 3 Try.isAgg35 Try.sizeOf35 valV hk3 (fun x v hv => by simp [valV] at hv; rcases hv with rfl | rfl | rfl <;> rfl) cmpV swoV 25 #[] bl 0 F.length l.toArray w (enters_of Try.func25 (by kernel_rfl) rfl) (cmpLaysV bl 0 l.toArray.size w) hH hlt (by simp; omega)
      (fun x y hx hy => by rw [ltOfV, decide_eq_false_iff_not] at hx hy; exact ltV_tri hx hy)
    simp only [List.size_toArray] at hcon
    subst h1
    refine hcon.mono ?_
    rintro e w' ⟨rfl, n, os, rfl⟩
    refine ⟨_, rfl, ?_⟩
    have hso : (l.toArray.toList.mergeSort fun x y => !(ltOf cmpV) y x) = sortV l := by
      obtain ⟨g1, g2⟩ := sortV_ok l
      have hle : (fun x y : V3 => !(ltOf cmpV) y x) = fun x y => decide (leV x y) := by
        funext x y
        rw [ltOfV]
        unfold leV
        by_cases hxy : ltV y x
        · simp [hxy]
        · simp [hxy]
      have p1 := List.mergeSort_perm l (fun x y => decide (leV x y))
      have p2 : (l.mergeSort fun x y => decide (leV x y)).Pairwise fun a b => decide (leV a b) = true := List.pairwise_mergeSort (by
        intro a b c h1 h2
        rw [decide_eq_true_eq] at *
        exact leV_trans h1 h2) (by
        intro a b
        by_cases h : leV a b
        · simp [h]
        · have : leV b a := by
            unfold leV at h ⊢
            intro hh
            exact h fun h2 => ltV_asymm hh h2
          simp [this]) l
      rw [hle]
      refine sortV_eq ?_ g1 (p1.trans g2.symm)
      exact p2.imp fun h => by simpa using h
    rw [hso]
    exact hK _ (sortK_fr hk3 (by omega) hkp hbl h3 h4 h6 (sortV_len l))
end Go.Proofs

/- Layer 22: values, each once; copies. -/
set_option maxRecDepth 100000
set_option linter.unusedVariables false
set_option linter.unusedSimpArgs false
namespace Go.Proofs
open Go Go.Q
theorem eqVal {a b a' b' : Int} {s s' : ByteArray} : aggEq Try.prog 35 [.int .i64 a, .int .i64 b, .string s] [.int .i64 a', .int .i64 b', .string s'] = true := by kernel_rfl
theorem zcVal : zc Try.prog 35 = [.int .i64 0, .int .i64 0, .string (str [])].toArray := by kernel_rfl
theorem val_inj (a b : V3) : eqC (valV a) (valV b) = decide (a = b) := by
  obtain ⟨k, n, s⟩ := a
  obtain ⟨k', n', s'⟩ := b
  simp only [valV, eqC_cons, eqC_nil, eqV_int, eqV_str, str_eq, V3.mk.injEq]
  simp [Bool.decide_and]
theorem bq_val {xo yo : Operand} {w : World} (a b : V3) {K : Value → Prop} : qG Try.prog (bq .eql 35 xo yo (.agg (valV a).toArray) (.agg (valV b).toArray)) w K = K (.bool (decide (a = b))) := by
  rw [bq_aggeql (by exact eqVal), val_inj]
theorem bq_valn {xo yo : Operand} {w : World} (a b : V3) {K : Value → Prop} : qG Try.prog (bq .neq 35 xo yo (.agg (valV a).toArray) (.agg (valV b).toArray)) w K = K (.bool !(decide (a = b))) := by
  rw [bq_aggneq (by exact eqVal), val_inj]
theorem vC_one (b : List V3) : ((b.map valV).flatten).all Q.one = true := by
  rw [List.all_eq_true]
  intro x hx
  obtain ⟨r, hr, hxr⟩ := List.mem_flatten.1 hx
  obtain ⟨y, _, rfl⟩ := List.mem_map.1 hr
  simp only [valV, List.mem_cons, List.not_mem_nil, or_false] at hxr
  rcases hxr with rfl | rfl | rfl <;> rfl
theorem cloneV_spec {w : World} {v : Value} {b : List V3} (h : Rd w v 3 (b.map valV)) (hl : b.length < 2 ^ 30) {K : Value → World → Prop} (hK : ∀ v' w', Fr w w' v' 3 (b.map valV) → K v' w') :
    callG Try.prog 36 #[v] w K := by
  refine slices_Clone_api_Value_api_Value_call ?_
  unfold slices_Clone_api_Value_api_Value slices_Clone_api_Value_api_Value_s0
  exact clone_gen (k := 3) (bytes := 32) (by kernel_rfl) zcVal rfl (by omega) h (vC_one b) (by simp; omega) (by simp; omega) hK
/-- rows of a block, from a place on as they were -/
structure CB (w0 w : World) (bl T cap n p : Nat) (l : List V3) : Prop where
  kp : Kp [] w0 w
  ex : ∃ F : List (List Value), w.heap[bl]? = some (.cells F.flatten.toArray T (0, 0)) ∧ (∀ x ∈ F, x.length = 3) ∧ F.length = cap ∧ ∀ t (h : t < l.length), p ≤ t → F[t]? = some (valV l[t])
theorem CB.rd {w0 w w' : World} {bl T cap p i : Nat} {l : List V3} {n : Nat} (h : CB w0 w bl T cap n p l) (hk : Kp [] w w') (hi : i < l.length) (hp : p ≤ i) {o : Nat} (ho : o = i * 3) {K : Value → Prop} : ldn 3 (.pointer (some ⟨bl, o, none⟩)) w' K = K (.agg (valV l[i]).toArray) := by
  obtain ⟨F, h1, h2, h3, h4⟩ := h.ex
  have h5 := h4 i hi hp
  have hiF : i < F.length := (List.getElem?_eq_some_iff.1 h5).1
  have hFi : F[i] = valV l[i] := (List.getElem?_eq_some_iff.1 h5).2
  subst ho
  have := rd_rows (w := w') (m := 1) (i := i) (hk.get h1 (by simp)) h2 (by omega) (K := fun cs => K (.agg cs))
  rw [Nat.one_mul] at this
  rw [ldn_p, this]
  have e : ((F.drop i).take 1).flatten = valV l[i] := by
    rw [List.drop_eq_getElem_cons hiF, hFi]
    simp
  rw [e]
theorem CB.keep {w0 w w' : World} {bl T cap n p p' : Nat} {l : List V3} (h : CB w0 w bl T cap n p l) (hk : Kp [] w w') (hp : p ≤ p') : CB w0 w' bl T cap n p' l := by
  obtain ⟨h1, F, h2, h3, h4, h5⟩ := h
  exact ⟨h1.trans' hk, F, hk.get h2 (by simp), h3, h4, fun t ht htp => h5 t ht (by omega)⟩
theorem compact_spec {w0 w : World} {v : Value} {l : List V3} (h : Fr w0 w v 3 (l.map valV)) (hl : l.length < 2 ^ 30) {K : Value → World → Prop} (hK : ∀ v' w', Kp [] w0 w' → (∀ K : Value → Prop, lenL v' K = K (.int .i64 (distV l))) → K v' w') :
    callG Try.prog 35 #[v] w K := by
  refine slices_Compact_api_Value_api_Value_call ?_
  unfold slices_Compact_api_Value_api_Value slices_Compact_api_Value_api_Value_s13
  have hlen : ∀ K : Value → Prop, lenL v K = K (.int .i64 l.length) := fun K => by rw [h.rd.lenL, List.length_map]
  rw [hlen]
  simp only [bq_lss, bV_b, decide_eq_true_eq, decide_eq_false_iff_not]
  refine ⟨fun h2 => ?_, fun h2 => ?_⟩
  · refine hK v w h.kp fun K => ?_
    have : distV l = l.length := by
      match l, h2 with
      | [], _ => rfl
      | [a], _ => rfl
      | a :: b :: r, h2 => simp at h2; omega
    rw [hlen, this]
  · obtain ⟨S, hr, hS⟩ := h.ex
    rcases hr with ⟨_, h2', _⟩ | ⟨bl, F, T, h1, h2', h3, h4, h5, h6⟩
    · have : l = [] := by simpa using h2'
      subst this; simp at h2
    · have hbl : w0.heap.size ≤ bl := hS bl (by rw [h2']; simp)
      simp only [List.length_map] at h1 h5 h6
      have hcb : CB w0 w bl T F.length l.length 0 l := ⟨h.kp, F, h3, h4, rfl, fun t ht _ => by
        rw [← List.getElem?_take_of_lt ht, h5]
        simp [ht]⟩
      have hcap : ∀ q : Nat, (q : Int) ≤ F.length ↔ q ≤ F.length := fun q => by omega
      unfold slices_Compact_api_Value_api_Value_s12 slices_Compact_api_Value_api_Value_L11
      refine loop_inv (fun m xs wi => ∃ k, 1 ≤ k ∧ k ≤ l.length ∧ m = l.length - k ∧ xs = [v, .int .i64 (k : Nat)] ∧ Kp [] w wi ∧ distV (l.take k) = k) ?_ (m := l.length - 1) ⟨1, by omega, by omega, rfl, rfl, Kp.refl _ _, by
        match l, h2 with
        | [], h2 => simp at h2
        | a :: r, _ => rfl⟩
      rintro m N xs wi ⟨k, hk1, hkl, rfl, rfl, hki, hd⟩ hN
      have hkw : IntKind.i64.wrap ((k : Int) + 1) = ((k + 1 : Nat) : Int) := by rw [w64 (by omega) (by omega)]; simp
      have hks : IntKind.i64.wrap ((k : Int) - 1) = ((k - 1 : Nat) : Int) := by rw [w64 (by omega) (by omega)]; omega
      unfold slices_Compact_api_Value_api_Value_L11F slices_Compact_api_Value_api_Value_s10
      dsimp only
      rw [hlen]
      simp only [bq_lss, bV_b, decide_eq_true_eq, decide_eq_false_iff_not]
      refine ⟨fun hlt => ?_, fun hge => ?_⟩
      · have hlt : k < l.length := by omega
        unfold slices_Compact_api_Value_api_Value_s9
        have ea : ∀ (i : Nat), i < l.length → ∀ K : Value → Prop, ia 3 v (.int .i64 i) K = K (.pointer (some ⟨bl, i * 3, none⟩)) := by
          intro i hi K
          rw [h1, ia_p, Int.toNat_natCast, Nat.zero_add]
          have : (0 ≤ (i : Int) ∧ (i : Int) < l.length) = True := by simp; omega
          rw [this, true_and]
        rw [ea k hlt, hcb.rd hki.drew hlt (by omega) rfl]
        simp only [bq_sub, hks]
        rw [ea (k - 1) (by omega), hcb.rd (i := k - 1) hki.drew (by omega) (by omega) rfl, bq_val]
        unfold slices_Compact_api_Value_api_Value_s8
        simp only [bV_b, decide_eq_true_eq, decide_eq_false_iff_not]
        have htk := distV_take hlt
        rw [dif_neg (by omega)] at htk
        refine ⟨fun heq => ?_, fun hne => ?_⟩
        · rw [if_pos heq.symm] at htk
          unfold slices_Compact_api_Value_api_Value_s6 slices_Compact_api_Value_api_Value_s5 slices_Compact_api_Value_api_Value_L4
          have e4 : ∀ K : Value → Prop, slL 3 v (some (.int .i64 k)) none K = K (.slice (some ⟨bl, k * 3, none⟩) (l.length - k) (F.length - k)) := by
            intro K
            have g1 : (k : Int) ≤ l.length := by omega
            have g2 : ¬ F.length = k := by omega
            rw [h1]
            simp [g1, g2]
            omega
          rw [e4]
          refine loop_inv (fun m xs wj => ∃ j q : Nat, 1 ≤ j ∧ j ≤ l.length - k ∧ m = l.length - k - j ∧ xs = [v, .int .i64 (q : Nat), .slice (some ⟨bl, k * 3, none⟩) (l.length - k) (F.length - k), .int .i64 (j : Nat)] ∧ CB w0 wj bl T F.length l.length (k + j - 1) l ∧ q = distV (l.take (k + j)) ∧ q ≤ k + j - 1) ?_ (m := l.length - k - 1) ⟨1, k, by omega, by omega, rfl, rfl, hcb.keep hki.drew (by omega), by omega, by omega⟩
          rintro m2 N2 xs wj ⟨j, q, hj1, hjl, rfl, rfl, hc, hq, hqk⟩ hN2
          have hjw : IntKind.i64.wrap ((j : Int) + 1) = ((j + 1 : Nat) : Int) := by rw [w64 (by omega) (by omega)]; simp
          have hjs : IntKind.i64.wrap ((j : Int) - 1) = ((j - 1 : Nat) : Int) := by rw [w64 (by omega) (by omega)]; omega
          have hqw : IntKind.i64.wrap ((q : Int) + 1) = ((q + 1 : Nat) : Int) := by rw [w64 (by omega) (by omega)]; simp
          unfold slices_Compact_api_Value_api_Value_L4F slices_Compact_api_Value_api_Value_b3
          dsimp only
          simp only [lenL_s, bq_lss, bV_b, decide_eq_true_eq, decide_eq_false_iff_not]
          refine ⟨fun hjlt => ?_, fun hjge => ?_⟩
          · have hjlt : k + j < l.length := by omega
            have e5 : ∀ (i : Nat), i < l.length - k → ∀ K : Value → Prop, ia 3 (.slice (some ⟨bl, k * 3, none⟩) (l.length - k) (F.length - k)) (.int .i64 i) K = K (.pointer (some ⟨bl, k * 3 + i * 3, none⟩)) := by
              intro i hi K
              rw [ia_p, Int.toNat_natCast]
              have : (0 ≤ (i : Int) ∧ (i : Int) < ((l.length - k : Nat) : Int)) = True := by simp; omega
              rw [this, true_and]
            have hkd : Kp [] wj wj.drew := kp_drew
            rw [e5 j (by omega), hc.rd (i := k + j) hkd hjlt (by omega) (by omega)]
            simp only [bq_sub, hjs]
            rw [e5 (j - 1) (by omega), hc.rd (i := k + j - 1) hkd (by omega) (by omega) (by omega), bq_valn]
            have htj := distV_take hjlt
            rw [dif_neg (by omega)] at htj
            simp only [bV_b, bq_add, hjw, hqw]
            refine ⟨fun hne => ?_, fun heq2 => ?_⟩
            · have hne : ¬ l[k + j - 1] = l[k + j] := fun hh => by simp [hh] at hne
              rw [if_neg hne] at htj
              rw [e5 j (by omega), hc.rd (i := k + j) hkd hjlt (by omega) (by omega), ea q (by omega)]
              obtain ⟨G, g1, g2, g3, g4⟩ := hc.ex
              have g1d : wj.drew.heap[bl]? = some (.cells G.flatten.toArray T (0, 0)) := g1
              have hst : ∀ K : World → Prop, stn 3 (.pointer (some ⟨bl, q * 3, none⟩)) (.agg (valV l[k + j]).toArray) wj.drew K = K (setBlk wj.drew bl (.cells (G.take q ++ [valV l[k + j]] ++ G.drop (q + 1)).flatten.toArray T)) := by
                intro K
                have := wr_rows (w := wj.drew) (k := 3) (F := G) (G := [valV l[k + j]]) (i := q) g1d g2 (by simp [valV]) (by simp; omega) (by simpa using vC_one [l[k + j]]) (K := K)
                rw [stn_p]
                have e6 : [valV l[k + j]].flatten.toArray = (valV l[k + j]).toArray := by simp
                rw [e6] at this
                rw [this]
                exact propext ⟨fun h => h.2, fun h => ⟨rfl, h⟩⟩
              rw [hst]
              refine hN2 (l.length - k - (j + 1)) _ _ (by omega) ⟨j + 1, q + 1, by omega, by omega, rfl, rfl, ⟨(hc.kp.drew).setBlk (.inr hbl) _, G.take q ++ [valV l[k + j]] ++ G.drop (q + 1), heap_self (live_of g1d), ?_, by simp; omega, fun t ht htp => ?_⟩, by rw [show k + (j + 1) = k + j + 1 by omega, htj, hq], by omega⟩
              · intro x hx
                rw [List.mem_append, List.mem_append] at hx
                rcases hx with (hx | hx) | hx
                · exact g2 x (List.mem_of_mem_take hx)
                · simp at hx; rw [hx]; rfl
                · exact g2 x (List.mem_of_mem_drop hx)
              · have hqG : q < G.length := by omega
                rw [List.append_assoc, List.getElem?_append_right (by simp; omega), List.singleton_append]
                have : t - (G.take q).length = (t - q - 1) + 1 := by simp; omega
                rw [this, List.getElem?_cons_succ, List.getElem?_drop, show q + 1 + (t - q - 1) = t by omega]
                exact g4 t ht (by omega)
            · have heq2 : l[k + j - 1] = l[k + j] := by
                have : l[k + j] = l[k + j - 1] := by simpa using heq2
                exact this.symm
              rw [if_pos heq2] at htj
              refine hN2 (l.length - k - (j + 1)) _ _ (by omega) ⟨j + 1, q, by omega, by omega, rfl, rfl, hc.keep hkd (by omega), by rw [show k + (j + 1) = k + j + 1 by omega, htj, hq]; rfl, by omega⟩
          · have hje : k + j = l.length := by omega
            unfold slices_Compact_api_Value_api_Value_s2
            obtain ⟨G, g1, g2, g3, g4⟩ := hc.ex
            have e7 : ∀ K : Value → Prop, slL 3 v (some (.int .i64 q)) none K = K (.slice (some ⟨bl, q * 3, none⟩) (l.length - q) (F.length - q)) := by
              intro K
              have t1 : (q : Int) ≤ l.length := by omega
              have t2 : ¬ F.length = q := by omega
              rw [h1]
              simp [t1, t2]
              omega
            have e8 : ∀ K : Value → Prop, slL 3 v none (some (.int .i64 q)) K = K (.slice (some ⟨bl, 0, none⟩) q F.length) := by
              intro K
              have t1 : (q : Int) ≤ F.length := by omega
              rw [h1]
              simp [t1]
            have hz3 := rep_rows (k := 3) (z := [.int .i64 0, .int .i64 0, .string (str [])]) (by omega) rfl (l.length - q)
            obtain ⟨d, hd2⟩ : ∃ d, l.length - q = d + 1 := ⟨l.length - q - 1, by omega⟩
            rw [e7, zcVal, hd2]
            rw [hd2] at hz3
            simp only [clr]
            rw [hz3, wr_rows (w := wj) (k := 3) (F := G) (G := List.replicate (d + 1) [.int .i64 0, .int .i64 0, .string (str [])]) (i := q) g1 g2 (by intro y hy; rw [List.mem_replicate] at hy; rw [hy.2]; rfl) (by simp; omega) (by
              rw [List.all_eq_true]
              intro x hx
              obtain ⟨r, hr2, hxr⟩ := List.mem_flatten.1 hx
              rw [List.mem_replicate] at hr2
              rw [hr2.2] at hxr
              simp only [List.mem_cons, List.not_mem_nil, or_false] at hxr
              rcases hxr with rfl | rfl | rfl <;> rfl), e8]
            refine hK _ _ (hc.kp.setBlk (.inr hbl) _) fun K => ?_
            have : q = distV l := by rw [hq, hje, List.take_length]
            rw [lenL_s, this]
        · rw [if_neg fun hh => hne hh.symm] at htk
          unfold slices_Compact_api_Value_api_Value_s7 slices_Compact_api_Value_api_Value_s1
          simp only [bq_add, hkw]
          exact hN (l.length - (k + 1)) _ _ (by omega) ⟨k + 1, by omega, by omega, rfl, rfl, hki.drew, by omega⟩
      · have hke : k = l.length := by omega
        unfold slices_Compact_api_Value_api_Value_s0
        refine hK v wi (h.kp.trans' hki) fun K => ?_
        rw [hke, List.take_length] at hd
        rw [hlen, hd]
end Go.Proofs

