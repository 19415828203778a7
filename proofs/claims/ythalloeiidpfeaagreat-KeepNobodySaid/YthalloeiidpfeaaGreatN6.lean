/- Part of the proof (N6): an engine, rules or contracts of the functions; it states nothing of the claim by itself. -/
import Derived.Test.YthalloeiidpfeaaGreatN3
import Derived.Test.YthalloeiidpfeaaGreatN5
import Derived.Lib.MakeNoZero
import Derived.Test.YthalloeiidpfeaaGreatN2
import Derived.Laws.IdiomRangeMap
import Derived.ChangeSlices

set_option maxRecDepth 100000
set_option linter.unusedVariables false
set_option linter.unusedSimpArgs false
namespace Go.Proofs
open Go Go.Q
theorem and64m {T : TypeId} {xo yo : Operand} {w : World} {K : Value → Prop} {n : Nat} (hn : n < 2 ^ 32) : qG Tryz.prog (bq .and T xo yo (.int .u64 (n : Nat)) (.int .u64 4294967295)) w K = K (.int .u64 (n : Nat)) :=
  qG_of (run_bq_int (s := .pure _) fun w => by
    have h2 : IntKind.u64.wrap ((BitVec.ofInt 64 (n : Int) &&& BitVec.ofInt 64 (((4294967295 : Nat) : Int))).toNat : Int) = ((n : Nat) : Int) := by
      rw [BitVec.toNat_and, ofInt_nat, ofInt_nat, Nat.mod_eq_of_lt (by omega), Nat.mod_eq_of_lt (by omega)]
      rw [show (4294967295 : Nat) = 2 ^ 32 - 1 from rfl, Nat.and_two_pow_sub_one_eq_mod, Nat.mod_eq_of_lt hn]
      exact wrap_natu64 (by omega)
    simp only [binOp, ne_eq, not_true_eq_false, if_false, Op.intBits]
    show Result.ok _ _ = Result.ok _ _
    congr 2)
theorem mul_one {w : World} {n : Nat} (hn : n < 2 ^ 32) {R : Value → World → Prop} (hR : R (.tuple #[.int .u64 0, .int .u64 (n : Nat)]) w) : callG Tryz.prog 125 #[.int .u64 1, .int .u64 (n : Nat)] w R := by
  refine math_bits_Mul_call ?_
  unfold math_bits_Mul math_bits_Mul_s0
  have key : ∀ {R : Value → World → Prop}, R (.tuple #[.int .u64 0, .int .u64 (n : Nat)]) w → callG Tryz.prog 139 #[.int .u64 1, .int .u64 (n : Nat)] w R := by
    intro R hR
    refine math_bits_Mul64_call ?_
    unfold math_bits_Mul64 math_bits_Mul64_s0
    have w0 : ∀ x : Int, x = 0 → IntKind.u64.wrap x = ((0 : Nat) : Int) := fun x hx => by rw [hx]; rfl
    have wn : ∀ x : Int, x = (n : Int) → IntKind.u64.wrap x = (n : Int) := fun x hx => by rw [hx]; exact wrap_natu64 (by omega)
    have sh : ∀ (m : Nat), m < 2 ^ 32 → ((m : Int) / 2 ^ (32 : Int).toNat) = ((0 : Nat) : Int) := fun m hm => by
      rw [show (32 : Int).toNat = 32 from rfl]
      have : ((m : Int) / 2 ^ 32) = ((m / 2 ^ 32 : Nat) : Int) := by simp
      rw [this, Nat.div_eq_of_lt hm]
    rw [show (Value.int .u64 1) = .int .u64 ((1 : Nat) : Int) from rfl]
    rw [and64m (by omega), shr_of (by omega) (by decide), sh 1 (by omega), and64m hn, shr_of (by omega) (by decide), sh n hn]
    simp only [bq_mul, bq_add]
    rw [wn (((1 : Nat) : Int) * (n : Int)) (by omega), w0 (((0 : Nat) : Int) * (n : Int)) (by omega), shr_of (by omega) (by decide), sh n hn]
    simp only [bq_add]
    rw [w0 (((0 : Nat) : Int) + ((0 : Nat) : Int)) (by omega), and64m (by omega), shr_of (by omega) (by decide), sh 0 (by omega)]
    simp only [bq_mul, bq_add]
    rw [w0 (((1 : Nat) : Int) * ((0 : Nat) : Int)) (by omega), w0 (((0 : Nat) : Int) + ((0 : Nat) : Int)) (by omega), w0 (((0 : Nat) : Int) * ((0 : Nat) : Int)) (by omega), w0 (((0 : Nat) : Int) + ((0 : Nat) : Int)) (by omega), shr_of (by omega) (by decide), sh 0 (by omega)]
    simp only [bq_add]
    rw [w0 (((0 : Nat) : Int) + ((0 : Nat) : Int)) (by omega)]
    exact hR
  refine key ?_
  rw [ex0, ex1]
  exact hR
structure BuG (w0 w : World) (b : Nat) (l : List UInt8) (cap : Nat) : Prop where
  ex : ∃ bl c fr, w.heap[b]? = some (.cells #[.pointer (some ⟨b, 0, none⟩), .slice (some ⟨bl, 0, none⟩) l.length cap] 110) ∧ w.heap[bl]? = some (.cells c 5 fr) ∧ c.size = cap ∧ l.length ≤ cap ∧ c.toList.take l.length = u8c l ∧ (fr = (0, 0) ∨ fr.1 = 0 ∧ fr.2 ≤ l.length) ∧ b ≠ bl ∧ w0.heap.size ≤ b ∧ w0.heap.size ≤ bl
  kp : Kp [] w0 w
section
variable {w0 w : World} {b cap : Nat} {l : List UInt8} {K : Value → World → Prop}
theorem bug_check (h : BuG w0 w b l cap) (hK : K (.tuple #[]) w) : callG Tryz.prog 101 #[.pointer (some ⟨b, 0, none⟩)] w K := by
  obtain ⟨bl, c, fr, h1, _⟩ := h.ex
  refine strings_Builder_copyCheck_call ?_
  unfold strings_Builder_copyCheck strings_Builder_copyCheck_s0
  rw [nk_p, fa_p, ldF (x := .pointer (some ⟨b, 0, none⟩)) h1 rfl, bq_peql _ (by kernel_rfl)]
  simp only [bV_b, Option.isNone_some]
  refine ⟨fun h => by simp at h, fun _ => ?_⟩
  rw [nk_p, fa_p, ldF (x := .pointer (some ⟨b, 0, none⟩)) h1 rfl, bq_psame]
  simp only [bV_b]
  exact ⟨fun h => by simp at h, fun _ => hK⟩
theorem bug_len (h : BuG w0 w b l cap) (hK : K (.int .i64 (l.length : Nat)) w) : callG Tryz.prog 95 #[.pointer (some ⟨b, 0, none⟩)] w K := by
  obtain ⟨bl, c, fr, h1, _⟩ := h.ex
  refine strings_Builder_Len_call ?_
  unfold strings_Builder_Len strings_Builder_Len_s0
  rw [nk_p, fa_p, ldF (x := .slice (some ⟨bl, 0, none⟩) l.length cap) h1 rfl, lenL_s]
  exact hK
theorem bug_write (h : BuG w0 w b l cap) (s : List UInt8) (hc : l.length + s.length ≤ cap) (hK : ∀ w', BuG w0 w' b (l ++ s) cap → K (.tuple #[.int .i64 s.length, .nilIface]) w') : callG Tryz.prog 59 #[.pointer (some ⟨b, 0, none⟩), .string (str s)] w K := by
  refine strings_Builder_WriteString_call ?_
  unfold strings_Builder_WriteString strings_Builder_WriteString_s0
  refine bug_check h ?_
  obtain ⟨bl, c, fr, h1, h2, h3, h4, h5, h6, h7, h8, h9⟩ := h.ex
  rw [nk_p, fa_p, ldF (x := .slice (some ⟨bl, 0, none⟩) l.length cap) h1 rfl]
  have he : u8s ((str s).extract 0 s.length) = (u8c s).toArray := by rw [str_extract, List.take_length, List.drop_zero, u8s_eq]; rfl
  unfold app
  simp only [srcA, str_size, he, wrO, add_mk, Nat.mul_one, Nat.zero_add]
  refine ⟨fun _ => ?_, fun h => by omega⟩
  have hone := one_u8c s
  have hfr : okFr fr l.length s.length := by
    rcases h6 with rfl | ⟨_, h6⟩
    · left; simp
    · left; exact h6
  rw [wrN_mk, h2]
  refine ⟨⟨by simp only [List.size_toArray, u8c_len]; omega, by simpa using hfr, hone⟩, ?_⟩
  have hwb := heap_ne (w := w) (o := .cells (splice c l.length (u8c s).toArray) 5 fr) (Ne.symm h7)
  rw [nk_p, fa_p, stF (by rw [hwb]; exact h1) (by simp) rfl]
  simp only [lenS_s, str_size]
  have e : (#[.pointer (some ⟨b, 0, none⟩), .slice (some ⟨bl, 0, none⟩) l.length cap] : Array Value).setIfInBounds (0 + 1) (.slice (some ⟨bl, 0, none⟩) (l.length + s.length) cap) = #[.pointer (some ⟨b, 0, none⟩), .slice (some ⟨bl, 0, none⟩) (l ++ s).length cap] := by rw [List.length_append]; rfl
  rw [e]
  refine hK _ ⟨⟨bl, splice c l.length (u8c s).toArray, fr, heap_self (by rw [live_setBlk]; exact live_of h1), by rw [heap_ne h7]; exact heap_self (live_of h2), ?_, by simpa using hc, ?_, h6.imp id fun ⟨a, b⟩ => ⟨a, by rw [List.length_append]; omega⟩, h7, h8, h9⟩, (h.kp.setBlk (.inr h9) _).setBlk (.inr h8) _⟩
  · rw [splice_size (by simp only [List.size_toArray, u8c_len]; omega), h3]
  · unfold splice
    simp only [List.length_append, List.size_toArray, u8c_len]
    rw [h5, List.take_append_of_le_length (by simp only [List.length_append, u8c_len]; omega), List.take_of_length_le (by simp only [List.length_append, u8c_len]; omega)]
    simp [u8c]
theorem bug_text (h : BuG w0 w b l cap) (h0 : l ≠ []) (hl : l.length < 2 ^ 40) (hK : ∀ w', BuG w0 w' b l cap → K (.string (str l)) w') : callG Tryz.prog 61 #[.pointer (some ⟨b, 0, none⟩)] w K := by
  obtain ⟨bl, c, fr, h1, h2, h3, h4, h5, h6, h7, h8, h9⟩ := h.ex
  refine strings_Builder_String_call ?_
  simp only [strings_Builder_String, strings_Builder_String_s0]
  have hpos : l.length ≠ 0 := by simpa using h0
  simp [-getElem?_pos, -Array.all_eq_true, -Array.getElem?_eq_getElem, -List.length_flatten, List.getElem?_cons_zero, List.getElem?_cons_succ, h1]
  refine ⟨_, _, Go.Lib.run_unsafeSliceData_row _ _ _ _ _ _ (by omega), ?_⟩
  simp [-getElem?_pos, -Array.all_eq_true, -Array.getElem?_eq_getElem, -List.length_flatten, List.getElem?_cons_zero, List.getElem?_cons_succ, h1]
  refine ⟨_, _, Go.Lib.run_unsafeString_row (e := 5) w.drew 150 3 9 Tryz.underlying150 Tryz.cellsOf5 bl c.size (by simp [World.shape?, h2]) l h0 (by omega) (by omega) ?_, ?_⟩
  · intro j x hx
    have hj : j < l.length := (List.getElem?_eq_some_iff.1 hx).1
    have : c.toList[j]? = (u8c l)[j]? := by rw [← h5, List.getElem?_take_of_lt hj]
    simp only [add_mk, World.cell?, heap_drew, h2, Nat.zero_add]
    rw [← Array.getElem?_toList, this]
    simp [u8c, hx]
  · have hf : ∃ fr' : Nat × Nat, w.drew.freeze ⟨bl, 0, none⟩ l.length = setBlk w.drew bl (.cells c 5 fr') ∧ fr'.1 = 0 ∧ fr'.2 ≤ l.length := by
      obtain ⟨lo, hi⟩ := fr
      refine ⟨if lo == hi then (0, 0 + l.length) else (min lo 0, max hi (0 + l.length)), ?_, ?_⟩
      · unfold World.freeze
        rw [if_neg hpos]
        unfold setBlk
        congr 1
        apply Array.ext_getElem?
        intro j
        rw [Array.getElem?_modify, Array.getElem?_setIfInBounds]
        by_cases hj : bl = j
        · subst hj
          rw [if_pos rfl, if_pos rfl]
          have h2' : w.drew.heap[bl]? = some (.cells c 5 (lo, hi)) := h2
          rw [h2']
          have := (Array.getElem?_eq_some_iff.1 h2').1
          rw [if_pos this]
          rfl
        · rw [if_neg hj, if_neg hj]
      · rcases h6 with h6 | ⟨h6, h6'⟩
        · injection h6 with e1 e2
          subst e1 e2
          simp
        · have h6 : lo = 0 := h6
          have h6' : hi ≤ l.length := h6'
          subst h6
          split
          · simp
          · simp; omega
    obtain ⟨fr', hf, hf1, hf2⟩ := hf
    rw [hf]
    exact hK _ ⟨⟨bl, c, fr', by rw [heap_ne (Ne.symm h7)]; exact h1, heap_self (live_of h2), h3, h4, h5, .inr ⟨hf1, hf2⟩, h7, h8, h9⟩, (h.kp.drew).setBlk (.inr h9) _⟩
theorem bug_grow {n : Nat} (hn : 1 ≤ n) (hn2 : n ≤ 4000) (hK : ∀ w' cap b, n ≤ cap → BuG w w' b [] cap → K (.pointer (some ⟨b, 0, none⟩)) w') :
    newG (zc Tryz.prog 110) 110 w fun t9 w => callG Tryz.prog 127 #[t9, .int .i64 (n : Nat)] w fun _ w => K t9 w := by
  refine newB fun b w1 hb h1 k1 => ?_
  rw [zcB] at h1
  refine strings_Builder_Grow_call ?_
  unfold strings_Builder_Grow strings_Builder_Grow_s1
  -- the builder notes itself
  have hchk : ∀ {K : Value → World → Prop}, (∀ w', w'.heap[b]? = some (.cells #[.pointer (some ⟨b, 0, none⟩), .slice none 0 0] 110) → Kp [] w w' → K (.tuple #[]) w') → callG Tryz.prog 101 #[.pointer (some ⟨b, 0, none⟩)] w1 K := by
    intro K hK
    refine strings_Builder_copyCheck_call ?_
    simp only [strings_Builder_copyCheck, strings_Builder_copyCheck_s0]
    simp [-getElem?_pos, -Array.all_eq_true, -Array.getElem?_eq_getElem, -List.length_flatten, List.getElem?_cons_zero, List.getElem?_cons_succ, h1]
    refine to_unsafe h1 rfl ?_
    refine no_escape ?_
    refine from_unsafe h1 rfl ?_
    have lb := live_of h1
    simp [-getElem?_pos, -Array.all_eq_true, -Array.getElem?_eq_getElem, -List.length_flatten, List.getElem?_cons_zero, List.getElem?_cons_succ, h1, lb]
    exact hK _ (heap_self lb) (k1.setBlk (.inr hb) _)
  refine hchk fun w2 h2 k2 => ?_
  simp only [bq_lss, bV_b, decide_eq_true_eq, decide_eq_false_iff_not]
  refine ⟨fun h => by omega, fun _ => ?_⟩
  unfold strings_Builder_Grow_s0
  have h2d : w2.drew.heap[b]? = some (.cells #[.pointer (some ⟨b, 0, none⟩), .slice none 0 0] 110) := h2
  have hcap : ∀ (w : World) (K : Value → Prop), qG Tryz.prog (Builtin.cap_ #[96] 3 #[.slice none 0 0]) w K = K (.int .i64 0) := fun w K => qG_of (by rfl)
  rw [nk_p, fa_p, ldF (x := .slice none 0 0) h2d rfl, hcap, nk_p, fa_p, ldF (x := .slice none 0 0) h2d rfl, lenL_s]
  have e0 : IntKind.i64.wrap (0 - ((0 : Nat) : Int)) = 0 := by decide
  simp only [bq_sub, e0, bq_lss, bV_b, decide_eq_true_eq, decide_eq_false_iff_not]
  refine ⟨fun _ => ?_, fun h => by omega⟩
  refine strings_Builder_grow_call ?_
  unfold strings_Builder_grow strings_Builder_grow_s0
  have h3 : w2.drew.drew.heap[b]? = some (.cells #[.pointer (some ⟨b, 0, none⟩), .slice none 0 0] 110) := h2
  rw [nk_p, fa_p, ldF (x := .slice none 0 0) h3 rfl, hcap]
  have e1 : IntKind.i64.wrap (2 * 0) = 0 := by decide
  have e2 : IntKind.i64.wrap (0 + (n : Int)) = (n : Int) := by rw [w64 (by omega) (by omega)]; simp
  simp only [bq_mul, e1, bq_add, e2]
  rw [nk_p, fa_p, ldF (x := .slice none 0 0) h3 rfl, lenL_s]
  obtain ⟨cs, hrun, hcs, _⟩ := Go.Lib.run_makeNoZero (P := Tryz.prog) w2.drew.drew #[3] 96 5 Tryz.underlying96 n (by omega)
  obtain ⟨W, hW⟩ : ∃ W, W = w2.drew.drew := ⟨_, rfl⟩
  rw [← hW] at hrun h3 ⊢
  have kW : Kp [] w W := by rw [hW]; exact (k2.drew).drew
  obtain ⟨w4, hw4⟩ : ∃ w4, w4 = W.drew.drew.alloc (.cells cs 5) := ⟨_, rfl⟩
  have k4 : Kp [] W w4 := by rw [hw4]; exact ((Kp.refl [] W).drew.drew).alloc _
  have hbl : w4.heap[W.heap.size]? = some (.cells cs 5) := by rw [hw4]; exact heap_new
  refine ⟨.slice (some ⟨W.heap.size, 0, none⟩) n cs.size, w4, ?_, ?_⟩
  · rw [run_callFunc_extern (e := Extern.BytealgMakeNoZero.makeNoZero #[3] #[96]) Tryz.func148 (by kernel_rfl) rfl (by kernel_rfl) (by kernel_rfl), hrun, hw4]
    rfl
  have h4 := k4.get h3 (by simp)
  dsimp only
  rw [ldF (x := .slice none 0 0) h4 rfl]
  refine ⟨rfl, ?_⟩
  have hsl : ∀ K : Value → Prop, slL 1 (.slice (some ⟨W.heap.size, 0, none⟩) n cs.size) none (some (.int .i64 ((0 : Nat) : Int))) K = K (.slice (some ⟨W.heap.size, 0, none⟩) 0 cs.size) := fun K => by simp
  rw [hsl, nk_p, fa_p, ldF (x := .slice none 0 0) h4 rfl]
  have hlb := lt_of_blk h3
  have hcp : ∀ K : Value → World → Prop, K (.int .i64 0) w4 → cp 1 (.slice (some ⟨W.heap.size, 0, none⟩) 0 cs.size) (.slice none 0 0) w4 K := fun K hK => by
    simp only [cp, src, wrO, add_mk, wrN_mk, hbl]
    have e : splice cs (0 + 0) #[] = cs := by simp [splice]
    rw [e, setBlk_same hbl]
    exact ⟨⟨by simp, by rw [okFr0]; trivial, by simp⟩, hK⟩
  refine hcp _ ?_
  rw [nk_p, fa_p, stF h4 (by simp) rfl]
  have hs := kW.size
  refine hK _ cs.size b hcs ⟨⟨W.heap.size, cs, (0, 0), heap_self (live_of h4), by rw [heap_ne (by omega)]; exact hbl, rfl, by simp, by simp [u8c], .inl rfl, by omega, hb, hs⟩, (kW.trans' k4).setBlk (.inr hb) _⟩
theorem rep_take {m k : Nat} (h : m ≤ k) : (List.replicate k (0 : UInt8)).take m = List.replicate m 0 := by rw [List.take_replicate, Nat.min_eq_left h]
theorem run_min3 {P : Program} {ts : Array TypeId} {t : TypeId} {k : IntKind} {a b c : Int} {w : World} : (Builtin.min_ ts t #[.int k a, .int k b, .int k c]).run P w = .ok (.int k (min (min a b) c)) w := by
  simp only [Builtin.min_, List.foldlM_cons, List.foldlM_nil, Builtin.min2, pure_bind]
  show Result.ok _ _ = _
  congr 2; omega
theorem Repeat_any {n : Nat} (hn2 : n ≤ 4000) {R : Value → World → Prop} (hR : ∀ w', Kp [] w w' → R (.string (str (List.replicate n 0))) w') : callG Tryz.prog 105 #[.string (str [0]), .int .i64 (n : Nat)] w R := by
  refine strings_Repeat_call ?_
  unfold strings_Repeat strings_Repeat_s22
  simp only [bq_eql, bq_lss, bV_b, decide_eq_true_eq, decide_eq_false_iff_not]
  refine ⟨fun h => ?_, fun h0 => ⟨fun h => ?_, fun h1 => ⟨fun h => by omega, fun _ => ?_⟩⟩⟩
  · have : n = 0 := by omega
    subst this
    exact hR w (Kp.refl _ _)
  · have : n = 1 := by omega
    subst this
    exact hR w (Kp.refl _ _)
  have hn1 : 2 ≤ n := by omega
  unfold strings_Repeat_s21
  have hl1 : ∀ K : Value → Prop, lenS (.string (str [0])) K = K (.int .i64 1) := fun K => rfl
  have ec : IntKind.u64.wrap (n : Int) = (n : Int) := wrap_natu64 (by omega)
  have ec2 : IntKind.i64.wrap (n : Int) = (n : Int) := wrap_nat64 (by omega)
  rw [hl1, cvI_i, cvI_i, show IntKind.u64.wrap 1 = 1 from rfl, ec]
  refine mul_one (by omega) ?_
  rw [ex0, ex1]
  simp only [bq_gtr, bV_b, decide_eq_true_eq, decide_eq_false_iff_not]
  refine ⟨fun h => by omega, fun _ => ⟨fun h => by omega, fun _ => ?_⟩⟩
  unfold strings_Repeat_s20
  rw [cvI_i, ec2, hl1]
  simp only [bq_eql, bV_b, decide_eq_true_eq, decide_eq_false_iff_not]
  refine ⟨fun h => by omega, fun _ => ?_⟩
  unfold strings_Repeat_s19 strings_Repeat_s18
  have hix : ∀ K : Value → Prop, ixS (.string (str [0])) (.int .i64 0) K = K (.int .u8 0) := fun K => ixS_str (s := [0]) (kd := .i64) (i := 0) (by simp)
  rw [hix]
  simp only [bq_eql, bV_b]
  refine ⟨fun h => by simp at h, fun _ => ⟨fun h => by simp at h, fun _ => ⟨fun h => by simp at h, fun _ => ⟨fun h => by simp at h, fun _ => ?_⟩⟩⟩⟩
  unfold strings_Repeat_s17
  have ed : decide ((0 : Int) = 9) = false := rfl
  rw [ed]
  simp only [bV_b]
  refine ⟨fun h => by simp at h, fun _ => ?_⟩
  unfold strings_Repeat_s16 strings_Repeat_s4
  simp only [bq_gtr, bV_b, decide_eq_true_eq, decide_eq_false_iff_not]
  refine ⟨fun h => by omega, fun _ => ?_⟩
  unfold strings_Repeat_s3
  refine bug_grow (by omega) (by omega) fun w1 cap b hcap h1 => ?_
  refine bug_write h1 [0] (by simp; omega) fun w2 h2 => ?_
  unfold strings_Repeat_L2
  refine loop_inv (fun m xs wi => ∃ k, 1 ≤ k ∧ k ≤ n ∧ m = n - k ∧ xs = [.int .i64 (n : Nat), .int .i64 (n : Nat), .pointer (some ⟨b, 0, none⟩)] ∧ BuG w wi b (List.replicate k 0) cap) ?_ (m := n - 1) ⟨1, by omega, by omega, rfl, rfl, h2⟩
  rintro m N xs wi ⟨k, hk1, hk2, rfl, rfl, hb⟩ hN
  have hlen : (List.replicate k (0 : UInt8)).length = k := by simp
  have hne : List.replicate k (0 : UInt8) ≠ [] := by
    intro h
    have := congrArg List.length h
    simp at this
    omega
  unfold strings_Repeat_L2F strings_Repeat_b1
  dsimp only
  refine bug_len hb ?_
  rw [hlen]
  simp only [bq_lss, bV_b, decide_eq_true_eq, decide_eq_false_iff_not]
  refine ⟨fun hlt => ?_, fun hge => ?_⟩
  · refine bug_len hb ?_
    rw [hlen]
    have e1 : IntKind.i64.wrap ((n : Int) - (k : Int)) = ((n - k : Nat) : Int) := by rw [w64 (by omega) (by omega)]; omega
    simp only [bq_sub, e1]
    refine bug_len hb ?_
    rw [hlen, qG_of run_min3]
    obtain ⟨m, hm⟩ : ∃ m, m = min (n - k) k := ⟨_, rfl⟩
    have e2 : min (min ((n - k : Nat) : Int) (k : Int)) (n : Int) = (m : Int) := by omega
    rw [e2]
    refine bug_text hb hne (by rw [hlen]; omega) fun w3 h3 => ?_
    have e3 : ∀ K : Value → Prop, slS (.string (str (List.replicate k 0))) none (some (.int .i64 (m : Nat))) K = K (.string (str (List.replicate m 0))) := fun K => by
      have hle : (0 : Int) ≤ (m : Int) ∧ (m : Int) ≤ ((str (List.replicate k 0)).size : Nat) := by rw [str_size, hlen]; omega
      simp only [slS, bnd, hle, true_and, and_self, Int.toNat_natCast]
      rw [str_extract, List.drop_zero, rep_take (by omega)]
    rw [e3]
    refine bug_write h3 (List.replicate m 0) (by simp; omega) fun w4 h4 => ?_
    rw [List.replicate_append_replicate] at h4
    exact hN (n - (k + m)) _ _ (by omega) ⟨k + m, by omega, by omega, rfl, rfl, h4⟩
  · have : k = n := by omega
    subst this
    unfold strings_Repeat_s0
    refine bug_text hb hne (by rw [hlen]; omega) fun w3 h3 => ?_
    exact hR w3 h3.kp
end
end Go.Proofs

set_option maxRecDepth 100000
set_option linter.unusedVariables false
set_option linter.unusedSimpArgs false
namespace Go.Proofs
open Go Go.Q
section
variable {w w' : World} {R : Value → World → Prop}
theorem filled_k {s : List UInt8} {n : Nat} (h : s.length ≤ n) (hn : n ≤ 4000) (hR : ∀ w', Kp [] w w' → R (.string (str (s ++ List.replicate (n - s.length) 0))) w') : callG Tryz.prog 81 #[.string (str s), .int .i64 (n : Nat)] w R := by
  refine keep_filled_call ?_
  unfold keep_filled keep_filled_s0
  have e : IntKind.i64.wrap ((n : Int) - (s.length : Int)) = ((n - s.length : Nat) : Int) := by rw [w64 (by omega) (by omega)]; omega
  simp only [lenS_s, str_size, bq_sub, e]
  rw [show (Value.string ⟨#[0]⟩) = .string (str [0]) from rfl]
  refine Repeat_any (by omega) fun w' k => ?_
  rw [bq_sadd (by rw [str_size, str_size, List.length_replicate]; omega), str_append]
  exact hR w' k
def headK (t : Int) : List UInt8 := put4 t ++ put4 (crcMore 0 (put4 t)) ++ List.replicate 24 0
theorem headK_len (t : Int) : (headK t).length = 32 := by simp [headK, put4]
theorem head_k (t : Int) (hR : ∀ w', Kp [] w w' → R (.string (str (headK t))) w') : callG Tryz.prog 37 #[.int .i64 t] w R := by
  refine keep_head_call ?_
  unfold keep_head keep_head_s0
  have l4 : ∀ x, (put4 x).length = 4 := fun x => rfl
  refine crcPut_spec _ fun w1 k1 => ?_
  refine Sum_spec _ (by rw [l4]; omega) ?_
  refine crcPut_spec _ fun w2 k2 => ?_
  rw [bq_sadd (by rw [str_size, str_size, l4, l4]; omega), str_append, show (Value.int .i64 32) = .int .i64 ((32 : Nat) : Int) from rfl]
  refine filled_k (by simp [l4]) (by omega) fun w3 k3 => ?_
  have : 32 - (put4 t ++ put4 (crcMore 0 (put4 t))).length = 24 := by simp [l4]
  rw [this]
  exact hR w3 ((k1.trans' k2).trans' k3)
def areaL (n t : Nat) : Nat := 2 + t % 2 * ((n - 2) / 2)
theorem area_k {bd : Nat} {d : DK} {S : List Nat} (hd : DiskAt w bd d S) (h2 : 2 ≤ d.now.length) (t : Nat) (hR : R (.tuple #[.int .i64 (areaL d.now.length t : Nat), .int .i64 (areaL d.now.length t + (d.now.length - 2) / 2 : Nat)]) w) : callG Tryz.prog 83 #[.pointer (some ⟨bd, 0, none⟩), .int .i64 (t : Nat)] w R := by
  refine keep_area_call ?_
  unfold keep_area keep_area_s0
  have hm := hd.ok.most
  generalize hn : d.now.length = n at *
  refine Size_spec hd ?_
  rw [hn]
  have e1 : IntKind.i64.wrap ((n : Int) - 2) = ((n - 2 : Nat) : Int) := by rw [w64 (by omega) (by omega)]; omega
  have e2 : (((n - 2 : Nat) : Int) / 2) = (((n - 2) / 2 : Nat) : Int) := by simp
  have e3 : IntKind.i64.wrap (((n - 2) / 2 : Nat) : Int) = (((n - 2) / 2 : Nat) : Int) := wrap_nat64 (by omega)
  have e4 : ((t : Int) % 2) = ((t % 2 : Nat) : Int) := by simp
  have hle : t % 2 * ((n - 2) / 2) ≤ (n - 2) / 2 := by
    rcases (show t % 2 = 0 ∨ t % 2 = 1 by omega) with h | h <;> rw [h] <;> omega
  have e5 : IntKind.i64.wrap (((t % 2 : Nat) : Int) * (((n - 2) / 2 : Nat) : Int)) = ((t % 2 * ((n - 2) / 2) : Nat) : Int) := by
    rw [← Int.natCast_mul]; exact wrap_nat64 (by omega)
  have e6 : IntKind.i64.wrap (2 + ((t % 2 * ((n - 2) / 2) : Nat) : Int)) = ((areaL n t : Nat) : Int) := by
    rw [w64 (by omega) (by omega)]; unfold areaL; omega
  have e7 : IntKind.i64.wrap (((areaL n t : Nat) : Int) + (((n - 2) / 2 : Nat) : Int)) = ((areaL n t + (n - 2) / 2 : Nat) : Int) := by
    rw [w64 (by unfold areaL; omega) (by unfold areaL; omega)]; simp
  simp only [bq_sub, e1]
  rw [quo_of (by omega) (by omega), e2, e3, rem_of (by omega) (by omega), e4]
  simp only [bq_mul, e5, bq_add, e6, e7]
  exact hR
def recS (s : SV) : List UInt8 := 83 :: (putRow (rowS s)).1
def recH (h : HV) : List UInt8 := 72 :: (putRow (rowH stateT h)).1
def recM (m : HV) : List UInt8 := 77 :: (putRow (rowH kindT m)).1
def recE (n : Int) : List UInt8 := 69 :: (putRow [numV n]).1
def recL (l : LV) : List (List UInt8) := l.st.map recS ++ l.ho.map recH ++ l.mo.map recM ++ [recE l.ops]
structure LWf (l : LV) : Prop where
  st : ∀ s ∈ l.st, ∀ v ∈ rowS s, v.Wf
  ho : ∀ h ∈ l.ho, ∀ v ∈ rowH stateT h, v.Wf
  mo : ∀ m ∈ l.mo, ∀ v ∈ rowH kindT m, v.Wf
  ops : (numV l.ops).Wf
structure OutV (w0 w : World) (x : Nat) (L : List (List UInt8)) : Prop where
  ex : ∃ v S, w.heap[x]? = some (.cells #[v] 29) ∧ RowsAt w v 1 (L.map strV) S ∧ x ∉ S ∧ ∀ y ∈ S, w0.heap.size ≤ y
  x0 : w0.heap.size ≤ x
  kp : Kp [] w0 w
theorem OutV.keep {w0 : World} {x : Nat} {L : List (List UInt8)} (h : OutV w0 w x L) (hk : Kp [] w w') : OutV w0 w' x L := by
  obtain ⟨v, S, h1, h2, h3, h4⟩ := h.ex
  exact ⟨⟨v, S, hk.get h1 (by simp), h2.keep hk (by simp), h3, h4⟩, h.x0, h.kp.trans' hk⟩
theorem put_k {w0 : World} {x : Nat} {L : List (List UInt8)} (h : OutV w0 w x L) (hl : L.length < 2 ^ 30) (c : UInt8) {rv : Value} {r : List V3} (hr : Rd w rv 3 (r.map valV)) (hw : ∀ v ∈ r, v.Wf) (hlen : r.length ≤ 255)
    (hR : ∀ w', OutV w0 w' x (L ++ [c :: (putRow r).1]) → R (.tuple #[]) w') : callG Tryz.prog 23 #[.string (str [c]), rv, .pointer (some ⟨x, 0, none⟩)] w R := by
  refine keep_Records_1_call ?_
  unfold keep_Records_1 keep_Records_1_s0
  refine Put_spec hr hw (by omega) fun w1 k1 => ?_
  rw [ex0, ex1]
  have h1 := h.keep k1
  have hx0 := h.x0
  obtain ⟨v, S, g1, g2, g3, g4⟩ := h1.ex
  have hpl := putRow_len hlen
  rw [ldF (w := w1) g1 (j := 0) (x := v) rfl, bq_sadd (by rw [str_size, str_size]; simp; omega), str_append]
  rw [bsl_one rfl]
  obtain ⟨w2, hw2⟩ : ∃ w2, w2 = w1.alloc (.cells #[.string (str ([c] ++ (putRow r).1))] 9) := ⟨_, rfl⟩
  have k2 : Kp [] w1 w2 := by rw [hw2]; exact (Kp.refl [] w1).alloc _
  have hb2 : w2.heap[w1.heap.size]? = some (.cells #[.string (str ([c] ++ (putRow r).1))] 9) := by rw [hw2]; exact heap_new
  rw [← hw2, zc9]
  have hs2 : RdAt w2 (.slice (some ⟨w1.heap.size, 0, none⟩) 1 1) 1 [strV ([c] ++ (putRow r).1)] [w1.heap.size] :=
    .inr ⟨_, 0, 1, _, _, _, rfl, rfl, hb2, by simp [strV], by simp, by simp [strV], by simp⟩
  have z1 := h1.kp.size
  have z2 := k2.size
  refine rows_app (k := 1) (z := [.string ⟨#[]⟩]) (G := [strV ([c] ++ (putRow r).1)]) (g2.keep k2 (by simp)) (by omega) rfl (by simp [strV]) (by simp [strV, Q.one]) (fun K' hK' => hs2.src K' hK') (by simp; omega) (by simp; omega) fun v4 w4 S4 h4 k4 hS4 => ?_
  have g14 := k4.get (k2.get g1 (by simp)) g3
  have lx := lt_of_blk g1
  have hxS4 : x ∉ S4 := fun hm => by
    rcases hS4 x hm with h | h
    · exact g3 h
    · omega
  rw [stF g14 (by simp) (rows_one h4)]
  have k5 : Kp [x] w4 (setBlk w4 x (.cells ((#[v] : Array Value).setIfInBounds 0 v4) 29)) := (Kp.refl _ _).setBlk (.inl (by simp)) _
  refine hR _ ⟨⟨v4, S4, heap_self (live_of g14), ?_, hxS4, fun y hy => ?_⟩, hx0, ?_⟩
  · have := h4.keep k5 (fun y hy hm => by simp at hm; subst hm; exact hxS4 hy)
    rw [List.map_append]
    exact this
  · rcases hS4 y hy with h | h
    · exact g4 y h
    · omega
  · exact ((h1.kp.trans' k2).trans k4 fun y hy hlt => by have := g4 y hy; omega).trans k5 fun y hy hlt => by simp at hy; omega
theorem Records_k {v : Value} {l : LV} (hm : May l) (hw : LWf l) (hv : LedAt w v l) (hR : ∀ w' v' , Fr w w' v' 1 ((recL l).map strV) → R (.tuple #[v', .int .i64 0]) w') : callG Tryz.prog 8 #[v] w R := by
  refine keep_Records_call ?_
  unfold keep_Records keep_Records_s10
  refine boxLed hv fun x1 a b c w1 hx1 k1 hb1 he => ?_
  rw [hb1.ld]
  refine Check_spec7 hm hb1.at fun w2 k2 => ?_
  simp only [bq_neq, bV_b, decide_eq_true_eq]
  refine ⟨fun hh => absurd rfl hh, fun _ => ?_⟩
  refine newB fun x5 w3 hx5 h5 k3 => ?_
  have z1 := k1.size
  have z2 := k2.size
  have z3 := k3.size
  have hb3 := (hb1.keep k2).keep k3
  have hfew := hm.few
  unfold fullL at hfew
  simp only [decide_eq_false_iff_not, not_or, Nat.not_lt] at hfew
  obtain ⟨fw1, fw2, fw3⟩ := hfew
  have o0 : OutV w2 w3 x5 [] := ⟨⟨.slice none 0 0, [], by rw [h5]; rfl, .inl ⟨rfl, rfl, rfl⟩, by simp, by simp⟩, hx5, k3⟩
  have hx1c : w2.heap[x1]? = some (.cells #[a, b, c, .int .i64 l.ops] 26) := (hb1.keep k2).h
  rw [mk_func]
  have hput : ∀ (w4 : World) (L : List (List UInt8)) (cc : UInt8) (rv : Value) (r : List V3) (K : Value → World → Prop), OutV w2 w4 x5 L → L.length < 2 ^ 30 → Rd w4 rv 3 (r.map valV) → (∀ v ∈ r, v.Wf) → r.length ≤ 255 → (∀ w', OutV w2 w' x5 (L ++ [cc :: (putRow r).1]) → K (.tuple #[]) w') →
      callV Tryz.prog (.func (.func 23) #[] #[.pointer (some ⟨x5, 0, none⟩)]) #[.string (str [cc]), rv] w4 K := fun w4 L cc rv r K ho hl hr hw hlen hK => ⟨by kernel_rfl, put_k ho hl cc hr hw hlen hK⟩
  obtain ⟨a', b', c', e, r1, r2, r3⟩ := hv
  rw [he] at e
  simp only [Value.agg.injEq, Array.mk.injEq, List.cons.injEq] at e
  obtain ⟨rfl, rfl, rfl, _⟩ := e
  have k12 := k1.trans' k2
  have ldc : ∀ w4, Kp [] w2 w4 → (∀ K : Value → Prop, ld1 (.pointer (some ⟨x1, 0 + 0, none⟩)) w4 K = K a) ∧ (∀ K : Value → Prop, ld1 (.pointer (some ⟨x1, 0 + 1, none⟩)) w4 K = K b) ∧ (∀ K : Value → Prop, ld1 (.pointer (some ⟨x1, 0 + 2, none⟩)) w4 K = K c) ∧ (∀ K : Value → Prop, ld1 (.pointer (some ⟨x1, 0 + 3, none⟩)) w4 K = K (.int .i64 l.ops)) := fun w4 k =>
    ⟨fun K => ldF (k.get hx1c (by simp)) rfl, fun K => ldF (k.get hx1c (by simp)) rfl, fun K => ldF (k.get hx1c (by simp)) rfl, fun K => ldF (k.get hx1c (by simp)) rfl⟩
  have hlS : (l.st.map recS).length ≤ 4096 := by simpa using fw1
  have hlH : (l.ho.map recH).length ≤ 4096 := by simpa using fw2
  have hlM : (l.mo.map recM).length ≤ 4096 := by simpa using fw3
  have rl : ∀ h : HV, ∀ txt, (rowH txt h).length ≤ 255 := fun h txt => by unfold rowH; split <;> simp
  -- the last one
  have fin : ∀ w4, OutV w2 w4 x5 (l.st.map recS ++ l.ho.map recH ++ l.mo.map recM) → keep_Records_s0 R (.pointer (some ⟨x1, 0, none⟩)) (.pointer (some ⟨x5, 0, none⟩)) (.func (.func 23) #[] #[.pointer (some ⟨x5, 0, none⟩)]) w4 := by
    intro w4 o4
    unfold keep_Records_s0
    rw [fa_p, (ldc w4 o4.kp).2.2.2]
    have hbl : ∀ K : Value → Prop, bld [(0, 1), (1, 1), (2, 1)] (zc Tryz.prog 76) #[(0, .int .i64 1), (1, .int .i64 l.ops)] K = K (.agg (valV (numV l.ops)).toArray) := fun K => by rw [zcV]; rfl
    rw [hbl]
    refine bsl_rowN (n := 3) (cs := valV (numV l.ops)) (by omega) rfl rfl fun v5 w5 hf5 => ?_
    rw [show (Value.string ⟨#[69]⟩) = .string (str [69]) from rfl]
    refine hput w5 _ 69 v5 [numV l.ops] _ (o4.keep hf5.kp) (by simp only [List.length_append]; omega) hf5.rd (by intro v hv; simp at hv; rw [hv]; exact hw.ops) (by simp) fun w6 o6 => ?_
    obtain ⟨v, S, g1, g2, g3, g4⟩ := o6.ex
    rw [ldF (w := w6) g1 (j := 0) (x := v) rfl]
    exact hR w6 v ⟨⟨S, g2, fun y hy => by have := g4 y hy; omega⟩, k12.trans' o6.kp⟩
  have e1 : ∀ k : Nat, k ≤ 4096 → IntKind.i64.wrap ((k : Int) + 1) = ((k + 1 : Nat) : Int) := fun k hk => by rw [w64 (by omega) (by omega)]; simp
  have sM : ∀ w4, OutV w2 w4 x5 (l.st.map recS ++ l.ho.map recH) → keep_Records_s3 R (.pointer (some ⟨x1, 0, none⟩)) (.pointer (some ⟨x5, 0, none⟩)) (.func (.func 23) #[] #[.pointer (some ⟨x5, 0, none⟩)]) w4 := by
    intro w4 o4
    unfold keep_Records_s3
    rw [fa_p, (ldc w4 o4.kp).2.2.1, r3.lenL, List.length_map]
    unfold keep_Records_L2
    refine loop_inv (fun m xs w' => ∃ k, k ≤ l.mo.length ∧ m = l.mo.length - k ∧ xs = [.pointer (some ⟨x1, 0, none⟩), .pointer (some ⟨x5, 0, none⟩), .func (.func 23) #[] #[.pointer (some ⟨x5, 0, none⟩)], c, .int .i64 (l.mo.length : Nat), .int .i64 (k : Nat)] ∧ OutV w2 w' x5 (l.st.map recS ++ l.ho.map recH ++ (l.mo.take k).map recM)) ?_ (m := l.mo.length) ⟨0, by omega, rfl, rfl, by simpa using o4⟩
    rintro m N xs w5 ⟨k, hk, rfl, rfl, o5⟩ hN
    unfold keep_Records_L2F keep_Records_b1
    dsimp only
    simp only [bq_lss, bV_b, decide_eq_true_eq, decide_eq_false_iff_not]
    refine ⟨fun hlt => ?_, fun hge => ?_⟩
    · have hlt : k < l.mo.length := by omega
      obtain ⟨pe, i1, i2⟩ := rd_hold (r3.keep (k12.trans' o5.kp)) hlt
      rw [i1, i2]
      refine boxMove (by rw [zcMove]; rfl) fun x7 w6 hx7 h7 k6 => ?_
      rw [ldHold h7]
      refine MoveRow_spec _ fun rv w7 k7 hrv => ?_
      rw [show (Value.string ⟨#[77]⟩) = .string (str [77]) from rfl]
      refine hput w7 _ 77 rv _ _ (o5.keep (k6.trans' k7)) (by simp only [List.length_append, List.length_map, List.length_take]; simp only [List.length_map] at hlS hlH; omega) hrv (hw.mo _ (List.getElem_mem hlt)) (rl _ _) fun w8 o8 => ?_
      simp only [bq_add, e1 k (by omega)]
      refine hN (l.mo.length - (k + 1)) _ w8 (by omega) ⟨k + 1, by omega, rfl, rfl, ?_⟩
      rw [take_snoc hlt, List.map_append, ← List.append_assoc]
      exact o8
    · have : k = l.mo.length := by omega
      subst this
      rw [List.take_length] at o5
      exact fin w5 o5
  have sH : ∀ w4, OutV w2 w4 x5 (l.st.map recS) → keep_Records_s6 R (.pointer (some ⟨x1, 0, none⟩)) (.pointer (some ⟨x5, 0, none⟩)) (.func (.func 23) #[] #[.pointer (some ⟨x5, 0, none⟩)]) w4 := by
    intro w4 o4
    unfold keep_Records_s6
    rw [fa_p, (ldc w4 o4.kp).2.1, r2.lenL, List.length_map]
    unfold keep_Records_L5
    refine loop_inv (fun m xs w' => ∃ k, k ≤ l.ho.length ∧ m = l.ho.length - k ∧ xs = [.pointer (some ⟨x1, 0, none⟩), .pointer (some ⟨x5, 0, none⟩), .func (.func 23) #[] #[.pointer (some ⟨x5, 0, none⟩)], b, .int .i64 (l.ho.length : Nat), .int .i64 (k : Nat)] ∧ OutV w2 w' x5 (l.st.map recS ++ (l.ho.take k).map recH)) ?_ (m := l.ho.length) ⟨0, by omega, rfl, rfl, by simpa using o4⟩
    rintro m N xs w5 ⟨k, hk, rfl, rfl, o5⟩ hN
    unfold keep_Records_L5F keep_Records_b4
    dsimp only
    simp only [bq_lss, bV_b, decide_eq_true_eq, decide_eq_false_iff_not]
    refine ⟨fun hlt => ?_, fun hge => ?_⟩
    · have hlt : k < l.ho.length := by omega
      obtain ⟨pe, i1, i2⟩ := rd_hold (r2.keep (k12.trans' o5.kp)) hlt
      rw [i1, i2]
      refine boxHold (by rw [zcHold]; rfl) fun x7 w6 hx7 h7 k6 => ?_
      rw [ldHold h7]
      refine HoldRow_spec _ fun rv w7 k7 hrv => ?_
      rw [show (Value.string ⟨#[72]⟩) = .string (str [72]) from rfl]
      refine hput w7 _ 72 rv _ _ (o5.keep (k6.trans' k7)) (by simp only [List.length_append, List.length_map, List.length_take]; simp only [List.length_map] at hlS hlH; omega) hrv (hw.ho _ (List.getElem_mem hlt)) (rl _ _) fun w8 o8 => ?_
      simp only [bq_add, e1 k (by omega)]
      refine hN (l.ho.length - (k + 1)) _ w8 (by omega) ⟨k + 1, by omega, rfl, rfl, ?_⟩
      rw [take_snoc hlt, List.map_append, ← List.append_assoc]
      exact o8
    · have : k = l.ho.length := by omega
      subst this
      rw [List.take_length] at o5
      exact sM w5 o5
  unfold keep_Records_s9
  rw [fa_p, (ldc w3 k3).1, r1.lenL, List.length_map]
  unfold keep_Records_L8
  refine loop_inv (fun m xs w' => ∃ k, k ≤ l.st.length ∧ m = l.st.length - k ∧ xs = [.pointer (some ⟨x1, 0, none⟩), .pointer (some ⟨x5, 0, none⟩), .func (.func 23) #[] #[.pointer (some ⟨x5, 0, none⟩)], a, .int .i64 (l.st.length : Nat), .int .i64 (k : Nat)] ∧ OutV w2 w' x5 ((l.st.take k).map recS)) ?_ (m := l.st.length) ⟨0, by omega, rfl, rfl, by simpa using o0⟩
  rintro m N xs w5 ⟨k, hk, rfl, rfl, o5⟩ hN
  unfold keep_Records_L8F keep_Records_b7
  dsimp only
  simp only [bq_lss, bV_b, decide_eq_true_eq, decide_eq_false_iff_not]
  refine ⟨fun hlt => ?_, fun hge => ?_⟩
  · have hlt : k < l.st.length := by omega
    obtain ⟨pe, i1, i2⟩ := rd_stock (r1.keep (k12.trans' o5.kp)) hlt
    rw [i1, i2]
    refine boxStock (by rw [zcStock]; rfl) fun x7 w6 hx7 h7 k6 => ?_
    rw [ldStock h7]
    refine StockRow_spec _ fun rv w7 k7 hrv => ?_
    rw [show (Value.string ⟨#[83]⟩) = .string (str [83]) from rfl]
    refine hput w7 _ 83 rv _ _ (o5.keep (k6.trans' k7)) (by simp only [List.length_map, List.length_take]; omega) hrv (hw.st _ (List.getElem_mem hlt)) (by simp [rowS]) fun w8 o8 => ?_
    simp only [bq_add, e1 k (by omega)]
    refine hN (l.st.length - (k + 1)) _ w8 (by omega) ⟨k + 1, by omega, rfl, rfl, ?_⟩
    rw [take_snoc hlt, List.map_append]
    exact o8
  · have : k = l.st.length := by omega
    subst this
    rw [List.take_length] at o5
    exact sH w5 o5
end
end Go.Proofs

set_option maxRecDepth 100000
set_option linter.unusedVariables false
set_option linter.unusedSimpArgs false
namespace Go.Proofs
open Go Go.Q
def sec (L : List (List UInt8)) (i : Nat) : List UInt8 := L.getD i []
theorem sec_set {L : List (List UInt8)} {i j : Nat} {x : List UInt8} (hi : i < L.length) : sec (L.set i x) j = if j = i then x else sec L j := by
  unfold sec
  by_cases h : j = i
  · subst h; simp [List.getD, hi]
  · rw [if_neg h]; simp only [List.getD]; rw [List.getElem?_set_ne (fun hh => h hh.symm)]
theorem applyAll_snoc (L : List (List UInt8)) (l : List (Nat × List UInt8)) (x : Nat × List UInt8) : applyAll L (l ++ [x]) = (applyAll L l).set x.1 x.2 := by simp [applyAll]
def Flow (d : DK) : Prop := d.now = applyAll d.sure d.l
theorem flow_fresh (n : Nat) : Flow (DK.fresh n) := rfl
structure Wk (d dk : DK) (a n : Nat) (t : List UInt8) : Prop where
  calm : Calm dk
  flow : Flow dk
  sure : dk.sure = d.sure
  len : dk.now.length = d.now.length
  rows : ∀ x ∈ dk.now, x.length = 32
  few : dk.l.length = d.l.length + n
  inn : ∀ k, k < n → sec dk.now (a + k) = (t.drop (32 * k)).take 32
  out : ∀ i, i < a ∨ a + n ≤ i → sec dk.now i = sec d.now i
theorem Wk.zero {d : DK} (hc : Calm d) (hf : Flow d) (hr : ∀ x ∈ d.now, x.length = 32) (a : Nat) (t : List UInt8) : Wk d d a 0 t := ⟨hc, hf, rfl, rfl, hr, rfl, fun k hk => by omega, fun i _ => rfl⟩
theorem Wk.step {d dk : DK} {a n : Nat} {t : List UInt8} (h : Wk d dk a n t) (ha : a + n < d.now.length) (ht : 32 * n + 32 ≤ t.length) : (dk.write ((a + n : Nat) : Int) ((t.drop (32 * n)).take 32)).2 = 0 ∧ Wk d (dk.write ((a + n : Nat) : Int) ((t.drop (32 * n)).take 32)).1 a (n + 1) t := by
  have hl : ((t.drop (32 * n)).take 32).length = 32 := by rw [List.length_take, List.length_drop]; omega
  have hi : a + n < dk.now.length := by rw [h.len]; exact ha
  rw [write_calm h.calm.off h.calm.fuse hi hl]
  refine ⟨rfl, ⟨⟨h.calm.off, h.calm.fuse⟩, ?_, h.sure, by simp [h.len], fun x hx => ?_, by simp [h.few]; omega, fun k hk => ?_, fun i hi' => ?_⟩⟩
  · show dk.now.set (a + n) _ = applyAll dk.sure (dk.l ++ [(a + n, _)])
    rw [applyAll_snoc, ← h.flow]
  · rcases List.mem_or_eq_of_mem_set hx with hx | hx
    · exact h.rows x hx
    · rw [hx]; exact hl
  · show sec (dk.now.set (a + n) _) (a + k) = _
    rw [sec_set hi]
    by_cases hkn : k = n
    · subst hkn; rw [if_pos rfl]
    · rw [if_neg (by omega)]; exact h.inn k (by omega)
  · show sec (dk.now.set (a + n) _) i = _
    rw [sec_set hi, if_neg (by omega)]
    exact h.out i (by omega)
theorem sec_flat {L : List (List UInt8)} {a n : Nat} {t : List UInt8} (h : a + n ≤ L.length) (ht : t.length = 32 * n) (hs : ∀ k, k < n → sec L (a + k) = (t.drop (32 * k)).take 32) : ((L.drop a).take n).flatten = t := by
  have e : ∀ m, m ≤ n → ((L.drop a).take m).flatten = t.take (32 * m) := by
    intro m
    induction m with
    | zero => intro _; simp
    | succ m ih =>
      intro hm
      have hg : m < (L.drop a).length := by rw [List.length_drop]; omega
      rw [take_snoc hg, List.flatten_append, ih (by omega), List.getElem_drop]
      have : L[a + m]'(by omega) = sec L (a + m) := by unfold sec; simp [List.getD, show a + m < L.length by omega]
      rw [List.flatten_cons, List.flatten_nil, List.append_nil, this, hs m (by omega), show 32 * (m + 1) = 32 * m + 32 by omega, List.take_add]
  rw [e n (Nat.le_refl _), List.take_of_length_le (by omega)]
theorem flush_flow {d : DK} (hc : Calm d) (hf : Flow d) : d.flush = ({ d with sure := d.now, l := [] }, 0) := by
  rw [flush_calm hc.off hc.fuse]
  unfold Flow at hf
  rw [← hf]
theorem scan_noughts {t : Int} (n : Nat) : scan t (List.replicate n 0) = [] := by
  unfold scan
  cases n with
  | zero => rfl
  | succ n =>
    have hl : (List.replicate (n + 1) (0 : UInt8)).length = n + 1 := by simp
    rw [hl]
    unfold scanL
    rw [if_neg]
    intro h
    obtain ⟨_, h2, _⟩ := (next_frame t _).1 h
    have : lenAt (List.replicate (n + 1) 0) = 0 := by
      have hz : ∀ i, (List.replicate (n + 1) (0 : UInt8)).getD i 0 = 0 := by
        intro i
        simp only [List.getD_eq_getElem?_getD, List.getElem?_replicate]
        split <;> rfl
      unfold lenAt
      rw [hz, hz]; rfl
    omega
structure Laid (d d' : DK) (t : Nat) (rs : List (List UInt8)) : Prop where
  calm : Calm d'
  sure : d'.sure = d'.now
  log : d'.l = []
  len : d'.now.length = d.now.length
  rows : ∀ x ∈ d'.now, x.length = 32
  area : allOf d' (areaL d.now.length t) ((d.now.length - 2) / 2) = fr t rs ++ List.replicate (32 * ((d.now.length - 2) / 2) - usedOf rs) 0
  head : sec d'.now (t % 2) = headK t
  out : ∀ i, i ≠ t % 2 → (i < areaL d.now.length t ∨ areaL d.now.length t + (d.now.length - 2) / 2 ≤ i) → sec d'.now i = sec d.now i
theorem Laid.flow {d d' : DK} {t : Nat} {rs : List (List UInt8)} (h : Laid d d' t rs) : Flow d' := by unfold Flow; rw [h.log, h.sure]; rfl
theorem areaL_le {n t : Nat} (h : 4 ≤ n) : 2 ≤ areaL n t ∧ areaL n t + (n - 2) / 2 ≤ n := by
  unfold areaL
  rcases (show t % 2 = 0 ∨ t % 2 = 1 by omega) with h | h <;> rw [h] <;> omega
theorem laid_of {d d2 : DK} {t : Nat} {rs : List (List UInt8)} (hn : 4 ≤ d.now.length) (hu : usedOf rs ≤ 32 * ((d.now.length - 2) / 2)) (h : Wk d d2 (areaL d.now.length t) ((d.now.length - 2) / 2) (fr t rs ++ List.replicate (32 * ((d.now.length - 2) / 2) - usedOf rs) 0)) :
    d2.flush.2 = 0 ∧ (d2.flush.1.write ((t % 2 : Nat) : Int) (headK t)).2 = 0 ∧ (d2.flush.1.write ((t % 2 : Nat) : Int) (headK t)).1.flush.2 = 0 ∧ Laid d (d2.flush.1.write ((t % 2 : Nat) : Int) (headK t)).1.flush.1 t rs := by
  obtain ⟨a1, a2⟩ := areaL_le (t := t) hn
  rw [flush_flow h.calm h.flow]
  have hi : t % 2 < d2.now.length := by rw [h.len]; omega
  have hw := write_calm (d := { d2 with sure := d2.now, l := [] }) h.calm.off h.calm.fuse hi (headK_len t)
  rw [hw]
  dsimp only
  rw [flush_flow (d := { sure := d2.now, now := d2.now.set (t % 2) (headK t), l := [] ++ [(t % 2, headK t)], fuse := d2.fuse, off := d2.off }) ⟨h.calm.off, h.calm.fuse⟩ rfl]
  refine ⟨rfl, rfl, rfl, ⟨⟨h.calm.off, h.calm.fuse⟩, rfl, rfl, by simp [h.len], fun x hx => ?_, ?_, ?_, fun i h1 h2 => ?_⟩⟩
  · rcases List.mem_or_eq_of_mem_set hx with hx | hx
    · exact h.rows x hx
    · rw [hx]; exact headK_len t
  · refine sec_flat (by simp only [List.length_set]; rw [h.len]; exact a2) (by rw [List.length_append, fr_len, List.length_replicate]; omega) fun k hk => ?_
    show sec (d2.now.set (t % 2) _) _ = _
    rw [sec_set hi, if_neg (by omega)]
    exact h.inn k hk
  · show sec (d2.now.set (t % 2) _) _ = _
    rw [sec_set hi, if_pos rfl]
  · show sec (d2.now.set (t % 2) _) _ = _
    rw [sec_set hi, if_neg h1]
    exact h.out i h2
theorem turnOk_of {t : Nat} (h1 : 1 ≤ t) (h2 : t ≤ 2147483647) : turnOk (t : Int) = true := by unfold turnOk; exact decide_eq_true (by omega)
theorem Laid.scan {d d' : DK} {t : Nat} {rs : List (List UInt8)} (h : Laid d d' t rs) (h1 : 1 ≤ t) (h2 : t ≤ 2147483647) (hr : Recs rs) :
    scan t (allOf d' (areaL d.now.length t) ((d.now.length - 2) / 2)) = rs ∧ (allOf d' (areaL d.now.length t) ((d.now.length - 2) / 2)).take (usedOf rs) = fr t rs := by
  rw [h.area]
  refine ⟨?_, ?_⟩
  · rw [scan_fr (turnOk_of h1 h2) rs _ hr, scan_noughts, List.append_nil]
  · rw [← fr_len (t : Int) rs, List.take_left']
    rfl
end Go.Proofs

set_option maxRecDepth 100000
set_option linter.unusedVariables false
set_option linter.unusedSimpArgs false
namespace Go.Proofs
open Go Go.Q
structure KC (w : World) (kb bd : Nat) (l : LV) (t : Nat) (lp : Value) (X : List Nat) : Prop where
  ex : ∃ a b c, w.heap[kb]? = some (.cells #[.pointer (some ⟨bd, 0, none⟩), a, b, c, .int .i64 l.ops, .int .i64 (t : Nat), lp] 58) ∧ LX (kb :: X) w (.agg #[a, b, c, .int .i64 l.ops]) l
section
variable {w w' : World} {kb bd : Nat} {l : LV} {t : Nat} {lp : Value} {X S : List Nat} {R : Value → World → Prop} {d : DK}
theorem KC.keep (h : KC w kb bd l t lp X) (hk : Kp S w w') (hS : ∀ y ∈ S, y ∈ X) (hkb : kb ∉ S) : KC w' kb bd l t lp X := by
  obtain ⟨a, b, c, h1, h2⟩ := h.ex
  exact ⟨a, b, c, hk.get h1 hkb, h2.keepS hk fun y hy => by simp [hS y hy]⟩
theorem KC.keep0 (h : KC w kb bd l t lp X) (hk : Kp [] w w') : KC w' kb bd l t lp X := h.keep hk (by simp) (by simp)
theorem KC.ldd (h : KC w kb bd l t lp X) {K : Value → Prop} : ld1 (.pointer (some ⟨kb, 0 + 0, none⟩)) w K = K (.pointer (some ⟨bd, 0, none⟩)) := by
  obtain ⟨a, b, c, h1, h2⟩ := h.ex
  exact ldF h1 rfl
theorem KC.ldt (h : KC w kb bd l t lp X) {K : Value → Prop} : ld1 (.pointer (some ⟨kb, 0 + 5, none⟩)) w K = K (.int .i64 (t : Nat)) := by
  obtain ⟨a, b, c, h1, h2⟩ := h.ex
  exact ldF h1 rfl
theorem KC.ldlog (h : KC w kb bd l t lp X) {K : Value → Prop} : ld1 (.pointer (some ⟨kb, 0 + 6, none⟩)) w K = K lp := by
  obtain ⟨a, b, c, h1, h2⟩ := h.ex
  exact ldF h1 rfl
theorem KC.ldl (h : KC w kb bd l t lp X) : ∃ v, (∀ K : Value → Prop, ldn 4 (.pointer (some ⟨kb, 0 + 1, none⟩)) w K = K v) ∧ LX (kb :: X) w v l := by
  obtain ⟨a, b, c, h1, h2⟩ := h.ex
  exact ⟨_, fun K => ldP h1 (p := #[a, b, c, .int .i64 l.ops]) rfl (by simp), h2⟩
theorem KC.lt (h : KC w kb bd l t lp X) : kb < w.heap.size := by
  obtain ⟨a, b, c, h1, h2⟩ := h.ex
  exact lt_of_blk h1
theorem usedOf_append (a b : List (List UInt8)) : usedOf (a ++ b) = usedOf a + usedOf b := by simp [usedOf]
theorem usedOf_take (l : List (List UInt8)) (k : Nat) : usedOf (l.take k) ≤ usedOf l := by
  have : usedOf l = usedOf (l.take k) + usedOf (l.drop k) := by rw [← usedOf_append, List.take_append_drop]
  omega
theorem rd_str {rv : Value} {rs : List (List UInt8)} (h : Rd w rv 1 (rs.map strV)) {i : Nat} (hi : i < rs.length) : ∃ p, (∀ kd K, ia 1 rv (.int kd i) K = K p) ∧ ∀ K : Value → Prop, ld1 p w K = K (.string (str rs[i])) :=
  h.one (i := i) (by simpa using hi) (x := .string (str rs[i])) (by simp [strV])
theorem fits_k (hc : KC w kb bd l t lp X) (hd : DiskAt w bd d S) (h2 : 4 ≤ d.now.length) {rv : Value} {rs : List (List UInt8)} (hr : Rd w rv 1 (rs.map strV)) (hrec : Recs rs) (hR : ∀ w', Kp [] w w' → R (.bool (decide (usedOf rs ≤ 32 * ((d.now.length - 2) / 2)))) w') :
    callG Tryz.prog 42 #[.pointer (some ⟨kb, 0, none⟩), rv] w R := by
  refine keep_Keep_fits_call ?_
  unfold keep_Keep_fits keep_Keep_fits_s4
  have hm := hd.ok.most
  rw [nk_p, fa_p, hc.ldd, show (Value.int .i64 0) = .int .i64 ((0 : Nat) : Int) from rfl]
  refine area_k hd (by omega) 0 ?_
  generalize hH : (d.now.length - 2) / 2 = H at *
  have hA : areaL d.now.length 0 = 2 := by unfold areaL; simp
  rw [hA, ex0, ex1]
  have e1 : IntKind.i64.wrap (((2 + H : Nat) : Int) - ((2 : Nat) : Int)) = ((H : Nat) : Int) := by rw [w64 (by omega) (by omega)]; omega
  have e2 : IntKind.i64.wrap (32 * ((H : Nat) : Int)) = ((32 * H : Nat) : Int) := by rw [w64 (by omega) (by omega)]; simp
  simp only [bq_sub, e1, bq_mul, e2]
  unfold keep_Keep_fits_s3
  rw [hr.lenL, List.length_map]
  unfold keep_Keep_fits_L2
  refine loop_inv (fun m xs w' => ∃ k, k ≤ rs.length ∧ m = rs.length - k ∧ usedOf (rs.take k) ≤ 32 * H ∧ xs = [.int .i64 ((32 * H - usedOf (rs.take k) : Nat) : Int), rv, .int .i64 (rs.length : Nat), .int .i64 (k : Nat)] ∧ Kp [] w w') ?_ (m := rs.length) ⟨0, by omega, rfl, by simp [usedOf], by simp [usedOf], Kp.refl _ _⟩
  rintro m N xs w1 ⟨k, hk, rfl, hu, rfl, k1⟩ hN
  unfold keep_Keep_fits_L2F keep_Keep_fits_b1
  dsimp only
  simp only [bq_lss, bV_b, decide_eq_true_eq, decide_eq_false_iff_not]
  refine ⟨fun hlt => ?_, fun hge => ?_⟩
  · have hlt : k < rs.length := by omega
    have hrk := hrec _ (List.getElem_mem hlt)
    obtain ⟨pe, i1, i2⟩ := rd_str (hr.keep k1) hlt
    rw [i1, i2, show (Value.int .i64 1) = .int .i64 (((1 : Nat) : Int)) from rfl]
    refine Frame_spec _ _ (by omega) fun w2 k2 => ?_
    rw [ex0, ex1, frame_rec (t := ((1 : Nat) : Int)) (by decide) hrk]
    have hfl := frameB_len ((1 : Nat) : Int) rs[k]
    have htk : usedOf (rs.take (k + 1)) = usedOf (rs.take k) + (10 + rs[k].length) := by rw [take_snoc hlt, usedOf_snoc]
    have hle := usedOf_take rs (k + 1)
    have e3 : IntKind.i64.wrap (((32 * H - usedOf (rs.take k) : Nat) : Int) - ((10 + rs[k].length : Nat) : Int)) = ((32 * H : Nat) : Int) - (usedOf (rs.take (k + 1)) : Nat) := by rw [w64 (by omega) (by omega)]; omega
    have e4 : IntKind.i64.wrap ((k : Int) + ((1 : Nat) : Int)) = ((k + 1 : Nat) : Int) := by rw [w64 (by have := usedOf_len (rs.take k); rw [List.length_take] at this; omega) (by have := usedOf_len (rs.take k); rw [List.length_take] at this; omega)]; simp
    simp only [lenS_s, str_size, hfl, bq_sub, e3, bq_lss, bV_b, decide_eq_true_eq, decide_eq_false_iff_not]
    refine ⟨fun hneg => ?_, fun hpos => ?_⟩
    · rw [decide_eq_false (by omega)] at hR
      exact hR w2 (k1.trans' k2)
    · simp only [bq_add, e4]
      refine hN (rs.length - (k + 1)) _ w2 (by omega) ⟨k + 1, by omega, rfl, by omega, ?_, k1.trans' k2⟩
      congr 2
      omega
  · have : k = rs.length := by omega
    subst this
    rw [List.take_length] at hu
    unfold keep_Keep_fits_s0
    rw [decide_eq_true hu] at hR
    exact hR w1 k1
end
end Go.Proofs

set_option maxRecDepth 100000
set_option linter.unusedVariables false
set_option linter.unusedSimpArgs false
namespace Go.Proofs
open Go Go.Q
theorem LX.grow {X Y : List Nat} {w : World} {v : Value} {l : LV} (h : LX X w v l) (hY : ∀ y ∈ Y, y ∈ X ∨ w.heap.size ≤ y) : LX Y w v l := by
  obtain ⟨T, h1, h2⟩ := h
  refine ⟨T, h1, fun q hq hm => ?_⟩
  rcases hY q hm with hh | hh
  · exact h2 q hq hh
  · have := h1.lt q hq; omega
section
variable {w w' : World} {kb bd ab : Nat} {l : LV} {t : Nat} {lp : Value} {X Y S : List Nat} {R : Value → World → Prop} {d : DK}
theorem KC.grow (h : KC w kb bd l t lp X) (hY : ∀ y ∈ Y, y ∈ X ∨ w.heap.size ≤ y) : KC w kb bd l t lp Y := by
  obtain ⟨a, b, c, h1, h2⟩ := h.ex
  refine ⟨a, b, c, h1, LX.grow h2 fun y hy => ?_⟩
  rcases List.mem_cons.1 hy with rfl | hy
  · exact .inl (by simp)
  · exact (hY y hy).imp (fun hh => by simp [hh]) id
theorem KC.st (h : KC w kb bd l t lp X) (hlp : Q.one lp = true) {t' : Nat} {K : World → Prop} (hK : ∀ w', KC w' kb bd l t' (.pointer (some ⟨ab, 0, none⟩)) X → Kp [kb] w w' → K w') :
    nk (.pointer (some ⟨kb, 0, none⟩)) fun p => fa 5 p fun p => st1 p (.int .i64 (t' : Nat)) w fun w => nk (.pointer (some ⟨kb, 0, none⟩)) fun p => fa 6 p fun p => st1 p (.pointer (some ⟨ab, 0, none⟩)) w K := by
  obtain ⟨a, b, c, h1, h2⟩ := h.ex
  rw [nk_p, fa_p, stF h1 (by simp) rfl]
  generalize hw1 : setBlk w kb _ = w1
  have h11 : w1.heap[kb]? = some (.cells #[.pointer (some ⟨bd, 0, none⟩), a, b, c, .int .i64 l.ops, .int .i64 (t' : Nat), lp] 58) := by rw [← hw1]; exact heap_self (live_of h1)
  have k1 : Kp [kb] w w1 := by rw [← hw1]; exact (Kp.refl _ _).setBlk (.inl (by simp)) _
  rw [nk_p, fa_p, stF h11 (by simp) rfl]
  generalize hw2 : setBlk w1 kb _ = w2
  have h12 : w2.heap[kb]? = some (.cells #[.pointer (some ⟨bd, 0, none⟩), a, b, c, .int .i64 l.ops, .int .i64 (t' : Nat), .pointer (some ⟨ab, 0, none⟩)] 58) := by rw [← hw2]; exact heap_self (live_of h11)
  have k2 : Kp [kb] w1 w2 := by rw [← hw2]; exact (Kp.refl _ _).setBlk (.inl (by simp)) _
  have k12 := k1.trans' k2
  exact hK w2 ⟨a, b, c, h12, h2.keepS k12 (by simp)⟩ k12
end
structure KS (w0 w : World) (kb bd ab : Nat) (l : LV) (t : Nat) (g : LG) (d : DK) (B : List Nat) : Prop where
  ol : OL w0 w ab bd g d B
  kb0 : w0.heap.size ≤ kb
  kbB : kb ∉ B
  kc : KC w kb bd l t (.pointer (some ⟨ab, 0, none⟩)) B
def logOf (n t : Nat) (rs : List (List UInt8)) : LG := ⟨((areaL n t : Nat) : Int), ((areaL n t + (n - 2) / 2 : Nat) : Int), ((t : Nat) : Int), rs, fr ((t : Nat) : Int) rs⟩
section
variable {w0 w w' : World} {kb bd : Nat} {l : LV} {t : Nat} {lp : Value} {S : List Nat} {R : Value → World → Prop} {d : DK}
theorem lay_k (o : Own w0 w bd d S) (hkb0 : w0.heap.size ≤ kb) (hkbS : kb ∉ S) (hc : KC w kb bd l t lp S) (hlp : Q.one lp = true) (hm : May l) (hw : LWf l) (hcalm : Calm d) (hflow : Flow d) (hdl : d.l.length < 2 ^ 30) (h4 : 4 ≤ d.now.length) (hn : d.now.length ≤ 120) (ht : t < 2 ^ 30)
    (hrec : Recs (recL l)) (hfit : usedOf (recL l) ≤ 32 * ((d.now.length - 2) / 2))
    (hR : ∀ w' ab B d', KS w0 w' kb bd ab l (t + 1) (logOf d.now.length (t + 1) (recL l)) d' B → Laid d d' (t + 1) (recL l) → Kp (kb :: S) w w' → (∀ y ∈ B, y ∈ S ∨ w.heap.size ≤ y) → R (.int .i64 0) w') :
    callG Tryz.prog 39 #[.pointer (some ⟨kb, 0, none⟩)] w R := by
  refine keep_Keep_lay_call ?_
  unfold keep_Keep_lay keep_Keep_lay_s9
  obtain ⟨v, hv1, hv2⟩ := hc.ldl
  have hrows := o.at_.ok.sz2
  have hlS := o.at_.live
  have hSn := o.new
  obtain ⟨a1, a2⟩ := areaL_le (t := t + 1) h4
  rw [nk_p, fa_p, hv1]
  refine Records_k hm hw hv2.at fun w1 v1 hf1 => ?_
  have k1 := hf1.kp
  have hc1 := hc.keep0 k1
  have o1 := o.keep k1
  rw [ex0, ex1]
  simp only [bq_neq, bV_b, decide_eq_true_eq]
  refine ⟨fun hh => absurd rfl hh, fun _ => ?_⟩
  rw [nk_p, fa_p, hc1.ldt]
  simp only [bq_geq, bV_b, decide_eq_true_eq, decide_eq_false_iff_not]
  refine ⟨fun hh => by omega, fun _ => ?_⟩
  refine fits_k hc1 o1.at_ h4 hf1.rd hrec fun w2 k2 => ?_
  rw [decide_eq_true hfit]
  simp only [un_not, bV_b]
  refine ⟨fun hh => by simp at hh, fun _ => ?_⟩
  have hc2 := hc1.keep0 k2
  have e1 : IntKind.i64.wrap ((t : Int) + 1) = ((t + 1 : Nat) : Int) := by rw [w64 (by omega) (by omega)]; simp
  unfold keep_Keep_lay_s8
  rw [nk_p, fa_p, hc2.ldt]
  simp only [bq_add, e1, newG_k]
  rw [zcB]
  generalize hw3 : w2.alloc (.cells #[.pointer none, .slice none 0 0] 110) = w3
  have hb3 : Bd w2 w3 w2.heap.size [] := by rw [← hw3]; exact bd_new
  generalize hx6 : w2.heap.size = x6 at *
  unfold keep_Keep_lay_s7
  have hrv2 := hf1.rd.keep k2
  rw [hrv2.lenL, List.length_map]
  unfold keep_Keep_lay_L6
  refine loop_inv (fun m xs w' => ∃ k, k ≤ (recL l).length ∧ m = (recL l).length - k ∧ xs = [.pointer (some ⟨kb, 0, none⟩), .int .i64 ((t + 1 : Nat) : Int), .pointer (some ⟨x6, 0, none⟩), v1, .int .i64 ((recL l).length : Nat), .int .i64 (k : Nat)] ∧ Bd w2 w' x6 (fr ((t + 1 : Nat) : Int) ((recL l).take k))) ?_ (m := (recL l).length) ⟨0, by omega, rfl, rfl, by simpa [fr] using hb3⟩
  rintro m N xs w4 ⟨k, hk, rfl, rfl, hb4⟩ hN
  unfold keep_Keep_lay_L6F keep_Keep_lay_b5
  dsimp only
  have hlu := usedOf_len (recL l)
  simp only [bq_lss, bV_b, decide_eq_true_eq, decide_eq_false_iff_not]
  refine ⟨fun hlt => ?_, fun hge => ?_⟩
  · have hlt : k < (recL l).length := by omega
    have hrk := hrec _ (List.getElem_mem hlt)
    obtain ⟨pe, i1, i2⟩ := rd_str (hrv2.keep hb4.kp) hlt
    rw [i1, i2]
    refine Frame_spec _ _ (by omega) fun w5 k5 => ?_
    rw [ex0, ex1, frame_rec (turnOk_of (by omega) (by omega)) hrk]
    have htk : fr ((t + 1 : Nat) : Int) ((recL l).take (k + 1)) = fr ((t + 1 : Nat) : Int) ((recL l).take k) ++ frameB ((t + 1 : Nat) : Int) (recL l)[k] := by rw [take_snoc hlt, fr_append]; simp [fr]
    have hle := usedOf_take (recL l) k
    refine bd_string (hb4.keep k5) _ (by rw [fr_len, frameB_len]; omega) fun w6 hb6 => ?_
    have e2 : IntKind.i64.wrap ((k : Int) + 1) = ((k + 1 : Nat) : Int) := by rw [w64 (by omega) (by omega)]; simp
    simp only [bq_add, e2]
    refine hN ((recL l).length - (k + 1)) _ w6 (by omega) ⟨k + 1, by omega, rfl, rfl, ?_⟩
    rw [htk]; exact hb6
  have : k = (recL l).length := by omega
  subst this
  rw [List.take_length] at hb4
  unfold keep_Keep_lay_s4
  have k4 := hb4.kp
  have o4 := (o1.keep k2).keep k4
  rw [nk_p, fa_p, (hc2.keep0 k4).ldd]
  refine area_k o4.at_ (by omega) (t + 1) ?_
  generalize hH : (d.now.length - 2) / 2 = H at *
  generalize hA : areaL d.now.length (t + 1) = A at *
  rw [ex0, ex1]
  refine bd_text hb4 (by rw [fr_len]; omega) fun w5 k5 => ?_
  have e3 : IntKind.i64.wrap (((A + H : Nat) : Int) - (A : Nat)) = ((H : Nat) : Int) := by rw [w64 (by omega) (by omega)]; omega
  have e4 : IntKind.i64.wrap (32 * ((H : Nat) : Int)) = ((32 * H : Nat) : Int) := by rw [w64 (by omega) (by omega)]; simp
  simp only [bq_sub, e3, bq_mul, e4]
  refine filled_k (by rw [fr_len]; exact hfit) (by omega) fun w6 k6 => ?_
  rw [fr_len]
  have hT : (fr ((t + 1 : Nat) : Int) (recL l) ++ List.replicate (32 * H - usedOf (recL l)) 0).length = 32 * H := by rw [List.length_append, fr_len, List.length_replicate]; omega
  generalize hTT : fr ((t + 1 : Nat) : Int) (recL l) ++ List.replicate (32 * H - usedOf (recL l)) 0 = T at *
  have k06 : Kp [] w w6 := (((k1.trans' k2).trans' k5).trans' k6)
  have o6 := o.keep k06
  have hc6 := hc.keep0 k06
  have z6 := k06.size
  unfold keep_Keep_lay_s3 keep_Keep_lay_L2
  refine loop_inv (fun m xs w' => ∃ (k : Nat) (dk : DK) (Sk : List Nat), k ≤ H ∧ m = H - k ∧ xs = [.pointer (some ⟨kb, 0, none⟩), .int .i64 ((t + 1 : Nat) : Int), .int .i64 (A : Nat), .int .i64 ((A + H : Nat) : Int), .string (str T), .int .i64 ((A + k : Nat) : Int)] ∧ Wk d dk A k T ∧ DiskAt w' bd dk Sk ∧ Kp S w6 w' ∧ ∀ y ∈ Sk, y ∈ S ∨ w6.heap.size ≤ y) ?_ (m := H) ⟨0, d, S, by omega, rfl, rfl, Wk.zero hcalm hflow hrows A T, o6.at_, Kp.refl _ _, fun y hy => .inl hy⟩
  rintro m N xs w7 ⟨k, dk, Sk, hk, rfl, rfl, hwk, hd7, k7, hSk⟩ hN
  unfold keep_Keep_lay_L2F keep_Keep_lay_b1
  dsimp only
  have hc7 := hc6.keep k7 (fun y hy => hy) hkbS
  simp only [bq_lss, bV_b, decide_eq_true_eq, decide_eq_false_iff_not]
  refine ⟨fun hlt => ?_, fun hge => ?_⟩
  · have hlt : k < H := by omega
    have hc7d := hc7.keep0 ((Kp.refl [] w7).drew)
    have hd7d := hd7.keep ((Kp.refl [] w7).drew) (by simp)
    rw [nk_p, fa_p, hc7d.ldd]
    have e5 : IntKind.i64.wrap (((A + k : Nat) : Int) - (A : Nat)) = ((k : Nat) : Int) := by rw [w64 (by omega) (by omega)]; omega
    have e6 : IntKind.i64.wrap (32 * ((k : Nat) : Int)) = ((32 * k : Nat) : Int) := by rw [w64 (by omega) (by omega)]; simp
    have e7 : IntKind.i64.wrap (((32 * k : Nat) : Int) + 32) = ((32 * k + 32 : Nat) : Int) := by rw [w64 (by omega) (by omega)]; simp
    have e8 : ∀ K : Value → Prop, slS (.string (str T)) (some (.int .i64 ((32 * k : Nat) : Int))) (some (.int .i64 ((32 * k + 32 : Nat) : Int))) K = K (.string (str ((T.drop (32 * k)).take 32))) := fun K => by
      have hb2 : 32 * k + 32 ≤ T.length := by omega
      have hb3 : ((32 * k + 32 : Nat) : Int) ≤ (T.length : Int) := by omega
      have hb4 : ((32 * k : Nat) : Int) ≤ ((32 * k + 32 : Nat) : Int) := by omega
      simp only [slS_p, bnd_some, str_size, Int.toNat_natCast]
      rw [str_extract, List.take_drop]
      exact propext ⟨fun h => h.2.2, fun h => ⟨⟨by omega, hb3⟩, ⟨by omega, hb4⟩, h⟩⟩
    simp only [bq_sub, e5, bq_mul, e6, bq_add, e7]
    rw [e8]
    have hst := hwk.step (by omega) (by omega)
    have hfk := hwk.few
    refine Write_spec hd7d (by omega) _ _ fun w8 S8 hd8 k8 hS8 => ?_
    rw [hst.1]
    simp only [bq_neq, bV_b, decide_eq_true_eq]
    refine ⟨fun hh => absurd rfl hh, fun _ => ?_⟩
    have e9 : IntKind.i64.wrap (((A + k : Nat) : Int) + 1) = ((A + (k + 1) : Nat) : Int) := by rw [w64 (by omega) (by omega)]; omega
    simp only [bq_add, e9]
    have z7 := k7.size
    have z7d : w7.drew.heap.size = w7.heap.size := rfl
    refine hN (H - (k + 1)) _ w8 (by omega) ⟨k + 1, _, S8, by omega, rfl, rfl, hst.2, hd8, (k7.drew).trans k8 fun y hy hlt2 => ?_, fun y hy => ?_⟩
    · rcases hSk y hy with hh | hh
      · exact hh
      · omega
    · rcases hS8 y hy with hh | hh
      · exact hSk y hh
      · right; omega
  have : k = H := by omega
  subst this
  have hld := laid_of (t := t + 1) (rs := recL l) h4 (by rw [hH]; exact hfit) (d2 := dk) (by rw [hA, hH, hTT]; exact hwk)
  obtain ⟨c1, c2, c3, c4⟩ := hld
  have hfk := hwk.few
  have z7 := k7.size
  unfold keep_Keep_lay_s0
  rw [nk_p, fa_p, hc7.ldd]
  refine Flush_spec hd7 (by omega) fun w8 hd8 k8 => ?_
  rw [c1]
  simp only [bq_neq, bV_b, decide_eq_true_eq]
  refine ⟨fun hh => absurd rfl hh, fun _ => ?_⟩
  have hkbSk : kb ∉ Sk := fun hm => by
    have := hc6.lt
    rcases hSk kb hm with hh | hh
    · exact hkbS hh
    · omega
  -- from here on with the blocks Sk
  have hc7k : KC w7 kb bd l t lp Sk := by
    have hcg : KC w6 kb bd l t lp (S ++ Sk) := hc6.grow fun y hy => by
      rcases List.mem_append.1 hy with hh | hh
      · exact .inl hh
      · exact hSk y hh
    exact (hcg.keep k7 (fun y hy => by simp [hy]) hkbS).grow fun y hy => .inl (by simp [hy])
  have hc8 := hc7k.keep k8 (fun y hy => hy) hkbSk
  have hc8d := hc8.keep0 ((Kp.refl [] w8).drew)
  have e10 : (((t + 1 : Nat) : Int) % 2) = (((t + 1) % 2 : Nat) : Int) := by simp
  rw [nk_p, fa_p, hc8d.ldd, rem_of (by omega) (by omega), e10]
  refine head_k _ fun w9 k9 => ?_
  have k89 : Kp [] w8 w9 := ((Kp.refl [] w8).drew).trans' k9
  have hc9 := hc8.keep0 k89
  refine ⟨by show (bq _ _ _ _ _ _).run _ _ = _; rw [run_rem (by omega) (by omega), e10], by rw [hc9.ldd], ?_⟩
  refine Write_spec (hd8.keep k89 (by simp)) (by rw [flush_flow hwk.calm hwk.flow]; simp) _ _ fun w10 S10 hd10 k10 hS10 => ?_
  rw [c2]
  simp only [bq_neq, bV_b, decide_eq_true_eq]
  refine ⟨fun hh => absurd rfl hh, fun _ => ?_⟩
  have hc10 : KC w10 kb bd l t lp (Sk ++ S10) := (hc9.grow (Y := Sk ++ S10) fun y hy => by
    rcases List.mem_append.1 hy with hh | hh
    · exact .inl hh
    · exact hS10 y hh).keep k10 (fun y hy => by simp [hy]) hkbSk
  have hkb10 : kb ∉ S10 := fun hm => by
    have := hc9.lt
    rcases hS10 kb hm with hh | hh
    · exact hkbSk hh
    · omega
  rw [nk_p, fa_p, hc10.ldd]
  have hl10 : (dk.flush.1.write (((t + 1) % 2 : Nat) : Int) (headK ((t + 1 : Nat) : Int))).1.l.length < 2 ^ 40 := by
    have h1 := (write_l dk.flush.1 (((t + 1) % 2 : Nat) : Int) (headK ((t + 1 : Nat) : Int)))
    have h2 : dk.flush.1.l.length = 0 := by rw [flush_flow hwk.calm hwk.flow]; rfl
    omega
  refine Flush_spec hd10 hl10 fun w11 hd11 k11 => ?_
  rw [c3]
  simp only [bq_neq, bV_b, decide_eq_true_eq]
  refine ⟨fun hh => absurd rfl hh, fun _ => ?_⟩
  generalize (dk.flush.1.write (((t + 1) % 2 : Nat) : Int) (headK ((t + 1 : Nat) : Int))).1.flush.1 = d' at *
  have hc11 := (hc10.grow (Y := S10) fun y hy => .inl (by simp [hy])).keep k11 (fun y hy => hy) hkb10
  have z8 := k8.size
  have z9 := k89.size
  have z10 := k10.size
  have z11 := k11.size
  have hS10w : ∀ y ∈ S10, y ∈ S ∨ w6.heap.size ≤ y := fun y hy => by
    rcases hS10 y hy with hh | hh
    · exact hSk y hh
    · right; omega
  have kw11 : Kp S w w11 := by
    refine (((((k06.mono (by simp)).trans' k7).trans k8 ?_).trans (k89.mono (S' := S) (by simp)) ?_).trans k10 ?_).trans k11 ?_
    · intro y hy hlt; rcases hSk y hy with hh | hh
      · exact hh
      · omega
    · intro y hy _; exact hy
    · intro y hy hlt; rcases hSk y hy with hh | hh
      · exact hh
      · omega
    · intro y hy hlt; rcases hS10w y hy with hh | hh
      · exact hh
      · omega
  have hz0 := o.kp.size
  have o11 : Own w0 w11 bd d' S10 := ⟨hd11, o.kp.trans kw11 fun y hy hlt => by have := hSn y hy; omega, fun y hy => by
    rcases hS10w y hy with hh | hh
    · exact hSn y hh
    · omega⟩
  rw [nk_p, fa_p, hc11.ldd]
  have hlen' : d'.now.length = d.now.length := c4.len
  obtain ⟨sc1, sc2⟩ := c4.scan (by omega) (by omega) hrec
  rw [hA, hH] at sc1 sc2
  refine ol_open (lo := A) (hi := A + k) o11 c4.calm.off (by omega) (by rw [hlen']; exact a2) (turnOk_of (t := t + 1) (by omega) (by omega)) fun w12 ab B hol k12 hB hSB => ?_
  rw [Nat.add_sub_cancel_left, sc1, sc2] at hol
  rw [ex0, ex1]
  simp only [bq_neq, bV_b, decide_eq_true_eq]
  refine ⟨fun hh => absurd rfl hh, fun _ => ?_⟩
  have hc12 : KC w12 kb bd l t lp B := (hc11.grow hB).keep0 k12
  have hkbB : kb ∉ B := fun hm => by
    have := hc11.lt
    rcases hB kb hm with hh | hh
    · exact hkb10 hh
    · omega
  refine hc12.st hlp fun w13 hc13 k13 => ?_
  have hol13 : OL w0 w13 ab bd (logOf d.now.length (t + 1) (recL l)) d' B := by
    have hg : logOf d.now.length (t + 1) (recL l) = ⟨((A : Nat) : Int), ((A + k : Nat) : Int), ((t + 1 : Nat) : Int), recL l, fr ((t + 1 : Nat) : Int) (recL l)⟩ := by unfold logOf; rw [hA, hH]
    rw [hg]
    refine OL.keep hol k13 (fun y hy hm => by simp at hm; subst hm; exact hkbB hy) ?_
    exact hol.kp.trans k13 fun y hy hlt => by simp at hy; omega
  refine hR w13 ab B d' ⟨hol13, hkb0, hkbB, hc13⟩ c4 ?_ fun y hy => ?_
  · refine ((kw11.mono fun y hy _ => by simp [hy]).trans (k12.mono (S' := kb :: S) (by simp)) fun y hy _ => hy).trans (k13.mono (S' := kb :: S) (by intro y hy _; simp at hy; simp [hy])) fun y hy _ => hy
  · rcases hB y hy with hh | hh
    · rcases hS10w y hh with h1 | h1
      · exact .inl h1
      · right; omega
    · right; omega
end
end Go.Proofs

set_option linter.unusedVariables false
set_option linter.unusedSimpArgs false
namespace Go.Q
structure V3.Rg (v : V3) : Prop where
  k0 : -9223372036854775808 ≤ v.k
  k1 : v.k < 9223372036854775808
  n0 : -9223372036854775808 ≤ v.n
  n1 : v.n < 9223372036854775808
theorem V3.Rg.wf {v : V3} (h : v.Rg) (hok : v.ok = true) : v.Wf := by
  refine ⟨h.k0, h.k1, h.n0, h.n1, ?_⟩
  unfold V3.ok at hok
  split at hok
  · simp at hok; rw [hok.2]; decide
  · split at hok
    · simp at hok; rw [hok]; decide
    · split at hok
      · simp at hok; omega
      · split at hok
        · simp at hok; rw [hok.2]; decide
        · cases hok
def cel (v : Value) : List Value := [v]
def Ix (w : World) (o : Value) (bs : List (List E)) : Prop :=
  ∃ vs : List Value, Rd w o 1 (vs.map cel) ∧ vs.length = bs.length ∧ ∀ k (h : k < bs.length) v, vs[k]? = some v → Rd w v 4 (bs[k].map eC)
def IxO (w : World) (o : Value) (bs : List (List E)) (So X : List Nat) : Prop :=
  (∃ vs : List Value, RowsAt w o 1 (vs.map cel) So ∧ vs.length = bs.length ∧ ∀ k (h : k < bs.length) v, vs[k]? = some v → ∃ S, ArgAt w v 4 (bs[k].map eC) S ∧ ∀ x ∈ S, x ∉ So ∧ x ∉ X) ∧ ∀ x ∈ So, x ∉ X
section
variable {w0 w w' : World} {o : Value} {bs : List (List E)}
theorem Ix.keep (h : Ix w o bs) (hk : Kp [] w w') : Ix w' o bs := by
  obtain ⟨vs, h1, h2, h3⟩ := h
  exact ⟨vs, h1.keep hk, h2, fun k hlt v hv => (h3 k hlt v hv).keep hk⟩
theorem Ix.lenL (h : Ix w o bs) {K : Value → Prop} : lenL o K = K (.int .i64 bs.length) := by
  obtain ⟨vs, h1, h2, h3⟩ := h
  rw [h1.lenL, List.length_map, h2]
theorem Ix.one (h : Ix w o bs) : Q.one o = true := by
  obtain ⟨vs, h1, h2, h3⟩ := h
  obtain ⟨a, c, hv⟩ := h1.slice
  rw [hv]; rfl
theorem Rd.oneK {v : Value} {rows : List (List Value)} (h : Rd w v 1 rows) {i : Nat} (hi : i < rows.length) {x : Value} (hx : rows[i] = [x]) : ∃ p, (∀ kd K, ia 1 v (.int kd i) K = K p) ∧ ∀ w', Kp [] w w' → ∀ K : Value → Prop, ld1 p w' K = K x := by
  obtain ⟨bl, o, T, c, fr, h1, h2, h3, h4, h5⟩ := h.at hi
  refine ⟨_, h2, fun w' hk K => ?_⟩
  have := h5 0 (by omega)
  rw [hx, Nat.add_zero, List.getElem?_cons_zero] at this
  exact ldF (hk.get h1 (by simp)) this
theorem Rd.rowK {v : Value} {k : Nat} {rows : List (List Value)} (h : Rd w v k rows) {i : Nat} (hi : i < rows.length) : ∃ bl o, (∀ kd K, ia k v (.int kd i) K = K (.pointer (some ⟨bl, o, none⟩))) ∧ ∀ w', Kp [] w w' → (∀ K : Value → Prop, ldn k (.pointer (some ⟨bl, o, none⟩)) w' K = K (.agg rows[i].toArray)) ∧
    (∀ j x, j < k → rows[i][j]? = some x → ∀ K : Value → Prop, ld1 (.pointer (some ⟨bl, o + j, none⟩)) w' K = K x) ∧ ∀ j n part, j + n ≤ k → rows[i].toArray.extract j (j + n) = part → ∀ K : Value → Prop, ldn n (.pointer (some ⟨bl, o + j, none⟩)) w' K = K (.agg part) := by
  obtain ⟨bl, o, T, c, fr, h1, h2, h3, h4, h5⟩ := h.at hi
  refine ⟨bl, o, h2, fun w' hk => ⟨fun K => ldP (hk.get h1 (by simp)) h4 h3, fun j x hj hx K => ldF (hk.get h1 (by simp)) (by rw [h5 j hj]; exact hx), fun j n part hjn hp K => ldP (hk.get h1 (by simp)) ?_ (by omega)⟩⟩
  rw [← hp, ← h4]
  apply Array.toList_inj.1
  simp only [Array.toList_extract, List.extract_eq_take_drop, List.drop_take, List.take_take, List.drop_drop]
  congr 1
  omega
theorem Ix.at (h : Ix w o bs) {k : Nat} (hk : k < bs.length) : ∃ p v, (∀ K, ia 1 o (.int .i64 k) K = K p) ∧ (∀ w', Kp [] w w' → ∀ K : Value → Prop, ld1 p w' K = K v) ∧ Rd w v 4 (bs[k].map eC) := by
  obtain ⟨vs, h1, h2, h3⟩ := h
  have hkv : k < (vs.map cel).length := by simpa [h2] using hk
  obtain ⟨p, g1, g2⟩ := h1.oneK (i := k) hkv (x := vs[k]) (by simp [cel])
  exact ⟨p, vs[k], fun K => g1 .i64 K, g2, h3 k hk _ (by simp [h2, hk])⟩
theorem IxO.ix {So X : List Nat} (h : IxO w o bs So X) : Ix w o bs := by
  obtain ⟨⟨vs, h1, h2, h3⟩, _⟩ := h
  refine ⟨vs, ⟨So, .inr h1.rd⟩, h2, fun k hlt v hv => ?_⟩
  obtain ⟨S, h4, _⟩ := h3 k hlt v hv
  exact ⟨S, h4⟩
theorem IxO.keepS {So X S : List Nat} (h : IxO w o bs So X) (hk : Kp S w w') (hS : ∀ x ∈ S, x ∈ X) : IxO w' o bs So X := by
  obtain ⟨⟨vs, h1, h2, h3⟩, h0⟩ := h
  refine ⟨⟨vs, h1.keep hk fun x hx hm => h0 x hx (hS x hm), h2, fun k hlt v hv => ?_⟩, h0⟩
  obtain ⟨S, h4, h5⟩ := h3 k hlt v hv
  exact ⟨S, h4.keep hk fun x hx hm => (h5 x hx).2 (hS x hm), h5⟩
theorem IxO.keep {So X : List Nat} (h : IxO w o bs So X) (hk : Kp [] w w') : IxO w' o bs So X := h.keepS hk (by simp)
theorem IxO.less {So X Y : List Nat} (h : IxO w o bs So X) (hY : ∀ y ∈ Y, y ∈ X) : IxO w o bs So Y := by
  obtain ⟨⟨vs, h1, h2, h3⟩, h0⟩ := h
  refine ⟨⟨vs, h1, h2, fun k hlt v hv => ?_⟩, fun x hx hm => h0 x hx (hY x hm)⟩
  obtain ⟨S, h4, h5⟩ := h3 k hlt v hv
  exact ⟨S, h4, fun x hx => ⟨(h5 x hx).1, fun hm => (h5 x hx).2 (hY x hm)⟩⟩
theorem eC_one (b : List E) : ((b.map eC).flatten).all Q.one = true := by
  rw [List.all_eq_true]
  intro x hx
  obtain ⟨r, hr, hxr⟩ := List.mem_flatten.1 hx
  obtain ⟨y, _, rfl⟩ := List.mem_map.1 hr
  simp only [eC, valV, List.cons_append, List.nil_append, List.mem_cons, List.not_mem_nil, or_false] at hxr
  rcases hxr with rfl | rfl | rfl | rfl <;> rfl
theorem argLt {v : Value} {k : Nat} {rows : List (List Value)} {S : List Nat} (h : ArgAt w v k rows S) : ∃ S', ArgAt w v k rows S' ∧ ∀ x ∈ S', x ∈ S ∧ x < w.heap.size := by
  rcases h with h | h
  · exact ⟨[], .inl h, by simp⟩
  · rcases h with h | ⟨bl, o, cap, c, T, fr, h1, h2, h3, h4⟩
    · exact ⟨[], .inr (.inl h), by simp⟩
    · exact ⟨S, .inr (.inr ⟨bl, o, cap, c, T, fr, h1, h2, h3, h4⟩), fun x hx => ⟨hx, by rw [h2] at hx; simp at hx; rw [hx]; exact lt_of_blk h3⟩⟩
def IxX (X : List Nat) (w : World) (o : Value) (bs : List (List E)) : Prop :=
  ∃ vs : List Value, (∃ So, ArgAt w o 1 (vs.map cel) So ∧ ∀ x ∈ So, x ∉ X) ∧ vs.length = bs.length ∧ ∀ k (h : k < bs.length) v, vs[k]? = some v → ∃ S, ArgAt w v 4 (bs[k].map eC) S ∧ ∀ x ∈ S, x ∉ X
theorem IxX.ix {X : List Nat} (h : IxX X w o bs) : Ix w o bs := by
  obtain ⟨vs, ⟨So, h1, _⟩, h2, h3⟩ := h
  refine ⟨vs, ⟨So, h1⟩, h2, fun k hlt v hv => ?_⟩
  obtain ⟨S, h4, _⟩ := h3 k hlt v hv
  exact ⟨S, h4⟩
theorem IxX.keepS {X S : List Nat} (h : IxX X w o bs) (hk : Kp S w w') (hS : ∀ x ∈ S, x ∈ X) : IxX X w' o bs := by
  obtain ⟨vs, ⟨So, h1, h0⟩, h2, h3⟩ := h
  refine ⟨vs, ⟨So, h1.keep hk fun x hx hm => h0 x hx (hS x hm), h0⟩, h2, fun k hlt v hv => ?_⟩
  obtain ⟨S, h4, h5⟩ := h3 k hlt v hv
  exact ⟨S, h4.keep hk fun x hx hm => h5 x hx (hS x hm), h5⟩
theorem IxX.keep {X : List Nat} (h : IxX X w o bs) (hk : Kp [] w w') : IxX X w' o bs := h.keepS hk (by simp)
theorem IxX.more {X Y : List Nat} (h : IxX X w o bs) (hY : ∀ y ∈ Y, y ∈ X ∨ w.heap.size ≤ y) : IxX Y w o bs := by
  obtain ⟨vs, ⟨So, h1, h0⟩, h2, h3⟩ := h
  obtain ⟨So', g1, g2⟩ := argLt h1
  refine ⟨vs, ⟨So', g1, fun x hx hm => ?_⟩, h2, fun k hlt v hv => ?_⟩
  · rcases hY x hm with hm | hm
    · exact h0 x (g2 x hx).1 hm
    · have := (g2 x hx).2; omega
  · obtain ⟨S, h4, h5⟩ := h3 k hlt v hv
    obtain ⟨S', g3, g4⟩ := argLt h4
    refine ⟨S', g3, fun x hx hm => ?_⟩
    rcases hY x hm with hm | hm
    · exact h5 x (g4 x hx).1 hm
    · have := (g4 x hx).2; omega
theorem IxO.upd {So X : List Nat} (h : IxO w o bs So X) {k : Nat} (hk : k < bs.length) : ∃ p v, (∀ K, ia 1 o (.int .i64 k) K = K p) ∧ (∀ w1, Kp [] w w1 → ∀ K : Value → Prop, ld1 p w1 K = K v) ∧ Rd w v 4 (bs[k].map eC) ∧
    ∀ w2, Kp [] w w2 → ∀ v' b' S', ArgAt w2 v' 4 (b'.map eC) S' → Q.one v' = true → (∀ x ∈ S', x ∉ So ∧ x ∉ X) → ∀ K : World → Prop, (∀ w3, Kp So w2 w3 → IxO w3 o (bs.set k b') So X → K w3) → st1 p v' w2 K := by
  obtain ⟨⟨vs, h1, h2, h3⟩, h0⟩ := h
  have hkv : k < vs.length := by omega
  obtain ⟨bl, g1, g2, g3, g4⟩ := h1.updK (f := cel) hkv
  obtain ⟨S, g5, g6⟩ := h3 k hk vs[k] (by simp [hkv])
  refine ⟨_, vs[k], g2, fun w1 hk1 K => g3 w1 hk1 0 vs[k] rfl K, ⟨S, g5⟩, fun w2 hk2 v' b' S' hv' hone hS' K hK => ?_⟩
  refine g4 w2 hk2 0 (by omega) v' v' hone rfl K fun w3 hk3 hr => hK w3 hk3 ⟨⟨vs.set k v', hr, by simp [h2], fun j hj v hv => ?_⟩, h0⟩
  simp only [List.length_set] at hj
  by_cases he : k = j
  · subst he
    rw [List.getElem?_set_self hkv] at hv
    injection hv with hv
    subst hv
    refine ⟨S', ?_, hS'⟩
    rw [List.getElem_set_self]
    exact hv'.keep hk3 fun x hx => (hS' x hx).1
  · rw [List.getElem?_set_ne he] at hv
    obtain ⟨S2, q1, q2⟩ := h3 j hj v hv
    refine ⟨S2, ?_, q2⟩
    rw [List.getElem_set_ne he]
    exact (q1.keep hk2 (by simp)).keep hk3 fun x hx => (q2 x hx).1
structure Gro (w0 w : World) (y : Nat) (o : Value) (bs : List (List E)) (So : List Nat) (B : Nat → List Nat) : Prop where
  ex : ∃ vs : List Value, RowsAt w o 1 (vs.map cel) So ∧ vs.length = bs.length ∧ ∀ k (h : k < bs.length) v, vs[k]? = some v → RowsAt w v 4 (bs[k].map eC) (B k)
  so : ∀ x ∈ So, w0.heap.size ≤ x ∧ x ≠ y
  b : ∀ k x, x ∈ B k → w0.heap.size ≤ x ∧ x < w.heap.size ∧ x ∉ So ∧ x ≠ y
  nd : ∀ j k x, j ≠ k → x ∈ B j → x ∉ B k
theorem Gro.keep {y : Nat} {So : List Nat} {B : Nat → List Nat} (h : Gro w0 w y o bs So B) (hk : Kp [] w w') : Gro w0 w' y o bs So B := by
  obtain ⟨⟨vs, h1, h2, h3⟩, h4, h5, h6⟩ := h
  exact ⟨⟨vs, h1.keep hk (by simp), h2, fun k hlt v hv => (h3 k hlt v hv).keep hk (by simp)⟩, h4, fun k x hx => by
    obtain ⟨a, b, c⟩ := h5 k x hx
    exact ⟨a, Nat.lt_of_lt_of_le b hk.size, c⟩, h6⟩
theorem Gro.keepS {y : Nat} {So S : List Nat} {B : Nat → List Nat} (h : Gro w0 w y o bs So B) (hk : Kp S w w') (hS : ∀ x ∈ S, x < w0.heap.size ∨ x = y) : Gro w0 w' y o bs So B := by
  obtain ⟨⟨vs, h1, h2, h3⟩, h4, h5, h6⟩ := h
  exact ⟨⟨vs, h1.keep hk fun x hx hm => by have := h4 x hx; have := hS x hm; omega, h2, fun k hlt v hv => (h3 k hlt v hv).keep hk fun x hx hm => by have := h5 k x hx; have := hS x hm; omega⟩, h4, fun k x hx => by
    obtain ⟨a, b, c⟩ := h5 k x hx
    exact ⟨a, Nat.lt_of_lt_of_le b hk.size, c⟩, h6⟩
theorem Gro.push {e bytes : Nat} {z : List Value} {y : Nat} {So : List Nat} {B : Nat → List Nat} (h : Gro w0 w y o bs So B) (hy : y < w.heap.size) (hz : z.length = 4) (hb : bytes ≤ 64) {k : Nat} (hk : k < bs.length) : ∃ p v, (∀ K, ia 1 o (.int .i64 k) K = K p) ∧ (∀ w1, Kp [] w w1 → ∀ K : Value → Prop, ld1 p w1 K = K v) ∧
    ∀ w1, Kp [] w w1 → ∀ x a, Rd w1 x 4 [eC a] → bs[k].length < 2 ^ 30 → ∀ K : Value → World → Prop, (∀ v' w2 B', Kp (B k) w1 w2 → (∀ K2 : World → Prop, (∀ w3, Kp So w2 w3 → Gro w0 w3 y o (bs.set k (bs[k] ++ [a])) So B' → K2 w3) → st1 p v' w2 K2) → K v' w2) → app e 4 bytes z.toArray v x w1 K := by
  obtain ⟨⟨vs, h1, h2, h3⟩, h4, h5, h6⟩ := h
  have hkv : k < vs.length := by omega
  obtain ⟨bl, g1, g2, g3, g4⟩ := h1.updK (f := cel) hkv
  have g5 := h3 k hk vs[k] (by simp [hkv])
  refine ⟨_, vs[k], g2, fun w1 hk1 K => g3 w1 hk1 0 vs[k] rfl K, fun w1 hk1 x a hx hl K hK => ?_⟩
  have hs1 := hk1.size
  have hm : 2 * (bs[k].length + 1) * bytes ≤ 2 ^ 32 * 64 := Nat.mul_le_mul (by omega) hb
  refine rows_app (g5.keep hk1 (by simp)) (by omega) hz (G := [eC a]) (by simp [eC, valV]) (by simpa using eC_one [a]) (fun K' hK' => hx.src K' hK') (by simp; omega) (by simp; omega) fun v' w2 S' hr hk2 hS' => ?_
  have hs2 := hk2.size
  obtain ⟨va, vc, hva, _⟩ := hr.len
  have hone : Q.one v' = true := by rw [hva]; rfl
  have hS2 : ∀ q ∈ S', w0.heap.size ≤ q ∧ q ∉ So ∧ q ≠ y ∧ ∀ j, j ≠ k → q ∉ B j := by
    intro q hq
    rcases hS' q hq with hq | hq
    · obtain ⟨a1, a2, a3, a4⟩ := h5 k q hq
      exact ⟨a1, a3, a4, fun j hj => h6 k j q (fun h => hj h.symm) hq⟩
    · have hso := h1.lt
      refine ⟨?_, fun hm => by have := hso q hm; omega, by omega, fun j hj hm => by have := (h5 j q hm).2.1; omega⟩
      have := (h4 bl (by rw [g1]; simp)).1
      have := hso bl (by rw [g1]; simp)
      omega
  have hnS : ∀ q ∈ So, q ∉ B k := fun q hq hm => (h5 k q hm).2.2.1 hq
  have hso2 := (h1.keep hk1 (by simp)).keep hk2 hnS
  obtain ⟨bl', g1', g2', g3', g4'⟩ := hso2.updK (f := cel) hkv
  have hbl : bl' = bl := by rw [g1] at g1'; simpa using g1'.symm
  subst hbl
  refine hK v' w2 (fun j => if j = k then S' else B j) hk2 fun K2 hK2 => ?_
  refine g4' w2 (Kp.refl _ _) 0 (by omega) v' v' hone rfl K2 fun w3 hk3 hr3 => hK2 w3 hk3 ⟨⟨vs.set k v', hr3, by simp [h2], fun j hj v hv => ?_⟩, h4, fun j q hq => ?_, fun i j q hij hq => ?_⟩
  · simp only [List.length_set] at hj
    by_cases he : k = j
    · subst he
      rw [List.getElem?_set_self hkv] at hv
      injection hv with hv
      subst hv
      simp only [if_true]
      rw [List.getElem_set_self, List.map_append]
      exact hr.keep hk3 fun q hq => (hS2 q hq).2.1
    · rw [List.getElem?_set_ne he] at hv
      rw [List.getElem_set_ne he]
      have hjk : ¬ j = k := fun h => he h.symm
      simp only [if_neg hjk]
      exact (((h3 j hj v hv).keep hk1 (by simp)).keep hk2 fun q hq => h6 j k q hjk hq).keep hk3 fun q hq => (h5 j q hq).2.2.1
  · have hs3 := hk3.size
    by_cases hj : j = k
    · simp only [if_pos hj] at hq
      obtain ⟨a1, a2, a3, a4⟩ := hS2 q hq
      have := hr.lt q hq
      exact ⟨a1, by omega, a2, a3⟩
    · simp only [if_neg hj] at hq
      obtain ⟨a1, a2, a3, a4⟩ := h5 j q hq
      exact ⟨a1, by omega, a3, a4⟩
  · by_cases hi : i = k
    · have hj : ¬ j = k := fun h => hij (hi.trans h.symm)
      simp only [if_pos hi] at hq
      simp only [if_neg hj]
      exact (hS2 q hq).2.2.2 j hj
    · simp only [if_neg hi] at hq
      by_cases hj : j = k
      · simp only [if_pos hj]
        intro hm
        exact (hS2 q hm).2.2.2 i hi hq
      · simp only [if_neg hj]
        exact h6 i j q hij hq
end
end Go.Q

set_option linter.unusedVariables false
set_option linter.unusedSimpArgs false
namespace Go.Q
def ltV (a b : V3) : Prop := a.k < b.k ∨ a.k = b.k ∧ (a.n < b.n ∨ a.n = b.n ∧ lexL a.s b.s = true)
instance (a b : V3) : Decidable (ltV a b) := by unfold ltV; infer_instance
def leV (a b : V3) : Prop := ¬ ltV b a
instance (a b : V3) : Decidable (leV a b) := by unfold leV; infer_instance
structure ColV where
  nulls : Nat
  distinct : Nat
  steps : List V3
structure StatV where
  rows : Nat
  cols : List ColV
end Go.Q

set_option linter.unusedVariables false
set_option linter.unusedSimpArgs false
namespace Go.Q
structure Bd where
  has : Bool
  open_ : Bool
  val : V3
def above (v : V3) (lo : Bd) : Prop := lo.has = true → ltV lo.val v ∨ lo.val = v ∧ lo.open_ = false
def under (v : V3) (hi : Bd) : Prop := hi.has = true → ltV v hi.val ∨ v = hi.val ∧ hi.open_ = false
instance (v : V3) (lo : Bd) : Decidable (above v lo) := by unfold above; infer_instance
instance (v : V3) (hi : Bd) : Decidable (under v hi) := by unfold under; infer_instance
end Go.Q

set_option linter.unusedVariables false
set_option linter.unusedSimpArgs false
namespace Go.Q
end Go.Q

set_option linter.unusedVariables false
set_option linter.unusedSimpArgs false
namespace Go.Q
section
variable {α : Type} {k : Nat} {f : α → List Value} {w0 w w' : World} {o v : Value} {bs : List (List α)} {rows : List (List Value)}
def Nst (k : Nat) (f : α → List Value) (w : World) (o : Value) (bs : List (List α)) : Prop :=
  ∃ vs : List Value, Rd w o 1 (vs.map cel) ∧ vs.length = bs.length ∧ ∀ i (h : i < bs.length) v, vs[i]? = some v → Rd w v k (bs[i].map f)
theorem Nst.keep (h : Nst k f w o bs) (hk : Kp [] w w') : Nst k f w' o bs := by
  obtain ⟨vs, h1, h2, h3⟩ := h
  exact ⟨vs, h1.keep hk, h2, fun i hi v hv => (h3 i hi v hv).keep hk⟩
theorem Nst.lenL (h : Nst k f w o bs) {K : Value → Prop} : lenL o K = K (.int .i64 bs.length) := by
  obtain ⟨vs, h1, h2, h3⟩ := h
  rw [h1.lenL, List.length_map, h2]
theorem Nst.at (h : Nst k f w o bs) {i : Nat} (hi : i < bs.length) : ∃ p v, (∀ K, ia 1 o (.int .i64 i) K = K p) ∧ (∀ w', Kp [] w w' → ∀ K : Value → Prop, ld1 p w' K = K v) ∧ Rd w v k (bs[i].map f) := by
  obtain ⟨vs, h1, h2, h3⟩ := h
  have hkv : i < (vs.map cel).length := by simpa [h2] using hi
  obtain ⟨p, g1, g2⟩ := h1.oneK (i := i) hkv (x := vs[i]'(by omega)) (by simp [cel])
  exact ⟨p, vs[i]'(by omega), fun K => g1 .i64 K, g2, h3 i hi _ (by simp [h2, hi])⟩
theorem Fr.keepS {S : List Nat} {wb : World} (h : Fr w0 w v k rows) (hk : Kp S w w') (hS : ∀ x ∈ S, x < w0.heap.size) (hb : Kp [] wb w') (hs : wb.heap.size ≤ w0.heap.size) : Fr wb w' v k rows := by
  obtain ⟨Sv, h1, h2⟩ := h.ex
  exact ⟨⟨Sv, h1.keep hk fun x hx hm => by have := h2 x hx; have := hS x hm; omega, fun x hx => by have := h2 x hx; omega⟩, hb⟩
theorem kp_turn {b : Nat} {o o' : Obj} (h : Kp [] (setBlk w0 b o) w) (hb : b < w0.heap.size) : Kp [] (setBlk w0 b o') (setBlk w b o') := by
  have hs := h.size
  simp only [size_setBlk] at hs
  refine ⟨h.os, h.tape, h.output, by simpa using hs, fun c hc _ => ?_⟩
  simp only [size_setBlk] at hc
  by_cases e : b = c
  · subst e
    rw [heap_self (by unfold Live; omega), heap_self (by unfold Live; omega)]
  · have := h.keep c (by simpa using hc) (by simp)
    rw [heap_ne e] at this
    rw [heap_ne e, heap_ne e, this]
theorem Fr.turn {b : Nat} {o o' : Obj} (h : Fr (setBlk w0 b o) w v k rows) (hb : b < w0.heap.size) : Fr (setBlk w0 b o') (setBlk w b o') v k rows :=
  h.keepS (S := [b]) ((Kp.refl _ _).setBlk (.inl (by simp)) _) (by simpa using hb) (kp_turn h.kp hb) (by simp)
end
def cC (n d : Int) (v : Value) : List Value := [.int .i64 n, .int .i64 d, v]
def ColX (X : List Nat) (w : World) (cs : List Value) (c : ColV) : Prop := ∃ v, cs = cC c.nulls c.distinct v ∧ one v = true ∧ ∃ S, ArgAt w v 3 (c.steps.map valV) S ∧ ∀ x ∈ S, x ∉ X
section
variable {w w' : World} {X Y S : List Nat} {cs : List Value} {c : ColV}
theorem ColX.keepS (h : ColX X w cs c) (hk : Kp S w w') (hS : ∀ x ∈ S, x ∈ X) : ColX X w' cs c := by
  obtain ⟨v, h1, h0, Sv, h2, h3⟩ := h
  exact ⟨v, h1, h0, Sv, h2.keep hk fun x hx hm => h3 x hx (hS x hm), h3⟩
theorem ColX.keep (h : ColX X w cs c) (hk : Kp [] w w') : ColX X w' cs c := h.keepS hk (by simp)
theorem ColX.more (h : ColX X w cs c) (hY : ∀ y ∈ Y, y ∈ X ∨ w.heap.size ≤ y) : ColX Y w cs c := by
  obtain ⟨v, h1, h0, Sv, h2, h3⟩ := h
  obtain ⟨S', g1, g2⟩ := argLt h2
  refine ⟨v, h1, h0, S', g1, fun x hx hm => ?_⟩
  rcases hY x hm with hm | hm
  · exact h3 x (g2 x hx).1 hm
  · have := (g2 x hx).2; omega
theorem ColX.step (h : ColX X w cs c) (hk : Kp S w w') (hS : ∀ x ∈ S, x ∈ X) (hY : ∀ y ∈ Y, y ∈ X ∨ w.heap.size ≤ y) : ColX Y w' cs c := by
  have h1 : ColX (X ++ Y) w cs c := h.more fun y hy => by
    rcases List.mem_append.1 hy with hy | hy
    · exact .inl hy
    · exact hY y hy
  exact (h1.keepS hk fun x hx => List.mem_append_left _ (hS x hx)).more fun y hy => .inl (List.mem_append_right _ hy)
theorem ColX.len (h : ColX X w cs c) : cs.length = 3 := by obtain ⟨v, h1, _⟩ := h; rw [h1]; rfl
theorem ColX.ones (h : ColX X w cs c) : cs.all one = true := by obtain ⟨v, h1, h2, _⟩ := h; rw [h1]; simp [cC, h2]
def StatAt (w : World) (val : Value) (st : StatV) : Prop := ∃ o css, val = .agg #[.int .i64 st.rows, o] ∧ one o = true ∧ Rd w o 3 css ∧ css.length = st.cols.length ∧ ∀ i (h : i < st.cols.length) cs, css[i]? = some cs → ColX [] w cs st.cols[i]
theorem StatAt.keep {val : Value} {st : StatV} (h : StatAt w val st) (hk : Kp [] w w') : StatAt w' val st := by
  obtain ⟨o, css, h1, h0, h2, h3, h4⟩ := h
  exact ⟨o, css, h1, h0, h2.keep hk, h3, fun i hi cs hcs => (h4 i hi cs hcs).keep hk⟩
end
end Go.Q

set_option maxRecDepth 100000
set_option linter.unusedVariables false
set_option linter.unusedSimpArgs false
namespace Go.Proofs
open Go Go.Q
theorem Rd.isOne8 {w : World} {v : Value} {k : Nat} {rows : List (List Value)} (h : Rd w v k rows) : Q.one v = true := by
  obtain ⟨a, c, rfl⟩ := h.slice
  rfl
section
variable {w0 w w' : World} {kb bd ab : Nat} {l l' : LV} {t : Nat} {lp : Value} {X S B : List Nat} {R : Value → World → Prop} {d : DK} {g : LG}
theorem KS.keep (h : KS w0 w kb bd ab l t g d B) (hk : Kp [] w w') : KS w0 w' kb bd ab l t g d B := ⟨h.ol.keep0 hk, h.kb0, h.kbB, h.kc.keep0 hk⟩
theorem KS.keepS (h : KS w0 w kb bd ab l t g d B) (hk : Kp S w w') (hS : ∀ y ∈ S, y ∉ kb :: B) (h0 : ∀ y ∈ S, w0.heap.size ≤ y) (hX : ∀ v, LX (kb :: B) w v l → LX (kb :: B) w' v l) : KS w0 w' kb bd ab l t g d B := by
  have hkb : kb ∉ S := fun hm => hS kb hm (by simp)
  obtain ⟨a, b, c, h1, h2⟩ := h.kc.ex
  exact ⟨h.ol.keep hk (fun y hy hm => hS y hm (by simp [hy])) (h.ol.kp.trans hk fun y hy hlt => by have := h0 y hy; omega), h.kb0, h.kbB, ⟨a, b, c, hk.get h1 hkb, hX _ h2⟩⟩
theorem KS.kp (h : KS w0 w kb bd ab l t g d B) : Kp [] w0 w := h.ol.kp
theorem KS.lts (h : KS w0 w kb bd ab l t g d B) : ∀ y ∈ kb :: B, y < w.heap.size := by
  intro y hy
  rcases List.mem_cons.1 hy with rfl | hy
  · exact h.kc.lt
  · exact h.ol.live y hy
theorem given_k (h : KC w kb bd l t lp X) (hR : R (.bool true) w) : callG Tryz.prog 40 #[.pointer (some ⟨kb, 0, none⟩)] w R := by
  refine keep_Keep_given_call ?_
  unfold keep_Keep_given keep_Keep_given_s0
  rw [bq_pneq _ (by kernel_rfl)]
  simp only [bV_b, Option.isNone_some, Bool.not_false]
  refine ⟨fun _ => ?_, fun h => by simp at h⟩
  rw [nk_p, fa_p, h.ldd, bq_pneq _ (by kernel_rfl)]
  exact hR
theorem turn_k (h : KC w kb bd l t lp X) (hR : R (.int .i64 (t : Nat)) w) : callG Tryz.prog 16 #[.pointer (some ⟨kb, 0, none⟩)] w R := by
  refine keep_Keep_Turn_call ?_
  unfold keep_Keep_Turn keep_Keep_Turn_s0
  refine given_k h ?_
  simp only [un_not, bV_b]
  refine ⟨fun h => by simp at h, fun _ => ?_⟩
  rw [nk_p, fa_p, h.ldt]
  exact hR
theorem ledger_k (h : KC w kb bd l t lp X) (hm : May l) (hR : ∀ w' v, Kp [] w w' → LedAt w' v l → (∀ Y : List Nat, (∀ y ∈ Y, y < w.heap.size) → LX Y w' v l) → R v w') : callG Tryz.prog 13 #[.pointer (some ⟨kb, 0, none⟩)] w R := by
  refine keep_Keep_Ledger_call ?_
  unfold keep_Keep_Ledger keep_Keep_Ledger_s0
  have hfew := hm.few
  unfold fullL at hfew
  simp only [decide_eq_false_iff_not, not_or, Nat.not_lt] at hfew
  obtain ⟨fw1, fw2, fw3⟩ := hfew
  refine newB fun p2 w1 hp2 h2 k1 => ?_
  have h1 := h.keep0 k1
  refine given_k h1 ?_
  simp only [un_not, bV_b]
  refine ⟨fun h => by simp at h, fun _ => ?_⟩
  obtain ⟨a, b, c, hcell, hlx⟩ := h1.ex
  have hld : ∀ K : Value → Prop, ldn 4 (.pointer (some ⟨kb, 0 + 1, none⟩)) w1 K = K (.agg #[a, b, c, .int .i64 l.ops]) := fun K => ldP hcell (p := #[a, b, c, .int .i64 l.ops]) rfl (by simp)
  obtain ⟨a', b', c', e, r1, r2, r3⟩ := hlx.at
  simp only [Value.agg.injEq, Array.mk.injEq, List.cons.injEq] at e
  obtain ⟨rfl, rfl, rfl, _⟩ := e
  rw [nk_p, fa_p, hld]
  refine newB fun p3 w2 hp3 h3 k2 => ?_
  have z1 := k1.size
  have z2 := k2.size
  have l2 := lt_of_blk h2
  have l3 := lt_of_blk h3
  have o1 : Q.one a = true := Rd.isOne8 r1
  have o2 : Q.one b = true := Rd.isOne8 r2
  have o3 : Q.one c = true := Rd.isOne8 r3
  rw [stA (k := 4) (c := #[a, b, c, .int .i64 l.ops]) h3 (by rw [zcLed]; rfl) rfl (by simp [o1, o2, o3])]
  generalize hw3 : setBlk w2 p3 (.cells #[a, b, c, .int .i64 l.ops] 26) = w3
  have h33 : w3.heap[p3]? = some (.cells #[a, b, c, .int .i64 l.ops] 26) := by rw [← hw3]; exact heap_self (live_of h3)
  have k3 : Kp [p3] w2 w3 := by rw [← hw3]; exact (Kp.refl _ _).setBlk (.inl (by simp)) _
  have k13 : Kp [] w1 w3 := k2.trans k3 fun y hy hlt => by simp at hy; omega
  have z3 := k3.size
  have h23 := k13.get h2 (by simp)
  have h3d : w3.drew.heap[p3]? = some (.cells #[a, b, c, .int .i64 l.ops] 26) := h33
  have kd : Kp [] w3 w3.drew := (Kp.refl [] w3).drew
  rw [fa_p, ldF (w := w3.drew) h3d (j := 0 + 0) (x := a) rfl, fa_p, ldF (w := w3.drew) h3d (j := 0 + 1) (x := b) rfl, fa_p, ldF (w := w3.drew) h3d (j := 0 + 2) (x := c) rfl]
  refine cloneStock_spec (r1.keep (k13.trans' kd)) (by omega) fun v1 w4 hf1 => ?_
  have h34 := hf1.kp.get h3d (by simp)
  have z4 := hf1.kp.size
  have zd : w3.drew.heap.size = w3.heap.size := rfl
  refine ⟨by rw [ldF h34 (j := 0 + 2) (x := c) rfl], by rw [ldF h34 (j := 0 + 1) (x := b) rfl], ?_⟩
  rw [fa_p]
  refine cloneHold_spec (r2.keep ((k13.trans' kd).trans' hf1.kp)) (by omega) fun v2 w5 hf2 => ?_
  have h35 := hf2.kp.get h34 (by simp)
  have z5 := hf2.kp.size
  refine ⟨by rw [ldF h35 (j := 0 + 2) (x := c) rfl], ?_⟩
  refine cloneMove_spec (r3.keep (((k13.trans' kd).trans' hf1.kp).trans' hf2.kp)) (by omega) fun v3 w6 hf3 => ?_
  have h36 := hf3.kp.get h35 (by simp)
  have z6 := hf3.kp.size
  rw [stF h36 (by simp) hf1.one]
  generalize hw7 : setBlk w6 p3 _ = w7
  have h37 : w7.heap[p3]? = some (.cells #[v1, b, c, .int .i64 l.ops] 26) := by rw [← hw7]; exact heap_self (live_of h36)
  have k7 : Kp [p3] w6 w7 := by rw [← hw7]; exact (Kp.refl _ _).setBlk (.inl (by simp)) _
  rw [fa_p, stF h37 (by simp) hf2.one]
  generalize hw8 : setBlk w7 p3 _ = w8
  have h38 : w8.heap[p3]? = some (.cells #[v1, v2, c, .int .i64 l.ops] 26) := by rw [← hw8]; exact heap_self (live_of h37)
  have k8 : Kp [p3] w7 w8 := by rw [← hw8]; exact (Kp.refl _ _).setBlk (.inl (by simp)) _
  rw [fa_p, stF h38 (by simp) hf3.one]
  generalize hw9 : setBlk w8 p3 _ = w9
  have h39 : w9.heap[p3]? = some (.cells #[v1, v2, v3, .int .i64 l.ops] 26) := by rw [← hw9]; exact heap_self (live_of h38)
  have k9 : Kp [p3] w8 w9 := by rw [← hw9]; exact (Kp.refl _ _).setBlk (.inl (by simp)) _
  have k69 := (k7.trans' k8).trans' k9
  have k36 : Kp [] w3 w6 := ((kd.trans' hf1.kp).trans' hf2.kp).trans' hf3.kp
  have h29 := k69.get (k36.get h23 (by simp)) (by simp; omega)
  rw [ldA (k := 4) h39 rfl]
  refine retB (by kernel_rfl) (by kernel_rfl) h29 (by rw [zcLed]; rfl) rfl (by simp [hf1.one, hf2.one, hf3.one]) fun w10 k10 => ?_
  have k610 : Kp [p3, p2] w6 w10 := (k69.mono fun y hy _ => by simp at hy; simp [hy]).trans' (k10.mono fun y hy _ => by simp at hy; simp [hy])
  have k010 : Kp [] w w10 := ((k1.trans' k13).trans' k36).trans k610 fun y hy hlt => by simp at hy; omega
  have g1 := hf1.keepS (wb := w) ((hf2.kp.trans' hf3.kp).mono (by simp) |>.trans' k610) (by simp; omega) k010 (by omega)
  have g2 := hf2.keepS (wb := w) (hf3.kp.mono (by simp) |>.trans' k610) (by simp; omega) k010 (by omega)
  have g3 := hf3.keepS (wb := w) k610 (by simp; omega) k010 (by omega)
  refine hR w10 _ k010 ⟨v1, v2, v3, rfl, g1.rd, g2.rd, g3.rd⟩ fun Y hY => ?_
  obtain ⟨SA, x1, y1⟩ := g1.ex
  obtain ⟨SB, x2, y2⟩ := g2.ex
  obtain ⟨SC, x3, y3⟩ := g3.ex
  refine ⟨SA ++ (SB ++ SC), ⟨⟨v1, v2, v3, SA, SB, SC, rfl, .inr x1.rd, .inr x2.rd, .inr x3.rd, rfl⟩, fun q hq => ?_⟩, fun q hq hm => ?_⟩
  · simp only [List.mem_append] at hq
    rcases hq with hq | hq | hq
    · exact x1.lt q hq
    · exact x2.lt q hq
    · exact x3.lt q hq
  · have := hY q hm
    simp only [List.mem_append] at hq
    rcases hq with hq | hq | hq
    · have := y1 q hq; omega
    · have := y2 q hq; omega
    · have := y3 q hq; omega
theorem sync_k (h : KS w0 w kb bd ab l t g d B) (hl : d.l.length < 2 ^ 40) (hR : ∀ w', KS w0 w' kb bd ab l t g d.flush.1 B → Kp (kb :: B) w w' → R (.int .i64 d.flush.2) w') : callG Tryz.prog 19 #[.pointer (some ⟨kb, 0, none⟩)] w R := by
  refine keep_Keep_Sync_call ?_
  unfold keep_Keep_Sync keep_Keep_Sync_s0
  refine given_k h.kc ?_
  simp only [un_not, bV_b]
  refine ⟨fun h => by simp at h, fun _ => ?_⟩
  rw [nk_p, fa_p, h.kc.ldlog]
  refine ol_sync h.ol hl fun w1 o1 k1 => ?_
  exact hR w1 ⟨o1, h.kb0, h.kbB, h.kc.keep k1 (fun y hy => hy) h.kbB⟩ (k1.mono fun y hy _ => by simp [hy])
end
end Go.Proofs

set_option maxRecDepth 100000
set_option linter.unusedVariables false
set_option linter.unusedSimpArgs false
namespace Go.Proofs
open Go Go.Q
theorem stP8 {w : World} {b o k : Nat} {pre old cs post : List Value} {T : TypeId} (h : w.heap[b]? = some (.cells (pre ++ (old ++ post)).toArray T)) (ho : o = pre.length) (hk : cs.length = k) (hl : old.length = k) (hone : cs.all Q.one = true) {K : World → Prop} :
    stn k (.pointer (some ⟨b, o, none⟩)) (.agg cs.toArray) w K = K (setBlk w b (.cells (pre ++ (cs ++ post)).toArray T)) := by
  rw [stn_p, wrN_mk, h]
  have hsp : splice (pre ++ (old ++ post)).toArray o cs.toArray = (pre ++ (cs ++ post)).toArray := by
    subst ho; subst hk
    simp [splice, List.take_append, List.drop_append, ← hl]
  apply propext
  constructor
  · rintro ⟨_, _, hk⟩
    rw [hsp] at hk
    exact hk
  · intro hK
    refine ⟨by simpa using hk, ⟨by simp; omega, by rw [okFr0]; trivial, by simpa using hone⟩, ?_⟩
    rw [hsp]; exact hK
section
variable {w0 w w' : World} {kb bd ab : Nat} {l l' : LV} {t : Nat} {lp : Value} {X S B : List Nat} {R : Value → World → Prop} {d : DK} {g : LG}
theorem KC.stl (h : KC w kb bd l t lp X) {a b c : Value} (hv : LX (kb :: X) w (.agg #[a, b, c, .int .i64 l'.ops]) l') {K : World → Prop} (hK : ∀ w', KC w' kb bd l' t lp X → Kp [kb] w w' → K w') :
    stn 4 (.pointer (some ⟨kb, 0 + 1, none⟩)) (.agg #[a, b, c, .int .i64 l'.ops]) w K := by
  obtain ⟨a0, b0, c0, h1, h2⟩ := h.ex
  obtain ⟨a', b', c', e, r1, r2, r3⟩ := hv.at
  simp only [Value.agg.injEq, Array.mk.injEq, List.cons.injEq] at e
  obtain ⟨rfl, rfl, rfl, _⟩ := e
  have h1' : w.heap[kb]? = some (.cells ([Value.pointer (some ⟨bd, 0, none⟩)] ++ ([a0, b0, c0, Value.int .i64 l.ops] ++ [Value.int .i64 (t : Nat), lp])).toArray 58) := h1
  rw [show (#[a, b, c, Value.int .i64 l'.ops] : Array Value) = [a, b, c, Value.int .i64 l'.ops].toArray from rfl, stP8 (o := 0 + 1) (k := 4) (cs := [a, b, c, Value.int .i64 l'.ops]) h1' rfl rfl rfl (by simp only [List.all_cons, List.all_nil, Rd.isOne8 r1, Rd.isOne8 r2, Rd.isOne8 r3, Bool.and_true, Bool.true_and]; rfl)]
  have hk : Kp [kb] w (setBlk w kb (.cells ([Value.pointer (some ⟨bd, 0, none⟩)] ++ ([a, b, c, Value.int .i64 l'.ops] ++ [Value.int .i64 (t : Nat), lp])).toArray 58)) := (Kp.refl _ _).setBlk (.inl (by simp)) _
  exact hK _ ⟨a, b, c, heap_self (live_of h1), hv.keepS hk (by simp)⟩ hk
def subL (l : LV) (g : LG) (d : DK) (o : OpV) : LV × LG × DK × Int :=
  if (applyL l o).2 ≠ 0 then (l, g, d, (applyL l o).2)
  else if ¬ usedOf (recL (applyL l o).1) ≤ 32 * ((d.now.length - 2) / 2) then (l, g, d, 2)
  else if (addG g d [79 :: (putOp o).1]).2.2 ≠ 0 then (l, (addG g d [79 :: (putOp o).1]).1, (addG g d [79 :: (putOp o).1]).2.1, (addG g d [79 :: (putOp o).1]).2.2)
  else ((applyL l o).1, (addG g d [79 :: (putOp o).1]).1, (addG g d [79 :: (putOp o).1]).2.1, 0)
theorem applyL_may (hm : May l) {o : OpV} (ho : o.Wf) : May (applyL l o).1 := by
  unfold applyL
  split
  · exact stepL_may hm ho
  · exact may_z
theorem submit_k (h : KS w0 w kb bd ab l t g d B) (hm : May l) {o : OpV} (how : o.Wf) (h4 : 4 ≤ d.now.length) (hw' : (applyL l o).2 = 0 → LWf (applyL l o).1 ∧ Recs (recL (applyL l o).1)) (hgl : g.l.length < 2 ^ 38) (hdl : d.l.length < 2 ^ 38) {lo hi : Nat} (hlo : g.lo = (lo : Int)) (hhi : g.hi = (hi : Int)) (hlh : lo ≤ hi) (hhi2 : hi ≤ 4096) (hroom : (g.used.length : Int) ≤ 32 * (hi - lo))
    (hR : ∀ w' B', KS w0 w' kb bd ab (subL l g d o).1 t (subL l g d o).2.1 (subL l g d o).2.2.1 B' → Kp (kb :: B) w w' → (∀ y ∈ B', y ∈ B ∨ w.heap.size ≤ y) → R (.int .i64 (subL l g d o).2.2.2) w') :
    callG Tryz.prog 12 #[.pointer (some ⟨kb, 0, none⟩), .agg (opC o).toArray] w R := by
  refine keep_Keep_Submit_call ?_
  unfold keep_Keep_Submit keep_Keep_Submit_s0
  refine argBox (cs := opC o) fun p3 w1 hp3 h3 k1 => ?_
  have h1 := h.keep k1
  have hlts := h.lts
  have z0 := h.kp.size
  have z1 := k1.size
  have l3 := lt_of_blk h3
  refine given_k h1.kc ?_
  simp only [un_not, bV_b]
  refine ⟨fun h => by simp at h, fun _ => ?_⟩
  have kd : Kp [] w1 w1.drew := (Kp.refl [] w1).drew
  have h1d := h1.keep kd
  have h3d := kd.get h3 (by simp)
  have zd : w1.drew.heap.size = w1.heap.size := rfl
  obtain ⟨v, hv1, hv2⟩ := h1d.kc.ldl
  rw [nk_p, fa_p, hv1, ldAll (k := 7) h3d rfl]
  have hq := wf_rng how
  -- behind Apply, and the variable
  have tail : ∀ (p5 : Nat) (w4 : World), w1.heap.size ≤ p5 → Kp [] w1 w4 → VX (p5 :: kb :: B) w4 p5 (applyL l o).1 → w4.heap[p3]? = some (.cells (opC o).toArray 42) →
      (qG Tryz.prog (bq .neq 30 (.tmp 22) (.const (.int .i64 0)) (.int .i64 (applyL l o).2) (.int .i64 0)) w4 fun t24 =>
  bV t24
  (R (.int .i64 (applyL l o).2) w4)
  (ldn 4 (.pointer (some ⟨p5, 0, none⟩)) w4 fun t27 =>
  callG Tryz.prog 8 #[t27] w4 fun t28 w =>
  qG Tryz.prog (Instr.extract t28 0) w fun t29 =>
  qG Tryz.prog (Instr.extract t28 1) w fun t30 =>
  qG Tryz.prog (bq .neq 30 (.tmp 30) (.const (.int .i64 0)) t30 (.int .i64 0)) w fun t32 =>
  bV t32
  (R t30 w)
  (callG Tryz.prog 42 #[.pointer (some ⟨kb, 0, none⟩), t29] w fun t36 w =>
  qG Tryz.prog (Op.unary .not t36) w fun t37 =>
  bV t37
  (R (.int .i64 2) w)
  (ldn 7 (.pointer (some ⟨p3, 0, none⟩)) w fun t39 =>
  callG Tryz.prog 43 #[t39] w fun t40 w =>
  qG Tryz.prog (Instr.extract t40 0) w fun t41 =>
  qG Tryz.prog (Instr.extract t40 1) w fun t42 =>
  nk (.pointer (some ⟨kb, 0, none⟩)) fun t44 =>
  fa 6 t44 fun t45 =>
  ld1 t45 w fun t46 =>
  qG Tryz.prog (bq .add 9 (.const (.string ⟨#[79]⟩)) (.tmp 41) (.string ⟨#[79]⟩) t41) w fun t48 =>
  bsl 9 1 1 (zc Tryz.prog 9) #[(0, t48)] w fun t49 w =>
  callG Tryz.prog 44 #[t46, t49] w fun t50 w =>
  qG Tryz.prog (bq .neq 30 (.tmp 50) (.const (.int .i64 0)) t50 (.int .i64 0)) w fun t52 =>
  bV t52
  (R t50 w)
  (ldn 4 (.pointer (some ⟨p5, 0, none⟩)) w fun t55 =>
  nk (.pointer (some ⟨kb, 0, none⟩)) fun t56 =>
  fa 1 t56 fun t57 =>
  stn 4 t57 t55 w fun w =>
  R (.int .i64 0) w))))) := by
    intro p5 w4 hp5 k4 c4 h34
    have h4' := h1.keep k4
    have k04 := k1.trans' k4
    have z4 := k4.size
    unfold subL at hR
    simp only [bq_neq, bV_b, decide_eq_true_eq, decide_eq_false_iff_not]
    refine ⟨fun he => ?_, fun he => ?_⟩
    · rw [if_pos he] at hR
      exact hR w4 B h4' (k04.mono (by simp)) fun y hy => .inl hy
    have he : (applyL l o).2 = 0 := Decidable.not_not.1 he
    rw [if_neg (by rw [he]; simp)] at hR
    obtain ⟨hwf, hrec⟩ := hw' he
    have hm' := applyL_may hm how
    generalize hl' : (applyL l o).1 = l' at *
    obtain ⟨v5, hld5, hv5⟩ := c4.ld
    rw [hld5]
    refine Records_k hm' hwf hv5.at fun w5 v6 hf5 => ?_
    have k5 := hf5.kp
    rw [ex0, ex1]
    simp only [bq_neq, bV_b, decide_eq_true_eq]
    refine ⟨fun hh => absurd rfl hh, fun _ => ?_⟩
    have h5 := h4'.keep k5
    obtain ⟨S, SL, lv, eB, hd5, _⟩ := h5.ol.ex
    refine fits_k h5.kc hd5 h4 hf5.rd hrec fun w6 k6 => ?_
    have k06 := (k04.trans' k5).trans' k6
    have h6 := h5.keep k6
    simp only [un_not, bV_b, Bool.not_eq_true', decide_eq_false_iff_not, Bool.not_eq_false', decide_eq_true_eq]
    refine ⟨fun hno => ?_, fun hfit => ?_⟩
    · rw [if_pos hno] at hR
      exact hR w6 B h6 (k06.mono (by simp)) fun y hy => .inl hy
    rw [if_neg (by simpa using hfit)] at hR
    have h36 := k6.get (k5.get h34 (by simp)) (by simp)
    rw [ldAll (k := 7) h36 rfl]
    refine PutOp_spec o how fun w7 k7 => ?_
    have h7 := h6.keep k7
    rw [ex0, ex1, nk_p, fa_p, h7.kc.ldlog]
    have hpl : (putOp o).1.length ≤ 20000 := by
      unfold putOp
      split
      · exact putRow_len (by simp [opRow])
      · simp
    rw [show (Value.string ⟨#[79]⟩) = .string (str [79]) from rfl, bq_sadd (by rw [str_size, str_size]; simp; omega), str_append, bsl_one rfl]
    obtain ⟨w8, hw8⟩ : ∃ w8, w8 = w7.alloc (.cells #[.string (str ([79] ++ (putOp o).1))] 9) := ⟨_, rfl⟩
    have k8 : Kp [] w7 w8 := by rw [hw8]; exact (Kp.refl [] w7).alloc _
    have hb8 : w8.heap[w7.heap.size]? = some (.cells #[.string (str ([79] ++ (putOp o).1))] 9) := by rw [hw8]; exact heap_new
    rw [← hw8]
    have hs8 : RdAt w8 (.slice (some ⟨w7.heap.size, 0, none⟩) 1 1) 1 ([79 :: (putOp o).1].map strV) [w7.heap.size] :=
      .inr ⟨_, 0, 1, _, _, _, rfl, rfl, hb8, by simp [strV], by simp, by simp [strV], by simp⟩
    have h8 := h7.keep k8
    have k08 := (k06.trans' k7).trans' k8
    have z8 := k08.size
    have z7 := (k06.trans' k7).size
    have l8 := lt_of_blk hb8
    have k48 := ((k5.trans' k6).trans' k7).trans' k8
    have c8 := c4.keep k48
    obtain ⟨vv, a, b, c, hh5, hve, hlx⟩ := c8.ex
    have hp5B : p5 ∉ B := fun hm => by have := hlts p5 (by simp [hm]); omega
    refine ol_add h8.ol (.inr hs8) (fun x hx hm => by simp at hx; subst hx; have := hlts _ (List.mem_cons_of_mem _ hm); omega) (fun x hx => by simp at hx; subst hx; exact l8) (lo := lo) (hi := hi) (by simp; omega) (by intro s hs; simp at hs; rw [hs]; simp; omega) hlo hhi hlh hhi2 hroom (by omega) fun w9 B' o9 k9 hB' => ?_
    have hkbB := h.kbB
    have hkb' : kb ∉ B' := fun hm => by
      have := hlts kb (by simp)
      rcases hB' kb hm with hh | hh
      · exact hkbB hh
      · omega
    have hBw : ∀ y ∈ B', y ∈ B ∨ w.heap.size ≤ y := fun y hy => (hB' y hy).imp id fun hh => by omega
    have kc9 : KC w9 kb bd l t (.pointer (some ⟨ab, 0, none⟩)) B' := ((h8.kc.grow (Y := B ++ B') fun y hy => by
      rcases List.mem_append.1 hy with hh | hh
      · exact .inl hh
      · exact hB' y hh).keep k9 (fun y hy => by simp [hy]) hkbB).grow fun y hy => .inl (by simp [hy])
    have k09 : Kp (kb :: B) w w9 := (k08.mono (by simp)).trans' (k9.mono fun y hy _ => by simp [hy])
    simp only [bq_neq, bV_b, decide_eq_true_eq, decide_eq_false_iff_not]
    refine ⟨fun he2 => ?_, fun he2 => ?_⟩
    · rw [if_pos he2] at hR
      exact hR w9 B' ⟨o9, h.kb0, hkb', kc9⟩ k09 hBw
    have he2 : (addG g d [79 :: (putOp o).1]).2.2 = 0 := Decidable.not_not.1 he2
    rw [if_neg (by rw [he2]; simp)] at hR
    rw [ldAll (k := 4) (k9.get hh5 hp5B) rfl, nk_p, fa_p]
    have hlx9 : LX (kb :: B') w9 (.agg #[a, b, c, .int .i64 l'.ops]) l' := by
      rw [← hve]
      refine LX.less (LX.keepS (X := p5 :: kb :: (B ++ B')) (LX.grow hlx fun y hy => ?_) k9 fun y hy => by simp [hy]) fun y hy => ?_
      · simp only [List.mem_cons, List.mem_append] at hy ⊢
        rcases hy with hh | hh | hh | hh
        · exact .inl (.inl hh)
        · exact .inl (.inr (.inl hh))
        · exact .inl (.inr (.inr hh))
        · rcases hB' y hh with h' | h'
          · exact .inl (.inr (.inr h'))
          · exact .inr h'
      · simp only [List.mem_cons, List.mem_append] at hy ⊢
        rcases hy with hh | hh
        · exact .inr (.inl hh)
        · exact .inr (.inr (.inr hh))
    refine kc9.stl hlx9 fun w10 kc10 k10 => ?_
    refine hR w10 B' ⟨OL.keep o9 k10 (fun y hy hm => by simp at hm; subst hm; exact hkb' hy) (o9.kp.trans k10 fun y hy hlt => by simp at hy; have := h.kb0; omega), h.kb0, hkb', kc10⟩ (k09.trans' (k10.mono fun y hy _ => by simp at hy; simp [hy])) hBw
  refine ⟨?_, ?_⟩
  · refine Apply_X hm hv2 (fun y hy => by have := hlts y hy; omega) o hq fun v2 w2 k2 hx2 => ?_
    simp only [ex0, ex1]
    have z2 := k2.size
    refine zeroVX (X := kb :: B) fun p5 w3 hp5 k3 c3 => ?_
    have z3 := k3.size
    have k13 := (kd.trans' k2).trans' k3
    have h3' := k13.get h3 (by simp)
    obtain ⟨v', hv1', hv2'⟩ := (h1.keep k13).kc.ldl
    have hsame : v' = v := by
      have e1 := (h1.keep k13).kc
      obtain ⟨a, b, c, x1, x2⟩ := h1d.kc.ex
      have y1 := hv1 (fun u => u = .agg #[a, b, c, .int .i64 l.ops])
      have y2 := hv1' (fun u => u = .agg #[a, b, c, .int .i64 l.ops])
      rw [ldP x1 (p := #[a, b, c, .int .i64 l.ops]) rfl (by simp)] at y1
      rw [ldP ((k2.trans' k3).get x1 (by simp)) (p := #[a, b, c, .int .i64 l.ops]) rfl (by simp)] at y2
      exact (Eq.mp y2 rfl).trans (Eq.mp y1 rfl).symm
    simp only [stb_ex0, stb_ex1, true_and]
    refine ⟨by rw [ldAll (k := 7) h3' rfl], by rw [hv1', hsame], ?_⟩
    refine VX.st c3 ((LX.more hx2 (p := p5) hp5).keep k3) fun w4 k4 c4 => ?_
    have hp35 : p3 ≠ p5 := by omega
    exact tail p5 w4 (by omega) (k13.trans k4 fun y hy hlt => by simp at hy; omega) c4 (k4.get h3' (by simp; exact hp35))
  · refine zeroVX (X := kb :: B) fun p5 w3 hp5 k3 c3 => ?_
    have z3 := k3.size
    have k13 := kd.trans' k3
    have h3' := k13.get h3 (by simp)
    obtain ⟨v', hv1', hv2'⟩ := (h1.keep k13).kc.ldl
    have hsame : v' = v := by
      obtain ⟨a, b, c, x1, x2⟩ := h1d.kc.ex
      have y1 := hv1 (fun u => u = .agg #[a, b, c, .int .i64 l.ops])
      have y2 := hv1' (fun u => u = .agg #[a, b, c, .int .i64 l.ops])
      rw [ldP x1 (p := #[a, b, c, .int .i64 l.ops]) rfl (by simp)] at y1
      rw [ldP (k3.get x1 (by simp)) (p := #[a, b, c, .int .i64 l.ops]) rfl (by simp)] at y2
      exact (Eq.mp y2 rfl).trans (Eq.mp y1 rfl).symm
    refine ⟨by rw [ldAll (k := 7) h3' rfl], by rw [hv1', hsame], ?_⟩
    refine Apply_X hm ((hv2.more hp5).keep k3) (fun y hy => by
      rcases List.mem_cons.1 hy with rfl | hy
      · exact c3.lt
      · have := hlts y hy; omega) o hq fun v2 w2 k2 hx2 => ?_
    simp only [ex0, ex1]
    have z2 := k2.size
    refine VX.st (c3.keep k2) hx2 fun w4 k4 c4 => ?_
    simp only [stb_ex0, stb_ex1, true_and]
    have hp35 : p3 ≠ p5 := by omega
    exact tail p5 w4 (by omega) ((k13.trans' k2).trans k4 fun y hy hlt => by simp at hy; omega) c4 (k4.get (k2.get h3' (by simp)) (by simp; exact hp35))
end
end Go.Proofs

set_option linter.unusedVariables false
set_option linter.unusedSimpArgs false
namespace Go.Q
open Go.MapKept
variable {P : Program}
structure SE where
  k : List UInt8
  v : Int
  b : Nat
def SE.ent (e : SE) : MapEntry := ⟨.string (str e.k), .int .i64 e.v, e.b⟩
def SE.kv (e : SE) : List UInt8 × Int := (e.k, e.v)
structure MapE (w : World) (n : Nat) (m : List SE) (clock : Nat) : Prop where
  blk : w.heap[n]? = some (.map (m.map SE.ent).toArray clock)
  nb : (m.map (·.b)).Nodup
  old : ∀ e ∈ m, e.b < clock
  nk : (m.map (·.k)).Nodup
def SMap (w : World) (n : Nat) (N : List (List UInt8 × Int)) : Prop := ∃ m clock, MapE w n m clock ∧ (m.map SE.kv).Perm N
structure SMapT (P : Program) (T kt et : TypeId) : Prop where
  hm : P.underlying T = some (.map kt et)
  hk : P.underlying kt = some .string
  hz : ∀ w, (zeroValue et).run P w = .ok (.int .i64 0) w
def getN (N : List (List UInt8 × Int)) (k : List UInt8) : Option Int := (N.find? fun x => decide (x.1 = k)).map (·.2)
def putN (N : List (List UInt8 × Int)) (k : List UInt8) (v : Int) : List (List UInt8 × Int) := (k, v) :: N.filter fun x => decide (x.1 ≠ k)
theorem getN_some {N : List (List UInt8 × Int)} (hn : (N.map (·.1)).Nodup) {k : List UInt8} {v : Int} : getN N k = some v ↔ (k, v) ∈ N := by
  unfold getN
  induction N with
  | nil => simp
  | cons x r ih =>
    simp only [List.map_cons, List.nodup_cons] at hn
    by_cases h : x.1 = k
    · rw [List.find?_cons_of_pos (by simpa using h)]
      simp only [Option.map_some, Option.some.injEq, List.mem_cons]
      constructor
      · intro hv; left; rw [← h, ← hv]
      · rintro (hv | hv)
        · rw [← hv]
        · exact absurd (List.mem_map.2 ⟨_, hv, h.symm⟩) hn.1
    · rw [List.find?_cons_of_neg (by simpa using h), ih hn.2]
      simp only [List.mem_cons]
      constructor
      · exact .inr
      · rintro (hv | hv)
        · exact absurd (by rw [← hv]) h
        · exact hv
theorem getN_none {N : List (List UInt8 × Int)} {k : List UInt8} : getN N k = none ↔ ∀ x ∈ N, x.1 ≠ k := by
  unfold getN
  simp
theorem getN_perm {N N' : List (List UInt8 × Int)} (hn : (N.map (·.1)).Nodup) (h : N.Perm N') (k : List UInt8) : getN N k = getN N' k := by
  have hn' : (N'.map (·.1)).Nodup := (h.map _).nodup_iff.1 hn
  cases hg : getN N k with
  | none =>
    symm
    rw [getN_none] at hg ⊢
    exact fun x hx => hg x (h.mem_iff.2 hx)
  | some v =>
    symm
    rw [getN_some hn] at hg
    rw [getN_some hn']
    exact h.mem_iff.1 hg
section
variable {w w' : World} {n clock : Nat} {m : List SE} {N : List (List UInt8 × Int)} {T kt et : TypeId} {k : List UInt8}
theorem MapE.keep {S : List Nat} (h : MapE w n m clock) (hk : Kp S w w') (hn : n ∉ S) : MapE w' n m clock := ⟨hk.get h.blk hn, h.nb, h.old, h.nk⟩
theorem SMap.keep {S : List Nat} (h : SMap w n N) (hk : Kp S w w') (hn : n ∉ S) : SMap w' n N := by
  obtain ⟨m, c, h1, h2⟩ := h
  exact ⟨m, c, h1.keep hk hn, h2⟩
theorem SMap.lt (h : SMap w n N) : n < w.heap.size := by
  obtain ⟨m, c, h1, h2⟩ := h
  exact lt_of_blk h1.blk
theorem SMap.nodup (h : SMap w n N) : (N.map (·.1)).Nodup := by
  obtain ⟨m, c, h1, h2⟩ := h
  refine (h2.map _).nodup_iff.1 ?_
  have := h1.nk
  rw [List.map_map]
  exact this
theorem strV_inj {a b : List UInt8} : (Value.string (str a) = Value.string (str b)) ↔ a = b := by
  constructor
  · intro h
    injection h with h
    simp only [str, ByteArray.mk.injEq] at h
    simpa using h
  · rintro rfl; rfl
theorem isKey_s (a : List UInt8) : IsKey .string (.string (str a)) := trivial
theorem find_spec (m : List SE) (k : List UInt8) : (Instr.findNow .string (.string (str k)) (m.map SE.ent) 0 = some none ∧ ∀ e ∈ m, e.k ≠ k) ∨
    ∃ j, ∃ h : j < m.length, Instr.findNow .string (.string (str k)) (m.map SE.ent) 0 = some (some (j, .int .i64 m[j].v)) ∧ m[j].k = k := by
  rcases findNow_spec (isKey_s k) (m.map SE.ent) 0 (fun x hx => by obtain ⟨e, _, rfl⟩ := List.mem_map.1 hx; exact isKey_s e.k) with ⟨h1, h2⟩ | ⟨j, e, h1, h2, h3⟩
  · exact .inl ⟨h1, fun e he hk => h2 e.ent (List.mem_map.2 ⟨e, he, rfl⟩) (by rw [← hk]; rfl)⟩
  · right
    obtain ⟨hj, hje⟩ := List.getElem?_eq_some_iff.1 h2
    have hj' : j < m.length := by simpa using hj
    have he : e = (m[j]).ent := by rw [← hje]; simp
    refine ⟨j, hj', ?_, ?_⟩
    · rw [h1, he, Nat.zero_add]; rfl
    · rw [he] at h3
      exact strV_inj.1 h3
theorem SMap.look (ht : SMapT P T kt et) (h : SMap w n N) (ok : Bool) :
    (Instr.lookup T (.map (some n)) (.string (str k)) ok).run P w = .ok (if ok = true then .tuple #[.int .i64 ((getN N k).getD 0), .bool (getN N k).isSome] else .int .i64 ((getN N k).getD 0)) w := by
  have hnd := h.nodup
  obtain ⟨m, c, h1, h2⟩ := h
  have hp : ∀ x : Array MapEntry, (pure x : Sem (Array MapEntry)).run P w = .ok x w := fun _ => rfl
  have hnk : ((m.map SE.kv).map (·.1)).Nodup := by rw [List.map_map]; exact h1.nk
  have hgo := Go.MapKept.run_getObj_map (P := P) h1.blk
  have hc := fun e n => run_checkKey (P := P) (w := w) ht.hk (isKey_s k) e n
  rw [← getN_perm hnk h2 k]
  rcases find_spec m k with ⟨g1, g2⟩ | ⟨j, hj, g1, g2⟩
  · have hg : getN (m.map SE.kv) k = none := getN_none.2 fun x hx => by obtain ⟨e, he, rfl⟩ := List.mem_map.1 hx; exact g2 e he
    have hf : (Instr.findKey kt (.string (str k)) (m.map SE.ent).toArray.toList).run P w = .ok none w := run_findKey ht.hk g1
    rw [hg]
    simp only [Instr.lookup, Sem.run_bind, run_underlying ht.hm, Result.andThen_ok, hgo, hp, hc, hf, ht.hz]
    cases ok <;> rfl
  · have hg : getN (m.map SE.kv) k = some m[j].v := (getN_some hnk).2 (List.mem_map.2 ⟨m[j], List.getElem_mem hj, by rw [← g2]; rfl⟩)
    have hf : (Instr.findKey kt (.string (str k)) (m.map SE.ent).toArray.toList).run P w = .ok (some (j, .int .i64 m[j].v)) w := run_findKey ht.hk g1
    rw [hg]
    simp only [Instr.lookup, Sem.run_bind, run_underlying ht.hm, Result.andThen_ok, hgo, hp, hc, hf]
    cases ok <;> rfl
theorem SMap.get (ht : SMapT P T kt et) (h : SMap w n N) {K : Value → Prop} (hK : K (.int .i64 ((getN N k).getD 0))) : qG P (Instr.lookup T (.map (some n)) (.string (str k)) false) w K := by
  rw [qG_of (h.look ht false)]; exact hK
theorem SMap.new {K : Value → World → Prop} (hK : ∀ n w', w.heap.size ≤ n → Kp [] w w' → SMap w' n [] → K (.map (some n)) w') : eG P (Instr.makeMap T none) w K :=
  eG_of (v := .map (some w.heap.size)) (w' := w.alloc (.map #[] 0)) rfl (hK _ _ (Nat.le_refl _) ((Kp.refl [] w).alloc _) ⟨[], 0, ⟨heap_new, by simp, by simp, by simp⟩, by simp⟩)
theorem SMap.put (ht : SMapT P T kt et) (h : SMap w n N) (v : Int) {K : World → Prop} (hK : ∀ w', SMap w' n (putN N k v) → Kp [n] w w' → K w') : uG P (Instr.mapUpdate T (.map (some n)) (.string (str k)) (.int .i64 v)) w K := by
  obtain ⟨m, c, h1, h2⟩ := h
  have hgo := Go.MapKept.run_getObj_map (P := P) h1.blk
  have hso := fun o => Go.MapKept.run_setObj_map (P := P) o h1.blk
  have hc := fun e n => run_checkKey (P := P) (w := w) ht.hk (isKey_s k) e n
  have hlv := lt_of_blk h1.blk
  rcases find_spec m k with ⟨g1, g2⟩ | ⟨j, hj, g1, g2⟩
  · have hf : (Instr.findKey kt (.string (str k)) (m.map SE.ent).toArray.toList).run P w = .ok none w := run_findKey ht.hk g1
    refine uG_of (w' := setBlk w n (.map ((m.map SE.ent).toArray.push ⟨.string (str k), .int .i64 v, c⟩) (c + 1))) ?_ (hK _ ⟨m ++ [⟨k, v, c⟩], c + 1, ⟨?_, ?_, ?_, ?_⟩, ?_⟩ ((Kp.refl _ w).setBlk (.inl (by simp)) _))
    · simp only [Instr.mapUpdate, Sem.run_bind, run_underlying ht.hm, Result.andThen_ok, hgo, hc, hf, hso]
      rfl
    · rw [heap_self (live_of h1.blk)]
      simp [SE.ent]
    · rw [List.map_append, List.nodup_append]
      refine ⟨h1.nb, by simp, fun a ha b hb => ?_⟩
      simp at hb
      obtain ⟨e, he, rfl⟩ := List.mem_map.1 ha
      have := h1.old e he
      omega
    · intro e he
      rcases List.mem_append.1 he with he | he
      · have := h1.old e he; omega
      · simp at he; rw [he]; simp
    · rw [List.map_append, List.nodup_append]
      refine ⟨h1.nk, by simp, fun a ha b hb => ?_⟩
      simp at hb
      obtain ⟨e, he, rfl⟩ := List.mem_map.1 ha
      rw [hb]; exact g2 e he
    · have hfl : N.filter (fun x => decide (x.1 ≠ k)) = N := by
        rw [List.filter_eq_self]
        intro x hx
        obtain ⟨e, he, hex⟩ := List.mem_map.1 (h2.mem_iff.2 hx)
        rw [← hex, decide_eq_true_eq]
        exact g2 e he
      unfold putN
      rw [hfl, List.map_append]
      refine (List.perm_append_comm).trans ?_
      exact List.Perm.cons _ h2
  · have hf : (Instr.findKey kt (.string (str k)) (m.map SE.ent).toArray.toList).run P w = .ok (some (j, .int .i64 m[j].v)) w := run_findKey ht.hk g1
    have hks : (Instr.keyThatStays (.string (str k)) (.string (str k))).run P w = .ok (.string (str k)) w := run_keyThatStays (isKey_s k)
    have hgj : (m.map SE.ent).toArray[j]? = some m[j].ent := by simp [hj]
    have hek : m[j].ent.key = .string (str k) := by rw [← g2]; rfl
    refine uG_of (w' := setBlk w n (.map ((m.map SE.ent).toArray.modify j fun e => { e with key := .string (str k), val := .int .i64 v }) c)) ?_ (hK _ ⟨m.set j ⟨k, v, m[j].b⟩, c, ⟨?_, ?_, ?_, ?_⟩, ?_⟩ ((Kp.refl _ w).setBlk (.inl (by simp)) _))
    · simp [Instr.mapUpdate, Sem.run_bind, run_underlying ht.hm, hgo, hc, hf, hso, hgj, hek, hks, Result.andThen, hj]
      rfl
    · rw [heap_self (live_of h1.blk)]
      congr 2
      apply Array.ext_getElem?
      intro i
      rw [Array.getElem?_modify]
      by_cases e : j = i
      · subst e; simp [hj, SE.ent]
      · simp [e, List.getElem?_set_ne e]
    · rw [List.map_set]
      have : (m.map (·.b)).set j m[j].b = m.map (·.b) := by
        apply List.ext_getElem?
        intro i
        rw [List.getElem?_set]
        split
        · rename_i h; subst h; simp [hj]
        · rfl
      rw [this]; exact h1.nb
    · intro e he
      rcases List.mem_or_eq_of_mem_set he with he | he
      · exact h1.old e he
      · rw [he]; exact h1.old m[j] (List.getElem_mem hj)
    · rw [List.map_set]
      have : (m.map (·.k)).set j k = m.map (·.k) := by
        apply List.ext_getElem?
        intro i
        rw [List.getElem?_set]
        split
        · rename_i h; subst h; simp [hj, g2]
        · rfl
      rw [this]; exact h1.nk
    · have hm : m = m.take j ++ m[j] :: m.drop (j + 1) := by rw [← List.drop_eq_getElem_cons hj, List.take_append_drop]
      have hnk := h1.nk
      rw [hm, List.map_append, List.map_cons, List.nodup_append] at hnk
      obtain ⟨_, q2, q3⟩ := hnk
      rw [List.nodup_cons] at q2
      have hA : ∀ e ∈ m.take j, e.k ≠ k := fun e he hk => q3 _ (List.mem_map.2 ⟨e, he, rfl⟩) m[j].k List.mem_cons_self (hk.trans g2.symm)
      have hB : ∀ e ∈ m.drop (j + 1), e.k ≠ k := fun e he hk => q2.1 (List.mem_map.2 ⟨e, he, hk.trans g2.symm⟩)
      have hf : ((m.map SE.kv).filter fun x => decide (x.1 ≠ k)) = (m.take j).map SE.kv ++ (m.drop (j + 1)).map SE.kv := by
        conv => lhs; rw [hm]
        rw [List.map_append, List.map_cons, List.filter_append, List.filter_cons_of_neg (by simp [SE.kv, g2])]
        congr 1
        · rw [List.filter_eq_self]; intro x hx; obtain ⟨e, he, rfl⟩ := List.mem_map.1 hx; rw [decide_eq_true_eq]; exact hA e he
        · rw [List.filter_eq_self]; intro x hx; obtain ⟨e, he, rfl⟩ := List.mem_map.1 hx; rw [decide_eq_true_eq]; exact hB e he
      have hs : (m.set j ⟨k, v, m[j].b⟩).map SE.kv = (m.take j).map SE.kv ++ (k, v) :: (m.drop (j + 1)).map SE.kv := by
        rw [List.set_eq_take_append_cons_drop, if_pos hj, List.map_append, List.map_cons]; rfl
      rw [hs]
      unfold putN
      refine List.perm_middle.trans (List.Perm.cons _ ?_)
      rw [← hf]
      exact h2.filter _
def It (w : World) (it n clock : Nat) (done : List SE) : Prop := w.heap[it]? = some (.mapIter (some n) clock (done.map (·.b)).toArray clock)
theorem It.keep {S : List Nat} {it : Nat} {done : List SE} (h : It w it n clock done) (hk : Kp S w w') (hn : it ∉ S) : It w' it n clock done := hk.get h hn
end
end Go.Q

set_option maxRecDepth 100000
set_option linter.unusedVariables false
set_option linter.unusedSimpArgs false
namespace Go.Proofs
open Go Go.Q
section
variable {w w' : World} {R : Value → World → Prop}
theorem bq_eqs8 {P : Program} {T : TypeId} {xo yo : Operand} {a b : List UInt8} {K : Value → Prop} : qG P (bq .eql T xo yo (.string (str a)) (.string (str b))) w K = K (.bool (decide (a = b))) := by
  rw [bq_seql]
  congr 2
  have := strV_inj (a := a) (b := b)
  simp only [Value.string.injEq] at this
  exact decide_eq_decide.2 this
theorem bq_nes8 {P : Program} {T : TypeId} {xo yo : Operand} {a b : List UInt8} {K : Value → Prop} : qG P (bq .neq T xo yo (.string (str a)) (.string (str b))) w K = K (.bool (!decide (a = b))) := by
  rw [bq_sneq]
  congr 3
  have := strV_inj (a := a) (b := b)
  simp only [Value.string.injEq] at this
  exact decide_eq_decide.2 this
theorem slS_tail8 {c : UInt8} {t : List UInt8} {K : Value → Prop} : slS (.string (str (c :: t))) (some (.int .i64 1)) none K = K (.string (str t)) := by
  have hx : (str (c :: t)).extract 1 (t.length + 1) = str t := by rw [str_extract]; simp
  simp only [slS_p, bnd_some, bnd_none, str_size, List.length_cons, Int.toNat_one, hx]
  exact propext ⟨fun h => h.2, fun h => ⟨by omega, h⟩⟩
theorem slS_head8 {c : UInt8} {t : List UInt8} {K : Value → Prop} : slS (.string (str (c :: t))) none (some (.int .i64 1)) K = K (.string (str [c])) := by
  have hx : (str (c :: t)).extract 0 1 = str [c] := by rw [str_extract]; simp
  simp only [slS_p, bnd_some, bnd_none, str_size, List.length_cons, Int.toNat_one, hx]
  exact propext ⟨fun h => h.2, fun h => ⟨by omega, h⟩⟩
theorem equal_k {va vb : Value} {a : List (List UInt8)} (ha : Rd w va 1 (a.map strV)) (hb : Rd w vb 1 (a.map strV)) (hl : a.length < 2 ^ 40) (hR : ∀ w', Kp [] w w' → R (.bool true) w') : callG Tryz.prog 114 #[va, vb] w R := by
  refine slices_Equal_string_string_call ?_
  unfold slices_Equal_string_string slices_Equal_string_string_s4
  rw [ha.lenL, hb.lenL, List.length_map]
  simp only [bq_neq, bV_b, decide_eq_true_eq]
  refine ⟨fun hh => absurd rfl hh, fun _ => ?_⟩
  unfold slices_Equal_string_string_s3
  rw [ha.lenL, List.length_map]
  unfold slices_Equal_string_string_L2
  refine loop_inv (fun m xs w' => ∃ k, k ≤ a.length ∧ m = a.length - k ∧ xs = [va, vb, .int .i64 (a.length : Nat), .int .i64 (k : Nat)] ∧ Kp [] w w') ?_ (m := a.length) ⟨0, by omega, rfl, rfl, Kp.refl _ _⟩
  rintro m N xs w1 ⟨k, hk, rfl, rfl, k1⟩ hN
  unfold slices_Equal_string_string_L2F slices_Equal_string_string_b1
  dsimp only
  simp only [bq_lss, bV_b, decide_eq_true_eq, decide_eq_false_iff_not]
  refine ⟨fun hlt => ?_, fun hge => ?_⟩
  · have hlt : k < a.length := by omega
    obtain ⟨pa, i1, i2⟩ := rd_str (ha.keep k1.drew) hlt
    obtain ⟨pb, j1, j2⟩ := rd_str (hb.keep k1.drew) hlt
    rw [i1, i2, j1, j2, bq_nes8]
    simp only [bV_b]
    refine ⟨fun hh => by simp at hh, fun _ => ?_⟩
    have e2 : IntKind.i64.wrap ((k : Int) + 1) = ((k + 1 : Nat) : Int) := by rw [w64 (by omega) (by omega)]; simp
    simp only [bq_add, e2]
    exact hN (a.length - (k + 1)) _ _ (by omega) ⟨k + 1, by omega, rfl, rfl, k1.drew⟩
  · unfold slices_Equal_string_string_s0
    exact hR w1 k1
def lZv : Value := .agg #[.slice none 0 0, .slice none 0 0, .slice none 0 0, .int .i64 0]
theorem lz_wf : LWf lZ := ⟨by simp [lZ], by simp [lZ], by simp [lZ], by constructor <;> simp [numV, lZ]⟩
theorem recL_z : recL lZ = [recE 0] := rfl
theorem recE0 : takeRow (putRow [numV 0]).1 = ([numV 0], 0) := by decide +kernel
theorem recE0_len : (putRow [numV 0]).1.length < 2 ^ 39 := by decide +kernel
theorem laid_k {v : Value} {rest : List (List UInt8)} (hv : Rd w v 1 ((recE 0 :: rest).map strV)) (hl : rest.length < 2 ^ 30) (hR : ∀ w' v', Kp [] w w' → Rd w' v' 1 (rest.map strV) → R (.tuple #[lZv, v', .bool true]) w') : callG Tryz.prog 85 #[v] w R := by
  refine keep_laid_call ?_
  unfold keep_laid keep_laid_s22
  refine newB fun p2 w1 hp2 h2 k1 => ?_
  refine newB fun p5 w2 hp5 h5 k2 => ?_
  have z1 := k1.size
  have z2 := k2.size
  have l2 := lt_of_blk h2
  have l5 := lt_of_blk h5
  have h22 := k2.get h2 (by simp)
  have k02 := k1.trans' k2
  unfold keep_laid_s21
  rw [hv.lenL, List.length_map, List.length_cons]
  unfold keep_laid_L20
  refine loop_inv (fun m xs w' => m = 1 ∧ xs = [v, .pointer (some ⟨p2, 0, none⟩), .pointer (some ⟨p5, 0, none⟩), v, .int .i64 ((rest.length + 1 : Nat) : Int), .int .i64 0] ∧ w' = w2) ?_ (m := 1) ⟨rfl, rfl, rfl⟩
  rintro m N xs w2' ⟨rfl, rfl, rfl⟩ hN
  unfold keep_laid_L20F keep_laid_s19
  dsimp only
  simp only [bq_lss, bV_b, decide_eq_true_eq, decide_eq_false_iff_not]
  refine ⟨fun _ => ?_, fun hh => by omega⟩
  unfold keep_laid_s18
  obtain ⟨pe, i1, i2⟩ := rd_str (hv.keep k02) (i := 0) (by simp)
  rw [show (Value.int .i64 0) = .int .i64 ((0 : Nat) : Int) from rfl, i1, i2, show (recE 0 :: rest)[0] = 69 :: (putRow [numV 0]).1 from rfl, slS_tail8]
  refine Take_spec _ recE0_len fun v3 w3 hf3 => ?_
  rw [recE0] at *
  have k3 := hf3.kp
  have z3 := k3.size
  rw [ex0, ex1]
  simp only [bq_neq, bV_b, decide_eq_true_eq]
  refine ⟨fun hh => absurd rfl hh, fun _ => ?_⟩
  unfold keep_laid_s17
  rw [slS_head8]
  unfold keep_laid_s16
  rw [show (Value.string ⟨#[83]⟩) = .string (str [83]) from rfl, bq_eqs8, show decide (([69] : List UInt8) = [83]) = false from rfl]
  unfold keep_laid_s15
  simp only [bV_b]
  refine ⟨fun hh => by simp at hh, fun _ => ?_⟩
  unfold keep_laid_s14
  rw [show (Value.string ⟨#[72]⟩) = .string (str [72]) from rfl, bq_eqs8, show decide (([69] : List UInt8) = [72]) = false from rfl]
  unfold keep_laid_s13
  simp only [bV_b]
  refine ⟨fun hh => by simp at hh, fun _ => ?_⟩
  unfold keep_laid_s12
  rw [show (Value.string ⟨#[77]⟩) = .string (str [77]) from rfl, bq_eqs8, show decide (([69] : List UInt8) = [77]) = false from rfl]
  unfold keep_laid_s11
  simp only [bV_b]
  refine ⟨fun hh => by simp at hh, fun _ => ?_⟩
  unfold keep_laid_s10
  rw [show (Value.string ⟨#[69]⟩) = .string (str [69]) from rfl, bq_eqs8, show decide (([69] : List UInt8) = [69]) = true from rfl]
  unfold keep_laid_s9
  simp only [bV_b]
  refine ⟨fun _ => ?_, fun hh => by simp at hh⟩
  unfold keep_laid_s7
  obtain ⟨bl, o, j1, j2⟩ := hf3.rd.rowK (i := 0) (by simp)
  obtain ⟨_, j3, _⟩ := j2 w3 (Kp.refl _ _)
  rw [hf3.rd.lenL]
  simp only [List.length_map, List.length_cons, List.length_nil, bq_neq, bV_b, decide_eq_true_eq]
  refine ⟨fun hh => by simp at hh, fun _ => ?_⟩
  rw [show (Value.int .i64 0) = .int .i64 ((0 : Nat) : Int) from rfl, j1, fa_p, j3 0 (.int .i64 1) (by omega) rfl]
  simp only [bq_neq, bV_b, decide_eq_true_eq]
  refine ⟨fun hh => absurd rfl hh, fun _ => ?_⟩
  unfold keep_laid_s6
  rw [show (Value.int .i64 0) = .int .i64 ((0 : Nat) : Int) from rfl, j1, fa_p, j3 1 (.int .i64 0) (by omega) rfl, fa_p]
  have h53 := k3.get h5 (by simp)
  have h23 := k3.get h22 (by simp)
  rw [zcLed] at h53 h23
  rw [stF h53 (by simp) rfl]
  generalize hw4 : setBlk w3 p5 _ = w4
  have h54 : w4.heap[p5]? = some (.cells #[.slice none 0 0, .slice none 0 0, .slice none 0 0, .int .i64 0] 26) := by rw [← hw4]; exact heap_self (live_of h53)
  have k4 : Kp [p5] w3 w4 := by rw [← hw4]; exact (Kp.refl _ _).setBlk (.inl (by simp)) _
  have h24 := k4.get h23 (by simp; omega)
  have k04 : Kp [] w w4 := (k02.trans' k3).trans k4 fun y hy hlt => by simp at hy; omega
  rw [ldA (k := 4) h54 rfl]
  refine Records_k may_z lz_wf (lz_x (X := []) w4).at fun w5 v5 hf5 => ?_
  have k5 := hf5.kp
  have h55 := k5.get h54 (by simp)
  have h25 := k5.get h24 (by simp)
  have k05 := k04.trans' k5
  have hv5 := hv.keep k05
  obtain ⟨va, a1, a2⟩ := hv.drop (p := 1) (kd := .i64) (by simp)
  obtain ⟨vb, b1, b2⟩ := hv5.take (p := 1) (kd := .i64) (by simp)
  have e1 : IntKind.i64.wrap (((0 : Nat) : Int) + 1) = ((1 : Nat) : Int) := by decide
  have h55d : w5.drew.heap[p5]? = some (.cells #[.slice none 0 0, .slice none 0 0, .slice none 0 0, .int .i64 0] 26) := h55
  have kd5 : Kp [] w5 w5.drew := (Kp.refl [] w5).drew
  rw [ex0, ex1, ldA (k := 4) h55d rfl]
  simp only [bq_add, e1]
  rw [a2]
  simp only [bq_eql, bV_b, decide_eq_true_eq]
  refine ⟨fun _ => ?_, fun hh => by simp at hh⟩
  rw [b2]
  have hb1 : Rd w5.drew vb 1 ([recE 0].map strV) := b1.keep kd5
  refine equal_k (hf5.rd.keep kd5) hb1 (by simp [recL_z]) fun w6 k6 => ?_
  have k56 := kd5.trans' k6
  have h56 := k56.get h55 (by simp)
  have h26 := k56.get h25 (by simp)
  simp only [stb_add, e1, true_and]
  refine ⟨by rw [ldA (k := 4) h56 rfl], ?_⟩
  rw [stA (k := 4) (c := #[.slice none 0 0, .slice none 0 0, .slice none 0 0, .int .i64 0]) h26 rfl rfl (by simp [Q.one])]
  generalize hw7 : setBlk w6 p2 _ = w7
  have h27 : w7.heap[p2]? = some (.cells #[.slice none 0 0, .slice none 0 0, .slice none 0 0, .int .i64 0] 26) := by rw [← hw7]; exact heap_self (live_of h26)
  have k7 : Kp [p2] w6 w7 := by rw [← hw7]; exact (Kp.refl _ _).setBlk (.inl (by simp)) _
  have k07 : Kp [] w w7 := (k05.trans' k56).trans k7 fun y hy hlt => by simp at hy; omega
  rw [lvLedw h27 rfl]
  exact hR w7 va k07 (a1.keep k07)
end
end Go.Proofs

set_option maxRecDepth 100000
set_option linter.unusedVariables false
set_option linter.unusedSimpArgs false
namespace Go.Proofs
open Go Go.Q
theorem e3_0 {a b c : Value} {w : World} {K : Value → Prop} : qG Tryz.prog (Instr.extract (.tuple #[a, b, c]) 0) w K = K a := qG_of rfl
theorem e3_1 {a b c : Value} {w : World} {K : Value → Prop} : qG Tryz.prog (Instr.extract (.tuple #[a, b, c]) 1) w K = K b := qG_of rfl
theorem e3_2 {a b c : Value} {w : World} {K : Value → Prop} : qG Tryz.prog (Instr.extract (.tuple #[a, b, c]) 2) w K = K c := qG_of rfl
def recO (o : OpV) : List UInt8 := 79 :: (putOp o).1
theorem putOp_short (o : OpV) : (putOp o).1.length ≤ 20000 := by
  unfold putOp
  split
  · exact putRow_len (by simp [opRow])
  · simp
section
variable {w w' : World} {R : Value → World → Prop} {bd : Nat} {d : DK} {S X : List Nat}
theorem whole_k (hd : DiskAt w bd d S) (hoff : d.off = false) (h4 : 4 ≤ d.now.length) (hX : ∀ q ∈ X, q < w.heap.size) {ops : List OpV} (hops : ∀ o ∈ ops, takeOp (putOp o).1 = (o, 0) ∧ o.Wf) (hl : ops.length < 2 ^ 20)
    (hsc : scan ((1 : Nat) : Int) (allOf d (areaL d.now.length 1) ((d.now.length - 2) / 2)) = recE 0 :: ops.map recO) (hrep : (replayL lZ ops 0).2.2 = 0)
    (hR : ∀ w' v, Kp [] w w' → LX X w' v (replayL lZ ops 0).1 → R (.tuple #[v, .bool true]) w') : callG Tryz.prog 38 #[.pointer (some ⟨bd, 0, none⟩), .int .i64 ((1 : Nat) : Int)] w R := by
  refine keep_whole_call ?_
  unfold keep_whole keep_whole_s4
  have hmost := hd.ok.most
  obtain ⟨a1, a2⟩ := areaL_le (t := 1) h4
  refine zeroVX (X := X) fun p4 w1 hp4 k1 c4 => ?_
  have z1 := k1.size
  refine area_k (hd.keep k1 (by simp)) (by omega) 1 ?_
  rw [ex0, ex1]
  refine Open_ok (hd.keep k1 (by simp)) hoff (lo := areaL d.now.length 1) (hi := areaL d.now.length 1 + (d.now.length - 2) / 2) (by omega) a2 (turn := ((1 : Nat) : Int)) (by decide) fun w2 a lv SL hL k2 ha hSL => ?_
  rw [Nat.add_sub_cancel_left, hsc] at hL
  rw [ex0, ex1]
  simp only [bq_neq, bV_b, decide_eq_true_eq]
  refine ⟨fun hh => absurd rfl hh, fun _ => ?_⟩
  refine Records_spec hL (by simp; omega) fun w3 v3 S3 h3 k3 hS3 => ?_
  refine laid_k (rest := ops.map recO) ⟨S3, .inr h3.rd⟩ (by rw [List.length_map]; omega) fun w4 vr k4 hr4 => ?_
  rw [e3_0, e3_1, e3_2]
  have k14 := (k2.trans' k3).trans' k4
  have z4 := k14.size
  refine newVX (X := p4 :: X) (lz_x w4) fun p10 w5 hp10 k5 c10 => ?_
  have c4' := ((c4.keep k14).more hp10).keep k5
  simp only [un_not, bV_b]
  refine ⟨fun hh => by simp at hh, fun _ => ?_⟩
  have hr5 := hr4.keep k5
  unfold keep_whole_s3
  rw [hr5.lenL, List.length_map, List.length_map]
  unfold keep_whole_L2
  refine loop_inv (fun m xs w' => ∃ k vo, k ≤ ops.length ∧ m = ops.length - k ∧ xs = [.pointer (some ⟨p4, 0, none⟩), .pointer (some ⟨p10, 0, none⟩), vo, vr, .int .i64 (ops.length : Nat), .int .i64 (k : Nat)] ∧ Fr w5 w' vo 7 ((ops.take k).map opC)) ?_ (m := ops.length) ⟨0, .slice none 0 0, by omega, rfl, rfl, by simpa using fr_nil (Kp.refl _ _)⟩
  rintro m N xs w6 ⟨k, vo, hk, rfl, rfl, hf⟩ hN
  have k6 := hf.kp
  unfold keep_whole_L2F keep_whole_b1
  dsimp only
  simp only [bq_lss, bV_b, decide_eq_true_eq, decide_eq_false_iff_not]
  refine ⟨fun hlt => ?_, fun hge => ?_⟩
  · have hlt : k < ops.length := by omega
    obtain ⟨ho1, ho2⟩ := hops _ (List.getElem_mem hlt)
    obtain ⟨pe, i1, i2⟩ := rd_str (hr5.keep k6) (i := k) (by simpa using hlt)
    have hg : (ops.map recO)[k]'(by simpa using hlt) = 79 :: (putOp ops[k]).1 := by simp [recO]
    rw [i1, i2, hg, slS_tail8]
    have hpl := putOp_short ops[k]
    refine TakeOp_spec _ (by omega) fun w7 k7 => ?_
    rw [ho1, ex0, ex1]
    refine boxOp (by rw [zcOp]; rfl) fun p16 w8 hp16 h16 k8 => ?_
    rw [slS_head8, show (Value.string ⟨#[79]⟩) = .string (str [79]) from rfl, bq_nes8]
    simp only [bV_b]
    refine ⟨fun hh => by simp at hh, fun _ => ?_⟩
    simp only [bq_neq, bV_b, decide_eq_true_eq]
    refine ⟨fun hh => absurd rfl hh, fun _ => ?_⟩
    rw [ldOp h16]
    refine bsl_rowN (n := 7) (cs := opC ops[k]) (by omega) rfl rfl fun v9 w9 hf9 => ?_
    rw [zcOp]
    refine fr_push (wx := w9) (k := 7) ((hf.keep (k7.trans' k8)).keep hf9.kp) hf9.rd (by omega) rfl rfl (by rw [List.length_map, List.length_take]; omega) (by rw [List.length_map, List.length_take]; omega) fun v10 w10 hf10 => ?_
    have e2 : IntKind.i64.wrap ((k : Int) + 1) = ((k + 1 : Nat) : Int) := by rw [w64 (by omega) (by omega)]; simp
    simp only [bq_add, e2]
    refine hN (ops.length - (k + 1)) _ w10 (by omega) ⟨k + 1, v10, by omega, rfl, rfl, ?_⟩
    rw [take_snoc hlt, List.map_append]
    exact hf10
  · have : k = ops.length := by omega
    subst this
    rw [List.take_length] at hf
    unfold keep_whole_s0
    have c10' := c10.keep k6
    have c46 := c4'.keep k6
    obtain ⟨v7, hld7, hv7⟩ := c10'.ld
    rw [hld7]
    have z5 := k5.size
    have z6 := k6.size
    have hX6 : ∀ q ∈ p10 :: p4 :: X, q < w6.heap.size := by
      intro q hq
      rcases List.mem_cons.1 hq with rfl | hq
      · exact c10'.lt
      · rcases List.mem_cons.1 hq with rfl | hq
        · exact c46.lt
        · have := hX q hq; omega
    refine Replay_X may_z hv7 hX6 ⟨hf.rd, fun o ho => (hops o ho).2⟩ (by omega) fun v8 w8 k8 hv8 => ?_
    rw [e3_0, e3_1, e3_2]
    refine VX.st (c10'.keep k8) hv8 fun w9 k9 c9 => ?_
    obtain ⟨v10, hld10, hv10⟩ := c9.ld
    rw [hld10, hrep]
    simp only [bq_eql]
    rw [show decide True = true from rfl]
    have lt4 := c4.lt
    have c49 : VX (p10 :: p4 :: X) w9 p4 lZ := (c46.keep k8).keepS k9 (fun q hq => by simp at hq; simp [hq]) (by simp; omega)
    have z8 := k8.size
    refine retVX (K := fun v w => R (.tuple #[v, .bool true]) w) c49 hv10 fun w11 k11 hv11 => ?_
    refine hR w11 v10 ?_ (hv11.less fun q hq => by simp [hq])
    have k08 : Kp [] w w8 := ((((k1.trans' k14).trans' k5).trans' k6).trans' k8)
    exact (k08.trans k9 fun y hy hlt => by simp at hy; omega).trans k11 fun y hy hlt => by simp at hy; omega
end
end Go.Proofs

set_option maxRecDepth 100000
set_option linter.unusedVariables false
set_option linter.unusedSimpArgs false
namespace Go.Proofs
open Go Go.Q
def nought : List UInt8 := List.replicate 32 0
theorem read_ok8 {d : DK} (ho : d.off = false) {a : Nat} (ha : a < d.now.length) : d.read (a : Nat) = (sec d.now a, 0) := by
  unfold DK.read sec
  rw [if_pos (by omega), ho]
  simp
theorem KC.stt {w : World} {kb bd : Nat} {l : LV} {t : Nat} {lp : Value} {X : List Nat} (h : KC w kb bd l t lp X) {t' : Nat} {K : World → Prop} (hK : ∀ w', KC w' kb bd l t' lp X → Kp [kb] w w' → K w') : st1 (.pointer (some ⟨kb, 0 + 5, none⟩)) (.int .i64 (t' : Nat)) w K := by
  obtain ⟨a, b, c, h1, h2⟩ := h.ex
  rw [stF h1 (by simp) rfl]
  have hk : Kp [kb] w (setBlk w kb (.cells ((#[Value.pointer (some ⟨bd, 0, none⟩), a, b, c, .int .i64 l.ops, .int .i64 (t : Nat), lp] : Array Value).setIfInBounds (0 + 5) (.int .i64 (t' : Nat))) 58)) := (Kp.refl _ _).setBlk (.inl (by simp)) _
  exact hK _ ⟨a, b, c, heap_self (live_of h1), h2.keepS hk (by simp)⟩ hk
theorem zcK : zc Tryz.prog 58 = #[.pointer none, .slice none 0 0, .slice none 0 0, .slice none 0 0, .int .i64 0, .int .i64 0, .pointer none] := by kernel_rfl
def Slot1 (d : DK) (l : LV) (t : Nat) : Prop :=
  (sec d.now 1 = nought ∧ l = lZ ∧ t = 0) ∨ (sec d.now 1 = headK 1 ∧ t = 1 ∧ ∃ ops : List OpV, (∀ o ∈ ops, takeOp (putOp o).1 = (o, 0) ∧ o.Wf) ∧ ops.length < 2 ^ 20 ∧ scan ((1 : Nat) : Int) (allOf d (areaL d.now.length 1) ((d.now.length - 2) / 2)) = recE 0 :: ops.map recO ∧ (replayL lZ ops 0).2.2 = 0 ∧ l = (replayL lZ ops 0).1)
section
variable {w0 w w' : World} {kb bd : Nat} {l : LV} {t : Nat} {lp : Value} {S : List Nat} {R : Value → World → Prop} {d : DK}
theorem Open_k (o : Own w0 w bd d S) (hcalm : Calm d) (hflow : Flow d) (hdl : d.l.length < 2 ^ 30) (h4 : 4 ≤ d.now.length) (hn : d.now.length ≤ 120) (h0 : sec d.now 0 = nought) (h1 : Slot1 d l t) (hm : May l) (hw : LWf l) (hrec : Recs (recL l)) (hfit : usedOf (recL l) ≤ 32 * ((d.now.length - 2) / 2))
    (hR : ∀ w' kb ab B d', KS w0 w' kb bd ab l (t + 1) (logOf d.now.length (t + 1) (recL l)) d' B → Laid d d' (t + 1) (recL l) → Kp S w w' → (∀ y ∈ B, y ∈ S ∨ w.heap.size ≤ y) → w.heap.size ≤ kb → R (.tuple #[.pointer (some ⟨kb, 0, none⟩), .int .i64 0]) w') :
    callG Tryz.prog 11 #[.pointer (some ⟨bd, 0, none⟩)] w R := by
  refine keep_Open_call ?_
  unfold keep_Open keep_Open_s7
  have hlS := o.at_.live
  have z0 := o.kp.size
  have ht1 : t ≤ 1 := by rcases h1 with h | h <;> omega
  refine Size_spec o.at_ ?_
  simp only [bq_lss, bV_b, decide_eq_true_eq, decide_eq_false_iff_not]
  refine ⟨fun hh => by omega, fun _ => ?_⟩
  refine Off_spec o.at_ ?_
  rw [hcalm.off]
  simp only [bV_b]
  refine ⟨fun hh => by simp at hh, fun _ => ?_⟩
  have hbl : ∀ K : Value → Prop, bld [(0, 1), (1, 4), (5, 1), (6, 1)] (zc Tryz.prog 58) #[(0, .pointer (some ⟨bd, 0, none⟩))] K = K (.agg #[.pointer (some ⟨bd, 0, none⟩), .slice none 0 0, .slice none 0 0, .slice none 0 0, .int .i64 0, .int .i64 0, .pointer none]) := fun K => by rw [zcK]; rfl
  rw [hbl]
  refine argB fun kb w1 hkb hc1 k1 => ?_
  have z1 := k1.size
  have hkbS : kb ∉ S := fun hm => by have := hlS kb hm; omega
  have kc1 : KC w1 kb bd lZ 0 (.pointer none) S := ⟨_, _, _, hc1, lz_x w1⟩
  unfold keep_Open_s6 keep_Open_L5
  -- a slot that is passed over
  have pass : ∀ (k : Nat) (w2 : World) (N : List Value → World → Prop), k < 2 → sec d.now k = nought → Kp [] w w2 → (∀ w3, Kp [] w2 w3 → N [.pointer (some ⟨bd, 0, none⟩), .pointer (some ⟨kb, 0, none⟩), .int .i64 ((k + 1 : Nat) : Int)] w3) →
      keep_Open_s3 R N (.pointer (some ⟨bd, 0, none⟩)) (.pointer (some ⟨kb, 0, none⟩)) (.int .i64 (k : Nat)) w2 := by
    intro k w2 N hk hs k2 hN
    unfold keep_Open_s3
    refine Read_spec (o.at_.keep k2 (by simp)) _ ?_
    rw [read_ok8 hcalm.off (by omega), hs, ex0, ex1]
    refine crcTake_spec nought (by simp [nought]) ?_
    rw [if_neg (by simp [nought]), show takeN nought 4 = 0 by decide]
    simp only [bq_lss, bV_b, decide_eq_true_eq, decide_eq_false_iff_not]
    refine ⟨fun _ => ?_, fun hh => by omega⟩
    unfold keep_Open_s1
    have e2 : IntKind.i64.wrap ((k : Int) + 1) = ((k + 1 : Nat) : Int) := by rw [w64 (by omega) (by omega)]; simp
    simp only [bq_add, e2]
    exact hN w2 (Kp.refl _ _)
  refine loop_inv (fun m xs w' => ∃ k, k ≤ 2 ∧ m = 2 - k ∧ xs = [.pointer (some ⟨bd, 0, none⟩), .pointer (some ⟨kb, 0, none⟩), .int .i64 (k : Nat)] ∧ (k ≤ 1 → KC w' kb bd lZ 0 (.pointer none) S) ∧ (k = 2 → KC w' kb bd l t (.pointer none) S) ∧ Kp [] w w') ?_ (m := 2) ⟨0, by omega, rfl, rfl, fun _ => kc1, fun hh => by omega, k1⟩
  rintro m N xs w2 ⟨k, hk, rfl, rfl, hkc, hkc2, k2⟩ hN
  unfold keep_Open_L5F keep_Open_s4
  dsimp only
  simp only [bq_lss, bV_b, decide_eq_true_eq, decide_eq_false_iff_not]
  refine ⟨fun hlt => ?_, fun hge => ?_⟩
  · rcases (show k = 0 ∨ k = 1 by omega) with rfl | rfl
    · refine pass 0 w2 N (by omega) h0 k2 fun w3 k3 => ?_
      exact hN 1 _ w3 (by omega) ⟨1, by omega, rfl, rfl, fun _ => (hkc (by omega)).keep0 k3, fun hh => by omega, k2.trans' k3⟩
    · have kc2 := hkc (by omega)
      rcases h1 with ⟨g1, rfl, rfl⟩ | ⟨g1, rfl, ops, g2, g3, g4, g5, rfl⟩
      · refine pass 1 w2 N (by omega) g1 k2 fun w3 k3 => ?_
        exact hN 0 _ w3 (by omega) ⟨2, by omega, rfl, rfl, fun hh => by omega, fun _ => kc2.keep0 k3, k2.trans' k3⟩
      · unfold keep_Open_s3
        refine Read_spec (o.at_.keep k2 (by simp)) _ ?_
        rw [read_ok8 hcalm.off (by omega), g1, ex0, ex1]
        refine crcTake_spec (headK 1) (by rw [headK_len]; omega) ?_
        have htk : takeN (headK 1) 4 = 1 := by
          unfold headK
          rw [List.append_assoc]
          exact take_put 1 (by omega) _
        rw [if_neg (by rw [headK_len]; omega), htk]
        simp only [bq_lss, bV_b, decide_eq_true_eq, decide_eq_false_iff_not]
        refine ⟨fun hh => by omega, fun _ => ?_⟩
        simp only [bq_gtr, bV_b, decide_eq_true_eq, decide_eq_false_iff_not]
        refine ⟨fun hh => by omega, fun _ => ?_⟩
        rw [rem_of (by omega) (by omega), show (((1 : Nat) : Int) % 2) = ((1 : Nat) : Int) by decide]
        simp only [bq_neq, bV_b, decide_eq_true_eq]
        refine ⟨fun hh => absurd rfl hh, fun _ => ?_⟩
        refine head_k _ fun w3 k3 => ?_
        rw [show headK ((1 : Nat) : Int) = headK 1 from rfl, bq_nes8]
        simp only [bV_b]
        refine ⟨fun hh => by simp at hh, fun _ => ?_⟩
        have kc3 := kc2.keep0 k3
        rw [nk_p, fa_p, kc3.ldt]
        simp only [bq_leq, bV_b, decide_eq_true_eq, decide_eq_false_iff_not]
        refine ⟨fun hh => by omega, fun _ => ?_⟩
        unfold keep_Open_s2
        have k03 := k2.trans' k3
        have z3 := k03.size
        have lkb := kc3.lt
        refine whole_k (X := kb :: S) (o.at_.keep k03 (by simp)) hcalm.off h4 (fun q hq => by
          rcases List.mem_cons.1 hq with rfl | hq
          · exact lkb
          · have := hlS q hq; omega) g2 g3 g4 g5 fun w4 v4 k4 hv4 => ?_
        rw [ex0, ex1]
        refine newVX hv4 fun p9 w5 hp9 k5 c9 => ?_
        simp only [bV_b]
        refine ⟨fun _ => ?_, fun hh => by simp at hh⟩
        obtain ⟨vv, a, b, c, hh5, hve, hlx⟩ := c9.ex
        rw [ldAll (k := 4) hh5 rfl, nk_p, fa_p]
        have kc5 := (kc3.keep0 k4).keep0 k5
        refine kc5.stl (l' := (replayL lZ ops 0).1) (by rw [← hve]; exact hlx.less fun q hq => by simp only [List.mem_cons] at hq ⊢; exact .inr hq) fun w6 kc6 k6 => ?_
        rw [nk_p, fa_p]
        refine kc6.stt (t' := 1) fun w7 kc7 k7 => ?_
        unfold keep_Open_s1
        have e2 : IntKind.i64.wrap (((1 : Nat) : Int) + 1) = ((2 : Nat) : Int) := by decide
        simp only [bq_add, e2]
        refine hN 0 _ w7 (by omega) ⟨2, by omega, rfl, rfl, fun hh => by omega, fun _ => kc7, ?_⟩
        exact (((k03.trans' k4).trans' k5).trans k6 fun y hy hlt => by simp at hy; omega).trans k7 fun y hy hlt => by simp at hy; omega
  · have : k = 2 := by omega
    subst this
    have kc2 := hkc2 rfl
    unfold keep_Open_s0
    refine lay_k (o.keep k2) (by omega) hkbS kc2 rfl hm hw hcalm hflow hdl h4 hn (by omega) hrec hfit fun w3 ab B d' hs hl k3 hB => ?_
    simp only [bq_neq, bV_b, decide_eq_true_eq]
    refine ⟨fun hh => absurd rfl hh, fun _ => ?_⟩
    have z2 := k2.size
    refine hR w3 kb ab B d' hs hl ?_ (fun y hy => (hB y hy).imp id fun hh => by omega) hkb
    exact (k2.mono (S' := S) (by simp)).trans k3 fun y hy hlt => by
      rcases List.mem_cons.1 hy with rfl | hy
      · omega
      · exact hy
end
end Go.Proofs

set_option maxRecDepth 100000
set_option linter.unusedVariables false
set_option linter.unusedSimpArgs false
namespace Go.Proofs
open Go Go.Q
def pc (s : List UInt8) (n k : Nat) : List UInt8 := ((s ++ List.replicate (n - s.length) 0).drop (32 * k)).take 32
theorem pc_mid {s : List UInt8} {n k : Nat} (h1 : 32 * k ≤ s.length) (hn : s.length ≤ n) (hk : 32 * k + 32 ≤ n) : pc s n k = (s.drop (32 * k)).take 32 ++ List.replicate (32 - min 32 (s.length - 32 * k)) 0 := by
  unfold pc
  rw [List.drop_append_of_le_length h1, List.take_append, List.length_drop, List.take_replicate]
  congr 2
  omega
theorem pc_end {s : List UInt8} {n k : Nat} (h1 : s.length ≤ 32 * k) (hk : 32 * k + 32 ≤ n) : pc s n k = List.replicate 32 0 := by
  unfold pc
  rw [List.drop_append, List.drop_eq_nil_of_le h1, List.nil_append, List.drop_replicate, List.take_replicate]
  congr 1
  omega
theorem pc_len {s : List UInt8} {n k : Nat} (hn : s.length ≤ n) (hk : 32 * k + 32 ≤ n) : (pc s n k).length = 32 := by
  unfold pc
  rw [List.length_take, List.length_drop, List.length_append, List.length_replicate]; omega
theorem secOf_eq {all : List UInt8} {k : Nat} : secOf all k = (all.drop (32 * k)).take 32 := by
  unfold secOf
  rw [List.drop_take]
  by_cases h : 32 * k + 32 ≤ all.length
  · rw [show min (32 * k + 32) all.length - 32 * k = 32 by omega]
  · rw [List.take_of_length_le (by rw [List.length_drop]; omega), List.take_of_length_le (by rw [List.length_drop]; omega)]
theorem put_sec {u v : List UInt8} {n k : Nat} (hu : u.length < 32 * k + 32) (hk1 : 32 * k < (u ++ v).length) (hn : (u ++ v).length ≤ n) (hk : 32 * k + 32 ≤ n) : secOf (u ++ v) k ++ (pc u n k).drop (secOf (u ++ v) k).length = pc (u ++ v) n k := by
  rw [pc_mid (by omega) hn hk, secOf_eq]
  congr 1
  have hl : ((List.drop (32 * k) (u ++ v)).take 32).length = min 32 ((u ++ v).length - 32 * k) := by rw [List.length_take, List.length_drop]
  rw [hl]
  have hun : u.length ≤ n := by rw [List.length_append] at hn; omega
  by_cases h : 32 * k + 32 ≤ (u ++ v).length
  · rw [show min 32 ((u ++ v).length - 32 * k) = 32 by omega, List.drop_eq_nil_of_le (by rw [pc_len hun hk]; omega)]
    rfl
  · rw [show min 32 ((u ++ v).length - 32 * k) = (u ++ v).length - 32 * k by omega]
    have huv : u.length ≤ (u ++ v).length := by rw [List.length_append]; omega
    unfold pc
    rw [List.drop_take, List.drop_drop, show 32 * k + ((u ++ v).length - 32 * k) = (u ++ v).length by omega, List.drop_append, List.drop_eq_nil_of_le huv, List.nil_append, List.drop_replicate, List.take_replicate]
    congr 1
    omega
theorem pc_same {u v : List UInt8} {n k : Nat} (h : 32 * k + 32 ≤ u.length ∨ (u ++ v).length ≤ 32 * k) (hn : (u ++ v).length ≤ n) (hk : 32 * k + 32 ≤ n) : pc (u ++ v) n k = pc u n k := by
  have hla : (u ++ v).length = u.length + v.length := List.length_append
  rcases h with h | h
  · rw [pc_mid (by omega) hn hk, pc_mid (by omega) (by omega) hk]
    rw [List.drop_append_of_le_length (by omega), List.take_append_of_le_length (by rw [List.length_drop]; omega)]
    congr 2
    omega
  · rw [pc_end h hk, pc_end (by omega) hk]
structure LS (n t : Nat) (g : LG) (d : DK) (rs : List (List UInt8)) : Prop where
  g : g = logOf n t rs
  calm : Calm d
  flow : Flow d
  len : d.now.length = n
  rows : ∀ x ∈ d.now, x.length = 32
  secs : ∀ k, k < (n - 2) / 2 → sec d.now (areaL n t + k) = pc (fr ((t : Nat) : Int) rs) (32 * ((n - 2) / 2)) k
  fit : usedOf rs ≤ 32 * ((n - 2) / 2)
theorem LS.area {n t : Nat} {g : LG} {d : DK} {rs : List (List UInt8)} (h : LS n t g d rs) (h4 : 4 ≤ n) : allOf d (areaL n t) ((n - 2) / 2) = fr ((t : Nat) : Int) rs ++ List.replicate (32 * ((n - 2) / 2) - usedOf rs) 0 := by
  have := areaL_le (t := t) h4
  have hf := h.fit
  rw [← fr_len ((t : Nat) : Int) rs]
  exact sec_flat (by rw [h.len]; omega) (by rw [List.length_append, List.length_replicate, fr_len]; omega) h.secs
theorem flat_sec {L : List (List UInt8)} (hr : ∀ x ∈ L, x.length = 32) {a n k : Nat} (h : a + n ≤ L.length) (hk : k < n) : sec L (a + k) = ((((L.drop a).take n).flatten).drop (32 * k)).take 32 := by
  have e : ∀ m, m ≤ n → ∀ j, j < m → sec L (a + j) = ((((L.drop a).take m).flatten).drop (32 * j)).take 32 := by
    intro m
    induction m with
    | zero => intro _ j hj; omega
    | succ m ih =>
      intro hm j hj
      have hg : m < (L.drop a).length := by rw [List.length_drop]; omega
      have hlen : (((L.drop a).take m).flatten).length = 32 * m := by
        rw [flat_len (k := 32) (fun x hx => hr x (List.mem_of_mem_drop (List.mem_of_mem_take hx))), List.length_take, List.length_drop]; omega
      have hgm : (L.drop a)[m] = sec L (a + m) := by
        rw [List.getElem_drop]; unfold sec; simp [List.getD, show a + m < L.length by omega]
      have hl32 : (sec L (a + m)).length = 32 := by
        rw [← hgm]; exact hr _ (List.mem_of_mem_drop (List.getElem_mem hg))
      rw [take_snoc hg, List.flatten_append, List.flatten_cons, List.flatten_nil, List.append_nil, hgm]
      by_cases hjm : j < m
      · rw [List.drop_append_of_le_length (by omega), List.take_append_of_le_length (by rw [List.length_drop]; omega)]
        exact ih (by omega) j hjm
      · have : j = m := by omega
        subst this
        rw [List.drop_append, List.drop_eq_nil_of_le (by omega), List.nil_append, hlen, Nat.sub_self, List.drop_zero, List.take_of_length_le (by omega)]
  exact e n (Nat.le_refl _) k hk
theorem Laid.ls {d d' : DK} {t : Nat} {rs : List (List UInt8)} (h : Laid d d' t rs) (h4 : 4 ≤ d.now.length) (hfit : usedOf rs ≤ 32 * ((d.now.length - 2) / 2)) : LS d.now.length t (logOf d.now.length t rs) d' rs := by
  have := areaL_le (t := t) h4
  refine ⟨rfl, h.calm, h.flow, h.len, h.rows, fun k hk => ?_, hfit⟩
  rw [flat_sec h.rows (a := areaL d.now.length t) (n := (d.now.length - 2) / 2) (by rw [h.len]; omega) hk]
  have ha := h.area
  unfold allOf at ha
  rw [ha]
  unfold pc
  rw [fr_len]
theorem putN_pc {n lo : Nat} {u v : List UInt8} (hn : (u ++ v).length ≤ n) : ∀ (m : Nat) {d : DK} {k : Nat}, Calm d → Flow d → (∀ x ∈ d.now, x.length = 32) → lo + k + m ≤ d.now.length → u.length < 32 * k + 32 → (0 < m → 32 * (k + m - 1) < (u ++ v).length) → 32 * (k + m) ≤ n → (∀ j, k ≤ j → j < k + m → sec d.now (lo + j) = pc u n j) →
    (putN lo (u ++ v) d k m).2 = 0 ∧ Calm (putN lo (u ++ v) d k m).1 ∧ Flow (putN lo (u ++ v) d k m).1 ∧ (putN lo (u ++ v) d k m).1.sure = d.sure ∧ (putN lo (u ++ v) d k m).1.now.length = d.now.length ∧ (∀ x ∈ (putN lo (u ++ v) d k m).1.now, x.length = 32) ∧ (∀ j, k ≤ j → j < k + m → sec (putN lo (u ++ v) d k m).1.now (lo + j) = pc (u ++ v) n j) ∧ (∀ i, i < lo + k ∨ lo + k + m ≤ i → sec (putN lo (u ++ v) d k m).1.now i = sec d.now i) := by
  intro m
  induction m with
  | zero =>
    intro d k hc hf hr hl hu hv hk hs
    exact ⟨rfl, hc, hf, rfl, rfl, hr, fun j h1 h2 => by omega, fun i _ => rfl⟩
  | succ m ih =>
    intro d k hc hf hr hl hu hv hk hs
    have hv0 : 32 * k < (u ++ v).length := by have := hv (by omega); omega
    have hun : u.length ≤ n := by rw [List.length_append] at hn; omega
    have hi : lo + k < d.now.length := by omega
    have hrd := read_ok8 hc.off hi
    have hsk := hs k (by omega) (by omega)
    have hx : secOf (u ++ v) k ++ (sec d.now (lo + k)).drop (secOf (u ++ v) k).length = pc (u ++ v) n k := by rw [hsk]; exact put_sec hu hv0 hn (by omega)
    have hxl := pc_len (s := u ++ v) (n := n) (k := k) hn (by omega)
    have hp : putK d lo (u ++ v) k = ({ d with now := d.now.set (lo + k) (pc (u ++ v) n k), l := d.l ++ [(lo + k, pc (u ++ v) n k)] }, 0) := by
      unfold putK
      rw [hrd, if_pos rfl, hx, write_calm hc.off hc.fuse hi hxl]
    have hgo : putN lo (u ++ v) d k (m + 1) = putN lo (u ++ v) { d with now := d.now.set (lo + k) (pc (u ++ v) n k), l := d.l ++ [(lo + k, pc (u ++ v) n k)] } (k + 1) m := by
      show (if (putK d lo (u ++ v) k).2 = 0 then putN lo (u ++ v) (putK d lo (u ++ v) k).1 (k + 1) m else putK d lo (u ++ v) k) = _
      rw [hp, if_pos rfl]
    rw [hgo]
    obtain ⟨a1, a2, a3, a4, a5, a6, a7, a8⟩ := ih (d := { d with now := d.now.set (lo + k) (pc (u ++ v) n k), l := d.l ++ [(lo + k, pc (u ++ v) n k)] }) (k := k + 1) ⟨hc.off, hc.fuse⟩ (by
      show d.now.set (lo + k) _ = applyAll d.sure (d.l ++ [(lo + k, _)])
      rw [applyAll_snoc, ← hf]) (fun x hx => by
      rcases List.mem_or_eq_of_mem_set hx with hx | hx
      · exact hr x hx
      · rw [hx]; exact hxl) (by simp; omega) (by omega) (fun hm => by have := hv (by omega); rw [show k + 1 + m - 1 = k + (m + 1) - 1 by omega]; exact this) (by omega) (fun j h1 h2 => by
      show sec (d.now.set (lo + k) _) _ = _
      rw [sec_set hi, if_neg (by omega)]
      exact hs j (by omega) (by omega))
    refine ⟨a1, a2, a3, a4, a5.trans (by simp), a6, fun j h1 h2 => ?_, fun i h1 => ?_⟩
    · by_cases hj : j = k
      · subst hj
        rw [a8 _ (.inl (by omega))]
        show sec (d.now.set (lo + j) _) _ = _
        rw [sec_set hi, if_pos rfl]
      · exact a7 j (by omega) (by omega)
    · rw [a8 i (by omega)]
      show sec (d.now.set (lo + k) _) _ = _
      rw [sec_set hi, if_neg (by omega)]
theorem LS.add {n t : Nat} {g : LG} {d : DK} {rs grp : List (List UInt8)} (h : LS n t g d rs) (h4 : 4 ≤ n) (ht1 : 1 ≤ t) (ht2 : t ≤ 2147483647) (hr : Recs grp) (hu : usedOf rs + usedOf grp ≤ 32 * ((n - 2) / 2)) :
    (addG g d grp).2.2 = 0 ∧ LS n t (addG g d grp).1 (addG g d grp).2.1 (rs ++ grp) ∧ (addG g d grp).2.1.sure = d.sure ∧ (addG g d grp).2.1.l.length ≤ d.l.length + n ∧ ∀ i, i < areaL n t ∨ areaL n t + (n - 2) / 2 ≤ i → sec (addG g d grp).2.1.now i = sec d.now i := by
  obtain ⟨b1, b2⟩ := areaL_le (t := t) h4
  have hg := h.g
  have hlen := h.len
  have hsecs := h.secs
  generalize hH : (n - 2) / 2 = H at *
  generalize hA : areaL n t = A at *
  have hto := turnOk_of ht1 ht2
  have hul : (fr ((t : Nat) : Int) rs).length = usedOf rs := fr_len _ rs
  have hug : (fr ((t : Nat) : Int) grp).length = usedOf grp := fr_len _ grp
  have glo : g.lo.toNat = A := by rw [hg]; unfold logOf; rw [hA]; simp
  have gt : g.turn = ((t : Nat) : Int) := by rw [hg]; rfl
  have gused : g.used = fr ((t : Nat) : Int) rs := by rw [hg]; rfl
  have gl : g.l = rs := by rw [hg]; rfl
  have groom : roomOf g = 32 * (H : Nat) - (usedOf rs : Nat) := by
    unfold roomOf
    rw [gused, hul, hg]
    unfold logOf
    rw [hA, hH]
    simp only
    omega
  have hrun := addRun_fits (t := ((t : Nat) : Int)) (room := roomOf g) hto grp [] hr (by rw [groom]; simp; omega)
  rw [List.nil_append] at hrun
  have hadd : addG g d grp = (if (if 0 < (fr ((t : Nat) : Int) grp).length then putN A (fr ((t : Nat) : Int) rs ++ fr ((t : Nat) : Int) grp) d ((fr ((t : Nat) : Int) rs).length / 32) (((fr ((t : Nat) : Int) rs ++ fr ((t : Nat) : Int) grp).length + 31) / 32 - (fr ((t : Nat) : Int) rs).length / 32) else (d, 0)).2 = 0 then ({ g with l := rs ++ grp, used := fr ((t : Nat) : Int) rs ++ fr ((t : Nat) : Int) grp }, (if 0 < (fr ((t : Nat) : Int) grp).length then putN A (fr ((t : Nat) : Int) rs ++ fr ((t : Nat) : Int) grp) d ((fr ((t : Nat) : Int) rs).length / 32) (((fr ((t : Nat) : Int) rs ++ fr ((t : Nat) : Int) grp).length + 31) / 32 - (fr ((t : Nat) : Int) rs).length / 32) else (d, 0)).1, 0) else (g, (if 0 < (fr ((t : Nat) : Int) grp).length then putN A (fr ((t : Nat) : Int) rs ++ fr ((t : Nat) : Int) grp) d ((fr ((t : Nat) : Int) rs).length / 32) (((fr ((t : Nat) : Int) rs ++ fr ((t : Nat) : Int) grp).length + 31) / 32 - (fr ((t : Nat) : Int) rs).length / 32) else (d, 0)).1, (if 0 < (fr ((t : Nat) : Int) grp).length then putN A (fr ((t : Nat) : Int) rs ++ fr ((t : Nat) : Int) grp) d ((fr ((t : Nat) : Int) rs).length / 32) (((fr ((t : Nat) : Int) rs ++ fr ((t : Nat) : Int) grp).length + 31) / 32 - (fr ((t : Nat) : Int) rs).length / 32) else (d, 0)).2)) := by
    unfold addG
    rw [gt, hrun, glo, gused, gl]
    simp
  generalize hU : fr ((t : Nat) : Int) rs = U at *
  generalize hV : fr ((t : Nat) : Int) grp = V at *
  have hUV : (U ++ V).length = usedOf rs + usedOf grp := by rw [List.length_append, hul, hug]
  have hfr : fr ((t : Nat) : Int) (rs ++ grp) = U ++ V := by rw [fr_append, hU, hV]
  have hgn : ({ g with l := rs ++ grp, used := U ++ V } : LG) = logOf n t (rs ++ grp) := by rw [hg]; unfold logOf; rw [hfr]
  by_cases h0 : 0 < V.length
  · rw [if_pos h0] at hadd
    obtain ⟨a1, a2, a3, a4, a5, a6, a7, a8⟩ := putN_pc (n := 32 * H) (lo := A) (u := U) (v := V) (by omega) (((U ++ V).length + 31) / 32 - U.length / 32) (d := d) (k := U.length / 32) h.calm h.flow h.rows (by omega) (by omega) (fun _ => by omega) (by omega) (fun j _ hj2 => by
      have := hsecs j (by omega)
      exact this)
    have hll := putN_l A (U ++ V) (((U ++ V).length + 31) / 32 - U.length / 32) d (U.length / 32)
    rw [if_pos a1] at hadd
    rw [hadd]
    refine ⟨rfl, ⟨hgn, a2, a3, a5.trans hlen, a6, fun k hk => ?_, by rw [usedOf_append, hH]; exact hu⟩, a4, by dsimp only; omega, fun i hi => a8 i (by omega)⟩
    rw [hH] at hk ⊢
    rw [hA, hfr]
    show sec (putN A (U ++ V) d (U.length / 32) (((U ++ V).length + 31) / 32 - U.length / 32)).1.now (A + k) = _
    by_cases hin : U.length / 32 ≤ k ∧ k < U.length / 32 + (((U ++ V).length + 31) / 32 - U.length / 32)
    · exact a7 k hin.1 hin.2
    · rw [a8 _ (by omega), hsecs k hk, pc_same (by omega) (by omega) (by omega)]
  · rw [if_neg h0, if_pos rfl] at hadd
    have hV0 : V = [] := List.length_eq_zero_iff.1 (by omega)
    rw [hadd]
    refine ⟨rfl, ⟨hgn, h.calm, h.flow, hlen, h.rows, fun k hk => ?_, by rw [usedOf_append, hH]; exact hu⟩, rfl, by dsimp only; omega, fun i hi => rfl⟩
    rw [hH] at hk ⊢
    rw [hA, hfr, hV0, List.append_nil]
    exact hsecs k hk
theorem LS.full {n t : Nat} {g : LG} {d : DK} {rs : List (List UInt8)} {s : List UInt8} (h : LS n t g d rs) (ht1 : 1 ≤ t) (ht2 : t ≤ 2147483647) (hr : s ≠ [] ∧ s.length ≤ 1024) (hu : 32 * ((n - 2) / 2) < usedOf rs + usedOf [s]) : addG g d [s] = (g, d, 2) := by
  have hg := h.g
  have hto := turnOk_of ht1 ht2
  have gt : g.turn = ((t : Nat) : Int) := by rw [hg]; rfl
  have gused : g.used = fr ((t : Nat) : Int) rs := by rw [hg]; rfl
  have groom : roomOf g = 32 * (((n - 2) / 2 : Nat) : Int) - (usedOf rs : Nat) := by
    unfold roomOf
    rw [gused, fr_len, hg]
    unfold logOf
    simp only
    omega
  have hfl := frameB_len ((t : Nat) : Int) s
  have hu1 : usedOf [s] = 10 + s.length := by simp [usedOf]
  have hrun : addRun ((t : Nat) : Int) (roomOf g) [s] [] false = (0, [], true) := by
    rw [addRun_cons, frame_rec hto hr, if_pos rfl, if_pos (.inr (by rw [hfl, groom]; simp; omega))]
    rfl
  unfold addG
  rw [gt, hrun]
  simp
end Go.Proofs

set_option maxRecDepth 100000
set_option linter.unusedVariables false
set_option linter.unusedSimpArgs false
namespace Go.Proofs
open Go Go.Q
def wfB (v : V3) : Bool := decide (-9223372036854775808 ≤ v.k ∧ v.k < 9223372036854775808 ∧ -9223372036854775808 ≤ v.n ∧ v.n < 9223372036854775808 ∧ v.s.length < 2 ^ 39)
theorem wfB_of {v : V3} (h : wfB v = true) : v.Wf := by
  unfold wfB at h
  simp only [decide_eq_true_eq] at h
  exact ⟨h.1, h.2.1, h.2.2.1, h.2.2.2.1, h.2.2.2.2⟩
def lwfB (l : LV) : Bool := (l.st.all fun s => (rowS s).all wfB) && (l.ho.all fun h => (rowH stateT h).all wfB) && (l.mo.all fun h => (rowH kindT h).all wfB) && wfB (numV l.ops)
theorem lwf_of {l : LV} (h : lwfB l = true) : LWf l := by
  unfold lwfB at h
  simp only [Bool.and_eq_true, List.all_eq_true] at h
  obtain ⟨⟨⟨h1, h2⟩, h3⟩, h4⟩ := h
  exact ⟨fun s hs v hv => wfB_of (h1 s hs v hv), fun s hs v hv => wfB_of (h2 s hs v hv), fun s hs v hv => wfB_of (h3 s hs v hv), wfB_of h4⟩
def recsB (rs : List (List UInt8)) : Bool := rs.all fun s => decide (s ≠ [] ∧ s.length ≤ 1024)
theorem recs_of {rs : List (List UInt8)} (h : recsB rs = true) : Recs rs := by
  unfold recsB at h
  rw [List.all_eq_true] at h
  exact fun s hs => of_decide_eq_true (h s hs)
section
variable {w0 w w' : World} {kb bd ab : Nat} {l : LV} {n t : Nat} {B : List Nat} {R : Value → World → Prop} {d : DK} {g : LG} {rs : List (List UInt8)}
theorem submit_ls (h : KS w0 w kb bd ab l t g d B) (hls : LS n t g d rs) (h4 : 4 ≤ n) (hn : n ≤ 120) (ht1 : 1 ≤ t) (ht2 : t ≤ 2147483647) (hrs : rs.length < 2 ^ 37) (hdl : d.l.length < 2 ^ 37) (hm : May l) {o : OpV} (how : o.Wf) (happ : (applyL l o).2 = 0) (hwf : LWf (applyL l o).1) (hrec : Recs (recL (applyL l o).1)) (hO : Recs [recO o])
    (hok : usedOf (recL (applyL l o).1) ≤ 32 * ((n - 2) / 2) → usedOf rs + usedOf [recO o] ≤ 32 * ((n - 2) / 2) → ∀ w' B' g' d', KS w0 w' kb bd ab (applyL l o).1 t g' d' B' → LS n t g' d' (rs ++ [recO o]) → d'.sure = d.sure → d'.l.length ≤ d.l.length + n → (∀ i, i < areaL n t ∨ areaL n t + (n - 2) / 2 ≤ i → sec d'.now i = sec d.now i) → Kp (kb :: B) w w' → (∀ y ∈ B', y ∈ B ∨ w.heap.size ≤ y) → R (.int .i64 0) w')
    (hfull : (¬ usedOf (recL (applyL l o).1) ≤ 32 * ((n - 2) / 2) ∨ ¬ usedOf rs + usedOf [recO o] ≤ 32 * ((n - 2) / 2)) → ∀ w' B', KS w0 w' kb bd ab l t g d B' → Kp (kb :: B) w w' → (∀ y ∈ B', y ∈ B ∨ w.heap.size ≤ y) → R (.int .i64 2) w') :
    callG Tryz.prog 12 #[.pointer (some ⟨kb, 0, none⟩), .agg (opC o).toArray] w R := by
  have hlen := hls.len
  have hg := hls.g
  have ha := areaL_le (t := t) h4
  have hfit := hls.fit
  have hO1 := hO (recO o) (by simp)
  refine submit_k h hm how (by omega) (fun _ => ⟨hwf, hrec⟩) (by rw [hg]; show rs.length < _; omega) (by omega) (lo := areaL n t) (hi := areaL n t + (n - 2) / 2) (by rw [hg]; rfl) (by rw [hg]; rfl) (by omega) (by omega) (by
    rw [hg]
    show (((fr ((t : Nat) : Int) rs).length : Nat) : Int) ≤ _
    rw [fr_len]; omega) fun w' B' hs hk hB => ?_
  unfold subL at hs ⊢
  rw [if_neg (by rw [happ]; simp)] at hs ⊢
  rw [hlen] at hs ⊢
  by_cases hf1 : usedOf (recL (applyL l o).1) ≤ 32 * ((n - 2) / 2)
  · rw [if_neg (by simpa using hf1)] at hs ⊢
    by_cases hf2 : usedOf rs + usedOf [recO o] ≤ 32 * ((n - 2) / 2)
    · obtain ⟨a1, a2, a3, a4, a5⟩ := hls.add h4 ht1 ht2 hO hf2
      rw [show [79 :: (putOp o).1] = [recO o] from rfl] at hs ⊢
      rw [if_neg (by rw [a1]; simp)] at hs ⊢
      exact hok hf1 hf2 w' B' _ _ hs a2 a3 a4 a5 hk hB
    · have hfu := hls.full ht1 ht2 hO1 (by omega)
      rw [show [79 :: (putOp o).1] = [recO o] from rfl] at hs ⊢
      rw [hfu] at hs ⊢
      rw [if_pos (by simp)] at hs ⊢
      exact hfull (.inr hf2) w' B' hs hk hB
  · rw [if_pos hf1] at hs ⊢
    exact hfull (.inl hf1) w' B' hs hk hB
end
def oR (q : Int) : OpV := ⟨1, [115], [120], [], q, 0, 0⟩
def l5 : LV := ⟨[⟨[115], [120], 5, 0⟩], [], [⟨1, [115], [120], 5, 1, 0⟩], 1⟩
def l7 : LV := ⟨[⟨[115], [120], 7, 0⟩], [], [⟨1, [115], [120], 5, 1, 0⟩, ⟨2, [115], [120], 2, 1, 0⟩], 2⟩
theorem app5 : applyL lZ (oR 5) = (l5, 0) := by decide +kernel
theorem app7 : applyL l5 (oR 2) = (l7, 0) := by decide +kernel
theorem rep5 : replayL lZ [oR 5] 0 = (l5, 1, 0) := by decide +kernel
theorem wf5 : LWf l5 := lwf_of (by decide +kernel)
theorem wf7 : LWf l7 := lwf_of (by decide +kernel)
theorem rc0 : Recs (recL lZ) := recs_of (by decide +kernel)
theorem rc5 : Recs (recL l5) := recs_of (by decide +kernel)
theorem rc7 : Recs (recL l7) := recs_of (by decide +kernel)
theorem ro5 : Recs [recO (oR 5)] := recs_of (by decide +kernel)
theorem ro2 : Recs [recO (oR 2)] := recs_of (by decide +kernel)
theorem us0 : usedOf (recL lZ) ≤ 608 := by decide +kernel
theorem us5 : usedOf (recL l5) ≤ 608 := by decide +kernel
theorem us7 : usedOf (recL l7) ≤ 608 := by decide +kernel
theorem ul5 : usedOf (recL lZ) + usedOf [recO (oR 5)] ≤ 608 := by decide +kernel
theorem ul7 : usedOf (recL lZ ++ [recO (oR 5)]) + usedOf [recO (oR 2)] ≤ 608 := by decide +kernel
theorem oR_wf (q : Int) (h0 : -9223372036854775808 ≤ q) (h1 : q < 9223372036854775808) : (oR q).Wf := by
  constructor <;> simp [oR] <;> omega
theorem may5 : May l5 := by
  have := applyL_may may_z (oR_wf 5 (by omega) (by omega))
  rw [app5] at this
  exact this
theorem tk5 : takeOp (putOp (oR 5)).1 = (oR 5, 0) := by decide +kernel
section
variable {w w' : World} {R : Value → World → Prop}
theorem receive_k (q : Int) (hR : ∀ w', Kp [] w w' → R (.agg (opC (oR q)).toArray) w') : callG Tryz.prog 20 #[.int .i64 q] w R := by
  refine law08_receive_call ?_
  unfold law08_receive law08_receive_s0
  refine newB fun p2 w1 hp2 h2 k1 => ?_
  have hbl : ∀ K : Value → Prop, bld [(0, 1), (1, 1), (2, 1), (3, 1), (4, 1), (5, 1), (6, 1)] (zc Tryz.prog 42) #[(0, .int .i64 1), (1, .string ⟨#[115]⟩), (2, .string ⟨#[120]⟩), (4, .int .i64 q)] K = K (.agg (opC (oR q)).toArray) := fun K => by rw [zcOp]; rfl
  rw [hbl]
  refine retB (by kernel_rfl) (by kernel_rfl) h2 (by rw [zcOp]; rfl) rfl (by simp [opC, Q.one]) fun w2 k2 => ?_
  exact hR w2 (k1.trans k2 fun y hy hlt => by simp at hy; omega)
end
end Go.Proofs

set_option maxRecDepth 100000
set_option linter.unusedVariables false
set_option linter.unusedSimpArgs false
namespace Go.Proofs
open Go Go.Q
theorem crashL_nil (l : List (Nat × List UInt8)) (L : List (List UInt8)) : crashL l [] L = L := by cases l <;> rfl
theorem sec_fresh8 {n i : Nat} (hi : i < n) : sec (DK.fresh n).now i = nought := by
  unfold sec DK.fresh secs0 nought
  simp [List.getD, hi]
theorem fresh_calm (n : Nat) : Calm (DK.fresh n) := ⟨rfl, rfl⟩
theorem ints_none {w : World} : IntsAt w (.slice none 0 0) [] [] := ⟨none, 0, rfl, .inl rfl⟩
section
variable {w0 w w' : World} {R : Value → World → Prop}
theorem Open_new {bd n : Nat} {S : List Nat} (o : Own w0 w bd (DK.fresh n) S) (h4 : 4 ≤ n) (hn : n ≤ 120) (hfit : usedOf (recL lZ) ≤ 32 * ((n - 2) / 2))
    (hR : ∀ w' kb ab B g d', KS w0 w' kb bd ab lZ 1 g d' B → LS n 1 g d' (recL lZ) → sec d'.now 0 = nought → sec d'.now 1 = headK 1 → d'.l = [] → Kp S w w' → (∀ y ∈ B, y ∈ S ∨ w.heap.size ≤ y) → w.heap.size ≤ kb → R (.tuple #[.pointer (some ⟨kb, 0, none⟩), .int .i64 0]) w') :
    callG Tryz.prog 11 #[.pointer (some ⟨bd, 0, none⟩)] w R := by
  have hlen : (DK.fresh n).now.length = n := by simp [DK.fresh, secs0]
  have ha := areaL_le (t := 1) h4
  refine Open_k o (fresh_calm n) (flow_fresh n) (by simp [DK.fresh]) (by omega) (by omega) (sec_fresh8 (by omega)) (.inl ⟨sec_fresh8 (by omega), rfl, rfl⟩) may_z lz_wf rc0 (by rw [hlen]; exact hfit) fun w' kb ab B d' hs hl hk hB hkb => ?_
  have hls := hl.ls (by omega) (by rw [hlen]; exact hfit)
  rw [hlen] at hls hs
  refine hR w' kb ab B _ d' hs hls ?_ hl.head hl.log hk hB hkb
  rw [hl.out 0 (by omega) (.inl (by rw [hlen]; have := (areaL_le (n := n) (t := 0 + 1) h4).1; omega))]
  exact sec_fresh8 (by omega)
theorem awake8 (hR : ∀ w', Kp [] w w' → R (.bool true) w') : callG Tryz.prog 7 #[] w R := by
  refine law08_awake_call ?_
  unfold law08_awake law08_awake_s1
  rw [show (Value.int .i64 40) = .int .i64 ((40 : Nat) : Int) from rfl]
  refine New_ok (by omega) (by omega) fun w1 bd S1 hd1 k1 hS1 => ?_
  rw [ex0, ex1]
  have o1 : Own w w1 bd (DK.fresh 40) S1 := ⟨hd1, k1, hS1⟩
  refine Open_new o1 (by omega) (by omega) us0 fun w2 kb ab B2 g2 d2 hs2 hl2 hz2 hh2 he2 k2 hB2 hkb2 => ?_
  rw [ex0, ex1]
  simp only [bq_neq, bV_b, decide_eq_true_eq]
  refine ⟨fun hh => absurd rfl hh, fun _ => ⟨fun hh => absurd rfl hh, fun _ => ?_⟩⟩
  rw [bq_peql _ (by kernel_rfl)]
  simp only [bV_b, Option.isNone_some]
  refine ⟨fun hh => by simp at hh, fun _ => ?_⟩
  refine receive_k 5 fun w3 k3 => ?_
  have hap : (applyL lZ (oR 5)).1 = l5 := by rw [app5]
  refine submit_ls (hs2.keep k3) hl2 (by omega) (by omega) (by omega) (by omega) (by decide) (by rw [he2]; simp) may_z (oR_wf 5 (by omega) (by omega)) (by rw [app5]) (by rw [hap]; exact wf5) (by rw [hap]; exact rc5) ro5 (fun _ _ w4 B4 g4 d4 hs4 hl4 hsu4 hll4 hout4 k4 hB4 => ?_) fun hno => ?_
  rotate_left
  · exfalso
    rw [hap] at hno
    rcases hno with hno | hno
    · exact hno us5
    · exact hno ul5
  rw [hap] at hs4
  simp only [bq_neq, bV_b, decide_eq_true_eq]
  refine ⟨fun hh => absurd rfl hh, fun _ => ?_⟩
  refine sync_k hs4 (by rw [he2] at hll4; simp at hll4; omega) fun w5 hs5 k5 => ?_
  have hfl := flush_flow hl4.calm hl4.flow
  rw [hfl] at hs5
  rw [hfl]
  simp only [bq_neq, bV_b, decide_eq_true_eq]
  refine ⟨fun hh => absurd rfl hh, fun _ => ?_⟩
  have hl5 : LS 40 1 g4 { d4 with sure := d4.now, l := [] } (recL lZ ++ [recO (oR 5)]) := ⟨hl4.g, ⟨hl4.calm.off, hl4.calm.fuse⟩, rfl, hl4.len, hl4.rows, hl4.secs, hl4.fit⟩
  refine receive_k 2 fun w6 k6 => ?_
  have hap7 : (applyL l5 (oR 2)).1 = l7 := by rw [app7]
  refine submit_ls (hs5.keep k6) hl5 (by omega) (by omega) (by omega) (by omega) (by decide) (by simp) may5 (oR_wf 2 (by omega) (by omega)) (by rw [app7]) (by rw [hap7]; exact wf7) (by rw [hap7]; exact rc7) ro2 (fun _ _ w7 B7 g7 d7 hs7 hl7 hsu7 hll7 hout7 k7 hB7 => ?_) fun hno => ?_
  rotate_left
  · exfalso
    rw [hap7] at hno
    rcases hno with hno | hno
    · exact hno us7
    · exact hno ul7
  simp only [bq_neq, bV_b, decide_eq_true_eq]
  refine ⟨fun hh => absurd rfl hh, fun _ => ?_⟩
  obtain ⟨S7, SL7, lv7, eB7, hd7, _⟩ := hs7.ol.ex
  have hnew7 := hs7.ol.new
  have hkp7 := hs7.ol.kp
  refine Crash_spec hd7 (by simp at hll7; omega) ints_none (by simp) (by simp) fun w8 hd8 k8 => ?_
  simp only [bq_neq, bV_b, decide_eq_true_eq]
  refine ⟨fun hh => absurd rfl hh, fun _ => ?_⟩
  have hcr : (d7.crash []).now = d4.now := by
    show crashL d7.l [] d7.sure = d4.now
    rw [crashL_nil, hsu7]
  have hlen8 : (d7.crash []).now.length = 40 := by rw [hcr]; exact hl4.len
  have o8 : Own w w8 bd (d7.crash []) S7 := ⟨hd8, hkp7.trans k8 fun y hy hlt => by have := hnew7 y (by rw [eB7]; simp [hy]); omega, fun y hy => hnew7 y (by rw [eB7]; simp [hy])⟩
  have ha := areaL_le (n := 40) (t := 1) (by omega)
  have hd4a : allOf (d7.crash []) (areaL 40 1) ((40 - 2) / 2) = fr ((1 : Nat) : Int) (recL lZ ++ [recO (oR 5)]) ++ List.replicate (32 * ((40 - 2) / 2) - usedOf (recL lZ ++ [recO (oR 5)])) 0 := by
    have := hl4.area (by omega)
    unfold allOf at this ⊢
    rw [hcr]
    exact this
  have hrs : Recs (recL lZ ++ [recO (oR 5)]) := fun s hs => by
    rcases List.mem_append.1 hs with hs | hs
    · exact rc0 s hs
    · exact ro5 s hs
  have hz4 : sec d4.now 0 = nought := by rw [hout4 0 (.inl (by omega))]; exact hz2
  have hh4 : sec d4.now 1 = headK 1 := by rw [hout4 1 (.inl (by omega))]; exact hh2
  unfold law08_awake_s0
  refine Open_k (l := l5) (t := 1) o8 ⟨rfl, rfl⟩ rfl (by simp [DK.crash]) (by omega) (by omega) (by rw [hcr]; exact hz4) (.inr ⟨by rw [hcr]; exact hh4, rfl, [oR 5], fun o ho => by simp at ho; rw [ho]; exact ⟨tk5, oR_wf 5 (by omega) (by omega)⟩, by simp, ?_, by rw [rep5], by rw [rep5]⟩) may5 wf5 rc5 (by rw [hlen8]; exact us5) fun w9 kb9 ab9 B9 d9 hs9 hl9 k9 hB9 hkb9 => ?_
  · rw [hlen8, hd4a, scan_fr (turnOk_of (by omega) (by omega)) _ _ hrs, scan_noughts, List.append_nil]
    rfl
  rw [ex0, ex1]
  simp only [bq_eql, bV_b, decide_eq_true_eq]
  refine ⟨fun _ => ?_, fun hh => by simp at hh⟩
  rw [bq_pneq _ (by kernel_rfl)]
  simp only [bV_b, Option.isNone_some, Bool.not_false]
  refine ⟨fun _ => ?_, fun hh => by simp at hh⟩
  refine ledger_k hs9.kc may5 fun w10 v10 k10 hv10 _ => ?_
  rw [show (Value.string ⟨#[115]⟩) = .string (str [115]) from rfl, show (Value.string ⟨#[120]⟩) = .string (str [120]) from rfl]
  refine refFind_spec hv10 (by simp [l5]) [115] [120] fun w11 k11 => ?_
  have hfd : findS l5.st [115] [120] = ⟨[115], [120], 5, 0⟩ := by decide +kernel
  rw [hfd]
  have hf2 : ∀ (a b c d : Value) (K : Value → Prop), fld false 2 1 (.agg #[a, b, c, d]) K = K c := fun a b c d K => rfl
  unfold sA
  rw [hf2]
  simp only [bq_eql, bV_b, decide_eq_true_eq]
  refine ⟨fun _ => ?_, fun hh => by simp at hh⟩
  have hs11 := (hs9.keep k10).keep k11
  refine turn_k hs11.kc ?_
  simp only [bq_eql, bV_b, decide_eq_true_eq]
  refine ⟨fun _ => ?_, fun hh => by simp at hh⟩
  refine ledger_k hs11.kc may5 fun w12 v12 k12 hv12 _ => ?_
  obtain ⟨a, b, c, rfl, r1, r2, r3⟩ := hv12
  rw [hf2, r3.lenL]
  simp only [bq_eql]
  exact hR w12 (hs11.kp.trans' k12)
end
end Go.Proofs

set_option maxRecDepth 100000
set_option linter.unusedVariables false
set_option linter.unusedSimpArgs false
namespace Go.Proofs
open Go Go.Q
section
variable {X : List Nat} {w w' : World} {v : Value} {l l' : LV} {x y : Nat}
theorem sC_inj {a b : SV} : eqC (sC a) (sC b) = decide (a = b) := by
  obtain ⟨a1, a2, a3, a4⟩ := a
  obtain ⟨b1, b2, b3, b4⟩ := b
  rw [Bool.eq_iff_iff]
  simp [sC]
theorem hC_inj {a b : HV} : eqC (hC a) (hC b) = decide (a = b) := by
  obtain ⟨a1, a2, a3, a4, a5, a6⟩ := a
  obtain ⟨b1, b2, b3, b4, b5, b6⟩ := b
  rw [Bool.eq_iff_iff]
  simp [hC]
theorem Same7_spec {w : World} {v v' : Value} {l l' : LV} (h : LedAt w v l) (h' : LedAt w v' l') (hs : l.st.length < 2 ^ 40) (hh : l.ho.length < 2 ^ 40) (hm : l.mo.length < 2 ^ 40) {K : Value → World → Prop} (hK : ∀ w', Kp [] w w' → K (.bool (decide (l = l'))) w') : callG Tryz.prog 15 #[v, v'] w K := by
  refine ref07_Same_call ?_
  unfold ref07_Same ref07_Same_s10
  refine boxLed h fun x a b c w1 hx k1 hB _ => ?_
  refine boxLed (h'.keep k1) fun y a' b' c' w2 hy k2 hB' _ => ?_
  have hB2 := hB.keep k2
  have k02 := k1.trans' k2
  have hno : ∀ w', Kp [] w2 w' → ¬ (l = l') → K (.bool false) w' := fun w' k e => by have := hK w' (k02.trans' k); rw [decide_eq_false e] at this; exact this
  simp only [fa_p, Nat.add_zero, Nat.zero_add]
  rw [hB2.l0, hB2.a.lenL, hB'.l0, hB'.a.lenL, List.length_map, List.length_map]
  simp only [bq_neq, bV_b, decide_eq_true_eq, decide_eq_false_iff_not]
  refine ⟨fun e => hno w2 (Kp.refl _ _) (fun h => e (by rw [h])), fun e1 => ?_⟩
  rw [hB2.l1, hB2.b.lenL, hB'.l1, hB'.b.lenL, List.length_map, List.length_map]
  simp only [bq_neq, bV_b, decide_eq_true_eq, decide_eq_false_iff_not]
  refine ⟨fun e => hno w2 (Kp.refl _ _) (fun h => e (by rw [h])), fun e2 => ?_⟩
  rw [hB2.l2, hB2.c.lenL, hB'.l2, hB'.c.lenL, List.length_map, List.length_map]
  simp only [bq_neq, bV_b, decide_eq_true_eq, decide_eq_false_iff_not]
  refine ⟨fun e => hno w2 (Kp.refl _ _) (fun h => e (by rw [h])), fun e3 => ?_⟩
  rw [hB2.l3, hB'.l3]
  simp only [bq_neq, bV_b, decide_eq_true_eq, decide_eq_false_iff_not]
  refine ⟨fun e => hno w2 (Kp.refl _ _) (fun h => e (by rw [h])), fun e4 => ?_⟩
  have e1 : l.st.length = l'.st.length := by omega
  have e2 : l.ho.length = l'.ho.length := by omega
  have e3 : l.mo.length = l'.mo.length := by omega
  have e4 : l.ops = l'.ops := Decidable.not_not.1 e4
  unfold ref07_Same_s9 ref07_Same_L8
  refine loop_inv (fun m xs wi => ∃ i, i ≤ l.st.length ∧ m = l.st.length - i ∧ xs = [.pointer (some ⟨x, 0, none⟩), .pointer (some ⟨y, 0, none⟩), .int .i64 (i : Nat)] ∧ Kp [] w2 wi ∧ ∀ j (h1 : j < l.st.length) (h2 : j < l'.st.length), j < i → l.st[j] = l'.st[j]) ?_ (m := l.st.length) ⟨0, by omega, rfl, rfl, Kp.refl _ _, fun j _ _ h => by omega⟩
  rintro m N xs wi ⟨i, hi, rfl, rfl, ki, hall⟩ hN
  have hiw : IntKind.i64.wrap ((i : Int) + 1) = ((i + 1 : Nat) : Int) := by rw [w64 (by omega) (by omega)]; simp
  have bi := hB2.keep ki
  unfold ref07_Same_L8F ref07_Same_b7
  simp only [fa_p, Nat.add_zero, Nat.zero_add]
  rw [bi.l0, bi.a.lenL, List.length_map]
  simp only [bq_lss, bV_b, decide_eq_true_eq, decide_eq_false_iff_not]
  refine ⟨fun hlt => ?_, fun hge => ?_⟩
  · have hlt : i < l.st.length := by omega
    have kd : Kp [] w2 wi.drew := ki.trans' kp_drew
    have bd := hB2.keep kd
    have bd' := hB'.keep kd
    obtain ⟨p, p1, p2, _⟩ := rd_parts bd.a hlt
    obtain ⟨q, q1, q2, _⟩ := rd_parts bd'.a (show i < l'.st.length by omega)
    rw [bd.l0, p1, p2, bd'.l0, q1, q2]
    rw [bq_aggneq (by kernel_rfl), sC_inj]
    simp only [bV_b, bq_add, hiw]
    refine ⟨fun e => hno _ kd (fun h => ?_), fun e => ?_⟩
    · subst h; simp at e
    · have e : l.st[i] = l'.st[i]'(by omega) := by simpa using e
      refine hN (l.st.length - (i + 1)) _ _ (by omega) ⟨i + 1, by omega, rfl, rfl, kd, fun j h1 h2 hj => ?_⟩
      by_cases hji : j = i
      · subst hji; exact e
      · exact hall j h1 h2 (by omega)
  have est : l.st = l'.st := List.ext_getElem e1 fun j h1 h2 => hall j h1 h2 (by omega)
  unfold ref07_Same_s6 ref07_Same_L5
  refine loop_inv (fun m xs wj => ∃ i, i ≤ l.ho.length ∧ m = l.ho.length - i ∧ xs = [.pointer (some ⟨x, 0, none⟩), .pointer (some ⟨y, 0, none⟩), .int .i64 (i : Nat)] ∧ Kp [] w2 wj ∧ ∀ j (h1 : j < l.ho.length) (h2 : j < l'.ho.length), j < i → l.ho[j] = l'.ho[j]) ?_ (m := l.ho.length) ⟨0, by omega, rfl, rfl, ki, fun j _ _ h => by omega⟩
  clear hN hall hiw bi
  rintro m N xs wj ⟨i, hi, rfl, rfl, kj, hall⟩ hN
  have hiw : IntKind.i64.wrap ((i : Int) + 1) = ((i + 1 : Nat) : Int) := by rw [w64 (by omega) (by omega)]; simp
  have bi := hB2.keep kj
  unfold ref07_Same_L5F ref07_Same_b4
  simp only [fa_p, Nat.add_zero, Nat.zero_add]
  rw [bi.l1, bi.b.lenL, List.length_map]
  simp only [bq_lss, bV_b, decide_eq_true_eq, decide_eq_false_iff_not]
  refine ⟨fun hlt => ?_, fun hge => ?_⟩
  · have hlt : i < l.ho.length := by omega
    have kd : Kp [] w2 wj.drew := kj.trans' kp_drew
    have bd := hB2.keep kd
    have bd' := hB'.keep kd
    obtain ⟨p, p1, p2, _⟩ := rd_parts bd.b hlt
    obtain ⟨q, q1, q2, _⟩ := rd_parts bd'.b (show i < l'.ho.length by omega)
    rw [bd.l1, p1, p2, bd'.l1, q1, q2]
    rw [bq_aggneq (by kernel_rfl), hC_inj]
    simp only [bV_b, bq_add, hiw]
    refine ⟨fun e => hno _ kd (fun h => ?_), fun e => ?_⟩
    · subst h; simp at e
    · have e : l.ho[i] = l'.ho[i]'(by omega) := by simpa using e
      refine hN (l.ho.length - (i + 1)) _ _ (by omega) ⟨i + 1, by omega, rfl, rfl, kd, fun j h1 h2 hj => ?_⟩
      by_cases hji : j = i
      · subst hji; exact e
      · exact hall j h1 h2 (by omega)
  have eho : l.ho = l'.ho := List.ext_getElem e2 fun j h1 h2 => hall j h1 h2 (by omega)
  unfold ref07_Same_s3 ref07_Same_L2
  refine loop_inv (fun m xs wj => ∃ i, i ≤ l.mo.length ∧ m = l.mo.length - i ∧ xs = [.pointer (some ⟨x, 0, none⟩), .pointer (some ⟨y, 0, none⟩), .int .i64 (i : Nat)] ∧ Kp [] w2 wj ∧ ∀ j (h1 : j < l.mo.length) (h2 : j < l'.mo.length), j < i → l.mo[j] = l'.mo[j]) ?_ (m := l.mo.length) ⟨0, by omega, rfl, rfl, kj, fun j _ _ h => by omega⟩
  clear hN hall hiw bi
  rintro m N xs wk ⟨i, hi, rfl, rfl, kk, hall⟩ hN
  have hiw : IntKind.i64.wrap ((i : Int) + 1) = ((i + 1 : Nat) : Int) := by rw [w64 (by omega) (by omega)]; simp
  have bi := hB2.keep kk
  unfold ref07_Same_L2F ref07_Same_b1
  simp only [fa_p, Nat.add_zero, Nat.zero_add]
  rw [bi.l2, bi.c.lenL, List.length_map]
  simp only [bq_lss, bV_b, decide_eq_true_eq, decide_eq_false_iff_not]
  refine ⟨fun hlt => ?_, fun hge => ?_⟩
  · have hlt : i < l.mo.length := by omega
    have kd : Kp [] w2 wk.drew := kk.trans' kp_drew
    have bd := hB2.keep kd
    have bd' := hB'.keep kd
    obtain ⟨p, p1, p2, _⟩ := rd_parts bd.c hlt
    obtain ⟨q, q1, q2, _⟩ := rd_parts bd'.c (show i < l'.mo.length by omega)
    rw [bd.l2, p1, p2, bd'.l2, q1, q2]
    rw [bq_aggneq (by kernel_rfl), hC_inj]
    simp only [bV_b, bq_add, hiw]
    refine ⟨fun e => hno _ kd (fun h => ?_), fun e => ?_⟩
    · subst h; simp at e
    · have e : l.mo[i] = l'.mo[i]'(by omega) := by simpa using e
      refine hN (l.mo.length - (i + 1)) _ _ (by omega) ⟨i + 1, by omega, rfl, rfl, kd, fun j h1 h2 hj => ?_⟩
      by_cases hji : j = i
      · subst hji; exact e
      · exact hall j h1 h2 (by omega)
  have emo : l.mo = l'.mo := List.ext_getElem e3 fun j h1 h2 => hall j h1 h2 (by omega)
  unfold ref07_Same_s0
  have := hK wk (k02.trans' kk)
  have e : l = l' := by
    cases l; cases l'
    simp only [LV.mk.injEq]
    exact ⟨est, eho, emo, e4⟩
  rw [decide_eq_true e] at this
  exact this
end
end Go.Proofs

set_option maxRecDepth 100000
set_option linter.unusedVariables false
set_option linter.unusedSimpArgs false
namespace Go.Proofs
open Go Go.Q
theorem bsl_two8 {e : Nat} {z : Array Value} {v u : Value} (hv : Q.one v = true) (hu : Q.one u = true) {w : World} {k : Value → World → Prop} :
    bsl e 1 2 z #[(0, v), (1, u)] w k = k (.slice (some ⟨w.heap.size, 0, none⟩) 2 2) (w.alloc (.cells #[v, u] e)) := by
  have hc := cells_one hv
  have hd := cells_one hu
  obtain ⟨r, hr⟩ : ∃ r, r = rep z (2 * 1) := ⟨_, rfl⟩
  have hs : r.size = 2 := by rw [hr, rep_size]
  obtain ⟨l⟩ := r
  match l, hs with
  | [a, b], _ =>
    unfold bsl
    show (match Instr.fill (fun i => some (i * 1, 1)) (rep z (2 * 1)) [(0, v), (1, u)] with | some cs => k (Value.slice (some ⟨w.heap.size, 0, none⟩) 2 2) (w.alloc (Obj.cells cs e)) | none => False) = _
    rw [← hr]
    rw [fill_step (off := 0) (size := 1) rfl (by rw [hc]; rfl) (by simp), hc]
    rw [fill_step (off := 1) (size := 1) rfl (by rw [hd]; rfl) (by simp [splice]), hd]
    rfl
theorem zcD8 : zc Tryz.prog 54 = #[.slice none 0 0, .slice none 0 0, .slice none 0 0, .int .i64 0, .bool false] := by kernel_rfl
section
variable {w w' : World} {R : Value → World → Prop}
theorem Size_nil8 (hR : R (.int .i64 0) w) : callG Tryz.prog 33 #[.pointer none] w R := by
  refine disk_Disk_Size_call ?_
  unfold disk_Disk_Size disk_Disk_Size_s0
  rw [bq_peql _ (by kernel_rfl)]
  simp only [bV_b, Option.isNone_none]
  exact ⟨fun _ => hR, fun hh => by simp at hh⟩
theorem Size_zero8 {b : Nat} (h : w.heap[b]? = some (.cells (zc Tryz.prog 54) 54)) (hR : R (.int .i64 0) w) : callG Tryz.prog 33 #[.pointer (some ⟨b, 0, none⟩)] w R := by
  refine disk_Disk_Size_call ?_
  unfold disk_Disk_Size disk_Disk_Size_s0
  rw [bq_peql _ (by kernel_rfl)]
  simp only [bV_b, Option.isNone_some]
  refine ⟨fun hh => by simp at hh, fun _ => ?_⟩
  rw [zcD8] at h
  rw [nk_p, fa_p, ldF h (j := 0 + 1) (x := .slice none 0 0) rfl]
  exact hR
theorem Open_none {dv : Value} (hsz : ∀ {K : Value → World → Prop}, K (.int .i64 0) w → callG Tryz.prog 33 #[dv] w K) (hR : R (.tuple #[.pointer none, .int .i64 1]) w) : callG Tryz.prog 11 #[dv] w R := by
  refine keep_Open_call ?_
  unfold keep_Open keep_Open_s7
  refine hsz ?_
  simp only [bq_lss, bV_b, decide_eq_true_eq, decide_eq_false_iff_not]
  exact ⟨fun _ => hR, fun hh => by omega⟩
def Nob8 (w : World) (v : Value) : Prop := v = .pointer none ∨ ∃ b, v = .pointer (some ⟨b, 0, none⟩) ∧ w.heap[b]? = some (.cells (zc Tryz.prog 58) 58)
theorem Nob8.keep {v : Value} (h : Nob8 w v) (hk : Kp [] w w') : Nob8 w' v := h.imp id fun ⟨b, h1, h2⟩ => ⟨b, h1, hk.get h2 (by simp)⟩
variable {p : Value}
theorem given_no (h : Nob8 w p) (hR : R (.bool false) w) : callG Tryz.prog 40 #[p] w R := by
  refine keep_Keep_given_call ?_
  unfold keep_Keep_given keep_Keep_given_s0
  rcases h with rfl | ⟨b, rfl, h⟩
  · rw [bq_pneq _ (by kernel_rfl)]
    simp only [bV_b, Option.isNone_none, Bool.not_true]
    exact ⟨fun hh => by simp at hh, fun _ => hR⟩
  · rw [bq_pneq _ (by kernel_rfl)]
    simp only [bV_b, Option.isNone_some, Bool.not_false]
    refine ⟨fun _ => ?_, fun hh => by simp at hh⟩
    rw [zcK] at h
    rw [nk_p, fa_p, ldF h (j := 0 + 0) (x := .pointer none) rfl, bq_pneq _ (by kernel_rfl)]
    exact hR
theorem turn_no (h : Nob8 w p) (hR : R (.int .i64 0) w) : callG Tryz.prog 16 #[p] w R := by
  refine keep_Keep_Turn_call ?_
  unfold keep_Keep_Turn keep_Keep_Turn_s0
  refine given_no h ?_
  simp only [un_not, bV_b]
  exact ⟨fun _ => hR, fun hh => by simp at hh⟩
theorem sync_no (h : Nob8 w p) (hR : R (.int .i64 1) w) : callG Tryz.prog 19 #[p] w R := by
  refine keep_Keep_Sync_call ?_
  unfold keep_Keep_Sync keep_Keep_Sync_s0
  refine given_no h ?_
  simp only [un_not, bV_b]
  exact ⟨fun _ => hR, fun hh => by simp at hh⟩
theorem check_no (h : Nob8 w p) (hR : R (.int .i64 1) w) : callG Tryz.prog 14 #[p] w R := by
  refine keep_Keep_Checkpoint_call ?_
  unfold keep_Keep_Checkpoint keep_Keep_Checkpoint_s0
  refine given_no h ?_
  simp only [un_not, bV_b]
  exact ⟨fun _ => hR, fun hh => by simp at hh⟩
theorem submit_no (h : Nob8 w p) (o : OpV) (hR : ∀ w', Kp [] w w' → R (.int .i64 1) w') : callG Tryz.prog 12 #[p, .agg (opC o).toArray] w R := by
  refine keep_Keep_Submit_call ?_
  unfold keep_Keep_Submit keep_Keep_Submit_s0
  refine argBox (cs := opC o) fun p3 w1 hp3 h3 k1 => ?_
  refine given_no (h.keep k1) ?_
  simp only [un_not, bV_b]
  exact ⟨fun _ => hR w1 k1, fun hh => by simp at hh⟩
theorem ledger_no (h : Nob8 w p) (hR : ∀ w', Kp [] w w' → R lZv w') : callG Tryz.prog 13 #[p] w R := by
  refine keep_Keep_Ledger_call ?_
  unfold keep_Keep_Ledger keep_Keep_Ledger_s0
  refine newB fun p2 w1 hp2 h2 k1 => ?_
  refine given_no (h.keep k1) ?_
  simp only [un_not, bV_b]
  refine ⟨fun _ => ?_, fun hh => by simp at hh⟩
  rw [zLed_bld]
  refine retB (by kernel_rfl) (by kernel_rfl) h2 (by rw [zcLed]) rfl (by simp [Q.one]) fun w2 k2 => ?_
  exact hR w2 (k1.trans k2 fun y hy hlt => by simp at hy; omega)
theorem nobody8 (o : OpV) (hR : ∀ w', Kp [] w w' → R (.bool true) w') : callG Tryz.prog 5 #[.agg (opC o).toArray] w R := by
  refine law08_KeepNobody_call ?_
  unfold law08_KeepNobody law08_KeepNobody_s7
  refine argBox (cs := opC o) fun p1 w1 hp1 h1 k1 => ?_
  refine Open_none (fun {K} hK => Size_nil8 hK) ?_
  rw [ex0, ex1]
  have hbd : ∀ K : Value → Prop, bld [(0, 1), (1, 1), (2, 1), (3, 1), (4, 1)] (zc Tryz.prog 54) #[] K = K (.agg (zc Tryz.prog 54)) := fun K => rfl
  rw [hbd]
  refine argB fun b2 w2 hb2 h2 k2 => ?_
  refine Open_none (fun {K} hK => Size_zero8 h2 hK) ?_
  rw [ex0, ex1]
  unfold law08_KeepNobody_s6
  rw [bq_pneq _ (by kernel_rfl)]
  simp only [bV_b, Option.isNone_none, Bool.not_true, bq_neq, decide_eq_true_eq]
  refine ⟨fun hh => by simp at hh, fun _ => ⟨fun hh => absurd rfl hh, fun _ => ?_⟩⟩
  rw [bq_pneq _ (by kernel_rfl)]
  simp only [bV_b, Option.isNone_none, Bool.not_true, bq_neq, decide_eq_true_eq]
  refine ⟨fun hh => by simp at hh, fun _ => ⟨fun hh => absurd rfl hh, fun _ => ?_⟩⟩
  have h12 := k2.get h1 (by simp)
  rw [ldOp h12]
  refine lightOp_spec o fun lt w3 k3 => ?_
  have k03 := (k1.trans' k2).trans' k3
  simp only [un_not]
  unfold law08_KeepNobody_s5
  simp only [bV_b]
  refine ⟨fun _ => ?_, fun _ => ?_⟩
  · rw [bq_peql _ (by kernel_rfl)]
    simp only [bV_b, Option.isNone_none]
    refine ⟨fun _ => ?_, fun hh => by simp at hh⟩
    rw [bq_peql _ (by kernel_rfl)]
    simp only [bV_b, Option.isNone_none, bq_eql, decide_eq_true_eq]
    refine ⟨fun _ => ⟨fun _ => ⟨fun _ => ?_, fun hh => by simp at hh⟩, fun hh => by simp at hh⟩, fun hh => by simp at hh⟩
    exact awake8 fun w4 k4 => hR w4 (k03.trans' k4)
  · unfold law08_KeepNobody_s4
    have hbk : ∀ K : Value → Prop, bld [(0, 1), (1, 4), (5, 1), (6, 1)] (zc Tryz.prog 58) #[] K = K (.agg (zc Tryz.prog 58)) := fun K => rfl
    rw [hbk]
    refine argB fun b4 w4 hb4 h4 k4 => ?_
    rw [bsl_two8 rfl rfl]
    generalize hw5 : w4.alloc (.cells #[.pointer none, .pointer (some ⟨b4, 0, none⟩)] 37) = w5
    have hx : w5.heap[w4.heap.size]? = some (.cells #[.pointer none, .pointer (some ⟨b4, 0, none⟩)] 37) := by rw [← hw5]; exact heap_new
    have k5 : Kp [] w4 w5 := by rw [← hw5]; exact (Kp.refl [] w4).alloc _
    have h45 := k5.get h4 (by simp)
    have h15 := k5.get (k4.get (k3.get h12 (by simp)) (by simp)) (by simp)
    have k05 := (k03.trans' k4).trans' k5
    unfold law08_KeepNobody_s3 law08_KeepNobody_L2
    refine loop_inv (fun m xs w' => ∃ i, i ≤ 2 ∧ m = 2 - i ∧ xs = [.pointer (some ⟨p1, 0, none⟩), .slice (some ⟨w4.heap.size, 0, none⟩) 2 2, .int .i64 (i : Nat)] ∧ Kp [] w5 w') ?_ (m := 2) ⟨0, by omega, rfl, rfl, Kp.refl _ _⟩
    rintro m N xs w6 ⟨i, hi, rfl, rfl, k6⟩ hN
    unfold law08_KeepNobody_L2F law08_KeepNobody_b1
    dsimp only
    simp only [lenL_s, bq_lss, bV_b, decide_eq_true_eq, decide_eq_false_iff_not]
    refine ⟨fun hlt => ?_, fun _ => ?_⟩
    · have hlt : i < 2 := by omega
      obtain ⟨v, hv, hld⟩ : ∃ v, (∀ w', Kp [] w5 w' → Nob8 w' v) ∧ ∀ w', Kp [] w5 w' → ∀ K : Value → Prop, (ia 1 (.slice (some ⟨w4.heap.size, 0, none⟩) 2 2) (.int .i64 (i : Nat)) fun t => ld1 t w' K) = K v := by
        rcases (show i = 0 ∨ i = 1 by omega) with rfl | rfl
        · refine ⟨.pointer none, fun w' k => .inl rfl, fun w' k K => ?_⟩
          have h := k.get hx (by simp)
          simp [ia, add_mk, ldF h (j := 0) (x := .pointer none) rfl]
        · refine ⟨.pointer (some ⟨b4, 0, none⟩), fun w' k => .inr ⟨b4, rfl, k.get h45 (by simp)⟩, fun w' k K => ?_⟩
          have h := k.get hx (by simp)
          simp [ia, add_mk, ldF h (j := 1) (x := .pointer (some ⟨b4, 0, none⟩)) rfl]
      have kd : Kp [] w6 w6.drew := (Kp.refl [] w6).drew
      rw [hld _ (k6.trans' kd), zLed_bld]
      refine ledger_no (hv _ (k6.trans' kd)) fun w7 k7 => ?_
      have k57 := (k6.trans' kd).trans' k7
      have hz : ∀ w' : World, LedAt w' lZv lZ := fun w' => (lz_x (X := []) w').at
      refine Same7_spec (hz w7) (hz w7) (by simp [lZ]) (by simp [lZ]) (by simp [lZ]) fun w8 k8 => ?_
      have k58 := k57.trans' k8
      simp only [un_not, bV_b, decide_true, Bool.not_true]
      refine ⟨fun hh => by simp at hh, fun _ => ?_⟩
      rw [hld _ k58, ldOp (k58.get h15 (by simp))]
      refine submit_no (hv _ k58) o fun w9 k9 => ?_
      have k59 := k58.trans' k9
      simp only [bq_neq, bV_b, decide_eq_true_eq]
      refine ⟨fun hh => absurd rfl hh, fun _ => ?_⟩
      rw [hld _ k59]
      refine sync_no (hv _ k59) ?_
      simp only [bq_neq, bV_b, decide_eq_true_eq]
      refine ⟨fun hh => absurd rfl hh, fun _ => ?_⟩
      rw [hld _ k59]
      refine check_no (hv _ k59) ?_
      simp only [bq_neq, bV_b, decide_eq_true_eq]
      refine ⟨fun hh => absurd rfl hh, fun _ => ?_⟩
      rw [hld _ k59]
      refine turn_no (hv _ k59) ?_
      simp only [bq_neq, bV_b, decide_eq_true_eq]
      refine ⟨fun hh => absurd rfl hh, fun _ => ?_⟩
      have e2 : IntKind.i64.wrap ((i : Int) + 1) = ((i + 1 : Nat) : Int) := by rw [w64 (by omega) (by omega)]; simp
      simp only [bq_add, e2]
      exact hN (2 - (i + 1)) _ w9 (by omega) ⟨i + 1, by omega, rfl, rfl, k59⟩
    · unfold law08_KeepNobody_s0
      exact awake8 fun w7 k7 => hR w7 ((k05.trans' k6).trans' k7)
end
end Go.Proofs

set_option linter.unusedVariables false
set_option linter.unusedSimpArgs false
namespace Go.Proofs
open Go Go.Q
def Taken (w : World) (t : TypeId) (v : Value) : Prop :=
  ∃ (H : Type) (enc : TypeId × Value → H) (fuel : Nat) (x : DataW H × List MemPlace), DataW.trod enc Tryz.prog w 0 (fun _ => true) true fuel t v.cells.toList = some x
section
variable {H : Type} {enc : TypeId × Value → H} {w : World} {fuel n : Nat} {cs : List Value} {x : DataW H × List MemPlace}
theorem str_all (s : ByteArray) : s = str s.data.toList := by cases s; simp [str]
theorem one_cell {i : Nat} (hi : i < cs.length) : (cs.drop i).take 1 = [cs[i]] := by rw [List.drop_eq_getElem_cons hi]; rfl
theorem fld_int {i : Nat} {q : Option (DataW H × List MemPlace)} (h : DataW.trod enc Tryz.prog w 0 (fun _ => true) true n 3 ((cs.drop i).take (Tryz.prog.cellsOf 3)) = q) (hq : q.isSome = true) (hi : i < cs.length) : ∃ z : Int, cs[i] = .int .i64 z ∧ -9223372036854775808 ≤ z ∧ z < 9223372036854775808 := by
  obtain ⟨y, rfl⟩ := Option.isSome_iff_exists.1 hq
  rw [show Tryz.prog.cellsOf 3 = 1 by kernel_rfl, one_cell hi] at h
  obtain ⟨z, e, _, hw⟩ := DataW.trod_int Tryz.underlying3 h
  injection e with e _
  exact ⟨z, e, wf64 hw⟩
theorem fld_str {i : Nat} {q : Option (DataW H × List MemPlace)} (h : DataW.trod enc Tryz.prog w 0 (fun _ => true) true n 9 ((cs.drop i).take (Tryz.prog.cellsOf 9)) = q) (hq : q.isSome = true) (hi : i < cs.length) : ∃ s : List UInt8, cs[i] = .string (str s) ∧ s.length ≤ maxLen := by
  obtain ⟨y, rfl⟩ := Option.isSome_iff_exists.1 hq
  rw [show Tryz.prog.cellsOf 9 = 1 by kernel_rfl, one_cell hi] at h
  obtain ⟨s, e, _, hw⟩ := DataW.trod_string Tryz.underlying9 h
  injection e with e _
  exact ⟨s.data.toList, by rw [e]; exact congrArg Value.string (str_all s), hw⟩
theorem op_in (h : DataW.trod enc Tryz.prog w 0 (fun _ => true) true fuel 42 cs = some x) : ∃ o : OpV, cs = opC o ∧ o.Wf := by
  obtain ⟨xs, n, rfl, _, hl, hx, hf⟩ := DataW.trod_struct Tryz.underlying42 h
  rw [show Tryz.prog.cellsOf 42 = 7 by kernel_rfl] at hl
  have hx7 : xs.length = 7 := hx
  have g0 : DataW.trod enc Tryz.prog w 0 (fun _ => true) true n 3 ((cs.drop 0).take (Tryz.prog.cellsOf 3)) = xs[0]? := hf 0 _ rfl
  obtain ⟨z0, e0, p0⟩ := fld_int g0 (by simp; omega) (by omega)
  have g1 : DataW.trod enc Tryz.prog w 0 (fun _ => true) true n 9 ((cs.drop 1).take (Tryz.prog.cellsOf 9)) = xs[1]? := hf 1 _ rfl
  obtain ⟨z1, e1, p1⟩ := fld_str g1 (by simp; omega) (by omega)
  have g2 : DataW.trod enc Tryz.prog w 0 (fun _ => true) true n 9 ((cs.drop 2).take (Tryz.prog.cellsOf 9)) = xs[2]? := hf 2 _ rfl
  obtain ⟨z2, e2, p2⟩ := fld_str g2 (by simp; omega) (by omega)
  have g3 : DataW.trod enc Tryz.prog w 0 (fun _ => true) true n 9 ((cs.drop 3).take (Tryz.prog.cellsOf 9)) = xs[3]? := hf 3 _ rfl
  obtain ⟨z3, e3, p3⟩ := fld_str g3 (by simp; omega) (by omega)
  have g4 : DataW.trod enc Tryz.prog w 0 (fun _ => true) true n 3 ((cs.drop 4).take (Tryz.prog.cellsOf 3)) = xs[4]? := hf 4 _ rfl
  obtain ⟨z4, e4, p4⟩ := fld_int g4 (by simp; omega) (by omega)
  have g5 : DataW.trod enc Tryz.prog w 0 (fun _ => true) true n 3 ((cs.drop 5).take (Tryz.prog.cellsOf 3)) = xs[5]? := hf 5 _ rfl
  obtain ⟨z5, e5, p5⟩ := fld_int g5 (by simp; omega) (by omega)
  have g6 : DataW.trod enc Tryz.prog w 0 (fun _ => true) true n 3 ((cs.drop 6).take (Tryz.prog.cellsOf 3)) = xs[6]? := hf 6 _ rfl
  obtain ⟨z6, e6, p6⟩ := fld_int g6 (by simp; omega) (by omega)
  obtain ⟨c0, c1, c2, c3, c4, c5, c6, rfl⟩ := list7 hl
  simp only [List.getElem_cons_zero, List.getElem_cons_succ] at e0 e1 e2 e3 e4 e5 e6
  subst e0 e1 e2 e3 e4 e5 e6
  exact ⟨⟨z0, z1, z2, z3, z4, z5, z6⟩, rfl, ⟨p0.1, p0.2, p4.1, p4.2, p5.1, p5.2, p6.1, p6.2⟩⟩
end
theorem op_taken {w : World} {cs : Array Value} (h : Taken w 42 (.agg cs)) : ∃ o : OpV, Value.agg cs = opA o ∧ o.Wf := by
  obtain ⟨H, enc, fuel, x, h⟩ := h
  obtain ⟨o, e, hw⟩ := op_in h
  exact ⟨o, by rw [show cs = (opC o).toArray by rw [← e]; rfl]; rfl, hw⟩
end Go.Proofs

set_option linter.unusedVariables false
set_option linter.unusedSimpArgs false
namespace Go.Proofs
open Go Go.Q
end Go.Proofs

