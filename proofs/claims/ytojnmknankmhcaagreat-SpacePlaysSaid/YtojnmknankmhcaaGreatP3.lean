/- Part of the proof (P3): an engine, rules or contracts of the functions; it states nothing of the claim by itself. -/
import Derived.Test.YtojnmknankmhcaaGreatP2
import Derived.Test.YtojnmknankmhcaaGreatP1
import Derived.Lib.MakeNoZero
import Derived.Laws.IdiomRangeMap

/- An array of bytes within a block: read, written, copied. -/
set_option linter.unusedVariables false
set_option linter.unusedSimpArgs false
namespace Go.Q
def arC (pre : List Value) (b : List UInt8) (post : List Value) : Array Value := (pre ++ (u8c b ++ post)).toArray
theorem arC_size (pre : List Value) (b : List UInt8) (post : List Value) : (arC pre b post).size = pre.length + (b.length + post.length) := by simp [arC]
theorem arC_get {pre : List Value} {b : List UInt8} {post : List Value} {i : Nat} (hi : i < b.length) : (arC pre b post)[pre.length + i]? = some (.int .u8 b[i].toNat) := by
  simp only [arC, List.getElem?_toArray]
  rw [List.getElem?_append_right (by omega), Nat.add_sub_cancel_left, List.getElem?_append_left (by rw [u8c_len]; exact hi)]
  simp [u8c, hi]
theorem u8c_set (b : List UInt8) (i : Nat) (v : UInt8) : (u8c b).set i (.int .u8 v.toNat) = u8c (b.set i v) := by simp [u8c, List.map_set]
theorem arC_set {pre : List Value} {b : List UInt8} {post : List Value} {i : Nat} (hi : i < b.length) (v : UInt8) : (arC pre b post).setIfInBounds (pre.length + i) (.int .u8 v.toNat) = arC pre (b.set i v) post := by
  unfold arC
  rw [List.setIfInBounds_toArray, List.set_append_right _ _ (by omega), Nat.add_sub_cancel_left, List.set_append_left _ _ (by rw [u8c_len]; exact hi), u8c_set]
theorem arC_extract {pre : List Value} {b : List UInt8} {post : List Value} {lo n : Nat} (h : lo + n ≤ b.length) : (arC pre b post).extract (pre.length + lo) (pre.length + lo + n) = (u8c ((b.drop lo).take n)).toArray := by
  unfold arC
  rw [List.extract_toArray, List.extract_eq_take_drop]
  congr 1
  rw [Nat.add_sub_cancel_left, List.drop_append, List.drop_eq_nil_of_le (by omega), List.nil_append, Nat.add_sub_cancel_left, List.drop_append_of_le_length (by rw [u8c_len]; omega), List.take_append_of_le_length (by rw [List.length_drop, u8c_len]; omega)]
  simp [u8c, List.map_drop, List.map_take]
theorem arC_splice {pre : List Value} {b : List UInt8} {post : List Value} {lo : Nat} {vs : List UInt8} (h : lo + vs.length ≤ b.length) : splice (arC pre b post) (pre.length + lo) (u8c vs).toArray = arC pre (spl b lo vs) post := by
  unfold splice arC spl
  congr 1
  simp only [List.size_toArray, u8c_len]
  rw [List.take_append, List.take_of_length_le (by omega), Nat.add_sub_cancel_left, List.take_append_of_le_length (by rw [u8c_len]; omega), List.drop_append, List.drop_eq_nil_of_le (show pre.length ≤ pre.length + lo + vs.length by omega), List.nil_append, Nat.add_assoc, Nat.add_sub_cancel_left, List.drop_append_of_le_length (by rw [u8c_len]; omega)]
  simp [u8c, List.map_drop, List.map_take]
theorem spl_nil (b : List UInt8) (lo : Nat) : spl b lo [] = b := by simp [spl]
theorem spl_len {b vs : List UInt8} {lo : Nat} (h : lo + vs.length ≤ b.length) : (spl b lo vs).length = b.length := by
  simp only [spl, List.length_append, List.length_take, List.length_drop]
  omega
theorem setBlk_same {w : World} {p : Nat} {o : Obj} (h : w.heap[p]? = some o) : setBlk w p o = w := by
  unfold setBlk
  have : w.heap.setIfInBounds p o = w.heap := by
    apply Array.ext_getElem?
    intro j
    rw [Array.getElem?_setIfInBounds]
    split
    · rename_i e; subst e; split
      · exact h.symm
      · rename_i h2; exact absurd (lt_of_blk h) h2
    · rfl
  rw [this]
section
variable {w : World} {p T : Nat} {pre post : List Value} {b : List UInt8}
theorem ar_ld {fr : Nat × Nat} (h : w.heap[p]? = some (.cells (arC pre b post) T fr)) {i o : Nat} (hi : i < b.length) (ho : o = pre.length + i) {K : Value → Prop} : ld1 (.pointer (some ⟨p, o, none⟩)) w K = K (.int .u8 b[i].toNat) := by
  subst ho
  exact ldF h (arC_get hi)
theorem ar_st (h : w.heap[p]? = some (.cells (arC pre b post) T)) {i o : Nat} (hi : i < b.length) (ho : o = pre.length + i) (v : UInt8) {K : World → Prop} : st1 (.pointer (some ⟨p, o, none⟩)) (.int .u8 v.toNat) w K = K (setBlk w p (.cells (arC pre (b.set i v) post) T)) := by
  subst ho
  rw [stF h (by rw [arC_size]; omega) rfl, arC_set hi]
theorem ar_text {fr : Nat × Nat} (h : w.heap[p]? = some (.cells (arC pre b post) T fr)) {lo n o cap : Nat} (hn : lo + n ≤ b.length) (ho : o = pre.length + lo ∨ n = 0 ∧ o ≤ pre.length) {K : Value → Prop} : cvBS (.slice (some ⟨p, o, none⟩) n cap) w K = K (.string (str ((b.drop lo).take n))) := by
  have hsz := arC_size pre b post
  rcases ho with rfl | ⟨rfl, ho⟩
  · have hb := bytesOf_u8c ((b.drop lo).take n)
    simp only [cvBS, rdN_mk, h, arC_extract hn, hb, hsz]
    have : (pre.length + lo + n ≤ pre.length + (b.length + post.length)) = True := by simp; omega
    rw [this, true_and]
    rfl
  · simp only [cvBS, rdN_mk, h, hsz, List.take_zero]
    have e : (arC pre b post).extract o (o + 0) = #[] := by
      apply Array.eq_empty_of_size_eq_zero
      simp only [Array.size_extract]; omega
    rw [e]
    have : (o + 0 ≤ pre.length + (b.length + post.length)) = True := by simp; omega
    rw [this, true_and]
    rfl
theorem ar_ldn {fr : Nat × Nat} (h : w.heap[p]? = some (.cells (arC pre b post) T fr)) {n o : Nat} (hn : n = b.length) (ho : o = pre.length) {K : Value → Prop} : ldn n (.pointer (some ⟨p, o, none⟩)) w K = K (.agg (u8c b).toArray) := by
  subst hn; subst ho
  refine ldP h ?_ (by rw [arC_size]; omega)
  have := arC_extract (pre := pre) (b := b) (post := post) (lo := 0) (n := b.length) (by omega)
  simpa using this
/-- bytes are written over -/
theorem ar_wr (h : w.heap[p]? = some (.cells (arC pre b post) T)) {lo o : Nat} {vs : List UInt8} (hn : lo + vs.length ≤ b.length) (ho : o = pre.length + lo ∨ vs = [] ∧ o ≤ pre.length) {K : World → Prop} : wrN w ⟨p, o, none⟩ (u8c vs).toArray K = K (setBlk w p (.cells (arC pre (spl b lo vs) post) T)) := by
  have hsz := arC_size pre b post
  have hone := one_u8c vs
  rw [wrN_mk, h]
  rcases ho with rfl | ⟨rfl, ho⟩
  · apply propext
    have hs := arC_splice (pre := pre) (post := post) hn
    dsimp only
    rw [hs]
    constructor
    · rintro ⟨_, hk⟩; exact hk
    · intro hk
      exact ⟨⟨by simp only [List.size_toArray, u8c_len]; omega, by rw [okFr0]; trivial, hone⟩, hk⟩
  · have e : splice (arC pre b post) o (u8c []).toArray = arC pre b post := by simp [splice, u8c]
    rw [spl_nil]
    dsimp only
    rw [e]
    apply propext
    constructor
    · rintro ⟨_, hk⟩; exact hk
    · intro hk
      exact ⟨⟨by simp; omega, by rw [okFr0]; trivial, hone⟩, hk⟩
/-- a text is copied in -/
theorem ar_cp_str (h : w.heap[p]? = some (.cells (arC pre b post) T)) {lo o n cap : Nat} (s : List UInt8) (hn : lo + min s.length n ≤ b.length) (ho : o = pre.length + lo ∨ min s.length n = 0 ∧ o ≤ pre.length) {K : Value → World → Prop} :
    cp 1 (.slice (some ⟨p, o, none⟩) n cap) (.string (str s)) w K = K (.int .i64 (min s.length n : Nat)) (setBlk w p (.cells (arC pre (spl b lo (s.take (min s.length n))) post) T)) := by
  have he : u8s ((str s).extract 0 (min s.length n)) = (u8c (s.take (min s.length n))).toArray := by rw [str_extract, List.drop_zero, u8s_eq]; rfl
  have hl : (s.take (min s.length n)).length = min s.length n := by rw [List.length_take]; omega
  have hw := ar_wr h (lo := lo) (o := o) (vs := s.take (min s.length n)) (by omega) (ho.imp id fun ⟨h1, h2⟩ => ⟨by rw [h1]; rfl, h2⟩) (K := fun w' => K (.int .i64 (min s.length n : Nat)) w')
  have hm : Nat.min s.length n = min s.length n := rfl
  simp only [cp, src, str_size, hm, he, wrO, add_mk, Nat.add_zero]
  exact hw
/-- bytes of the same array are copied -/
theorem ar_cp_own (h : w.heap[p]? = some (.cells (arC pre b post) T)) {lo o n cap lo2 o2 n2 cap2 : Nat} (hn2 : lo2 + min n2 n ≤ b.length) (ho2 : o2 = pre.length + lo2 ∨ min n2 n = 0 ∧ o2 ≤ pre.length) (hn : lo + min n2 n ≤ b.length) (ho : o = pre.length + lo ∨ min n2 n = 0 ∧ o ≤ pre.length) {K : Value → World → Prop} :
    cp 1 (.slice (some ⟨p, o, none⟩) n cap) (.slice (some ⟨p, o2, none⟩) n2 cap2) w K = K (.int .i64 (min n2 n : Nat)) (setBlk w p (.cells (arC pre (spl b lo ((b.drop lo2).take (min n2 n))) post) T)) := by
  have hsz := arC_size pre b post
  have hl : ((b.drop lo2).take (min n2 n)).length = min n2 n := by rw [List.length_take, List.length_drop]; omega
  have hw := ar_wr h (lo := lo) (o := o) (vs := (b.drop lo2).take (min n2 n)) (by omega) (ho.imp id fun ⟨h1, h2⟩ => ⟨by rw [h1]; rfl, h2⟩) (K := fun w' => K (.int .i64 (min n2 n : Nat)) w')
  have hm : Nat.min n2 n = min n2 n := rfl
  have he : (arC pre b post).extract o2 (o2 + min n2 n * 1) = (u8c ((b.drop lo2).take (min n2 n))).toArray ∧ o2 + min n2 n * 1 ≤ pre.length + (b.length + post.length) := by
    rw [Nat.mul_one]
    rcases ho2 with rfl | ⟨h1, h2⟩
    · exact ⟨arC_extract hn2, by omega⟩
    · rw [h1]; exact ⟨by
        have e : (arC pre b post).extract o2 (o2 + 0) = #[] := by
          apply Array.eq_empty_of_size_eq_zero
          simp only [Array.size_extract]; omega
        rw [e]; rfl, by omega⟩
  simp only [cp, src, rdN_mk, h, hm, he.1, hsz, he.2, wrO, add_mk, Nat.add_zero, and_self, true_and]
  exact hw
/-- bytes become noughts -/
theorem ar_clr (h : w.heap[p]? = some (.cells (arC pre b post) T)) {lo o n cap : Nat} {z : Array Value} (hz : z = #[.int .u8 0]) (hn : lo + n ≤ b.length) (h0 : 0 < n) (ho : o = pre.length + lo) {K : Value → World → Prop} :
    clr 1 z (.slice (some ⟨p, o, none⟩) n cap) w K = K (.tuple #[]) (setBlk w p (.cells (arC pre (spl b lo (List.replicate n 0)) post) T)) := by
  obtain ⟨m, rfl⟩ : ∃ m, n = m + 1 := ⟨n - 1, by omega⟩
  have hr : rep z ((m + 1) * 1) = (u8c (List.replicate (m + 1) 0)).toArray := by
    subst hz
    apply Array.ext
    · simp [rep]
    · intro i h1 h2
      simp [rep, u8c, Nat.mod_one]
  simp only [clr, hr]
  exact ar_wr h (by simpa using hn) (.inl ho)
end
theorem wrap_u8_nat {n : Nat} : IntKind.u8.wrap (n : Int) = ((UInt8.ofNat n).toNat : Int) := by
  simp [IntKind.wrap, IntKind.bits, IntKind.signed]
theorem bq_u8sub {P : Program} {T : TypeId} {xo yo : Operand} {w : World} {a c : UInt8} {K : Value → Prop} : qG P (bq .sub T xo yo (.int .u8 a.toNat) (.int .u8 c.toNat)) w K = K (.int .u8 (a - c).toNat) := by
  rw [bq_sub]
  congr 2
  have ha := a.toNat_lt
  have hc := c.toNat_lt
  rw [UInt8.toNat_sub]
  simp only [IntKind.wrap, IntKind.bits, IntKind.signed]
  simp
  omega
end Go.Q

/- strings.Repeat of a nought, by a builder that was grown. -/
set_option maxRecDepth 100000
set_option linter.unusedVariables false
set_option linter.unusedSimpArgs false
namespace Go.Proofs
open Go Go.Q
theorem mul_one {w : World} {n : Nat} (hn : n = 24 ∨ n = 256) {R : Value → World → Prop} (hR : R (.tuple #[.int .u64 0, .int .u64 (n : Nat)]) w) : callG Tryz.prog 70 #[.int .u64 1, .int .u64 (n : Nat)] w R := by
  refine math_bits_Mul_call ?_
  unfold math_bits_Mul math_bits_Mul_s0
  have key : ∀ {R : Value → World → Prop}, R (.tuple #[.int .u64 0, .int .u64 (n : Nat)]) w → callG Tryz.prog 92 #[.int .u64 1, .int .u64 (n : Nat)] w R := by
    intro R hR
    refine math_bits_Mul64_call ?_
    unfold math_bits_Mul64 math_bits_Mul64_s0
    rcases hn with rfl | rfl
    · refine ⟨.int .u64 1, rfl, ?_⟩
      refine ⟨.int .u64 0, rfl, ?_⟩
      refine ⟨.int .u64 24, rfl, ?_⟩
      refine ⟨.int .u64 0, rfl, ?_⟩
      refine ⟨.int .u64 24, rfl, ?_⟩
      refine ⟨.int .u64 0, rfl, ?_⟩
      refine ⟨.int .u64 0, rfl, ?_⟩
      refine ⟨.int .u64 0, rfl, ?_⟩
      refine ⟨.int .u64 0, rfl, ?_⟩
      refine ⟨.int .u64 0, rfl, ?_⟩
      refine ⟨.int .u64 0, rfl, ?_⟩
      refine ⟨.int .u64 0, rfl, ?_⟩
      refine ⟨.int .u64 0, rfl, ?_⟩
      refine ⟨.int .u64 0, rfl, ?_⟩
      refine ⟨.int .u64 0, rfl, ?_⟩
      refine ⟨.int .u64 0, rfl, ?_⟩
      refine ⟨.int .u64 24, rfl, ?_⟩
      exact hR
    · refine ⟨.int .u64 1, rfl, ?_⟩
      refine ⟨.int .u64 0, rfl, ?_⟩
      refine ⟨.int .u64 256, rfl, ?_⟩
      refine ⟨.int .u64 0, rfl, ?_⟩
      refine ⟨.int .u64 256, rfl, ?_⟩
      refine ⟨.int .u64 0, rfl, ?_⟩
      refine ⟨.int .u64 0, rfl, ?_⟩
      refine ⟨.int .u64 0, rfl, ?_⟩
      refine ⟨.int .u64 0, rfl, ?_⟩
      refine ⟨.int .u64 0, rfl, ?_⟩
      refine ⟨.int .u64 0, rfl, ?_⟩
      refine ⟨.int .u64 0, rfl, ?_⟩
      refine ⟨.int .u64 0, rfl, ?_⟩
      refine ⟨.int .u64 0, rfl, ?_⟩
      refine ⟨.int .u64 0, rfl, ?_⟩
      refine ⟨.int .u64 0, rfl, ?_⟩
      refine ⟨.int .u64 256, rfl, ?_⟩
      exact hR
  refine key ?_
  rw [ex0, ex1]
  exact hR
/-- a builder whose buffer has room -/
structure BuG (w0 w : World) (b : Nat) (l : List UInt8) (cap : Nat) : Prop where
  ex : ∃ bl c fr, w.heap[b]? = some (.cells #[.pointer (some ⟨b, 0, none⟩), .slice (some ⟨bl, 0, none⟩) l.length cap] 120) ∧ w.heap[bl]? = some (.cells c 5 fr) ∧ c.size = cap ∧ l.length ≤ cap ∧ c.toList.take l.length = u8c l ∧ (fr = (0, 0) ∨ fr.1 = 0 ∧ fr.2 ≤ l.length) ∧ b ≠ bl ∧ w0.heap.size ≤ b ∧ w0.heap.size ≤ bl
  kp : Kp [] w0 w
section
variable {w0 w : World} {b cap : Nat} {l : List UInt8} {K : Value → World → Prop}
theorem bug_check (h : BuG w0 w b l cap) (hK : K (.tuple #[]) w) : callG Tryz.prog 93 #[.pointer (some ⟨b, 0, none⟩)] w K := by
  obtain ⟨bl, c, fr, h1, _⟩ := h.ex
  refine strings_Builder_copyCheck_call ?_
  unfold strings_Builder_copyCheck strings_Builder_copyCheck_s0
  rw [nk_p, fa_p, ldF (x := .pointer (some ⟨b, 0, none⟩)) h1 rfl, bq_peql _ (by kernel_rfl)]
  simp only [bV_b, Option.isNone_some]
  refine ⟨fun h => by simp at h, fun _ => ?_⟩
  rw [nk_p, fa_p, ldF (x := .pointer (some ⟨b, 0, none⟩)) h1 rfl, bq_psame]
  simp only [bV_b]
  exact ⟨fun h => by simp at h, fun _ => hK⟩
theorem bug_len (h : BuG w0 w b l cap) (hK : K (.int .i64 (l.length : Nat)) w) : callG Tryz.prog 73 #[.pointer (some ⟨b, 0, none⟩)] w K := by
  obtain ⟨bl, c, fr, h1, _⟩ := h.ex
  refine strings_Builder_Len_call ?_
  unfold strings_Builder_Len strings_Builder_Len_s0
  rw [nk_p, fa_p, ldF (x := .slice (some ⟨bl, 0, none⟩) l.length cap) h1 rfl, lenL_s]
  exact hK
theorem bug_write (h : BuG w0 w b l cap) (s : List UInt8) (hc : l.length + s.length ≤ cap) (hK : ∀ w', BuG w0 w' b (l ++ s) cap → K (.tuple #[.int .i64 s.length, .nilIface]) w') : callG Tryz.prog 72 #[.pointer (some ⟨b, 0, none⟩), .string (str s)] w K := by
  refine strings_Builder_WriteString_call ?_
  unfold strings_Builder_WriteString strings_Builder_WriteString_s0
  refine bug_check h ?_
  obtain ⟨bl, c, fr, h1, h2, h3, h4, h5, h6, h7, h8, h9⟩ := h.ex
  rw [nk_p, fa_p, ldF (x := .slice (some ⟨bl, 0, none⟩) l.length cap) h1 rfl]
  have he : u8s ((str s).extract 0 s.length) = (u8c s).toArray := by rw [str_extract, List.take_length, List.drop_zero, u8s_eq]; rfl
  unfold app
  simp only [srcA, str_size, he, wrO, add_mk, Nat.mul_one, Nat.zero_add]
  refine ⟨fun _ => ?_, fun h => by omega⟩
  have hone := one_u8c s
  have hfr : okFr fr l.length s.length := by
    rcases h6 with rfl | ⟨_, h6⟩
    · left; simp
    · left; exact h6
  rw [wrN_mk, h2]
  refine ⟨⟨by simp only [List.size_toArray, u8c_len]; omega, by simpa using hfr, hone⟩, ?_⟩
  have hwb := heap_ne (w := w) (o := .cells (splice c l.length (u8c s).toArray) 5 fr) (Ne.symm h7)
  rw [nk_p, fa_p, stF (by rw [hwb]; exact h1) (by simp) rfl]
  simp only [lenS_s, str_size]
  have e : (#[.pointer (some ⟨b, 0, none⟩), .slice (some ⟨bl, 0, none⟩) l.length cap] : Array Value).setIfInBounds (0 + 1) (.slice (some ⟨bl, 0, none⟩) (l.length + s.length) cap) = #[.pointer (some ⟨b, 0, none⟩), .slice (some ⟨bl, 0, none⟩) (l ++ s).length cap] := by rw [List.length_append]; rfl
  rw [e]
  refine hK _ ⟨⟨bl, splice c l.length (u8c s).toArray, fr, heap_self (by rw [live_setBlk]; exact live_of h1), by rw [heap_ne h7]; exact heap_self (live_of h2), ?_, by simpa using hc, ?_, h6.imp id fun ⟨a, b⟩ => ⟨a, by rw [List.length_append]; omega⟩, h7, h8, h9⟩, (h.kp.setBlk (.inr h9) _).setBlk (.inr h8) _⟩
  · rw [splice_size (by simp only [List.size_toArray, u8c_len]; omega), h3]
  · unfold splice
    simp only [List.length_append, List.size_toArray, u8c_len]
    rw [h5, List.take_append_of_le_length (by simp only [List.length_append, u8c_len]; omega), List.take_of_length_le (by simp only [List.length_append, u8c_len]; omega)]
    simp [u8c]
theorem bug_text (h : BuG w0 w b l cap) (h0 : l ≠ []) (hl : l.length < 2 ^ 40) (hK : ∀ w', BuG w0 w' b l cap → K (.string (str l)) w') : callG Tryz.prog 74 #[.pointer (some ⟨b, 0, none⟩)] w K := by
  obtain ⟨bl, c, fr, h1, h2, h3, h4, h5, h6, h7, h8, h9⟩ := h.ex
  refine strings_Builder_String_call ?_
  simp only [strings_Builder_String, strings_Builder_String_s0]
  have hpos : l.length ≠ 0 := by simpa using h0
  simp [-getElem?_pos, -Array.all_eq_true, -Array.getElem?_eq_getElem, -List.length_flatten, List.getElem?_cons_zero, List.getElem?_cons_succ, h1]
  refine ⟨_, _, Go.Lib.run_unsafeSliceData_row _ _ _ _ _ _ (by omega), ?_⟩
  simp [-getElem?_pos, -Array.all_eq_true, -Array.getElem?_eq_getElem, -List.length_flatten, List.getElem?_cons_zero, List.getElem?_cons_succ, h1]
  refine ⟨_, _, Go.Lib.run_unsafeString_row (e := 5) w.drew 141 3 9 Tryz.underlying141 Tryz.cellsOf5 bl c.size (by simp [World.shape?, h2]) l h0 (by omega) (by omega) ?_, ?_⟩
  · intro j x hx
    have hj : j < l.length := (List.getElem?_eq_some_iff.1 hx).1
    have : c.toList[j]? = (u8c l)[j]? := by rw [← h5, List.getElem?_take_of_lt hj]
    simp only [add_mk, World.cell?, heap_drew, h2, Nat.zero_add]
    rw [← Array.getElem?_toList, this]
    simp [u8c, hx]
  · have hf : ∃ fr' : Nat × Nat, w.drew.freeze ⟨bl, 0, none⟩ l.length = setBlk w.drew bl (.cells c 5 fr') ∧ fr'.1 = 0 ∧ fr'.2 ≤ l.length := by
      obtain ⟨lo, hi⟩ := fr
      refine ⟨if lo == hi then (0, 0 + l.length) else (min lo 0, max hi (0 + l.length)), ?_, ?_⟩
      · unfold World.freeze
        rw [if_neg hpos]
        unfold setBlk
        congr 1
        apply Array.ext_getElem?
        intro j
        rw [Array.getElem?_modify, Array.getElem?_setIfInBounds]
        by_cases hj : bl = j
        · subst hj
          rw [if_pos rfl, if_pos rfl]
          have h2' : w.drew.heap[bl]? = some (.cells c 5 (lo, hi)) := h2
          rw [h2']
          have := (Array.getElem?_eq_some_iff.1 h2').1
          rw [if_pos this]
          rfl
        · rw [if_neg hj, if_neg hj]
      · rcases h6 with h6 | ⟨h6, h6'⟩
        · injection h6 with e1 e2
          subst e1 e2
          simp
        · have h6 : lo = 0 := h6
          have h6' : hi ≤ l.length := h6'
          subst h6
          split
          · simp
          · simp; omega
    obtain ⟨fr', hf, hf1, hf2⟩ := hf
    rw [hf]
    exact hK _ ⟨⟨bl, c, fr', by rw [heap_ne (Ne.symm h7)]; exact h1, heap_self (live_of h2), h3, h4, h5, .inr ⟨hf1, hf2⟩, h7, h8, h9⟩, (h.kp.drew).setBlk (.inr h9) _⟩
theorem bug_grow {n : Nat} (hn : 1 ≤ n) (hn2 : n ≤ 1000) (hK : ∀ w' cap b, n ≤ cap → BuG w w' b [] cap → K (.pointer (some ⟨b, 0, none⟩)) w') :
    newG (zc Tryz.prog 120) 120 w fun t9 w => callG Tryz.prog 71 #[t9, .int .i64 (n : Nat)] w fun _ w => K t9 w := by
  refine newB fun b w1 hb h1 k1 => ?_
  rw [zcB] at h1
  refine strings_Builder_Grow_call ?_
  unfold strings_Builder_Grow strings_Builder_Grow_s1
  -- the builder notes itself
  have hchk : ∀ {K : Value → World → Prop}, (∀ w', w'.heap[b]? = some (.cells #[.pointer (some ⟨b, 0, none⟩), .slice none 0 0] 120) → Kp [] w w' → K (.tuple #[]) w') → callG Tryz.prog 93 #[.pointer (some ⟨b, 0, none⟩)] w1 K := by
    intro K hK
    refine strings_Builder_copyCheck_call ?_
    simp only [strings_Builder_copyCheck, strings_Builder_copyCheck_s0]
    simp [-getElem?_pos, -Array.all_eq_true, -Array.getElem?_eq_getElem, -List.length_flatten, List.getElem?_cons_zero, List.getElem?_cons_succ, h1]
    refine to_unsafe h1 rfl ?_
    refine no_escape ?_
    refine from_unsafe h1 rfl ?_
    have lb := live_of h1
    simp [-getElem?_pos, -Array.all_eq_true, -Array.getElem?_eq_getElem, -List.length_flatten, List.getElem?_cons_zero, List.getElem?_cons_succ, h1, lb]
    exact hK _ (heap_self lb) (k1.setBlk (.inr hb) _)
  refine hchk fun w2 h2 k2 => ?_
  simp only [bq_lss, bV_b, decide_eq_true_eq, decide_eq_false_iff_not]
  refine ⟨fun h => by omega, fun _ => ?_⟩
  unfold strings_Builder_Grow_s0
  have h2d : w2.drew.heap[b]? = some (.cells #[.pointer (some ⟨b, 0, none⟩), .slice none 0 0] 120) := h2
  have hcap : ∀ (w : World) (K : Value → Prop), qG Tryz.prog (Builtin.cap_ #[91] 3 #[.slice none 0 0]) w K = K (.int .i64 0) := fun w K => qG_of (by rfl)
  rw [nk_p, fa_p, ldF (x := .slice none 0 0) h2d rfl, hcap, nk_p, fa_p, ldF (x := .slice none 0 0) h2d rfl, lenL_s]
  have e0 : IntKind.i64.wrap (0 - ((0 : Nat) : Int)) = 0 := by decide
  simp only [bq_sub, e0, bq_lss, bV_b, decide_eq_true_eq, decide_eq_false_iff_not]
  refine ⟨fun _ => ?_, fun h => by omega⟩
  refine strings_Builder_grow_call ?_
  unfold strings_Builder_grow strings_Builder_grow_s0
  have h3 : w2.drew.drew.heap[b]? = some (.cells #[.pointer (some ⟨b, 0, none⟩), .slice none 0 0] 120) := h2
  rw [nk_p, fa_p, ldF (x := .slice none 0 0) h3 rfl, hcap]
  have e1 : IntKind.i64.wrap (2 * 0) = 0 := by decide
  have e2 : IntKind.i64.wrap (0 + (n : Int)) = (n : Int) := by rw [w64 (by omega) (by omega)]; simp
  simp only [bq_mul, e1, bq_add, e2]
  rw [nk_p, fa_p, ldF (x := .slice none 0 0) h3 rfl, lenL_s]
  obtain ⟨cs, hrun, hcs, _⟩ := Go.Lib.run_makeNoZero (P := Tryz.prog) w2.drew.drew #[3] 91 5 Tryz.underlying91 n (by omega)
  obtain ⟨W, hW⟩ : ∃ W, W = w2.drew.drew := ⟨_, rfl⟩
  rw [← hW] at hrun h3 ⊢
  have kW : Kp [] w W := by rw [hW]; exact (k2.drew).drew
  obtain ⟨w4, hw4⟩ : ∃ w4, w4 = W.drew.drew.alloc (.cells cs 5) := ⟨_, rfl⟩
  have k4 : Kp [] W w4 := by rw [hw4]; exact ((Kp.refl [] W).drew.drew).alloc _
  have hbl : w4.heap[W.heap.size]? = some (.cells cs 5) := by rw [hw4]; exact heap_new
  refine ⟨.slice (some ⟨W.heap.size, 0, none⟩) n cs.size, w4, ?_, ?_⟩
  · rw [run_callFunc_extern (e := Extern.BytealgMakeNoZero.makeNoZero #[3] #[91]) Tryz.func99 (by kernel_rfl) rfl (by kernel_rfl) (by kernel_rfl), hrun, hw4]
    rfl
  have h4 := k4.get h3 (by simp)
  dsimp only
  rw [ldF (x := .slice none 0 0) h4 rfl]
  refine ⟨rfl, ?_⟩
  have hsl : ∀ K : Value → Prop, slL 1 (.slice (some ⟨W.heap.size, 0, none⟩) n cs.size) none (some (.int .i64 ((0 : Nat) : Int))) K = K (.slice (some ⟨W.heap.size, 0, none⟩) 0 cs.size) := fun K => by simp
  rw [hsl, nk_p, fa_p, ldF (x := .slice none 0 0) h4 rfl]
  have hlb := lt_of_blk h3
  have hcp : ∀ K : Value → World → Prop, K (.int .i64 0) w4 → cp 1 (.slice (some ⟨W.heap.size, 0, none⟩) 0 cs.size) (.slice none 0 0) w4 K := fun K hK => by
    simp only [cp, src, wrO, add_mk, wrN_mk, hbl]
    have e : splice cs (0 + 0) #[] = cs := by simp [splice]
    rw [e, setBlk_same hbl]
    exact ⟨⟨by simp, by rw [okFr0]; trivial, by simp⟩, hK⟩
  refine hcp _ ?_
  rw [nk_p, fa_p, stF h4 (by simp) rfl]
  have hs := kW.size
  refine hK _ cs.size b hcs ⟨⟨W.heap.size, cs, (0, 0), heap_self (live_of h4), by rw [heap_ne (by omega)]; exact hbl, rfl, by simp, by simp [u8c], .inl rfl, by omega, hb, hs⟩, (kW.trans' k4).setBlk (.inr hb) _⟩
theorem rep_take {m k : Nat} (h : m ≤ k) : (List.replicate k (0 : UInt8)).take m = List.replicate m 0 := by rw [List.take_replicate, Nat.min_eq_left h]
theorem run_min3 {P : Program} {ts : Array TypeId} {t : TypeId} {k : IntKind} {a b c : Int} {w : World} : (Builtin.min_ ts t #[.int k a, .int k b, .int k c]).run P w = .ok (.int k (min (min a b) c)) w := by
  simp only [Builtin.min_, List.foldlM_cons, List.foldlM_nil, Builtin.min2, pure_bind]
  show Result.ok _ _ = _
  congr 2; omega
/-- so many noughts -/
theorem Repeat_spec {n : Nat} (hn : n = 24 ∨ n = 256) {R : Value → World → Prop} (hR : ∀ w', Kp [] w w' → R (.string (str (List.replicate n 0))) w') : callG Tryz.prog 46 #[.string (str [0]), .int .i64 (n : Nat)] w R := by
  have hn1 : 2 ≤ n := by omega
  have hn2 : n ≤ 256 := by omega
  refine strings_Repeat_call ?_
  unfold strings_Repeat strings_Repeat_s22
  simp only [bq_eql, bq_lss, bV_b, decide_eq_true_eq, decide_eq_false_iff_not]
  refine ⟨fun h => by omega, fun _ => ⟨fun h => by omega, fun _ => ⟨fun h => by omega, fun _ => ?_⟩⟩⟩
  unfold strings_Repeat_s21
  have hl1 : ∀ K : Value → Prop, lenS (.string (str [0])) K = K (.int .i64 1) := fun K => rfl
  have ec : IntKind.u64.wrap (n : Int) = (n : Int) := wrap_natu64 (by omega)
  have ec2 : IntKind.i64.wrap (n : Int) = (n : Int) := wrap_nat64 (by omega)
  rw [hl1, cvI_i, cvI_i, show IntKind.u64.wrap 1 = 1 from rfl, ec]
  refine mul_one hn ?_
  rw [ex0, ex1]
  simp only [bq_gtr, bV_b, decide_eq_true_eq, decide_eq_false_iff_not]
  refine ⟨fun h => by omega, fun _ => ⟨fun h => by omega, fun _ => ?_⟩⟩
  unfold strings_Repeat_s20
  rw [cvI_i, ec2, hl1]
  simp only [bq_eql, bV_b, decide_eq_true_eq, decide_eq_false_iff_not]
  refine ⟨fun h => by omega, fun _ => ?_⟩
  unfold strings_Repeat_s19 strings_Repeat_s18
  have hix : ∀ K : Value → Prop, ixS (.string (str [0])) (.int .i64 0) K = K (.int .u8 0) := fun K => ixS_str (s := [0]) (kd := .i64) (i := 0) (by simp)
  rw [hix]
  simp only [bq_eql, bV_b]
  refine ⟨fun h => by simp at h, fun _ => ⟨fun h => by simp at h, fun _ => ⟨fun h => by simp at h, fun _ => ⟨fun h => by simp at h, fun _ => ?_⟩⟩⟩⟩
  unfold strings_Repeat_s17
  have ed : decide ((0 : Int) = 9) = false := rfl
  rw [ed]
  simp only [bV_b]
  refine ⟨fun h => by simp at h, fun _ => ?_⟩
  unfold strings_Repeat_s16 strings_Repeat_s4
  simp only [bq_gtr, bV_b, decide_eq_true_eq, decide_eq_false_iff_not]
  refine ⟨fun h => by omega, fun _ => ?_⟩
  unfold strings_Repeat_s3
  refine bug_grow (by omega) (by omega) fun w1 cap b hcap h1 => ?_
  refine bug_write h1 [0] (by simp; omega) fun w2 h2 => ?_
  unfold strings_Repeat_L2
  refine loop_inv (fun m xs wi => ∃ k, 1 ≤ k ∧ k ≤ n ∧ m = n - k ∧ xs = [.int .i64 (n : Nat), .int .i64 (n : Nat), .pointer (some ⟨b, 0, none⟩)] ∧ BuG w wi b (List.replicate k 0) cap) ?_ (m := n - 1) ⟨1, by omega, by omega, rfl, rfl, h2⟩
  rintro m N xs wi ⟨k, hk1, hk2, rfl, rfl, hb⟩ hN
  have hlen : (List.replicate k (0 : UInt8)).length = k := by simp
  have hne : List.replicate k (0 : UInt8) ≠ [] := by
    intro h
    have := congrArg List.length h
    simp at this
    omega
  unfold strings_Repeat_L2F strings_Repeat_b1
  dsimp only
  refine bug_len hb ?_
  rw [hlen]
  simp only [bq_lss, bV_b, decide_eq_true_eq, decide_eq_false_iff_not]
  refine ⟨fun hlt => ?_, fun hge => ?_⟩
  · refine bug_len hb ?_
    rw [hlen]
    have e1 : IntKind.i64.wrap ((n : Int) - (k : Int)) = ((n - k : Nat) : Int) := by rw [w64 (by omega) (by omega)]; omega
    simp only [bq_sub, e1]
    refine bug_len hb ?_
    rw [hlen, qG_of run_min3]
    obtain ⟨m, hm⟩ : ∃ m, m = min (n - k) k := ⟨_, rfl⟩
    have e2 : min (min ((n - k : Nat) : Int) (k : Int)) (n : Int) = (m : Int) := by omega
    rw [e2]
    refine bug_text hb hne (by rw [hlen]; omega) fun w3 h3 => ?_
    have e3 : ∀ K : Value → Prop, slS (.string (str (List.replicate k 0))) none (some (.int .i64 (m : Nat))) K = K (.string (str (List.replicate m 0))) := fun K => by
      have hle : (0 : Int) ≤ (m : Int) ∧ (m : Int) ≤ ((str (List.replicate k 0)).size : Nat) := by rw [str_size, hlen]; omega
      simp only [slS, bnd, hle, true_and, and_self, Int.toNat_natCast]
      rw [str_extract, List.drop_zero, rep_take (by omega)]
    rw [e3]
    refine bug_write h3 (List.replicate m 0) (by simp; omega) fun w4 h4 => ?_
    rw [List.replicate_append_replicate] at h4
    exact hN (n - (k + m)) _ _ (by omega) ⟨k + m, by omega, by omega, rfl, rfl, h4⟩
  · have : k = n := by omega
    subst this
    unfold strings_Repeat_s0
    refine bug_text hb hne (by rw [hlen]; omega) fun w3 h3 => ?_
    exact hR w3 h3.kp
end
end Go.Proofs

set_option linter.unusedVariables false
set_option linter.unusedSimpArgs false
namespace Go.Proofs
open Go Go.Q
set_option maxRecDepth 100000
/-! quayside/page.New -/
def page_New_s0 (R : Value → World → Prop) (x0 : Value) (w : World) : Prop :=
  bld [(0, 256), (256, 1)] (zc Tryz.prog 130) #[(1, (.bool true))] fun t11 =>
  newG (Value.cells t11) 130 w fun t12 w =>
  cvI .u8 x0 fun t15 =>
  nk t12 fun t16 =>
  fa 0 t16 fun t17 =>
  iaA 256 1 t17 (.int .i64 0) fun t18 =>
  st1 t18 t15 w fun w =>
  R (.tuple #[t12, (.int .i64 0)]) w
theorem page_New_s0_eq (R : Value → World → Prop) : ∀ e w, lift Tryz.prog 20 (sub (bodyOf Tryz.f58) [1, 1]) (finK Tryz.prog Tryz.f58.results.toList R) e w = page_New_s0 R (e 0) w := fun e w => by kernel_rfl
def page_New_s1 (R : Value → World → Prop) (x0 : Value) (w : World) : Prop :=
  qG Tryz.prog (bq .lss 3 (.tmp 5) (.const (.int .i64 1)) x0 (.int .i64 1)) w fun t6 =>
  bV t6
  (R (.tuple #[(.pointer none), (.int .i64 1)]) w)
  (qG Tryz.prog (bq .gtr 3 (.tmp 8) (.const (.int .i64 255)) x0 (.int .i64 255)) w fun t9 =>
  bV t9
  (R (.tuple #[(.pointer none), (.int .i64 1)]) w)
  (page_New_s0 R x0 w))
theorem page_New_s1_eq (R : Value → World → Prop) : ∀ e w, lift Tryz.prog 20 (bodyOf Tryz.f58) (finK Tryz.prog Tryz.f58.results.toList R) e w = page_New_s1 R (e 0) w :=
  segs_eq (l := [(sub (bodyOf Tryz.f58) [0]), (sub (bodyOf Tryz.f58) [1, 0])]) (y := (sub (bodyOf Tryz.f58) [1, 1])) (Y := (fun e w => page_New_s0 R (e 0) w)) (page_New_s0_eq R) (fun e w => by kernel_rfl)
def page_New (R : Value → World → Prop) (x0 : Value) (w : World) : Prop := page_New_s1 R x0 w
theorem page_New_call {R : Value → World → Prop} {x0 : Value} {w : World} (h : page_New R x0 w) : callG Tryz.prog 58 #[x0] w R :=
  calls_lift_eq Tryz.mixed Tryz.func58 (args := [x0]) rfl rfl rfl rfl ((page_New_s1_eq R) (envOf [x0]) w) (by kernel_rfl) h
/-! (*quayside/page.Page).given -/
def page_Page_given_s0 (R : Value → World → Prop) (x0 : Value) (w : World) : Prop :=
  qG Tryz.prog (bq .neq 95 (.tmp 3) (.const (.pointer none)) x0 (.pointer none)) w fun t4 =>
  bV t4
  (nk x0 fun t7 =>
  fa 256 t7 fun t8 =>
  ld1 t8 w fun t9 =>
  R t9 w)
  (R (.bool false) w)
theorem page_Page_given_s0_eq (R : Value → World → Prop) : ∀ e w, lift Tryz.prog 11 (bodyOf Tryz.f82) (finK Tryz.prog Tryz.f82.results.toList R) e w = page_Page_given_s0 R (e 0) w := fun e w => by kernel_rfl
def page_Page_given (R : Value → World → Prop) (x0 : Value) (w : World) : Prop := page_Page_given_s0 R x0 w
theorem page_Page_given_call {R : Value → World → Prop} {x0 : Value} {w : World} (h : page_Page_given R x0 w) : callG Tryz.prog 82 #[x0] w R :=
  calls_lift_eq Tryz.mixed Tryz.func82 (args := [x0]) rfl rfl rfl rfl ((page_Page_given_s0_eq R) (envOf [x0]) w) (by kernel_rfl) h
/-! (*quayside/page.Page).Kind -/
def page_Page_Kind_s0 (R : Value → World → Prop) (x0 : Value) (w : World) : Prop :=
  callG Tryz.prog 82 #[x0] w fun t4 w =>
  qG Tryz.prog (Op.unary .not t4) w fun t5 =>
  bV t5
  (R (.int .i64 0) w)
  (nk x0 fun t7 =>
  fa 0 t7 fun t8 =>
  iaA 256 1 t8 (.int .i64 0) fun t9 =>
  ld1 t9 w fun t10 =>
  cvI .i64 t10 fun t11 =>
  R t11 w)
theorem page_Page_Kind_s0_eq (R : Value → World → Prop) : ∀ e w, lift Tryz.prog 12 (bodyOf Tryz.f49) (finK Tryz.prog Tryz.f49.results.toList R) e w = page_Page_Kind_s0 R (e 0) w := fun e w => by kernel_rfl
def page_Page_Kind (R : Value → World → Prop) (x0 : Value) (w : World) : Prop := page_Page_Kind_s0 R x0 w
theorem page_Page_Kind_call {R : Value → World → Prop} {x0 : Value} {w : World} (h : page_Page_Kind R x0 w) : callG Tryz.prog 49 #[x0] w R :=
  calls_lift_eq Tryz.mixed Tryz.func49 (args := [x0]) rfl rfl rfl rfl ((page_Page_Kind_s0_eq R) (envOf [x0]) w) (by kernel_rfl) h
/-! (*quayside/page.Page).Len -/
def page_Page_Len_s0 (R : Value → World → Prop) (x0 : Value) (w : World) : Prop :=
  callG Tryz.prog 82 #[x0] w fun t4 w =>
  qG Tryz.prog (Op.unary .not t4) w fun t5 =>
  bV t5
  (R (.int .i64 0) w)
  (nk x0 fun t7 =>
  fa 0 t7 fun t8 =>
  iaA 256 1 t8 (.int .i64 1) fun t9 =>
  ld1 t9 w fun t10 =>
  cvI .i64 t10 fun t11 =>
  R t11 w)
theorem page_Page_Len_s0_eq (R : Value → World → Prop) : ∀ e w, lift Tryz.prog 12 (bodyOf Tryz.f50) (finK Tryz.prog Tryz.f50.results.toList R) e w = page_Page_Len_s0 R (e 0) w := fun e w => by kernel_rfl
def page_Page_Len (R : Value → World → Prop) (x0 : Value) (w : World) : Prop := page_Page_Len_s0 R x0 w
theorem page_Page_Len_call {R : Value → World → Prop} {x0 : Value} {w : World} (h : page_Page_Len R x0 w) : callG Tryz.prog 50 #[x0] w R :=
  calls_lift_eq Tryz.mixed Tryz.func50 (args := [x0]) rfl rfl rfl rfl ((page_Page_Len_s0_eq R) (envOf [x0]) w) (by kernel_rfl) h
/-! (*quayside/page.Page).used -/
def page_Page_used_s0 (R : Value → World → Prop) (x0 : Value) (w : World) : Prop :=
  nk x0 fun t4 =>
  fa 0 t4 fun t5 =>
  iaA 256 1 t5 (.int .i64 2) fun t6 =>
  ld1 t6 (World.drew w) fun t7 =>
  cvI .i64 t7 fun t8 =>
  nk x0 fun t10 =>
  fa 0 t10 fun t11 =>
  iaA 256 1 t11 (.int .i64 3) fun t12 =>
  ld1 t12 (World.drew w) fun t13 =>
  cvI .i64 t13 fun t14 =>
  qG Tryz.prog (bq .shl 3 (.tmp 14) (.const (.int .u64 8)) t14 (.int .u64 8)) (World.drew w) fun t15 =>
  qG Tryz.prog (bq .or 3 (.tmp 8) (.tmp 15) t8 t15) (World.drew w) fun t16 =>
  R t16 (World.drew w)
theorem page_Page_used_s0_eq (R : Value → World → Prop) : ∀ e w, lift Tryz.prog 17 (bodyOf Tryz.f77) (finK Tryz.prog Tryz.f77.results.toList R) e w = page_Page_used_s0 R (e 0) w := fun e w => by kernel_rfl
def page_Page_used (R : Value → World → Prop) (x0 : Value) (w : World) : Prop := page_Page_used_s0 R x0 w
theorem page_Page_used_call {R : Value → World → Prop} {x0 : Value} {w : World} (h : page_Page_used R x0 w) : callG Tryz.prog 77 #[x0] w R :=
  calls_lift_eq Tryz.mixed Tryz.func77 (args := [x0]) rfl rfl rfl rfl ((page_Page_used_s0_eq R) (envOf [x0]) w) (by kernel_rfl) h
/-! (*quayside/page.Page).room -/
def page_Page_room_s0 (R : Value → World → Prop) (x0 : Value) (w : World) : Prop :=
  callG Tryz.prog 50 #[x0] w fun t4 w =>
  qG Tryz.prog (bq .mul 3 (.const (.int .i64 2)) (.tmp 4) (.int .i64 2) t4) w fun t5 =>
  qG Tryz.prog (bq .sub 3 (.const (.int .i64 248)) (.tmp 5) (.int .i64 248) t5) w fun t6 =>
  callG Tryz.prog 77 #[x0] w fun t8 w =>
  qG Tryz.prog (bq .sub 3 (.tmp 6) (.tmp 8) t6 t8) w fun t9 =>
  R t9 w
theorem page_Page_room_s0_eq (R : Value → World → Prop) : ∀ e w, lift Tryz.prog 10 (bodyOf Tryz.f78) (finK Tryz.prog Tryz.f78.results.toList R) e w = page_Page_room_s0 R (e 0) w := fun e w => by kernel_rfl
def page_Page_room (R : Value → World → Prop) (x0 : Value) (w : World) : Prop := page_Page_room_s0 R x0 w
theorem page_Page_room_call {R : Value → World → Prop} {x0 : Value} {w : World} (h : page_Page_room R x0 w) : callG Tryz.prog 78 #[x0] w R :=
  calls_lift_eq Tryz.mixed Tryz.func78 (args := [x0]) rfl rfl rfl rfl ((page_Page_room_s0_eq R) (envOf [x0]) w) (by kernel_rfl) h
/-! (*quayside/page.Page).sets -/
def page_Page_sets_s0 (R : Value → World → Prop) (x0 x1 x2 : Value) (w : World) : Prop :=
  cvI .u8 x1 fun t10 =>
  cvI .u8 x2 fun t12 =>
  qG Tryz.prog (bq .shr 3 (.tmp 13) (.const (.int .u64 8)) x2 (.int .u64 8)) (World.drew w) fun t14 =>
  cvI .u8 t14 fun t15 =>
  nk x0 fun t16 =>
  fa 0 t16 fun t17 =>
  iaA 256 1 t17 (.int .i64 1) fun t18 =>
  nk x0 fun t19 =>
  fa 0 t19 fun t20 =>
  nk x0 fun t22 =>
  fa 0 t22 fun t23 =>
  st1 t18 t10 (World.drew w) fun w =>
  stb Tryz.prog (bq .shr 3 (.tmp 13) (.const (.int .u64 8)) x2 (.int .u64 8)) t14 w ∧
  iaA 256 1 t20 (.int .i64 2) fun t21 =>
  st1 t21 t12 w fun w =>
  stb Tryz.prog (bq .shr 3 (.tmp 13) (.const (.int .u64 8)) x2 (.int .u64 8)) t14 w ∧
  iaA 256 1 t23 (.int .i64 3) fun t24 =>
  st1 t24 t15 w fun w =>
  R (.tuple #[]) w
theorem page_Page_sets_s0_eq (R : Value → World → Prop) : ∀ e w, lift Tryz.prog 25 (bodyOf Tryz.f95) (finK Tryz.prog Tryz.f95.results.toList R) e w = page_Page_sets_s0 R (e 0) (e 1) (e 2) w := fun e w => by kernel_rfl
def page_Page_sets (R : Value → World → Prop) (x0 x1 x2 : Value) (w : World) : Prop := page_Page_sets_s0 R x0 x1 x2 w
theorem page_Page_sets_call {R : Value → World → Prop} {x0 x1 x2 : Value} {w : World} (h : page_Page_sets R x0 x1 x2 w) : callG Tryz.prog 95 #[x0, x1, x2] w R :=
  calls_lift_eq Tryz.mixed Tryz.func95 (args := [x0, x1, x2]) rfl rfl rfl rfl ((page_Page_sets_s0_eq R) (envOf [x0, x1, x2]) w) (by kernel_rfl) h
/-! (*quayside/page.Page).from -/
def page_Page_from_s0 (R : Value → World → Prop) (x0 x1 : Value) (w : World) : Prop :=
  qG Tryz.prog (bq .lss 3 (.tmp 5) (.const (.int .i64 0)) x1 (.int .i64 0)) w fun t6 =>
  bV t6
  (R (.int .i64 256) w)
  (qG Tryz.prog (bq .mul 3 (.const (.int .i64 2)) (.tmp 8) (.int .i64 2) x1) w fun t9 =>
  qG Tryz.prog (bq .add 3 (.const (.int .i64 8)) (.tmp 9) (.int .i64 8) t9) w fun t10 =>
  nk x0 fun t11 =>
  fa 0 t11 fun t12 =>
  iaA 256 1 t12 t10 fun t13 =>
  ld1 t13 w fun t14 =>
  cvI .i64 t14 fun t15 =>
  R t15 w)
theorem page_Page_from_s0_eq (R : Value → World → Prop) : ∀ e w, lift Tryz.prog 16 (bodyOf Tryz.f79) (finK Tryz.prog Tryz.f79.results.toList R) e w = page_Page_from_s0 R (e 0) (e 1) w := fun e w => by kernel_rfl
def page_Page_from (R : Value → World → Prop) (x0 x1 : Value) (w : World) : Prop := page_Page_from_s0 R x0 x1 w
theorem page_Page_from_call {R : Value → World → Prop} {x0 x1 : Value} {w : World} (h : page_Page_from R x0 x1 w) : callG Tryz.prog 79 #[x0, x1] w R :=
  calls_lift_eq Tryz.mixed Tryz.func79 (args := [x0, x1]) rfl rfl rfl rfl ((page_Page_from_s0_eq R) (envOf [x0, x1]) w) (by kernel_rfl) h
/-! (*quayside/page.Page).keyed -/
def page_Page_keyed_s0 (R : Value → World → Prop) (x0 x1 : Value) (w : World) : Prop :=
  qG Tryz.prog (bq .mul 3 (.const (.int .i64 2)) (.tmp 6) (.int .i64 2) x1) w fun t7 =>
  qG Tryz.prog (bq .add 3 (.const (.int .i64 8)) (.tmp 7) (.int .i64 8) t7) w fun t8 =>
  qG Tryz.prog (bq .add 3 (.tmp 8) (.const (.int .i64 1)) t8 (.int .i64 1)) w fun t9 =>
  nk x0 fun t10 =>
  fa 0 t10 fun t11 =>
  iaA 256 1 t11 t9 fun t12 =>
  ld1 t12 w fun t13 =>
  cvI .i64 t13 fun t14 =>
  R t14 w
theorem page_Page_keyed_s0_eq (R : Value → World → Prop) : ∀ e w, lift Tryz.prog 15 (bodyOf Tryz.f80) (finK Tryz.prog Tryz.f80.results.toList R) e w = page_Page_keyed_s0 R (e 0) (e 1) w := fun e w => by kernel_rfl
def page_Page_keyed (R : Value → World → Prop) (x0 x1 : Value) (w : World) : Prop := page_Page_keyed_s0 R x0 x1 w
theorem page_Page_keyed_call {R : Value → World → Prop} {x0 x1 : Value} {w : World} (h : page_Page_keyed R x0 x1 w) : callG Tryz.prog 80 #[x0, x1] w R :=
  calls_lift_eq Tryz.mixed Tryz.func80 (args := [x0, x1]) rfl rfl rfl rfl ((page_Page_keyed_s0_eq R) (envOf [x0, x1]) w) (by kernel_rfl) h
/-! (*quayside/page.Page).points -/
def page_Page_points_s0 (R : Value → World → Prop) (x0 x1 x2 x3 : Value) (w : World) : Prop :=
  qG Tryz.prog (bq .mul 3 (.const (.int .i64 2)) (.tmp 9) (.int .i64 2) x1) (World.drew w) fun t10 =>
  qG Tryz.prog (bq .add 3 (.const (.int .i64 8)) (.tmp 10) (.int .i64 8) t10) (World.drew w) fun t11 =>
  qG Tryz.prog (bq .mul 3 (.const (.int .i64 2)) (.tmp 13) (.int .i64 2) x1) (World.drew w) fun t14 =>
  qG Tryz.prog (bq .add 3 (.const (.int .i64 8)) (.tmp 14) (.int .i64 8) t14) (World.drew w) fun t15 =>
  qG Tryz.prog (bq .add 3 (.tmp 15) (.const (.int .i64 1)) t15 (.int .i64 1)) (World.drew w) fun t16 =>
  cvI .u8 x2 fun t18 =>
  cvI .u8 x3 fun t20 =>
  nk x0 fun t21 =>
  fa 0 t21 fun t22 =>
  iaA 256 1 t22 t11 fun t23 =>
  nk x0 fun t24 =>
  fa 0 t24 fun t25 =>
  st1 t23 t18 (World.drew w) fun w =>
  stb Tryz.prog (bq .add 3 (.tmp 15) (.const (.int .i64 1)) t15 (.int .i64 1)) t16 w ∧
  stb Tryz.prog (bq .add 3 (.const (.int .i64 8)) (.tmp 14) (.int .i64 8) t14) t15 w ∧
  stb Tryz.prog (bq .mul 3 (.const (.int .i64 2)) (.tmp 13) (.int .i64 2) x1) t14 w ∧
  iaA 256 1 t25 t16 fun t26 =>
  st1 t26 t20 w fun w =>
  R (.tuple #[]) w
theorem page_Page_points_s0_eq (R : Value → World → Prop) : ∀ e w, lift Tryz.prog 27 (bodyOf Tryz.f88) (finK Tryz.prog Tryz.f88.results.toList R) e w = page_Page_points_s0 R (e 0) (e 1) (e 2) (e 3) w := fun e w => by kernel_rfl
def page_Page_points (R : Value → World → Prop) (x0 x1 x2 x3 : Value) (w : World) : Prop := page_Page_points_s0 R x0 x1 x2 x3 w
theorem page_Page_points_call {R : Value → World → Prop} {x0 x1 x2 x3 : Value} {w : World} (h : page_Page_points R x0 x1 x2 x3 w) : callG Tryz.prog 88 #[x0, x1, x2, x3] w R :=
  calls_lift_eq Tryz.mixed Tryz.func88 (args := [x0, x1, x2, x3]) rfl rfl rfl rfl ((page_Page_points_s0_eq R) (envOf [x0, x1, x2, x3]) w) (by kernel_rfl) h
/-! (*quayside/page.Page).Bytes -/
def page_Page_Bytes_s0 (R : Value → World → Prop) (x0 : Value) (w : World) : Prop :=
  callG Tryz.prog 82 #[x0] w fun t5 w =>
  qG Tryz.prog (Op.unary .not t5) w fun t6 =>
  bV t6
  (R (.string ⟨#[]⟩) w)
  (nk x0 fun t8 =>
  fa 0 t8 fun t9 =>
  ldn 256 t9 w fun t10 =>
  newG (zc Tryz.prog 128) 128 w fun t3 w =>
  stn 256 t3 t10 w fun w =>
  slA 256 1 t3 (some (.int .i64 4)) (some (.int .i64 8)) fun t11 =>
  slA 256 1 t3 none none fun t12 =>
  cvBS t12 (World.drew w) fun t13 =>
  callG Tryz.prog 45 #[t13] (World.drew w) fun t14 w =>
  callG Tryz.prog 44 #[t14] w fun t15 w =>
  cp 1 t11 t15 w fun t16 w =>
  slA 256 1 t3 none none fun t17 =>
  cvBS t17 w fun t18 =>
  R t18 w)
theorem page_Page_Bytes_s0_eq (R : Value → World → Prop) : ∀ e w, lift Tryz.prog 19 (bodyOf Tryz.f61) (finK Tryz.prog Tryz.f61.results.toList R) e w = page_Page_Bytes_s0 R (e 0) w := fun e w => by kernel_rfl
def page_Page_Bytes (R : Value → World → Prop) (x0 : Value) (w : World) : Prop := page_Page_Bytes_s0 R x0 w
theorem page_Page_Bytes_call {R : Value → World → Prop} {x0 : Value} {w : World} (h : page_Page_Bytes R x0 w) : callG Tryz.prog 61 #[x0] w R :=
  calls_lift_eq Tryz.mixed Tryz.func61 (args := [x0]) rfl rfl rfl rfl ((page_Page_Bytes_s0_eq R) (envOf [x0]) w) (by kernel_rfl) h
/-! quayside/page.cell -/
def page_cell_s0 (R : Value → World → Prop) (x0 x1 : Value) (w : World) : Prop :=
  lenS x0 fun t6 =>
  qG Tryz.prog (bq .geq 3 (.tmp 6) (.const (.int .i64 1)) t6 (.int .i64 1)) w fun t7 =>
  bV t7
  (lenS x0 fun t10 =>
  qG Tryz.prog (bq .leq 3 (.tmp 10) (.const (.int .i64 80)) t10 (.int .i64 80)) w fun t11 =>
  bV t11
  (lenS x1 fun t15 =>
  lenS x0 fun t17 =>
  qG Tryz.prog (bq .sub 3 (.const (.int .i64 100)) (.tmp 17) (.int .i64 100) t17) w fun t18 =>
  qG Tryz.prog (bq .leq 3 (.tmp 15) (.tmp 18) t15 t18) w fun t19 =>
  R t19 w)
  (R (.bool false) w))
  (R (.bool false) w)
theorem page_cell_s0_eq (R : Value → World → Prop) : ∀ e w, lift Tryz.prog 21 (bodyOf Tryz.f81) (finK Tryz.prog Tryz.f81.results.toList R) e w = page_cell_s0 R (e 0) (e 1) w := fun e w => by kernel_rfl
def page_cell (R : Value → World → Prop) (x0 x1 : Value) (w : World) : Prop := page_cell_s0 R x0 x1 w
theorem page_cell_call {R : Value → World → Prop} {x0 x1 : Value} {w : World} (h : page_cell R x0 x1 w) : callG Tryz.prog 81 #[x0, x1] w R :=
  calls_lift_eq Tryz.mixed Tryz.func81 (args := [x0, x1]) rfl rfl rfl rfl ((page_cell_s0_eq R) (envOf [x0, x1]) w) (by kernel_rfl) h
/-! quayside/page.Read -/
def page_Read_s0 (R : Value → World → Prop) (x4 : Value) (w : World) : Prop :=
  R (.tuple #[x4, (.int .i64 0)]) w
theorem page_Read_s0_eq (R : Value → World → Prop) : ∀ e w, lift Tryz.prog 128 (sub (bodyOf Tryz.f48) [1, 1, 1, 1, 1, 1, 1, 1, 1, 1, 1]) (finK Tryz.prog Tryz.f48.results.toList R) e w = page_Read_s0 R (e 4) w := fun e w => by kernel_rfl
def page_Read_s1 (R : Value → World → Prop) (N1 : List Value → World → Prop) (x4 x5 x7 x77 x78 : Value) (w : World) : Prop :=
  qG Tryz.prog (bq .add 3 (.tmp 78) (.const (.int .i64 1)) x78 (.int .i64 1)) w fun t126 =>
  N1 [x4, x5, x7, x77, t126] w
theorem page_Read_s1_eq (R : Value → World → Prop) (N1 : List Value → World → Prop) : ∀ e w, lift Tryz.prog 128 (sub (bodyOf Tryz.f48) [1, 1, 1, 1, 1, 1, 1, 1, 1, 1, 0, 1, 0, 0, 1, 1, 1]) (seqK (fun e w => N1 [e 4, e 5, e 7, e 77, e 78] w) (blockK 2 (seqK (fun e w => page_Read_s0 R (e 4) w) (finK Tryz.prog Tryz.f48.results.toList R)))) e w = page_Read_s1 R N1 (e 4) (e 5) (e 7) (e 77) (e 78) w := fun e w => by kernel_rfl
def page_Read_s2 (R : Value → World → Prop) (N1 : List Value → World → Prop) (x4 x5 x7 x8 x77 x78 : Value) (w : World) : Prop :=
  callG Tryz.prog 51 #[x4, x8] w fun t109 w =>
  qG Tryz.prog (Instr.extract t109 0) w fun t110 =>
  qG Tryz.prog (Instr.extract t109 1) w fun t111 =>
  callG Tryz.prog 81 #[t110, t111] w fun t114 w =>
  qG Tryz.prog (Op.unary .not t114) w fun t115 =>
  bV t115
  (R (.tuple #[(.pointer none), (.int .i64 120)]) w)
  (qG Tryz.prog (bq .gtr 3 (.tmp 117) (.const (.int .i64 0)) x8 (.int .i64 0)) w fun t118 =>
  bV t118
  (qG Tryz.prog (bq .leq 9 (.tmp 120) (.tmp 121) t110 x7) w fun t122 =>
  bV t122
  (R (.tuple #[(.pointer none), (.int .i64 120)]) w)
  (page_Read_s1 R N1 x4 x5 t110 x77 x78 w))
  (page_Read_s1 R N1 x4 x5 t110 x77 x78 w))
theorem page_Read_s2_eq (R : Value → World → Prop) (N1 : List Value → World → Prop) : ∀ e w, lift Tryz.prog 128 (sub (bodyOf Tryz.f48) [1, 1, 1, 1, 1, 1, 1, 1, 1, 1, 0, 1, 0, 0, 1, 1, 0, 0, 1, 1, 1]) (blockK 3 (seqK (fun e w => page_Read_s1 R N1 (e 4) (e 5) (e 7) (e 77) (e 78) w) (seqK (fun e w => N1 [e 4, e 5, e 7, e 77, e 78] w) (blockK 2 (seqK (fun e w => page_Read_s0 R (e 4) w) (finK Tryz.prog Tryz.f48.results.toList R)))))) e w = page_Read_s2 R N1 (e 4) (e 5) (e 7) (e 8) (e 77) (e 78) w := fun e w => by kernel_rfl
def page_Read_s3 (R : Value → World → Prop) (N1 : List Value → World → Prop) (x4 x5 x7 x77 x78 : Value) (w : World) : Prop :=
  callG Tryz.prog 79 #[x4, x78] w fun t83 w =>
  qG Tryz.prog (bq .sub 3 (.tmp 85) (.const (.int .i64 1)) x78 (.int .i64 1)) w fun t86 =>
  callG Tryz.prog 79 #[x4, t86] w fun t87 w =>
  callG Tryz.prog 80 #[x4, x78] w fun t90 w =>
  qG Tryz.prog (bq .geq 3 (.tmp 91) (.tmp 92) t83 t87) w fun t93 =>
  bV t93
  (R (.tuple #[(.pointer none), (.int .i64 120)]) w)
  (qG Tryz.prog (bq .lss 3 (.tmp 95) (.tmp 96) t83 x5) w fun t97 =>
  bV t97
  (R (.tuple #[(.pointer none), (.int .i64 120)]) w)
  (qG Tryz.prog (bq .sub 3 (.tmp 101) (.tmp 102) t87 t83) w fun t103 =>
  qG Tryz.prog (bq .gtr 3 (.tmp 100) (.tmp 103) t90 t103) w fun t104 =>
  bV t104
  (R (.tuple #[(.pointer none), (.int .i64 120)]) w)
  (page_Read_s2 R N1 x4 x5 x7 x78 x77 x78 w)))
theorem page_Read_s3_eq (R : Value → World → Prop) (N1 : List Value → World → Prop) : ∀ e w, lift Tryz.prog 128 (sub (bodyOf Tryz.f48) [1, 1, 1, 1, 1, 1, 1, 1, 1, 1, 0, 1, 0, 0, 1, 1, 0, 0]) (blockK 3 (seqK (fun e w => page_Read_s1 R N1 (e 4) (e 5) (e 7) (e 77) (e 78) w) (seqK (fun e w => N1 [e 4, e 5, e 7, e 77, e 78] w) (blockK 2 (seqK (fun e w => page_Read_s0 R (e 4) w) (finK Tryz.prog Tryz.f48.results.toList R)))))) e w = page_Read_s3 R N1 (e 4) (e 5) (e 7) (e 77) (e 78) w :=
  segs_eq (l := [(sub (bodyOf Tryz.f48) [1, 1, 1, 1, 1, 1, 1, 1, 1, 1, 0, 1, 0, 0, 1, 1, 0, 0, 0]), (sub (bodyOf Tryz.f48) [1, 1, 1, 1, 1, 1, 1, 1, 1, 1, 0, 1, 0, 0, 1, 1, 0, 0, 1, 0]), (sub (bodyOf Tryz.f48) [1, 1, 1, 1, 1, 1, 1, 1, 1, 1, 0, 1, 0, 0, 1, 1, 0, 0, 1, 1, 0])]) (y := (sub (bodyOf Tryz.f48) [1, 1, 1, 1, 1, 1, 1, 1, 1, 1, 0, 1, 0, 0, 1, 1, 0, 0, 1, 1, 1])) (Y := (fun e w => page_Read_s2 R N1 (e 4) (e 5) (e 7) (e 8) (e 77) (e 78) w)) (page_Read_s2_eq R N1) (fun e w => by kernel_rfl)
def page_Read_s4 (R : Value → World → Prop) (N1 : List Value → World → Prop) (x4 x5 x7 x77 x78 : Value) (w : World) : Prop :=
  qG Tryz.prog (bq .lss 3 (.tmp 78) (.tmp 77) x78 x77) w fun t79 =>
  bV t79
  (page_Read_s3 R N1 x4 x5 x7 x77 x78 w)
  (page_Read_s0 R x4 w)
theorem page_Read_s4_eq (R : Value → World → Prop) (N1 : List Value → World → Prop) : ∀ e w, lift Tryz.prog 128 (sub (bodyOf Tryz.f48) [1, 1, 1, 1, 1, 1, 1, 1, 1, 1, 0, 1, 0, 0]) (seqK (fun e w => N1 [e 4, e 5, e 7, e 77, e 78] w) (blockK 2 (seqK (fun e w => page_Read_s0 R (e 4) w) (finK Tryz.prog Tryz.f48.results.toList R)))) e w = page_Read_s4 R N1 (e 4) (e 5) (e 7) (e 77) (e 78) w :=
  segs_eq (l := [(sub (bodyOf Tryz.f48) [1, 1, 1, 1, 1, 1, 1, 1, 1, 1, 0, 1, 0, 0, 0]), (sub (bodyOf Tryz.f48) [1, 1, 1, 1, 1, 1, 1, 1, 1, 1, 0, 1, 0, 0, 1, 0])]) (y := (sub (bodyOf Tryz.f48) [1, 1, 1, 1, 1, 1, 1, 1, 1, 1, 0, 1, 0, 0, 1, 1])) (Y := (fun e w => page_Read_s3 R N1 (e 4) (e 5) (e 7) (e 77) (e 78) w)) (seq_seg (x := (sub (bodyOf Tryz.f48) [1, 1, 1, 1, 1, 1, 1, 1, 1, 1, 0, 1, 0, 0, 1, 1, 0])) (y := (sub (bodyOf Tryz.f48) [1, 1, 1, 1, 1, 1, 1, 1, 1, 1, 0, 1, 0, 0, 1, 1, 1])) (page_Read_s1_eq R N1) (page_Read_s3_eq R N1)) (fun e w => by kernel_rfl)
def page_Read_L5F (R : Value → World → Prop) (N1 : List Value → World → Prop) (xs : List Value) (w : World) : Prop :=
  match xs with
  | [x4, x5, x7, x77, x78] => page_Read_s4 R N1 x4 x5 x7 x77 x78 w
  | _ => False
def page_Read_L5 (R : Value → World → Prop) (x4 x5 x7 x77 x78 : Value) (w : World) : Prop :=
  ∃ m, loopV (page_Read_L5F R) m [x4, x5, x7, x77, x78] w
theorem page_Read_L5_eq (R : Value → World → Prop) : ∀ e w, lift Tryz.prog 128 (sub (bodyOf Tryz.f48) [1, 1, 1, 1, 1, 1, 1, 1, 1, 1, 0, 1, 0]) (blockK 2 (seqK (fun e w => page_Read_s0 R (e 4) w) (finK Tryz.prog Tryz.f48.results.toList R))) e w = page_Read_L5 R (e 4) (e 5) (e 7) (e 77) (e 78) w := loop_seg (F := page_Read_L5F R) (sel := fun e => [e 4, e 5, e 7, e 77, e 78]) fun N1 => (page_Read_s4_eq R N1)
def page_Read_s6 (R : Value → World → Prop) (x4 x5 x7 : Value) (w : World) : Prop :=
  callG Tryz.prog 50 #[x4] w fun t77 w =>
  page_Read_L5 R x4 x5 x7 t77 (.int .i64 0) w
theorem page_Read_s6_eq (R : Value → World → Prop) : ∀ e w, lift Tryz.prog 128 (sub (bodyOf Tryz.f48) [1, 1, 1, 1, 1, 1, 1, 1, 1, 1, 0]) (seqK (fun e w => page_Read_s0 R (e 4) w) (finK Tryz.prog Tryz.f48.results.toList R)) e w = page_Read_s6 R (e 4) (e 5) (e 7) w :=
  segs_eq (l := [(sub (bodyOf Tryz.f48) [1, 1, 1, 1, 1, 1, 1, 1, 1, 1, 0, 0])]) (y := (sub (bodyOf Tryz.f48) [1, 1, 1, 1, 1, 1, 1, 1, 1, 1, 0, 1])) (Y := (fun e w => page_Read_L5 R (e 4) (e 5) (e 7) (e 77) (e 78) w)) (page_Read_L5_eq R) (fun e w => by kernel_rfl)
def page_Read_s7 (R : Value → World → Prop) (x4 x5 : Value) (w : World) : Prop :=
  page_Read_s6 R x4 x5 (.string ⟨#[]⟩) w
theorem page_Read_s7_eq (R : Value → World → Prop) : ∀ e w, lift Tryz.prog 128 (sub (bodyOf Tryz.f48) [1, 1, 1, 1, 1, 1, 1, 1, 1]) (finK Tryz.prog Tryz.f48.results.toList R) e w = page_Read_s7 R (e 4) (e 5) w :=
  segs_eq (l := [(sub (bodyOf Tryz.f48) [1, 1, 1, 1, 1, 1, 1, 1, 1, 0])]) (y := (sub (bodyOf Tryz.f48) [1, 1, 1, 1, 1, 1, 1, 1, 1, 1])) (Y := (fun e w => page_Read_s6 R (e 4) (e 5) (e 7) w)) (seq_seg (x := (sub (bodyOf Tryz.f48) [1, 1, 1, 1, 1, 1, 1, 1, 1, 1, 0])) (y := (sub (bodyOf Tryz.f48) [1, 1, 1, 1, 1, 1, 1, 1, 1, 1, 1])) (page_Read_s0_eq R) (page_Read_s6_eq R)) (fun e w => by kernel_rfl)
def page_Read_b8 (R : Value → World → Prop) (N1 : List Value → World → Prop) (x4 x5 x6 : Value) (w : World) : Prop :=
  callG Tryz.prog 77 #[x4] w fun t64 w =>
  qG Tryz.prog (bq .sub 3 (.const (.int .i64 256)) (.tmp 64) (.int .i64 256) t64) w fun t65 =>
  qG Tryz.prog (bq .lss 3 (.tmp 62) (.tmp 65) x6 t65) w fun t66 =>
  bV t66
  (nk x4 fun t71 =>
  fa 0 t71 fun t72 =>
  iaA 256 1 t72 x6 fun t73 =>
  ld1 t73 w fun t74 =>
  qG Tryz.prog (bq .neq 5 (.tmp 74) (.const (.int .u8 0)) t74 (.int .u8 0)) w fun t75 =>
  bV t75
  (R (.tuple #[(.pointer none), (.int .i64 120)]) w)
  (qG Tryz.prog (bq .add 3 (.tmp 67) (.const (.int .i64 1)) x6 (.int .i64 1)) w fun t68 =>
  N1 [x4, x5, t68] w))
  (page_Read_s7 R x4 x5 w)
theorem page_Read_b8_eq (R : Value → World → Prop) (N1 : List Value → World → Prop) : ∀ e w, lift Tryz.prog 128 (sub (bodyOf Tryz.f48) [1, 1, 1, 1, 1, 1, 1, 1, 0, 1, 0, 0]) (seqK (fun e w => N1 [e 4, e 5, e 6] w) (blockK 0 (seqK (fun e w => page_Read_s7 R (e 4) (e 5) w) (finK Tryz.prog Tryz.f48.results.toList R)))) e w = page_Read_b8 R N1 (e 4) (e 5) (e 6) w := fun e w => by kernel_rfl
def page_Read_L9F (R : Value → World → Prop) (N1 : List Value → World → Prop) (xs : List Value) (w : World) : Prop :=
  match xs with
  | [x4, x5, x6] => page_Read_b8 R N1 x4 x5 x6 w
  | _ => False
def page_Read_L9 (R : Value → World → Prop) (x4 x5 x6 : Value) (w : World) : Prop :=
  ∃ m, loopV (page_Read_L9F R) m [x4, x5, x6] w
theorem page_Read_L9_eq (R : Value → World → Prop) : ∀ e w, lift Tryz.prog 128 (sub (bodyOf Tryz.f48) [1, 1, 1, 1, 1, 1, 1, 1, 0, 1, 0]) (blockK 0 (seqK (fun e w => page_Read_s7 R (e 4) (e 5) w) (finK Tryz.prog Tryz.f48.results.toList R))) e w = page_Read_L9 R (e 4) (e 5) (e 6) w := loop_seg (F := page_Read_L9F R) (sel := fun e => [e 4, e 5, e 6]) fun N1 => (page_Read_b8_eq R N1)
def page_Read_s10 (R : Value → World → Prop) (x4 x5 : Value) (w : World) : Prop :=
  page_Read_L9 R x4 x5 x5 w
theorem page_Read_s10_eq (R : Value → World → Prop) : ∀ e w, lift Tryz.prog 128 (sub (bodyOf Tryz.f48) [1, 1, 1, 1, 1, 1, 1, 1, 0]) (seqK (fun e w => page_Read_s7 R (e 4) (e 5) w) (finK Tryz.prog Tryz.f48.results.toList R)) e w = page_Read_s10 R (e 4) (e 5) w :=
  segs_eq (l := [(sub (bodyOf Tryz.f48) [1, 1, 1, 1, 1, 1, 1, 1, 0, 0])]) (y := (sub (bodyOf Tryz.f48) [1, 1, 1, 1, 1, 1, 1, 1, 0, 1])) (Y := (fun e w => page_Read_L9 R (e 4) (e 5) (e 6) w)) (page_Read_L9_eq R) (fun e w => by kernel_rfl)
def page_Read_s11 (R : Value → World → Prop) (x4 : Value) (w : World) : Prop :=
  callG Tryz.prog 50 #[x4] w fun t49 w =>
  qG Tryz.prog (bq .mul 3 (.const (.int .i64 2)) (.tmp 49) (.int .i64 2) t49) w fun t50 =>
  qG Tryz.prog (bq .add 3 (.const (.int .i64 8)) (.tmp 50) (.int .i64 8) t50) w fun t51 =>
  callG Tryz.prog 50 #[x4] w fun t54 w =>
  qG Tryz.prog (bq .sub 3 (.tmp 54) (.const (.int .i64 1)) t54 (.int .i64 1)) w fun t55 =>
  callG Tryz.prog 79 #[x4, t55] w fun t56 w =>
  callG Tryz.prog 77 #[x4] w fun t58 w =>
  qG Tryz.prog (bq .sub 3 (.const (.int .i64 256)) (.tmp 58) (.int .i64 256) t58) w fun t59 =>
  qG Tryz.prog (bq .neq 3 (.tmp 56) (.tmp 59) t56 t59) w fun t60 =>
  bV t60
  (R (.tuple #[(.pointer none), (.int .i64 120)]) w)
  (page_Read_s10 R x4 t51 w)
theorem page_Read_s11_eq (R : Value → World → Prop) : ∀ e w, lift Tryz.prog 128 (sub (bodyOf Tryz.f48) [1, 1, 1, 1, 1, 1]) (finK Tryz.prog Tryz.f48.results.toList R) e w = page_Read_s11 R (e 4) w :=
  segs_eq (l := [(sub (bodyOf Tryz.f48) [1, 1, 1, 1, 1, 1, 0]), (sub (bodyOf Tryz.f48) [1, 1, 1, 1, 1, 1, 1, 0])]) (y := (sub (bodyOf Tryz.f48) [1, 1, 1, 1, 1, 1, 1, 1])) (Y := (fun e w => page_Read_s10 R (e 4) (e 5) w)) (seq_seg (x := (sub (bodyOf Tryz.f48) [1, 1, 1, 1, 1, 1, 1, 1, 0])) (y := (sub (bodyOf Tryz.f48) [1, 1, 1, 1, 1, 1, 1, 1, 1])) (page_Read_s7_eq R) (page_Read_s10_eq R)) (fun e w => by kernel_rfl)
def page_Read_s12 (R : Value → World → Prop) (x0 : Value) (w : World) : Prop :=
  bld [(0, 256), (256, 1)] (zc Tryz.prog 130) #[(1, (.bool true))] fun t22 =>
  newG (Value.cells t22) 130 w fun t23 w =>
  nk t23 fun t25 =>
  fa 0 t25 fun t26 =>
  slA 256 1 t26 none none fun t27 =>
  cp 1 t27 x0 w fun t29 w =>
  nk t23 fun t31 =>
  fa 0 t31 fun t32 =>
  slA 256 1 t32 (some (.int .i64 4)) (some (.int .i64 8)) fun t33 =>
  clr 1 (zc Tryz.prog 5) t33 w fun _ w =>
  callG Tryz.prog 61 #[t23] w fun t35 w =>
  qG Tryz.prog (bq .neq 9 (.tmp 35) (.tmp 36) t35 x0) w fun t37 =>
  bV t37
  (R (.tuple #[(.pointer none), (.int .i64 120)]) w)
  (callG Tryz.prog 77 #[t23] w fun t40 w =>
  qG Tryz.prog (bq .gtr 3 (.tmp 40) (.const (.int .i64 256)) t40 (.int .i64 256)) w fun t41 =>
  bV t41
  (R (.tuple #[(.pointer none), (.int .i64 120)]) w)
  (callG Tryz.prog 78 #[t23] w fun t45 w =>
  qG Tryz.prog (bq .lss 3 (.tmp 45) (.const (.int .i64 0)) t45 (.int .i64 0)) w fun t46 =>
  bV t46
  (R (.tuple #[(.pointer none), (.int .i64 120)]) w)
  (page_Read_s11 R t23 w)))
theorem page_Read_s12_eq (R : Value → World → Prop) : ∀ e w, lift Tryz.prog 128 (sub (bodyOf Tryz.f48) [1, 1]) (finK Tryz.prog Tryz.f48.results.toList R) e w = page_Read_s12 R (e 0) w :=
  segs_eq (l := [(sub (bodyOf Tryz.f48) [1, 1, 0]), (sub (bodyOf Tryz.f48) [1, 1, 1, 0]), (sub (bodyOf Tryz.f48) [1, 1, 1, 1, 0]), (sub (bodyOf Tryz.f48) [1, 1, 1, 1, 1, 0])]) (y := (sub (bodyOf Tryz.f48) [1, 1, 1, 1, 1, 1])) (Y := (fun e w => page_Read_s11 R (e 4) w)) (page_Read_s11_eq R) (fun e w => by kernel_rfl)
def page_Read_s13 (R : Value → World → Prop) (x0 : Value) (w : World) : Prop :=
  lenS x0 fun t15 =>
  qG Tryz.prog (bq .neq 3 (.tmp 15) (.const (.int .i64 256)) t15 (.int .i64 256)) w fun t16 =>
  bV t16
  (R (.tuple #[(.pointer none), (.int .i64 120)]) w)
  (ixS x0 (.int .i64 0) fun t19 =>
  qG Tryz.prog (bq .eql 5 (.tmp 19) (.const (.int .u8 0)) t19 (.int .u8 0)) w fun t20 =>
  bV t20
  (R (.tuple #[(.pointer none), (.int .i64 120)]) w)
  (page_Read_s12 R x0 w))
theorem page_Read_s13_eq (R : Value → World → Prop) : ∀ e w, lift Tryz.prog 128 (bodyOf Tryz.f48) (finK Tryz.prog Tryz.f48.results.toList R) e w = page_Read_s13 R (e 0) w :=
  segs_eq (l := [(sub (bodyOf Tryz.f48) [0]), (sub (bodyOf Tryz.f48) [1, 0])]) (y := (sub (bodyOf Tryz.f48) [1, 1])) (Y := (fun e w => page_Read_s12 R (e 0) w)) (page_Read_s12_eq R) (fun e w => by kernel_rfl)
def page_Read (R : Value → World → Prop) (x0 : Value) (w : World) : Prop := page_Read_s13 R x0 w
theorem page_Read_call {R : Value → World → Prop} {x0 : Value} {w : World} (h : page_Read R x0 w) : callG Tryz.prog 48 #[x0] w R :=
  calls_lift_eq Tryz.mixed Tryz.func48 (args := [x0]) rfl rfl rfl rfl ((page_Read_s13_eq R) (envOf [x0]) w) (by kernel_rfl) h
/-! (*quayside/page.Page).At -/
def page_Page_At_s0 (R : Value → World → Prop) (x0 x1 : Value) (w : World) : Prop :=
  callG Tryz.prog 79 #[x0, x1] w fun t19 w =>
  qG Tryz.prog (bq .sub 3 (.tmp 21) (.const (.int .i64 1)) x1 (.int .i64 1)) w fun t22 =>
  callG Tryz.prog 79 #[x0, t22] w fun t23 w =>
  callG Tryz.prog 80 #[x0, x1] w fun t27 w =>
  qG Tryz.prog (bq .add 3 (.tmp 24) (.tmp 27) t19 t27) w fun t28 =>
  nk x0 fun t30 =>
  fa 0 t30 fun t31 =>
  slA 256 1 t31 (some t19) (some t28) fun t34 =>
  cvBS t34 (World.drew w) fun t35 =>
  nk x0 fun t37 =>
  fa 0 t37 fun t38 =>
  slA 256 1 t38 (some t28) (some t23) fun t41 =>
  cvBS t41 (World.drew w) fun t42 =>
  R (.tuple #[t35, t42]) (World.drew w)
theorem page_Page_At_s0_eq (R : Value → World → Prop) : ∀ e w, lift Tryz.prog 43 (sub (bodyOf Tryz.f51) [1, 1]) (finK Tryz.prog Tryz.f51.results.toList R) e w = page_Page_At_s0 R (e 0) (e 1) w := fun e w => by kernel_rfl
def page_Page_At_s1 (R : Value → World → Prop) (x0 x1 : Value) (w : World) : Prop :=
  qG Tryz.prog (bq .lss 3 (.tmp 9) (.const (.int .i64 0)) x1 (.int .i64 0)) w fun t10 =>
  bV t10
  (R (.tuple #[(.string ⟨#[]⟩), (.string ⟨#[]⟩)]) w)
  (callG Tryz.prog 50 #[x0] w fun t14 w =>
  qG Tryz.prog (bq .geq 3 (.tmp 12) (.tmp 14) x1 t14) w fun t15 =>
  bV t15
  (R (.tuple #[(.string ⟨#[]⟩), (.string ⟨#[]⟩)]) w)
  (page_Page_At_s0 R x0 x1 w))
theorem page_Page_At_s1_eq (R : Value → World → Prop) : ∀ e w, lift Tryz.prog 43 (bodyOf Tryz.f51) (finK Tryz.prog Tryz.f51.results.toList R) e w = page_Page_At_s1 R (e 0) (e 1) w :=
  segs_eq (l := [(sub (bodyOf Tryz.f51) [0]), (sub (bodyOf Tryz.f51) [1, 0])]) (y := (sub (bodyOf Tryz.f51) [1, 1])) (Y := (fun e w => page_Page_At_s0 R (e 0) (e 1) w)) (page_Page_At_s0_eq R) (fun e w => by kernel_rfl)
def page_Page_At (R : Value → World → Prop) (x0 x1 : Value) (w : World) : Prop := page_Page_At_s1 R x0 x1 w
theorem page_Page_At_call {R : Value → World → Prop} {x0 x1 : Value} {w : World} (h : page_Page_At R x0 x1 w) : callG Tryz.prog 51 #[x0, x1] w R :=
  calls_lift_eq Tryz.mixed Tryz.func51 (args := [x0, x1]) rfl rfl rfl rfl ((page_Page_At_s1_eq R) (envOf [x0, x1]) w) (by kernel_rfl) h
/-! (*quayside/page.Page).Find -/
def page_Page_Find_s0 (R : Value → World → Prop) (x6 : Value) (w : World) : Prop :=
  R (.tuple #[x6, (.bool false)]) w
theorem page_Page_Find_s0_eq (R : Value → World → Prop) : ∀ e w, lift Tryz.prog 39 (sub (bodyOf Tryz.f85) [1, 1, 1]) (finK Tryz.prog Tryz.f85.results.toList R) e w = page_Page_Find_s0 R (e 6) w := fun e w => by kernel_rfl
def page_Page_Find_b1 (R : Value → World → Prop) (N1 : List Value → World → Prop) (x0 x1 x6 x7 : Value) (w : World) : Prop :=
  qG Tryz.prog (bq .lss 3 (.tmp 13) (.tmp 14) x6 x7) w fun t15 =>
  bV t15
  (qG Tryz.prog (bq .add 3 (.tmp 16) (.tmp 17) x6 x7) w fun t18 =>
  qG Tryz.prog (bq .quo 3 (.tmp 18) (.const (.int .i64 2)) t18 (.int .i64 2)) w fun t19 =>
  callG Tryz.prog 51 #[x0, t19] w fun t23 w =>
  qG Tryz.prog (Instr.extract t23 0) w fun t24 =>
  qG Tryz.prog (Instr.extract t23 1) w fun t25 =>
  qG Tryz.prog (bq .eql 9 (.tmp 28) (.tmp 29) t24 x1) w fun t30 =>
  bV t30
  (R (.tuple #[t19, (.bool true)]) w)
  (qG Tryz.prog (bq .lss 9 (.tmp 33) (.tmp 34) t24 x1) w fun t35 =>
  bV t35
  (qG Tryz.prog (bq .add 3 (.tmp 36) (.const (.int .i64 1)) t19 (.int .i64 1)) w fun t37 =>
  N1 [x0, x1, t37, x7] w)
  (N1 [x0, x1, x6, t19] w)))
  (page_Page_Find_s0 R x6 w)
theorem page_Page_Find_b1_eq (R : Value → World → Prop) (N1 : List Value → World → Prop) : ∀ e w, lift Tryz.prog 39 (sub (bodyOf Tryz.f85) [1, 1, 0, 0, 0]) (seqK (fun e w => N1 [e 0, e 1, e 6, e 7] w) (blockK 0 (seqK (fun e w => page_Page_Find_s0 R (e 6) w) (finK Tryz.prog Tryz.f85.results.toList R)))) e w = page_Page_Find_b1 R N1 (e 0) (e 1) (e 6) (e 7) w := fun e w => by kernel_rfl
def page_Page_Find_L2F (R : Value → World → Prop) (N1 : List Value → World → Prop) (xs : List Value) (w : World) : Prop :=
  match xs with
  | [x0, x1, x6, x7] => page_Page_Find_b1 R N1 x0 x1 x6 x7 w
  | _ => False
def page_Page_Find_L2 (R : Value → World → Prop) (x0 x1 x6 x7 : Value) (w : World) : Prop :=
  ∃ m, loopV (page_Page_Find_L2F R) m [x0, x1, x6, x7] w
theorem page_Page_Find_L2_eq (R : Value → World → Prop) : ∀ e w, lift Tryz.prog 39 (sub (bodyOf Tryz.f85) [1, 1, 0, 0]) (blockK 0 (seqK (fun e w => page_Page_Find_s0 R (e 6) w) (finK Tryz.prog Tryz.f85.results.toList R))) e w = page_Page_Find_L2 R (e 0) (e 1) (e 6) (e 7) w := loop_seg (F := page_Page_Find_L2F R) (sel := fun e => [e 0, e 1, e 6, e 7]) fun N1 => (page_Page_Find_b1_eq R N1)
def page_Page_Find_s3 (R : Value → World → Prop) (x0 x1 : Value) (w : World) : Prop :=
  callG Tryz.prog 50 #[x0] w fun t12 w =>
  page_Page_Find_L2 R x0 x1 (.int .i64 0) t12 w
theorem page_Page_Find_s3_eq (R : Value → World → Prop) : ∀ e w, lift Tryz.prog 39 (bodyOf Tryz.f85) (finK Tryz.prog Tryz.f85.results.toList R) e w = page_Page_Find_s3 R (e 0) (e 1) w :=
  segs_eq (l := [(sub (bodyOf Tryz.f85) [0]), (sub (bodyOf Tryz.f85) [1, 0])]) (y := (sub (bodyOf Tryz.f85) [1, 1])) (Y := (fun e w => page_Page_Find_L2 R (e 0) (e 1) (e 6) (e 7) w)) (seq_seg (x := (sub (bodyOf Tryz.f85) [1, 1, 0])) (y := (sub (bodyOf Tryz.f85) [1, 1, 1])) (page_Page_Find_s0_eq R) (page_Page_Find_L2_eq R)) (fun e w => by kernel_rfl)
def page_Page_Find (R : Value → World → Prop) (x0 x1 : Value) (w : World) : Prop := page_Page_Find_s3 R x0 x1 w
theorem page_Page_Find_call {R : Value → World → Prop} {x0 x1 : Value} {w : World} (h : page_Page_Find R x0 x1 w) : callG Tryz.prog 85 #[x0, x1] w R :=
  calls_lift_eq Tryz.mixed Tryz.func85 (args := [x0, x1]) rfl rfl rfl rfl ((page_Page_Find_s3_eq R) (envOf [x0, x1]) w) (by kernel_rfl) h
/-! (*quayside/page.Page).opens -/
def page_Page_opens_b0 (R : Value → World → Prop) (N1 : List Value → World → Prop) (x0 x2 x8 : Value) (w : World) : Prop :=
  callG Tryz.prog 50 #[x0] w fun t65 w =>
  qG Tryz.prog (bq .lss 3 (.tmp 63) (.tmp 65) x8 t65) w fun t66 =>
  bV t66
  (qG Tryz.prog (bq .mul 3 (.const (.int .i64 2)) (.tmp 70) (.int .i64 2) x8) (World.drew w) fun t71 =>
  qG Tryz.prog (bq .add 3 (.const (.int .i64 8)) (.tmp 71) (.int .i64 8) t71) (World.drew w) fun t72 =>
  nk x0 fun t73 =>
  fa 0 t73 fun t74 =>
  iaA 256 1 t74 t72 fun t75 =>
  ld1 t75 (World.drew w) fun t76 =>
  cvI .u8 x2 fun t78 =>
  qG Tryz.prog (bq .sub 5 (.tmp 76) (.tmp 78) t76 t78) (World.drew w) fun t79 =>
  nk x0 fun t80 =>
  fa 0 t80 fun t81 =>
  iaA 256 1 t81 t72 fun t82 =>
  st1 t82 t79 (World.drew w) fun w =>
  qG Tryz.prog (bq .add 3 (.tmp 67) (.const (.int .i64 1)) x8 (.int .i64 1)) w fun t68 =>
  N1 [x0, x2, t68] w)
  (R (.tuple #[]) w)
theorem page_Page_opens_b0_eq (R : Value → World → Prop) (N1 : List Value → World → Prop) : ∀ e w, lift Tryz.prog 83 (sub (bodyOf Tryz.f87) [1, 1, 1, 1, 1, 0, 0]) (seqK (fun e w => N1 [e 0, e 2, e 8] w) (blockK 0 (finK Tryz.prog Tryz.f87.results.toList R))) e w = page_Page_opens_b0 R N1 (e 0) (e 2) (e 8) w := fun e w => by kernel_rfl
def page_Page_opens_L1F (R : Value → World → Prop) (N1 : List Value → World → Prop) (xs : List Value) (w : World) : Prop :=
  match xs with
  | [x0, x2, x8] => page_Page_opens_b0 R N1 x0 x2 x8 w
  | _ => False
def page_Page_opens_L1 (R : Value → World → Prop) (x0 x2 x8 : Value) (w : World) : Prop :=
  ∃ m, loopV (page_Page_opens_L1F R) m [x0, x2, x8] w
theorem page_Page_opens_L1_eq (R : Value → World → Prop) : ∀ e w, lift Tryz.prog 83 (sub (bodyOf Tryz.f87) [1, 1, 1, 1, 1, 0]) (blockK 0 (finK Tryz.prog Tryz.f87.results.toList R)) e w = page_Page_opens_L1 R (e 0) (e 2) (e 8) w := loop_seg (F := page_Page_opens_L1F R) (sel := fun e => [e 0, e 2, e 8]) fun N1 => (page_Page_opens_b0_eq R N1)
def page_Page_opens_s2 (R : Value → World → Prop) (x0 x1 x2 : Value) (w : World) : Prop :=
  callG Tryz.prog 50 #[x0] w fun t11 w =>
  qG Tryz.prog (bq .sub 3 (.tmp 11) (.const (.int .i64 1)) t11 (.int .i64 1)) w fun t12 =>
  callG Tryz.prog 79 #[x0, t12] w fun t13 w =>
  qG Tryz.prog (bq .sub 3 (.tmp 15) (.const (.int .i64 1)) x1 (.int .i64 1)) w fun t16 =>
  callG Tryz.prog 79 #[x0, t16] w fun t17 w =>
  nk x0 fun t19 =>
  fa 0 t19 fun t20 =>
  qG Tryz.prog (bq .sub 3 (.tmp 21) (.tmp 22) t13 x2) (World.drew w) fun t23 =>
  slA 256 1 t20 (some t23) none fun t24 =>
  nk x0 fun t26 =>
  fa 0 t26 fun t27 =>
  slA 256 1 t27 (some t13) (some t17) fun t30 =>
  cp 1 t24 t30 (World.drew w) fun t31 w =>
  nk x0 fun t33 =>
  fa 0 t33 fun t34 =>
  qG Tryz.prog (bq .add 3 (.tmp 35) (.const (.int .i64 1)) x1 (.int .i64 1)) (World.drew w) fun t36 =>
  qG Tryz.prog (bq .mul 3 (.const (.int .i64 2)) (.tmp 36) (.int .i64 2) t36) (World.drew w) fun t37 =>
  qG Tryz.prog (bq .add 3 (.const (.int .i64 8)) (.tmp 37) (.int .i64 8) t37) (World.drew w) fun t38 =>
  slA 256 1 t34 (some t38) none fun t39 =>
  nk x0 fun t41 =>
  fa 0 t41 fun t42 =>
  qG Tryz.prog (bq .mul 3 (.const (.int .i64 2)) (.tmp 43) (.int .i64 2) x1) (World.drew w) fun t44 =>
  qG Tryz.prog (bq .add 3 (.const (.int .i64 8)) (.tmp 44) (.int .i64 8) t44) (World.drew w) fun t45 =>
  callG Tryz.prog 50 #[x0] (World.drew w) fun t47 w =>
  stb Tryz.prog (bq .add 3 (.const (.int .i64 8)) (.tmp 44) (.int .i64 8) t44) t45 w ∧
  stb Tryz.prog (bq .mul 3 (.const (.int .i64 2)) (.tmp 43) (.int .i64 2) x1) t44 w ∧
  stb Tryz.prog (bq .add 3 (.const (.int .i64 8)) (.tmp 37) (.int .i64 8) t37) t38 w ∧
  stb Tryz.prog (bq .mul 3 (.const (.int .i64 2)) (.tmp 36) (.int .i64 2) t36) t37 w ∧
  stb Tryz.prog (bq .add 3 (.tmp 35) (.const (.int .i64 1)) x1 (.int .i64 1)) t36 w ∧
  qG Tryz.prog (bq .mul 3 (.const (.int .i64 2)) (.tmp 47) (.int .i64 2) t47) w fun t48 =>
  qG Tryz.prog (bq .add 3 (.const (.int .i64 8)) (.tmp 48) (.int .i64 8) t48) w fun t49 =>
  slA 256 1 t42 (some t45) (some t49) fun t50 =>
  cp 1 t39 t50 w fun t51 w =>
  callG Tryz.prog 50 #[x0] w fun t54 w =>
  qG Tryz.prog (bq .add 3 (.tmp 54) (.const (.int .i64 1)) t54 (.int .i64 1)) w fun t55 =>
  callG Tryz.prog 77 #[x0] w fun t57 w =>
  qG Tryz.prog (bq .add 3 (.tmp 57) (.tmp 58) t57 x2) w fun t59 =>
  callG Tryz.prog 95 #[x0, t55, t59] w fun t60 w =>
  qG Tryz.prog (bq .add 3 (.tmp 61) (.const (.int .i64 1)) x1 (.int .i64 1)) w fun t62 =>
  page_Page_opens_L1 R x0 x2 t62 w
theorem page_Page_opens_s2_eq (R : Value → World → Prop) : ∀ e w, lift Tryz.prog 83 (bodyOf Tryz.f87) (finK Tryz.prog Tryz.f87.results.toList R) e w = page_Page_opens_s2 R (e 0) (e 1) (e 2) w :=
  segs_eq (l := [(sub (bodyOf Tryz.f87) [0]), (sub (bodyOf Tryz.f87) [1, 0]), (sub (bodyOf Tryz.f87) [1, 1, 0]), (sub (bodyOf Tryz.f87) [1, 1, 1, 0]), (sub (bodyOf Tryz.f87) [1, 1, 1, 1, 0])]) (y := (sub (bodyOf Tryz.f87) [1, 1, 1, 1, 1])) (Y := (fun e w => page_Page_opens_L1 R (e 0) (e 2) (e 8) w)) (page_Page_opens_L1_eq R) (fun e w => by kernel_rfl)
def page_Page_opens (R : Value → World → Prop) (x0 x1 x2 : Value) (w : World) : Prop := page_Page_opens_s2 R x0 x1 x2 w
theorem page_Page_opens_call {R : Value → World → Prop} {x0 x1 x2 : Value} {w : World} (h : page_Page_opens R x0 x1 x2 w) : callG Tryz.prog 87 #[x0, x1, x2] w R :=
  calls_lift_eq Tryz.mixed Tryz.func87 (args := [x0, x1, x2]) rfl rfl rfl rfl ((page_Page_opens_s2_eq R) (envOf [x0, x1, x2]) w) (by kernel_rfl) h
/-! (*quayside/page.Page).closes -/
/-! (*quayside/page.Page).Put -/
def page_Page_Put_s0 (R : Value → World → Prop) (x0 x1 x2 x7 x12 : Value) (w : World) : Prop :=
  callG Tryz.prog 87 #[x0, x7, x12] w fun t62 w =>
  qG Tryz.prog (bq .sub 3 (.tmp 64) (.const (.int .i64 1)) x7 (.int .i64 1)) w fun t65 =>
  callG Tryz.prog 79 #[x0, t65] w fun t66 w =>
  qG Tryz.prog (bq .sub 3 (.tmp 69) (.tmp 70) t66 x12) w fun t71 =>
  lenS x1 fun t73 =>
  callG Tryz.prog 88 #[x0, x7, t71, t73] w fun t74 w =>
  nk x0 fun t76 =>
  fa 0 t76 fun t77 =>
  qG Tryz.prog (bq .sub 3 (.tmp 78) (.tmp 79) t66 x12) w fun t80 =>
  slA 256 1 t77 (some t80) (some t66) fun t82 =>
  qG Tryz.prog (bq .add 9 (.tmp 83) (.tmp 84) x1 x2) w fun t85 =>
  cp 1 t82 t85 w fun t86 w =>
  R (.int .i64 0) w
theorem page_Page_Put_s0_eq (R : Value → World → Prop) : ∀ e w, lift Tryz.prog 87 (sub (bodyOf Tryz.f59) [1, 1, 1, 1, 1, 1, 1, 1]) (finK Tryz.prog Tryz.f59.results.toList R) e w = page_Page_Put_s0 R (e 0) (e 1) (e 2) (e 7) (e 12) w := fun e w => by kernel_rfl
def page_Page_Put_s1 (R : Value → World → Prop) (x0 x1 x2 x7 x8 x9 : Value) (w : World) : Prop :=
  lenS x1 fun t47 =>
  lenS x2 fun t49 =>
  qG Tryz.prog (bq .add 3 (.tmp 47) (.tmp 49) t47 t49) w fun t50 =>
  qG Tryz.prog (bq .add 3 (.const (.int .i64 2)) (.tmp 51) (.int .i64 2) t50) w fun t52 =>
  qG Tryz.prog (bq .gtr 3 (.tmp 52) (.tmp 53) t52 x9) w fun t54 =>
  bV t54
  (R (.int .i64 2) w)
  (bV x8
  (callG Tryz.prog 86 #[x0, x7] w fun t58 w =>
  page_Page_Put_s0 R x0 x1 x2 x7 t50 w)
  (page_Page_Put_s0 R x0 x1 x2 x7 t50 w))
theorem page_Page_Put_s1_eq (R : Value → World → Prop) : ∀ e w, lift Tryz.prog 87 (sub (bodyOf Tryz.f59) [1, 1, 1, 1, 1]) (finK Tryz.prog Tryz.f59.results.toList R) e w = page_Page_Put_s1 R (e 0) (e 1) (e 2) (e 7) (e 8) (e 9) w :=
  segs_eq (l := [(sub (bodyOf Tryz.f59) [1, 1, 1, 1, 1, 0]), (sub (bodyOf Tryz.f59) [1, 1, 1, 1, 1, 1, 0]), (sub (bodyOf Tryz.f59) [1, 1, 1, 1, 1, 1, 1, 0])]) (y := (sub (bodyOf Tryz.f59) [1, 1, 1, 1, 1, 1, 1, 1])) (Y := (fun e w => page_Page_Put_s0 R (e 0) (e 1) (e 2) (e 7) (e 12) w)) (page_Page_Put_s0_eq R) (fun e w => by kernel_rfl)
def page_Page_Put_s2 (R : Value → World → Prop) (x0 x1 x2 : Value) (w : World) : Prop :=
  callG Tryz.prog 85 #[x0, x1] w fun t26 w =>
  qG Tryz.prog (Instr.extract t26 0) w fun t27 =>
  qG Tryz.prog (Instr.extract t26 1) w fun t28 =>
  callG Tryz.prog 78 #[x0] w fun t30 w =>
  bV t28
  (callG Tryz.prog 51 #[x0, t27] w fun t35 w =>
  qG Tryz.prog (Instr.extract t35 0) w fun t36 =>
  qG Tryz.prog (Instr.extract t35 1) w fun t37 =>
  lenS x1 fun t40 =>
  qG Tryz.prog (bq .add 3 (.const (.int .i64 2)) (.tmp 40) (.int .i64 2) t40) w fun t41 =>
  lenS t37 fun t43 =>
  qG Tryz.prog (bq .add 3 (.tmp 41) (.tmp 43) t41 t43) w fun t44 =>
  qG Tryz.prog (bq .add 3 (.tmp 38) (.tmp 44) t30 t44) w fun t45 =>
  page_Page_Put_s1 R x0 x1 x2 t27 t28 t45 w)
  (page_Page_Put_s1 R x0 x1 x2 t27 t28 t30 w)
theorem page_Page_Put_s2_eq (R : Value → World → Prop) : ∀ e w, lift Tryz.prog 87 (sub (bodyOf Tryz.f59) [1, 1]) (finK Tryz.prog Tryz.f59.results.toList R) e w = page_Page_Put_s2 R (e 0) (e 1) (e 2) w :=
  segs_eq (l := [(sub (bodyOf Tryz.f59) [1, 1, 0]), (sub (bodyOf Tryz.f59) [1, 1, 1, 0]), (sub (bodyOf Tryz.f59) [1, 1, 1, 1, 0])]) (y := (sub (bodyOf Tryz.f59) [1, 1, 1, 1, 1])) (Y := (fun e w => page_Page_Put_s1 R (e 0) (e 1) (e 2) (e 7) (e 8) (e 9) w)) (page_Page_Put_s1_eq R) (fun e w => by kernel_rfl)
def page_Page_Put_s3 (R : Value → World → Prop) (x0 x1 x2 : Value) (w : World) : Prop :=
  callG Tryz.prog 82 #[x0] w fun t15 w =>
  qG Tryz.prog (Op.unary .not t15) w fun t16 =>
  bV t16
  (R (.int .i64 1) w)
  (callG Tryz.prog 81 #[x1, x2] w fun t20 w =>
  qG Tryz.prog (Op.unary .not t20) w fun t21 =>
  bV t21
  (R (.int .i64 1) w)
  (page_Page_Put_s2 R x0 x1 x2 w))
theorem page_Page_Put_s3_eq (R : Value → World → Prop) : ∀ e w, lift Tryz.prog 87 (bodyOf Tryz.f59) (finK Tryz.prog Tryz.f59.results.toList R) e w = page_Page_Put_s3 R (e 0) (e 1) (e 2) w :=
  segs_eq (l := [(sub (bodyOf Tryz.f59) [0]), (sub (bodyOf Tryz.f59) [1, 0])]) (y := (sub (bodyOf Tryz.f59) [1, 1])) (Y := (fun e w => page_Page_Put_s2 R (e 0) (e 1) (e 2) w)) (page_Page_Put_s2_eq R) (fun e w => by kernel_rfl)
def page_Page_Put (R : Value → World → Prop) (x0 x1 x2 : Value) (w : World) : Prop := page_Page_Put_s3 R x0 x1 x2 w
theorem page_Page_Put_call {R : Value → World → Prop} {x0 x1 x2 : Value} {w : World} (h : page_Page_Put R x0 x1 x2 w) : callG Tryz.prog 59 #[x0, x1, x2] w R :=
  calls_lift_eq Tryz.mixed Tryz.func59 (args := [x0, x1, x2]) rfl rfl rfl rfl ((page_Page_Put_s3_eq R) (envOf [x0, x1, x2]) w) (by kernel_rfl) h
end Go.Proofs

/- Layer 12: pages that lie as they should: what each function answers. -/
set_option maxRecDepth 100000
set_option linter.unusedVariables false
set_option linter.unusedSimpArgs false
namespace Go.Proofs
open Go Go.Q
theorem sLt_lexS (a b : List UInt8) : sLt (str a) (str b) = lexL a b := by
  unfold sLt lexL
  rw [ByteArray.toList_eq, ByteArray.toList_eq]
  rfl
def PgB (w : World) (p : Nat) (b : List UInt8) : Prop := w.heap[p]? = some (.cells (arC [] b [.bool true]) 130) ∧ b.length = 256
def PgAt (w : World) (p : Nat) (kd : UInt8) (l : List KV) : Prop := PgB w p (lay kd l) ∧ Fit l
section
variable {w : World} {p : Nat} {kd : UInt8} {l : List KV} {b : List UInt8} {R : Value → World → Prop}
theorem PgB.keep {w' : World} {S : List Nat} (h : PgB w p b) (hk : Kp S w w') (hn : p ∉ S) : PgB w' p b := ⟨hk.get h.1 hn, h.2⟩
theorem PgAt.keep {w' : World} {S : List Nat} (h : PgAt w p kd l) (hk : Kp S w w') (hn : p ∉ S) : PgAt w' p kd l := ⟨h.1.keep hk hn, h.2⟩
theorem pg_ix {j : Int} (h0 : 0 ≤ j) (h1 : j < 256) {k : IntKind} {K : Value → Prop} : (nk (.pointer (some ⟨p, 0, none⟩)) fun t => fa 0 t fun t => iaA 256 1 t (.int k j) K) = K (.pointer (some ⟨p, j.toNat, none⟩)) := by
  rw [nk_p, fa_p, iaA_p]
  have : (0 ≤ j ∧ j < ((256 : Nat) : Int)) = True := by simp; omega
  rw [this, true_and]
  simp
theorem pg_pt {K : Value → Prop} : (nk (.pointer (some ⟨p, 0, none⟩)) fun t => fa 0 t K) = K (.pointer (some ⟨p, 0, none⟩)) := by rw [nk_p, fa_p]
theorem PgB.ld (h : PgB w p b) {j : Int} {i : Nat} (hj : j.toNat = i) {v : UInt8} (hv : b[i]? = some v) {K : Value → Prop} : ld1 (.pointer (some ⟨p, j.toNat, none⟩)) w K = K (.int .u8 v.toNat) := by
  obtain ⟨hi, hv⟩ := List.getElem?_eq_some_iff.1 hv
  rw [ar_ld h.1 (i := i) hi (by rw [hj]; simp), hv]
theorem PgB.lt (h : PgB w p b) : p < w.heap.size := lt_of_blk h.1
/-- a byte is written -/
theorem PgB.st (h : PgB w p b) {j : Int} {i : Nat} (hj : j.toNat = i) (hi : i < 256) {v : Value} (u : UInt8) (hv : v = .int .u8 u.toNat) {K : World → Prop} (hK : ∀ w', PgB w' p (b.set i u) → Kp [p] w w' → K w') : st1 (.pointer (some ⟨p, j.toNat, none⟩)) v w K := by
  rw [hv, ar_st h.1 (i := i) (by rw [h.2]; exact hi) (by rw [hj]; simp)]
  exact hK _ ⟨heap_self (live_of h.1), by rw [List.length_set]; exact h.2⟩ ((Kp.refl _ w).setBlk (.inl (by simp)) _)
theorem given_B (h : PgB w p b) (hR : R (.bool true) w) : callG Tryz.prog 82 #[.pointer (some ⟨p, 0, none⟩)] w R := by
  refine page_Page_given_call ?_
  unfold page_Page_given page_Page_given_s0
  rw [bq_pneq _ (by kernel_rfl)]
  simp only [bV_b, Option.isNone_some, Bool.not_false]
  refine ⟨fun _ => ?_, fun h => by simp at h⟩
  rw [nk_p, fa_p, ldF (x := .bool true) h.1 (by
    have hl := h.2
    simp only [arC, List.getElem?_toArray, List.nil_append]
    rw [List.getElem?_append_right (by simp; omega)]
    simp [hl])]
  exact hR
theorem Len_B (h : PgB w p b) {n : UInt8} (hn : b[1]? = some n) (hR : R (.int .i64 (n.toNat : Nat)) w) : callG Tryz.prog 50 #[.pointer (some ⟨p, 0, none⟩)] w R := by
  refine page_Page_Len_call ?_
  unfold page_Page_Len page_Page_Len_s0
  refine given_B h ?_
  simp only [un_not, bV_b]
  refine ⟨fun h => by simp at h, fun _ => ?_⟩
  have hlt := n.toNat_lt
  rw [pg_ix (by omega) (by omega), h.ld (j := 1) (i := 1) rfl hn, cvI_i, w64 (by omega) (by omega)]
  exact hR
theorem Kind_B (h : PgB w p b) {n : UInt8} (hn : b[0]? = some n) (hR : R (.int .i64 (n.toNat : Nat)) w) : callG Tryz.prog 49 #[.pointer (some ⟨p, 0, none⟩)] w R := by
  refine page_Page_Kind_call ?_
  unfold page_Page_Kind page_Page_Kind_s0
  refine given_B h ?_
  simp only [un_not, bV_b]
  refine ⟨fun h => by simp at h, fun _ => ?_⟩
  have hlt := n.toNat_lt
  rw [pg_ix (by omega) (by omega), h.ld (j := 0) (i := 0) rfl hn, cvI_i, w64 (by omega) (by omega)]
  exact hR
theorem used_B (h : PgB w p b) {x y : UInt8} (hx : b[2]? = some x) (hy : b[3]? = some y) (hR : R (.int .i64 ((x.toNat + y.toNat * 256 : Nat) : Int)) w.drew) : callG Tryz.prog 77 #[.pointer (some ⟨p, 0, none⟩)] w R := by
  refine page_Page_used_call ?_
  unfold page_Page_used page_Page_used_s0
  have hd : PgB w.drew p b := h
  have h1 := x.toNat_lt
  have h2 := y.toNat_lt
  rw [pg_ix (by omega) (by omega), hd.ld (j := 2) (i := 2) rfl hx, cvI_i, w64 (by omega) (by omega), pg_ix (by omega) (by omega), hd.ld (j := 3) (i := 3) rfl hy, cvI_i, w64 (by omega) (by omega), shl_of (by omega) (by decide)]
  have e : IntKind.i64.wrap ((y.toNat : Int) * 2 ^ (8 : Int).toNat) = ((y.toNat * 256 : Nat) : Int) := by
    rw [show (8 : Int).toNat = 8 from rfl, w64 (by omega) (by omega)]; simp
  rw [e, or64_of (by omega) (by omega)]
  have e2 : (x.toNat ||| y.toNat * 256) = x.toNat + y.toNat * 256 := by
    have := or_mul (x := x.toNat) (y := y.toNat) (k := 8) (by omega)
    rw [Nat.or_comm]
    simp only [Nat.reducePow] at this
    omega
  rw [e2]
  exact hR
theorem from_B (h : PgB w p b) {k : Nat} {f : UInt8} (hk : k < 124) (hf : b[8 + 2 * k]? = some f) (hR : R (.int .i64 (f.toNat : Nat)) w) : callG Tryz.prog 79 #[.pointer (some ⟨p, 0, none⟩), .int .i64 (k : Nat)] w R := by
  refine page_Page_from_call ?_
  unfold page_Page_from page_Page_from_s0
  have hlt := f.toNat_lt
  simp only [bq_lss, bV_b, decide_eq_true_eq, decide_eq_false_iff_not]
  refine ⟨fun h => by omega, fun _ => ?_⟩
  have e1 : IntKind.i64.wrap (2 * (k : Int)) = ((2 * k : Nat) : Int) := by rw [w64 (by omega) (by omega)]; simp
  have e2 : IntKind.i64.wrap (8 + ((2 * k : Nat) : Int)) = ((8 + 2 * k : Nat) : Int) := by rw [w64 (by omega) (by omega)]; simp
  simp only [bq_mul, e1, bq_add, e2]
  rw [pg_ix (by omega) (by omega), h.ld (i := 8 + 2 * k) (Int.toNat_natCast _) hf, cvI_i, w64 (by omega) (by omega)]
  exact hR
theorem from_end (hR : R (.int .i64 256) w) : callG Tryz.prog 79 #[.pointer (some ⟨p, 0, none⟩), .int .i64 (-1)] w R := by
  refine page_Page_from_call ?_
  unfold page_Page_from page_Page_from_s0
  simp only [bq_lss, bV_b]
  exact ⟨fun _ => hR, fun h => by simp at h⟩
theorem keyed_B (h : PgB w p b) {k : Nat} {f : UInt8} (hk : k < 123) (hf : b[8 + 2 * k + 1]? = some f) (hR : R (.int .i64 (f.toNat : Nat)) w) : callG Tryz.prog 80 #[.pointer (some ⟨p, 0, none⟩), .int .i64 (k : Nat)] w R := by
  refine page_Page_keyed_call ?_
  unfold page_Page_keyed page_Page_keyed_s0
  have hlt := f.toNat_lt
  have e1 : IntKind.i64.wrap (2 * (k : Int)) = ((2 * k : Nat) : Int) := by rw [w64 (by omega) (by omega)]; simp
  have e2 : IntKind.i64.wrap (8 + ((2 * k : Nat) : Int)) = ((8 + 2 * k : Nat) : Int) := by rw [w64 (by omega) (by omega)]; simp
  have e3 : IntKind.i64.wrap (((8 + 2 * k : Nat) : Int) + 1) = ((8 + 2 * k + 1 : Nat) : Int) := by rw [w64 (by omega) (by omega)]; simp
  simp only [bq_mul, e1, bq_add, e2, e3]
  rw [pg_ix (by omega) (by omega), h.ld (i := 8 + 2 * k + 1) (Int.toNat_natCast _) hf, cvI_i, w64 (by omega) (by omega)]
  exact hR
/-! ### pages that lie as they should -/
theorem ofN {n : Nat} (h : n < 256) : (UInt8.ofNat n).toNat = n := by simp; omega
theorem PgAt.b1 (h : PgAt w p kd l) : (lay kd l)[1]? = some (UInt8.ofNat l.length) := rfl
theorem pLen_spec (h : PgAt w p kd l) (hR : R (.int .i64 (l.length : Nat)) w) : callG Tryz.prog 50 #[.pointer (some ⟨p, 0, none⟩)] w R := by
  refine Len_B h.1 h.b1 ?_
  have := h.2.lens
  rw [ofN (by omega)]
  exact hR
theorem pKind_spec (h : PgAt w p kd l) (hR : R (.int .i64 (kd.toNat : Nat)) w) : callG Tryz.prog 49 #[.pointer (some ⟨p, 0, none⟩)] w R := Kind_B h.1 rfl hR
theorem pused_spec (h : PgAt w p kd l) (hR : R (.int .i64 (tot l : Nat)) w.drew) : callG Tryz.prog 77 #[.pointer (some ⟨p, 0, none⟩)] w R := by
  refine used_B h.1 (x := UInt8.ofNat (tot l % 256)) (y := UInt8.ofNat (tot l / 256)) rfl rfl ?_
  have := h.2.len
  rw [ofN (by omega), ofN (by omega)]
  have : tot l % 256 + tot l / 256 * 256 = tot l := by omega
  rw [this]
  exact hR
theorem proom_spec (h : PgAt w p kd l) (hR : R (.int .i64 ((248 - 2 * l.length - tot l : Nat) : Int)) w.drew) : callG Tryz.prog 78 #[.pointer (some ⟨p, 0, none⟩)] w R := by
  refine page_Page_room_call ?_
  unfold page_Page_room page_Page_room_s0
  have h1 := h.2.lens
  have h2 := h.2.room
  refine pLen_spec h ?_
  have e1 : IntKind.i64.wrap (2 * (l.length : Int)) = ((2 * l.length : Nat) : Int) := by rw [w64 (by omega) (by omega)]; simp
  have e2 : IntKind.i64.wrap (248 - ((2 * l.length : Nat) : Int)) = ((248 - 2 * l.length : Nat) : Int) := by rw [w64 (by omega) (by omega)]; omega
  simp only [bq_mul, e1, bq_sub, e2]
  refine pused_spec h ?_
  have e3 : IntKind.i64.wrap (((248 - 2 * l.length : Nat) : Int) - (tot l : Int)) = ((248 - 2 * l.length - tot l : Nat) : Int) := by rw [w64 (by omega) (by omega)]; omega
  simp only [bq_sub, e3]
  exact hR
theorem pfrom_spec (h : PgAt w p kd l) {k : Nat} (hk : k < l.length) (hR : R (.int .i64 (fromN l k : Nat)) w) : callG Tryz.prog 79 #[.pointer (some ⟨p, 0, none⟩), .int .i64 (k : Nat)] w R := by
  have h1 := h.2.lens
  refine from_B h.1 (by omega) (lay_slot h.2 hk).1 ?_
  rw [ofN (fromN_lt h.2 hk).1]
  exact hR
/-- of the place ahead -/
theorem pfrom_ahead (h : PgAt w p kd l) {k : Nat} (hk : k ≤ l.length) {j : Int} (hj : j = (k : Int) - 1) (hR : R (.int .i64 ((if k = 0 then 256 else fromN l (k - 1) : Nat) : Int)) w) : callG Tryz.prog 79 #[.pointer (some ⟨p, 0, none⟩), .int .i64 j] w R := by
  subst hj
  by_cases h0 : k = 0
  · subst h0
    rw [if_pos rfl] at hR
    exact from_end hR
  · rw [if_neg h0] at hR
    have : ((k : Int) - 1) = ((k - 1 : Nat) : Int) := by omega
    rw [this]
    exact pfrom_spec h (by omega) hR
theorem pkeyed_spec (h : PgAt w p kd l) {k : Nat} (hk : k < l.length) (hR : R (.int .i64 (l[k].1.length : Nat)) w) : callG Tryz.prog 80 #[.pointer (some ⟨p, 0, none⟩), .int .i64 (k : Nat)] w R := by
  have h1 := h.2.lens
  have hkey := h.2.key _ (List.getElem_mem hk)
  refine keyed_B h.1 (by omega) (lay_slot h.2 hk).2 ?_
  rw [ofN (by omega)]
  exact hR
/-- a text of bytes of the page -/
theorem PgB.text (h : PgB w p b) {lo hi : Nat} (h1 : lo ≤ hi) (h2 : hi ≤ 256) {K : Value → Prop} : (nk (.pointer (some ⟨p, 0, none⟩)) fun t => fa 0 t fun t => slA 256 1 t (some (.int .i64 (lo : Nat))) (some (.int .i64 (hi : Nat))) fun t => cvBS t w K) = K (.string (str ((b.drop lo).take (hi - lo)))) := by
  rw [nk_p, fa_p, slA_p]
  have e1 : ((0 : Int) ≤ (hi : Int) ∧ (hi : Int) ≤ ((256 : Nat) : Int)) = True := by simp; omega
  have e2 : ((0 : Int) ≤ (lo : Int) ∧ (lo : Int) ≤ (hi : Int)) = True := by simp; omega
  simp only [bnd, e1, e2, true_and, Int.toNat_natCast]
  refine ar_text h.1 (lo := lo) (n := hi - lo) (by have := h.2; omega) ?_
  by_cases e : 256 = lo
  · right
    rw [if_pos e]
    exact ⟨by omega, by simp⟩
  · left
    rw [if_neg e]
    simp
theorem pAt_spec (h : PgAt w p kd l) {k : Nat} (hk : k < l.length) (hR : R (.tuple #[.string (str l[k].1), .string (str l[k].2)]) w.drew) : callG Tryz.prog 51 #[.pointer (some ⟨p, 0, none⟩), .int .i64 (k : Nat)] w R := by
  refine page_Page_At_call ?_
  unfold page_Page_At page_Page_At_s1
  have h1 := h.2.lens
  have hf := fromN_lt h.2 hk
  have hc : clen l[k] = l[k].1.length + l[k].2.length := rfl
  simp only [bq_lss, bV_b, decide_eq_true_eq, decide_eq_false_iff_not]
  refine ⟨fun h => by omega, fun _ => ?_⟩
  refine pLen_spec h ?_
  simp only [bq_geq, bV_b, decide_eq_true_eq, decide_eq_false_iff_not]
  refine ⟨fun h => by omega, fun _ => ?_⟩
  unfold page_Page_At_s0
  refine pfrom_spec h hk ?_
  have e1 : IntKind.i64.wrap ((k : Int) - 1) = (k : Int) - 1 := w64 (by omega) (by omega)
  simp only [bq_sub, e1]
  refine pfrom_ahead h (k := k) (by omega) rfl ?_
  rw [← hf.2.1]
  refine pkeyed_spec h hk ?_
  have e2 : IntKind.i64.wrap ((fromN l k : Int) + (l[k].1.length : Int)) = ((fromN l k + l[k].1.length : Nat) : Int) := by
    have : fromN l k + clen l[k] ≤ 256 := by
      rw [hf.2.1]; split
      · omega
      · exact Nat.le_of_lt (fromN_lt h.2 (by omega)).1
    rw [w64 (by omega) (by omega)]; simp
  have hle : fromN l k + clen l[k] ≤ 256 := by
    rw [hf.2.1]; split
    · omega
    · exact Nat.le_of_lt (fromN_lt h.2 (by omega)).1
  simp only [bq_add, e2]
  have hd : PgB w.drew p (lay kd l) := h.1
  rw [hd.text (by omega) (by omega), hd.text (by omega) (by omega)]
  have hcell := lay_cell (kd := kd) h.2 hk
  have e3 : fromN l k + l[k].1.length - fromN l k = l[k].1.length := by omega
  have e4 : fromN l k + clen l[k] - (fromN l k + l[k].1.length) = l[k].2.length := by omega
  rw [e3, e4, hcell.1, hcell.2]
  exact hR
end
end Go.Proofs

/- Layer 12: one more cell; the bytes of a page, and the page of bytes. -/
set_option maxRecDepth 100000
set_option linter.unusedVariables false
set_option linter.unusedSimpArgs false
namespace Go.Proofs
open Go Go.Q
def bytesP (b : List UInt8) : List UInt8 := spl b 4 (put4 (crcMore 0 b))
section
variable {w : World} {p : Nat} {kd : UInt8} {l A B : List KV} {b : List UInt8} {R : Value → World → Prop}
theorem bytesP_len (h : b.length = 256) : (bytesP b).length = 256 := by
  unfold bytesP
  rw [spl_len (by rw [h]; simp [put4]), h]
theorem slA_at {x N lo hi : Nat} (h1 : lo ≤ hi) (h2 : hi ≤ N) {K : Value → Prop} : slA N 1 (.pointer (some ⟨x, 0, none⟩)) (some (.int .i64 (lo : Nat))) (some (.int .i64 (hi : Nat))) K = K (.slice (some ⟨x, (if N = lo then 0 else 0 + lo * 1), none⟩) (hi - lo) (N - lo)) := by
  rw [slA_p]
  have e1 : ((0 : Int) ≤ (hi : Int) ∧ (hi : Int) ≤ (N : Int)) = True := by simp; omega
  have e2 : ((0 : Int) ≤ (lo : Int) ∧ (lo : Int) ≤ (hi : Int)) = True := by simp; omega
  simp only [bnd, e1, e2, true_and, Int.toNat_natCast]
theorem slA_from {x N lo : Nat} (h1 : lo ≤ N) {K : Value → Prop} : slA N 1 (.pointer (some ⟨x, 0, none⟩)) (some (.int .i64 (lo : Nat))) none K = K (.slice (some ⟨x, (if N = lo then 0 else 0 + lo * 1), none⟩) (N - lo) (N - lo)) := by
  rw [slA_p]
  have e2 : ((0 : Int) ≤ (lo : Int) ∧ (lo : Int) ≤ (N : Int)) = True := by simp; omega
  simp only [bnd, e2, true_and, Int.toNat_natCast]
theorem slA_whole {x o N : Nat} (h0 : 0 < N) {K : Value → Prop} : slA N 1 (.pointer (some ⟨x, o, none⟩)) none none K = K (.slice (some ⟨x, o, none⟩) N N) := by
  rw [slA_p]
  have e : (if N = 0 then o else o + 0 * 1) = o := by split <;> omega
  simp only [bnd, e, Nat.sub_zero]
theorem ofs_ok {N lo : Nat} : (if N = lo then 0 else 0 + lo * 1) = ([] : List Value).length + lo ∨ N = lo ∧ (if N = lo then 0 else 0 + lo * 1) ≤ ([] : List Value).length := by
  by_cases e : N = lo
  · right; rw [if_pos e]; exact ⟨e, by simp⟩
  · left; rw [if_neg e]; simp
theorem zc256 : zc Tryz.prog 128 = (u8c (List.replicate 256 0)).toArray := by kernel_rfl
theorem Bytes_spec (h : PgB w p b) (hR : ∀ w', Kp [] w w' → R (.string (str (bytesP b))) w') : callG Tryz.prog 61 #[.pointer (some ⟨p, 0, none⟩)] w R := by
  refine page_Page_Bytes_call ?_
  unfold page_Page_Bytes page_Page_Bytes_s0
  refine given_B h ?_
  simp only [un_not, bV_b]
  refine ⟨fun h => by simp at h, fun _ => ?_⟩
  rw [pg_pt, ar_ldn (o := 0) h.1 h.2.symm rfl]
  refine newB fun x w1 hx h1 k1 => ?_
  rw [stA (k := 256) h1 (by rw [zc256]; simp) (by simp [h.2]) (one_u8c b)]
  obtain ⟨w2, hw2⟩ : ∃ w2, w2 = setBlk w1 x (.cells (u8c b).toArray 128) := ⟨_, rfl⟩
  have k2 : Kp [] w w2 := by rw [hw2]; exact k1.setBlk (.inr hx) _
  have g2 : w2.heap[x]? = some (.cells (arC [] b []) 128) := by rw [hw2, heap_self (live_of h1)]; simp [arC]
  rw [← hw2]
  have e48 : ∀ K : Value → Prop, slA 256 1 (.pointer (some ⟨x, 0, none⟩)) (some (.int .i64 4)) (some (.int .i64 8)) K = K (.slice (some ⟨x, 4, none⟩) 4 252) := fun K => slA_at (lo := 4) (hi := 8) (by omega) (by omega)
  rw [e48, slA_whole (by omega)]
  have ht : ∀ w', w'.heap[x]? = some (.cells (arC [] b []) 128) → ∀ K : Value → Prop, cvBS (.slice (some ⟨x, 0, none⟩) 256 256) w' K = K (.string (str b)) := fun w' hw' K => by
    rw [ar_text (o := 0) hw' (lo := 0) (n := 256) (by rw [h.2]; decide) (.inl rfl)]
    simp [← h.2]
  rw [ht w2.drew g2]
  refine Sum_spec b (by rw [h.2]; decide) ?_
  refine Put_spec _ fun w3 k3 => ?_
  have g3 := k3.get (show w2.drew.heap[x]? = _ from g2) (by simp)
  rw [ar_cp_str (o := 4) (n := 4) g3 (lo := 4) (put4 (crcMore 0 b)) (by rw [h.2]; simp [put4]) (.inl rfl)]
  have hm : min (put4 (crcMore 0 b)).length 4 = 4 := by simp [put4]
  rw [hm, slA_whole (by omega)]
  have e4 : (put4 (crcMore 0 b)).take 4 = put4 (crcMore 0 b) := rfl
  rw [e4]
  have k4 : Kp [] w (setBlk w3 x (.cells (arC [] (spl b 4 (put4 (crcMore 0 b))) []) 128)) := ((k2.drew).trans' k3).setBlk (.inr hx) _
  have hl := bytesP_len h.2
  rw [ar_text (o := 0) (heap_self (live_of g3)) (lo := 0) (n := 256) (by unfold bytesP at hl; rw [hl]; decide) (.inl rfl)]
  have e5 : ((spl b 4 (put4 (crcMore 0 b))).drop 0).take 256 = bytesP b := by
    rw [List.drop_zero, List.take_of_length_le (by unfold bytesP at hl; omega)]; rfl
  rw [e5]
  exact hR _ k4
theorem cell_spec (a v : List UInt8) (hR : R (.bool (decide (1 ≤ a.length ∧ a.length ≤ 80 ∧ a.length + v.length ≤ 100))) w) : callG Tryz.prog 81 #[.string (str a), .string (str v)] w R := by
  refine page_cell_call ?_
  unfold page_cell page_cell_s0
  simp only [lenS_s, str_size, bq_geq, bV_b, decide_eq_true_eq, decide_eq_false_iff_not, bq_leq]
  refine ⟨fun h => ⟨fun h2 => ?_, fun h2 => ?_⟩, fun h => ?_⟩
  · have e : IntKind.i64.wrap (100 - (a.length : Int)) = 100 - (a.length : Int) := w64 (by omega) (by omega)
    simp only [bq_sub, e, bq_leq]
    have : decide (1 ≤ a.length ∧ a.length ≤ 80 ∧ a.length + v.length ≤ 100) = decide ((v.length : Int) ≤ 100 - (a.length : Int)) := by
      apply decide_eq_decide.2
      constructor
      · intro h; omega
      · intro h; exact ⟨by omega, by omega, by omega⟩
    rw [this] at hR
    exact hR
  · rw [decide_eq_false (by omega)] at hR; exact hR
  · rw [decide_eq_false (by omega)] at hR; exact hR
theorem lexL_ne {a b : List UInt8} (h : lexL a b = true) : a ≠ b := by rintro rfl; rw [lexL_irrefl] at h; cases h
theorem Find_new (h : PgAt w p kd (A ++ B)) {a : List UInt8} (hA : ∀ x ∈ A, lexL x.1 a = true) (hB : ∀ x ∈ B, lexL a x.1 = true) (hR : ∀ w', Kp [] w w' → R (.tuple #[.int .i64 (A.length : Nat), .bool false]) w') : callG Tryz.prog 85 #[.pointer (some ⟨p, 0, none⟩), .string (str a)] w R := by
  refine page_Page_Find_call ?_
  unfold page_Page_Find page_Page_Find_s3
  have hl := h.2.lens
  refine pLen_spec h ?_
  unfold page_Page_Find_L2
  have hla : A.length ≤ (A ++ B).length := by simp
  refine loop_inv (fun m xs wi => ∃ lo hi, lo ≤ A.length ∧ A.length ≤ hi ∧ hi ≤ (A ++ B).length ∧ m = hi - lo ∧ xs = [.pointer (some ⟨p, 0, none⟩), .string (str a), .int .i64 (lo : Nat), .int .i64 (hi : Nat)] ∧ Kp [] w wi) ?_ (m := (A ++ B).length) ⟨0, (A ++ B).length, by omega, hla, by omega, by omega, rfl, Kp.refl _ _⟩
  rintro m N xs wi ⟨lo, hi, h1, h2, h3, rfl, rfl, hk⟩ hN
  unfold page_Page_Find_L2F page_Page_Find_b1
  dsimp only
  simp only [bq_lss, bV_b, decide_eq_true_eq, decide_eq_false_iff_not]
  refine ⟨fun hlt => ?_, fun hge => ?_⟩
  · have e1 : IntKind.i64.wrap ((lo : Int) + (hi : Int)) = ((lo + hi : Nat) : Int) := by rw [w64 (by omega) (by omega)]; simp
    have e2 : (((lo + hi : Nat) : Int) / 2) = (((lo + hi) / 2 : Nat) : Int) := by simp
    simp only [bq_add, e1]
    rw [quo_of (by omega) (by omega), e2, wrap_nat64 (by omega)]
    obtain ⟨mid, hmid⟩ : ∃ mid, mid = (lo + hi) / 2 := ⟨_, rfl⟩
    rw [← hmid]
    have hm : mid < (A ++ B).length := by omega
    refine pAt_spec (h.keep hk (by simp)) hm ?_
    rw [ex0, ex1]
    have hkd := hk.drew
    have e3 : IntKind.i64.wrap ((mid : Int) + 1) = ((mid + 1 : Nat) : Int) := by rw [w64 (by omega) (by omega)]; simp
    by_cases hmA : mid < A.length
    · have hg : (A ++ B)[mid] = A[mid] := List.getElem_append_left hmA
      have hlt2 := hA _ (List.getElem_mem hmA)
      rw [hg]
      have hne := lexL_ne hlt2
      have he : ¬ str A[mid].1 = str a := by rw [str_eq]; exact hne
      rw [bq_seql, bq_slss, sLt_lexS, hlt2, decide_eq_false he]
      simp only [bV_b, bq_add, e3]
      exact ⟨fun h => by simp at h, fun _ => ⟨fun _ => hN (hi - (mid + 1)) _ _ (by omega) ⟨mid + 1, hi, by omega, h2, h3, rfl, rfl, hkd⟩, fun h => by simp at h⟩⟩
    · have hg : (A ++ B)[mid] = B[mid - A.length]'(by simp at hm; omega) := List.getElem_append_right (by omega)
      have hlt2 := hB _ (List.getElem_mem (show mid - A.length < B.length by simp at hm; omega))
      rw [hg]
      have hne := lexL_ne hlt2
      have he : ¬ str (B[mid - A.length]'(by simp at hm; omega)).1 = str a := by rw [str_eq]; exact fun hh => hne hh.symm
      have hasym : lexL (B[mid - A.length]'(by simp at hm; omega)).1 a = false := by
        cases hc : lexL (B[mid - A.length]'(by simp at hm; omega)).1 a
        · rfl
        · have := lexL_trans hlt2 hc
          rw [lexL_irrefl] at this; cases this
      rw [bq_seql, bq_slss, sLt_lexS, hasym, decide_eq_false he]
      simp only [bV_b]
      exact ⟨fun h => by simp at h, fun _ => ⟨fun h => by simp at h, fun _ => hN (mid - lo) _ _ (by omega) ⟨lo, mid, h1, by omega, by omega, rfl, rfl, hkd⟩⟩⟩
  · unfold page_Page_Find_s0
    have : lo = A.length := by omega
    subst this
    exact hR wi hk
end
end Go.Proofs

/- Layer 12: one more cell. -/
set_option maxRecDepth 100000
set_option linter.unusedVariables false
set_option linter.unusedSimpArgs false
namespace Go.Proofs
open Go Go.Q
section
variable {w : World} {p : Nat} {kd : UInt8} {l A B : List KV} {b : List UInt8} {R : Value → World → Prop}
theorem PgB.put (h : PgB w p b) {b' : List UInt8} (hl : b'.length = 256) : PgB (setBlk w p (.cells (arC [] b' [.bool true]) 130)) p b' ∧ Kp [p] w (setBlk w p (.cells (arC [] b' [.bool true]) 130)) :=
  ⟨⟨heap_self (live_of h.1), hl⟩, (Kp.refl _ w).setBlk (.inl (by simp)) _⟩
theorem ofN_mod (n : Nat) : UInt8.ofNat (n % 256) = UInt8.ofNat n := by
  apply UInt8.toNat_inj.1
  simp
theorem sets_B {r : List UInt8} {n u n' u' : Nat} (h : PgB w p (hdr kd n u ++ r)) (hn : n' < 256) (hu : u' < 65536) (hR : ∀ w', PgB w' p (hdr kd n' u' ++ r) → Kp [p] w w' → R (.tuple #[]) w') : callG Tryz.prog 95 #[.pointer (some ⟨p, 0, none⟩), .int .i64 (n' : Nat), .int .i64 (u' : Nat)] w R := by
  refine page_Page_sets_call ?_
  unfold page_Page_sets page_Page_sets_s0
  have hs : ∀ (w : World) (K : Value → Prop) (xo yo : Operand), qG Tryz.prog (bq .shr 3 xo yo (.int .i64 (u' : Nat)) (.int .u64 8)) w K = K (.int .i64 ((u' / 256 : Nat) : Int)) := fun w K xo yo => by
    rw [shr_of (by omega) (by decide)]
    congr 2
  have hs2 : ∀ (w : World) (u : Value) (xo yo : Operand), stb Tryz.prog (bq .shr 3 xo yo (.int .i64 (u' : Nat)) (.int .u64 8)) u w = (.int .i64 ((u' / 256 : Nat) : Int) = u) := fun w u xo yo => by
    rw [stb_of (run_shr (by omega) (by decide))]
    congr 2
  have hd : PgB w.drew p (hdr kd n u ++ r) := h
  rw [cvI_i, wrap_u8_nat, cvI_i, wrap_u8_nat, hs, cvI_i, wrap_u8_nat, pg_ix (by omega) (by omega), pg_pt, pg_pt]
  refine hd.st (i := 1) rfl (by omega) (UInt8.ofNat n') rfl fun w1 h1 k1 => ?_
  rw [hs2]
  refine ⟨rfl, ?_⟩
  rw [iaA_p]
  refine ⟨by decide, ?_⟩
  refine h1.st (j := 2) (i := 2) rfl (by omega) (UInt8.ofNat u') rfl fun w2 h2 k2 => ?_
  rw [hs2]
  refine ⟨rfl, ?_⟩
  rw [iaA_p]
  refine ⟨by decide, ?_⟩
  refine h2.st (j := 3) (i := 3) rfl (by omega) (UInt8.ofNat (u' / 256)) rfl fun w3 h3 k3 => ?_
  rw [← ofN_mod u', hdr_sets] at h3
  exact hR w3 h3 (((kp_drew.mono (by simp)).trans' k1).trans' (k2.trans' k3))
theorem points_B {k f n : Nat} (h : PgB w p b) (hk : k < 124) (hR : ∀ w', PgB w' p ((b.set (8 + 2 * k) (UInt8.ofNat f)).set (8 + 2 * k + 1) (UInt8.ofNat n)) → Kp [p] w w' → R (.tuple #[]) w') : callG Tryz.prog 88 #[.pointer (some ⟨p, 0, none⟩), .int .i64 (k : Nat), .int .i64 (f : Nat), .int .i64 (n : Nat)] w R := by
  refine page_Page_points_call ?_
  unfold page_Page_points page_Page_points_s0
  have e1 : IntKind.i64.wrap (2 * (k : Int)) = ((2 * k : Nat) : Int) := by rw [w64 (by omega) (by omega)]; simp
  have e2 : IntKind.i64.wrap (8 + ((2 * k : Nat) : Int)) = ((8 + 2 * k : Nat) : Int) := by rw [w64 (by omega) (by omega)]; simp
  have e3 : IntKind.i64.wrap (((8 + 2 * k : Nat) : Int) + 1) = ((8 + 2 * k + 1 : Nat) : Int) := by rw [w64 (by omega) (by omega)]; simp
  have hd : PgB w.drew p b := h
  simp only [bq_mul, e1, bq_add, e2, e3, cvI_i, wrap_u8_nat]
  rw [pg_ix (by omega) (by omega), pg_pt]
  refine hd.st (i := 8 + 2 * k) (Int.toNat_natCast _) (by omega) (UInt8.ofNat f) rfl fun w1 h1 k1 => ?_
  simp only [stb_add, stb_mul, e1, e2, e3]
  refine ⟨trivial, trivial, trivial, ?_⟩
  rw [iaA_p]
  refine ⟨by omega, ?_⟩
  have e4 : 0 + (((8 + 2 * k + 1 : Nat) : Int)).toNat * 1 = (((8 + 2 * k + 1 : Nat) : Int)).toNat := by omega
  rw [e4]
  refine h1.st (i := 8 + 2 * k + 1) (Int.toNat_natCast _) (by omega) (UInt8.ofNat n) rfl fun w2 h2 k2 => ?_
  exact hR w2 h2 ((kp_drew.mono (by simp)).trans' (k1.trans' k2))
theorem last_eq (l : List KV) : (if l.length = 0 then 256 else fromN l (l.length - 1)) = 256 - tot l := by
  by_cases h : l.length = 0
  · rw [if_pos h]
    have : l = [] := List.length_eq_zero_iff.1 h
    subst this; rfl
  · rw [if_neg h]
    unfold fromN
    rw [List.take_of_length_le (by omega)]
theorem end_eq (A B : List KV) : (if A.length = 0 then 256 else fromN (A ++ B) (A.length - 1)) = 256 - tot A := by
  by_cases h : A.length = 0
  · rw [if_pos h]
    have : A = [] := List.length_eq_zero_iff.1 h
    subst this; rfl
  · rw [if_neg h]
    unfold fromN
    rw [show A.length - 1 + 1 = A.length by omega, List.take_left' rfl]
theorem opens_spec {x : KV} (h : PgAt w p kd (A ++ B)) (hf : Fit (A ++ x :: B)) (hR : ∀ w' g0 g1 f, f.length = clen x → PgB w' p (hdr kd (A ++ x :: B).length (tot (A ++ x :: B)) ++ (slots 256 A ++ ([g0, g1] ++ (slots (256 - tot A - clen x) B ++ (List.replicate (248 - 2 * (A ++ x :: B).length - tot (A ++ x :: B)) 0 ++ (cellsP B ++ (f ++ cellsP A))))))) → Kp [p] w w' → R (.tuple #[]) w') :
    callG Tryz.prog 87 #[.pointer (some ⟨p, 0, none⟩), .int .i64 (A.length : Nat), .int .i64 (clen x : Nat)] w R := by
  have hl := h.2.lens
  have hr := hf.room
  have hl2 := hf.lens
  have hkx := hf.key x (by simp)
  have hcx : clen x = x.1.length + x.2.length := rfl
  have htt : tot (A ++ x :: B) = tot (A ++ B) + clen x := by simp only [tot_app, tot_cons]; omega
  have hta : tot (A ++ B) = tot A + tot B := tot_app A B
  have hm : (A ++ x :: B).length = (A ++ B).length + 1 := by simp; omega
  have hmA : (A ++ B).length = A.length + B.length := by simp
  refine page_Page_opens_call ?_
  unfold page_Page_opens page_Page_opens_s2
  refine pLen_spec h ?_
  have e1 : IntKind.i64.wrap (((A ++ B).length : Int) - 1) = ((A ++ B).length : Int) - 1 := w64 (by omega) (by omega)
  simp only [bq_sub, e1]
  refine pfrom_ahead h (k := (A ++ B).length) (by omega) rfl ?_
  rw [last_eq]
  have e2 : IntKind.i64.wrap ((A.length : Int) - 1) = (A.length : Int) - 1 := w64 (by omega) (by omega)
  simp only [bq_sub, e2]
  refine pfrom_ahead h (k := A.length) (by omega) rfl ?_
  rw [end_eq]
  have e3 : IntKind.i64.wrap (((256 - tot (A ++ B) : Nat) : Int) - (clen x : Int)) = ((256 - tot (A ++ B) - clen x : Nat) : Int) := by rw [w64 (by omega) (by omega)]; omega
  rw [pg_pt]
  simp only [bq_sub, e3]
  rw [slA_from (by omega), pg_pt, slA_at (by omega) (by omega)]
  obtain ⟨f, hfl, hsp⟩ := open_cells (kd := kd) h.2 (n := clen x) (by omega)
  have hB : 256 - tot A - (256 - tot (A ++ B)) = tot B := by omega
  have hmin : min (256 - tot A - (256 - tot (A ++ B))) (256 - (256 - tot (A ++ B) - clen x)) = tot B := by omega
  have hbl := h.1.2
  rw [ar_cp_own (show w.drew.heap[p]? = _ from h.1.1) (lo := 256 - tot (A ++ B) - clen x) (lo2 := 256 - tot (A ++ B)) (by rw [hmin, hbl]; omega) (by
    rw [hmin]
    rcases ofs_ok (N := 256) (lo := 256 - tot (A ++ B)) with g | ⟨g1, g2⟩
    · exact .inl g
    · exact .inr ⟨by omega, g2⟩) (by rw [hmin, hbl]; omega) (by
    rcases ofs_ok (N := 256) (lo := 256 - tot (A ++ B) - clen x) with g | ⟨g1, g2⟩
    · exact .inl g
    · omega), hmin, hsp]
  obtain ⟨z1, hz1⟩ : ∃ z1, z1 = 248 - 2 * (A ++ B).length - tot (A ++ B) - clen x := ⟨_, rfl⟩
  rw [← hz1]
  obtain ⟨c, hc⟩ : ∃ c, c = cellsP B ++ (f ++ cellsP A) := ⟨_, rfl⟩
  have hcl : c.length = tot B + (clen x + tot A) := by rw [hc]; simp only [List.length_append, cells_len, hfl]
  rw [← hc]
  have hd : PgB w.drew p (lay kd (A ++ B)) := h.1
  obtain ⟨h1, k1⟩ := hd.put (b' := hdr kd (A ++ B).length (tot (A ++ B)) ++ (slots 256 A ++ (slots (256 - tot A) B ++ (List.replicate z1 0 ++ c)))) (by
    simp only [List.length_append, hdr_len, slots_len, List.length_replicate, hcl] at hz1 ⊢
    omega)
  generalize setBlk w.drew p (.cells (arC [] (hdr kd (A ++ B).length (tot (A ++ B)) ++ (slots 256 A ++ (slots (256 - tot A) B ++ (List.replicate z1 0 ++ c)))) [.bool true]) 130) = w1 at *
  have k01 : Kp [p] w w1 := (kp_drew.mono (by simp)).trans' k1
  -- the slots
  have e4 : IntKind.i64.wrap ((A.length : Int) + 1) = ((A.length + 1 : Nat) : Int) := by rw [w64 (by omega) (by omega)]; simp
  have e5 : IntKind.i64.wrap (2 * ((A.length + 1 : Nat) : Int)) = ((2 * (A.length + 1) : Nat) : Int) := by rw [w64 (by omega) (by omega)]; simp
  have e6 : IntKind.i64.wrap (8 + ((2 * (A.length + 1) : Nat) : Int)) = ((8 + 2 * (A.length + 1) : Nat) : Int) := by rw [w64 (by omega) (by omega)]; simp
  have e7 : IntKind.i64.wrap (2 * (A.length : Int)) = ((2 * A.length : Nat) : Int) := by rw [w64 (by omega) (by omega)]; simp
  have e8 : IntKind.i64.wrap (8 + ((2 * A.length : Nat) : Int)) = ((8 + 2 * A.length : Nat) : Int) := by rw [w64 (by omega) (by omega)]; simp
  rw [pg_pt]
  simp only [bq_add, e4, bq_mul, e5, e6]
  rw [slA_from (by omega), pg_pt]
  simp only [bq_mul, e7, bq_add, e8]
  have h1d : PgB w1.drew p (hdr kd (A ++ B).length (tot (A ++ B)) ++ (slots 256 A ++ (slots (256 - tot A) B ++ (List.replicate z1 0 ++ c)))) := h1
  refine Len_B h1d (n := UInt8.ofNat (A ++ B).length) rfl ?_
  rw [ofN (by omega)]
  simp only [stb_add, stb_mul, e4, e5, e6, e7, e8]
  refine ⟨trivial, trivial, trivial, trivial, trivial, ?_⟩
  have e9 : IntKind.i64.wrap (2 * ((A ++ B).length : Int)) = ((2 * (A ++ B).length : Nat) : Int) := by rw [w64 (by omega) (by omega)]; simp
  have e10 : IntKind.i64.wrap (8 + ((2 * (A ++ B).length : Nat) : Int)) = ((8 + 2 * (A ++ B).length : Nat) : Int) := by rw [w64 (by omega) (by omega)]; simp
  simp only [bq_mul, e9, bq_add, e10]
  rw [slA_at (by omega) (by omega)]
  obtain ⟨g0, g1, hsp2⟩ := open_slots (kd := kd) (m := (A ++ B).length) (u := tot (A ++ B)) (z := z1) (s0 := slots 256 A) (s1 := slots (256 - tot A) B) (c := c) (by omega) (by rw [slots_len, slots_len]; omega)
  rw [slots_len, slots_len] at hsp2
  have hmin2 : min (8 + 2 * (A ++ B).length - (8 + 2 * A.length)) (256 - (8 + 2 * (A.length + 1))) = 2 * B.length := by omega
  have hbl1 := h1.2
  have e11 : 8 + 2 * (A.length + 1) = 8 + 2 * A.length + 2 := by omega
  rw [ar_cp_own h1d.1 (lo := 8 + 2 * A.length + 2) (lo2 := 8 + 2 * A.length) (by rw [hmin2, hbl1]; omega) (by
    rw [hmin2]
    rcases ofs_ok (N := 256) (lo := 8 + 2 * A.length) with g | ⟨g1, g2⟩
    · exact .inl g
    · omega) (by rw [hmin2, hbl1]; omega) (by
    rw [hmin2, ← e11]
    rcases ofs_ok (N := 256) (lo := 8 + 2 * (A.length + 1)) with g | ⟨g1, g2⟩
    · exact .inl g
    · omega), hmin2, hsp2]
  obtain ⟨h2, k2⟩ := h1d.put (b' := hdr kd (A ++ B).length (tot (A ++ B)) ++ (slots 256 A ++ ([g0, g1] ++ (slots (256 - tot A) B ++ (List.replicate (z1 - 2) 0 ++ c))))) (by
    simp only [List.length_append, hdr_len, slots_len, List.length_replicate, hcl, List.length_cons, List.length_nil] at hz1 ⊢
    omega)
  generalize setBlk w1.drew p (.cells (arC [] (hdr kd (A ++ B).length (tot (A ++ B)) ++ (slots 256 A ++ ([g0, g1] ++ (slots (256 - tot A) B ++ (List.replicate (z1 - 2) 0 ++ c))))) [.bool true]) 130) = w2 at *
  have k02 : Kp [p] w w2 := (k01.trans' (kp_drew.mono (by simp))).trans' k2
  refine Len_B h2 (n := UInt8.ofNat (A ++ B).length) rfl ?_
  rw [ofN (by omega)]
  have e12 : IntKind.i64.wrap (((A ++ B).length : Int) + 1) = ((A ++ x :: B).length : Int) := by rw [hm, w64 (by omega) (by omega)]; simp
  simp only [bq_add, e12]
  refine used_B h2 (x := UInt8.ofNat (tot (A ++ B) % 256)) (y := UInt8.ofNat (tot (A ++ B) / 256)) rfl rfl ?_
  rw [ofN (by omega), ofN (by omega), show tot (A ++ B) % 256 + tot (A ++ B) / 256 * 256 = tot (A ++ B) by omega]
  have e13 : IntKind.i64.wrap ((tot (A ++ B) : Int) + (clen x : Int)) = (tot (A ++ x :: B) : Int) := by rw [htt, w64 (by omega) (by omega)]; simp
  simp only [bq_add, e13]
  have h2d : PgB w2.drew p (hdr kd (A ++ B).length (tot (A ++ B)) ++ (slots 256 A ++ ([g0, g1] ++ (slots (256 - tot A) B ++ (List.replicate (z1 - 2) 0 ++ c))))) := h2
  refine sets_B h2d (n' := (A ++ x :: B).length) (u' := tot (A ++ x :: B)) (by omega) (by omega) fun w3 h3 k3 => ?_
  have k03 : Kp [p] w w3 := (k02.trans' (kp_drew.mono (by simp))).trans' k3
  have hz2 : z1 - 2 = 248 - 2 * (A ++ x :: B).length - tot (A ++ x :: B) := by omega
  rw [hz2] at h3
  -- where the cells behind begin
  obtain ⟨P, hP⟩ : ∃ P, P = hdr kd (A ++ x :: B).length (tot (A ++ x :: B)) ++ (slots 256 A ++ [g0, g1]) := ⟨_, rfl⟩
  have hPl : P.length = 8 + 2 * A.length + 2 := by rw [hP]; simp only [List.length_append, hdr_len, slots_len]; rfl
  obtain ⟨Q, hQ⟩ : ∃ Q, Q = List.replicate (248 - 2 * (A ++ x :: B).length - tot (A ++ x :: B)) 0 ++ c := ⟨_, rfl⟩
  have hform : ∀ s : List UInt8, hdr kd (A ++ x :: B).length (tot (A ++ x :: B)) ++ (slots 256 A ++ ([g0, g1] ++ (s ++ (List.replicate (248 - 2 * (A ++ x :: B).length - tot (A ++ x :: B)) 0 ++ c)))) = P ++ (s ++ Q) := fun s => by rw [hP, hQ]; simp only [List.append_assoc]
  rw [hform, ← turn_zero (256 - tot A) (clen x) B] at h3
  unfold page_Page_opens_L1
  refine loop_inv (fun m xs wi => ∃ j, j ≤ B.length ∧ m = B.length - j ∧ xs = [.pointer (some ⟨p, 0, none⟩), .int .i64 (clen x : Nat), .int .i64 ((A.length + 1 + j : Nat) : Int)] ∧ PgB wi p (P ++ (turn (256 - tot A) (clen x) B j ++ Q)) ∧ Kp [p] w wi) ?_ (m := B.length) ⟨0, by omega, rfl, rfl, h3, k03⟩
  rintro m N xs wi ⟨j, hj, rfl, rfl, hpg, hki⟩ hN
  have hb1 : (P ++ (turn (256 - tot A) (clen x) B j ++ Q))[1]? = some (UInt8.ofNat (A ++ x :: B).length) := by rw [hP]; rfl
  unfold page_Page_opens_L1F page_Page_opens_b0
  dsimp only
  refine Len_B hpg hb1 ?_
  rw [ofN (by omega)]
  simp only [bq_lss, bV_b, decide_eq_true_eq, decide_eq_false_iff_not]
  refine ⟨fun hlt => ?_, fun hge => ?_⟩
  · have hlt : j < B.length := by omega
    have f1 : IntKind.i64.wrap (2 * ((A.length + 1 + j : Nat) : Int)) = ((2 * (A.length + 1 + j) : Nat) : Int) := by rw [w64 (by omega) (by omega)]; simp
    have f2 : IntKind.i64.wrap (8 + ((2 * (A.length + 1 + j) : Nat) : Int)) = ((8 + 2 * (A.length + 1 + j) : Nat) : Int) := by rw [w64 (by omega) (by omega)]; simp
    have f3 : IntKind.i64.wrap (((A.length + 1 + j : Nat) : Int) + 1) = ((A.length + 1 + (j + 1) : Nat) : Int) := by rw [w64 (by omega) (by omega)]; simp; omega
    obtain ⟨fv, hfv, hset⟩ := turn_step (e := 256 - tot A) (n := clen x) (B := B) hlt (by omega) (P := P) (R := Q) (i := 8 + 2 * (A.length + 1 + j)) (by rw [hPl]; omega)
    have hpd : PgB wi.drew p (P ++ (turn (256 - tot A) (clen x) B j ++ Q)) := hpg
    simp only [bq_mul, f1, bq_add, f2]
    rw [pg_ix (by omega) (by omega), hpd.ld (i := 8 + 2 * (A.length + 1 + j)) (Int.toNat_natCast _) hfv, cvI_i, wrap_u8_nat, bq_u8sub, pg_ix (by omega) (by omega)]
    refine hpd.st (i := 8 + 2 * (A.length + 1 + j)) (Int.toNat_natCast _) (by omega) (fv - UInt8.ofNat (clen x)) rfl fun w5 h5 k5 => ?_
    rw [hset] at h5
    simp only [bq_add, f3]
    exact hN (B.length - (j + 1)) _ _ (by omega) ⟨j + 1, by omega, rfl, rfl, h5, (hki.trans' (kp_drew.mono (by simp))).trans' k5⟩
  · have hje : j = B.length := by omega
    subst hje
    rw [turn_all, ← hform, hc] at hpg
    exact hR wi g0 g1 f hfl hpg hki
end
end Go.Proofs

/- Layer 12: Put of a new key; a new page; the page of bytes. -/
set_option maxRecDepth 100000
set_option linter.unusedVariables false
set_option linter.unusedSimpArgs false
namespace Go.Proofs
open Go Go.Q
section
variable {w : World} {p : Nat} {kd : UInt8} {l A B : List KV} {b : List UInt8} {R : Value → World → Prop}
theorem slots_last {A : List KV} (h : Fit A) (h0 : A ≠ []) {hd r : List UInt8} (h8 : hd.length = 8) : (hd ++ (slots 256 A ++ r))[8 + 2 * (A.length - 1)]? = some (UInt8.ofNat (256 - tot A)) := by
  have hpos : 0 < A.length := List.length_pos_iff.2 h0
  have h1 := (lay_slot (kd := 0) h (k := A.length - 1) (by omega)).1
  have hf : fromN A (A.length - 1) = 256 - tot A := by
    unfold fromN
    rw [List.take_of_length_le (by omega)]
  rw [hf] at h1
  have e : ∀ (hd r : List UInt8), hd.length = 8 → (hd ++ (slots 256 A ++ r))[8 + 2 * (A.length - 1)]? = (slots 256 A)[2 * (A.length - 1)]? := fun hd r h8 => by
    rw [List.getElem?_append_right (by omega), h8, Nat.add_sub_cancel_left, List.getElem?_append_left (by rw [slots_len]; omega)]
  unfold lay at h1
  rw [e _ _ (hdr_len _ _ _)] at h1
  rw [e _ _ h8, h1]
theorem pPut_spec {x : KV} (h : PgAt w p kd (A ++ B)) (hf : Fit (A ++ x :: B)) (hA : ∀ y ∈ A, lexL y.1 x.1 = true) (hB : ∀ y ∈ B, lexL x.1 y.1 = true) (hR : ∀ w', PgAt w' p kd (A ++ x :: B) → Kp [p] w w' → R (.int .i64 0) w') :
    callG Tryz.prog 59 #[.pointer (some ⟨p, 0, none⟩), .string (str x.1), .string (str x.2)] w R := by
  have hl := h.2.lens
  have hr := hf.room
  have hl2 := hf.lens
  have hkx := hf.key x (by simp)
  have hcx : clen x = x.1.length + x.2.length := rfl
  have htt : tot (A ++ x :: B) = tot (A ++ B) + clen x := by simp only [tot_app, tot_cons]; omega
  have hta : tot (A ++ B) = tot A + tot B := tot_app A B
  have hm : (A ++ x :: B).length = (A ++ B).length + 1 := by simp; omega
  have hmA : (A ++ B).length = A.length + B.length := by simp
  refine page_Page_Put_call ?_
  unfold page_Page_Put page_Page_Put_s3
  refine given_B h.1 ?_
  simp only [un_not, bV_b]
  refine ⟨fun h => by simp at h, fun _ => ?_⟩
  refine cell_spec x.1 x.2 ?_
  rw [decide_eq_true ⟨hkx.1, hkx.2.1, by omega⟩]
  simp only [un_not, bV_b]
  refine ⟨fun h => by simp at h, fun _ => ?_⟩
  unfold page_Page_Put_s2
  refine Find_new h hA hB fun w1 k1 => ?_
  rw [ex0, ex1]
  refine proom_spec (h.keep k1 (by simp)) ?_
  simp only [bV_b]
  refine ⟨fun h => by simp at h, fun _ => ?_⟩
  unfold page_Page_Put_s1
  have e1 : IntKind.i64.wrap ((x.1.length : Int) + (x.2.length : Int)) = (clen x : Int) := by rw [hcx, w64 (by omega) (by omega)]; simp
  have e2 : IntKind.i64.wrap (2 + (clen x : Int)) = 2 + (clen x : Int) := w64 (by omega) (by omega)
  simp only [lenS_s, str_size, bq_add, e1, e2, bq_gtr, bV_b, decide_eq_true_eq, decide_eq_false_iff_not]
  refine ⟨fun h => by omega, fun _ => ⟨fun h => by simp at h, fun _ => ?_⟩⟩
  unfold page_Page_Put_s0
  have h1 : PgAt w1.drew p kd (A ++ B) := (h.keep k1 (by simp)).keep (kp_drew : Kp [] w1 w1.drew) (by simp)
  have k01 : Kp [p] w w1.drew := (k1.drew).mono (by simp)
  refine opens_spec h1 hf fun w2 g0 g1 f hfl h2 k2 => ?_
  have e3 : IntKind.i64.wrap ((A.length : Int) - 1) = (A.length : Int) - 1 := w64 (by omega) (by omega)
  simp only [bq_sub, e3]
  have hfrom : ∀ {R : Value → World → Prop}, R (.int .i64 ((256 - tot A : Nat) : Int)) w2 → callG Tryz.prog 79 #[.pointer (some ⟨p, 0, none⟩), .int .i64 ((A.length : Int) - 1)] w2 R := by
    intro R hR
    by_cases h0 : A = []
    · subst h0
      exact from_end hR
    · have hpos : 0 < A.length := List.length_pos_iff.2 h0
      have : ((A.length : Int) - 1) = ((A.length - 1 : Nat) : Int) := by omega
      rw [this]
      have hfA : Fit A := by
        have := h.2.take A.length
        rw [List.take_left' rfl] at this
        exact this
      refine from_B h2 (by omega) (slots_last hfA h0 (hdr_len _ _ _)) ?_
      have : 1 ≤ tot A := by
        match A, h0 with
        | y :: r, _ =>
          have := (hfA.key y (by simp)).1
          rw [tot_cons]; simp only [clen]; omega
      rw [ofN (by omega)]
      exact hR
  refine hfrom ?_
  have e4 : IntKind.i64.wrap (((256 - tot A : Nat) : Int) - (clen x : Int)) = ((256 - tot A - clen x : Nat) : Int) := by rw [w64 (by omega) (by omega)]; omega
  simp only [bq_sub, e4, lenS_s, str_size]
  refine points_B h2 (by omega) fun w3 h3 k3 => ?_
  rw [pg_pt, slA_at (by omega) (by omega), bq_sadd (by simp only [str_size]; omega), str_append]
  have hbl := h3.2
  have hcl : (x.1 ++ x.2).length = clen x := by rw [List.length_append]; rfl
  have hmin : min (x.1 ++ x.2).length (256 - tot A - (256 - tot A - clen x)) = clen x := by rw [hcl]; omega
  have hcpos : 1 ≤ clen x := by omega
  rw [ar_cp_str h3.1 (lo := 256 - tot A - clen x) (x.1 ++ x.2) (by rw [hmin, hbl]; omega) (by
    rw [hmin]
    rcases ofs_ok (N := 256) (lo := 256 - tot A - clen x) with g | ⟨g1, g2⟩
    · exact .inl g
    · omega), hmin, List.take_of_length_le (by omega)]
  rw [open_done (kd := kd) hf (g0 := g0) (g1 := g1) hfl]
  obtain ⟨h4, k4⟩ := h3.put (b' := lay kd (A ++ x :: B)) (lay_len hf)
  exact hR _ ⟨h4, hf⟩ (((k01.trans' k2).trans' k3).trans' k4)
theorem zcPg : zc Tryz.prog 130 = (u8c (List.replicate 256 0) ++ [Value.bool false]).toArray := by kernel_rfl
theorem bld_pg {K : Value → Prop} : bld [(0, 256), (256, 1)] (zc Tryz.prog 130) #[(1, (Value.bool true))] K = K (.agg (arC [] (List.replicate 256 0) [Value.bool true])) := by
  rw [zcPg]
  rfl
theorem pNew_spec (hR : ∀ w' p, w.heap.size ≤ p → PgAt w' p 200 [] → Kp [] w w' → R (.tuple #[.pointer (some ⟨p, 0, none⟩), .int .i64 0]) w') : callG Tryz.prog 58 #[.int .i64 200] w R := by
  refine page_New_call ?_
  unfold page_New page_New_s1
  simp only [bq_lss, bq_gtr, bV_b]
  refine ⟨fun h => by simp at h, fun _ => ⟨fun h => by simp at h, fun _ => ?_⟩⟩
  unfold page_New_s0
  rw [bld_pg]
  refine argB fun p w1 hp h1 k1 => ?_
  have hb : PgB w1 p (List.replicate 256 0) := ⟨h1, by simp⟩
  rw [cvI_i, pg_ix (by omega) (by omega)]
  refine hb.st (j := 0) (i := 0) rfl (by omega) 200 (by rfl) fun w2 h2 k2 => ?_
  have e : (List.replicate 256 (0 : UInt8)).set 0 200 = lay 200 [] := by rfl
  rw [e] at h2
  exact hR w2 p hp ⟨h2, ⟨by simp [tot], by simp⟩⟩ (k1.trans k2 fun x hx hlt => by simp at hx; omega)
end
end Go.Proofs

/- Layer 12: the page of bytes. -/
set_option maxRecDepth 100000
set_option linter.unusedVariables false
set_option linter.unusedSimpArgs false
namespace Go.Proofs
open Go Go.Q
theorem bq_sleq {P : Program} {T : TypeId} {xo yo : Operand} {a b : List UInt8} {w : World} {K : Value → Prop} : qG P (bq .leq T xo yo (.string (str a)) (.string (str b))) w K = K (.bool (decide (lexL a b = true ∨ a = b))) := by
  have h : (bq .leq T xo yo (.string (str a)) (.string (str b))).run P w = .ok (.bool (sLt (str a) (str b) || decide (str a = str b))) w := run_bq_str (s := .pure _) fun w => by simp only [binOp, Op.stringOp, toList_beq]; rfl
  rw [qG_of h, sLt_lexS]
  congr 2
  by_cases e : a = b
  · subst e; simp
  · have : ¬ str a = str b := by rw [str_eq]; exact e
    simp [e, this]
section
variable {w : World} {p : Nat} {kd : UInt8} {l : List KV} {b : List UInt8} {R : Value → World → Prop}
theorem lay_zero (h : Fit l) {i : Nat} (h1 : 8 + 2 * l.length ≤ i) (h2 : i < 256 - tot l) : (lay kd l)[i]? = some 0 := by
  unfold lay
  rw [List.getElem?_append_right (by rw [hdr_len]; omega), hdr_len, List.getElem?_append_right (by rw [slots_len]; omega), slots_len, List.getElem?_append_left (by rw [List.length_replicate]; omega)]
  rw [List.getElem?_replicate, if_pos (by omega)]
theorem lay_clear (v : List UInt8) (hv : v.length = 4) : spl (spl (lay kd l) 4 v) 4 (List.replicate 4 0) = lay kd l := by
  match v, hv with
  | [a, b, c, d], _ => rfl
def SortK (l : List KV) : Prop := l.Pairwise fun x y => lexL x.1 y.1 = true
theorem pRead_good (h0 : kd ≠ 0) (hf : Fit l) (hs : SortK l) (hR : ∀ w' p, w.heap.size ≤ p → PgAt w' p kd l → Kp [] w w' → R (.tuple #[.pointer (some ⟨p, 0, none⟩), .int .i64 0]) w') : callG Tryz.prog 48 #[.string (str (bytesP (lay kd l)))] w R := by
  have hll := lay_len (kd := kd) hf
  have hbl := bytesP_len hll
  have hl := hf.lens
  have hr := hf.room
  refine page_Read_call ?_
  unfold page_Read page_Read_s13
  have hb0 : (bytesP (lay kd l))[0]'(by omega) = kd := rfl
  simp only [lenS_s, str_size, hbl, bq_neq, bV_b, decide_eq_true_eq, decide_eq_false_iff_not]
  refine ⟨fun h => absurd rfl h, fun _ => ?_⟩
  have hix : ∀ K : Value → Prop, ixS (.string (str (bytesP (lay kd l)))) (.int .i64 0) K = K (.int .u8 kd.toNat) := fun K => by
    have := ixS_str (s := bytesP (lay kd l)) (kd := .i64) (i := 0) (by omega) (K := K)
    rw [hb0] at this
    exact this
  rw [hix]
  simp only [bq_eql, bV_b, decide_eq_true_eq, decide_eq_false_iff_not]
  refine ⟨fun h => absurd (UInt8.toNat_inj.1 (by simpa using h)) h0, fun _ => ?_⟩
  unfold page_Read_s12
  rw [bld_pg]
  refine argB fun p w1 hp h1 k1 => ?_
  have hb1 : PgB w1 p (List.replicate 256 0) := ⟨h1, by simp⟩
  rw [pg_pt, slA_whole (by omega), ar_cp_str (o := 0) (n := 256) hb1.1 (lo := 0) (bytesP (lay kd l)) (by rw [hbl]; simp) (.inl rfl)]
  have hm : min (bytesP (lay kd l)).length 256 = 256 := by rw [hbl]; rfl
  have hsp : spl (List.replicate 256 0) 0 ((bytesP (lay kd l)).take 256) = bytesP (lay kd l) := by
    rw [List.take_of_length_le (by omega)]
    unfold spl
    rw [hbl]
    simp
  rw [hm, hsp]
  obtain ⟨h2, k2⟩ := hb1.put (b' := bytesP (lay kd l)) hbl
  generalize setBlk w1 p (.cells (arC [] (bytesP (lay kd l)) [.bool true]) 130) = w2 at *
  have k02 : Kp [] w w2 := k1.trans k2 fun x hx hlt => by simp at hx; omega
  have e48 : ∀ K : Value → Prop, slA 256 1 (.pointer (some ⟨p, 0, none⟩)) (some (.int .i64 4)) (some (.int .i64 8)) K = K (.slice (some ⟨p, 4, none⟩) 4 252) := fun K => slA_at (lo := 4) (hi := 8) (by omega) (by omega)
  rw [pg_pt, e48, ar_clr (o := 4) (n := 4) h2.1 zc5l (lo := 4) (by omega) (by omega) rfl]
  have hcl : spl (bytesP (lay kd l)) 4 (List.replicate 4 0) = lay kd l := lay_clear _ rfl
  rw [hcl]
  obtain ⟨h3, k3⟩ := h2.put (b' := lay kd l) hll
  generalize setBlk w2 p (.cells (arC [] (lay kd l) [.bool true]) 130) = w3 at *
  have k03 : Kp [] w w3 := k02.trans k3 fun x hx hlt => by simp at hx; omega
  refine Bytes_spec h3 fun w4 k4 => ?_
  have k04 := k03.trans' k4
  have h4 : PgAt w4 p kd l := ⟨h3.keep k4 (by simp), hf⟩
  rw [bq_sneq, decide_eq_true rfl]
  simp only [bV_b]
  refine ⟨fun h => by simp at h, fun _ => ?_⟩
  refine pused_spec h4 ?_
  have h4d : PgAt w4.drew p kd l := h4
  simp only [bq_gtr, bV_b, decide_eq_true_eq, decide_eq_false_iff_not]
  refine ⟨fun h => by omega, fun _ => ?_⟩
  refine proom_spec h4d ?_
  have h5 : PgAt w4.drew.drew p kd l := h4
  have k05 : Kp [] w w4.drew.drew := (k04.drew).drew
  simp only [bq_lss, bV_b, decide_eq_true_eq, decide_eq_false_iff_not]
  refine ⟨fun h => by omega, fun _ => ?_⟩
  unfold page_Read_s11
  generalize w4.drew.drew = w5 at *
  refine pLen_spec h5 ?_
  have e1 : IntKind.i64.wrap (2 * (l.length : Int)) = ((2 * l.length : Nat) : Int) := by rw [w64 (by omega) (by omega)]; simp
  have e2 : IntKind.i64.wrap (8 + ((2 * l.length : Nat) : Int)) = ((8 + 2 * l.length : Nat) : Int) := by rw [w64 (by omega) (by omega)]; simp
  have e3 : IntKind.i64.wrap ((l.length : Int) - 1) = (l.length : Int) - 1 := w64 (by omega) (by omega)
  have e4 : IntKind.i64.wrap (256 - (tot l : Int)) = ((256 - tot l : Nat) : Int) := by rw [w64 (by omega) (by omega)]; omega
  simp only [bq_mul, e1, bq_add, e2]
  refine pLen_spec h5 ?_
  simp only [bq_sub, e3]
  refine pfrom_ahead h5 (k := l.length) (by omega) rfl ?_
  rw [last_eq]
  refine pused_spec h5 ?_
  simp only [bq_sub, e4, bq_neq, bV_b, decide_eq_true_eq, decide_eq_false_iff_not]
  refine ⟨fun h => absurd rfl h, fun _ => ?_⟩
  have k06 : Kp [] w w5.drew := k05.drew
  have h6 : PgAt w5.drew p kd l := h5
  generalize w5.drew = w6 at *
  -- the cells, one behind the other
  have fin : ∀ w7, Kp [] w6 w7 → page_Read_s7 R (.pointer (some ⟨p, 0, none⟩)) (.int .i64 ((8 + 2 * l.length : Nat) : Int)) w7 := by
    intro w7 k7
    unfold page_Read_s7 page_Read_s6
    refine pLen_spec (h6.keep k7 (by simp)) ?_
    unfold page_Read_L5
    refine loop_inv (fun m xs wi => ∃ i a, i ≤ l.length ∧ m = l.length - i ∧ xs = [.pointer (some ⟨p, 0, none⟩), .int .i64 ((8 + 2 * l.length : Nat) : Int), .string (str a), .int .i64 (l.length : Nat), .int .i64 (i : Nat)] ∧ Kp [] w6 wi ∧ (∀ h : 0 < i, ∀ h2 : i - 1 < l.length, a = l[i - 1].1)) ?_ (m := l.length) ⟨0, [], by omega, rfl, rfl, k7, fun h => by omega⟩
    rintro m N xs wi ⟨i, a, hi, rfl, rfl, hki, ha⟩ hN
    have hpi := h6.keep hki (by simp)
    unfold page_Read_L5F page_Read_s4
    dsimp only
    simp only [bq_lss, bV_b, decide_eq_true_eq, decide_eq_false_iff_not]
    refine ⟨fun hlt => ?_, fun _ => ?_⟩
    · have hlt : i < l.length := by omega
      have hfr := fromN_lt hf hlt
      have hkey := hf.key _ (List.getElem_mem hlt)
      have hc : clen l[i] = l[i].1.length + l[i].2.length := rfl
      have e5 : IntKind.i64.wrap ((i : Int) - 1) = (i : Int) - 1 := w64 (by omega) (by omega)
      have e6 : IntKind.i64.wrap ((i : Int) + 1) = ((i + 1 : Nat) : Int) := by rw [w64 (by omega) (by omega)]; simp
      unfold page_Read_s3
      refine pfrom_spec hpi hlt ?_
      simp only [bq_sub, e5]
      refine pfrom_ahead hpi (k := i) (by omega) rfl ?_
      rw [← hfr.2.1]
      refine pkeyed_spec hpi hlt ?_
      have e7 : IntKind.i64.wrap (((fromN l i + clen l[i] : Nat) : Int) - (fromN l i : Int)) = (clen l[i] : Int) := by rw [w64 (by omega) (by omega)]; omega
      simp only [bq_geq, bq_lss, bq_sub, e7, bq_gtr, bV_b, decide_eq_true_eq, decide_eq_false_iff_not]
      refine ⟨fun h => by omega, fun _ => ⟨fun h => by omega, fun _ => ⟨fun h => by omega, fun _ => ?_⟩⟩⟩
      unfold page_Read_s2
      refine pAt_spec hpi hlt ?_
      rw [ex0, ex1]
      refine cell_spec _ _ ?_
      rw [decide_eq_true ⟨hkey.1, hkey.2.1, by omega⟩]
      have go : page_Read_s1 R N (.pointer (some ⟨p, 0, none⟩)) (.int .i64 ((8 + 2 * l.length : Nat) : Int)) (.string (str l[i].1)) (.int .i64 (l.length : Nat)) (.int .i64 (i : Nat)) wi.drew := by
        unfold page_Read_s1
        simp only [bq_add, e6]
        exact hN (l.length - (i + 1)) _ _ (by omega) ⟨i + 1, l[i].1, by omega, rfl, rfl, hki.drew, fun _ h2 => by simp⟩
      simp only [un_not, bV_b, bq_gtr, decide_eq_true_eq, decide_eq_false_iff_not]
      refine ⟨fun h => by simp at h, fun _ => ⟨fun hpos => ?_, fun _ => go⟩⟩
      have hpos : 0 < i := by omega
      have hlex : lexL a l[i].1 = true := by
        rw [ha hpos (by omega)]
        exact List.pairwise_iff_getElem.1 hs (i - 1) i (by omega) hlt (by omega)
      have hno : ¬ (lexL l[i].1 a = true ∨ l[i].1 = a) := by
        rintro (h | h)
        · have := lexL_trans hlex h
          rw [lexL_irrefl] at this; cases this
        · rw [h, lexL_irrefl] at hlex; cases hlex
      rw [bq_sleq, decide_eq_false hno]
      simp only [bV_b]
      exact ⟨fun h => by simp at h, fun _ => go⟩
    · unfold page_Read_s0
      exact hR wi p (by have := k1.size; omega) hpi (k06.trans' hki)
  unfold page_Read_s10 page_Read_L9
  refine loop_inv (fun m xs wi => ∃ i, 8 + 2 * l.length ≤ i ∧ i ≤ 256 - tot l ∧ m = 256 - tot l - i ∧ xs = [.pointer (some ⟨p, 0, none⟩), .int .i64 ((8 + 2 * l.length : Nat) : Int), .int .i64 (i : Nat)] ∧ Kp [] w6 wi) ?_ (m := 256 - tot l - (8 + 2 * l.length)) ⟨8 + 2 * l.length, by omega, by omega, rfl, rfl, Kp.refl _ _⟩
  rintro m N xs wi ⟨i, hi1, hi2, rfl, rfl, hki⟩ hN
  have hpi := h6.keep hki (by simp)
  have hpd : PgAt wi.drew p kd l := hpi
  unfold page_Read_L9F page_Read_b8
  dsimp only
  refine pused_spec hpi ?_
  simp only [bq_sub, e4, bq_lss, bV_b, decide_eq_true_eq, decide_eq_false_iff_not]
  refine ⟨fun hlt => ?_, fun _ => fin _ hki.drew⟩
  have e8 : IntKind.i64.wrap ((i : Int) + 1) = ((i + 1 : Nat) : Int) := by rw [w64 (by omega) (by omega)]; simp
  rw [pg_ix (by omega) (by omega), hpd.1.ld (i := i) (Int.toNat_natCast _) (lay_zero hf hi1 (by omega))]
  simp only [bq_neq, bV_b, bq_add, e8]
  exact ⟨fun h => by simp at h, fun _ => hN (256 - tot l - (i + 1)) _ _ (by omega) ⟨i + 1, by omega, by omega, rfl, rfl, hki.drew⟩⟩
end
end Go.Proofs

/- Layer 3, the disk: what each function does. -/
set_option linter.unusedVariables false
set_option linter.unusedSimpArgs false
namespace Go.Proofs
open Go Go.Q

structure DK where
  sure : List (List UInt8)
  now : List (List UInt8)
  l : List (Nat × List UInt8)
  fuse : Int
  off : Bool
structure DK.Ok (d : DK) : Prop where
  len : d.sure.length = d.now.length
  pos : 0 < d.now.length
  most : d.now.length ≤ 4096
  sz1 : ∀ x ∈ d.sure, x.length = 32
  sz2 : ∀ x ∈ d.now, x.length = 32
  szl : ∀ x ∈ d.l, x.1 < d.now.length ∧ x.2.length = 32
  f0 : -1 ≤ d.fuse
  f1 : d.fuse < 9223372036854775808
def encW (x : Nat × List UInt8) : List Value := .int .i64 x.1 :: u8c x.2
def LogAt (w : World) (lv : Value) (l : List (Nat × List UInt8)) (S : List Nat) : Prop := RowsAt w lv 33 (l.map encW) S
structure DiskIs (w : World) (b : Nat) (d : DK) (bs bn : Nat) (lv : Value) (SL : List Nat) (T Ts Tn : Nat) : Prop where
  hb : w.heap[b]? = some (.cells #[.slice (some ⟨bs, 0, none⟩) d.now.length d.now.length, .slice (some ⟨bn, 0, none⟩) d.now.length d.now.length, lv, .int .i64 d.fuse, .bool d.off] T (0, 0))
  hs : w.heap[bs]? = some (.cells (d.sure.map u8c).flatten.toArray Ts (0, 0))
  hn : w.heap[bn]? = some (.cells (d.now.map u8c).flatten.toArray Tn (0, 0))
  hl : LogAt w lv d.l SL
  nd : (b :: bs :: bn :: SL).Nodup
  ok : d.Ok
def DiskAt (w : World) (b : Nat) (d : DK) (S : List Nat) : Prop := ∃ bs bn lv SL T Ts Tn, S = b :: bs :: bn :: SL ∧ DiskIs w b d bs bn lv SL T Ts Tn
theorem DiskAt.keep {w w' : World} {b : Nat} {d : DK} {S S' : List Nat} (h : DiskAt w b d S) (hk : Kp S' w w') (hd : ∀ x ∈ S, x ∉ S') : DiskAt w' b d S := by
  obtain ⟨bs, bn, lv, SL, T, Ts, Tn, rfl, h⟩ := h
  exact ⟨bs, bn, lv, SL, T, Ts, Tn, rfl, hk.get h.hb (hd _ (by simp)), hk.get h.hs (hd _ (by simp)), hk.get h.hn (hd _ (by simp)), RowsAt.keep h.hl hk (fun x hx => hd x (by simp [hx])), h.nd, h.ok⟩
def DK.burns (d : DK) : DK × Bool :=
  if d.off = true ∨ d.fuse = 0 then ({ d with off := true, fuse := -1 }, false) else ({ d with fuse := if d.fuse > 0 then d.fuse - 1 else d.fuse }, true)
theorem Size_spec {w : World} {b : Nat} {d : DK} {S : List Nat} (h : DiskAt w b d S) {K : Value → World → Prop} (hK : K (.int .i64 d.now.length) w) : callG Tryz.prog 11 #[.pointer (some ⟨b, 0, none⟩)] w K := by
  obtain ⟨bs, bn, lv, SL, T, Ts, Tn, rfl, h⟩ := h
  refine disk_Disk_Size_call ?_
  simpa [disk_Disk_Size, disk_Disk_Size_s0, h.hb] using hK
theorem has_spec {w : World} {b : Nat} {d : DK} {S : List Nat} (h : DiskAt w b d S) (at_ : Int) {K : Value → World → Prop} (hK : K (.bool (decide (0 ≤ at_ ∧ at_ < d.now.length))) w) :
    callG Tryz.prog 43 #[.pointer (some ⟨b, 0, none⟩), .int .i64 at_] w K := by
  refine disk_Disk_has_call ?_
  simp only [disk_Disk_has, disk_Disk_has_s0, bq_geq, bV_b]
  refine ⟨fun h0 => Size_spec h ?_, fun h0 => ?_⟩
  · simp at h0
    simpa [h0] using hK
  · simp at h0
    have : ¬ 0 ≤ at_ := by omega
    simpa [this, h0] using hK
theorem DiskIs.ne {w : World} {b : Nat} {d : DK} {bs bn : Nat} {lv : Value} {SL : List Nat} {T Ts Tn : Nat} (h : DiskIs w b d bs bn lv SL T Ts Tn) :
    ¬ b = bs ∧ ¬ b = bn ∧ b ∉ SL ∧ ¬ bs = bn ∧ bs ∉ SL ∧ bn ∉ SL ∧ SL.Nodup ∧ ¬ bs = b ∧ ¬ bn = b ∧ ¬ bn = bs := by
  have hnd := h.nd
  simp only [List.nodup_cons, List.mem_cons, not_or] at hnd
  obtain ⟨⟨n1, n2, n3⟩, ⟨n4, n5⟩, n6, n7⟩ := hnd
  exact ⟨n1, n2, n3, n4, n5, n6, n7, fun h => n1 h.symm, fun h => n2 h.symm, fun h => n4 h.symm⟩
/-- the head of a disk is another one -/
theorem DiskIs.head {w : World} {b : Nat} {d : DK} {bs bn : Nat} {lv : Value} {SL : List Nat} {T Ts Tn : Nat} (h : DiskIs w b d bs bn lv SL T Ts Tn) (f : Int) (o : Bool) (hf : -1 ≤ f) (hf' : f < 9223372036854775808) :
    let w' := setBlk w b (.cells #[.slice (some ⟨bs, 0, none⟩) d.now.length d.now.length, .slice (some ⟨bn, 0, none⟩) d.now.length d.now.length, lv, .int .i64 f, .bool o] T (0, 0))
    DiskIs w' b { d with fuse := f, off := o } bs bn lv SL T Ts Tn ∧ Kp [b] w w' := by
  obtain ⟨n1, n2, n3, n4, n5, n6, n7, n8, n9, n10⟩ := h.ne
  have hk : Kp [b] w (setBlk w b (.cells #[.slice (some ⟨bs, 0, none⟩) d.now.length d.now.length, .slice (some ⟨bn, 0, none⟩) d.now.length d.now.length, lv, .int .i64 f, .bool o] T (0, 0))) := (Kp.refl _ _).setBlk (.inl (by simp)) _
  exact ⟨⟨heap_self (live_of h.hb), hk.get h.hs (by simp [n8]), hk.get h.hn (by simp [n9]), RowsAt.keep h.hl hk (fun x hx => by simp; intro hh; subst hh; exact n3 hx), h.nd,
    ⟨h.ok.len, h.ok.pos, h.ok.most, h.ok.sz1, h.ok.sz2, h.ok.szl, hf, hf'⟩⟩, hk⟩
theorem burns_spec {w : World} {b : Nat} {d : DK} {S : List Nat} (h : DiskAt w b d S) {K : Value → World → Prop} (hK : ∀ w', DiskAt w' b d.burns.1 S → Kp [b] w w' → K (.bool d.burns.2) w') :
    callG Tryz.prog 90 #[.pointer (some ⟨b, 0, none⟩)] w K := by
  obtain ⟨bs, bn, lv, SL, T, Ts, Tn, rfl, h⟩ := h
  have hlv := live_of h.hb
  have f0 := h.ok.f0
  have f1 := h.ok.f1
  refine disk_Disk_burns_call ?_
  have put : ∀ f o, d.burns.1 = { d with fuse := f, off := o } → -1 ≤ f → f < 9223372036854775808 → K (.bool d.burns.2) (setBlk w b (.cells #[.slice (some ⟨bs, 0, none⟩) d.now.length d.now.length, .slice (some ⟨bn, 0, none⟩) d.now.length d.now.length, lv, .int .i64 f, .bool o] T (0, 0))) := by
    intro f o hb h0 h1
    obtain ⟨g1, g2⟩ := h.head f o h0 h1
    exact hK _ (by rw [hb]; exact ⟨bs, bn, lv, SL, T, Ts, Tn, rfl, g1⟩) g2
  have hw : IntKind.i64.wrap (d.fuse - 1) = d.fuse - 1 := w64 (by omega) (by omega)
  cases ho : d.off with
  | true =>
    have hbb : d.burns = ({ d with fuse := -1, off := true }, false) := by simp [DK.burns, ho]
    have := put (-1) true (by rw [hbb]) (by omega) (by omega)
    rw [hbb] at this
    simpa [disk_Disk_burns, disk_Disk_burns_s0, disk_Disk_burns_s1, disk_Disk_burns_s2, disk_Disk_burns_s3, h.hb, heap_self, hlv, ho] using this
  | false =>
    by_cases hz : d.fuse = 0
    · have hbb : d.burns = ({ d with fuse := -1, off := true }, false) := by simp [DK.burns, hz]
      have := put (-1) true (by rw [hbb]) (by omega) (by omega)
      rw [hbb] at this
      simpa [disk_Disk_burns, disk_Disk_burns_s0, disk_Disk_burns_s1, disk_Disk_burns_s2, disk_Disk_burns_s3, h.hb, heap_self, hlv, ho, hz] using this
    · by_cases hp : 0 < d.fuse
      · have hbb : d.burns = ({ d with fuse := d.fuse - 1, off := false }, true) := by simp [DK.burns, ho, hz, hp]
        have := put (d.fuse - 1) false (by rw [hbb]) (by omega) (by omega)
        rw [hbb] at this
        have hle : ¬ d.fuse ≤ 0 := by omega
        simpa [disk_Disk_burns, disk_Disk_burns_s0, disk_Disk_burns_s1, disk_Disk_burns_s2, disk_Disk_burns_s3, h.hb, heap_self, hlv, ho, hz, hp, hw, hle] using this
      · have hbb : d.burns = ({ d with fuse := d.fuse, off := false }, true) := by simp [DK.burns, ho, hz, hp]
        have := put d.fuse false (by rw [hbb]) (by omega) (by omega)
        rw [hbb] at this
        have hle : d.fuse ≤ 0 := by omega
        simpa [disk_Disk_burns, disk_Disk_burns_s0, disk_Disk_burns_s1, disk_Disk_burns_s2, disk_Disk_burns_s3, h.hb, heap_self, hlv, ho, hz, hp, hle] using this
theorem Fuse_spec {w : World} {b : Nat} {d : DK} {S : List Nat} (h : DiskAt w b d S) (n : Int) (hn : n < 9223372036854775808) {K : Value → World → Prop}
    (hK : ∀ w', DiskAt w' b { d with fuse := max n (-1) } S → Kp [b] w w' → K (.int .i64 0) w') : callG Tryz.prog 40 #[.pointer (some ⟨b, 0, none⟩), .int .i64 n] w K := by
  refine disk_Disk_Fuse_call ?_
  simp only [disk_Disk_Fuse, disk_Disk_Fuse_s0]
  refine Size_spec h ?_
  obtain ⟨bs, bn, lv, SL, T, Ts, Tn, rfl, h⟩ := h
  have hp := h.ok.pos
  have hz : ¬ ((d.now.length : Int) = 0) := by omega
  obtain ⟨g1, g2⟩ := h.head (max n (-1)) d.off (by omega) (by omega)
  have := hK _ ⟨bs, bn, lv, SL, T, Ts, Tn, rfl, g1⟩ g2
  have hne : d.now ≠ [] := by intro hh; rw [hh] at hp; simp at hp
  simpa [hne, h.hb] using this
theorem Off_spec {w : World} {b : Nat} {d : DK} {S : List Nat} (h : DiskAt w b d S) {K : Value → World → Prop} (hK : K (.bool d.off) w) : callG Tryz.prog 12 #[.pointer (some ⟨b, 0, none⟩)] w K := by
  obtain ⟨bs, bn, lv, SL, T, Ts, Tn, rfl, h⟩ := h
  refine disk_Disk_Off_call ?_
  simpa [disk_Disk_Off, disk_Disk_Off_s0, h.hb] using hK
theorem LogAt.len {w : World} {lv : Value} {l : List (Nat × List UInt8)} {S : List Nat} (h : LogAt w lv l S) : ∃ a c, lv = .slice a l.length c := by
  obtain ⟨a, c, h, _⟩ := RowsAt.len h
  exact ⟨a, c, by simpa using h⟩
/-- what Read answers -/
def DK.read (d : DK) (at_ : Int) : List UInt8 × Int :=
  if 0 ≤ at_ ∧ at_ < d.now.length then (if d.off = true then ([], 30) else (d.now.getD at_.toNat [], 0)) else ([], 1)
theorem rows_get {L : List (List UInt8)} (h : ∀ x ∈ L, x.length = 32) {i : Nat} (hi : i < L.length) : ((L.map u8c).flatten.drop (i * 32)).take 32 = u8c (L.getD i []) := by
  rw [flat_get (k := 32) (by intro x hx; rw [List.mem_map] at hx; obtain ⟨y, hy, rfl⟩ := hx; simp [h y hy]) (by simpa using hi)]
  simp [List.getD, hi]
theorem rows_len {L : List (List UInt8)} (h : ∀ x ∈ L, x.length = 32) : (L.map u8c).flatten.length = L.length * 32 := by
  rw [flat_len (k := 32) (by intro x hx; rw [List.mem_map] at hx; obtain ⟨y, hy, rfl⟩ := hx; simp [h y hy])]
  simp
theorem Read_spec {w : World} {b : Nat} {d : DK} {S : List Nat} (h : DiskAt w b d S) (at_ : Int) {K : Value → World → Prop} (hK : K (.tuple #[.string (str (d.read at_).1), .int .i64 (d.read at_).2]) w) :
    callG Tryz.prog 13 #[.pointer (some ⟨b, 0, none⟩), .int .i64 at_] w K := by
  refine disk_Disk_Read_call ?_
  simp only [disk_Disk_Read, disk_Disk_Read_s0]
  refine has_spec h at_ ?_
  obtain ⟨bs, bn, lv, SL, T, Ts, Tn, rfl, h⟩ := h
  unfold DK.read at hK
  by_cases hat : 0 ≤ at_ ∧ at_ < d.now.length
  · rw [if_pos hat] at hK
    cases ho : d.off with
    | true => rw [ho, if_pos rfl] at hK; simpa [hat, h.hb, ho, str] using hK
    | false =>
      rw [ho, if_neg (by simp)] at hK
      have hi : at_.toNat < d.now.length := by omega
      have hlen := rows_len h.ok.sz2
      have hget := rows_get h.ok.sz2 hi
      have hle : at_.toNat * 32 + 32 ≤ (d.now.map u8c).flatten.length := by rw [hlen]; omega
      simpa [-List.length_flatten, hat, h.hb, ho, cvBS, h.hn, hle, hget, bytesOf_u8c, str] using hK
  · rw [if_neg hat] at hK
    simpa [hat, str] using hK
/-- the log is emptied -/
def DK.settled (d : DK) : DK := { d with l := [] }
theorem rep_rows {k : Nat} {v : List Value} (hv : v.length = k) (hk : 0 < k) (n : Nat) : rep v.toArray (n * k) = (List.replicate n v).flatten.toArray := by
  apply Array.ext
  · simp [rep, hv]
  · intro i h1 h2
    have hi : i < n * k := by simpa [rep] using h1
    simp only [rep, Array.getElem_map, Array.getElem_range, List.size_toArray, hv]
    have hm : i % k < k := Nat.mod_lt _ hk
    have hd : i / k < n := (Nat.div_lt_iff_lt_mul hk).2 hi
    have hfl : ((List.replicate n v).flatten.drop ((i / k) * k)).take k = v := by
      rw [flat_get (k := k) (by intro x hx; rw [List.mem_replicate] at hx; rw [hx.2, hv]) (by simpa using hd)]
      simp
    have hidx : i / k * k + i % k = i := by rw [Nat.mul_comm]; exact Nat.div_add_mod i k
    have e2 := congrArg (fun l => l[i % k]?) hfl
    simp only [List.getElem?_take_of_lt hm, List.getElem?_drop, hidx] at e2
    have h2' : i < (List.replicate n v).flatten.length := by simpa using h2
    rw [List.getElem?_eq_getElem h2', List.getElem?_eq_getElem (by omega)] at e2
    injection e2 with e2
    rw [List.getElem_toArray, e2]
    simp [hv, hm]
theorem zc93 : zc Tryz.prog 107 = (Value.int .i64 0 :: List.replicate 32 (Value.int .u8 0)).toArray := by kernel_rfl
theorem zc91 : zc Tryz.prog 93 = (List.replicate 32 (Value.int .u8 0)).toArray := by kernel_rfl
theorem one_all_replicate (n : Nat) (v : List Value) (hv : v.all one = true) : (List.replicate n v).flatten.toArray.all one = true := by
  rw [List.all_toArray, List.all_eq_true]
  intro x hx
  rw [List.mem_flatten] at hx
  obtain ⟨y, hy, hxy⟩ := hx
  rw [List.mem_replicate] at hy
  rw [hy.2] at hxy
  exact List.all_eq_true.1 hv x hxy
theorem settles_spec {w : World} {b : Nat} {d : DK} {S : List Nat} (h : DiskAt w b d S) {K : Value → World → Prop} (hK : ∀ w', DiskAt w' b d.settled S → Kp S w w' → K (.tuple #[]) w') :
    callG Tryz.prog 64 #[.pointer (some ⟨b, 0, none⟩)] w K := by
  refine disk_Disk_settles_call ?_
  obtain ⟨bs, bn, lv, SL, T, Ts, Tn, rfl, h⟩ := h
  obtain ⟨n1, n2, n3, n4, n5, n6, n7, n8, n9, n10⟩ := h.ne
  have hlv := live_of h.hb
  rcases h.hl with ⟨h1, h2, h3⟩ | ⟨bl, F, TF, h1, h2, h3, h4, h5, h6⟩
  · subst h1; subst h3
    have g := h.head d.fuse d.off h.ok.f0 h.ok.f1
    have hl0 : d.l = [] := by simpa using h2
    have hd : d.settled = { d with fuse := d.fuse, off := d.off } := by simp [DK.settled, ← hl0]
    have := hK _ (by rw [hd]; exact ⟨bs, bn, _, [], T, Ts, Tn, rfl, g.1⟩) (g.2.mono (by simp))
    simpa [disk_Disk_settles, disk_Disk_settles_s0, h.hb, clr] using this
  · simp only [List.length_map] at h1 h5 h6
    subst h1; subst h2
    simp only [List.mem_singleton] at n3 n5 n6
    have nl : ¬ bl = b := fun hh => n3 hh.symm
    have nl2 : ¬ bl = bs := fun hh => n5 hh.symm
    have nl3 : ¬ bl = bn := fun hh => n6 hh.symm
    have hlvl := live_of h3
    -- the head behind it
    have fin : ∀ F' : List (List Value), F'.length = F.length → (∀ x ∈ F', x.length = 33) →
        K (.tuple #[]) (setBlk (setBlk w bl (.cells F'.flatten.toArray TF (0, 0))) b (.cells #[.slice (some ⟨bs, 0, none⟩) d.now.length d.now.length, .slice (some ⟨bn, 0, none⟩) d.now.length d.now.length, .slice (some ⟨bl, 0, none⟩) 0 F.length, .int .i64 d.fuse, .bool d.off] T (0, 0))) := by
      intro F' hF' hF'r
      have hk : Kp [b, bl] w (setBlk (setBlk w bl (.cells F'.flatten.toArray TF (0, 0))) b (.cells #[.slice (some ⟨bs, 0, none⟩) d.now.length d.now.length, .slice (some ⟨bn, 0, none⟩) d.now.length d.now.length, .slice (some ⟨bl, 0, none⟩) 0 F.length, .int .i64 d.fuse, .bool d.off] T (0, 0))) :=
        ((Kp.refl _ _).setBlk (.inl (by simp)) _).setBlk (.inl (by simp)) _
      refine hK _ ⟨bs, bn, .slice (some ⟨bl, 0, none⟩) 0 F.length, [bl], T, Ts, Tn, rfl, heap_self (by simpa using hlv), hk.get h.hs (by simp [n8]; exact fun hh => nl2 hh.symm), hk.get h.hn (by simp [n9]; exact fun hh => nl3 hh.symm), ?_, h.nd, ?_⟩ (hk.mono (by simp))
      · refine .inr ⟨bl, F', TF, by simp [DK.settled, hF'], rfl, ?_, hF'r, by simp [DK.settled], by simp [DK.settled]⟩
        rw [heap_ne n3, heap_self hlvl]
      · exact ⟨h.ok.len, h.ok.pos, h.ok.most, h.ok.sz1, h.ok.sz2, by simp [DK.settled], h.ok.f0, h.ok.f1⟩
    cases hm : d.l.length with
    | zero =>
      have := fin F rfl h4
      have hself : setBlk w bl (.cells F.flatten.toArray TF (0, 0)) = w := setBlk_self h3
      rw [hself] at this
      have hite : (if F.length = 0 then some (⟨bl, 0, none⟩ : Addr) else some ⟨bl, 0, none⟩) = some ⟨bl, 0, none⟩ := by split <;> rfl
      simpa [disk_Disk_settles, disk_Disk_settles_s0, h.hb, clr, hm, hite] using this
    | succ m =>
      have hle : m + 1 ≤ F.length := by omega
      have hfl := flat_len h4
      have := fin (List.replicate (m + 1) (Value.int .i64 0 :: List.replicate 32 (Value.int .u8 0)) ++ F.drop (m + 1)) (by simp; omega) (by
        intro x hx
        rw [List.mem_append] at hx
        rcases hx with hx | hx
        · rw [List.mem_replicate] at hx; rw [hx.2]; simp
        · exact h4 x (List.mem_of_mem_drop hx))
      have hsp := flat_splice_many (i := 0) h4 (G := List.replicate (m + 1) (Value.int .i64 0 :: List.replicate 32 (Value.int .u8 0))) (by intro x hx; rw [List.mem_replicate] at hx; rw [hx.2]; simp) (by simp; omega)
      have hrep := rep_rows (k := 33) (v := Value.int .i64 0 :: List.replicate 32 (Value.int .u8 0)) (by simp) (by omega) (m + 1)
      have hite : (if F.length = 0 then some (⟨bl, 0, none⟩ : Addr) else some ⟨bl, 0, none⟩) = some ⟨bl, 0, none⟩ := by split <;> rfl
      have hcells : splice F.flatten.toArray 0 (rep (zc Tryz.prog 107) ((m + 1) * 33)) = (List.replicate (m + 1) (Value.int .i64 0 :: List.replicate 32 (Value.int .u8 0)) ++ F.drop (m + 1)).flatten.toArray := by
        rw [zc93, hrep, splice_list]
        congr 1
        simpa [-List.length_flatten, -List.flatten_append] using hsp
      have hone : (rep (zc Tryz.prog 107) ((m + 1) * 33)).all one = true := by rw [zc93, hrep]; exact one_all_replicate _ _ (by simp)
      have hsz : (rep (zc Tryz.prog 107) ((m + 1) * 33)).size ≤ F.flatten.length := by
        rw [hfl]; simp [rep]; omega
      simpa [-List.length_flatten, disk_Disk_settles, disk_Disk_settles_s0, h.hb, clr, hm, hite, h3, hcells, hone, hsz, heap_ne nl] using this
end Go.Proofs

/- Layer 3, the disk: New, Write, Flush, Crash. -/
set_option linter.unusedVariables false
set_option linter.unusedSimpArgs false
namespace Go.Proofs
open Go Go.Q
theorem zc56 : zc Tryz.prog 52 = #[.slice none 0 0, .slice none 0 0, .slice none 0 0, .int .i64 0, .bool false] := by kernel_rfl
def secs0 (n : Nat) : List (List UInt8) := List.replicate n (List.replicate 32 0)
def DK.fresh (n : Nat) : DK := { sure := secs0 n, now := secs0 n, l := [], fuse := -1, off := false }
theorem secs0_cells (n : Nat) : rep (zc Tryz.prog 93) (n * 32) = ((secs0 n).map u8c).flatten.toArray := by
  rw [zc91, rep_rows (k := 32) (by simp) (by omega)]
  simp [secs0, u8c]
theorem fresh_ok {n : Nat} (h1 : 1 ≤ n) (h2 : n ≤ 4096) : (DK.fresh n).Ok :=
  ⟨rfl, by simp [DK.fresh, secs0]; omega, by simp [DK.fresh, secs0]; omega, by intro x hx; simp only [DK.fresh, secs0, List.mem_replicate] at hx; rw [hx.2]; simp,
   by intro x hx; simp only [DK.fresh, secs0, List.mem_replicate] at hx; rw [hx.2]; simp, by simp [DK.fresh], by simp [DK.fresh], by simp [DK.fresh]⟩
theorem New_ok {w : World} {n : Nat} (h1 : 1 ≤ n) (h2 : n ≤ 4096) {K : Value → World → Prop}
    (hK : ∀ w' b S, DiskAt w' b (DK.fresh n) S → Kp [] w w' → (∀ x ∈ S, w.heap.size ≤ x) → K (.tuple #[.pointer (some ⟨b, 0, none⟩), .int .i64 0]) w') : callG Tryz.prog 4 #[.int .i64 n] w K := by
  refine disk_New_call ?_
  have ha : ¬ ((n : Int) < 1) := by omega
  have hb : ¬ ((4096 : Int) < n) := by omega
  have hn1 : ((n : Int)).toNat = n := by omega
  have hlen : (DK.fresh n).now.length = n := by simp [DK.fresh, secs0]
  have one : ∀ bs bn, ((bs = w.heap.size ∧ bn = w.heap.size + 1) ∨ (bs = w.heap.size + 1 ∧ bn = w.heap.size)) →
      K (.tuple #[.pointer (some ⟨w.heap.size + 2, 0, none⟩), .int .i64 0]) ((((w.alloc (.cells ((secs0 n).map u8c).flatten.toArray 93)).alloc (.cells ((secs0 n).map u8c).flatten.toArray 93)).alloc
        (.cells #[.slice (some ⟨bs, 0, none⟩) n n, .slice (some ⟨bn, 0, none⟩) n n, .slice none 0 0, .int .i64 (-1), .bool false] 52)).drew) := by
    intro bs bn hbb
    refine hK _ _ [w.heap.size + 2, bs, bn] ⟨bs, bn, .slice none 0 0, [], 52, 93, 93, rfl, ?_, ?_, ?_, .inl ⟨rfl, rfl, rfl⟩, ?_, fresh_ok h1 h2⟩ ?_ ?_
    · rw [hlen]; simp only [heap_drew, heap_alloc, World.size_alloc]; (repeat (first | rw [if_pos (by first | trivial | omega)] | rw [if_neg (by omega)])); rfl
    · rcases hbb with ⟨rfl, rfl⟩ | ⟨rfl, rfl⟩ <;> simp only [heap_drew, heap_alloc, World.size_alloc] <;> (repeat (first | rw [if_pos (by first | trivial | omega)] | rw [if_neg (by omega)])) <;> rfl
    · rcases hbb with ⟨rfl, rfl⟩ | ⟨rfl, rfl⟩ <;> simp only [heap_drew, heap_alloc, World.size_alloc] <;> (repeat (first | rw [if_pos (by first | trivial | omega)] | rw [if_neg (by omega)])) <;> rfl
    · rcases hbb with ⟨rfl, rfl⟩ | ⟨rfl, rfl⟩ <;> simp
    · exact ((((Kp.refl _ _).alloc _).alloc _).alloc _).drew
    · intro x hx
      simp only [List.mem_cons, List.not_mem_nil, or_false] at hx
      rcases hbb with ⟨rfl, rfl⟩ | ⟨rfl, rfl⟩ <;> rcases hx with hx | hx | hx <;> omega
  have hone := one w.heap.size (w.heap.size + 1) (.inl ⟨rfl, rfl⟩)
  have htwo := one (w.heap.size + 1) w.heap.size (.inr ⟨rfl, rfl⟩)
  have hb2 : (32 : Int) * n ≤ 281474976710656 := by omega
  have hb3 : (n : Int) < 9223372036854775808 := by omega
  have hb0 : (0 : Int) ≤ n := by omega
  simp [disk_New, disk_New_s0, ha, hb, mkG, hb2, hb3, hn1, secs0_cells, zc56, bld, Instr.fill, Value.cells]
  exact ⟨hone, htwo⟩
end Go.Proofs

/- Layer 3, the disk: Write. -/
set_option linter.unusedVariables false
set_option linter.unusedSimpArgs false
namespace Go.Proofs
open Go Go.Q
def DK.write (d : DK) (at_ : Int) (s : List UInt8) : DK × Int :=
  if (0 ≤ at_ ∧ at_ < d.now.length) ∧ s.length = 32 then
    (if d.burns.2 = true then ({ d.burns.1 with now := d.now.set at_.toNat s, l := d.l ++ [(at_.toNat, s)] }, 0) else (d.burns.1, 30))
  else (d, 1)
theorem DK.burns_now (d : DK) : d.burns.1.now = d.now ∧ d.burns.1.l = d.l ∧ d.burns.1.sure = d.sure := by
  unfold DK.burns; split <;> simp
theorem set_cells {L : List (List UInt8)} (h : ∀ x ∈ L, x.length = 32) {i : Nat} (hi : i < L.length) {s : List UInt8} (hs : s.length = 32) :
    splice (L.map u8c).flatten.toArray (i * 32) (u8c s).toArray = ((L.set i s).map u8c).flatten.toArray := by
  rw [splice_list, flat_splice (k := 32) (by intro x hx; rw [List.mem_map] at hx; obtain ⟨y, hy, rfl⟩ := hx; simp [h y hy]) (by simpa using hi) (by simp [hs])]
  congr 2
  rw [List.map_set]
  congr 1
  rw [List.drop_of_length_le (by simp [hs, h _ (List.getElem_mem hi)])]
  simp
theorem bld93 {n : Int} {cs : Array Value} (hc : cs.size = 32) {k : Value → Prop} : bld [(0, 1), (1, 32)] (zc Tryz.prog 107) #[(0, .int .i64 n), (1, .agg cs)] k = k (.agg (.int .i64 n :: cs.toList).toArray) := by
  have hz : (zc Tryz.prog 107).size = 33 := by rw [zc93]; simp
  unfold bld
  rw [fill_step (off := 0) (size := 1) rfl rfl (by omega), fill_step (off := 1) (size := 32) rfl (show (Value.agg cs).cells.size = 32 from hc) (by rw [splice_size (by simp [Value.cells, hz])]; omega)]
  have hdrop : (zc Tryz.prog 107).toList.drop 33 = [] := List.drop_of_length_le (by simp [hz])
  have e : splice (splice (zc Tryz.prog 107) 0 (Value.cells (.int .i64 n))) 1 (Value.cells (.agg cs)) = (.int .i64 n :: cs.toList).toArray := by
    simp [splice, Value.cells, hc, hdrop]
  simp only [Instr.fill, e]
theorem bsl93 {cs : Array Value} (hc : cs.size = 33) {w : World} {k : Value → World → Prop} : bsl 107 33 1 (zc Tryz.prog 107) #[(0, .agg cs)] w k = k (.slice (some ⟨w.heap.size, 0, none⟩) 1 1) (w.alloc (.cells cs 107)) := by
  have hr : (rep (zc Tryz.prog 107) (1 * 33)).size = 33 := by simp [rep]
  unfold bsl
  show (match Instr.fill (fun i => some (i * 33, 33)) (rep (zc Tryz.prog 107) (1 * 33)) [(0, Value.agg cs)] with | some cs => k (Value.slice (some ⟨w.heap.size, 0, none⟩) 1 1) (w.alloc (Obj.cells cs 107)) | none => False) = _
  rw [fill_step (off := 0) (size := 33) rfl (show (Value.agg cs).cells.size = 33 from hc) (by omega)]
  have hdrop : (rep (zc Tryz.prog 107) 33).toList.drop 33 = [] := List.drop_of_length_le (by simpa using Nat.le_of_eq hr)
  have e : splice (rep (zc Tryz.prog 107) (1 * 33)) 0 (Value.cells (.agg cs)) = cs := by
    simp [splice, Value.cells, hc, hdrop]
  simp only [Instr.fill, e]
theorem Write_spec {w : World} {b : Nat} {d : DK} {S : List Nat} (h : DiskAt w b d S) (hl : d.l.length < 2 ^ 40) (at_ : Int) (s : List UInt8) {K : Value → World → Prop}
    (hK : ∀ w' S', DiskAt w' b (d.write at_ s).1 S' → Kp S w w' → (∀ x ∈ S', x ∈ S ∨ w.heap.size ≤ x) → K (.int .i64 (d.write at_ s).2) w') :
    callG Tryz.prog 63 #[.pointer (some ⟨b, 0, none⟩), .int .i64 at_, .string (str s)] w K := by
  refine disk_Disk_Write_call ?_
  simp only [disk_Disk_Write, disk_Disk_Write_s1]
  refine has_spec h at_ ?_
  unfold DK.write at hK
  by_cases hat : (0 ≤ at_ ∧ at_ < d.now.length) ∧ s.length = 32
  case neg =>
    rw [if_neg hat] at hK
    have := hK w S h (Kp.refl _ _) (fun x hx => .inl hx)
    by_cases ha : 0 ≤ at_ ∧ at_ < d.now.length
    · have hs : ¬ s.length = 32 := fun hs => hat ⟨ha, hs⟩
      have hs' : ¬ ((s.length : Int) = 32) := by omega
      simpa [ha, hs'] using this
    · simpa [ha] using this
  case pos =>
    rw [if_pos hat] at hK
    obtain ⟨ha, hs⟩ := hat
    have hs' : ((s.length : Int) = 32) := by omega
    suffices hmain : disk_Disk_Write_s0 K (.pointer (some ⟨b, 0, none⟩)) (.int .i64 at_) (.string (str s)) w by
      simpa [ha, hs'] using hmain
    unfold disk_Disk_Write_s0
    refine burns_spec h fun w1 h1 hk1 => ?_
    obtain ⟨hnow, hlog, hsure⟩ := d.burns_now
    have hbS : b ∈ S := by obtain ⟨bs, bn, lv, SL, T, Ts, Tn, rfl, _⟩ := h; simp
    cases hb2 : d.burns.2 with
    | false =>
      rw [hb2] at hK
      have := hK w1 S h1 (hk1.mono (by simpa using fun _ => hbS)) (fun x hx => .inl hx)
      simpa using this
    | true =>
      rw [hb2] at hK
      simp only [if_true] at hK
      generalize hd1 : d.burns.1 = d1 at *
      obtain ⟨bs, bn, lv, SL, T, Ts, Tn, rfl, h1⟩ := h1
      obtain ⟨n1, n2, n3, n4, n5, n6, n7, n8, n9, n10⟩ := h1.ne
      have hlv := live_of h1.hb
      have hlvn := live_of h1.hn
      have hi : at_.toNat < d1.now.length := by rw [hnow]; omega
      have hlen := rows_len h1.ok.sz2
      have hle : at_.toNat * 32 + 32 ≤ (d1.now.map u8c).flatten.length := by rw [hlen]; omega
      have hset := set_cells h1.ok.sz2 hi hs
      have hsz2 : ∀ x ∈ d1.now.set at_.toNat s, x.length = 32 := by
        intro x hx
        rcases List.mem_or_eq_of_mem_set hx with hx | hx
        · exact h1.ok.sz2 x hx
        · rw [hx, hs]
      have hget := rows_get hsz2 (i := at_.toNat) (by simpa using hi)
      have hsget : (d1.now.set at_.toNat s).getD at_.toNat [] = s := by simp [List.getD, hi]
      have hext : (str s).extract 0 32 = str s := by
        have := ByteArray.extract_zero_size (b := str s)
        simpa [hs] using this
      have hcs : u8s (str s) = (u8c s).toArray := by rw [u8s_eq]; rfl
      have hon := one_u8c s
      have hle2 : at_.toNat * 32 + 32 ≤ ((d1.now.set at_.toNat s).map u8c).flatten.length := by rw [rows_len hsz2]; simp; omega
      have hat' : at_ < d1.now.length := by rw [hnow]; exact ha.2
      obtain ⟨N2, hN2⟩ : ∃ N2, N2 = ((d1.now.set at_.toNat s).map u8c).flatten.toArray := ⟨_, rfl⟩
      obtain ⟨N1, hN1⟩ : ∃ N1, N1 = (d1.now.map u8c).flatten.toArray := ⟨_, rfl⟩
      obtain ⟨cs, hcs2⟩ : ∃ cs, cs = (u8c s).toArray := ⟨_, rfl⟩
      have hn1 := h1.hn
      have hcsz : cs.size = 32 := by rw [hcs2]; simp [hs]
      have hN1s : at_.toNat * 32 + 32 ≤ N1.size := by rw [hN1]; exact hle
      have hN2s : at_.toNat * 32 + 32 ≤ N2.size := by rw [hN2]; exact hle2
      have hN2e : N2.extract (at_.toNat * 32) (at_.toNat * 32 + 32) = cs := by rw [hN2, extract_list, hget, hsget, hcs2]
      rw [← hcs2] at hcs hset hon
      rw [← hN1, ← hN2] at hset
      rw [← hN1] at hn1
      have hencs : encW (at_.toNat, s) = .int .i64 at_ :: cs.toList := by rw [hcs2]; simp [encW, Int.toNat_of_nonneg ha.1]
      simp [hs, ha.1, hat', h1.hb, hn1, cp, src, wrO, hext, hcs, hcsz, hN1s, hset, hN2s, hN2e, heap_self, hlv, hlvn, heap_ne n9, bld93, bsl93, heap_old]
      refine ⟨fun i hi => by rw [Array.all_eq_true] at hon; exact hon i (by omega), ?_⟩
      obtain ⟨W, hW⟩ : ∃ W, W = ((setBlk w1 bn (Obj.cells N2 Tn)).alloc (Obj.cells (Value.int IntKind.i64 at_ :: cs.toList).toArray 107)).drew := ⟨_, rfl⟩
      rw [← hW]
      have hkW : Kp [bn] w1 W := by rw [hW]; exact (((Kp.refl _ _).setBlk (.inl (by simp)) _).alloc _).drew
      have hWb := hkW.get h1.hb (by simpa using n2)
      have hWs := hkW.get h1.hs (by simpa using n4)
      have hWn : W.heap[bn]? = some (.cells N2 Tn (0, 0)) := by rw [hW]; simp only [heap_drew]; rw [heap_old (by simpa using hlvn), heap_self hlvn]
      have hWl : RowsAt W lv 33 (d1.l.map encW) SL := RowsAt.keep h1.hl hkW (fun x hx => by simp; intro hh; subst hh; exact n6 hx)
      have hWx : W.heap[w1.heap.size]? = some (.cells (encW (at_.toNat, s)).toArray 107 (0, 0)) := by
        rw [hW, hencs]; simp only [heap_drew]
        have := heap_new (w := setBlk w1 bn (Obj.cells N2 Tn)) (o := Obj.cells (Value.int IntKind.i64 at_ :: cs.toList).toArray 107)
        rw [size_setBlk] at this
        exact this
      have henl : (encW (at_.toNat, s)).length = 33 := by simp [encW, hs]
      rw [zc93]
      refine rows_app (rows := d1.l.map encW) (G := [encW (at_.toNat, s)]) hWl (by omega) (by simp) (by simpa using henl) ?_ ?_ ?_ ?_ ?_
      · have := one_u8c s
        rw [List.all_toArray] at this
        simpa [encW] using this
      · intro K' hk'
        have : (encW (at_.toNat, s)).toArray.extract 0 33 = (encW (at_.toNat, s)).toArray := by rw [← henl]; simp
        simpa [srcA, hWx, henl, this] using hk'
      · simp only [List.length_map, List.length_singleton, hlog]; omega
      · simp only [List.length_map, List.length_singleton, hlog]; omega
      · intro v' w' S' hr hk' hS'
        obtain ⟨a, c, hv', _⟩ := hr.len
        have hone' : one v' = true := by rw [hv']; rfl
        have hb' := hk'.get hWb n3
        have hs2 := hk'.get hWs n5
        have hn2 := hk'.get hWn n6
        have hlt : ∀ x, x ∈ b :: bs :: bn :: SL → x < w1.heap.size := by
          intro x hx
          simp only [List.mem_cons] at hx
          rcases hx with rfl | rfl | rfl | hx
          · exact hlv
          · exact live_of h1.hs
          · exact hlvn
          · exact RowsAt.lt h1.hl x hx
        have hWsz := hkW.size
        have hd' : ∀ x ∈ S', x ≠ b ∧ x ≠ bs ∧ x ≠ bn := by
          intro x hx
          rcases hS' x hx with hx | hx
          · exact ⟨fun hh => n3 (hh ▸ hx), fun hh => n5 (hh ▸ hx), fun hh => n6 (hh ▸ hx)⟩
          · have := hlt b (by simp); have := hlt bs (by simp); have := hlt bn (by simp)
            exact ⟨by omega, by omega, by omega⟩
        obtain ⟨w2, hw2⟩ : ∃ w2, w2 = setBlk w' b (.cells #[.slice (some ⟨bs, 0, none⟩) d1.now.length d1.now.length, .slice (some ⟨bn, 0, none⟩) d1.now.length d1.now.length, v', .int .i64 d1.fuse, .bool d1.off] T (0, 0)) := ⟨_, rfl⟩
        have hk2 : Kp [b] w' w2 := by rw [hw2]; exact (Kp.refl _ _).setBlk (.inl (by simp)) _
        have := hK w2 (b :: bs :: bn :: S') ⟨bs, bn, v', S', T, Ts, Tn, rfl, ?_, ?_, ?_, ?_, ?_, ?_⟩ ?_ ?_
        · simpa [hone', hb', hw2] using this
        · have := heap_self (o := .cells #[.slice (some ⟨bs, 0, none⟩) d1.now.length d1.now.length, .slice (some ⟨bn, 0, none⟩) d1.now.length d1.now.length, v', .int .i64 d1.fuse, .bool d1.off] T (0, 0)) (live_of hb')
          rw [hw2, this]; simp [hnow]
        · exact hk2.get hs2 (by simpa using n8)
        · rw [hN2, hnow] at hn2; exact hk2.get hn2 (by simpa using n9)
        · have := RowsAt.keep hr hk2 (fun x hx => by simpa using (hd' x hx).1)
          rw [hlog] at this
          simpa [LogAt] using this
        · have := hr.nodup
          simp only [List.nodup_cons, List.mem_cons, not_or]
          exact ⟨⟨n1, n2, fun hx => (hd' _ hx).1 rfl⟩, ⟨n4, fun hx => (hd' _ hx).2.1 rfl⟩, fun hx => (hd' _ hx).2.2 rfl, this⟩
        · refine ⟨by simpa [hsure, hnow] using h1.ok.len, by simpa [hnow] using h1.ok.pos, by simpa [hnow] using h1.ok.most, h1.ok.sz1, by rw [hnow] at hsz2; exact hsz2, ?_, h1.ok.f0, h1.ok.f1⟩
          intro x hx
          rw [List.mem_append] at hx
          simp only [List.length_set]
          rcases hx with hx | hx
          · have := h1.ok.szl x (by rw [hlog]; exact hx); rw [hnow] at this; exact this
          · simp only [List.mem_singleton] at hx; subst hx; exact ⟨by rw [hnow] at hi; exact hi, hs⟩
        · have e1 : Kp (b :: bs :: bn :: SL) w w1 := hk1.mono (by simp)
          have e2 : Kp (b :: bs :: bn :: SL) w1 W := hkW.mono (by simp)
          have e3 : Kp (b :: bs :: bn :: SL) W w' := hk'.mono (fun x hx _ => by simp [hx])
          have e4 : Kp (b :: bs :: bn :: SL) w' w2 := hk2.mono (by simp)
          exact ((e1.trans' e2).trans' e3).trans' e4
        · intro x hx
          simp only [List.mem_cons] at hx ⊢
          rcases hx with hx | hx | hx | hx
          · exact .inl (.inl hx)
          · exact .inl (.inr (.inl hx))
          · exact .inl (.inr (.inr (.inl hx)))
          · rcases hS' x hx with hx | hx
            · exact .inl (.inr (.inr (.inr hx)))
            · exact .inr (by have := hk1.size; omega)
end Go.Proofs

/- Layer 3, the disk: Flush and Crash. -/
set_option linter.unusedVariables false
set_option linter.unusedSimpArgs false
namespace Go.Proofs
open Go Go.Q
def applyAll (L : List (List UInt8)) (l : List (Nat × List UInt8)) : List (List UInt8) := l.foldl (fun L x => L.set x.1 x.2) L
def DK.flush (d : DK) : DK × Int :=
  if d.burns.2 = true then ({ d.burns.1 with sure := applyAll d.sure d.l, l := [] }, 0) else (d.burns.1, 30)
theorem applyAll_ok {n : Nat} : ∀ {l : List (Nat × List UInt8)} {L : List (List UInt8)}, (∀ x ∈ L, x.length = 32) → (∀ x ∈ l, x.1 < n ∧ x.2.length = 32) → (∀ x ∈ applyAll L l, x.length = 32) ∧ (applyAll L l).length = L.length := by
  intro l
  induction l with
  | nil => intro L hL _; exact ⟨hL, rfl⟩
  | cons y r ih =>
    intro L hL hl
    have := ih (L := L.set y.1 y.2) (fun x hx => by
      rcases List.mem_or_eq_of_mem_set hx with hx | hx
      · exact hL x hx
      · rw [hx]; exact (hl y (by simp)).2) (fun x hx => hl x (by simp [hx]))
    exact ⟨this.1, by rw [show applyAll L (y :: r) = applyAll (L.set y.1 y.2) r from rfl, this.2]; simp⟩
/-- the sure sectors are others -/
theorem DiskIs.setSure {w : World} {b : Nat} {d : DK} {bs bn : Nat} {lv : Value} {SL : List Nat} {T Ts Tn : Nat} (h : DiskIs w b d bs bn lv SL T Ts Tn) (L : List (List UInt8)) (hL : ∀ x ∈ L, x.length = 32) (hn : L.length = d.sure.length) :
    DiskIs (setBlk w bs (.cells (L.map u8c).flatten.toArray Ts (0, 0))) b { d with sure := L } bs bn lv SL T Ts Tn ∧ Kp [bs] w (setBlk w bs (.cells (L.map u8c).flatten.toArray Ts (0, 0))) := by
  obtain ⟨n1, n2, n3, n4, n5, n6, n7, n8, n9, n10⟩ := h.ne
  have hk : Kp [bs] w (setBlk w bs (.cells (L.map u8c).flatten.toArray Ts (0, 0))) := (Kp.refl _ _).setBlk (.inl (by simp)) _
  exact ⟨⟨hk.get h.hb (by simpa using n1), heap_self (live_of h.hs), hk.get h.hn (by simpa using n10), RowsAt.keep h.hl hk (fun x hx => by simp; intro hh; subst hh; exact n5 hx), h.nd,
    ⟨by rw [hn]; exact h.ok.len, h.ok.pos, h.ok.most, hL, h.ok.sz2, h.ok.szl, h.ok.f0, h.ok.f1⟩⟩, hk⟩
theorem DiskIs.keep {w w' : World} {b : Nat} {d : DK} {bs bn : Nat} {lv : Value} {SL : List Nat} {T Ts Tn : Nat} {S' : List Nat} (h : DiskIs w b d bs bn lv SL T Ts Tn) (hk : Kp S' w w') (hd : ∀ x ∈ b :: bs :: bn :: SL, x ∉ S') :
    DiskIs w' b d bs bn lv SL T Ts Tn :=
  ⟨hk.get h.hb (hd _ (by simp)), hk.get h.hs (hd _ (by simp)), hk.get h.hn (hd _ (by simp)), RowsAt.keep h.hl hk (fun x hx => hd x (by simp [hx])), h.nd, h.ok⟩
theorem DiskIs.live {w : World} {b : Nat} {d : DK} {bs bn : Nat} {lv : Value} {SL : List Nat} {T Ts Tn : Nat} (h : DiskIs w b d bs bn lv SL T Ts Tn) : ∀ x ∈ b :: bs :: bn :: SL, x < w.heap.size := by
  intro x hx
  simp only [List.mem_cons] at hx
  rcases hx with rfl | rfl | rfl | hx
  · exact live_of h.hb
  · exact live_of h.hs
  · exact live_of h.hn
  · exact RowsAt.lt h.hl x hx
theorem take_snoc {α : Type} {l : List α} {i : Nat} (hi : i < l.length) : l.take (i + 1) = l.take i ++ [l[i]] := by
  rw [List.take_succ_eq_append_getElem hi]
theorem Flush_loop {R : Value → World → Prop} {w0 : World} {b : Nat} {d : DK} {bs bn : Nat} {lv : Value} {SL : List Nat} {T Ts Tn : Nat} (h0 : DiskIs w0 b d bs bn lv SL T Ts Tn) (hlen : d.l.length < 2 ^ 40)
    (hend : ∀ w', DiskIs w' b { d with sure := applyAll d.sure d.l } bs bn lv SL T Ts Tn → Kp [bs] w0 w' → disk_Disk_Flush_s0 R (.pointer (some ⟨b, 0, none⟩)) w') :
    disk_Disk_Flush_L2 R (.pointer (some ⟨b, 0, none⟩)) lv (.int .i64 d.l.length) (.int .i64 0) w0 := by
  unfold disk_Disk_Flush_L2
  refine loop_inv (fun m xs w => ∃ i, i ≤ d.l.length ∧ m = d.l.length - i ∧ xs = [.pointer (some ⟨b, 0, none⟩), lv, .int .i64 d.l.length, .int .i64 i] ∧
    DiskIs w b { d with sure := applyAll d.sure (d.l.take i) } bs bn lv SL T Ts Tn ∧ Kp [bs] w0 w) ?_ (m := d.l.length) ⟨0, by omega, by omega, rfl, h0, Kp.refl _ _⟩
  rintro m N xs w ⟨i, hi, rfl, rfl, h, hk⟩ hN
  simp only [disk_Disk_Flush_L2F, disk_Disk_Flush_b1, bq_lss, bV_b]
  refine ⟨fun hlt => ?_, fun hge => ?_⟩
  · have hlt : i < d.l.length := by simpa using hlt
    obtain ⟨n1, n2, n3, n4, n5, n6, n7, n8, n9, n10⟩ := h.ne
    obtain ⟨bl, TF, c, hbl, hheap, hia, hle, hext, _⟩ := RowsAt.at h.hl (i := i) (by simpa using hlt)
    have hrow : (d.l.map encW)[i]'(by simpa using hlt) = encW d.l[i] := by simp
    simp only at hia hext
    rw [hrow] at hext
    have hx := h0.ok.szl d.l[i] (List.getElem_mem hlt)
    have hin := hN (d.l.length - (i + 1)) [.pointer (some ⟨b, 0, none⟩), lv, .int .i64 d.l.length, .int .i64 ((i + 1 : Nat) : Int)]
    have hencl : (encW d.l[i]).length = 33 := by simp [encW, hx.2]
    have hext2 : ((encW d.l[i]).toArray.extract 1 33) = (u8c d.l[i].2).toArray := by
      have := extract_list (encW d.l[i]) 1 32
      rw [this]
      have h32 : (u8c d.l[i].2).take 32 = u8c d.l[i].2 := List.take_of_length_le (by simp [hx.2])
      simp [encW, h32]
    have hzsz : (zc Tryz.prog 107).size = 33 := by rw [zc93]; simp
    have hsp : splice (zc Tryz.prog 107) 0 (encW d.l[i]).toArray = (encW d.l[i]).toArray := by
      have : (zc Tryz.prog 107).toList.drop 33 = [] := List.drop_of_length_le (by simp [hzsz])
      simp [splice, hencl, this]
    have hone : (encW d.l[i]).toArray.all one = true := by
      have := one_u8c d.l[i].2
      rw [List.all_toArray] at this ⊢
      simpa [encW] using this
    have hgen : ∀ k, k < w.heap.size → k ≠ w.heap.size := fun k hk => by omega
    obtain ⟨E, hE⟩ : ∃ E, E = (encW d.l[i]).toArray := ⟨_, rfl⟩
    have hE0 : E[0]? = some (.int .i64 d.l[i].1) := by rw [hE]; rfl
    have hEs : E.size = 33 := by rw [hE]; simpa using hencl
    rw [← hE] at hext hext2 hsp hone
    rw [hia]
    have hlb := live_of h.hb
    have hls := live_of h.hs
    have hks : Kp [] w (w.alloc (.cells E 107)) := (Kp.refl _ _).alloc _
    have h' := h.keep hks (by simp)
    have hiw : IntKind.i64.wrap ((i : Int) + 1) = ((i + 1 : Nat) : Int) := by rw [w64 (by omega) (by omega)]; simp
    simp [-getElem?_pos, -Array.getElem?_eq_getElem, -List.length_flatten, List.getElem?_cons_zero, List.getElem?_cons_succ, hheap, hle, hext, hEs, hzsz, hone, hsp, h.hb, heap_new, heap_old, hlb, hls, hE0, hext2, hx.1, h.hs, hiw]
    refine ⟨fun j hj => by rw [Array.all_eq_true] at hone; exact hone j (by omega), ?_⟩
    have hi1 : d.l[i].1 < (applyAll d.sure (d.l.take i)).length := by have := h.ok.len; simp only at this; omega
    have hsz := h.ok.sz1
    simp only at hsz
    have hcells := set_cells hsz hi1 hx.2
    rw [hcells]
    have hL : applyAll d.sure (d.l.take (i + 1)) = (applyAll d.sure (d.l.take i)).set d.l[i].1 d.l[i].2 := by unfold applyAll; rw [take_snoc hlt, List.foldl_append]; rfl
    have hset := h'.setSure ((applyAll d.sure (d.l.take i)).set d.l[i].1 d.l[i].2) (by
      intro x hx'
      rcases List.mem_or_eq_of_mem_set hx' with hx' | hx'
      · exact hsz x hx'
      · rw [hx']; exact hx.2) (by simp)
    have hkd : ∀ w, Kp [] w w.drew := fun w => (Kp.refl _ w).drew
    refine ⟨hx.2, ⟨by rw [rows_len hsz, hx.2]; omega, by have := one_u8c d.l[i].2; rw [List.all_toArray, List.all_eq_true] at this; exact this⟩, ?_⟩
    refine hin _ (by omega) ⟨i + 1, hlt, rfl, by simp, ?_, ?_⟩
    · rw [hL]; exact hset.1.keep (hkd _) (by simp)
    · exact (hk.trans' ((hks.mono (by simp)).trans' hset.2)).drew
  · have hie : i = d.l.length := by simp at hge; omega
    subst hie
    rw [List.take_length] at h
    exact hend w h hk
theorem Flush_spec {w : World} {b : Nat} {d : DK} {S : List Nat} (h : DiskAt w b d S) (hl : d.l.length < 2 ^ 40) {K : Value → World → Prop}
    (hK : ∀ w', DiskAt w' b d.flush.1 S → Kp S w w' → K (.int .i64 d.flush.2) w') : callG Tryz.prog 62 #[.pointer (some ⟨b, 0, none⟩)] w K := by
  refine disk_Disk_Flush_call ?_
  simp only [disk_Disk_Flush, disk_Disk_Flush_s4]
  refine Size_spec h ?_
  have hp : d.now ≠ [] := by
    obtain ⟨bs, bn, lv, SL, T, Ts, Tn, rfl, h⟩ := h
    intro hh; have := h.ok.pos; rw [hh] at this; simp at this
  suffices hmain : callG Tryz.prog 90 #[.pointer (some ⟨b, 0, none⟩)] w fun t11 w =>
      qG Tryz.prog (Op.unary .not t11) w fun t12 => bV t12 (K (.int .i64 30) w) (disk_Disk_Flush_s3 K (.pointer (some ⟨b, 0, none⟩)) w) by
    simpa [hp] using hmain
  refine burns_spec h fun w1 h1 hk1 => ?_
  obtain ⟨hnow, hlog, hsure⟩ := d.burns_now
  unfold DK.flush at hK
  have hbS : b ∈ S := by obtain ⟨bs, bn, lv, SL, T, Ts, Tn, rfl, _⟩ := h; simp
  have hk1' : Kp S w w1 := hk1.mono (by simpa using fun _ => hbS)
  cases hb2 : d.burns.2 with
  | false =>
    rw [hb2] at hK
    have := hK w1 h1 hk1'
    simpa using this
  | true =>
    rw [hb2] at hK
    simp only [if_true] at hK
    generalize hd1 : d.burns.1 = d1 at *
    obtain ⟨bs, bn, lv, SL, T, Ts, Tn, rfl, h1⟩ := h1
    obtain ⟨a, c, hlv⟩ := LogAt.len h1.hl
    suffices hmain : disk_Disk_Flush_L2 K (.pointer (some ⟨b, 0, none⟩)) lv (.int .i64 d1.l.length) (.int .i64 0) w1 by
      rw [hlv] at hmain
      simpa [disk_Disk_Flush_s3, h1.hb, hlv] using hmain
    refine Flush_loop h1 (by rw [hlog]; exact hl) fun w2 h2 hk2 => ?_
    simp only [disk_Disk_Flush_s0]
    refine settles_spec ⟨bs, bn, lv, SL, T, Ts, Tn, rfl, h2⟩ fun w3 h3 hk3 => ?_
    refine hK w3 ?_ ((hk1'.trans' (hk2.mono (by simp))).trans' hk3)
    rw [hsure, hlog] at h3
    exact h3
/-- what survives of the writes that are not sure -/
def crashL : List (Nat × List UInt8) → List Int → List (List UInt8) → List (List UInt8)
  | [], _, L => L
  | _ :: _, [], L => L
  | x :: l, k :: ks, L => crashL l ks (L.set x.1 (x.2.take (max 0 (min k 32)).toNat ++ (L.getD x.1 []).drop (max 0 (min k 32)).toNat))
def crash1 (x : Nat × List UInt8) (k : Option Int) (L : List (List UInt8)) : List (List UInt8) :=
  match k with
  | none => L
  | some k => L.set x.1 (x.2.take (max 0 (min k 32)).toNat ++ (L.getD x.1 []).drop (max 0 (min k 32)).toNat)
theorem crashL_snoc (x : Nat × List UInt8) : ∀ (l : List (Nat × List UInt8)) (ks : List Int) (L : List (List UInt8)), crashL (l ++ [x]) ks L = crash1 x ks[l.length]? (crashL l ks L) := by
  intro l
  induction l with
  | nil => intro ks L; cases ks <;> rfl
  | cons y r ih =>
    intro ks L
    cases ks with
    | nil => rfl
    | cons k ks => simp only [List.cons_append, crashL, ih]; rfl
theorem crashL_ok {n : Nat} : ∀ {l : List (Nat × List UInt8)} {ks : List Int} {L : List (List UInt8)}, (∀ x ∈ L, x.length = 32) → L.length = n → (∀ x ∈ l, x.1 < n ∧ x.2.length = 32) → (∀ x ∈ crashL l ks L, x.length = 32) ∧ (crashL l ks L).length = n := by
  intro l
  induction l with
  | nil => intro ks L hL hn _; exact ⟨hL, hn⟩
  | cons y r ih =>
    intro ks L hL hn hl
    cases ks with
    | nil => exact ⟨hL, hn⟩
    | cons k ks =>
      have hy := hl y (by simp)
      refine ih (fun x hx => ?_) (by simpa using hn) (fun x hx => hl x (by simp [hx]))
      rcases List.mem_or_eq_of_mem_set hx with hx | hx
      · exact hL x hx
      · have hg : (L.getD y.1 []).length = 32 := by
          have : y.1 < L.length := by omega
          simp only [List.getD, List.getElem?_eq_getElem this, Option.getD_some]
          exact hL _ (List.getElem_mem this)
        have hle : (max 0 (min k 32)).toNat ≤ 32 := by omega
        rw [hx, List.length_append, List.length_take, List.length_drop, hg, hy.2]; omega
def DK.crash (d : DK) (ks : List Int) : DK := { sure := crashL d.l ks d.sure, now := crashL d.l ks d.sure, l := [], fuse := -1, off := false }
end Go.Proofs

/- Layer 3, the disk: Crash. -/
set_option linter.unusedVariables false
set_option linter.unusedSimpArgs false
namespace Go.Proofs
open Go Go.Q
theorem pre_cells {L : List (List UInt8)} (h : ∀ x ∈ L, x.length = 32) {i : Nat} (hi : i < L.length) {s : List UInt8} (hs : s.length ≤ 32) :
    splice (L.map u8c).flatten.toArray (i * 32) (u8c s).toArray = ((L.set i (s ++ (L.getD i []).drop s.length)).map u8c).flatten.toArray := by
  rw [splice_list, flat_splice (k := 32) (by intro x hx; rw [List.mem_map] at hx; obtain ⟨y, hy, rfl⟩ := hx; simp [h y hy]) (by simpa using hi) (by simp [hs])]
  congr 2
  rw [List.map_set]
  congr 1
  rw [u8c_append, ← u8c_drop]
  simp [List.getD, hi]
/-- the sectors as written are others -/
theorem DiskIs.setNow {w : World} {b : Nat} {d : DK} {bs bn : Nat} {lv : Value} {SL : List Nat} {T Ts Tn : Nat} (h : DiskIs w b d bs bn lv SL T Ts Tn) (L : List (List UInt8)) (hL : ∀ x ∈ L, x.length = 32) (hn : L.length = d.now.length) :
    DiskIs (setBlk w bn (.cells (L.map u8c).flatten.toArray Tn (0, 0))) b { d with now := L } bs bn lv SL T Ts Tn ∧ Kp [bn] w (setBlk w bn (.cells (L.map u8c).flatten.toArray Tn (0, 0))) := by
  obtain ⟨n1, n2, n3, n4, n5, n6, n7, n8, n9, n10⟩ := h.ne
  have hk : Kp [bn] w (setBlk w bn (.cells (L.map u8c).flatten.toArray Tn (0, 0))) := (Kp.refl _ _).setBlk (.inl (by simp)) _
  exact ⟨⟨by simp only [hn]; exact hk.get h.hb (by simpa using n2), hk.get h.hs (by simpa using n4), heap_self (live_of h.hn), RowsAt.keep h.hl hk (fun x hx => by simp; intro hh; subst hh; exact n6 hx), h.nd,
    ⟨by simp only [hn]; exact h.ok.len, by simp only [hn]; exact h.ok.pos, by simp only [hn]; exact h.ok.most, h.ok.sz1, hL, by simp only [hn]; exact h.ok.szl, h.ok.f0, h.ok.f1⟩⟩, hk⟩
theorem Crash_loop {R : Value → World → Prop} {w0 : World} {b : Nat} {d : DK} {bs bn : Nat} {lv kv : Value} {ks : List Int} {SK : List Nat} {SL : List Nat} {T Ts Tn : Nat} (h0 : DiskIs w0 b d bs bn lv SL T Ts Tn) (hlen : d.l.length < 2 ^ 40)
    (hks : IntsAt w0 kv ks SK) (hdis : ∀ x ∈ SK, x ∉ b :: bs :: bn :: SL) (hkw : ∀ x ∈ ks, -9223372036854775808 ≤ x ∧ x < 9223372036854775808)
    (hend : ∀ w', DiskIs w' b { d with sure := crashL d.l ks d.sure } bs bn lv SL T Ts Tn → Kp [bs] w0 w' → disk_Disk_Crash_s0 R (.pointer (some ⟨b, 0, none⟩)) w') :
    disk_Disk_Crash_L2 R (.pointer (some ⟨b, 0, none⟩)) kv lv (.int .i64 d.l.length) (.int .i64 0) w0 := by
  unfold disk_Disk_Crash_L2
  have hstart : crashL (d.l.take 0) ks d.sure = d.sure := rfl
  refine loop_inv (fun m xs w => ∃ i, i ≤ d.l.length ∧ m = d.l.length - i ∧ xs = [.pointer (some ⟨b, 0, none⟩), kv, lv, .int .i64 d.l.length, .int .i64 i] ∧
    DiskIs w b { d with sure := crashL (d.l.take i) ks d.sure } bs bn lv SL T Ts Tn ∧ Kp [bs] w0 w) ?_ (m := d.l.length) ⟨0, by omega, by omega, rfl, by rw [hstart]; exact h0, Kp.refl _ _⟩
  rintro m N xs w ⟨i, hi, rfl, rfl, h, hk⟩ hN
  simp only [disk_Disk_Crash_L2F, disk_Disk_Crash_b1, bq_lss, bV_b]
  refine ⟨fun hlt => ?_, fun hge => ?_⟩
  · have hlt : i < d.l.length := by simpa using hlt
    have hks' : IntsAt w kv ks SK := hks.keep hk (fun x hx => by
      have := hdis x hx
      simp only [List.mem_cons, not_or] at this
      simp [this.2.1])
    obtain ⟨n1, n2, n3, n4, n5, n6, n7, n8, n9, n10⟩ := h.ne
    obtain ⟨bl, TF, c, hbl, hheap, hia, hle, hext, _⟩ := RowsAt.at h.hl (i := i) (by simpa using hlt)
    have hrow : (d.l.map encW)[i]'(by simpa using hlt) = encW d.l[i] := by simp
    simp only at hia hext
    rw [hrow] at hext
    have hx := h0.ok.szl d.l[i] (List.getElem_mem hlt)
    have hin := hN (d.l.length - (i + 1)) [.pointer (some ⟨b, 0, none⟩), kv, lv, .int .i64 d.l.length, .int .i64 ((i + 1 : Nat) : Int)]
    have hencl : (encW d.l[i]).length = 33 := by simp [encW, hx.2]
    have hzsz : (zc Tryz.prog 107).size = 33 := by rw [zc93]; simp
    have hsp : splice (zc Tryz.prog 107) 0 (encW d.l[i]).toArray = (encW d.l[i]).toArray := by
      have : (zc Tryz.prog 107).toList.drop 33 = [] := List.drop_of_length_le (by simp [hzsz])
      simp [splice, hencl, this]
    have hone : (encW d.l[i]).toArray.all one = true := by
      have := one_u8c d.l[i].2
      rw [List.all_toArray] at this ⊢
      simpa [encW] using this
    obtain ⟨E, hE⟩ : ∃ E, E = (encW d.l[i]).toArray := ⟨_, rfl⟩
    have hE0 : E[0]? = some (.int .i64 d.l[i].1) := by rw [hE]; rfl
    have hEs : E.size = 33 := by rw [hE]; simpa using hencl
    have hEx : ∀ n, n ≤ 32 → E.extract 1 (1 + n) = (u8c (d.l[i].2.take n)).toArray := by
      intro n hn
      rw [hE, extract_list, ← u8c_take]
      simp [encW]
    rw [← hE] at hext hsp hone
    have hlb := live_of h.hb
    have hls := live_of h.hs
    have hks1 : Kp [] w (w.alloc (.cells E 107)) := (Kp.refl _ _).alloc _
    have h' := h.keep hks1 (by simp)
    have hiw : IntKind.i64.wrap ((i : Int) + 1) = ((i + 1 : Nat) : Int) := by rw [w64 (by omega) (by omega)]; simp
    obtain ⟨ka, kc, hkv⟩ := hks'.len
    have hkl : ∀ K : Value → Prop, lenL kv K = K (.int .i64 ks.length) := by intro K; rw [hkv]; rfl
    have hi1 : d.l[i].1 < (crashL (d.l.take i) ks d.sure).length := by have := h.ok.len; simp only at this; omega
    have hsz := h.ok.sz1
    simp only at hsz
    have hL : crashL (d.l.take (i + 1)) ks d.sure = crash1 d.l[i] ks[i]? (crashL (d.l.take i) ks d.sure) := by
      rw [take_snoc hlt, crashL_snoc]; simp [Nat.min_eq_left hi]
    have hkd : ∀ w, Kp [] w w.drew := fun w => (Kp.refl _ w).drew
    rw [hia]
    by_cases hik : i < ks.length
    · obtain ⟨bk, ok, ck, Tk, frk, hbk, hkheap, hkia, hkc⟩ := hks'.at hik
      have hkne := live_of hkheap
      obtain ⟨q, hq⟩ : ∃ q, q = ks.getD i 0 := ⟨_, rfl⟩
      rw [← hq] at hkc
      have hki : ks[i]? = some q := by rw [hq]; simp [List.getD, hik]
      obtain ⟨n, hn⟩ : ∃ n, n = (max 0 (min q 32)).toNat := ⟨_, rfl⟩
      have hnq : max 0 (min q 32) = (n : Int) := by omega
      have hn32 : n ≤ 32 := by omega
      have hpre := pre_cells hsz hi1 (s := d.l[i].2.take n) (by simp; omega)
      have hmin : Nat.min 32 n = n := Nat.min_eq_right hn32
      have htl : (d.l[i].2.take n).length = n := by simp [hx.2, hn32]
      rw [htl] at hpre
      have honep := one_u8c (d.l[i].2.take n)
      obtain ⟨X, hX⟩ : ∃ X, X = (u8c (d.l[i].2.take n)).toArray := ⟨_, rfl⟩
      have hEX : E.extract 1 (1 + n) = X := by rw [hEx n hn32, hX]
      have hXs : X.size = n := by rw [hX]; simpa using htl
      rw [← hX] at hpre honep
      simp [-getElem?_pos, -Array.getElem?_eq_getElem, -List.length_flatten, List.getElem?_cons_zero, List.getElem?_cons_succ, hheap, hle, hext, hEs, hzsz, hone, hsp, h.hb, heap_new, heap_old, hlb, hls, hE0, hx.1, h.hs, hiw, hkl, hik, hkia, hkheap, hkc, hkne, hnq, hn32, cp, src, wrO, hmin, hEX, hXs, hpre]
      have hset := h'.setSure ((crashL (d.l.take i) ks d.sure).set d.l[i].1 (d.l[i].2.take n ++ ((crashL (d.l.take i) ks d.sure).getD d.l[i].1 []).drop n)) (by
        intro x hx'
        have hok := crashL_ok (n := d.now.length) (ks := ks) (l := d.l.take (i + 1)) h0.ok.sz1 (by have := h0.ok.len; exact this) (fun x hx => h0.ok.szl x (List.mem_of_mem_take hx))
        rw [hL, hki] at hok
        simp only [crash1, ← hn] at hok
        exact hok.1 x hx') (by simp)
      refine ⟨fun j hj => by rw [Array.all_eq_true] at hone; exact hone j (by omega), by omega, by omega, ⟨by rw [rows_len hsz]; omega, by rw [show min (1 + n) 33 - 1 = X.size by omega]; exact honep⟩, ?_⟩
      refine hin _ (by omega) ⟨i + 1, hlt, rfl, by simp, ?_, ?_⟩
      · rw [hL, hki]; simp only [crash1, ← hn]
        have := hset.1.keep (hkd _) (by simp)
        simpa using this
      · have := (hk.trans' ((hks1.mono (by simp)).trans' hset.2)).drew
        simpa using this
    · have hki : ks[i]? = none := by simp; omega
      simp [-getElem?_pos, -Array.getElem?_eq_getElem, -List.length_flatten, List.getElem?_cons_zero, List.getElem?_cons_succ, hheap, hle, hext, hEs, hzsz, hone, hsp, h.hb, heap_new, heap_old, hlb, hls, hE0, hx.1, h.hs, hiw, hkl, hik]
      refine ⟨fun j hj => by rw [Array.all_eq_true] at hone; exact hone j (by omega), ?_⟩
      refine hin _ (by omega) ⟨i + 1, hlt, rfl, by simp, ?_, hk.trans' (hks1.mono (by simp))⟩
      rw [hL, hki]
      exact h'
  · have hie : i = d.l.length := by simp at hge; omega
    subst hie
    rw [List.take_length] at h
    exact hend w h hk
theorem Crash_spec {w : World} {b : Nat} {d : DK} {S : List Nat} (h : DiskAt w b d S) (hl : d.l.length < 2 ^ 40) {kv : Value} {ks : List Int} {SK : List Nat} (hks : IntsAt w kv ks SK) (hdis : ∀ x ∈ SK, x ∉ S)
    (hkw : ∀ x ∈ ks, -9223372036854775808 ≤ x ∧ x < 9223372036854775808) {K : Value → World → Prop}
    (hK : ∀ w', DiskAt w' b (d.crash ks) S → Kp S w w' → K (.int .i64 0) w') : callG Tryz.prog 24 #[.pointer (some ⟨b, 0, none⟩), kv] w K := by
  refine disk_Disk_Crash_call ?_
  simp only [disk_Disk_Crash, disk_Disk_Crash_s4]
  refine Size_spec h ?_
  obtain ⟨bs, bn, lv, SL, T, Ts, Tn, rfl, h⟩ := h
  have hp : d.now ≠ [] := by intro hh; have := h.ok.pos; rw [hh] at this; simp at this
  obtain ⟨a, c, hlv⟩ := LogAt.len h.hl
  suffices hmain : disk_Disk_Crash_L2 K (.pointer (some ⟨b, 0, none⟩)) kv lv (.int .i64 d.l.length) (.int .i64 0) w by
    rw [hlv] at hmain
    simpa [hp, disk_Disk_Crash_s3, h.hb, hlv] using hmain
  refine Crash_loop h hl hks hdis hkw fun w1 h1 hk1 => ?_
  obtain ⟨n1, n2, n3, n4, n5, n6, n7, n8, n9, n10⟩ := h1.ne
  have hok := crashL_ok (n := d.now.length) (ks := ks) (l := d.l) h.ok.sz1 h.ok.len h.ok.szl
  -- now is what is sure
  obtain ⟨L, hL⟩ : ∃ L, L = crashL d.l ks d.sure := ⟨_, rfl⟩
  rw [← hL] at hok h1
  obtain ⟨C, hC⟩ : ∃ C, C = (L.map u8c).flatten.toArray := ⟨_, rfl⟩
  obtain ⟨N, hN⟩ : ∃ N, N = (d.now.map u8c).flatten.toArray := ⟨_, rfl⟩
  have hs := h1.hs
  have hn := h1.hn
  simp only at hs hn
  rw [← hC] at hs
  rw [← hN] at hn
  have hCs : C.size = d.now.length * 32 := by
    have := rows_len hok.1
    rw [hok.2] at this
    rw [hC]; exact this
  have hNs : N.size = d.now.length * 32 := by
    have := rows_len h.ok.sz2
    rw [hN]; exact this
  have hCone : C.all one = true := by
    rw [hC, List.all_toArray, List.all_eq_true]
    intro x hx
    rw [List.mem_flatten] at hx
    obtain ⟨y, hy, hxy⟩ := hx
    rw [List.mem_map] at hy
    obtain ⟨z, _, rfl⟩ := hy
    have := one_u8c z
    rw [List.all_toArray, List.all_eq_true] at this
    exact this x hxy
  have hCx : C.extract 0 (d.now.length * 32) = C := by rw [← hCs]; simp
  have hsp : splice N 0 C = C := by
    have : N.toList.drop C.size = [] := List.drop_of_length_le (by simp [hNs, hCs])
    simp [splice, this]
  have hlb := live_of h1.hb
  have hln := live_of h1.hn
  simp [-getElem?_pos, -Array.getElem?_eq_getElem, -List.length_flatten, List.getElem?_cons_zero, List.getElem?_cons_succ, disk_Disk_Crash_s0, h1.hb, hs, hn, cp, src, wrO, hCs, hNs, hCx, hsp, hCone]
  refine ⟨by rw [← hCs]; exact hCone, ?_⟩
  have hnow := h1.setNow L hok.1 hok.2
  rw [← hC] at hnow
  have hk2 : Kp [bn] w1 (setBlk w1 bn (.cells C Tn (0, 0))).drew := hnow.2.drew
  have h2 : DiskIs (setBlk w1 bn (.cells C Tn (0, 0))).drew b { sure := L, now := L, l := d.l, fuse := d.fuse, off := d.off } bs bn lv SL T Ts Tn := hnow.1.keep (Kp.refl [] _).drew (by simp)
  refine settles_spec ⟨bs, bn, lv, SL, T, Ts, Tn, rfl, h2⟩ fun w3 h3 hk3 => ?_
  obtain ⟨bs', bn', lv', SL', T', Ts', Tn', hS, h3⟩ := h3
  have hlv3 := live_of h3.hb
  have hhead := h3.head (-1) false (by omega) (by omega)
  simp only [List.cons.injEq, true_and] at hS
  obtain ⟨rfl, rfl, rfl⟩ := hS
  subst hL
  have := hK _ ⟨bs, bn, lv', SL, T', Ts', Tn', rfl, hhead.1⟩ ((((hk1.mono (by simp)).trans' (hk2.mono (by simp))).trans' hk3).trans' (hhead.2.mono (by simp)))
  simp [-getElem?_pos, -Array.getElem?_eq_getElem, -List.length_flatten, List.getElem?_cons_zero, List.getElem?_cons_succ, h3.hb, heap_self, hlv3]
  simpa [DK.settled] using this
end Go.Proofs

/- Bits of bytes. -/
set_option linter.unusedVariables false
set_option linter.unusedSimpArgs false
namespace Go.Q
variable {P : Program} {T : TypeId} {xo yo : Operand} {w : World} {K : Value → Prop}
theorem ofInt_u8 (v : UInt8) : BitVec.ofInt 8 (v.toNat : Int) = v.toBitVec := by
  apply BitVec.eq_of_toNat_eq
  rw [BitVec.toNat_ofInt]
  have := v.toNat_lt
  simp
  omega
theorem back_u8 (x : BitVec 8) : IntKind.u8.wrap (x.toNat : Int) = ((UInt8.ofBitVec x).toNat : Int) := wrap_natu8 x.isLt
theorem andu8_of {a b : UInt8} : qG P (bq .and T xo yo (.int .u8 a.toNat) (.int .u8 b.toNat)) w K = K (.int .u8 (a &&& b).toNat) :=
  qG_of (run_bq_int (s := .pure _) fun w => by
    simp only [binOp, ne_eq, not_true_eq_false, if_false, Op.intBits]
    show Result.ok _ _ = Result.ok _ _
    have : IntKind.u8.bits = 8 := rfl
    rw [this, ofInt_u8, ofInt_u8, back_u8]
    rfl)
theorem oru8_of {a b : UInt8} : qG P (bq .or T xo yo (.int .u8 a.toNat) (.int .u8 b.toNat)) w K = K (.int .u8 (a ||| b).toNat) :=
  qG_of (run_bq_int (s := .pure _) fun w => by
    simp only [binOp, ne_eq, not_true_eq_false, if_false, Op.intBits]
    show Result.ok _ _ = Result.ok _ _
    have : IntKind.u8.bits = 8 := rfl
    rw [this, ofInt_u8, ofInt_u8, back_u8]
    rfl)
theorem andNotu8_of {a b : UInt8} : qG P (bq .andNot T xo yo (.int .u8 a.toNat) (.int .u8 b.toNat)) w K = K (.int .u8 (a &&& ~~~b).toNat) :=
  qG_of (run_bq_int (s := .pure _) fun w => by
    simp only [binOp, ne_eq, not_true_eq_false, if_false, Op.intBits]
    show Result.ok _ _ = Result.ok _ _
    have : IntKind.u8.bits = 8 := rfl
    rw [this, ofInt_u8, ofInt_u8, back_u8]
    rfl)
def bitU (u : List UInt8) (n : Nat) : Bool := (u.getD (n / 8) 0).toNat.testBit (n % 8)
def maskB (j : Nat) : UInt8 := UInt8.ofNat (2 ^ j)
def setV (v : UInt8) (j : Nat) (is : Bool) : UInt8 := if is = true then (v &&& ~~~(maskB j)) ||| maskB j else v &&& ~~~(maskB j)
def setB (u : List UInt8) (n : Nat) (is : Bool) : List UInt8 := u.set (n / 8) (setV (u.getD (n / 8) 0) (n % 8) is)
theorem mask_bit {i j : Nat} (hj : j < 8) : (maskB j).toBitVec.getLsbD i = decide (i = j) := by
  have e : (maskB j).toBitVec = BitVec.twoPow 8 j := by
    apply BitVec.eq_of_toNat_eq
    have hlt : 2 ^ j < 2 ^ 8 := Nat.pow_lt_pow_right (by decide) hj
    show (maskB j).toNat = _
    rw [BitVec.toNat_twoPow]
    unfold maskB
    simp
  rw [e, BitVec.getLsbD_twoPow]
  by_cases h : i = j
  · subst h; simp [hj]
  · have : ¬ j = i := fun hh => h hh.symm
    simp [h, this]
theorem testBit_u8 (v : UInt8) (i : Nat) : v.toNat.testBit i = v.toBitVec.getLsbD i := rfl
theorem setV_bit {v : UInt8} {i j : Nat} {is : Bool} (hi : i < 8) (hj : j < 8) : (setV v j is).toNat.testBit i = if i = j then is else v.toNat.testBit i := by
  rw [testBit_u8, testBit_u8]
  have h1 : ∀ v : UInt8, (v &&& ~~~(maskB j)).toBitVec.getLsbD i = (v.toBitVec.getLsbD i && !decide (i = j)) := fun v => by
    show (v.toBitVec &&& ~~~(maskB j).toBitVec).getLsbD i = _
    rw [BitVec.getLsbD_and, BitVec.getLsbD_not, mask_bit hj]
    simp [hi]
  unfold setV
  cases is with
  | false =>
    rw [if_neg (by simp), h1]
    by_cases h : i = j <;> simp [h]
  | true =>
    rw [if_pos rfl]
    have h2 : ((v &&& ~~~(maskB j)) ||| maskB j).toBitVec.getLsbD i = ((v &&& ~~~(maskB j)).toBitVec.getLsbD i || (maskB j).toBitVec.getLsbD i) := by
      show ((v &&& ~~~(maskB j)).toBitVec ||| (maskB j).toBitVec).getLsbD i = _
      rw [BitVec.getLsbD_or]
    rw [h2, h1, mask_bit hj]
    by_cases h : i = j <;> simp [h]
theorem setB_len (u : List UInt8) (n : Nat) (is : Bool) : (setB u n is).length = u.length := by simp [setB]
theorem bit_set {u : List UInt8} {n m : Nat} {is : Bool} (hn : n < 8 * u.length) : bitU (setB u n is) m = if m = n then is else bitU u m := by
  have hd : n / 8 < u.length := by omega
  have hm8 : m % 8 < 8 := Nat.mod_lt _ (by decide)
  have hn8 : n % 8 < 8 := Nat.mod_lt _ (by decide)
  unfold bitU setB
  by_cases h : m / 8 = n / 8
  · have e : (u.set (n / 8) (setV (u.getD (n / 8) 0) (n % 8) is)).getD (m / 8) 0 = setV (u.getD (n / 8) 0) (n % 8) is := by
      rw [h]; simp [List.getD, hd]
    rw [e, setV_bit hm8 hn8, h]
    by_cases h2 : m % 8 = n % 8
    · have : m = n := by omega
      rw [if_pos h2, if_pos this]
    · have : ¬ m = n := fun hh => h2 (by rw [hh])
      rw [if_neg h2, if_neg this]
  · have e : (u.set (n / 8) (setV (u.getD (n / 8) 0) (n % 8) is)).getD (m / 8) 0 = u.getD (m / 8) 0 := by
      simp [List.getD, List.getElem?_set_ne (fun hh => h hh.symm)]
    rw [e, if_neg (fun hh => h (by rw [hh]))]
theorem bit_zero {n k : Nat} : bitU (List.replicate k 0) n = false := by
  unfold bitU
  have : (List.replicate k (0 : UInt8)).getD (n / 8) 0 = 0 := by
    simp only [List.getD, List.getElem?_replicate]
    split <;> rfl
  rw [this]
  exact Nat.zero_testBit _
theorem div_bit {v : UInt8} {j : Nat} : decide ((((UInt8.ofNat (v.toNat / 2 ^ j)) &&& 1).toNat : Int) = 1) = v.toNat.testBit j := by
  have hv := v.toNat_lt
  have hle : v.toNat / 2 ^ j ≤ v.toNat := Nat.div_le_self _ _
  have e : (UInt8.ofNat (v.toNat / 2 ^ j) &&& 1).toNat = v.toNat / 2 ^ j % 2 := by
    rw [UInt8.toNat_and, ofN8 (by omega)]
    exact Nat.and_one_is_mod _
  rw [e, Nat.testBit_eq_decide_div_mod_eq]
  apply decide_eq_decide.2
  omega
where ofN8 {n : Nat} (h : n < 256) : (UInt8.ofNat n).toNat = n := by simp; omega
end Go.Q

/- Maps from texts to numbers: what each operation does; going over them in any order. -/
set_option linter.unusedVariables false
set_option linter.unusedSimpArgs false
namespace Go.Q
open Go.MapKept
variable {P : Program}
structure SE where
  k : List UInt8
  v : Int
  b : Nat
def SE.ent (e : SE) : MapEntry := ⟨.string (str e.k), .int .i64 e.v, e.b⟩
def SE.kv (e : SE) : List UInt8 × Int := (e.k, e.v)
/-- a map's block -/
structure MapE (w : World) (n : Nat) (m : List SE) (clock : Nat) : Prop where
  blk : w.heap[n]? = some (.map (m.map SE.ent).toArray clock)
  nb : (m.map (·.b)).Nodup
  old : ∀ e ∈ m, e.b < clock
  nk : (m.map (·.k)).Nodup
def SMap (w : World) (n : Nat) (N : List (List UInt8 × Int)) : Prop := ∃ m clock, MapE w n m clock ∧ (m.map SE.kv).Perm N
structure SMapT (P : Program) (T kt et : TypeId) : Prop where
  hm : P.underlying T = some (.map kt et)
  hk : P.underlying kt = some .string
  hz : ∀ w, (zeroValue et).run P w = .ok (.int .i64 0) w
def getN (N : List (List UInt8 × Int)) (k : List UInt8) : Option Int := (N.find? fun x => decide (x.1 = k)).map (·.2)
def putN (N : List (List UInt8 × Int)) (k : List UInt8) (v : Int) : List (List UInt8 × Int) := (k, v) :: N.filter fun x => decide (x.1 ≠ k)
def dropN (N : List (List UInt8 × Int)) (k : List UInt8) : List (List UInt8 × Int) := N.filter fun x => decide (x.1 ≠ k)
theorem getN_some {N : List (List UInt8 × Int)} (hn : (N.map (·.1)).Nodup) {k : List UInt8} {v : Int} : getN N k = some v ↔ (k, v) ∈ N := by
  unfold getN
  induction N with
  | nil => simp
  | cons x r ih =>
    simp only [List.map_cons, List.nodup_cons] at hn
    by_cases h : x.1 = k
    · rw [List.find?_cons_of_pos (by simpa using h)]
      simp only [Option.map_some, Option.some.injEq, List.mem_cons]
      constructor
      · intro hv; left; rw [← h, ← hv]
      · rintro (hv | hv)
        · rw [← hv]
        · exact absurd (List.mem_map.2 ⟨_, hv, h.symm⟩) hn.1
    · rw [List.find?_cons_of_neg (by simpa using h), ih hn.2]
      simp only [List.mem_cons]
      constructor
      · exact .inr
      · rintro (hv | hv)
        · exact absurd (by rw [← hv]) h
        · exact hv
theorem getN_none {N : List (List UInt8 × Int)} {k : List UInt8} : getN N k = none ↔ ∀ x ∈ N, x.1 ≠ k := by
  unfold getN
  simp
theorem getN_perm {N N' : List (List UInt8 × Int)} (hn : (N.map (·.1)).Nodup) (h : N.Perm N') (k : List UInt8) : getN N k = getN N' k := by
  have hn' : (N'.map (·.1)).Nodup := (h.map _).nodup_iff.1 hn
  cases hg : getN N k with
  | none =>
    symm
    rw [getN_none] at hg ⊢
    exact fun x hx => hg x (h.mem_iff.2 hx)
  | some v =>
    symm
    rw [getN_some hn] at hg
    rw [getN_some hn']
    exact h.mem_iff.1 hg
section
variable {w w' : World} {n clock : Nat} {m : List SE} {N : List (List UInt8 × Int)} {T kt et : TypeId} {k : List UInt8}
theorem MapE.keep {S : List Nat} (h : MapE w n m clock) (hk : Kp S w w') (hn : n ∉ S) : MapE w' n m clock := ⟨hk.get h.blk hn, h.nb, h.old, h.nk⟩
theorem SMap.keep {S : List Nat} (h : SMap w n N) (hk : Kp S w w') (hn : n ∉ S) : SMap w' n N := by
  obtain ⟨m, c, h1, h2⟩ := h
  exact ⟨m, c, h1.keep hk hn, h2⟩
theorem SMap.perm {N' : List (List UInt8 × Int)} (h : SMap w n N) (hp : N.Perm N') : SMap w n N' := by
  obtain ⟨m, c, h1, h2⟩ := h
  exact ⟨m, c, h1, h2.trans hp⟩
theorem SMap.lt (h : SMap w n N) : n < w.heap.size := by
  obtain ⟨m, c, h1, h2⟩ := h
  exact lt_of_blk h1.blk
theorem SMap.nodup (h : SMap w n N) : (N.map (·.1)).Nodup := by
  obtain ⟨m, c, h1, h2⟩ := h
  refine (h2.map _).nodup_iff.1 ?_
  have := h1.nk
  rw [List.map_map]
  exact this
theorem strV_inj {a b : List UInt8} : (Value.string (str a) = Value.string (str b)) ↔ a = b := by
  constructor
  · intro h
    injection h with h
    simp only [str, ByteArray.mk.injEq] at h
    simpa using h
  · rintro rfl; rfl
theorem isKey_s (a : List UInt8) : IsKey .string (.string (str a)) := trivial
/-- where a key stands -/
theorem find_spec (m : List SE) (k : List UInt8) : (Instr.findNow .string (.string (str k)) (m.map SE.ent) 0 = some none ∧ ∀ e ∈ m, e.k ≠ k) ∨
    ∃ j, ∃ h : j < m.length, Instr.findNow .string (.string (str k)) (m.map SE.ent) 0 = some (some (j, .int .i64 m[j].v)) ∧ m[j].k = k := by
  rcases findNow_spec (isKey_s k) (m.map SE.ent) 0 (fun x hx => by obtain ⟨e, _, rfl⟩ := List.mem_map.1 hx; exact isKey_s e.k) with ⟨h1, h2⟩ | ⟨j, e, h1, h2, h3⟩
  · exact .inl ⟨h1, fun e he hk => h2 e.ent (List.mem_map.2 ⟨e, he, rfl⟩) (by rw [← hk]; rfl)⟩
  · right
    obtain ⟨hj, hje⟩ := List.getElem?_eq_some_iff.1 h2
    have hj' : j < m.length := by simpa using hj
    have he : e = (m[j]).ent := by rw [← hje]; simp
    refine ⟨j, hj', ?_, ?_⟩
    · rw [h1, he, Nat.zero_add]; rfl
    · rw [he] at h3
      exact strV_inj.1 h3
theorem SMap.look (ht : SMapT P T kt et) (h : SMap w n N) (ok : Bool) :
    (Instr.lookup T (.map (some n)) (.string (str k)) ok).run P w = .ok (if ok = true then .tuple #[.int .i64 ((getN N k).getD 0), .bool (getN N k).isSome] else .int .i64 ((getN N k).getD 0)) w := by
  have hnd := h.nodup
  obtain ⟨m, c, h1, h2⟩ := h
  have hp : ∀ x : Array MapEntry, (pure x : Sem (Array MapEntry)).run P w = .ok x w := fun _ => rfl
  have hnk : ((m.map SE.kv).map (·.1)).Nodup := by rw [List.map_map]; exact h1.nk
  have hgo := Go.MapKept.run_getObj_map (P := P) h1.blk
  have hc := fun e n => run_checkKey (P := P) (w := w) ht.hk (isKey_s k) e n
  rw [← getN_perm hnk h2 k]
  rcases find_spec m k with ⟨g1, g2⟩ | ⟨j, hj, g1, g2⟩
  · have hg : getN (m.map SE.kv) k = none := getN_none.2 fun x hx => by obtain ⟨e, he, rfl⟩ := List.mem_map.1 hx; exact g2 e he
    have hf : (Instr.findKey kt (.string (str k)) (m.map SE.ent).toArray.toList).run P w = .ok none w := run_findKey ht.hk g1
    rw [hg]
    simp only [Instr.lookup, Sem.run_bind, run_underlying ht.hm, Result.andThen_ok, hgo, hp, hc, hf, ht.hz]
    cases ok <;> rfl
  · have hg : getN (m.map SE.kv) k = some m[j].v := (getN_some hnk).2 (List.mem_map.2 ⟨m[j], List.getElem_mem hj, by rw [← g2]; rfl⟩)
    have hf : (Instr.findKey kt (.string (str k)) (m.map SE.ent).toArray.toList).run P w = .ok (some (j, .int .i64 m[j].v)) w := run_findKey ht.hk g1
    rw [hg]
    simp only [Instr.lookup, Sem.run_bind, run_underlying ht.hm, Result.andThen_ok, hgo, hp, hc, hf]
    cases ok <;> rfl
theorem SMap.get2 (ht : SMapT P T kt et) (h : SMap w n N) {K : Value → Prop} (hK : K (.tuple #[.int .i64 ((getN N k).getD 0), .bool (getN N k).isSome])) : qG P (Instr.lookup T (.map (some n)) (.string (str k)) true) w K := by
  rw [qG_of (h.look ht true)]; exact hK
theorem SMap.get (ht : SMapT P T kt et) (h : SMap w n N) {K : Value → Prop} (hK : K (.int .i64 ((getN N k).getD 0))) : qG P (Instr.lookup T (.map (some n)) (.string (str k)) false) w K := by
  rw [qG_of (h.look ht false)]; exact hK
theorem SMap.new {K : Value → World → Prop} (hK : ∀ n w', w.heap.size ≤ n → Kp [] w w' → SMap w' n [] → K (.map (some n)) w') : eG P (Instr.makeMap T none) w K :=
  eG_of (v := .map (some w.heap.size)) (w' := w.alloc (.map #[] 0)) rfl (hK _ _ (Nat.le_refl _) ((Kp.refl [] w).alloc _) ⟨[], 0, ⟨heap_new, by simp, by simp, by simp⟩, by simp⟩)
theorem SMap.put (ht : SMapT P T kt et) (h : SMap w n N) (v : Int) {K : World → Prop} (hK : ∀ w', SMap w' n (putN N k v) → Kp [n] w w' → K w') : uG P (Instr.mapUpdate T (.map (some n)) (.string (str k)) (.int .i64 v)) w K := by
  obtain ⟨m, c, h1, h2⟩ := h
  have hgo := Go.MapKept.run_getObj_map (P := P) h1.blk
  have hso := fun o => Go.MapKept.run_setObj_map (P := P) o h1.blk
  have hc := fun e n => run_checkKey (P := P) (w := w) ht.hk (isKey_s k) e n
  have hlv := lt_of_blk h1.blk
  rcases find_spec m k with ⟨g1, g2⟩ | ⟨j, hj, g1, g2⟩
  · have hf : (Instr.findKey kt (.string (str k)) (m.map SE.ent).toArray.toList).run P w = .ok none w := run_findKey ht.hk g1
    refine uG_of (w' := setBlk w n (.map ((m.map SE.ent).toArray.push ⟨.string (str k), .int .i64 v, c⟩) (c + 1))) ?_ (hK _ ⟨m ++ [⟨k, v, c⟩], c + 1, ⟨?_, ?_, ?_, ?_⟩, ?_⟩ ((Kp.refl _ w).setBlk (.inl (by simp)) _))
    · simp only [Instr.mapUpdate, Sem.run_bind, run_underlying ht.hm, Result.andThen_ok, hgo, hc, hf, hso]
      rfl
    · rw [heap_self (live_of h1.blk)]
      simp [SE.ent]
    · rw [List.map_append, List.nodup_append]
      refine ⟨h1.nb, by simp, fun a ha b hb => ?_⟩
      simp at hb
      obtain ⟨e, he, rfl⟩ := List.mem_map.1 ha
      have := h1.old e he
      omega
    · intro e he
      rcases List.mem_append.1 he with he | he
      · have := h1.old e he; omega
      · simp at he; rw [he]; simp
    · rw [List.map_append, List.nodup_append]
      refine ⟨h1.nk, by simp, fun a ha b hb => ?_⟩
      simp at hb
      obtain ⟨e, he, rfl⟩ := List.mem_map.1 ha
      rw [hb]; exact g2 e he
    · have hfl : N.filter (fun x => decide (x.1 ≠ k)) = N := by
        rw [List.filter_eq_self]
        intro x hx
        obtain ⟨e, he, hex⟩ := List.mem_map.1 (h2.mem_iff.2 hx)
        rw [← hex, decide_eq_true_eq]
        exact g2 e he
      unfold putN
      rw [hfl, List.map_append]
      refine (List.perm_append_comm).trans ?_
      exact List.Perm.cons _ h2
  · have hf : (Instr.findKey kt (.string (str k)) (m.map SE.ent).toArray.toList).run P w = .ok (some (j, .int .i64 m[j].v)) w := run_findKey ht.hk g1
    have hks : (Instr.keyThatStays (.string (str k)) (.string (str k))).run P w = .ok (.string (str k)) w := run_keyThatStays (isKey_s k)
    have hgj : (m.map SE.ent).toArray[j]? = some m[j].ent := by simp [hj]
    have hek : m[j].ent.key = .string (str k) := by rw [← g2]; rfl
    refine uG_of (w' := setBlk w n (.map ((m.map SE.ent).toArray.modify j fun e => { e with key := .string (str k), val := .int .i64 v }) c)) ?_ (hK _ ⟨m.set j ⟨k, v, m[j].b⟩, c, ⟨?_, ?_, ?_, ?_⟩, ?_⟩ ((Kp.refl _ w).setBlk (.inl (by simp)) _))
    · simp [Instr.mapUpdate, Sem.run_bind, run_underlying ht.hm, hgo, hc, hf, hso, hgj, hek, hks, Result.andThen, hj]
      rfl
    · rw [heap_self (live_of h1.blk)]
      congr 2
      apply Array.ext_getElem?
      intro i
      rw [Array.getElem?_modify]
      by_cases e : j = i
      · subst e; simp [hj, SE.ent]
      · simp [e, List.getElem?_set_ne e]
    · rw [List.map_set]
      have : (m.map (·.b)).set j m[j].b = m.map (·.b) := by
        apply List.ext_getElem?
        intro i
        rw [List.getElem?_set]
        split
        · rename_i h; subst h; simp [hj]
        · rfl
      rw [this]; exact h1.nb
    · intro e he
      rcases List.mem_or_eq_of_mem_set he with he | he
      · exact h1.old e he
      · rw [he]; exact h1.old m[j] (List.getElem_mem hj)
    · rw [List.map_set]
      have : (m.map (·.k)).set j k = m.map (·.k) := by
        apply List.ext_getElem?
        intro i
        rw [List.getElem?_set]
        split
        · rename_i h; subst h; simp [hj, g2]
        · rfl
      rw [this]; exact h1.nk
    · have hm : m = m.take j ++ m[j] :: m.drop (j + 1) := by rw [← List.drop_eq_getElem_cons hj, List.take_append_drop]
      have hnk := h1.nk
      rw [hm, List.map_append, List.map_cons, List.nodup_append] at hnk
      obtain ⟨_, q2, q3⟩ := hnk
      rw [List.nodup_cons] at q2
      have hA : ∀ e ∈ m.take j, e.k ≠ k := fun e he hk => q3 _ (List.mem_map.2 ⟨e, he, rfl⟩) m[j].k List.mem_cons_self (hk.trans g2.symm)
      have hB : ∀ e ∈ m.drop (j + 1), e.k ≠ k := fun e he hk => q2.1 (List.mem_map.2 ⟨e, he, hk.trans g2.symm⟩)
      have hf : ((m.map SE.kv).filter fun x => decide (x.1 ≠ k)) = (m.take j).map SE.kv ++ (m.drop (j + 1)).map SE.kv := by
        conv => lhs; rw [hm]
        rw [List.map_append, List.map_cons, List.filter_append, List.filter_cons_of_neg (by simp [SE.kv, g2])]
        congr 1
        · rw [List.filter_eq_self]; intro x hx; obtain ⟨e, he, rfl⟩ := List.mem_map.1 hx; rw [decide_eq_true_eq]; exact hA e he
        · rw [List.filter_eq_self]; intro x hx; obtain ⟨e, he, rfl⟩ := List.mem_map.1 hx; rw [decide_eq_true_eq]; exact hB e he
      have hs : (m.set j ⟨k, v, m[j].b⟩).map SE.kv = (m.take j).map SE.kv ++ (k, v) :: (m.drop (j + 1)).map SE.kv := by
        rw [List.set_eq_take_append_cons_drop, if_pos hj, List.map_append, List.map_cons]; rfl
      rw [hs]
      unfold putN
      refine List.perm_middle.trans (List.Perm.cons _ ?_)
      rw [← hf]
      exact h2.filter _
/-! ### going over a map -/
/-- an iterator that has handed out these -/
def It (w : World) (it n clock : Nat) (done : List SE) : Prop := w.heap[it]? = some (.mapIter (some n) clock (done.map (·.b)).toArray clock)
theorem It.keep {S : List Nat} {it : Nat} {done : List SE} (h : It w it n clock done) (hk : Kp S w w') (hn : it ∉ S) : It w' it n clock done := hk.get h hn
theorem it_new (ht : SMapT P T kt et) (h : MapE w n m clock) {K : Value → World → Prop} (hK : ∀ it w', w.heap.size ≤ it → Kp [] w w' → It w' it n clock [] → K (.pointer (some ⟨it, 0, none⟩)) w') : eG P (Instr.range T (.map (some n))) w K :=
  eG_of (run_range_map w T kt et n _ clock ht.hm h.blk) (hK _ _ (Nat.le_refl _) ((Kp.refl [] w).alloc _) heap_new)
theorem left_of (m done : List SE) : (leftOf (m.map SE.ent).toArray (done.map (·.b)).toArray).toList = (m.filter fun e => decide (e.b ∉ done.map (·.b))).map SE.ent := by
  unfold leftOf
  simp only [Array.toList_filter, List.filter_map]
  congr 1
  apply List.filter_congr
  intro e he
  by_cases h : ∃ a, a ∈ done ∧ a.b = e.b
  · simp [SE.ent, h]
  · simp [SE.ent, h]
theorem it_next {it : Nat} {done : List SE} {ty : TypeId} (h : MapE w n m clock) (hi : It w it n clock done) {K : Value → World → Prop}
    (h0 : (∀ e ∈ m, e.b ∈ done.map (·.b)) → K (.tuple #[.bool false]) w)
    (h1 : ∀ e ∈ m, e.b ∉ done.map (·.b) → ∀ w', Kp [it] w w' → It w' it n clock (done ++ [e]) → K (.tuple #[.bool true, e.ent.key, e.ent.val]) w') : eG P (Instr.next (.pointer (some ⟨it, 0, none⟩)) false ty) w K := by
  have hb := hi
  unfold It at hb
  have hs := h.old
  have hbm := h.blk
  have hold : ∀ x ∈ (m.map SE.ent).toArray.toList, x.born < clock := fun x hx => by
    obtain ⟨e, he, rfl⟩ := List.mem_map.1 hx
    exact hs e he
  have hlo := left_of m done
  have hrun : ((leftOf (m.map SE.ent).toArray (done.map (·.b)).toArray).size = 0 ∧ (Instr.next (.pointer (some ⟨it, 0, none⟩)) false ty).run P w = .ok (.tuple #[.bool false]) w) ∨
      ∃ e ∈ (leftOf (m.map SE.ent).toArray (done.map (·.b)).toArray).toList, ∃ w1 : World, (w1 = w ∨ w1 = w.drew) ∧ (Instr.next (.pointer (some ⟨it, 0, none⟩)) false ty).run P w = .ok (.tuple #[.bool true, e.key, e.val]) (setBlk w1 it (.mapIter (some n) clock ((done.map (·.b)).toArray.push e.born) clock)) := by
    simp only [Instr.next, getObj, Sem.run_bind, Sem.run, hb, hbm, Result.andThen, next_test_false (done.map (·.b)).toArray (m.map SE.ent).toArray clock clock hold (Nat.le_refl _), Bool.false_eq_true, if_false]
    unfold leftOf
    have hmem : ∀ x ∈ (Array.filter (fun e => !(done.map (·.b)).toArray.contains e.born) (m.map SE.ent).toArray).toList, x.born < clock := fun x hx => hold x (by simp at hx ⊢; exact hx.1)
    generalize Array.filter (fun e => !(done.map (·.b)).toArray.contains e.born) (m.map SE.ent).toArray = L at hmem ⊢
    have e1 : L.filter (fun x => decide (x.born < clock)) = L := Array.filter_eq_self.2 (fun x hx => by simpa using hmem x (by simpa using hx))
    have e2 : L.filter (fun x => decide (x.born ≥ clock)) = #[] := by
      rw [Array.filter_eq_empty_iff]
      intro x hx
      have := hmem x (by simpa using hx)
      simp
      omega
    simp only [e1, e2, Array.append_empty]
    by_cases h0 : L.size = 0
    · left
      have : L = #[] := Array.eq_empty_of_size_eq_zero h0
      subst this
      refine ⟨rfl, ?_⟩
      simp [choose, Sem.run, Question.forced]
    · right
      have hne : L.isEmpty = false := by simp [Array.isEmpty, h0]
      simp only [hne, Bool.false_eq_true, if_false, Array.empty_append, Array.size_map]
      have hch : ∃ (j : Nat) (w1 : World), j < L.size ∧ (w1 = w ∨ w1 = w.drew) ∧ (choose (Question.mapNext L.size)).run P w = .ok j w1 := by
        by_cases hf : L.size ≤ 1
        · exact ⟨0, w, by omega, .inl rfl, by simp [choose, Sem.run, Question.forced, hf]⟩
        · exact ⟨_, w.drew, Nat.mod_lt _ (by omega), .inr rfl, by
            simp only [choose, Sem.run, Question.forced, decide_eq_true_eq, hf, if_false, Question.cut]
            rfl⟩
      obtain ⟨j, w1, hj, hal, hrun⟩ := hch
      refine ⟨L[j], by simp, w1, hal, ?_⟩
      have hb1 : w1.heap[it]? = some (.mapIter (some n) clock (done.map (·.b)).toArray clock) := by
        rcases hal with rfl | rfl
        · exact hb
        · exact hb
      have hset : ∀ o : Obj, (setObj it o).run P w1 = .ok () (setBlk w1 it o) := fun o => by
        simp [setObj, Sem.run, hb1, setBlk]
      simp only [hrun, Array.getElem?_map, Array.getElem?_eq_getElem hj, Option.map_some, Sem.run_bind, hset, Result.andThen]
      rfl
  rcases hrun with ⟨g1, g2⟩ | ⟨x, hx, w1, hw1, g2⟩
  · refine eG_of g2 (h0 fun e he => ?_)
    have : (leftOf (m.map SE.ent).toArray (done.map (·.b)).toArray).toList = [] := by
      apply List.length_eq_zero_iff.1
      simpa using g1
    rw [hlo, List.map_eq_nil_iff, List.filter_eq_nil_iff] at this
    have := this e he
    simpa using this
  · rw [hlo] at hx
    obtain ⟨e, he, rfl⟩ := List.mem_map.1 hx
    rw [List.mem_filter, decide_eq_true_eq] at he
    have hlv : it < w1.heap.size := by rcases hw1 with rfl | rfl <;> exact lt_of_blk hb
    refine eG_of g2 (h1 e he.1 he.2 _ ?_ ?_)
    · have : Kp [it] w w1 := by rcases hw1 with rfl | rfl; exact Kp.refl _ _; exact (Kp.refl _ _).drew
      exact this.setBlk (.inl (by simp)) _
    · unfold It
      rw [heap_self hlv]
      simp [SE.ent]
/-- what was handed out last -/
theorem it_entry {it : Nat} {done : List SE} {e : SE} (h : MapE w n m clock) (he : e ∈ m) (hi : It w it n clock (done ++ [e])) {K : Value → World → Prop} (hK : K (.tuple #[e.ent.key, e.ent.val]) w) : eG P (Instr.entry (.pointer (some ⟨it, 0, none⟩))) w K := by
  have hb := hi
  unfold It at hb
  refine eG_of (v := .tuple #[e.ent.key, e.ent.val]) (w' := w) ?_ hK
  have hf : (m.map SE.ent).toArray.find? (·.born == e.b) = some e.ent := by
    rw [← Array.find?_toList]
    exact find_born e.ent (m.map SE.ent) (by rw [List.map_map]; exact h.nb) (List.mem_map.2 ⟨e, he, rfl⟩)
  have hl : ((done ++ [e]).map (·.b)).toArray.back? = some e.b := by simp
  simp only [Instr.entry, getObj, Sem.run_bind, Sem.run, hb, h.blk, Result.andThen, hl, bne_self_eq_false, Bool.false_eq_true, if_false, hf]
  rfl
theorem born_inj {m : List SE} (h : (m.map (·.b)).Nodup) {a e : SE} (ha : a ∈ m) (he : e ∈ m) (hb : a.b = e.b) : a = e := by
  induction m with
  | nil => cases ha
  | cons x r ih =>
    rw [List.map_cons, List.nodup_cons] at h
    rcases List.mem_cons.1 ha with h1 | h1
    · rcases List.mem_cons.1 he with h2 | h2
      · rw [h1, h2]
      · exact absurd (List.mem_map.2 ⟨e, h2, by rw [← hb, h1]⟩) h.1
    · rcases List.mem_cons.1 he with h2 | h2
      · exact absurd (List.mem_map.2 ⟨a, h1, by rw [hb, h2]⟩) h.1
      · exact ih h.2 h1 h2
theorem nodup_of_born {m : List SE} (h : (m.map (·.b)).Nodup) : m.Nodup := (List.pairwise_map.1 h).imp fun hne he => hne (congrArg SE.b he)
theorem it_all {m done : List SE} (h : (m.map (·.b)).Nodup) (hd : (done.map (·.b)).Nodup) (hs : ∀ e ∈ done, e ∈ m) (ha : ∀ e ∈ m, e.b ∈ done.map (·.b)) : done.Perm m := by
  rw [List.perm_ext_iff_of_nodup (nodup_of_born hd) (nodup_of_born h)]
  intro e
  refine ⟨hs e, fun he => ?_⟩
  obtain ⟨a, ha', hb⟩ := List.mem_map.1 (ha e he)
  rw [← born_inj h (hs a ha') he hb]
  exact ha'
theorem done_snoc {done : List SE} {e : SE} (hd : (done.map (·.b)).Nodup) (he : e.b ∉ done.map (·.b)) : ((done ++ [e]).map (·.b)).Nodup := by
  rw [List.map_append, List.nodup_append]
  refine ⟨hd, by simp, fun a ha b hb => ?_⟩
  simp at hb
  rintro rfl
  rw [hb] at ha
  exact he ha
end
end Go.Q

/- Layer 13: bits in use; a space in memory; its sectors. -/
set_option maxRecDepth 100000
set_option linter.unusedVariables false
set_option linter.unusedSimpArgs false
namespace Go.Proofs
open Go Go.Q
def hasU (u : List UInt8) (n : Int) : Bool := decide (1 ≤ n ∧ n < 504 ∧ bitU u n.toNat = true)
section
variable {w : World} {p T : Nat} {pre post : List Value} {u : List UInt8} {R : Value → World → Prop}
theorem has_U {fr : Nat × Nat} (h : w.heap[p]? = some (.cells (arC pre u post) T fr)) (hu : u.length = 63) {o : Nat} (ho : o = pre.length) (n : Int) (hR : R (.bool (hasU u n)) w) : callG Tryz.prog 53 #[.pointer (some ⟨p, o, none⟩), .int .i64 n] w R := by
  refine space_bits_has_call ?_
  unfold space_bits_has space_bits_has_s0
  unfold hasU at hR
  simp only [bq_geq, bq_lss, bV_b, decide_eq_true_eq, decide_eq_false_iff_not]
  refine ⟨fun h1 => ⟨fun h2 => ?_, fun h2 => ?_⟩, fun h1 => ?_⟩
  · obtain ⟨m, rfl⟩ : ∃ m : Nat, n = m := ⟨n.toNat, by omega⟩
    have hm : m < 504 := by omega
    have e1 : ((m : Int) / 8) = ((m / 8 : Nat) : Int) := by simp
    have e2 : ((m : Int) % 8) = ((m % 8 : Nat) : Int) := by simp
    have hd : m / 8 < u.length := by omega
    rw [quo_of (by omega) (by omega), e1, wrap_nat64 (by omega), nk_p, iaA_p]
    refine ⟨by omega, ?_⟩
    rw [Int.toNat_natCast, Nat.mul_one, ar_ld h hd (by rw [ho]), rem_of (by omega) (by omega), e2, shr_of (by omega) (by show ((m % 8 : Nat) : Int) < ((8 : Nat) : Int); omega), Int.toNat_natCast]
    have hv := (u[m / 8]).toNat_lt
    have hle : u[m / 8].toNat / 2 ^ (m % 8) ≤ u[m / 8].toNat := Nat.div_le_self _ _
    have e3 : ((u[m / 8].toNat : Int) / 2 ^ (m % 8)) = ((UInt8.ofNat (u[m / 8].toNat / 2 ^ (m % 8))).toNat : Int) := by
      rw [ofN (by omega)]; simp
    have e4 : (.int .u8 1 : Value) = .int .u8 (((1 : UInt8).toNat : Nat) : Int) := rfl
    rw [e3, e4, andu8_of]
    have e5 : (((1 : UInt8).toNat : Nat) : Int) = 1 := rfl
    rw [bq_eql, e5, div_bit]
    have e6 : u[m / 8].toNat.testBit (m % 8) = bitU u m := by unfold bitU; simp [List.getD, hd]
    rw [e6]
    have : decide (1 ≤ (m : Int) ∧ (m : Int) < 504 ∧ bitU u (m : Int).toNat = true) = bitU u m := by
      rw [Int.toNat_natCast]
      cases bitU u m
      · simp
      · simp; omega
    rw [this] at hR
    exact hR
  · rw [decide_eq_false (by omega)] at hR; exact hR
  · rw [decide_eq_false (by omega)] at hR; exact hR
theorem set_U (h : w.heap[p]? = some (.cells (arC pre u post) T)) (hu : u.length = 63) {o : Nat} (ho : o = pre.length) {n : Nat} (hn : n < 504) (is : Bool) (hR : ∀ w', w'.heap[p]? = some (.cells (arC pre (setB u n is) post) T) → Kp [p] w w' → R (.tuple #[]) w') : callG Tryz.prog 56 #[.pointer (some ⟨p, o, none⟩), .int .i64 (n : Nat), .bool is] w R := by
  refine space_bits_set_call ?_
  unfold space_bits_set space_bits_set_s0
  have e1 : ((n : Int) / 8) = ((n / 8 : Nat) : Int) := by simp
  have e2 : ((n : Int) % 8) = ((n % 8 : Nat) : Int) := by simp
  have hd : n / 8 < u.length := by omega
  have hdr : w.drew.heap[p]? = some (.cells (arC pre u post) T) := h
  have hsh : ∀ (w : World) (xo yo : Operand) (K : Value → Prop), qG Tryz.prog (bq .shl 5 xo yo (.int .u8 1) (.int .i64 ((n % 8 : Nat) : Int))) w K = K (.int .u8 ((maskB (n % 8)).toNat : Nat)) := fun w xo yo K => by
    rw [shl_of (by omega) (by show ((n % 8 : Nat) : Int) < ((8 : Nat) : Int); omega), Int.toNat_natCast]
    congr 2
    have : (1 : Int) * 2 ^ (n % 8) = ((2 ^ (n % 8) : Nat) : Int) := by simp
    rw [this]
    exact wrap_u8_nat
  rw [quo_of (by omega) (by omega), e1, wrap_nat64 (by omega), nk_p, iaA_p]
  refine ⟨by omega, ?_⟩
  rw [Int.toNat_natCast, Nat.mul_one, ar_ld hdr hd (by rw [ho]), rem_of (by omega) (by omega), e2, hsh, andNotu8_of, nk_p, iaA_p]
  refine ⟨by omega, ?_⟩
  rw [Int.toNat_natCast, Nat.mul_one, ar_st hdr hd (by rw [ho])]
  have eg : u[n / 8] = u.getD (n / 8) 0 := by simp [List.getD, hd]
  have hw1 : (setBlk w.drew p (.cells (arC pre (u.set (n / 8) (u[n / 8] &&& ~~~maskB (n % 8))) post) T)).heap[p]? = some (.cells (arC pre (u.set (n / 8) (u[n / 8] &&& ~~~maskB (n % 8))) post) T) := heap_self (live_of hdr)
  have k1 : Kp [p] w (setBlk w.drew p (.cells (arC pre (u.set (n / 8) (u[n / 8] &&& ~~~maskB (n % 8))) post) T)) := ((Kp.refl [p] w).drew).setBlk (.inl (by simp)) _
  cases is with
  | false =>
    simp only [bV_b]
    refine ⟨fun h => by simp at h, fun _ => ?_⟩
    refine hR _ ?_ k1
    rw [hw1, eg]
    rfl
  | true =>
    simp only [bV_b]
    refine ⟨fun _ => ?_, fun h => by simp at h⟩
    generalize setBlk w.drew p (.cells (arC pre (u.set (n / 8) (u[n / 8] &&& ~~~maskB (n % 8))) post) T) = w1 at *
    have hd1 : w1.drew.heap[p]? = some (.cells (arC pre (u.set (n / 8) (u[n / 8] &&& ~~~maskB (n % 8))) post) T) := hw1
    have hd2 : n / 8 < (u.set (n / 8) (u[n / 8] &&& ~~~maskB (n % 8))).length := by simpa using hd
    rw [quo_of (by omega) (by omega), e1, wrap_nat64 (by omega), nk_p, iaA_p]
    refine ⟨by omega, ?_⟩
    rw [Int.toNat_natCast, Nat.mul_one, ar_ld hd1 hd2 (by rw [ho]), rem_of (by omega) (by omega), e2, hsh]
    have e7 : (u.set (n / 8) (u[n / 8] &&& ~~~maskB (n % 8)))[n / 8]'hd2 = u[n / 8] &&& ~~~maskB (n % 8) := by simp
    rw [e7, oru8_of, nk_p, iaA_p]
    refine ⟨by omega, ?_⟩
    rw [Int.toNat_natCast, Nat.mul_one, ar_st hd1 hd2 (by rw [ho]), List.set_set]
    refine hR _ ?_ ((k1.drew).setBlk (.inl (by simp)) _)
    rw [heap_self (live_of hd1), eg]
    rfl
end
/-! ### a space in memory -/
structure SP where
  d : DK
  from_ : Nat
  pages : Nat
  turn : Nat
  su : List UInt8
  nu : List UInt8
  sn : List (List UInt8 × Int)
  nn : List (List UInt8 × Int)
def spH (bd : Nat) (s : SP) : List Value := [.pointer (some ⟨bd, 0, none⟩), .int .i64 (s.from_ : Nat), .int .i64 (s.pages : Nat), .int .i64 (s.turn : Nat)]
def spC (bd : Nat) (s : SP) (ms mn : Nat) : Array Value := arC (spH bd s) s.su ([.map (some ms)] ++ (u8c s.nu ++ [.map (some mn)]))
theorem spC_now (bd : Nat) (s : SP) (ms mn : Nat) : spC bd s ms mn = arC (spH bd s ++ (u8c s.su ++ [.map (some ms)])) s.nu [.map (some mn)] := by simp [spC, arC]
structure SpAt (w : World) (b bd : Nat) (s : SP) (Sd : List Nat) (ms mn : Nat) : Prop where
  cell : w.heap[b]? = some (.cells (spC bd s ms mn) 59)
  disk : DiskAt w bd s.d Sd
  mS : SMap w ms s.sn
  mN : SMap w mn s.nn
  lsu : s.su.length = 63
  lnu : s.nu.length = 63
  nd : (b :: ms :: mn :: Sd).Nodup
  fit : s.from_ + 8 * (s.pages + 3) ≤ s.d.now.length
  most : 1 ≤ s.pages ∧ s.pages ≤ 500
  tn : s.turn < 2 ^ 20
theorem DiskAt.nodup {w : World} {b : Nat} {d : DK} {S : List Nat} (h : DiskAt w b d S) : S.Nodup := by
  obtain ⟨bs, bn, lv, SL, T, Ts, Tn, rfl, h⟩ := h
  exact h.nd
theorem DiskAt.lts {w : World} {b : Nat} {d : DK} {S : List Nat} (h : DiskAt w b d S) : ∀ x ∈ S, x < w.heap.size := by
  obtain ⟨bs, bn, lv, SL, T, Ts, Tn, rfl, h⟩ := h
  exact h.live
theorem DiskAt.dlen {w : World} {b : Nat} {d : DK} {S : List Nat} (h : DiskAt w b d S) : d.now.length ≤ 4096 := by
  obtain ⟨bs, bn, lv, SL, T, Ts, Tn, rfl, h⟩ := h
  exact h.ok.most
section
variable {w w' : World} {b bd : Nat} {s : SP} {Sd : List Nat} {ms mn : Nat} {R : Value → World → Prop}
theorem SpAt.apart (h : SpAt w b bd s Sd ms mn) : b ≠ ms ∧ b ≠ mn ∧ b ∉ Sd ∧ ms ≠ mn ∧ ms ∉ Sd ∧ mn ∉ Sd := by
  have := h.nd
  simp only [List.nodup_cons, List.mem_cons, not_or] at this
  exact ⟨this.1.1, this.1.2.1, this.1.2.2, this.2.1.1, this.2.1.2, this.2.2.1⟩
theorem SpAt.keep {S : List Nat} (h : SpAt w b bd s Sd ms mn) (hk : Kp S w w') (hS : ∀ x ∈ b :: ms :: mn :: Sd, x ∉ S) : SpAt w' b bd s Sd ms mn :=
  ⟨hk.get h.cell (hS _ (by simp)), h.disk.keep hk fun x hx => hS x (by simp [hx]), h.mS.keep hk (hS _ (by simp)), h.mN.keep hk (hS _ (by simp)), h.lsu, h.lnu, h.nd, h.fit, h.most, h.tn⟩
theorem SpAt.keep0 (h : SpAt w b bd s Sd ms mn) (hk : Kp [] w w') : SpAt w' b bd s Sd ms mn := h.keep hk (by simp)
theorem SpAt.lts (h : SpAt w b bd s Sd ms mn) : ∀ x ∈ b :: ms :: mn :: Sd, x < w.heap.size := by
  intro x hx
  simp only [List.mem_cons] at hx
  rcases hx with rfl | rfl | rfl | hx
  · exact lt_of_blk h.cell
  · exact h.mS.lt
  · exact h.mN.lt
  · exact h.disk.lts x hx
/-- the disk is another one -/
theorem SpAt.setD (h : SpAt w b bd s Sd ms mn) {d' : DK} {S' : List Nat} (hd : DiskAt w' bd d' S') (hk : Kp Sd w w') (hS : ∀ x ∈ S', x ∈ Sd ∨ w.heap.size ≤ x) (hl : d'.now.length = s.d.now.length) : SpAt w' b bd { s with d := d' } S' ms mn := by
  obtain ⟨a1, a2, a3, a4, a5, a6⟩ := h.apart
  have hlt := h.lts
  have lb := hlt b (by simp)
  have l1 := hlt ms (by simp)
  have l2 := hlt mn (by simp)
  have out : ∀ x, x ∉ Sd → x < w.heap.size → x ∉ S' := fun x hx hxl hm => by
    rcases hS x hm with h | h
    · exact hx h
    · omega
  refine ⟨hk.get h.cell a3, hd, h.mS.keep hk a5, h.mN.keep hk a6, h.lsu, h.lnu, ?_, by rw [hl]; exact h.fit, h.most, h.tn⟩
  simp only [List.nodup_cons, List.mem_cons, not_or]
  exact ⟨⟨a1, a2, out b a3 lb⟩, ⟨a4, out ms a5 l1⟩, out mn a6 l2, hd.nodup⟩
theorem SpAt.ldd (h : SpAt w b bd s Sd ms mn) {K : Value → Prop} : ld1 (.pointer (some ⟨b, 0 + 0, none⟩)) w K = K (.pointer (some ⟨bd, 0, none⟩)) := ldF h.cell rfl
theorem SpAt.ldfrom (h : SpAt w b bd s Sd ms mn) {K : Value → Prop} : ld1 (.pointer (some ⟨b, 0 + 1, none⟩)) w K = K (.int .i64 (s.from_ : Nat)) := ldF h.cell rfl
theorem SpAt.ldpages (h : SpAt w b bd s Sd ms mn) {K : Value → Prop} : ld1 (.pointer (some ⟨b, 0 + 2, none⟩)) w K = K (.int .i64 (s.pages : Nat)) := ldF h.cell rfl
theorem SpAt.ldturn (h : SpAt w b bd s Sd ms mn) {K : Value → Prop} : ld1 (.pointer (some ⟨b, 0 + 3, none⟩)) w K = K (.int .i64 (s.turn : Nat)) := ldF h.cell rfl
theorem SpAt.now (h : SpAt w b bd s Sd ms mn) : w.heap[b]? = some (.cells (arC (spH bd s ++ (u8c s.su ++ [.map (some ms)])) s.nu [.map (some mn)]) 59) := by rw [← spC_now]; exact h.cell
theorem pre68 (h : SpAt w b bd s Sd ms mn) : (spH bd s ++ (u8c s.su ++ [Value.map (some ms)])).length = 68 := by
  simp only [List.length_append, u8c_len, h.lsu, spH]; rfl
theorem SpAt.ldmn (h : SpAt w b bd s Sd ms mn) {o : Nat} (ho : o = 131) {K : Value → Prop} : ld1 (.pointer (some ⟨b, o, none⟩)) w K = K (.map (some mn)) := by
  refine ldF h.now ?_
  subst ho
  simp only [arC, List.getElem?_toArray]
  rw [List.getElem?_append_right (by rw [pre68 h]; omega), pre68 h, List.getElem?_append_right (by rw [u8c_len, h.lnu]; omega), u8c_len, h.lnu]
  rfl
theorem SpAt.has_now (h : SpAt w b bd s Sd ms mn) (n : Int) (hR : R (.bool (hasU s.nu n)) w) : callG Tryz.prog 53 #[.pointer (some ⟨b, 68, none⟩), .int .i64 n] w R := has_U h.now h.lnu (pre68 h).symm n hR
theorem SpAt.has_sure (h : SpAt w b bd s Sd ms mn) (n : Int) (hR : R (.bool (hasU s.su n)) w) : callG Tryz.prog 53 #[.pointer (some ⟨b, 4, none⟩), .int .i64 n] w R := has_U h.cell h.lsu rfl n hR
theorem SpAt.set_now (h : SpAt w b bd s Sd ms mn) {n : Nat} (hn : n < 504) (is : Bool) (hR : ∀ w', SpAt w' b bd { s with nu := setB s.nu n is } Sd ms mn → Kp [b] w w' → R (.tuple #[]) w') : callG Tryz.prog 56 #[.pointer (some ⟨b, 68, none⟩), .int .i64 (n : Nat), .bool is] w R := by
  obtain ⟨a1, a2, a3, a4, a5, a6⟩ := h.apart
  refine set_U h.now h.lnu (pre68 h).symm hn is fun w' h' hk => hR w' ⟨?_, h.disk.keep hk fun x hx hm => a3 (by simp at hm; rw [← hm]; exact hx), h.mS.keep hk (by simp; exact fun hh => a1 hh.symm), h.mN.keep hk (by simp; exact fun hh => a2 hh.symm), h.lsu, by rw [setB_len]; exact h.lnu, h.nd, h.fit, h.most, h.tn⟩ hk
  rw [spC_now]
  exact h'
theorem at_spec (n : Nat) (hn : n < 2 ^ 40) (hR : R (.int .i64 ((n + 2 : Nat) : Int)) w) : callG Tryz.prog 55 #[.int .i64 (n : Nat)] w R := by
  refine space_at_call ?_
  unfold space_at space_at_s0
  have e1 : IntKind.i64.wrap (3 + (n : Int)) = 3 + (n : Int) := w64 (by omega) (by omega)
  have e2 : IntKind.i64.wrap (3 + (n : Int) - 1) = ((n + 2 : Nat) : Int) := by rw [w64 (by omega) (by omega)]; omega
  simp only [bq_add, e1, bq_sub, e2]
  exact hR
theorem given_sp (h : SpAt w b bd s Sd ms mn) (hR : R (.bool true) w) : callG Tryz.prog 18 #[.pointer (some ⟨b, 0, none⟩)] w R := by
  refine space_Space_given_call ?_
  unfold space_Space_given space_Space_given_s0
  rw [bq_pneq _ (by kernel_rfl)]
  simp only [bV_b, Option.isNone_some, Bool.not_false]
  refine ⟨fun _ => ?_, fun h => by simp at h⟩
  rw [nk_p, fa_p, h.ldd, bq_pneq _ (by kernel_rfl)]
  exact hR
theorem pages_sp (h : SpAt w b bd s Sd ms mn) (hR : R (.int .i64 (s.pages : Nat)) w) : callG Tryz.prog 6 #[.pointer (some ⟨b, 0, none⟩)] w R := by
  refine space_Space_Pages_call ?_
  unfold space_Space_Pages space_Space_Pages_s0
  refine given_sp h ?_
  simp only [un_not, bV_b]
  refine ⟨fun h => by simp at h, fun _ => ?_⟩
  rw [nk_p, fa_p, h.ldpages]
  exact hR
theorem turn_sp (h : SpAt w b bd s Sd ms mn) (hR : R (.int .i64 (s.turn : Nat)) w) : callG Tryz.prog 27 #[.pointer (some ⟨b, 0, none⟩)] w R := by
  refine space_Space_Turn_call ?_
  unfold space_Space_Turn space_Space_Turn_s0
  refine given_sp h ?_
  simp only [un_not, bV_b]
  refine ⟨fun h => by simp at h, fun _ => ?_⟩
  rw [nk_p, fa_p, h.ldturn]
  exact hR
def inN13 (s : SP) (n : Int) : Bool := decide (n ≤ s.pages ∧ hasU s.nu n = true)
theorem in_sp (h : SpAt w b bd s Sd ms mn) (n : Int) (hR : R (.bool (inN13 s n)) w) : callG Tryz.prog 57 #[.pointer (some ⟨b, 0, none⟩), .int .i64 n] w R := by
  refine space_Space_in_call ?_
  unfold space_Space_in space_Space_in_s0
  refine pages_sp h ?_
  unfold inN13 at hR
  simp only [bq_leq, bV_b, decide_eq_true_eq, decide_eq_false_iff_not]
  refine ⟨fun hle => ?_, fun hle => ?_⟩
  · rw [nk_p, fa_p, fa_p]
    refine h.has_now n ?_
    have : decide (n ≤ s.pages ∧ hasU s.nu n = true) = hasU s.nu n := by
      cases hasU s.nu n <;> simp [hle]
    rw [this] at hR
    exact hR
  · rw [decide_eq_false (fun hh => hle hh.1)] at hR
    exact hR
end
end Go.Proofs

