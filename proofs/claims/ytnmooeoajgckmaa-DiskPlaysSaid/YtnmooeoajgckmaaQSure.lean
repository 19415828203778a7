/- Part of the proof (text QSure): an engine, rules or contracts of the functions; it states nothing of the claim by itself. -/
import Derived.Test.YtnmooeoajgckmaaQLaw3
import Derived.Test.YtnmooeoajgckmaaQBits
/- DiskSure: what is flushed survives. -/
set_option linter.unusedVariables false
set_option linter.unusedSimpArgs false
namespace Go.Proofs
open Go Go.Q
theorem burns_calm {d : DK} (h1 : d.off = false) (h2 : d.fuse = -1) : d.burns = (d, true) := by
  cases d
  simp only at h1 h2
  subst h1; subst h2
  simp [DK.burns]
theorem write_calm {d : DK} (h1 : d.off = false) (h2 : d.fuse = -1) {i : Nat} (hi : i < d.now.length) {s : List UInt8} (hs : s.length = 32) :
    d.write i s = ({ d with now := d.now.set i s, l := d.l ++ [(i, s)] }, 0) := by
  unfold DK.write
  rw [burns_calm h1 h2, if_pos ⟨⟨by omega, by omega⟩, hs⟩, if_pos rfl]
  simp
theorem flush_calm {d : DK} (h1 : d.off = false) (h2 : d.fuse = -1) : d.flush = ({ d with sure := applyAll d.sure d.l, l := [] }, 0) := by
  unfold DK.flush
  rw [burns_calm h1 h2, if_pos rfl]
def let0 (base : Nat) (i : Nat) : UInt8 := UInt8.ofNat (base + i)
/-- the sectors, so many of them written -/
def secA (n : Nat) : List (List UInt8) := (List.range 16).map fun j => fill32 (if j < n then let0 97 j else 0)
def logA (n : Nat) : List (Nat × List UInt8) := (List.range n).map fun j => (j, fill32 (let0 97 j))
def bitOf (again : Int) (i : Nat) : Bool := decide (again / 2 ^ i % 2 = 1)
theorem secA_len (n : Nat) : (secA n).length = 16 := by simp [secA]
theorem secA_zero : secA 0 = secs0 16 := by decide
theorem secA_set {i : Nat} (hi : i < 16) : (secA i).set i (fill32 (let0 97 i)) = secA (i + 1) := by
  apply List.ext_getElem
  · simp [secA]
  · intro j h1 h2
    simp only [secA, List.getElem_set, List.getElem_map, List.getElem_range]
    by_cases hj : i = j
    · subst hj; simp
    · simp only [hj, if_false]
      have : (j < i) = (j < i + 1) := by apply propext; omega
      simp only [this]
theorem logA_succ (i : Nat) : logA i ++ [(i, fill32 (let0 97 i))] = logA (i + 1) := by simp [logA, List.range_succ]
theorem applyA : ∀ n, n ≤ 16 → applyAll (secs0 16) (logA n) = secA n := by
  intro n
  induction n with
  | zero => intro _; rw [secA_zero]; rfl
  | succ n ih =>
    intro h
    rw [← logA_succ, ← secA_set (by omega), ← ih (by omega)]
    unfold applyAll
    rw [List.foldl_append]; rfl
/-- one write at most to each sector: what a crash leaves there -/
theorem crashL_get {p : Nat} : ∀ {l : List (Nat × List UInt8)} {ks : List Int} {L : List (List UInt8)}, (l.map (·.1)).Nodup →
    (p ∉ l.map (·.1) → (crashL l ks L).getD p [] = L.getD p []) := by
  intro l
  induction l with
  | nil => intro ks L _ _; rfl
  | cons x r ih =>
    intro ks L hn hp
    cases ks with
    | nil => rfl
    | cons k ks =>
      simp only [List.map_cons, List.nodup_cons, List.mem_cons, not_or] at hn hp
      show (crashL r ks _).getD p [] = _
      rw [ih hn.2 hp.2]
      have : ¬ x.1 = p := fun h => hp.1 h.symm
      simp [List.getD, List.getElem?_set_ne this]
theorem crashL_at {p : Nat} {s : List UInt8} : ∀ {l1 l2 : List (Nat × List UInt8)} {ks : List Int} {L : List (List UInt8)}, ((l1 ++ (p, s) :: l2).map (·.1)).Nodup → p < L.length →
    (crashL (l1 ++ (p, s) :: l2) ks L).getD p [] = (match ks[l1.length]? with | none => L.getD p [] | some k => s.take (max 0 (min k 32)).toNat ++ (L.getD p []).drop (max 0 (min k 32)).toNat) := by
  intro l1
  induction l1 with
  | nil =>
    intro l2 ks L hn hp
    cases ks with
    | nil => rfl
    | cons k ks =>
      simp only [List.nil_append, List.map_cons, List.nodup_cons] at hn
      show (crashL l2 ks _).getD p [] = _
      rw [crashL_get hn.2 hn.1]
      simp [List.getD, hp]
  | cons x r ih =>
    intro l2 ks L hn hp
    cases ks with
    | nil => rfl
    | cons k ks =>
      simp only [List.cons_append, List.map_cons, List.nodup_cons] at hn
      have hx : ¬ x.1 = p := fun h => hn.1 (by simp [h])
      show (crashL (r ++ (p, s) :: l2) ks _).getD p [] = _
      rw [ih hn.2 (by simpa using hp)]
      have : (L.set x.1 (x.2.take (max 0 (min k 32)).toNat ++ (L.getD x.1 []).drop (max 0 (min k 32)).toNat)).getD p [] = L.getD p [] := by simp [List.getD, List.getElem?_set_ne hx]
      simp only [this, List.length_cons, List.getElem?_cons_succ]
def logB (again : Int) (n : Nat) : List (Nat × List UInt8) := ((List.range n).filter (bitOf again)).map fun j => (j, fill32 (let0 65 j))
theorem logB_succ (again : Int) (i : Nat) : logB again (i + 1) = if bitOf again i = true then logB again i ++ [(i, fill32 (let0 65 i))] else logB again i := by
  unfold logB
  rw [List.range_succ, List.filter_append]
  split
  · rename_i h; simp [h]
  · rename_i h; simp [h]
theorem logB_nodup (again : Int) (n : Nat) : ((logB again n).map (·.1)).Nodup := by
  unfold logB
  rw [List.map_map]
  have : ((fun x : Nat × List UInt8 => x.1) ∘ fun j => (j, fill32 (let0 65 j))) = id := by funext j; rfl
  rw [this, List.map_id]
  exact List.Pairwise.sublist List.filter_sublist List.nodup_range
theorem logB_split (again : Int) {i n : Nat} (hi : i < n) (hb : bitOf again i = true) : ∃ l2, logB again n = logB again i ++ (i, fill32 (let0 65 i)) :: l2 := by
  induction n with
  | zero => omega
  | succ n ih =>
    by_cases h : i = n
    · subst h; exact ⟨[], by rw [logB_succ, if_pos hb]⟩
    · obtain ⟨l2, h2⟩ := ih (by omega)
      rw [logB_succ]
      split
      · exact ⟨l2 ++ [(n, fill32 (let0 65 n))], by rw [h2]; simp⟩
      · exact ⟨l2, h2⟩
theorem logB_not (again : Int) {i n : Nat} (hb : bitOf again i = false) : i ∉ (logB again n).map (·.1) := by
  unfold logB
  simp only [List.map_map, List.mem_map, List.mem_filter, List.mem_range, Function.comp]
  rintro ⟨j, ⟨_, hj⟩, hji⟩
  subst hji
  rw [hb] at hj; cases hj
/-- what a sector reads as behind the crash -/
def behind (n : Nat) (again : Int) (ks : List Int) (i : Nat) : List UInt8 :=
  let k : Int := if bitOf again i = true then (match ks[(logB again i).length]? with | none => 0 | some k => max 0 (min k 32)) else 0
  (fill32 (let0 65 i)).take k.toNat ++ (fill32 (if i < n then let0 97 i else 0)).drop k.toNat
theorem crash_behind (n : Nat) (again : Int) (ks : List Int) {i : Nat} (hi : i < 16) : (crashL (logB again 16) ks (secA n)).getD i [] = behind n again ks i := by
  have hget : (secA n).getD i [] = fill32 (if i < n then let0 97 i else 0) := by simp [secA, List.getD, hi]
  unfold behind
  cases hb : bitOf again i with
  | true =>
    obtain ⟨l2, h2⟩ := logB_split again hi hb
    have hn := logB_nodup again 16
    rw [h2] at hn ⊢
    rw [crashL_at hn (by rw [secA_len]; exact hi), hget]
    split <;> simp_all
  | false =>
    rw [crashL_get (logB_nodup again 16) (logB_not again hb), hget]
    simp

theorem let0_nat {a i : Nat} (h : a + i < 256) : ((let0 a i).toNat : Int) = a + i := by
  unfold let0
  simp
  omega
theorem wrap_u8 {x : Int} (h0 : 0 ≤ x) (h1 : x < 256) : IntKind.u8.wrap x = x := by
  simp [IntKind.wrap, IntKind.bits, IntKind.signed]; omega
def dA (i n : Nat) : DK := { sure := secs0 16, now := secA i, l := logA i, fuse := -1, off := false }
def dB (n : Nat) (again : Int) (i : Nat) : DK := { sure := secA n, now := applyAll (secA n) (logB again i), l := logB again i, fuse := -1, off := false }
def dC (n : Nat) (again : Int) (ks : List Int) : DK := { sure := crashL (logB again 16) ks (secA n), now := crashL (logB again 16) ks (secA n), l := [], fuse := -1, off := false }
section
variable {w0 : World} {b n : Nat} {again : Int} {kv : Value} {ks : List Int} {SK : List Nat}

theorem sure_end {R : Value → World → Prop} (hR : ∀ w', Kp [] w0 w' → R (.bool true) w') {w : World} (hk : Kp [] w0 w) : law03_DiskSure_s0 R w := by
  unfold law03_DiskSure_s0
  exact awake_spec fun w' hk' => hR w' (hk.trans' hk')
theorem sure_loop3 {R : Value → World → Prop} (hR : ∀ w', Kp [] w0 w' → R (.bool true) w') (hn : n ≤ 16) (ha : -9223372036854775808 ≤ again ∧ again < 9223372036854775808)
    (hks : IntsAt w0 kv ks SK) (hkw : ∀ x ∈ ks, -9223372036854775808 ≤ x ∧ x < 9223372036854775808) {w : World} {S : List Nat} (o : Own w0 w b (dC n again ks) S) :
    law03_DiskSure_L6 R (.int .i64 again) kv (.pointer (some ⟨b, 0, none⟩)) (.int .i64 n) (.int .i64 0) (.int .i64 0) w := by
  unfold law03_DiskSure_L6
  refine loop_inv (fun m xs w => ∃ i, i ≤ 16 ∧ m = 16 - i ∧ xs = [.int .i64 again, kv, .pointer (some ⟨b, 0, none⟩), .int .i64 n, .int .i64 (logB again i).length, .int .i64 (i : Nat)] ∧ Own w0 w b (dC n again ks) S)
    ?_ (m := 16) ⟨0, by omega, rfl, rfl, o⟩
  rintro m N xs w ⟨i, hi, rfl, rfl, o⟩ hN
  simp only [law03_DiskSure_L6F, law03_DiskSure_s5, bq_lss, bV_b]
  refine ⟨fun hlt => ?_, fun hge => sure_end hR o.kp⟩
  have hlt : i < 16 := by simp at hlt; omega
  have hks' := hks.keep o.kp (by simp)
  obtain ⟨ka, kc, hkv⟩ := hks'.len
  have hkl : ∀ K : Value → Prop, lenL kv K = K (.int .i64 ks.length) := by intro K; rw [hkv]; rfl
  have hin : ∀ w', Own w0 w' b (dC n again ks) S → N [.int .i64 again, kv, .pointer (some ⟨b, 0, none⟩), .int .i64 n, .int .i64 (logB again (i + 1)).length, .int .i64 ((i + 1 : Nat) : Int)] w' :=
    fun w' o' => hN (16 - (i + 1)) _ _ (by omega) ⟨i + 1, by omega, rfl, rfl, o'⟩
  have hlen : (logB again i).length ≤ i := by
    unfold logB; rw [List.length_map]
    exact Nat.le_trans (List.length_filter_le _ _) (by simp)
  have hiw : IntKind.i64.wrap ((i : Int) + 1) = ((i + 1 : Nat) : Int) := by rw [w64 (by omega) (by omega)]; simp
  -- behind the choice of 'k'
  have tail : ∀ (k : Nat) (w : World), Own w0 w b (dC n again ks) S → k ≤ 32 → behind n again ks i = (fill32 (let0 65 i)).take k ++ (fill32 (if i < n then let0 97 i else 0)).drop k →
      law03_DiskSure_s2 R N (.int .i64 again) kv (.pointer (some ⟨b, 0, none⟩)) (.int .i64 n) (.int .i64 (logB again (i + 1)).length) (.int .i64 i) (.string (str (fill32 (if i < n then let0 97 i else 0)))) (.int .i64 k) w := by
    intro k w o hk hbe
    unfold law03_DiskSure_s2
    refine Read_spec o.at_ i ?_
    have hnowl : (dC n again ks).now.length = 16 := by
      have := crashL_ok (n := 16) (l := logB again 16) (ks := ks) (L := secA n) (by intro x hx; simp only [secA, List.mem_map] at hx; obtain ⟨j, _, rfl⟩ := hx; simp) (secA_len n) (by
        intro x hx; simp only [logB, List.mem_map, List.mem_filter, List.mem_range] at hx; obtain ⟨j, hj, rfl⟩ := hx; simp; omega)
      exact this.2
    have hread : (dC n again ks).read i = (behind n again ks i, 0) := by
      unfold DK.read
      rw [if_pos ⟨by omega, by rw [hnowl]; omega⟩, if_neg (by simp [dC]), Int.toNat_natCast]
      rw [← crash_behind n again ks hlt]; rfl
    have hA : IntKind.u8.wrap (65 + (i : Int)) = ((let0 65 i).toNat : Int) := by rw [wrap_u8 (by omega) (by omega), let0_nat (by omega)]; rfl
    have hw65 : IntKind.i64.wrap (65 + (i : Int)) = 65 + (i : Int) := w64 (by omega) (by omega)
    simp [-getElem?_pos, -Array.getElem?_eq_getElem, -List.length_flatten, List.getElem?_cons_zero, List.getElem?_cons_succ, hread, hw65, hA, hk]
    refine filled_spec (let0 65 i) fun w2 hk2 => ?_
    have ht : List.take 32 (fill32 (if i < n then let0 97 i else 0)) = fill32 (if i < n then let0 97 i else 0) := List.take_of_length_le (by simp)
    simp [-getElem?_pos, -Array.getElem?_eq_getElem, -List.length_flatten, List.getElem?_cons_zero, List.getElem?_cons_succ, bq_sadd, str_extract, hbe, hk, ht]
    refine ⟨by omega, ?_⟩
    simp only [law03_DiskSure_s1, bq_add, hiw]
    exact hin _ ((o.keep (Kp.refl _ _).drew).keep hk2)
  -- the bits
  have bits : ∀ (w : World), Own w0 w b (dC n again ks) S → law03_DiskSure_s3 R N (.int .i64 again) kv (.pointer (some ⟨b, 0, none⟩)) (.int .i64 n) (.int .i64 (logB again i).length) (.int .i64 i) (.string (str (fill32 (if i < n then let0 97 i else 0)))) w := by
    intro w o
    unfold law03_DiskSure_s3
    rw [shr_of (by omega) (by simp [IntKind.bits]; omega)]
    have hb : ((again / 2 ^ (i : Int).toNat % 2) = 1) = (bitOf again i = true) := by simp [bitOf]
    have hb2 : decide ((again / 2 ^ (i : Int).toNat % 2) = 1) = bitOf again i := by simp [bitOf]
    simp only [and1, bq_eql, bV_b, hb2]
    refine ⟨fun hbt => ?_, fun hbf => ?_⟩
    · have hl1 : (logB again (i + 1)).length = (logB again i).length + 1 := by rw [logB_succ, if_pos hbt]; simp
      have hw1 : IntKind.i64.wrap (((logB again i).length : Int) + 1) = ((logB again (i + 1)).length : Int) := by rw [w64 (by omega) (by omega), hl1]; simp
      rw [hkl]
      by_cases hj : (logB again i).length < ks.length
      · have hks' := hks.keep o.kp (by simp)
        obtain ⟨bk, ok, ck, Tk, frk, hbk, hkheap, hkia, hkc⟩ := hks'.at hj
        obtain ⟨q, hq⟩ : ∃ q, q = ks.getD (logB again i).length 0 := ⟨_, rfl⟩
        rw [← hq] at hkc
        have hki : ks[(logB again i).length]? = some q := by rw [hq]; simp [List.getD, hj]
        obtain ⟨k, hk⟩ : ∃ k, k = (max 0 (min q 32)).toNat := ⟨_, rfl⟩
        have hkq : max 0 (min q 32) = (k : Int) := by omega
        have hbe : behind n again ks i = (fill32 (let0 65 i)).take k ++ (fill32 (if i < n then let0 97 i else 0)).drop k := by
          unfold behind; simp only [hbt, if_true, hki]; rw [← hk]
        have := tail k w o (by omega) hbe
        simp [-getElem?_pos, -Array.getElem?_eq_getElem, -List.length_flatten, List.getElem?_cons_zero, List.getElem?_cons_succ, hj, hkia, hkheap, hkc, hkq, hw1]
        exact this
      · have hki : ks[(logB again i).length]? = none := by simp; omega
        have hbe : behind n again ks i = (fill32 (let0 65 i)).take 0 ++ (fill32 (if i < n then let0 97 i else 0)).drop 0 := by
          unfold behind; simp only [hbt, if_true, hki]; rfl
        have := tail 0 w o (by omega) hbe
        simp [-getElem?_pos, -Array.getElem?_eq_getElem, -List.length_flatten, List.getElem?_cons_zero, List.getElem?_cons_succ, hj, hw1]
        exact this
    · have hl1 : logB again (i + 1) = logB again i := by rw [logB_succ, if_neg (by simp [hbf])]
      have hbe : behind n again ks i = (fill32 (let0 65 i)).take 0 ++ (fill32 (if i < n then let0 97 i else 0)).drop 0 := by
        unfold behind; simp only [hbf]; rfl
      have := tail 0 w o (by omega) hbe
      rw [hl1] at this
      exact this
  unfold law03_DiskSure_s4
  refine filled_spec 0 fun w1 hk1 => ?_
  simp only [bq_lss, bV_b]
  refine ⟨fun hin' => ?_, fun hout => ?_⟩
  · have hin' : i < n := by simpa using hin'
    have hA : IntKind.u8.wrap (97 + (i : Int)) = ((let0 97 i).toNat : Int) := by rw [wrap_u8 (by omega) (by omega), let0_nat (by omega)]; rfl
    have hw97 : IntKind.i64.wrap (97 + (i : Int)) = 97 + (i : Int) := w64 (by omega) (by omega)
    simp only [bq_add, hw97, cvI_i, hA]
    refine filled_spec (let0 97 i) fun w2 hk2 => ?_
    have := bits w2 ((o.keep hk1).keep hk2)
    simpa [hin'] using this
  · have hout : ¬ i < n := by simpa using hout
    have := bits w1 (o.keep hk1)
    simpa [hout] using this
end
end Go.Proofs
