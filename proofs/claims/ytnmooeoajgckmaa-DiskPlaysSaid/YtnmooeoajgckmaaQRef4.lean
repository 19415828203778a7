/- Part of the proof (text QRef4): an engine, rules or contracts of the functions; it states nothing of the claim by itself. -/
import Derived.Test.YtnmooeoajgckmaaQRef3
/- The document's disk, its other functions: Fuse, Read, Flush, Crash, New. -/
set_option linter.unusedVariables false
set_option linter.unusedSimpArgs false
namespace Go.Proofs
open Go Go.Q
theorem ref_Fuse {w : World} {x : Value} {d : DK} {S : List Nat} (h : RefAt w x d S) (n : Int) (hn : n < 9223372036854775808) {K : Value → World → Prop}
    (hK : ∀ w' x', RefAt w' x' { d with fuse := max n (-1) } S → Kp [] w w' → K x' w') : callG Try.prog 24 #[x, .int .i64 n] w K := by
  refine ref03_Fuse_call ?_
  obtain ⟨sv, lv, SS, SL, rfl, hs, hlg, rfl⟩ := h
  simp only [ref03_Fuse, ref03_Fuse_s0]
  refine newG2 fun a b w1 ha hb hab hba hA hB la lb hk => ?_
  have hc : Value.cells (.agg (qc sv lv d)) = qc sv lv d := rfl
  rw [hc] at hA
  simp only [qc, zc39] at hA hB
  have hsv1 := rows_one hs
  have hlv1 := rows_one hlg
  have hkb : ∀ o o', Kp [] w (setBlk (setBlk w1 a o) b o') := fun o o' => (hk.setBlk (.inr ha) _).setBlk (.inr hb) _
  simp [-getElem?_pos, -Array.getElem?_eq_getElem, -List.length_flatten, List.getElem?_cons_zero, List.getElem?_cons_succ, hA, hB, heap_self, heap_ne, hab, hba, la, lb, -Array.all_eq_true, lvS, spl4, one4, one_i, one_b, hsv1, hlv1, ext4]
  exact hK _ _ ⟨sv, lv, SS, SL, rfl, hs.keep (hkb (.cells #[sv, lv, .int .i64 (max n (-1)), .bool d.off] 39) (.cells #[sv, lv, .int .i64 (max n (-1)), .bool d.off] 39)) (by simp), hlg.keep (hkb _ _) (by simp), rfl⟩ (hkb _ _)
/-- what is read is what is sure, and what was written -/
def Syn (d : DK) : Prop := d.now = applyAll d.sure d.l
theorem apply_get {L : List (List UInt8)} {l : List (Nat × List UInt8)} {i p : Nat} (hi : i < l.length) (hp : p < L.length) :
    (applyAll L (l.take (i + 1))).getD p [] = if l[i].1 = p then l[i].2 else (applyAll L (l.take i)).getD p [] := by
  rw [List.take_succ_eq_append_getElem hi, applyAll_snoc]
  by_cases h : l[i].1 = p
  · rw [if_pos h, h]
    have : p < (applyAll L (l.take i)).length := by rw [applyAll_len]; exact hp
    simp [List.getD, this]
  · rw [if_neg h]
    simp [List.getD, List.getElem?_set_ne h]
theorem ref_Read {w : World} {x : Value} {d : DK} {S : List Nat} (h : RefAt w x d S) (ok : d.Ok) (hsyn : Syn d) (hl : d.l.length < 2 ^ 40) (at_ : Int) {K : Value → World → Prop}
    (hK : ∀ w', Kp [] w w' → K (.tuple #[.string (str (d.read at_).1), .int .i64 (d.read at_).2]) w') : callG Try.prog 21 #[x, .int .i64 at_] w K := by
  refine ref03_Read_call ?_
  obtain ⟨sv, lv, SS, SL, rfl, hs, hlg, rfl⟩ := h
  simp only [ref03_Read, ref03_Read_s5]
  have hc : Value.cells (.agg (qc sv lv d)) = qc sv lv d := rfl
  rw [newG_k, hc]
  obtain ⟨a, hae⟩ : ∃ a, a = w.heap.size := ⟨_, rfl⟩
  obtain ⟨w1, hw1⟩ : ∃ w1, w1 = w.alloc (.cells (qc sv lv d) 39) := ⟨_, rfl⟩
  have hk : Kp [] w w1 := by rw [hw1]; exact (Kp.refl [] w).alloc _
  have hA : w1.heap[a]? = some (.cells #[sv, lv, .int .i64 d.fuse, .bool d.off] 39) := by rw [hw1, hae]; exact heap_new
  rw [← hae, ← hw1]
  have hs1 := hs.keep hk (by simp)
  have hl1 := hlg.keep hk (by simp)
  have hsl : ∀ K : Value → Prop, lenL sv K = K (.int .i64 d.now.length) := by
    intro K; rw [hs1.rd.lenL]; simp [ok.len]
  have hll : ∀ K : Value → Prop, lenL lv K = K (.int .i64 d.l.length) := by
    intro K; rw [hl1.rd.lenL]; simp
  have hbad : ¬ (0 ≤ at_ ∧ at_ < d.now.length) → K (.tuple #[.string ⟨#[]⟩, .int .i64 1]) w1 := by
    intro hb; have := hK w1 hk; unfold DK.read at this; rw [if_neg hb] at this; exact this
  simp [-getElem?_pos, -Array.getElem?_eq_getElem, -List.length_flatten, List.getElem?_cons_zero, List.getElem?_cons_succ, hA, hsl]
  refine ⟨fun h0 => hbad (by omega), fun h0 => ⟨fun h1 => hbad (by omega), fun h1 => ?_⟩⟩
  have hgood : 0 ≤ at_ ∧ at_ < d.now.length := by omega
  unfold ref03_Read_s4
  unfold DK.read at hK
  simp only [hgood, and_self, if_true] at hK
  obtain ⟨p, hp⟩ : ∃ p : Nat, at_ = p := ⟨at_.toNat, by omega⟩
  subst hp
  have hp : p < d.sure.length := by rw [ok.len]; omega
  obtain ⟨bl, T, c, hbl, hheap, hia, _, _, hcell⟩ := hs1.at (i := p) (by simpa using hp)
  have hc0 : c[p]? = some (.string (str d.sure[p])) := by
    have := hcell 0 (by omega)
    simpa [strV] using this
  simp [-getElem?_pos, -Array.getElem?_eq_getElem, -List.length_flatten, List.getElem?_cons_zero, List.getElem?_cons_succ, hA, hia, hheap, hc0]
  refine ⟨fun ho => ?_, fun ho => ?_⟩
  · have := hK w1 hk
    rw [if_pos ho] at this
    exact this
  · simp only [ho] at hK
    unfold ref03_Read_s3 ref03_Read_L2
    have hc00 : d.sure[p] = (applyAll d.sure (d.l.take 0)).getD p [] := by simp [applyAll, List.getD, hp]
    refine loop_inv (fun m xs w => ∃ i, i ≤ d.l.length ∧ m = d.l.length - i ∧ xs = [.int .i64 p, .pointer (some ⟨a, 0, none⟩), .string (str ((applyAll d.sure (d.l.take i)).getD p [])), .int .i64 (i : Nat)] ∧ w = w1)
      ?_ (m := d.l.length) ⟨0, by omega, rfl, by rw [hc00]; rfl, rfl⟩
    rintro m N xs w ⟨i, hi, rfl, rfl, rfl⟩ hN
    simp only [ref03_Read_L2F, ref03_Read_b1]
    simp [-getElem?_pos, -Array.getElem?_eq_getElem, -List.length_flatten, List.getElem?_cons_zero, List.getElem?_cons_succ, hA, hll]
    refine ⟨fun hlt => ?_, fun hge => ?_⟩
    · have hiw : IntKind.i64.wrap ((i : Int) + 1) = ((i + 1 : Nat) : Int) := by rw [w64 (by omega) (by omega)]; simp
      have hin := hN (d.l.length - (i + 1)) _ w (by omega) ⟨i + 1, by omega, rfl, rfl, rfl⟩
      obtain ⟨bl2, T2, c2, hbl2, hheap2, hia2, hle2, _, hcell2⟩ := hl1.at (i := i) (by simpa using hlt)
      have h20 : c2[i * 2]? = some (.int .i64 (d.l[i].1 : Nat)) := by
        have := hcell2 0 (by omega)
        simpa [wroteV] using this
      have h21 : c2[i * 2 + 1]? = some (.string (str d.l[i].2)) := by
        have := hcell2 1 (by omega)
        simpa [wroteV] using this
      rw [apply_get hlt hp] at hin
      simp [-getElem?_pos, -Array.getElem?_eq_getElem, -List.length_flatten, List.getElem?_cons_zero, List.getElem?_cons_succ, hia2, hheap2, h20, h21, hiw]
      refine ⟨fun he => ?_, fun he => ?_⟩
      · rw [if_pos (by omega)] at hin
        exact hin
      · rw [if_neg (by omega)] at hin
        exact hin
    · have hie : i = d.l.length := by omega
      subst hie
      rw [List.take_length] 
      have := hK w hk
      unfold Syn at hsyn
      rw [hsyn] at this
      simpa [ref03_Read_s0] using this
end Go.Proofs
