/- Part of the proof (text QRowIn): an engine, rules or contracts of the functions; it states nothing of the claim by itself. -/
import Derived.Test.YtnmooeoajgckmaaQSlices
/- What a row says of a slice that came in, in the words of the contracts. -/
set_option linter.unusedVariables false
set_option linter.unusedSimpArgs false
namespace Go.Q
theorem wf64 {n : Int} (h : (Lit.int .i64 n).wf = true) : -9223372036854775808 ≤ n ∧ n < 9223372036854775808 := by
  simp [Lit.wf, IntKind.min, IntKind.max, IntKind.bits, IntKind.signed] at h
  omega
theorem cell_block {w : World} {x : Addr} {v : Value} (h : w.cell? x = some v) : x.spot = none ∧ ∃ c T fr, w.heap[x.block]? = some (.cells c T fr) ∧ c[x.off]? = some v := by
  unfold World.cell? at h
  split at h
  · rename_i c T fr hh
    split at h
    · cases h
    · rename_i hs
      exact ⟨by simpa using hs, c, T, fr, hh, h⟩
  · cases h
theorem ints_nil {w : World} {cap : Nat} : IntsAt w (.slice none 0 cap) [] [] := ⟨none, cap, rfl, .inl rfl⟩
theorem ints_in {w : World} {x : Addr} {len cap : Nat} {zs : List Int} (hc : ∀ i, i < zs.length → w.cell? (x.add i) = some (.int .i64 (zs.getD i 0))) (hl : len ≤ zs.length) :
    ∃ SK, IntsAt w (.slice (some x) len cap) (zs.take len) SK ∧ ∀ b ∈ SK, b < w.heap.size := by
  by_cases h0 : len = 0
  · subst h0
    exact ⟨[], ⟨some x, cap, by simp, .inl (by simp)⟩, by simp⟩
  · have hz := hc 0 (by omega)
    have hz' : w.cell? x = some (.int .i64 (zs.getD 0 0)) := by simpa [Addr.add] using hz
    obtain ⟨hs, c, T, fr, hh, hc0⟩ := cell_block hz'
    obtain ⟨b, o, s⟩ := x
    simp only at hs
    subst hs
    refine ⟨[b], ⟨some ⟨b, o, none⟩, cap, by simp; omega, .inr ⟨b, o, c, T, fr, rfl, rfl, hh, fun i hi => ?_⟩⟩, ?_⟩
    · have hi' : i < len ∧ i < zs.length := by simp at hi; omega
      have h1 := hc i hi'.2
      rw [add_none rfl] at h1
      obtain ⟨_, c', T', fr', hh', h2⟩ := cell_block h1
      simp only at hh' h2
      rw [hh] at hh'
      obtain ⟨rfl, rfl, rfl⟩ : c = c' ∧ T = T' ∧ fr = fr' := by simpa using hh'
      rw [h2]
      have : (List.take len zs).getD i 0 = zs.getD i 0 := by simp [List.getD, List.getElem?_take, hi'.1]
      rw [this]
    · intro y hy
      simp only [List.mem_singleton] at hy
      subst hy
      have := (Array.getElem?_eq_some_iff.mp hh).1
      exact this
end Go.Q
