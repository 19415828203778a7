/- Part of the proof (text QDisk2): an engine, rules or contracts of the functions; it states nothing of the claim by itself. -/
import Derived.Test.YtnmooeoajgckmaaQDisk
/- Layer 3, the disk: New, Write, Flush, Crash. -/
set_option linter.unusedVariables false
set_option linter.unusedSimpArgs false
namespace Go.Proofs
open Go Go.Q
theorem zc56 : zc Try.prog 56 = #[.slice none 0 0, .slice none 0 0, .slice none 0 0, .int .i64 0, .bool false] := by kernel_rfl
def secs0 (n : Nat) : List (List UInt8) := List.replicate n (List.replicate 32 0)
def DK.fresh (n : Nat) : DK := { sure := secs0 n, now := secs0 n, l := [], fuse := -1, off := false }
theorem secs0_cells (n : Nat) : rep (zc Try.prog 91) (n * 32) = ((secs0 n).map u8c).flatten.toArray := by
  rw [zc91, rep_rows (k := 32) (by simp) (by omega)]
  simp [secs0, u8c]
theorem New_bad {w : World} {n : Int} (hn : ¬ (1 ≤ n ∧ n ≤ 4096)) {K : Value → World → Prop} (hK : K (.tuple #[.pointer none, .int .i64 1]) w) : callG Try.prog 12 #[.int .i64 n] w K := by
  refine disk_New_call ?_
  by_cases h1 : n < 1
  · simpa [disk_New, disk_New_s0, h1] using hK
  · have h2 : n > 4096 := by omega
    have h2' : (4096 : Int) < n := by omega
    have h3 : ¬ n ≤ 4096 := by omega
    simpa [disk_New, disk_New_s0, h1, h2'] using hK
theorem fresh_ok {n : Nat} (h1 : 1 ≤ n) (h2 : n ≤ 4096) : (DK.fresh n).Ok :=
  ⟨rfl, by simp [DK.fresh, secs0]; omega, by simp [DK.fresh, secs0]; omega, by intro x hx; simp only [DK.fresh, secs0, List.mem_replicate] at hx; rw [hx.2]; simp,
   by intro x hx; simp only [DK.fresh, secs0, List.mem_replicate] at hx; rw [hx.2]; simp, by simp [DK.fresh], by simp [DK.fresh], by simp [DK.fresh]⟩
theorem New_ok {w : World} {n : Nat} (h1 : 1 ≤ n) (h2 : n ≤ 4096) {K : Value → World → Prop}
    (hK : ∀ w' b S, DiskAt w' b (DK.fresh n) S → Kp [] w w' → (∀ x ∈ S, w.heap.size ≤ x) → K (.tuple #[.pointer (some ⟨b, 0, none⟩), .int .i64 0]) w') : callG Try.prog 12 #[.int .i64 n] w K := by
  refine disk_New_call ?_
  have ha : ¬ ((n : Int) < 1) := by omega
  have hb : ¬ ((4096 : Int) < n) := by omega
  have hn1 : ((n : Int)).toNat = n := by omega
  have hlen : (DK.fresh n).now.length = n := by simp [DK.fresh, secs0]
  have one : ∀ bs bn, ((bs = w.heap.size ∧ bn = w.heap.size + 1) ∨ (bs = w.heap.size + 1 ∧ bn = w.heap.size)) →
      K (.tuple #[.pointer (some ⟨w.heap.size + 2, 0, none⟩), .int .i64 0]) ((((w.alloc (.cells ((secs0 n).map u8c).flatten.toArray 91)).alloc (.cells ((secs0 n).map u8c).flatten.toArray 91)).alloc
        (.cells #[.slice (some ⟨bs, 0, none⟩) n n, .slice (some ⟨bn, 0, none⟩) n n, .slice none 0 0, .int .i64 (-1), .bool false] 56)).drew) := by
    intro bs bn hbb
    refine hK _ _ [w.heap.size + 2, bs, bn] ⟨bs, bn, .slice none 0 0, [], 56, 91, 91, rfl, ?_, ?_, ?_, .inl ⟨rfl, rfl, rfl⟩, ?_, fresh_ok h1 h2⟩ ?_ ?_
    · rw [hlen]; simp only [heap_drew, heap_alloc, World.size_alloc]; (repeat (first | rw [if_pos (by first | trivial | omega)] | rw [if_neg (by omega)])); rfl
    · rcases hbb with ⟨rfl, rfl⟩ | ⟨rfl, rfl⟩ <;> simp only [heap_drew, heap_alloc, World.size_alloc] <;> (repeat (first | rw [if_pos (by first | trivial | omega)] | rw [if_neg (by omega)])) <;> rfl
    · rcases hbb with ⟨rfl, rfl⟩ | ⟨rfl, rfl⟩ <;> simp only [heap_drew, heap_alloc, World.size_alloc] <;> (repeat (first | rw [if_pos (by first | trivial | omega)] | rw [if_neg (by omega)])) <;> rfl
    · rcases hbb with ⟨rfl, rfl⟩ | ⟨rfl, rfl⟩ <;> simp
    · exact ((((Kp.refl _ _).alloc _).alloc _).alloc _).drew
    · intro x hx
      simp only [List.mem_cons, List.not_mem_nil, or_false] at hx
      rcases hbb with ⟨rfl, rfl⟩ | ⟨rfl, rfl⟩ <;> rcases hx with hx | hx | hx <;> omega
  have hone := one w.heap.size (w.heap.size + 1) (.inl ⟨rfl, rfl⟩)
  have htwo := one (w.heap.size + 1) w.heap.size (.inr ⟨rfl, rfl⟩)
  have hb2 : (32 : Int) * n ≤ 281474976710656 := by omega
  have hb3 : (n : Int) < 9223372036854775808 := by omega
  have hb0 : (0 : Int) ≤ n := by omega
  simp [disk_New, disk_New_s0, ha, hb, mkG, hb2, hb3, hn1, secs0_cells, zc56, bld, Instr.fill, Value.cells]
  exact ⟨hone, htwo⟩
end Go.Proofs
