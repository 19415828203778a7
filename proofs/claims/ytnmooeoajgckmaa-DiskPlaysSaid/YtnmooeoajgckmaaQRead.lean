/- Part of the proof (text QRead): an engine, rules or contracts of the functions; it states nothing of the claim by itself. -/
import Derived.Test.YtnmooeoajgckmaaQSlices
/- Slices that are read: rows of cells from anywhere in a block; parts of them; what is appended from them. -/
set_option linter.unusedVariables false
set_option linter.unusedSimpArgs false
namespace Go.Q
/-- a slice that reads as these rows -/
def RdAt (w : World) (v : Value) (k : Nat) (rows : List (List Value)) (S : List Nat) : Prop :=
  (v = .slice none 0 0 ∧ rows = []) ∨
  ∃ (bl o cap : Nat) (c : Array Value) (T : TypeId) (fr : Nat × Nat), v = .slice (some ⟨bl, o, none⟩) rows.length cap ∧ S = [bl] ∧ w.heap[bl]? = some (.cells c T fr) ∧ (∀ x ∈ rows, x.length = k) ∧
    o + rows.length * k ≤ c.size ∧ (c.toList.drop o).take (rows.length * k) = rows.flatten ∧ rows.length ≤ cap
section
variable {w : World} {v : Value} {k : Nat} {rows : List (List Value)} {S : List Nat}
theorem RowsAt.rd (h : RowsAt w v k rows S) : RdAt w v k rows S := by
  rcases h with ⟨h1, h2, h3⟩ | ⟨bl, F, T, h1, h2, h3, h4, h5, h6⟩
  · exact .inl ⟨h1, h2⟩
  · refine .inr ⟨bl, 0, F.length, _, T, _, h1, h2, h3, ?_, ?_, ?_, h6⟩
    · intro x hx; rw [← h5] at hx; exact h4 x (List.mem_of_mem_take hx)
    · have := flat_len h4
      simp only [List.size_toArray, this, Nat.zero_add]
      exact Nat.mul_le_mul_right _ h6
    · rw [List.drop_zero, flat_take _ h4, h5]
theorem RdAt.keep {w' : World} {S' : List Nat} (h : RdAt w v k rows S) (hk : Kp S' w w') (hd : ∀ x ∈ S, x ∉ S') : RdAt w' v k rows S := by
  rcases h with h | ⟨bl, o, cap, c, T, fr, h1, h2, h3, h4⟩
  · exact .inl h
  · subst h2
    exact .inr ⟨bl, o, cap, c, T, fr, h1, rfl, hk.get h3 (hd bl (by simp)), h4⟩
theorem RdAt.len (h : RdAt w v k rows S) : ∃ a c, v = .slice a rows.length c ∧ rows.length ≤ c := by
  rcases h with ⟨h1, h2⟩ | ⟨bl, o, cap, c, T, fr, h1, h2, h3, h4, h5, h6, h7⟩
  · exact ⟨none, 0, by rw [h1, h2]; rfl, by simp [h2]⟩
  · exact ⟨_, _, h1, h7⟩
theorem RdAt.lenL (h : RdAt w v k rows S) {K : Value → Prop} : lenL v K = K (.int .i64 rows.length) := by
  obtain ⟨a, c, h1, _⟩ := h.len
  rw [h1]; rfl
theorem RdAt.row (h : RdAt w v k rows S) {x : List Value} (hx : x ∈ rows) : x.length = k := by
  rcases h with ⟨h1, h2⟩ | ⟨bl, o, cap, c, T, fr, h1, h2, h3, h4, _⟩
  · rw [h2] at hx; cases hx
  · exact h4 x hx
theorem extract_toList (c : Array Value) (o n : Nat) : c.extract o (o + n) = ((c.toList.drop o).take n).toArray := by
  apply Array.toList_inj.1
  simp [List.take_drop]
theorem RdAt.src (h : RdAt w v k rows S) (K' : Nat → Array Value → Prop) (hK : K' rows.length rows.flatten.toArray) : Q.src k v (fun m => m) w K' := by
  rcases h with ⟨h1, h2⟩ | ⟨bl, o, cap, c, T, fr, h1, h2, h3, h4, h5, h6, h7⟩
  · subst h1; subst h2; exact hK
  · subst h1
    simp only [Q.src, rdN_mk, h3]
    refine ⟨h5, ?_⟩
    rw [extract_toList, h6]; exact hK
theorem RdAt.take (h : RdAt w v k rows S) {p : Nat} (hp : p ≤ rows.length) {kd : IntKind} : ∃ v', RdAt w v' k (rows.take p) S ∧ ∀ K, slL k v none (some (.int kd p)) K = K v' := by
  rcases h with ⟨h1, h2⟩ | ⟨bl, o, cap, c, T, fr, h1, h2, h3, h4, h5, h6, h7⟩
  · subst h1; subst h2
    have : p = 0 := by simpa using hp
    subst this
    exact ⟨_, .inl ⟨rfl, by simp⟩, fun K => by simp⟩
  · subst h1
    have hl : (rows.take p).length = p := by simp; omega
    have hle : p * k ≤ rows.length * k := Nat.mul_le_mul_right _ hp
    refine ⟨.slice (some ⟨bl, o, none⟩) p cap, .inr ⟨bl, o, cap, c, T, fr, by rw [hl], h2, h3, fun x hx => h4 x (List.mem_of_mem_take hx), by rw [hl]; omega, ?_, by omega⟩, fun K => ?_⟩
    · rw [hl]
      have h8 : (c.toList.drop o).take (p * k) = ((c.toList.drop o).take (rows.length * k)).take (p * k) := by rw [List.take_take, Nat.min_eq_left hle]
      rw [h8, h6]
      exact flat_take p h4
    · have : (p : Int) ≤ cap := by omega
      simp [this]
theorem RdAt.drop (h : RdAt w v k rows S) {p : Nat} (hp : p ≤ rows.length) {kd : IntKind} : ∃ v', RdAt w v' k (rows.drop p) S ∧ ∀ K, slL k v (some (.int kd p)) none K = K v' := by
  rcases h with ⟨h1, h2⟩ | ⟨bl, o, cap, c, T, fr, h1, h2, h3, h4, h5, h6, h7⟩
  · subst h1; subst h2
    have : p = 0 := by simpa using hp
    subst this
    exact ⟨_, .inl ⟨rfl, by simp⟩, fun K => by simp⟩
  · subst h1
    have hl : (rows.drop p).length = rows.length - p := by simp
    have hsum : p * k + (rows.length - p) * k = rows.length * k := by rw [← Nat.add_mul]; congr 1; omega
    have hfl : rows.flatten.drop (p * k) = (rows.drop p).flatten := flat_drop p h4
    by_cases hc : cap = p
    · have hr : rows.length = p := by omega
      have hd : rows.drop p = [] := by rw [← hr]; simp
      refine ⟨.slice (some ⟨bl, o, none⟩) (rows.drop p).length (cap - p), .inr ⟨bl, o, cap - p, c, T, fr, rfl, h2, h3, by rw [hd]; simp, by rw [hd]; simp; omega, by rw [hd]; simp, by rw [hd]; simp⟩, fun K => ?_⟩
      have : (p : Int) ≤ rows.length := by omega
      simp [hc, this, hr]
    · refine ⟨.slice (some ⟨bl, o + p * k, none⟩) (rows.drop p).length (cap - p), .inr ⟨bl, o + p * k, cap - p, c, T, fr, rfl, h2, h3, fun x hx => h4 x (List.mem_of_mem_drop hx), by rw [hl]; omega, ?_, by rw [hl]; omega⟩, fun K => ?_⟩
      · rw [hl, ← hfl, ← h6, ← List.drop_drop, List.drop_take]
        congr 1
        omega
      · have : (p : Int) ≤ rows.length := by omega
        simp [hc, this, hp]
theorem RdAt.at (h : RdAt w v k rows S) {i : Nat} (hi : i < rows.length) :
    ∃ bl o T c fr, bl ∈ S ∧ w.heap[bl]? = some (.cells c T fr) ∧ (∀ kd K, ia k v (.int kd i) K = K (.pointer (some ⟨bl, o, none⟩))) ∧ o + k ≤ c.size ∧ c.extract o (o + k) = rows[i].toArray ∧
      ∀ j, j < k → c[o + j]? = rows[i][j]? := by
  rcases h with ⟨h1, h2⟩ | ⟨bl, o, cap, c, T, fr, h1, h2, h3, h4, h5, h6, h7⟩
  · subst h2; cases hi
  · subst h1
    have hle : i * k + k ≤ rows.length * k := by rw [← Nat.succ_mul]; exact Nat.mul_le_mul_right _ hi
    have hget := flat_get h4 hi
    have hrow : (c.toList.drop (o + i * k)).take k = rows[i] := by
      rw [← hget, ← h6, List.drop_take, List.take_take, List.drop_drop]
      congr 1
      omega
    refine ⟨bl, o + i * k, T, c, fr, by rw [h2]; simp, h3, ?_, by omega, by rw [extract_toList, hrow], ?_⟩
    · intro kd K
      simp only [ia_p, Int.toNat_natCast]
      have : (0 ≤ (i : Int) ∧ (i : Int) < rows.length) = True := by simp; omega
      rw [this, true_and]
    · intro j hj
      rw [← Array.getElem?_toList, ← List.getElem?_drop, ← hrow, List.getElem?_take_of_lt hj]
end
end Go.Q
