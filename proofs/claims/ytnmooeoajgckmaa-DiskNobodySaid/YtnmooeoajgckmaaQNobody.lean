/- Part of the proof (text QNobody): an engine, rules or contracts of the functions; it states nothing of the claim by itself. -/
import Derived.Test.YtnmooeoajgckmaaQSure2
import Derived.Test.YtnmooeoajgckmaaXLaw3b
/- DiskNobody: a disk that nobody made. -/
set_option linter.unusedVariables false
set_option linter.unusedSimpArgs false
namespace Go.Proofs
open Go Go.Q
theorem bsl_two {e : Nat} {z : Array Value} {v u : Value} (hv : one v = true) (hu : one u = true) {w : World} {k : Value → World → Prop} :
    bsl e 1 2 z #[(0, v), (1, u)] w k = k (.slice (some ⟨w.heap.size, 0, none⟩) 2 2) (w.alloc (.cells #[v, u] e)) := by
  have hc := cells_one hv
  have hd := cells_one hu
  obtain ⟨r, hr⟩ : ∃ r, r = rep z (2 * 1) := ⟨_, rfl⟩
  have hs : r.size = 2 := by rw [hr, rep_size]
  obtain ⟨l⟩ := r
  match l, hs with
  | [a, b], _ =>
    unfold bsl
    show (match Instr.fill (fun i => some (i * 1, 1)) (rep z (2 * 1)) [(0, v), (1, u)] with | some cs => k (Value.slice (some ⟨w.heap.size, 0, none⟩) 2 2) (w.alloc (Obj.cells cs e)) | none => False) = _
    rw [← hr]
    rw [fill_step (off := 0) (size := 1) rfl (by rw [hc]; rfl) (by simp), hc]
    rw [fill_step (off := 1) (size := 1) rfl (by rw [hd]; rfl) (by simp [splice]), hd]
    rfl
/-- nobody's disk: none, or one whose cells are zero -/
def Nob (w : World) (v : Value) : Prop := v = .pointer none ∨ ∃ b T fr, v = .pointer (some ⟨b, 0, none⟩) ∧ w.heap[b]? = some (.cells #[.slice none 0 0, .slice none 0 0, .slice none 0 0, .int .i64 0, .bool false] T fr)
section
variable {w : World} {v : Value} (h : Nob w v) {K : Value → World → Prop}
include h
theorem nob_Size (hK : K (.int .i64 0) w) : callG Try.prog 28 #[v] w K := by
  refine disk_Disk_Size_call ?_
  rcases h with rfl | ⟨b, T, fr, rfl, hb⟩
  · simpa [disk_Disk_Size, disk_Disk_Size_s0] using hK
  · simpa [disk_Disk_Size, disk_Disk_Size_s0, hb] using hK
theorem nob_has (n : Int) (hK : K (.bool false) w) : callG Try.prog 44 #[v, .int .i64 n] w K := by
  refine disk_Disk_has_call ?_
  simp only [disk_Disk_has, disk_Disk_has_s0, bq_geq, bV_b]
  refine ⟨fun hp => nob_Size h ?_, fun _ => hK⟩
  have : ¬ n < 0 := by simpa using hp
  simp [-getElem?_pos, -Array.getElem?_eq_getElem, -List.length_flatten, List.getElem?_cons_zero, List.getElem?_cons_succ, this]
  exact hK
theorem nob_Read (n : Int) (hK : K (.tuple #[.string ⟨#[]⟩, .int .i64 1]) w) : callG Try.prog 17 #[v, .int .i64 n] w K := by
  refine disk_Disk_Read_call ?_
  simp only [disk_Disk_Read, disk_Disk_Read_s0]
  refine nob_has h n ?_
  simp [-getElem?_pos, -Array.getElem?_eq_getElem, -List.length_flatten, List.getElem?_cons_zero, List.getElem?_cons_succ, ]
  exact hK
theorem nob_Write (n : Int) (s : ByteArray) (hK : K (.int .i64 1) w) : callG Try.prog 13 #[v, .int .i64 n, .string s] w K := by
  refine disk_Disk_Write_call ?_
  simp only [disk_Disk_Write, disk_Disk_Write_s1]
  refine nob_has h n ?_
  simp [-getElem?_pos, -Array.getElem?_eq_getElem, -List.length_flatten, List.getElem?_cons_zero, List.getElem?_cons_succ, ]
  exact hK
theorem nob_Flush (hK : K (.int .i64 1) w) : callG Try.prog 15 #[v] w K := by
  refine disk_Disk_Flush_call ?_
  simp only [disk_Disk_Flush, disk_Disk_Flush_s4]
  refine nob_Size h ?_
  simp [-getElem?_pos, -Array.getElem?_eq_getElem, -List.length_flatten, List.getElem?_cons_zero, List.getElem?_cons_succ, ]
  exact hK
theorem nob_Waits (hK : K (.int .i64 0) w) : callG Try.prog 27 #[v] w K := by
  refine disk_Disk_Waits_call ?_
  rcases h with rfl | ⟨b, T, fr, rfl, hb⟩
  · simpa [disk_Disk_Waits, disk_Disk_Waits_s0] using hK
  · simpa [disk_Disk_Waits, disk_Disk_Waits_s0, hb] using hK
theorem nob_Fuse (n : Int) (hK : K (.int .i64 1) w) : callG Try.prog 23 #[v, .int .i64 n] w K := by
  refine disk_Disk_Fuse_call ?_
  simp only [disk_Disk_Fuse, disk_Disk_Fuse_s0]
  refine nob_Size h ?_
  simp [-getElem?_pos, -Array.getElem?_eq_getElem, -List.length_flatten, List.getElem?_cons_zero, List.getElem?_cons_succ, ]
  exact hK
theorem nob_Off (hK : K (.bool false) w) : callG Try.prog 26 #[v] w K := by
  refine disk_Disk_Off_call ?_
  rcases h with rfl | ⟨b, T, fr, rfl, hb⟩
  · simpa [disk_Disk_Off, disk_Disk_Off_s0] using hK
  · simpa [disk_Disk_Off, disk_Disk_Off_s0, hb] using hK
theorem nob_Crash (ks : Value) (hK : K (.int .i64 1) w) : callG Try.prog 16 #[v, ks] w K := by
  refine disk_Disk_Crash_call ?_
  simp only [disk_Disk_Crash, disk_Disk_Crash_s4]
  refine nob_Size h ?_
  simp [-getElem?_pos, -Array.getElem?_eq_getElem, -List.length_flatten, List.getElem?_cons_zero, List.getElem?_cons_succ, ]
  exact hK
end
theorem nobody_call {n : Int} {s : ByteArray} {w0 : World} {R : Value → World → Prop} (hR : ∀ w', Kp [] w0 w' → R (.bool true) w') : callG Try.prog 6 #[.int .i64 n, .string s] w0 R := by
  refine law03_DiskNobody_call ?_
  simp only [law03_DiskNobody, law03_DiskNobody_s4]
  obtain ⟨z, hz⟩ : ∃ z : Array Value, z = #[.slice none 0 0, .slice none 0 0, .slice none 0 0, .int .i64 0, .bool false] := ⟨_, rfl⟩
  have hbld : ∀ K : Value → Prop, bld [(0, 1), (1, 1), (2, 1), (3, 1), (4, 1)] (zc Try.prog 56) #[] K = K (.agg z) := by intro K; rw [zc56, hz]; rfl
  rw [hbld, newG_k, bsl_two rfl rfl]
  obtain ⟨w1, hw1⟩ : ∃ w1, w1 = (w0.alloc (.cells (Value.agg z).cells 56)).alloc (.cells #[.pointer none, .pointer (some ⟨w0.heap.size, 0, none⟩)] 23) := ⟨_, rfl⟩
  have hk : Kp [] w0 w1 := by rw [hw1]; exact ((Kp.refl [] w0).alloc _).alloc _
  have hsl : w1.heap[w0.heap.size + 1]? = some (.cells #[.pointer none, .pointer (some ⟨w0.heap.size, 0, none⟩)] 23) := by
    rw [hw1]; have := @heap_new (w0.alloc (.cells (Value.agg z).cells 56)) (.cells #[.pointer none, .pointer (some ⟨w0.heap.size, 0, none⟩)] 23)
    simpa using this
  have hzb : w1.heap[w0.heap.size]? = some (.cells #[.slice none 0 0, .slice none 0 0, .slice none 0 0, .int .i64 0, .bool false] 56 (0, 0)) := by
    rw [hw1, heap_alloc, if_neg (by simp), heap_new, hz]; rfl
  have hss : (w0.alloc (.cells (Value.agg z).cells 56)).heap.size = w0.heap.size + 1 := by simp
  rw [← hw1, hss]
  simp only [law03_DiskNobody_s3]
  unfold law03_DiskNobody_L2
  refine loop_inv (fun m xs w => ∃ i : Nat, i ≤ 2 ∧ m = 2 - i ∧ xs = [.int .i64 n, .string s, .slice (some ⟨w0.heap.size + 1, 0, none⟩) 2 2, .int .i64 (i : Nat)] ∧ w = w1)
    ?_ (m := 2) ⟨0, by omega, rfl, rfl, rfl⟩
  rintro m N xs w ⟨i, hi, rfl, rfl, rfl⟩ hN
  simp only [law03_DiskNobody_L2F, law03_DiskNobody_b1, law03_DiskNobody_s0]
  have hin := fun h => hN (2 - (i + 1)) [.int .i64 n, .string s, .slice (some ⟨w0.heap.size + 1, 0, none⟩) 2 2, .int .i64 ((i + 1 : Nat) : Int)] w (by omega) ⟨i + 1, h, rfl, rfl, rfl⟩
  obtain ⟨v, hv⟩ : ∃ v, i < 2 → (#[.pointer none, .pointer (some ⟨w0.heap.size, 0, none⟩)] : Array Value)[i]? = some v ∧ Nob w v := by
    match i, hi with
    | 0, _ => exact ⟨_, fun _ => ⟨rfl, .inl rfl⟩⟩
    | 1, _ => exact ⟨_, fun _ => ⟨rfl, .inr ⟨_, _, _, rfl, hzb⟩⟩⟩
    | 2, _ => exact ⟨.pointer none, fun h => by omega⟩
  obtain ⟨c, hc⟩ : ∃ c : Array Value, c = #[.pointer none, .pointer (some ⟨w0.heap.size, 0, none⟩)] := ⟨_, rfl⟩
  rw [← hc] at hv hsl
  simp only [lenL_s, bq_lss, bV_b]
  refine ⟨fun hlt => ?_, fun _ => awake_spec fun w' hk' => hR w' (hk.trans' hk')⟩
  have hlt : i < 2 := by simp at hlt; omega
  obtain ⟨hv, hnb⟩ := hv hlt
  have hiw : IntKind.i64.wrap ((i : Int) + 1) = ((i + 1 : Nat) : Int) := by rw [w64 (by omega) (by omega)]; simp
  have hlti : (i : Int) < 2 := by omega
  simp [-getElem?_pos, -Array.getElem?_eq_getElem, -List.length_flatten, List.getElem?_cons_zero, List.getElem?_cons_succ, hsl, hv, hlti]
  refine nob_Read hnb n ?_
  simp [-getElem?_pos, -Array.getElem?_eq_getElem, -List.length_flatten, List.getElem?_cons_zero, List.getElem?_cons_succ, hsl, hv, hlti]
  refine nob_Size hnb ?_
  simp [-getElem?_pos, -Array.getElem?_eq_getElem, -List.length_flatten, List.getElem?_cons_zero, List.getElem?_cons_succ, hsl, hv, hlti]
  refine nob_Write hnb n s ?_
  simp [-getElem?_pos, -Array.getElem?_eq_getElem, -List.length_flatten, List.getElem?_cons_zero, List.getElem?_cons_succ, hsl, hv, hlti]
  refine nob_Flush hnb ?_
  simp [-getElem?_pos, -Array.getElem?_eq_getElem, -List.length_flatten, List.getElem?_cons_zero, List.getElem?_cons_succ, hsl, hv, hlti]
  refine nob_Waits hnb ?_
  simp [-getElem?_pos, -Array.getElem?_eq_getElem, -List.length_flatten, List.getElem?_cons_zero, List.getElem?_cons_succ, hsl, hv, hlti]
  refine nob_Fuse hnb n ?_
  simp [-getElem?_pos, -Array.getElem?_eq_getElem, -List.length_flatten, List.getElem?_cons_zero, List.getElem?_cons_succ, hsl, hv, hlti]
  refine nob_Off hnb ?_
  simp [-getElem?_pos, -Array.getElem?_eq_getElem, -List.length_flatten, List.getElem?_cons_zero, List.getElem?_cons_succ, hsl, hv, hlti]
  refine nob_Crash hnb _ ?_
  simp [-getElem?_pos, -Array.getElem?_eq_getElem, -List.length_flatten, List.getElem?_cons_zero, List.getElem?_cons_succ, hsl, hv, hlti, hiw]
  exact hin (by omega)
end Go.Proofs
