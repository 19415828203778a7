/- Part of the proof (text QPlaysIn): an engine, rules or contracts of the functions; it states nothing of the claim by itself. -/
import Derived.Test.YtnmooeoajgckmaaQPlays
import Derived.ChangeSlices
/- DiskPlays: what the statement's own reading says of the calls that came in. -/
set_option linter.unusedVariables false
set_option linter.unusedSimpArgs false
namespace Go.Proofs
open Go Go.Q
/-- an argument that the statement's own reading took -/
def Taken (w : World) (t : TypeId) (v : Value) : Prop :=
  ∃ (H : Type) (enc : TypeId × Value → H) (fuel : Nat) (x : DataW H × List MemPlace), DataW.trod enc Try.prog w 0 (fun _ => true) true fuel t [v] = some x
theorem ints_taken {H : Type} {enc : TypeId × Value → H} {w : World} {fuel : Nat} {v : Value} {x : DataW H × List MemPlace} (h : DataW.trod enc Try.prog w 0 (fun _ => true) true fuel 22 [v] = some x) :
    ∃ ks SK, IntsAt w v ks SK ∧ (∀ b ∈ SK, b < w.heap.size) ∧ ∀ x ∈ ks, -9223372036854775808 ≤ x ∧ x < 9223372036854775808 := by
  rcases Go.ChangeShapes.open_ints Try.underlying22 Try.underlying3 (by kernel_rfl) h with ⟨hcs, _⟩ | ⟨x, l, c, zs, hcs, _, hl, hm, hz, _, hcell, hwz⟩
  · injection hcs with hcs _
    subst hcs
    exact ⟨[], [], ints_nil, by simp, by simp⟩
  · injection hcs with hcs _
    subst hcs
    simp only [if_true] at hz
    obtain ⟨SK, h1, h2⟩ := ints_in (len := l) (cap := c) hcell (by omega)
    exact ⟨_, SK, h1, h2, fun y hy => wf64 (hwz y (List.mem_of_mem_take hy))⟩
theorem wf8 {n : Int} (h : (Lit.int .u8 n).wf = true) : n = ((UInt8.ofNat n.toNat).toNat : Int) := by
  simp [Lit.wf, IntKind.min, IntKind.max, IntKind.bits, IntKind.signed] at h
  simp
  omega
theorem str_all (s : ByteArray) : s = str s.data.toList := by cases s; simp [str]
theorem list5 {r : List Value} (h : r.length = 5) : ∃ a b c d e, r = [a, b, c, d, e] := by
  match r, h with
  | [a, b, c, d, e], _ => exact ⟨a, b, c, d, e, rfl⟩
theorem act_in {H : Type} {enc : TypeId × Value → H} {w : World} {fuel : Nat} {r : List Value} {x : DataW H × List MemPlace} (h : DataW.trod enc Try.prog w 0 (fun _ => true) true fuel 43 r = some x) :
    ∃ kind at_ c s kv ks SK, ActIs w r kind at_ c s kv ks SK := by
  obtain ⟨xs, n, rfl, _, hl, hx, hf⟩ := DataW.trod_struct Try.underlying43 h
  have h43 : Try.prog.cellsOf 43 = 5 := by kernel_rfl
  have h3 : Try.prog.cellsOf 3 = 1 := by kernel_rfl
  have h5 : Try.prog.cellsOf 5 = 1 := by kernel_rfl
  have h9 : Try.prog.cellsOf 9 = 1 := by kernel_rfl
  have h22 : Try.prog.cellsOf 22 = 1 := by kernel_rfl
  rw [h43] at hl
  have hx5 : xs.length = 5 := hx
  obtain ⟨r0, r1, r2, r3, r4, rfl⟩ := list5 hl
  have g0 : DataW.trod enc Try.prog w 0 (fun _ => true) true n 3 (([r0, r1, r2, r3, r4].drop 0).take (Try.prog.cellsOf 3)) = xs[0]? := hf 0 _ rfl
  have g1 : DataW.trod enc Try.prog w 0 (fun _ => true) true n 3 (([r0, r1, r2, r3, r4].drop 1).take (Try.prog.cellsOf 3)) = xs[1]? := hf 1 _ rfl
  have g2 : DataW.trod enc Try.prog w 0 (fun _ => true) true n 5 (([r0, r1, r2, r3, r4].drop 2).take (Try.prog.cellsOf 5)) = xs[2]? := hf 2 _ rfl
  have g3 : DataW.trod enc Try.prog w 0 (fun _ => true) true n 9 (([r0, r1, r2, r3, r4].drop 3).take (Try.prog.cellsOf 9)) = xs[3]? := hf 3 _ rfl
  have g4 : DataW.trod enc Try.prog w 0 (fun _ => true) true n 22 (([r0, r1, r2, r3, r4].drop 4).take (Try.prog.cellsOf 22)) = xs[4]? := hf 4 _ rfl
  rw [List.getElem?_eq_getElem (by omega)] at g0 g1 g2 g3 g4
  rw [h3] at g0 g1
  rw [h5] at g2
  rw [h9] at g3
  rw [h22] at g4
  have e0 : ([r0, r1, r2, r3, r4].drop 0).take 1 = [r0] := rfl
  have e1 : ([r0, r1, r2, r3, r4].drop 1).take 1 = [r1] := rfl
  have e2 : ([r0, r1, r2, r3, r4].drop 2).take 1 = [r2] := rfl
  have e3 : ([r0, r1, r2, r3, r4].drop 3).take 1 = [r3] := rfl
  have e4 : ([r0, r1, r2, r3, r4].drop 4).take 1 = [r4] := rfl
  rw [e0] at g0
  rw [e1] at g1
  rw [e2] at g2
  rw [e3] at g3
  rw [e4] at g4
  clear e0 e1 e2 e3 e4
  obtain ⟨kind, e0, _, _⟩ := DataW.trod_int Try.underlying3 g0
  obtain ⟨at_, e1, _, wf1⟩ := DataW.trod_int Try.underlying3 g1
  obtain ⟨c, e2, _, wf2⟩ := DataW.trod_int Try.underlying5 g2
  obtain ⟨s, e3, _, _⟩ := DataW.trod_string Try.underlying9 g3
  obtain ⟨ks, SK, hk, hlt, hw⟩ := ints_taken g4
  injection e0 with e0 _
  injection e1 with e1 _
  injection e2 with e2 _
  injection e3 with e3 _
  subst e0; subst e1; subst e2; subst e3
  exact ⟨kind, at_, UInt8.ofNat c.toNat, s.data.toList, r4, ks, SK, by rw [← wf8 wf2, ← str_all], hk, hlt, (wf64 wf1).2, hw⟩
theorem acts_in {w : World} {v : Value} (h : Taken w 35 v) : ∃ rows SA, ActsAt w v rows SA := by
  obtain ⟨H, enc, fuel, x, h⟩ := h
  obtain ⟨v', rows, SK, hv, harg, hlt, _, hr⟩ := arg_slice Try.underlying35 (n := 5) (by kernel_rfl) (by omega) h
  injection hv with hv _
  subst hv
  exact ⟨rows, SK, harg, hlt, fun r hm => by obtain ⟨f, y, hy⟩ := hr r hm; exact act_in hy⟩
end Go.Proofs
