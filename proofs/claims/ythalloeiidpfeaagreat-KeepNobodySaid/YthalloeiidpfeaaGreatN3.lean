/- Part of the proof (N3): an engine, rules or contracts of the functions; it states nothing of the claim by itself. -/
import Derived.Test.YthalloeiidpfeaaGreatN2
import Derived.Test.YthalloeiidpfeaaGreatN1
import Derived.Lib.Builder
import Derived.Laws.Externs
import Derived.Lib.UnsafeStr
import GoSem.Extern.BytealgCompare
import Derived.MapKept
import Derived.WideKeyRuns

set_option linter.unusedVariables false
set_option linter.unusedSimpArgs false
namespace Go.Q
def Rd (w : World) (v : Value) (k : Nat) (rows : List (List Value)) : Prop := ∃ S, ArgAt w v k rows S
structure Fr (w0 w : World) (v : Value) (k : Nat) (rows : List (List Value)) : Prop where
  ex : ∃ S, RowsAt w v k rows S ∧ ∀ x ∈ S, w0.heap.size ≤ x
  kp : Kp [] w0 w
section
variable {w0 w w' : World} {v : Value} {k : Nat} {rows : List (List Value)}
theorem Rd.keep (h : Rd w v k rows) (hk : Kp [] w w') : Rd w' v k rows := by
  obtain ⟨S, h⟩ := h
  exact ⟨S, h.keep hk (by simp)⟩
theorem Rd.lenL (h : Rd w v k rows) {K : Value → Prop} : lenL v K = K (.int .i64 rows.length) := by
  obtain ⟨S, h⟩ := h
  exact h.lenL
theorem Rd.row (h : Rd w v k rows) {x : List Value} (hx : x ∈ rows) : x.length = k := by
  obtain ⟨S, h⟩ := h
  exact h.row hx
theorem Rd.src (h : Rd w v k rows) (K' : Nat → Array Value → Prop) (hK : K' rows.length rows.flatten.toArray) : Q.srcA k v w K' := by
  obtain ⟨S, h⟩ := h
  exact h.src K' hK
theorem Rd.at (h : Rd w v k rows) {i : Nat} (hi : i < rows.length) :
    ∃ bl o T c fr, w.heap[bl]? = some (.cells c T fr) ∧ (∀ kd K, ia k v (.int kd i) K = K (.pointer (some ⟨bl, o, none⟩))) ∧ o + k ≤ c.size ∧ c.extract o (o + k) = rows[i].toArray ∧ ∀ j, j < k → c[o + j]? = rows[i][j]? := by
  obtain ⟨S, h⟩ := h
  obtain ⟨bl, o, T, c, fr, _, h1, h2, h3, h4, h5⟩ := h.at hi
  exact ⟨bl, o, T, c, fr, h1, h2, h3, h4, h5⟩
theorem Rd.take (h : Rd w v k rows) {p : Nat} (hp : p ≤ rows.length) {kd : IntKind} : ∃ v', Rd w v' k (rows.take p) ∧ ∀ K, slL k v none (some (.int kd p)) K = K v' := by
  obtain ⟨S, h⟩ := h
  obtain ⟨v', h1, h2⟩ := h.take hp (kd := kd)
  exact ⟨v', ⟨S, h1⟩, h2⟩
theorem Rd.drop (h : Rd w v k rows) {p : Nat} (hp : p ≤ rows.length) {kd : IntKind} : ∃ v', Rd w v' k (rows.drop p) ∧ ∀ K, slL k v (some (.int kd p)) none K = K v' := by
  obtain ⟨S, h⟩ := h
  obtain ⟨v', h1, h2⟩ := h.drop hp (kd := kd)
  exact ⟨v', ⟨S, h1⟩, h2⟩
theorem Rd.get (h : Rd w v k rows) {i : Nat} (hi : i < rows.length) :
    ∃ p, (∀ kd K, ia k v (.int kd i) K = K p) ∧ (∀ K : Value → Prop, ldn k p w K = K (.agg rows[i].toArray)) ∧ ∀ j (hj : j < rows[i].length), ∀ K : Value → Prop, fa j p (fun q => ld1 q w K) = K rows[i][j] := by
  have hr := h.row (List.getElem_mem hi)
  obtain ⟨bl, o, T, c, fr, h1, h2, h3, h4, h5⟩ := h.at hi
  refine ⟨_, h2, fun K => ?_, fun j hj K => ?_⟩
  · simp only [ldn_p, rdN_mk, h1, h3, h4, true_and]
  · have := h5 j (by omega)
    rw [List.getElem?_eq_getElem hj] at this
    simp [-getElem?_pos, -Array.getElem?_eq_getElem, h1, this]
theorem Rd.one (h : Rd w v 1 rows) {i : Nat} (hi : i < rows.length) {x : Value} (hx : rows[i] = [x]) : ∃ p, (∀ kd K, ia 1 v (.int kd i) K = K p) ∧ ∀ K : Value → Prop, ld1 p w K = K x := by
  obtain ⟨bl, o, T, c, fr, h1, h2, h3, h4, h5⟩ := h.at hi
  refine ⟨_, h2, fun K => ?_⟩
  have := h5 0 (by omega)
  rw [hx, Nat.add_zero, List.getElem?_cons_zero] at this
  simp [-getElem?_pos, -Array.getElem?_eq_getElem, h1, this]
theorem rd_nil : Rd w (.slice none 0 0) k [] := ⟨[], .inl ⟨none, 0, rfl, rfl⟩⟩
theorem Rd.slice (h : Rd w v k rows) : ∃ a c, v = .slice a rows.length c := by
  obtain ⟨S, ⟨a, c, h1, h2⟩ | h⟩ := h
  · exact ⟨a, c, by rw [h1, h2]; rfl⟩
  · obtain ⟨a, c, h1, _⟩ := h.len
    exact ⟨a, c, h1⟩
theorem Fr.rd (h : Fr w0 w v k rows) : Rd w v k rows := by
  obtain ⟨S, h1, h2⟩ := h.ex
  exact ⟨S, .inr h1.rd⟩
theorem Fr.keep (h : Fr w0 w v k rows) (hk : Kp [] w w') : Fr w0 w' v k rows := by
  obtain ⟨S, h1, h2⟩ := h.ex
  exact ⟨⟨S, h1.keep hk (by simp), h2⟩, h.kp.trans' hk⟩
theorem Fr.base {wb : World} (h : Fr w0 w v k rows) (hk : Kp [] wb w0) : Fr wb w v k rows := by
  obtain ⟨S, h1, h2⟩ := h.ex
  exact ⟨⟨S, h1, fun x hx => by have := h2 x hx; have := hk.size; omega⟩, hk.trans' h.kp⟩
theorem Fr.one (h : Fr w0 w v k rows) : Q.one v = true := by
  obtain ⟨S, h1, h2⟩ := h.ex
  obtain ⟨a, c, hv, _⟩ := h1.len
  rw [hv]; rfl
theorem fr_nil (hk : Kp [] w0 w) : Fr w0 w (.slice none 0 0) k [] := ⟨⟨[], .inl ⟨rfl, rfl, rfl⟩, by simp⟩, hk⟩
theorem fr_app {e bytes : Nat} {z : List Value} {x : Value} {G : List (List Value)} (h : Fr w0 w v k rows) (hk : 0 < k) (hz : z.length = k) (hG : ∀ y ∈ G, y.length = k) (hone : G.flatten.all Q.one = true)
    (hsrc : ∀ K' : Nat → Array Value → Prop, K' G.length G.flatten.toArray → srcA k x w K') (hb : 2 * (rows.length + G.length) * bytes ≤ 2 ^ 48) (hb2 : rows.length + G.length < 2 ^ 62) {K : Value → World → Prop}
    (hK : ∀ v' w', Fr w0 w' v' k (rows ++ G) → K v' w') : app e k bytes z.toArray v x w K := by
  obtain ⟨S, h1, h2⟩ := h.ex
  refine rows_app h1 hk hz hG hone hsrc hb hb2 fun v' w' S' h' hk' hS' => ?_
  have hs := h.kp.size
  refine hK v' w' ⟨⟨S', h', fun x hx => ?_⟩, h.kp.trans hk' fun x hx hlt => by have := h2 x hx; omega⟩
  rcases hS' x hx with h | h
  · exact h2 x h
  · omega
theorem bsl_rowN {e n : Nat} {z : Array Value} {x : Value} {cs : List Value} (hn : 0 < n) (hc : x.cells = cs.toArray) (hl : cs.length = n) {w : World} {K : Value → World → Prop}
    (hK : ∀ v' w', Fr w w' v' n [cs] → K v' w') : bsl e n 1 z #[(0, x)] w K := by
  have hb : bsl e n 1 z #[(0, x)] w K = K (.slice (some ⟨w.heap.size, 0, none⟩) 1 1) (w.alloc (.cells cs.toArray e)) := by
    unfold bsl
    show (match Instr.fill (fun i => some (i * n, n)) (rep z (1 * n)) [(0, x)] with | some cs => K (Value.slice (some ⟨w.heap.size, 0, none⟩) 1 1) (w.alloc (Obj.cells cs e)) | none => False) = _
    rw [fill_step (off := 0) (size := n) (by simp) (by rw [hc]; simpa using hl) (by rw [rep_size]; omega), hc, splice_all (by rw [rep_size]; simp [hl])]
    rfl
  rw [hb]
  refine hK _ _ ⟨⟨[w.heap.size], .inr ⟨w.heap.size, [cs], e, rfl, rfl, ?_, by simpa using hl, by simp, by simp⟩, by simp⟩, (Kp.refl [] w).alloc _⟩
  rw [heap_new]; simp
theorem fr_push {e bytes : Nat} {z : List Value} {x : Value} {y : List Value} {wx : World} (h : Fr w0 w v k rows) (hx : Rd w x k [y]) (hk : 0 < k) (hz : z.length = k) (hone : y.all Q.one = true)
    (hb : 2 * (rows.length + 1) * bytes ≤ 2 ^ 48) (hb2 : rows.length + 1 < 2 ^ 62) {K : Value → World → Prop}
    (hK : ∀ v' w', Fr w0 w' v' k (rows ++ [y]) → K v' w') : app e k bytes z.toArray v x w K := by
  have hy : y.length = k := hx.row (by simp)
  refine fr_app h hk hz (G := [y]) (by simpa using hy) (by simpa using hone) (fun K' hK' => hx.src K' hK') hb hb2 hK
end
def byteV (c : UInt8) : List Value := [.int .u8 c.toNat]
theorem byteV_flat (l : List UInt8) : (l.map byteV).flatten = u8c l := by
  induction l with
  | nil => rfl
  | cons c l ih => simp only [List.map_cons, List.flatten_cons, ih]; rfl
theorem byteV_one (l : List UInt8) : ((l.map byteV).flatten).all one = true := by
  rw [byteV_flat]; have := one_u8c l; rw [List.all_toArray] at this; exact this
theorem srcA_str {l : List UInt8} {w : World} (K' : Nat → Array Value → Prop) (hK : K' (l.map byteV).length (l.map byteV).flatten.toArray) : srcA 1 (.string (str l)) w K' := by
  have he : u8s ((str l).extract 0 l.length) = (u8c l).toArray := by rw [str_extract, List.take_length, List.drop_zero, u8s_eq]; rfl
  rw [byteV_flat, List.length_map] at hK
  simp only [srcA, str_size, he]
  exact hK
theorem Rd.text {w : World} {v : Value} {l : List UInt8} (h : Rd w v 1 (l.map byteV)) (hn : (∃ a c, v = .slice a 0 c) → v = .slice none 0 0 ∨ ∃ S, RdAt w v 1 (l.map byteV) S) {K : Value → Prop} : cvBS v w K = K (.string (str l)) := by
  have main : ∀ S, RdAt w v 1 (l.map byteV) S → cvBS v w K = K (.string (str l)) := by
    intro S h
    rcases h with ⟨h1, h2⟩ | ⟨bl, o, cap, c, T, fr, h1, h2, h3, h4, h5, h6, h7⟩
    · have : l = [] := by simpa using h2
      subst this; subst h1
      rfl
    · subst h1
      have hb := bytesOf_u8c l
      simp only [List.length_map, Nat.mul_one] at h5 h6 h7
      have hx : c.extract o (o + l.length) = (u8c l).toArray := by rw [extract_toList, h6, byteV_flat]
      simp only [cvBS, rdN_mk, List.length_map, h3, hx, h5, true_and, hb]
      rfl
  obtain ⟨S, ⟨a, c, h1, h2⟩ | h⟩ := h
  · rcases hn ⟨a, c, h1⟩ with h3 | ⟨S, h3⟩
    · have : l = [] := by simpa using h2
      subst this; subst h3
      rfl
    · exact main S h3
  · exact main S h
theorem Fr.text {w0 w : World} {v : Value} {l : List UInt8} (h : Fr w0 w v 1 (l.map byteV)) {K : Value → Prop} : cvBS v w K = K (.string (str l)) := by
  obtain ⟨S, h1, h2⟩ := h.ex
  exact Rd.text h.rd fun _ => .inr ⟨S, h1.rd⟩
theorem bytes_app {w0 w : World} {v : Value} {l : List UInt8} {e : Nat} {z : Array Value} (hz : z = #[.int .u8 0]) (h : Fr w0 w v 1 (l.map byteV)) (s : List UInt8) (hl : l.length + s.length < 2 ^ 40) {K : Value → World → Prop}
    (hK : ∀ v' w', Fr w0 w' v' 1 ((l ++ s).map byteV) → K v' w') : app e 1 1 z v (.string (Q.str s)) w K := by
  subst hz
  refine fr_app (z := [.int .u8 0]) (G := s.map byteV) h (by omega) rfl (by simp [byteV]) (byteV_one s) (fun K' hK' => srcA_str K' hK') (by simp; omega) (by simp; omega) fun v' w' h' => hK v' w' (by rw [List.map_append]; exact h')
theorem byte_app {w0 w : World} {v x : Value} {l : List UInt8} {c : UInt8} {e : Nat} {z : Array Value} (hz : z = #[.int .u8 0]) (h : Fr w0 w v 1 (l.map byteV)) (hx : Rd w x 1 [byteV c]) (hl : l.length < 2 ^ 40) {K : Value → World → Prop}
    (hK : ∀ v' w', Fr w0 w' v' 1 ((l ++ [c]).map byteV) → K v' w') : app e 1 1 z v x w K := by
  subst hz
  refine fr_app (z := [.int .u8 0]) (G := [byteV c]) h (by omega) rfl (by simp [byteV]) (byteV_one [c]) (fun K' hK' => hx.src K' hK') (by simp; omega) (by simp; omega) fun v' w' h' => hK v' w' (by rw [List.map_append]; exact h')
end Go.Q

set_option linter.unusedVariables false
set_option linter.unusedSimpArgs false
namespace Go.Proofs
open Go Go.Q
theorem rows_one {w : World} {v : Value} {k : Nat} {rows : List (List Value)} {S : List Nat} (h : RowsAt w v k rows S) : Q.one v = true := by
  obtain ⟨a, c, hv, _⟩ := h.len
  rw [hv]; rfl
theorem info_some {t : TypeId} {n : Nat} (h : szO Tryz.prog t = some n) : ∃ j, Tryz.prog.info? t = some j ∧ j.size = n := by
  unfold szO at h
  cases hi : Tryz.prog.info? t with
  | none => rw [hi] at h; cases h
  | some j => rw [hi] at h; exact ⟨j, rfl, by simpa using h⟩
theorem Tryz.szB : szO Tryz.prog 110 = some 2 := by kernel_rfl
theorem Tryz.cellsOf5 : Tryz.prog.cellsOf 5 = 1 := by kernel_rfl
theorem bq_psame {xo yo : Operand} {w : World} {a : Addr} {K : Value → Prop} : qG Tryz.prog (bq .neq 108 xo yo (.pointer (some a)) (.pointer (some a))) w K = K (.bool false) := by
  obtain ⟨j, hj, _⟩ := info_some Tryz.szB
  refine qG_of ((run_equal1 (P := Tryz.prog) (T := 108) (x := .pointer (some a)) (y := .pointer (some a)) (w := w) (b := true) ?_ (fun _ _ h => by cases h.1) (fun h => by cases h.1) xo yo rfl rfl).2)
  have h := Go.Lib.run_neq_ptr_same (P := Tryz.prog) w a Tryz.underlying108 hj
  have h2 : ∀ d : Nat, (Op.equalIn (d + 1) 108 (.pointer (some a)) (.pointer (some a))).run Tryz.prog w = .ok true w := fun d => by
    simp [Op.equalIn, Go.run_underlying Tryz.underlying108, sizeOf, typeInfo, hj, Go.run_sameAddr_same]
  simp [Op.equal, Op.maxDepth, h2 9999]
theorem to_unsafe {w : World} {b : Nat} {cs : Array Value} {fr : Nat × Nat} (hb : w.heap[b]? = some (.cells cs 110 fr)) (hs : cs.size = 2) {K : Value → World → Prop} (hK : K (.pointer (some ⟨b, 0, none⟩)) w) :
    eG Tryz.prog (convert 108 170 (.pointer (some ⟨b, 0, none⟩))) w K := by
  obtain ⟨j, hj, hsz⟩ := info_some Tryz.szB
  exact ⟨_, w, Go.Lib.run_to_unsafe (P := Tryz.prog) (cells := 2) (e := 110) w ⟨b, 0, none⟩ Tryz.underlying108 Tryz.underlying170 hj (by omega) (by simp [World.shape?, hb, hs]) (Nat.zero_lt_succ 1), hK⟩
theorem from_unsafe {w : World} {b : Nat} {cs : Array Value} {fr : Nat × Nat} (hb : w.heap[b]? = some (.cells cs 110 fr)) (hs : cs.size = 2) {K : Value → World → Prop} (hK : K (.pointer (some ⟨b, 0, none⟩)) w) :
    eG Tryz.prog (convert 170 108 (.pointer (some ⟨b, 0, none⟩))) w K := by
  obtain ⟨j, hj, hsz⟩ := info_some Tryz.szB
  exact ⟨_, w, Go.Lib.run_from_unsafe (P := Tryz.prog) (cells := 2) (e := 110) w ⟨b, 0, none⟩ Tryz.underlying170 Tryz.underlying108 hj (by simp [World.shape?, hb, hs]) (by kernel_rfl), hK⟩
theorem no_escape {w : World} {x : Value} {K : Value → World → Prop} (hK : K x w) : nG Tryz.prog (callFunc 121 #[x]) w K := by
  refine ⟨x, w, ?_, hK⟩
  rw [run_callFunc_extern (e := Extern.AbiNoEscape.same) Tryz.func121 (by kernel_rfl) rfl (by kernel_rfl) (by kernel_rfl)]
  rfl
def BufT (w : World) (v : Value) (l : List UInt8) (S : List Nat) : Prop :=
  (v = .slice none 0 0 ∧ l = [] ∧ S = []) ∨
  ∃ (bl cap : Nat) (c : Array Value) (fr : Nat × Nat), v = .slice (some ⟨bl, 0, none⟩) l.length cap ∧ S = [bl] ∧ w.heap[bl]? = some (.cells c 5 fr) ∧ l ≠ [] ∧ l.length ≤ c.size ∧ l.length ≤ cap ∧ c.toList.take l.length = u8c l
def Bld (w : World) (b : Nat) (l : List UInt8) (S : List Nat) : Prop :=
  ∃ p v SB, w.heap[b]? = some (.cells #[p, v] 110) ∧ (p = .pointer none ∨ p = .pointer (some ⟨b, 0, none⟩)) ∧ RowsT w v 1 5 (l.map byteV) SB ∧ (l = [] → v = .slice none 0 0) ∧ S = b :: SB ∧ b ∉ SB
def BldD (w : World) (b : Nat) (l : List UInt8) (S : List Nat) : Prop :=
  ∃ p v SB, w.heap[b]? = some (.cells #[p, v] 110) ∧ BufT w v l SB ∧ S = b :: SB ∧ b ∉ SB
theorem Bld.keep {w w' : World} {b : Nat} {l : List UInt8} {S S' : List Nat} (h : Bld w b l S) (hk : Kp S' w w') (hd : ∀ x ∈ S, x ∉ S') : Bld w' b l S := by
  obtain ⟨p, v, SB, h1, h2, h3, h4, rfl, h5⟩ := h
  exact ⟨p, v, SB, hk.get h1 (hd b (by simp)), h2, h3.keep hk (fun x hx => hd x (by simp [hx])), h4, rfl, h5⟩
theorem BufT.keep {w w' : World} {v : Value} {l : List UInt8} {S S' : List Nat} (h : BufT w v l S) (hk : Kp S' w w') (hd : ∀ x ∈ S, x ∉ S') : BufT w' v l S := by
  rcases h with h | ⟨bl, cap, c, fr, h1, rfl, h3, h4⟩
  · exact .inl h
  · exact .inr ⟨bl, cap, c, fr, h1, rfl, hk.get h3 (hd bl (by simp)), h4⟩
theorem BldD.keep {w w' : World} {b : Nat} {l : List UInt8} {S S' : List Nat} (h : BldD w b l S) (hk : Kp S' w w') (hd : ∀ x ∈ S, x ∉ S') : BldD w' b l S := by
  obtain ⟨p, v, SB, h1, h2, rfl, h5⟩ := h
  exact ⟨p, v, SB, hk.get h1 (hd b (by simp)), h2.keep hk (fun x hx => hd x (by simp [hx])), rfl, h5⟩
theorem Bld.done {w : World} {b : Nat} {l : List UInt8} {S : List Nat} (h : Bld w b l S) : BldD w b l S := by
  obtain ⟨p, v, SB, h1, h2, h3, h4, rfl, h5⟩ := h
  refine ⟨p, v, SB, h1, ?_, rfl, h5⟩
  by_cases hl : l = []
  · have hv := h4 hl
    subst hl
    rcases h3 with ⟨_, _, h6⟩ | ⟨bl, F, h7, _⟩
    · exact .inl ⟨hv, rfl, h6⟩
    · rw [hv] at h7; cases h7
  · rcases h3 with ⟨_, h6, _⟩ | ⟨bl, F, h7, h8, h9, h10, h11, h12⟩
    · exact absurd (by simpa using h6) hl
    · have hfl := flat_len h10
      simp only [List.length_map] at h7 h11 h12
      refine .inr ⟨bl, F.length, F.flatten.toArray, (0, 0), by rw [h7], h8, h9, hl, ?_, h12, ?_⟩
      · simp only [List.size_toArray, hfl]; omega
      · have := flat_take l.length h10
        rw [Nat.mul_one] at this
        rw [this, h11, byteV_flat]
theorem Bld.live {w : World} {b : Nat} {l : List UInt8} {S : List Nat} (h : Bld w b l S) : ∀ x ∈ S, x < w.heap.size := by
  obtain ⟨p, v, SB, h1, h2, h3, h4, rfl, h5⟩ := h
  intro x hx
  rcases List.mem_cons.1 hx with rfl | hx
  · exact lt_of_blk h1
  · exact h3.at_.lt x hx
theorem bld_new {w : World} : Bld (w.alloc (.cells #[.pointer none, .slice none 0 0] 110)) w.heap.size [] [w.heap.size] :=
  ⟨.pointer none, .slice none 0 0, [], heap_new, .inl rfl, .inl ⟨rfl, rfl, rfl⟩, fun _ => rfl, rfl, by simp⟩
theorem copy_spec {w : World} {b : Nat} {l : List UInt8} {S : List Nat} (h : Bld w b l S) {K : Value → World → Prop} (hK : ∀ w', Bld w' b l S → Kp S w w' → K (.tuple #[]) w') : callG Tryz.prog 101 #[.pointer (some ⟨b, 0, none⟩)] w K := by
  refine strings_Builder_copyCheck_call ?_
  have h0 := h
  obtain ⟨p, v, SB, h1, h2, h3, h4, rfl, h5⟩ := h
  simp only [strings_Builder_copyCheck, strings_Builder_copyCheck_s0]
  rcases h2 with rfl | rfl
  · simp [-getElem?_pos, -Array.all_eq_true, -Array.getElem?_eq_getElem, -List.length_flatten, List.getElem?_cons_zero, List.getElem?_cons_succ, h1]
    refine to_unsafe h1 rfl ?_
    refine no_escape ?_
    refine from_unsafe h1 rfl ?_
    have lb := live_of h1
    simp [-getElem?_pos, -Array.all_eq_true, -Array.getElem?_eq_getElem, -List.length_flatten, List.getElem?_cons_zero, List.getElem?_cons_succ, h1, lb]
    have hk : Kp [b] w (setBlk w b (.cells #[.pointer (some ⟨b, 0, none⟩), v] 110)) := (Kp.refl _ w).setBlk (.inl (by simp)) _
    refine hK _ ⟨_, v, SB, heap_self lb, .inr rfl, h3.keep hk (fun x hx => by simp; intro hh; exact h5 (hh ▸ hx)), h4, rfl, h5⟩ (hk.mono fun x hx _ => by simp at hx; simp [hx])
  · simp [-getElem?_pos, -Array.all_eq_true, -Array.getElem?_eq_getElem, -List.length_flatten, List.getElem?_cons_zero, List.getElem?_cons_succ, h1]
    rw [bq_psame]
    simp [-getElem?_pos, -Array.all_eq_true, -Array.getElem?_eq_getElem, -List.length_flatten, List.getElem?_cons_zero, List.getElem?_cons_succ, ]
    exact hK w h0 (Kp.refl _ _)
theorem app_nothing {w : World} {z : Array Value} {K : Value → World → Prop} (hK : K (.slice none 0 0) w) : app 5 1 1 z (.slice none 0 0) (.string (str [])) w K := by
  unfold app
  simp [srcA]
  exact hK
theorem zc5l : zc Tryz.prog 5 = [Value.int .u8 0].toArray := by kernel_rfl
theorem WriteString_spec {w : World} {b : Nat} {l : List UInt8} {S : List Nat} (h : Bld w b l S) (s : List UInt8) (hl : l.length + s.length < 2 ^ 40) {K : Value → World → Prop}
    (hK : ∀ w' S', Bld w' b (l ++ s) S' → Kp S w w' → (∀ x ∈ S', x ∈ S ∨ w.heap.size ≤ x) → K (.tuple #[.int .i64 s.length, .nilIface]) w') : callG Tryz.prog 59 #[.pointer (some ⟨b, 0, none⟩), .string (str s)] w K := by
  refine strings_Builder_WriteString_call ?_
  simp only [strings_Builder_WriteString, strings_Builder_WriteString_s0]
  refine copy_spec h fun w1 h1 hk1 => ?_
  obtain ⟨p, v, SB, g1, g2, g3, g4, rfl, g5⟩ := h1
  have lb := live_of g1
  have hsz := hk1.size
  simp [-getElem?_pos, -Array.all_eq_true, -Array.getElem?_eq_getElem, -List.length_flatten, List.getElem?_cons_zero, List.getElem?_cons_succ, g1]
  by_cases h0 : l = [] ∧ s = []
  · obtain ⟨rfl, rfl⟩ := h0
    have hv := g4 rfl
    subst hv
    refine app_nothing ?_
    simp [-getElem?_pos, -Array.all_eq_true, -Array.getElem?_eq_getElem, -List.length_flatten, List.getElem?_cons_zero, List.getElem?_cons_succ, g1, lb]
    have hk : Kp [b] w1 (setBlk w1 b (.cells #[p, .slice none 0 0] 110)) := (Kp.refl _ w1).setBlk (.inl (by simp)) _
    refine hK _ (b :: SB) ⟨p, _, SB, heap_self lb, g2, g3.keep hk (fun x hx => by simp; intro hh; exact g5 (hh ▸ hx)), fun _ => rfl, rfl, g5⟩ (hk1.trans hk fun x hx _ => by simp at hx; simp [hx]) (fun x hx => .inl hx)
  · have hone : ((s.map byteV).flatten).all Q.one = true := by rw [byteV_flat]; have := one_u8c s; rw [List.all_toArray] at this; exact this
    have hsrc : ∀ K' : Nat → Array Value → Prop, K' (s.map byteV).length (s.map byteV).flatten.toArray → srcA 1 (.string (str s)) w1 K' := by
      intro K' hK'
      have he : u8s ((str s).extract 0 s.length) = (u8c s).toArray := by rw [str_extract, List.take_length, List.drop_zero, u8s_eq]; rfl
      rw [byteV_flat, List.length_map] at hK'
      simp only [srcA, str_size, he]
      exact hK'
    rw [zc5l]
    refine rowsT_app (k := 1) (z := [Value.int .u8 0]) (G := s.map byteV) g3 (by omega) rfl (by simp [byteV]) hone hsrc (by simp; omega) (by simp; omega) fun v2 w2 S2 h2 hk2 hS2 => ?_
    have gg := hk2.get g1 g5
    have lb2 := live_of gg
    have hv2 := rows_one h2.at_
    have hbS2 : b ∉ S2 := fun hm => by
      rcases hS2 b hm with h | h
      · exact g5 h
      · have : b < w1.heap.size := lb
        omega
    have hk : Kp [b] w2 (setBlk w2 b (.cells #[p, v2] 110)) := (Kp.refl _ w2).setBlk (.inl (by simp)) _
    simp [-getElem?_pos, -Array.all_eq_true, -Array.getElem?_eq_getElem, -List.length_flatten, List.getElem?_cons_zero, List.getElem?_cons_succ, gg, lb2, hv2]
    refine hK _ (b :: S2) ⟨p, v2, S2, heap_self lb2, g2, ?_, ?_, rfl, hbS2⟩ ?_ ?_
    · rw [List.map_append]
      exact h2.keep hk (fun x hx => by simp; intro hh; exact hbS2 (hh ▸ hx))
    · intro hn
      exact absurd (by simpa using hn) h0
    · exact (hk1.trans hk2 fun x hx _ => by simp [hx]).trans hk fun x hx _ => by simp at hx; simp [hx]
    · intro x hx
      rcases List.mem_cons.1 hx with rfl | hx
      · exact .inl (by simp)
      · rcases hS2 x hx with h | h
        · exact .inl (by simp [h])
        · exact .inr (by omega)
theorem BufT.lenL {w : World} {v : Value} {l : List UInt8} {S : List Nat} (h : BufT w v l S) {K : Value → Prop} : lenL v K = K (.int .i64 l.length) := by
  rcases h with ⟨h1, h2, _⟩ | ⟨bl, cap, c, fr, h1, _⟩
  · rw [h1, h2]; rfl
  · rw [h1]; rfl
theorem Len_spec {w : World} {b : Nat} {l : List UInt8} {S : List Nat} (h : BldD w b l S) {K : Value → World → Prop} (hK : K (.int .i64 l.length) w) : callG Tryz.prog 95 #[.pointer (some ⟨b, 0, none⟩)] w K := by
  refine strings_Builder_Len_call ?_
  obtain ⟨p, v, SB, h1, h2, rfl, h5⟩ := h
  simp only [strings_Builder_Len, strings_Builder_Len_s0]
  simp [-getElem?_pos, -Array.all_eq_true, -Array.getElem?_eq_getElem, -List.length_flatten, List.getElem?_cons_zero, List.getElem?_cons_succ, h1]
  rw [BufT.lenL h2]
  exact hK
theorem freeze_blk {w : World} {bl n : Nat} {c : Array Value} {T : TypeId} {fr : Nat × Nat} (h : w.heap[bl]? = some (.cells c T fr)) (hn : n ≠ 0) : ∃ fr', w.freeze ⟨bl, 0, none⟩ n = setBlk w bl (.cells c T fr') := by
  obtain ⟨lo, hi⟩ := fr
  refine ⟨if lo == hi then (0, 0 + n) else (min lo 0, max hi (0 + n)), ?_⟩
  unfold World.freeze
  rw [if_neg hn]
  unfold setBlk
  congr 1
  apply Array.ext_getElem?
  intro j
  rw [Array.getElem?_modify, Array.getElem?_setIfInBounds]
  by_cases hj : bl = j
  · subst hj
    rw [if_pos rfl, if_pos rfl, h]
    have := (Array.getElem?_eq_some_iff.1 h).1
    rw [if_pos this]
    rfl
  · rw [if_neg hj, if_neg hj]
theorem String_spec {w : World} {b : Nat} {l : List UInt8} {S : List Nat} (h : BldD w b l S) (hl : l.length < 2 ^ 62) {K : Value → World → Prop}
    (hK : ∀ w', BldD w' b l S → Kp S w w' → K (.string (str l)) w') : callG Tryz.prog 61 #[.pointer (some ⟨b, 0, none⟩)] w K := by
  refine strings_Builder_String_call ?_
  have h0 := h
  obtain ⟨p, v, SB, h1, h2, rfl, h5⟩ := h
  simp only [strings_Builder_String, strings_Builder_String_s0]
  simp [-getElem?_pos, -Array.all_eq_true, -Array.getElem?_eq_getElem, -List.length_flatten, List.getElem?_cons_zero, List.getElem?_cons_succ, h1]
  rw [BufT.lenL h2]
  have hkd : Kp (b :: SB) w w.drew := (Kp.refl _ _).drew
  rcases h2 with ⟨rfl, rfl, rfl⟩ | ⟨bl, cap, c, fr, rfl, rfl, g3, g4, g5, g6, g7⟩
  · refine ⟨_, _, Go.Lib.run_unsafeSliceData_nil _ _ _ _ _, ?_⟩
    simp [-getElem?_pos, -Array.all_eq_true, -Array.getElem?_eq_getElem, -List.length_flatten, List.getElem?_cons_zero, List.getElem?_cons_succ, h1]
    refine ⟨_, _, Go.Lib.run_unsafeString_none _ _ _ _ _, ?_⟩
    exact hK w.drew h0 hkd
  · have hpos : l.length ≠ 0 := by simpa using g4
    refine ⟨_, _, Go.Lib.run_unsafeSliceData_row _ _ _ _ _ _ (by omega), ?_⟩
    simp [-getElem?_pos, -Array.all_eq_true, -Array.getElem?_eq_getElem, -List.length_flatten, List.getElem?_cons_zero, List.getElem?_cons_succ, h1]
    refine ⟨_, _, Go.Lib.run_unsafeString_row (e := 5) w.drew 150 3 9 Tryz.underlying150 Tryz.cellsOf5 bl c.size (by simp [World.shape?, g3]) l g4 g5 (by omega) ?_, ?_⟩
    · intro j x hx
      have hj : j < l.length := (List.getElem?_eq_some_iff.1 hx).1
      have : c.toList[j]? = (u8c l)[j]? := by rw [← g7, List.getElem?_take_of_lt hj]
      simp only [add_mk, World.cell?, heap_drew, g3, Nat.zero_add]
      rw [← Array.getElem?_toList, this]
      simp [u8c, hx]
    · obtain ⟨fr', hf⟩ := freeze_blk (w := w.drew) (bl := bl) (n := l.length) g3 hpos
      rw [hf]
      have hk : Kp [bl] w.drew (setBlk w.drew bl (.cells c 5 fr')) := (Kp.refl _ _).setBlk (.inl (by simp)) _
      have hne : ¬ b = bl := by simpa using h5
      refine hK _ ⟨p, _, [bl], by rw [heap_ne (fun h => hne h.symm)]; exact h1, .inr ⟨bl, cap, c, fr', rfl, rfl, heap_self (live_of g3), g4, g5, g6, g7⟩, rfl, h5⟩ (hkd.trans hk fun x hx _ => by simp at hx; simp [hx])
theorem WriteByte_spec {w : World} {b : Nat} {l : List UInt8} {S : List Nat} (h : Bld w b l S) (c : UInt8) (hl : l.length < 2 ^ 40) {K : Value → World → Prop}
    (hK : ∀ w' S', Bld w' b (l ++ [c]) S' → Kp S w w' → (∀ x ∈ S', x ∈ S ∨ w.heap.size ≤ x) → K .nilIface w') : callG Tryz.prog 57 #[.pointer (some ⟨b, 0, none⟩), .int .u8 c.toNat] w K := by
  refine strings_Builder_WriteByte_call ?_
  simp only [strings_Builder_WriteByte, strings_Builder_WriteByte_s0]
  refine copy_spec h fun w1 h1 hk1 => ?_
  obtain ⟨p, v, SB, g1, g2, g3, g4, rfl, g5⟩ := h1
  have hsz := hk1.size
  have lb0 : b < w1.heap.size := lt_of_blk g1
  simp [-getElem?_pos, -Array.all_eq_true, -Array.getElem?_eq_getElem, -List.length_flatten, List.getElem?_cons_zero, List.getElem?_cons_succ, g1]
  rw [bsl_one rfl]
  obtain ⟨wa, hwa⟩ : ∃ wa, wa = w1.alloc (.cells #[.int .u8 c.toNat] 5) := ⟨_, rfl⟩
  have hka : Kp [] w1 wa := by rw [hwa]; exact (Kp.refl [] w1).alloc _
  have hba : wa.heap[w1.heap.size]? = some (.cells #[.int .u8 c.toNat] 5) := by rw [hwa]; exact heap_new
  rw [← hwa]
  have hrd : RdAt wa (.slice (some ⟨w1.heap.size, 0, none⟩) 1 1) 1 ([c].map byteV) [w1.heap.size] :=
    .inr ⟨_, 0, 1, _, _, _, rfl, rfl, hba, by simp [byteV], by simp, by simp [byteV], by simp⟩
  have g3a := g3.keep hka (by simp)
  have g1a := hka.get g1 (by simp)
  have hsza := hka.size
  rw [zc5l]
  refine rowsT_app (k := 1) (z := [Value.int .u8 0]) (G := [c].map byteV) g3a (by omega) rfl (by simp [byteV]) (byteV_one [c]) (fun K' hK' => hrd.src K' hK') (by simp; omega) (by simp; omega) fun v2 w2 S2 h2 hk2 hS2 => ?_
  have gg := hk2.get g1a g5
  have lb2 := live_of gg
  have hv2 := rows_one h2.at_
  have hbS2 : b ∉ S2 := fun hm => by
    rcases hS2 b hm with h | h
    · exact g5 h
    · omega
  have hk : Kp [b] w2 (setBlk w2 b (.cells #[p, v2] 110)) := (Kp.refl _ w2).setBlk (.inl (by simp)) _
  simp [-getElem?_pos, -Array.all_eq_true, -Array.getElem?_eq_getElem, -List.length_flatten, List.getElem?_cons_zero, List.getElem?_cons_succ, gg, lb2, hv2]
  refine hK _ (b :: S2) ⟨p, v2, S2, heap_self lb2, g2, ?_, ?_, rfl, hbS2⟩ ?_ ?_
  · rw [List.map_append]
    exact h2.keep hk (fun x hx => by simp; intro hh; exact hbS2 (hh ▸ hx))
  · intro hn
    simp at hn
  · exact ((hk1.trans' (hka.mono (by simp))).trans hk2 fun x hx _ => by simp [hx]).trans hk fun x hx _ => by simp at hx; simp [hx]
  · intro x hx
    rcases List.mem_cons.1 hx with rfl | hx
    · exact .inl (by simp)
    · rcases hS2 x hx with h | h
      · exact .inl (by simp [h])
      · exact .inr (by omega)
structure Bd (w0 w : World) (b : Nat) (l : List UInt8) : Prop where
  ex : ∃ S, Bld w b l S ∧ ∀ x ∈ S, w0.heap.size ≤ x
  kp : Kp [] w0 w
theorem Bd.keep {w0 w w' : World} {b : Nat} {l : List UInt8} (h : Bd w0 w b l) (hk : Kp [] w w') : Bd w0 w' b l := by
  obtain ⟨S, h1, h2⟩ := h.ex
  exact ⟨⟨S, h1.keep hk (by simp), h2⟩, h.kp.trans' hk⟩
theorem bd_new {w : World} : Bd w (w.alloc (.cells #[.pointer none, .slice none 0 0] 110)) w.heap.size [] := ⟨⟨_, bld_new, by simp⟩, (Kp.refl [] w).alloc _⟩
theorem zcB : zc Tryz.prog 110 = #[.pointer none, .slice none 0 0] := by kernel_rfl
theorem bd_string {w0 w : World} {b : Nat} {l : List UInt8} (h : Bd w0 w b l) (s : List UInt8) (hl : l.length + s.length < 2 ^ 40) {K : Value → World → Prop}
    (hK : ∀ w', Bd w0 w' b (l ++ s) → K (.tuple #[.int .i64 s.length, .nilIface]) w') : callG Tryz.prog 59 #[.pointer (some ⟨b, 0, none⟩), .string (str s)] w K := by
  obtain ⟨S, h1, h2⟩ := h.ex
  refine WriteString_spec h1 s hl fun w' S' h' hk hS => ?_
  have hs := h.kp.size
  refine hK w' ⟨⟨S', h', fun x hx => ?_⟩, h.kp.trans hk fun x hx hlt => by have := h2 x hx; omega⟩
  rcases hS x hx with h | h
  · exact h2 x h
  · omega
theorem bd_byte {w0 w : World} {b : Nat} {l : List UInt8} (h : Bd w0 w b l) (c : UInt8) (hl : l.length < 2 ^ 40) {K : Value → World → Prop}
    (hK : ∀ w', Bd w0 w' b (l ++ [c]) → K .nilIface w') : callG Tryz.prog 57 #[.pointer (some ⟨b, 0, none⟩), .int .u8 c.toNat] w K := by
  obtain ⟨S, h1, h2⟩ := h.ex
  refine WriteByte_spec h1 c hl fun w' S' h' hk hS => ?_
  have hs := h.kp.size
  refine hK w' ⟨⟨S', h', fun x hx => ?_⟩, h.kp.trans hk fun x hx hlt => by have := h2 x hx; omega⟩
  rcases hS x hx with h | h
  · exact h2 x h
  · omega
theorem bd_text {w0 w : World} {b : Nat} {l : List UInt8} (h : Bd w0 w b l) (hl : l.length < 2 ^ 62) {K : Value → World → Prop} (hK : ∀ w', Kp [] w0 w' → K (.string (str l)) w') :
    callG Tryz.prog 61 #[.pointer (some ⟨b, 0, none⟩)] w K := by
  obtain ⟨S, h1, h2⟩ := h.ex
  exact String_spec h1.done hl fun w' _ hk => hK w' (h.kp.trans hk fun x hx hlt => by have := h2 x hx; omega)
end Go.Proofs

set_option linter.unusedVariables false
set_option linter.unusedSimpArgs false
namespace Go.Q
variable {P : Program} {T : TypeId} {xo yo : Operand} {w : World} {K : Value → Prop} {u : Value}
theorem and_mask (x : Int) (m : Nat) (hm : m < 63) : IntKind.i64.wrap ((BitVec.ofInt 64 x &&& BitVec.ofInt 64 (2 ^ m - 1)).toNat : Int) = x % 2 ^ m := by
  have hp : (2 : Nat) ^ m ≤ 2 ^ 62 := Nat.pow_le_pow_right (by omega) (by omega)
  have hpos : 0 < (2 : Nat) ^ m := Nat.two_pow_pos m
  have h1 : (BitVec.ofInt 64 ((2 : Int) ^ m - 1)).toNat = 2 ^ m - 1 := by
    rw [BitVec.toNat_ofInt]
    have : ((2 : Int) ^ m - 1) = ((2 ^ m - 1 : Nat) : Int) := by
      rw [Int.ofNat_sub hpos]; simp
    rw [this]
    have hlt : 2 ^ m - 1 < 2 ^ 64 := by omega
    omega
  have h2 : ((BitVec.ofInt 64 x).toNat : Int) = x % 2 ^ 64 := by
    rw [BitVec.toNat_ofInt, Int.toNat_of_nonneg (Int.emod_nonneg _ (by decide))]
    rfl
  rw [BitVec.toNat_and, h1, Nat.and_two_pow_sub_one_eq_mod]
  have hd : ((2 : Int) ^ m) ∣ 2 ^ 64 := ⟨2 ^ (64 - m), by rw [← Int.pow_add, show m + (64 - m) = 64 by omega]⟩
  have h3 : (((BitVec.ofInt 64 x).toNat % 2 ^ m : Nat) : Int) = x % 2 ^ m := by
    rw [Int.natCast_emod, h2]
    have : ((2 ^ m : Nat) : Int) = (2 : Int) ^ m := by simp
    rw [this]
    exact Int.emod_emod_of_dvd x hd
  rw [h3]
  have hp' : (2 : Int) ^ m ≤ 2 ^ 62 := by
    have : ((2 ^ m : Nat) : Int) = (2 : Int) ^ m := by simp
    rw [← this]; omega
  have hpos' : (0 : Int) < 2 ^ m := Int.pow_pos (by omega)
  have := Int.emod_nonneg x (Int.ne_of_gt hpos')
  have := Int.emod_lt_of_pos x hpos'
  exact wrap64 _ (by omega) (by omega)
theorem run_and_mask {x c : Int} (m : Nat) (hm : m < 63) (hc : c = 2 ^ m - 1) : (bq .and T xo yo (.int .i64 x) (.int .i64 c)).run P w = .ok (.int .i64 (x % 2 ^ m)) w :=
  run_bq_int (s := .pure _) fun w => by
    have := and_mask x m hm
    rw [← hc] at this
    simp only [binOp, ne_eq, not_true_eq_false, if_false, Op.intBits]
    show Result.ok _ _ = Result.ok _ _
    congr 2
theorem and_of {x c : Int} (m : Nat) (hm : m < 63) (hc : c = 2 ^ m - 1) : qG P (bq .and T xo yo (.int .i64 x) (.int .i64 c)) w K = K (.int .i64 (x % 2 ^ m)) := qG_of (run_and_mask m hm hc)
theorem sand_of {x c : Int} (m : Nat) (hm : m < 63) (hc : c = 2 ^ m - 1) : stb P (bq .and T xo yo (.int .i64 x) (.int .i64 c)) u w = (.int .i64 (x % 2 ^ m) = u) := stb_of (run_and_mask m hm hc)
@[simp] theorem and1 {x : Int} : qG P (bq .and T xo yo (.int .i64 x) (.int .i64 1)) w K = K (.int .i64 (x % 2)) := and_of 1 (by omega) (by decide)
@[simp] theorem and7 {x : Int} : qG P (bq .and T xo yo (.int .i64 x) (.int .i64 7)) w K = K (.int .i64 (x % 8)) := and_of 3 (by omega) (by decide)
@[simp] theorem and15 {x : Int} : qG P (bq .and T xo yo (.int .i64 x) (.int .i64 15)) w K = K (.int .i64 (x % 16)) := and_of 4 (by omega) (by decide)
@[simp] theorem and127 {x : Int} : qG P (bq .and T xo yo (.int .i64 x) (.int .i64 127)) w K = K (.int .i64 (x % 128)) := and_of 7 (by omega) (by decide)
@[simp] theorem and255 {x : Int} : qG P (bq .and T xo yo (.int .i64 x) (.int .i64 255)) w K = K (.int .i64 (x % 256)) := and_of 8 (by omega) (by decide)
@[simp] theorem and511 {x : Int} : qG P (bq .and T xo yo (.int .i64 x) (.int .i64 511)) w K = K (.int .i64 (x % 512)) := and_of 9 (by omega) (by decide)
@[simp] theorem and65535 {x : Int} : qG P (bq .and T xo yo (.int .i64 x) (.int .i64 65535)) w K = K (.int .i64 (x % 65536)) := and_of 16 (by omega) (by decide)
@[simp] theorem sand1 {x : Int} : stb P (bq .and T xo yo (.int .i64 x) (.int .i64 1)) u w = (.int .i64 (x % 2) = u) := sand_of 1 (by omega) (by decide)
@[simp] theorem sand7 {x : Int} : stb P (bq .and T xo yo (.int .i64 x) (.int .i64 7)) u w = (.int .i64 (x % 8) = u) := sand_of 3 (by omega) (by decide)
@[simp] theorem sand255 {x : Int} : stb P (bq .and T xo yo (.int .i64 x) (.int .i64 255)) u w = (.int .i64 (x % 256) = u) := sand_of 8 (by omega) (by decide)
theorem run_shr {x y : Int} {k yk : IntKind} (h0 : 0 ≤ y) (h1 : y < k.bits) : (bq .shr T xo yo (.int k x) (.int yk y)).run P w = .ok (.int k (x / 2 ^ y.toNat)) w := by
  show (Op.shift .shr k x yk y).run P w = _
  have hn : ¬ y < 0 := by omega
  have hm : min y.toNat k.bits = y.toNat := by omega
  simp only [Op.shift, hn, if_false, hm]
  show Result.ok _ _ = Result.ok _ _
  congr 2
  exact (Int.fdiv_eq_ediv_of_nonneg x (Int.le_of_lt (Int.pow_pos (by omega))))
theorem shr_of {x y : Int} {k yk : IntKind} (h0 : 0 ≤ y) (h1 : y < k.bits) : qG P (bq .shr T xo yo (.int k x) (.int yk y)) w K = K (.int k (x / 2 ^ y.toNat)) := qG_of (run_shr h0 h1)
theorem run_rem {x y : Int} {k : IntKind} (hx : 0 ≤ x) (hy : 0 < y) : (bq .rem T xo yo (.int k x) (.int k y)).run P w = .ok (.int k (x % y)) w :=
  run_bq_int (s := .pure _) fun w => by
    have : ¬ y = 0 := by omega
    simp only [binOp, ne_eq, not_true_eq_false, if_false, Op.intDiv, this]
    show Result.ok _ _ = Result.ok _ _
    rw [Int.tmod_eq_emod_of_nonneg hx]
theorem rem_of {x y : Int} {k : IntKind} (hx : 0 ≤ x) (hy : 0 < y) : qG P (bq .rem T xo yo (.int k x) (.int k y)) w K = K (.int k (x % y)) := qG_of (run_rem hx hy)
theorem run_quo {x y : Int} {k : IntKind} (hx : 0 ≤ x) (hy : 0 < y) : (bq .quo T xo yo (.int k x) (.int k y)).run P w = .ok (.int k (k.wrap (x / y))) w :=
  run_bq_int (s := .pure _) fun w => by
    have : ¬ y = 0 := by omega
    simp only [binOp, ne_eq, not_true_eq_false, if_false, Op.intDiv, this]
    show Result.ok _ _ = Result.ok _ _
    rw [Int.tdiv_eq_ediv_of_nonneg hx]
theorem quo_of {x y : Int} {k : IntKind} (hx : 0 ≤ x) (hy : 0 < y) : qG P (bq .quo T xo yo (.int k x) (.int k y)) w K = K (.int k (k.wrap (x / y))) := qG_of (run_quo hx hy)
end Go.Q

set_option linter.unusedVariables false
set_option linter.unusedSimpArgs false
namespace Go.Q
variable {P : Program} {T : TypeId} {xo yo : Operand} {w : World} {K : Value → Prop} {u : Value}
theorem ofInt_nat (n : Nat) (b : Nat) : (BitVec.ofInt b (n : Int)).toNat = n % 2 ^ b := by simp [BitVec.toNat_ofInt]
theorem wrap_nat64 {n : Nat} (h : n < 2 ^ 63) : IntKind.i64.wrap (n : Int) = n := wrap64 _ (by omega) (by omega)
theorem wrap_nat32 {n : Nat} (h : n < 2 ^ 32) : IntKind.u32.wrap (n : Int) = n := by
  simp [IntKind.wrap, IntKind.bits, IntKind.signed]; omega
theorem or64_of {x y : Nat} (hx : x < 2 ^ 63) (hy : y < 2 ^ 63) : qG P (bq .or T xo yo (.int .i64 x) (.int .i64 y)) w K = K (.int .i64 ((x ||| y : Nat) : Int)) :=
  qG_of (run_bq_int (s := .pure _) fun w => by
    have h2 : IntKind.i64.wrap ((BitVec.ofInt 64 (x : Int) ||| BitVec.ofInt 64 (y : Int)).toNat : Int) = ((x ||| y : Nat) : Int) := by
      rw [BitVec.toNat_or, ofInt_nat, ofInt_nat, Nat.mod_eq_of_lt (by omega), Nat.mod_eq_of_lt (by omega)]; exact wrap_nat64 (Nat.or_lt_two_pow hx hy)
    simp only [binOp, ne_eq, not_true_eq_false, if_false, Op.intBits]
    show Result.ok _ _ = Result.ok _ _
    congr 2)
theorem xor32_of {x y : Nat} (hx : x < 2 ^ 32) (hy : y < 2 ^ 32) : qG P (bq .xor T xo yo (.int .u32 x) (.int .u32 y)) w K = K (.int .u32 ((x ^^^ y : Nat) : Int)) :=
  qG_of (run_bq_int (s := .pure _) fun w => by
    have h2 : IntKind.u32.wrap ((BitVec.ofInt 32 (x : Int) ^^^ BitVec.ofInt 32 (y : Int)).toNat : Int) = ((x ^^^ y : Nat) : Int) := by
      rw [BitVec.toNat_xor, ofInt_nat, ofInt_nat, Nat.mod_eq_of_lt (by omega), Nat.mod_eq_of_lt (by omega)]; exact wrap_nat32 (Nat.xor_lt_two_pow hx hy)
    simp only [binOp, ne_eq, not_true_eq_false, if_false, Op.intBits]
    show Result.ok _ _ = Result.ok _ _
    congr 2)
theorem and32_of {x y : Nat} (hx : x < 2 ^ 32) (hy : y < 2 ^ 32) : qG P (bq .and T xo yo (.int .u32 x) (.int .u32 y)) w K = K (.int .u32 ((x &&& y : Nat) : Int)) :=
  qG_of (run_bq_int (s := .pure _) fun w => by
    have h2 : IntKind.u32.wrap ((BitVec.ofInt 32 (x : Int) &&& BitVec.ofInt 32 (y : Int)).toNat : Int) = ((x &&& y : Nat) : Int) := by
      rw [BitVec.toNat_and, ofInt_nat, ofInt_nat, Nat.mod_eq_of_lt (by omega), Nat.mod_eq_of_lt (by omega)]; exact wrap_nat32 (Nat.and_lt_two_pow _ hy)
    simp only [binOp, ne_eq, not_true_eq_false, if_false, Op.intBits]
    show Result.ok _ _ = Result.ok _ _
    congr 2)
theorem neg32_of {x : Nat} (hx : x < 2 ^ 32) : qG P (Op.unary .neg (.int .u32 x)) w K = K (.int .u32 (((2 ^ 32 - x) % 2 ^ 32 : Nat) : Int)) :=
  qG_of (by
    have : IntKind.u32.wrap (0 - (x : Int)) = (((2 ^ 32 - x) % 2 ^ 32 : Nat) : Int) := by
      simp [IntKind.wrap, IntKind.bits, IntKind.signed]; omega
    show Result.ok _ _ = Result.ok _ _
    congr 2)
theorem not32_of {x : Nat} (hx : x < 2 ^ 32) : qG P (Op.unary .xor (.int .u32 x)) w K = K (.int .u32 (((2 ^ 32 - 1) ^^^ x : Nat) : Int)) :=
  qG_of (by
    have h2 : IntKind.u32.wrap ((BitVec.ofInt 32 IntKind.u32.max ^^^ BitVec.ofInt 32 (x : Int)).toNat : Int) = (((2 ^ 32 - 1) ^^^ x : Nat) : Int) := by
      have hm : IntKind.u32.max = ((2 ^ 32 - 1 : Nat) : Int) := by decide
      rw [hm, BitVec.toNat_xor, ofInt_nat, ofInt_nat, Nat.mod_eq_of_lt (by omega), Nat.mod_eq_of_lt (by omega)]; exact wrap_nat32 (Nat.xor_lt_two_pow (by omega) hx)
    show Result.ok _ _ = Result.ok _ _
    congr 2)
theorem shl_of {x y : Int} {k yk : IntKind} (h0 : 0 ≤ y) (h1 : y < k.bits) : qG P (bq .shl T xo yo (.int k x) (.int yk y)) w K = K (.int k (k.wrap (x * 2 ^ y.toNat))) := by
  refine qG_of ?_
  show (Op.shift .shl k x yk y).run P w = _
  have hn : ¬ y < 0 := by omega
  have hm : min y.toNat k.bits = y.toNat := by omega
  simp only [Op.shift, hn, if_false, hm]
  rfl
end Go.Q

set_option linter.unusedVariables false
set_option linter.unusedSimpArgs false
namespace Go.Q
variable {P : Program} {T : TypeId} {xo yo : Operand} {w : World} {K : Value → Prop} {u : Value}
theorem wrap_natu64 {n : Nat} (h : n < 2 ^ 64) : IntKind.u64.wrap (n : Int) = n := by
  simp [IntKind.wrap, IntKind.bits, IntKind.signed]; omega
theorem wrap_natu8 {n : Nat} (h : n < 2 ^ 8) : IntKind.u8.wrap (n : Int) = n := by
  simp [IntKind.wrap, IntKind.bits, IntKind.signed]; omega
theorem oru64_of {x y : Nat} (hx : x < 2 ^ 64) (hy : y < 2 ^ 64) : qG P (bq .or T xo yo (.int .u64 x) (.int .u64 y)) w K = K (.int .u64 ((x ||| y : Nat) : Int)) :=
  qG_of (run_bq_int (s := .pure _) fun w => by
    have h2 : IntKind.u64.wrap ((BitVec.ofInt 64 (x : Int) ||| BitVec.ofInt 64 (y : Int)).toNat : Int) = ((x ||| y : Nat) : Int) := by
      rw [BitVec.toNat_or, ofInt_nat, ofInt_nat, Nat.mod_eq_of_lt (by omega), Nat.mod_eq_of_lt (by omega)]; exact wrap_natu64 (Nat.or_lt_two_pow hx hy)
    simp only [binOp, ne_eq, not_true_eq_false, if_false, Op.intBits]
    show Result.ok _ _ = Result.ok _ _
    congr 2)
theorem xoru64_of {x y : Nat} (hx : x < 2 ^ 64) (hy : y < 2 ^ 64) : qG P (bq .xor T xo yo (.int .u64 x) (.int .u64 y)) w K = K (.int .u64 ((x ^^^ y : Nat) : Int)) :=
  qG_of (run_bq_int (s := .pure _) fun w => by
    have h2 : IntKind.u64.wrap ((BitVec.ofInt 64 (x : Int) ^^^ BitVec.ofInt 64 (y : Int)).toNat : Int) = ((x ^^^ y : Nat) : Int) := by
      rw [BitVec.toNat_xor, ofInt_nat, ofInt_nat, Nat.mod_eq_of_lt (by omega), Nat.mod_eq_of_lt (by omega)]; exact wrap_natu64 (Nat.xor_lt_two_pow hx hy)
    simp only [binOp, ne_eq, not_true_eq_false, if_false, Op.intBits]
    show Result.ok _ _ = Result.ok _ _
    congr 2)
theorem or_mul {x y k : Nat} (hx : x < 2 ^ k) : (y * 2 ^ k) ||| x = y * 2 ^ k + x := by
  rw [Nat.mul_comm y, Nat.two_pow_add_eq_or_of_lt hx]
theorem xor_top {x : Nat} (hx : x < 2 ^ 64) : x ^^^ 2 ^ 63 = (x + 2 ^ 63) % 2 ^ 64 := by
  have key : ∀ y, y < 2 ^ 63 → 2 ^ 63 + y = 2 ^ 63 ||| y := fun y hy => by
    have := Nat.two_pow_add_eq_or_of_lt hy 1
    rw [Nat.mul_one] at this
    exact this
  apply Nat.eq_of_testBit_eq
  intro i
  rw [Nat.testBit_xor, Nat.testBit_two_pow]
  have hx2 : x = (x / 2 ^ 63) * 2 ^ 63 + x % 2 ^ 63 := by omega
  have hr : x % 2 ^ 63 < 2 ^ 63 := Nat.mod_lt _ (by decide)
  have hq : x / 2 ^ 63 = 0 ∨ x / 2 ^ 63 = 1 := by omega
  rcases hq with hq | hq
  · have e : (x + 2 ^ 63) % 2 ^ 64 = 2 ^ 63 + x := by omega
    rw [e, key x (by omega)]
    rw [Nat.testBit_or]
    have hb : (2 ^ 63 : Nat).testBit i = decide (63 = i) := Nat.testBit_two_pow
    rw [hb]
    by_cases hi : 63 = i
    · subst hi
      have : x.testBit 63 = false := Nat.testBit_lt_two_pow (by omega)
      simp [this]
    · simp [hi]
  · have e : (x + 2 ^ 63) % 2 ^ 64 = x - 2 ^ 63 := by omega
    rw [e]
    obtain ⟨y, hy⟩ : ∃ y, y = x - 2 ^ 63 := ⟨_, rfl⟩
    have hxy : x = 2 ^ 63 + y := by omega
    have hylt : y < 2 ^ 63 := by omega
    rw [← hy, hxy, key y hylt]
    rw [Nat.testBit_or]
    have hb : (2 ^ 63 : Nat).testBit i = decide (63 = i) := Nat.testBit_two_pow
    rw [hb]
    by_cases hi : 63 = i
    · subst hi
      have : y.testBit 63 = false := Nat.testBit_lt_two_pow hylt
      simp [this]
    · simp [hi]
end Go.Q

set_option linter.unusedVariables false
set_option linter.unusedSimpArgs false
namespace Go.Q
structure V3 where
  k : Int
  n : Int
  s : List UInt8
  deriving DecidableEq
def valV (v : V3) : List Value := [.int .i64 v.k, .int .i64 v.n, .string (str v.s)]
def V3.ok (v : V3) : Bool :=
  if v.k = 0 then decide (v.n = 0 ∧ v.s = []) else if v.k = 1 then decide (v.s = []) else if v.k = 2 then decide (v.n = 0 ∧ v.s.length ≤ 64)
  else if v.k = 3 then decide ((v.n = 0 ∨ v.n = 1) ∧ v.s = []) else false
structure V3.Wf (v : V3) : Prop where
  k0 : -9223372036854775808 ≤ v.k
  k1 : v.k < 9223372036854775808
  n0 : -9223372036854775808 ≤ v.n
  n1 : v.n < 9223372036854775808
  s : v.s.length < 2 ^ 39
def bOf (x : Int) : UInt8 := UInt8.ofNat (x % 256).toNat
def be (m N : Nat) : List UInt8 := (List.range m).map fun i => UInt8.ofNat (N / 256 ^ (m - 1 - i) % 256)
def beN (l : List UInt8) : Nat := l.foldl (fun a c => a * 256 + c.toNat) 0
theorem be_len (m N : Nat) : (be m N).length = m := by simp [be]
theorem be_get {m N i : Nat} (h : i < m) : (be m N)[i]? = some (UInt8.ofNat (N / 256 ^ (m - 1 - i) % 256)) := by simp [be, h]
theorem be_succ (m N : Nat) : be (m + 1) N = be m (N / 256) ++ [UInt8.ofNat (N % 256)] := by
  unfold be
  rw [List.range_succ, List.map_append]
  congr 1
  · apply List.map_congr_left
    intro i hi
    rw [List.mem_range] at hi
    rw [Nat.div_div_eq_div_mul]
    have : m + 1 - 1 - i = (m - 1 - i) + 1 := by omega
    rw [this, Nat.pow_succ, Nat.mul_comm]
  · simp
theorem beN_snoc (l : List UInt8) (c : UInt8) : beN (l ++ [c]) = beN l * 256 + c.toNat := by simp [beN]
theorem beN_lt (l : List UInt8) : beN l < 256 ^ l.length := by
  have key : ∀ (l : List UInt8) (a b : Nat), a < b → l.foldl (fun a c => a * 256 + c.toNat) a < b * 256 ^ l.length := by
    intro l
    induction l with
    | nil => intro a b h; simpa using h
    | cons c l ih =>
      intro a b h
      have hc := c.toNat_lt
      have := ih (a * 256 + c.toNat) (b * 256) (by omega)
      rw [List.foldl_cons, List.length_cons, Nat.pow_succ, Nat.mul_comm (256 ^ l.length) 256, ← Nat.mul_assoc]
      exact this
  have := key l 0 1 (by omega)
  simpa [beN] using this
theorem be_beN : ∀ (m : Nat) (l : List UInt8), l.length = m → be m (beN l) = l := by
  intro m
  induction m with
  | zero => intro l h; have : l = [] := List.length_eq_zero_iff.1 h; subst this; rfl
  | succ m ih =>
    intro l h
    rcases List.eq_nil_or_concat l with h0 | ⟨l', c, h0⟩
    · subst h0; simp at h
    · rw [List.concat_eq_append] at h0
      subst h0
      have hl : l'.length = m := by simpa using h
      have hc := c.toNat_lt
      rw [be_succ, beN_snoc]
      have e1 : (beN l' * 256 + c.toNat) / 256 = beN l' := by omega
      have e2 : (beN l' * 256 + c.toNat) % 256 = c.toNat := by omega
      rw [e1, e2, ih l' hl]
      simp
def be8 (n : Int) : List UInt8 := be 8 (n + 9223372036854775808).toNat
def unbe8 (l : List UInt8) : Int := (beN l : Int) - 9223372036854775808
theorem be8_len (n : Int) : (be8 n).length = 8 := be_len _ _
theorem be8_unbe8 {l : List UInt8} (h : l.length = 8) : be8 (unbe8 l) = l := by
  unfold unbe8 be8
  have : ((beN l : Int) - 9223372036854775808 + 9223372036854775808).toNat = beN l := by omega
  rw [this, be_beN 8 l h]
theorem unbe8_wf {l : List UInt8} (h : l.length = 8) : -9223372036854775808 ≤ unbe8 l ∧ unbe8 l < 9223372036854775808 := by
  have := beN_lt l
  rw [h] at this
  unfold unbe8
  omega
def V3.bytes (v : V3) : List UInt8 := bOf v.k :: (if v.k = 1 then be8 v.n else if v.k = 2 then bOf v.s.length :: v.s else if v.k = 3 then [bOf v.n] else [])
def rowB (r : List V3) : List UInt8 := (r.map V3.bytes).flatten
def putRow (r : List V3) : List UInt8 × Int := if r.length ≤ 255 ∧ r.all V3.ok = true then (bOf r.length :: rowB r, 0) else ([], 1)
def oneV (s : List UInt8) : Option (V3 × Nat) :=
  match s with
  | [] => none
  | c :: t =>
    if c = 0 then some (⟨0, 0, []⟩, 1)
    else if c = 1 then (if t.length < 8 then none else some (⟨1, unbe8 (t.take 8), []⟩, 9))
    else if c = 2 then
      match t with
      | [] => none
      | d :: u => if u.length < d.toNat ∨ 64 < d.toNat then none else some (⟨2, 0, u.take d.toNat⟩, 2 + d.toNat)
    else if c = 3 then
      match t with
      | [] => none
      | d :: _ => if 1 < d.toNat then none else some (⟨3, d.toNat, []⟩, 2)
    else none
def takeL : Nat → List UInt8 → Option (List V3 × List UInt8)
  | 0, s => some ([], s)
  | n + 1, s =>
    match oneV s with
    | none => none
    | some (v, k) =>
      match takeL n (s.drop k) with
      | none => none
      | some (l, r) => some (v :: l, r)
def takeRow (s : List UInt8) : List V3 × Int :=
  match s with
  | [] => ([], 50)
  | c :: t =>
    match takeL c.toNat t with
    | some (l, []) => (l, 0)
    | _ => ([], 50)
theorem bOf_nat {n : Nat} (h : n < 256) : (bOf (n : Int)).toNat = n := by unfold bOf; simp; omega
theorem oneV_some {s : List UInt8} {v : V3} {k : Nat} (h : oneV s = some (v, k)) : v.ok = true ∧ v.Wf ∧ s = v.bytes ++ s.drop k ∧ k = v.bytes.length ∧ 0 < k ∧ k ≤ s.length := by
  cases s with
  | nil => simp [oneV] at h
  | cons c t =>
    unfold oneV at h
    simp only at h
    by_cases h0 : c = 0
    · subst h0
      rw [if_pos rfl] at h
      injection h with h; injection h with h1 h2; subst h1; subst h2
      exact ⟨rfl, ⟨by decide, by decide, by decide, by decide, by decide⟩, rfl, rfl, by omega, by simp⟩
    rw [if_neg h0] at h
    by_cases h1 : c = 1
    · subst h1
      rw [if_pos rfl] at h
      split at h
      · cases h
      · rename_i hl
        injection h with h; injection h with h1 h2; subst h1; subst h2
        have hl8 : (t.take 8).length = 8 := by rw [List.length_take]; omega
        have hw := unbe8_wf hl8
        have hb : V3.bytes ⟨1, unbe8 (t.take 8), []⟩ = 1 :: t.take 8 := by
          show (1 : UInt8) :: be8 (unbe8 (t.take 8)) = _
          rw [be8_unbe8 hl8]
        refine ⟨rfl, ⟨by simp, by simp, hw.1, hw.2, by simp⟩, ?_, ?_, by omega, by simp; omega⟩
        · rw [hb]; simp
        · rw [hb]; simp; omega
    rw [if_neg h1] at h
    by_cases h2 : c = 2
    · subst h2
      rw [if_pos rfl] at h
      cases t with
      | nil => cases h
      | cons d u =>
        simp only at h
        split at h
        · cases h
        · rename_i hl
          injection h with h; injection h with h1 h2; subst h1; subst h2
          have hlt : (u.take d.toNat).length = d.toNat := by rw [List.length_take]; omega
          have hb : V3.bytes ⟨2, 0, u.take d.toNat⟩ = 2 :: d :: u.take d.toNat := by
            show (2 : UInt8) :: bOf (u.take d.toNat).length :: u.take d.toNat = _
            rw [hlt]
            have : bOf (d.toNat : Int) = d := by
              apply UInt8.toNat_inj.1
              exact bOf_nat d.toNat_lt
            rw [this]
          refine ⟨?_, ⟨by simp, by simp, by simp, by simp, by simp only [hlt]; omega⟩, ?_, ?_, by omega, by simp; omega⟩
          · simp [V3.ok]; omega
          · rw [hb, show 2 + d.toNat = d.toNat + 1 + 1 by omega]; simp
          · rw [hb]; simp [hlt]; omega
    rw [if_neg h2] at h
    by_cases h3 : c = 3
    · subst h3
      rw [if_pos rfl] at h
      cases t with
      | nil => cases h
      | cons d u =>
        simp only at h
        split at h
        · cases h
        · rename_i hl
          injection h with h; injection h with h1 h2; subst h1; subst h2
          have hd : d.toNat = 0 ∨ d.toNat = 1 := by omega
          have hb : bOf (d.toNat : Int) = d := by
            apply UInt8.toNat_inj.1
            exact bOf_nat d.toNat_lt
          refine ⟨?_, ⟨by simp, by simp, by simp only; omega, by simp only; omega, by simp⟩, ?_, rfl, by omega, by simp⟩
          · simp [V3.ok]; omega
          · show _ = [(3 : UInt8), bOf (d.toNat : Int)] ++ _
            rw [hb]; rfl
    rw [if_neg h3] at h
    cases h
theorem takeL_some : ∀ (n : Nat) {s : List UInt8} {l : List V3} {r : List UInt8}, takeL n s = some (l, r) → l.length = n ∧ l.all V3.ok = true ∧ (∀ v ∈ l, v.Wf) ∧ s = rowB l ++ r := by
  intro n
  induction n with
  | zero =>
    intro s l r h
    unfold takeL at h
    injection h with h; injection h with h1 h2; subst h1; subst h2
    exact ⟨rfl, rfl, by simp, rfl⟩
  | succ n ih =>
    intro s l r h
    unfold takeL at h
    split at h
    · cases h
    · rename_i v k hv
      obtain ⟨h1, h2, h3, h4, h5, h6⟩ := oneV_some hv
      split at h
      · cases h
      · rename_i l' r' hl
        injection h with h; injection h with e1 e2; subst e1; subst e2
        obtain ⟨g1, g2, g3, g4⟩ := ih hl
        refine ⟨by simp [g1], by simp [h1, g2], fun x hx => ?_, ?_⟩
        · rcases List.mem_cons.1 hx with rfl | hx
          · exact h2
          · exact g3 x hx
        · rw [h3, g4]; simp [rowB]
theorem oneV_len {s : List UInt8} {v : V3} {k : Nat} (h : oneV s = some (v, k)) : k ≤ s.length := (oneV_some h).2.2.2.2.2
end Go.Q

set_option linter.unusedVariables false
set_option linter.unusedSimpArgs false
namespace Go.Q
theorem bld_step {places : List (Nat × Nat)} {z : List Value} {i off : Nat} {v : Value} {rest : List (Nat × Value)} {k : Value → Prop} (h : places[i]? = some (off, 1)) (hv : one v = true) (ho : off < z.length) :
    bld places z.toArray ((i, v) :: rest).toArray k = bld places (z.set off v).toArray rest.toArray k := by
  have hc := cells_one hv
  unfold bld
  show (match Instr.fill (places[·]?) z.toArray ((i, v) :: rest) with | some cs => k (.agg cs) | none => False) = (match Instr.fill (places[·]?) (z.set off v).toArray rest with | some cs => k (.agg cs) | none => False)
  rw [fill_step (off := off) (size := 1) h (by rw [hc]; rfl) (by simp only [List.size_toArray]; omega), hc]
  have : splice z.toArray off #[v] = (z.set off v).toArray := by
    have := splice_list z off [v]
    rw [this, List.set_eq_take_append_cons_drop, if_pos ho]
    simp
  rw [this]
def offAt : List (Nat × Nat) → Nat → Option Nat
  | [], _ => none
  | (o, n) :: r, i => if i = 0 then (if n = 1 then some o else none) else offAt r (i - 1)
theorem offAt_get : ∀ {places : List (Nat × Nat)} {i off : Nat}, offAt places i = some off → places[i]? = some (off, 1) := by
  intro places
  induction places with
  | nil => intro i off h; cases h
  | cons p r ih =>
    intro i off h
    obtain ⟨o, n⟩ := p
    unfold offAt at h
    split at h
    · rename_i hi
      split at h
      · rename_i hn
        injection h with h
        subst h; subst hn; subst hi
        rfl
      · cases h
    · rename_i hi
      have := ih h
      obtain ⟨j, rfl⟩ : ∃ j, i = j + 1 := ⟨i - 1, by omega⟩
      rw [List.getElem?_cons_succ]
      simpa using this
def putAt (places : List (Nat × Nat)) (z : List Value) (i : Nat) (v : Value) : List Value := match offAt places i with | some o => z.set o v | none => z
theorem bld_at {places : List (Nat × Nat)} {z : List Value} {i : Nat} {v : Value} {rest : List (Nat × Value)} {k : Value → Prop} (hv : one v = true)
    (ho : (match offAt places i with | some o => decide (o < z.length) | none => false) = true) :
    bld places z.toArray ((i, v) :: rest).toArray k = bld places (putAt places z i v).toArray rest.toArray k := by
  unfold putAt
  cases h : offAt places i with
  | none => rw [h] at ho; cases ho
  | some o =>
    rw [h] at ho
    exact bld_step (offAt_get h) hv (by simpa using ho)
def bld0 (places : List (Nat × Nat)) (z : Array Value) (ps : Array (Nat × Value)) (k : Value → Prop) : Prop := bld places z ps k
theorem bld_if {places : List (Nat × Nat)} {z : List Value} {i : Nat} {v : Value} {rest : List (Nat × Value)} {k : Value → Prop} :
    bld places z.toArray ((i, v) :: rest).toArray k = if one v = true ∧ (match offAt places i with | some o => decide (o < z.length) | none => false) = true then bld places (putAt places z i v).toArray rest.toArray k else bld0 places z.toArray ((i, v) :: rest).toArray k := by
  by_cases h : one v = true ∧ (match offAt places i with | some o => decide (o < z.length) | none => false) = true
  · rw [if_pos h]; exact bld_at h.1 h.2
  · rw [if_neg h]; rfl
theorem bld_done {places : List (Nat × Nat)} {z : Array Value} {k : Value → Prop} : bld places z #[] k = k (.agg z) := rfl
@[simp] theorem cells_agg {cs : Array Value} : Value.cells (.agg cs) = cs := rfl
@[simp] theorem cells_int {k : IntKind} {n : Int} : Value.cells (.int k n) = #[.int k n] := rfl
@[simp] theorem cells_str {s : ByteArray} : Value.cells (.string s) = #[.string s] := rfl
@[simp] theorem all_cons1 {a : Value} {l : List Value} : (List.toArray (a :: l)).all one = (one a && (List.toArray l).all one) := by simp
@[simp] theorem all_nil1 : (List.toArray ([] : List Value)).all one = true := by simp
@[simp] theorem splice_lit {l vs : List Value} (h : l.length = vs.length) : splice l.toArray 0 vs.toArray = vs.toArray := splice_all (by simpa using h)
theorem ixS_lit {s : List UInt8} {kd : IntKind} {i : Nat} (hi : i < s.length) {K : Value → Prop} : ixS (.string (str s)) (.int kd i) K = K (.int .u8 s[i].toNat) := by
  have : (str s)[i]? = some s[i] := by
    have h : i < (str s).size := by simpa using hi
    rw [getElem?_pos (str s) i h]
    rfl
  unfold ixS
  simp only [Int.toNat_natCast, this]
  simp
theorem loadVar_of {P : Program} {t : TypeId} {n b : Nat} {w : World} {c : Array Value} {T : TypeId} {fr : Nat × Nat} (ha : aggO P t = some true) (hn : szO P t = some n) (hh : w.heap[b]? = some (.cells c T fr)) (hs : c.size = n) {K : Value → Prop} :
    qG P (do loadVar t (← asAddr (.pointer (some ⟨b, 0, none⟩)))) w K = K (.agg c) := by
  refine qG_of ?_
  have h : ldn n (.pointer (some ⟨b, 0, none⟩)) w (fun v => v = .agg c) := by
    rw [ldn_p]; unfold rdN; simp only [hh, true_and, hs, Nat.zero_add, Nat.le_refl]
    have : c.extract 0 n = c := by rw [← hs]; simp
    rw [this]
  obtain ⟨v, hr, hv⟩ := ldn_q (P := P) ha hn h
  subst hv
  exact hr
theorem wrap_u8 (x : Int) : IntKind.u8.wrap x = ((bOf x).toNat : Int) := by
  have h1 : (bOf x).toNat = (x % 256).toNat := by unfold bOf; simp; omega
  rw [h1]
  simp [IntKind.wrap, IntKind.bits, IntKind.signed]
  omega
theorem top_u64 {P : Program} {T : TypeId} {xo yo : Operand} {w : World} {K : Value → Prop} {n : Int} (h0 : -9223372036854775808 ≤ n) (h1 : n < 9223372036854775808) :
    qG P (bq .xor T xo yo (.int .u64 (IntKind.u64.wrap n)) (.int .u64 9223372036854775808)) w K = K (.int .u64 ((n + 9223372036854775808).toNat : Nat)) := by
  have e1 : IntKind.u64.wrap n = (((n % 18446744073709551616).toNat : Nat) : Int) := by
    simp [IntKind.wrap, IntKind.bits, IntKind.signed]; omega
  have e2 : Value.int .u64 9223372036854775808 = .int .u64 ((2 ^ 63 : Nat) : Int) := rfl
  have e3 : ((n % 18446744073709551616).toNat + 2 ^ 63) % 2 ^ 64 = (n + 9223372036854775808).toNat := by omega
  rw [e1, e2, xoru64_of (by omega) (by omega), xor_top (by omega), e3]
theorem top2_u64 {P : Program} {T : TypeId} {xo yo : Operand} {w : World} {K : Value → Prop} {x : Nat} (hx : x < 2 ^ 64) :
    qG P (bq .xor T xo yo (.int .u64 x) (.int .u64 9223372036854775808)) w K = K (.int .u64 ((x + 2 ^ 63) % 2 ^ 64 : Nat)) := by
  have e2 : Value.int .u64 9223372036854775808 = .int .u64 ((2 ^ 63 : Nat) : Int) := rfl
  rw [e2, xoru64_of hx (by omega), xor_top hx]
theorem p256_8 : (256 : Nat) ^ 8 = 2 ^ 64 := by decide
theorem bOf_shift {N i : Nat} (hi : i < 8) : bOf ((N : Int) / 2 ^ (8 * (7 - (i : Int))).toNat) = UInt8.ofNat (N / 256 ^ (8 - 1 - i) % 256) := by
  have e : (8 * (7 - (i : Int))).toNat = 8 * (8 - 1 - i) := by omega
  rw [e]
  have e2 : ((2 : Int) ^ (8 * (8 - 1 - i))) = ((256 ^ (8 - 1 - i) : Nat) : Int) := by rw [Int.pow_mul]; simp
  rw [e2, ← Int.natCast_ediv]
  generalize N / 256 ^ (8 - 1 - i) = q
  unfold bOf
  congr 1
theorem bsl_byte {e : Nat} {z : Array Value} (c : UInt8) {w : World} {K : Value → World → Prop} (hK : ∀ v' w', Fr w w' v' 1 ([c].map byteV) → K v' w') : bsl e 1 1 z #[(0, .int .u8 c.toNat)] w K :=
  bsl_rowN (n := 1) (cs := byteV c) (by omega) rfl rfl hK
theorem take_snoc {α : Type} {l : List α} {i : Nat} {x : α} (h : l[i]? = some x) : l.take i ++ [x] = l.take (i + 1) := by
  obtain ⟨hi, hx⟩ := List.getElem?_eq_some_iff.1 h
  rw [List.take_succ_eq_append_getElem hi, hx]
theorem V3.bytes_ok {v : V3} (h : v.ok = true) : v.bytes.length ≤ 66 := by
  obtain ⟨k, n, s⟩ := v
  unfold V3.ok at h
  unfold V3.bytes
  simp only at h ⊢
  by_cases h1 : k = 1
  · simp [h1, be8_len]
  · by_cases h2 : k = 2
    · simp [h2] at h ⊢; omega
    · by_cases h3 : k = 3
      · simp [h3]
      · simp [h1, h2, h3]
theorem rowB_len {r : List V3} (h : r.all V3.ok = true) : (rowB r).length ≤ 66 * r.length := by
  induction r with
  | nil => simp [rowB]
  | cons v r ih =>
    simp only [List.all_cons, Bool.and_eq_true] at h
    have h1 := ih h.2
    have h2 := V3.bytes_ok h.1
    have e : rowB (v :: r) = v.bytes ++ rowB r := by simp [rowB]
    rw [e, List.length_append, List.length_cons]
    omega
theorem rowB_snoc (r : List V3) (v : V3) : rowB (r ++ [v]) = rowB r ++ v.bytes := by simp [rowB]
theorem putRow_bad {r : List V3} {v : V3} (h : v ∈ r) (hv : v.ok = false) : putRow r = ([], 1) := by
  unfold putRow
  rw [if_neg]
  rintro ⟨_, h2⟩
  rw [List.all_eq_true] at h2
  rw [h2 v h] at hv
  cases hv
theorem str_nil : (⟨#[]⟩ : ByteArray) = str [] := rfl
theorem kp_alloc {w : World} {o : Obj} : Kp [] w (w.alloc o) := (Kp.refl [] w).alloc o
theorem kp_drew {w : World} : Kp [] w w.drew := (Kp.refl [] w).drew
theorem ex_w {w' : World} : ∃ w, w = w' := ⟨_, rfl⟩
end Go.Q

set_option linter.unusedVariables false
set_option linter.unusedSimpArgs false
namespace Go.Proofs
open Go Go.Q
theorem zcV : zc Tryz.prog 76 = #[.int .i64 0, .int .i64 0, .string ⟨#[]⟩] := by kernel_rfl
theorem zcVl : zc Tryz.prog 76 = [.int .i64 0, .int .i64 0, .string ⟨#[]⟩].toArray := by kernel_rfl
theorem eqVal {a b a' b' : Int} {s s' : ByteArray} : aggEq Tryz.prog 76 [.int .i64 a, .int .i64 b, .string s] [.int .i64 a', .int .i64 b', .string s'] = true := by kernel_rfl
theorem mod2 {n : Int} : (n = n % 2) = (n = 0 ∨ n = 1) := by apply propext; omega
theorem le64 {s : List UInt8} : ((s.length : Int) ≤ 64) = (s.length ≤ 64) := by apply propext; omega
theorem lt64 {s : List UInt8} : (64 < (s.length : Int)) = ¬ (s.length ≤ 64) := by apply propext; omega
theorem Check_spec {w : World} (v : V3) {K : Value → World → Prop} (hK : ∀ w', Kp [] w w' → K (.int .i64 (if v.ok = true then 0 else 1)) w') : callG Tryz.prog 58 #[.agg #[.int .i64 v.k, .int .i64 v.n, .string (str v.s)]] w K := by
  refine value_Check_call ?_
  obtain ⟨k, n, s⟩ := v
  simp only [value_Check, value_Check_s0]
  have hk := hK _ (kp_alloc (w := w) (o := .cells #[.int .i64 k, .int .i64 n, .string (str s)] 76))
  simp [-getElem?_pos, -Array.all_eq_true, -Array.getElem?_eq_getElem, -List.length_flatten, List.getElem?_cons_zero, List.getElem?_cons_succ, heap_new, zcVl, bld_done, bld_if, offAt, putAt, eqVal, str_nil, mod2, le64, lt64]
  generalize w.alloc _ = W at hk ⊢
  unfold V3.ok at hk
  simp only at hk
  by_cases h0 : k = 0
  · by_cases c : n = 0 ∧ s = [] <;> simp_all
  by_cases h1 : k = 1
  · by_cases c : s = [] <;> simp_all
  by_cases h2 : k = 2
  · by_cases c : n = 0 ∧ s.length ≤ 64 <;> simp_all
    · intros; omega
    · intro a b; have := c a; omega
  by_cases h3 : k = 3
  · by_cases c : (n = 0 ∨ n = 1) ∧ s = [] <;> simp_all
    · intros; omega
    · intro a b; exact absurd b (c (by omega))
  simp_all
theorem bytes_spec {w : World} (v : V3) (hw : v.Wf) {K : Value → World → Prop} (hK : ∀ w', Kp [] w w' → K (.string (str v.bytes)) w') : callG Tryz.prog 60 #[.agg #[.int .i64 v.k, .int .i64 v.n, .string (str v.s)]] w K := by
  refine value_bytes_call ?_
  have hs := hw.s
  have hn0 := hw.n0
  have hn1 := hw.n1
  obtain ⟨k, n, s⟩ := v
  simp only at hs hn0 hn1
  simp only [value_bytes, value_bytes_s8, newG_k, cells_agg]
  obtain ⟨w1, hw1⟩ := ex_w (w' := w.alloc (.cells #[.int .i64 k, .int .i64 n, .string (str s)] 76))
  have hk1 : Kp [] w w1 := by rw [hw1]; exact kp_alloc
  have hb1 : w1.heap[w.heap.size]? = some (.cells #[.int .i64 k, .int .i64 n, .string (str s)] 76) := by rw [hw1]; exact heap_new
  rw [← hw1]
  simp [-getElem?_pos, -Array.all_eq_true, -Array.getElem?_eq_getElem, -List.length_flatten, List.getElem?_cons_zero, List.getElem?_cons_succ, hb1, wrap_u8]
  refine bsl_byte _ fun v2 w2 h2 => ?_
  have hb2 := h2.kp.get hb1 (by simp)
  unfold value_bytes_s7 value_bytes_s6 value_bytes_s5
  simp [-getElem?_pos, -Array.all_eq_true, -Array.getElem?_eq_getElem, -List.length_flatten, List.getElem?_cons_zero, List.getElem?_cons_succ, hb2]
  have fin : ∀ w' v' l, Fr w1 w' v' 1 (l.map byteV) → V3.bytes ⟨k, n, s⟩ = l → value_bytes_s0 K v' w' := by
    intro w' v' l h' hl
    unfold value_bytes_s0
    rw [h'.text, ← hl]
    exact hK w' (hk1.trans' h'.kp)
  refine ⟨fun hk => ?_, fun hk => ?_⟩
  · subst hk
    unfold value_bytes_s3
    simp [-getElem?_pos, -Array.all_eq_true, -Array.getElem?_eq_getElem, -List.length_flatten, List.getElem?_cons_zero, List.getElem?_cons_succ, hb2]
    rw [top_u64 hn0 hn1]
    obtain ⟨N, hN⟩ : ∃ N, N = (n + 9223372036854775808).toNat := ⟨_, rfl⟩
    rw [← hN]
    unfold value_bytes_L2
    refine loop_inv (fun m xs wi => ∃ i vi, i ≤ 8 ∧ m = 8 - i ∧ xs = [vi, .int .u64 N, .int .i64 (i : Nat)] ∧ Fr w1 wi vi 1 ((bOf 1 :: (be8 n).take i).map byteV)) ?_ (m := 8) ⟨0, v2, by omega, rfl, rfl, h2⟩
    rintro m N1 xs wi ⟨i, vi, hi, rfl, rfl, hf⟩ hN1
    simp only [value_bytes_L2F, value_bytes_b1, bq_lss, bV_b]
    refine ⟨fun hlt => ?_, fun hge => ?_⟩
    · have hi : i < 8 := by simp at hlt; omega
      have e1 : IntKind.i64.wrap (7 - (i : Int)) = 7 - (i : Int) := w64 (by omega) (by omega)
      have e2 : IntKind.i64.wrap (8 * (7 - (i : Int))) = 8 * (7 - (i : Int)) := w64 (by omega) (by omega)
      have e3 : IntKind.i64.wrap ((i : Int) + 1) = ((i + 1 : Nat) : Int) := by rw [w64 (by omega) (by omega)]; simp
      simp only [bq_sub, bq_mul, bq_add, e1, e2, e3]
      rw [shr_of (by omega) (by simp [IntKind.bits]; omega)]
      simp only [cvI_i, wrap_u8]
      rw [bOf_shift hi]
      refine bsl_byte _ fun v3 w3 h3 => ?_
      have hf3 := hf.keep h3.kp
      refine byte_app (by kernel_rfl) hf3 h3.rd (by simp [be8_len]; omega) fun v4 w4 h4 => ?_
      have hg : (be8 n)[i]? = some (UInt8.ofNat (N / 256 ^ (8 - 1 - i) % 256)) := by rw [hN]; exact be_get hi
      rw [List.cons_append, take_snoc hg] at h4
      exact hN1 (8 - (i + 1)) _ _ (by omega) ⟨i + 1, v4, by omega, rfl, rfl, h4⟩
    · have hie : i = 8 := by simp at hge; omega
      subst hie
      rw [List.take_of_length_le (by simp [be8_len])] at hf
      exact fin _ _ _ hf rfl
  · unfold value_bytes_s4
    simp [-getElem?_pos, -Array.all_eq_true, -Array.getElem?_eq_getElem, -List.length_flatten, List.getElem?_cons_zero, List.getElem?_cons_succ, hb2]
    refine ⟨fun hk2 => ?_, fun hk2 => ⟨fun hk3 => ?_, fun hk3 => ?_⟩⟩
    · subst hk2
      rw [wrap_u8]
      have hb2d : w2.drew.heap[w.heap.size]? = some (.cells #[.int .i64 2, .int .i64 n, .string (str s)] 76) := hb2
      refine bsl_byte _ fun v3 w3 h3 => ?_
      have h2d := h2.keep kp_drew
      have hb3 := h3.kp.get hb2d (by simp)
      simp [-getElem?_pos, -Array.all_eq_true, -Array.getElem?_eq_getElem, -List.length_flatten, List.getElem?_cons_zero, List.getElem?_cons_succ, hb3]
      refine byte_app (by kernel_rfl) (h2d.keep h3.kp) h3.rd (by simp) fun v4 w4 h4 => ?_
      have hb4 := h4.kp.get hb1 (by simp)
      simp [-getElem?_pos, -Array.all_eq_true, -Array.getElem?_eq_getElem, -List.length_flatten, List.getElem?_cons_zero, List.getElem?_cons_succ, hb4]
      refine bytes_app (by kernel_rfl) h4 s (by simp; omega) fun v5 w5 h5 => ?_
      exact fin _ _ _ h5 rfl
    · subst hk3
      rw [wrap_u8]
      refine bsl_byte _ fun v3 w3 h3 => ?_
      refine byte_app (by kernel_rfl) (h2.keep h3.kp) h3.rd (by simp) fun v4 w4 h4 => ?_
      exact fin _ _ _ h4 rfl
    · exact fin _ _ _ h2 (by simp [V3.bytes, hk, hk2, hk3])
end Go.Proofs

set_option linter.unusedVariables false
set_option linter.unusedSimpArgs false
namespace Go.Proofs
open Go Go.Q
theorem aggValT : aggO Tryz.prog 76 = some true := by kernel_rfl
theorem szValT : szO Tryz.prog 76 = some 3 := by kernel_rfl
section
variable {w0 : World} {a b : Nat} {R : Value → World → Prop}
theorem one_s0 {w : World} {ca : Array Value} {v : V3} {t : List UInt8} {p : Nat} (hp : p ≤ t.length) (ha : w.heap[a]? = some (.cells ca 76)) (hsz : ca.size = 3) (hb : w.heap[b]? = some (.cells #[.int .i64 v.k, .int .i64 v.n, .string (str v.s)] 76))
    (ha0 : w0.heap.size ≤ a) (hk : Kp [] w0 w) (hR : ∀ w', Kp [] w0 w' → R (.tuple #[.agg #[.int .i64 v.k, .int .i64 v.n, .string (str v.s)], .string (str (t.drop p)), .bool v.ok]) w') :
    value_one_s0 R (.string (str t)) (.pointer (some ⟨a, 0, none⟩)) (.pointer (some ⟨b, 0, none⟩)) (.int .i64 p) w := by
  unfold value_one_s0
  have hx : (str t).extract p t.length = str (t.drop p) := by rw [str_extract, List.take_length]
  simp [-getElem?_pos, -Array.all_eq_true, -Array.getElem?_eq_getElem, -List.length_flatten, List.getElem?_cons_zero, List.getElem?_cons_succ, hb, hx, hp]
  refine Check_spec v fun w1 hk1 => ?_
  have hkd : Kp [] w w1 := kp_drew.trans' hk1
  have ha1 := hkd.get ha (by simp)
  have hb1 := hkd.get hb (by simp)
  have la := live_of ha1
  have hok : (decide ((if v.ok = true then (0 : Int) else 1) = 0)) = v.ok := by cases v.ok <;> rfl
  simp only [bq_eql, stb_eql, hok]
  simp [-getElem?_pos, -Array.all_eq_true, -Array.getElem?_eq_getElem, -List.length_flatten, List.getElem?_cons_zero, List.getElem?_cons_succ, hb1, ha1, hsz]
  rw [splice_all (by simp [hsz]), loadVar_of aggValT szValT (heap_self la) rfl]
  exact hR _ ((hk.trans' hkd).setBlk (.inr ha0) _)
theorem wrap_top {x : Nat} (h : x < 2 ^ 64) : IntKind.i64.wrap (((x + 2 ^ 63) % 2 ^ 64 : Nat) : Int) = (x : Int) - 9223372036854775808 := by
  rcases Nat.lt_or_ge x (2 ^ 63) with h1 | h1
  · obtain ⟨y, hy⟩ : ∃ y, y = (x + 2 ^ 63) % 2 ^ 64 := ⟨_, rfl⟩
    have hy2 : y = x + 9223372036854775808 := by omega
    rw [← hy, hy2]
    simp only [IntKind.wrap, IntKind.bits, IntKind.signed]
    simp
    omega
  · obtain ⟨y, hy⟩ : ∃ y, y = (x + 2 ^ 63) % 2 ^ 64 := ⟨_, rfl⟩
    have hy2 : y = x - 9223372036854775808 := by omega
    rw [← hy, hy2, w64 (by omega) (by omega)]
    omega
theorem lvV {b : Nat} {w : World} {c : Array Value} {T : TypeId} {fr : Nat × Nat} (hb : Live w b) (hs : c.size = 3) {K : Value → Prop} :
    qG Tryz.prog (do loadVar 76 (← asAddr (.pointer (some ⟨b, 0, none⟩)))) (setBlk w b (.cells c T fr)) K = K (.agg c) := loadVar_of aggValT szValT (heap_self hb) hs
theorem one_loop {w : World} {ca : Array Value} {t : List UInt8} (h8 : 8 ≤ t.length) (hl : t.length < 2 ^ 39) (ha : w.heap[a]? = some (.cells ca 76)) (hsz : ca.size = 3) (hb : w.heap[b]? = some (.cells #[.int .i64 1, .int .i64 0, .string (str [])] 76))
    (hab : ¬ b = a) (ha0 : w0.heap.size ≤ a) (hb0 : w0.heap.size ≤ b) (hk : Kp [] w0 w) (hR : ∀ w', Kp [] w0 w' → R (.tuple #[.agg #[.int .i64 1, .int .i64 (unbe8 (t.take 8)), .string (str [])], .string (str (t.drop 8)), .bool true]) w') :
    value_one_s5 R (.string (str t)) (.pointer (some ⟨a, 0, none⟩)) (.pointer (some ⟨b, 0, none⟩)) (.int .i64 8) w := by
  unfold value_one_s5 value_one_s4 value_one_L3
  refine loop_inv (fun m xs wi => ∃ i, i ≤ 8 ∧ m = 8 - i ∧ xs = [.string (str t), .pointer (some ⟨a, 0, none⟩), .pointer (some ⟨b, 0, none⟩), .int .i64 8, .int .u64 (beN (t.take i) : Nat), .int .i64 (i : Nat)] ∧ wi = w) ?_ (m := 8) ⟨0, by omega, rfl, rfl, rfl⟩
  rintro m N xs wi ⟨i, hi, rfl, rfl, rfl⟩ hN
  simp only [value_one_L3F, value_one_b2, bq_lss, bV_b]
  refine ⟨fun hlt => ?_, fun hge => ?_⟩
  · have hi : i < 8 := by simp at hlt; omega
    have hit : i < t.length := by omega
    have e3 : IntKind.i64.wrap ((i : Int) + 1) = ((i + 1 : Nat) : Int) := by rw [w64 (by omega) (by omega)]; simp
    have hbl := beN_lt (t.take i)
    rw [List.length_take, Nat.min_eq_left (by omega)] at hbl
    have hpow : 256 ^ i ≤ 256 ^ 7 := Nat.pow_le_pow_right (by omega) (by omega)
    have hc := t[i].toNat_lt
    rw [shl_of (by omega) (by decide)]
    have e1 : IntKind.u64.wrap (((beN (t.take i) : Nat) : Int) * 2 ^ (8 : Int).toNat) = ((beN (t.take i) * 2 ^ 8 : Nat) : Int) := by
      rw [show (((beN (t.take i) : Nat) : Int) * 2 ^ (8 : Int).toNat) = ((beN (t.take i) * 2 ^ 8 : Nat) : Int) by rw [Int.natCast_mul]; rfl]
      exact wrap_natu64 (by omega)
    rw [e1, ixS_lit hit]
    have e2 : IntKind.u64.wrap (t[i].toNat : Int) = (t[i].toNat : Int) := wrap_natu64 (by omega)
    simp only [cvI_i, e2]
    rw [oru64_of (by omega) (by omega), or_mul (by omega)]
    simp only [bq_add, e3]
    refine hN (8 - (i + 1)) _ _ (by omega) ⟨i + 1, by omega, rfl, ?_, rfl⟩
    have e4 : beN (t.take (i + 1)) = beN (t.take i) * 2 ^ 8 + t[i].toNat := by rw [List.take_succ_eq_append_getElem hit, beN_snoc]
    rw [e4]
  · have hie : i = 8 := by simp at hge; omega
    subst hie
    unfold value_one_s1
    have hbl := beN_lt (t.take 8)
    rw [List.length_take, Nat.min_eq_left (by omega)] at hbl
    rw [top2_u64 (p256_8 ▸ hbl)]
    have e1 : IntKind.i64.wrap (((beN (t.take 8) + 2 ^ 63) % 2 ^ 64 : Nat) : Int) = unbe8 (t.take 8) := by
      unfold unbe8
      exact wrap_top (p256_8 ▸ hbl)
    have lb := live_of hb
    rw [cvI_i, e1]
    simp [-getElem?_pos, -Array.all_eq_true, -Array.getElem?_eq_getElem, -List.length_flatten, List.getElem?_cons_zero, List.getElem?_cons_succ, hb]
    generalize unbe8 (t.take 8) = N8 at hR ⊢
    have q1 : (setBlk wi b (.cells #[.int .i64 1, .int .i64 N8, .string (str [])] 76)).heap[a]? = some (.cells ca 76) := by rw [heap_ne hab]; exact ha
    have q2 : (setBlk wi b (.cells #[.int .i64 1, .int .i64 N8, .string (str [])] 76)).heap[b]? = some (.cells #[.int .i64 1, .int .i64 N8, .string (str [])] 76) := heap_self lb
    have q3 := hk.setBlk (.inr hb0) (.cells #[.int .i64 1, .int .i64 N8, .string (str [])] 76)
    have q4 := one_s0 (v := ⟨1, N8, []⟩) h8 q1 hsz q2 ha0 q3 hR
    exact q4
theorem one_spec {w : World} (s : List UInt8) (hl : s.length < 2 ^ 39) {K : Value → World → Prop}
    (hY : ∀ v k w', oneV s = some (v, k) → Kp [] w w' → K (.tuple #[.agg #[.int .i64 v.k, .int .i64 v.n, .string (str v.s)], .string (str (s.drop k)), .bool true]) w')
    (hN : ∀ v : V3, ∀ y w', oneV s = none → Kp [] w w' → K (.tuple #[.agg #[.int .i64 v.k, .int .i64 v.n, .string (str v.s)], y, .bool false]) w') : callG Tryz.prog 129 #[.string (str s)] w K := by
  refine value_one_call ?_
  simp only [value_one, value_one_s11, newG_k]
  obtain ⟨w1, hw1⟩ := ex_w (w' := w.alloc (.cells (zc Tryz.prog 76) 76))
  have hk1 : Kp [] w w1 := by rw [hw1]; exact kp_alloc
  have ha1 : w1.heap[w.heap.size]? = some (.cells #[.int .i64 0, .int .i64 0, .string ⟨#[]⟩] 76) := by rw [hw1, zcV]; exact heap_new
  have hs1 : w1.heap.size = w.heap.size + 1 := by rw [hw1]; simp
  rw [← hw1]
  cases s with
  | nil =>
    have la := live_of ha1
    simp [-getElem?_pos, -Array.all_eq_true, -Array.getElem?_eq_getElem, -List.length_flatten, List.getElem?_cons_zero, List.getElem?_cons_succ, str_nil, zcVl, bld_done, ha1]
    rw [loadVar_of aggValT szValT (heap_self la) rfl]
    exact hN ⟨0, 0, []⟩ _ _ rfl (hk1.setBlk (.inr (Nat.le_refl _)) _)
  | cons c t =>
    have hne : (str (c :: t) = str []) = False := by simp
    have hx : (str (c :: t)).extract 1 (t.length + 1) = str t := by rw [str_extract]; simp
    simp only [List.length_cons] at hl
    have hc := c.toNat_lt
    have ekind : IntKind.i64.wrap (c.toNat : Int) = (c.toNat : Int) := w64 (by omega) (by omega)
    have e0 : ∀ K : Value → Prop, ixS (.string (str (c :: t))) (.int .i64 0) K = K (.int .u8 c.toNat) := fun K => ixS_lit (s := c :: t) (i := 0) (by simp)
    obtain ⟨w2, hw2⟩ := ex_w (w' := w1.alloc (.cells #[.int .i64 c.toNat, .int .i64 0, .string (str [])] 76))
    have hk2 : Kp [] w1 w2 := by rw [hw2]; exact kp_alloc
    have hb2 : w2.heap[w1.heap.size]? = some (.cells #[.int .i64 c.toNat, .int .i64 0, .string (str [])] 76) := by rw [hw2]; exact heap_new
    have ha2 := hk2.get ha1 (by simp)
    have hk02 := hk1.trans' hk2
    simp [-getElem?_pos, -Array.all_eq_true, -Array.getElem?_eq_getElem, -List.length_flatten, List.getElem?_cons_zero, List.getElem?_cons_succ, str_nil, e0, ekind, zcVl, bld_done, bld_if, offAt, putAt, hne, heap_new, hx]
    rw [← hw2]
    have l2 := live_of ha2
    simp [-getElem?_pos, -Array.all_eq_true, -Array.getElem?_eq_getElem, -List.length_flatten, List.getElem?_cons_zero, List.getElem?_cons_succ, ha2, lvV l2]
    have hab : ¬ w1.heap.size = w.heap.size := by omega
    have lb2 := live_of hb2
    have fail : ∀ S : World, Kp [] w S → oneV (c :: t) = none → ∀ v : V3, K (.tuple #[.agg #[.int .i64 v.k, .int .i64 v.n, .string (str v.s)], .string (str []), .bool false]) S := fun S hS h v => hN v _ S h hS
    have hkS : ∀ o, Kp [] w (setBlk w2 w.heap.size o) := fun o => hk02.setBlk (.inr (Nat.le_refl _)) _
    have hkB : ∀ o, Kp [] w (setBlk w2 w1.heap.size o) := fun o => hk02.setBlk (.inr (by omega)) _
    refine ⟨by omega, fun h0 => ?_, fun h0 => ⟨fun h1 => ?_, fun h1 => ⟨fun h2 => ?_, fun h2 => ⟨fun h3 => ?_, fun h3 => ?_⟩⟩⟩⟩
    · have hc0 : c = 0 := UInt8.toNat_inj.1 h0
      subst hc0
      exact hY ⟨0, 0, []⟩ 1 _ rfl (hkS _)
    · have hc0 : c = 1 := UInt8.toNat_inj.1 (show c.toNat = 1 by omega)
      subst hc0
      have ho : oneV (1 :: t) = if t.length < 8 then none else some (⟨1, unbe8 (t.take 8), []⟩, 9) := rfl
      unfold value_one_s10
      simp [-getElem?_pos, -Array.all_eq_true, -Array.getElem?_eq_getElem, -List.length_flatten, List.getElem?_cons_zero, List.getElem?_cons_succ, hb2, ha2, lvV l2]
      refine ⟨fun hlt => fail _ (hkS _) (by rw [ho, if_pos (by omega)]) ⟨1, 0, []⟩, fun hge => ?_⟩
      unfold value_one_s9 value_one_s8 value_one_s7
      simp [-getElem?_pos, -Array.all_eq_true, -Array.getElem?_eq_getElem, -List.length_flatten, List.getElem?_cons_zero, List.getElem?_cons_succ, hb2]
      exact one_loop (w0 := w) (by omega) (by omega) ha2 rfl hb2 hab (Nat.le_refl _) (by omega) hk02 fun w' hk' => hY ⟨1, unbe8 (t.take 8), []⟩ 9 w' (by rw [ho, if_neg (by omega)]) hk'
    · have hc0 : c = 2 := UInt8.toNat_inj.1 (show c.toNat = 2 by omega)
      subst hc0
      unfold value_one_s10
      simp [-getElem?_pos, -Array.all_eq_true, -Array.getElem?_eq_getElem, -List.length_flatten, List.getElem?_cons_zero, List.getElem?_cons_succ, hb2, ha2, lvV l2]
      cases t with
      | nil => simp; exact fail _ (hkS _) rfl ⟨2, 0, []⟩
      | cons d u =>
        have ho : oneV (2 :: d :: u) = if u.length < d.toNat ∨ 64 < d.toNat then none else some (⟨2, 0, u.take d.toNat⟩, 2 + d.toNat) := rfl
        have hd := d.toNat_lt
        simp only [List.length_cons] at hl
        have ed : IntKind.i64.wrap (d.toNat : Int) = (d.toNat : Int) := w64 (by omega) (by omega)
        have ed2 : IntKind.i64.wrap (1 + (d.toNat : Int)) = ((1 + d.toNat : Nat) : Int) := by rw [w64 (by omega) (by omega)]; simp
        have e0 : ∀ K : Value → Prop, ixS (.string (str (d :: u))) (.int .i64 0) K = K (.int .u8 d.toNat) := fun K => ixS_lit (s := d :: u) (i := 0) (by simp)
        refine ⟨fun hlt => by simp at hlt; omega, fun hge => ?_⟩
        unfold value_one_s9 value_one_s8 value_one_s7 value_one_s6
        simp [-getElem?_pos, -Array.all_eq_true, -Array.getElem?_eq_getElem, -List.length_flatten, List.getElem?_cons_zero, List.getElem?_cons_succ, hb2, e0, ed, ed2, ha2, lvV l2]
        refine ⟨fun hlt => fail _ (hkS _) (by rw [ho, if_pos (.inl (by omega))]) ⟨2, 0, []⟩, fun hge => ?_⟩
        have hx2 : (str (d :: u)).extract 1 (1 + (d.toNat : Int)).toNat = str (u.take d.toNat) := by
          rw [show (1 + (d.toNat : Int)).toNat = d.toNat + 1 by omega, str_extract, List.take_succ_cons]; rfl
        refine ⟨by omega, ?_⟩
        rw [hx2, show (1 + (d.toNat : Int)) = ((1 + d.toNat : Nat) : Int) by simp]
        refine ⟨by omega, ?_⟩
        have hok : V3.ok ⟨2, 0, u.take d.toNat⟩ = decide (d.toNat ≤ 64) := by
          have : (u.take d.toNat).length = d.toNat := by rw [List.length_take]; omega
          simp [V3.ok, this]
        refine one_s0 (w0 := w) (t := d :: u) (p := 1 + d.toNat) (v := ⟨2, 0, u.take d.toNat⟩) (by rw [List.length_cons]; omega) (by rw [heap_ne hab]; exact ha2) rfl (heap_self lb2) (Nat.le_refl _) (hkB _) fun w' hk' => ?_
        rw [hok]
        by_cases h64 : d.toNat ≤ 64
        · have := hY ⟨2, 0, u.take d.toNat⟩ (2 + d.toNat) w' (by rw [ho, if_neg (by omega)]) hk'
          rw [show 2 + d.toNat = (1 + d.toNat) + 1 by omega, List.drop_succ_cons] at this
          simpa [h64] using this
        · have := hN ⟨2, 0, u.take d.toNat⟩ (.string (str ((d :: u).drop (1 + d.toNat)))) w' (by rw [ho, if_pos (.inr (by omega))]) hk'
          simpa [h64] using this
    · have hc0 : c = 3 := UInt8.toNat_inj.1 (show c.toNat = 3 by omega)
      subst hc0
      unfold value_one_s10
      simp [-getElem?_pos, -Array.all_eq_true, -Array.getElem?_eq_getElem, -List.length_flatten, List.getElem?_cons_zero, List.getElem?_cons_succ, hb2, ha2, lvV l2]
      cases t with
      | nil => simp; exact fail _ (hkS _) rfl ⟨3, 0, []⟩
      | cons d u =>
        have ho : oneV (3 :: d :: u) = if 1 < d.toNat then none else some (⟨3, d.toNat, []⟩, 2) := rfl
        have hd := d.toNat_lt
        have ed : IntKind.i64.wrap (d.toNat : Int) = (d.toNat : Int) := w64 (by omega) (by omega)
        have e0 : ∀ K : Value → Prop, ixS (.string (str (d :: u))) (.int .i64 0) K = K (.int .u8 d.toNat) := fun K => ixS_lit (s := d :: u) (i := 0) (by simp)
        refine ⟨fun hlt => by simp at hlt; omega, fun hge => ?_⟩
        unfold value_one_s9 value_one_s8 value_one_s7 value_one_s6
        simp [-getElem?_pos, -Array.all_eq_true, -Array.getElem?_eq_getElem, -List.length_flatten, List.getElem?_cons_zero, List.getElem?_cons_succ, hb2, e0, ed, lb2]
        have hok : V3.ok ⟨3, d.toNat, []⟩ = decide (d.toNat ≤ 1) := by
          rw [Bool.eq_iff_iff]
          simp [V3.ok]
          clear ed e0
          omega
        refine one_s0 (w0 := w) (p := 1) (v := ⟨3, d.toNat, []⟩) (by simp) (by rw [heap_ne hab]; exact ha2) rfl (heap_self lb2) (Nat.le_refl _) (hkB _) fun w' hk' => ?_
        rw [hok]
        by_cases h1 : d.toNat ≤ 1
        · have := hY ⟨3, d.toNat, []⟩ 2 w' (by rw [ho, if_neg (by omega)]) hk'
          simpa [h1] using this
        · have := hN ⟨3, d.toNat, []⟩ (.string (str ((d :: u).drop 1))) w' (by rw [ho, if_pos (by omega)]) hk'
          simpa [h1] using this
    · have ho : oneV (c :: t) = none := by
        have n0 : ¬ c = 0 := fun h => by subst h; exact h0 rfl
        have n1 : ¬ c = 1 := fun h => by subst h; exact h1 rfl
        have n2 : ¬ c = 2 := fun h => by subst h; exact h2 rfl
        have n3 : ¬ c = 3 := fun h => by subst h; exact h3 rfl
        simp [oneV, n0, n1, n2, n3]
      exact fail _ (hkS _) ho ⟨c.toNat, 0, []⟩
end
end Go.Proofs

set_option linter.unusedVariables false
set_option linter.unusedSimpArgs false
namespace Go.Proofs
open Go Go.Q
section
variable {w0 : World} {a b : Nat} {R : Value → World → Prop}
end
end Go.Proofs

set_option linter.unusedVariables false
set_option linter.unusedSimpArgs false
namespace Go.Proofs
open Go Go.Q
theorem valV_one (v : V3) : (valV v).all Q.one = true := rfl
theorem rd_val {w : World} {v : Value} {r : List V3} (h : Rd w v 3 (r.map valV)) {i : Nat} (hi : i < r.length) :
    ∃ p, (∀ kd K, ia 3 v (.int kd i) K = K p) ∧ ∀ K : Value → Prop, ldn 3 p w K = K (.agg #[.int .i64 r[i].k, .int .i64 r[i].n, .string (str r[i].s)]) := by
  obtain ⟨p, h1, h2, _⟩ := h.get (i := i) (by simpa using hi)
  refine ⟨p, h1, fun K => ?_⟩
  rw [h2 K]
  simp [valV]
theorem Put_spec {w : World} {rv : Value} {r : List V3} (hr : Rd w rv 3 (r.map valV)) (hw : ∀ v ∈ r, v.Wf) (hlen : r.length < 2 ^ 40) {K : Value → World → Prop}
    (hK : ∀ w', Kp [] w w' → K (.tuple #[.string (str (putRow r).1), .int .i64 (putRow r).2]) w') : callG Tryz.prog 24 #[rv] w K := by
  refine value_Put_call ?_
  simp only [value_Put, value_Put_s4, hr.lenL, List.length_map, bq_gtr, bV_b]
  refine ⟨fun h => ?_, fun h => ?_⟩
  · have hb : putRow r = ([], 1) := by unfold putRow; rw [if_neg (by simp at h; omega)]
    have := hK w (Kp.refl _ _)
    rw [hb] at this
    exact this
  have hl : r.length ≤ 255 := by simp at h; omega
  rw [newG_k, zcB]
  obtain ⟨w1, hw1⟩ := ex_w (w' := w.alloc (.cells #[.pointer none, .slice none 0 0] 110))
  have hb1 : Bd w w1 w.heap.size [] := by rw [hw1]; exact bd_new
  rw [← hw1]
  have e1 : IntKind.u8.wrap (r.length : Int) = ((bOf r.length).toNat : Int) := wrap_u8 _
  simp only [cvI_i, e1]
  refine bd_byte hb1 _ (by simp) fun w2 h2 => ?_
  rw [List.nil_append] at h2
  unfold value_Put_s3
  rw [(hr.keep h2.kp).lenL]
  unfold value_Put_L2
  simp only [List.length_map]
  refine loop_inv (fun m xs wi => ∃ i, i ≤ r.length ∧ m = r.length - i ∧ xs = [.pointer (some ⟨w.heap.size, 0, none⟩), rv, .int .i64 r.length, .int .i64 (i : Nat)] ∧ Bd w wi w.heap.size (bOf r.length :: rowB (r.take i)) ∧ (r.take i).all V3.ok = true) ?_ (m := r.length)
    ⟨0, by omega, rfl, rfl, h2, rfl⟩
  rintro m N xs wi ⟨i, hi, rfl, rfl, hb, hok⟩ hN
  simp only [value_Put_L2F, value_Put_b1, bq_lss, bV_b]
  have htl : (r.take i).length = i := by rw [List.length_take]; omega
  have hrl := rowB_len hok
  rw [htl] at hrl
  refine ⟨fun hlt => ?_, fun hge => ?_⟩
  · have hi : i < r.length := by simpa using hlt
    have hiw : IntKind.i64.wrap ((i : Int) + 1) = ((i + 1 : Nat) : Int) := by rw [w64 (by omega) (by omega)]; simp
    obtain ⟨p, hp1, hp2⟩ := rd_val (hr.keep hb.kp) hi
    rw [hp1, hp2, newG_k]
    obtain ⟨w3, hw3⟩ := ex_w (w' := wi.alloc (.cells #[.int .i64 r[i].k, .int .i64 r[i].n, .string (str r[i].s)] 76))
    have hk3 : Kp [] wi w3 := by rw [hw3]; exact kp_alloc
    have hx3 : w3.heap[wi.heap.size]? = some (.cells #[.int .i64 r[i].k, .int .i64 r[i].n, .string (str r[i].s)] 76) := by rw [hw3]; exact heap_new
    simp [-getElem?_pos, -Array.all_eq_true, -Array.getElem?_eq_getElem, -List.length_flatten, List.getElem?_cons_zero, List.getElem?_cons_succ, heap_new, zcVl]
    rw [← hw3]
    refine Check_spec r[i] fun w4 hk4 => ?_
    have hmem : r[i] ∈ r := List.getElem_mem hi
    have hx4 := hk4.get hx3 (by simp)
    have hb4 := (hb.keep hk3).keep hk4
    cases hv : r[i].ok with
    | false =>
      simp [-getElem?_pos, -Array.all_eq_true, -Array.getElem?_eq_getElem, -List.length_flatten, List.getElem?_cons_zero, List.getElem?_cons_succ, hv]
      have := hK w4 hb4.kp
      rw [putRow_bad hmem hv] at this
      exact this
    | true =>
      simp [-getElem?_pos, -Array.all_eq_true, -Array.getElem?_eq_getElem, -List.length_flatten, List.getElem?_cons_zero, List.getElem?_cons_succ, hv, hx4]
      refine bytes_spec r[i] (hw _ hmem) fun w5 hk5 => ?_
      have hbl := V3.bytes_ok hv
      refine bd_string (hb4.keep hk5) _ (by simp only [List.length_cons]; omega) fun w6 h6 => ?_
      simp only [bq_add, hiw]
      have htk : r.take i ++ [r[i]] = r.take (i + 1) := (List.take_succ_eq_append_getElem hi).symm
      refine hN (r.length - (i + 1)) _ _ (by omega) ⟨i + 1, by omega, rfl, rfl, ?_, ?_⟩
      · rw [← htk, rowB_snoc]
        simpa using h6
      · rw [← htk, List.all_append, hok]
        simp [hv]
  · have hie : i = r.length := by simp at hge; omega
    subst hie
    rw [List.take_length] at hb hok hrl
    unfold value_Put_s0
    refine bd_text hb (by simp only [List.length_cons]; omega) fun w7 hk7 => ?_
    have := hK w7 hk7
    have hp : putRow r = (bOf r.length :: rowB r, 0) := by unfold putRow; rw [if_pos ⟨hl, hok⟩]
    rw [hp] at this
    exact this
theorem takeRow_cons (c : UInt8) (t : List UInt8) : takeRow (c :: t) = match takeL c.toNat t with | some (l, []) => (l, 0) | _ => ([], 50) := rfl
theorem takeL_none {n : Nat} {r : List UInt8} (h : oneV r = none) : takeL (n + 1) r = none := by simp [takeL, h]
theorem takeL_some' {n k : Nat} {v : V3} {r : List UInt8} (h : oneV r = some (v, k)) : takeL (n + 1) r = (takeL n (r.drop k)).map fun p => (v :: p.1, p.2) := by
  simp only [takeL, h]
  cases takeL n (r.drop k) with
  | none => rfl
  | some p => rfl
theorem Take_spec {w : World} (s : List UInt8) (hl : s.length < 2 ^ 39) {K : Value → World → Prop}
    (hK : ∀ v w', Fr w w' v 3 ((takeRow s).1.map valV) → K (.tuple #[v, .int .i64 (takeRow s).2]) w') : callG Tryz.prog 110 #[.string (str s)] w K := by
  refine value_Take_call ?_
  simp only [value_Take, value_Take_s4, str_nil, bq_seql, str_eq, bV_b]
  cases s with
  | nil =>
    refine ⟨fun _ => ?_, fun h => by simp at h⟩
    exact hK _ w (fr_nil (Kp.refl _ _))
  | cons c t =>
    refine ⟨fun h => by simp at h, fun _ => ?_⟩
    simp only [List.length_cons] at hl
    have hc := c.toNat_lt
    have hx : (str (c :: t)).extract 1 (t.length + 1) = str t := by rw [str_extract]; simp
    simp only [slS_p, bnd_some, bnd_none, str_size, List.length_cons, Int.toNat_one, hx]
    refine ⟨by omega, ?_⟩
    unfold value_Take_s3
    have e0 : ∀ K : Value → Prop, ixS (.string (str (c :: t))) (.int .i64 0) K = K (.int .u8 c.toNat) := fun K => ixS_lit (s := c :: t) (i := 0) (by simp)
    rw [e0]
    have bad : ∀ w', Kp [] w w' → (∀ l, takeL c.toNat t ≠ some (l, [])) → K (.tuple #[.slice none 0 0, .int .i64 50]) w' := by
      intro w' hk hno
      have hb : takeRow (c :: t) = ([], 50) := by
        rw [takeRow_cons]
        split
        · rename_i l h; exact absurd h (hno l)
        · rfl
      have := hK (.slice none 0 0) w' (by rw [hb]; exact fr_nil hk)
      rw [hb] at this
      exact this
    unfold value_Take_L2
    refine loop_inv (fun m xs wi => ∃ (i : Nat) (l : List V3) (r : List UInt8) (vo : Value), i ≤ c.toNat ∧ m = c.toNat - i ∧ xs = [vo, .string (str r), .int .u8 c.toNat, .int .u8 (i : Nat)] ∧ Fr w wi vo 3 (l.map valV) ∧ l.length = i ∧ r.length ≤ t.length ∧
        takeL c.toNat t = (takeL (c.toNat - i) r).map fun p => (l ++ p.1, p.2)) ?_ (m := c.toNat) ⟨0, [], t, .slice none 0 0, by omega, rfl, rfl, fr_nil (Kp.refl _ _), rfl, by omega, by simp [Option.map_id']⟩
    rintro m N xs wi ⟨i, l, r, vo, hi, rfl, rfl, hf, hli, hrt, htk⟩ hN
    simp only [value_Take_L2F, value_Take_b1, bq_lss, bV_b]
    refine ⟨fun hlt => ?_, fun hge => ?_⟩
    · have hi : i < c.toNat := by simpa using hlt
      have hn : c.toNat - i = (c.toNat - (i + 1)) + 1 := by omega
      rw [hn] at htk
      refine one_spec r (by omega) (fun v k w1 ho hk1 => ?_) (fun v y w1 ho hk1 => ?_)
      · rw [ex30, ex31, ex32]
        have hk := oneV_len ho
        have hf1 := hf.keep hk1
        simp [-getElem?_pos, -Array.all_eq_true, -Array.getElem?_eq_getElem, -List.length_flatten, List.getElem?_cons_zero, List.getElem?_cons_succ, zcVl, heap_new]
        refine bsl_rowN (n := 3) (cs := valV v) (by omega) rfl rfl fun v3 w3 h3 => ?_
        have hf3 := (hf1.keep kp_alloc).keep h3.kp
        refine fr_push hf3 h3.rd (by omega) rfl (valV_one v) (by simp [hli]; omega) (by simp [hli]; omega) (wx := w3) fun v4 w4 h4 => ?_
        have e4 : IntKind.u8.wrap ((i : Int) + 1) = ((i + 1 : Nat) : Int) := by
          rw [show ((i : Int) + 1) = ((i + 1 : Nat) : Int) by simp]; exact wrap_natu8 (by omega)
        simp only [bq_add, e4]
        refine hN (c.toNat - (i + 1)) _ _ (by omega) ⟨i + 1, l ++ [v], r.drop k, v4, by omega, rfl, rfl, by rw [List.map_append]; exact h4, by simp [hli], by rw [List.length_drop]; omega, ?_⟩
        rw [htk, takeL_some' ho, Option.map_map]
        congr 1
        funext p
        simp
      · rw [ex30, ex31, ex32]
        simp [-getElem?_pos, -Array.all_eq_true, -Array.getElem?_eq_getElem, -List.length_flatten, List.getElem?_cons_zero, List.getElem?_cons_succ, zcVl, heap_new]
        refine bad _ ((hf.kp.trans' hk1).trans' kp_alloc) fun l' h => ?_
        rw [htk, takeL_none ho] at h
        cases h
    · have hie : i = c.toNat := by simp at hge; omega
      subst hie
      rw [Nat.sub_self] at htk
      have h0 : takeL 0 r = some ([], r) := rfl
      rw [h0] at htk
      simp only [Option.map_some, List.append_nil] at htk
      unfold value_Take_s0
      simp only [str_nil, bq_sneq, str_eq, bV_b]
      refine ⟨fun hr => ?_, fun hr => ?_⟩
      · refine bad wi hf.kp fun l' h => ?_
        rw [htk] at h
        injection h with h; injection h with _ h
        simp [h] at hr
      · have hr0 : r = [] := by simpa using hr
        subst hr0
        have hb : takeRow (c :: t) = (l, 0) := by rw [takeRow_cons, htk]
        have := hK vo wi (by rw [hb]; exact hf)
        rw [hb] at this
        exact this
end Go.Proofs

set_option linter.unusedVariables false
set_option linter.unusedSimpArgs false
namespace Go.Q
structure OpV where
  k : Int
  sku : List UInt8
  loc : List UInt8
  to : List UInt8
  q : Int
  id : Int
  due : Int
  deriving DecidableEq
def opC (o : OpV) : List Value := [.int .i64 o.k, .string (str o.sku), .string (str o.loc), .string (str o.to), .int .i64 o.q, .int .i64 o.id, .int .i64 o.due]
def nameOk (s : List UInt8) : Bool := decide (1 ≤ s.length ∧ s.length ≤ 64)
def OpV.ok (o : OpV) : Bool :=
  let names := nameOk o.sku && nameOk o.loc
  let none := decide (o.sku = [] ∧ o.loc = [])
  if o.k = 1 then names && decide (o.to = [] ∧ 1 ≤ o.q ∧ o.id = 0 ∧ o.due = 0)
  else if o.k = 2 then names && decide (o.to = [] ∧ 1 ≤ o.q ∧ o.id = 0 ∧ 0 ≤ o.due)
  else if o.k = 3 ∨ o.k = 4 then none && decide (o.to = [] ∧ o.q = 0 ∧ 1 ≤ o.id ∧ o.due = 0)
  else if o.k = 5 then none && decide (o.to = [] ∧ o.q = 0 ∧ o.id = 0 ∧ 0 ≤ o.due)
  else if o.k = 6 then names && nameOk o.to && decide (o.to ≠ o.loc ∧ 1 ≤ o.q ∧ o.id = 0 ∧ o.due = 0)
  else if o.k = 7 then names && decide (o.to = [] ∧ o.q ≠ 0 ∧ o.id = 0 ∧ o.due = 0)
  else false
def OpV.rest (o : OpV) : OpV :=
  if o.k = 1 ∨ o.k = 7 then ⟨o.k, o.sku, o.loc, [], o.q, 0, 0⟩
  else if o.k = 2 then ⟨o.k, o.sku, o.loc, [], o.q, 0, o.due⟩
  else if o.k = 3 ∨ o.k = 4 then ⟨o.k, [], [], [], 0, o.id, 0⟩
  else if o.k = 5 then ⟨o.k, [], [], [], 0, 0, o.due⟩
  else if o.k = 6 then ⟨o.k, o.sku, o.loc, o.to, o.q, 0, 0⟩
  else ⟨o.k, [], [], [], 0, 0, 0⟩
def OpV.may (o : OpV) (nm : Bool) : Bool :=
  if o.k = 1 then nm && decide (1 ≤ o.q)
  else if o.k = 2 then nm && decide (1 ≤ o.q ∧ 0 ≤ o.due)
  else if o.k = 3 ∨ o.k = 4 then decide (1 ≤ o.id)
  else if o.k = 5 then decide (0 ≤ o.due)
  else if o.k = 6 then nm && nameOk o.to && decide (o.to ≠ o.loc ∧ 1 ≤ o.q)
  else if o.k = 7 then nm && decide (o.q ≠ 0)
  else false
theorem OpV.ok_eq (o : OpV) : (o.may (nameOk o.sku && nameOk o.loc) && decide (o.rest = o)) = o.ok := by
  obtain ⟨k, sku, loc, to, q, id, due⟩ := o
  unfold OpV.may OpV.rest OpV.ok
  simp only
  generalize nameOk sku = a
  generalize nameOk loc = b
  generalize nameOk to = c
  have sym : ∀ {α : Type} (x y : α), (x = y) = (y = x) := fun x y => propext ⟨Eq.symm, Eq.symm⟩
  rw [Bool.eq_iff_iff]
  by_cases h1 : k = 1
  · simp [h1, sym [] to, sym 0 id, sym 0 due]; grind
  by_cases h2 : k = 2
  · simp [h2, sym [] to, sym 0 id]; grind
  by_cases h3 : k = 3 ∨ k = 4
  · have h7 : ¬ k = 7 := by omega
    simp [h1, h2, h3, h7]; grind
  by_cases h5 : k = 5
  · simp [h5]; grind
  by_cases h6 : k = 6
  · simp [h6]; grind
  by_cases h7 : k = 7
  · simp [h7]; grind
  · simp [h1, h2, h3, h5, h6, h7]
end Go.Q

set_option linter.unusedVariables false
set_option linter.unusedSimpArgs false
namespace Go.Q
def kOk (k : Int) (v : V3) : Bool := (decide (v.k = k) || (decide (k = 0) && decide (v.k = 1 ∧ v.n ≠ 0))) && v.ok
def isK : List V3 → List Int → Bool
  | [], [] => true
  | v :: r, k :: ks => kOk k v && isK r ks
  | _, _ => false
theorem isK_len : ∀ {r : List V3} {ks : List Int}, isK r ks = true → r.length = ks.length := by
  intro r
  induction r with
  | nil => intro ks h; cases ks with
    | nil => rfl
    | cons k ks => cases h
  | cons v r ih => intro ks h; cases ks with
    | nil => cases h
    | cons k ks =>
      simp only [isK, Bool.and_eq_true] at h
      simp [ih h.2]
def intV (k : Int) : List Value := [.int .i64 k]
def strV (s : List UInt8) : List Value := [.string (str s)]
def partsFrom : Nat → List Value → List (Nat × Value)
  | _, [] => []
  | i, x :: r => (i, x) :: partsFrom (i + 1) r
theorem fill_rows {n : Nat} (hn : 0 < n) : ∀ (xs : List Value) (rows : List (List Value)) (i : Nat) (c : Array Value), xs.map Value.cells = rows.map List.toArray → (∀ y ∈ rows, y.length = n) → c.size = (i + xs.length) * n →
    Instr.fill (fun i => some (i * n, n)) c (partsFrom i xs) = some (c.toList.take (i * n) ++ rows.flatten).toArray := by
  intro xs
  induction xs with
  | nil =>
    intro rows i c h1 h2 h3
    have : rows = [] := by simpa using h1.symm
    subst this
    simp only [List.length_nil, Nat.add_zero] at h3
    have : c.toList.take (i * n) = c.toList := List.take_of_length_le (by simp [h3])
    simp [partsFrom, Instr.fill, this]
  | cons x xs ih =>
    intro rows i c h1 h2 h3
    cases rows with
    | nil => simp at h1
    | cons y rows =>
      simp only [List.map_cons, List.cons.injEq] at h1
      have hy := h2 y (by simp)
      simp only [List.length_cons] at h3
      have e1 : (i + (xs.length + 1)) * n = i * n + n + xs.length * n := by rw [Nat.add_mul, Nat.add_mul]; omega
      rw [e1] at h3
      unfold partsFrom
      rw [fill_step (off := i * n) (size := n) rfl (by rw [h1.1]; simpa using hy) (by omega), h1.1]
      have hsz : (splice c (i * n) y.toArray).size = (i + 1 + xs.length) * n := by
        rw [splice_size (by simp [hy]; omega), h3, Nat.add_mul, Nat.add_mul]; omega
      rw [ih rows (i + 1) _ h1.2 (fun z hz => h2 z (by simp [hz])) hsz]
      congr 2
      have e2 : (splice c (i * n) y.toArray).toList.take ((i + 1) * n) = c.toList.take (i * n) ++ y := by
        unfold splice
        have hl : (c.toList.take (i * n)).length = i * n := by rw [List.length_take]; simp; omega
        exact List.take_left' (by rw [List.length_append, hl, Nat.add_mul]; simp [hy])
      rw [e2]
      simp
theorem bsl_rows {e n len : Nat} {z : Array Value} {xs : List Value} {rows : List (List Value)} (hn : 0 < n) (hl : xs.length = len) (hc : xs.map Value.cells = rows.map List.toArray) (hr : ∀ y ∈ rows, y.length = n) (hpos : 0 < len) {w : World} {K : Value → World → Prop}
    (hK : ∀ v' w', Fr w w' v' n rows → K v' w') : bsl e n len z (partsFrom 0 xs).toArray w K := by
  have hlen : rows.length = len := by have := congrArg List.length hc; simp at this; omega
  have hf := fill_rows hn xs rows 0 (rep z (len * n)) hc hr (by rw [rep_size, hl, Nat.zero_add])
  simp only [Nat.zero_mul, List.take_zero, List.nil_append] at hf
  unfold bsl
  have hf' : Instr.fill (fun i => some (i * n, n)) (rep z (len * n)) (partsFrom 0 xs).toArray.toList = some rows.flatten.toArray := hf
  rw [hf']
  refine hK _ _ ⟨⟨[w.heap.size], .inr ⟨w.heap.size, rows, e, by rw [hlen], rfl, heap_new, hr, List.take_length, Nat.le_refl _⟩, by simp⟩, kp_alloc⟩
end Go.Q

set_option linter.unusedVariables false
set_option linter.unusedSimpArgs false
namespace Go.Proofs
open Go Go.Q
theorem zcOp : zc Tryz.prog 42 = [.int .i64 0, .string ⟨#[]⟩, .string ⟨#[]⟩, .string ⟨#[]⟩, .int .i64 0, .int .i64 0, .int .i64 0].toArray := by kernel_rfl
theorem aggOpT : aggO Tryz.prog 42 = some true := by kernel_rfl
theorem szOpT : szO Tryz.prog 42 = some 7 := by kernel_rfl
theorem eqOp {k q i d k' q' i' d' : Int} {s l t s' l' t' : ByteArray} : aggEq Tryz.prog 42 [.int .i64 k, .string s, .string l, .string t, .int .i64 q, .int .i64 i, .int .i64 d] [.int .i64 k', .string s', .string l', .string t', .int .i64 q', .int .i64 i', .int .i64 d'] = true := by kernel_rfl
def opA (o : OpV) : Value := .agg #[.int .i64 o.k, .string (str o.sku), .string (str o.loc), .string (str o.to), .int .i64 o.q, .int .i64 o.id, .int .i64 o.due]
theorem name_spec {w : World} (s : List UInt8) {K : Value → World → Prop} (hK : K (.bool (nameOk s)) w) : callG Tryz.prog 119 #[.string (str s)] w K := by
  refine entry_name_call ?_
  unfold nameOk at hK
  have e1 : ((1 : Int) ≤ (s.length : Int)) = (1 ≤ s.length) := by apply propext; omega
  by_cases h : 1 ≤ s.length
  · simpa [entry_name, entry_name_s0, e1, le64, h] using hK
  · simpa [entry_name, entry_name_s0, e1, le64, h] using hK
section
variable {w0 : World} {a b : Nat} {K : Value → World → Prop}
theorem check_s0 {w : World} {o r : OpV} (ha : w.heap[a]? = some (.cells #[.int .i64 o.k, .string (str o.sku), .string (str o.loc), .string (str o.to), .int .i64 o.q, .int .i64 o.id, .int .i64 o.due] 42))
    (hb : w.heap[b]? = some (.cells #[.int .i64 r.k, .string (str r.sku), .string (str r.loc), .string (str r.to), .int .i64 r.q, .int .i64 r.id, .int .i64 r.due] 42)) (hab : ¬ b = a) (hb0 : w0.heap.size ≤ b) (hk : Kp [] w0 w) (ok : Bool)
    (hK : ∀ w', Kp [] w0 w' → K (.int .i64 (if (ok && decide ({ r with k := o.k } = o)) = true then 0 else 1)) w') : entry_Check_s0 K (.pointer (some ⟨a, 0, none⟩)) (.pointer (some ⟨b, 0, none⟩)) (.bool ok) w := by
  unfold entry_Check_s0
  have lb := live_of hb
  have hkb : ∀ ob, Kp [] w0 (setBlk w b ob) := fun ob => hk.setBlk (.inr hb0) _
  have h := hK _ (hkb (.cells #[.int .i64 o.k, .string (str r.sku), .string (str r.loc), .string (str r.to), .int .i64 r.q, .int .i64 r.id, .int .i64 r.due] 42))
  obtain ⟨k, sku, loc, to, q, id, due⟩ := o
  obtain ⟨k', sku', loc', to', q', id', due'⟩ := r
  simp [-getElem?_pos, -Array.all_eq_true, -Array.getElem?_eq_getElem, -List.length_flatten, List.getElem?_cons_zero, List.getElem?_cons_succ, ha, hb, lb, heap_self lb, heap_ne hab, eqOp]
  simp only [OpV.mk.injEq, true_and] at h
  generalize setBlk w b _ = W at h ⊢
  by_cases c : sku' = sku ∧ loc' = loc ∧ to' = to ∧ q' = q ∧ id' = id ∧ due' = due
  · cases ok <;> simp_all
  · cases ok <;> simp_all
    grind
theorem check_s9 {w : World} {o : OpV} (ha : w.heap[a]? = some (.cells #[.int .i64 o.k, .string (str o.sku), .string (str o.loc), .string (str o.to), .int .i64 o.q, .int .i64 o.id, .int .i64 o.due] 42))
    (hb : w.heap[b]? = some (.cells #[.int .i64 0, .string (str []), .string (str []), .string (str []), .int .i64 0, .int .i64 0, .int .i64 0] 42)) (hab : ¬ b = a) (hb0 : w0.heap.size ≤ b) (hk : Kp [] w0 w) (nm : Bool)
    (hK : ∀ w', Kp [] w0 w' → K (.int .i64 (if (o.may nm && decide (o.rest = o)) = true then 0 else 1)) w') : entry_Check_s9 K (.pointer (some ⟨a, 0, none⟩)) (.pointer (some ⟨b, 0, none⟩)) (.bool nm) w := by
  have lb := live_of hb
  have hkb : ∀ ob, Kp [] w0 (setBlk w b ob) := fun ob => hk.setBlk (.inr hb0) _
  have hfin : ∀ (W : World) (r : OpV) (ok : Bool), W.heap[a]? = some (.cells #[.int .i64 o.k, .string (str o.sku), .string (str o.loc), .string (str o.to), .int .i64 o.q, .int .i64 o.id, .int .i64 o.due] 42) →
      W.heap[b]? = some (.cells #[.int .i64 r.k, .string (str r.sku), .string (str r.loc), .string (str r.to), .int .i64 r.q, .int .i64 r.id, .int .i64 r.due] 42) → Kp [] w0 W → { r with k := o.k } = o.rest → ok = o.may nm →
      entry_Check_s0 K (.pointer (some ⟨a, 0, none⟩)) (.pointer (some ⟨b, 0, none⟩)) (.bool ok) W := by
    intro W r ok h1 h2 h3 h4 h5
    refine check_s0 h1 h2 hab hb0 h3 ok fun w' hk' => ?_
    rw [h4, h5]
    exact hK w' hk'
  have hset : ∀ r : OpV, (setBlk w b (.cells #[.int .i64 r.k, .string (str r.sku), .string (str r.loc), .string (str r.to), .int .i64 r.q, .int .i64 r.id, .int .i64 r.due] 42)).heap[a]? = some (.cells #[.int .i64 o.k, .string (str o.sku), .string (str o.loc), .string (str o.to), .int .i64 o.q, .int .i64 o.id, .int .i64 o.due] 42) :=
    fun r => by rw [heap_ne hab]; exact ha
  have fin2 : ∀ (r : OpV) (ok : Bool), { r with k := o.k } = o.rest → ok = o.may nm → entry_Check_s0 K (.pointer (some ⟨a, 0, none⟩)) (.pointer (some ⟨b, 0, none⟩)) (.bool ok)
      (setBlk w b (.cells #[.int .i64 r.k, .string (str r.sku), .string (str r.loc), .string (str r.to), .int .i64 r.q, .int .i64 r.id, .int .i64 r.due] 42)) := fun r ok h1 h2 => hfin _ r ok (hset r) (heap_self lb) (hkb _) h1 h2
  clear hK
  obtain ⟨k, sku, loc, to, q, id, due⟩ := o
  unfold entry_Check_s9 entry_Check_s8 entry_Check_s7 entry_Check_s6 entry_Check_s5 entry_Check_s4 entry_Check_s3 entry_Check_s1 entry_Check_s2
  simp [-getElem?_pos, -Array.all_eq_true, -Array.getElem?_eq_getElem, -List.length_flatten, List.getElem?_cons_zero, List.getElem?_cons_succ, ha, hb, lb, heap_self lb, heap_ne hab, zcOp, str_nil, bld_done, bld_if, offAt, putAt]
  refine ⟨fun h1 => ?_, fun h1 => ⟨fun h2 => ?_, fun h2 => ?_⟩⟩
  · subst h1
    refine ⟨fun hn => fin2 ⟨0, sku, loc, [], q, 0, 0⟩ _ rfl (by simp [OpV.may, hn]), fun hn => fin2 ⟨0, sku, loc, [], q, 0, 0⟩ _ rfl (by simp [OpV.may, hn])⟩
  · subst h2
    refine ⟨fun hn => ⟨fun hq => fin2 ⟨0, sku, loc, [], q, 0, due⟩ _ rfl (by simp [OpV.may, hn, hq]), fun hq => fin2 ⟨0, sku, loc, [], q, 0, due⟩ _ rfl (by simp [OpV.may, hn]; omega)⟩, fun hn => fin2 ⟨0, sku, loc, [], q, 0, due⟩ _ rfl (by simp [OpV.may, hn])⟩
  · refine ⟨fun h3 => ?_, fun h3 => ⟨fun h4 => ?_, fun h4 => ⟨fun h5 => ?_, fun h5 => ⟨fun h6 => ?_, fun h6 => ⟨fun h7 => ?_, fun h7 => ?_⟩⟩⟩⟩⟩
    · subst h3
      exact fin2 ⟨0, [], [], [], 0, id, 0⟩ _ rfl rfl
    · subst h4
      exact fin2 ⟨0, [], [], [], 0, id, 0⟩ _ rfl rfl
    · subst h5
      exact fin2 ⟨0, [], [], [], 0, 0, due⟩ _ rfl rfl
    · subst h6
      refine ⟨fun hn => name_spec to ?_, fun hn => fin2 ⟨0, sku, loc, to, q, 0, 0⟩ _ rfl (by simp [OpV.may, hn])⟩
      have hs := hset ⟨0, sku, loc, to, q, 0, 0⟩
      simp only at hs
      simp [-getElem?_pos, -Array.all_eq_true, -Array.getElem?_eq_getElem, -List.length_flatten, List.getElem?_cons_zero, List.getElem?_cons_succ, hs]
      refine ⟨fun ht => ⟨fun hne => fin2 ⟨0, sku, loc, to, q, 0, 0⟩ _ rfl (by simp [OpV.may, hn, ht, hne]), fun he => fin2 ⟨0, sku, loc, to, q, 0, 0⟩ _ rfl (by simp [OpV.may, hn, ht, he])⟩, fun ht => fin2 ⟨0, sku, loc, to, q, 0, 0⟩ _ rfl (by simp [OpV.may, hn, ht])⟩
    · subst h7
      refine ⟨fun hn => fin2 ⟨0, sku, loc, [], q, 0, 0⟩ _ rfl (by simp [OpV.may, hn]), fun hn => fin2 ⟨0, sku, loc, [], q, 0, 0⟩ _ rfl (by simp [OpV.may, hn])⟩
    · have := hfin w ⟨0, [], [], [], 0, 0, 0⟩ false ha hb hk (by simp [OpV.rest, h1, h2, h3, h4, h5, h6, h7]) (by simp [OpV.may, h1, h2, h3, h4, h5, h6, h7])
      exact this
end
theorem CheckOp_spec {w : World} (o : OpV) {K : Value → World → Prop} (hK : ∀ w', Kp [] w w' → K (.int .i64 (if o.ok = true then 0 else 1)) w') : callG Tryz.prog 93 #[opA o] w K := by
  refine entry_Check_call ?_
  unfold opA
  simp only [entry_Check, entry_Check_s10, newG_k, cells_agg, zcOp, str_nil]
  obtain ⟨w1, hw1⟩ := ex_w (w' := w.alloc (.cells #[.int .i64 o.k, .string (str o.sku), .string (str o.loc), .string (str o.to), .int .i64 o.q, .int .i64 o.id, .int .i64 o.due] 42))
  have hk1 : Kp [] w w1 := by rw [hw1]; exact kp_alloc
  have ha1 : w1.heap[w.heap.size]? = some (.cells #[.int .i64 o.k, .string (str o.sku), .string (str o.loc), .string (str o.to), .int .i64 o.q, .int .i64 o.id, .int .i64 o.due] 42) := by rw [hw1]; exact heap_new
  have hs1 : w1.heap.size = w.heap.size + 1 := by rw [hw1]; simp
  rw [← hw1]
  obtain ⟨w2, hw2⟩ := ex_w (w' := w1.alloc (.cells #[.int .i64 0, .string (str []), .string (str []), .string (str []), .int .i64 0, .int .i64 0, .int .i64 0] 42))
  have hk2 : Kp [] w1 w2 := by rw [hw2]; exact kp_alloc
  have hb2 : w2.heap[w1.heap.size]? = some (.cells #[.int .i64 0, .string (str []), .string (str []), .string (str []), .int .i64 0, .int .i64 0, .int .i64 0] 42) := by rw [hw2]; exact heap_new
  have ha2 := hk2.get ha1 (by simp)
  rw [← hw2]
  simp [-getElem?_pos, -Array.all_eq_true, -Array.getElem?_eq_getElem, -List.length_flatten, List.getElem?_cons_zero, List.getElem?_cons_succ, ha2]
  refine name_spec o.sku ?_
  have fin : ∀ nm, nm = (nameOk o.sku && nameOk o.loc) → entry_Check_s9 K (.pointer (some ⟨w.heap.size, 0, none⟩)) (.pointer (some ⟨w1.heap.size, 0, none⟩)) (.bool nm) w2 := by
    intro nm hnm
    refine check_s9 (w0 := w) ha2 hb2 (by omega) (by omega) (hk1.trans' hk2) nm fun w' hk' => ?_
    rw [hnm, OpV.ok_eq]
    exact hK w' hk'
  simp [-getElem?_pos, -Array.all_eq_true, -Array.getElem?_eq_getElem, -List.length_flatten, List.getElem?_cons_zero, List.getElem?_cons_succ, ha2]
  refine ⟨fun h => name_spec o.loc (fin _ (by rw [h]; rfl)), fun h => fin _ (by rw [h]; rfl)⟩
end Go.Proofs

set_option linter.unusedVariables false
set_option linter.unusedSimpArgs false
namespace Go.Q
def numV (n : Int) : V3 := ⟨1, n, []⟩
def textV (s : List UInt8) : V3 := ⟨2, 0, s⟩
def someV (n : Int) : V3 := if n = 0 then ⟨0, 0, []⟩ else numV n
def opRow (o : OpV) : List V3 := [numV o.k, textV o.sku, textV o.loc, textV o.to, numV o.q, numV o.id, numV o.due]
def rowOp (r : List V3) : OpV := ⟨(r.getD 0 ⟨0, 0, []⟩).n, (r.getD 1 ⟨0, 0, []⟩).s, (r.getD 2 ⟨0, 0, []⟩).s, (r.getD 3 ⟨0, 0, []⟩).s, (r.getD 4 ⟨0, 0, []⟩).n, (r.getD 5 ⟨0, 0, []⟩).n, (r.getD 6 ⟨0, 0, []⟩).n⟩
def opKinds : List Int := [1, 2, 2, 2, 1, 1, 1]
def opZ : OpV := ⟨0, [], [], [], 0, 0, 0⟩
def putOp (o : OpV) : List UInt8 × Int := if o.ok = true then putRow (opRow o) else ([], 1)
def takeOp (s : List UInt8) : OpV × Int := if (takeRow s).2 = 0 ∧ isK (takeRow s).1 opKinds = true ∧ (rowOp (takeRow s).1).ok = true then (rowOp (takeRow s).1, 0) else (opZ, 50)
structure OpV.Wf (o : OpV) : Prop where
  k0 : -9223372036854775808 ≤ o.k
  k1 : o.k < 9223372036854775808
  q0 : -9223372036854775808 ≤ o.q
  q1 : o.q < 9223372036854775808
  i0 : -9223372036854775808 ≤ o.id
  i1 : o.id < 9223372036854775808
  d0 : -9223372036854775808 ≤ o.due
  d1 : o.due < 9223372036854775808
theorem num_wf {n : Int} (h0 : -9223372036854775808 ≤ n) (h1 : n < 9223372036854775808) : (numV n).Wf := ⟨by simp [numV], by simp [numV], h0, h1, by simp [numV]⟩
theorem text_wf {s : List UInt8} (h : s.length < 2 ^ 39) : (textV s).Wf := ⟨by simp [textV], by simp [textV], by simp [textV], by simp [textV], h⟩
theorem OpV.ok_len {o : OpV} (h : o.ok = true) : o.sku.length ≤ 64 ∧ o.loc.length ≤ 64 ∧ o.to.length ≤ 64 := by
  obtain ⟨k, sku, loc, to, q, id, due⟩ := o
  unfold OpV.ok nameOk at h
  simp only at h ⊢
  have hl : ∀ l : List UInt8, l = [] → l.length ≤ 64 := fun l h => by rw [h]; simp
  by_cases h1 : k = 1
  · simp [h1] at h; have := hl to h.2.1; omega
  by_cases h2 : k = 2
  · simp [h2] at h; have := hl to h.2.1; omega
  by_cases h3 : k = 3 ∨ k = 4
  · simp [h1, h2, h3] at h; have := hl to h.2.1; have := hl sku h.1.1; have := hl loc h.1.2; omega
  by_cases h5 : k = 5
  · simp [h5] at h; have := hl to h.2.1; have := hl sku h.1.1; have := hl loc h.1.2; omega
  by_cases h6 : k = 6
  · simp [h6] at h; omega
  by_cases h7 : k = 7
  · simp [h7] at h; have := hl to h.2.1; omega
  · simp [h1, h2, h3, h5, h6, h7] at h
theorem opRow_wf {o : OpV} (h : o.ok = true) (hw : o.Wf) : ∀ v ∈ opRow o, v.Wf := by
  obtain ⟨h1, h2, h3⟩ := o.ok_len h
  intro v hv
  simp only [opRow, List.mem_cons, List.not_mem_nil, or_false] at hv
  rcases hv with rfl | rfl | rfl | rfl | rfl | rfl | rfl
  · exact num_wf hw.k0 hw.k1
  · exact text_wf (by omega)
  · exact text_wf (by omega)
  · exact text_wf (by omega)
  · exact num_wf hw.q0 hw.q1
  · exact num_wf hw.i0 hw.i1
  · exact num_wf hw.d0 hw.d1
theorem list7 {α : Type} {r : List α} (h : r.length = 7) : ∃ a b c d e f g, r = [a, b, c, d, e, f, g] := by
  match r, h with
  | [a, b, c, d, e, f, g], _ => exact ⟨a, b, c, d, e, f, g, rfl⟩
theorem putRow_len {r : List V3} (hl : r.length ≤ 255) : (putRow r).1.length ≤ 20000 := by
  unfold putRow
  split
  · rename_i h
    have := rowB_len h.2
    simp; omega
  · simp
end Go.Q

set_option linter.unusedVariables false
set_option linter.unusedSimpArgs false
namespace Go.Proofs
open Go Go.Q
def valA (v : V3) : Value := .agg #[.int .i64 v.k, .int .i64 v.n, .string (str v.s)]
theorem num_spec {w : World} (n : Int) {K : Value → World → Prop} (hK : ∀ w', Kp [] w w' → K (valA (numV n)) w') : callG Tryz.prog 64 #[.int .i64 n] w K := by
  refine entry_num_call ?_
  simp [-getElem?_pos, -Array.all_eq_true, -Array.getElem?_eq_getElem, -List.length_flatten, List.getElem?_cons_zero, List.getElem?_cons_succ, entry_num, entry_num_s0, heap_new, zcVl, bld_done, bld_if, offAt, putAt]
  rw [loadVar_of aggValT szValT heap_new rfl]
  exact hK _ kp_alloc
theorem text_spec {w : World} (s : List UInt8) {K : Value → World → Prop} (hK : ∀ w', Kp [] w w' → K (valA (textV s)) w') : callG Tryz.prog 63 #[.string (str s)] w K := by
  refine entry_text_call ?_
  simp [-getElem?_pos, -Array.all_eq_true, -Array.getElem?_eq_getElem, -List.length_flatten, List.getElem?_cons_zero, List.getElem?_cons_succ, entry_text, entry_text_s0, heap_new, zcVl, bld_done, bld_if, offAt, putAt]
  rw [loadVar_of aggValT szValT heap_new rfl]
  exact hK _ kp_alloc
theorem some_spec {w : World} (n : Int) {K : Value → World → Prop} (hK : ∀ w', Kp [] w w' → K (valA (someV n)) w') : callG Tryz.prog 66 #[.int .i64 n] w K := by
  refine entry_some_call ?_
  simp [-getElem?_pos, -Array.all_eq_true, -Array.getElem?_eq_getElem, -List.length_flatten, List.getElem?_cons_zero, List.getElem?_cons_succ, entry_some, entry_some_s0, heap_new, zcVl, bld_done, bld_if, offAt, putAt, str_nil]
  refine ⟨fun h => ?_, fun h => ?_⟩
  · rw [loadVar_of aggValT szValT heap_new rfl]
    have := hK _ (kp_alloc (w := w) (o := .cells #[.int .i64 0, .int .i64 0, .string (str [])] 76))
    simpa [someV, h, valA] using this
  · refine num_spec n fun w' hk => ?_
    have hb := hk.get (heap_new (w := w) (o := .cells #[.int .i64 0, .int .i64 0, .string (str [])] 76)) (by simp)
    have lb := live_of hb
    simp [-getElem?_pos, -Array.all_eq_true, -Array.getElem?_eq_getElem, -List.length_flatten, List.getElem?_cons_zero, List.getElem?_cons_succ, valA, numV, hb, lvV, lb]
    have := hK _ ((kp_alloc.trans' hk).setBlk (.inr (Nat.le_refl _)) (.cells #[.int .i64 1, .int .i64 n, .string (str [])] 76))
    simpa [someV, h, valA, numV] using this
theorem row_spec {w : World} {v : Value} {K : Value → World → Prop} (hK : K v w) : callG Tryz.prog 62 #[v] w K := entry_row_call hK
theorem isK_drop {r : List V3} {ks : List Int} (hl : r.length = ks.length) {i : Nat} (hi : i < r.length) : isK (r.drop i) (ks.drop i) = (kOk (ks[i]'(by omega)) r[i] && isK (r.drop (i + 1)) (ks.drop (i + 1))) := by
  rw [List.drop_eq_getElem_cons hi, List.drop_eq_getElem_cons (by omega : i < ks.length)]; rfl
theorem isK_bad {r : List V3} {ks : List Int} (hl : r.length ≠ ks.length) : isK r ks = false := by
  cases h : isK r ks with
  | false => rfl
  | true => exact absurd (isK_len h) hl
theorem rd_int {w : World} {v : Value} {ks : List Int} (h : Rd w v 1 (ks.map intV)) {i : Nat} (hi : i < ks.length) : ∃ bl o c T fr, w.heap[bl]? = some (.cells c T fr) ∧ (∀ kd K, ia 1 v (.int kd i) K = K (.pointer (some ⟨bl, o, none⟩))) ∧ c[o]? = some (.int .i64 ks[i]) := by
  obtain ⟨bl, o, T, c, fr, h1, h2, h3, h4, h5⟩ := h.at (i := i) (by simpa using hi)
  refine ⟨bl, o, c, T, fr, h1, h2, ?_⟩
  have := h5 0 (by omega)
  simpa [intV] using this
theorem rd_cells {w : World} {v : Value} {r : List V3} (h : Rd w v 3 (r.map valV)) {i : Nat} (hi : i < r.length) :
    ∃ bl o c T fr, w.heap[bl]? = some (.cells c T fr) ∧ (∀ kd K, ia 3 v (.int kd i) K = K (.pointer (some ⟨bl, o, none⟩))) ∧ c[o]? = some (.int .i64 r[i].k) ∧ c[o + 1]? = some (.int .i64 r[i].n) ∧ c[o + 2]? = some (.string (str r[i].s)) := by
  obtain ⟨bl, o, T, c, fr, h1, h2, h3, h4, h5⟩ := h.at (i := i) (by simpa using hi)
  have g0 := h5 0 (by omega)
  have g1 := h5 1 (by omega)
  have g2 := h5 2 (by omega)
  exact ⟨bl, o, c, T, fr, h1, h2, by simpa [valV] using g0, by simpa [valV] using g1, by simpa [valV] using g2⟩
theorem is_spec {w : World} {rv kv : Value} {r : List V3} {ks : List Int} (hr : Rd w rv 3 (r.map valV)) (hk : Rd w kv 1 (ks.map intV)) (hl : r.length < 2 ^ 40) {K : Value → World → Prop}
    (hK : ∀ w', Kp [] w w' → K (.bool (isK r ks)) w') : callG Tryz.prog 116 #[rv, kv] w K := by
  refine entry_is_call ?_
  simp only [entry_is, entry_is_s7, hr.lenL, hk.lenL, List.length_map, bq_neq, bV_b]
  refine ⟨fun h => ?_, fun h => ?_⟩
  · have := hK w (Kp.refl _ _)
    rw [isK_bad (by intro he; simp [he] at h)] at this
    exact this
  have hlen : r.length = ks.length := by simp at h; omega
  simp only [entry_is_s6, hr.lenL, List.length_map]
  unfold entry_is_L5
  refine loop_inv (fun m xs wi => ∃ i, i ≤ r.length ∧ m = r.length - i ∧ xs = [kv, rv, .int .i64 r.length, .int .i64 (i : Nat)] ∧ Kp [] w wi ∧ isK r ks = isK (r.drop i) (ks.drop i)) ?_ (m := r.length) ⟨0, by omega, rfl, rfl, Kp.refl _ _, rfl⟩
  rintro m N xs wi ⟨i, hi, rfl, rfl, hki, he⟩ hN
  simp only [entry_is_L5F, entry_is_s4, bq_lss, bV_b]
  refine ⟨fun hlt => ?_, fun hge => ?_⟩
  · have hi : i < r.length := by simpa using hlt
    have hik : i < ks.length := by omega
    have hiw : IntKind.i64.wrap ((i : Int) + 1) = ((i + 1 : Nat) : Int) := by rw [w64 (by omega) (by omega)]; simp
    rw [isK_drop hlen hi] at he
    obtain ⟨p, hp1, hp2⟩ := rd_val (hr.keep hki) hi
    obtain ⟨w1, hw1⟩ := ex_w (w' := wi.alloc (.cells #[.int .i64 r[i].k, .int .i64 r[i].n, .string (str r[i].s)] 76))
    have hk1 : Kp [] wi w1 := by rw [hw1]; exact kp_alloc
    have hb1 : w1.heap[wi.heap.size]? = some (.cells #[.int .i64 r[i].k, .int .i64 r[i].n, .string (str r[i].s)] 76) := by rw [hw1]; exact heap_new
    have hkw := hki.trans' hk1
    obtain ⟨bl, o, c, T, fr, hh, hia, hc⟩ := rd_int (hk.keep hkw) hik
    unfold entry_is_s3
    simp [-getElem?_pos, -Array.all_eq_true, -Array.getElem?_eq_getElem, -List.length_flatten, List.getElem?_cons_zero, List.getElem?_cons_succ, hp1, hp2, heap_new, zcVl]
    rw [← hw1]
    have step : ∀ (b : Bool) (W : World), Kp [] w W → kOk ks[i] r[i] = (b && r[i].ok) → (b = false → False) → (callG Tryz.prog 58 #[.agg #[.int .i64 r[i].k, .int .i64 r[i].n, .string (str r[i].s)]] W fun t48 w =>
        qG Tryz.prog (bq .neq 30 (.tmp 48) (.const (.int .i64 0)) t48 (.int .i64 0)) w fun t49 => bV t49 (K (.bool false) w) (entry_is_s1 K N kv rv (.int .i64 r.length) (.int .i64 i) w)) := by
      intro b W hW hb hbf
      have hbt : b = true := by cases b with
        | true => rfl
        | false => exact (hbf rfl).elim
      refine Check_spec r[i] fun w2 hk2 => ?_
      rw [hbt, Bool.true_and] at hb
      cases hv : r[i].ok with
      | false =>
        rw [hv] at hb
        rw [hb, Bool.false_and] at he
        simp [-getElem?_pos, -Array.all_eq_true, -Array.getElem?_eq_getElem, -List.length_flatten, List.getElem?_cons_zero, List.getElem?_cons_succ, ]
        have := hK w2 (hW.trans' hk2)
        rw [he] at this
        exact this
      | true =>
        rw [hv] at hb
        rw [hb, Bool.true_and] at he
        simp [-getElem?_pos, -Array.all_eq_true, -Array.getElem?_eq_getElem, -List.length_flatten, List.getElem?_cons_zero, List.getElem?_cons_succ, ]
        unfold entry_is_s1
        simp only [bq_add, hiw]
        exact hN (r.length - (i + 1)) _ _ (by omega) ⟨i + 1, by omega, rfl, rfl, hW.trans' hk2, he⟩
    have fin : ∀ maybe : Bool, kOk ks[i] r[i] = ((decide (r[i].k = ks[i]) || maybe) && r[i].ok) → entry_is_s2 K N kv (.int .i64 i) (.pointer (some ⟨wi.heap.size, 0, none⟩)) (.bool maybe) rv (.int .i64 r.length) (.int .i64 i) w1 := by
      intro maybe hm
      unfold entry_is_s2
      simp [-getElem?_pos, -Array.all_eq_true, -Array.getElem?_eq_getElem, -List.length_flatten, List.getElem?_cons_zero, List.getElem?_cons_succ, hb1, hia, hh, hc]
      refine ⟨fun hne => ⟨fun hf => ?_, fun ht => ?_⟩, fun heq => ?_⟩
      · rw [hf] at hm
        simp only [hne, decide_false, Bool.false_or, Bool.false_and] at hm
        rw [hm, Bool.false_and] at he
        have := hK _ hkw.drew
        rw [he] at this
        exact this
      · exact step true _ hkw.drew (by rw [hm, ht]; simp) fun h => by cases h
      · exact step true _ hkw.drew (by rw [hm, heq]; simp) fun h => by cases h
    simp [-getElem?_pos, -Array.all_eq_true, -Array.getElem?_eq_getElem, -List.length_flatten, List.getElem?_cons_zero, List.getElem?_cons_succ, hb1, hia, hh, hc]
    refine ⟨fun h0 => ⟨fun h1 => fin _ (by simp [kOk, h0, h1]), fun h1 => fin _ (by simp [kOk, h0, h1])⟩, fun h0 => fin _ (by simp [kOk, h0])⟩
  · have hie : i = r.length := by simp at hge; omega
    subst hie
    unfold entry_is_s0
    have := hK wi hki
    rw [he, List.drop_length, hlen, List.drop_length] at this
    exact this
end Go.Proofs

set_option linter.unusedVariables false
set_option linter.unusedSimpArgs false
namespace Go.Proofs
open Go Go.Q
def kc (c : UInt8) : Int := if c = 109 then 0 else if c = 116 then 2 else 1
theorem PutOp_spec {w : World} (o : OpV) (hw : o.Wf) {K : Value → World → Prop} (hK : ∀ w', Kp [] w w' → K (.tuple #[.string (str (putOp o).1), .int .i64 (putOp o).2]) w') : callG Tryz.prog 43 #[opA o] w K := by
  refine entry_Put_call ?_
  unfold opA
  simp only [entry_Put, entry_Put_s0, newG_k, cells_agg]
  obtain ⟨w1, hw1⟩ := ex_w (w' := w.alloc (.cells #[.int .i64 o.k, .string (str o.sku), .string (str o.loc), .string (str o.to), .int .i64 o.q, .int .i64 o.id, .int .i64 o.due] 42))
  have hk1 : Kp [] w w1 := by rw [hw1]; exact kp_alloc
  have hb1 : w1.heap[w.heap.size]? = some (.cells #[.int .i64 o.k, .string (str o.sku), .string (str o.loc), .string (str o.to), .int .i64 o.q, .int .i64 o.id, .int .i64 o.due] 42) := by rw [hw1]; exact heap_new
  rw [← hw1]
  simp [-getElem?_pos, -Array.all_eq_true, -Array.getElem?_eq_getElem, -List.length_flatten, List.getElem?_cons_zero, List.getElem?_cons_succ, hb1]
  refine CheckOp_spec o fun w2 hk2 => ?_
  have hb2 := hk2.get hb1 (by simp)
  have hk02 := hk1.trans' hk2
  cases ho : o.ok with
  | false =>
    have hp : putOp o = ([], 1) := by unfold putOp; rw [ho]; rfl
    simp [-getElem?_pos, -Array.all_eq_true, -Array.getElem?_eq_getElem, -List.length_flatten, List.getElem?_cons_zero, List.getElem?_cons_succ, ]
    have := hK w2 hk02
    rw [hp] at this
    exact this
  | true =>
    have hp : putOp o = putRow (opRow o) := by unfold putOp; rw [if_pos ho]
    simp [-getElem?_pos, -Array.all_eq_true, -Array.getElem?_eq_getElem, -List.length_flatten, List.getElem?_cons_zero, List.getElem?_cons_succ, hb2]
    refine num_spec _ fun w3 hk3 => ?_
    have hb3 := hk3.get (show w2.drew.heap[w.heap.size]? = _ from hb2) (by simp)
    simp [-getElem?_pos, -Array.all_eq_true, -Array.getElem?_eq_getElem, -List.length_flatten, List.getElem?_cons_zero, List.getElem?_cons_succ, hb3]
    refine text_spec _ fun w4 hk4 => ?_
    have hb4 := hk4.get hb3 (by simp)
    simp [-getElem?_pos, -Array.all_eq_true, -Array.getElem?_eq_getElem, -List.length_flatten, List.getElem?_cons_zero, List.getElem?_cons_succ, hb4]
    refine text_spec _ fun w5 hk5 => ?_
    have hb5 := hk5.get hb4 (by simp)
    simp [-getElem?_pos, -Array.all_eq_true, -Array.getElem?_eq_getElem, -List.length_flatten, List.getElem?_cons_zero, List.getElem?_cons_succ, hb5]
    refine text_spec _ fun w6 hk6 => ?_
    have hb6 := hk6.get hb5 (by simp)
    simp [-getElem?_pos, -Array.all_eq_true, -Array.getElem?_eq_getElem, -List.length_flatten, List.getElem?_cons_zero, List.getElem?_cons_succ, hb6]
    refine num_spec _ fun w7 hk7 => ?_
    have hb7 := hk7.get hb6 (by simp)
    simp [-getElem?_pos, -Array.all_eq_true, -Array.getElem?_eq_getElem, -List.length_flatten, List.getElem?_cons_zero, List.getElem?_cons_succ, hb7]
    refine num_spec _ fun w8 hk8 => ?_
    have hb8 := hk8.get hb7 (by simp)
    simp [-getElem?_pos, -Array.all_eq_true, -Array.getElem?_eq_getElem, -List.length_flatten, List.getElem?_cons_zero, List.getElem?_cons_succ, hb8]
    refine num_spec _ fun w9 hk9 => ?_
    have hk09 := (((((((hk02.trans' kp_drew).trans' hk3).trans' hk4).trans' hk5).trans' hk6).trans' hk7).trans' hk8).trans' hk9
    refine bsl_rows (n := 3) (len := 7) (xs := [valA (numV o.k), valA (textV o.sku), valA (textV o.loc), valA (textV o.to), valA (numV o.q), valA (numV o.id), valA (numV o.due)]) (rows := (opRow o).map valV) (by omega) rfl rfl (by simp [opRow, valV]) (by omega) fun v wa ha => ?_
    refine row_spec ?_
    refine Put_spec ha.rd (opRow_wf ho hw) (by simp [opRow]) fun wb hkb => ?_
    rw [ex0, ex1, ← hp]
    exact hK wb ((hk09.trans' ha.kp).trans' hkb)
theorem lvO {b : Nat} {w : World} {c : Array Value} {T : TypeId} {fr : Nat × Nat} (hb : Live w b) (hs : c.size = 7) {K : Value → Prop} :
    qG Tryz.prog (do loadVar 42 (← asAddr (.pointer (some ⟨b, 0, none⟩)))) (setBlk w b (.cells c T fr)) K = K (.agg c) := loadVar_of aggOpT szOpT (heap_self hb) hs
theorem takeRow_len {s : List UInt8} (h : s.length < 2 ^ 39) : (takeRow s).1.length < 256 := by
  cases s with
  | nil => simp [takeRow]
  | cons c t =>
    rw [takeRow_cons]
    split
    · rename_i l hl
      have := (takeL_some _ hl).1
      have := c.toNat_lt
      simp; omega
    · simp
end Go.Proofs

set_option linter.unusedVariables false
set_option linter.unusedSimpArgs false
namespace Go.Proofs
open Go Go.Q
theorem takeOp_bad {s : List UInt8} (h : ¬ ((takeRow s).2 = 0 ∧ isK (takeRow s).1 opKinds = true ∧ (rowOp (takeRow s).1).ok = true)) : takeOp s = (opZ, 50) := by unfold takeOp; rw [if_neg h]
theorem takeOp_good {s : List UInt8} (h : (takeRow s).2 = 0 ∧ isK (takeRow s).1 opKinds = true ∧ (rowOp (takeRow s).1).ok = true) : takeOp s = (rowOp (takeRow s).1, 0) := by unfold takeOp; rw [if_pos h]
section
variable {w0 : World} {a : Nat} {K : Value → World → Prop}
theorem takeOp_s0 {w : World} {v : Value} {r : List V3} (hr : Rd w v 3 (r.map valV)) (hk : isK r opKinds = true)
    (ha : w.heap[a]? = some (.cells #[.int .i64 0, .string (str []), .string (str []), .string (str []), .int .i64 0, .int .i64 0, .int .i64 0] 42)) (ha0 : w0.heap.size ≤ a) (hkp : Kp [] w0 w)
    (hK : ∀ w', Kp [] w0 w' → K (.tuple #[opA (if (rowOp r).ok = true then rowOp r else opZ), .int .i64 (if (rowOp r).ok = true then 0 else 50)]) w') : entry_Take_s0 K (.pointer (some ⟨a, 0, none⟩)) v w := by
  obtain ⟨r0, r1, r2, r3, r4, r5, r6, rfl⟩ := list7 (isK_len hk)
  obtain ⟨b0, o0, c0, T0, f0, h0, i0, q0, n0, s0⟩ := rd_cells hr (i := 0) (by simp)
  obtain ⟨b1, o1, c1, T1, f1, h1, i1, q1, n1, s1⟩ := rd_cells hr (i := 1) (by simp)
  obtain ⟨b2, o2, c2, T2, f2, h2, i2, q2, n2, s2⟩ := rd_cells hr (i := 2) (by simp)
  obtain ⟨b3, o3, c3, T3, f3, h3, i3, q3, n3, s3⟩ := rd_cells hr (i := 3) (by simp)
  obtain ⟨b4, o4, c4, T4, f4, h4, i4, q4, n4, s4⟩ := rd_cells hr (i := 4) (by simp)
  obtain ⟨b5, o5, c5, T5, f5, h5, i5, q5, n5, s5⟩ := rd_cells hr (i := 5) (by simp)
  obtain ⟨b6, o6, c6, T6, f6, h6, i6, q6, n6, s6⟩ := rd_cells hr (i := 6) (by simp)
  have i0' : ∀ K : Value → Prop, ia 3 v (.int .i64 0) K = K (.pointer (some ⟨b0, o0, none⟩)) := fun K => i0 .i64 K
  have i1' : ∀ K : Value → Prop, ia 3 v (.int .i64 1) K = K (.pointer (some ⟨b1, o1, none⟩)) := fun K => i1 .i64 K
  have i2' : ∀ K : Value → Prop, ia 3 v (.int .i64 2) K = K (.pointer (some ⟨b2, o2, none⟩)) := fun K => i2 .i64 K
  have i3' : ∀ K : Value → Prop, ia 3 v (.int .i64 3) K = K (.pointer (some ⟨b3, o3, none⟩)) := fun K => i3 .i64 K
  have i4' : ∀ K : Value → Prop, ia 3 v (.int .i64 4) K = K (.pointer (some ⟨b4, o4, none⟩)) := fun K => i4 .i64 K
  have i5' : ∀ K : Value → Prop, ia 3 v (.int .i64 5) K = K (.pointer (some ⟨b5, o5, none⟩)) := fun K => i5 .i64 K
  have i6' : ∀ K : Value → Prop, ia 3 v (.int .i64 6) K = K (.pointer (some ⟨b6, o6, none⟩)) := fun K => i6 .i64 K
  clear i0 i1 i2 i3 i4 i5 i6
  simp only [List.getElem_cons_zero, List.getElem_cons_succ] at n0 s1 s2 s3 n4 n5 n6
  clear q0 q1 q2 q3 q4 q5 q6 s0 n1 n2 n3 s4 s5 s6
  obtain ⟨o, ho⟩ : ∃ o, o = rowOp [r0, r1, r2, r3, r4, r5, r6] := ⟨_, rfl⟩
  have eo : o = ⟨r0.n, r1.s, r2.s, r3.s, r4.n, r5.n, r6.n⟩ := ho
  rw [← ho] at hK
  obtain ⟨w2, hw2⟩ := ex_w (w' := w.alloc (.cells #[.int .i64 r0.n, .string (str r1.s), .string (str r2.s), .string (str r3.s), .int .i64 r4.n, .int .i64 r5.n, .int .i64 r6.n] 42))
  have hk2 : Kp [] w w2 := by rw [hw2]; exact kp_alloc
  have hb2 : w2.heap[w.heap.size]? = some (.cells #[.int .i64 r0.n, .string (str r1.s), .string (str r2.s), .string (str r3.s), .int .i64 r4.n, .int .i64 r5.n, .int .i64 r6.n] 42) := by rw [hw2]; exact heap_new
  obtain ⟨wz, hwz⟩ := ex_w (w' := w.alloc (.cells #[.int .i64 0, .string (str []), .string (str []), .string (str []), .int .i64 0, .int .i64 0, .int .i64 0] 42))
  have hkz : Kp [] w wz := by rw [hwz]; exact kp_alloc
  have hz0 := hkz.get h0 (by simp)
  have hz1 := hkz.get h1 (by simp)
  have hz2 := hkz.get h2 (by simp)
  have hz3 := hkz.get h3 (by simp)
  have hz4 := hkz.get h4 (by simp)
  have hz5 := hkz.get h5 (by simp)
  have hz6 := hkz.get h6 (by simp)
  rw [hwz] at hz0 hz1 hz2 hz3 hz4 hz5 hz6
  have ha2 := hk2.get ha (by simp)
  have ha2d : w2.drew.heap[a]? = some (.cells #[.int .i64 0, .string (str []), .string (str []), .string (str []), .int .i64 0, .int .i64 0, .int .i64 0] 42) := ha2
  unfold entry_Take_s0
  simp [-getElem?_pos, -Array.all_eq_true, -Array.getElem?_eq_getElem, -List.length_flatten, List.getElem?_cons_zero, List.getElem?_cons_succ, i0', i1', i2', i3', i4', i5', i6', h0, h1, h2, h3, h4, h5, h6, hz0, hz1, hz2, hz3, hz4, hz5, hz6, n0, s1, s2, s3, n4, n5, n6, zcOp, str_nil, bld_done, bld_if, offAt, putAt, heap_new]
  rw [← hw2]
  have e : opA o = .agg #[.int .i64 r0.n, .string (str r1.s), .string (str r2.s), .string (str r3.s), .int .i64 r4.n, .int .i64 r5.n, .int .i64 r6.n] := by rw [eo]; rfl
  rw [← e]
  refine CheckOp_spec o fun w3 hk3 => ?_
  have ha3 := hk3.get ha2d (by simp)
  have hb3 := hk3.get (show w2.drew.heap[w.heap.size]? = _ from hb2) (by simp)
  have la := live_of ha3
  have hkk : ∀ ob, Kp [] w0 (setBlk w3 a ob) := fun ob => (((hkp.trans' hk2).trans' kp_drew).trans' hk3).setBlk (.inr ha0) _
  cases hok : o.ok with
  | true =>
    rw [hok] at hK
    simp [-getElem?_pos, -Array.all_eq_true, -Array.getElem?_eq_getElem, -List.length_flatten, List.getElem?_cons_zero, List.getElem?_cons_succ, hb3, ha3, la, lvO]
    have := hK _ (hkk (.cells #[.int .i64 r0.n, .string (str r1.s), .string (str r2.s), .string (str r3.s), .int .i64 r4.n, .int .i64 r5.n, .int .i64 r6.n] 42))
    simpa [opA, eo] using this
  | false =>
    rw [hok] at hK
    simp [-getElem?_pos, -Array.all_eq_true, -Array.getElem?_eq_getElem, -List.length_flatten, List.getElem?_cons_zero, List.getElem?_cons_succ, hb3, ha3, la, lvO, zcOp, str_nil, bld_done]
    have := hK _ (hkk (.cells #[.int .i64 0, .string (str []), .string (str []), .string (str []), .int .i64 0, .int .i64 0, .int .i64 0] 42))
    simpa [opA, opZ] using this
end
theorem TakeOp_spec {w : World} (s : List UInt8) (hl : s.length < 2 ^ 39) {K : Value → World → Prop} (hK : ∀ w', Kp [] w w' → K (.tuple #[opA (takeOp s).1, .int .i64 (takeOp s).2]) w') : callG Tryz.prog 87 #[.string (str s)] w K := by
  refine entry_Take_call ?_
  simp only [entry_Take, entry_Take_s1, newG_k, zcOp, str_nil]
  obtain ⟨n, hn⟩ : ∃ n, n = w.heap.size := ⟨_, rfl⟩
  obtain ⟨w1, hw1⟩ := ex_w (w' := w.alloc (.cells #[.int .i64 0, .string (str []), .string (str []), .string (str []), .int .i64 0, .int .i64 0, .int .i64 0] 42))
  have hk1 : Kp [] w w1 := by rw [hw1]; exact kp_alloc
  have ha1 : w1.heap[n]? = some (.cells #[.int .i64 0, .string (str []), .string (str []), .string (str []), .int .i64 0, .int .i64 0, .int .i64 0] 42) := by rw [hw1, hn]; exact heap_new
  rw [← hw1, ← hn]
  refine Take_spec s hl fun v w2 h2 => ?_
  rw [ex0, ex1]
  have ha2 := h2.kp.get ha1 (by simp)
  have hk02 := hk1.trans' h2.kp
  have bad : ∀ w', Kp [] w w' → ¬ ((takeRow s).2 = 0 ∧ isK (takeRow s).1 opKinds = true ∧ (rowOp (takeRow s).1).ok = true) → K (.tuple #[opA opZ, .int .i64 50]) w' := by
    intro w' hk h
    have := hK w' hk
    rw [takeOp_bad h] at this
    exact this
  have la := live_of ha2
  have hks : ∀ W, Kp [] w W → ∀ ob, Kp [] w (setBlk W n ob) := fun W hW ob => hW.setBlk (.inr (by omega)) _
  by_cases he : (takeRow s).2 = 0
  · have hlen := takeRow_len hl
    rw [he]
    simp [-getElem?_pos, -Array.all_eq_true, -Array.getElem?_eq_getElem, -List.length_flatten, List.getElem?_cons_zero, List.getElem?_cons_succ, ha2]
    refine bsl_rows (n := 1) (len := 7) (xs := [.int .i64 1, .int .i64 2, .int .i64 2, .int .i64 2, .int .i64 1, .int .i64 1, .int .i64 1]) (rows := opKinds.map intV) (by omega) rfl rfl (by simp [opKinds, intV]) (by omega) fun v3 wk h3 => ?_
    refine is_spec (h2.rd.keep h3.kp) h3.rd (by omega) fun w3 hk3' => ?_
    have hk3 := h3.kp.trans' hk3'
    have ha3 := hk3.get ha2 (by simp)
    have la3 := live_of ha3
    have hk03 := hk02.trans' hk3
    cases hk : isK (takeRow s).1 opKinds with
    | false =>
      simp [-getElem?_pos, -Array.all_eq_true, -Array.getElem?_eq_getElem, -List.length_flatten, List.getElem?_cons_zero, List.getElem?_cons_succ, ha3, bld_done, lvO, la3]
      have := bad _ (hks w3 hk03 (.cells #[.int .i64 0, .string (str []), .string (str []), .string (str []), .int .i64 0, .int .i64 0, .int .i64 0] 42)) (by rw [hk]; simp)
      simpa [opA, opZ] using this
    | true =>
      simp [-getElem?_pos, -Array.all_eq_true, -Array.getElem?_eq_getElem, -List.length_flatten, List.getElem?_cons_zero, List.getElem?_cons_succ, ]
      refine takeOp_s0 (w0 := w) (h2.rd.keep hk3) hk ha3 (by omega) hk03 fun w4 hk4 => ?_
      have := hK w4 hk4
      cases ho : (rowOp (takeRow s).1).ok with
      | true => rw [takeOp_good ⟨he, hk, ho⟩] at this; exact this
      | false => rw [takeOp_bad (by rw [ho]; simp)] at this; exact this
  · simp [-getElem?_pos, -Array.all_eq_true, -Array.getElem?_eq_getElem, -List.length_flatten, List.getElem?_cons_zero, List.getElem?_cons_succ, ha2, he, bld_done, lvO, la]
    have := bad _ (hks w2 hk02 (.cells #[.int .i64 0, .string (str []), .string (str []), .string (str []), .int .i64 0, .int .i64 0, .int .i64 0] 42)) (fun h => he h.1)
    simpa [opA, opZ] using this
end Go.Proofs

set_option linter.unusedVariables false
set_option linter.unusedSimpArgs false
namespace Go.Q
structure HV where
  id : Int
  sku : List UInt8
  loc : List UInt8
  q : Int
  st : Int
  due : Int
  deriving DecidableEq
structure SV where
  sku : List UInt8
  loc : List UInt8
  hand : Int
  held : Int
  deriving DecidableEq
def stateT (n : Int) : List UInt8 := if n = 0 then [97, 99, 116, 105, 118, 101] else if n = 1 then [111, 117, 116] else if n = 2 then [117, 112] else []
def kindT (n : Int) : List UInt8 := if n = 1 then [114, 101, 99, 101, 105, 118, 101] else if n = 3 then [99, 111, 109, 109, 105, 116] else if n = 6 then [116, 114, 97, 110, 115, 102, 101, 114] else if n = 7 then [97, 100, 106, 117, 115, 116] else []
def rowH (txt : Int → List UInt8) (h : HV) : List V3 := if txt h.st = [] then [] else [numV h.id, textV h.sku, textV h.loc, numV h.q, textV (txt h.st), someV h.due]
def hZ : HV := ⟨0, [], [], 0, 0, 0⟩
def v0 : V3 := ⟨0, 0, []⟩
def rowS (s : SV) : List V3 := [textV s.sku, textV s.loc, numV s.hand, numV s.held]
end Go.Q

set_option linter.unusedVariables false
set_option linter.unusedSimpArgs false
namespace Go.Proofs
open Go Go.Q
def hA (h : HV) : Value := .agg #[.int .i64 h.id, .string (str h.sku), .string (str h.loc), .int .i64 h.q, .int .i64 h.st, .int .i64 h.due]
def sA (s : SV) : Value := .agg #[.string (str s.sku), .string (str s.loc), .int .i64 s.hand, .int .i64 s.held]
theorem zcStock : zc Tryz.prog 48 = [.string ⟨#[]⟩, .string ⟨#[]⟩, .int .i64 0, .int .i64 0].toArray := by kernel_rfl
theorem aggStockT : aggO Tryz.prog 48 = some true := by kernel_rfl
theorem szStockT : szO Tryz.prog 48 = some 4 := by kernel_rfl
theorem lvStock {b : Nat} {w : World} {c : Array Value} {T : TypeId} {fr : Nat × Nat} (hb : Live w b) (hs : c.size = 4) {K : Value → Prop} :
    qG Tryz.prog (do loadVar 48 (← asAddr (.pointer (some ⟨b, 0, none⟩)))) (setBlk w b (.cells c T fr)) K = K (.agg c) := loadVar_of aggStockT szStockT (heap_self hb) hs
theorem zcHold : zc Tryz.prog 70 = [.int .i64 0, .string ⟨#[]⟩, .string ⟨#[]⟩, .int .i64 0, .int .i64 0, .int .i64 0].toArray := by kernel_rfl
theorem zcMove : zc Tryz.prog 73 = [.int .i64 0, .string ⟨#[]⟩, .string ⟨#[]⟩, .int .i64 0, .int .i64 0, .int .i64 0].toArray := by kernel_rfl
theorem txt_state_spec {w : World} (n : Int) {K : Value → World → Prop} (hK : K (.string (str (stateT n))) w) : callG Tryz.prog 65 #[.int .i64 n] w K := by
  refine entry_state_call ?_
  unfold stateT at hK
  simp [-getElem?_pos, -Array.all_eq_true, -Array.getElem?_eq_getElem, -List.length_flatten, List.getElem?_cons_zero, List.getElem?_cons_succ, entry_state, entry_state_s0]
  have e : ∀ l : List UInt8, (⟨l.toArray⟩ : ByteArray) = str l := fun _ => rfl
  simp only [e]
  by_cases h0 : n = 0
  · simp_all
  by_cases h1 : n = 1
  · simp_all
  by_cases h2 : n = 2
  · simp_all
  simp_all
theorem txt_kind_spec {w : World} (n : Int) {K : Value → World → Prop} (hK : K (.string (str (kindT n))) w) : callG Tryz.prog 67 #[.int .i64 n] w K := by
  refine entry_kind_call ?_
  unfold kindT at hK
  simp [-getElem?_pos, -Array.all_eq_true, -Array.getElem?_eq_getElem, -List.length_flatten, List.getElem?_cons_zero, List.getElem?_cons_succ, entry_kind, entry_kind_s0]
  have e : ∀ l : List UInt8, (⟨l.toArray⟩ : ByteArray) = str l := fun _ => rfl
  simp only [e]
  by_cases h0 : n = 1
  · simp_all
  by_cases h1 : n = 3
  · simp_all
  by_cases h2 : n = 6
  · simp_all
  by_cases h3 : n = 7
  · simp_all
  simp_all
theorem HoldRow_spec {w : World} (h : HV) {K : Value → World → Prop} (hK : ∀ v w', Kp [] w w' → Rd w' v 3 ((rowH stateT h).map valV) → K v w') : callG Tryz.prog 26 #[hA h] w K := by
  refine entry_HoldRow_call ?_
  unfold hA
  simp only [entry_HoldRow, entry_HoldRow_s0, newG_k, cells_agg]
  obtain ⟨w1, hw1⟩ := ex_w (w' := w.alloc (.cells #[.int .i64 h.id, .string (str h.sku), .string (str h.loc), .int .i64 h.q, .int .i64 h.st, .int .i64 h.due] 70))
  have hk1 : Kp [] w w1 := by rw [hw1]; exact kp_alloc
  have hb1 : w1.heap[w.heap.size]? = some (.cells #[.int .i64 h.id, .string (str h.sku), .string (str h.loc), .int .i64 h.q, .int .i64 h.st, .int .i64 h.due] 70) := by rw [hw1]; exact heap_new
  rw [← hw1]
  simp [-getElem?_pos, -Array.all_eq_true, -Array.getElem?_eq_getElem, -List.length_flatten, List.getElem?_cons_zero, List.getElem?_cons_succ, hb1]
  refine txt_state_spec _ ?_
  simp [-getElem?_pos, -Array.all_eq_true, -Array.getElem?_eq_getElem, -List.length_flatten, List.getElem?_cons_zero, List.getElem?_cons_succ, hb1, str_nil]
  refine ⟨fun h0 => ?_, fun h0 => ?_⟩
  · refine hK _ w1 hk1 ?_
    unfold rowH
    rw [if_pos h0]
    exact rd_nil
  have hrow : rowH stateT h = [numV h.id, textV h.sku, textV h.loc, numV h.q, textV (stateT h.st), someV h.due] := by unfold rowH; rw [if_neg h0]
  refine num_spec _ fun w3 hk3 => ?_
  have hb3 := hk3.get (show w1.drew.heap[w.heap.size]? = _ from hb1) (by simp)
  simp [-getElem?_pos, -Array.all_eq_true, -Array.getElem?_eq_getElem, -List.length_flatten, List.getElem?_cons_zero, List.getElem?_cons_succ, hb3]
  refine text_spec _ fun w4 hk4 => ?_
  have hb4 := hk4.get hb3 (by simp)
  simp [-getElem?_pos, -Array.all_eq_true, -Array.getElem?_eq_getElem, -List.length_flatten, List.getElem?_cons_zero, List.getElem?_cons_succ, hb4]
  refine text_spec _ fun w5 hk5 => ?_
  have hb5 := hk5.get hb4 (by simp)
  simp [-getElem?_pos, -Array.all_eq_true, -Array.getElem?_eq_getElem, -List.length_flatten, List.getElem?_cons_zero, List.getElem?_cons_succ, hb5]
  refine num_spec _ fun w6 hk6 => ?_
  have hb6 := hk6.get hb5 (by simp)
  simp [-getElem?_pos, -Array.all_eq_true, -Array.getElem?_eq_getElem, -List.length_flatten, List.getElem?_cons_zero, List.getElem?_cons_succ, hb6]
  refine txt_state_spec _ ?_
  simp [-getElem?_pos, -Array.all_eq_true, -Array.getElem?_eq_getElem, -List.length_flatten, List.getElem?_cons_zero, List.getElem?_cons_succ, hb6]
  refine text_spec _ fun w7 hk7 => ?_
  have hb7 := hk7.get hb6 (by simp)
  simp [-getElem?_pos, -Array.all_eq_true, -Array.getElem?_eq_getElem, -List.length_flatten, List.getElem?_cons_zero, List.getElem?_cons_succ, hb7]
  refine some_spec _ fun w8 hk8 => ?_
  have hk08 := ((((((hk1.trans' kp_drew).trans' hk3).trans' hk4).trans' hk5).trans' hk6).trans' hk7).trans' hk8
  refine bsl_rows (n := 3) (len := 6) (xs := [valA (numV h.id), valA (textV h.sku), valA (textV h.loc), valA (numV h.q), valA (textV (stateT h.st)), valA (someV h.due)]) (rows := (rowH stateT h).map valV) (by omega) rfl (by rw [hrow]; rfl) (by rw [hrow]; simp [valV]) (by omega) fun v wa ha => ?_
  refine row_spec ?_
  exact hK v wa (hk08.trans' ha.kp) ha.rd
theorem MoveRow_spec {w : World} (h : HV) {K : Value → World → Prop} (hK : ∀ v w', Kp [] w w' → Rd w' v 3 ((rowH kindT h).map valV) → K v w') : callG Tryz.prog 27 #[hA h] w K := by
  refine entry_MoveRow_call ?_
  unfold hA
  simp only [entry_MoveRow, entry_MoveRow_s0, newG_k, cells_agg]
  obtain ⟨w1, hw1⟩ := ex_w (w' := w.alloc (.cells #[.int .i64 h.id, .string (str h.sku), .string (str h.loc), .int .i64 h.q, .int .i64 h.st, .int .i64 h.due] 73))
  have hk1 : Kp [] w w1 := by rw [hw1]; exact kp_alloc
  have hb1 : w1.heap[w.heap.size]? = some (.cells #[.int .i64 h.id, .string (str h.sku), .string (str h.loc), .int .i64 h.q, .int .i64 h.st, .int .i64 h.due] 73) := by rw [hw1]; exact heap_new
  rw [← hw1]
  simp [-getElem?_pos, -Array.all_eq_true, -Array.getElem?_eq_getElem, -List.length_flatten, List.getElem?_cons_zero, List.getElem?_cons_succ, hb1]
  refine txt_kind_spec _ ?_
  simp [-getElem?_pos, -Array.all_eq_true, -Array.getElem?_eq_getElem, -List.length_flatten, List.getElem?_cons_zero, List.getElem?_cons_succ, hb1, str_nil]
  refine ⟨fun h0 => ?_, fun h0 => ?_⟩
  · refine hK _ w1 hk1 ?_
    unfold rowH
    rw [if_pos h0]
    exact rd_nil
  have hrow : rowH kindT h = [numV h.id, textV h.sku, textV h.loc, numV h.q, textV (kindT h.st), someV h.due] := by unfold rowH; rw [if_neg h0]
  refine num_spec _ fun w3 hk3 => ?_
  have hb3 := hk3.get (show w1.drew.heap[w.heap.size]? = _ from hb1) (by simp)
  simp [-getElem?_pos, -Array.all_eq_true, -Array.getElem?_eq_getElem, -List.length_flatten, List.getElem?_cons_zero, List.getElem?_cons_succ, hb3]
  refine text_spec _ fun w4 hk4 => ?_
  have hb4 := hk4.get hb3 (by simp)
  simp [-getElem?_pos, -Array.all_eq_true, -Array.getElem?_eq_getElem, -List.length_flatten, List.getElem?_cons_zero, List.getElem?_cons_succ, hb4]
  refine text_spec _ fun w5 hk5 => ?_
  have hb5 := hk5.get hb4 (by simp)
  simp [-getElem?_pos, -Array.all_eq_true, -Array.getElem?_eq_getElem, -List.length_flatten, List.getElem?_cons_zero, List.getElem?_cons_succ, hb5]
  refine num_spec _ fun w6 hk6 => ?_
  have hb6 := hk6.get hb5 (by simp)
  simp [-getElem?_pos, -Array.all_eq_true, -Array.getElem?_eq_getElem, -List.length_flatten, List.getElem?_cons_zero, List.getElem?_cons_succ, hb6]
  refine txt_kind_spec _ ?_
  simp [-getElem?_pos, -Array.all_eq_true, -Array.getElem?_eq_getElem, -List.length_flatten, List.getElem?_cons_zero, List.getElem?_cons_succ, hb6]
  refine text_spec _ fun w7 hk7 => ?_
  have hb7 := hk7.get hb6 (by simp)
  simp [-getElem?_pos, -Array.all_eq_true, -Array.getElem?_eq_getElem, -List.length_flatten, List.getElem?_cons_zero, List.getElem?_cons_succ, hb7]
  refine some_spec _ fun w8 hk8 => ?_
  have hk08 := ((((((hk1.trans' kp_drew).trans' hk3).trans' hk4).trans' hk5).trans' hk6).trans' hk7).trans' hk8
  refine bsl_rows (n := 3) (len := 6) (xs := [valA (numV h.id), valA (textV h.sku), valA (textV h.loc), valA (numV h.q), valA (textV (kindT h.st)), valA (someV h.due)]) (rows := (rowH kindT h).map valV) (by omega) rfl (by rw [hrow]; rfl) (by rw [hrow]; simp [valV]) (by omega) fun v wa ha => ?_
  refine row_spec ?_
  exact hK v wa (hk08.trans' ha.kp) ha.rd
theorem StockRow_spec {w : World} (s : SV) {K : Value → World → Prop} (hK : ∀ v w', Kp [] w w' → Rd w' v 3 ((rowS s).map valV) → K v w') : callG Tryz.prog 25 #[sA s] w K := by
  refine entry_StockRow_call ?_
  unfold sA
  simp only [entry_StockRow, entry_StockRow_s0, newG_k, cells_agg]
  obtain ⟨w1, hw1⟩ := ex_w (w' := w.alloc (.cells #[.string (str s.sku), .string (str s.loc), .int .i64 s.hand, .int .i64 s.held] 48))
  have hk1 : Kp [] w w1 := by rw [hw1]; exact kp_alloc
  have hb1 : w1.heap[w.heap.size]? = some (.cells #[.string (str s.sku), .string (str s.loc), .int .i64 s.hand, .int .i64 s.held] 48) := by rw [hw1]; exact heap_new
  rw [← hw1]
  simp [-getElem?_pos, -Array.all_eq_true, -Array.getElem?_eq_getElem, -List.length_flatten, List.getElem?_cons_zero, List.getElem?_cons_succ, hb1]
  refine text_spec _ fun w4 hk4 => ?_
  have hb4 := hk4.get (show w1.drew.heap[w.heap.size]? = _ from hb1) (by simp)
  simp [-getElem?_pos, -Array.all_eq_true, -Array.getElem?_eq_getElem, -List.length_flatten, List.getElem?_cons_zero, List.getElem?_cons_succ, hb4]
  refine text_spec _ fun w5 hk5 => ?_
  have hb5 := hk5.get hb4 (by simp)
  simp [-getElem?_pos, -Array.all_eq_true, -Array.getElem?_eq_getElem, -List.length_flatten, List.getElem?_cons_zero, List.getElem?_cons_succ, hb5]
  refine num_spec _ fun w6 hk6 => ?_
  have hb6 := hk6.get hb5 (by simp)
  simp [-getElem?_pos, -Array.all_eq_true, -Array.getElem?_eq_getElem, -List.length_flatten, List.getElem?_cons_zero, List.getElem?_cons_succ, hb6]
  refine num_spec _ fun w7 hk7 => ?_
  have hk07 := ((((hk1.trans' kp_drew).trans' hk4).trans' hk5).trans' hk6).trans' hk7
  refine bsl_rows (n := 3) (len := 4) (xs := [valA (textV s.sku), valA (textV s.loc), valA (numV s.hand), valA (numV s.held)]) (rows := (rowS s).map valV) (by omega) rfl rfl (by simp [rowS, valV]) (by omega) fun v wa ha => ?_
  refine row_spec ?_
  exact hK v wa (hk07.trans' ha.kp) ha.rd
end Go.Proofs

set_option linter.unusedVariables false
set_option linter.unusedSimpArgs false
namespace Go.Proofs
open Go Go.Q
section
variable {w0 : World} {a : Nat} {K : Value → World → Prop}
end
section
variable {w0 : World} {a : Nat} {K : Value → World → Prop}
end
end Go.Proofs

set_option linter.unusedVariables false
set_option linter.unusedSimpArgs false
namespace Go.Proofs
open Go Go.Q
set_option maxRecDepth 100000
def ref06_Light_s0 (R : Value → World → Prop) (x0 : Value) (w : World) : Prop :=
  newG (Value.cells x0) 42 w fun t1 w =>
  fa 1 t1 fun t3 =>
  ld1 t3 w fun t4 =>
  lenS t4 fun t5 =>
  qG Tryz.prog (bq .leq 3 (.tmp 5) (.const (.int .i64 200)) t5 (.int .i64 200)) w fun t6 =>
  bV t6
  (fa 2 t1 fun t8 =>
  ld1 t8 w fun t9 =>
  lenS t9 fun t10 =>
  qG Tryz.prog (bq .leq 3 (.tmp 10) (.const (.int .i64 200)) t10 (.int .i64 200)) w fun t11 =>
  bV t11
  (fa 3 t1 fun t14 =>
  ld1 t14 w fun t15 =>
  lenS t15 fun t16 =>
  qG Tryz.prog (bq .leq 3 (.tmp 16) (.const (.int .i64 200)) t16 (.int .i64 200)) w fun t17 =>
  R t17 w)
  (R (.bool false) w))
  (R (.bool false) w)
theorem ref06_Light_s0_eq (R : Value → World → Prop) : ∀ e w, lift Tryz.prog 19 (bodyOf Tryz.f18) (finK Tryz.prog Tryz.f18.results.toList R) e w = ref06_Light_s0 R (e 0) w := fun e w => by kernel_rfl
def ref06_Light (R : Value → World → Prop) (x0 : Value) (w : World) : Prop := ref06_Light_s0 R x0 w
theorem ref06_Light_call {R : Value → World → Prop} {x0 : Value} {w : World} (h : ref06_Light R x0 w) : callG Tryz.prog 18 #[x0] w R :=
  calls_lift_eq Tryz.mixed Tryz.func18 (args := [x0]) rfl rfl rfl rfl ((ref06_Light_s0_eq R) (envOf [x0]) w) (by kernel_rfl) h
end Go.Proofs

set_option linter.unusedVariables false
set_option linter.unusedSimpArgs false
namespace Go.Proofs
open Go Go.Q
theorem boxG {z c : Array Value} {T : TypeId} {k : Nat} {w : World} {K : Value → World → Prop} (hz : z.size = k) (hc : c.size = k) (ho : c.all (fun a => one a) 0 k = true)
    (h : ∀ b w1, w.heap.size ≤ b → w1.heap[b]? = some (.cells c T) → Kp [] w w1 → K (.pointer (some ⟨b, 0, none⟩)) w1) : newG z T w fun p w => stn k p (.agg c) w fun w => K p w := by
  simp [-getElem?_pos, -Array.all_eq_true, -Array.getElem?_eq_getElem, -List.length_flatten, List.getElem?_cons_zero, List.getElem?_cons_succ, heap_new, hz, hc]
  refine ⟨ho, ?_⟩
  rw [splice_all (by omega)]
  exact h _ _ (Nat.le_refl _) heap_new kp_alloc
theorem ldAll {b k : Nat} {c : Array Value} {T : TypeId} {w : World} (h : w.heap[b]? = some (.cells c T)) (hc : c.size = k) {K : Value → Prop} : ldn k (.pointer (some ⟨b, 0, none⟩)) w K = K (.agg c) := by
  simp [-getElem?_pos, -Array.all_eq_true, -Array.getElem?_eq_getElem, -List.length_flatten, List.getElem?_cons_zero, List.getElem?_cons_succ, h, hc]
  subst hc
  rw [Array.extract_size]
def hC (h : HV) : List Value := [.int .i64 h.id, .string (str h.sku), .string (str h.loc), .int .i64 h.q, .int .i64 h.st, .int .i64 h.due]
def sC (s : SV) : List Value := [.string (str s.sku), .string (str s.loc), .int .i64 s.hand, .int .i64 s.held]
section
variable {w : World} {xo yo : Operand} {K : Value → Prop}
end
theorem boxOp {z : Array Value} {o : OpV} {w : World} {K : Value → World → Prop} (hz : z.size = 7)
    (h : ∀ b w1, w.heap.size ≤ b → w1.heap[b]? = some (.cells (opC o).toArray 42) → Kp [] w w1 → K (.pointer (some ⟨b, 0, none⟩)) w1) : newG z 42 w fun p w => stn 7 p (opA o) w fun w => K p w :=
  boxG hz rfl (by simp [one]) h
theorem ldOp {b : Nat} {o : OpV} {w : World} (h : w.heap[b]? = some (.cells (opC o).toArray 42)) {K : Value → Prop} : ldn 7 (.pointer (some ⟨b, 0, none⟩)) w K = K (opA o) := ldAll h rfl
theorem boxHold {z : Array Value} {o : HV} {w : World} {K : Value → World → Prop} (hz : z.size = 6)
    (h : ∀ b w1, w.heap.size ≤ b → w1.heap[b]? = some (.cells (hC o).toArray 70) → Kp [] w w1 → K (.pointer (some ⟨b, 0, none⟩)) w1) : newG z 70 w fun p w => stn 6 p (hA o) w fun w => K p w :=
  boxG hz rfl (by simp [one]) h
theorem ldHold {b : Nat} {o : HV} {w : World} {T : TypeId} (h : w.heap[b]? = some (.cells (hC o).toArray T)) {K : Value → Prop} : ldn 6 (.pointer (some ⟨b, 0, none⟩)) w K = K (hA o) := ldAll h rfl
theorem boxMove {z : Array Value} {o : HV} {w : World} {K : Value → World → Prop} (hz : z.size = 6)
    (h : ∀ b w1, w.heap.size ≤ b → w1.heap[b]? = some (.cells (hC o).toArray 73) → Kp [] w w1 → K (.pointer (some ⟨b, 0, none⟩)) w1) : newG z 73 w fun p w => stn 6 p (hA o) w fun w => K p w :=
  boxG hz rfl (by simp [one]) h
theorem boxStock {z : Array Value} {o : SV} {w : World} {K : Value → World → Prop} (hz : z.size = 4)
    (h : ∀ b w1, w.heap.size ≤ b → w1.heap[b]? = some (.cells (sC o).toArray 48) → Kp [] w w1 → K (.pointer (some ⟨b, 0, none⟩)) w1) : newG z 48 w fun p w => stn 4 p (sA o) w fun w => K p w :=
  boxG hz rfl (by simp [one]) h
theorem ldStock {b : Nat} {o : SV} {w : World} {T : TypeId} (h : w.heap[b]? = some (.cells (sC o).toArray T)) {K : Value → Prop} : ldn 4 (.pointer (some ⟨b, 0, none⟩)) w K = K (sA o) := ldAll h rfl
theorem argBox {cs : List Value} {T : TypeId} {w : World} {K : Value → World → Prop} (h : ∀ b w1, w.heap.size ≤ b → w1.heap[b]? = some (.cells cs.toArray T) → Kp [] w w1 → K (.pointer (some ⟨b, 0, none⟩)) w1) :
    newG (Value.cells (.agg cs.toArray)) T w K := h _ _ (Nat.le_refl _) heap_new kp_alloc
theorem lightOp_spec {w : World} (o : OpV) {K : Value → World → Prop} (hK : ∀ b w', Kp [] w w' → K (.bool b) w') : callG Tryz.prog 18 #[opA o] w K := by
  refine ref06_Light_call ?_
  unfold ref06_Light ref06_Light_s0
  refine argBox (cs := opC o) fun b w1 hb hh hk => ?_
  simp [-getElem?_pos, -Array.all_eq_true, -Array.getElem?_eq_getElem, -List.length_flatten, List.getElem?_cons_zero, List.getElem?_cons_succ, hh, opC]
  refine ⟨fun _ => ⟨fun _ => ?_, fun _ => hK _ _ hk⟩, fun _ => hK _ _ hk⟩
  exact hK _ _ hk
end Go.Proofs

set_option linter.unusedVariables false
set_option linter.unusedSimpArgs false
namespace Go.Proofs
open Go Go.Q
set_option maxRecDepth 100000
def num_Sum_s0 (R : Value → World → Prop) (x4 x5 : Value) (w : World) : Prop :=
  cvI .i64 x5 fun t32 =>
  qG Tryz.prog (bq .shr 3 (.tmp 34) (.const (.int .u64 63)) t32 (.int .u64 63)) w fun t35 =>
  cvI .u64 t35 fun t36 =>
  qG Tryz.prog (bq .eql 146 (.tmp 33) (.tmp 36) x4 t36) w fun t37 =>
  bV t37
  (R (.tuple #[t32, (.int .i64 0)]) w)
  (R (.tuple #[(.int .i64 0), (.int .i64 10)]) w)
theorem num_Sum_s0_eq (R : Value → World → Prop) : ∀ e w, lift Tryz.prog 39 (sub (bodyOf Tryz.f56) [1, 1, 1]) (finK Tryz.prog Tryz.f56.results.toList R) e w = num_Sum_s0 R (e 4) (e 5) w := fun e w => by kernel_rfl
def num_Sum_b1 (R : Value → World → Prop) (N1 : List Value → World → Prop) (x4 x5 x10 x11 x12 : Value) (w : World) : Prop :=
  qG Tryz.prog (bq .lss 3 (.tmp 12) (.tmp 11) x12 x11) w fun t13 =>
  bV t13
  (ia 1 x10 x12 fun t14 =>
  ld1 t14 w fun t15 =>
  cvI .u64 t15 fun t19 =>
  nG Tryz.prog (callFunc 100 #[x5, t19, (.int .u64 0)]) w fun t20 w =>
  qG Tryz.prog (Instr.extract t20 0) w fun t21 =>
  qG Tryz.prog (Instr.extract t20 1) w fun t22 =>
  qG Tryz.prog (bq .shr 3 (.tmp 24) (.const (.int .u64 63)) t15 (.int .u64 63)) w fun t25 =>
  cvI .u64 t25 fun t26 =>
  qG Tryz.prog (bq .add 146 (.tmp 26) (.tmp 27) t26 t22) w fun t28 =>
  qG Tryz.prog (bq .add 146 (.tmp 23) (.tmp 28) x4 t28) w fun t29 =>
  qG Tryz.prog (bq .add 3 (.tmp 12) (.const (.int .i64 1)) x12 (.int .i64 1)) w fun t30 =>
  N1 [t29, t21, x10, x11, t30] w)
  (num_Sum_s0 R x4 x5 w)
theorem num_Sum_b1_eq (R : Value → World → Prop) (N1 : List Value → World → Prop) : ∀ e w, lift Tryz.prog 39 (sub (bodyOf Tryz.f56) [1, 1, 0, 1, 0, 0]) (seqK (fun e w => N1 [e 4, e 5, e 10, e 11, e 12] w) (blockK 0 (seqK (fun e w => num_Sum_s0 R (e 4) (e 5) w) (finK Tryz.prog Tryz.f56.results.toList R)))) e w = num_Sum_b1 R N1 (e 4) (e 5) (e 10) (e 11) (e 12) w := fun e w => by kernel_rfl
def num_Sum_L2F (R : Value → World → Prop) (N1 : List Value → World → Prop) (xs : List Value) (w : World) : Prop :=
  match xs with
  | [x4, x5, x10, x11, x12] => num_Sum_b1 R N1 x4 x5 x10 x11 x12 w
  | _ => False
def num_Sum_L2 (R : Value → World → Prop) (x4 x5 x10 x11 x12 : Value) (w : World) : Prop :=
  ∃ m, loopV (num_Sum_L2F R) m [x4, x5, x10, x11, x12] w
theorem num_Sum_L2_eq (R : Value → World → Prop) : ∀ e w, lift Tryz.prog 39 (sub (bodyOf Tryz.f56) [1, 1, 0, 1, 0]) (blockK 0 (seqK (fun e w => num_Sum_s0 R (e 4) (e 5) w) (finK Tryz.prog Tryz.f56.results.toList R))) e w = num_Sum_L2 R (e 4) (e 5) (e 10) (e 11) (e 12) w := loop_seg (F := num_Sum_L2F R) (sel := fun e => [e 4, e 5, e 10, e 11, e 12]) fun N1 => (num_Sum_b1_eq R N1)
def num_Sum_s3 (R : Value → World → Prop) (x0 x4 x5 : Value) (w : World) : Prop :=
  lenL x0 fun t11 =>
  num_Sum_L2 R x4 x5 x0 t11 (.int .i64 0) w
theorem num_Sum_s3_eq (R : Value → World → Prop) : ∀ e w, lift Tryz.prog 39 (sub (bodyOf Tryz.f56) [1, 1, 0]) (seqK (fun e w => num_Sum_s0 R (e 4) (e 5) w) (finK Tryz.prog Tryz.f56.results.toList R)) e w = num_Sum_s3 R (e 0) (e 4) (e 5) w :=
  segs_eq (l := [(sub (bodyOf Tryz.f56) [1, 1, 0, 0])]) (y := (sub (bodyOf Tryz.f56) [1, 1, 0, 1])) (Y := (fun e w => num_Sum_L2 R (e 4) (e 5) (e 10) (e 11) (e 12) w)) (num_Sum_L2_eq R) (fun e w => by kernel_rfl)
def num_Sum_s4 (R : Value → World → Prop) (x0 : Value) (w : World) : Prop :=
  num_Sum_s3 R x0 (.int .u64 0) (.int .u64 0) w
theorem num_Sum_s4_eq (R : Value → World → Prop) : ∀ e w, lift Tryz.prog 39 (bodyOf Tryz.f56) (finK Tryz.prog Tryz.f56.results.toList R) e w = num_Sum_s4 R (e 0) w :=
  segs_eq (l := [(sub (bodyOf Tryz.f56) [0]), (sub (bodyOf Tryz.f56) [1, 0])]) (y := (sub (bodyOf Tryz.f56) [1, 1])) (Y := (fun e w => num_Sum_s3 R (e 0) (e 4) (e 5) w)) (seq_seg (x := (sub (bodyOf Tryz.f56) [1, 1, 0])) (y := (sub (bodyOf Tryz.f56) [1, 1, 1])) (num_Sum_s0_eq R) (num_Sum_s3_eq R)) (fun e w => by kernel_rfl)
def num_Sum (R : Value → World → Prop) (x0 : Value) (w : World) : Prop := num_Sum_s4 R x0 w
theorem num_Sum_call {R : Value → World → Prop} {x0 : Value} {w : World} (h : num_Sum R x0 w) : callG Tryz.prog 56 #[x0] w R :=
  calls_lift_eq Tryz.mixed Tryz.func56 (args := [x0]) rfl rfl rfl rfl ((num_Sum_s4_eq R) (envOf [x0]) w) (by kernel_rfl) h
def num_Sub_s0 (R : Value → World → Prop) (x0 x1 : Value) (w : World) : Prop :=
  qG Tryz.prog (bq .sub 3 (.tmp 7) (.tmp 8) x0 x1) w fun t9 =>
  qG Tryz.prog (bq .lss 3 (.tmp 10) (.const (.int .i64 0)) x0 (.int .i64 0)) w fun t11 =>
  qG Tryz.prog (bq .lss 3 (.tmp 12) (.const (.int .i64 0)) x1 (.int .i64 0)) w fun t13 =>
  qG Tryz.prog (bq .neq 4 (.tmp 11) (.tmp 13) t11 t13) w fun t14 =>
  bV t14
  (qG Tryz.prog (bq .lss 3 (.tmp 16) (.const (.int .i64 0)) t9 (.int .i64 0)) w fun t17 =>
  qG Tryz.prog (bq .lss 3 (.tmp 18) (.const (.int .i64 0)) x0 (.int .i64 0)) w fun t19 =>
  qG Tryz.prog (bq .neq 4 (.tmp 17) (.tmp 19) t17 t19) w fun t20 =>
  bV t20
  (R (.tuple #[(.int .i64 0), (.int .i64 10)]) w)
  (R (.tuple #[t9, (.int .i64 0)]) w))
  (R (.tuple #[t9, (.int .i64 0)]) w)
theorem num_Sub_s0_eq (R : Value → World → Prop) : ∀ e w, lift Tryz.prog 23 (bodyOf Tryz.f142) (finK Tryz.prog Tryz.f142.results.toList R) e w = num_Sub_s0 R (e 0) (e 1) w := fun e w => by kernel_rfl
def num_Sub (R : Value → World → Prop) (x0 x1 : Value) (w : World) : Prop := num_Sub_s0 R x0 x1 w
theorem num_Sub_call {R : Value → World → Prop} {x0 x1 : Value} {w : World} (h : num_Sub R x0 x1 w) : callG Tryz.prog 142 #[x0, x1] w R :=
  calls_lift_eq Tryz.mixed Tryz.func142 (args := [x0, x1]) rfl rfl rfl rfl ((num_Sub_s0_eq R) (envOf [x0, x1]) w) (by kernel_rfl) h
def num_Add_s0 (R : Value → World → Prop) (x0 x1 : Value) (w : World) : Prop :=
  qG Tryz.prog (bq .add 3 (.tmp 7) (.tmp 8) x0 x1) w fun t9 =>
  qG Tryz.prog (bq .lss 3 (.tmp 10) (.const (.int .i64 0)) x0 (.int .i64 0)) w fun t11 =>
  qG Tryz.prog (bq .lss 3 (.tmp 12) (.const (.int .i64 0)) x1 (.int .i64 0)) w fun t13 =>
  qG Tryz.prog (bq .eql 4 (.tmp 11) (.tmp 13) t11 t13) w fun t14 =>
  bV t14
  (qG Tryz.prog (bq .lss 3 (.tmp 16) (.const (.int .i64 0)) t9 (.int .i64 0)) w fun t17 =>
  qG Tryz.prog (bq .lss 3 (.tmp 18) (.const (.int .i64 0)) x0 (.int .i64 0)) w fun t19 =>
  qG Tryz.prog (bq .neq 4 (.tmp 17) (.tmp 19) t17 t19) w fun t20 =>
  bV t20
  (R (.tuple #[(.int .i64 0), (.int .i64 10)]) w)
  (R (.tuple #[t9, (.int .i64 0)]) w))
  (R (.tuple #[t9, (.int .i64 0)]) w)
theorem num_Add_s0_eq (R : Value → World → Prop) : ∀ e w, lift Tryz.prog 23 (bodyOf Tryz.f143) (finK Tryz.prog Tryz.f143.results.toList R) e w = num_Add_s0 R (e 0) (e 1) w := fun e w => by kernel_rfl
def num_Add (R : Value → World → Prop) (x0 x1 : Value) (w : World) : Prop := num_Add_s0 R x0 x1 w
theorem num_Add_call {R : Value → World → Prop} {x0 x1 : Value} {w : World} (h : num_Add R x0 x1 w) : callG Tryz.prog 143 #[x0, x1] w R :=
  calls_lift_eq Tryz.mixed Tryz.func143 (args := [x0, x1]) rfl rfl rfl rfl ((num_Add_s0_eq R) (envOf [x0, x1]) w) (by kernel_rfl) h
end Go.Proofs

set_option linter.unusedVariables false
set_option linter.unusedSimpArgs false
namespace Go.Q
def lexL (a b : List UInt8) : Bool := Op.bytesLess a b
theorem lexL_nil (a : List UInt8) : lexL a [] = false := by cases a <;> rfl
theorem lexL_cons (a b : UInt8) (x y : List UInt8) : lexL (a :: x) (b :: y) = (decide (a < b) || (a == b && lexL x y)) := rfl
theorem lexL_irrefl : ∀ a : List UInt8, lexL a a = false := by
  intro a
  induction a with
  | nil => rfl
  | cons a x ih => rw [lexL_cons, ih]; simp
theorem lexL_trans : ∀ {a b c : List UInt8}, lexL a b = true → lexL b c = true → lexL a c = true := by
  intro a
  induction a with
  | nil =>
    intro b c h1 h2
    cases c with
    | nil => rw [lexL_nil] at h2; cases h2
    | cons c z => rfl
  | cons a x ih =>
    intro b c h1 h2
    cases b with
    | nil => rw [lexL_nil] at h1; cases h1
    | cons b y =>
      cases c with
      | nil => rw [lexL_nil] at h2; cases h2
      | cons c z =>
        rw [lexL_cons] at h1 h2 ⊢
        simp only [Bool.or_eq_true, decide_eq_true_eq, Bool.and_eq_true, beq_iff_eq] at h1 h2 ⊢
        rcases h1 with h1 | ⟨rfl, h1⟩ <;> rcases h2 with h2 | ⟨rfl, h2⟩
        · exact .inl (UInt8.lt_trans h1 h2)
        · exact .inl h1
        · exact .inl h2
        · exact .inr ⟨rfl, ih h1 h2⟩
theorem lexL_tri : ∀ {a b : List UInt8}, lexL a b = false → lexL b a = false → a = b := by
  intro a
  induction a with
  | nil =>
    intro b h1 h2
    cases b with
    | nil => rfl
    | cons b y => cases h1
  | cons a x ih =>
    intro b h1 h2
    cases b with
    | nil => cases h2
    | cons b y =>
      rw [lexL_cons] at h1 h2
      simp only [Bool.or_eq_false_iff, decide_eq_false_iff_not, Bool.and_eq_false_iff, beq_eq_false_iff_ne] at h1 h2
      have hab : a = b := by
        have g1 := UInt8.not_lt.1 h1.1
        have g2 := UInt8.not_lt.1 h2.1
        exact UInt8.le_antisymm g2 g1
      subst hab
      have e1 : lexL x y = false := by
        rcases h1.2 with h | h
        · exact absurd rfl h
        · exact h
      have e2 : lexL y x = false := by
        rcases h2.2 with h | h
        · exact absurd rfl h
        · exact h
      rw [ih e1 e2]
def ahead (a b : SV) : Bool := lexL a.sku b.sku || (decide (a.sku = b.sku) && lexL a.loc b.loc)
def atP (s : SV) (sku loc : List UInt8) : Bool := decide (s.sku = sku ∧ s.loc = loc)
theorem ahead_irrefl (a : SV) : ahead a a = false := by simp [ahead, lexL_irrefl]
theorem ahead_trans {a b c : SV} (h1 : ahead a b = true) (h2 : ahead b c = true) : ahead a c = true := by
  simp only [ahead, Bool.or_eq_true, Bool.and_eq_true, decide_eq_true_eq] at h1 h2 ⊢
  rcases h1 with h1 | ⟨e1, h1⟩ <;> rcases h2 with h2 | ⟨e2, h2⟩
  · exact .inl (lexL_trans h1 h2)
  · exact .inl (e2 ▸ h1)
  · exact .inl (e1 ▸ h2)
  · exact .inr ⟨e1.trans e2, lexL_trans h1 h2⟩
theorem ahead_tri {a b : SV} (h1 : ahead a b = false) (h2 : ahead b a = false) : a.sku = b.sku ∧ a.loc = b.loc := by
  simp only [ahead, Bool.or_eq_false_iff, Bool.and_eq_false_iff, decide_eq_false_iff_not] at h1 h2
  have e := lexL_tri h1.1 h2.1
  refine ⟨e, ?_⟩
  have g1 : lexL a.loc b.loc = false := by
    rcases h1.2 with h | h
    · exact absurd e h
    · exact h
  have g2 : lexL b.loc a.loc = false := by
    rcases h2.2 with h | h
    · exact absurd e.symm h
    · exact h
  exact lexL_tri g1 g2
theorem ahead_key {a b a' b' : SV} (h1 : a.sku = a'.sku) (h2 : a.loc = a'.loc) (h3 : b.sku = b'.sku) (h4 : b.loc = b'.loc) : ahead a b = ahead a' b' := by simp only [ahead, h1, h2, h3, h4]
def Sorted (l : List SV) : Prop := l.Pairwise fun a b => ahead a b = true
structure LV where
  st : List SV
  ho : List HV
  mo : List HV
  ops : Int
  deriving DecidableEq
def lZ : LV := ⟨[], [], [], 0⟩
def fits (n : Int) : Bool := decide (-9223372036854775808 ≤ n ∧ n ≤ 9223372036854775807)
def numO (n : Int) : Int × Int := if fits n = true then (n, 0) else (0, 10)
def findS (l : List SV) (sku loc : List UInt8) : SV := (l.find? fun s => atP s sku loc).getD ⟨sku, loc, 0, 0⟩
def putS : List SV → SV → List SV
  | [], s => [s]
  | x :: r, s => if ahead x s = true then x :: putS r s else if x.sku = s.sku ∧ x.loc = s.loc then s :: r else s :: x :: r
def w64i (n : Int) : Int := IntKind.i64.wrap n
def movedL (l : LV) (sku loc : List UInt8) (n kind hold : Int) : LV :=
  { l with st := putS l.st { findS l.st sku loc with hand := w64i ((findS l.st sku loc).hand + n) }, mo := l.mo ++ [⟨(l.mo.length + 1 : Nat), sku, loc, n, kind, hold⟩] }
def heldL (l : LV) (sku loc : List UInt8) (n : Int) : LV := { l with st := putS l.st { findS l.st sku loc with held := w64i ((findS l.st sku loc).held + n) } }
def stateL (l : LV) (k : Nat) (n : Int) : LV := { l with ho := l.ho.set k { l.ho.getD k hZ with st := n } }
def freeL (l : LV) (sku loc : List UInt8) : Int := (numO ((findS l.st sku loc).hand - (findS l.st sku loc).held)).1
def moreL (l : LV) (sku loc : List UInt8) (n : Int) : Int × Int := numO ((findS l.st sku loc).hand + n)
def holdAt (l : LV) (id : Int) : HV := l.ho.getD (id - 1).toNat hZ
def overL (l : LV) (o : OpV) : LV × Int :=
  if o.id > l.ho.length ∨ (holdAt l o.id).st ≠ 0 then (l, 71)
  else
    let h := holdAt l o.id
    let l1 := heldL l h.sku h.loc (w64i (-h.q))
    if o.k = 4 then (stateL l1 (o.id - 1).toNat 2, 0) else (movedL (stateL l1 (o.id - 1).toNat 1) h.sku h.loc (w64i (-h.q)) o.k h.id, 0)
def dueL (h : HV) (due : Int) : Bool := decide (h.st = 0 ∧ 0 < h.due ∧ h.due ≤ due)
def expireL (l : LV) (due : Int) (i : Nat) : Nat → LV
  | 0 => l
  | m + 1 =>
    let h := l.ho.getD i hZ
    expireL (if dueL h due = true then stateL (heldL l h.sku h.loc (w64i (-h.q))) i 2 else l) due (i + 1) m
def doesL (l : LV) (o : OpV) : LV × Int :=
  if o.k = 1 ∨ o.k = 7 then
    (if (moreL l o.sku o.loc o.q).2 ≠ 0 then (l, (moreL l o.sku o.loc o.q).2)
     else if (moreL l o.sku o.loc o.q).1 < (findS l.st o.sku o.loc).held then (l, 70) else (movedL l o.sku o.loc o.q o.k 0, 0))
  else if o.k = 2 then
    (if freeL l o.sku o.loc < o.q then (l, 70)
     else
      let l1 := heldL l o.sku o.loc o.q
      ({ l1 with ho := l1.ho ++ [⟨(l1.ho.length + 1 : Nat), o.sku, o.loc, o.q, 0, o.due⟩] }, 0))
  else if o.k = 5 then (expireL l o.due 0 l.ho.length, 0)
  else if o.k = 6 then
    (if freeL l o.sku o.loc < o.q then (l, 70)
     else if (moreL l o.sku o.to o.q).2 ≠ 0 then (l, (moreL l o.sku o.to o.q).2)
     else (movedL (movedL l o.sku o.loc (w64i (-o.q)) o.k 0) o.sku o.to o.q o.k 0, 0))
  else overL l o
def fullL (l : LV) : Bool := decide (4096 < l.st.length ∨ 4096 < l.ho.length ∨ 4096 < l.mo.length)
def stepL (l : LV) (o : OpV) : LV × Int :=
  if o.ok = false then (l, 1)
  else if (doesL l o).2 ≠ 0 then (l, (doesL l o).2)
  else if fullL (doesL l o).1 = true ∨ 4611686018427387904 ≤ l.ops then (l, 2)
  else ({ (doesL l o).1 with ops := l.ops + 1 }, 0)
def activeQ (ho : List HV) (sku loc : List UInt8) : Int := (ho.map fun h => if h.sku = sku ∧ h.loc = loc ∧ h.st = 0 then h.q else 0).sum
def movedQ (mo : List HV) (sku loc : List UInt8) : Int := (mo.map fun m => if m.sku = sku ∧ m.loc = loc then m.q else 0).sum
def stockOk (l : LV) (s : SV) : Bool := nameOk s.sku && nameOk s.loc && decide (0 ≤ s.held ∧ s.held ≤ s.hand) && fits s.hand && decide (s.held = activeQ l.ho s.sku s.loc ∧ s.hand = movedQ l.mo s.sku s.loc)
def knownL (l : LV) (sku loc : List UInt8) : Bool := l.st.any fun s => atP s sku loc
def holdOk (l : LV) (k : Nat) (h : HV) : Bool :=
  decide (h.id = (k + 1 : Nat)) && nameOk h.sku && nameOk h.loc && decide (1 ≤ h.q ∧ 0 ≤ h.st ∧ h.st ≤ 2 ∧ 0 ≤ h.due) && (decide (h.st ≠ 0) || knownL l h.sku h.loc)
def moveOk (l : LV) (k : Nat) (m : HV) : Bool :=
  decide (m.id = (k + 1 : Nat)) && nameOk m.sku && nameOk m.loc && fits m.q && decide (m.q ≠ 0) && decide (m.st = 1 ∨ m.st = 3 ∨ m.st = 6 ∨ m.st = 7) && decide (0 ≤ m.due) && (decide (m.due ≠ 0) == decide (m.st = 3)) && knownL l m.sku m.loc
structure May (l : LV) : Prop where
  ops : 0 ≤ l.ops
  few : fullL l = false
  sorted : Sorted l.st
  stocks : ∀ s ∈ l.st, stockOk l s = true
  holds : ∀ k (h : k < l.ho.length), holdOk l k l.ho[k] = true
  moves : ∀ k (h : k < l.mo.length), moveOk l k l.mo[k] = true
theorem may_z : May lZ := ⟨by decide, by decide, List.Pairwise.nil, by simp [lZ], by simp [lZ], by simp [lZ]⟩
theorem findS_key (l : List SV) (sku loc : List UInt8) : (findS l sku loc).sku = sku ∧ (findS l sku loc).loc = loc := by
  unfold findS
  cases h : l.find? fun s => atP s sku loc with
  | none => exact ⟨rfl, rfl⟩
  | some s =>
    have := List.find?_some h
    simpa [atP] using this
theorem putS_mem {l : List SV} {s x : SV} (h : x ∈ putS l s) : x = s ∨ (x ∈ l) := by
  induction l with
  | nil => simp [putS] at h; exact .inl h
  | cons y r ih =>
    unfold putS at h
    split at h
    · rcases List.mem_cons.1 h with rfl | h
      · exact .inr (by simp)
      · rcases ih h with h | h
        · exact .inl h
        · exact .inr (by simp [h])
    · split at h
      · rcases List.mem_cons.1 h with rfl | h
        · exact .inl rfl
        · exact .inr (by simp [h])
      · rcases List.mem_cons.1 h with rfl | h
        · exact .inl rfl
        · exact .inr h
theorem putS_self (l : List SV) (s : SV) : s ∈ putS l s := by
  induction l with
  | nil => simp [putS]
  | cons y r ih =>
    unfold putS
    split
    · simp [ih]
    · split <;> simp
theorem putS_keep {l : List SV} {s x : SV} (h : x ∈ l) (hk : ¬(x.sku = s.sku ∧ x.loc = s.loc)) : x ∈ putS l s := by
  induction l with
  | nil => cases h
  | cons y r ih =>
    unfold putS
    rcases List.mem_cons.1 h with rfl | h
    · split
      · simp
      · first | (rw [if_neg hk]; simp) | simp
    · split
      · simp [ih h]
      · split
        · simp [h]
        · simp [h]
theorem putS_sorted {l : List SV} {s : SV} (h : Sorted l) : Sorted (putS l s) := by
  induction l with
  | nil => simp [putS, Sorted]
  | cons y r ih =>
    have hr := List.pairwise_cons.1 h
    unfold putS
    split
    · rename_i hy
      refine List.pairwise_cons.2 ⟨fun x hx => ?_, ih hr.2⟩
      rcases putS_mem hx with rfl | hx
      · exact hy
      · exact hr.1 x hx
    · rename_i hy
      have hy : ahead y s = false := by simpa using hy
      split
      · rename_i hk
        refine List.pairwise_cons.2 ⟨fun x hx => ?_, hr.2⟩
        have := hr.1 x hx
        rwa [ahead_key (b' := x) hk.1 hk.2 rfl rfl] at this
      · rename_i hk
        have hsy : ahead s y = true := by
          cases hc : ahead s y with
          | true => rfl
          | false => exact absurd (ahead_tri hy hc) hk
        refine List.pairwise_cons.2 ⟨fun x hx => ?_, h⟩
        rcases List.mem_cons.1 hx with rfl | hx
        · exact hsy
        · exact ahead_trans hsy (hr.1 x hx)
theorem sorted_uniq {l : List SV} (h : Sorted l) {a b : SV} (ha : a ∈ l) (hb : b ∈ l) (hk : a.sku = b.sku ∧ a.loc = b.loc) : a = b := by
  induction l with
  | nil => cases ha
  | cons y r ih =>
    have hr := List.pairwise_cons.1 h
    have ne : ∀ x ∈ r, ¬(y.sku = x.sku ∧ y.loc = x.loc) := fun x hx hk => by
      have := hr.1 x hx
      rw [ahead_key (a' := x) (b' := x) hk.1 hk.2 rfl rfl, ahead_irrefl] at this
      cases this
    rcases List.mem_cons.1 ha with rfl | ha <;> rcases List.mem_cons.1 hb with rfl | hb
    · rfl
    · exact absurd hk (ne b hb)
    · exact absurd ⟨hk.1.symm, hk.2.symm⟩ (ne a (by assumption))
    · exact ih hr.2 ha hb
theorem findS_of_mem {l : List SV} (h : Sorted l) {s : SV} (hs : s ∈ l) : findS l s.sku s.loc = s := by
  unfold findS
  cases hf : l.find? fun x => atP x s.sku s.loc with
  | none =>
    have := List.find?_eq_none.1 hf s hs
    simp [atP] at this
  | some x =>
    have h1 := List.mem_of_find?_eq_some hf
    have h2 := List.find?_some hf
    simp only [atP, decide_eq_true_eq] at h2
    exact sorted_uniq h h1 hs h2
theorem findS_none {l : List SV} {sku loc : List UInt8} (h : ∀ s ∈ l, ¬(s.sku = sku ∧ s.loc = loc)) : findS l sku loc = ⟨sku, loc, 0, 0⟩ := by
  unfold findS
  rw [List.find?_eq_none.2 (fun x hx => by simpa [atP] using h x hx)]
  rfl
theorem findS_put {l : List SV} (h : Sorted l) (s : SV) (sku loc : List UInt8) : findS (putS l s) sku loc = if s.sku = sku ∧ s.loc = loc then s else findS l sku loc := by
  by_cases hk : s.sku = sku ∧ s.loc = loc
  · rw [if_pos hk, ← hk.1, ← hk.2]
    exact findS_of_mem (putS_sorted h) (putS_self l s)
  · rw [if_neg hk]
    by_cases hx : ∃ x ∈ l, x.sku = sku ∧ x.loc = loc
    · obtain ⟨x, hx, h1, h2⟩ := hx
      have h3 : x ∈ putS l s := putS_keep hx (fun hh => hk ⟨hh.1.symm.trans h1, hh.2.symm.trans h2⟩)
      rw [← h1, ← h2, findS_of_mem h hx, findS_of_mem (putS_sorted h) h3]
    · rw [findS_none fun x hm hh => hx ⟨x, hm, hh⟩, findS_none]
      intro x hm hh
      rcases putS_mem hm with rfl | hm
      · exact hk hh
      · exact hx ⟨x, hm, hh⟩
theorem putS_put {l : List SV} {s t : SV} (hk : s.sku = t.sku ∧ s.loc = t.loc) : putS (putS l s) t = putS l t := by
  induction l with
  | nil => simp [putS, ahead_key hk.1 hk.2 rfl rfl, ahead_irrefl, hk]
  | cons y r ih =>
    have e : ahead y s = ahead y t := ahead_key rfl rfl hk.1 hk.2
    have e2 : ahead s t = false := by rw [ahead_key (a' := t) (b' := t) hk.1 hk.2 rfl rfl, ahead_irrefl]
    cases hc : ahead y t with
    | true => simp [putS, e, hc, ih]
    | false =>
      by_cases hy : y.sku = s.sku ∧ y.loc = s.loc
      · have hy' : y.sku = t.sku ∧ y.loc = t.loc := ⟨hy.1.trans hk.1, hy.2.trans hk.2⟩
        simp [putS, e, hc, hy, hy', e2, hk]
      · have hy' : ¬(y.sku = t.sku ∧ y.loc = t.loc) := fun h => hy ⟨h.1.trans hk.1.symm, h.2.trans hk.2.symm⟩
        simp [putS, e, hc, hy, hy', e2, hk]
theorem known_find {l : LV} {sku loc : List UInt8} : knownL l sku loc = true ↔ ∃ s ∈ l.st, s.sku = sku ∧ s.loc = loc := by simp [knownL, atP]
end Go.Q

set_option linter.unusedVariables false
set_option linter.unusedSimpArgs false
namespace Go.Q
abbrev Pl := List UInt8 → List UInt8 → Int
structure MayF (st : List SV) (H M : Pl) : Prop where
  sorted : Sorted st
  ok : ∀ s ∈ st, nameOk s.sku = true ∧ nameOk s.loc = true ∧ fits s.hand = true ∧ 0 ≤ s.held ∧ s.held ≤ s.hand ∧ s.held = H s.sku s.loc ∧ s.hand = M s.sku s.loc
  none : ∀ sku loc, (∀ s ∈ st, ¬(s.sku = sku ∧ s.loc = loc)) → H sku loc = 0 ∧ M sku loc = 0
theorem MayF.find {st : List SV} {H M : Pl} (h : MayF st H M) (sku loc : List UInt8) :
    (findS st sku loc).held = H sku loc ∧ (findS st sku loc).hand = M sku loc ∧ 0 ≤ (findS st sku loc).held ∧ (findS st sku loc).held ≤ (findS st sku loc).hand ∧ fits (findS st sku loc).hand = true := by
  by_cases hx : ∃ s ∈ st, s.sku = sku ∧ s.loc = loc
  · obtain ⟨s, hs, rfl, rfl⟩ := hx
    rw [findS_of_mem h.sorted hs]
    obtain ⟨_, _, h1, h2, h3, h4, h5⟩ := h.ok s hs
    exact ⟨h4, h5, h2, h3, h1⟩
  · have hx' : ∀ s ∈ st, ¬(s.sku = sku ∧ s.loc = loc) := fun s hs hk => hx ⟨s, hs, hk⟩
    rw [findS_none hx']
    have := h.none sku loc hx'
    exact ⟨this.1.symm, this.2.symm, Int.le_refl _, Int.le_refl _, rfl⟩
def updP (H : Pl) (sku loc : List UInt8) (n : Int) : Pl := fun a b => if sku = a ∧ loc = b then n else H a b
theorem MayF.put {st : List SV} {H M : Pl} (h : MayF st H M) (s : SV) (h1 : nameOk s.sku = true) (h2 : nameOk s.loc = true) (h3 : fits s.hand = true) (h4 : 0 ≤ s.held) (h5 : s.held ≤ s.hand) :
    MayF (putS st s) (updP H s.sku s.loc s.held) (updP M s.sku s.loc s.hand) := by
  refine ⟨putS_sorted h.sorted, fun x hx => ?_, fun sku loc hn => ?_⟩
  · by_cases hk : s.sku = x.sku ∧ s.loc = x.loc
    · have : x = s := sorted_uniq (putS_sorted h.sorted) hx (putS_self st s) ⟨hk.1.symm, hk.2.symm⟩
      subst this
      exact ⟨h1, h2, h3, h4, h5, by simp [updP], by simp [updP]⟩
    · rcases putS_mem hx with rfl | hx
      · exact absurd ⟨rfl, rfl⟩ hk
      · obtain ⟨g1, g2, g3, g4, g5, g6, g7⟩ := h.ok x hx
        exact ⟨g1, g2, g3, g4, g5, by rw [updP, if_neg hk]; exact g6, by rw [updP, if_neg hk]; exact g7⟩
  · have hk : ¬(s.sku = sku ∧ s.loc = loc) := hn s (putS_self st s)
    have := h.none sku loc fun x hx hxk => hn x (putS_keep hx fun hh => hk ⟨hh.1.symm.trans hxk.1, hh.2.symm.trans hxk.2⟩) hxk
    exact ⟨by rw [updP, if_neg hk]; exact this.1, by rw [updP, if_neg hk]; exact this.2⟩
theorem MayF.congr {st : List SV} {H M H' M' : Pl} (h : MayF st H M) (hH : ∀ a b, H a b = H' a b) (hM : ∀ a b, M a b = M' a b) : MayF st H' M' := by
  have e1 : H = H' := funext fun a => funext fun b => hH a b
  have e2 : M = M' := funext fun a => funext fun b => hM a b
  exact e1 ▸ e2 ▸ h
theorem fits_iff {n : Int} : fits n = true ↔ -9223372036854775808 ≤ n ∧ n ≤ 9223372036854775807 := by simp [fits]
theorem w64i_eq {n : Int} (h : fits n = true) : w64i n = n := by
  have := fits_iff.1 h
  exact wrap64 _ (by omega) (by omega)
theorem activeQ_app (ho : List HV) (h : HV) (a b : List UInt8) : activeQ (ho ++ [h]) a b = activeQ ho a b + (if h.sku = a ∧ h.loc = b ∧ h.st = 0 then h.q else 0) := by simp [activeQ]
theorem movedQ_app (mo : List HV) (m : HV) (a b : List UInt8) : movedQ (mo ++ [m]) a b = movedQ mo a b + (if m.sku = a ∧ m.loc = b then m.q else 0) := by simp [movedQ]
theorem sum_set {f : HV → Int} : ∀ {l : List HV} {k : Nat} {x : HV} (h : k < l.length), ((l.set k x).map f).sum = (l.map f).sum - f l[k] + f x := by
  intro l
  induction l with
  | nil => intro k x h; simp at h
  | cons y r ih =>
    intro k x h
    cases k with
    | zero => simp; omega
    | succ k =>
      have := ih (k := k) (x := x) (by simpa using h)
      simp only [List.set_cons_succ, List.map_cons, List.sum_cons, this, List.getElem_cons_succ]
      omega
theorem activeQ_set {ho : List HV} {k : Nat} (hk : k < ho.length) (h0 : ho[k].st = 0) {n : Int} (hn : n ≠ 0) (a b : List UInt8) :
    activeQ (ho.set k { ho[k] with st := n }) a b = activeQ ho a b - (if ho[k].sku = a ∧ ho[k].loc = b then ho[k].q else 0) := by
  unfold activeQ
  rw [sum_set hk]
  simp [h0, hn]
theorem sum_nonneg {f : HV → Int} : ∀ {l : List HV}, (∀ x ∈ l, 0 ≤ f x) → 0 ≤ (l.map f).sum := by
  intro l
  induction l with
  | nil => intro _; simp
  | cons y r ih =>
    intro h
    have h1 := h y (by simp)
    have h2 := ih fun x hx => h x (by simp [hx])
    simp only [List.map_cons, List.sum_cons]
    omega
theorem sum_ge {f : HV → Int} : ∀ {l : List HV}, (∀ x ∈ l, 0 ≤ f x) → ∀ x ∈ l, f x ≤ (l.map f).sum := by
  intro l
  induction l with
  | nil => intro _ x hx; cases hx
  | cons y r ih =>
    intro h x hx
    have h1 := h y (by simp)
    have h2 := sum_nonneg (f := f) fun x (hx : x ∈ r) => h x (by simp [hx])
    simp only [List.map_cons, List.sum_cons]
    rcases List.mem_cons.1 hx with rfl | hx
    · omega
    · have := ih (fun x hx => h x (by simp [hx])) x hx
      omega
theorem May.f {l : LV} (h : May l) : MayF l.st (activeQ l.ho) (movedQ l.mo) := by
  refine ⟨h.sorted, fun s hs => ?_, fun sku loc hn => ⟨?_, ?_⟩⟩
  · have := h.stocks s hs
    simp only [stockOk, Bool.and_eq_true, decide_eq_true_eq] at this
    obtain ⟨⟨⟨⟨h1, h2⟩, h3, h4⟩, h5⟩, h6, h7⟩ := this
    exact ⟨h1, h2, h5, h3, h4, h6, h7⟩
  · have : ∀ x ∈ l.ho, (if x.sku = sku ∧ x.loc = loc ∧ x.st = 0 then x.q else 0) = 0 := by
      intro x hx
      obtain ⟨k, hk, rfl⟩ := List.getElem_of_mem hx
      rw [if_neg]
      rintro ⟨h1, h2, h3⟩
      have := h.holds k hk
      simp only [holdOk, Bool.and_eq_true, Bool.or_eq_true, decide_eq_true_eq] at this
      rcases this.2 with h4 | h4
      · exact h4 h3
      · obtain ⟨s, hs, h5, h6⟩ := known_find.1 h4
        exact hn s hs ⟨h5.trans h1, h6.trans h2⟩
    unfold activeQ
    rw [List.map_congr_left this]
    generalize l.ho = z
    induction z with
    | nil => rfl
    | cons y r ih => simp at ih ⊢; exact ih
  · have : ∀ x ∈ l.mo, (if x.sku = sku ∧ x.loc = loc then x.q else 0) = 0 := by
      intro x hx
      obtain ⟨k, hk, rfl⟩ := List.getElem_of_mem hx
      rw [if_neg]
      rintro ⟨h1, h2⟩
      have := h.moves k hk
      simp only [moveOk, Bool.and_eq_true, decide_eq_true_eq] at this
      obtain ⟨s, hs, h5, h6⟩ := known_find.1 this.2
      exact hn s hs ⟨h5.trans h1, h6.trans h2⟩
    unfold movedQ
    rw [List.map_congr_left this]
    generalize l.mo = z
    induction z with
    | nil => rfl
    | cons y r ih => simp at ih ⊢; exact ih
structure Mst (l : LV) (H M : Pl) : Prop where
  f : MayF l.st H M
  holds : ∀ k (h : k < l.ho.length), holdOk l k l.ho[k] = true
  moves : ∀ k (h : k < l.mo.length), moveOk l k l.mo[k] = true
theorem May.m {l : LV} (h : May l) : Mst l (activeQ l.ho) (movedQ l.mo) := ⟨h.f, h.holds, h.moves⟩
theorem Mst.may {l : LV} (h : Mst l (activeQ l.ho) (movedQ l.mo)) (ho : 0 ≤ l.ops) (hf : fullL l = false) : May l := by
  refine ⟨ho, hf, h.f.sorted, fun s hs => ?_, h.holds, h.moves⟩
  obtain ⟨h1, h2, h3, h4, h5, h6, h7⟩ := h.f.ok s hs
  simp [stockOk, h1, h2, h3, h4, h5, ← h6, ← h7]
theorem known_put {l : LV} {s : SV} {sku loc : List UInt8} (h : knownL l sku loc = true) : knownL { l with st := putS l.st s } sku loc = true := by
  obtain ⟨x, hx, h1, h2⟩ := known_find.1 h
  by_cases hk : x.sku = s.sku ∧ x.loc = s.loc
  · exact known_find.2 ⟨s, putS_self _ _, hk.1.symm.trans h1, hk.2.symm.trans h2⟩
  · exact known_find.2 ⟨x, putS_keep hx hk, h1, h2⟩
theorem holdOk_put {l : LV} {s : SV} {k : Nat} {h : HV} (hh : holdOk l k h = true) : holdOk { l with st := putS l.st s } k h = true := by
  simp only [holdOk, Bool.and_eq_true, Bool.or_eq_true] at hh ⊢
  exact ⟨hh.1, hh.2.imp id known_put⟩
theorem moveOk_put {l : LV} {s : SV} {k : Nat} {h : HV} (hh : moveOk l k h = true) : moveOk { l with st := putS l.st s } k h = true := by
  simp only [moveOk, Bool.and_eq_true] at hh ⊢
  exact ⟨hh.1, known_put hh.2⟩
theorem Mst.put {l : LV} {H M : Pl} (h : Mst l H M) (s : SV) (h1 : nameOk s.sku = true) (h2 : nameOk s.loc = true) (h3 : fits s.hand = true) (h4 : 0 ≤ s.held) (h5 : s.held ≤ s.hand) :
    Mst { l with st := putS l.st s } (updP H s.sku s.loc s.held) (updP M s.sku s.loc s.hand) :=
  ⟨h.f.put s h1 h2 h3 h4 h5, fun k hk => holdOk_put (h.holds k hk), fun k hk => moveOk_put (h.moves k hk)⟩
theorem Mst.find_eq {l : LV} {H M : Pl} (h : Mst l H M) (sku loc : List UInt8) : findS l.st sku loc = ⟨sku, loc, M sku loc, H sku loc⟩ := by
  obtain ⟨g1, g2, _⟩ := h.f.find sku loc
  obtain ⟨k1, k2⟩ := findS_key l.st sku loc
  cases hs : findS l.st sku loc with
  | mk a b c d => rw [hs] at g1 g2 k1 k2; simp only at g1 g2 k1 k2; rw [g1, g2, k1, k2]
theorem Mst.held {l : LV} {H M : Pl} (h : Mst l H M) {sku loc : List UInt8} (h1 : nameOk sku = true) (h2 : nameOk loc = true) {n : Int} (h4 : 0 ≤ H sku loc + n) (h5 : H sku loc + n ≤ M sku loc) :
    Mst (heldL l sku loc n) (updP H sku loc (H sku loc + n)) M ∧ heldL l sku loc n = { l with st := putS l.st ⟨sku, loc, M sku loc, H sku loc + n⟩ } := by
  obtain ⟨g1, g2, g3, g4, g5⟩ := h.f.find sku loc
  have g6 := fits_iff.1 g5
  rw [g2] at g5 g6
  have hw : w64i (H sku loc + n) = H sku loc + n := w64i_eq (fits_iff.2 (by omega))
  have e : heldL l sku loc n = { l with st := putS l.st ⟨sku, loc, M sku loc, H sku loc + n⟩ } := by
    unfold heldL
    rw [h.find_eq]
    simp only [hw]
  have := h.put ⟨sku, loc, M sku loc, H sku loc + n⟩ h1 h2 g5 h4 h5
  rw [e]
  refine ⟨⟨this.f.congr (fun _ _ => rfl) fun a b => ?_, this.holds, this.moves⟩, rfl⟩
  unfold updP
  split
  · rename_i hk; obtain ⟨rfl, rfl⟩ := hk; rfl
  · rfl
theorem Mst.moved {l : LV} {H M : Pl} (h : Mst l H M) {sku loc : List UInt8} (h1 : nameOk sku = true) (h2 : nameOk loc = true) {n kind hold : Int} (h3 : fits (M sku loc + n) = true) (h5 : H sku loc ≤ M sku loc + n) (hfn : fits n = true) (hn : n ≠ 0)
    (hk : kind = 1 ∨ kind = 3 ∨ kind = 6 ∨ kind = 7) (hh : 0 ≤ hold) (hh2 : hold ≠ 0 ↔ kind = 3) :
    Mst (movedL l sku loc n kind hold) H (updP M sku loc (M sku loc + n)) ∧ movedL l sku loc n kind hold = { l with st := putS l.st ⟨sku, loc, M sku loc + n, H sku loc⟩, mo := l.mo ++ [⟨(l.mo.length + 1 : Nat), sku, loc, n, kind, hold⟩] } := by
  obtain ⟨g1, g2, g3, g4, g5⟩ := h.f.find sku loc
  rw [g1] at g3
  have hw : w64i (M sku loc + n) = M sku loc + n := w64i_eq h3
  have e : movedL l sku loc n kind hold = { l with st := putS l.st ⟨sku, loc, M sku loc + n, H sku loc⟩, mo := l.mo ++ [⟨(l.mo.length + 1 : Nat), sku, loc, n, kind, hold⟩] } := by
    unfold movedL
    rw [h.find_eq]
    simp only [hw]
  have := h.put ⟨sku, loc, M sku loc + n, H sku loc⟩ h1 h2 h3 g3 h5
  rw [e]
  refine ⟨⟨this.f.congr (fun a b => ?_) (fun _ _ => rfl), fun k hk => this.holds k hk, fun k hk' => ?_⟩, rfl⟩
  · unfold updP
    split
    · rename_i hk; obtain ⟨rfl, rfl⟩ := hk; rfl
    · rfl
  · simp only at hk' ⊢
    by_cases hlt : k < l.mo.length
    · rw [List.getElem_append_left hlt]
      exact this.moves k hlt
    · have hke : k = l.mo.length := by simp at hk'; omega
      subst hke
      rw [List.getElem_append_right (Nat.le_refl _)]
      simp only [Nat.sub_self, List.getElem_cons_zero]
      have hkn : knownL { l with st := putS l.st ⟨sku, loc, M sku loc + n, H sku loc⟩, mo := l.mo ++ [⟨(l.mo.length + 1 : Nat), sku, loc, n, kind, hold⟩] } sku loc = true := known_find.2 ⟨_, putS_self _ _, rfl, rfl⟩
      simp only [moveOk, hkn, h1, h2, hfn, Bool.and_true, Bool.and_eq_true, decide_eq_true_eq, beq_iff_eq]
      refine ⟨⟨⟨⟨by simp, hn⟩, hk⟩, hh⟩, ?_⟩
      simp [hh2]
theorem Mst.state {l : LV} {H M : Pl} (h : Mst l H M) {k : Nat} (hk : k < l.ho.length) {n : Int} (hn : 1 ≤ n ∧ n ≤ 2) : Mst (stateL l k n) H M := by
  unfold stateL
  refine ⟨h.f, fun j hj => ?_, h.moves⟩
  simp only [List.length_set] at hj
  have hg : l.ho.getD k hZ = l.ho[k] := by simp [List.getD, hk]
  simp only [hg]
  by_cases he : k = j
  · subst he
    simp only [List.getElem_set_self]
    have := h.holds k hk
    simp only [holdOk, Bool.and_eq_true, Bool.or_eq_true, decide_eq_true_eq] at this ⊢
    obtain ⟨⟨⟨⟨h1, h2⟩, h3⟩, h4, h5, h6, h7⟩, h8⟩ := this
    exact ⟨⟨⟨⟨h1, h2⟩, h3⟩, h4, by omega, by omega, h7⟩, .inl (by omega)⟩
  · simp only [List.getElem_set_ne he]
    exact h.holds j hj
end Go.Q

set_option linter.unusedVariables false
set_option linter.unusedSimpArgs false
namespace Go.Q
def Good (l : LV) : Prop := Mst l (activeQ l.ho) (movedQ l.mo)
theorem Mst.congr {l : LV} {H M H' M' : Pl} (h : Mst l H M) (hH : ∀ a b, H a b = H' a b) (hM : ∀ a b, M a b = M' a b) : Mst l H' M' := ⟨h.f.congr hH hM, h.holds, h.moves⟩
theorem good_moved {l : LV} (h : Good l) {sku loc : List UInt8} (h1 : nameOk sku = true) (h2 : nameOk loc = true) {n kind hold : Int} (h3 : fits (movedQ l.mo sku loc + n) = true) (h5 : activeQ l.ho sku loc ≤ movedQ l.mo sku loc + n) (hfn : fits n = true) (hn : n ≠ 0)
    (hk : kind = 1 ∨ kind = 3 ∨ kind = 6 ∨ kind = 7) (hh : 0 ≤ hold) (hh2 : hold ≠ 0 ↔ kind = 3) : Good (movedL l sku loc n kind hold) := by
  obtain ⟨g, e⟩ := Mst.moved h h1 h2 h3 h5 hfn hn hk hh hh2
  unfold Good
  refine g.congr (fun a b => ?_) (fun a b => ?_)
  · rw [e]
  · rw [e]
    simp only [movedQ_app, updP]
    split
    · rename_i hk; obtain ⟨rfl, rfl⟩ := hk; rfl
    · simp
theorem act_facts {l : LV} (h : Good l) {k : Nat} (hk : k < l.ho.length) (h0 : l.ho[k].st = 0) :
    nameOk l.ho[k].sku = true ∧ nameOk l.ho[k].loc = true ∧ 1 ≤ l.ho[k].q ∧ l.ho[k].q ≤ activeQ l.ho l.ho[k].sku l.ho[k].loc ∧ activeQ l.ho l.ho[k].sku l.ho[k].loc ≤ movedQ l.mo l.ho[k].sku l.ho[k].loc ∧ fits (movedQ l.mo l.ho[k].sku l.ho[k].loc) = true ∧ w64i (-l.ho[k].q) = -l.ho[k].q ∧ l.ho[k].id = (k + 1 : Nat) := by
  have hh := h.holds k hk
  simp only [holdOk, Bool.and_eq_true, Bool.or_eq_true, decide_eq_true_eq] at hh
  obtain ⟨⟨⟨⟨h1, h2⟩, h3⟩, h4, h5, h6, h7⟩, h8⟩ := hh
  obtain ⟨g1, g2, g3, g4, g5⟩ := h.f.find l.ho[k].sku l.ho[k].loc
  rw [g2] at g5 g4
  rw [g1] at g4
  have hq : l.ho[k].q ≤ activeQ l.ho l.ho[k].sku l.ho[k].loc := by
    have := sum_ge (f := fun x : HV => if x.sku = l.ho[k].sku ∧ x.loc = l.ho[k].loc ∧ x.st = 0 then x.q else 0) (l := l.ho) (fun x hx => ?_) l.ho[k] (List.getElem_mem hk)
    · simpa [h0, activeQ] using this
    · split
      · obtain ⟨j, hj, rfl⟩ := List.getElem_of_mem hx
        have hh := h.holds j hj
        simp only [holdOk, Bool.and_eq_true, decide_eq_true_eq] at hh
        omega
      · exact Int.le_refl _
  have gf := fits_iff.1 g5
  exact ⟨h2, h3, h4, hq, g4, g5, w64i_eq (fits_iff.2 (by omega)), h1⟩
theorem good_over {l : LV} (h : Good l) {k : Nat} (hk : k < l.ho.length) (h0 : l.ho[k].st = 0) {n : Int} (hn : 1 ≤ n ∧ n ≤ 2) :
    Good (stateL (heldL l l.ho[k].sku l.ho[k].loc (-l.ho[k].q)) k n) ∧ (stateL (heldL l l.ho[k].sku l.ho[k].loc (-l.ho[k].q)) k n).ho = l.ho.set k { l.ho[k] with st := n } ∧ (stateL (heldL l l.ho[k].sku l.ho[k].loc (-l.ho[k].q)) k n).mo = l.mo ∧
      (stateL (heldL l l.ho[k].sku l.ho[k].loc (-l.ho[k].q)) k n).ops = l.ops := by
  obtain ⟨f1, f2, f3, f4, f5, f6, f7, f8⟩ := act_facts h hk h0
  obtain ⟨g, e⟩ := Mst.held h f1 f2 (n := -l.ho[k].q) (by omega) (by omega)
  have eh : (heldL l l.ho[k].sku l.ho[k].loc (-l.ho[k].q)).ho = l.ho := rfl
  have g2 := g.state (k := k) (by rw [eh]; exact hk) hn
  have ego : (stateL (heldL l l.ho[k].sku l.ho[k].loc (-l.ho[k].q)) k n).ho = l.ho.set k { l.ho[k] with st := n } := by
    simp [stateL, eh, List.getD, hk]
  refine ⟨?_, ego, rfl, rfl⟩
  unfold Good
  refine g2.congr (fun a b => ?_) (fun a b => rfl)
  rw [ego, activeQ_set hk h0 (by omega)]
  unfold updP
  split
  · rename_i hk; obtain ⟨rfl, rfl⟩ := hk; omega
  · simp
theorem good_commit {l : LV} (h : Good l) {k : Nat} (hk : k < l.ho.length) (h0 : l.ho[k].st = 0) :
    Good (movedL (stateL (heldL l l.ho[k].sku l.ho[k].loc (-l.ho[k].q)) k 1) l.ho[k].sku l.ho[k].loc (-l.ho[k].q) 3 l.ho[k].id) := by
  obtain ⟨f1, f2, f3, f4, f5, f6, f7, f8⟩ := act_facts h hk h0
  obtain ⟨g, e1, e2, _⟩ := good_over h hk h0 (n := 1) (by omega)
  have f6' := fits_iff.1 f6
  refine good_moved g f1 f2 ?_ ?_ (fits_iff.2 (by omega)) (by omega) (.inr (.inl rfl)) (by omega) (by omega)
  · rw [e2]; exact fits_iff.2 (by omega)
  · rw [e1, e2, activeQ_set hk h0 (by omega)]; simp; omega
theorem good_hold {l : LV} (h : Good l) {sku loc : List UInt8} (h1 : nameOk sku = true) (h2 : nameOk loc = true) {q due : Int} (hq : 1 ≤ q) (hd : 0 ≤ due) (hf : activeQ l.ho sku loc + q ≤ movedQ l.mo sku loc) :
    Good { heldL l sku loc q with ho := l.ho ++ [⟨(l.ho.length + 1 : Nat), sku, loc, q, 0, due⟩] } := by
  obtain ⟨g1, g2, g3, g4, g5⟩ := h.f.find sku loc
  rw [g1] at g3
  obtain ⟨g, e⟩ := Mst.held h h1 h2 (n := q) (by omega) hf
  rw [e] at g ⊢
  refine ⟨g.f.congr (fun a b => ?_) (fun a b => rfl), fun k hk => ?_, fun k hk => g.moves k hk⟩
  · simp only [activeQ_app, updP]
    split
    · rename_i hk; obtain ⟨rfl, rfl⟩ := hk; simp
    · rename_i hk
      rw [if_neg (fun hh => hk ⟨hh.1, hh.2.1⟩)]; simp
  · simp only at hk ⊢
    by_cases hlt : k < l.ho.length
    · rw [List.getElem_append_left hlt]
      exact g.holds k hlt
    · have hke : k = l.ho.length := by simp at hk; omega
      subst hke
      rw [List.getElem_append_right (Nat.le_refl _)]
      simp only [Nat.sub_self, List.getElem_cons_zero]
      have hkn : knownL { l with st := putS l.st ⟨sku, loc, movedQ l.mo sku loc, activeQ l.ho sku loc + q⟩, ho := l.ho ++ [⟨(l.ho.length + 1 : Nat), sku, loc, q, 0, due⟩] } sku loc = true := known_find.2 ⟨_, putS_self _ _, rfl, rfl⟩
      simp only [holdOk, hkn, h1, h2, Bool.and_true, Bool.or_true, Bool.and_eq_true, decide_eq_true_eq]
      exact ⟨by simp, hq, by omega, by omega, hd⟩
theorem expireL_good (due : Int) : ∀ (m : Nat) (l : LV) (i : Nat), Good l → i + m ≤ l.ho.length → Good (expireL l due i m) ∧ (expireL l due i m).ho.length = l.ho.length ∧ (expireL l due i m).mo = l.mo ∧ (expireL l due i m).ops = l.ops := by
  intro m
  induction m with
  | zero => intro l i h _; exact ⟨h, rfl, rfl, rfl⟩
  | succ m ih =>
    intro l i h hi
    unfold expireL
    have hil : i < l.ho.length := by omega
    have hg : l.ho.getD i hZ = l.ho[i] := by simp [List.getD, hil]
    simp only [hg]
    split
    · rename_i hd
      simp only [dueL, decide_eq_true_eq] at hd
      obtain ⟨f1, f2, f3, f4, f5, f6, f7, f8⟩ := act_facts h hil hd.1
      rw [f7]
      obtain ⟨g, e1, e2, e3⟩ := good_over h hil hd.1 (n := 2) (by omega)
      obtain ⟨k1, k2, k3, k4⟩ := ih _ (i + 1) g (by rw [e1]; simp; omega)
      exact ⟨k1, by rw [k2, e1]; simp, by rw [k3, e2], by rw [k4, e3]⟩
    · exact ih l (i + 1) h (by omega)
theorem numO_ok {n : Int} (h : (numO n).2 = 0) : fits n = true ∧ (numO n).1 = n := by
  unfold numO at h ⊢
  split at h
  · rename_i hf; rw [if_pos hf]; exact ⟨hf, rfl⟩
  · simp at h
theorem doesL_good {l : LV} (h : Good l) {o : OpV} (ho : o.ok = true) (hw : o.Wf) (he : (doesL l o).2 = 0) : Good (doesL l o).1 ∧ (doesL l o).1.ops = l.ops := by
  obtain ⟨g1, g2, g3, g4, g5⟩ := h.f.find o.sku o.loc
  have hfree : freeL l o.sku o.loc = movedQ l.mo o.sku o.loc - activeQ l.ho o.sku o.loc := by
    unfold freeL numO
    have := fits_iff.1 g5
    rw [if_pos (fits_iff.2 (by omega)), g1, g2]
  unfold OpV.ok at ho
  unfold doesL at he ⊢
  simp only [g1, g2, moreL, hfree] at he ⊢
  by_cases h1 : o.k = 1
  · simp only [h1, if_pos, true_or, Bool.and_eq_true, decide_eq_true_eq] at ho he ⊢
    split at he
    · rename_i hn; exact absurd he hn
    · rename_i hn
      obtain ⟨n1, n2⟩ := numO_ok (Decidable.not_not.1 hn)
      split at he
      · simp at he
      · rename_i hlt
        rw [if_neg hn, if_neg hlt]
        rw [n2] at hlt
        exact ⟨good_moved h ho.1.1 ho.1.2 n1 (by omega) (fits_iff.2 (by have := hw.q0; have := hw.q1; omega)) (by omega) (.inl rfl) (by omega) (by omega), rfl⟩
  by_cases h7 : o.k = 7
  · simp only [h7, if_pos, or_true, Bool.and_eq_true, decide_eq_true_eq] at ho he ⊢
    simp at ho
    split at he
    · rename_i hn; exact absurd he hn
    · rename_i hn
      obtain ⟨n1, n2⟩ := numO_ok (Decidable.not_not.1 hn)
      split at he
      · simp at he
      · rename_i hlt
        rw [if_neg hn, if_neg hlt]
        rw [n2] at hlt
        exact ⟨good_moved h ho.1.1 ho.1.2 n1 (by omega) (fits_iff.2 (by have := hw.q0; have := hw.q1; omega)) (by omega) (by simp) (by omega) (by omega), rfl⟩
  rw [if_neg (by omega)] at he ⊢
  by_cases h2 : o.k = 2
  · simp only [h2, if_true] at he ⊢
    simp [h2] at ho
    split at he
    · simp at he
    · rename_i hlt
      rw [if_neg hlt]
      exact ⟨good_hold h ho.1.1 ho.1.2 ho.2.2.1 ho.2.2.2.2 (by omega), rfl⟩
  rw [if_neg h2] at he ⊢
  by_cases h5 : o.k = 5
  · simp only [h5, if_true] at he ⊢
    obtain ⟨k1, k2, k3, k4⟩ := expireL_good o.due l.ho.length l 0 h (by omega)
    exact ⟨k1, k4⟩
  rw [if_neg h5] at he ⊢
  by_cases h6 : o.k = 6
  · simp only [h6, if_true] at he ⊢
    simp [h6] at ho
    obtain ⟨⟨⟨n1, n2⟩, n3⟩, n4, n5, n6, n7⟩ := ho
    split at he
    · simp at he
    · rename_i hlt
      rw [if_neg hlt]
      split at he
      · rename_i hn; exact absurd he hn
      · rename_i hn
        rw [if_neg hn]
        obtain ⟨m1, m2⟩ := numO_ok (Decidable.not_not.1 hn)
        obtain ⟨t1, t2, t3, t4, t5⟩ := h.f.find o.sku o.to
        rw [t2] at m1
        rw [t1] at t3 t4
        rw [t2] at t4
        have gf := fits_iff.1 g5
        have hq : w64i (-o.q) = -o.q := w64i_eq (fits_iff.2 (by have := hw.q0; have := hw.q1; omega))
        rw [hq]
        have a1 : Good (movedL l o.sku o.loc (-o.q) 6 0) := good_moved h n1 n2 (fits_iff.2 (by omega)) (by omega) (fits_iff.2 (by have := hw.q0; have := hw.q1; omega)) (by omega) (by simp) (by omega) (by omega)
        have em : movedQ (movedL l o.sku o.loc (-o.q) 6 0).mo o.sku o.to = movedQ l.mo o.sku o.to := by
          show movedQ (l.mo ++ [_]) o.sku o.to = _
          rw [movedQ_app, if_neg (fun hh => n4 hh.2.symm)]; simp
        refine ⟨good_moved a1 n1 n3 (by rw [em]; exact m1) ?_ (fits_iff.2 (by have := hw.q0; have := hw.q1; omega)) (by omega) (by simp) (by omega) (by omega), rfl⟩
        rw [em]
        show activeQ l.ho o.sku o.to ≤ _
        omega
  rw [if_neg h6] at he ⊢
  by_cases h34 : o.k = 3 ∨ o.k = 4
  · simp [h1, h2, h34] at ho
    unfold overL at he ⊢
    split at he
    · simp at he
    · rename_i hc
      rw [if_neg hc]
      rw [not_or] at hc
      have hlt : (o.id - 1).toNat < l.ho.length := by omega
      have hg : holdAt l o.id = l.ho[(o.id - 1).toNat] := by simp only [holdAt, List.getD, List.getElem?_eq_getElem hlt, Option.getD_some]
      simp only [hg] at hc ⊢
      have h0 : l.ho[(o.id - 1).toNat].st = 0 := Decidable.not_not.1 hc.2
      obtain ⟨f1, f2, f3, f4, f5, f6, f7, f8⟩ := act_facts h hlt h0
      rw [f7]
      split
      · exact ⟨(good_over h hlt h0 (n := 2) (by omega)).1, rfl⟩
      · have h3 : o.k = 3 := by omega
        rw [h3]
        exact ⟨good_commit h hlt h0, rfl⟩
  · simp [h1, h2, h34, h5, h6, h7] at ho
theorem stepL_may {l : LV} (h : May l) {o : OpV} (hw : o.Wf) : May (stepL l o).1 := by
  unfold stepL
  split
  · exact h
  · rename_i ho
    split
    · exact h
    · rename_i he
      split
      · exact h
      · rename_i hf
        rw [not_or] at hf
        obtain ⟨g, e⟩ := doesL_good h.m (by simpa using ho) hw (Decidable.not_not.1 he)
        have hops := h.ops
        exact Mst.may (l := { (doesL l o).1 with ops := l.ops + 1 }) ⟨g.f, g.holds, g.moves⟩ (by show 0 ≤ l.ops + 1; omega) (by show fullL (doesL l o).1 = false; simpa using hf.1)
end Go.Q

set_option linter.unusedVariables false
set_option linter.unusedSimpArgs false
namespace Go.Q
open Go
variable {P : Program} {T : TypeId} {xo yo : Operand} {w : World} {K : Value → Prop} {u : Value}
theorem neg_of {k : IntKind} {x : Int} : qG P (Op.unary .neg (.int k x)) w K = K (.int k (k.wrap (-x))) := qG_of (show (Op.unary .neg (.int k x)).run P w = .ok (.int k (k.wrap (-x))) w by rw [← Int.zero_sub]; rfl)
theorem numO_fit {s : Int} (h : fits s = true) : numO s = (s, 0) := by unfold numO; rw [if_pos h]
theorem numO_unfit {s : Int} (h : fits s = false) : numO s = (0, 10) := by unfold numO; rw [if_neg (by simp [h])]
theorem sum_take {ks : List Int} {i : Nat} (h : i < ks.length) : (ks.take (i + 1)).sum = (ks.take i).sum + ks[i] := by
  rw [List.take_succ_eq_append_getElem h, List.sum_append]; simp
theorem sum_bound : ∀ {ks : List Int}, (∀ x ∈ ks, -9223372036854775808 ≤ x ∧ x < 9223372036854775808) → -9223372036854775808 * ks.length ≤ ks.sum ∧ ks.sum ≤ 9223372036854775808 * ks.length := by
  intro ks
  induction ks with
  | nil => intro _; simp
  | cons x r ih =>
    intro h
    have h1 := h x (by simp)
    have h2 := ih fun y hy => h y (by simp [hy])
    simp only [List.sum_cons, List.length_cons]
    omega
theorem nG_add64 {f : FuncId} {fn : Func} (hf : P.funcs[f]? = some fn) (hname : (fn.name == "runtime.NumGoroutine") = false) (hb : fn.body.isNone = true) (hn : Extern.findNext fn = none) (he : Extern.find fn = some add64Entry) {x y : Int} (hx : 0 ≤ x) (hy : 0 ≤ y)
    {K : Value → World → Prop} (hK : K (.tuple #[.int .u64 ((x + y) % 18446744073709551616), .int .u64 ((x + y) / 18446744073709551616)]) w) : nG P (callFunc f #[.int .u64 x, .int .u64 y, .int .u64 0]) w K := by
  refine ⟨_, w, ?_, hK⟩
  rw [run_callFunc_extern hf hname hb hn he, run_add64 x y 0 hx hy (by omega) (by omega)]
  simp [Result.andThen]
end Go.Q

set_option linter.unusedVariables false
set_option linter.unusedSimpArgs false
namespace Go.Proofs
open Go Go.Q
def rngI (x : Int) : Prop := -9223372036854775808 ≤ x ∧ x < 9223372036854775808
theorem fits_rng {x : Int} : fits x = true ↔ rngI x := by rw [fits_iff]; unfold rngI; omega
theorem wrapO {s : Int} (h : -18446744073709551616 ≤ s) (h2 : s < 18446744073709551616) : rngI (IntKind.i64.wrap s) ∧ (IntKind.i64.wrap s = s ∨ IntKind.i64.wrap s = s + 18446744073709551616 ∨ IntKind.i64.wrap s = s - 18446744073709551616) := by
  unfold rngI
  simp [IntKind.wrap, IntKind.bits, IntKind.signed]
  omega
theorem numO_cases (s : Int) : (fits s = true ∧ numO s = (s, 0)) ∨ (¬(-9223372036854775808 ≤ s ∧ s ≤ 9223372036854775807) ∧ numO s = (0, 10)) := by
  cases hf : fits s with
  | true => exact .inl ⟨rfl, numO_fit hf⟩
  | false =>
    refine .inr ⟨fun h => ?_, numO_unfit hf⟩
    rw [fits_iff.2 h] at hf
    cases hf
theorem numAdd_spec {w : World} {a b : Int} (ha : rngI a) (hb : rngI b) {K : Value → World → Prop} (hK : K (.tuple #[.int .i64 (numO (a + b)).1, .int .i64 (numO (a + b)).2]) w) : callG Tryz.prog 143 #[.int .i64 a, .int .i64 b] w K := by
  refine num_Add_call ?_
  unfold num_Add num_Add_s0
  unfold rngI at ha hb
  obtain ⟨h1, h2⟩ := wrapO (s := a + b) (by omega) (by omega)
  unfold rngI at h1
  simp [-getElem?_pos, -Array.all_eq_true, -Array.getElem?_eq_getElem, -List.length_flatten, List.getElem?_cons_zero, List.getElem?_cons_succ, ]
  generalize IntKind.i64.wrap (a + b) = t at *
  rcases numO_cases (a + b) with ⟨hf, e⟩ | ⟨hf, e⟩
  · rw [e] at hK
    have hf := fits_iff.1 hf
    have ht : t = a + b := by omega
    subst ht
    repeat' (first | exact hK | refine And.intro ?_ ?_ | intro _ | (exfalso; omega))
  · rw [e] at hK
    repeat' (first | exact hK | refine And.intro ?_ ?_ | intro _ | (exfalso; omega))
theorem numSub_spec {w : World} {a b : Int} (ha : rngI a) (hb : rngI b) {K : Value → World → Prop} (hK : K (.tuple #[.int .i64 (numO (a - b)).1, .int .i64 (numO (a - b)).2]) w) : callG Tryz.prog 142 #[.int .i64 a, .int .i64 b] w K := by
  refine num_Sub_call ?_
  unfold num_Sub num_Sub_s0
  unfold rngI at ha hb
  obtain ⟨h1, h2⟩ := wrapO (s := a - b) (by omega) (by omega)
  unfold rngI at h1
  simp [-getElem?_pos, -Array.all_eq_true, -Array.getElem?_eq_getElem, -List.length_flatten, List.getElem?_cons_zero, List.getElem?_cons_succ, ]
  generalize IntKind.i64.wrap (a - b) = t at *
  rcases numO_cases (a - b) with ⟨hf, e⟩ | ⟨hf, e⟩
  · rw [e] at hK
    have hf := fits_iff.1 hf
    have ht : t = a - b := by omega
    subst ht
    repeat' (first | exact hK | refine And.intro ?_ ?_ | intro _ | (exfalso; omega))
  · rw [e] at hK
    repeat' (first | exact hK | refine And.intro ?_ ?_ | intro _ | (exfalso; omega))
theorem nG106 {w : World} {x y : Int} (hx : 0 ≤ x) (hy : 0 ≤ y) {K : Value → World → Prop} (hK : K (.tuple #[.int .u64 ((x + y) % 18446744073709551616), .int .u64 ((x + y) / 18446744073709551616)]) w) : nG Tryz.prog (callFunc 100 #[.int .u64 x, .int .u64 y, .int .u64 0]) w K :=
  nG_add64 Tryz.func100 (by kernel_rfl) (by kernel_rfl) (by kernel_rfl) (by kernel_rfl) hx hy hK
theorem wrapU (x : Int) : IntKind.u64.wrap x = x % 18446744073709551616 := by simp [IntKind.wrap, IntKind.bits, IntKind.signed]
theorem numSum_spec {w : World} {v : Value} {ks : List Int} (hr : Rd w v 1 (ks.map intV)) (hk : ∀ x ∈ ks, rngI x) (hl : ks.length ≤ 1000000) {K : Value → World → Prop} (hK : K (.tuple #[.int .i64 (numO ks.sum).1, .int .i64 (numO ks.sum).2]) w) : callG Tryz.prog 56 #[v] w K := by
  refine num_Sum_call ?_
  unfold num_Sum num_Sum_s4 num_Sum_s3 num_Sum_L2
  rw [hr.lenL, List.length_map]
  refine loop_inv (fun m xs wi => ∃ i, i ≤ ks.length ∧ m = ks.length - i ∧ xs = [.int .u64 ((ks.take i).sum / 18446744073709551616 % 18446744073709551616), .int .u64 ((ks.take i).sum % 18446744073709551616), v, .int .i64 ks.length, .int .i64 (i : Nat)] ∧ wi = w) ?_ (m := ks.length) ⟨0, by omega, rfl, by simp, rfl⟩
  rintro m N xs wi ⟨i, hi, rfl, rfl, rfl⟩ hN
  have hiw : IntKind.i64.wrap ((i : Int) + 1) = ((i + 1 : Nat) : Int) := by rw [w64 (by omega) (by omega)]; simp
  unfold num_Sum_L2F num_Sum_b1
  simp [-getElem?_pos, -Array.all_eq_true, -Array.getElem?_eq_getElem, -List.length_flatten, List.getElem?_cons_zero, List.getElem?_cons_succ, ]
  refine ⟨fun hlt => ?_, fun hge => ?_⟩
  · obtain ⟨p, hp1, hp2⟩ := hr.one (i := i) (by simpa using hlt) (x := .int .i64 ks[i]) (by simp [intV])
    have hp1' : ∀ K : Value → Prop, ia 1 v (.int .i64 i) K = K p := fun K => hp1 .i64 K
    have hki := hk ks[i] (List.getElem_mem hlt)
    unfold rngI at hki
    obtain ⟨S, hS⟩ : ∃ S, S = (ks.take i).sum := ⟨_, rfl⟩
    have hS' := sum_take hlt
    rw [← hS] at hS' ⊢
    simp [-getElem?_pos, -Array.all_eq_true, -Array.getElem?_eq_getElem, -List.length_flatten, List.getElem?_cons_zero, List.getElem?_cons_succ, hp1', hp2, wrapU]
    refine nG106 (by omega) (by omega) ?_
    simp [-getElem?_pos, -Array.all_eq_true, -Array.getElem?_eq_getElem, -List.length_flatten, List.getElem?_cons_zero, List.getElem?_cons_succ, ]
    rw [shr_of (by omega) (by decide)]
    simp [-getElem?_pos, -Array.all_eq_true, -Array.getElem?_eq_getElem, -List.length_flatten, List.getElem?_cons_zero, List.getElem?_cons_succ, wrapU]
    refine hN (ks.length - (i + 1)) _ wi (by omega) ⟨i + 1, by omega, rfl, ?_, rfl⟩
    rw [hS', hiw]
    congr 2
    · congr 1
      omega
  · have hie : i = ks.length := by omega
    subst hie
    rw [List.take_length]
    unfold num_Sum_s0
    have hb := sum_bound (ks := ks) (fun x hx => hk x hx)
    simp [-getElem?_pos, -Array.all_eq_true, -Array.getElem?_eq_getElem, -List.length_flatten, List.getElem?_cons_zero, List.getElem?_cons_succ, ]
    rw [shr_of (by omega) (by decide)]
    obtain ⟨S, hS⟩ : ∃ S, S = ks.sum := ⟨_, rfl⟩
    rw [← hS] at hK hb ⊢
    have hw : rngI (IntKind.i64.wrap (S % 18446744073709551616)) ∧ (IntKind.i64.wrap (S % 18446744073709551616) = S % 18446744073709551616 ∨ IntKind.i64.wrap (S % 18446744073709551616) = S % 18446744073709551616 - 18446744073709551616) := by
      unfold rngI
      simp [IntKind.wrap, IntKind.bits, IntKind.signed]
      omega
    unfold rngI at hw
    simp [-getElem?_pos, -Array.all_eq_true, -Array.getElem?_eq_getElem, -List.length_flatten, List.getElem?_cons_zero, List.getElem?_cons_succ, wrapU]
    generalize IntKind.i64.wrap (S % 18446744073709551616) = t at *
    rcases numO_cases S with ⟨hf, e⟩ | ⟨hf, e⟩
    · rw [e] at hK
      have hf := fits_iff.1 hf
      have ht : t = S := by omega
      subst ht
      repeat' (first | exact hK | refine And.intro ?_ ?_ | intro _ | (exfalso; omega))
    · rw [e] at hK
      have q1 : -1000000 ≤ S / 18446744073709551616 ∧ S / 18446744073709551616 ≤ 1000000 := by omega
      have t1 : t / 9223372036854775808 = 0 ∨ t / 9223372036854775808 = -1 := by omega
      have main : S / 18446744073709551616 % 18446744073709551616 = t / 9223372036854775808 % 18446744073709551616 → False := by
        intro h
        have q2 : S / 18446744073709551616 = 0 ∨ S / 18446744073709551616 = -1 := by
          generalize S / 18446744073709551616 = q at *
          generalize t / 9223372036854775808 = u at *
          omega
        generalize hq : S / 18446744073709551616 = q at *
        rcases q2 with rfl | rfl <;> rcases t1 with t1 | t1 <;> rw [t1] at h <;> omega
      repeat' (first | exact hK | refine And.intro ?_ ?_ | intro _ | (exfalso; exact main (by assumption)))
end Go.Proofs

set_option linter.unusedVariables false
set_option linter.unusedSimpArgs false
namespace Go.Q
open Go
def cmpL (a b : List UInt8) : Int := if lexL a b = true then -1 else if lexL b a = true then 1 else 0
theorem cmpL_zero {a b : List UInt8} : cmpL a b = 0 ↔ a = b := by
  unfold cmpL
  constructor
  · intro h
    split at h
    · simp at h
    · split at h
      · simp at h
      · rename_i h1 h2
        exact lexL_tri (by simpa using h1) (by simpa using h2)
  · rintro rfl
    simp [lexL_irrefl]
theorem lexL_pre : ∀ {a b : List UInt8}, (∀ i, i < min a.length b.length → a.getD i 0 = b.getD i 0) → lexL a b = decide (a.length < b.length) := by
  intro a
  induction a with
  | nil => intro b h; cases b <;> rfl
  | cons x a ih =>
    intro b h
    cases b with
    | nil => rfl
    | cons y b =>
      have h0 := h 0 (by simp)
      simp at h0
      subst h0
      rw [lexL_cons, ih (fun i hi => by have := h (i + 1) (by simp at hi ⊢; omega); simpa using this)]
      simp
theorem lexL_diff : ∀ {i : Nat} {a b : List UInt8}, i < min a.length b.length → (∀ j, j < i → a.getD j 0 = b.getD j 0) → a.getD i 0 ≠ b.getD i 0 → lexL a b = decide (a.getD i 0 < b.getD i 0) := by
  intro i
  induction i with
  | zero =>
    intro a b hi _ hne
    cases a with
    | nil => simp at hi
    | cons x a =>
      cases b with
      | nil => simp at hi
      | cons y b =>
        simp at hne ⊢
        rw [lexL_cons]
        simp [hne]
  | succ i ih =>
    intro a b hi h hne
    cases a with
    | nil => simp at hi
    | cons x a =>
      cases b with
      | nil => simp at hi
      | cons y b =>
        have h0 := h 0 (by omega)
        simp at h0
        subst h0
        rw [lexL_cons, ih (by simp at hi ⊢; omega) (fun j hj => by have := h (j + 1) (by omega); simpa using this) (by simpa using hne)]
        simp
theorem str_get (l : List UInt8) (i : Nat) : (str l)[i]! = l.getD i 0 := by
  by_cases h : i < (str l).size
  · rw [getElem!_pos (str l) i h]
    have hl : i < l.length := by simpa using h
    simp only [List.getD, List.getElem?_eq_getElem hl, Option.getD_some]
    show (str l).data[i] = _
    simp [str]
  · rw [getElem!_neg (str l) i h]
    have hl : ¬ i < l.length := by simpa using h
    simp only [List.getD, List.getElem?_eq_none (Nat.le_of_not_lt hl), Option.getD_none]
    rfl
theorem cmp_eq (a b : List UInt8) : Extern.BytealgCompare.cmp (str a) (str b) = cmpL a b := by
  unfold Extern.BytealgCompare.cmp
  simp only [str_get, str_size]
  cases hf : (List.range (min a.length b.length)).find? (fun i => a.getD i 0 != b.getD i 0) with
  | some i =>
    rw [List.find?_range_eq_some] at hf
    obtain ⟨h1, h2, h3⟩ := hf
    have hi : i < min a.length b.length := by simpa using h2
    have hne : a.getD i 0 ≠ b.getD i 0 := by simpa using h1
    have hl : ∀ j, j < i → a.getD j 0 = b.getD j 0 := fun j hj => by have := h3 j hj; simpa using this
    have e1 := lexL_diff hi hl hne
    have e2 := lexL_diff (a := b) (b := a) (by omega) (fun j hj => (hl j hj).symm) (Ne.symm hne)
    unfold cmpL
    rw [e1, e2]
    clear e1 e2 hl h1 h3
    simp only
    generalize a.getD i 0 = p at *
    generalize b.getD i 0 = q at *
    by_cases hc : p < q
    · simp [hc]
    · have : q < p := by
        rcases UInt8.lt_or_lt_of_ne hne with h | h
        · exact absurd h hc
        · exact h
      simp [hc, this]
  | none =>
    rw [List.find?_eq_none] at hf
    have hl : ∀ i, i < min a.length b.length → a.getD i 0 = b.getD i 0 := fun i hi => by have := hf i (by simpa using hi); simpa using this
    unfold cmpL
    rw [lexL_pre hl, lexL_pre (a := b) (b := a) (fun i hi => (hl i (by omega)).symm)]
    by_cases h1 : a.length < b.length
    · simp [h1]
    · by_cases h2 : b.length < a.length
      · simp [h1, h2]
      · simp [h1, h2]
theorem nG_cmp {P : Program} {w : World} {f : FuncId} {fn : Func} (hf : P.funcs[f]? = some fn) (hname : (fn.name == "runtime.NumGoroutine") = false) (hb : fn.body.isNone = true) (hn : Extern.findNext fn = none) (he : Extern.find fn = some Extern.BytealgCompare.compare) (a b : List UInt8)
    {K : Value → World → Prop} (hK : K (.int .i64 (cmpL a b)) w) : nG P (callFunc f #[.string (str a), .string (str b)]) w K := by
  refine ⟨_, w, ?_, hK⟩
  rw [run_callFunc_extern hf hname hb hn he]
  have : (Extern.BytealgCompare.compare #[.string (str a), .string (str b)]).run P w = .ok (.int .i64 (Extern.BytealgCompare.cmp (str a) (str b))) w := rfl
  rw [this, cmp_eq]
  rfl
def ordL (s l s' l' : List UInt8) : Int := if cmpL s s' ≠ 0 then cmpL s s' else cmpL l l'
theorem ordL_neg {a b : SV} : (ordL a.sku a.loc b.sku b.loc < 0) ↔ ahead a b = true := by
  unfold ordL ahead
  by_cases h : a.sku = b.sku
  · have h0 := cmpL_zero.2 h
    rw [if_neg (by simp [h0])]
    simp only [h, lexL_irrefl, Bool.false_or, decide_true, Bool.true_and]
    unfold cmpL
    split
    · simp_all
    · split <;> simp_all
  · have h0 : cmpL a.sku b.sku ≠ 0 := fun hh => h (cmpL_zero.1 hh)
    rw [if_pos h0]
    simp only [h, decide_false, Bool.false_and, Bool.or_false]
    unfold cmpL
    split
    · simp_all
    · split <;> simp_all
theorem ordL_zero {s l s' l' : List UInt8} : ordL s l s' l' = 0 ↔ s = s' ∧ l = l' := by
  unfold ordL
  by_cases h : s = s'
  · have h0 := cmpL_zero.2 h
    rw [if_neg (by simp [h0]), cmpL_zero]
    simp [h]
  · have h0 : cmpL s s' ≠ 0 := fun hh => h (cmpL_zero.1 hh)
    rw [if_pos h0]
    simp [h, h0]
end Go.Q

set_option linter.unusedVariables false
set_option linter.unusedSimpArgs false
namespace Go.Q
open Go
structure ME where
  a : List UInt8
  b : List UInt8
  v : Value
def keyV (a b : List UInt8) : Value := .agg #[.string (str a), .string (str b)]
def entsFrom : Nat → List ME → List MapEntry
  | _, [] => []
  | i, e :: r => ⟨keyV e.a e.b, e.v, i⟩ :: entsFrom (i + 1) r
def MapIs (w : World) (n : Nat) (m : List ME) : Prop := w.heap[n]? = some (.map (entsFrom 0 m).toArray m.length)
structure MapT (P : Program) (T kt et : TypeId) (z : Value) : Prop where
  hm : P.underlying T = some (.map kt et)
  wide : (match P.underlying kt with | some (.array _ _) | some (.struct _) => true | _ => false) = true
  ck : ∀ e a b w, (Instr.checkKey e 10000 kt (keyV a b)).run P w = .ok () w
  eq : ∀ a b c d w, (Op.equal kt (keyV a b) (keyV c d)).run P w = .ok (decide (a = c ∧ b = d)) w
  zv : ∀ w, (zeroValue et).run P w = .ok z w
def findE (a b : List UInt8) : List ME → Nat → Option (Nat × Value)
  | [], _ => none
  | e :: r, i => if a = e.a ∧ b = e.b then some (i, e.v) else findE a b r (i + 1)
section
variable {P : Program} {T kt et : TypeId} {z : Value} {w : World} {n : Nat} {m : List ME} {a b : List UInt8}
theorem MapIs.keep {w' : World} {S : List Nat} (h : MapIs w n m) (hk : Kp S w w') (hn : n ∉ S) : MapIs w' n m := hk.get h hn
theorem ents_get : ∀ (m : List ME) (i j : Nat) (h : j < m.length), (entsFrom i m)[j]? = some ⟨keyV m[j].a m[j].b, m[j].v, i + j⟩ := by
  intro m
  induction m with
  | nil => intro i j h; simp at h
  | cons e r ih =>
    intro i j h
    cases j with
    | zero => rfl
    | succ j =>
      have := ih (i + 1) j (by simpa using h)
      simp only [entsFrom, List.getElem?_cons_succ, this, List.getElem_cons_succ]
      congr 2; omega
theorem ents_app : ∀ (m : List ME) (i : Nat) (e : ME), entsFrom i (m ++ [e]) = entsFrom i m ++ [⟨keyV e.a e.b, e.v, i + m.length⟩] := by
  intro m
  induction m with
  | nil => intro i e; rfl
  | cons x r ih =>
    intro i e
    simp only [List.cons_append, entsFrom, ih, List.length_cons]
    congr 4; omega
theorem asking (h : MapT P T kt et z) : ∀ (m : List ME) (i j : Nat), (Instr.findAsking kt (keyV a b) (entsFrom i m) j).run P w = .ok (findE a b m j) w := by
  intro m
  induction m with
  | nil => intro i j; rfl
  | cons e r ih =>
    intro i j
    simp only [entsFrom, Instr.findAsking, Sem.run_bind, h.eq, Result.andThen_ok, findE]
    by_cases hc : a = e.a ∧ b = e.b
    · simp [hc, Sem.run, pure]
    · simp [hc, ih]
theorem finding (h : MapT P T kt et z) : (Instr.findKey kt (keyV a b) (entsFrom 0 m)).run P w = .ok (findE a b m 0) w := by
  rw [run_findKey_eq w h.wide, asking h]
theorem getO (hm : MapIs w n m) : (getObj n).run P w = .ok (.map (entsFrom 0 m).toArray m.length) w := by
  unfold MapIs at hm
  simp [getObj, Sem.run, hm]
theorem setO {o : Obj} (hm : MapIs w n m) : (setObj n o).run P w = .ok () (setBlk w n o) := by
  unfold MapIs at hm
  simp [setObj, Sem.run, hm, setBlk]
theorem eG_of {s : Sem Value} {w w' : World} {v : Value} {K : Value → World → Prop} (h : s.run P w = .ok v w') (hK : K v w') : eG P s w K := ⟨v, w', h, hK⟩
theorem uG_of {s : Sem Unit} {w w' : World} {K : World → Prop} (h : s.run P w = .ok () w') (hK : K w') : uG P s w K := ⟨w', h, hK⟩
theorem map_new {K : Value → World → Prop} (hK : MapIs (w.alloc (.map #[] 0)) w.heap.size [] → K (.map (some w.heap.size)) (w.alloc (.map #[] 0))) : eG P (Instr.makeMap T none) w K :=
  eG_of (v := .map (some w.heap.size)) (w' := w.alloc (.map #[] 0)) rfl (hK heap_new)
theorem lookup_run (h : MapT P T kt et z) (hm : MapIs w n m) (ok : Bool) :
    (Instr.lookup T (.map (some n)) (keyV a b) ok).run P w = .ok (if ok = true then .tuple #[((findE a b m 0).map (·.2)).getD z, .bool (findE a b m 0).isSome] else ((findE a b m 0).map (·.2)).getD z) w := by
  have hf : (Instr.findKey kt (keyV a b) (entsFrom 0 m).toArray.toList).run P w = .ok (findE a b m 0) w := finding h
  have hp : ∀ x : Array MapEntry, (pure x : Sem (Array MapEntry)).run P w = .ok x w := fun _ => rfl
  simp only [Instr.lookup, Sem.run_bind, run_underlying h.hm, Result.andThen_ok, getO hm, h.ck, hp, hf]
  cases findE a b m 0 with
  | none =>
    simp only [Sem.run_bind, h.zv, Result.andThen_ok]
    cases ok <;> rfl
  | some x =>
    obtain ⟨i, v⟩ := x
    cases ok <;> rfl
theorem map_get (h : MapT P T kt et z) (hm : MapIs w n m) {K : Value → Prop} (hK : K (((findE a b m 0).map (·.2)).getD z)) : qG P (Instr.lookup T (.map (some n)) (keyV a b) false) w K := by
  rw [qG_of (lookup_run h hm false)]; exact hK
theorem map_get2 (h : MapT P T kt et z) (hm : MapIs w n m) {K : Value → Prop} (hK : K (.tuple #[((findE a b m 0).map (·.2)).getD z, .bool (findE a b m 0).isSome])) : qG P (Instr.lookup T (.map (some n)) (keyV a b) true) w K := by
  rw [qG_of (lookup_run h hm true)]; exact hK
theorem findE_none : ∀ {m : List ME} {k : Nat}, findE a b m k = none ↔ ∀ e ∈ m, ¬(a = e.a ∧ b = e.b) := by
  intro m
  induction m with
  | nil => intro k; simp [findE]
  | cons e r ih =>
    intro k
    unfold findE
    split
    · rename_i hc; simp [hc]
    · rename_i hc; rw [ih]; simp only [List.mem_cons, forall_eq_or_imp]; exact ⟨fun h => ⟨hc, h⟩, fun h => h.2⟩
theorem findE_at : ∀ {m : List ME} {k i : Nat} (h : i < m.length), (∀ j (hj : j < m.length), j ≠ i → ¬(m[j].a = m[i].a ∧ m[j].b = m[i].b)) → findE m[i].a m[i].b m k = some (k + i, m[i].v) := by
  intro m
  induction m with
  | nil => intro k i h; simp at h
  | cons e r ih =>
    intro k i h hu
    unfold findE
    cases i with
    | zero => simp
    | succ i =>
      have h0 := hu 0 (by simp) (by omega)
      simp only [List.getElem_cons_zero, List.getElem_cons_succ] at h0 ⊢
      rw [if_neg (fun hh => h0 ⟨hh.1.symm, hh.2.symm⟩), ih (k := k + 1) (by simpa using h) (fun j hj hne => by have := hu (j + 1) (by simpa using hj) (by omega); simpa using this)]
      congr 2; omega
theorem ents_modify : ∀ (m : List ME) (i j : Nat) (h : j < m.length) (v : Value), (entsFrom i m).modify j (fun e => { e with val := v }) = entsFrom i (m.set j { m[j] with v := v }) := by
  intro m
  induction m with
  | nil => intro i j h; simp at h
  | cons e r ih =>
    intro i j h v
    cases j with
    | zero => rfl
    | succ j =>
      simp only [entsFrom, List.modify_succ_cons, List.set_cons_succ, List.getElem_cons_succ, ih (i + 1) j (by simpa using h) v]
theorem keyStays (x y : List UInt8) : (Instr.keyThatStays (keyV x y) (keyV x y)).run P w = .ok (keyV x y) w := by
  unfold Instr.keyThatStays
  have : Instr.sameBits 10000 (keyV x y) (keyV x y) = true := by
    show Instr.sameBits (9999 + 1) (.agg #[.string (str x), .string (str y)]) (.agg #[.string (str x), .string (str y)]) = true
    unfold Instr.sameBits
    have hb : ∀ s : ByteArray, (s == s) = true := fun s => by rw [MapKept.bytes_beq]
    simp [Instr.sameBits, hb]
  rw [if_pos this]
  rfl
theorem map_entry_new (h : MapT P T kt et z) (hm : MapIs w n m) (hn : findE a b m 0 = none) {K : Value → World → Prop}
    (hK : ∀ w', MapIs w' n (m ++ [⟨a, b, z⟩]) → Kp [n] w w' → K (.tuple #[z, .int .i64 (m.length : Nat)]) w') : eG P (Instr.mapEntry T (.map (some n)) (keyV a b)) w K := by
  have hf : (Instr.findKey kt (keyV a b) (entsFrom 0 m).toArray.toList).run P w = .ok none w := by rw [← hn]; exact finding h
  refine eG_of (w' := setBlk w n (.map ((entsFrom 0 m).toArray.push ⟨keyV a b, z, m.length⟩) (m.length + 1))) (v := .tuple #[z, .int .i64 (m.length : Nat)]) ?_ (hK _ ?_ ((Kp.refl _ w).setBlk (.inl (by simp)) _))
  · simp only [Instr.mapEntry, Sem.run_bind, run_underlying h.hm, Result.andThen_ok, getO hm, h.ck, hf, h.zv, setO hm]
    rfl
  · unfold MapIs
    rw [heap_self (lt_of_blk hm), ents_app]
    simp
theorem map_entry_old (h : MapT P T kt et z) (hm : MapIs w n m) {i : Nat} (hi : i < m.length) (hf : findE m[i].a m[i].b m 0 = some (i, m[i].v)) {K : Value → World → Prop}
    (hK : ∀ w', MapIs w' n m → Kp [n] w w' → K (.tuple #[m[i].v, .int .i64 (i : Nat)]) w') : eG P (Instr.mapEntry T (.map (some n)) (keyV m[i].a m[i].b)) w K := by
  have hf' : (Instr.findKey kt (keyV m[i].a m[i].b) (entsFrom 0 m).toArray.toList).run P w = .ok (some (i, m[i].v)) w := by rw [← hf]; exact finding h
  have hg : (entsFrom 0 m).toArray[i]? = some ⟨keyV m[i].a m[i].b, m[i].v, i⟩ := by
    have := ents_get m 0 i hi
    simpa using this
  refine eG_of (w' := setBlk w n (.map ((entsFrom 0 m).toArray.modify i fun e => { e with key := keyV m[i].a m[i].b }) m.length)) (v := .tuple #[m[i].v, .int .i64 (i : Nat)]) ?_ (hK _ ?_ ((Kp.refl _ w).setBlk (.inl (by simp)) _))
  · simp only [Instr.mapEntry, Sem.run_bind, run_underlying h.hm, Result.andThen_ok, getO hm, h.ck, hf', hg, Option.map_some, Option.getD_some, keyStays, setO hm]
    rfl
  · unfold MapIs
    rw [heap_self (lt_of_blk hm)]
    congr 2
    apply Array.ext'
    simp only [Array.toList_modify]
    apply List.ext_getElem?
    intro j
    rw [List.getElem?_modify]
    by_cases hj : i = j
    · subst hj
      rw [ents_get m 0 i hi]
      simp
    · simp [hj]
theorem map_update_new (h : MapT P T kt et z) (hm : MapIs w n m) (hn : findE a b m 0 = none) {v : Value} {K : World → Prop}
    (hK : ∀ w', MapIs w' n (m ++ [⟨a, b, v⟩]) → Kp [n] w w' → K w') : uG P (Instr.mapUpdate T (.map (some n)) (keyV a b) v) w K := by
  have hf : (Instr.findKey kt (keyV a b) (entsFrom 0 m).toArray.toList).run P w = .ok none w := by rw [← hn]; exact finding h
  refine uG_of (w' := setBlk w n (.map ((entsFrom 0 m).toArray.push ⟨keyV a b, v, m.length⟩) (m.length + 1))) ?_ (hK _ ?_ ((Kp.refl _ w).setBlk (.inl (by simp)) _))
  · simp only [Instr.mapUpdate, Sem.run_bind, run_underlying h.hm, Result.andThen_ok, getO hm, h.ck, hf, setO hm]
  · unfold MapIs
    rw [heap_self (lt_of_blk hm), ents_app]
    simp
theorem born_find : ∀ (m : List ME) (k i : Nat), i < m.length → (entsFrom k m).findIdx? (fun e => (e.born : Int) == ((k + i : Nat) : Int)) = some i := by
  intro m
  induction m with
  | nil => intro k i h; simp at h
  | cons e r ih =>
    intro k i h
    cases i with
    | zero => simp [entsFrom, List.findIdx?_cons]
    | succ i =>
      have := ih (k + 1) i (by simpa using h)
      simp only [entsFrom, List.findIdx?_cons]
      have hne : ((k : Nat) : Int) ≠ ((k + (i + 1) : Nat) : Int) := by omega
      rw [show ((k + (i + 1) : Nat) : Int) = ((k + 1 + i : Nat) : Int) by omega] at hne ⊢
      simp only [beq_eq_false_iff_ne.2 hne, this]
      simp
theorem map_store (hm : MapIs w n m) {i : Nat} (hi : i < m.length) {v : Value} {K : World → Prop}
    (hK : ∀ w', MapIs w' n (m.set i { m[i] with v := v }) → Kp [n] w w' → K w') : uG P (Instr.entryStore T (.map (some n)) (.int .i64 (i : Nat)) v) w K := by
  refine uG_of (w' := setBlk w n (.map ((entsFrom 0 m).toArray.modify i fun e => { e with val := v }) m.length)) ?_ (hK _ ?_ ((Kp.refl _ w).setBlk (.inl (by simp)) _))
  · have hb : (entsFrom 0 m).toArray.findIdx? (fun e => (e.born : Int) == ((i : Nat) : Int)) = some i := by
      have := born_find m 0 i hi
      simpa using this
    have ha : (asInt (.int .i64 (i : Nat))).run P w = .ok (i : Int) w := rfl
    simp only [Instr.entryStore, Sem.run_bind, getO hm, Result.andThen_ok, ha, hb, setO hm]
  · unfold MapIs
    rw [heap_self (lt_of_blk hm)]
    congr 2
    · apply Array.ext'
      rw [Array.toList_modify]
      exact ents_modify m 0 i hi v
    · simp
end
end Go.Q

