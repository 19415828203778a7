/- Part of the proof (P4): an engine, rules or contracts of the functions; it states nothing of the claim by itself. -/
import Derived.Test.YtojnmknankmhcaaGreatP3
import Derived.Test.YtojnmknankmhcaaGreatP2
import Derived.Test.YtojnmknankmhcaaGreatP1
import Derived.Shelf.SlSortCmp.NoneTotal
import Derived.Sort.OwnSortedInts
import Derived.Sort.EncStr
import Derived.Shelf.Sort.Plain
import Derived.Shelf.Slices.In.SortNone

/- Layer 13: the sectors of a page; the head of a turn. -/
set_option maxRecDepth 100000
set_option linter.unusedVariables false
set_option linter.unusedSimpArgs false
namespace Go.Proofs
open Go Go.Q
/-- what the sectors lean on -/
structure Sp0 (w : World) (b bd fr pages : Nat) (d : DK) (Sd : List Nat) : Prop where
  l0 : ∀ K : Value → Prop, ld1 (.pointer (some ⟨b, 0 + 0, none⟩)) w K = K (.pointer (some ⟨bd, 0, none⟩))
  l1 : ∀ K : Value → Prop, ld1 (.pointer (some ⟨b, 0 + 1, none⟩)) w K = K (.int .i64 (fr : Nat))
  l2 : ∀ K : Value → Prop, ld1 (.pointer (some ⟨b, 0 + 2, none⟩)) w K = K (.int .i64 (pages : Nat))
  ex : ∃ cs T, w.heap[b]? = some (.cells cs T) ∧ cs[0]? = some (.pointer (some ⟨bd, 0, none⟩)) ∧ cs[1]? = some (.int .i64 (fr : Nat)) ∧ cs[2]? = some (.int .i64 (pages : Nat))
  disk : DiskAt w bd d Sd
  out : b ∉ Sd
  fit : fr + 8 * (pages + 3) ≤ d.now.length
  most : 1 ≤ pages ∧ pages ≤ 500
theorem Sp0.of {w : World} {b bd fr pages : Nat} {d : DK} {Sd : List Nat} {cs : Array Value} {T : TypeId} (h : w.heap[b]? = some (.cells cs T)) (h0 : cs[0]? = some (.pointer (some ⟨bd, 0, none⟩))) (h1 : cs[1]? = some (.int .i64 (fr : Nat))) (h2 : cs[2]? = some (.int .i64 (pages : Nat)))
    (hd : DiskAt w bd d Sd) (ho : b ∉ Sd) (hf : fr + 8 * (pages + 3) ≤ d.now.length) (hm : 1 ≤ pages ∧ pages ≤ 500) : Sp0 w b bd fr pages d Sd :=
  ⟨fun K => ldF (x := .pointer (some ⟨bd, 0, none⟩)) h h0, fun K => ldF (x := .int .i64 (fr : Nat)) h h1, fun K => ldF (x := .int .i64 (pages : Nat)) h h2, ⟨cs, T, h, h0, h1, h2⟩, hd, ho, hf, hm⟩
theorem SpAt.sp0 {w : World} {b bd : Nat} {s : SP} {Sd : List Nat} {ms mn : Nat} (h : SpAt w b bd s Sd ms mn) : Sp0 w b bd s.from_ s.pages s.d Sd :=
  Sp0.of h.cell rfl rfl rfl h.disk h.apart.2.2.1 h.fit h.most
theorem mk_func {f : FuncId} {caps : Array Value} {w : World} {K : Value → Prop} : qG Tryz.prog (Instr.makeFunc (.func f) #[] caps) w K = K (.func (.func f) #[] caps) := qG_of rfl
section
variable {w w' : World} {b bd fr pages : Nat} {d : DK} {Sd : List Nat} {R : Value → World → Prop}
theorem Sp0.keep {S : List Nat} (h : Sp0 w b bd fr pages d Sd) (hk : Kp S w w') (hb : b ∉ S) (hS : ∀ x ∈ Sd, x ∉ S) : Sp0 w' b bd fr pages d Sd := by
  obtain ⟨cs, T, e, e0, e1, e2⟩ := h.ex
  exact Sp0.of (hk.get e hb) e0 e1 e2 (h.disk.keep hk hS) h.out h.fit h.most
theorem Sp0.setD (h : Sp0 w b bd fr pages d Sd) {d' : DK} {S' : List Nat} (hd : DiskAt w' bd d' S') (hk : Kp Sd w w') (hS : ∀ x ∈ S', x ∈ Sd ∨ w.heap.size ≤ x) (hl : d'.now.length = d.now.length) : Sp0 w' b bd fr pages d' S' := by
  obtain ⟨cs, T, e, e0, e1, e2⟩ := h.ex
  refine Sp0.of (hk.get e h.out) e0 e1 e2 hd ?_ (by rw [hl]; exact h.fit) h.most
  intro hm
  rcases hS b hm with hh | hh
  · exact h.out hh
  · have := lt_of_blk e; omega
/-- each sector in turn -/
theorem sectors_spec (at_ : Nat) (hat : at_ < 2 ^ 20) (f : FuncId) (hf : hasBody Tryz.prog f = true) (caps : Array Value) (hfr : fr < 2 ^ 20) (J : Nat → World → Prop)
    (hl : ∀ k w', J k w' → ∀ K : Value → Prop, ld1 (.pointer (some ⟨b, 0 + 1, none⟩)) w' K = K (.int .i64 (fr : Nat)))
    (hs : ∀ k w', k < 8 → J k w' → callG Tryz.prog f (#[.int .i64 (k : Nat), .int .i64 ((fr + 8 * at_ + k : Nat) : Int)] ++ caps) w' fun v w'' => ∃ c : Int, v = .int .i64 c ∧ (c ≠ 0 → R (.int .i64 c) w'') ∧ (c = 0 → J (k + 1) w''))
    (h0 : J 0 w) (hR : ∀ w', J 8 w' → R (.int .i64 0) w') : callG Tryz.prog 75 #[.pointer (some ⟨b, 0, none⟩), .int .i64 (at_ : Nat), .func (.func f) #[] caps] w R := by
  refine space_Space_sectors_call ?_
  unfold space_Space_sectors space_Space_sectors_s4 space_Space_sectors_s3 space_Space_sectors_L2
  refine loop_inv (fun m xs w' => ∃ k, k ≤ 8 ∧ m = 8 - k ∧ xs = [.pointer (some ⟨b, 0, none⟩), .int .i64 (at_ : Nat), .func (.func f) #[] caps, .int .i64 (k : Nat)] ∧ J k w') ?_ (m := 8) ⟨0, by omega, rfl, rfl, h0⟩
  rintro m N xs w' ⟨k, hk, rfl, rfl, hJ⟩ hN
  unfold space_Space_sectors_L2F space_Space_sectors_b1 space_Space_sectors_s0
  dsimp only
  simp only [bq_lss, bV_b, decide_eq_true_eq, decide_eq_false_iff_not]
  refine ⟨fun hlt => ?_, fun hlt => ?_⟩
  · have hlt : k < 8 := by omega
    have e1 : IntKind.i64.wrap ((at_ : Int) * 8) = (at_ : Int) * 8 := w64 (by omega) (by omega)
    have e2 : IntKind.i64.wrap ((fr : Int) + (at_ : Int) * 8) = (fr : Int) + (at_ : Int) * 8 := w64 (by omega) (by omega)
    have e3 : IntKind.i64.wrap ((fr : Int) + (at_ : Int) * 8 + (k : Int)) = ((fr + 8 * at_ + k : Nat) : Int) := by rw [w64 (by omega) (by omega)]; omega
    have e4 : IntKind.i64.wrap ((k : Int) + 1) = ((k + 1 : Nat) : Int) := by rw [w64 (by omega) (by omega)]; simp
    rw [nk_p, fa_p, hl k w' hJ]
    simp only [bq_mul, e1, bq_add, e2, e3]
    refine ⟨hf, ?_⟩
    have hh := hs k w' hlt hJ
    refine Calls.mono hh ?_
    rintro e w2 ⟨v, rfl, c, rfl, h1, h2⟩
    refine ⟨_, rfl, ?_⟩
    simp only [bq_neq, bV_b, decide_eq_true_eq, decide_eq_false_iff_not]
    refine ⟨fun hc => h1 hc, fun hc => ?_⟩
    rw [e4]
    exact hN (8 - (k + 1)) _ _ (by omega) ⟨k + 1, by omega, rfl, rfl, h2 (by omega)⟩
  · have : k = 8 := by omega
    subst this
    exact hR w' hJ
/-- the bytes of eight sectors -/
def pgs (L : List (List UInt8)) (a : Nat) : List UInt8 := ((L.drop a).take 8).flatten
theorem DK.read_ok {d : DK} (ho : d.off = false) {a : Nat} (ha : a < d.now.length) : d.read (a : Nat) = (d.now.getD a [], 0) := by
  unfold DK.read
  rw [if_pos (by omega), ho]
  simp
theorem DiskAt.sz {w : World} {b : Nat} {d : DK} {S : List Nat} (h : DiskAt w b d S) : ∀ x ∈ d.now, x.length = 32 := by
  obtain ⟨bs, bn, lv, SL, T, Ts, Tn, rfl, h⟩ := h
  exact h.ok.sz2
theorem flat_take {L : List (List UInt8)} {a k : Nat} (hk : a + k < L.length) : ((L.drop a).take k).flatten ++ L.getD (a + k) [] = ((L.drop a).take (k + 1)).flatten := by
  have hg : k < (L.drop a).length := by rw [List.length_drop]; omega
  rw [take_snoc hg, List.flatten_append]
  congr 1
  rw [List.getElem_drop]
  simp [List.getD, hk]
theorem pgs_len {L : List (List UInt8)} (h : ∀ x ∈ L, x.length = 32) {a : Nat} (ha : a + 8 ≤ L.length) : (pgs L a).length = 256 := by
  unfold pgs
  rw [flat_len (k := 32) (fun x hx => h x (List.mem_of_mem_drop (List.mem_of_mem_take hx)))]
  rw [List.length_take, List.length_drop]; omega
theorem flat_le {L : List (List UInt8)} (h : ∀ x ∈ L, x.length = 32) {a k : Nat} (hk : k ≤ 8) : (((L.drop a).take k).flatten).length ≤ 256 := by
  rw [flat_len (k := 32) (fun x hx => h x (List.mem_of_mem_drop (List.mem_of_mem_take hx)))]
  rw [List.length_take]; omega
theorem reads_spec (h : Sp0 w b bd fr pages d Sd) (ho : d.off = false) (at_ : Nat) (hat : at_ < pages + 3) (hR : ∀ w', Kp [] w w' → R (.tuple #[.string (str (pgs d.now (fr + 8 * at_))), .int .i64 0]) w') :
    callG Tryz.prog 47 #[.pointer (some ⟨b, 0, none⟩), .int .i64 (at_ : Nat)] w R := by
  refine space_Space_reads_call ?_
  unfold space_Space_reads space_Space_reads_s0
  have hmost := h.disk.dlen
  have hsz := h.disk.sz
  have hfit := h.fit
  simp only [newG_k]
  generalize hw1 : w.alloc (.cells (Value.cells (.pointer (some ⟨b, 0, none⟩))) 27) = w1
  have hx : w1.heap[w.heap.size]? = some (.cells (Value.cells (.pointer (some ⟨b, 0, none⟩))) 27) := by rw [← hw1]; exact heap_new
  have k1 : Kp [] w w1 := by rw [← hw1]; exact (Kp.refl [] w).alloc _
  rw [zcB]
  generalize hw2 : w1.alloc (.cells #[.pointer none, .slice none 0 0] 120) = w2
  have hb2 : Bd w1 w2 w1.heap.size [] := by rw [← hw2]; exact bd_new
  have hld : ∀ w', Kp [] w1 w' → ∀ K : Value → Prop, ld1 (.pointer (some ⟨w.heap.size, 0, none⟩)) w' K = K (.pointer (some ⟨b, 0, none⟩)) := fun w' hk K => ldF (x := .pointer (some ⟨b, 0, none⟩)) (hk.get hx (by simp)) rfl
  rw [hld w2 hb2.kp, mk_func]
  refine sectors_spec at_ (by omega) 76 (by kernel_rfl) #[.pointer (some ⟨w.heap.size, 0, none⟩), .pointer (some ⟨w1.heap.size, 0, none⟩)] (fr := fr) (by omega)
    (fun k w' => Bd w1 w' w1.heap.size ((d.now.drop (fr + 8 * at_)).take k).flatten) ?_ ?_ (by simpa using hb2) ?_
  · exact fun k w' hB K => (h.keep (k1.trans' hB.kp) (by simp) (by simp)).l1 K
  · intro k w' hk hB
    have h' := h.keep (k1.trans' hB.kp) (by simp) (by simp)
    show callG Tryz.prog _ #[.int .i64 (k : Nat), .int .i64 ((fr + 8 * at_ + k : Nat) : Int), .pointer (some ⟨w.heap.size, 0, none⟩), .pointer (some ⟨w1.heap.size, 0, none⟩)] w' _
    refine space_Space_reads_1_call ?_
    unfold space_Space_reads_1 space_Space_reads_1_s0
    rw [hld w' hB.kp, nk_p, fa_p, h'.l0]
    refine Read_spec h'.disk _ ?_
    rw [DK.read_ok ho (by omega), ex0, ex1]
    have hlk : ((d.now.getD (fr + 8 * at_ + k) [])).length = 32 := by
      have hi : fr + 8 * at_ + k < d.now.length := by omega
      have : d.now.getD (fr + 8 * at_ + k) [] = d.now[fr + 8 * at_ + k] := by simp [List.getD, hi]
      rw [this]; exact hsz _ (List.getElem_mem _)
    refine bd_string hB _ (by have := flat_le hsz (a := fr + 8 * at_) (k := k) (by omega); rw [hlk]; omega) fun w'' hB' => ?_
    refine ⟨0, rfl, fun hh => absurd rfl hh, fun _ => ?_⟩
    rw [flat_take (by omega)] at hB'
    exact hB'
  · intro w' hB
    simp only [bq_neq, bV_b, decide_eq_true_eq]
    refine ⟨fun hh => by simp at hh, fun _ => ?_⟩
    refine bd_text hB (by have := flat_le hsz (a := fr + 8 * at_) (k := 8) (by omega); omega) fun w'' hk => ?_
    exact hR w'' (k1.trans' hk)
/-- some sectors are written -/
def wrs : Nat → DK → Nat → List UInt8 → DK × Int
  | 0, d, _, _ => (d, 0)
  | n + 1, d, a, t => if (d.write (a : Nat) (t.take 32)).2 ≠ 0 then d.write (a : Nat) (t.take 32) else wrs n (d.write (a : Nat) (t.take 32)).1 (a + 1) (t.drop 32)
theorem write_log (d : DK) (a : Int) (t : List UInt8) : (d.write a t).1.l.length ≤ d.l.length + 1 ∧ (d.write a t).1.now.length = d.now.length := by
  have hb := d.burns_now
  unfold DK.write
  split
  · split
    · simp
    · rw [hb.1, hb.2.1]; omega
  · exact ⟨by simp, rfl⟩
theorem wrs_log : ∀ (n : Nat) (d : DK) (a : Nat) (t : List UInt8), (wrs n d a t).1.l.length ≤ d.l.length + n ∧ (wrs n d a t).1.now.length = d.now.length
  | 0, d, a, t => ⟨by simp [wrs], rfl⟩
  | n + 1, d, a, t => by
    have h1 := write_log d a (t.take 32)
    have h2 := wrs_log n (d.write (a : Nat) (t.take 32)).1 (a + 1) (t.drop 32)
    unfold wrs
    split <;> omega
theorem writes_spec (h : Sp0 w b bd fr pages d Sd) (hl : d.l.length + 8 < 2 ^ 40) (at_ : Nat) (hat : at_ < pages + 3) (t : List UInt8) (ht : t.length = 256)
    (hR : ∀ w' S', DiskAt w' bd (wrs 8 d (fr + 8 * at_) t).1 S' → Kp Sd w w' → (∀ x ∈ S', x ∈ Sd ∨ w.heap.size ≤ x) → R (.int .i64 (wrs 8 d (fr + 8 * at_) t).2) w') :
    callG Tryz.prog 54 #[.pointer (some ⟨b, 0, none⟩), .int .i64 (at_ : Nat), .string (str t)] w R := by
  refine space_Space_writes_call ?_
  unfold space_Space_writes space_Space_writes_s0
  have hmost := h.disk.dlen
  have hfit := h.fit
  simp only [newG_k]
  generalize hw1 : w.alloc (.cells (Value.cells (.pointer (some ⟨b, 0, none⟩))) 27) = w1
  have hx : w1.heap[w.heap.size]? = some (.cells (Value.cells (.pointer (some ⟨b, 0, none⟩))) 27) := by rw [← hw1]; exact heap_new
  have k1 : Kp [] w w1 := by rw [← hw1]; exact (Kp.refl [] w).alloc _
  generalize hw2 : w1.alloc (.cells (Value.cells (.string (str t))) 9) = w2
  have hy : w2.heap[w1.heap.size]? = some (.cells (Value.cells (.string (str t))) 9) := by rw [← hw2]; exact heap_new
  have k2 : Kp [] w1 w2 := by rw [← hw2]; exact (Kp.refl [] w1).alloc _
  have hx2 := k2.get hx (by simp)
  have hlts := h.disk.lts
  have n1 : w.heap.size ∉ Sd := fun hm => by have := hlts _ hm; omega
  have n2 : w1.heap.size ∉ Sd := fun hm => by have := hlts _ hm; have := k1.size; omega
  have k12 := k1.trans' k2
  have h2 := h.keep k12 (by simp) (by simp)
  have hldx : ∀ w', Kp Sd w2 w' → ∀ K : Value → Prop, ld1 (.pointer (some ⟨w.heap.size, 0, none⟩)) w' K = K (.pointer (some ⟨b, 0, none⟩)) := fun w' hk K => ldF (x := .pointer (some ⟨b, 0, none⟩)) (hk.get hx2 n1) rfl
  have hldy : ∀ w', Kp Sd w2 w' → ∀ K : Value → Prop, ld1 (.pointer (some ⟨w1.heap.size, 0, none⟩)) w' K = K (.string (str t)) := fun w' hk K => ldF (x := .string (str t)) (hk.get hy n2) rfl
  rw [hldx w2 (Kp.refl _ _), mk_func]
  have ks : ∀ w', Kp Sd w2 w' → Kp Sd w w' := fun w' hk => (k12.mono (by simp)).trans' hk
  refine sectors_spec at_ (by omega) 84 (by kernel_rfl) #[.pointer (some ⟨w.heap.size, 0, none⟩), .pointer (some ⟨w1.heap.size, 0, none⟩)] (fr := fr) (by omega)
    (fun k w' => ∃ dk S', wrs 8 d (fr + 8 * at_) t = wrs (8 - k) dk (fr + 8 * at_ + k) (t.drop (32 * k)) ∧ dk.l.length ≤ d.l.length + k ∧ dk.now.length = d.now.length ∧ DiskAt w' bd dk S' ∧ Kp Sd w2 w' ∧ (∀ x ∈ S', x ∈ Sd ∨ w2.heap.size ≤ x)) ?_ ?_ ⟨d, Sd, by simp, by omega, rfl, h2.disk, Kp.refl _ _, fun x hx => .inl hx⟩ ?_
  · rintro k w' ⟨dk, S', _, _, hn, hD, hk, hS⟩ K
    exact (h2.setD hD hk hS hn).l1 K
  · rintro k w' hk8 ⟨dk, S', he, hlk, hn, hD, hk, hS⟩
    have h' := h2.setD hD hk hS hn
    show callG Tryz.prog _ #[.int .i64 (k : Nat), .int .i64 ((fr + 8 * at_ + k : Nat) : Int), .pointer (some ⟨w.heap.size, 0, none⟩), .pointer (some ⟨w1.heap.size, 0, none⟩)] w' _
    refine space_Space_writes_1_call ?_
    unfold space_Space_writes_1 space_Space_writes_1_s0
    have hkd := hk.drew
    have hd' := h'.keep ((Kp.refl [] w').drew) (by simp) (by simp)
    rw [hldx _ hkd, nk_p, fa_p, hd'.l0, hldy _ hkd]
    have e1 : IntKind.i64.wrap (32 * (k : Int)) = ((32 * k : Nat) : Int) := by rw [w64 (by omega) (by omega)]; simp
    have e2 : IntKind.i64.wrap (((32 * k : Nat) : Int) + 32) = ((32 * k + 32 : Nat) : Int) := by rw [w64 (by omega) (by omega)]; simp
    have e3 : ∀ K : Value → Prop, slS (.string (str t)) (some (.int .i64 ((32 * k : Nat) : Int))) (some (.int .i64 ((32 * k + 32 : Nat) : Int))) K = K (.string (str ((t.drop (32 * k)).take 32))) := fun K => by
      have hb2 : 32 * k + 32 ≤ t.length := by omega
      have hb3 : ((32 * k + 32 : Nat) : Int) ≤ (t.length : Int) := by omega
      have hb4 : ((32 * k : Nat) : Int) ≤ ((32 * k + 32 : Nat) : Int) := by omega
      simp only [slS_p, bnd_some, str_size, Int.toNat_natCast]
      rw [str_extract, List.take_drop]
      exact propext ⟨fun h => h.2.2, fun h => ⟨⟨by omega, hb3⟩, ⟨by omega, hb4⟩, h⟩⟩
    simp only [bq_mul, e1, bq_add, e2]
    rw [e3]
    refine Write_spec hd'.disk (by omega) _ _ fun w'' S'' hD' hk' hS' => ?_
    have hwl := write_log dk ((fr + 8 * at_ + k : Nat) : Int) ((t.drop (32 * k)).take 32)
    have hst : wrs (8 - k) dk (fr + 8 * at_ + k) (t.drop (32 * k)) = if (dk.write ((fr + 8 * at_ + k : Nat) : Int) ((t.drop (32 * k)).take 32)).2 ≠ 0 then dk.write ((fr + 8 * at_ + k : Nat) : Int) ((t.drop (32 * k)).take 32) else wrs (8 - (k + 1)) (dk.write ((fr + 8 * at_ + k : Nat) : Int) ((t.drop (32 * k)).take 32)).1 (fr + 8 * at_ + (k + 1)) (t.drop (32 * (k + 1))) := by
      have : 8 - k = (8 - (k + 1)) + 1 := by omega
      rw [this]
      show (if _ then _ else wrs _ _ _ _) = _
      rw [List.drop_drop]
      rfl
    have hkw : Kp Sd w2 w'' := (hk.drew).trans hk' fun x hx hlt => by
      rcases hS x hx with hh | hh
      · exact hh
      · omega
    have hSw : ∀ x ∈ S'', x ∈ Sd ∨ w2.heap.size ≤ x := fun x hx => by
      rcases hS' x hx with hh | hh
      · exact hS x hh
      · have : w'.drew.heap.size = w'.heap.size := rfl
        have := hk.size
        right; omega
    refine ⟨_, rfl, fun hc => ?_, fun hc => ?_⟩
    · rw [if_pos hc] at hst
      rw [he, hst] at hR
      exact hR w'' S'' hD' (ks w'' hkw) fun x hx => (hSw x hx).imp id fun h' => by have := k12.size; omega
    · rw [if_neg (by rw [hc]; simp)] at hst
      exact ⟨_, S'', he.trans hst, by omega, by omega, hD', hkw, hSw⟩
  · rintro w' ⟨dk, S', he, _, hn, hD, hk, hS⟩
    have e8 : wrs 8 d (fr + 8 * at_) t = (dk, 0) := he
    rw [e8] at hR
    exact hR w' S' hD (ks w' hk) fun x hx => (hS x hx).imp id fun h' => by have := k12.size; omega
/-! ### the head of a turn -/
def headB (turn pages : Nat) : List UInt8 := put4 ((turn * 4096 + pages : Nat) : Int) ++ put4 (crcMore 0 (put4 ((turn * 4096 + pages : Nat) : Int))) ++ List.replicate 24 0
theorem headB_len (turn pages : Nat) : (headB turn pages).length = 32 := by simp [headB, put4]
theorem head_spec (h : Sp0 w b bd fr pages d Sd) (turn : Nat) (ht : turn < 2 ^ 22) (hR : ∀ w', Kp [] w w' → R (.string (str (headB turn pages))) w') : callG Tryz.prog 15 #[.pointer (some ⟨b, 0, none⟩), .int .i64 (turn : Nat)] w R := by
  refine space_Space_head_call ?_
  unfold space_Space_head space_Space_head_s0
  have hm := h.most
  have e0 : IntKind.i64.wrap ((turn : Int) * 2 ^ 12) = ((turn * 4096 : Nat) : Int) := by rw [w64 (by omega) (by omega)]; omega
  have e1 : turn * 4096 ||| pages = turn * 4096 + pages := by
    rw [Nat.or_comm, show (4096 : Nat) = 2 ^ 12 from rfl, or_add (by omega), Nat.add_comm]
  rw [shl_of (by omega) (by decide)]
  rw [show (12 : Int).toNat = 12 from rfl, e0, nk_p, fa_p, h.l2, or64_of (by omega) (by omega), e1]
  refine Put_spec _ fun w1 k1 => ?_
  have l4 : ∀ x, (put4 x).length = 4 := fun x => rfl
  refine Sum_spec _ (by rw [l4]; omega) ?_
  refine Put_spec _ fun w2 k2 => ?_
  have e2 : IntKind.i64.wrap (32 - ((8 : Nat) : Int)) = ((24 : Nat) : Int) := by rw [w64 (by omega) (by omega)]; rfl
  rw [bq_sadd (by rw [str_size, str_size, l4, l4]; omega), str_append]
  simp only [lenS_s, str_size, List.length_append, l4, bq_sub]
  rw [show (4 + 4 : Nat) = 8 from rfl, e2]
  refine Repeat_spec (.inl rfl) fun w3 k3 => ?_
  rw [bq_sadd (by rw [str_size, str_size, List.length_append, l4, l4, List.length_replicate]; omega), str_append]
  exact hR w3 ((k1.trans' k2).trans' k3)
end
end Go.Proofs

/- Layer 13: a state as a value; its copy. -/
set_option maxRecDepth 100000
set_option linter.unusedVariables false
set_option linter.unusedSimpArgs false
namespace Go.Proofs
open Go Go.Q
theorem mapT : SMapT Tryz.prog 55 9 3 := ⟨by kernel_rfl, by kernel_rfl, fun w => rfl⟩
theorem ex1of1 {a : Value} {w : World} {K : Value → Prop} : qG Tryz.prog (Instr.extract (.tuple #[a]) 0) w K = K a := qG_of rfl
theorem ex1of3 {a b c : Value} {w : World} {K : Value → Prop} : qG Tryz.prog (Instr.extract (.tuple #[a, b, c]) 0) w K = K a := qG_of rfl
def stC (u : List UInt8) (v : Value) : Array Value := arC [] u [v]
def z63 : List UInt8 := List.replicate 63 0
theorem zcS : zc Tryz.prog 57 = stC z63 (.map none) := by kernel_rfl
theorem stC_size {u : List UInt8} (hu : u.length = 63) (v : Value) : (stC u v).size = 64 := by
  unfold stC; rw [arC_size]; simp [hu]
theorem stC_one {u : List UInt8} {v : Value} (hv : Q.one v = true) : (stC u v).all Q.one = true := by
  unfold stC arC
  simp [u8c, hv]
theorem bldS {u : List UInt8} (hu : u.length = 63) {m : Option Nat} {K : Value → Prop} : bld [(0, 63), (63, 1)] (zc Tryz.prog 57) #[(0, .agg (u8c u).toArray), (1, .map m)] K = K (.agg (stC u (.map m))) := by
  have hz : (zc Tryz.prog 57).size = 64 := by rw [zcS]; exact stC_size (by simp [z63]) _
  have hcs : (Value.cells (.agg (u8c u).toArray)).size = 63 := by simp [Value.cells, hu]
  have hss : (splice (zc Tryz.prog 57) 0 (Value.cells (.agg (u8c u).toArray))).size = 64 := by rw [splice_size (by rw [hcs, hz]; omega), hz]
  unfold bld
  rw [fill_step (off := 0) (size := 63) rfl hcs (by omega), fill_step (off := 63) (size := 1) rfl rfl (by omega)]
  have hdrop : (zc Tryz.prog 57).toList.drop 64 = [] := List.drop_of_length_le (by rw [Array.length_toList, hz]; omega)
  have e : splice (splice (zc Tryz.prog 57) 0 (Value.cells (.agg (u8c u).toArray))) 63 (Value.cells (.map m)) = stC u (.map m) := by
    simp [splice, Value.cells, hu, stC, arC, hdrop]
    rw [hz]; omega
  simp only [Instr.fill, e]
theorem bldS1 {m : Option Nat} {K : Value → Prop} : bld [(0, 63), (63, 1)] (zc Tryz.prog 57) #[(1, .map m)] K = K (.agg (stC z63 (.map m))) := by
  have hz : (zc Tryz.prog 57).size = 64 := by rw [zcS]; exact stC_size (by simp [z63]) _
  unfold bld
  rw [fill_step (off := 63) (size := 1) rfl rfl (by omega)]
  have e : splice (zc Tryz.prog 57) 63 (Value.cells (.map m)) = stC z63 (.map m) := by
    rw [zcS]; simp [splice, Value.cells, z63, stC, arC]
  simp only [Instr.fill, e]
theorem bldS0 {K : Value → Prop} : bld [(0, 63), (63, 1)] (zc Tryz.prog 57) #[] K = K (.agg (stC z63 (.map none))) := by
  unfold bld
  simp only [Instr.fill, zcS]
theorem key_inj {m : List SE} (h : (m.map (·.k)).Nodup) {a e : SE} (ha : a ∈ m) (he : e ∈ m) (hb : a.k = e.k) : a = e := by
  induction m with
  | nil => cases ha
  | cons x r ih =>
    rw [List.map_cons, List.nodup_cons] at h
    rcases List.mem_cons.1 ha with h1 | ha
    · rcases List.mem_cons.1 he with h2 | he
      · rw [h1, h2]
      · exact absurd (List.mem_map.2 ⟨e, he, by rw [← hb, h1]⟩) h.1
    · rcases List.mem_cons.1 he with h2 | he
      · exact absurd (List.mem_map.2 ⟨a, ha, by rw [hb, h2]⟩) h.1
      · exact ih h.2 ha he
theorem sub_len : ∀ {a b : List Nat}, a.Nodup → (∀ x ∈ a, x ∈ b) → a.length ≤ b.length
  | [], b, _, _ => by simp
  | x :: r, b, hn, hs => by
    rw [List.nodup_cons] at hn
    have h1 := sub_len (a := r) (b := b.erase x) hn.2 fun y hy => by
      rw [List.mem_erase_of_ne (by rintro rfl; exact hn.1 hy)]
      exact hs y (by simp [hy])
    have hx : x ∈ b := hs x (by simp)
    have := List.length_erase_of_mem hx
    have := List.length_pos_of_mem hx
    simp only [List.length_cons]
    omega
theorem done_len {m done : List SE} {e : SE} (hd : (done.map (·.b)).Nodup) (hs : ∀ x ∈ done, x ∈ m) (he : e ∈ m) (hn : e.b ∉ done.map (·.b)) : done.length < m.length := by
  have := sub_len (a := e.b :: done.map (·.b)) (b := m.map (·.b)) (List.nodup_cons.2 ⟨hn, hd⟩) fun x hx => by
    rcases List.mem_cons.1 hx with rfl | hx
    · exact List.mem_map_of_mem he
    · obtain ⟨a, ha, rfl⟩ := List.mem_map.1 hx
      exact List.mem_map_of_mem (hs a ha)
  simp at this
  omega
theorem put_perm {m done : List SE} {e : SE} (hk : (m.map (·.k)).Nodup) (hs : ∀ x ∈ done, x ∈ m) (he : e ∈ m) (hn : e.b ∉ done.map (·.b)) : (putN (done.map SE.kv) e.k e.v).Perm ((done ++ [e]).map SE.kv) := by
  unfold putN
  rw [List.filter_eq_self.2, List.map_append]
  · exact (List.perm_append_comm (l₁ := [SE.kv e])).trans (List.Perm.refl _)
  · intro x hx
    obtain ⟨a, ha, rfl⟩ := List.mem_map.1 hx
    exact decide_eq_true fun hh => hn (key_inj hk (hs a ha) he hh ▸ List.mem_map_of_mem ha)
section
variable {w w' : World} {R : Value → World → Prop}
theorem copied_spec {u : List UInt8} {m : Nat} {L : List (List UInt8 × Int)} (hu : u.length = 63) (h : SMap w m L) (hR : ∀ w' m', w.heap.size ≤ m' → SMap w' m' L → Kp [] w w' → R (.agg (stC u (.map (some m')))) w') :
    callG Tryz.prog 17 #[.agg (stC u (.map (some m)))] w R := by
  refine space_state_copied_call ?_
  unfold space_state_copied space_state_copied_s4
  refine argB fun p w1 hp1 hp k1 => ?_
  refine newB fun q w2 hq1 hq k2 => ?_
  refine SMap.new fun m2 w3 hm2 k3 hM => ?_
  have k13 := (k1.trans' k2).trans' k3
  have h3 := h.keep k13 (by simp)
  obtain ⟨es, clock, hE, hperm⟩ := h3
  have hp3 := k3.get (k2.get hp (by simp)) (by simp)
  have hq3 := k3.get hq (by simp)
  have z1 := k1.size
  have z2 := k2.size
  have z3 := k3.size
  have lp := lt_of_blk hp
  have lq := lt_of_blk hq
  have lm := h.lt
  have lm2 := hM.lt
  unfold space_state_copied_s3
  have hsz : (stC u (.map (some m))).size = 64 := stC_size hu _
  have hld : ∀ w', w'.heap[p]? = some (.cells (stC u (.map (some m))) 57) → ∀ K : Value → Prop, ld1 (.pointer (some ⟨p, 0 + 63, none⟩)) w' K = K (.map (some m)) := fun w' hb K => by
    refine ldF hb ?_
    unfold stC arC
    rw [List.getElem?_toArray, List.nil_append, List.getElem?_append_right (by simp [hu])]
    simp [hu]
  rw [fa_p, hld _ hp3]
  refine it_new mapT hE fun it w4 hit k4 hI => ?_
  unfold space_state_copied_L2
  have lit := lt_of_blk hI
  refine loop_inv (fun n xs w' => ∃ done, n = es.length - done.length ∧ xs = [.pointer (some ⟨p, 0, none⟩), .pointer (some ⟨q, 0, none⟩), .map (some m2), .pointer (some ⟨it, 0, none⟩)] ∧ It w' it m clock done ∧ (done.map (·.b)).Nodup ∧ (∀ e ∈ done, e ∈ es) ∧ SMap w' m2 (done.map SE.kv) ∧ Kp [it, m2] w4 w') ?_ (m := es.length) ⟨[], by simp, rfl, hI, by simp, by simp, hM.keep k4 (by simp), Kp.refl _ _⟩
  rintro n N xs w' ⟨done, rfl, rfl, hI', hnd, hsub, hM', hk⟩ hN
  have hE' := (hE.keep k4 (by simp)).keep hk (by simp; omega)
  have hq' := hk.get (k4.get hq3 (by simp)) (by simp; omega)
  have hp' := hk.get (k4.get hp3 (by simp)) (by simp; omega)
  unfold space_state_copied_L2F space_state_copied_b1
  dsimp only
  refine it_next hE' hI' (fun hall => ?_) fun e he hne w5 k5 hI5 => ?_
  · rw [ex1of1]
    simp only [bV_b]
    refine ⟨fun hh => by simp at hh, fun _ => ?_⟩
    unfold space_state_copied_s0
    rw [fa_p, ldP (p := (u8c u).toArray) hp' (by have := arC_extract (pre := []) (b := u) (post := [.map (some m)]) (lo := 0) (n := 63) (by omega); simpa [stC, hu, List.take_of_length_le] using this) (by rw [hsz]; omega), bldS hu]
    refine retB (by kernel_rfl) (by kernel_rfl) hq' (by rw [zcS]; exact stC_size (by simp [z63]) _) (stC_size hu _) (stC_one rfl) fun w6 k6 => ?_
    have hfin : done.Perm es := it_all hE.nb hnd hsub hall
    refine hR w6 m2 (by omega) ((hM'.perm ((hfin.map _).trans hperm)).keep k6 (by simp; omega)) ?_
    have ka : Kp [] w w4 := k13.trans' k4
    refine (ka.trans hk fun x hx hlt => ?_).trans k6 fun x hx hlt => ?_
    · simp at hx; omega
    · simp at hx; omega
  · rw [ex1of3]
    simp only [bV_b]
    refine ⟨fun _ => ?_, fun hh => by simp at hh⟩
    have hE5 := hE'.keep k5 (by simp; omega)
    refine it_entry hE5 he hI5 ?_
    rw [ex0, ex1]
    refine (hM'.keep k5 (by simp; omega)).put mapT e.v fun w6 hM6 k6 => ?_
    have := done_len hnd hsub he hne
    refine hN (es.length - (done ++ [e]).length) _ w6 (by simp; omega) ⟨done ++ [e], rfl, rfl, hI5.keep k6 (by simp; omega), done_snoc hnd hne, fun x hx => ?_, hM6.perm (put_perm hE.nk hsub he hne), ?_⟩
    · rcases List.mem_append.1 hx with hx | hx
      · exact hsub x hx
      · simp at hx; exact hx ▸ he
    · exact (hk.trans k5 fun x hx hlt => by simp at hx; simp [hx]).trans k6 fun x hx hlt => by simp at hx; simp [hx]
end
end Go.Proofs

/- Layer 13: the state of a turn's map. -/
set_option maxRecDepth 100000
set_option linter.unusedVariables false
set_option linter.unusedSimpArgs false
namespace Go.Proofs
open Go Go.Q
def vB (v : Int) : List UInt8 := [UInt8.ofNat v.toNat, UInt8.ofNat (v.toNat / 256)]
def nmP (x : List UInt8 × Int) : KV := (110 :: x.1, vB x.2)
/-- a state as the keys of a page -/
def stL (u : List UInt8) (N : List (List UInt8 × Int)) : List KV := N.map nmP ++ [([117], u)]
theorem stL_get {u : List UInt8} {N : List (List UInt8 × Int)} {k : Nat} (hk : k < N.length) (h : k < (stL u N).length) : (stL u N)[k] = nmP N[k] := by
  apply Option.some.inj
  rw [← List.getElem?_eq_getElem h]
  unfold stL
  rw [List.getElem?_append_left (by simpa using hk)]
  simp [hk]
theorem stL_last {u : List UInt8} {N : List (List UInt8 × Int)} (h : N.length < (stL u N).length) : (stL u N)[N.length] = ([117], u) := by
  apply Option.some.inj
  rw [← List.getElem?_eq_getElem h]
  unfold stL
  rw [List.getElem?_append_right (by simp)]
  simp
section
variable {w w' : World} {R : Value → World → Prop}
theorem bq_eqs {P : Program} {T : TypeId} {xo yo : Operand} {a b : List UInt8} {K : Value → Prop} : qG P (bq .eql T xo yo (.string (str a)) (.string (str b))) w K = K (.bool (decide (a = b))) := by
  rw [bq_seql]
  congr 2
  have := strV_inj (a := a) (b := b)
  simp only [Value.string.injEq] at this
  exact decide_eq_decide.2 this
theorem bq_nes {P : Program} {T : TypeId} {xo yo : Operand} {a b : List UInt8} {K : Value → Prop} : qG P (bq .neq T xo yo (.string (str a)) (.string (str b))) w K = K (.bool (!decide (a = b))) := by
  rw [bq_sneq]
  congr 3
  have := strV_inj (a := a) (b := b)
  simp only [Value.string.injEq] at this
  exact decide_eq_decide.2 this
theorem slS_tail {c : UInt8} {t : List UInt8} {K : Value → Prop} : slS (.string (str (c :: t))) (some (.int .i64 1)) none K = K (.string (str t)) := by
  have hx : (str (c :: t)).extract 1 (t.length + 1) = str t := by rw [str_extract]; simp
  simp only [slS_p, bnd_some, bnd_none, str_size, List.length_cons, Int.toNat_one, hx]
  exact propext ⟨fun h => h.2, fun h => ⟨by omega, h⟩⟩
theorem slS_head {s : List UInt8} {n : Nat} (h : n ≤ s.length) {K : Value → Prop} : slS (.string (str s)) none (some (.int .i64 (n : Nat))) K = K (.string (str (s.take n))) := by
  have hx : (str s).extract 0 n = str (s.take n) := by rw [str_extract]; simp
  simp only [slS_p, bnd_some, bnd_none, str_size, Int.toNat_natCast, hx]
  exact propext ⟨fun h => h.2, fun h => ⟨by omega, h⟩⟩
theorem prefix_spec {a b : List UInt8} (hR : R (.bool (decide (b.length ≤ a.length ∧ a.take b.length = b))) w) : callG Tryz.prog 52 #[.string (str a), .string (str b)] w R := by
  refine strings_HasPrefix_call ?_
  unfold strings_HasPrefix strings_HasPrefix_s0
  refine internal_stringslite_HasPrefix_call ?_
  unfold internal_stringslite_HasPrefix internal_stringslite_HasPrefix_s0
  simp only [lenS_s, str_size, bq_geq, bV_b, decide_eq_true_eq, decide_eq_false_iff_not]
  refine ⟨fun h => ?_, fun h => ?_⟩
  · have h : b.length ≤ a.length := by omega
    rw [slS_head h, bq_eqs]
    have : decide (b.length ≤ a.length ∧ a.take b.length = b) = decide (a.take b.length = b) := by simp [h]
    rw [this] at hR
    exact hR
  · rw [decide_eq_false (fun hh => h (by omega))] at hR
    exact hR
theorem vB_val {v : Int} (h0 : 0 ≤ v) (h1 : v < 65536) : (UInt8.ofNat v.toNat).toNat ||| ((UInt8.ofNat (v.toNat / 256)).toNat * 2 ^ 8) = v.toNat := by
  rw [or_add (UInt8.toNat_lt _)]
  simp
  omega
theorem putN_take {N : List (List UInt8 × Int)} (hn : (N.map (·.1)).Nodup) {k : Nat} (hk : k < N.length) : (putN (N.take k) N[k].1 N[k].2).Perm (N.take (k + 1)) := by
  have ht : N.take (k + 1) = N.take k ++ [N[k]] := take_snoc hk
  have hnn : ((N.take k ++ [N[k]]).map (·.1)).Nodup := by
    rw [← ht]
    exact hn.sublist ((List.take_sublist _ _).map _)
  unfold putN
  rw [List.filter_eq_self.2, ht]
  · exact List.perm_append_comm (l₁ := [N[k]])
  · intro x hx
    refine decide_eq_true fun hh => ?_
    rw [List.map_append, List.nodup_append] at hnn
    exact hnn.2.2 x.1 (List.mem_map_of_mem hx) N[k].1 (by simp) hh
theorem read_spec {b bd fr pages : Nat} {d : DK} {Sd : List Nat} (h : Sp0 w b bd fr pages d Sd) (ho : d.off = false) {turn : Nat} {u : List UInt8} {N : List (List UInt8 × Int)} (hu : u.length = 63) (hv : ∀ x ∈ N, 0 ≤ x.2 ∧ x.2 < 65536)
    (hf : Fit (stL u N)) (hs : SortK (stL u N)) (hp : pgs d.now (fr + 8 * (1 + turn % 2)) = bytesP (lay 200 (stL u N)))
    (hR : ∀ w' m, w.heap.size ≤ m → SMap w' m N → Kp [] w w' → R (.tuple #[.agg (stC u (.map (some m))), .bool true]) w') : callG Tryz.prog 16 #[.pointer (some ⟨b, 0, none⟩), .int .i64 (turn : Nat)] w R := by
  have hnd : (N.map (·.1)).Nodup := by
    unfold SortK stL at hs
    rw [List.pairwise_append] at hs
    have h1 := hs.1
    rw [List.pairwise_map] at h1
    rw [List.nodup_iff_pairwise_ne, List.pairwise_map]
    refine h1.imp ?_
    intro a c hlt he
    refine lexL_ne hlt ?_
    show 110 :: a.1 = 110 :: c.1
    rw [he]
  refine space_Space_read_call ?_
  unfold space_Space_read space_Space_read_s12
  refine newB fun r w1 hr1 hr k1 => ?_
  have e1 : IntKind.i64.wrap (1 + ((turn % 2 : Nat) : Int)) = ((1 + turn % 2 : Nat) : Int) := by rw [w64 (by omega) (by omega)]; omega
  have e2 : ((turn : Int) % 2) = ((turn % 2 : Nat) : Int) := by simp
  rw [rem_of (by omega) (by omega), e2]
  simp only [bq_add, e1]
  have hm := h.most
  refine reads_spec (h.keep k1 (by simp) (by simp)) ho _ (by omega) fun w2 k2 => ?_
  rw [ex0, ex1, hp]
  simp only [bq_neq, bV_b, decide_eq_true_eq]
  refine ⟨fun hh => by simp at hh, fun _ => ?_⟩
  refine pRead_good (by decide) hf hs fun w3 p hp3 hpg k3 => ?_
  rw [ex0, ex1]
  simp only [bq_neq, bV_b, decide_eq_true_eq]
  refine ⟨fun hh => by simp at hh, fun _ => ?_⟩
  refine pKind_spec hpg ?_
  simp only [bq_neq, bV_b, decide_eq_true_eq]
  refine ⟨fun hh => by simp at hh, fun _ => ?_⟩
  unfold space_Space_read_s11
  refine SMap.new fun m w4 hm4 k4 hM => ?_
  rw [bldS1]
  refine newB fun x w5 hx5 hx k5 => ?_
  have z1 := k1.size
  have z2 := k2.size
  have z3 := k3.size
  have z4 := k4.size
  have z5 := k5.size
  have lr := lt_of_blk hr
  have lm := hM.lt
  have lx := lt_of_blk hx
  have lp := hpg.1.lt
  rw [stA hx (by rw [zcS]; exact stC_size (by simp [z63]) _) (stC_size (by simp [z63]) _) (stC_one rfl)]
  generalize hw6 : setBlk w5 x (.cells (stC z63 (.map (some m))) 57) = w6
  have hx6 : w6.heap[x]? = some (.cells (stC z63 (.map (some m))) 57) := by rw [← hw6]; exact heap_self (live_of hx)
  have k6 : Kp [x] w5 w6 := by rw [← hw6]; exact (Kp.refl _ _).setBlk (.inl (by simp)) _
  have k36 : Kp [] w3 w6 := ((k4.trans' k5).trans k6 fun y hy hlt => by simp at hy; omega)
  have hr6 := k6.get (k5.get (k4.get (k3.get (k2.get hr (by simp)) (by simp)) (by simp)) (by simp)) (by simp; omega)
  have hM6 := (hM.keep k5 (by simp)).keep k6 (by simp; omega)
  have hp6 := hpg.keep k36 (by simp)
  have k06 : Kp [] w w6 := ((k1.trans' k2).trans' k3).trans' k36
  have z6 := k6.size
  unfold space_Space_read_s10
  refine pLen_spec hp6 ?_
  have hlen : (stL u N).length = N.length + 1 := by simp [stL]
  have hN3 := hf.lens
  unfold space_Space_read_L9
  refine loop_inv (fun n xs w' => ∃ k, k ≤ N.length + 1 ∧ n = N.length + 1 - k ∧ xs = [.pointer (some ⟨r, 0, none⟩), .pointer (some ⟨p, 0, none⟩), .pointer (some ⟨x, 0, none⟩), .int .i64 ((stL u N).length : Nat), .int .i64 (k : Nat)] ∧ w'.heap[x]? = some (.cells (stC (if k ≤ N.length then z63 else u) (.map (some m))) 57) ∧ SMap w' m (N.take k) ∧ Kp [x, m] w6 w') ?_ (m := N.length + 1) ⟨0, by omega, rfl, rfl, by rw [if_pos (by omega)]; exact hx6, by simpa using hM6, Kp.refl _ _⟩
  rintro n NN xs w' ⟨k, hk, rfl, rfl, hx', hM', hk'⟩ hN
  unfold space_Space_read_L9F space_Space_read_s8
  dsimp only
  simp only [bq_lss, bV_b, decide_eq_true_eq, decide_eq_false_iff_not]
  refine ⟨fun hlt => ?_, fun hlt => ?_⟩
  · have hlt : k < (stL u N).length := by omega
    have hp' := hp6.keep hk' (by simp; omega)
    unfold space_Space_read_s7
    refine pAt_spec hp' hlt ?_
    rw [ex0, ex1]
    have hxd : w'.drew.heap[x]? = some (.cells (stC (if k ≤ N.length then z63 else u) (.map (some m))) 57) := hx'
    have hMd := hM'.keep ((Kp.refl [] w').drew) (by simp)
    have kd := hk'.drew
    have e4 : IntKind.i64.wrap ((k : Int) + 1) = ((k + 1 : Nat) : Int) := by rw [w64 (by omega) (by omega)]; simp
    have go : ∀ w'', w''.heap[x]? = some (.cells (stC (if k + 1 ≤ N.length then z63 else u) (.map (some m))) 57) → SMap w'' m (N.take (k + 1)) → Kp [x, m] w'.drew w'' → space_Space_read_s1 R NN (.pointer (some ⟨r, 0, none⟩)) (.pointer (some ⟨p, 0, none⟩)) (.pointer (some ⟨x, 0, none⟩)) (.int .i64 ((stL u N).length : Nat)) (.int .i64 (k : Nat)) w'' := fun w'' hx'' hM'' kk => by
      unfold space_Space_read_s1
      simp only [bq_add, e4]
      exact hN (N.length + 1 - (k + 1)) _ w'' (by omega) ⟨k + 1, by omega, rfl, rfl, hx'', hM'', kd.trans' kk⟩
    unfold space_Space_read_s6
    by_cases hkn : k < N.length
    · have hg : (stL u N)[k] = nmP N[k] := stL_get hkn hlt
      rw [hg]
      have e5 : decide ((nmP N[k]).1 = [117]) = false := decide_eq_false (by simp [nmP])
      rw [show (Value.string ⟨#[117]⟩) = .string (str [117]) from rfl, bq_eqs, e5]
      simp only [bV_b]
      refine ⟨fun hh => by simp at hh, fun _ => ?_⟩
      unfold space_Space_read_s5
      simp only [bV_b]
      refine ⟨fun hh => by simp at hh, fun _ => ?_⟩
      unfold space_Space_read_s4
      rw [show (Value.string ⟨#[110]⟩) = .string (str [110]) from rfl]
      refine prefix_spec ?_
      rw [decide_eq_true (by simp [nmP])]
      simp only [bV_b]
      refine ⟨fun _ => ?_, fun hh => by simp at hh⟩
      simp only [lenS_s, str_size]
      rw [bq_eql, show (nmP N[k]).2.length = 2 from rfl]
      unfold space_Space_read_s3
      simp only [bV_b]
      refine ⟨fun _ => ?_, fun hh => by simp at hh⟩
      rw [fa_p, ldF (w := w'.drew.drew) hxd (j := 0 + 63) (x := .map (some m)) (by
        rw [if_pos (by omega)]; rfl)]
      rw [show (nmP N[k]).1 = 110 :: N[k].1 from rfl, slS_tail]
      have hvv := hv _ (List.getElem_mem hkn)
      rw [show (nmP N[k]).2 = vB N[k].2 from rfl]
      rw [show (Value.int .i64 0) = .int .i64 ((0 : Nat) : Int) from rfl, ixS_str (s := vB N[k].2) (i := 0) (by simp [vB])]
      rw [cvI_i, show (Value.int .i64 1) = .int .i64 ((1 : Nat) : Int) from rfl, ixS_str (s := vB N[k].2) (i := 1) (by simp [vB]), cvI_i]
      have hb0 := (UInt8.ofNat N[k].2.toNat).toNat_lt
      have hb1 := (UInt8.ofNat (N[k].2.toNat / 256)).toNat_lt
      rw [show (vB N[k].2)[0]'(by simp [vB]) = UInt8.ofNat N[k].2.toNat from rfl, show (vB N[k].2)[1]'(by simp [vB]) = UInt8.ofNat (N[k].2.toNat / 256) from rfl, wrap_nat64 (by omega), wrap_nat64 (by omega), shl_of (by omega) (by decide)]
      have e6 : IntKind.i64.wrap (((UInt8.ofNat (N[k].2.toNat / 256)).toNat : Int) * 2 ^ (8 : Int).toNat) = (((UInt8.ofNat (N[k].2.toNat / 256)).toNat * 2 ^ 8 : Nat) : Int) := by
        rw [show (8 : Int).toNat = 8 from rfl, w64 (by omega) (by omega)]; simp
      rw [e6, or64_of (by omega) (by omega), vB_val hvv.1 hvv.2]
      have e7 : ((N[k].2.toNat : Nat) : Int) = N[k].2 := by omega
      rw [e7]
      refine (hMd.keep ((Kp.refl [] _).drew) (by simp)).put mapT _ fun w7 hM7 k7 => ?_
      refine go w7 ?_ (hM7.perm (putN_take hnd hkn)) (((Kp.refl [] w'.drew).drew.mono (by simp)).trans' (k7.mono fun y hy _ => by simp at hy; simp [hy]))
      rw [if_pos (by omega)]
      have := k7.get hxd (by simp; omega)
      rw [if_pos (by omega)] at this
      exact this
    · have hkn : k = N.length := by omega
      subst hkn
      have hg : (stL u N)[N.length] = ([117], u) := stL_last hlt
      rw [hg]
      rw [show (Value.string ⟨#[117]⟩) = .string (str [117]) from rfl, bq_eqs]
      simp only [bV_b, lenS_s, str_size, bq_eql, hu]
      refine ⟨fun _ => ?_, fun hh => by simp at hh⟩
      unfold space_Space_read_s5
      simp only [bV_b]
      refine ⟨fun _ => ?_, fun hh => by simp at hh⟩
      unfold space_Space_read_s2
      rw [if_pos (by omega)] at hxd
      rw [fa_p, slA_whole (by omega)]
      rw [ar_cp_str (pre := []) (b := z63) (post := [.map (some m)]) (o := 0 + 0) (n := 63) (cap := 63) hxd (lo := 0) u (by simp [hu, z63]) (.inl rfl)]
      have e8 : spl z63 0 (u.take (min u.length 63)) = u := by
        rw [hu]; simp [spl, z63, hu, List.take_of_length_le]
      rw [e8]
      refine go _ ?_ ?_ ?_
      · rw [if_neg (by omega)]
        exact heap_self (live_of hxd)
      · rw [List.take_of_length_le (by omega)]
        rw [List.take_of_length_le (by omega)] at hMd
        exact hMd.keep ((Kp.refl [x] _).setBlk (.inl (by simp)) _) (by simp; omega)
      · exact (Kp.refl _ _).setBlk (.inl (by simp)) _
  · have : k = N.length + 1 := by omega
    subst this
    unfold space_Space_read_s0
    rw [if_neg (by omega)] at hx'
    rw [ldA hx' (stC_size hu _)]
    refine retB (by kernel_rfl) (by kernel_rfl) (hk'.get hr6 (by simp; omega)) (by rw [zcS]; exact stC_size (by simp [z63]) _) (stC_size hu _) (stC_one rfl) fun w8 k8 => ?_
    refine hR w8 m (by omega) ?_ ?_
    · rw [List.take_of_length_le (by omega)] at hM'
      exact hM'.keep k8 (by simp; omega)
    · exact (k06.trans hk' fun y hy hlt => by simp at hy; omega).trans k8 fun y hy hlt => by simp at hy; omega
end
end Go.Proofs

/- Layer 13: a space is opened. -/
set_option maxRecDepth 100000
set_option linter.unusedVariables false
set_option linter.unusedSimpArgs false
namespace Go.Proofs
open Go Go.Q
/-- a state that was committed -/
structure Sv where
  turn : Nat
  u : List UInt8
  N : List (List UInt8 × Int)
structure MapOk (L : List (List UInt8)) (fr k : Nat) (u : List UInt8) (N : List (List UInt8 × Int)) : Prop where
  len : u.length = 63
  vals : ∀ x ∈ N, 0 ≤ x.2 ∧ x.2 < 65536
  fit : Fit (stL u N)
  srt : SortK (stL u N)
  pg : pgs L (fr + 8 * (1 + k)) = bytesP (lay 200 (stL u N))
def HeadAt (L : List (List UInt8)) (fr pages k : Nat) : Option Sv → Prop
  | none => ∀ t, 1 ≤ t → t ≤ 1048575 → t % 2 = k → L.getD (fr + k) [] ≠ headB t pages
  | some s => L.getD (fr + k) [] = headB s.turn pages ∧ s.turn % 2 = k ∧ 1 ≤ s.turn ∧ s.turn ≤ 1048575 ∧ MapOk L fr k s.u s.N
def sv0 : Sv := ⟨0, z63, []⟩
def upd (s : Sv) : Option Sv → Sv
  | none => s
  | some x => if x.turn ≤ s.turn then s else x
theorem putB_val {x k : Nat} : (putB (x : Int) k).toNat = x / 2 ^ (8 * k) % 256 := by
  unfold putB
  have e : (((x : Int) / 2 ^ (8 * k)) % 256).toNat = x / 2 ^ (8 * k) % 256 := by
    have e1 : ((x : Int) / 2 ^ (8 * k)) = ((x / 2 ^ (8 * k) : Nat) : Int) := by simp
    rw [e1]; omega
  rw [e]
  simp
theorem take_put {x : Nat} (h : x < 2 ^ 32) (r : List UInt8) : takeN (put4 (x : Int) ++ r) 4 = x := by
  simp only [takeN, put4, List.cons_append, List.nil_append, List.getD_cons_zero, List.getD_cons_succ, putB_val]
  omega
theorem take_head {t pages : Nat} (ht : t ≤ 1048575) (hp : pages ≤ 500) : takeN (headB t pages) 4 = t * 4096 + pages := by
  unfold headB
  rw [List.append_assoc, take_put (by omega)]
section
variable {w w' : World} {R : Value → World → Prop}
/-- a part of a block that is a struct is written -/
theorem stP {b o k : Nat} {pre old cs post : List Value} {T : TypeId} (h : w.heap[b]? = some (.cells (pre ++ (old ++ post)).toArray T)) (ho : o = pre.length) (hk : cs.length = k) (hl : old.length = k) (hone : cs.all Q.one = true) {K : World → Prop} :
    stn k (.pointer (some ⟨b, o, none⟩)) (.agg cs.toArray) w K = K (setBlk w b (.cells (pre ++ (cs ++ post)).toArray T)) := by
  rw [stn_p, wrN_mk, h]
  have hsp : splice (pre ++ (old ++ post)).toArray o cs.toArray = (pre ++ (cs ++ post)).toArray := by
    subst ho; subst hk
    simp [splice, List.take_append, List.drop_append, ← hl]
  apply propext
  constructor
  · rintro ⟨_, _, hk⟩
    rw [hsp] at hk
    exact hk
  · intro hK
    refine ⟨by simpa using hk, ⟨by simp; omega, by rw [okFr0]; trivial, by simpa using hone⟩, ?_⟩
    rw [hsp]; exact hK
def opH (bd fr pages t : Nat) : List Value := [.pointer (some ⟨bd, 0, none⟩), .int .i64 (fr : Nat), .int .i64 (pages : Nat), .int .i64 (t : Nat)]
def opC (bd fr pages : Nat) (s : Sv) (m : Nat) (nu : List UInt8) (mn : Option Nat) : Array Value := arC (opH bd fr pages s.turn) s.u ([.map (some m)] ++ (u8c nu ++ [Value.map mn]))
theorem zcSp : zc Tryz.prog 59 = arC [.pointer none, .int .i64 0, .int .i64 0, .int .i64 0] z63 ([.map none] ++ (u8c z63 ++ [.map none])) := by kernel_rfl
theorem bldSp {bd : Nat} {fr pages : Int} {K : Value → Prop} : bld [(0, 1), (1, 1), (2, 1), (3, 1), (4, 64), (68, 64)] (zc Tryz.prog 59) #[(0, .pointer (some ⟨bd, 0, none⟩)), (1, .int .i64 fr), (2, .int .i64 pages)] K = K (.agg (arC [.pointer (some ⟨bd, 0, none⟩), .int .i64 fr, .int .i64 pages, .int .i64 0] z63 ([.map none] ++ (u8c z63 ++ [.map none])))) := by
  rw [zcSp]
  rfl
theorem opC_ld {b bd fr pages : Nat} {s : Sv} {m : Nat} {nu : List UInt8} {mn : Option Nat} {T : TypeId} (h : w.heap[b]? = some (.cells (opC bd fr pages s m nu mn) T)) {K : Value → Prop} : ld1 (.pointer (some ⟨b, 0 + 3, none⟩)) w K = K (.int .i64 (s.turn : Nat)) := ldF h rfl
theorem opC_st {b bd fr pages : Nat} {s : Sv} {m : Nat} {nu : List UInt8} {mn : Option Nat} {T : TypeId} (h : w.heap[b]? = some (.cells (opC bd fr pages s m nu mn) T)) (hu : s.u.length = 63) {u' : List UInt8} {m' : Nat} (hu' : u'.length = 63) {K : World → Prop} : stn 64 (.pointer (some ⟨b, 0 + 4, none⟩)) (.agg (stC u' (.map (some m')))) w K = K (setBlk w b (.cells (opC bd fr pages ⟨s.turn, u', s.N⟩ m' nu mn) T)) := by
  have h' : w.heap[b]? = some (.cells (opH bd fr pages s.turn ++ ((u8c s.u ++ [Value.map (some m)]) ++ (u8c nu ++ [Value.map mn]))).toArray T) := by
    rw [h]; simp [opC, arC]
  have := stP h' (o := 0 + 4) (k := 64) (cs := u8c u' ++ [Value.map (some m')]) rfl (by simp [hu']) (by simp [hu]) (by have := stC_one (u := u') (v := .map (some m')) rfl; simpa [stC, arC] using this) (K := K)
  simpa [stC, arC, opC] using this
theorem opC_turn {b bd fr pages : Nat} {s : Sv} {m : Nat} {nu : List UInt8} {mn : Option Nat} {T : TypeId} (h : w.heap[b]? = some (.cells (opC bd fr pages s m nu mn) T)) {t : Nat} {K : World → Prop} : st1 (.pointer (some ⟨b, 0 + 3, none⟩)) (.int .i64 (t : Nat)) w K = K (setBlk w b (.cells (opC bd fr pages ⟨t, s.u, s.N⟩ m nu mn) T)) := by
  rw [stF h (by unfold opC; rw [arC_size, show (opH bd fr pages s.turn).length = 4 from rfl]; omega) rfl]
  rfl
theorem opC_now {b bd fr pages : Nat} {s : Sv} {m : Nat} {nu : List UInt8} {mn : Option Nat} {T : TypeId} (h : w.heap[b]? = some (.cells (opC bd fr pages s m nu mn) T)) (hu : s.u.length = 63) (hn : nu.length = 63) {u' : List UInt8} {m' : Nat} (hu' : u'.length = 63) {K : World → Prop} : stn 64 (.pointer (some ⟨b, 0 + 68, none⟩)) (.agg (stC u' (.map (some m')))) w K = K (setBlk w b (.cells (opC bd fr pages s m u' (some m')) T)) := by
  have h' : w.heap[b]? = some (.cells ((opH bd fr pages s.turn ++ (u8c s.u ++ [Value.map (some m)])) ++ ((u8c nu ++ [Value.map mn]) ++ [])).toArray T) := by
    rw [h]; simp [opC, arC]
  have := stP h' (o := 0 + 68) (k := 64) (cs := u8c u' ++ [Value.map (some m')]) (by simp [hu, opH]) (by simp [hu']) (by simp [hn]) (by have := stC_one (u := u') (v := .map (some m')) rfl; simpa [stC, arC] using this) (K := K)
  simpa [stC, arC, opC] using this
theorem opC_sure {b bd fr pages : Nat} {s : Sv} {m : Nat} {nu : List UInt8} {mn : Option Nat} {T : TypeId} (h : w.heap[b]? = some (.cells (opC bd fr pages s m nu mn) T)) (hu : s.u.length = 63) {K : Value → Prop} : ldn 64 (.pointer (some ⟨b, 0 + 4, none⟩)) w K = K (.agg (stC s.u (.map (some m)))) := by
  have e : opC bd fr pages s m nu mn = (opH bd fr pages s.turn ++ ((u8c s.u ++ [Value.map (some m)]) ++ (u8c nu ++ [Value.map mn]))).toArray := by simp [opC, arC]
  refine ldP h (p := stC s.u (.map (some m))) ?_ ?_
  · rw [e]
    simp [stC, arC, hu, opH, List.take_append, List.drop_append, List.take_of_length_le]
  · rw [e]; simp [hu, opH]; omega
theorem Open_ok {bd : Nat} {d : DK} {Sd : List Nat} (hd : DiskAt w bd d Sd) (ho : d.off = false) {fr to pages : Nat} (ht : to ≤ d.now.length) (hft : fr + 32 ≤ to) (hpg : pages = min ((to - fr) / 8 - 3) 500) {o0 o1 : Option Sv} (h0 : HeadAt d.now fr pages 0 o0) (h1 : HeadAt d.now fr pages 1 o1)
    (hR : ∀ w' b ms mn, w.heap.size ≤ b → w.heap.size ≤ ms → w.heap.size ≤ mn → Kp [] w w' → SpAt w' b bd ⟨d, fr, pages, (upd (upd sv0 o0) o1).turn, (upd (upd sv0 o0) o1).u, (upd (upd sv0 o0) o1).u, (upd (upd sv0 o0) o1).N, (upd (upd sv0 o0) o1).N⟩ Sd ms mn → R (.tuple #[.pointer (some ⟨b, 0, none⟩), .int .i64 0]) w') :
    callG Tryz.prog 5 #[.pointer (some ⟨bd, 0, none⟩), .int .i64 (fr : Nat), .int .i64 (to : Nat)] w R := by
  have hmost := hd.dlen
  have hlts := hd.lts
  refine space_Open_call ?_
  unfold space_Open space_Open_s10 space_Open_s9
  have e1 : IntKind.i64.wrap ((to : Int) - (fr : Int)) = ((to - fr : Nat) : Int) := by rw [w64 (by omega) (by omega)]; omega
  have e2 : (((to - fr : Nat) : Int) / 8) = (((to - fr) / 8 : Nat) : Int) := by simp
  have e3 : IntKind.i64.wrap (((to - fr) / 8 : Nat) : Int) = (((to - fr) / 8 : Nat) : Int) := wrap_nat64 (by omega)
  simp only [bq_lss, bV_b, decide_eq_true_eq, decide_eq_false_iff_not]
  refine ⟨fun hh => by omega, fun hf => ?_⟩
  refine Size_spec hd ?_
  simp only [bq_gtr, bV_b, decide_eq_true_eq, decide_eq_false_iff_not]
  refine ⟨fun hh => by omega, fun _ => ⟨fun hh => by omega, fun _ => ?_⟩⟩
  simp only [bq_sub, e1]
  rw [quo_of (by omega) (by omega), e2, e3]
  simp only [bq_lss]
  rw [decide_eq_false (by omega)]
  unfold space_Open_s8
  simp only [bV_b]
  refine ⟨fun hh => by simp at hh, fun _ => ?_⟩
  refine Off_spec hd ?_
  rw [ho]
  simp only [bV_b]
  refine ⟨fun hh => by simp at hh, fun _ => ?_⟩
  unfold space_Open_s7
  have e4 : IntKind.i64.wrap ((((to - fr) / 8 : Nat) : Int) - 1) = (((to - fr) / 8 - 1 : Nat) : Int) := by rw [w64 (by omega) (by omega)]; omega
  have e5 : IntKind.i64.wrap ((((to - fr) / 8 - 1 : Nat) : Int) - 2) = (((to - fr) / 8 - 3 : Nat) : Int) := by rw [w64 (by omega) (by omega)]; omega
  simp only [bq_sub, e1]
  rw [quo_of (by omega) (by omega), e2, e3]
  simp only [bq_sub, e4, e5]
  rw [show qG Tryz.prog (Builtin.min_ #[3, 3] 3 #[.int .i64 (((to - fr) / 8 - 3 : Nat) : Int), .int .i64 500]) w = fun K => K (.int .i64 (pages : Nat)) from ?_]
  rotate_left
  · funext K
    rw [qG_of run_min, hpg]
    congr 2
    omega
  dsimp only
  rw [bldSp]
  refine argB fun b w1 hb1 hb k1 => ?_
  refine SMap.new fun m w2 hm2 k2 hM => ?_
  rw [nk_p, fa_p, fa_p]
  have hb2 := k2.get hb (by simp)
  rw [stF hb2 (by simp [arC, z63]) rfl]
  have lb := lt_of_blk hb
  have z1 := k1.size
  have z2 := k2.size
  generalize hw3 : setBlk w2 b _ = w3
  have hb3 : w3.heap[b]? = some (.cells (opC bd fr pages sv0 m z63 none) 59) := by rw [← hw3]; exact heap_self (live_of hb2)
  have k3 : Kp [b] w2 w3 := by rw [← hw3]; exact (Kp.refl _ _).setBlk (.inl (by simp)) _
  have hM3 := hM.keep k3 (by simp; omega)
  have k03 : Kp [] w w3 := (k1.trans' k2).trans k3 fun x hx hlt => by simp at hx; omega
  have z3 := k3.size
  clear hw3 hM hb hb2
  unfold space_Open_s6 space_Open_L5
  have step : ∀ (k : Nat) (o : Option Sv) (s : Sv) (m : Nat) (w' : World) (NN : List Value → World → Prop), k < 2 → HeadAt d.now fr pages k o → w'.heap[b]? = some (.cells (opC bd fr pages s m z63 none) 59) → s.u.length = 63 → s.turn ≤ 1048575 → SMap w' m s.N → w.heap.size ≤ m → m ≠ b → Kp [] w w' →
      (∀ w'' m'', w''.heap[b]? = some (.cells (opC bd fr pages (upd s o) m'' z63 none) 59) → (upd s o).u.length = 63 → (upd s o).turn ≤ 1048575 → SMap w'' m'' (upd s o).N → w.heap.size ≤ m'' → m'' ≠ b → Kp [] w w'' → NN [.pointer (some ⟨bd, 0, none⟩), .int .i64 (fr : Nat), .pointer (some ⟨b, 0, none⟩), .int .i64 ((k + 1 : Nat) : Int)] w'') →
      space_Open_s3 R NN (.pointer (some ⟨bd, 0, none⟩)) (.int .i64 (fr : Nat)) (.pointer (some ⟨b, 0, none⟩)) (.int .i64 (k : Nat)) w' := by
    intro k o s m w' NN hk hh hb' hu htn hM' hm hmb hkp hN
    have e6 : IntKind.i64.wrap ((fr : Int) + (k : Int)) = ((fr + k : Nat) : Int) := by rw [w64 (by omega) (by omega)]; omega
    have e7 : IntKind.i64.wrap ((k : Int) + 1) = ((k + 1 : Nat) : Int) := by rw [w64 (by omega) (by omega)]; simp
    have hd' := hd.keep hkp (by simp)
    unfold space_Open_s3
    simp only [bq_add, e6]
    refine Read_spec hd' _ ?_
    rw [DK.read_ok ho (by omega), ex0, ex1]
    simp only [bq_neq, bV_b, decide_eq_true_eq]
    refine ⟨fun h => by simp at h, fun _ => ?_⟩
    have hlen : (d.now.getD (fr + k) []).length = 32 := by
      have hi : fr + k < d.now.length := by omega
      have : d.now.getD (fr + k) [] = d.now[fr + k] := by simp [List.getD, hi]
      rw [this]; exact hd.sz _ (List.getElem_mem _)
    generalize hB : d.now.getD (fr + k) [] = B at *
    refine Take_spec B (by omega) ?_
    rw [if_neg (by omega), shr_of (by omega) (by decide)]
    have hlt := takeN_lt B 4
    have e8 : ((takeN B 4 : Int) / 2 ^ (12 : Int).toNat) = ((takeN B 4 / 4096 : Nat) : Int) := by simp
    rw [e8]
    have hlt2 : takeN B 4 / 4096 ≤ 1048575 := by omega
    generalize htt : takeN B 4 / 4096 = t at *
    have stay : upd s o = s → ∀ w'', Kp [] w' w'' → space_Open_s1 R NN (.pointer (some ⟨bd, 0, none⟩)) (.int .i64 (fr : Nat)) (.pointer (some ⟨b, 0, none⟩)) (.int .i64 (k : Nat)) w'' := fun he w'' kk => by
      unfold space_Open_s1
      simp only [bq_add, e7]
      refine hN w'' m ?_ ?_ ?_ ?_ hm hmb (hkp.trans' kk)
      · rw [he]; exact kk.get hb' (by simp)
      · rw [he]; exact hu
      · rw [he]; exact htn
      · rw [he]; exact hM'.keep kk (by simp)
    have none_ : (1 ≤ t → t % 2 = k → B ≠ headB t pages) → upd s o = s := fun hno => by
      cases o with
      | none => rfl
      | some x =>
        exfalso
        obtain ⟨h1, h2, h3, h4, _⟩ := hh
        rw [hB] at h1
        have hx : takeN B 4 = x.turn * 4096 + pages := by rw [h1]; exact take_head h4 (by omega)
        have hxt : x.turn = t := by omega
        rw [hxt] at h1 h2 h3
        exact hno h3 h2 h1
    simp only [bq_lss, bV_b, decide_eq_true_eq, decide_eq_false_iff_not]
    refine ⟨fun hlt1 => stay (none_ fun h => by omega) w' (Kp.refl _ _), fun hge1 => ?_⟩
    simp only [bq_gtr, bV_b, decide_eq_true_eq, decide_eq_false_iff_not]
    refine ⟨fun hlt1 => by omega, fun _ => ?_⟩
    have e9 : ((t : Int) % 2) = ((t % 2 : Nat) : Int) := by simp
    rw [rem_of (by omega) (by omega), e9]
    simp only [bq_neq, bV_b, decide_eq_true_eq, decide_eq_false_iff_not]
    refine ⟨fun hne => stay (none_ fun _ h => by simp at hne; omega) w' (Kp.refl _ _), fun heq => ?_⟩
    have heq : t % 2 = k := by simp at heq; omega
    have hsp : Sp0 w' b bd fr pages d Sd := Sp0.of hb' rfl rfl rfl hd' (fun hm => by have := hlts _ hm; omega) (by omega) (by omega)
    refine head_spec hsp t (by omega) fun w2 kk2 => ?_
    rw [bq_nes]
    simp only [bV_b]
    refine ⟨fun hne => stay (none_ fun _ _ h => by simp at hne; exact hne h) w2 kk2, fun heqB => ?_⟩
    have heqB : B = headB t pages := by simpa using heqB
    rw [nk_p, fa_p, opC_ld (kk2.get hb' (by simp))]
    simp only [bq_leq, bV_b, decide_eq_true_eq, decide_eq_false_iff_not]
    cases o with
    | none => exact absurd (hB.trans heqB) (hh t (by omega) hlt2 heq)
    | some x =>
      obtain ⟨h1, h2, h3, h4, h5⟩ := hh
      rw [hB] at h1
      have hx : takeN B 4 = x.turn * 4096 + pages := by rw [h1]; exact take_head h4 (by omega)
      have hxt : x.turn = t := by omega
      refine ⟨fun hle => stay (by unfold upd; simp only; rw [if_pos (by omega)]) w2 kk2, fun hgt => ?_⟩
      have hup : upd s (some x) = x := by unfold upd; simp only; rw [if_neg (by omega)]
      rw [hup] at hN
      unfold space_Open_s2
      have hpgs := h5.pg
      rw [← h2, hxt] at hpgs
      refine read_spec (hsp.keep kk2 (by simp) (by simp)) ho h5.len h5.vals h5.fit h5.srt hpgs fun w4 m' hm' hM4 kk4 => ?_
      rw [ex0, ex1]
      refine newB fun r w5 hr5 hr kk5 => ?_
      rw [stA hr (by rw [zcS]; exact stC_size (by simp [z63]) _) (stC_size h5.len _) (stC_one rfl)]
      generalize hw6 : setBlk w5 r (.cells (stC x.u (.map (some m'))) 57) = w6
      have hr6 : w6.heap[r]? = some (.cells (stC x.u (.map (some m'))) 57) := by rw [← hw6]; exact heap_self (live_of hr)
      have kk6 : Kp [r] w5 w6 := by rw [← hw6]; exact (Kp.refl _ _).setBlk (.inl (by simp)) _
      have lr := lt_of_blk hr
      have lb2 := lt_of_blk hb'
      have y1 := hkp.size
      have y2 := kk2.size
      have y4 := kk4.size
      have y5 := kk5.size
      have lm' := hM4.lt
      simp only [bV_b]
      refine ⟨fun _ => ?_, fun hh => by simp at hh⟩
      have hb6 := kk6.get (kk5.get (kk4.get (kk2.get hb' (by simp)) (by simp)) (by simp)) (by simp; omega)
      rw [ldA hr6 (stC_size h5.len _), nk_p, fa_p, opC_st hb6 hu h5.len]
      generalize hw7 : setBlk w6 b (.cells (opC bd fr pages ⟨s.turn, x.u, s.N⟩ m' z63 none) 59) = w7
      have hb7 : w7.heap[b]? = some (.cells (opC bd fr pages ⟨s.turn, x.u, s.N⟩ m' z63 none) 59) := by rw [← hw7]; exact heap_self (live_of hb6)
      have kk7 : Kp [b] w6 w7 := by rw [← hw7]; exact (Kp.refl _ _).setBlk (.inl (by simp)) _
      rw [nk_p, fa_p, opC_turn hb7]
      generalize hw8 : setBlk w7 b (.cells (opC bd fr pages ⟨t, x.u, s.N⟩ m' z63 none) 59) = w8
      have hb8 : w8.heap[b]? = some (.cells (opC bd fr pages ⟨t, x.u, s.N⟩ m' z63 none) 59) := by rw [← hw8]; exact heap_self (live_of hb7)
      have kk8 : Kp [b] w7 w8 := by rw [← hw8]; exact (Kp.refl _ _).setBlk (.inl (by simp)) _
      unfold space_Open_s1
      simp only [bq_add, e7]
      refine hN w8 m' ?_ h5.len (by omega) ?_ (by omega) (by omega) ?_
      · rw [hb8]; unfold opC; simp only [hxt]
      · exact (((hM4.keep kk5 (by simp)).keep kk6 (by simp; omega)).keep kk7 (by simp; omega)).keep kk8 (by simp; omega)
      · exact (((((hkp.trans' kk2).trans' kk4).trans' kk5).trans kk6 fun y hy hl => by simp at hy; omega).trans kk7 fun y hy hl => by simp at hy; omega).trans kk8 fun y hy hl => by simp at hy; omega
  have fin : ∀ (s : Sv) (m : Nat) (w' : World), s = upd (upd sv0 o0) o1 → w'.heap[b]? = some (.cells (opC bd fr pages s m z63 none) 59) → s.u.length = 63 → s.turn ≤ 1048575 → SMap w' m s.N → w.heap.size ≤ m → m ≠ b → Kp [] w w' → space_Open_s0 R (.pointer (some ⟨b, 0, none⟩)) w' := by
    intro s m w' hs hb' hu htn hM' hm hmb hkp
    unfold space_Open_s0
    rw [nk_p, fa_p, opC_sure hb' hu]
    refine copied_spec hu hM' fun w2 mn hmn hM2 kk2 => ?_
    have hb2 := kk2.get hb' (by simp)
    have lb2 := lt_of_blk hb'
    have lm2 := hM'.lt
    have y1 := hkp.size
    have y2 := kk2.size
    rw [nk_p, fa_p, opC_now hb2 hu (by simp [z63]) hu]
    generalize hw3 : setBlk w2 b (.cells (opC bd fr pages s m s.u (some mn)) 59) = w3
    have hb3 : w3.heap[b]? = some (.cells (opC bd fr pages s m s.u (some mn)) 59) := by rw [← hw3]; exact heap_self (live_of hb2)
    have kk3 : Kp [b] w2 w3 := by rw [← hw3]; exact (Kp.refl _ _).setBlk (.inl (by simp)) _
    have kall : Kp [] w w3 := (hkp.trans' kk2).trans kk3 fun y hy hl => by simp at hy; omega
    rw [← hs] at hR
    refine hR w3 b m mn (by omega) hm (by omega) kall ⟨hb3, hd.keep kall (by simp), (hM'.keep kk2 (by simp)).keep kk3 (by simp; omega), hM2.keep kk3 (by simp; omega), hu, hu, ?_, by show fr + 8 * (pages + 3) ≤ d.now.length; omega, by show 1 ≤ pages ∧ pages ≤ 500; omega, by show s.turn < 2 ^ 20; omega⟩
    simp only [List.nodup_cons, List.mem_cons, not_or]
    have out : ∀ x, w.heap.size ≤ x → x ∉ Sd := fun x hx hm => by have := hlts x hm; omega
    exact ⟨⟨by omega, by omega, out b (by omega)⟩, ⟨by omega, out m (by omega)⟩, out mn (by omega), hd.nodup⟩
  refine loop_inv (fun n xs w' => ∃ k s m, k ≤ 2 ∧ n = 2 - k ∧ xs = [.pointer (some ⟨bd, 0, none⟩), .int .i64 (fr : Nat), .pointer (some ⟨b, 0, none⟩), .int .i64 (k : Nat)] ∧ (s = if k = 0 then sv0 else if k = 1 then upd sv0 o0 else upd (upd sv0 o0) o1) ∧ w'.heap[b]? = some (.cells (opC bd fr pages s m z63 none) 59) ∧ s.u.length = 63 ∧ s.turn ≤ 1048575 ∧ SMap w' m s.N ∧ w.heap.size ≤ m ∧ m ≠ b ∧ Kp [] w w') ?_ (m := 2) ⟨0, sv0, m, by omega, rfl, rfl, rfl, hb3, by simp [sv0, z63], by simp [sv0], hM3, by omega, by omega, k03⟩
  rintro n NN xs w' ⟨k, s, m, hk, rfl, rfl, hs, hb', hu, htn, hM', hm, hmb, hkp⟩ hN
  unfold space_Open_L5F space_Open_s4
  dsimp only
  simp only [bq_lss, bV_b, decide_eq_true_eq, decide_eq_false_iff_not]
  refine ⟨fun hlt => ?_, fun hge => ?_⟩
  · rcases (show k = 0 ∨ k = 1 by omega) with rfl | rfl
    · refine step 0 o0 s m w' NN (by omega) h0 hb' hu htn hM' hm hmb hkp fun w'' m'' a1 a2 a3 a4 a5 a6 a7 => ?_
      exact hN 1 _ w'' (by omega) ⟨1, upd s o0, m'', by omega, rfl, rfl, by rw [hs]; rfl, a1, a2, a3, a4, a5, a6, a7⟩
    · refine step 1 o1 s m w' NN (by omega) h1 hb' hu htn hM' hm hmb hkp fun w'' m'' a1 a2 a3 a4 a5 a6 a7 => ?_
      exact hN 0 _ w'' (by omega) ⟨2, upd s o1, m'', by omega, rfl, rfl, by rw [hs]; rfl, a1, a2, a3, a4, a5, a6, a7⟩
  · have : k = 2 := by omega
    subst this
    exact fin s m w' hs hb' hu htn hM' hm hmb hkp
end
end Go.Proofs

/- Layer 13: pages are taken, released, written, read and named. -/
set_option maxRecDepth 100000
set_option linter.unusedVariables false
set_option linter.unusedSimpArgs false
namespace Go.Proofs
open Go Go.Q
/-- a space and its blocks -/
def SpX (w : World) (b bd : Nat) (s : SP) (X : List Nat) : Prop := ∃ Sd ms mn, X = b :: ms :: mn :: Sd ∧ SpAt w b bd s Sd ms mn
/-- what a call leaves -/
def SpGo (w : World) (X : List Nat) (b bd : Nat) (s' : SP) (w' : World) : Prop := ∃ X', SpX w' b bd s' X' ∧ Kp X w w' ∧ ∀ x ∈ X', x ∈ X ∨ w.heap.size ≤ x
/-- a space that came to be since a world -/
def SpOwn (w0 w : World) (b bd : Nat) (s : SP) : Prop := ∃ X, SpX w b bd s X ∧ (∀ x ∈ X, w0.heap.size ≤ x) ∧ Kp [] w0 w
theorem SpOwn.go {w0 w : World} {b bd : Nat} {s : SP} (h : SpOwn w0 w b bd s) : ∃ X, SpX w b bd s X ∧ ∀ s' w', SpGo w X b bd s' w' → SpOwn w0 w' b bd s' := by
  obtain ⟨X, h1, h2, h3⟩ := h
  refine ⟨X, h1, fun s' w' ⟨X', g1, g2, g3⟩ => ⟨X', g1, fun x hx => ?_, h3.trans g2 fun x hx hlt => ?_⟩⟩
  · have := h3.size
    rcases g3 x hx with h | h
    · exact h2 x h
    · omega
  · have := h2 x hx; omega
theorem SpOwn.keep {w0 w w' : World} {b bd : Nat} {s : SP} (h : SpOwn w0 w b bd s) (hk : Kp [] w w') : SpOwn w0 w' b bd s := by
  obtain ⟨X, ⟨Sd, ms, mn, rfl, h1⟩, h2, h3⟩ := h
  exact ⟨_, ⟨Sd, ms, mn, rfl, h1.keep0 hk⟩, h2, h3.trans' hk⟩
theorem SpOwn.kp {w0 w : World} {b bd : Nat} {s : SP} (h : SpOwn w0 w b bd s) : Kp [] w0 w := by
  obtain ⟨X, _, _, h⟩ := h
  exact h
section
variable {w w' : World} {b bd : Nat} {s : SP} {Sd X : List Nat} {ms mn : Nat} {R : Value → World → Prop}
theorem SpAt.go (h : SpAt w b bd s Sd ms mn) {s' : SP} {S' : List Nat} {m1 m2 : Nat} (h' : SpAt w' b bd s' S' m1 m2) (hk : Kp (b :: ms :: mn :: Sd) w w') (h1 : m1 = ms ∨ w.heap.size ≤ m1) (h2 : m2 = mn ∨ w.heap.size ≤ m2) (h3 : ∀ x ∈ S', x ∈ Sd ∨ w.heap.size ≤ x) : SpGo w (b :: ms :: mn :: Sd) b bd s' w' := by
  refine ⟨_, ⟨S', m1, m2, rfl, h'⟩, hk, fun x hx => ?_⟩
  simp only [List.mem_cons] at hx ⊢
  rcases hx with rfl | rfl | rfl | hx
  · exact .inl (.inl rfl)
  · exact h1.imp (fun h => .inr (.inl h)) id
  · exact h2.imp (fun h => .inr (.inr (.inl h))) id
  · exact (h3 x hx).imp (fun h => .inr (.inr (.inr h))) id
theorem SpX.stay (h : SpX w b bd s X) (hk : Kp [] w w') : SpGo w X b bd s w' := by
  obtain ⟨Sd, ms, mn, rfl, h1⟩ := h
  exact ⟨_, ⟨Sd, ms, mn, rfl, h1.keep0 hk⟩, hk.mono (by simp), fun x hx => .inl hx⟩
theorem SpAt.set_nn (h : SpAt w b bd s Sd ms mn) {N : List (List UInt8 × Int)} (hM : SMap w' mn N) (hk : Kp [mn] w w') : SpAt w' b bd { s with nn := N } Sd ms mn := by
  obtain ⟨a1, a2, a3, a4, a5, a6⟩ := h.apart
  exact ⟨hk.get h.cell (by simp; exact a2), h.disk.keep hk fun x hx hm => a6 (by simp at hm; rw [← hm]; exact hx), h.mS.keep hk (by simp; exact a4), hM, h.lsu, h.lnu, h.nd, h.fit, h.most, h.tn⟩
/-! ### how many are in use -/
def usedC (u : List UInt8) (p : Nat) : Nat := ((List.range p).filter fun k => hasU u ((k : Nat) + 1 : Int)).length
theorem usedC_succ (u : List UInt8) (p : Nat) : usedC u (p + 1) = usedC u p + if hasU u ((p : Nat) + 1 : Int) = true then 1 else 0 := by
  unfold usedC
  rw [List.range_succ, List.filter_append, List.length_append]
  congr 1
  cases h : hasU u ((p : Nat) + 1 : Int) <;> simp [h]
theorem usedC_le (u : List UInt8) (p : Nat) : usedC u p ≤ p := by
  unfold usedC
  exact Nat.le_trans (List.length_filter_le _ _) (by simp)
theorem used_sp (h : SpAt w b bd s Sd ms mn) (hR : R (.int .i64 (usedC s.nu s.pages : Nat)) w) : callG Tryz.prog 28 #[.pointer (some ⟨b, 0, none⟩)] w R := by
  refine space_Space_Used_call ?_
  have hm := h.most
  unfold space_Space_Used space_Space_Used_s4 space_Space_Used_s3
  refine pages_sp h ?_
  unfold space_Space_Used_L2
  refine loop_inv (fun n xs w' => ∃ k, k ≤ s.pages ∧ n = s.pages - k ∧ xs = [.pointer (some ⟨b, 0, none⟩), .int .i64 (usedC s.nu k : Nat), .int .i64 (s.pages : Nat), .int .i64 (k : Nat)] ∧ w' = w) ?_ (m := s.pages) ⟨0, by omega, rfl, rfl, rfl⟩
  rintro n N xs w' ⟨k, hk, rfl, rfl, rfl⟩ hN
  unfold space_Space_Used_L2F space_Space_Used_b1
  dsimp only
  simp only [bq_lss, bV_b, decide_eq_true_eq, decide_eq_false_iff_not]
  have hle := usedC_le s.nu k
  have e1 : IntKind.i64.wrap ((k : Int) + 1) = (k : Int) + 1 := w64 (by omega) (by omega)
  have e2 : IntKind.i64.wrap ((usedC s.nu k : Int) + 1) = ((usedC s.nu k + 1 : Nat) : Int) := by rw [w64 (by omega) (by omega)]; simp
  refine ⟨fun hlt => ?_, fun hge => ?_⟩
  · rw [nk_p, fa_p, fa_p]
    simp only [bq_add, e1, e2]
    refine h.has_now _ ?_
    simp only [bV_b]
    refine ⟨fun ht => ?_, fun hf => ?_⟩
    · exact hN (s.pages - (k + 1)) _ w' (by omega) ⟨k + 1, by omega, rfl, by rw [usedC_succ, if_pos ht]; rfl, rfl⟩
    · exact hN (s.pages - (k + 1)) _ w' (by omega) ⟨k + 1, by omega, rfl, by rw [usedC_succ, if_neg (by rw [hf]; simp)]; rfl, rfl⟩
  · have : k = s.pages := by omega
    subst this
    unfold space_Space_Used_s0
    exact hR
/-! ### taken -/
def isFree (s : SP) (n : Int) : Bool := !hasU s.nu n && !hasU s.su n
def SP.wr (s : SP) (n : Nat) (t : List UInt8) : DK × Int := wrs 8 s.d (s.from_ + 8 * (n + 2)) t
def SP.alloc (s : SP) : SP × Int × Int :=
  match (List.range s.pages).find? fun k => isFree s ((k : Nat) + 1 : Int) with
  | none => (s, 0, 2)
  | some k => if (s.wr (k + 1) (List.replicate 256 0)).2 ≠ 0 then ({ s with d := (s.wr (k + 1) (List.replicate 256 0)).1 }, 0, (s.wr (k + 1) (List.replicate 256 0)).2)
    else ({ s with d := (s.wr (k + 1) (List.replicate 256 0)).1, nu := setB s.nu (k + 1) true }, ((k + 1 : Nat) : Int), 0)
theorem find_range {p : Nat → Bool} {n k : Nat} (hk : k < n) (h0 : ∀ j, j < k → p j = false) (h1 : p k = true) : (List.range n).find? p = some k := by
  induction n with
  | zero => omega
  | succ n ih =>
    rw [List.range_succ, List.find?_append]
    by_cases hkn : k < n
    · rw [ih hkn]; rfl
    · have : k = n := by omega
      subst this
      have hno : (List.range k).find? p = none := by
        rw [List.find?_eq_none]
        intro j hj
        simp at hj
        simp [h0 j hj]
      rw [hno]
      simp [h1]
theorem alloc_sp (h : SpX w b bd s X) (hl : s.d.l.length + 8 < 2 ^ 40) (hR : ∀ w', SpGo w X b bd s.alloc.1 w' → R (.tuple #[.int .i64 s.alloc.2.1, .int .i64 s.alloc.2.2]) w') :
    callG Tryz.prog 19 #[.pointer (some ⟨b, 0, none⟩)] w R := by
  obtain ⟨Sd, ms, mn, rfl, h⟩ := h
  refine space_Space_Alloc_call ?_
  have hm := h.most
  unfold space_Space_Alloc space_Space_Alloc_s7
  refine given_sp h ?_
  simp only [un_not, bV_b]
  refine ⟨fun hh => by simp at hh, fun _ => ?_⟩
  unfold space_Space_Alloc_s6 space_Space_Alloc_L5
  refine loop_inv (fun n xs w' => ∃ k, k ≤ s.pages ∧ n = s.pages - k ∧ xs = [.pointer (some ⟨b, 0, none⟩), .int .i64 ((k + 1 : Nat) : Int)] ∧ w' = w ∧ ∀ j, j < k → isFree s ((j : Nat) + 1 : Int) = false) ?_ (m := s.pages) ⟨0, by omega, rfl, rfl, rfl, fun j hj => by omega⟩
  rintro n N xs w' ⟨k, hk, rfl, rfl, rfl, hno⟩ hN
  unfold space_Space_Alloc_L5F space_Space_Alloc_s4
  dsimp only
  have e1 : IntKind.i64.wrap (((k + 1 : Nat) : Int) + 1) = ((k + 1 + 1 : Nat) : Int) := by rw [w64 (by omega) (by omega)]; omega
  rw [nk_p, fa_p, h.ldpages]
  simp only [bq_leq, bV_b, decide_eq_true_eq, decide_eq_false_iff_not]
  refine ⟨fun hle => ?_, fun hgt => ?_⟩
  · have hle : k < s.pages := by omega
    unfold space_Space_Alloc_s3
    have next : isFree s (((k + 1 : Nat) : Int)) = false → space_Space_Alloc_s1 R N (.pointer (some ⟨b, 0, none⟩)) (.int .i64 ((k + 1 : Nat) : Int)) w' := fun hf => by
      unfold space_Space_Alloc_s1
      simp only [bq_add, e1]
      refine hN (s.pages - (k + 1)) _ w' (by omega) ⟨k + 1, by omega, rfl, rfl, rfl, fun j hj => ?_⟩
      by_cases hj : j < k
      · exact hno j hj
      · have : j = k := by omega
        subst this
        exact hf
    rw [nk_p, fa_p, fa_p]
    refine h.has_now _ ?_
    simp only [bV_b]
    refine ⟨fun ht => next (by unfold isFree; rw [ht]; rfl), fun hf1 => ?_⟩
    rw [nk_p, fa_p, fa_p]
    refine h.has_sure _ ?_
    simp only [bV_b]
    refine ⟨fun ht => next (by unfold isFree; rw [ht]; simp), fun hf2 => ?_⟩
    have hfree : isFree s ((k : Nat) + 1 : Int) = true := by
      unfold isFree
      rw [show ((k : Nat) + 1 : Int) = ((k + 1 : Nat) : Int) by omega, hf1, hf2]; rfl
    have hfind := find_range (p := fun k => isFree s ((k : Nat) + 1 : Int)) hle hno hfree
    unfold SP.alloc at hR
    rw [hfind] at hR
    simp only at hR
    unfold space_Space_Alloc_s2
    refine at_spec _ (by omega) ?_
    rw [show (Value.string ⟨#[0]⟩) = .string (str [0]) from rfl, show (256 : Int) = ((256 : Nat) : Int) from rfl]
    refine Repeat_spec (.inr rfl) fun w2 k2 => ?_
    have h2 := h.keep0 k2
    refine writes_spec h2.sp0 hl (k + 1 + 2) (by omega) _ (by simp) fun w3 S3 hd3 k3 hS3 => ?_
    have hwr : wrs 8 s.d (s.from_ + 8 * (k + 1 + 2)) (List.replicate 256 0) = s.wr (k + 1) (List.replicate 256 0) := rfl
    rw [hwr] at hd3 ⊢
    have hlog := wrs_log 8 s.d (s.from_ + 8 * (k + 1 + 2)) (List.replicate 256 0)
    rw [hwr] at hlog
    have h3 := h2.setD hd3 k3 hS3 hlog.2
    have hsz := k2.size
    have k13 : Kp (b :: ms :: mn :: Sd) w' w3 := (k2.mono (S' := b :: ms :: mn :: Sd) (by simp)).trans' (k3.mono fun x hx _ => by simp [hx])
    have hS3' : ∀ x ∈ S3, x ∈ Sd ∨ w'.heap.size ≤ x := fun x hx => (hS3 x hx).imp id fun h => by omega
    simp only [bq_neq, bV_b]
    refine ⟨fun hne => ?_, fun heq => ?_⟩
    · have hne : (s.wr (k + 1) (List.replicate 256 0)).2 ≠ 0 := by simpa using hne
      rw [if_pos hne] at hR
      exact hR w3 (h.go h3 k13 (.inl rfl) (.inl rfl) hS3')
    · have heq : ¬ (s.wr (k + 1) (List.replicate 256 0)).2 ≠ 0 := by simpa using heq
      rw [if_neg heq] at hR
      rw [nk_p, fa_p, fa_p]
      refine h3.set_now (by omega) true fun w4 h4 k4 => ?_
      exact hR w4 (h.go h4 (k13.trans' (k4.mono fun x hx _ => by simp at hx; simp [hx])) (.inl rfl) (.inl rfl) hS3')
  · have : k = s.pages := by omega
    subst this
    unfold space_Space_Alloc_s0
    have hfind : (List.range s.pages).find? (fun k => isFree s ((k : Nat) + 1 : Int)) = none := by
      rw [List.find?_eq_none]
      intro j hj
      simp at hj
      simp [hno j hj]
    unfold SP.alloc at hR
    rw [hfind] at hR
    exact hR w' (h.go h (Kp.refl _ _) (.inl rfl) (.inl rfl) fun x hx => .inl hx)
/-! ### released -/
def SP.release (s : SP) (n : Int) : SP × Int := if inN13 s n = true then ({ s with nu := setB s.nu n.toNat false }, 0) else (s, 130)
theorem inN_pos {n : Int} (h : inN13 s n = true) : 1 ≤ n ∧ n < 504 ∧ n ≤ s.pages := by
  unfold inN13 hasU at h
  simp only [decide_eq_true_eq] at h
  exact ⟨h.2.1, h.2.2.1, h.1⟩
theorem release_sp (h : SpX w b bd s X) (n : Int) (hR : ∀ w', SpGo w X b bd (s.release n).1 w' → R (.int .i64 (s.release n).2) w') :
    callG Tryz.prog 31 #[.pointer (some ⟨b, 0, none⟩), .int .i64 n] w R := by
  have hX := h
  obtain ⟨Sd, ms, mn, rfl, h⟩ := h
  refine space_Space_Release_call ?_
  unfold space_Space_Release space_Space_Release_s0
  refine given_sp h ?_
  simp only [un_not, bV_b]
  refine ⟨fun hh => by simp at hh, fun _ => ?_⟩
  refine in_sp h n ?_
  unfold SP.release at hR
  simp only [un_not, bV_b]
  refine ⟨fun hh => ?_, fun hh => ?_⟩
  · have hh : inN13 s n = false := by simpa using hh
    rw [hh] at hR
    exact hR w (hX.stay (Kp.refl _ _))
  · have hh : inN13 s n = true := by simpa using hh
    rw [if_pos hh] at hR
    obtain ⟨n1, n2, n3⟩ := inN_pos hh
    obtain ⟨m, rfl⟩ : ∃ m : Nat, n = m := ⟨n.toNat, by omega⟩
    rw [nk_p, fa_p, fa_p]
    refine h.set_now (by omega) false fun w2 h2 k2 => ?_
    exact hR w2 (h.go h2 (k2.mono fun x hx _ => by simp at hx; simp [hx]) (.inl rfl) (.inl rfl) fun x hx => .inl hx)
/-! ### fresh, written, read -/
def SP.fresh (s : SP) (n : Int) : Bool := inN13 s n && !hasU s.su n
theorem fresh_sp (h : SpAt w b bd s Sd ms mn) (n : Int) (hR : R (.bool (s.fresh n)) w) : callG Tryz.prog 29 #[.pointer (some ⟨b, 0, none⟩), .int .i64 n] w R := by
  refine space_Space_Fresh_call ?_
  unfold space_Space_Fresh space_Space_Fresh_s0
  refine given_sp h ?_
  simp only [bV_b]
  refine ⟨fun _ => ?_, fun hh => by simp at hh⟩
  refine in_sp h n ?_
  unfold SP.fresh at hR
  simp only [bV_b]
  refine ⟨fun hh => ?_, fun hh => ?_⟩
  · rw [hh] at hR
    rw [nk_p, fa_p, fa_p]
    refine h.has_sure n ?_
    simp only [un_not]
    simpa using hR
  · rw [hh] at hR
    simpa using hR
def SP.write (s : SP) (n : Int) (t : List UInt8) : SP × Int :=
  if t.length ≠ 256 then (s, 1) else if s.fresh n = true then ({ s with d := (s.wr n.toNat t).1 }, (s.wr n.toNat t).2) else (s, 130)
theorem write_sp (h : SpX w b bd s X) (hl : s.d.l.length + 8 < 2 ^ 40) (n : Int) (t : List UInt8) (hR : ∀ w', SpGo w X b bd (s.write n t).1 w' → R (.int .i64 (s.write n t).2) w') :
    callG Tryz.prog 20 #[.pointer (some ⟨b, 0, none⟩), .int .i64 n, .string (str t)] w R := by
  have hX := h
  obtain ⟨Sd, ms, mn, rfl, h⟩ := h
  refine space_Space_Write_call ?_
  have hm := h.most
  unfold space_Space_Write space_Space_Write_s3 space_Space_Write_s2
  refine given_sp h ?_
  simp only [un_not, bV_b]
  refine ⟨fun hh => by simp at hh, fun _ => ?_⟩
  unfold SP.write at hR
  simp only [lenS_s, str_size, bq_neq]
  unfold space_Space_Write_s1
  simp only [bV_b]
  refine ⟨fun hne => ?_, fun heq => ?_⟩
  · have hne : t.length ≠ 256 := by simp at hne; omega
    rw [if_pos hne] at hR
    exact hR w (hX.stay (Kp.refl _ _))
  · have heq : t.length = 256 := by simp at heq; omega
    rw [if_neg (by omega)] at hR
    refine fresh_sp h n ?_
    simp only [un_not, bV_b]
    refine ⟨fun hh => ?_, fun hh => ?_⟩
    · have hh : s.fresh n = false := by simpa using hh
      rw [hh] at hR
      exact hR w (hX.stay (Kp.refl _ _))
    · have hh : s.fresh n = true := by simpa using hh
      rw [if_pos hh] at hR
      unfold space_Space_Write_s0
      unfold SP.fresh at hh
      rw [Bool.and_eq_true] at hh
      obtain ⟨n1, n2, n3⟩ := inN_pos hh.1
      obtain ⟨m, rfl⟩ : ∃ m : Nat, n = m := ⟨n.toNat, by omega⟩
      rw [Int.toNat_natCast] at hR
      refine at_spec _ (by omega) ?_
      refine writes_spec h.sp0 hl (m + 2) (by omega) t heq fun w3 S3 hd3 k3 hS3 => ?_
      have hlog := wrs_log 8 s.d (s.from_ + 8 * (m + 2)) t
      have h3 := h.setD hd3 k3 hS3 hlog.2
      exact hR w3 (h.go h3 (k3.mono fun x hx _ => by simp [hx]) (.inl rfl) (.inl rfl) hS3)
def SP.read (s : SP) (n : Int) : List UInt8 × Int := if inN13 s n = true then (pgs s.d.now (s.from_ + 8 * (n.toNat + 2)), 0) else ([], 130)
theorem read_sp (h : SpAt w b bd s Sd ms mn) (ho : s.d.off = false) (n : Int) (hR : ∀ w', Kp [] w w' → R (.tuple #[.string (str (s.read n).1), .int .i64 (s.read n).2]) w') :
    callG Tryz.prog 26 #[.pointer (some ⟨b, 0, none⟩), .int .i64 n] w R := by
  refine space_Space_Read_call ?_
  have hm := h.most
  unfold space_Space_Read space_Space_Read_s0
  refine given_sp h ?_
  simp only [un_not, bV_b]
  refine ⟨fun hh => by simp at hh, fun _ => ?_⟩
  refine in_sp h n ?_
  unfold SP.read at hR
  simp only [un_not, bV_b]
  refine ⟨fun hh => ?_, fun hh => ?_⟩
  · have hh : inN13 s n = false := by simpa using hh
    rw [hh] at hR
    exact hR w (Kp.refl _ _)
  · have hh : inN13 s n = true := by simpa using hh
    rw [if_pos hh] at hR
    obtain ⟨n1, n2, n3⟩ := inN_pos hh
    obtain ⟨m, rfl⟩ : ∃ m : Nat, n = m := ⟨n.toNat, by omega⟩
    rw [Int.toNat_natCast] at hR
    refine at_spec _ (by omega) ?_
    refine reads_spec h.sp0 ho (m + 2) (by omega) fun w2 k2 => ?_
    rw [ex0, ex1]
    exact hR w2 k2
/-! ### named -/
theorem SMap.len {N : List (List UInt8 × Int)} {n : Nat} (h : SMap w n N) {ty : TypeId} {K : Value → Prop} (hK : K (.int .i64 (N.length : Nat))) : qG Tryz.prog (Builtin.len_ #[55] ty #[.map (some n)]) w K := by
  obtain ⟨m, clock, hE, hp⟩ := h
  have hl : m.length = N.length := by have := hp.length_eq; simpa using this
  have hgo := Go.MapKept.run_getObj_map (P := Tryz.prog) hE.blk
  have : (Builtin.len_ #[55] ty #[.map (some n)]).run Tryz.prog w = .ok (.int .i64 (N.length : Nat)) w := by
    simp [Builtin.len_, run_underlying mapT.hm, hgo, goInt, Result.andThen, hl]
  rw [qG_of this]
  exact hK
def SP.name (s : SP) (nm : List UInt8) (n : Int) : SP × Int :=
  if nm.length < 1 ∨ 8 < nm.length then (s, 1) else if inN13 s n = false then (s, 130) else if (getN s.nn nm).isSome = false ∧ 6 ≤ s.nn.length then (s, 2) else ({ s with nn := putN s.nn nm n }, 0)
theorem name_sp (h : SpX w b bd s X) (nm : List UInt8) (n : Int) (hR : ∀ w', SpGo w X b bd (s.name nm n).1 w' → R (.int .i64 (s.name nm n).2) w') :
    callG Tryz.prog 22 #[.pointer (some ⟨b, 0, none⟩), .string (str nm), .int .i64 n] w R := by
  have hX := h
  obtain ⟨Sd, ms, mn, rfl, h⟩ := h
  refine space_Space_Name_call ?_
  unfold space_Space_Name space_Space_Name_s2
  refine given_sp h ?_
  simp only [un_not, bV_b]
  refine ⟨fun hh => by simp at hh, fun _ => ?_⟩
  unfold SP.name at hR
  simp only [lenS_s, str_size, bq_lss, bq_gtr, bV_b, decide_eq_true_eq, decide_eq_false_iff_not]
  refine ⟨fun hh => ?_, fun hh1 => ⟨fun hh => ?_, fun hh2 => ?_⟩⟩
  · rw [if_pos (.inl (by omega))] at hR; exact hR w (hX.stay (Kp.refl _ _))
  · rw [if_pos (.inr (by omega))] at hR; exact hR w (hX.stay (Kp.refl _ _))
  rw [if_neg (by omega)] at hR
  unfold space_Space_Name_s1
  have hld : ∀ K : Value → Prop, ld1 (.pointer (some ⟨b, 0 + 68 + 63, none⟩)) w K = K (.map (some mn)) := fun K => h.ldmn (by rfl)
  rw [nk_p, fa_p, fa_p, hld]
  refine h.mN.get2 mapT ?_
  rw [ex0, ex1]
  refine in_sp h n ?_
  simp only [un_not, bV_b]
  refine ⟨fun hh => ?_, fun hh => ?_⟩
  · have hh : inN13 s n = false := by simpa using hh
    rw [if_pos hh] at hR
    exact hR w (hX.stay (Kp.refl _ _))
  have hh : inN13 s n = true := by simpa using hh
  rw [if_neg (by rw [hh]; simp)] at hR
  have put : ¬ ((getN s.nn nm).isSome = false ∧ 6 ≤ s.nn.length) → space_Space_Name_s0 R (.pointer (some ⟨b, 0, none⟩)) (.string (str nm)) (.int .i64 n) w := fun hc => by
    rw [if_neg hc] at hR
    unfold space_Space_Name_s0
    rw [nk_p, fa_p, fa_p, hld]
    refine h.mN.put mapT n fun w2 hM k2 => ?_
    exact hR w2 (h.go (h.set_nn hM k2) (k2.mono fun x hx _ => by simp at hx; simp [hx]) (.inl rfl) (.inl rfl) fun x hx => .inl hx)
  refine ⟨fun hn => ?_, fun hn => put fun hc => by rw [hc.1] at hn; simp at hn⟩
  have hn : (getN s.nn nm).isSome = false := by simpa using hn
  rw [nk_p, fa_p, fa_p, hld]
  refine SMap.len h.mN ?_
  simp only [bq_geq, bV_b, decide_eq_true_eq, decide_eq_false_iff_not]
  refine ⟨fun h6 => ?_, fun h6 => put fun hc => h6 (by omega)⟩
  rw [if_pos ⟨hn, by omega⟩] at hR
  exact hR w (hX.stay (Kp.refl _ _))
theorem named_sp (h : SpAt w b bd s Sd ms mn) (nm : List UInt8) (hR : R (.tuple #[.int .i64 ((getN s.nn nm).getD 0), .bool (getN s.nn nm).isSome]) w) :
    callG Tryz.prog 25 #[.pointer (some ⟨b, 0, none⟩), .string (str nm)] w R := by
  refine space_Space_Named_call ?_
  unfold space_Space_Named space_Space_Named_s0
  refine given_sp h ?_
  simp only [un_not, bV_b]
  refine ⟨fun hh => by simp at hh, fun _ => ?_⟩
  rw [nk_p, fa_p, fa_p, h.ldmn (by rfl)]
  refine h.mN.get2 mapT ?_
  rw [ex0, ex1]
  exact hR
end
end Go.Proofs

/- Rows of k cells that the library's sort has put in order. -/
set_option linter.unusedVariables false
set_option linter.unusedSimpArgs false
namespace Go.Q
/-- a world that has drawn, and new blocks -/
def Gw (w w' : World) : Prop := ∃ q os, w' = Go.Sort.grow (w.drewN q) os
theorem Gw.refl (w : World) : Gw w w := ⟨0, #[], by rw [Go.Sort.grow_empty]; rfl⟩
theorem Gw.alloc {w w' : World} (h : Gw w w') (o : Obj) : Gw w (w'.alloc o) := by
  obtain ⟨q, os, rfl⟩ := h
  exact ⟨q, os ++ #[o], by rw [Go.Sort.alloc_eq_grow, Go.Sort.grow_grow]⟩
theorem Gw.drew {w w' : World} (h : Gw w w') : Gw w w'.drew := by
  obtain ⟨q, os, rfl⟩ := h
  exact ⟨q + 1, os, rfl⟩
variable {α : Type} [Inhabited α]
theorem flatK_list {enc : α → List Value} {k : Nat} (hk : ∀ x, (enc x).length = k) (k0 : 0 < k) (d : List α) : (Go.Sort.flatK enc k d.toArray).toList = (d.map enc).flatten := by
  have hrow : ∀ y ∈ d.map enc, y.length = k := fun y hy => by
    obtain ⟨x, _, rfl⟩ := List.mem_map.1 hy
    exact hk x
  have hfl := flat_len hrow
  rw [List.length_map] at hfl
  apply List.ext_getElem?
  intro t
  by_cases ht : t < d.length * k
  · have hi : t / k < d.length := (Nat.div_lt_iff_lt_mul k0).2 ht
    have hc : t % k < k := Nat.mod_lt _ k0
    have hg := flat_get hrow (i := t / k) (by simpa using hi)
    have e2 := congrArg (fun l => l[t % k]?) hg
    simp only [List.getElem?_take_of_lt hc, List.getElem?_drop] at e2
    have hidx : t / k * k + t % k = t := by rw [Nat.mul_comm]; exact Nat.div_add_mod t k
    rw [hidx] at e2
    rw [e2]
    have hl : t % k < (enc d[t / k]).length := by rw [hk]; exact hc
    have h1 : (Go.Sort.flatK enc k d.toArray).toList[t]? = some (enc d[t / k])[t % k] := by
      have hs : t < (Go.Sort.flatK enc k d.toArray).size := by simpa using ht
      have := Go.Sort.get_flatK enc k d.toArray t (by simpa using ht)
      rw [getElem!_pos _ t hs] at this
      rw [Array.getElem?_toList, Array.getElem?_eq_getElem hs, this]
      have e3 : d.toArray[t / k]! = d[t / k] := by simp [hi]
      rw [e3, getElem!_pos (enc d[t / k]) (t % k) hl]
    rw [h1]
    simp [hl]
  · rw [List.getElem?_eq_none (by simp; omega), List.getElem?_eq_none (by omega)]
theorem holdsK_of {enc : α → List Value} {k : Nat} (hk : ∀ x, (enc x).length = k) (k0 : 0 < k) {w : World} {bl T : Nat} {F : List (List Value)} {d : List α} (h3 : w.heap[bl]? = some (.cells F.flatten.toArray T (0, 0))) (h4 : ∀ x ∈ F, x.length = k) (h5 : F.take d.length = d.map enc) (h6 : d.length ≤ F.length) :
    Go.Sort.HoldsK enc k w bl 0 d.toArray := by
  have hfl := flatK_list hk k0 d
  have hpre : F.flatten.take (d.length * k) = (d.map enc).flatten := by rw [flat_take d.length h4, h5]
  intro j hj
  have hj2 : j < d.length * k := by simpa using hj
  have hg : F.flatten[j]? = some (Go.Sort.flatK enc k d.toArray)[j]! := by
    rw [← List.getElem?_take_of_lt hj2, hpre, ← hfl, Array.getElem?_toList, Array.getElem?_eq_getElem hj, getElem!_pos _ j hj]
  constructor
  · unfold World.cell?
    simp only [h3, Nat.zero_add]
    simpa using hg
  · unfold World.frozen?
    simp only [h3]
    simp
theorem putCells_app {X cur : Array Value} (h : X.size ≤ cur.size) : Go.Sort.putCells id 0 X cur = (X.toList ++ cur.toList.drop X.size).toArray := by
  apply Array.ext
  · simp [Go.Sort.putCells]; omega
  · intro i h1 h2
    have hi : i < cur.size := by simpa [Go.Sort.putCells] using h1
    by_cases hx : i < X.size
    · simp [Go.Sort.putCells, hx]
    · have h0 : i - X.size + X.size = i := by omega
      simp [Go.Sort.putCells, hx, List.getElem_append]
      congr 1
      omega
/-- what lies there behind the sort -/
theorem sortK_fr {enc : α → List Value} {k : Nat} (hk : ∀ x, (enc x).length = k) (k0 : 0 < k) {w0 w : World} {bl T n : Nat} {os : Array Obj} {F : List (List Value)} {d d' : List α} (hkp : Kp [] w0 w) (hbl : w0.heap.size ≤ bl) (h3 : w.heap[bl]? = some (.cells F.flatten.toArray T (0, 0))) (h4 : ∀ x ∈ F, x.length = k) (h6 : d.length ≤ F.length) (hl : d'.length = d.length) :
    Fr w0 (Go.Proofs.sortWorldK enc k w bl 0 n d'.toArray os) (.slice (some ⟨bl, 0, none⟩) d.length F.length) k (d'.map enc) := by
  have hbw := lt_of_blk h3
  have hfl := flat_len h4
  have hX := flatK_list hk k0 d'
  have hXs : (Go.Sort.flatK enc k d'.toArray).size = d.length * k := by simp [hl]
  have hle : (Go.Sort.flatK enc k d'.toArray).size ≤ F.flatten.toArray.size := by
    rw [hXs]; simp only [List.size_toArray]; rw [hfl]; exact Nat.mul_le_mul_right _ h6
  have hheap : (Go.Proofs.sortWorldK enc k w bl 0 n d'.toArray os).heap[bl]? = some (.cells (Go.Sort.putCells id 0 (Go.Sort.flatK enc k d'.toArray) F.flatten.toArray) T (0, 0)) := by
    unfold Go.Proofs.sortWorldK Go.Sort.putRowK
    rw [Go.Sort.heap_grow_old _ _ (by simpa using hbw)]
    simp [Go.Sort.putRow, Go.Sort.mapBlock, Go.Sort.ahead, Array.getElem?_modify, h3, Go.Sort.onCells]
  rw [putCells_app hle, hX, hXs, List.toList_toArray, flat_drop d.length h4, ← List.flatten_append] at hheap
  refine ⟨⟨[bl], .inr ⟨bl, d'.map enc ++ F.drop d.length, T, ?_, rfl, hheap, ?_, ?_, ?_⟩, by simpa using hbl⟩, ⟨hkp.os, hkp.tape, hkp.output, ?_, fun b hb hn => ?_⟩⟩
  · congr 1
    · simp [hl]
    · simp; omega
  · intro x hx
    rcases List.mem_append.1 hx with hx | hx
    · obtain ⟨y, _, rfl⟩ := List.mem_map.1 hx
      exact hk y
    · exact h4 x (List.mem_of_mem_drop hx)
  · exact List.take_left' rfl
  · simp
  · have := hkp.size
    unfold Go.Proofs.sortWorldK Go.Sort.putRowK
    simp
    have : (Go.Sort.ahead w n).heap.size = w.heap.size := rfl
    omega
  · have hs := hkp.size
    have hne : bl ≠ b := by omega
    unfold Go.Proofs.sortWorldK Go.Sort.putRowK
    rw [Go.Sort.heap_grow_old _ _ (by simp; exact Nat.lt_of_lt_of_le hb hs)]
    have : (Go.Sort.putRow id (Go.Sort.ahead w n) bl 0 (Go.Sort.flatK enc k d'.toArray)).heap[b]? = w.heap[b]? := by
      simp [Go.Sort.putRow, Go.Sort.mapBlock, Go.Sort.ahead, Array.getElem?_modify, hne]
    rw [this]
    exact hkp.keep b hb hn
end Go.Q

/- Rows of one cell that the library's sort has put in order; the order of texts. -/
set_option linter.unusedVariables false
set_option linter.unusedSimpArgs false
namespace Go.Q
section
variable {α : Type} [Inhabited α]
theorem flatK1 (enc : α → Value) (d : Array α) : Go.Sort.flatK (fun x => [enc x]) 1 d = d.map enc := by
  apply Array.ext
  · simp
  · intro i h1 h2
    have hi : i < d.size := by simpa using h1
    simp [Go.Sort.flatK, Nat.mod_one, hi]
theorem sortWorld1 (enc : α → Value) (w : World) (bl m : Nat) (d : Array α) (os : Array Obj) : Go.Proofs.sortWorldK (fun x => [enc x]) 1 w bl 0 m d os = Go.Sort.grow (Go.Sort.putRow enc (Go.Sort.ahead w m) bl 0 d) os := by
  unfold Go.Proofs.sortWorldK Go.Sort.putRowK Go.Sort.putRow
  rw [flatK1]
  congr 2
  funext c
  unfold Go.Sort.putCells
  apply Array.ext
  · simp
  · intro i h1 h2
    simp only [Array.getElem_mapIdx, Array.size_map, Nat.zero_add, Nat.sub_zero]
    by_cases hi : i < d.size
    · simp [hi]
    · simp [hi]
theorem holds1_of {enc : α → Value} {w : World} {bl T : Nat} {F : List (List Value)} {d : List α} (h3 : w.heap[bl]? = some (.cells F.flatten.toArray T (0, 0))) (h4 : ∀ x ∈ F, x.length = 1) (h5 : F.take d.length = d.map (fun x => [enc x])) (h6 : d.length ≤ F.length) :
    Go.Sort.Holds enc w bl 0 d.toArray := by
  have h := holdsK_of (enc := fun x => [enc x]) (k := 1) (fun _ => rfl) (by omega) h3 h4 h5 h6
  intro j hj
  have := h j (by rw [flatK1]; simpa using hj)
  rw [flatK1] at this
  have hj' : j < d.length := by simpa using hj
  simpa [hj'] using this
theorem sort1_fr {enc : α → Value} {w0 w : World} {bl T n : Nat} {os : Array Obj} {F : List (List Value)} {d d' : List α} (hkp : Kp [] w0 w) (hbl : w0.heap.size ≤ bl) (h3 : w.heap[bl]? = some (.cells F.flatten.toArray T (0, 0))) (h4 : ∀ x ∈ F, x.length = 1) (h6 : d.length ≤ F.length) (hl : d'.length = d.length) :
    Fr w0 (Go.Sort.grow (Go.Sort.putRow enc (Go.Sort.ahead w n) bl 0 d'.toArray) os) (.slice (some ⟨bl, 0, none⟩) d.length F.length) 1 (d'.map fun x => [enc x]) := by
  rw [← sortWorld1]
  exact sortK_fr (enc := fun x => [enc x]) (k := 1) (fun _ => rfl) (by omega) hkp hbl h3 h4 h6 hl
end
theorem lexL_lt : ∀ (a b : List UInt8), lexL a b = decide (a < b)
  | [], [] => by rw [lexL_nil]; simp
  | [], y :: b => by
    have : lexL [] (y :: b) = true := rfl
    rw [this]; simp
  | x :: a, [] => by rw [lexL_nil]; simp
  | x :: a, y :: b => by
    rw [lexL_cons, lexL_lt a b]
    by_cases h1 : x < y
    · simp [List.cons_lt_cons_iff, h1]
    · by_cases h2 : x = y
      · subst h2; simp [List.cons_lt_cons_iff, h1]
      · simp [List.cons_lt_cons_iff, h1, h2]
end Go.Q

/- Layer 13: the names, rising. -/
set_option maxRecDepth 100000
set_option linter.unusedVariables false
set_option linter.unusedSimpArgs false
namespace Go.Proofs
open Go Go.Q
def Tryz.sortStr_ren : Go.Shelf.Ren := ⟨fun | 190 => 89 | 125 => 97 | 258 => 96 | 128 => 109 | 129 => 110 | 302 => 100 | 303 => 101 | 304 => 102 | 305 => 103 | 306 => 104 | 307 => 105 | 308 => 106 | 309 => 107 | 310 => 108 | 333 => 111 | 329 => 112 | 330 => 113 | 334 => 114 | 335 => 115 | 336 => 116 | 344 => 117 | n => n, fun | 31 => 34 | 9 => 9 | 3 => 3 | 46 => 63 | 0 => 0 | 51 => 135 | 53 => 138 | 4 => 4 | 183 => 149 | 182 => 148 | 131 => 75 | 5 => 5 | 218 => 156 | 222 => 160 | 228 => 163 | 229 => 164 | n => n, fun | n => n⟩
theorem Tryz.sortStr : Go.Proofs.Lays.n190 Tryz.prog Tryz.sortStr_ren where
  mixed := by kernel_rfl
  f125 := Tryz.func97.trans (congrArg some (by kernel_rfl))
  f128 := Tryz.func109.trans (congrArg some (by kernel_rfl))
  f129 := Tryz.func110.trans (congrArg some (by kernel_rfl))
  f190 := Tryz.func89.trans (congrArg some (by kernel_rfl))
  f258 := Tryz.func96.trans (congrArg some (by kernel_rfl))
  f302 := Tryz.func100.trans (congrArg some (by kernel_rfl))
  f303 := Tryz.func101.trans (congrArg some (by kernel_rfl))
  f304 := Tryz.func102.trans (congrArg some (by kernel_rfl))
  f305 := Tryz.func103.trans (congrArg some (by kernel_rfl))
  f306 := Tryz.func104.trans (congrArg some (by kernel_rfl))
  f307 := Tryz.func105.trans (congrArg some (by kernel_rfl))
  f308 := Tryz.func106.trans (congrArg some (by kernel_rfl))
  f309 := Tryz.func107.trans (congrArg some (by kernel_rfl))
  f310 := Tryz.func108.trans (congrArg some (by kernel_rfl))
  f329 := Tryz.func112.trans (congrArg some (by kernel_rfl))
  f330 := Tryz.func113.trans (congrArg some (by kernel_rfl))
  f333 := Tryz.func111.trans (congrArg some (by kernel_rfl))
  f334 := Tryz.func114.trans (congrArg some (by kernel_rfl))
  f335 := Tryz.func115.trans (congrArg some (by kernel_rfl))
  f336 := Tryz.func116.trans (congrArg some (by kernel_rfl))
  f344 := Tryz.func117.trans (congrArg some (by kernel_rfl))
  t0 := Tryz.underlying0
  a0 := Tryz.isAgg0
  z0 := Tryz.sizeOf0
  v0 := Tryz.zeroValue0
  t3 := Tryz.underlying3
  a3 := Tryz.isAgg3
  z3 := Tryz.sizeOf3
  v3 := Tryz.zeroValue3
  t4 := Tryz.underlying4
  a4 := Tryz.isAgg4
  z4 := Tryz.sizeOf4
  v4 := Tryz.zeroValue4
  t5 := Tryz.underlying5
  a5 := Tryz.isAgg5
  z5 := Tryz.sizeOf5
  v5 := Tryz.zeroValue5
  t9 := Tryz.underlying9
  a9 := Tryz.isAgg9
  z9 := Tryz.sizeOf9
  v9 := Tryz.zeroValue9
  t31 := Tryz.underlying34
  a31 := Tryz.isAgg34
  z31 := Tryz.sizeOf34
  v31 := Tryz.zeroValue34
  t46 := Tryz.underlying63
  a46 := Tryz.isAgg63
  z46 := Tryz.sizeOf63
  v46 := Tryz.zeroValue63
  t51 := Tryz.underlying135
  a51 := Tryz.isAgg135
  z51 := Tryz.sizeOf135
  v51 := Tryz.zeroValue135
  t53 := Tryz.underlying138
  a53 := Tryz.isAgg138
  z53 := Tryz.sizeOf138
  v53 := Tryz.zeroValue138
  t131 := Tryz.underlying75
  a131 := Tryz.isAgg75
  z131 := Tryz.sizeOf75
  v131 := Tryz.zeroValue75
  t182 := Tryz.underlying148
  a182 := Tryz.isAgg148
  z182 := Tryz.sizeOf148
  v182 := Tryz.zeroValue148
  t183 := Tryz.underlying149
  a183 := Tryz.isAgg149
  z183 := Tryz.sizeOf149
  v183 := Tryz.zeroValue149
  t218 := Tryz.underlying156
  a218 := Tryz.isAgg156
  z218 := Tryz.sizeOf156
  v218 := Tryz.zeroValue156
  t222 := Tryz.underlying160
  a222 := Tryz.isAgg160
  z222 := Tryz.sizeOf160
  v222 := Tryz.zeroValue160
  t228 := Tryz.underlying163
  a228 := Tryz.isAgg163
  z228 := Tryz.sizeOf163
  v228 := Tryz.zeroValue163
  t229 := Tryz.underlying164
  a229 := Tryz.isAgg164
  z229 := Tryz.sizeOf164
  v229 := Tryz.zeroValue164
def nmR (x : List UInt8) : List Value := [.string (str x)]
theorem nmR_flat (l : List (List UInt8)) : (l.map nmR).flatten.all Q.one = true := by
  induction l with
  | nil => rfl
  | cons x l ih => simp only [List.map_cons, List.flatten_cons, List.all_append, ih, Bool.and_true]; rfl
section
variable {w w' : World} {b bd : Nat} {s : SP} {Sd X : List Nat} {ms mn : Nat} {R : Value → World → Prop}
theorem sortStr_spec {w0 : World} {v : Value} {l : List (List UInt8)} (h : Fr w0 w v 1 (l.map nmR)) (hl : l.length < 2 ^ 60) (hn : l.Nodup)
    (hR : ∀ (w' : World) (ks : List (List UInt8)), ks.Perm l → ks.Pairwise (fun a c => lexL a c = true) → Fr w0 w' v 1 (ks.map nmR) → R (.tuple #[]) w') : callG Tryz.prog 89 #[v] w R := by
  have hkp := h.kp
  obtain ⟨S, hr, hS⟩ := h.ex
  rcases hr with ⟨h1, h2, h3⟩ | ⟨bl, F, T, h1, h2, h3, h4, h5, h6⟩
  · have hl0 : l = [] := by simpa using h2
    subst hl0; subst h1
    have hcon := Any.slices_Sort_string_none Tryz.sortStr none 0 w
    refine hcon.mono ?_
    rintro e w' ⟨rfl, rfl⟩
    exact ⟨_, rfl, hR _ [] (List.Perm.refl _) List.Pairwise.nil h⟩
  · have hbl : w0.heap.size ≤ bl := hS bl (by rw [h2]; simp)
    have hlt := lt_of_blk h3
    simp only [List.length_map] at h1 h5 h6
    have hH := holds1_of (enc := encStr) h3 h4 h5 h6
    have hcon := Any.slices_Sort_string Tryz.sortStr bl 0 F.length l w hH hlt (by omega)
    subst h1
    refine hcon.mono ?_
    rintro e w' ⟨rfl, n, os, rfl⟩
    refine ⟨_, rfl, ?_⟩
    have p1 := List.mergeSort_perm l (fun x y => decide (x ≤ y))
    have p2 : (l.mergeSort fun x y => decide (x ≤ y)).Pairwise fun a b => decide (a ≤ b) = true := List.pairwise_mergeSort (by
      intro a b c h1 h2
      rw [decide_eq_true_eq] at *
      exact List.le_trans h1 h2) (by
      intro a b
      have := List.le_total a b
      simpa using this) l
    refine hR _ _ p1 ?_ (sort1_fr (enc := encStr) hkp hbl h3 h4 h6 p1.length_eq)
    have hnd := p1.nodup_iff.2 hn
    refine (p2.and hnd).imp ?_
    rintro a c ⟨hle, hne⟩
    rw [lexL_lt, decide_eq_true_eq]
    rw [decide_eq_true_eq] at hle
    refine Classical.byContradiction fun hlt => hne (List.le_antisymm hle (List.not_lt.1 hlt))
theorem names_sp (h : SpAt w b bd s Sd ms mn) (hl : s.nn.length < 2 ^ 20) (hR : ∀ (w' : World) (v : Value) (ks : List (List UInt8)), ks.Perm (s.nn.map (·.1)) → ks.Pairwise (fun a c => lexL a c = true) → Fr w w' v 1 (ks.map nmR) → R v w') :
    callG Tryz.prog 60 #[.pointer (some ⟨b, 0, none⟩)] w R := by
  refine space_Space_Names_call ?_
  unfold space_Space_Names space_Space_Names_s4
  refine given_sp h ?_
  simp only [un_not, bV_b]
  refine ⟨fun hh => by simp at hh, fun _ => ?_⟩
  unfold space_Space_Names_s3
  rw [nk_p, fa_p, fa_p, h.ldmn (by rfl)]
  have lm := h.mN.lt
  have hnd := h.mN.nodup
  obtain ⟨es, clock, hE, hperm⟩ := h.mN
  have hlen : es.length = s.nn.length := by have := hperm.length_eq; simpa using this
  refine it_new mapT hE fun it w4 hit k4 hI => ?_
  unfold space_Space_Names_L2
  have lit := lt_of_blk hI
  have z4 := k4.size
  have hb0 : ∀ l : List SE, (l.map (·.k)).map nmR = l.map fun e => nmR e.k := fun l => by rw [List.map_map]; rfl
  refine loop_inv (fun n xs w' => ∃ done v S, n = es.length - done.length ∧ xs = [v, .pointer (some ⟨it, 0, none⟩)] ∧ It w' it mn clock done ∧ (done.map (·.b)).Nodup ∧ (∀ e ∈ done, e ∈ es) ∧ RowsAt w' v 1 ((done.map (·.k)).map nmR) S ∧ (∀ x ∈ S, w4.heap.size ≤ x) ∧ Kp [] w w' ∧ w4.heap.size ≤ w'.heap.size) ?_ (m := es.length) ⟨[], .slice none 0 0, [], by simp, rfl, hI, by simp, by simp, .inl ⟨rfl, rfl, rfl⟩, by simp, k4, Nat.le_refl _⟩
  rintro n N xs w' ⟨done, v, S, rfl, rfl, hI', hdn, hsub, hv, hS, hk, hsz⟩ hN
  have hE' := hE.keep hk (by simp)
  unfold space_Space_Names_L2F space_Space_Names_b1
  dsimp only
  refine it_next hE' hI' (fun hall => ?_) fun e he hne w5 k5 hI5 => ?_
  · rw [ex1of1]
    simp only [bV_b]
    refine ⟨fun hh => by simp at hh, fun _ => ?_⟩
    unfold space_Space_Names_s0
    have hfin : done.Perm es := it_all hE.nb hdn hsub hall
    have hkp : (done.map (·.k)).Perm (s.nn.map (·.1)) := by
      have := (hfin.map SE.kv).trans hperm
      have := this.map (·.1)
      rw [List.map_map] at this
      exact this
    have hfr : Fr w w' v 1 ((done.map (·.k)).map nmR) := ⟨⟨S, hv, fun x hx => by have := hS x hx; omega⟩, hk⟩
    have hdl : done.length = es.length := hfin.length_eq
    refine sortStr_spec hfr (by rw [List.length_map]; omega) (hkp.nodup_iff.2 hnd) fun w6 ks h1 h2 h3 => ?_
    exact hR w6 v ks (h1.trans hkp) h2 h3
  · rw [ex1of3]
    simp only [bV_b]
    refine ⟨fun _ => ?_, fun hh => by simp at hh⟩
    have hlt := done_len hdn hsub he hne
    have z5 := k5.size
    have hv5 := hv.keep k5 (fun x hx hm => by simp at hm; have := hS x hx; omega)
    refine it_entry (hE'.keep k5 (by simp; omega)) he hI5 ?_
    rw [ex0]
    refine bsl_rowN (n := 1) (cs := nmR e.k) (by omega) rfl rfl fun v' w6 hf => ?_
    have k56 := hf.kp
    have z6 := k56.size
    have hv6 := hv5.keep k56 (by simp)
    rw [show zc Tryz.prog 9 = [Value.string ⟨#[]⟩].toArray from by kernel_rfl]
    refine rows_app (k := 1) hv6 (by omega) rfl (G := [nmR e.k]) (by simp [nmR]) (by rfl) (fun K' hK' => hf.rd.src K' hK') (by simp; omega) (by simp; omega) fun v2 w7 S7 h7 k7 hS7 => ?_
    have z7 := k7.size
    refine hN (es.length - (done ++ [e]).length) _ w7 (by simp; omega) ⟨done ++ [e], v2, S7, rfl, rfl, ?_, done_snoc hdn hne, fun x hx => ?_, ?_, fun x hx => ?_, ?_, by omega⟩
    · exact (hI5.keep k56 (by simp)).keep k7 (fun hm => by have := hS it hm; omega)
    · rcases List.mem_append.1 hx with hx | hx
      · exact hsub x hx
      · simp at hx; exact hx ▸ he
    · rw [List.map_append, List.map_append]; exact h7
    · rcases hS7 x hx with h | h
      · exact hS x h
      · omega
    · have zk := hk.size
      exact ((hk.trans k5 fun x hx hlt => by simp at hx; omega).trans' k56).trans k7 fun x hx hlt => by have := hS x hx; omega
end
end Go.Proofs

/- Layer 13: a commit. -/
set_option maxRecDepth 100000
set_option linter.unusedVariables false
set_option linter.unusedSimpArgs false
namespace Go.Proofs
open Go Go.Q
theorem bsl_two {e : Nat} {z : Array Value} {v u : Value} (hv : Q.one v = true) (hu : Q.one u = true) {w : World} {k : Value → World → Prop} :
    bsl e 1 2 z #[(0, v), (1, u)] w k = k (.slice (some ⟨w.heap.size, 0, none⟩) 2 2) (w.alloc (.cells #[v, u] e)) := by
  have hc := cells_one hv
  have hd := cells_one hu
  obtain ⟨r, hr⟩ : ∃ r, r = rep z (2 * 1) := ⟨_, rfl⟩
  have hs : r.size = 2 := by rw [hr, rep_size]
  obtain ⟨l⟩ := r
  match l, hs with
  | [a, b], _ =>
    unfold bsl
    show (match Instr.fill (fun i => some (i * 1, 1)) (rep z (2 * 1)) [(0, v), (1, u)] with | some cs => k (Value.slice (some ⟨w.heap.size, 0, none⟩) 2 2) (w.alloc (Obj.cells cs e)) | none => False) = _
    rw [← hr]
    rw [fill_step (off := 0) (size := 1) rfl (by rw [hc]; rfl) (by simp), hc]
    rw [fill_step (off := 1) (size := 1) rfl (by rw [hd]; rfl) (by simp [splice]), hd]
    rfl
/-- what is always so of a space's names -/
structure Fine (N : List (List UInt8 × Int)) : Prop where
  few : N.length ≤ 6
  nm : ∀ x ∈ N, 1 ≤ x.1.length ∧ x.1.length ≤ 8
  vl : ∀ x ∈ N, 1 ≤ x.2 ∧ x.2 < 504
theorem Fine.perm {N N' : List (List UInt8 × Int)} (h : Fine N) (hp : N'.Perm N) : Fine N' := ⟨by rw [hp.length_eq]; exact h.few, fun x hx => h.nm x (hp.mem_iff.1 hx), fun x hx => h.vl x (hp.mem_iff.1 hx)⟩
def KeyS (N : List (List UInt8 × Int)) : Prop := (N.map (·.1)).Pairwise fun a c => lexL a c = true
theorem tot_le : ∀ (N : List (List UInt8 × Int)), (∀ x ∈ N, x.1.length ≤ 8) → tot (N.map nmP) ≤ 11 * N.length
  | [], _ => by simp [tot]
  | x :: N, h => by
    have := tot_le N fun y hy => h y (by simp [hy])
    have hx := h x (by simp)
    rw [List.map_cons, tot_cons]
    have : clen (nmP x) = x.1.length + 3 := by simp [clen, nmP, vB]
    simp only [List.length_cons]
    omega
theorem fit_stL {u : List UInt8} {N : List (List UInt8 × Int)} (hu : u.length = 63) (h : Fine N) : Fit (stL u N) := by
  have ht := tot_le N fun x hx => (h.nm x hx).2
  have h6 := h.few
  refine ⟨?_, fun x hx => ?_⟩
  · unfold stL
    rw [tot_app]
    have : tot [([117], u)] = 64 := by simp [tot, clen, hu]
    simp only [List.length_append, List.length_map, List.length_cons, List.length_nil]
    omega
  · unfold stL at hx
    rcases List.mem_append.1 hx with hx | hx
    · obtain ⟨y, hy, rfl⟩ := List.mem_map.1 hx
      have := h.nm y hy
      simp [nmP, clen, vB]
      omega
    · simp at hx
      subst hx
      simp [clen, hu]
theorem lex_n (a c : List UInt8) : lexL (110 :: a) (110 :: c) = lexL a c := by
  rw [lexL_cons]
  simp
theorem lex_nu (a : List UInt8) : lexL (110 :: a) [117] = true := by rw [lexL_cons]; rfl
theorem sort_stL {u : List UInt8} {N : List (List UInt8 × Int)} (h : KeyS N) : SortK (stL u N) := by
  unfold SortK stL
  rw [List.pairwise_append]
  refine ⟨?_, by simp, fun a ha c hc => ?_⟩
  · rw [List.pairwise_map]
    unfold KeyS at h
    rw [List.pairwise_map] at h
    refine h.imp ?_
    intro x y hxy
    show lexL (110 :: x.1) (110 :: y.1) = true
    rw [lex_n]; exact hxy
  · obtain ⟨y, hy, rfl⟩ := List.mem_map.1 ha
    simp at hc
    subst hc
    exact lex_nu _
def SP.commit (s : SP) (N : List (List UInt8 × Int)) : SP × Int :=
  if (N.all fun x => inN13 s x.2) = false then (s, 130)
  else if 1048575 ≤ s.turn then (s, 2)
  else if (wrs 8 s.d (s.from_ + 8 * (1 + (s.turn + 1) % 2)) (bytesP (lay 200 (stL s.nu N)))).2 ≠ 0 then
    ({ s with d := (wrs 8 s.d (s.from_ + 8 * (1 + (s.turn + 1) % 2)) (bytesP (lay 200 (stL s.nu N)))).1 }, (wrs 8 s.d (s.from_ + 8 * (1 + (s.turn + 1) % 2)) (bytesP (lay 200 (stL s.nu N)))).2)
  else if (wrs 8 s.d (s.from_ + 8 * (1 + (s.turn + 1) % 2)) (bytesP (lay 200 (stL s.nu N)))).1.flush.2 ≠ 0 then
    ({ s with d := (wrs 8 s.d (s.from_ + 8 * (1 + (s.turn + 1) % 2)) (bytesP (lay 200 (stL s.nu N)))).1.flush.1 }, (wrs 8 s.d (s.from_ + 8 * (1 + (s.turn + 1) % 2)) (bytesP (lay 200 (stL s.nu N)))).1.flush.2)
  else if ((wrs 8 s.d (s.from_ + 8 * (1 + (s.turn + 1) % 2)) (bytesP (lay 200 (stL s.nu N)))).1.flush.1.write ((s.from_ + (s.turn + 1) % 2 : Nat) : Int) (headB (s.turn + 1) s.pages)).2 ≠ 0 then
    ({ s with d := ((wrs 8 s.d (s.from_ + 8 * (1 + (s.turn + 1) % 2)) (bytesP (lay 200 (stL s.nu N)))).1.flush.1.write ((s.from_ + (s.turn + 1) % 2 : Nat) : Int) (headB (s.turn + 1) s.pages)).1 }, ((wrs 8 s.d (s.from_ + 8 * (1 + (s.turn + 1) % 2)) (bytesP (lay 200 (stL s.nu N)))).1.flush.1.write ((s.from_ + (s.turn + 1) % 2 : Nat) : Int) (headB (s.turn + 1) s.pages)).2)
  else if ((wrs 8 s.d (s.from_ + 8 * (1 + (s.turn + 1) % 2)) (bytesP (lay 200 (stL s.nu N)))).1.flush.1.write ((s.from_ + (s.turn + 1) % 2 : Nat) : Int) (headB (s.turn + 1) s.pages)).1.flush.2 ≠ 0 then
    ({ s with d := ((wrs 8 s.d (s.from_ + 8 * (1 + (s.turn + 1) % 2)) (bytesP (lay 200 (stL s.nu N)))).1.flush.1.write ((s.from_ + (s.turn + 1) % 2 : Nat) : Int) (headB (s.turn + 1) s.pages)).1.flush.1 }, ((wrs 8 s.d (s.from_ + 8 * (1 + (s.turn + 1) % 2)) (bytesP (lay 200 (stL s.nu N)))).1.flush.1.write ((s.from_ + (s.turn + 1) % 2 : Nat) : Int) (headB (s.turn + 1) s.pages)).1.flush.2)
  else ({ s with d := ((wrs 8 s.d (s.from_ + 8 * (1 + (s.turn + 1) % 2)) (bytesP (lay 200 (stL s.nu N)))).1.flush.1.write ((s.from_ + (s.turn + 1) % 2 : Nat) : Int) (headB (s.turn + 1) s.pages)).1.flush.1, turn := s.turn + 1, su := s.nu, sn := s.nn }, 0)
theorem flush_log (d : DK) : d.flush.1.l.length ≤ d.l.length ∧ d.flush.1.now.length = d.now.length := by
  have hb := d.burns_now
  unfold DK.flush
  split
  · simp [hb.1]
  · rw [hb.1, hb.2.1]; omega
section
variable {w w' : World} {b bd : Nat} {s : SP} {Sd X : List Nat} {ms mn : Nat} {R : Value → World → Prop}
theorem SpAt.cellO (h : SpAt w b bd s Sd ms mn) : w.heap[b]? = some (.cells (opC bd s.from_ s.pages ⟨s.turn, s.su, s.sn⟩ ms s.nu (some mn)) 59) := h.cell
theorem SpAt.ldnow (h : SpAt w b bd s Sd ms mn) {K : Value → Prop} : ldn 64 (.pointer (some ⟨b, 0 + 68, none⟩)) w K = K (.agg (stC s.nu (.map (some mn)))) := by
  have e : spC bd s ms mn = ((spH bd s ++ (u8c s.su ++ [Value.map (some ms)])) ++ ((u8c s.nu ++ [Value.map (some mn)]) ++ [])).toArray := by simp [spC, arC]
  refine ldP h.cell (p := stC s.nu (.map (some mn))) ?_ ?_
  · rw [e]
    simp [stC, arC, h.lsu, h.lnu, spH, List.take_append, List.drop_append, List.take_of_length_le]
  · rw [e]; simp [h.lsu, h.lnu, spH]
theorem SpAt.textnow (h : SpAt w b bd s Sd ms mn) {K : Value → Prop} : (slA 63 1 (.pointer (some ⟨b, 0 + 68 + 0, none⟩)) none none fun t => cvBS t w K) = K (.string (str s.nu)) := by
  rw [slA_whole (by omega), ar_text h.now (lo := 0) (n := 63) (by rw [h.lnu]; omega) (.inl (by rw [pre68 h]))]
  rw [List.drop_zero, List.take_of_length_le (by rw [h.lnu]; omega)]
theorem commit_sp (h : SpX w b bd s X) (hl : s.d.l.length + 9 < 2 ^ 40) (hfine : Fine s.nn)
    (hR : ∀ (w' : World) (N : List (List UInt8 × Int)), N.Perm s.nn → KeyS N → SpGo w X b bd (s.commit N).1 w' → R (.int .i64 (s.commit N).2) w') :
    callG Tryz.prog 23 #[.pointer (some ⟨b, 0, none⟩)] w R := by
  have hX := h
  obtain ⟨Sd, ms, mn, rfl, h⟩ := h
  have hm := h.most
  have hfit0 := h.fit
  have hdl := h.disk.dlen
  have hnd := h.mN.nodup
  refine space_Space_Commit_call ?_
  unfold space_Space_Commit space_Space_Commit_s4
  refine given_sp h ?_
  simp only [un_not, bV_b]
  refine ⟨fun hh => by simp at hh, fun _ => ?_⟩
  refine pNew_spec fun w1 p hp1 hpg k1 => ?_
  rw [ex0, ex1, nk_p, fa_p, fa_p]
  have h1 := h.keep0 k1
  rw [h1.textnow]
  have hlts := h.lts
  have hpX : ∀ x ∈ b :: ms :: mn :: Sd, x ≠ p := fun x hx => by have := hlts x hx; omega
  rw [show (Value.string ⟨#[117]⟩) = .string (str ([117], s.nu).1) from rfl, show (Value.string (str s.nu)) = .string (str (([117], s.nu) : KV).2) from rfl]
  refine pPut_spec (A := []) (B := []) (x := ([117], s.nu)) hpg (fit_stL (N := []) h.lnu ⟨by simp, by simp, by simp⟩) (by simp) (by simp) fun w2 hpg2 k2 => ?_
  have h2 := h1.keep k2 (fun x hx => by simpa using hpX x hx)
  have k12 : Kp [] w w2 := k1.trans k2 fun x hx hlt => by simp at hx; omega
  unfold space_Space_Commit_s3
  refine names_sp h2 (by have := hfine.few; omega) fun w3 nv ks hks hsort hfr => ?_
  have k3 := hfr.kp
  have h3 := h2.keep0 k3
  have hpg3 := hpg2.keep k3 (by simp)
  have k13 := k12.trans' k3
  -- the names with their pages
  obtain ⟨N, hN⟩ : ∃ N : List (List UInt8 × Int), N = ks.map fun k => (k, (getN s.nn k).getD 0) := ⟨_, rfl⟩
  have hNk : N.map (·.1) = ks := by
    rw [hN, List.map_map]
    exact List.map_id _
  have hNp : N.Perm s.nn := by
    have e1 : s.nn = (s.nn.map (·.1)).map fun k => (k, (getN s.nn k).getD 0) := by
      rw [List.map_map]
      symm
      rw [List.map_congr_left (g := id)]
      · exact List.map_id _
      · intro x hx
        have : getN s.nn x.1 = some x.2 := (getN_some hnd).2 hx
        simp [this]
    rw [e1, hN]
    have := hks.map fun k => (k, (getN s.nn k).getD 0)
    exact this
  have hNs : KeyS N := by unfold KeyS; rw [hNk]; exact hsort
  have hNf := hfine.perm hNp
  have hlen : ks.length = N.length := by rw [hN]; simp
  have hNg : ∀ i (hi : i < N.length) (hi' : i < ks.length), ks[i] = N[i].1 ∧ (getN s.nn ks[i]).getD 0 = N[i].2 := fun i hi hi' => by subst hN; simp
  have hR := fun w' => hR w' N hNp hNs
  obtain ⟨a0, c0, hnv⟩ := hfr.rd.slice
  have hll : ∀ K : Value → Prop, lenL nv K = K (.int .i64 (ks.length : Nat)) := fun K => by rw [hfr.rd.lenL]; simp
  rw [hll]
  have h6 := hNf.few
  have hB1 : Fit (stL s.nu N) := fit_stL h.lnu hNf
  -- behind the page's keys
  have tail : ∀ w', (∀ x ∈ N, inN13 s x.2 = true) → PgAt w' p 200 (stL s.nu N) → Kp [p] w3 w' → space_Space_Commit_s0 R (.pointer (some ⟨b, 0, none⟩)) (.pointer (some ⟨p, 0, none⟩)) w' := by
    intro w' hall hpg' hk'
    have h' := h3.keep hk' (fun x hx => by simpa using hpX x hx)
    have z3 := k13.size
    have kw' : Kp [] w w' := k13.trans hk' fun x hx hlt => by simp at hx; omega
    have hallb : (N.all fun x => inN13 s x.2) = true := by rw [List.all_eq_true]; exact hall
    unfold SP.commit at hR
    rw [if_neg (by rw [hallb]; simp)] at hR
    have htn := h.tn
    unfold space_Space_Commit_s0
    rw [nk_p, fa_p, h'.ldturn]
    simp only [bq_geq, bV_b, decide_eq_true_eq, decide_eq_false_iff_not]
    refine ⟨fun hge => ?_, fun hlt => ?_⟩
    · rw [if_pos (by omega)] at hR
      exact hR w' (hX.stay kw')
    rw [if_neg (by omega)] at hR
    have e1 : IntKind.i64.wrap ((s.turn : Int) + 1) = ((s.turn + 1 : Nat) : Int) := by rw [w64 (by omega) (by omega)]; omega
    have e2 : (((s.turn + 1 : Nat) : Int) % 2) = (((s.turn + 1) % 2 : Nat) : Int) := by simp
    have e3 : IntKind.i64.wrap (1 + (((s.turn + 1) % 2 : Nat) : Int)) = ((1 + (s.turn + 1) % 2 : Nat) : Int) := by rw [w64 (by omega) (by omega)]; omega
    rw [nk_p, fa_p, h'.ldturn]
    simp only [bq_add, e1]
    rw [rem_of (by omega) (by omega), e2]
    simp only [bq_add, e3]
    refine Bytes_spec hpg'.1 fun w4 k4 => ?_
    have h4 := h'.keep0 k4
    have kw4 := kw'.trans' k4
    have hpl : (bytesP (lay 200 (stL s.nu N))).length = 256 := bytesP_len (lay_len hB1)
    refine writes_spec h4.sp0 (by omega) _ (by omega) _ hpl fun w5 S5 hd5 k5 hS5 => ?_
    have lg5 := wrs_log 8 s.d (s.from_ + 8 * (1 + (s.turn + 1) % 2)) (bytesP (lay 200 (stL s.nu N)))
    generalize hx1 : wrs 8 s.d (s.from_ + 8 * (1 + (s.turn + 1) % 2)) (bytesP (lay 200 (stL s.nu N))) = x1 at *
    have h5 := h4.setD hd5 k5 hS5 lg5.2
    have kX : ∀ {S : List Nat} {wa wb : World}, Kp (b :: ms :: mn :: Sd) w wa → (∀ x ∈ S, x ∈ b :: ms :: mn :: Sd ∨ w.heap.size ≤ x) → Kp S wa wb → Kp (b :: ms :: mn :: Sd) w wb := fun ka hs kb => ka.trans kb fun x hx hlt => by
      rcases hs x hx with h | h
      · exact h
      · omega
    have z4 := kw4.size
    have kw5 : Kp (b :: ms :: mn :: Sd) w w5 := kX (kw4.mono (by simp)) (fun x hx => .inl (by simp [hx])) k5
    have hS5' : ∀ x ∈ S5, x ∈ Sd ∨ w.heap.size ≤ x := fun x hx => (hS5 x hx).imp id fun h => by omega
    simp only [bq_neq, bV_b]
    refine ⟨fun hne => ?_, fun heq => ?_⟩
    · have hne : x1.2 ≠ 0 := by simpa using hne
      rw [if_pos hne] at hR
      exact hR w5 (h.go h5 kw5 (.inl rfl) (.inl rfl) hS5')
    have heq : ¬ x1.2 ≠ 0 := by simpa using heq
    rw [if_neg heq] at hR
    rw [nk_p, fa_p, h5.ldd]
    refine Flush_spec h5.disk (by show x1.1.l.length < 2 ^ 40; omega) fun w6 hd6 k6 => ?_
    have lg6 := flush_log x1.1
    generalize hx2 : x1.1.flush = x2 at *
    have h6' := h5.setD (d' := x2.1) hd6 k6 (fun x hx => .inl hx) lg6.2
    have kw6 : Kp (b :: ms :: mn :: Sd) w w6 := kX kw5 (fun x hx => (hS5' x hx).imp (fun h => by simp [h]) id) k6
    simp only [bq_neq, bV_b]
    refine ⟨fun hne => ?_, fun heq => ?_⟩
    · have hne : x2.2 ≠ 0 := by simpa [hx2] using hne
      rw [if_pos hne] at hR
      exact hR w6 (h.go h6' kw6 (.inl rfl) (.inl rfl) hS5')
    have heq : ¬ x2.2 ≠ 0 := by simpa [hx2] using heq
    rw [if_neg heq] at hR
    have h6d := h6'.keep0 ((Kp.refl [] w6).drew)
    rw [nk_p, fa_p, h6d.ldd, nk_p, fa_p, h6d.ldfrom, rem_of (by omega) (by omega), e2]
    have e4 : IntKind.i64.wrap ((s.from_ : Int) + (((s.turn + 1) % 2 : Nat) : Int)) = ((s.from_ + (s.turn + 1) % 2 : Nat) : Int) := by rw [w64 (by omega) (by omega)]; omega
    simp only [bq_add, e4]
    refine head_spec h6d.sp0 (s.turn + 1) (by omega) fun w7 k7 => ?_
    have h7 := h6d.keep0 k7
    have kw7 : Kp (b :: ms :: mn :: Sd) w w7 := kX (kX kw6 (S := []) (by simp) ((Kp.refl [] w6).drew)) (S := []) (by simp) k7
    refine ⟨by rw [stb_add, e4], by rw [stb_of (run_rem (by omega) (by omega)), e2], by rw [h7.ldfrom], by rw [h7.ldd], ?_⟩
    refine Write_spec h7.disk (by show x2.1.l.length < 2 ^ 40; omega) _ _ fun w8 S8 hd8 k8 hS8 => ?_
    have lg8 := write_log x2.1 ((s.from_ + (s.turn + 1) % 2 : Nat) : Int) (headB (s.turn + 1) s.pages)
    have hd8 : DiskAt w8 bd (x2.1.write ((s.from_ + (s.turn + 1) % 2 : Nat) : Int) (headB (s.turn + 1) s.pages)).1 S8 := hd8
    generalize hx3 : x2.1.write ((s.from_ + (s.turn + 1) % 2 : Nat) : Int) (headB (s.turn + 1) s.pages) = x3 at *
    have h8 := h7.setD (d' := x3.1) hd8 k8 hS8 lg8.2
    have z7 := kw7.size
    have kw8 : Kp (b :: ms :: mn :: Sd) w w8 := kX kw7 (fun x hx => (hS5' x hx).imp (fun h => by simp [h]) id) k8
    have hS8' : ∀ x ∈ S8, x ∈ Sd ∨ w.heap.size ≤ x := fun x hx => by
      rcases hS8 x hx with h | h
      · exact hS5' x h
      · right; omega
    simp only [bq_neq, bV_b]
    refine ⟨fun hne => ?_, fun heq => ?_⟩
    · have hne : x3.2 ≠ 0 := by simpa [hx3] using hne
      rw [if_pos hne] at hR
      exact hR w8 (h.go h8 kw8 (.inl rfl) (.inl rfl) hS8')
    have heq : ¬ x3.2 ≠ 0 := by simpa [hx3] using heq
    rw [if_neg heq] at hR
    rw [nk_p, fa_p, h8.ldd]
    refine Flush_spec h8.disk (by show x3.1.l.length < 2 ^ 40; omega) fun w9 hd9 k9 => ?_
    have lg9 := flush_log x3.1
    generalize hx4 : x3.1.flush = x4 at *
    have h9 := h8.setD (d' := x4.1) hd9 k9 (fun x hx => .inl hx) lg9.2
    have kw9 : Kp (b :: ms :: mn :: Sd) w w9 := kX kw8 (fun x hx => (hS8' x hx).imp (fun h => by simp [h]) id) k9
    simp only [bq_neq, bV_b]
    refine ⟨fun hne => ?_, fun heq => ?_⟩
    · have hne : x4.2 ≠ 0 := by simpa [hx4] using hne
      rw [if_pos hne] at hR
      exact hR w9 (h.go h9 kw9 (.inl rfl) (.inl rfl) hS8')
    have heq : ¬ x4.2 ≠ 0 := by simpa [hx4] using heq
    rw [if_neg heq] at hR
    rw [nk_p, fa_p, h9.ldnow]
    refine copied_spec h.lnu h9.mN fun w10 m' hm' hM10 k10 => ?_
    have h10 := h9.keep0 k10
    have z9 := kw9.size
    have z10 := k10.size
    have lm' := hM10.lt
    have lts9 := h9.lts
    rw [nk_p, fa_p, opC_turn h10.cellO]
    generalize hw11 : setBlk w10 b (.cells (opC bd s.from_ s.pages ⟨s.turn + 1, s.su, s.sn⟩ ms s.nu (some mn)) 59) = w11
    have hb11 : w11.heap[b]? = some (.cells (opC bd s.from_ s.pages ⟨s.turn + 1, s.su, s.sn⟩ ms s.nu (some mn)) 59) := by rw [← hw11]; exact heap_self (live_of h10.cellO)
    have k11 : Kp [b] w10 w11 := by rw [← hw11]; exact (Kp.refl _ _).setBlk (.inl (by simp)) _
    rw [nk_p, fa_p, opC_st hb11 h.lsu h.lnu]
    generalize hw12 : setBlk w11 b (.cells (opC bd s.from_ s.pages ⟨s.turn + 1, s.nu, s.sn⟩ m' s.nu (some mn)) 59) = w12
    have hb12 : w12.heap[b]? = some (.cells (opC bd s.from_ s.pages ⟨s.turn + 1, s.nu, s.sn⟩ m' s.nu (some mn)) 59) := by rw [← hw12]; exact heap_self (live_of hb11)
    have k12' : Kp [b] w11 w12 := by rw [← hw12]; exact (Kp.refl _ _).setBlk (.inl (by simp)) _
    obtain ⟨a1, a2, a3, a4, a5, a6⟩ := h9.apart
    have nb : ∀ x ∈ b :: ms :: mn :: S8, x ≠ m' := fun x hx => by have := lts9 x hx; omega
    have kb : Kp [b] w10 w12 := k11.trans' k12'
    have hend : SpAt w12 b bd ({ s with d := x4.1, turn := s.turn + 1, su := s.nu, sn := s.nn } : SP) S8 m' mn := by
      refine ⟨hb12, h10.disk.keep kb (fun x hx hm => a3 (by simp at hm; rw [← hm]; exact hx)), hM10.keep kb (by simp; exact fun hh => nb b (by simp) hh.symm), h10.mN.keep kb (by simp; exact fun hh => a2 hh.symm), h.lnu, h.lnu, ?_, h10.fit, hm, by show s.turn + 1 < 2 ^ 20; omega⟩
      simp only [List.nodup_cons, List.mem_cons, not_or]
      refine ⟨⟨nb b (by simp), a2, a3⟩, ⟨fun hh => nb mn (by simp) hh.symm, fun hh => nb m' (by simp [hh]) rfl⟩, a6, h9.disk.nodup⟩
    refine hR w12 (h.go hend (kX (kX kw9 (S := []) (by simp) k10) (S := [b]) (by simp) kb) (.inr (by omega)) (.inl rfl) hS8')
  unfold space_Space_Commit_L2
  refine loop_inv (fun n xs w' => ∃ i, i ≤ N.length ∧ n = N.length - i ∧ xs = [.pointer (some ⟨b, 0, none⟩), .pointer (some ⟨p, 0, none⟩), nv, .int .i64 (ks.length : Nat), .int .i64 (i : Nat)] ∧ (∀ x ∈ N.take i, inN13 s x.2 = true) ∧ PgAt w' p 200 (stL s.nu (N.take i)) ∧ Kp [p] w3 w') ?_ (m := N.length) ⟨0, by omega, rfl, rfl, by simp, by simpa [stL] using hpg3, Kp.refl _ _⟩
  rintro n NN xs w' ⟨i, hi, rfl, rfl, hall, hpg', hk'⟩ hN'
  have h' := h3.keep hk' (fun x hx => by simpa using hpX x hx)
  unfold space_Space_Commit_L2F space_Space_Commit_b1
  dsimp only
  simp only [bq_lss, bV_b, decide_eq_true_eq, decide_eq_false_iff_not]
  refine ⟨fun hlt => ?_, fun hge => ?_⟩
  · have hlt : i < N.length := by omega
    have hlt' : i < ks.length := by omega
    obtain ⟨g1, g2⟩ := hNg i hlt hlt'
    have hrd : Rd w' nv 1 (ks.map nmR) := by
      obtain ⟨S, q1, q2⟩ := hfr.ex
      have y1 := k12.size
      have lp := hpg2.1.lt
      exact (show Fr w w' nv 1 (ks.map nmR) from ⟨⟨S, q1.keep hk' (fun x hx hm => by simp at hm; have := q2 x hx; omega), fun x hx => by have := q2 x hx; omega⟩, k13.trans hk' fun x hx hl => by simp at hx; omega⟩).rd
    obtain ⟨pe, hia, hld⟩ := hrd.one (i := i) (by simpa using hlt') (x := .string (str ks[i])) (by simp [nmR])
    rw [hia, hld, nk_p, fa_p, fa_p, h'.ldmn (by rfl)]
    refine h'.mN.get mapT ?_
    rw [g2]
    refine in_sp h' _ ?_
    simp only [un_not, bV_b]
    have hmem : N[i] ∈ N := List.getElem_mem hlt
    refine ⟨fun hh => ?_, fun hh => ?_⟩
    · have hh : inN13 s N[i].2 = false := by simpa using hh
      have hallb : (N.all fun x => inN13 s x.2) = false := by
        rw [List.all_eq_false]
        exact ⟨N[i], hmem, by rw [hh]; simp⟩
      unfold SP.commit at hR
      rw [if_pos hallb] at hR
      exact hR w' (hX.stay (k13.trans hk' fun x hx hl => by simp at hx; omega))
    have hin : inN13 s N[i].2 = true := by simpa using hh
    have hvl := hNf.vl _ hmem
    have hnl := hNf.nm _ hmem
    rw [g1, show (Value.string ⟨#[110]⟩) = .string (str [110]) from rfl, bq_sadd (by rw [str_size, str_size]; simp; omega), str_append, cvI_i]
    have e5 : IntKind.u8.wrap N[i].2 = ((UInt8.ofNat N[i].2.toNat).toNat : Int) := by
      rw [← wrap_u8_nat]; congr 1; omega
    rw [e5, shr_of (by omega) (by decide), cvI_i]
    have e6 : IntKind.u8.wrap (N[i].2 / 2 ^ (8 : Int).toNat) = ((UInt8.ofNat (N[i].2.toNat / 256)).toNat : Int) := by
      rw [← wrap_u8_nat]; congr 1; rw [show (8 : Int).toNat = 8 from rfl]; omega
    rw [e6, bsl_two rfl rfl]
    have k8 : Kp [] w' (w'.alloc (.cells #[.int .u8 ((UInt8.ofNat N[i].2.toNat).toNat : Int), .int .u8 ((UInt8.ofNat (N[i].2.toNat / 256)).toNat : Int)] 5)) := (Kp.refl [] w').alloc _
    have hblk : (w'.alloc (.cells #[.int .u8 ((UInt8.ofNat N[i].2.toNat).toNat : Int), .int .u8 ((UInt8.ofNat (N[i].2.toNat / 256)).toNat : Int)] 5)).heap[w'.heap.size]? = some (.cells (u8c (vB N[i].2)).toArray 5) := heap_new
    rw [cvBS_str (n := 2) hblk rfl]
    have hpg8 := hpg'.keep k8 (by simp)
    have htk : N.take (i + 1) = N.take i ++ [N[i]] := take_snoc hlt
    have hst : stL s.nu (N.take (i + 1)) = (N.take i).map nmP ++ nmP N[i] :: [([117], s.nu)] := by
      unfold stL; rw [htk, List.map_append, List.append_assoc]; rfl
    have hft : Fit (stL s.nu (N.take (i + 1))) := fit_stL h.lnu ⟨by rw [List.length_take]; omega, fun x hx => hNf.nm x (List.mem_of_mem_take hx), fun x hx => hNf.vl x (List.mem_of_mem_take hx)⟩
    rw [hst] at hft
    have hsorted : SortK ((N.take i).map nmP ++ nmP N[i] :: [([117], s.nu)]) := by
      rw [← hst]
      refine sort_stL ?_
      unfold KeyS at hNs ⊢
      exact hNs.sublist ((List.take_sublist _ _).map _)
    unfold SortK at hsorted
    rw [List.pairwise_append] at hsorted
    refine pPut_spec (A := (N.take i).map nmP) (B := [([117], s.nu)]) (x := nmP N[i]) hpg8 hft (fun y hy => hsorted.2.2 y hy _ (by simp)) (fun y hy => (List.pairwise_cons.1 hsorted.2.1).1 y hy) fun w9 hpg9 k9 => ?_
    have e7 : IntKind.i64.wrap ((i : Int) + 1) = ((i + 1 : Nat) : Int) := by rw [w64 (by omega) (by omega)]; simp
    simp only [bq_add, e7]
    refine hN' (N.length - (i + 1)) _ w9 (by omega) ⟨i + 1, by omega, rfl, rfl, fun x hx => ?_, by rw [hst]; exact hpg9, (hk'.trans k8 (by simp)).trans' k9⟩
    rw [htk] at hx
    rcases List.mem_append.1 hx with hx | hx
    · exact hall x hx
    · simp at hx; rw [hx]; exact hin
  · have : i = N.length := by omega
    subst this
    rw [List.take_length] at hall hpg'
    exact tail w' hall hpg' hk'
end
end Go.Proofs

/- Layer 13: what a disk that lives holds (no program in sight). -/
set_option linter.unusedVariables false
set_option linter.unusedSimpArgs false
namespace Go.Proofs
open Go Go.Q
/-- a disk without a fuse, whose sectors are those that it will have flushed -/
structure Live (d : DK) : Prop where
  on : d.off = false
  fu : d.fuse = -1
  flow : d.now = applyAll d.sure d.l
  sz : ∀ x ∈ d.now, x.length = 32
def sec (L : List (List UInt8)) (i : Nat) : List UInt8 := L.getD i []
theorem sec_set {L : List (List UInt8)} {i j : Nat} {x : List UInt8} (hi : i < L.length) : sec (L.set i x) j = if j = i then x else sec L j := by
  unfold sec
  by_cases h : j = i
  · subst h; simp [List.getD, hi]
  · rw [if_neg h]; simp only [List.getD]; rw [List.getElem?_set_ne (fun hh => h hh.symm)]
theorem Live.burns {d : DK} (h : Live d) : d.burns = (d, true) := by
  unfold DK.burns
  rw [if_neg (by rw [h.on, h.fu]; simp)]
  have : (if d.fuse > 0 then d.fuse - 1 else d.fuse) = d.fuse := by rw [h.fu]; rfl
  rw [this]
theorem Live.write {d : DK} (h : Live d) {a : Nat} (ha : a < d.now.length) {t : List UInt8} (ht : t.length = 32) : d.write (a : Nat) t = ({ d with now := d.now.set a t, l := d.l ++ [(a, t)] }, 0) := by
  unfold DK.write
  rw [h.burns, if_pos ⟨by omega, ht⟩, if_pos rfl, Int.toNat_natCast]
theorem applyAll_snoc (L : List (List UInt8)) (l : List (Nat × List UInt8)) (x : Nat × List UInt8) : applyAll L (l ++ [x]) = (applyAll L l).set x.1 x.2 := by simp [applyAll]
theorem Live.wr1 {d : DK} (h : Live d) {a : Nat} (ha : a < d.now.length) {t : List UInt8} (ht : t.length = 32) : Live ({ d with now := d.now.set a t, l := d.l ++ [(a, t)] } : DK) :=
  ⟨h.on, h.fu, by show d.now.set a t = applyAll d.sure (d.l ++ [(a, t)]); rw [applyAll_snoc, ← h.flow], fun x hx => by
    rcases List.mem_or_eq_of_mem_set hx with hx | hx
    · exact h.sz x hx
    · rw [hx]; exact ht⟩
structure Wrote (d d' : DK) (a n : Nat) (t : List UInt8) : Prop where
  live : Live d'
  sure : d'.sure = d.sure
  len : d'.now.length = d.now.length
  inn : ∀ k, k < n → sec d'.now (a + k) = (t.drop (32 * k)).take 32
  out : ∀ i, i < a ∨ a + n ≤ i → sec d'.now i = sec d.now i
  log : ∃ E : List (Nat × List UInt8), d'.l = d.l ++ E ∧ E.length = n ∧ ∀ x ∈ E, a ≤ x.1 ∧ x.1 < a + n
theorem wrs_live : ∀ (n : Nat) {d : DK} (h : Live d) {a : Nat} (ha : a + n ≤ d.now.length) {t : List UInt8} (ht : t.length = 32 * n), (wrs n d a t).2 = 0 ∧ Wrote d (wrs n d a t).1 a n t
  | 0, d, h, a, ha, t, ht => ⟨rfl, ⟨h, rfl, rfl, fun k hk => by omega, fun i hi => rfl, [], by simp [wrs], rfl, by simp⟩⟩
  | n + 1, d, h, a, ha, t, ht => by
    have ha1 : a < d.now.length := by omega
    have ht1 : (t.take 32).length = 32 := by rw [List.length_take]; omega
    have hw := h.write ha1 ht1
    have hl := h.wr1 ha1 ht1
    obtain ⟨g1, g2⟩ := wrs_live n hl (a := a + 1) (t := t.drop 32) (by simp; omega) (by rw [List.length_drop]; omega)
    have he : wrs (n + 1) d a t = wrs n { d with now := d.now.set a (t.take 32), l := d.l ++ [(a, t.take 32)] } (a + 1) (t.drop 32) := by
      show (if _ then _ else wrs _ _ _ _) = _
      rw [hw, if_neg (by simp)]
    rw [he]
    refine ⟨g1, ⟨g2.live, g2.sure, by rw [g2.len]; simp, fun k hk => ?_, fun i hi => ?_, ?_⟩⟩
    · cases k with
      | zero =>
        refine (g2.out a (.inl (by omega))).trans ?_
        show sec (d.now.set a (t.take 32)) a = _
        rw [sec_set ha1, if_pos rfl]; simp
      | succ k =>
        have := g2.inn k (by omega)
        rw [show a + (k + 1) = a + 1 + k by omega, this, List.drop_drop]
        congr 2; omega
    · rw [g2.out i (by omega)]
      show sec (d.now.set a (t.take 32)) i = _
      rw [sec_set ha1, if_neg (by omega)]
    · obtain ⟨E, e1, e2, e3⟩ := g2.log
      refine ⟨(a, t.take 32) :: E, by rw [e1]; simp, by simp [e2], fun x hx => ?_⟩
      rcases List.mem_cons.1 hx with rfl | hx
      · exact ⟨Nat.le_refl _, by omega⟩
      · have := e3 x hx; omega
theorem Live.flush {d : DK} (h : Live d) : d.flush = ({ d with sure := d.now, l := [] }, 0) := by
  unfold DK.flush
  rw [h.burns, if_pos rfl, ← h.flow]
theorem Live.fl {d : DK} (h : Live d) : Live ({ d with sure := d.now, l := [] } : DK) := ⟨h.on, h.fu, rfl, h.sz⟩
theorem live_fresh (n : Nat) : Live (DK.fresh n) := ⟨rfl, rfl, rfl, fun x hx => by simp [DK.fresh, secs0] at hx; rw [hx.2]; simp⟩
theorem sec_fresh {n i : Nat} (hi : i < n) : sec (DK.fresh n).now i = List.replicate 32 0 := by
  unfold sec DK.fresh secs0
  simp [List.getD, hi]
/-- a crash lets stand what was not written since -/
theorem crash_out : ∀ {l : List (Nat × List UInt8)} {ks : List Int} {L : List (List UInt8)} {i : Nat}, (∀ x ∈ l, x.1 ≠ i) → sec (crashL l ks L) i = sec L i
  | [], ks, L, i, _ => by cases ks <;> rfl
  | x :: l, [], L, i, _ => rfl
  | x :: l, k :: ks, L, i, h => by
    show sec (crashL l ks (L.set x.1 _)) i = _
    rw [crash_out fun y hy => h y (by simp [hy])]
    unfold sec
    simp only [List.getD]
    rw [List.getElem?_set_ne (h x (by simp))]
theorem pgs_eq {L : List (List UInt8)} {a : Nat} (h : a + 8 ≤ L.length) : pgs L a = ((List.range 8).map fun k => sec L (a + k)).flatten := by
  unfold pgs
  congr 1
  apply List.ext_getElem
  · rw [List.length_take, List.length_drop]; simp; omega
  · intro i h1 h2
    have hi : i < 8 := by simpa using h2
    have : a + i < L.length := by omega
    simp [sec, List.getD, this]
theorem pgs_congr {L M : List (List UInt8)} {a : Nat} (h : a + 8 ≤ L.length) (h' : a + 8 ≤ M.length) (hs : ∀ i, a ≤ i → i < a + 8 → sec L i = sec M i) : pgs L a = pgs M a := by
  rw [pgs_eq h, pgs_eq h']
  congr 1
  apply List.map_congr_left
  intro k hk
  simp at hk
  exact hs _ (by omega) (by omega)
theorem pgs_text {L : List (List UInt8)} {a : Nat} {t : List UInt8} (h : a + 8 ≤ L.length) (ht : t.length = 256) (hs : ∀ k, k < 8 → sec L (a + k) = (t.drop (32 * k)).take 32) : pgs L a = t := by
  rw [pgs_eq h]
  have e : ∀ n, ((List.range n).map fun k => (t.drop (32 * k)).take 32).flatten = t.take (32 * n) := by
    intro n
    induction n with
    | zero => simp
    | succ n ih =>
      rw [List.range_succ, List.map_append, List.flatten_append, ih]
      simp only [List.map_cons, List.map_nil, List.flatten_cons, List.flatten_nil, List.append_nil]
      rw [show 32 * (n + 1) = 32 * n + 32 by omega, List.take_add]
  have : ((List.range 8).map fun k => sec L (a + k)) = (List.range 8).map fun k => (t.drop (32 * k)).take 32 := by
    apply List.map_congr_left
    intro k hk
    simp at hk
    exact hs k hk
  rw [this, e 8, List.take_of_length_le (by omega)]
/-- a commit of a disk that lives -/
structure Done (s s' : SP) (N : List (List UInt8 × Int)) : Prop where
  live : Live s'.d
  same : s' = { s with d := s'.d, turn := s.turn + 1, su := s.nu, sn := s.nn }
  sure : s'.d.sure = s'.d.now
  log : s'.d.l = []
  len : s'.d.now.length = s.d.now.length
  head : sec s'.d.now (s.from_ + (s.turn + 1) % 2) = headB (s.turn + 1) s.pages
  map_ : pgs s'.d.now (s.from_ + 8 * (1 + (s.turn + 1) % 2)) = bytesP (lay 200 (stL s.nu N))
  out : ∀ i, i ≠ s.from_ + (s.turn + 1) % 2 → (i < s.from_ + 8 * (1 + (s.turn + 1) % 2) ∨ s.from_ + 8 * (1 + (s.turn + 1) % 2) + 8 ≤ i) → sec s'.d.now i = sec s.d.now i
theorem commit_live {s : SP} {N : List (List UInt8 × Int)} (h : Live s.d) (hN : ∀ x ∈ N, inN13 s x.2 = true) (ht : s.turn < 1048575) (hf : s.from_ + 8 * (s.pages + 3) ≤ s.d.now.length) (hp : 1 ≤ s.pages) (hlen : (bytesP (lay 200 (stL s.nu N))).length = 256) :
    (s.commit N).2 = 0 ∧ Done s (s.commit N).1 N := by
  have hall : (N.all fun x => inN13 s x.2) = true := by rw [List.all_eq_true]; exact hN
  obtain ⟨g1, g2⟩ := wrs_live 8 h (a := s.from_ + 8 * (1 + (s.turn + 1) % 2)) (t := bytesP (lay 200 (stL s.nu N))) (by omega) (by omega)
  unfold SP.commit
  rw [if_neg (by rw [hall]; simp), if_neg (by omega), if_neg (by rw [g1]; simp)]
  generalize hx1 : wrs 8 s.d (s.from_ + 8 * (1 + (s.turn + 1) % 2)) (bytesP (lay 200 (stL s.nu N))) = x1 at *
  have f1 := g2.live.flush
  rw [f1]
  have l1 := g2.live.fl
  have ha : s.from_ + (s.turn + 1) % 2 < ({ x1.1 with sure := x1.1.now, l := [] } : DK).now.length := by show _ < x1.1.now.length; rw [g2.len]; omega
  have f2 := l1.write ha (headB_len (s.turn + 1) s.pages)
  have l2 := l1.wr1 ha (headB_len (s.turn + 1) s.pages)
  simp only [ne_eq, not_true_eq_false, if_false, f2]
  rw [l2.flush]
  simp only [ne_eq, not_true_eq_false, if_false]
  have l3 := l2.fl
  have ha' : s.from_ + (s.turn + 1) % 2 < x1.1.now.length := ha
  refine ⟨by trivial, ⟨l3, rfl, rfl, rfl, ?_, ?_, ?_, ?_⟩⟩
  · show (x1.1.now.set _ _).length = _; rw [List.length_set]; exact g2.len
  · show sec (x1.1.now.set _ _) _ = _; rw [sec_set ha', if_pos rfl]
  · show pgs (x1.1.now.set _ _) _ = _
    refine pgs_text (by rw [List.length_set, g2.len]; omega) hlen fun k hk => ?_
    rw [sec_set ha', if_neg (by omega)]
    exact g2.inn k hk
  · intro i h1 h2
    show sec (x1.1.now.set _ _) i = _
    rw [sec_set ha', if_neg h1]
    exact g2.out i h2
end Go.Proofs

set_option linter.unusedVariables false
set_option linter.unusedSimpArgs false
namespace Go.Proofs
open Go Go.Q
set_option maxRecDepth 100000
/-! quayside/quaysideref13.New -/
def ref13_New_s0 (R : Value → World → Prop) (x0 : Value) (w : World) : Prop :=
  newG (zc Tryz.prog 39) 39 w fun t2 w =>
  qG Tryz.prog (bq .add 3 (.tmp 4) (.const (.int .i64 1)) x0 (.int .i64 1)) (World.drew w) fun t5 =>
  qG Tryz.prog (bq .add 3 (.tmp 7) (.const (.int .i64 1)) x0 (.int .i64 1)) (World.drew w) fun t8 =>
  (mkG 4 1 1 (zc Tryz.prog 4) t5 t5 (World.drew w) fun t6 w =>
  stb Tryz.prog (bq .add 3 (.tmp 7) (.const (.int .i64 1)) x0 (.int .i64 1)) t8 w ∧
  (mkG 9 1 16 (zc Tryz.prog 9) t8 t8 w fun t9 w =>
  stb Tryz.prog (bq .add 3 (.tmp 4) (.const (.int .i64 1)) x0 (.int .i64 1)) t5 w ∧
  bld [(0, 1), (1, 1), (2, 1), (3, 1)] (zc Tryz.prog 37) #[(0, t6), (1, t9)] fun t10 =>
  newG (zc Tryz.prog 37) 37 w fun t3 w =>
  stb Tryz.prog (bq .add 3 (.tmp 7) (.const (.int .i64 1)) x0 (.int .i64 1)) t8 w ∧
  stb Tryz.prog (bq .add 3 (.tmp 4) (.const (.int .i64 1)) x0 (.int .i64 1)) t5 w ∧
  stn 4 t3 t10 w fun w =>
  ldn 4 t3 w fun t11 =>
  ldn 4 t3 w fun t12 =>
  bld [(0, 4), (4, 4)] (zc Tryz.prog 39) #[(0, t11), (1, t12)] fun t13 =>
  stn 8 t2 t13 w fun w =>
  qG Tryz.prog (do loadVar 39 (← asAddr t2)) w fun r2 =>
  R r2 w) ∧
  (newG (zc Tryz.prog 37) 37 w fun t3_1 w =>
  stb Tryz.prog (bq .add 3 (.tmp 7) (.const (.int .i64 1)) x0 (.int .i64 1)) t8 w ∧
  stb Tryz.prog (bq .add 3 (.tmp 4) (.const (.int .i64 1)) x0 (.int .i64 1)) t5 w ∧
  mkG 9 1 16 (zc Tryz.prog 9) t8 t8 w fun t9_1 w =>
  stb Tryz.prog (bq .add 3 (.tmp 4) (.const (.int .i64 1)) x0 (.int .i64 1)) t5 w ∧
  bld [(0, 1), (1, 1), (2, 1), (3, 1)] (zc Tryz.prog 37) #[(0, t6), (1, t9_1)] fun t10_1 =>
  stn 4 t3_1 t10_1 w fun w =>
  ldn 4 t3_1 w fun t11_1 =>
  ldn 4 t3_1 w fun t12_1 =>
  bld [(0, 4), (4, 4)] (zc Tryz.prog 39) #[(0, t11_1), (1, t12_1)] fun t13_1 =>
  stn 8 t2 t13_1 w fun w =>
  qG Tryz.prog (do loadVar 39 (← asAddr t2)) w fun r2_1 =>
  R r2_1 w)) ∧
  (mkG 9 1 16 (zc Tryz.prog 9) t8 t8 (World.drew w) fun t9_2 w =>
  stb Tryz.prog (bq .add 3 (.tmp 4) (.const (.int .i64 1)) x0 (.int .i64 1)) t5 w ∧
  (mkG 4 1 1 (zc Tryz.prog 4) t5 t5 w fun t6_1 w =>
  stb Tryz.prog (bq .add 3 (.tmp 7) (.const (.int .i64 1)) x0 (.int .i64 1)) t8 w ∧
  bld [(0, 1), (1, 1), (2, 1), (3, 1)] (zc Tryz.prog 37) #[(0, t6_1), (1, t9_2)] fun t10_2 =>
  newG (zc Tryz.prog 37) 37 w fun t3_2 w =>
  stb Tryz.prog (bq .add 3 (.tmp 7) (.const (.int .i64 1)) x0 (.int .i64 1)) t8 w ∧
  stb Tryz.prog (bq .add 3 (.tmp 4) (.const (.int .i64 1)) x0 (.int .i64 1)) t5 w ∧
  stn 4 t3_2 t10_2 w fun w =>
  ldn 4 t3_2 w fun t11_2 =>
  ldn 4 t3_2 w fun t12_2 =>
  bld [(0, 4), (4, 4)] (zc Tryz.prog 39) #[(0, t11_2), (1, t12_2)] fun t13_2 =>
  stn 8 t2 t13_2 w fun w =>
  qG Tryz.prog (do loadVar 39 (← asAddr t2)) w fun r2_2 =>
  R r2_2 w) ∧
  (newG (zc Tryz.prog 37) 37 w fun t3_3 w =>
  stb Tryz.prog (bq .add 3 (.tmp 7) (.const (.int .i64 1)) x0 (.int .i64 1)) t8 w ∧
  stb Tryz.prog (bq .add 3 (.tmp 4) (.const (.int .i64 1)) x0 (.int .i64 1)) t5 w ∧
  mkG 4 1 1 (zc Tryz.prog 4) t5 t5 w fun t6_2 w =>
  stb Tryz.prog (bq .add 3 (.tmp 7) (.const (.int .i64 1)) x0 (.int .i64 1)) t8 w ∧
  bld [(0, 1), (1, 1), (2, 1), (3, 1)] (zc Tryz.prog 37) #[(0, t6_2), (1, t9_2)] fun t10_3 =>
  stn 4 t3_3 t10_3 w fun w =>
  ldn 4 t3_3 w fun t11_3 =>
  ldn 4 t3_3 w fun t12_3 =>
  bld [(0, 4), (4, 4)] (zc Tryz.prog 39) #[(0, t11_3), (1, t12_3)] fun t13_3 =>
  stn 8 t2 t13_3 w fun w =>
  qG Tryz.prog (do loadVar 39 (← asAddr t2)) w fun r2_3 =>
  R r2_3 w)) ∧
  (newG (zc Tryz.prog 37) 37 (World.drew w) fun t3_4 w =>
  stb Tryz.prog (bq .add 3 (.tmp 7) (.const (.int .i64 1)) x0 (.int .i64 1)) t8 w ∧
  stb Tryz.prog (bq .add 3 (.tmp 4) (.const (.int .i64 1)) x0 (.int .i64 1)) t5 w ∧
  (mkG 4 1 1 (zc Tryz.prog 4) t5 t5 w fun t6_3 w =>
  stb Tryz.prog (bq .add 3 (.tmp 7) (.const (.int .i64 1)) x0 (.int .i64 1)) t8 w ∧
  mkG 9 1 16 (zc Tryz.prog 9) t8 t8 w fun t9_3 w =>
  stb Tryz.prog (bq .add 3 (.tmp 4) (.const (.int .i64 1)) x0 (.int .i64 1)) t5 w ∧
  bld [(0, 1), (1, 1), (2, 1), (3, 1)] (zc Tryz.prog 37) #[(0, t6_3), (1, t9_3)] fun t10_4 =>
  stn 4 t3_4 t10_4 w fun w =>
  ldn 4 t3_4 w fun t11_4 =>
  ldn 4 t3_4 w fun t12_4 =>
  bld [(0, 4), (4, 4)] (zc Tryz.prog 39) #[(0, t11_4), (1, t12_4)] fun t13_4 =>
  stn 8 t2 t13_4 w fun w =>
  qG Tryz.prog (do loadVar 39 (← asAddr t2)) w fun r2_4 =>
  R r2_4 w) ∧
  (mkG 9 1 16 (zc Tryz.prog 9) t8 t8 w fun t9_4 w =>
  stb Tryz.prog (bq .add 3 (.tmp 4) (.const (.int .i64 1)) x0 (.int .i64 1)) t5 w ∧
  mkG 4 1 1 (zc Tryz.prog 4) t5 t5 w fun t6_4 w =>
  stb Tryz.prog (bq .add 3 (.tmp 7) (.const (.int .i64 1)) x0 (.int .i64 1)) t8 w ∧
  bld [(0, 1), (1, 1), (2, 1), (3, 1)] (zc Tryz.prog 37) #[(0, t6_4), (1, t9_4)] fun t10_5 =>
  stn 4 t3_4 t10_5 w fun w =>
  ldn 4 t3_4 w fun t11_5 =>
  ldn 4 t3_4 w fun t12_5 =>
  bld [(0, 4), (4, 4)] (zc Tryz.prog 39) #[(0, t11_5), (1, t12_5)] fun t13_5 =>
  stn 8 t2 t13_5 w fun w =>
  qG Tryz.prog (do loadVar 39 (← asAddr t2)) w fun r2_5 =>
  R r2_5 w))
theorem ref13_New_s0_eq (R : Value → World → Prop) : ∀ e w, lift Tryz.prog 14 (bodyOf Tryz.f8) (finK Tryz.prog Tryz.f8.results.toList R) e w = ref13_New_s0 R (e 0) w := fun e w => by kernel_rfl
def ref13_New (R : Value → World → Prop) (x0 : Value) (w : World) : Prop := ref13_New_s0 R x0 w
theorem ref13_New_call {R : Value → World → Prop} {x0 : Value} {w : World} (h : ref13_New R x0 w) : callG Tryz.prog 8 #[x0] w R :=
  calls_lift_eq Tryz.mixed Tryz.func8 (args := [x0]) rfl rfl rfl rfl ((ref13_New_s0_eq R) (envOf [x0]) w) (by kernel_rfl) h
/-! quayside/quaysideref13.used -/
def ref13_used_s0 (R : Value → World → Prop) (x0 x1 x2 x3 : Value) (w : World) : Prop :=
  newG (Value.cells x0) 37 w fun t4 w =>
  newG (zc Tryz.prog 37) 37 w fun t8 w =>
  fa 0 t4 fun t12 =>
  ld1 t12 w fun t13 =>
  app 4 1 1 (zc Tryz.prog 4) (.slice none 0 0) t13 w fun t14 w =>
  fa 1 t4 fun t16 =>
  ld1 t16 w fun t17 =>
  app 9 1 16 (zc Tryz.prog 9) (.slice none 0 0) t17 w fun t18 w =>
  ia 1 t14 x1 fun t22 =>
  st1 t22 x2 w fun w =>
  ia 1 t18 x1 fun t26 =>
  st1 t26 x3 w fun w =>
  fa 0 t4 fun t28 =>
  st1 t28 t14 w fun w =>
  fa 1 t4 fun t30 =>
  st1 t30 t18 w fun w =>
  ldn 4 t4 w fun t31 =>
  stn 4 t8 t31 w fun w =>
  qG Tryz.prog (do loadVar 37 (← asAddr t8)) w fun r8 =>
  R r8 w
theorem ref13_used_s0_eq (R : Value → World → Prop) : ∀ e w, lift Tryz.prog 32 (bodyOf Tryz.f65) (finK Tryz.prog Tryz.f65.results.toList R) e w = ref13_used_s0 R (e 0) (e 1) (e 2) (e 3) w := fun e w => by kernel_rfl
def ref13_used (R : Value → World → Prop) (x0 x1 x2 x3 : Value) (w : World) : Prop := ref13_used_s0 R x0 x1 x2 x3 w
theorem ref13_used_call {R : Value → World → Prop} {x0 x1 x2 x3 : Value} {w : World} (h : ref13_used R x0 x1 x2 x3 w) : callG Tryz.prog 65 #[x0, x1, x2, x3] w R :=
  calls_lift_eq Tryz.mixed Tryz.func65 (args := [x0, x1, x2, x3]) rfl rfl rfl rfl ((ref13_used_s0_eq R) (envOf [x0, x1, x2, x3]) w) (by kernel_rfl) h
/-! quayside/quaysideref13.In -/
def ref13_In_s0 (R : Value → World → Prop) (x0 x1 : Value) (w : World) : Prop :=
  newG (Value.cells x0) 37 w fun t2 w =>
  qG Tryz.prog (bq .geq 3 (.tmp 5) (.const (.int .i64 1)) x1 (.int .i64 1)) w fun t6 =>
  bV t6
  (fa 0 t2 fun t9 =>
  ld1 t9 w fun t10 =>
  lenL t10 fun t11 =>
  qG Tryz.prog (bq .lss 3 (.tmp 8) (.tmp 11) x1 t11) w fun t12 =>
  bV t12
  (fa 0 t2 fun t15 =>
  ld1 t15 w fun t16 =>
  ia 1 t16 x1 fun t18 =>
  ld1 t18 w fun t19 =>
  R t19 w)
  (R (.bool false) w))
  (R (.bool false) w)
theorem ref13_In_s0_eq (R : Value → World → Prop) : ∀ e w, lift Tryz.prog 21 (bodyOf Tryz.f66) (finK Tryz.prog Tryz.f66.results.toList R) e w = ref13_In_s0 R (e 0) (e 1) w := fun e w => by kernel_rfl
def ref13_In (R : Value → World → Prop) (x0 x1 : Value) (w : World) : Prop := ref13_In_s0 R x0 x1 w
theorem ref13_In_call {R : Value → World → Prop} {x0 x1 : Value} {w : World} (h : ref13_In R x0 x1 w) : callG Tryz.prog 66 #[x0, x1] w R :=
  calls_lift_eq Tryz.mixed Tryz.func66 (args := [x0, x1]) rfl rfl rfl rfl ((ref13_In_s0_eq R) (envOf [x0, x1]) w) (by kernel_rfl) h
/-! quayside/quaysideref13.Count -/
def ref13_Count_s0 (R : Value → World → Prop) (x3 : Value) (w : World) : Prop :=
  R x3 w
theorem ref13_Count_s0_eq (R : Value → World → Prop) : ∀ e w, lift Tryz.prog 20 (sub (bodyOf Tryz.f68) [1, 1, 1]) (finK Tryz.prog Tryz.f68.results.toList R) e w = ref13_Count_s0 R (e 3) w := fun e w => by kernel_rfl
def ref13_Count_b1 (R : Value → World → Prop) (N1 : List Value → World → Prop) (x1 x3 x4 : Value) (w : World) : Prop :=
  fa 0 x1 fun t6 =>
  ld1 t6 w fun t7 =>
  lenL t7 fun t8 =>
  qG Tryz.prog (bq .lss 3 (.tmp 5) (.tmp 8) x4 t8) w fun t9 =>
  bV t9
  (fa 0 x1 fun t12 =>
  ld1 t12 w fun t13 =>
  ia 1 t13 x4 fun t15 =>
  ld1 t15 w fun t16 =>
  bV t16
  (qG Tryz.prog (bq .add 3 (.tmp 17) (.const (.int .i64 1)) x3 (.int .i64 1)) w fun t18 =>
  qG Tryz.prog (bq .add 3 (.tmp 10) (.const (.int .i64 1)) x4 (.int .i64 1)) w fun t11 =>
  N1 [x1, t18, t11] w)
  (qG Tryz.prog (bq .add 3 (.tmp 10) (.const (.int .i64 1)) x4 (.int .i64 1)) w fun t11_1 =>
  N1 [x1, x3, t11_1] w))
  (ref13_Count_s0 R x3 w)
theorem ref13_Count_b1_eq (R : Value → World → Prop) (N1 : List Value → World → Prop) : ∀ e w, lift Tryz.prog 20 (sub (bodyOf Tryz.f68) [1, 1, 0, 1, 0, 0]) (seqK (fun e w => N1 [e 1, e 3, e 4] w) (blockK 0 (seqK (fun e w => ref13_Count_s0 R (e 3) w) (finK Tryz.prog Tryz.f68.results.toList R)))) e w = ref13_Count_b1 R N1 (e 1) (e 3) (e 4) w := fun e w => by kernel_rfl
def ref13_Count_L2F (R : Value → World → Prop) (N1 : List Value → World → Prop) (xs : List Value) (w : World) : Prop :=
  match xs with
  | [x1, x3, x4] => ref13_Count_b1 R N1 x1 x3 x4 w
  | _ => False
def ref13_Count_L2 (R : Value → World → Prop) (x1 x3 x4 : Value) (w : World) : Prop :=
  ∃ m, loopV (ref13_Count_L2F R) m [x1, x3, x4] w
theorem ref13_Count_L2_eq (R : Value → World → Prop) : ∀ e w, lift Tryz.prog 20 (sub (bodyOf Tryz.f68) [1, 1, 0, 1, 0]) (blockK 0 (seqK (fun e w => ref13_Count_s0 R (e 3) w) (finK Tryz.prog Tryz.f68.results.toList R))) e w = ref13_Count_L2 R (e 1) (e 3) (e 4) w := loop_seg (F := ref13_Count_L2F R) (sel := fun e => [e 1, e 3, e 4]) fun N1 => (ref13_Count_b1_eq R N1)
def ref13_Count_s3 (R : Value → World → Prop) (x1 x3 : Value) (w : World) : Prop :=
  ref13_Count_L2 R x1 x3 (.int .i64 1) w
theorem ref13_Count_s3_eq (R : Value → World → Prop) : ∀ e w, lift Tryz.prog 20 (sub (bodyOf Tryz.f68) [1, 1, 0]) (seqK (fun e w => ref13_Count_s0 R (e 3) w) (finK Tryz.prog Tryz.f68.results.toList R)) e w = ref13_Count_s3 R (e 1) (e 3) w :=
  segs_eq (l := [(sub (bodyOf Tryz.f68) [1, 1, 0, 0])]) (y := (sub (bodyOf Tryz.f68) [1, 1, 0, 1])) (Y := (fun e w => ref13_Count_L2 R (e 1) (e 3) (e 4) w)) (ref13_Count_L2_eq R) (fun e w => by kernel_rfl)
def ref13_Count_s4 (R : Value → World → Prop) (x0 : Value) (w : World) : Prop :=
  newG (Value.cells x0) 37 w fun t1 w =>
  ref13_Count_s3 R t1 (.int .i64 0) w
theorem ref13_Count_s4_eq (R : Value → World → Prop) : ∀ e w, lift Tryz.prog 20 (bodyOf Tryz.f68) (finK Tryz.prog Tryz.f68.results.toList R) e w = ref13_Count_s4 R (e 0) w :=
  segs_eq (l := [(sub (bodyOf Tryz.f68) [0]), (sub (bodyOf Tryz.f68) [1, 0])]) (y := (sub (bodyOf Tryz.f68) [1, 1])) (Y := (fun e w => ref13_Count_s3 R (e 1) (e 3) w)) (seq_seg (x := (sub (bodyOf Tryz.f68) [1, 1, 0])) (y := (sub (bodyOf Tryz.f68) [1, 1, 1])) (ref13_Count_s0_eq R) (ref13_Count_s3_eq R)) (fun e w => by kernel_rfl)
def ref13_Count (R : Value → World → Prop) (x0 : Value) (w : World) : Prop := ref13_Count_s4 R x0 w
theorem ref13_Count_call {R : Value → World → Prop} {x0 : Value} {w : World} (h : ref13_Count R x0 w) : callG Tryz.prog 68 #[x0] w R :=
  calls_lift_eq Tryz.mixed Tryz.func68 (args := [x0]) rfl rfl rfl rfl ((ref13_Count_s4_eq R) (envOf [x0]) w) (by kernel_rfl) h
/-! quayside/quaysideref13.Alloc -/
def ref13_Alloc_s0 (R : Value → World → Prop) (x1 x2 : Value) (w : World) : Prop :=
  ldn 8 x1 w fun t39 =>
  stn 8 x2 t39 w fun w =>
  qG Tryz.prog (do loadVar 39 (← asAddr x2)) w fun r2 =>
  R (.tuple #[r2, (.int .i64 0), (.int .i64 2)]) w
theorem ref13_Alloc_s0_eq (R : Value → World → Prop) : ∀ e w, lift Tryz.prog 40 (sub (bodyOf Tryz.f30) [1, 1]) (finK Tryz.prog Tryz.f30.results.toList R) e w = ref13_Alloc_s0 R (e 1) (e 2) w := fun e w => by kernel_rfl
def ref13_Alloc_s1 (R : Value → World → Prop) (N1 : List Value → World → Prop) (x1 x2 x5 : Value) (w : World) : Prop :=
  qG Tryz.prog (bq .add 3 (.tmp 12) (.const (.int .i64 1)) x5 (.int .i64 1)) w fun t13 =>
  N1 [x1, x2, t13] w
theorem ref13_Alloc_s1_eq (R : Value → World → Prop) (N1 : List Value → World → Prop) : ∀ e w, lift Tryz.prog 40 (sub (bodyOf Tryz.f30) [1, 0, 1, 0, 0, 1, 1]) (seqK (fun e w => N1 [e 1, e 2, e 5] w) (blockK 0 (seqK (fun e w => ref13_Alloc_s0 R (e 1) (e 2) w) (finK Tryz.prog Tryz.f30.results.toList R)))) e w = ref13_Alloc_s1 R N1 (e 1) (e 2) (e 5) w := fun e w => by kernel_rfl
def ref13_Alloc_s2 (R : Value → World → Prop) (N1 : List Value → World → Prop) (x1 x2 x5 x29 : Value) (w : World) : Prop :=
  bV x29
  (fa 4 x1 fun t30 =>
  ldn 4 t30 (World.drew w) fun t31 =>
  mkG 5 1 1 (zc Tryz.prog 5) (.int .i64 256) (.int .i64 256) (World.drew w) fun t33 w =>
  ldn 4 t30 w (fun u => u = t31) ∧
  cvBS t33 w fun t34 =>
  callG Tryz.prog 65 #[t31, x5, (.bool true), t34] w fun t35 w =>
  fa 4 x1 fun t36 =>
  stn 4 t36 t35 w fun w =>
  ldn 8 x1 w fun t37 =>
  stn 8 x2 t37 w fun w =>
  qG Tryz.prog (do loadVar 39 (← asAddr x2)) w fun r2 =>
  R (.tuple #[r2, x5, (.int .i64 0)]) w)
  (ref13_Alloc_s1 R N1 x1 x2 x5 w)
theorem ref13_Alloc_s2_eq (R : Value → World → Prop) (N1 : List Value → World → Prop) : ∀ e w, lift Tryz.prog 40 (sub (bodyOf Tryz.f30) [1, 0, 1, 0, 0, 1, 0, 0, 1]) (blockK 1 (seqK (fun e w => ref13_Alloc_s1 R N1 (e 1) (e 2) (e 5) w) (seqK (fun e w => N1 [e 1, e 2, e 5] w) (blockK 0 (seqK (fun e w => ref13_Alloc_s0 R (e 1) (e 2) w) (finK Tryz.prog Tryz.f30.results.toList R)))))) e w = ref13_Alloc_s2 R N1 (e 1) (e 2) (e 5) (e 29) w := fun e w => by kernel_rfl
def ref13_Alloc_s3 (R : Value → World → Prop) (N1 : List Value → World → Prop) (x1 x2 x5 : Value) (w : World) : Prop :=
  fa 4 x1 fun t14 =>
  fa 0 t14 fun t15 =>
  ld1 t15 w fun t16 =>
  ia 1 t16 x5 fun t18 =>
  ld1 t18 w fun t19 =>
  qG Tryz.prog (Op.unary .not t19) w fun t20 =>
  bV t20
  (fa 0 x1 fun t22 =>
  fa 0 t22 fun t23 =>
  ld1 t23 w fun t24 =>
  ia 1 t24 x5 fun t26 =>
  ld1 t26 w fun t27 =>
  qG Tryz.prog (Op.unary .not t27) w fun t28 =>
  ref13_Alloc_s2 R N1 x1 x2 x5 t28 w)
  (ref13_Alloc_s2 R N1 x1 x2 x5 (.bool false) w)
theorem ref13_Alloc_s3_eq (R : Value → World → Prop) (N1 : List Value → World → Prop) : ∀ e w, lift Tryz.prog 40 (sub (bodyOf Tryz.f30) [1, 0, 1, 0, 0, 1, 0, 0]) (blockK 1 (seqK (fun e w => ref13_Alloc_s1 R N1 (e 1) (e 2) (e 5) w) (seqK (fun e w => N1 [e 1, e 2, e 5] w) (blockK 0 (seqK (fun e w => ref13_Alloc_s0 R (e 1) (e 2) w) (finK Tryz.prog Tryz.f30.results.toList R)))))) e w = ref13_Alloc_s3 R N1 (e 1) (e 2) (e 5) w :=
  segs_eq (l := [(sub (bodyOf Tryz.f30) [1, 0, 1, 0, 0, 1, 0, 0, 0])]) (y := (sub (bodyOf Tryz.f30) [1, 0, 1, 0, 0, 1, 0, 0, 1])) (Y := (fun e w => ref13_Alloc_s2 R N1 (e 1) (e 2) (e 5) (e 29) w)) (ref13_Alloc_s2_eq R N1) (fun e w => by kernel_rfl)
def ref13_Alloc_s4 (R : Value → World → Prop) (N1 : List Value → World → Prop) (x1 x2 x5 : Value) (w : World) : Prop :=
  fa 4 x1 fun t7 =>
  fa 0 t7 fun t8 =>
  ld1 t8 w fun t9 =>
  lenL t9 fun t10 =>
  qG Tryz.prog (bq .lss 3 (.tmp 6) (.tmp 10) x5 t10) w fun t11 =>
  bV t11
  (ref13_Alloc_s3 R N1 x1 x2 x5 w)
  (ref13_Alloc_s0 R x1 x2 w)
theorem ref13_Alloc_s4_eq (R : Value → World → Prop) (N1 : List Value → World → Prop) : ∀ e w, lift Tryz.prog 40 (sub (bodyOf Tryz.f30) [1, 0, 1, 0, 0]) (seqK (fun e w => N1 [e 1, e 2, e 5] w) (blockK 0 (seqK (fun e w => ref13_Alloc_s0 R (e 1) (e 2) w) (finK Tryz.prog Tryz.f30.results.toList R)))) e w = ref13_Alloc_s4 R N1 (e 1) (e 2) (e 5) w :=
  segs_eq (l := [(sub (bodyOf Tryz.f30) [1, 0, 1, 0, 0, 0])]) (y := (sub (bodyOf Tryz.f30) [1, 0, 1, 0, 0, 1])) (Y := (fun e w => ref13_Alloc_s3 R N1 (e 1) (e 2) (e 5) w)) (seq_seg (x := (sub (bodyOf Tryz.f30) [1, 0, 1, 0, 0, 1, 0])) (y := (sub (bodyOf Tryz.f30) [1, 0, 1, 0, 0, 1, 1])) (ref13_Alloc_s1_eq R N1) (ref13_Alloc_s3_eq R N1)) (fun e w => by kernel_rfl)
def ref13_Alloc_L5F (R : Value → World → Prop) (N1 : List Value → World → Prop) (xs : List Value) (w : World) : Prop :=
  match xs with
  | [x1, x2, x5] => ref13_Alloc_s4 R N1 x1 x2 x5 w
  | _ => False
def ref13_Alloc_L5 (R : Value → World → Prop) (x1 x2 x5 : Value) (w : World) : Prop :=
  ∃ m, loopV (ref13_Alloc_L5F R) m [x1, x2, x5] w
theorem ref13_Alloc_L5_eq (R : Value → World → Prop) : ∀ e w, lift Tryz.prog 40 (sub (bodyOf Tryz.f30) [1, 0, 1, 0]) (blockK 0 (seqK (fun e w => ref13_Alloc_s0 R (e 1) (e 2) w) (finK Tryz.prog Tryz.f30.results.toList R))) e w = ref13_Alloc_L5 R (e 1) (e 2) (e 5) w := loop_seg (F := ref13_Alloc_L5F R) (sel := fun e => [e 1, e 2, e 5]) fun N1 => (ref13_Alloc_s4_eq R N1)
def ref13_Alloc_s6 (R : Value → World → Prop) (x1 x2 : Value) (w : World) : Prop :=
  ref13_Alloc_L5 R x1 x2 (.int .i64 1) w
theorem ref13_Alloc_s6_eq (R : Value → World → Prop) : ∀ e w, lift Tryz.prog 40 (sub (bodyOf Tryz.f30) [1, 0]) (seqK (fun e w => ref13_Alloc_s0 R (e 1) (e 2) w) (finK Tryz.prog Tryz.f30.results.toList R)) e w = ref13_Alloc_s6 R (e 1) (e 2) w :=
  segs_eq (l := [(sub (bodyOf Tryz.f30) [1, 0, 0])]) (y := (sub (bodyOf Tryz.f30) [1, 0, 1])) (Y := (fun e w => ref13_Alloc_L5 R (e 1) (e 2) (e 5) w)) (ref13_Alloc_L5_eq R) (fun e w => by kernel_rfl)
def ref13_Alloc_s7 (R : Value → World → Prop) (x0 : Value) (w : World) : Prop :=
  newG (Value.cells x0) 39 w fun t1 w =>
  newG (zc Tryz.prog 39) 39 w fun t2 w =>
  ref13_Alloc_s6 R t1 t2 w
theorem ref13_Alloc_s7_eq (R : Value → World → Prop) : ∀ e w, lift Tryz.prog 40 (bodyOf Tryz.f30) (finK Tryz.prog Tryz.f30.results.toList R) e w = ref13_Alloc_s7 R (e 0) w :=
  segs_eq (l := [(sub (bodyOf Tryz.f30) [0])]) (y := (sub (bodyOf Tryz.f30) [1])) (Y := (fun e w => ref13_Alloc_s6 R (e 1) (e 2) w)) (seq_seg (x := (sub (bodyOf Tryz.f30) [1, 0])) (y := (sub (bodyOf Tryz.f30) [1, 1])) (ref13_Alloc_s0_eq R) (ref13_Alloc_s6_eq R)) (fun e w => by kernel_rfl)
def ref13_Alloc (R : Value → World → Prop) (x0 : Value) (w : World) : Prop := ref13_Alloc_s7 R x0 w
theorem ref13_Alloc_call {R : Value → World → Prop} {x0 : Value} {w : World} (h : ref13_Alloc R x0 w) : callG Tryz.prog 30 #[x0] w R :=
  calls_lift_eq Tryz.mixed Tryz.func30 (args := [x0]) rfl rfl rfl rfl ((ref13_Alloc_s7_eq R) (envOf [x0]) w) (by kernel_rfl) h
/-! quayside/quaysideref13.Release -/
def ref13_Release_s0 (R : Value → World → Prop) (x0 x1 : Value) (w : World) : Prop :=
  newG (Value.cells x0) 39 w fun t2 w =>
  newG (zc Tryz.prog 39) 39 w fun t4 w =>
  fa 4 t2 fun t6 =>
  ldn 4 t6 w fun t7 =>
  callG Tryz.prog 66 #[t7, x1] w fun t9 w =>
  qG Tryz.prog (Op.unary .not t9) w fun t10 =>
  bV t10
  (ldn 8 t2 w fun t11 =>
  stn 8 t4 t11 w fun w =>
  qG Tryz.prog (do loadVar 39 (← asAddr t4)) w fun r4 =>
  R (.tuple #[r4, (.int .i64 130)]) w)
  (fa 4 t2 fun t12 =>
  ldn 4 t12 w fun t13 =>
  callG Tryz.prog 65 #[t13, x1, (.bool false), (.string ⟨#[]⟩)] w fun t15 w =>
  fa 4 t2 fun t16 =>
  stn 4 t16 t15 w fun w =>
  ldn 8 t2 w fun t17 =>
  stn 8 t4 t17 w fun w =>
  qG Tryz.prog (do loadVar 39 (← asAddr t4)) w fun r4_1 =>
  R (.tuple #[r4_1, (.int .i64 0)]) w)
theorem ref13_Release_s0_eq (R : Value → World → Prop) : ∀ e w, lift Tryz.prog 18 (bodyOf Tryz.f32) (finK Tryz.prog Tryz.f32.results.toList R) e w = ref13_Release_s0 R (e 0) (e 1) w := fun e w => by kernel_rfl
def ref13_Release (R : Value → World → Prop) (x0 x1 : Value) (w : World) : Prop := ref13_Release_s0 R x0 x1 w
theorem ref13_Release_call {R : Value → World → Prop} {x0 x1 : Value} {w : World} (h : ref13_Release R x0 x1 w) : callG Tryz.prog 32 #[x0, x1] w R :=
  calls_lift_eq Tryz.mixed Tryz.func32 (args := [x0, x1]) rfl rfl rfl rfl ((ref13_Release_s0_eq R) (envOf [x0, x1]) w) (by kernel_rfl) h
/-! quayside/quaysideref13.Write -/
def ref13_Write_s0 (R : Value → World → Prop) (x0 x1 x2 : Value) (w : World) : Prop :=
  newG (Value.cells x0) 39 w fun t3 w =>
  newG (zc Tryz.prog 39) 39 w fun t6 w =>
  lenS x2 fun t9 =>
  qG Tryz.prog (bq .neq 3 (.tmp 9) (.const (.int .i64 256)) t9 (.int .i64 256)) w fun t10 =>
  bV t10
  (ldn 8 t3 w fun t11 =>
  stn 8 t6 t11 w fun w =>
  qG Tryz.prog (do loadVar 39 (← asAddr t6)) w fun r6 =>
  R (.tuple #[r6, (.int .i64 1)]) w)
  (ldn 8 t3 w fun t12 =>
  callG Tryz.prog 67 #[t12, x1] w fun t14 w =>
  qG Tryz.prog (Op.unary .not t14) w fun t15 =>
  bV t15
  (ldn 8 t3 w fun t16 =>
  stn 8 t6 t16 w fun w =>
  qG Tryz.prog (do loadVar 39 (← asAddr t6)) w fun r6_1 =>
  R (.tuple #[r6_1, (.int .i64 130)]) w)
  (fa 4 t3 fun t17 =>
  ldn 4 t17 w fun t18 =>
  callG Tryz.prog 65 #[t18, x1, (.bool true), x2] w fun t21 w =>
  fa 4 t3 fun t22 =>
  stn 4 t22 t21 w fun w =>
  ldn 8 t3 w fun t23 =>
  stn 8 t6 t23 w fun w =>
  qG Tryz.prog (do loadVar 39 (← asAddr t6)) w fun r6_2 =>
  R (.tuple #[r6_2, (.int .i64 0)]) w))
theorem ref13_Write_s0_eq (R : Value → World → Prop) : ∀ e w, lift Tryz.prog 24 (bodyOf Tryz.f33) (finK Tryz.prog Tryz.f33.results.toList R) e w = ref13_Write_s0 R (e 0) (e 1) (e 2) w := fun e w => by kernel_rfl
def ref13_Write (R : Value → World → Prop) (x0 x1 x2 : Value) (w : World) : Prop := ref13_Write_s0 R x0 x1 x2 w
theorem ref13_Write_call {R : Value → World → Prop} {x0 x1 x2 : Value} {w : World} (h : ref13_Write R x0 x1 x2 w) : callG Tryz.prog 33 #[x0, x1, x2] w R :=
  calls_lift_eq Tryz.mixed Tryz.func33 (args := [x0, x1, x2]) rfl rfl rfl rfl ((ref13_Write_s0_eq R) (envOf [x0, x1, x2]) w) (by kernel_rfl) h
/-! quayside/quaysideref13.Fresh -/
def ref13_Fresh_s0 (R : Value → World → Prop) (x0 x1 : Value) (w : World) : Prop :=
  newG (Value.cells x0) 39 w fun t2 w =>
  fa 4 t2 fun t5 =>
  ldn 4 t5 w fun t6 =>
  callG Tryz.prog 66 #[t6, x1] w fun t8 w =>
  bV t8
  (fa 0 t2 fun t10 =>
  ldn 4 t10 w fun t11 =>
  callG Tryz.prog 66 #[t11, x1] w fun t13 w =>
  qG Tryz.prog (Op.unary .not t13) w fun t14 =>
  R t14 w)
  (R (.bool false) w)
theorem ref13_Fresh_s0_eq (R : Value → World → Prop) : ∀ e w, lift Tryz.prog 16 (bodyOf Tryz.f67) (finK Tryz.prog Tryz.f67.results.toList R) e w = ref13_Fresh_s0 R (e 0) (e 1) w := fun e w => by kernel_rfl
def ref13_Fresh (R : Value → World → Prop) (x0 x1 : Value) (w : World) : Prop := ref13_Fresh_s0 R x0 x1 w
theorem ref13_Fresh_call {R : Value → World → Prop} {x0 x1 : Value} {w : World} (h : ref13_Fresh R x0 x1 w) : callG Tryz.prog 67 #[x0, x1] w R :=
  calls_lift_eq Tryz.mixed Tryz.func67 (args := [x0, x1]) rfl rfl rfl rfl ((ref13_Fresh_s0_eq R) (envOf [x0, x1]) w) (by kernel_rfl) h
/-! quayside/quaysideref13.Call -/
def ref13_Call_s0 (R : Value → World → Prop) (x3 x6 x8 : Value) (w : World) : Prop :=
  lenL x8 fun t72 =>
  qG Tryz.prog (bq .gtr 3 (.tmp 72) (.const (.int .i64 6)) t72 (.int .i64 6)) w fun t73 =>
  bV t73
  (ldn 8 x3 w fun t74 =>
  stn 8 x6 t74 w fun w =>
  qG Tryz.prog (do loadVar 39 (← asAddr x6)) w fun r6 =>
  R (.tuple #[r6, (.int .i64 2)]) w)
  (fa 4 x3 fun t76 =>
  fa 2 t76 fun t77 =>
  st1 t77 x8 w fun w =>
  ldn 8 x3 w fun t78 =>
  stn 8 x6 t78 w fun w =>
  qG Tryz.prog (do loadVar 39 (← asAddr x6)) w fun r6_1 =>
  R (.tuple #[r6_1, (.int .i64 0)]) w)
theorem ref13_Call_s0_eq (R : Value → World → Prop) : ∀ e w, lift Tryz.prog 79 (sub (bodyOf Tryz.f34) [1, 1, 1, 1, 1, 1, 1]) (finK Tryz.prog Tryz.f34.results.toList R) e w = ref13_Call_s0 R (e 3) (e 6) (e 8) w := fun e w => by kernel_rfl
def ref13_Call_s1 (R : Value → World → Prop) (x1 x2 x3 x6 x8 x9 : Value) (w : World) : Prop :=
  qG Tryz.prog (Op.unary .not x9) w fun t64 =>
  bV t64
  (bld [(0, 1), (1, 1)] (zc Tryz.prog 112) #[(0, x1), (1, x2)] fun t68 =>
  bsl 112 2 1 (zc Tryz.prog 112) #[(0, t68)] w fun t69 w =>
  app 112 2 24 (zc Tryz.prog 112) x8 t69 w fun t70 w =>
  ref13_Call_s0 R x3 x6 t70 w)
  (ref13_Call_s0 R x3 x6 x8 w)
theorem ref13_Call_s1_eq (R : Value → World → Prop) : ∀ e w, lift Tryz.prog 79 (sub (bodyOf Tryz.f34) [1, 1, 1, 1, 1, 1]) (finK Tryz.prog Tryz.f34.results.toList R) e w = ref13_Call_s1 R (e 1) (e 2) (e 3) (e 6) (e 8) (e 9) w :=
  segs_eq (l := [(sub (bodyOf Tryz.f34) [1, 1, 1, 1, 1, 1, 0])]) (y := (sub (bodyOf Tryz.f34) [1, 1, 1, 1, 1, 1, 1])) (Y := (fun e w => ref13_Call_s0 R (e 3) (e 6) (e 8) w)) (ref13_Call_s0_eq R) (fun e w => by kernel_rfl)
def ref13_Call_s2 (R : Value → World → Prop) (N1 : List Value → World → Prop) (x1 x2 x3 x6 x8 x9 x10 : Value) (w : World) : Prop :=
  qG Tryz.prog (bq .add 3 (.tmp 33) (.const (.int .i64 1)) x10 (.int .i64 1)) w fun t34 =>
  N1 [x1, x2, x3, x6, x8, x9, t34] w
theorem ref13_Call_s2_eq (R : Value → World → Prop) (N1 : List Value → World → Prop) : ∀ e w, lift Tryz.prog 79 (sub (bodyOf Tryz.f34) [1, 1, 1, 1, 1, 0, 1, 0, 0, 1, 1]) (seqK (fun e w => N1 [e 1, e 2, e 3, e 6, e 8, e 9, e 10] w) (blockK 0 (seqK (fun e w => ref13_Call_s1 R (e 1) (e 2) (e 3) (e 6) (e 8) (e 9) w) (finK Tryz.prog Tryz.f34.results.toList R)))) e w = ref13_Call_s2 R N1 (e 1) (e 2) (e 3) (e 6) (e 8) (e 9) (e 10) w := fun e w => by kernel_rfl
def ref13_Call_s3 (R : Value → World → Prop) (N1 : List Value → World → Prop) (x1 x2 x3 x6 x8 x9 x10 x11 : Value) (w : World) : Prop :=
  fa 0 x11 fun t55 =>
  ld1 t55 w fun t56 =>
  qG Tryz.prog (bq .neq 9 (.tmp 56) (.tmp 57) t56 x1) w fun t58 =>
  bV t58
  (ldn 2 x11 w fun t60 =>
  bsl 112 2 1 (zc Tryz.prog 112) #[(0, t60)] w fun t61 w =>
  app 112 2 24 (zc Tryz.prog 112) x8 t61 w fun t62 w =>
  ref13_Call_s2 R N1 x1 x2 x3 x6 t62 x9 x10 w)
  (ref13_Call_s2 R N1 x1 x2 x3 x6 x8 x9 x10 w)
theorem ref13_Call_s3_eq (R : Value → World → Prop) (N1 : List Value → World → Prop) : ∀ e w, lift Tryz.prog 79 (sub (bodyOf Tryz.f34) [1, 1, 1, 1, 1, 0, 1, 0, 0, 1, 0, 0, 1, 1]) (blockK 1 (seqK (fun e w => ref13_Call_s2 R N1 (e 1) (e 2) (e 3) (e 6) (e 8) (e 9) (e 10) w) (seqK (fun e w => N1 [e 1, e 2, e 3, e 6, e 8, e 9, e 10] w) (blockK 0 (seqK (fun e w => ref13_Call_s1 R (e 1) (e 2) (e 3) (e 6) (e 8) (e 9) w) (finK Tryz.prog Tryz.f34.results.toList R)))))) e w = ref13_Call_s3 R N1 (e 1) (e 2) (e 3) (e 6) (e 8) (e 9) (e 10) (e 11) w := fun e w => by kernel_rfl
def ref13_Call_s4 (R : Value → World → Prop) (N1 : List Value → World → Prop) (x1 x2 x3 x6 x8 x9 x10 x11 x48 : Value) (w : World) : Prop :=
  bV x48
  (bld [(0, 1), (1, 1)] (zc Tryz.prog 112) #[(0, x1), (1, x2)] fun t52 =>
  bsl 112 2 1 (zc Tryz.prog 112) #[(0, t52)] w fun t53 w =>
  app 112 2 24 (zc Tryz.prog 112) x8 t53 w fun t54 w =>
  ref13_Call_s3 R N1 x1 x2 x3 x6 t54 (.bool true) x10 x11 w)
  (ref13_Call_s3 R N1 x1 x2 x3 x6 x8 x9 x10 x11 w)
theorem ref13_Call_s4_eq (R : Value → World → Prop) (N1 : List Value → World → Prop) : ∀ e w, lift Tryz.prog 79 (sub (bodyOf Tryz.f34) [1, 1, 1, 1, 1, 0, 1, 0, 0, 1, 0, 0, 1, 0, 1]) (seqK (fun e w => ref13_Call_s3 R N1 (e 1) (e 2) (e 3) (e 6) (e 8) (e 9) (e 10) (e 11) w) (blockK 1 (seqK (fun e w => ref13_Call_s2 R N1 (e 1) (e 2) (e 3) (e 6) (e 8) (e 9) (e 10) w) (seqK (fun e w => N1 [e 1, e 2, e 3, e 6, e 8, e 9, e 10] w) (blockK 0 (seqK (fun e w => ref13_Call_s1 R (e 1) (e 2) (e 3) (e 6) (e 8) (e 9) w) (finK Tryz.prog Tryz.f34.results.toList R))))))) e w = ref13_Call_s4 R N1 (e 1) (e 2) (e 3) (e 6) (e 8) (e 9) (e 10) (e 11) (e 48) w := fun e w => by kernel_rfl
def ref13_Call_s5 (R : Value → World → Prop) (N1 : List Value → World → Prop) (x1 x2 x3 x6 x8 x9 x10 x11 : Value) (w : World) : Prop :=
  qG Tryz.prog (Op.unary .not x9) w fun t42 =>
  bV t42
  (fa 0 x11 fun t44 =>
  ld1 t44 w fun t45 =>
  qG Tryz.prog (bq .geq 9 (.tmp 45) (.tmp 46) t45 x1) w fun t47 =>
  ref13_Call_s4 R N1 x1 x2 x3 x6 x8 x9 x10 x11 t47 w)
  (ref13_Call_s4 R N1 x1 x2 x3 x6 x8 x9 x10 x11 (.bool false) w)
theorem ref13_Call_s5_eq (R : Value → World → Prop) (N1 : List Value → World → Prop) : ∀ e w, lift Tryz.prog 79 (sub (bodyOf Tryz.f34) [1, 1, 1, 1, 1, 0, 1, 0, 0, 1, 0, 0, 1, 0]) (seqK (fun e w => ref13_Call_s3 R N1 (e 1) (e 2) (e 3) (e 6) (e 8) (e 9) (e 10) (e 11) w) (blockK 1 (seqK (fun e w => ref13_Call_s2 R N1 (e 1) (e 2) (e 3) (e 6) (e 8) (e 9) (e 10) w) (seqK (fun e w => N1 [e 1, e 2, e 3, e 6, e 8, e 9, e 10] w) (blockK 0 (seqK (fun e w => ref13_Call_s1 R (e 1) (e 2) (e 3) (e 6) (e 8) (e 9) w) (finK Tryz.prog Tryz.f34.results.toList R))))))) e w = ref13_Call_s5 R N1 (e 1) (e 2) (e 3) (e 6) (e 8) (e 9) (e 10) (e 11) w :=
  segs_eq (l := [(sub (bodyOf Tryz.f34) [1, 1, 1, 1, 1, 0, 1, 0, 0, 1, 0, 0, 1, 0, 0])]) (y := (sub (bodyOf Tryz.f34) [1, 1, 1, 1, 1, 0, 1, 0, 0, 1, 0, 0, 1, 0, 1])) (Y := (fun e w => ref13_Call_s4 R N1 (e 1) (e 2) (e 3) (e 6) (e 8) (e 9) (e 10) (e 11) (e 48) w)) (ref13_Call_s4_eq R N1) (fun e w => by kernel_rfl)
def ref13_Call_s6 (R : Value → World → Prop) (N1 : List Value → World → Prop) (x1 x2 x3 x6 x8 x9 x10 : Value) (w : World) : Prop :=
  fa 4 x3 fun t35 =>
  fa 2 t35 fun t36 =>
  ld1 t36 w fun t37 =>
  ia 2 t37 x10 fun t39 =>
  ldn 2 t39 w fun t40 =>
  newG (zc Tryz.prog 112) 112 w fun t11 w =>
  stn 2 t11 t40 w fun w =>
  ref13_Call_s5 R N1 x1 x2 x3 x6 x8 x9 x10 t11 w
theorem ref13_Call_s6_eq (R : Value → World → Prop) (N1 : List Value → World → Prop) : ∀ e w, lift Tryz.prog 79 (sub (bodyOf Tryz.f34) [1, 1, 1, 1, 1, 0, 1, 0, 0, 1, 0, 0]) (blockK 1 (seqK (fun e w => ref13_Call_s2 R N1 (e 1) (e 2) (e 3) (e 6) (e 8) (e 9) (e 10) w) (seqK (fun e w => N1 [e 1, e 2, e 3, e 6, e 8, e 9, e 10] w) (blockK 0 (seqK (fun e w => ref13_Call_s1 R (e 1) (e 2) (e 3) (e 6) (e 8) (e 9) w) (finK Tryz.prog Tryz.f34.results.toList R)))))) e w = ref13_Call_s6 R N1 (e 1) (e 2) (e 3) (e 6) (e 8) (e 9) (e 10) w :=
  segs_eq (l := [(sub (bodyOf Tryz.f34) [1, 1, 1, 1, 1, 0, 1, 0, 0, 1, 0, 0, 0])]) (y := (sub (bodyOf Tryz.f34) [1, 1, 1, 1, 1, 0, 1, 0, 0, 1, 0, 0, 1])) (Y := (fun e w => ref13_Call_s5 R N1 (e 1) (e 2) (e 3) (e 6) (e 8) (e 9) (e 10) (e 11) w)) (seq_seg (x := (sub (bodyOf Tryz.f34) [1, 1, 1, 1, 1, 0, 1, 0, 0, 1, 0, 0, 1, 0])) (y := (sub (bodyOf Tryz.f34) [1, 1, 1, 1, 1, 0, 1, 0, 0, 1, 0, 0, 1, 1])) (ref13_Call_s3_eq R N1) (ref13_Call_s5_eq R N1)) (fun e w => by kernel_rfl)
def ref13_Call_s7 (R : Value → World → Prop) (N1 : List Value → World → Prop) (x1 x2 x3 x6 x8 x9 x10 : Value) (w : World) : Prop :=
  fa 4 x3 fun t28 =>
  fa 2 t28 fun t29 =>
  ld1 t29 w fun t30 =>
  lenL t30 fun t31 =>
  qG Tryz.prog (bq .lss 3 (.tmp 27) (.tmp 31) x10 t31) w fun t32 =>
  bV t32
  (ref13_Call_s6 R N1 x1 x2 x3 x6 x8 x9 x10 w)
  (ref13_Call_s1 R x1 x2 x3 x6 x8 x9 w)
theorem ref13_Call_s7_eq (R : Value → World → Prop) (N1 : List Value → World → Prop) : ∀ e w, lift Tryz.prog 79 (sub (bodyOf Tryz.f34) [1, 1, 1, 1, 1, 0, 1, 0, 0]) (seqK (fun e w => N1 [e 1, e 2, e 3, e 6, e 8, e 9, e 10] w) (blockK 0 (seqK (fun e w => ref13_Call_s1 R (e 1) (e 2) (e 3) (e 6) (e 8) (e 9) w) (finK Tryz.prog Tryz.f34.results.toList R)))) e w = ref13_Call_s7 R N1 (e 1) (e 2) (e 3) (e 6) (e 8) (e 9) (e 10) w :=
  segs_eq (l := [(sub (bodyOf Tryz.f34) [1, 1, 1, 1, 1, 0, 1, 0, 0, 0])]) (y := (sub (bodyOf Tryz.f34) [1, 1, 1, 1, 1, 0, 1, 0, 0, 1])) (Y := (fun e w => ref13_Call_s6 R N1 (e 1) (e 2) (e 3) (e 6) (e 8) (e 9) (e 10) w)) (seq_seg (x := (sub (bodyOf Tryz.f34) [1, 1, 1, 1, 1, 0, 1, 0, 0, 1, 0])) (y := (sub (bodyOf Tryz.f34) [1, 1, 1, 1, 1, 0, 1, 0, 0, 1, 1])) (ref13_Call_s2_eq R N1) (ref13_Call_s6_eq R N1)) (fun e w => by kernel_rfl)
def ref13_Call_L8F (R : Value → World → Prop) (N1 : List Value → World → Prop) (xs : List Value) (w : World) : Prop :=
  match xs with
  | [x1, x2, x3, x6, x8, x9, x10] => ref13_Call_s7 R N1 x1 x2 x3 x6 x8 x9 x10 w
  | _ => False
def ref13_Call_L8 (R : Value → World → Prop) (x1 x2 x3 x6 x8 x9 x10 : Value) (w : World) : Prop :=
  ∃ m, loopV (ref13_Call_L8F R) m [x1, x2, x3, x6, x8, x9, x10] w
theorem ref13_Call_L8_eq (R : Value → World → Prop) : ∀ e w, lift Tryz.prog 79 (sub (bodyOf Tryz.f34) [1, 1, 1, 1, 1, 0, 1, 0]) (blockK 0 (seqK (fun e w => ref13_Call_s1 R (e 1) (e 2) (e 3) (e 6) (e 8) (e 9) w) (finK Tryz.prog Tryz.f34.results.toList R))) e w = ref13_Call_L8 R (e 1) (e 2) (e 3) (e 6) (e 8) (e 9) (e 10) w := loop_seg (F := ref13_Call_L8F R) (sel := fun e => [e 1, e 2, e 3, e 6, e 8, e 9, e 10]) fun N1 => (ref13_Call_s7_eq R N1)
def ref13_Call_s9 (R : Value → World → Prop) (x1 x2 x3 x6 x8 x9 : Value) (w : World) : Prop :=
  ref13_Call_L8 R x1 x2 x3 x6 x8 x9 (.int .i64 0) w
theorem ref13_Call_s9_eq (R : Value → World → Prop) : ∀ e w, lift Tryz.prog 79 (sub (bodyOf Tryz.f34) [1, 1, 1, 1, 1, 0]) (seqK (fun e w => ref13_Call_s1 R (e 1) (e 2) (e 3) (e 6) (e 8) (e 9) w) (finK Tryz.prog Tryz.f34.results.toList R)) e w = ref13_Call_s9 R (e 1) (e 2) (e 3) (e 6) (e 8) (e 9) w :=
  segs_eq (l := [(sub (bodyOf Tryz.f34) [1, 1, 1, 1, 1, 0, 0])]) (y := (sub (bodyOf Tryz.f34) [1, 1, 1, 1, 1, 0, 1])) (Y := (fun e w => ref13_Call_L8 R (e 1) (e 2) (e 3) (e 6) (e 8) (e 9) (e 10) w)) (ref13_Call_L8_eq R) (fun e w => by kernel_rfl)
def ref13_Call_s10 (R : Value → World → Prop) (x1 x2 x3 x6 : Value) (w : World) : Prop :=
  fa 4 x3 fun t21 =>
  ldn 4 t21 w fun t22 =>
  callG Tryz.prog 66 #[t22, x2] w fun t24 w =>
  qG Tryz.prog (Op.unary .not t24) w fun t25 =>
  bV t25
  (ldn 8 x3 w fun t26 =>
  stn 8 x6 t26 w fun w =>
  qG Tryz.prog (do loadVar 39 (← asAddr x6)) w fun r6 =>
  R (.tuple #[r6, (.int .i64 130)]) w)
  (ref13_Call_s9 R x1 x2 x3 x6 (.slice none 0 0) (.bool false) w)
theorem ref13_Call_s10_eq (R : Value → World → Prop) : ∀ e w, lift Tryz.prog 79 (sub (bodyOf Tryz.f34) [1, 1]) (finK Tryz.prog Tryz.f34.results.toList R) e w = ref13_Call_s10 R (e 1) (e 2) (e 3) (e 6) w :=
  segs_eq (l := [(sub (bodyOf Tryz.f34) [1, 1, 0]), (sub (bodyOf Tryz.f34) [1, 1, 1, 0]), (sub (bodyOf Tryz.f34) [1, 1, 1, 1, 0])]) (y := (sub (bodyOf Tryz.f34) [1, 1, 1, 1, 1])) (Y := (fun e w => ref13_Call_s9 R (e 1) (e 2) (e 3) (e 6) (e 8) (e 9) w)) (seq_seg (x := (sub (bodyOf Tryz.f34) [1, 1, 1, 1, 1, 0])) (y := (sub (bodyOf Tryz.f34) [1, 1, 1, 1, 1, 1])) (ref13_Call_s1_eq R) (ref13_Call_s9_eq R)) (fun e w => by kernel_rfl)
def ref13_Call_s11 (R : Value → World → Prop) (x0 x1 x2 : Value) (w : World) : Prop :=
  newG (Value.cells x0) 39 w fun t3 w =>
  newG (zc Tryz.prog 39) 39 w fun t6 w =>
  lenS x1 fun t13 =>
  qG Tryz.prog (bq .lss 3 (.tmp 13) (.const (.int .i64 1)) t13 (.int .i64 1)) w fun t14 =>
  bV t14
  (ldn 8 t3 w fun t20 =>
  stn 8 t6 t20 w fun w =>
  qG Tryz.prog (do loadVar 39 (← asAddr t6)) w fun r6 =>
  R (.tuple #[r6, (.int .i64 1)]) w)
  (lenS x1 fun t17 =>
  qG Tryz.prog (bq .gtr 3 (.tmp 17) (.const (.int .i64 8)) t17 (.int .i64 8)) w fun t18 =>
  bV t18
  (ldn 8 t3 w fun t20_1 =>
  stn 8 t6 t20_1 w fun w =>
  qG Tryz.prog (do loadVar 39 (← asAddr t6)) w fun r6_1 =>
  R (.tuple #[r6_1, (.int .i64 1)]) w)
  (ref13_Call_s10 R x1 x2 t3 t6 w))
theorem ref13_Call_s11_eq (R : Value → World → Prop) : ∀ e w, lift Tryz.prog 79 (bodyOf Tryz.f34) (finK Tryz.prog Tryz.f34.results.toList R) e w = ref13_Call_s11 R (e 0) (e 1) (e 2) w :=
  segs_eq (l := [(sub (bodyOf Tryz.f34) [0]), (sub (bodyOf Tryz.f34) [1, 0])]) (y := (sub (bodyOf Tryz.f34) [1, 1])) (Y := (fun e w => ref13_Call_s10 R (e 1) (e 2) (e 3) (e 6) w)) (ref13_Call_s10_eq R) (fun e w => by kernel_rfl)
def ref13_Call (R : Value → World → Prop) (x0 x1 x2 : Value) (w : World) : Prop := ref13_Call_s11 R x0 x1 x2 w
theorem ref13_Call_call {R : Value → World → Prop} {x0 x1 x2 : Value} {w : World} (h : ref13_Call R x0 x1 x2 w) : callG Tryz.prog 34 #[x0, x1, x2] w R :=
  calls_lift_eq Tryz.mixed Tryz.func34 (args := [x0, x1, x2]) rfl rfl rfl rfl ((ref13_Call_s11_eq R) (envOf [x0, x1, x2]) w) (by kernel_rfl) h
/-! quayside/quaysideref13.Forget -/
def ref13_Forget_s0 (R : Value → World → Prop) (x2 x4 x6 : Value) (w : World) : Prop :=
  lenL x6 fun t35 =>
  fa 4 x2 fun t36 =>
  fa 2 t36 fun t37 =>
  ld1 t37 w fun t38 =>
  lenL t38 fun t39 =>
  qG Tryz.prog (bq .eql 3 (.tmp 35) (.tmp 39) t35 t39) w fun t40 =>
  bV t40
  (ldn 8 x2 w fun t41 =>
  stn 8 x4 t41 w fun w =>
  qG Tryz.prog (do loadVar 39 (← asAddr x4)) w fun r4 =>
  R (.tuple #[r4, (.int .i64 3)]) w)
  (fa 4 x2 fun t43 =>
  fa 2 t43 fun t44 =>
  st1 t44 x6 w fun w =>
  ldn 8 x2 w fun t45 =>
  stn 8 x4 t45 w fun w =>
  qG Tryz.prog (do loadVar 39 (← asAddr x4)) w fun r4_1 =>
  R (.tuple #[r4_1, (.int .i64 0)]) w)
theorem ref13_Forget_s0_eq (R : Value → World → Prop) : ∀ e w, lift Tryz.prog 46 (sub (bodyOf Tryz.f36) [1, 1, 1]) (finK Tryz.prog Tryz.f36.results.toList R) e w = ref13_Forget_s0 R (e 2) (e 4) (e 6) w := fun e w => by kernel_rfl
def ref13_Forget_b1 (R : Value → World → Prop) (N1 : List Value → World → Prop) (x1 x2 x4 x6 x7 : Value) (w : World) : Prop :=
  fa 4 x2 fun t9 =>
  fa 2 t9 fun t10 =>
  ld1 t10 w fun t11 =>
  lenL t11 fun t12 =>
  qG Tryz.prog (bq .lss 3 (.tmp 8) (.tmp 12) x7 t12) w fun t13 =>
  bV t13
  (fa 4 x2 fun t16 =>
  fa 2 t16 fun t17 =>
  ld1 t17 w fun t18 =>
  ia 2 t18 x7 fun t20 =>
  fa 0 t20 fun t21 =>
  ld1 t21 w fun t22 =>
  qG Tryz.prog (bq .neq 9 (.tmp 22) (.tmp 23) t22 x1) w fun t24 =>
  bV t24
  (fa 4 x2 fun t26 =>
  fa 2 t26 fun t27 =>
  ld1 t27 w fun t28 =>
  ia 2 t28 x7 fun t30 =>
  ldn 2 t30 w fun t31 =>
  bsl 112 2 1 (zc Tryz.prog 112) #[(0, t31)] w fun t32 w =>
  app 112 2 24 (zc Tryz.prog 112) x6 t32 w fun t33 w =>
  qG Tryz.prog (bq .add 3 (.tmp 14) (.const (.int .i64 1)) x7 (.int .i64 1)) w fun t15 =>
  N1 [x1, x2, x4, t33, t15] w)
  (qG Tryz.prog (bq .add 3 (.tmp 14) (.const (.int .i64 1)) x7 (.int .i64 1)) w fun t15_1 =>
  N1 [x1, x2, x4, x6, t15_1] w))
  (ref13_Forget_s0 R x2 x4 x6 w)
theorem ref13_Forget_b1_eq (R : Value → World → Prop) (N1 : List Value → World → Prop) : ∀ e w, lift Tryz.prog 46 (sub (bodyOf Tryz.f36) [1, 1, 0, 1, 0, 0]) (seqK (fun e w => N1 [e 1, e 2, e 4, e 6, e 7] w) (blockK 0 (seqK (fun e w => ref13_Forget_s0 R (e 2) (e 4) (e 6) w) (finK Tryz.prog Tryz.f36.results.toList R)))) e w = ref13_Forget_b1 R N1 (e 1) (e 2) (e 4) (e 6) (e 7) w := fun e w => by kernel_rfl
def ref13_Forget_L2F (R : Value → World → Prop) (N1 : List Value → World → Prop) (xs : List Value) (w : World) : Prop :=
  match xs with
  | [x1, x2, x4, x6, x7] => ref13_Forget_b1 R N1 x1 x2 x4 x6 x7 w
  | _ => False
def ref13_Forget_L2 (R : Value → World → Prop) (x1 x2 x4 x6 x7 : Value) (w : World) : Prop :=
  ∃ m, loopV (ref13_Forget_L2F R) m [x1, x2, x4, x6, x7] w
theorem ref13_Forget_L2_eq (R : Value → World → Prop) : ∀ e w, lift Tryz.prog 46 (sub (bodyOf Tryz.f36) [1, 1, 0, 1, 0]) (blockK 0 (seqK (fun e w => ref13_Forget_s0 R (e 2) (e 4) (e 6) w) (finK Tryz.prog Tryz.f36.results.toList R))) e w = ref13_Forget_L2 R (e 1) (e 2) (e 4) (e 6) (e 7) w := loop_seg (F := ref13_Forget_L2F R) (sel := fun e => [e 1, e 2, e 4, e 6, e 7]) fun N1 => (ref13_Forget_b1_eq R N1)
def ref13_Forget_s3 (R : Value → World → Prop) (x1 x2 x4 x6 : Value) (w : World) : Prop :=
  ref13_Forget_L2 R x1 x2 x4 x6 (.int .i64 0) w
theorem ref13_Forget_s3_eq (R : Value → World → Prop) : ∀ e w, lift Tryz.prog 46 (sub (bodyOf Tryz.f36) [1, 1, 0]) (seqK (fun e w => ref13_Forget_s0 R (e 2) (e 4) (e 6) w) (finK Tryz.prog Tryz.f36.results.toList R)) e w = ref13_Forget_s3 R (e 1) (e 2) (e 4) (e 6) w :=
  segs_eq (l := [(sub (bodyOf Tryz.f36) [1, 1, 0, 0])]) (y := (sub (bodyOf Tryz.f36) [1, 1, 0, 1])) (Y := (fun e w => ref13_Forget_L2 R (e 1) (e 2) (e 4) (e 6) (e 7) w)) (ref13_Forget_L2_eq R) (fun e w => by kernel_rfl)
def ref13_Forget_s4 (R : Value → World → Prop) (x0 x1 : Value) (w : World) : Prop :=
  newG (Value.cells x0) 39 w fun t2 w =>
  newG (zc Tryz.prog 39) 39 w fun t4 w =>
  ref13_Forget_s3 R x1 t2 t4 (.slice none 0 0) w
theorem ref13_Forget_s4_eq (R : Value → World → Prop) : ∀ e w, lift Tryz.prog 46 (bodyOf Tryz.f36) (finK Tryz.prog Tryz.f36.results.toList R) e w = ref13_Forget_s4 R (e 0) (e 1) w :=
  segs_eq (l := [(sub (bodyOf Tryz.f36) [0]), (sub (bodyOf Tryz.f36) [1, 0])]) (y := (sub (bodyOf Tryz.f36) [1, 1])) (Y := (fun e w => ref13_Forget_s3 R (e 1) (e 2) (e 4) (e 6) w)) (seq_seg (x := (sub (bodyOf Tryz.f36) [1, 1, 0])) (y := (sub (bodyOf Tryz.f36) [1, 1, 1])) (ref13_Forget_s0_eq R) (ref13_Forget_s3_eq R)) (fun e w => by kernel_rfl)
def ref13_Forget (R : Value → World → Prop) (x0 x1 : Value) (w : World) : Prop := ref13_Forget_s4 R x0 x1 w
theorem ref13_Forget_call {R : Value → World → Prop} {x0 x1 : Value} {w : World} (h : ref13_Forget R x0 x1 w) : callG Tryz.prog 36 #[x0, x1] w R :=
  calls_lift_eq Tryz.mixed Tryz.func36 (args := [x0, x1]) rfl rfl rfl rfl ((ref13_Forget_s4_eq R) (envOf [x0, x1]) w) (by kernel_rfl) h
/-! quayside/quaysideref13.Commit -/
def ref13_Commit_s0 (R : Value → World → Prop) (x1 x2 : Value) (w : World) : Prop :=
  fa 0 x1 fun t25 =>
  fa 3 t25 fun t26 =>
  ld1 t26 w fun t27 =>
  qG Tryz.prog (bq .add 3 (.tmp 27) (.const (.int .i64 1)) t27 (.int .i64 1)) w fun t28 =>
  fa 4 x1 fun t29 =>
  fa 3 t29 fun t30 =>
  st1 t30 t28 w fun w =>
  fa 4 x1 fun t31 =>
  ldn 4 t31 w fun t32 =>
  fa 0 x1 fun t33 =>
  stn 4 t33 t32 w fun w =>
  ldn 8 x1 w fun t34 =>
  stn 8 x2 t34 w fun w =>
  qG Tryz.prog (do loadVar 39 (← asAddr x2)) w fun r2 =>
  R (.tuple #[r2, (.int .i64 0)]) w
theorem ref13_Commit_s0_eq (R : Value → World → Prop) : ∀ e w, lift Tryz.prog 35 (sub (bodyOf Tryz.f37) [1, 1]) (finK Tryz.prog Tryz.f37.results.toList R) e w = ref13_Commit_s0 R (e 1) (e 2) w := fun e w => by kernel_rfl
def ref13_Commit_b1 (R : Value → World → Prop) (N1 : List Value → World → Prop) (x1 x2 x4 : Value) (w : World) : Prop :=
  fa 4 x1 fun t6 =>
  fa 2 t6 fun t7 =>
  ld1 t7 w fun t8 =>
  lenL t8 fun t9 =>
  qG Tryz.prog (bq .lss 3 (.tmp 5) (.tmp 9) x4 t9) w fun t10 =>
  bV t10
  (fa 4 x1 fun t13 =>
  ldn 4 t13 (World.drew w) fun t14 =>
  fa 4 x1 fun t15 =>
  fa 2 t15 fun t16 =>
  ld1 t16 (World.drew w) fun t17 =>
  ia 2 t17 x4 fun t19 =>
  fa 1 t19 fun t20 =>
  ld1 t20 (World.drew w) fun t21 =>
  callG Tryz.prog 66 #[t14, t21] (World.drew w) fun t22 w =>
  qG Tryz.prog (Op.unary .not t22) w fun t23 =>
  bV t23
  (ldn 8 x1 w fun t24 =>
  stn 8 x2 t24 w fun w =>
  qG Tryz.prog (do loadVar 39 (← asAddr x2)) w fun r2 =>
  R (.tuple #[r2, (.int .i64 130)]) w)
  (qG Tryz.prog (bq .add 3 (.tmp 11) (.const (.int .i64 1)) x4 (.int .i64 1)) w fun t12 =>
  N1 [x1, x2, t12] w))
  (ref13_Commit_s0 R x1 x2 w)
theorem ref13_Commit_b1_eq (R : Value → World → Prop) (N1 : List Value → World → Prop) : ∀ e w, lift Tryz.prog 35 (sub (bodyOf Tryz.f37) [1, 0, 1, 0, 0]) (seqK (fun e w => N1 [e 1, e 2, e 4] w) (blockK 0 (seqK (fun e w => ref13_Commit_s0 R (e 1) (e 2) w) (finK Tryz.prog Tryz.f37.results.toList R)))) e w = ref13_Commit_b1 R N1 (e 1) (e 2) (e 4) w := fun e w => by kernel_rfl
def ref13_Commit_L2F (R : Value → World → Prop) (N1 : List Value → World → Prop) (xs : List Value) (w : World) : Prop :=
  match xs with
  | [x1, x2, x4] => ref13_Commit_b1 R N1 x1 x2 x4 w
  | _ => False
def ref13_Commit_L2 (R : Value → World → Prop) (x1 x2 x4 : Value) (w : World) : Prop :=
  ∃ m, loopV (ref13_Commit_L2F R) m [x1, x2, x4] w
theorem ref13_Commit_L2_eq (R : Value → World → Prop) : ∀ e w, lift Tryz.prog 35 (sub (bodyOf Tryz.f37) [1, 0, 1, 0]) (blockK 0 (seqK (fun e w => ref13_Commit_s0 R (e 1) (e 2) w) (finK Tryz.prog Tryz.f37.results.toList R))) e w = ref13_Commit_L2 R (e 1) (e 2) (e 4) w := loop_seg (F := ref13_Commit_L2F R) (sel := fun e => [e 1, e 2, e 4]) fun N1 => (ref13_Commit_b1_eq R N1)
def ref13_Commit_s3 (R : Value → World → Prop) (x1 x2 : Value) (w : World) : Prop :=
  ref13_Commit_L2 R x1 x2 (.int .i64 0) w
theorem ref13_Commit_s3_eq (R : Value → World → Prop) : ∀ e w, lift Tryz.prog 35 (sub (bodyOf Tryz.f37) [1, 0]) (seqK (fun e w => ref13_Commit_s0 R (e 1) (e 2) w) (finK Tryz.prog Tryz.f37.results.toList R)) e w = ref13_Commit_s3 R (e 1) (e 2) w :=
  segs_eq (l := [(sub (bodyOf Tryz.f37) [1, 0, 0])]) (y := (sub (bodyOf Tryz.f37) [1, 0, 1])) (Y := (fun e w => ref13_Commit_L2 R (e 1) (e 2) (e 4) w)) (ref13_Commit_L2_eq R) (fun e w => by kernel_rfl)
def ref13_Commit_s4 (R : Value → World → Prop) (x0 : Value) (w : World) : Prop :=
  newG (Value.cells x0) 39 w fun t1 w =>
  newG (zc Tryz.prog 39) 39 w fun t2 w =>
  ref13_Commit_s3 R t1 t2 w
theorem ref13_Commit_s4_eq (R : Value → World → Prop) : ∀ e w, lift Tryz.prog 35 (bodyOf Tryz.f37) (finK Tryz.prog Tryz.f37.results.toList R) e w = ref13_Commit_s4 R (e 0) w :=
  segs_eq (l := [(sub (bodyOf Tryz.f37) [0])]) (y := (sub (bodyOf Tryz.f37) [1])) (Y := (fun e w => ref13_Commit_s3 R (e 1) (e 2) w)) (seq_seg (x := (sub (bodyOf Tryz.f37) [1, 0])) (y := (sub (bodyOf Tryz.f37) [1, 1])) (ref13_Commit_s0_eq R) (ref13_Commit_s3_eq R)) (fun e w => by kernel_rfl)
def ref13_Commit (R : Value → World → Prop) (x0 : Value) (w : World) : Prop := ref13_Commit_s4 R x0 w
theorem ref13_Commit_call {R : Value → World → Prop} {x0 : Value} {w : World} (h : ref13_Commit R x0 w) : callG Tryz.prog 37 #[x0] w R :=
  calls_lift_eq Tryz.mixed Tryz.func37 (args := [x0]) rfl rfl rfl rfl ((ref13_Commit_s4_eq R) (envOf [x0]) w) (by kernel_rfl) h
/-! quayside/quaysideref13.Rollback -/
def ref13_Rollback_s0 (R : Value → World → Prop) (x0 : Value) (w : World) : Prop :=
  newG (Value.cells x0) 39 w fun t1 w =>
  newG (zc Tryz.prog 39) 39 w fun t2 w =>
  fa 0 t1 fun t3 =>
  ldn 4 t3 w fun t4 =>
  fa 4 t1 fun t5 =>
  stn 4 t5 t4 w fun w =>
  ldn 8 t1 w fun t6 =>
  stn 8 t2 t6 w fun w =>
  qG Tryz.prog (do loadVar 39 (← asAddr t2)) w fun r2 =>
  R r2 w
theorem ref13_Rollback_s0_eq (R : Value → World → Prop) : ∀ e w, lift Tryz.prog 7 (bodyOf Tryz.f39) (finK Tryz.prog Tryz.f39.results.toList R) e w = ref13_Rollback_s0 R (e 0) w := fun e w => by kernel_rfl
def ref13_Rollback (R : Value → World → Prop) (x0 : Value) (w : World) : Prop := ref13_Rollback_s0 R x0 w
theorem ref13_Rollback_call {R : Value → World → Prop} {x0 : Value} {w : World} (h : ref13_Rollback R x0 w) : callG Tryz.prog 39 #[x0] w R :=
  calls_lift_eq Tryz.mixed Tryz.func39 (args := [x0]) rfl rfl rfl rfl ((ref13_Rollback_s0_eq R) (envOf [x0]) w) (by kernel_rfl) h
end Go.Proofs

set_option linter.unusedVariables false
set_option linter.unusedSimpArgs false
namespace Go.Proofs
open Go Go.Q
set_option maxRecDepth 100000
/-! quayside/quaysidelaw13.filled -/
def law13_filled_s0 (R : Value → World → Prop) (x3 : Value) (w : World) : Prop :=
  cvBS x3 w fun t15 =>
  R t15 w
theorem law13_filled_s0_eq (R : Value → World → Prop) : ∀ e w, lift Tryz.prog 16 (sub (bodyOf Tryz.f21) [1, 1, 1]) (finK Tryz.prog Tryz.f21.results.toList R) e w = law13_filled_s0 R (e 3) w := fun e w => by kernel_rfl
def law13_filled_b1 (R : Value → World → Prop) (N1 : List Value → World → Prop) (x0 x3 x4 : Value) (w : World) : Prop :=
  qG Tryz.prog (bq .lss 3 (.tmp 6) (.const (.int .i64 256)) x4 (.int .i64 256)) w fun t7 =>
  bV t7
  (ia 1 x3 x4 fun t13 =>
  st1 t13 x0 w fun w =>
  qG Tryz.prog (bq .add 3 (.tmp 8) (.const (.int .i64 1)) x4 (.int .i64 1)) w fun t9 =>
  N1 [x0, x3, t9] w)
  (law13_filled_s0 R x3 w)
theorem law13_filled_b1_eq (R : Value → World → Prop) (N1 : List Value → World → Prop) : ∀ e w, lift Tryz.prog 16 (sub (bodyOf Tryz.f21) [1, 1, 0, 1, 0, 0]) (seqK (fun e w => N1 [e 0, e 3, e 4] w) (blockK 0 (seqK (fun e w => law13_filled_s0 R (e 3) w) (finK Tryz.prog Tryz.f21.results.toList R)))) e w = law13_filled_b1 R N1 (e 0) (e 3) (e 4) w := fun e w => by kernel_rfl
def law13_filled_L2F (R : Value → World → Prop) (N1 : List Value → World → Prop) (xs : List Value) (w : World) : Prop :=
  match xs with
  | [x0, x3, x4] => law13_filled_b1 R N1 x0 x3 x4 w
  | _ => False
def law13_filled_L2 (R : Value → World → Prop) (x0 x3 x4 : Value) (w : World) : Prop :=
  ∃ m, loopV (law13_filled_L2F R) m [x0, x3, x4] w
theorem law13_filled_L2_eq (R : Value → World → Prop) : ∀ e w, lift Tryz.prog 16 (sub (bodyOf Tryz.f21) [1, 1, 0, 1, 0]) (blockK 0 (seqK (fun e w => law13_filled_s0 R (e 3) w) (finK Tryz.prog Tryz.f21.results.toList R))) e w = law13_filled_L2 R (e 0) (e 3) (e 4) w := loop_seg (F := law13_filled_L2F R) (sel := fun e => [e 0, e 3, e 4]) fun N1 => (law13_filled_b1_eq R N1)
def law13_filled_s3 (R : Value → World → Prop) (x0 x3 : Value) (w : World) : Prop :=
  law13_filled_L2 R x0 x3 (.int .i64 0) w
theorem law13_filled_s3_eq (R : Value → World → Prop) : ∀ e w, lift Tryz.prog 16 (sub (bodyOf Tryz.f21) [1, 1, 0]) (seqK (fun e w => law13_filled_s0 R (e 3) w) (finK Tryz.prog Tryz.f21.results.toList R)) e w = law13_filled_s3 R (e 0) (e 3) w :=
  segs_eq (l := [(sub (bodyOf Tryz.f21) [1, 1, 0, 0])]) (y := (sub (bodyOf Tryz.f21) [1, 1, 0, 1])) (Y := (fun e w => law13_filled_L2 R (e 0) (e 3) (e 4) w)) (law13_filled_L2_eq R) (fun e w => by kernel_rfl)
def law13_filled_s4 (R : Value → World → Prop) (x0 : Value) (w : World) : Prop :=
  mkG 5 1 1 (zc Tryz.prog 5) (.int .i64 256) (.int .i64 256) w fun t5 w =>
  law13_filled_s3 R x0 t5 w
theorem law13_filled_s4_eq (R : Value → World → Prop) : ∀ e w, lift Tryz.prog 16 (bodyOf Tryz.f21) (finK Tryz.prog Tryz.f21.results.toList R) e w = law13_filled_s4 R (e 0) w :=
  segs_eq (l := [(sub (bodyOf Tryz.f21) [0]), (sub (bodyOf Tryz.f21) [1, 0])]) (y := (sub (bodyOf Tryz.f21) [1, 1])) (Y := (fun e w => law13_filled_s3 R (e 0) (e 3) w)) (seq_seg (x := (sub (bodyOf Tryz.f21) [1, 1, 0])) (y := (sub (bodyOf Tryz.f21) [1, 1, 1])) (law13_filled_s0_eq R) (law13_filled_s3_eq R)) (fun e w => by kernel_rfl)
def law13_filled (R : Value → World → Prop) (x0 : Value) (w : World) : Prop := law13_filled_s4 R x0 w
theorem law13_filled_call {R : Value → World → Prop} {x0 : Value} {w : World} (h : law13_filled R x0 w) : callG Tryz.prog 21 #[x0] w R :=
  calls_lift_eq Tryz.mixed Tryz.func21 (args := [x0]) rfl rfl rfl rfl ((law13_filled_s4_eq R) (envOf [x0]) w) (by kernel_rfl) h
/-! quayside/quaysidelaw13.awake -/
def law13_awake_s0 (R : Value → World → Prop) (x7 : Value) (w : World) : Prop :=
  callG Tryz.prog 25 #[x7, (.string ⟨#[114, 111, 111, 116]⟩)] w fun t82 w =>
  qG Tryz.prog (Instr.extract t82 0) w fun t83 =>
  qG Tryz.prog (Instr.extract t82 1) w fun t84 =>
  callG Tryz.prog 26 #[x7, (.int .i64 1)] w fun t87 w =>
  qG Tryz.prog (Instr.extract t87 0) w fun t88 =>
  qG Tryz.prog (Instr.extract t87 1) w fun t89 =>
  qG Tryz.prog (bq .eql 3 (.tmp 90) (.const (.int .i64 1)) t83 (.int .i64 1)) w fun t91 =>
  bV t91
  (bV t84
  (callG Tryz.prog 21 #[(.int .u8 97)] w fun t97 w =>
  qG Tryz.prog (bq .eql 9 (.tmp 96) (.tmp 97) t88 t97) w fun t98 =>
  bV t98
  (qG Tryz.prog (bq .eql 24 (.tmp 101) (.const (.int .i64 0)) t89 (.int .i64 0)) w fun t102 =>
  bV t102
  (callG Tryz.prog 27 #[x7] w fun t106 w =>
  qG Tryz.prog (bq .eql 3 (.tmp 106) (.const (.int .i64 1)) t106 (.int .i64 1)) w fun t107 =>
  bV t107
  (callG Tryz.prog 28 #[x7] w fun t111 w =>
  qG Tryz.prog (bq .eql 3 (.tmp 111) (.const (.int .i64 1)) t111 (.int .i64 1)) w fun t112 =>
  bV t112
  (callG Tryz.prog 29 #[x7, (.int .i64 1)] w fun t116 w =>
  qG Tryz.prog (Op.unary .not t116) w fun t117 =>
  R t117 w)
  (R (.bool false) w))
  (R (.bool false) w))
  (R (.bool false) w))
  (R (.bool false) w))
  (R (.bool false) w))
  (R (.bool false) w)
theorem law13_awake_s0_eq (R : Value → World → Prop) : ∀ e w, lift Tryz.prog 119 (sub (bodyOf Tryz.f9) [1, 1, 1, 1, 1, 1, 1, 1]) (finK Tryz.prog Tryz.f9.results.toList R) e w = law13_awake_s0 R (e 7) w := fun e w => by kernel_rfl
def law13_awake_s1 (R : Value → World → Prop) (x1 : Value) (w : World) : Prop :=
  callG Tryz.prog 5 #[x1, (.int .i64 0), (.int .i64 64)] w fun t71 w =>
  qG Tryz.prog (Instr.extract t71 0) w fun t72 =>
  qG Tryz.prog (Instr.extract t71 1) w fun t73 =>
  qG Tryz.prog (bq .neq 24 (.tmp 74) (.const (.int .i64 0)) t73 (.int .i64 0)) w fun t75 =>
  bV t75
  (R (.bool false) w)
  (qG Tryz.prog (bq .eql 27 (.tmp 77) (.const (.pointer none)) t72 (.pointer none)) w fun t78 =>
  bV t78
  (R (.bool false) w)
  (law13_awake_s0 R t72 w))
theorem law13_awake_s1_eq (R : Value → World → Prop) : ∀ e w, lift Tryz.prog 119 (sub (bodyOf Tryz.f9) [1, 1, 1, 1, 1, 1]) (finK Tryz.prog Tryz.f9.results.toList R) e w = law13_awake_s1 R (e 1) w :=
  segs_eq (l := [(sub (bodyOf Tryz.f9) [1, 1, 1, 1, 1, 1, 0]), (sub (bodyOf Tryz.f9) [1, 1, 1, 1, 1, 1, 1, 0])]) (y := (sub (bodyOf Tryz.f9) [1, 1, 1, 1, 1, 1, 1, 1])) (Y := (fun e w => law13_awake_s0 R (e 7) w)) (law13_awake_s0_eq R) (fun e w => by kernel_rfl)
def law13_awake_s2 (R : Value → World → Prop) (x1 x3 : Value) (w : World) : Prop :=
  callG Tryz.prog 19 #[x3] w fun t39 w =>
  qG Tryz.prog (Instr.extract t39 0) w fun t40 =>
  qG Tryz.prog (Instr.extract t39 1) w fun t41 =>
  qG Tryz.prog (bq .neq 3 (.tmp 42) (.const (.int .i64 1)) t40 (.int .i64 1)) w fun t43 =>
  bV t43
  (R (.bool false) w)
  (qG Tryz.prog (bq .neq 24 (.tmp 45) (.const (.int .i64 0)) t41 (.int .i64 0)) w fun t46 =>
  bV t46
  (R (.bool false) w)
  (callG Tryz.prog 21 #[(.int .u8 97)] w fun t50 w =>
  callG Tryz.prog 20 #[x3, (.int .i64 1), t50] w fun t51 w =>
  qG Tryz.prog (bq .neq 24 (.tmp 51) (.const (.int .i64 0)) t51 (.int .i64 0)) w fun t52 =>
  bV t52
  (R (.bool false) w)
  (callG Tryz.prog 22 #[x3, (.string ⟨#[114, 111, 111, 116]⟩), (.int .i64 1)] w fun t56 w =>
  qG Tryz.prog (bq .neq 24 (.tmp 56) (.const (.int .i64 0)) t56 (.int .i64 0)) w fun t57 =>
  bV t57
  (R (.bool false) w)
  (callG Tryz.prog 23 #[x3] w fun t61 w =>
  qG Tryz.prog (bq .neq 24 (.tmp 61) (.const (.int .i64 0)) t61 (.int .i64 0)) w fun t62 =>
  bV t62
  (R (.bool false) w)
  (callG Tryz.prog 24 #[x1, (.slice none 0 0)] w fun t66 w =>
  qG Tryz.prog (bq .neq 24 (.tmp 66) (.const (.int .i64 0)) t66 (.int .i64 0)) w fun t67 =>
  bV t67
  (R (.bool false) w)
  (law13_awake_s1 R x1 w))))))
theorem law13_awake_s2_eq (R : Value → World → Prop) : ∀ e w, lift Tryz.prog 119 (sub (bodyOf Tryz.f9) [1, 1, 1, 1]) (finK Tryz.prog Tryz.f9.results.toList R) e w = law13_awake_s2 R (e 1) (e 3) w :=
  segs_eq (l := [(sub (bodyOf Tryz.f9) [1, 1, 1, 1, 0]), (sub (bodyOf Tryz.f9) [1, 1, 1, 1, 1, 0])]) (y := (sub (bodyOf Tryz.f9) [1, 1, 1, 1, 1, 1])) (Y := (fun e w => law13_awake_s1 R (e 1) w)) (law13_awake_s1_eq R) (fun e w => by kernel_rfl)
def law13_awake_s3 (R : Value → World → Prop) (w : World) : Prop :=
  callG Tryz.prog 4 #[(.int .i64 64)] w fun t14 w =>
  qG Tryz.prog (Instr.extract t14 0) w fun t15 =>
  qG Tryz.prog (Instr.extract t14 1) w fun t16 =>
  callG Tryz.prog 5 #[t15, (.int .i64 0), (.int .i64 64)] w fun t19 w =>
  qG Tryz.prog (Instr.extract t19 0) w fun t20 =>
  qG Tryz.prog (Instr.extract t19 1) w fun t21 =>
  qG Tryz.prog (bq .neq 24 (.tmp 22) (.const (.int .i64 0)) t16 (.int .i64 0)) w fun t23 =>
  bV t23
  (R (.bool false) w)
  (qG Tryz.prog (bq .neq 24 (.tmp 25) (.const (.int .i64 0)) t21 (.int .i64 0)) w fun t26 =>
  bV t26
  (R (.bool false) w)
  (qG Tryz.prog (bq .eql 27 (.tmp 29) (.const (.pointer none)) t20 (.pointer none)) w fun t30 =>
  bV t30
  (R (.bool false) w)
  (callG Tryz.prog 6 #[t20] w fun t34 w =>
  qG Tryz.prog (bq .neq 3 (.tmp 34) (.const (.int .i64 5)) t34 (.int .i64 5)) w fun t35 =>
  bV t35
  (R (.bool false) w)
  (law13_awake_s2 R t15 t20 w))))
theorem law13_awake_s3_eq (R : Value → World → Prop) : ∀ e w, lift Tryz.prog 119 (bodyOf Tryz.f9) (finK Tryz.prog Tryz.f9.results.toList R) e w = law13_awake_s3 R w :=
  segs_eq (l := [(sub (bodyOf Tryz.f9) [0]), (sub (bodyOf Tryz.f9) [1, 0]), (sub (bodyOf Tryz.f9) [1, 1, 0]), (sub (bodyOf Tryz.f9) [1, 1, 1, 0])]) (y := (sub (bodyOf Tryz.f9) [1, 1, 1, 1])) (Y := (fun e w => law13_awake_s2 R (e 1) (e 3) w)) (law13_awake_s2_eq R) (fun e w => by kernel_rfl)
def law13_awake (R : Value → World → Prop) (w : World) : Prop := law13_awake_s3 R  w
theorem law13_awake_call {R : Value → World → Prop} {w : World} (h : law13_awake R w) : callG Tryz.prog 9 #[] w R :=
  calls_lift_eq Tryz.mixed Tryz.func9 (args := []) rfl rfl rfl rfl ((law13_awake_s3_eq R) (envOf []) w) (by kernel_rfl) h
/-! quayside/quaysideref13.Pages -/
def ref13_Pages_s0 (R : Value → World → Prop) (x0 : Value) (w : World) : Prop :=
  qG Tryz.prog (bq .quo 3 (.tmp 3) (.const (.int .i64 8)) x0 (.int .i64 8)) w fun t4 =>
  qG Tryz.prog (bq .sub 3 (.tmp 4) (.const (.int .i64 3)) t4 (.int .i64 3)) w fun t5 =>
  qG Tryz.prog (Builtin.min_ #[3, 3] 3 #[t5, (.int .i64 500)]) w fun t6 =>
  R t6 w
theorem ref13_Pages_s0_eq (R : Value → World → Prop) : ∀ e w, lift Tryz.prog 7 (bodyOf Tryz.f7) (finK Tryz.prog Tryz.f7.results.toList R) e w = ref13_Pages_s0 R (e 0) w := fun e w => by kernel_rfl
def ref13_Pages (R : Value → World → Prop) (x0 : Value) (w : World) : Prop := ref13_Pages_s0 R x0 w
theorem ref13_Pages_call {R : Value → World → Prop} {x0 : Value} {w : World} (h : ref13_Pages R x0 w) : callG Tryz.prog 7 #[x0] w R :=
  calls_lift_eq Tryz.mixed Tryz.func7 (args := [x0]) rfl rfl rfl rfl ((ref13_Pages_s0_eq R) (envOf [x0]) w) (by kernel_rfl) h
/-! (*quayside/quaysidelaw13.side).sameAs -/
def law13_side_sameAs_s0 (R : Value → World → Prop) (w : World) : Prop :=
  R (.bool true) w
theorem law13_side_sameAs_s0_eq (R : Value → World → Prop) : ∀ e w, lift Tryz.prog 143 (sub (bodyOf Tryz.f42) [1, 1, 1, 1, 1]) (finK Tryz.prog Tryz.f42.results.toList R) e w = law13_side_sameAs_s0 R w := fun e w => by kernel_rfl
def law13_side_sameAs_b1 (R : Value → World → Prop) (N1 : List Value → World → Prop) (x0 x3 x9 : Value) (w : World) : Prop :=
  nk x0 fun t88 =>
  fa 1 t88 fun t89 =>
  ld1 t89 w fun t90 =>
  callG Tryz.prog 6 #[t90] w fun t91 w =>
  qG Tryz.prog (bq .add 3 (.tmp 91) (.const (.int .i64 1)) t91 (.int .i64 1)) w fun t92 =>
  qG Tryz.prog (bq .leq 3 (.tmp 86) (.tmp 92) x9 t92) w fun t93 =>
  bV t93
  (nk x0 fun t98 =>
  fa 1 t98 fun t99 =>
  ld1 t99 w fun t100 =>
  callG Tryz.prog 26 #[t100, x9] w fun t102 w =>
  qG Tryz.prog (Instr.extract t102 0) w fun t103 =>
  qG Tryz.prog (Instr.extract t102 1) w fun t104 =>
  ldn 4 x3 w fun t105 =>
  callG Tryz.prog 66 #[t105, x9] w fun t107 w =>
  qG Tryz.prog (Op.unary .not t107) w fun t108 =>
  bV t108
  (qG Tryz.prog (bq .neq 9 (.tmp 109) (.const (.string ⟨#[]⟩)) t103 (.string ⟨#[]⟩)) w fun t110 =>
  bV t110
  (R (.bool false) w)
  (qG Tryz.prog (bq .neq 24 (.tmp 112) (.const (.int .i64 130)) t104 (.int .i64 130)) w fun t113 =>
  bV t113
  (R (.bool false) w)
  (qG Tryz.prog (bq .add 3 (.tmp 94) (.const (.int .i64 1)) x9 (.int .i64 1)) w fun t95 =>
  N1 [x0, x3, t95] w)))
  (qG Tryz.prog (bq .neq 24 (.tmp 115) (.const (.int .i64 0)) t104 (.int .i64 0)) (World.drew w) fun t116 =>
  bV t116
  (R (.bool false) (World.drew w))
  (fa 1 x3 fun t119 =>
  ld1 t119 (World.drew w) fun t120 =>
  ia 1 t120 x9 fun t122 =>
  ld1 t122 (World.drew w) fun t123 =>
  qG Tryz.prog (bq .neq 9 (.tmp 118) (.tmp 123) t103 t123) (World.drew w) fun t124 =>
  bV t124
  (R (.bool false) (World.drew w))
  (nk x0 fun t128 =>
  fa 1 t128 fun t129 =>
  ld1 t129 (World.drew w) fun t130 =>
  nk x0 fun t134 =>
  fa 2 t134 fun t135 =>
  fa 0 t135 fun t136 =>
  ldn 4 t136 (World.drew w) fun t137 =>
  callG Tryz.prog 29 #[t130, x9] (World.drew w) fun t132 w =>
  ldn 4 t136 w (fun u => u = t137) ∧
  callG Tryz.prog 66 #[t137, x9] w fun t139 w =>
  qG Tryz.prog (Op.unary .not t139) w fun t140 =>
  qG Tryz.prog (bq .neq 4 (.tmp 132) (.tmp 140) t132 t140) w fun t141 =>
  bV t141
  (R (.bool false) w)
  (qG Tryz.prog (bq .add 3 (.tmp 94) (.const (.int .i64 1)) x9 (.int .i64 1)) w fun t95_1 =>
  N1 [x0, x3, t95_1] w)))))
  (law13_side_sameAs_s0 R  w)
theorem law13_side_sameAs_b1_eq (R : Value → World → Prop) (N1 : List Value → World → Prop) : ∀ e w, lift Tryz.prog 143 (sub (bodyOf Tryz.f42) [1, 1, 1, 1, 0, 1, 0, 0]) (seqK (fun e w => N1 [e 0, e 3, e 9] w) (blockK 2 (seqK (fun e w => law13_side_sameAs_s0 R  w) (finK Tryz.prog Tryz.f42.results.toList R)))) e w = law13_side_sameAs_b1 R N1 (e 0) (e 3) (e 9) w := fun e w => by kernel_rfl
def law13_side_sameAs_L2F (R : Value → World → Prop) (N1 : List Value → World → Prop) (xs : List Value) (w : World) : Prop :=
  match xs with
  | [x0, x3, x9] => law13_side_sameAs_b1 R N1 x0 x3 x9 w
  | _ => False
def law13_side_sameAs_L2 (R : Value → World → Prop) (x0 x3 x9 : Value) (w : World) : Prop :=
  ∃ m, loopV (law13_side_sameAs_L2F R) m [x0, x3, x9] w
theorem law13_side_sameAs_L2_eq (R : Value → World → Prop) : ∀ e w, lift Tryz.prog 143 (sub (bodyOf Tryz.f42) [1, 1, 1, 1, 0, 1, 0]) (blockK 2 (seqK (fun e w => law13_side_sameAs_s0 R  w) (finK Tryz.prog Tryz.f42.results.toList R))) e w = law13_side_sameAs_L2 R (e 0) (e 3) (e 9) w := loop_seg (F := law13_side_sameAs_L2F R) (sel := fun e => [e 0, e 3, e 9]) fun N1 => (law13_side_sameAs_b1_eq R N1)
def law13_side_sameAs_s3 (R : Value → World → Prop) (x0 x3 : Value) (w : World) : Prop :=
  law13_side_sameAs_L2 R x0 x3 (.int .i64 0) w
theorem law13_side_sameAs_s3_eq (R : Value → World → Prop) : ∀ e w, lift Tryz.prog 143 (sub (bodyOf Tryz.f42) [1, 1, 1, 1, 0]) (seqK (fun e w => law13_side_sameAs_s0 R  w) (finK Tryz.prog Tryz.f42.results.toList R)) e w = law13_side_sameAs_s3 R (e 0) (e 3) w :=
  segs_eq (l := [(sub (bodyOf Tryz.f42) [1, 1, 1, 1, 0, 0])]) (y := (sub (bodyOf Tryz.f42) [1, 1, 1, 1, 0, 1])) (Y := (fun e w => law13_side_sameAs_L2 R (e 0) (e 3) (e 9) w)) (law13_side_sameAs_L2_eq R) (fun e w => by kernel_rfl)
def law13_side_sameAs_b4 (R : Value → World → Prop) (N1 : List Value → World → Prop) (x0 x3 x5 x6 : Value) (w : World) : Prop :=
  lenL x5 fun t45 =>
  qG Tryz.prog (bq .lss 3 (.tmp 43) (.tmp 45) x6 t45) w fun t46 =>
  bV t46
  (nk x0 fun t51 =>
  fa 1 t51 fun t52 =>
  ld1 t52 (World.drew w) fun t53 =>
  ia 1 x5 x6 fun t56 =>
  ld1 t56 (World.drew w) fun t57 =>
  callG Tryz.prog 25 #[t53, t57] (World.drew w) fun t58 w =>
  qG Tryz.prog (Instr.extract t58 0) w fun t59 =>
  qG Tryz.prog (Instr.extract t58 1) w fun t60 =>
  qG Tryz.prog (Op.unary .not t60) (World.drew w) fun t62 =>
  bV t62
  (R (.bool false) (World.drew w))
  (ia 1 x5 x6 fun t66 =>
  ld1 t66 (World.drew w) fun t67 =>
  fa 2 x3 fun t68 =>
  ld1 t68 (World.drew w) fun t69 =>
  ia 2 t69 x6 fun t71 =>
  fa 0 t71 fun t72 =>
  ld1 t72 (World.drew w) fun t73 =>
  qG Tryz.prog (bq .neq 9 (.tmp 67) (.tmp 73) t67 t73) (World.drew w) fun t74 =>
  bV t74
  (R (.bool false) (World.drew w))
  (fa 2 x3 fun t78 =>
  ld1 t78 (World.drew w) fun t79 =>
  ia 2 t79 x6 fun t81 =>
  fa 1 t81 fun t82 =>
  ld1 t82 (World.drew w) fun t83 =>
  qG Tryz.prog (bq .neq 3 (.tmp 77) (.tmp 83) t59 t83) (World.drew w) fun t84 =>
  bV t84
  (R (.bool false) (World.drew w))
  (qG Tryz.prog (bq .add 3 (.tmp 47) (.const (.int .i64 1)) x6 (.int .i64 1)) (World.drew w) fun t48 =>
  N1 [x0, x3, x5, t48] (World.drew w)))))
  (law13_side_sameAs_s3 R x0 x3 w)
theorem law13_side_sameAs_b4_eq (R : Value → World → Prop) (N1 : List Value → World → Prop) : ∀ e w, lift Tryz.prog 143 (sub (bodyOf Tryz.f42) [1, 1, 1, 0, 1, 0, 0]) (seqK (fun e w => N1 [e 0, e 3, e 5, e 6] w) (blockK 0 (seqK (fun e w => law13_side_sameAs_s3 R (e 0) (e 3) w) (finK Tryz.prog Tryz.f42.results.toList R)))) e w = law13_side_sameAs_b4 R N1 (e 0) (e 3) (e 5) (e 6) w := fun e w => by kernel_rfl
def law13_side_sameAs_L5F (R : Value → World → Prop) (N1 : List Value → World → Prop) (xs : List Value) (w : World) : Prop :=
  match xs with
  | [x0, x3, x5, x6] => law13_side_sameAs_b4 R N1 x0 x3 x5 x6 w
  | _ => False
def law13_side_sameAs_L5 (R : Value → World → Prop) (x0 x3 x5 x6 : Value) (w : World) : Prop :=
  ∃ m, loopV (law13_side_sameAs_L5F R) m [x0, x3, x5, x6] w
theorem law13_side_sameAs_L5_eq (R : Value → World → Prop) : ∀ e w, lift Tryz.prog 143 (sub (bodyOf Tryz.f42) [1, 1, 1, 0, 1, 0]) (blockK 0 (seqK (fun e w => law13_side_sameAs_s3 R (e 0) (e 3) w) (finK Tryz.prog Tryz.f42.results.toList R))) e w = law13_side_sameAs_L5 R (e 0) (e 3) (e 5) (e 6) w := loop_seg (F := law13_side_sameAs_L5F R) (sel := fun e => [e 0, e 3, e 5, e 6]) fun N1 => (law13_side_sameAs_b4_eq R N1)
def law13_side_sameAs_s6 (R : Value → World → Prop) (x0 x3 x5 : Value) (w : World) : Prop :=
  law13_side_sameAs_L5 R x0 x3 x5 (.int .i64 0) w
theorem law13_side_sameAs_s6_eq (R : Value → World → Prop) : ∀ e w, lift Tryz.prog 143 (sub (bodyOf Tryz.f42) [1, 1, 1, 0]) (seqK (fun e w => law13_side_sameAs_s3 R (e 0) (e 3) w) (finK Tryz.prog Tryz.f42.results.toList R)) e w = law13_side_sameAs_s6 R (e 0) (e 3) (e 5) w :=
  segs_eq (l := [(sub (bodyOf Tryz.f42) [1, 1, 1, 0, 0])]) (y := (sub (bodyOf Tryz.f42) [1, 1, 1, 0, 1])) (Y := (fun e w => law13_side_sameAs_L5 R (e 0) (e 3) (e 5) (e 6) w)) (law13_side_sameAs_L5_eq R) (fun e w => by kernel_rfl)
def law13_side_sameAs_s7 (R : Value → World → Prop) (x0 x1 : Value) (w : World) : Prop :=
  newG (Value.cells x1) 37 w fun t3 w =>
  nk x0 fun t13 =>
  fa 1 t13 fun t14 =>
  ld1 t14 w fun t15 =>
  callG Tryz.prog 60 #[t15] w fun t16 w =>
  nk x0 fun t18 =>
  fa 1 t18 fun t19 =>
  ld1 t19 (World.drew w) fun t20 =>
  ldn 4 t3 (World.drew w) fun t22 =>
  callG Tryz.prog 28 #[t20] (World.drew w) fun t21 w =>
  ldn 4 t3 w (fun u => u = t22) ∧
  callG Tryz.prog 68 #[t22] w fun t23 w =>
  qG Tryz.prog (bq .neq 3 (.tmp 21) (.tmp 23) t21 t23) w fun t24 =>
  bV t24
  (R (.bool false) w)
  (nk x0 fun t27 =>
  fa 1 t27 fun t28 =>
  ld1 t28 w fun t29 =>
  fa 3 t3 fun t31 =>
  ld1 t31 w fun t32 =>
  callG Tryz.prog 27 #[t29] w fun t30 w =>
  ld1 t31 w (fun u => u = t32) ∧
  qG Tryz.prog (bq .neq 3 (.tmp 30) (.tmp 32) t30 t32) w fun t33 =>
  bV t33
  (R (.bool false) w)
  (lenL t16 fun t37 =>
  fa 2 t3 fun t38 =>
  ld1 t38 w fun t39 =>
  lenL t39 fun t40 =>
  qG Tryz.prog (bq .neq 3 (.tmp 37) (.tmp 40) t37 t40) w fun t41 =>
  bV t41
  (R (.bool false) w)
  (law13_side_sameAs_s6 R x0 t3 t16 w)))
theorem law13_side_sameAs_s7_eq (R : Value → World → Prop) : ∀ e w, lift Tryz.prog 143 (bodyOf Tryz.f42) (finK Tryz.prog Tryz.f42.results.toList R) e w = law13_side_sameAs_s7 R (e 0) (e 1) w :=
  segs_eq (l := [(sub (bodyOf Tryz.f42) [0]), (sub (bodyOf Tryz.f42) [1, 0]), (sub (bodyOf Tryz.f42) [1, 1, 0])]) (y := (sub (bodyOf Tryz.f42) [1, 1, 1])) (Y := (fun e w => law13_side_sameAs_s6 R (e 0) (e 3) (e 5) w)) (seq_seg (x := (sub (bodyOf Tryz.f42) [1, 1, 1, 0])) (y := (sub (bodyOf Tryz.f42) [1, 1, 1, 1])) (seq_seg (x := (sub (bodyOf Tryz.f42) [1, 1, 1, 1, 0])) (y := (sub (bodyOf Tryz.f42) [1, 1, 1, 1, 1])) (law13_side_sameAs_s0_eq R) (law13_side_sameAs_s3_eq R)) (law13_side_sameAs_s6_eq R)) (fun e w => by kernel_rfl)
def law13_side_sameAs (R : Value → World → Prop) (x0 x1 : Value) (w : World) : Prop := law13_side_sameAs_s7 R x0 x1 w
theorem law13_side_sameAs_call {R : Value → World → Prop} {x0 x1 : Value} {w : World} (h : law13_side_sameAs R x0 x1 w) : callG Tryz.prog 42 #[x0, x1] w R :=
  calls_lift_eq Tryz.mixed Tryz.func42 (args := [x0, x1]) rfl rfl rfl rfl ((law13_side_sameAs_s7_eq R) (envOf [x0, x1]) w) (by kernel_rfl) h
/-! (*quayside/quaysidelaw13.side).opens -/
def law13_side_opens_s0 (R : Value → World → Prop) (x0 x3 x6 x9 : Value) (w : World) : Prop :=
  nk x0 fun t35 =>
  fa 1 t35 fun t36 =>
  st1 t36 x9 w fun w =>
  nk x0 fun t38 =>
  fa 2 t38 fun t39 =>
  ldn 8 t39 w fun t40 =>
  newG (zc Tryz.prog 39) 39 w fun t11 w =>
  stn 8 t11 t40 w fun w =>
  nk x0 fun t43 =>
  fa 2 t43 fun t44 =>
  ldn 8 t44 w fun t45 =>
  callG Tryz.prog 39 #[t45] w fun t46 w =>
  nk x0 fun t47 =>
  fa 2 t47 fun t48 =>
  stn 8 t48 t46 w fun w =>
  nk x0 fun t51 =>
  fa 2 t51 fun t52 =>
  fa 0 t52 fun t53 =>
  ldn 4 t53 w fun t54 =>
  callG Tryz.prog 42 #[x0, t54] w fun t55 w =>
  bV t55
  (R (.bool true) w)
  (ldn 8 x6 w fun t57 =>
  callG Tryz.prog 39 #[t57] w fun t58 w =>
  nk x0 fun t59 =>
  fa 2 t59 fun t60 =>
  stn 8 t60 t58 w fun w =>
  bV x3
  (fa 0 t11 fun t63 =>
  fa 3 t63 fun t64 =>
  ld1 t64 w fun t65 =>
  fa 0 x6 fun t66 =>
  fa 3 t66 fun t67 =>
  ld1 t67 w fun t68 =>
  qG Tryz.prog (bq .lss 3 (.tmp 65) (.tmp 68) t65 t68) w fun t69 =>
  bV t69
  (nk x0 fun t74 =>
  fa 2 t74 fun t75 =>
  fa 0 t75 fun t76 =>
  ldn 4 t76 w fun t77 =>
  callG Tryz.prog 42 #[x0, t77] w fun t78 w =>
  R t78 w)
  (R (.bool false) w))
  (R (.bool false) w))
theorem law13_side_opens_s0_eq (R : Value → World → Prop) : ∀ e w, lift Tryz.prog 80 (sub (bodyOf Tryz.f41) [1, 1, 1, 1]) (finK Tryz.prog Tryz.f41.results.toList R) e w = law13_side_opens_s0 R (e 0) (e 3) (e 6) (e 9) w := fun e w => by kernel_rfl
def law13_side_opens_s1 (R : Value → World → Prop) (x0 x1 x2 x3 : Value) (w : World) : Prop :=
  newG (Value.cells x2) 39 w fun t6 w =>
  nk x0 fun t13 =>
  fa 0 t13 fun t14 =>
  ld1 t14 w fun t15 =>
  callG Tryz.prog 24 #[t15, x1] w fun t17 w =>
  qG Tryz.prog (bq .neq 24 (.tmp 17) (.const (.int .i64 0)) t17 (.int .i64 0)) w fun t18 =>
  bV t18
  (R (.bool false) w)
  (nk x0 fun t21 =>
  fa 0 t21 fun t22 =>
  ld1 t22 w fun t23 =>
  callG Tryz.prog 5 #[t23, (.int .i64 3), (.int .i64 99)] w fun t24 w =>
  qG Tryz.prog (Instr.extract t24 0) w fun t25 =>
  qG Tryz.prog (Instr.extract t24 1) w fun t26 =>
  qG Tryz.prog (bq .neq 24 (.tmp 27) (.const (.int .i64 0)) t26 (.int .i64 0)) w fun t28 =>
  bV t28
  (R (.bool false) w)
  (qG Tryz.prog (bq .eql 27 (.tmp 30) (.const (.pointer none)) t25 (.pointer none)) w fun t31 =>
  bV t31
  (R (.bool false) w)
  (law13_side_opens_s0 R x0 x3 t6 t25 w)))
theorem law13_side_opens_s1_eq (R : Value → World → Prop) : ∀ e w, lift Tryz.prog 80 (bodyOf Tryz.f41) (finK Tryz.prog Tryz.f41.results.toList R) e w = law13_side_opens_s1 R (e 0) (e 1) (e 2) (e 3) w :=
  segs_eq (l := [(sub (bodyOf Tryz.f41) [0]), (sub (bodyOf Tryz.f41) [1, 0]), (sub (bodyOf Tryz.f41) [1, 1, 0]), (sub (bodyOf Tryz.f41) [1, 1, 1, 0])]) (y := (sub (bodyOf Tryz.f41) [1, 1, 1, 1])) (Y := (fun e w => law13_side_opens_s0 R (e 0) (e 3) (e 6) (e 9) w)) (law13_side_opens_s0_eq R) (fun e w => by kernel_rfl)
def law13_side_opens (R : Value → World → Prop) (x0 x1 x2 x3 : Value) (w : World) : Prop := law13_side_opens_s1 R x0 x1 x2 x3 w
theorem law13_side_opens_call {R : Value → World → Prop} {x0 x1 x2 x3 : Value} {w : World} (h : law13_side_opens R x0 x1 x2 x3 w) : callG Tryz.prog 41 #[x0, x1, x2, x3] w R :=
  calls_lift_eq Tryz.mixed Tryz.func41 (args := [x0, x1, x2, x3]) rfl rfl rfl rfl ((law13_side_opens_s1_eq R) (envOf [x0, x1, x2, x3]) w) (by kernel_rfl) h
/-! (*quayside/quaysidelaw13.side).does -/
def law13_side_does_s0 (R : Value → World → Prop) (x0 x5 x6 x7 : Value) (w : World) : Prop :=
  qG Tryz.prog (bq .neq 24 (.tmp 195) (.tmp 196) x5 x6) w fun t197 =>
  bV t197
  (R (.bool false) w)
  (ldn 8 x7 w fun t199 =>
  nk x0 fun t200 =>
  fa 2 t200 fun t201 =>
  stn 8 t201 t199 w fun w =>
  fa 4 x7 fun t203 =>
  ldn 4 t203 w fun t204 =>
  callG Tryz.prog 42 #[x0, t204] w fun t205 w =>
  R t205 w)
theorem law13_side_does_s0_eq (R : Value → World → Prop) : ∀ e w, lift Tryz.prog 206 (sub (bodyOf Tryz.f10) [1, 1, 1, 1, 1, 1]) (finK Tryz.prog Tryz.f10.results.toList R) e w = law13_side_does_s0 R (e 0) (e 5) (e 6) (e 7) w := fun e w => by kernel_rfl
def law13_side_does_s1 (R : Value → World → Prop) (x0 x3 x5 x6 x7 x8 : Value) (w : World) : Prop :=
  qG Tryz.prog (bq .eql 24 (.tmp 180) (.const (.int .i64 30)) x5 (.int .i64 30)) w fun t181 =>
  bV t181
  (nk x0 fun t184 =>
  fa 0 t184 fun t185 =>
  ld1 t185 w fun t186 =>
  callG Tryz.prog 12 #[t186] w fun t187 w =>
  bV t187
  (fa 5 x3 fun t190 =>
  ld1 t190 w fun t191 =>
  ldn 8 x7 w fun t192 =>
  callG Tryz.prog 41 #[x0, t191, t192, x8] w fun t194 w =>
  R t194 w)
  (law13_side_does_s0 R x0 x5 x6 x7 w))
  (law13_side_does_s0 R x0 x5 x6 x7 w)
theorem law13_side_does_s1_eq (R : Value → World → Prop) : ∀ e w, lift Tryz.prog 206 (sub (bodyOf Tryz.f10) [1, 1, 1, 1, 1]) (finK Tryz.prog Tryz.f10.results.toList R) e w = law13_side_does_s1 R (e 0) (e 3) (e 5) (e 6) (e 7) (e 8) w :=
  segs_eq (l := [(sub (bodyOf Tryz.f10) [1, 1, 1, 1, 1, 0])]) (y := (sub (bodyOf Tryz.f10) [1, 1, 1, 1, 1, 1])) (Y := (fun e w => law13_side_does_s0 R (e 0) (e 5) (e 6) (e 7) w)) (law13_side_does_s0_eq R) (fun e w => by kernel_rfl)
def law13_side_does_s2 (R : Value → World → Prop) (x0 x1 : Value) (w : World) : Prop :=
  newG (Value.cells x1) 45 w fun t3 w =>
  nk x0 fun t15 =>
  fa 2 t15 fun t16 =>
  ldn 8 t16 w fun t17 =>
  newG (zc Tryz.prog 39) 39 w fun t7 w =>
  stn 8 t7 t17 w fun w =>
  fa 0 t3 fun t18 =>
  ld1 t18 w fun t19 =>
  qG Tryz.prog (bq .eql 3 (.tmp 19) (.const (.int .i64 1)) t19 (.int .i64 1)) w fun t29 =>
  bV t29
  (nk x0 fun t32 =>
  fa 1 t32 fun t33 =>
  ld1 t33 w fun t34 =>
  callG Tryz.prog 19 #[t34] w fun t35 w =>
  qG Tryz.prog (Instr.extract t35 0) w fun t36 =>
  qG Tryz.prog (Instr.extract t35 1) w fun t37 =>
  nk x0 fun t40 =>
  fa 2 t40 fun t41 =>
  ldn 8 t41 w fun t42 =>
  callG Tryz.prog 30 #[t42] w fun t43 w =>
  qG Tryz.prog (Instr.extract t43 0) w fun t44 =>
  qG Tryz.prog (Instr.extract t43 1) w fun t45 =>
  qG Tryz.prog (Instr.extract t43 2) w fun t46 =>
  newG (zc Tryz.prog 39) 39 w fun t11 w =>
  stn 8 t11 t44 w fun w =>
  ldn 8 t11 w fun t47 =>
  stn 8 t7 t47 w fun w =>
  qG Tryz.prog (bq .neq 24 (.tmp 50) (.const (.int .i64 30)) t37 (.int .i64 30)) w fun t51 =>
  bV t51
  (qG Tryz.prog (bq .neq 3 (.tmp 53) (.tmp 54) t36 t45) w fun t55 =>
  bV t55
  (R (.bool false) w)
  (law13_side_does_s1 R x0 t3 t37 t46 t7 (.bool false) w))
  (law13_side_does_s1 R x0 t3 t37 t46 t7 (.bool false) w))
  (qG Tryz.prog (bq .eql 3 (.tmp 19) (.const (.int .i64 2)) t19 (.int .i64 2)) w fun t58 =>
  bV t58
  (nk x0 fun t60 =>
  fa 1 t60 fun t61 =>
  ld1 t61 (World.drew w) fun t62 =>
  fa 1 t3 fun t63 =>
  ld1 t63 (World.drew w) fun t64 =>
  callG Tryz.prog 31 #[t62, t64] (World.drew w) fun t65 w =>
  nk x0 fun t68 =>
  fa 2 t68 fun t69 =>
  ldn 8 t69 (World.drew w) fun t70 =>
  fa 1 t3 fun t71 =>
  ld1 t71 (World.drew w) fun t72 =>
  callG Tryz.prog 32 #[t70, t72] (World.drew w) fun t73 w =>
  qG Tryz.prog (Instr.extract t73 0) w fun t74 =>
  qG Tryz.prog (Instr.extract t73 1) w fun t75 =>
  stn 8 t7 t74 w fun w =>
  stb Tryz.prog (Instr.extract t73 1) t75 w ∧
  law13_side_does_s1 R x0 t3 t65 t75 t7 (.bool false) w)
  (qG Tryz.prog (bq .eql 3 (.tmp 19) (.const (.int .i64 3)) t19 (.int .i64 3)) w fun t77 =>
  bV t77
  (nk x0 fun t79 =>
  fa 1 t79 fun t80 =>
  ld1 t80 (World.drew w) fun t81 =>
  fa 1 t3 fun t82 =>
  ld1 t82 (World.drew w) fun t83 =>
  fa 3 t3 fun t84 =>
  ld1 t84 (World.drew w) fun t85 =>
  callG Tryz.prog 21 #[t85] (World.drew w) fun t86 w =>
  ld1 t82 w (fun u => u = t83) ∧
  ld1 t80 w (fun u => u = t81) ∧
  callG Tryz.prog 20 #[t81, t83, t86] w fun t87 w =>
  nk x0 fun t90 =>
  fa 2 t90 fun t91 =>
  ldn 8 t91 (World.drew w) fun t92 =>
  fa 1 t3 fun t93 =>
  ld1 t93 (World.drew w) fun t94 =>
  fa 3 t3 fun t95 =>
  ld1 t95 (World.drew w) fun t96 =>
  callG Tryz.prog 21 #[t96] (World.drew w) fun t97 w =>
  ld1 t93 w (fun u => u = t94) ∧
  ldn 8 t91 w (fun u => u = t92) ∧
  callG Tryz.prog 33 #[t92, t94, t97] w fun t98 w =>
  qG Tryz.prog (Instr.extract t98 0) w fun t99 =>
  qG Tryz.prog (Instr.extract t98 1) w fun t100 =>
  stn 8 t7 t99 w fun w =>
  stb Tryz.prog (Instr.extract t98 1) t100 w ∧
  law13_side_does_s1 R x0 t3 t87 t100 t7 (.bool false) w)
  (qG Tryz.prog (bq .eql 3 (.tmp 19) (.const (.int .i64 4)) t19 (.int .i64 4)) w fun t102 =>
  bV t102
  (nk x0 fun t104 =>
  fa 1 t104 fun t105 =>
  ld1 t105 (World.drew w) fun t106 =>
  fa 4 t3 fun t107 =>
  ld1 t107 (World.drew w) fun t108 =>
  fa 1 t3 fun t109 =>
  ld1 t109 (World.drew w) fun t110 =>
  callG Tryz.prog 22 #[t106, t108, t110] (World.drew w) fun t111 w =>
  nk x0 fun t114 =>
  fa 2 t114 fun t115 =>
  ldn 8 t115 (World.drew w) fun t116 =>
  fa 4 t3 fun t117 =>
  ld1 t117 (World.drew w) fun t118 =>
  fa 1 t3 fun t119 =>
  ld1 t119 (World.drew w) fun t120 =>
  callG Tryz.prog 34 #[t116, t118, t120] (World.drew w) fun t121 w =>
  qG Tryz.prog (Instr.extract t121 0) w fun t122 =>
  qG Tryz.prog (Instr.extract t121 1) w fun t123 =>
  stn 8 t7 t122 w fun w =>
  stb Tryz.prog (Instr.extract t121 1) t123 w ∧
  law13_side_does_s1 R x0 t3 t111 t123 t7 (.bool false) w)
  (qG Tryz.prog (bq .eql 3 (.tmp 19) (.const (.int .i64 5)) t19 (.int .i64 5)) w fun t125 =>
  bV t125
  (nk x0 fun t127 =>
  fa 1 t127 fun t128 =>
  ld1 t128 (World.drew w) fun t129 =>
  fa 4 t3 fun t130 =>
  ld1 t130 (World.drew w) fun t131 =>
  callG Tryz.prog 35 #[t129, t131] (World.drew w) fun t132 w =>
  nk x0 fun t135 =>
  fa 2 t135 fun t136 =>
  ldn 8 t136 (World.drew w) fun t137 =>
  fa 4 t3 fun t138 =>
  ld1 t138 (World.drew w) fun t139 =>
  callG Tryz.prog 36 #[t137, t139] (World.drew w) fun t140 w =>
  qG Tryz.prog (Instr.extract t140 0) w fun t141 =>
  qG Tryz.prog (Instr.extract t140 1) w fun t142 =>
  stn 8 t7 t141 w fun w =>
  stb Tryz.prog (Instr.extract t140 1) t142 w ∧
  law13_side_does_s1 R x0 t3 t132 t142 t7 (.bool false) w)
  (qG Tryz.prog (bq .eql 3 (.tmp 19) (.const (.int .i64 6)) t19 (.int .i64 6)) w fun t144 =>
  bV t144
  (nk x0 fun t146 =>
  fa 1 t146 fun t147 =>
  ld1 t147 w fun t148 =>
  callG Tryz.prog 23 #[t148] w fun t149 w =>
  nk x0 fun t152 =>
  fa 2 t152 fun t153 =>
  ldn 8 t153 w fun t154 =>
  callG Tryz.prog 37 #[t154] w fun t155 w =>
  qG Tryz.prog (Instr.extract t155 0) w fun t156 =>
  qG Tryz.prog (Instr.extract t155 1) w fun t157 =>
  stn 8 t7 t156 w fun w =>
  law13_side_does_s1 R x0 t3 t149 t157 t7 (.bool true) w)
  (qG Tryz.prog (bq .eql 3 (.tmp 19) (.const (.int .i64 7)) t19 (.int .i64 7)) w fun t159 =>
  bV t159
  (nk x0 fun t161 =>
  fa 1 t161 fun t162 =>
  ld1 t162 w fun t163 =>
  callG Tryz.prog 38 #[t163] w fun t164 w =>
  nk x0 fun t166 =>
  fa 2 t166 fun t167 =>
  ldn 8 t167 w fun t168 =>
  callG Tryz.prog 39 #[t168] w fun t169 w =>
  stn 8 t7 t169 w fun w =>
  law13_side_does_s1 R x0 t3 t164 (.int .i64 0) t7 (.bool false) w)
  (qG Tryz.prog (bq .eql 3 (.tmp 19) (.const (.int .i64 8)) t19 (.int .i64 8)) w fun t171 =>
  bV t171
  (nk x0 fun t173 =>
  fa 0 t173 fun t174 =>
  ld1 t174 (World.drew w) fun t175 =>
  fa 2 t3 fun t176 =>
  ld1 t176 (World.drew w) fun t177 =>
  callG Tryz.prog 40 #[t175, t177] (World.drew w) fun t178 w =>
  qG Tryz.prog (bq .eql 24 (.tmp 178) (.const (.int .i64 0)) t178 (.int .i64 0)) w fun t179 =>
  R t179 w)
  (fa 5 t3 fun t21 =>
  ld1 t21 (World.drew w) fun t22 =>
  nk x0 fun t24 =>
  fa 2 t24 fun t25 =>
  ldn 8 t25 (World.drew w) fun t26 =>
  callG Tryz.prog 41 #[x0, t22, t26, (.bool false)] (World.drew w) fun t27 w =>
  R t27 w))))))))
theorem law13_side_does_s2_eq (R : Value → World → Prop) : ∀ e w, lift Tryz.prog 206 (bodyOf Tryz.f10) (finK Tryz.prog Tryz.f10.results.toList R) e w = law13_side_does_s2 R (e 0) (e 1) w :=
  segs_eq (l := [(sub (bodyOf Tryz.f10) [0]), (sub (bodyOf Tryz.f10) [1, 0]), (sub (bodyOf Tryz.f10) [1, 1, 0]), (sub (bodyOf Tryz.f10) [1, 1, 1, 0]), (sub (bodyOf Tryz.f10) [1, 1, 1, 1, 0])]) (y := (sub (bodyOf Tryz.f10) [1, 1, 1, 1, 1])) (Y := (fun e w => law13_side_does_s1 R (e 0) (e 3) (e 5) (e 6) (e 7) (e 8) w)) (law13_side_does_s1_eq R) (fun e w => by kernel_rfl)
def law13_side_does (R : Value → World → Prop) (x0 x1 : Value) (w : World) : Prop := law13_side_does_s2 R x0 x1 w
theorem law13_side_does_call {R : Value → World → Prop} {x0 x1 : Value} {w : World} (h : law13_side_does R x0 x1 w) : callG Tryz.prog 10 #[x0, x1] w R :=
  calls_lift_eq Tryz.mixed Tryz.func10 (args := [x0, x1]) rfl rfl rfl rfl ((law13_side_does_s2_eq R) (envOf [x0, x1]) w) (by kernel_rfl) h
/-! quayside/quaysidelaw13.SpacePlays -/
def law13_SpacePlays_s0 (R : Value → World → Prop) (w : World) : Prop :=
  callG Tryz.prog 9 #[] w fun t64 w =>
  R t64 w
theorem law13_SpacePlays_s0_eq (R : Value → World → Prop) : ∀ e w, lift Tryz.prog 65 (sub (bodyOf Tryz.f3) [1, 1, 1, 1, 1, 1]) (finK Tryz.prog Tryz.f3.results.toList R) e w = law13_SpacePlays_s0 R w := fun e w => by kernel_rfl
def law13_SpacePlays_s1 (R : Value → World → Prop) (N1 : List Value → World → Prop) (x0 x7 x8 : Value) (w : World) : Prop :=
  ia 6 x0 x8 fun t51 =>
  fa 4 t51 fun t52 =>
  ld1 t52 w fun t53 =>
  lenS t53 fun t54 =>
  qG Tryz.prog (bq .gtr 3 (.tmp 54) (.const (.int .i64 20)) t54 (.int .i64 20)) w fun t55 =>
  bV t55
  (callG Tryz.prog 9 #[] w fun t56 w =>
  R t56 w)
  (ia 6 x0 x8 fun t60 =>
  ldn 6 t60 w fun t61 =>
  callG Tryz.prog 10 #[x7, t61] w fun t62 w =>
  qG Tryz.prog (Op.unary .not t62) w fun t63 =>
  bV t63
  (R (.bool false) w)
  (qG Tryz.prog (bq .add 3 (.tmp 47) (.const (.int .i64 1)) x8 (.int .i64 1)) w fun t48 =>
  N1 [x0, x7, t48] w))
theorem law13_SpacePlays_s1_eq (R : Value → World → Prop) (N1 : List Value → World → Prop) : ∀ e w, lift Tryz.prog 65 (sub (bodyOf Tryz.f3) [1, 1, 1, 1, 1, 0, 1, 0, 0, 1]) (seqK (fun e w => N1 [e 0, e 7, e 8] w) (blockK 0 (seqK (fun e w => law13_SpacePlays_s0 R  w) (finK Tryz.prog Tryz.f3.results.toList R)))) e w = law13_SpacePlays_s1 R N1 (e 0) (e 7) (e 8) w := fun e w => by kernel_rfl
def law13_SpacePlays_s2 (R : Value → World → Prop) (N1 : List Value → World → Prop) (x0 x7 x8 : Value) (w : World) : Prop :=
  lenL x0 fun t41 =>
  qG Tryz.prog (bq .lss 3 (.tmp 39) (.tmp 41) x8 t41) w fun t42 =>
  bV t42
  (qG Tryz.prog (bq .lss 3 (.tmp 44) (.const (.int .i64 50)) x8 (.int .i64 50)) w fun t45 =>
  bV t45
  (law13_SpacePlays_s1 R N1 x0 x7 x8 w)
  (law13_SpacePlays_s0 R  w))
  (law13_SpacePlays_s0 R  w)
theorem law13_SpacePlays_s2_eq (R : Value → World → Prop) (N1 : List Value → World → Prop) : ∀ e w, lift Tryz.prog 65 (sub (bodyOf Tryz.f3) [1, 1, 1, 1, 1, 0, 1, 0, 0]) (seqK (fun e w => N1 [e 0, e 7, e 8] w) (blockK 0 (seqK (fun e w => law13_SpacePlays_s0 R  w) (finK Tryz.prog Tryz.f3.results.toList R)))) e w = law13_SpacePlays_s2 R N1 (e 0) (e 7) (e 8) w :=
  segs_eq (l := [(sub (bodyOf Tryz.f3) [1, 1, 1, 1, 1, 0, 1, 0, 0, 0])]) (y := (sub (bodyOf Tryz.f3) [1, 1, 1, 1, 1, 0, 1, 0, 0, 1])) (Y := (fun e w => law13_SpacePlays_s1 R N1 (e 0) (e 7) (e 8) w)) (law13_SpacePlays_s1_eq R N1) (fun e w => by kernel_rfl)
def law13_SpacePlays_L3F (R : Value → World → Prop) (N1 : List Value → World → Prop) (xs : List Value) (w : World) : Prop :=
  match xs with
  | [x0, x7, x8] => law13_SpacePlays_s2 R N1 x0 x7 x8 w
  | _ => False
def law13_SpacePlays_L3 (R : Value → World → Prop) (x0 x7 x8 : Value) (w : World) : Prop :=
  ∃ m, loopV (law13_SpacePlays_L3F R) m [x0, x7, x8] w
theorem law13_SpacePlays_L3_eq (R : Value → World → Prop) : ∀ e w, lift Tryz.prog 65 (sub (bodyOf Tryz.f3) [1, 1, 1, 1, 1, 0, 1, 0]) (blockK 0 (seqK (fun e w => law13_SpacePlays_s0 R  w) (finK Tryz.prog Tryz.f3.results.toList R))) e w = law13_SpacePlays_L3 R (e 0) (e 7) (e 8) w := loop_seg (F := law13_SpacePlays_L3F R) (sel := fun e => [e 0, e 7, e 8]) fun N1 => (law13_SpacePlays_s2_eq R N1)
def law13_SpacePlays_s4 (R : Value → World → Prop) (x0 x7 : Value) (w : World) : Prop :=
  law13_SpacePlays_L3 R x0 x7 (.int .i64 0) w
theorem law13_SpacePlays_s4_eq (R : Value → World → Prop) : ∀ e w, lift Tryz.prog 65 (sub (bodyOf Tryz.f3) [1, 1, 1, 1, 1, 0]) (seqK (fun e w => law13_SpacePlays_s0 R  w) (finK Tryz.prog Tryz.f3.results.toList R)) e w = law13_SpacePlays_s4 R (e 0) (e 7) w :=
  segs_eq (l := [(sub (bodyOf Tryz.f3) [1, 1, 1, 1, 1, 0, 0])]) (y := (sub (bodyOf Tryz.f3) [1, 1, 1, 1, 1, 0, 1])) (Y := (fun e w => law13_SpacePlays_L3 R (e 0) (e 7) (e 8) w)) (law13_SpacePlays_L3_eq R) (fun e w => by kernel_rfl)
def law13_SpacePlays_s5 (R : Value → World → Prop) (x0 x3 x5 : Value) (w : World) : Prop :=
  callG Tryz.prog 8 #[(.int .i64 9)] w fun t36 w =>
  bld [(0, 1), (1, 1), (2, 8)] (zc Tryz.prog 42) #[(0, x3), (1, x5), (2, t36)] fun t37 =>
  newG (Value.cells t37) 42 w fun t38 w =>
  law13_SpacePlays_s4 R x0 t38 w
theorem law13_SpacePlays_s5_eq (R : Value → World → Prop) : ∀ e w, lift Tryz.prog 65 (sub (bodyOf Tryz.f3) [1, 1, 1, 1]) (finK Tryz.prog Tryz.f3.results.toList R) e w = law13_SpacePlays_s5 R (e 0) (e 3) (e 5) w :=
  segs_eq (l := [(sub (bodyOf Tryz.f3) [1, 1, 1, 1, 0])]) (y := (sub (bodyOf Tryz.f3) [1, 1, 1, 1, 1])) (Y := (fun e w => law13_SpacePlays_s4 R (e 0) (e 7) w)) (seq_seg (x := (sub (bodyOf Tryz.f3) [1, 1, 1, 1, 1, 0])) (y := (sub (bodyOf Tryz.f3) [1, 1, 1, 1, 1, 1])) (law13_SpacePlays_s0_eq R) (law13_SpacePlays_s4_eq R)) (fun e w => by kernel_rfl)
def law13_SpacePlays_s6 (R : Value → World → Prop) (x0 : Value) (w : World) : Prop :=
  callG Tryz.prog 4 #[(.int .i64 100)] w fun t10 w =>
  qG Tryz.prog (Instr.extract t10 0) w fun t11 =>
  qG Tryz.prog (Instr.extract t10 1) w fun t12 =>
  callG Tryz.prog 5 #[t11, (.int .i64 3), (.int .i64 99)] w fun t15 w =>
  qG Tryz.prog (Instr.extract t15 0) w fun t16 =>
  qG Tryz.prog (Instr.extract t15 1) w fun t17 =>
  qG Tryz.prog (bq .neq 24 (.tmp 18) (.const (.int .i64 0)) t12 (.int .i64 0)) w fun t19 =>
  bV t19
  (R (.bool false) w)
  (qG Tryz.prog (bq .neq 24 (.tmp 21) (.const (.int .i64 0)) t17 (.int .i64 0)) w fun t22 =>
  bV t22
  (R (.bool false) w)
  (qG Tryz.prog (bq .eql 27 (.tmp 25) (.const (.pointer none)) t16 (.pointer none)) w fun t26 =>
  bV t26
  (R (.bool false) w)
  (callG Tryz.prog 6 #[t16] w fun t30 w =>
  callG Tryz.prog 7 #[(.int .i64 96)] w fun t31 w =>
  qG Tryz.prog (bq .neq 3 (.tmp 30) (.tmp 31) t30 t31) w fun t32 =>
  bV t32
  (R (.bool false) w)
  (law13_SpacePlays_s5 R x0 t11 t16 w))))
theorem law13_SpacePlays_s6_eq (R : Value → World → Prop) : ∀ e w, lift Tryz.prog 65 (bodyOf Tryz.f3) (finK Tryz.prog Tryz.f3.results.toList R) e w = law13_SpacePlays_s6 R (e 0) w :=
  segs_eq (l := [(sub (bodyOf Tryz.f3) [0]), (sub (bodyOf Tryz.f3) [1, 0]), (sub (bodyOf Tryz.f3) [1, 1, 0]), (sub (bodyOf Tryz.f3) [1, 1, 1, 0])]) (y := (sub (bodyOf Tryz.f3) [1, 1, 1, 1])) (Y := (fun e w => law13_SpacePlays_s5 R (e 0) (e 3) (e 5) w)) (law13_SpacePlays_s5_eq R) (fun e w => by kernel_rfl)
def law13_SpacePlays (R : Value → World → Prop) (x0 : Value) (w : World) : Prop := law13_SpacePlays_s6 R x0 w
theorem law13_SpacePlays_call {R : Value → World → Prop} {x0 : Value} {w : World} (h : law13_SpacePlays R x0 w) : callG Tryz.prog 3 #[x0] w R :=
  calls_lift_eq Tryz.mixed Tryz.func3 (args := [x0]) rfl rfl rfl rfl ((law13_SpacePlays_s6_eq R) (envOf [x0]) w) (by kernel_rfl) h
end Go.Proofs

/- Layer 13: a page of one byte; what must come, whatever the arguments are. -/
set_option maxRecDepth 100000
set_option linter.unusedVariables false
set_option linter.unusedSimpArgs false
namespace Go.Proofs
open Go Go.Q
section
variable {w w' : World} {R : Value → World → Prop}
theorem filled_spec (c : UInt8) (hR : ∀ w', Kp [] w w' → R (.string (str (List.replicate 256 c))) w') : callG Tryz.prog 21 #[.int .u8 c.toNat] w R := by
  refine law13_filled_call ?_
  unfold law13_filled law13_filled_s4
  have hz : rep (zc Tryz.prog 5) (256 * 1) = arC [] (List.replicate 256 0) [] := by kernel_rfl
  simp only [mkG]
  refine ⟨by decide, ?_⟩
  rw [show (256 : Int).toNat = 256 from rfl, hz]
  generalize hw1 : w.alloc (.cells (arC [] (List.replicate 256 0) []) 5) = w1
  have hb : w1.heap[w.heap.size]? = some (.cells (arC [] (List.replicate 256 0) []) 5) := by rw [← hw1]; exact heap_new
  have k1 : Kp [] w w1 := by rw [← hw1]; exact (Kp.refl [] w).alloc _
  unfold law13_filled_s3 law13_filled_L2
  refine loop_inv (fun n xs w' => ∃ k, k ≤ 256 ∧ n = 256 - k ∧ xs = [.int .u8 (c.toNat : Nat), .slice (some ⟨w.heap.size, 0, none⟩) 256 256, .int .i64 (k : Nat)] ∧ w'.heap[w.heap.size]? = some (.cells (arC [] (List.replicate k c ++ List.replicate (256 - k) 0) []) 5) ∧ Kp [] w w') ?_ (m := 256) ⟨0, by omega, rfl, rfl, hb, k1⟩
  rintro n N xs w' ⟨k, hk, rfl, rfl, hb', hk'⟩ hN
  unfold law13_filled_L2F law13_filled_b1
  dsimp only
  simp only [bq_lss, bV_b, decide_eq_true_eq, decide_eq_false_iff_not]
  have e1 : IntKind.i64.wrap ((k : Int) + 1) = ((k + 1 : Nat) : Int) := by rw [w64 (by omega) (by omega)]; simp
  have hlen : (List.replicate k c ++ List.replicate (256 - k) (0 : UInt8)).length = 256 := by simp; omega
  refine ⟨fun hlt => ?_, fun hge => ?_⟩
  · have hlt : k < 256 := by omega
    have hia : ∀ K : Value → Prop, ia 1 (.slice (some ⟨w.heap.size, 0, none⟩) 256 256) (.int .i64 (k : Nat)) K = K (.pointer (some ⟨w.heap.size, 0 + k * 1, none⟩)) := fun K => by
      simp only [ia, Int.toNat_natCast, add_mk]
      exact propext ⟨fun h => h.2, fun h => ⟨⟨by omega, by omega⟩, h⟩⟩
    rw [hia, ar_st hb' (by rw [hlen]; omega) (by simp) c]
    simp only [bq_add, e1]
    refine hN (256 - (k + 1)) _ _ (by omega) ⟨k + 1, by omega, rfl, rfl, ?_, hk'.setBlk (.inr (Nat.le_refl _)) _⟩
    rw [heap_self (live_of hb')]
    have : (List.replicate k c ++ List.replicate (256 - k) (0 : UInt8)).set k c = List.replicate (k + 1) c ++ List.replicate (256 - (k + 1)) 0 := by
      rw [show 256 - k = (256 - (k + 1)) + 1 by omega, List.replicate_succ, set_seg (by simp), List.replicate_succ' (n := k), List.append_assoc]
      rfl
    rw [this]
  · have : k = 256 := by omega
    subst this
    unfold law13_filled_s0
    rw [ar_text hb' (lo := 0) (n := 256) (by rw [hlen]; omega) (.inl (by simp))]
    have : ((List.replicate 256 c ++ List.replicate (256 - 256) (0 : UInt8)).drop 0).take 256 = List.replicate 256 c := by simp
    rw [this]
    exact hR w' hk'
theorem pages_ref {n : Nat} (hn : n < 2 ^ 40) (h : 32 ≤ n) (hR : R (.int .i64 (min (n / 8 - 3) 500 : Nat)) w) : callG Tryz.prog 7 #[.int .i64 (n : Nat)] w R := by
  refine ref13_Pages_call ?_
  unfold ref13_Pages ref13_Pages_s0
  have e1 : ((n : Int) / 8) = ((n / 8 : Nat) : Int) := by simp
  have e2 : IntKind.i64.wrap (((n / 8 : Nat) : Int) - 3) = ((n / 8 - 3 : Nat) : Int) := by rw [w64 (by omega) (by omega)]; omega
  rw [quo_of (by omega) (by omega), e1, wrap_nat64 (by omega)]
  simp only [bq_sub, e2]
  rw [qG_of run_min]
  have : (min ((n / 8 - 3 : Nat) : Int) 500) = ((min (n / 8 - 3) 500 : Nat) : Int) := by omega
  rw [this]
  exact hR
/-! ### bits -/
/-- just the bits from lo + 1 to hi -/
def Bits (u : List UInt8) (lo hi : Nat) : Prop := u.length = 63 ∧ ∀ n : Int, hasU u n = decide ((lo : Int) < n ∧ n ≤ hi)
theorem bits_zero : Bits z63 0 0 := ⟨by simp [z63], fun n => by
  unfold hasU
  rw [show bitU z63 n.toNat = false from bit_zero]
  rw [decide_eq_false (by simp), decide_eq_false (by omega)]⟩
theorem has_set {u : List UInt8} (hu : u.length = 63) {k : Nat} (hk : k < 504) (h1 : 1 ≤ k) (is : Bool) (n : Int) : hasU (setB u k is) n = if n = k then is else hasU u n := by
  unfold hasU
  rw [bit_set (by omega)]
  by_cases h : n = k
  · subst h; simp; cases is <;> simp; omega
  · rw [if_neg h]
    by_cases hn : 1 ≤ n
    · rw [if_neg (by omega)]
    · simp [hn]
theorem Bits.add {u : List UInt8} {lo hi : Nat} (h : Bits u lo hi) (h1 : lo ≤ hi) (hk : hi + 1 < 504) : Bits (setB u (hi + 1) true) lo (hi + 1) := by
  refine ⟨by rw [setB_len]; exact h.1, fun n => ?_⟩
  rw [has_set h.1 hk (by omega)]
  by_cases hn : n = ((hi + 1 : Nat) : Int)
  · rw [if_pos hn]; symm; rw [decide_eq_true_eq]; omega
  · rw [if_neg hn, h.2]
    exact decide_eq_decide.2 (by omega)
theorem Bits.drop {u : List UInt8} {lo hi : Nat} (h : Bits u lo hi) (h1 : lo < hi) (hk : hi < 504) : Bits (setB u (lo + 1) false) (lo + 1) hi := by
  refine ⟨by rw [setB_len]; exact h.1, fun n => ?_⟩
  rw [has_set h.1 (by omega) (by omega)]
  by_cases hn : n = ((lo + 1 : Nat) : Int)
  · rw [if_pos hn]; symm; rw [decide_eq_false_iff_not]; omega
  · rw [if_neg hn, h.2]
    exact decide_eq_decide.2 (by omega)
theorem Bits.none {u : List UInt8} {lo hi : Nat} (h : Bits u lo hi) (he : hi ≤ lo) : Bits u 0 0 := ⟨h.1, fun n => by rw [h.2]; exact decide_eq_decide.2 (by omega)⟩
theorem Bits.used {u : List UInt8} {hi : Nat} (h : Bits u 0 hi) : ∀ p, usedC u p = min hi p
  | 0 => by simp [usedC]
  | p + 1 => by
    rw [usedC_succ, Bits.used h p, h.2]
    by_cases hp : p < hi
    · rw [if_pos (by rw [decide_eq_true_eq]; omega)]; omega
    · rw [if_neg (by rw [decide_eq_true_eq]; omega)]; omega
theorem Bits.inN {s : SP} {lo hi : Nat} (h : Bits s.nu lo hi) (hp : hi ≤ s.pages) (n : Int) : inN13 s n = decide ((lo : Int) < n ∧ n ≤ hi) := by
  unfold inN13
  rw [h.2]
  exact decide_eq_decide.2 (by rw [decide_eq_true_eq]; omega)
end
end Go.Proofs

