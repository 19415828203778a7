/- Part of the proof (text QPlays): an engine, rules or contracts of the functions; it states nothing of the claim by itself. -/
import Derived.Test.YtnmooeoajgckmaaQRef5
import Derived.Test.YtnmooeoajgckmaaQArgs
/- DiskPlays: both disks go on alike. -/
set_option linter.unusedVariables false
set_option linter.unusedSimpArgs false
namespace Go.Proofs
open Go Go.Q
theorem syn_write {d : DK} (h : Syn d) (at_ : Int) (s : List UInt8) : Syn (d.write at_ s).1 ∧ (d.write at_ s).1.l.length ≤ d.l.length + 1 := by
  obtain ⟨b1, b2⟩ := burns_same d
  have b3 : d.burns.1.now = d.now := by unfold DK.burns; split <;> rfl
  unfold DK.write
  split
  · split
    · refine ⟨?_, by simp⟩
      show d.now.set _ _ = applyAll d.burns.1.sure (d.l ++ _)
      rw [b1, applyAll_snoc, ← h]
    · exact ⟨by show d.burns.1.now = applyAll d.burns.1.sure d.burns.1.l; rw [b1, b2, b3]; exact h, by show d.burns.1.l.length ≤ _; rw [b2]; omega⟩
  · exact ⟨h, Nat.le_succ _⟩
theorem syn_flush {d : DK} (h : Syn d) : Syn d.flush.1 ∧ d.flush.1.l.length ≤ d.l.length := by
  obtain ⟨b1, b2⟩ := burns_same d
  have b3 : d.burns.1.now = d.now := by unfold DK.burns; split <;> rfl
  unfold DK.flush
  split
  · exact ⟨by show d.burns.1.now = applyAll (applyAll d.sure d.l) []; rw [b3, h]; rfl, by simp⟩
  · exact ⟨by show d.burns.1.now = applyAll d.burns.1.sure d.burns.1.l; rw [b1, b2, b3]; exact h, by show d.burns.1.l.length ≤ _; rw [b2]; omega⟩
theorem syn_crash (d : DK) (ks : List Int) : Syn (d.crash ks) ∧ (d.crash ks).l.length = 0 := ⟨rfl, rfl⟩
/-- both disks, the document's in a variable at 'a' -/
structure PlayAt (w0 w : World) (b a : Nat) (d : DK) (S SR : List Nat) (sv lv : Value) : Prop where
  own : Own w0 w b d S
  ref : RefAt w (.agg (qc sv lv d)) d SR
  var : w.heap[a]? = some (.cells (qc sv lv d) 39)
  apart : ∀ y ∈ SR, y ∉ S
  aS : a ∉ S
  aR : a ∉ SR
  a0 : w0.heap.size ≤ a
  syn : Syn d
theorem RefAt.lt {w : World} {x : Value} {d : DK} {S : List Nat} (h : RefAt w x d S) : ∀ y ∈ S, y < w.heap.size := by
  obtain ⟨sv, lv, SS, SL, h1, h2, h3, rfl⟩ := h
  intro y hy
  rcases List.mem_append.1 hy with h | h
  · exact h2.lt y h
  · exact h3.lt y h
theorem RefAt.form {w : World} {x : Value} {d : DK} {S : List Nat} (h : RefAt w x d S) : ∃ sv lv, x = .agg (qc sv lv d) ∧ one sv = true ∧ one lv = true := by
  obtain ⟨sv, lv, SS, SL, h1, h2, h3, rfl⟩ := h
  exact ⟨sv, lv, h1, rows_one h2, rows_one h3⟩
theorem PlayAt.keep {w0 w w' : World} {b a : Nat} {d : DK} {S SR : List Nat} {sv lv : Value} (h : PlayAt w0 w b a d S SR sv lv) (hk : Kp [] w w') : PlayAt w0 w' b a d S SR sv lv :=
  ⟨h.own.keep hk, h.ref.keep hk (by simp), hk.get h.var (by simp), h.apart, h.aS, h.aR, h.a0, h.syn⟩
/-- a call of the disk, then one of the document's, whose disk is laid into the variable -/
theorem PlayAt.next {w0 w w1 w2 : World} {b a : Nat} {d d' : DK} {S SR S' SR' : List Nat} {sv lv sv' lv' : Value} (h : PlayAt w0 w b a d S SR sv lv) (o : Own w0 w1 b d' S') (hk : Kp S w w1) (hS : ∀ y ∈ S', y ∈ S ∨ w.heap.size ≤ y)
    (r : RefAt w2 (.agg (qc sv' lv' d')) d' SR') (hk2 : Kp [] w1 w2) (hR : ∀ y ∈ SR', y ∈ SR ∨ w1.heap.size ≤ y) (hs : Syn d') : PlayAt w0 (setBlk w2 a (.cells (qc sv' lv' d') 39)) b a d' S' SR' sv' lv' := by
  have ha : a < w.heap.size := lt_of_blk h.var
  have hsz := hk.size
  have hsz2 := hk2.size
  have hSa : a ∉ S' := fun hm => by rcases hS a hm with h1 | h1; exact h.aS h1; omega
  have hRa : a ∉ SR' := fun hm => by rcases hR a hm with h1 | h1; exact h.aR h1; omega
  have hka : Kp [a] w2 (setBlk w2 a (.cells (qc sv' lv' d') 39)) := (Kp.refl _ w2).setBlk (.inl (by simp)) _
  have hA2 : a < w2.heap.size := by omega
  refine ⟨⟨(o.at_.keep hk2 (by simp)).keep hka fun y hy => by simp; intro hh; exact hSa (hh ▸ hy), (o.kp.trans' hk2).setBlk (.inr h.a0) _, o.new⟩,
    r.keep hka fun y hy => by simp; intro hh; exact hRa (hh ▸ hy), heap_self hA2, ?_, hSa, hRa, h.a0, hs⟩
  intro y hy hyS
  have hlS : y < w1.heap.size := by
    obtain ⟨bs, bn, lv, SL, T, Ts, Tn, rfl, hd⟩ := o.at_
    exact hd.live y hyS
  rcases hR y hy with h1 | h1
  · rcases hS y hyS with h2 | h2
    · exact h.apart y h1 h2
    · have := h.ref.lt y h1; omega
  · omega
/-- a call that came in -/
structure ActIs (w : World) (r : List Value) (kind at_ : Int) (c : UInt8) (s : List UInt8) (kv : Value) (ks : List Int) (SK : List Nat) : Prop where
  row : r = [.int .i64 kind, .int .i64 at_, .int .u8 c.toNat, .string (str s), kv]
  hk : IntsAt w kv ks SK
  lt : ∀ x ∈ SK, x < w.heap.size
  at64 : at_ < 9223372036854775808
  ks64 : ∀ x ∈ ks, -9223372036854775808 ≤ x ∧ x < 9223372036854775808
theorem zc43 : zc Try.prog 43 = #[.int .i64 0, .int .i64 0, .int .u8 0, .string ⟨#[]⟩, .slice none 0 0] := by kernel_rfl
section
variable {w0 : World} {b a : Nat} {R : Value → World → Prop} {N : List Value → World → Prop} {x1 : Value} {i : Nat}
/-- what is asked behind each call -/
theorem plays_tail (hR : ∀ w', Kp [] w0 w' → R (.bool true) w') (hi : i < 80) {w : World} {d : DK} {S SR : List Nat} {sv lv : Value} (p : PlayAt w0 w b a d S SR sv lv) (g : Int)
    (hN : ∀ w' , PlayAt w0 w' b a d S SR sv lv → N [x1, .pointer (some ⟨b, 0, none⟩), .pointer (some ⟨a, 0, none⟩), .int .i64 ((i + 1 : Nat) : Int)] w') :
    law03_DiskPlays_s2 R N x1 (.pointer (some ⟨b, 0, none⟩)) (.pointer (some ⟨a, 0, none⟩)) (.int .i64 i) (.int .i64 g) (.int .i64 g) w := by
  have hiw : IntKind.i64.wrap ((i : Int) + 1) = ((i + 1 : Nat) : Int) := by rw [w64 (by omega) (by omega)]; simp
  have p1 := p.keep (Kp.refl [] w).drew
  have hv := p1.var
  simp only [qc] at hv
  obtain ⟨sv', lv', SS, SL, hx, hs, hl, _⟩ := p1.ref
  obtain ⟨rfl, rfl⟩ : sv = sv' ∧ lv = lv' := by simpa [qc] using hx
  have hll : ∀ K : Value → Prop, lenL lv K = K (.int .i64 d.l.length) := by intro K; rw [hl.rd.lenL]; simp
  have ok : d.Ok := by obtain ⟨bs, bn, lv, SL, T, Ts, Tn, rfl, hd⟩ := p1.own.at_; exact hd.ok
  have hsl : ∀ K : Value → Prop, lenL sv K = K (.int .i64 d.now.length) := by intro K; rw [hs.rd.lenL]; simp [ok.len]
  unfold law03_DiskPlays_s2
  simp only [heap_drew] at hv
  simp [-getElem?_pos, -Array.getElem?_eq_getElem, -List.length_flatten, List.getElem?_cons_zero, List.getElem?_cons_succ, hv]
  refine Off_spec p1.own.at_ ?_
  simp [-getElem?_pos, -Array.getElem?_eq_getElem, -List.length_flatten, List.getElem?_cons_zero, List.getElem?_cons_succ, hv, hll]
  refine Waits_spec p1.own.at_ ?_
  simp [-getElem?_pos, -Array.getElem?_eq_getElem, -List.length_flatten, List.getElem?_cons_zero, List.getElem?_cons_succ, hv, hll, hsl]
  refine Size_spec p1.own.at_ ?_
  simp [-getElem?_pos, -Array.getElem?_eq_getElem, -List.length_flatten, List.getElem?_cons_zero, List.getElem?_cons_succ, hv, hsl, law03_DiskPlays_s1, hiw]
  exact hN _ p1
theorem st_var {w : World} {sv lv : Value} {d : DK} {old : Array Value} (hv : w.heap[a]? = some (.cells old 39)) (hs : old.size = 4) (h1 : one sv = true) (h2 : one lv = true) {K : World → Prop} :
    stn 4 (.pointer (some ⟨a, 0, none⟩)) (.agg (qc sv lv d)) w K = K (setBlk w a (.cells (qc sv lv d) 39)) := by
  have hall : (qc sv lv d).all Q.one = true := by rw [qc, one4, h1, h2]; rfl
  have hsz : (qc sv lv d).size = 4 := rfl
  rw [stn_p, wrN_mk, hv]
  have hsp : splice old 0 (qc sv lv d) = qc sv lv d := splice_all (by rw [hs, hsz])
  apply propext
  constructor
  · rintro ⟨_, _, hk⟩
    rw [hsp] at hk
    exact hk
  · intro hk
    refine ⟨hsz, ⟨by omega, by rw [okFr0]; trivial, hall⟩, ?_⟩
    rw [hsp]; exact hk
theorem ld_var {w : World} {sv lv : Value} {d : DK} (hv : w.heap[a]? = some (.cells (qc sv lv d) 39)) {K : Value → Prop} : ldn 4 (.pointer (some ⟨a, 0, none⟩)) w K = K (.agg (qc sv lv d)) := by
  have hsz : (qc sv lv d).size = 4 := rfl
  rw [ldn_p, rdN_mk, hv]
  have : (qc sv lv d).extract 0 (0 + 4) = qc sv lv d := rfl
  simp only [this, hsz]
  simp
theorem PlayAt.ok {w : World} {d : DK} {S SR : List Nat} {sv lv : Value} (p : PlayAt w0 w b a d S SR sv lv) : d.Ok := by
  obtain ⟨bs, bn, lv, SL, T, Ts, Tn, rfl, hd⟩ := p.own.at_; exact hd.ok
theorem plays_s3 (hR : ∀ w', Kp [] w0 w' → R (.bool true) w') (hi : i < 80) {w : World} {d : DK} {S SR : List Nat} {sv lv : Value} (p : PlayAt w0 w b a d S SR sv lv) (hl : d.l.length ≤ i)
    {ac : Nat} {kind at_ : Int} {c : Value} {s : Value} {kv : Value} (hac : w.heap[ac]? = some (.cells #[.int .i64 kind, .int .i64 at_, c, s, kv] 43)) (hacS : ac ∉ S)
    (hN : ∀ w' d' S' SR' sv' lv', PlayAt w0 w' b a d' S' SR' sv' lv' → d'.l.length ≤ i + 1 → N [x1, .pointer (some ⟨b, 0, none⟩), .pointer (some ⟨a, 0, none⟩), .int .i64 ((i + 1 : Nat) : Int)] w') (s' : List UInt8) :
    law03_DiskPlays_s3 R N x1 (.pointer (some ⟨b, 0, none⟩)) (.pointer (some ⟨a, 0, none⟩)) (.int .i64 i) (.pointer (some ⟨ac, 0, none⟩)) (.string (str s')) w := by
  unfold law03_DiskPlays_s3
  simp [-getElem?_pos, -Array.getElem?_eq_getElem, -List.length_flatten, List.getElem?_cons_zero, List.getElem?_cons_succ, hac, -ldn_p, -stn_p]
  refine own_write p.own (by omega) at_ s' fun w1 S1 o1 hk1 hS1 => ?_
  have hac1 := hk1.get hac hacS
  have hv1 := hk1.get p.var p.aS
  rw [ld_var hv1]
  simp [-getElem?_pos, -Array.getElem?_eq_getElem, -List.length_flatten, List.getElem?_cons_zero, List.getElem?_cons_succ, hac1, -stn_p]
  refine ref_Write (p.ref.keep hk1 p.apart) p.ok (by omega) at_ s' fun w2 x' SR' r' hk2 hR2 => ?_
  have hv2 := hk2.get hv1 (by simp)
  obtain ⟨sv', lv', rfl, h1, h2⟩ := r'.form
  rw [ex0, ex1, st_var hv2 rfl h1 h2]
  obtain ⟨hs1, hs2⟩ := syn_write p.syn at_ s'
  have p' := p.next o1 hk1 hS1 r' hk2 hR2 hs1
  exact plays_tail hR hi p' _ fun w' hp => hN w' _ _ _ _ _ hp (by omega)
theorem str_nil : (⟨#[]⟩ : ByteArray) = str [] := rfl
theorem str_inj {x y : List UInt8} : (str x = str y) = (x = y) := by
  apply propext
  constructor
  · intro h
    have := congrArg (fun b : ByteArray => b.data.toList) h
    simpa [str] using this
  · intro h; rw [h]
theorem plays_s8 (hR : ∀ w', Kp [] w0 w' → R (.bool true) w') (hi : i < 80) {w : World} {d : DK} {S SR : List Nat} {sv lv : Value} (p : PlayAt w0 w b a d S SR sv lv) (hl : d.l.length ≤ i)
    {r : List Value} {ac : Nat} {kind at_ : Int} {c : UInt8} {s : List UInt8} {kv : Value} {ks : List Int} {SK : List Nat} (act : ActIs w0 r kind at_ c s kv ks SK) (hac : w.heap[ac]? = some (.cells #[.int .i64 kind, .int .i64 at_, .int .u8 c.toNat, .string (str s), kv] 43)) (hacS : ac ∉ S)
    (hN : ∀ w' d' S' SR' sv' lv', PlayAt w0 w' b a d' S' SR' sv' lv' → d'.l.length ≤ i + 1 → N [x1, .pointer (some ⟨b, 0, none⟩), .pointer (some ⟨a, 0, none⟩), .int .i64 ((i + 1 : Nat) : Int)] w') :
    law03_DiskPlays_s8 R N x1 (.pointer (some ⟨b, 0, none⟩)) (.pointer (some ⟨a, 0, none⟩)) (.int .i64 i) (.pointer (some ⟨ac, 0, none⟩)) (.int .i64 0) (.int .i64 0) w := by
  have hks := act.hk.keep p.own.kp (by simp)
  have hdis : ∀ x ∈ SK, x ∉ S := fun x hx hxS => by have := act.lt x hx; have := p.own.new x hxS; omega
  unfold law03_DiskPlays_s8
  simp [-getElem?_pos, -Array.getElem?_eq_getElem, -List.length_flatten, List.getElem?_cons_zero, List.getElem?_cons_succ, hac, law03_DiskPlays_s7, law03_DiskPlays_s6]
  refine ⟨fun h1 => ?_, fun h1 => ?_⟩
  · unfold law03_DiskPlays_s4
    simp [-getElem?_pos, -Array.getElem?_eq_getElem, -List.length_flatten, List.getElem?_cons_zero, List.getElem?_cons_succ, hac, str_nil, str_inj]
    refine ⟨fun he => ?_, fun he => plays_s3 hR hi p hl hac hacS hN s⟩
    refine filled_spec c fun w1 hk1 => ?_
    exact plays_s3 hR hi (p.keep hk1) hl (hk1.get hac (by simp)) hacS hN _
  · unfold law03_DiskPlays_s5
    simp [-getElem?_pos, -Array.getElem?_eq_getElem, -List.length_flatten, List.getElem?_cons_zero, List.getElem?_cons_succ, hac, -ldn_p, -stn_p]
    refine ⟨fun h2 => ?_, fun h2 => ⟨fun h3 => ?_, fun h3 => ⟨fun h4 => ?_, fun h4 => ?_⟩⟩⟩
    · refine Read_spec p.own.at_ at_ ?_
      rw [ex0, ex1, ld_var p.var]
      simp [-getElem?_pos, -Array.getElem?_eq_getElem, -List.length_flatten, List.getElem?_cons_zero, List.getElem?_cons_succ, hac]
      refine ref_Read p.ref p.ok p.syn (by omega) at_ fun w1 hk1 => ?_
      simp [-getElem?_pos, -Array.getElem?_eq_getElem, -List.length_flatten, List.getElem?_cons_zero, List.getElem?_cons_succ, ]
      exact plays_tail hR hi (p.keep hk1) _ fun w' hp => hN w' _ _ _ _ _ hp (by omega)
    · refine own_flush p.own (by omega) fun w1 o1 hk1 => ?_
      have hv1 := hk1.get p.var p.aS
      rw [ld_var hv1]
      refine ref_Flush (p.ref.keep hk1 p.apart) p.ok (by omega) fun w2 x' SR' r' hk2 hR2 => ?_
      have hv2 := hk2.get hv1 (by simp)
      obtain ⟨sv', lv', rfl, h1, h2⟩ := r'.form
      rw [ex0, ex1, st_var hv2 rfl h1 h2]
      obtain ⟨hs1, hs2⟩ := syn_flush p.syn
      have p' := p.next o1 hk1 (fun _ h => .inl h) r' hk2 hR2 hs1
      exact plays_tail hR hi p' _ fun w' hp => hN w' _ _ _ _ _ hp (by omega)
    · refine own_fuse p.own at_ act.at64 fun w1 o1 hk1 => ?_
      have hac1 := hk1.get hac hacS
      have hv1 := hk1.get p.var p.aS
      rw [ld_var hv1]
      simp [-getElem?_pos, -Array.getElem?_eq_getElem, -List.length_flatten, List.getElem?_cons_zero, List.getElem?_cons_succ, hac1, -stn_p]
      refine ref_Fuse (p.ref.keep hk1 p.apart) at_ act.at64 fun w2 x' r' hk2 => ?_
      have hv2 := hk2.get hv1 (by simp)
      obtain ⟨sv', lv', rfl, h1, h2⟩ := r'.form
      rw [st_var hv2 rfl h1 h2]
      have p' := p.next o1 hk1 (fun _ h => .inl h) r' hk2 (fun _ h => .inl h) (show Syn _ from p.syn)
      exact plays_tail hR hi p' _ fun w' hp => hN w' _ _ _ _ _ hp (show d.l.length ≤ i + 1 by omega)
    · refine own_crash p.own (by omega) hks hdis act.ks64 fun w1 o1 hk1 => ?_
      have hac1 := hk1.get hac hacS
      have hv1 := hk1.get p.var p.aS
      rw [ld_var hv1]
      simp [-getElem?_pos, -Array.getElem?_eq_getElem, -List.length_flatten, List.getElem?_cons_zero, List.getElem?_cons_succ, hac1, -stn_p]
      refine ref_Crash (p.ref.keep hk1 p.apart) p.ok (by omega) (hks.keep hk1 hdis) fun w2 x' SR' r' hk2 hR2 => ?_
      have hv2 := hk2.get hv1 (by simp)
      obtain ⟨sv', lv', rfl, h1, h2⟩ := r'.form
      rw [st_var hv2 rfl h1 h2]
      obtain ⟨hs1, hs2⟩ := syn_crash d ks
      have p' := p.next o1 hk1 (fun _ h => .inl h) r' hk2 hR2 hs1
      exact plays_tail hR hi p' _ fun w' hp => hN w' _ _ _ _ _ hp (by omega)
/-- what is told of the calls that came in -/
def ActsAt (w : World) (v : Value) (rows : List (List Value)) (SA : List Nat) : Prop :=
  ArgAt w v 5 rows SA ∧ (∀ x ∈ SA, x < w.heap.size) ∧ ∀ r ∈ rows, ∃ kind at_ c s kv ks SK, ActIs w r kind at_ c s kv ks SK
theorem plays_loop (hR : ∀ w', Kp [] w0 w' → R (.bool true) w') {rows : List (List Value)} {SA : List Nat} (acts : ActsAt w0 x1 rows SA) {w : World} {d : DK} {S SR : List Nat} {sv lv : Value} (p : PlayAt w0 w b a d S SR sv lv) (hl : d.l.length = 0) :
    law03_DiskPlays_L11 R x1 (.pointer (some ⟨b, 0, none⟩)) (.pointer (some ⟨a, 0, none⟩)) (.int .i64 0) w := by
  unfold law03_DiskPlays_L11
  refine loop_inv (fun m xs w => ∃ (i : Nat) (d : DK) (S SR : List Nat) (sv lv : Value), i ≤ 80 ∧ m = 80 - i ∧ xs = [x1, .pointer (some ⟨b, 0, none⟩), .pointer (some ⟨a, 0, none⟩), .int .i64 (i : Nat)] ∧ PlayAt w0 w b a d S SR sv lv ∧ d.l.length ≤ i)
    ?_ (m := 80) ⟨0, d, S, SR, sv, lv, by omega, rfl, rfl, p, by omega⟩
  rintro m N xs w ⟨i, d, S, SR, sv, lv, hi, rfl, rfl, p, hl⟩ hN
  obtain ⟨harg, hlt, hrow⟩ := acts
  have hend : ∀ w', Kp [] w0 w' → law03_DiskPlays_s0 R w' := fun w' hk => by
    unfold law03_DiskPlays_s0
    exact awake_spec fun w'' hk' => hR w'' (hk.trans' hk')
  have harg' := harg.keep p.own.kp (by simp)
  simp only [law03_DiskPlays_L11F, law03_DiskPlays_s10, harg'.lenL, bq_lss, bV_b]
  refine ⟨fun h1 => ⟨fun h2 => ?_, fun _ => hend _ p.own.kp⟩, fun _ => hend _ p.own.kp⟩
  have h1 : i < rows.length := by simpa using h1
  have h2 : i < 80 := by simp at h2; omega
  obtain ⟨kind, at_, c, s, kv, ks, SK, act⟩ := hrow _ (List.getElem_mem h1)
  obtain ⟨bl, o, T, cs, fr, hbl, hheap, hia, hle, hext, hcell⟩ := harg'.at h1
  rw [act.row] at hext
  obtain ⟨w1, hw1⟩ : ∃ w1, w1 = w.alloc (.cells #[.int .i64 kind, .int .i64 at_, .int .u8 c.toNat, .string (str s), kv] 43) := ⟨_, rfl⟩
  have hk1 : Kp [] w w1 := by rw [hw1]; exact (Kp.refl [] w).alloc _
  obtain ⟨ac, hac⟩ : ∃ ac, ac = w.heap.size := ⟨_, rfl⟩
  have hA : w1.heap[ac]? = some (.cells #[.int .i64 kind, .int .i64 at_, .int .u8 c.toNat, .string (str s), kv] 43) := by rw [hw1, hac]; exact heap_new
  have hacS : ac ∉ S := fun hm => by
    have : ac < w.heap.size := by
      obtain ⟨bs, bn, lv, SL, T, Ts, Tn, rfl, hd⟩ := p.own.at_
      exact hd.live ac hm
    omega
  have hkv1 : Q.one kv = true := by
    obtain ⟨ka, kc, hkv⟩ := act.hk.len
    rw [hkv]; rfl
  have hspl : splice #[.int .i64 0, .int .i64 0, .int .u8 0, .string ⟨#[]⟩, .slice none 0 0] 0 #[.int .i64 kind, .int .i64 at_, .int .u8 c.toNat, .string (str s), kv] = #[.int .i64 kind, .int .i64 at_, .int .u8 c.toNat, .string (str s), kv] := rfl
  have hall : ∀ (i : Nat) (x : i < 5), Q.one ([Value.int .i64 kind, .int .i64 at_, .int .u8 c.toNat, .string (str s), kv] : List Value)[i] = true := by
    intro i hi
    match i, hi with
    | 0, _ => rfl
    | 1, _ => rfl
    | 2, _ => rfl
    | 3, _ => rfl
    | 4, _ => exact hkv1
  unfold law03_DiskPlays_s9
  simp [-getElem?_pos, -Array.getElem?_eq_getElem, -List.length_flatten, List.getElem?_cons_zero, List.getElem?_cons_succ, hia, hheap, hle, hext, zc43, heap_new, hspl]
  rw [← hw1, ← hac]
  refine ⟨hall, fun _ => awake_spec fun w' hk' => hR w' ((p.own.kp.trans' hk1).trans' hk'), fun _ => ?_⟩
  exact plays_s8 hR h2 (p.keep hk1) hl act hA hacS fun w' d' S' SR' sv' lv' p' hl' => hN (80 - (i + 1)) _ _ (by omega) ⟨i + 1, d', S', SR', sv', lv', by omega, rfl, rfl, p', hl'⟩
theorem plays_call {n : Int} (hR : ∀ w', Kp [] w0 w' → R (.bool true) w') {rows : List (List Value)} {SA : List Nat} (acts : ActsAt w0 x1 rows SA) : callG Try.prog 4 #[.int .i64 n, x1] w0 R := by
  refine law03_DiskPlays_call ?_
  simp only [law03_DiskPlays, law03_DiskPlays_s14]
  by_cases hn : n < 1 ∨ 4096 < n
  · refine New_bad (by omega) ?_
    simp [-getElem?_pos, -Array.getElem?_eq_getElem, -List.length_flatten, List.getElem?_cons_zero, List.getElem?_cons_succ, -newG_k, -stn_p]
    have hk1 : Kp [] w0 w0 := Kp.refl _ _
    refine ref_New_bad hn fun w2 hk2 => ?_
    rw [ex0, ex1, newG_k]
    obtain ⟨w3, hw3⟩ : ∃ w3, w3 = w2.alloc (.cells (zc Try.prog 39) 39) := ⟨_, rfl⟩
    have hk3 : Kp [] w2 w3 := by rw [hw3]; exact (Kp.refl [] w2).alloc _
    have hA : w3.heap[w2.heap.size]? = some (.cells (zc Try.prog 39) 39) := by rw [hw3]; exact heap_new
    have hlt : w2.heap.size < w3.heap.size := lt_of_blk hA
    rw [← hw3]
    have hq : (#[.slice none 0 0, .slice none 0 0, .int .i64 0, .bool false] : Array Value) = qc (.slice none 0 0) (.slice none 0 0) { sure := [], now := [], l := [], fuse := 0, off := false } := rfl
    rw [hq, st_var hA (by rw [zc39]; rfl) rfl rfl]
    have hk4 : Kp [] w0 (setBlk w3 w2.heap.size (.cells (qc (.slice none 0 0) (.slice none 0 0) { sure := [], now := [], l := [], fuse := 0, off := false }) 39)) :=
      ((hk1.trans' hk2).trans' hk3).setBlk (.inr (by have := (hk1.trans' hk2).size; exact this)) _
    simp [-getElem?_pos, -Array.getElem?_eq_getElem, -List.length_flatten, List.getElem?_cons_zero, List.getElem?_cons_succ, law03_DiskPlays_s13]
    exact awake_spec fun w' hk' => hR w' (hk4.trans' hk')
  · obtain ⟨m, rfl⟩ : ∃ m : Nat, n = m := ⟨n.toNat, by omega⟩
    refine own_new (n := m) (Kp.refl [] w0) (by omega) (by omega) fun w1 b S o1 hk1 => ?_
    simp [-getElem?_pos, -Array.getElem?_eq_getElem, -List.length_flatten, List.getElem?_cons_zero, List.getElem?_cons_succ, -newG_k, -stn_p]
    refine ref_New (n := m) (by omega) (by omega) fun w2 x' SR r2 hk2 hSR => ?_
    rw [ex0, ex1, newG_k]
    obtain ⟨w3, hw3⟩ : ∃ w3, w3 = w2.alloc (.cells (zc Try.prog 39) 39) := ⟨_, rfl⟩
    have hk3 : Kp [] w2 w3 := by rw [hw3]; exact (Kp.refl [] w2).alloc _
    have hA : w3.heap[w2.heap.size]? = some (.cells (zc Try.prog 39) 39) := by rw [hw3]; exact heap_new
    have hlt : w2.heap.size < w3.heap.size := lt_of_blk hA
    rw [← hw3]
    obtain ⟨sv, lv, rfl, h1, h2⟩ := r2.form
    rw [st_var hA (by rw [zc39]; rfl) h1 h2]
    obtain ⟨a, ha⟩ : ∃ a, a = w2.heap.size := ⟨_, rfl⟩
    rw [← ha] at hA hlt ⊢
    have hs1 := o1.kp.size
    have hs2 := hk2.size
    have hka : Kp [a] w3 (setBlk w3 a (.cells (qc sv lv (DK.fresh m)) 39)) := (Kp.refl _ w3).setBlk (.inl (by simp)) _
    have hSlt : ∀ y ∈ S, y < w1.heap.size := fun y hy => by
      obtain ⟨bs, bn, lv, SL, T, Ts, Tn, rfl, hd⟩ := o1.at_
      exact hd.live y hy
    have hkk : Kp [] w1 w3 := hk2.trans' hk3
    have p : PlayAt w0 (setBlk w3 a (.cells (qc sv lv (DK.fresh m)) 39)) b a (DK.fresh m) S SR sv lv :=
      ⟨⟨(o1.at_.keep hkk (by simp)).keep hka fun y hy => by have := hSlt y hy; simp; omega, (o1.kp.trans' hkk).setBlk (.inr (by omega)) _, o1.new⟩,
        (r2.keep hk3 (by simp)).keep hka fun y hy => by have := r2.lt y hy; simp; omega, heap_self hlt, fun y hy hyS => by have := hSR y hy; have := hSlt y hyS; omega,
        fun hm => by have := hSlt a hm; omega, fun hm => by have := r2.lt a hm; omega, by omega, rfl⟩
    simp [-getElem?_pos, -Array.getElem?_eq_getElem, -List.length_flatten, List.getElem?_cons_zero, List.getElem?_cons_succ, law03_DiskPlays_s13]
    refine ⟨fun _ => awake_spec fun w' hk' => hR w' (p.own.kp.trans' hk'), fun _ => ?_⟩
    unfold law03_DiskPlays_s12
    exact plays_loop hR acts p rfl
end
end Go.Proofs
