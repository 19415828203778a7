/- Part of the proof (K5): an engine, rules or contracts of the functions; it states nothing of the claim by itself. -/
import Derived.Test.YtnmooeoajgckmaaK4
import Derived.Test.YtnmooeoajgckmaaK3

/- Layer 4: a log beside the document's: crash; few. -/
set_option linter.unusedVariables false
set_option linter.unusedSimpArgs false
namespace Go.Proofs
open Go Go.Q
section
variable {w0 w : World} {x a b : Nat} {g : LG} {d : DK} {B SR SM : List Nat} {sv lv ll : Value} {lo hi : Nat}
theorem ld_d {bp lp m0 m1 m2 m3 m4 : Value} {lo hi : Int} {T : TypeId} (h : w.heap[x]? = some (.cells (sideC bp lp sv lv d m0 m1 m2 m3 m4 lo hi) T)) {K : Value → Prop} : ld1 (.pointer (some ⟨x, 0, none⟩)) w K = K bp := by
  unfold sideC at h
  simp [-getElem?_pos, -Array.getElem?_eq_getElem, -List.length_flatten, List.getElem?_cons_zero, List.getElem?_cons_succ, h]
theorem sideCrash_spec (p : PS w0 w x a b g d B SR SM sv lv ll lo hi) (hl : d.l.length < 2 ^ 38) {kv : Value} {ks : List Int} {SK : List Nat} (hks : IntsAt w0 kv ks SK) (hSK : ∀ z ∈ SK, z < w0.heap.size) (hkw : ∀ z ∈ ks, -9223372036854775808 ≤ z ∧ z < 9223372036854775808)
    {turn : Int} (ht : turnOk turn = true) {K : Value → World → Prop}
    (hK : ∀ w' a g B SR SM sv lv ll, g.turn = turn → PS w0 w' x a b g (d.crash ks) B SR SM sv lv ll lo hi → K (.bool true) w') : callG Try.prog 67 #[.pointer (some ⟨x, 0, none⟩), kv, .int .i64 turn] w K := by
  refine law04_side_crash_call ?_
  unfold law04_side_crash law04_side_crash_s0
  have ok := p.ol.ok
  have hks1 := hks.keep p.ol.kp (by simp)
  simp [-getElem?_pos, -Array.getElem?_eq_getElem, -List.length_flatten, List.getElem?_cons_zero, List.getElem?_cons_succ, -ldn_p, -stn_p, -ld1_p]
  rw [ld_q p.hx]
  refine ref_Crash p.ref ok (by omega) hks1 fun w1 y1 SR1 hr1 hk1 hS1 => ?_
  obtain ⟨sv1, lv1, rfl, o1, o2⟩ := hr1.form
  have p1 := p.keep hk1
  rw [st_q p1.hx o1 o2]
  obtain ⟨w2, hw2⟩ := ex_w (w' := setBlk w1 x (.cells (sideC (.pointer (some ⟨b, 0, none⟩)) (.pointer (some ⟨a, 0, none⟩)) sv1 lv1 (d.crash ks) (.int .i64 g.lo) (.int .i64 g.hi) (.int .i64 g.turn) ll (.string (str g.used)) lo hi) 80))
  have hx2 : w2.heap[x]? = some (.cells (sideC (.pointer (some ⟨b, 0, none⟩)) (.pointer (some ⟨a, 0, none⟩)) sv1 lv1 (d.crash ks) (.int .i64 g.lo) (.int .i64 g.hi) (.int .i64 g.turn) ll (.string (str g.used)) lo hi) 80) := by rw [hw2]; exact heap_self (live_of p1.hx)
  have hk2 : Kp [x] w1 w2 := by rw [hw2]; exact (Kp.refl _ w1).setBlk (.inl (by simp)) _
  rw [← hw2]
  have hk02 : Kp [] w0 w2 := p1.ol.kp.trans hk2 fun y hy hlt => by have := p.x0; simp at hy; omega
  have ol2 := p1.ol.keep hk2 (fun y hy hm => by simp at hm; subst hm; exact p.xB hy) hk02
  have hk3 := fun w' => OL.turn (w' := w') (S' := B) ol2
  have hnew := ol2.new
  have hRl := p1.ref.lt
  obtain ⟨S, SL, lv', hB, hd, hL, _, _⟩ := ol2.ex
  have hSB : ∀ y ∈ S, y ∈ B := fun y hy => by rw [hB]; simp [hy]
  have hks2 := hks.keep hk02 (by simp)
  rw [ld_d hx2]
  refine Crash_spec hd (by omega) hks2 (fun y hy hm => by have := hSK y hy; have := hnew y (hSB y hm); omega) hkw fun w3 hd3 hk3' => ?_
  have hkB : Kp B w2 w3 := hk3'.mono fun y hy _ => hSB y hy
  have hk03 := hk3 w3 hkB fun y hy => hy
  have own3 : Own w0 w3 b (d.crash ks) S := ⟨hd3, hk03, fun y hy => hnew y (hSB y hy)⟩
  have hlen : (d.crash ks).now.length = 24 := by
    have := (crashL_ok (n := d.now.length) (ks := ks) ok.sz1 ok.len ok.szl).2
    show (crashL d.l ks d.sure).length = 24
    rw [this]; exact p.now
  have hw1 := hk1.size
  have hap : ∀ y ∈ SR1, y ∉ B ∧ y ≠ x ∧ w0.heap.size ≤ y := fun y hy => by
    rcases hS1 y hy with hh | hh
    · exact p.apR y hh
    · have hBl := p.ol.live
      have hxl := lt_of_blk p.hx
      have := p.ol.kp.size
      exact ⟨fun hm => by have := hBl y hm; omega, by omega, by omega⟩
  have po : PO w0 w3 x b (d.crash ks) S SR1 sv1 lv1 (.pointer (some ⟨a, 0, none⟩)) (.int .i64 g.lo) (.int .i64 g.hi) (.int .i64 g.turn) ll (.string (str g.used)) lo hi :=
    ⟨hk3'.get hx2 (fun hm => p.xB (hSB x hm)), own3, (hr1.keep hk2 (fun y hy => by simpa using (hap y hy).2.1)).keep hk3' (fun y hy hm => (hap y hy).1 (hSB y hm)), p.x0, fun hm => p.xB (hSB x hm), fun y hy => ⟨fun hm => (hap y hy).1 (hSB y hm), (hap y hy).2⟩, (syn_crash d ks).1, p.lh, p.h24, hlen, rfl⟩
  simp [-getElem?_pos, -Array.getElem?_eq_getElem, -List.length_flatten, List.getElem?_cons_zero, List.getElem?_cons_succ, -ldn_p, -stn_p, -ld1_p]
  exact opens_spec po (by rw [(syn_crash d ks).2]; omega) ht fun w' a g B SM ll htu ps => hK w' a g B SR1 SM sv1 lv1 ll htu ps
end
theorem few_spec {w : World} {gv : Value} {group : List (List UInt8)} {SG : List Nat} (hgv : ArgAt w gv 1 (group.map strV) SG) {K : Value → World → Prop}
    (hK : ∀ t, (t = true → group.length ≤ 8 ∧ ∀ s ∈ group, s.length ≤ 4096) → K (.bool t) w) : callG Try.prog 41 #[gv] w K := by
  refine law04_few_call ?_
  unfold law04_few law04_few_s5 law04_few_s4 law04_few_L3
  refine loop_inv (fun m xs wi => ∃ i, i ≤ 8 ∧ m = 8 - i ∧ xs = [gv, .int .i64 (i : Nat)] ∧ wi = w ∧ ∀ s ∈ group.take i, s.length ≤ 4096) ?_ (m := 8) ⟨0, by omega, rfl, rfl, rfl, by simp⟩
  rintro m N xs wi ⟨i, hi, rfl, rfl, rfl, hs⟩ hN
  have fin : (group.length ≤ 8 → group.length ≤ i) → law04_few_s0 K gv wi := by
    intro hfin
    unfold law04_few_s0
    simp [-getElem?_pos, -Array.getElem?_eq_getElem, -List.length_flatten, List.getElem?_cons_zero, List.getElem?_cons_succ, hgv.lenL]
    refine hK _ fun ht => ?_
    have ht : group.length ≤ 8 := by have := of_decide_eq_true ht; omega
    refine ⟨ht, fun s hm => hs s ?_⟩
    rw [List.take_of_length_le (hfin ht)]
    exact hm
  unfold law04_few_L3F law04_few_s2
  simp [-getElem?_pos, -Array.getElem?_eq_getElem, -List.length_flatten, List.getElem?_cons_zero, List.getElem?_cons_succ, hgv.lenL]
  refine ⟨fun h1 => ⟨fun h2 => ?_, fun h2 => fin (by omega)⟩, fun h1 => fin (by omega)⟩
  obtain ⟨bl, o, c, T, fr', hh, hia, hc, _⟩ := arg_text hgv (i := i) (by omega)
  have hiw : IntKind.i64.wrap ((i : Int) + 1) = ((i + 1 : Nat) : Int) := by rw [w64 (by omega) (by omega)]; simp
  unfold law04_few_s1
  have hnext : group[i].length ≤ 4096 → N [gv, .int .i64 ((i + 1 : Nat) : Int)] wi := fun hle => hN (8 - (i + 1)) _ _ (by omega) ⟨i + 1, by omega, rfl, rfl, rfl, fun s hm => by
    rw [List.take_succ_eq_append_getElem (by omega)] at hm
    rcases List.mem_append.1 hm with hm | hm
    · exact hs s hm
    · simp at hm; rw [hm]; exact hle⟩
  have hno : K (.bool false) wi := hK false (by simp)
  simp [-getElem?_pos, -Array.getElem?_eq_getElem, -List.length_flatten, List.getElem?_cons_zero, List.getElem?_cons_succ, hia, hh, hc, hiw]
  have hnext' : group[i].length ≤ 4096 → N [gv, .int .i64 ((i : Int) + 1)] wi := by simpa using hnext
  exact ⟨fun _ => ⟨fun _ => hno, fun _ => ⟨fun _ => hno, fun h => hnext' (by omega)⟩⟩, fun _ => ⟨fun _ => hno, fun h => hnext' (by omega)⟩⟩
theorem putK_now (d : DK) (lo : Nat) (all : List UInt8) (k : Nat) : (putK d lo all k).1.now.length = d.now.length := by
  unfold putK
  split
  · unfold DK.write
    have := DK.burns_now d
    split
    · split
      · simp
      · simp [this.1]
    · rfl
  · rfl
theorem putN_facts (lo : Nat) (all : List UInt8) : ∀ (n : Nat) (d : DK) (k : Nat), (putN lo all d k n).1.now.length = d.now.length ∧ (putN lo all d k n).1.l.length ≤ d.l.length + n := by
  intro n
  induction n with
  | zero => intro d k; exact ⟨rfl, Nat.le_refl _⟩
  | succ n ih =>
    intro d k
    have h1 := putK_now d lo all k
    have h2 := putK_l d lo all k
    simp only [putN]
    split
    · have := ih (putK d lo all k).1 (k + 1)
      exact ⟨by rw [this.1, h1], by omega⟩
    · exact ⟨h1, by omega⟩
theorem addG_keep {g : LG} {d : DK} {lo hi : Nat} (hlo : g.lo = (lo : Int)) (hhi : g.hi = (hi : Int)) (hlh : lo < hi) (h24 : hi ≤ 24) (hroom : (g.used.length : Int) ≤ 32 * (hi - lo)) (hrec : g.l.length ≤ g.used.length) (syn : Syn d) (group : List (List UInt8)) :
    (addG g d group).1.lo = g.lo ∧ (addG g d group).1.hi = g.hi ∧ (addG g d group).1.turn = g.turn ∧ ((addG g d group).1.used.length : Int) ≤ 32 * (hi - lo) ∧ (addG g d group).1.l.length ≤ (addG g d group).1.used.length ∧ Syn (addG g d group).2.1 ∧
      (addG g d group).2.1.now.length = d.now.length ∧ (addG g d group).2.1.l.length ≤ d.l.length + 25 := by
  have hrm : roomOf g = 32 * ((hi : Int) - lo) - g.used.length := by unfold roomOf; rw [hlo, hhi]
  have hlen := addRun_len g.turn (roomOf g) (by omega) group [] false (by simp; omega)
  have hgrow := addRun_grow g.turn (roomOf g) group [] false
  obtain ⟨r, hr⟩ : ∃ r, r = addRun g.turn (roomOf g) group [] false := ⟨_, rfl⟩
  rw [← hr] at hlen
  simp only [← hr] at hgrow
  unfold addG
  simp only [← hr]
  obtain ⟨r1, r2, r3⟩ := r
  simp only at hlen hgrow ⊢
  split
  · exact ⟨rfl, rfl, rfl, hroom, hrec, syn, rfl, Nat.le_add_right _ _⟩
  · rename_i h1
    split
    · exact ⟨rfl, rfl, rfl, hroom, hrec, syn, rfl, Nat.le_add_right _ _⟩
    · rename_i h2
      have hg := hgrow r2 (by rw [Decidable.not_not.1 h1, Bool.eq_false_iff.2 h2])
      obtain ⟨p, hp⟩ : ∃ p : DK × Int, p = if 0 < r2.length then putN g.lo.toNat (g.used ++ r2) d (g.used.length / 32) (((g.used ++ r2).length + 31) / 32 - g.used.length / 32) else (d, 0) := ⟨_, rfl⟩
      rw [← hp]
      have hpf : Syn p.1 ∧ p.1.now.length = d.now.length ∧ p.1.l.length ≤ d.l.length + 25 := by
        rw [hp]
        split
        · have hf := putN_facts g.lo.toNat (g.used ++ r2) (((g.used ++ r2).length + 31) / 32 - g.used.length / 32) d (g.used.length / 32)
          refine ⟨putN_syn _ _ _ syn, hf.1, ?_⟩
          have := hf.2
          have : (g.used ++ r2).length ≤ 768 := by simp; omega
          omega
        · exact ⟨syn, rfl, Nat.le_add_right _ _⟩
      split
      · refine ⟨rfl, rfl, rfl, ?_, ?_, hpf⟩
        · simp; omega
        · simp at hg ⊢; omega
      · exact ⟨rfl, rfl, rfl, hroom, hrec, hpf⟩
end Go.Proofs

/- Layer 4: a log beside the document's: one call on both. -/
set_option linter.unusedVariables false
set_option linter.unusedSimpArgs false
namespace Go.Proofs
open Go Go.Q
section
variable {w0 w : World} {x a b : Nat} {g : LG} {d : DK} {B SR SM : List Nat} {sv lv ll : Value} {lo hi : Nat} {K : Value → World → Prop}
/-- what a call comes to -/
def Done (w0 : World) (x b lo hi : Nat) (t : Int) (n : Nat) (K : Value → World → Prop) : Prop :=
  ∀ w' a g d B SR SM sv lv ll, PS w0 w' x a b g d B SR SM sv lv ll lo hi → g.turn ≤ t → d.l.length ≤ n → K (.bool true) w'
theorem ld_mt {bp lp m0 m1 m2 m3 m4 : Value} {lo hi : Int} {T : TypeId} (h : w.heap[x]? = some (.cells (sideC bp lp sv lv d m0 m1 m2 m3 m4 lo hi) T)) {K : Value → Prop} : ld1 (.pointer (some ⟨x, 8, none⟩)) w K = K m2 := by
  unfold sideC at h
  simp [-getElem?_pos, -Array.getElem?_eq_getElem, -List.length_flatten, List.getElem?_cons_zero, List.getElem?_cons_succ, h]
theorem ld_lp {bp lp m0 m1 m2 m3 m4 : Value} {lo hi : Int} {T : TypeId} (h : w.heap[x]? = some (.cells (sideC bp lp sv lv d m0 m1 m2 m3 m4 lo hi) T)) {K : Value → Prop} : ld1 (.pointer (some ⟨x, 1, none⟩)) w K = K lp := by
  unfold sideC at h
  simp [-getElem?_pos, -Array.getElem?_eq_getElem, -List.length_flatten, List.getElem?_cons_zero, List.getElem?_cons_succ, h]
theorem does_s0 (p : PS w0 w x a b g d B SR SM sv lv ll lo hi) (hl : d.l.length < 2 ^ 37) {t : Nat} {kind n : Int} {gv kv : Value} {more : Bool} (hT : w.heap[t]? = some (.cells #[.int .i64 kind, .int .i64 n, gv, kv, .bool more] 84))
    {ks : List Int} {SK : List Nat} (hks : IntsAt w0 kv ks SK) (hSK : ∀ z ∈ SK, z < w0.heap.size) (hkw : ∀ z ∈ ks, -9223372036854775808 ≤ z ∧ z < 9223372036854775808) {e tu : Int} {nl : Nat} (htu : g.turn ≤ tu) (hnl : d.l.length ≤ nl) (hK : Done w0 x b lo hi tu nl K) :
    law04_side_does_s0 K (.pointer (some ⟨x, 0, none⟩)) (.pointer (some ⟨t, 0, none⟩)) (.int .i64 e) (.int .i64 e) w := by
  unfold law04_side_does_s0
  have hx := p.hx
  unfold sideC at hx
  simp [-getElem?_pos, -Array.getElem?_eq_getElem, -List.length_flatten, List.getElem?_cons_zero, List.getElem?_cons_succ, hT, hx]
  refine ⟨fun he => ?_, fun he => ?_⟩
  · refine sideCrash_spec (p.keep kp_drew) (by omega) hks hSK hkw p.turn fun w' a g' B SR SM sv lv ll htu' ps => ?_
    exact hK w' a g' _ B SR SM sv lv ll ps (by omega) (by rw [(syn_crash d ks).2]; omega)
  · refine sideSame_spec p (by omega) fun w' hk => ?_
    exact hK w' a g d B SR SM sv lv ll (p.keep hk) htu hnl
/-- both disks are other ones -/
theorem PS.disk (p : PS w0 w x a b g d B SR SM sv lv ll lo hi) {w1 : World} {d' : DK} {sv' lv' : Value} {SR' : List Nat} (ho : OL w0 w1 a b g d' B) (hk : Kp B w w1) (hr : RefAt w1 (.agg (qc sv' lv' d')) d' SR') (hS : ∀ y ∈ SR', y ∈ SR ∨ w.heap.size ≤ y) (syn : Syn d') (hn : d'.now.length = d.now.length) :
    PS w0 (setBlk w1 x (.cells (sideC (.pointer (some ⟨b, 0, none⟩)) (.pointer (some ⟨a, 0, none⟩)) sv' lv' d' (.int .i64 g.lo) (.int .i64 g.hi) (.int .i64 g.turn) ll (.string (str g.used)) lo hi) 80)) x a b g d' B SR' SM sv' lv' ll lo hi := by
  have hx1 := hk.get p.hx p.xB
  have hk2 : Kp [x] w1 (setBlk w1 x (.cells (sideC (.pointer (some ⟨b, 0, none⟩)) (.pointer (some ⟨a, 0, none⟩)) sv' lv' d' (.int .i64 g.lo) (.int .i64 g.hi) (.int .i64 g.turn) ll (.string (str g.used)) lo hi) 80)) := (Kp.refl _ w1).setBlk (.inl (by simp)) _
  have hBl := p.ol.live
  have hxl := lt_of_blk p.hx
  have hsz := p.ol.kp.size
  have hap : ∀ y ∈ SR', y ∉ B ∧ y ≠ x ∧ w0.heap.size ≤ y := fun y hy => by
    rcases hS y hy with hh | hh
    · exact p.apR y hh
    · exact ⟨fun hm => by have := hBl y hm; omega, by omega, by omega⟩
  refine ⟨heap_self (live_of hx1), ho.keep hk2 (fun y hy hm => by simp at hm; subst hm; exact p.xB hy) (ho.kp.trans hk2 fun y hy hlt => by have := p.x0; simp at hy; omega), hr.keep hk2 (fun y hy => by simpa using (hap y hy).2.1), ?_, p.x0, p.xB, hap, p.apM, syn, p.glo, p.ghi, p.lh, p.h24, by rw [hn]; exact p.now, p.turn, p.room, p.recs⟩
  exact (p.rl.keep hk fun y hy => (p.apM y hy).1).keep hk2 fun y hy => by simpa using (p.apM y hy).2.1
theorem flush_now (d : DK) : d.flush.1.now.length = d.now.length := by
  unfold DK.flush
  have := DK.burns_now d
  split
  · simp [this.1]
  · rw [this.1]
end
end Go.Proofs

/- Layer 4: a log beside the document's: Add on both. -/
set_option linter.unusedVariables false
set_option linter.unusedSimpArgs false
namespace Go.Proofs
open Go Go.Q
section
variable {w0 w : World} {x a b : Nat} {g : LG} {d : DK} {B SR SM : List Nat} {sv lv ll : Value} {lo hi : Nat} {K : Value → World → Prop}
def z39 : Array Value := #[.slice none 0 0, .slice none 0 0, .int .i64 0, .bool false]
def z78 : Array Value := [.int .i64 0, .int .i64 0, .int .i64 0, .slice none 0 0, .string (str [])].toArray
theorem ex3a {p q r : Value} {w : World} {K : Value → Prop} : qG Try.prog (Instr.extract (.tuple #[p, q, r]) 0) w K = K p := qG_of (run_extract rfl)
theorem ex3b {p q r : Value} {w : World} {K : Value → Prop} : qG Try.prog (Instr.extract (.tuple #[p, q, r]) 1) w K = K q := qG_of (run_extract rfl)
theorem ex3c {p q r : Value} {w : World} {K : Value → Prop} : qG Try.prog (Instr.extract (.tuple #[p, q, r]) 2) w K = K r := qG_of (run_extract rfl)
theorem stb3a {p q r u : Value} {w : World} : stb Try.prog (Instr.extract (.tuple #[p, q, r]) 0) u w = (p = u) := stb_of (run_extract rfl)
theorem stb3b {p q r u : Value} {w : World} : stb Try.prog (Instr.extract (.tuple #[p, q, r]) 1) u w = (q = u) := stb_of (run_extract rfl)
theorem stb3c {p q r u : Value} {w : World} : stb Try.prog (Instr.extract (.tuple #[p, q, r]) 2) u w = (r = u) := stb_of (run_extract rfl)
theorem zc39z : zc Try.prog 39 = z39 := zc39
theorem zc78z : zc Try.prog 78 = z78 := zc78
/-- what was got is kept in two variables, then in the side -/
def keepBoth (K : World → Prop) (x : Nat) (n7 n8 : Nat) (q m : Value) (W : World) : Prop :=
  stn 4 (.pointer (some ⟨n7, 0, none⟩)) q W fun w =>
  stn 5 (.pointer (some ⟨n8, 0, none⟩)) m w fun w =>
  ldn 4 (.pointer (some ⟨n7, 0, none⟩)) w fun t57 =>
  stn 4 (.pointer (some ⟨x, 2, none⟩)) t57 w fun w =>
  ldn 5 (.pointer (some ⟨n8, 0, none⟩)) w fun t61 =>
  stn 5 (.pointer (some ⟨x, 6, none⟩)) t61 w K
theorem keep_both {W : World} {K : World → Prop} {n7 n8 : Nat} {bp lp m0 m1 m2 m3 m4 sv lv sv' lv' ll' : Value} {d d' : DK} {g' : LG} {lo hi : Int} (hx : W.heap[x]? = some (.cells (sideC bp lp sv lv d m0 m1 m2 m3 m4 lo hi) 80))
    (h7 : W.heap[n7]? = some (.cells z39 39)) (h8 : W.heap[n8]? = some (.cells z78 78)) (h78 : n7 ≠ n8) (h7x : n7 ≠ x) (h8x : n8 ≠ x) (o1 : one sv' = true) (o2 : one lv' = true) (o3 : one ll' = true)
    (hK : ∀ W', W'.heap[x]? = some (.cells (sideC bp lp sv' lv' d' (.int .i64 g'.lo) (.int .i64 g'.hi) (.int .i64 g'.turn) ll' (.string (str g'.used)) lo hi) 80) → Kp [n7, n8, x] W W' → K W') :
    keepBoth K x n7 n8 (.agg (qc sv' lv' d')) (.agg (logC g' ll').toArray) W := by
  unfold keepBoth
  rw [stA (k := 4) h7 rfl rfl (qc_one o1 o2)]
  obtain ⟨W1, hW1⟩ := ex_w (w' := setBlk W n7 (.cells (qc sv' lv' d') 39))
  have k1 : Kp [n7] W W1 := by rw [hW1]; exact (Kp.refl _ W).setBlk (.inl (by simp)) _
  have a1 : W1.heap[n7]? = some (.cells (qc sv' lv' d') 39) := by rw [hW1]; exact heap_self (live_of h7)
  rw [← hW1, stA (k := 5) (k1.get h8 (by simpa using Ne.symm h78)) rfl rfl (logC_one o3)]
  obtain ⟨W2, hW2⟩ := ex_w (w' := setBlk W1 n8 (.cells (logC g' ll').toArray 78))
  have k2 : Kp [n8] W1 W2 := by rw [hW2]; exact (Kp.refl _ W1).setBlk (.inl (by simp)) _
  have a2 : W2.heap[n8]? = some (.cells (logC g' ll').toArray 78) := by rw [hW2]; exact heap_self (live_of (k1.get h8 (by simpa using Ne.symm h78)))
  rw [← hW2, ldA (k := 4) (k2.get a1 (by simpa using h78)) rfl]
  have x2 := k2.get (k1.get hx (by simpa using Ne.symm h7x)) (by simpa using Ne.symm h8x)
  rw [st_q x2 o1 o2]
  obtain ⟨W3, hW3⟩ := ex_w (w' := setBlk W2 x (.cells (sideC bp lp sv' lv' d' m0 m1 m2 m3 m4 lo hi) 80))
  have k3 : Kp [x] W2 W3 := by rw [hW3]; exact (Kp.refl _ W2).setBlk (.inl (by simp)) _
  have x3 : W3.heap[x]? = some (.cells (sideC bp lp sv' lv' d' m0 m1 m2 m3 m4 lo hi) 80) := by rw [hW3]; exact heap_self (live_of x2)
  rw [← hW3, ldA (k := 5) (k3.get a2 (by simpa using h8x)) rfl, st_m x3 o3]
  refine hK _ (heap_self (live_of x3)) ((((k1.mono (by simp)).trans' (k2.mono (by simp))).trans' (k3.mono (by simp))).setBlk (.inl (by simp)) _)
theorem doesAdd_spec (p : PS w0 w x a b g d B SR SM sv lv ll lo hi) (hl : d.l.length < 2 ^ 36) {n : Int} {gv kv : Value} {more : Bool} {group : List (List UInt8)} {SG : List Nat} (hgv : ArgAt w0 gv 1 (group.map strV) SG) (hSG : ∀ z ∈ SG, z < w0.heap.size) (h8 : group.length ≤ 8) (hgs : ∀ s ∈ group, s.length ≤ 4096)
    {ks : List Int} {SK : List Nat} (hks : IntsAt w0 kv ks SK) (hSK : ∀ z ∈ SK, z < w0.heap.size) (hkw : ∀ z ∈ ks, -9223372036854775808 ≤ z ∧ z < 9223372036854775808) (hK : Done w0 x b lo hi g.turn (d.l.length + 25) K) :
    callG Try.prog 42 #[.pointer (some ⟨x, 0, none⟩), .agg #[.int .i64 1, .int .i64 n, gv, kv, .bool more]] w K := by
  refine law04_side_does_call ?_
  unfold law04_side_does law04_side_does_s1
  have hlh := p.lh
  have h24 := p.h24
  have hroom := p.room
  have hrecs := p.recs
  have hok := p.ol.ok
  have htu := p.turn
  rw [newG_k]
  obtain ⟨t, ht⟩ : ∃ t, t = w.heap.size := ⟨_, rfl⟩
  obtain ⟨w1, hw1⟩ := ex_w (w' := w.alloc (.cells (Value.cells (.agg #[.int .i64 1, .int .i64 n, gv, kv, .bool more])) 84))
  have hk1 : Kp [] w w1 := by rw [hw1]; exact kp_alloc
  have hT1 : w1.heap[t]? = some (.cells #[.int .i64 1, .int .i64 n, gv, kv, .bool more] 84) := by rw [hw1, ht]; exact heap_new
  rw [← hw1, ← ht]
  have p1 := p.keep hk1
  have hx1 := p1.hx
  unfold sideC at hx1
  simp [-getElem?_pos, -Array.getElem?_eq_getElem, -List.length_flatten, List.getElem?_cons_zero, List.getElem?_cons_succ, hT1, hx1, -ldn_p, -stn_p, -newG_k]
  have p1d := p1.keep kp_drew
  have hBl := p1.ol.live
  have hBl0 := p.ol.live
  have hnewB := p1.ol.new
  have hxt : x < t := by rw [ht]; exact lt_of_blk p.hx
  have htB : t ∉ B := fun hm => by have := hBl0 t hm; omega
  have hgB : ∀ z ∈ SG, z ∉ B := fun z hz hm => by have := hSG z hz; have := hnewB z hm; omega
  have hG1 := hgv.keep p1d.ol.kp (by simp)
  refine ol_add p1d.ol hG1 hgB (fun z hz => by have := hSG z hz; have := p1d.ol.kp.size; omega) (lo := lo) (hi := hi) (by omega) (fun s hs => by have := hgs s hs; omega) p.glo p.ghi (by omega) (by omega) hroom (by omega) fun w2 B2 o2 hk2 hB2 => ?_
  have hk12 : Kp B w1 w2 := (kp_drew.mono (by simp)).trans' hk2
  have hT2 := hk12.get hT1 htB
  have hxs2 := hk12.get p1.hx p1.xB
  have hx2 := hk12.get hx1 p1.xB
  have hRB : ∀ y ∈ SR, y ∉ B := fun y hy => (p1.apR y hy).1
  have hMB : ∀ y ∈ SM, y ∉ B := fun y hy => (p1.apM y hy).1
  have r2 := p1.ref.keep hk12 hRB
  have m2 := p1.rl.keep hk12 hMB
  have hG2 := hgv.keep o2.kp (by simp)
  have hsz12 := hk12.size
  obtain ⟨hA1, hA2, hA3, hA4, hA5, hA6, hA7, hA8⟩ := addG_keep p.glo p.ghi hlh h24 hroom hrecs p.syn group
  obtain ⟨e, he⟩ : ∃ e, e = (addG g d group).2.2 := ⟨_, rfl⟩
  obtain ⟨g', hg'⟩ : ∃ g', g' = (addG g d group).1 := ⟨_, rfl⟩
  obtain ⟨d', hd'⟩ : ∃ d', d' = (addG g d group).2.1 := ⟨_, rfl⟩
  rw [← hg', ← hd'] at o2
  rw [← hg'] at hA1 hA2 hA3 hA4 hA5
  rw [← hd'] at hA6 hA7 hA8
  rw [← he]
  have hB2l := o2.live
  have hrl := r2.lt
  have hml := m2.lt
  have hx1l := lt_of_blk p1.hx
  have htl := lt_of_blk hT1
  have hB2n : ∀ y ∈ B2, y ∈ B ∨ w1.heap.size ≤ y := fun y hy => (hB2 y hy).imp id fun h => by simpa using h
  have hxB2 : x ∉ B2 := fun hm => by
    rcases hB2n x hm with hh | hh
    · exact p.xB hh
    · omega
  have htB2 : t ∉ B2 := fun hm => by
    rcases hB2n t hm with hh | hh
    · exact htB hh
    · omega
  have hw10 := p1.ol.kp.size
  have hk02 := o2.kp
  have hr1l := p1.ref.lt
  have hm1l := p1.rl.lt
  -- all that is new there, wherever the two variables lie
  have tail : ∀ (W : World) (n7 n8 : Nat) (sv' lv' ll' : Value) (SR' SM' : List Nat), Kp [] w2 W → w2.heap.size ≤ n7 → w2.heap.size ≤ n8 → n7 ≠ n8 → W.heap[n7]? = some (.cells z39 39) → W.heap[n8]? = some (.cells z78 78) →
      RefAt W (.agg (qc sv' lv' d')) d' SR' → RowsAt W ll' 1 (g'.l.map strV) SM' → (∀ y ∈ SR', (y ∈ SR ∨ w2.heap.size ≤ y) ∧ y ≠ n7 ∧ y ≠ n8) → (∀ y ∈ SM', (y ∈ SM ∨ w2.heap.size ≤ y) ∧ y ≠ n7 ∧ y ≠ n8) →
      keepBoth (law04_side_does_s0 K (.pointer (some ⟨x, 0, none⟩)) (.pointer (some ⟨t, 0, none⟩)) (.int .i64 e) (.int .i64 e)) x n7 n8 (.agg (qc sv' lv' d')) (.agg (logC g' ll').toArray) W := by
    intro W n7 n8 sv' lv' ll' SR' SM' hkW h7 h8' h78 b7 b8 hr' hm' hSR' hSM'
    obtain ⟨sv3, lv3, he3, o1, q2⟩ := hr'.form
    obtain ⟨rfl, rfl⟩ := qc_inj he3
    have hxW := hkW.get hxs2 (by simp)
    have hx2l := lt_of_blk hxs2
    have ht2l := lt_of_blk hT2
    refine keep_both hxW b7 b8 h78 (by omega) (by omega) o1 q2 (rows_one hm') fun W' hx' hk' => ?_
    have hk02W := hk02.trans' hkW
    have hk0 : Kp [] w0 W' := hk02W.trans hk' fun y hy hlt => by
      have := p.x0
      have := hk02.size
      simp at hy; omega
    have hapR : ∀ y ∈ SR', y ∉ B2 ∧ y ≠ x ∧ w0.heap.size ≤ y := fun y hy => by
      have := hk02.size
      rcases (hSR' y hy).1 with hh | hh
      · have h1 := p1.apR y hh
        have h2 := hr1l y hh
        refine ⟨fun hm => ?_, h1.2⟩
        rcases hB2n y hm with h | h
        · exact h1.1 h
        · omega
      · exact ⟨fun hm => by have := hB2l y hm; omega, by omega, by omega⟩
    have hapM : ∀ y ∈ SM', y ∉ B2 ∧ y ≠ x ∧ w0.heap.size ≤ y := fun y hy => by
      have := hk02.size
      rcases (hSM' y hy).1 with hh | hh
      · have h1 := p1.apM y hh
        have h2 := hm1l y hh
        refine ⟨fun hm => ?_, h1.2⟩
        rcases hB2n y hm with h | h
        · exact h1.1 h
        · omega
      · exact ⟨fun hm => by have := hB2l y hm; omega, by omega, by omega⟩
    have ps : PS w0 W' x a b g' d' B2 SR' SM' sv' lv' ll' lo hi :=
      ⟨hx', (o2.keep0 hkW).keep hk' (fun y hy hm => by
          have := hB2l y hy
          simp at hm
          rcases hm with rfl | rfl | rfl
          · omega
          · omega
          · exact hxB2 hy) hk0, hr'.keep hk' (fun y hy => by have := hSR' y hy; have := hapR y hy; simp; omega), hm'.keep hk' (fun y hy => by have := hSM' y hy; have := hapM y hy; simp; omega),
        p.x0, hxB2, hapR, hapM, hA6, by rw [hA1]; exact p.glo, by rw [hA2]; exact p.ghi, hlh, h24, by rw [hA7]; exact p.now, by rw [hA3]; exact htu, hA4, hA5⟩
    exact does_s0 ps (by omega) (hk'.get (hkW.get hT2 (by simp)) (by simp; omega)) hks hSK hkw (by rw [hA3]; exact Int.le_refl _) hA8 hK
  have hx2d : (w2.drew).heap[x]? = _ := (kp_drew.get hxs2 (by simp))
  have hT2d := (kp_drew (w := w2)).get hT2 (by simp)
  simp [-getElem?_pos, -Array.getElem?_eq_getElem, -List.length_flatten, List.getElem?_cons_zero, List.getElem?_cons_succ, hT2, hx2, -ldn_p, -stn_p, -newG_k]
  rw [ld_q hx2d, ld_m hx2d]
  have callAdd : ∀ (W : World), Kp [] w2 W → ∀ {K2 : Value → World → Prop}, (∀ W' sv' lv' ll' SR' SM', RefAt W' (.agg (qc sv' lv' d')) d' SR' → RowsAt W' ll' 1 (g'.l.map strV) SM' → Kp [] W W' → (∀ y ∈ SR', y ∈ SR ∨ W.heap.size ≤ y) → (∀ y ∈ SM', y ∈ SM ∨ W.heap.size ≤ y) →
      K2 (.tuple #[.agg (qc sv' lv' d'), .agg (logC g' ll').toArray, .int .i64 e]) W') → callG Try.prog 66 #[.agg (qc sv lv d), .agg #[.int .i64 g.lo, .int .i64 g.hi, .int .i64 g.turn, ll, .string (str g.used)], gv] W K2 := by
    intro W hkW K2 hK2
    have hsW := hkW.size
    refine refAdd_spec (r2.keep hkW (by simp)) ⟨ll, rfl, m2.keep hkW (by simp)⟩ hok p.syn (hG2.keep hkW (by simp)) (fun z hz => by have := hrl z hz; omega) (fun z hz => by have := hml z hz; omega) (by omega) (fun s hs => by have := hgs s hs; omega) p.glo p.ghi (by omega) (by omega) hroom (by omega) ?_
    rw [← hg', ← hd', ← he]
    intro W' X Y SR' SM' hX hY hk hS1 hS2
    obtain ⟨sv', lv', rfl, _, _⟩ := hX.form
    obtain ⟨ll', rfl, hY⟩ := hY
    exact hK2 W' sv' lv' ll' SR' SM' hX hY hk hS1 hS2
  rw [zc39z, zc78z]
  have hd2 : Kp [] w2 w2.drew := kp_drew
  have hsd : w2.drew.heap.size = w2.heap.size := by simp
  refine ⟨?_, ?_, ?_⟩
  · refine callAdd w2.drew (hd2) fun w3 sv' lv' ll' SR' SM' hr' hm' kw3 hSR' hSM' => ?_
    have qw3 : Kp [] w2 w3 := (hd2).trans' kw3
    have sw3 := qw3.size
    have zw3 := kw3.size
    have hrl' := hr'.lt
    have hml' := hm'.lt
    rw [ex3a, ex3b, ex3c]
    refine ⟨?_, ?_⟩
    · rw [newG_k]
      obtain ⟨n7, hn7⟩ : ∃ n7, n7 = (w3).heap.size := ⟨_, rfl⟩
      obtain ⟨w4, ew4⟩ := ex_w (w' := (w3).alloc (.cells z39 39))
      have kw4 : Kp [] (w3) w4 := by rw [ew4]; exact kp_alloc
      have bn7 : w4.heap[n7]? = some (.cells z39 39) := by rw [ew4, hn7]; exact heap_new
      rw [← ew4, ← hn7]
      have ln7 := lt_of_blk bn7
      have qw4 : Kp [] w2 w4 := qw3.trans' kw4
      have sw4 := qw4.size
      have xw4 := qw4.get hxs2 (by simp)
      have tw4 := qw4.get hT2 (by simp)
      simp [-getElem?_pos, -Array.getElem?_eq_getElem, -List.length_flatten, List.getElem?_cons_zero, List.getElem?_cons_succ, stb3a, stb3b, stb3c, tw4, -ldn_p, -stn_p, -newG_k]
      rw [ld_m xw4, ld_q xw4]
      refine ⟨rfl, rfl, ?_⟩
      rw [newG_k]
      obtain ⟨n8, hn8⟩ : ∃ n8, n8 = (w4).heap.size := ⟨_, rfl⟩
      obtain ⟨w5, ew5⟩ := ex_w (w' := (w4).alloc (.cells z78 78))
      have kw5 : Kp [] (w4) w5 := by rw [ew5]; exact kp_alloc
      have bn8 : w5.heap[n8]? = some (.cells z78 78) := by rw [ew5, hn8]; exact heap_new
      rw [← ew5, ← hn8]
      have ln8 := lt_of_blk bn8
      have qw5 : Kp [] w2 w5 := qw4.trans' kw5
      have sw5 := qw5.size
      have xw5 := qw5.get hxs2 (by simp)
      have tw5 := qw5.get hT2 (by simp)
      simp [-getElem?_pos, -Array.getElem?_eq_getElem, -List.length_flatten, List.getElem?_cons_zero, List.getElem?_cons_succ, stb3a, stb3b, stb3c, tw5, -ldn_p, -stn_p, -newG_k]
      rw [ld_m xw5, ld_q xw5]
      refine ⟨rfl, rfl, ?_⟩
      have T := tail w5 n7 n8 sv' lv' ll' SR' SM' qw5 (by omega) (by omega) (by omega) (kw5.get bn7 (by simp)) (bn8) ((hr'.keep (kw4.trans' kw5) (by simp))) ((hm'.keep (kw4.trans' kw5) (by simp))) (fun y hy => ?_) (fun y hy => ?_)
      · first | exact T | (simp [-getElem?_pos, -Array.getElem?_eq_getElem, -List.length_flatten, List.getElem?_cons_zero, List.getElem?_cons_succ, stb3a, stb3b, stb3c, -ldn_p, -stn_p, -newG_k]; exact T)
      · have := hrl' y hy
        rcases hSR' y hy with hh | hh
        · have := hrl y hh
          exact ⟨.inl hh, by omega, by omega⟩
        · exact ⟨.inr (by omega), by omega, by omega⟩
      · have := hml' y hy
        rcases hSM' y hy with hh | hh
        · have := hml y hh
          exact ⟨.inl hh, by omega, by omega⟩
        · exact ⟨.inr (by omega), by omega, by omega⟩
    · rw [newG_k]
      obtain ⟨n8, hn8⟩ : ∃ n8, n8 = (w3).heap.size := ⟨_, rfl⟩
      obtain ⟨w4, ew4⟩ := ex_w (w' := (w3).alloc (.cells z78 78))
      have kw4 : Kp [] (w3) w4 := by rw [ew4]; exact kp_alloc
      have bn8 : w4.heap[n8]? = some (.cells z78 78) := by rw [ew4, hn8]; exact heap_new
      rw [← ew4, ← hn8]
      have ln8 := lt_of_blk bn8
      have qw4 : Kp [] w2 w4 := qw3.trans' kw4
      have sw4 := qw4.size
      have xw4 := qw4.get hxs2 (by simp)
      have tw4 := qw4.get hT2 (by simp)
      simp [-getElem?_pos, -Array.getElem?_eq_getElem, -List.length_flatten, List.getElem?_cons_zero, List.getElem?_cons_succ, stb3a, stb3b, stb3c, tw4, -ldn_p, -stn_p, -newG_k]
      rw [ld_m xw4, ld_q xw4]
      refine ⟨rfl, rfl, ?_⟩
      rw [newG_k]
      obtain ⟨n7, hn7⟩ : ∃ n7, n7 = (w4).heap.size := ⟨_, rfl⟩
      obtain ⟨w5, ew5⟩ := ex_w (w' := (w4).alloc (.cells z39 39))
      have kw5 : Kp [] (w4) w5 := by rw [ew5]; exact kp_alloc
      have bn7 : w5.heap[n7]? = some (.cells z39 39) := by rw [ew5, hn7]; exact heap_new
      rw [← ew5, ← hn7]
      have ln7 := lt_of_blk bn7
      have qw5 : Kp [] w2 w5 := qw4.trans' kw5
      have sw5 := qw5.size
      have xw5 := qw5.get hxs2 (by simp)
      have tw5 := qw5.get hT2 (by simp)
      simp [-getElem?_pos, -Array.getElem?_eq_getElem, -List.length_flatten, List.getElem?_cons_zero, List.getElem?_cons_succ, stb3a, stb3b, stb3c, tw5, -ldn_p, -stn_p, -newG_k]
      rw [ld_m xw5, ld_q xw5]
      refine ⟨rfl, rfl, ?_⟩
      have T := tail w5 n7 n8 sv' lv' ll' SR' SM' qw5 (by omega) (by omega) (by omega) (bn7) (kw5.get bn8 (by simp)) ((hr'.keep (kw4.trans' kw5) (by simp))) ((hm'.keep (kw4.trans' kw5) (by simp))) (fun y hy => ?_) (fun y hy => ?_)
      · first | exact T | (simp [-getElem?_pos, -Array.getElem?_eq_getElem, -List.length_flatten, List.getElem?_cons_zero, List.getElem?_cons_succ, stb3a, stb3b, stb3c, -ldn_p, -stn_p, -newG_k]; exact T)
      · have := hrl' y hy
        rcases hSR' y hy with hh | hh
        · have := hrl y hh
          exact ⟨.inl hh, by omega, by omega⟩
        · exact ⟨.inr (by omega), by omega, by omega⟩
      · have := hml' y hy
        rcases hSM' y hy with hh | hh
        · have := hml y hh
          exact ⟨.inl hh, by omega, by omega⟩
        · exact ⟨.inr (by omega), by omega, by omega⟩
  · rw [newG_k]
    obtain ⟨n7, hn7⟩ : ∃ n7, n7 = (w2.drew).heap.size := ⟨_, rfl⟩
    obtain ⟨w3, ew3⟩ := ex_w (w' := (w2.drew).alloc (.cells z39 39))
    have kw3 : Kp [] (w2.drew) w3 := by rw [ew3]; exact kp_alloc
    have bn7 : w3.heap[n7]? = some (.cells z39 39) := by rw [ew3, hn7]; exact heap_new
    rw [← ew3, ← hn7]
    have ln7 := lt_of_blk bn7
    have qw3 : Kp [] w2 w3 := hd2.trans' kw3
    have sw3 := qw3.size
    have xw3 := qw3.get hxs2 (by simp)
    have tw3 := qw3.get hT2 (by simp)
    simp [-getElem?_pos, -Array.getElem?_eq_getElem, -List.length_flatten, List.getElem?_cons_zero, List.getElem?_cons_succ, stb3a, stb3b, stb3c, tw3, -ldn_p, -stn_p, -newG_k]
    rw [ld_m xw3, ld_q xw3]
    refine ⟨rfl, rfl, ?_⟩
    refine ⟨?_, ?_⟩
    · refine callAdd w3 (qw3) fun w4 sv' lv' ll' SR' SM' hr' hm' kw4 hSR' hSM' => ?_
      have qw4 : Kp [] w2 w4 := (qw3).trans' kw4
      have sw4 := qw4.size
      have zw4 := kw4.size
      have hrl' := hr'.lt
      have hml' := hm'.lt
      rw [ex3a, ex3b, ex3c]
      rw [newG_k]
      obtain ⟨n8, hn8⟩ : ∃ n8, n8 = (w4).heap.size := ⟨_, rfl⟩
      obtain ⟨w5, ew5⟩ := ex_w (w' := (w4).alloc (.cells z78 78))
      have kw5 : Kp [] (w4) w5 := by rw [ew5]; exact kp_alloc
      have bn8 : w5.heap[n8]? = some (.cells z78 78) := by rw [ew5, hn8]; exact heap_new
      rw [← ew5, ← hn8]
      have ln8 := lt_of_blk bn8
      have qw5 : Kp [] w2 w5 := qw4.trans' kw5
      have sw5 := qw5.size
      have xw5 := qw5.get hxs2 (by simp)
      have tw5 := qw5.get hT2 (by simp)
      simp [-getElem?_pos, -Array.getElem?_eq_getElem, -List.length_flatten, List.getElem?_cons_zero, List.getElem?_cons_succ, stb3a, stb3b, stb3c, tw5, -ldn_p, -stn_p, -newG_k]
      rw [ld_m xw5, ld_q xw5]
      refine ⟨rfl, rfl, ?_⟩
      have T := tail w5 n7 n8 sv' lv' ll' SR' SM' qw5 (by omega) (by omega) (by omega) ((kw4.trans' kw5).get bn7 (by simp)) (bn8) (hr'.keep kw5 (by simp)) (hm'.keep kw5 (by simp)) (fun y hy => ?_) (fun y hy => ?_)
      · first | exact T | (simp [-getElem?_pos, -Array.getElem?_eq_getElem, -List.length_flatten, List.getElem?_cons_zero, List.getElem?_cons_succ, stb3a, stb3b, stb3c, -ldn_p, -stn_p, -newG_k]; exact T)
      · have := hrl' y hy
        rcases hSR' y hy with hh | hh
        · have := hrl y hh
          exact ⟨.inl hh, by omega, by omega⟩
        · exact ⟨.inr (by omega), by omega, by omega⟩
      · have := hml' y hy
        rcases hSM' y hy with hh | hh
        · have := hml y hh
          exact ⟨.inl hh, by omega, by omega⟩
        · exact ⟨.inr (by omega), by omega, by omega⟩
    · rw [newG_k]
      obtain ⟨n8, hn8⟩ : ∃ n8, n8 = (w3).heap.size := ⟨_, rfl⟩
      obtain ⟨w4, ew4⟩ := ex_w (w' := (w3).alloc (.cells z78 78))
      have kw4 : Kp [] (w3) w4 := by rw [ew4]; exact kp_alloc
      have bn8 : w4.heap[n8]? = some (.cells z78 78) := by rw [ew4, hn8]; exact heap_new
      rw [← ew4, ← hn8]
      have ln8 := lt_of_blk bn8
      have qw4 : Kp [] w2 w4 := qw3.trans' kw4
      have sw4 := qw4.size
      have xw4 := qw4.get hxs2 (by simp)
      have tw4 := qw4.get hT2 (by simp)
      simp [-getElem?_pos, -Array.getElem?_eq_getElem, -List.length_flatten, List.getElem?_cons_zero, List.getElem?_cons_succ, stb3a, stb3b, stb3c, tw4, -ldn_p, -stn_p, -newG_k]
      rw [ld_m xw4, ld_q xw4]
      refine ⟨rfl, rfl, ?_⟩
      refine callAdd w4 (qw4) fun w5 sv' lv' ll' SR' SM' hr' hm' kw5 hSR' hSM' => ?_
      have qw5 : Kp [] w2 w5 := (qw4).trans' kw5
      have sw5 := qw5.size
      have zw5 := kw5.size
      have hrl' := hr'.lt
      have hml' := hm'.lt
      have T := tail w5 n7 n8 sv' lv' ll' SR' SM' qw5 (by omega) (by omega) (by omega) ((kw4.trans' kw5).get bn7 (by simp)) (kw5.get bn8 (by simp)) (hr') (hm') (fun y hy => ?_) (fun y hy => ?_)
      · first | exact T | (simp [-getElem?_pos, -Array.getElem?_eq_getElem, -List.length_flatten, List.getElem?_cons_zero, List.getElem?_cons_succ, stb3a, stb3b, stb3c, -ldn_p, -stn_p, -newG_k]; exact T)
      · have := hrl' y hy
        rcases hSR' y hy with hh | hh
        · have := hrl y hh
          exact ⟨.inl hh, by omega, by omega⟩
        · exact ⟨.inr (by omega), by omega, by omega⟩
      · have := hml' y hy
        rcases hSM' y hy with hh | hh
        · have := hml y hh
          exact ⟨.inl hh, by omega, by omega⟩
        · exact ⟨.inr (by omega), by omega, by omega⟩
  · rw [newG_k]
    obtain ⟨n8, hn8⟩ : ∃ n8, n8 = (w2.drew).heap.size := ⟨_, rfl⟩
    obtain ⟨w3, ew3⟩ := ex_w (w' := (w2.drew).alloc (.cells z78 78))
    have kw3 : Kp [] (w2.drew) w3 := by rw [ew3]; exact kp_alloc
    have bn8 : w3.heap[n8]? = some (.cells z78 78) := by rw [ew3, hn8]; exact heap_new
    rw [← ew3, ← hn8]
    have ln8 := lt_of_blk bn8
    have qw3 : Kp [] w2 w3 := hd2.trans' kw3
    have sw3 := qw3.size
    have xw3 := qw3.get hxs2 (by simp)
    have tw3 := qw3.get hT2 (by simp)
    simp [-getElem?_pos, -Array.getElem?_eq_getElem, -List.length_flatten, List.getElem?_cons_zero, List.getElem?_cons_succ, stb3a, stb3b, stb3c, tw3, -ldn_p, -stn_p, -newG_k]
    rw [ld_m xw3, ld_q xw3]
    refine ⟨rfl, rfl, ?_⟩
    refine ⟨?_, ?_⟩
    · refine callAdd w3 (qw3) fun w4 sv' lv' ll' SR' SM' hr' hm' kw4 hSR' hSM' => ?_
      have qw4 : Kp [] w2 w4 := (qw3).trans' kw4
      have sw4 := qw4.size
      have zw4 := kw4.size
      have hrl' := hr'.lt
      have hml' := hm'.lt
      rw [ex3a, ex3b, ex3c]
      rw [newG_k]
      obtain ⟨n7, hn7⟩ : ∃ n7, n7 = (w4).heap.size := ⟨_, rfl⟩
      obtain ⟨w5, ew5⟩ := ex_w (w' := (w4).alloc (.cells z39 39))
      have kw5 : Kp [] (w4) w5 := by rw [ew5]; exact kp_alloc
      have bn7 : w5.heap[n7]? = some (.cells z39 39) := by rw [ew5, hn7]; exact heap_new
      rw [← ew5, ← hn7]
      have ln7 := lt_of_blk bn7
      have qw5 : Kp [] w2 w5 := qw4.trans' kw5
      have sw5 := qw5.size
      have xw5 := qw5.get hxs2 (by simp)
      have tw5 := qw5.get hT2 (by simp)
      simp [-getElem?_pos, -Array.getElem?_eq_getElem, -List.length_flatten, List.getElem?_cons_zero, List.getElem?_cons_succ, stb3a, stb3b, stb3c, tw5, -ldn_p, -stn_p, -newG_k]
      rw [ld_m xw5, ld_q xw5]
      refine ⟨rfl, rfl, ?_⟩
      have T := tail w5 n7 n8 sv' lv' ll' SR' SM' qw5 (by omega) (by omega) (by omega) (bn7) ((kw4.trans' kw5).get bn8 (by simp)) (hr'.keep kw5 (by simp)) (hm'.keep kw5 (by simp)) (fun y hy => ?_) (fun y hy => ?_)
      · first | exact T | (simp [-getElem?_pos, -Array.getElem?_eq_getElem, -List.length_flatten, List.getElem?_cons_zero, List.getElem?_cons_succ, stb3a, stb3b, stb3c, -ldn_p, -stn_p, -newG_k]; exact T)
      · have := hrl' y hy
        rcases hSR' y hy with hh | hh
        · have := hrl y hh
          exact ⟨.inl hh, by omega, by omega⟩
        · exact ⟨.inr (by omega), by omega, by omega⟩
      · have := hml' y hy
        rcases hSM' y hy with hh | hh
        · have := hml y hh
          exact ⟨.inl hh, by omega, by omega⟩
        · exact ⟨.inr (by omega), by omega, by omega⟩
    · rw [newG_k]
      obtain ⟨n7, hn7⟩ : ∃ n7, n7 = (w3).heap.size := ⟨_, rfl⟩
      obtain ⟨w4, ew4⟩ := ex_w (w' := (w3).alloc (.cells z39 39))
      have kw4 : Kp [] (w3) w4 := by rw [ew4]; exact kp_alloc
      have bn7 : w4.heap[n7]? = some (.cells z39 39) := by rw [ew4, hn7]; exact heap_new
      rw [← ew4, ← hn7]
      have ln7 := lt_of_blk bn7
      have qw4 : Kp [] w2 w4 := qw3.trans' kw4
      have sw4 := qw4.size
      have xw4 := qw4.get hxs2 (by simp)
      have tw4 := qw4.get hT2 (by simp)
      simp [-getElem?_pos, -Array.getElem?_eq_getElem, -List.length_flatten, List.getElem?_cons_zero, List.getElem?_cons_succ, stb3a, stb3b, stb3c, tw4, -ldn_p, -stn_p, -newG_k]
      rw [ld_m xw4, ld_q xw4]
      refine ⟨rfl, rfl, ?_⟩
      refine callAdd w4 (qw4) fun w5 sv' lv' ll' SR' SM' hr' hm' kw5 hSR' hSM' => ?_
      have qw5 : Kp [] w2 w5 := (qw4).trans' kw5
      have sw5 := qw5.size
      have zw5 := kw5.size
      have hrl' := hr'.lt
      have hml' := hm'.lt
      have T := tail w5 n7 n8 sv' lv' ll' SR' SM' qw5 (by omega) (by omega) (by omega) (kw5.get bn7 (by simp)) ((kw4.trans' kw5).get bn8 (by simp)) (hr') (hm') (fun y hy => ?_) (fun y hy => ?_)
      · first | exact T | (simp [-getElem?_pos, -Array.getElem?_eq_getElem, -List.length_flatten, List.getElem?_cons_zero, List.getElem?_cons_succ, stb3a, stb3b, stb3c, -ldn_p, -stn_p, -newG_k]; exact T)
      · have := hrl' y hy
        rcases hSR' y hy with hh | hh
        · have := hrl y hh
          exact ⟨.inl hh, by omega, by omega⟩
        · exact ⟨.inr (by omega), by omega, by omega⟩
      · have := hml' y hy
        rcases hSM' y hy with hh | hh
        · have := hml y hh
          exact ⟨.inl hh, by omega, by omega⟩
        · exact ⟨.inr (by omega), by omega, by omega⟩
end
end Go.Proofs

/- Layer 4: a log beside the document's: any call on both. -/
set_option linter.unusedVariables false
set_option linter.unusedSimpArgs false
namespace Go.Proofs
open Go Go.Q
section
variable {w0 w : World} {x a b : Nat} {g : LG} {d : DK} {B SR SM : List Nat} {sv lv ll : Value} {lo hi : Nat} {K : Value → World → Prop}
theorem syn_fuse {d : DK} (h : Syn d) (n : Int) : Syn { d with fuse := n } := h
theorem does_spec (p : PS w0 w x a b g d B SR SM sv lv ll lo hi) (hl : d.l.length < 2 ^ 36) {kind n : Int} {gv kv : Value} {more : Bool} {group : List (List UInt8)} {SG : List Nat} (hgv : ArgAt w0 gv 1 (group.map strV) SG) (hSG : ∀ z ∈ SG, z < w0.heap.size) (h8 : group.length ≤ 8) (hgs : ∀ s ∈ group, s.length ≤ 4096)
    {ks : List Int} {SK : List Nat} (hks : IntsAt w0 kv ks SK) (hSK : ∀ z ∈ SK, z < w0.heap.size) (hkw : ∀ z ∈ ks, -9223372036854775808 ≤ z ∧ z < 9223372036854775808) (hn : n < 9223372036854775808) (htu : g.turn + 7 ≤ 2147483647)
    (hK : Done w0 x b lo hi (g.turn + 7) (d.l.length + 25) K) :
    callG Try.prog 42 #[.pointer (some ⟨x, 0, none⟩), .agg #[.int .i64 kind, .int .i64 n, gv, kv, .bool more]] w K := by
  have hK' : Done w0 x b lo hi g.turn (d.l.length + 25) K := fun w' a g' d' B SR SM sv lv ll ps h1 h2 => hK w' a g' d' B SR SM sv lv ll ps (by omega) h2
  by_cases k1 : kind = 1
  · subst k1
    exact doesAdd_spec p hl hgv hSG h8 hgs hks hSK hkw hK'
  refine law04_side_does_call ?_
  unfold law04_side_does law04_side_does_s1
  have hok := p.ol.ok
  rw [newG_k]
  obtain ⟨t, ht⟩ : ∃ t, t = w.heap.size := ⟨_, rfl⟩
  obtain ⟨w1, hw1⟩ := ex_w (w' := w.alloc (.cells (Value.cells (.agg #[.int .i64 kind, .int .i64 n, gv, kv, .bool more])) 84))
  have hk1 : Kp [] w w1 := by rw [hw1]; exact kp_alloc
  have hT1 : w1.heap[t]? = some (.cells #[.int .i64 kind, .int .i64 n, gv, kv, .bool more] 84) := by rw [hw1, ht]; exact heap_new
  rw [← hw1, ← ht]
  have p1 := p.keep hk1
  have hx1 := p1.hx
  unfold sideC at hx1
  have hBl0 := p.ol.live
  have htB : t ∉ B := fun hm => by have := hBl0 t hm; omega
  have hxt : x < t := by rw [ht]; exact lt_of_blk p.hx
  have hpt := p.turn
  have hpt' : 1 ≤ g.turn ∧ g.turn ≤ 2147483647 := by simpa [turnOk] using hpt
  by_cases k2 : kind = 2
  · subst k2
    simp [-getElem?_pos, -Array.getElem?_eq_getElem, -List.length_flatten, List.getElem?_cons_zero, List.getElem?_cons_succ, hT1, hx1, -ldn_p, -stn_p, -newG_k]
    refine ol_sync p1.ol (by omega) fun w2 o2 hk2 => ?_
    have hx2 := hk2.get p1.hx p1.xB
    have hT2 := hk2.get hT1 htB
    have r2 := p1.ref.keep hk2 fun y hy => (p1.apR y hy).1
    rw [ld_q hx2]
    refine ref_Flush r2 hok (by omega) fun w3 y3 SR3 hr3 hk3 hS3 => ?_
    obtain ⟨sv3, lv3, rfl, q1, q2⟩ := hr3.form
    simp [-getElem?_pos, -Array.getElem?_eq_getElem, -List.length_flatten, List.getElem?_cons_zero, List.getElem?_cons_succ, zc39z, -ldn_p, -stn_p, -newG_k]
    rw [newG_k]
    obtain ⟨n7, hn7⟩ : ∃ n7, n7 = w3.heap.size := ⟨_, rfl⟩
    obtain ⟨w4, hw4⟩ := ex_w (w' := w3.alloc (.cells z39 39))
    have k4 : Kp [] w3 w4 := by rw [hw4]; exact kp_alloc
    have b4 : w4.heap[n7]? = some (.cells z39 39) := by rw [hw4, hn7]; exact heap_new
    rw [← hw4, ← hn7, stA (k := 4) b4 rfl rfl (qc_one q1 q2)]
    obtain ⟨w5, hw5⟩ := ex_w (w' := setBlk w4 n7 (.cells (qc sv3 lv3 d.flush.1) 39))
    have k5 : Kp [n7] w4 w5 := by rw [hw5]; exact (Kp.refl _ w4).setBlk (.inl (by simp)) _
    have b5 : w5.heap[n7]? = some (.cells (qc sv3 lv3 d.flush.1) 39) := by rw [hw5]; exact heap_self (live_of b4)
    rw [← hw5, ldA (k := 4) b5 rfl]
    have k35 : Kp [] w3 w5 := k4.trans k5 fun y hy hlt => by simp at hy; omega
    have k25 : Kp [] w2 w5 := hk3.trans' k35
    have k15 : Kp B w1 w5 := hk2.trans' (k25.mono (by simp))
    have hx5 := k25.get hx2 (by simp)
    have hrl3 := hr3.lt
    have sz2 := hk2.size
    rw [st_q hx5 q1 q2]
    have ps := p1.disk (o2.keep0 k25) k15 (hr3.keep k35 (by simp)) (fun y hy => (hS3 y hy).imp id fun h => by omega) (syn_flush p.syn).1 (flush_now d)
    have hfl := (syn_flush p.syn).2
    have hT6 := (k15.get hT1 htB : w5.heap[t]? = some (.cells #[.int .i64 2, .int .i64 n, gv, kv, .bool more] 84))
    exact does_s0 ps (by omega) (by rw [heap_ne (by omega)]; exact hT6) hks hSK hkw (Int.le_refl _) (by omega) hK'
  by_cases k3 : kind = 3
  · subst k3
    simp [-getElem?_pos, -Array.getElem?_eq_getElem, -List.length_flatten, List.getElem?_cons_zero, List.getElem?_cons_succ, hT1, hx1, -ldn_p, -stn_p, -newG_k]
    rw [ld_q (w := w1.drew) (by rw [heap_drew]; exact p1.hx)]
    refine ref_Fuse (p1.ref.keep kp_drew (by simp)) n hn fun w2 y2 hr2 hk2 => ?_
    obtain ⟨sv2, lv2, rfl, q1, q2⟩ := hr2.form
    have hk12 : Kp [] w1 w2 := kp_drew.trans' hk2
    have p2 := p1.keep hk12
    have hT2 := hk12.get hT1 (by simp)
    rw [st_q p2.hx q1 q2]
    obtain ⟨w3, hw3⟩ := ex_w (w' := setBlk w2 x (.cells (sideC (.pointer (some ⟨b, 0, none⟩)) (.pointer (some ⟨a, 0, none⟩)) sv2 lv2 { d with fuse := max n (-1) } (.int .i64 g.lo) (.int .i64 g.hi) (.int .i64 g.turn) ll (.string (str g.used)) lo hi) 80))
    have k3 : Kp [x] w2 w3 := by rw [hw3]; exact (Kp.refl _ w2).setBlk (.inl (by simp)) _
    have hx3 : w3.heap[x]? = some (.cells (sideC (.pointer (some ⟨b, 0, none⟩)) (.pointer (some ⟨a, 0, none⟩)) sv2 lv2 { d with fuse := max n (-1) } (.int .i64 g.lo) (.int .i64 g.hi) (.int .i64 g.turn) ll (.string (str g.used)) lo hi) 80) := by rw [hw3]; exact heap_self (live_of p2.hx)
    have hk03 : Kp [] w0 w3 := p2.ol.kp.trans k3 fun y hy hlt => by have := p.x0; simp at hy; omega
    have o3 := p2.ol.keep k3 (fun y hy hm => by simp at hm; subst hm; exact p.xB hy) hk03
    have hT3 := k3.get hT2 (by simp; omega)
    rw [← hw3]
    have hx3' := hx3
    unfold sideC at hx3'
    simp [-getElem?_pos, -Array.getElem?_eq_getElem, -List.length_flatten, List.getElem?_cons_zero, List.getElem?_cons_succ, hT3, hx3', -ldn_p, -stn_p, -newG_k]
    refine ol_fuse (o3.keep0 kp_drew) n hn fun w4 o4 hk4 => ?_
    have hk34 : Kp B w3 w4 := (kp_drew.mono (by simp)).trans' hk4
    simp [-getElem?_pos, -Array.getElem?_eq_getElem, -List.length_flatten, List.getElem?_cons_zero, List.getElem?_cons_succ, -ldn_p, -stn_p, -newG_k]
    refine hK w4 a g { d with fuse := max n (-1) } B SR SM sv2 lv2 ll ⟨hk34.get hx3 p.xB, o4, ?_, ?_, p.x0, p.xB, p.apR, p.apM, p.syn, p.glo, p.ghi, p.lh, p.h24, p.now, p.turn, p.room, p.recs⟩ (by omega) (by simp)
    · exact (hr2.keep k3 fun y hy => by simpa using (p.apR y hy).2.1).keep hk34 fun y hy => (p.apR y hy).1
    · exact (p2.rl.keep k3 fun y hy => by simpa using (p.apM y hy).2.1).keep hk34 fun y hy => (p.apM y hy).1
  · have hcr : ∀ tu : Int, g.turn ≤ tu → tu ≤ g.turn + 7 → callG Try.prog 67 #[.pointer (some ⟨x, 0, none⟩), kv, .int .i64 tu] w1 K := by
      intro tu h1 h2
      refine sideCrash_spec p1 (by omega) hks hSK hkw (by simp [turnOk]; omega) fun w' a g' B SR SM sv lv ll ht' ps => ?_
      exact hK w' a g' _ B SR SM sv lv ll ps (by omega) (by rw [(syn_crash d ks).2]; omega)
    have hm := Int.emod_nonneg n (show (8 : Int) ≠ 0 by omega)
    have hm2 := Int.emod_lt_of_pos n (show (0 : Int) < 8 by omega)
    have hw8 : IntKind.i64.wrap (g.turn + n % 8) = g.turn + n % 8 := w64 (by omega) (by omega)
    have hand : ∀ {T : TypeId} {xo yo : Operand} {w : World} {K : Value → Prop}, qG Try.prog (bq .and T xo yo (.int .i64 n) (.int .i64 7)) w K = K (.int .i64 (n % 8)) := fun {T xo yo w K} => and_of 3 (by omega) rfl
    simp [-getElem?_pos, -Array.getElem?_eq_getElem, -List.length_flatten, List.getElem?_cons_zero, List.getElem?_cons_succ, hT1, hx1, k1, k2, k3, hand, hw8, -ldn_p, -stn_p, -newG_k]
    cases more with
    | true => simp [-getElem?_pos, -Array.getElem?_eq_getElem, -List.length_flatten, List.getElem?_cons_zero, List.getElem?_cons_succ, -ldn_p]; exact hcr _ (by omega) (by omega)
    | false => simp [-getElem?_pos, -Array.getElem?_eq_getElem, -List.length_flatten, List.getElem?_cons_zero, List.getElem?_cons_succ, -ldn_p]; exact hcr _ (by omega) (by omega)
end
end Go.Proofs

/- WalPlays: the loop, the call, and what came in. -/
set_option linter.unusedVariables false
set_option linter.unusedSimpArgs false
namespace Go.Proofs
open Go Go.Q
/-- a call that came in -/
structure Act4 (w : World) (r : List Value) (kind n : Int) (gv kv : Value) (more : Bool) (group : List (List UInt8)) (SG : List Nat) (ks : List Int) (SK : List Nat) : Prop where
  row : r = [.int .i64 kind, .int .i64 n, gv, kv, .bool more]
  hg : ArgAt w gv 1 (group.map strV) SG
  lg : ∀ z ∈ SG, z < w.heap.size
  hk : IntsAt w kv ks SK
  lk : ∀ z ∈ SK, z < w.heap.size
  k64 : ∀ z ∈ ks, -9223372036854775808 ≤ z ∧ z < 9223372036854775808
  n64 : n < 9223372036854775808
section
variable {w0 : World} {R : Value → World → Prop} {x b : Nat} {lo hi : Nat} {x2 : Value}
theorem plays4_loop (hR : ∀ w', Kp [] w0 w' → R (.bool true) w') {rows : List (List Value)} {SA : List Nat} (hx : ArgAt w0 x2 5 rows SA) (hacts : ∀ r ∈ rows, ∃ kind n gv kv more group SG ks SK, Act4 w0 r kind n gv kv more group SG ks SK)
    {w : World} {a : Nat} {g : LG} {d : DK} {B SR SM : List Nat} {sv lv ll : Value} (p : PS w0 w x a b g d B SR SM sv lv ll lo hi) (hl : d.l.length = 0) (ht : g.turn = 1) : law04_WalPlays_s4 R x2 (.pointer (some ⟨x, 0, none⟩)) w := by
  have haw : ∀ w', Kp [] w0 w' → callG Try.prog 29 #[] w' fun t w => R t w := fun w' hk => awake4_spec fun w'' hk' => hR w'' (hk.trans' hk')
  unfold law04_WalPlays_s4 law04_WalPlays_L3
  refine loop_inv (fun m xs wi => ∃ i a g d B SR SM sv lv ll, i ≤ 30 ∧ m = 30 - i ∧ xs = [x2, .pointer (some ⟨x, 0, none⟩), .int .i64 (i : Nat)] ∧ PS w0 wi x a b g d B SR SM sv lv ll lo hi ∧ g.turn ≤ 1 + 7 * i ∧ d.l.length ≤ 25 * i)
    ?_ (m := 30) ⟨0, a, g, d, B, SR, SM, sv, lv, ll, by omega, rfl, rfl, p, by omega, by omega⟩
  rintro m N xs wi ⟨i, a, g, d, B, SR, SM, sv, lv, ll, hi', rfl, rfl, pi, hti, hdi⟩ hN
  have hxi := hx.keep pi.ol.kp (by simp)
  unfold law04_WalPlays_L3F law04_WalPlays_s2
  simp [-getElem?_pos, -Array.getElem?_eq_getElem, -List.length_flatten, List.getElem?_cons_zero, List.getElem?_cons_succ, hxi.lenL, law04_WalPlays_s0]
  refine ⟨fun h1 => ⟨fun h2 => ?_, fun _ => haw _ pi.ol.kp⟩, fun _ => haw _ pi.ol.kp⟩
  obtain ⟨kind, n, gv, kv, more, group, SG, ks, SK, act⟩ := hacts _ (List.getElem_mem h1)
  obtain ⟨bl, o, T, c, fr, _, hh, hia, hle, hex, hc⟩ := hxi.at h1
  have hiw : IntKind.i64.wrap ((i : Int) + 1) = ((i + 1 : Nat) : Int) := by rw [w64 (by omega) (by omega)]; simp
  have hrow := act.row
  have hc2 : c[o + 2]? = some gv := by have := hc 2 (by omega); rw [hrow] at this; simpa using this
  unfold law04_WalPlays_s1
  simp [-getElem?_pos, -Array.getElem?_eq_getElem, -List.length_flatten, List.getElem?_cons_zero, List.getElem?_cons_succ, hia, hh, hc2, -ldn_p]
  refine few_spec (act.hg.keep pi.ol.kp (by simp)) fun f hf => ?_
  cases f with
  | false => simp [-getElem?_pos, -Array.getElem?_eq_getElem, -List.length_flatten, List.getElem?_cons_zero, List.getElem?_cons_succ, ]; exact haw _ pi.ol.kp
  | true =>
    obtain ⟨h8, hs⟩ := hf rfl
    simp [-getElem?_pos, -Array.getElem?_eq_getElem, -List.length_flatten, List.getElem?_cons_zero, List.getElem?_cons_succ, -ldn_p]
    have hld : ∀ K : Value → Prop, ldn 5 (.pointer (some ⟨bl, o, none⟩)) wi K = K (.agg #[.int .i64 kind, .int .i64 n, gv, kv, .bool more]) := by
      intro K
      rw [ldO (r := c.extract o (o + 5)) hh hle rfl, hex, hrow]
    rw [hld]
    refine does_spec pi (by omega) act.hg act.lg h8 hs act.hk act.lk act.k64 act.n64 (by omega) fun w' a g' d' B SR SM sv lv ll ps h1' h2' => ?_
    simp [-getElem?_pos, -Array.getElem?_eq_getElem, -List.length_flatten, List.getElem?_cons_zero, List.getElem?_cons_succ, hiw]
    refine hN (30 - (i + 1)) _ w' (by omega) ⟨i + 1, a, g', d', B, SR, SM, sv, lv, ll, by omega, rfl, by simp, ps, by omega, by omega⟩
end
end Go.Proofs

/- WalNobody. -/
set_option linter.unusedVariables false
set_option linter.unusedSimpArgs false
namespace Go.Proofs
open Go Go.Q
theorem Open_nob {w : World} {v : Value} (h : Nob w v) (hv : Q.one v = true) (lo hi turn : Int) {K : Value → World → Prop} (hK : ∀ w', Kp [] w w' → K (.tuple #[.pointer none, .int .i64 1]) w') :
    callG Try.prog 35 #[v, .int .i64 lo, .int .i64 hi, .int .i64 turn] w K := by
  refine wal_Open_call ?_
  simp only [wal_Open, wal_Open_s1]
  rw [newG_k, cells_one hv]
  obtain ⟨n, hn⟩ : ∃ n, n = w.heap.size := ⟨_, rfl⟩
  obtain ⟨w1, hw1⟩ : ∃ w1, w1 = w.alloc (.cells #[v] 23) := ⟨_, rfl⟩
  have hk1 : Kp [] w w1 := by rw [hw1]; exact (Kp.refl [] w).alloc _
  have hX1 : w1.heap[n]? = some (.cells #[v] 23) := by rw [hw1, hn]; exact heap_new
  rw [← hn, ← hw1]
  have h1 : Nob w1 v := by
    rcases h with h | ⟨b, T, fr, h2, h3⟩
    · exact .inl h
    · exact .inr ⟨b, T, fr, h2, hk1.get h3 (by simp)⟩
  simp [-getElem?_pos, -Array.getElem?_eq_getElem, -List.length_flatten, List.getElem?_cons_zero, List.getElem?_cons_succ, hX1]
  refine ⟨fun _ => hK w1 hk1, fun h0 => nob_Size h1 ?_⟩
  simp [-getElem?_pos, -Array.getElem?_eq_getElem, -List.length_flatten, List.getElem?_cons_zero, List.getElem?_cons_succ, ]
  refine ⟨fun _ => hK w1 hk1, fun h2 => ⟨fun _ => hK w1 hk1, fun h3 => ?_⟩⟩
  exfalso; omega
/-- a log that nobody opened -/
def NobL (w : World) (v : Value) : Prop := v = .pointer none ∨ ∃ b T fr, v = .pointer (some ⟨b, 0, none⟩) ∧ w.heap[b]? = some (.cells #[.pointer none, .int .i64 0, .int .i64 0, .int .i64 0, .slice none 0 0, .string (str [])] T fr)
theorem NobL.keep {w w' : World} {v : Value} (h : NobL w v) (hk : Kp [] w w') : NobL w' v := by
  rcases h with h | ⟨b, T, fr, h2, h3⟩
  · exact .inl h
  · exact .inr ⟨b, T, fr, h2, hk.get h3 (by simp)⟩
section
variable {w : World} {v : Value} (h : NobL w v) {K : Value → World → Prop}
include h
theorem nobL_given (hK : K (.bool false) w) : callG Try.prog 60 #[v] w K := by
  refine wal_Log_given_call ?_
  rcases h with rfl | ⟨b, T, fr, rfl, hb⟩
  · simpa [wal_Log_given, wal_Log_given_s0] using hK
  · simpa [wal_Log_given, wal_Log_given_s0, hb] using hK
theorem nobL_Records (hK : K (.slice none 0 0) w) : callG Try.prog 37 #[v] w K := by
  refine wal_Log_Records_call ?_
  simp only [wal_Log_Records, wal_Log_Records_s0]
  refine nobL_given h ?_
  simp [-getElem?_pos, -Array.getElem?_eq_getElem, -List.length_flatten, List.getElem?_cons_zero, List.getElem?_cons_succ, ]
  exact hK
theorem nobL_Sync (hK : K (.int .i64 1) w) : callG Try.prog 39 #[v] w K := by
  refine wal_Log_Sync_call ?_
  simp only [wal_Log_Sync, wal_Log_Sync_s0]
  refine nobL_given h ?_
  simp [-getElem?_pos, -Array.getElem?_eq_getElem, -List.length_flatten, List.getElem?_cons_zero, List.getElem?_cons_succ, ]
  exact hK
theorem nobL_Used (hK : K (.int .i64 0) w) : callG Try.prog 38 #[v] w K := by
  refine wal_Log_Used_call ?_
  simp only [wal_Log_Used, wal_Log_Used_s0]
  refine nobL_given h ?_
  simp [-getElem?_pos, -Array.getElem?_eq_getElem, -List.length_flatten, List.getElem?_cons_zero, List.getElem?_cons_succ, ]
  exact hK
theorem nobL_Add (hv : Q.one v = true) (gv : Value) (hK : ∀ w', Kp [] w w' → K (.int .i64 1) w') : callG Try.prog 36 #[v, gv] w K := by
  refine wal_Log_Add_call ?_
  simp only [wal_Log_Add, wal_Log_Add_s5]
  rw [newG_k, cells_one hv]
  obtain ⟨w1, hw1⟩ : ∃ w1, w1 = w.alloc (.cells #[v] 64) := ⟨_, rfl⟩
  have hk1 : Kp [] w w1 := by rw [hw1]; exact (Kp.refl [] w).alloc _
  have hX1 : w1.heap[w.heap.size]? = some (.cells #[v] 64) := by rw [hw1]; exact heap_new
  rw [← hw1]
  simp only [ld1_p, rd1_mk, hX1]
  have hget : (#[v] : Array Value)[0]? = some v := rfl
  simp only [hget]
  refine nobL_given (h.keep hk1) ?_
  simp [-getElem?_pos, -Array.getElem?_eq_getElem, -List.length_flatten, List.getElem?_cons_zero, List.getElem?_cons_succ, ]
  exact hK w1 hk1
end
theorem nobody4_call {lo hi turn : Int} {w0 : World} {R : Value → World → Prop} (hR : ∀ w', Kp [] w0 w' → R (.bool true) w') : callG Try.prog 9 #[.int .i64 lo, .int .i64 hi, .int .i64 turn] w0 R := by
  refine law04_WalNobody_call ?_
  simp only [law04_WalNobody, law04_WalNobody_s5]
  refine Open_nob (.inl rfl) rfl lo hi turn fun w1 hk1 => ?_
  obtain ⟨z, hz⟩ : ∃ z : Array Value, z = #[.slice none 0 0, .slice none 0 0, .slice none 0 0, .int .i64 0, .bool false] := ⟨_, rfl⟩
  have hbld : ∀ K : Value → Prop, bld [(0, 1), (1, 1), (2, 1), (3, 1), (4, 1)] (zc Try.prog 56) #[] K = K (.agg z) := by intro K; rw [zc56, hz]; rfl
  rw [ex0, ex1, hbld, newG_k]
  have hcz : Value.cells (.agg z) = z := rfl
  rw [hcz]
  obtain ⟨w2, hw2⟩ : ∃ w2, w2 = w1.alloc (.cells z 56) := ⟨_, rfl⟩
  have hk2 : Kp [] w1 w2 := by rw [hw2]; exact (Kp.refl [] w1).alloc _
  have hz2 : w2.heap[w1.heap.size]? = some (.cells z 56) := by rw [hw2]; exact heap_new
  rw [← hw2]
  refine Open_nob (.inr ⟨_, 56, (0, 0), rfl, by rw [hz2, hz]⟩) rfl lo hi turn fun w3 hk3 => ?_
  rw [ex0, ex1]
  simp [-getElem?_pos, -Array.getElem?_eq_getElem, -List.length_flatten, List.getElem?_cons_zero, List.getElem?_cons_succ, ]
  unfold law04_WalNobody_s4
  obtain ⟨y, hy⟩ : ∃ y : Array Value, y = #[.pointer none, .int .i64 0, .int .i64 0, .int .i64 0, .slice none 0 0, .string (str [])] := ⟨_, rfl⟩
  have hbld2 : ∀ K : Value → Prop, bld [(0, 1), (1, 1), (2, 1), (3, 1), (4, 1), (5, 1)] (zc Try.prog 71) #[] K = K (.agg y) := by intro K; rw [zc71, hy]; rfl
  have hcy : Value.cells (.agg y) = y := rfl
  rw [hbld2, newG_k, hcy, bsl_two rfl rfl]
  obtain ⟨w4, hw4⟩ : ∃ w4, w4 = (w3.alloc (.cells y 71)).alloc (.cells #[.pointer none, .pointer (some ⟨w3.heap.size, 0, none⟩)] 64) := ⟨_, rfl⟩
  have hk4 : Kp [] w3 w4 := by rw [hw4]; exact ((Kp.refl [] w3).alloc _).alloc _
  have hss : (w3.alloc (.cells y 71)).heap.size = w3.heap.size + 1 := by simp
  have hsl : w4.heap[w3.heap.size + 1]? = some (.cells #[.pointer none, .pointer (some ⟨w3.heap.size, 0, none⟩)] 64) := by
    rw [hw4]; have := @heap_new (w3.alloc (.cells y 71)) (.cells #[.pointer none, .pointer (some ⟨w3.heap.size, 0, none⟩)] 64)
    simpa using this
  have hyb : w4.heap[w3.heap.size]? = some (.cells y 71) := by
    rw [hw4, heap_alloc, if_neg (by simp), heap_new]
  rw [← hw4, hss]
  have hk04 : Kp [] w0 w4 := ((hk1.trans' hk2).trans' hk3).trans' hk4
  simp only [law04_WalNobody_s3]
  unfold law04_WalNobody_L2
  refine loop_inv (fun m xs w => ∃ i : Nat, i ≤ 2 ∧ m = 2 - i ∧ xs = [.slice (some ⟨w3.heap.size + 1, 0, none⟩) 2 2, .int .i64 (i : Nat)] ∧ Kp [] w4 w)
    ?_ (m := 2) ⟨0, by omega, rfl, rfl, Kp.refl _ _⟩
  rintro m N xs w ⟨i, hi, rfl, rfl, hk⟩ hN
  simp only [law04_WalNobody_L2F, law04_WalNobody_b1, law04_WalNobody_s0, lenL_s, bq_lss, bV_b]
  refine ⟨fun hlt => ?_, fun _ => awake4_spec fun w' hk' => hR w' ((hk04.trans' hk).trans' hk')⟩
  have hlt : i < 2 := by simp at hlt; omega
  obtain ⟨c, hc⟩ : ∃ c : Array Value, c = #[.pointer none, .pointer (some ⟨w3.heap.size, 0, none⟩)] := ⟨_, rfl⟩
  obtain ⟨v, hv, hnb, hone⟩ : ∃ v, c[i]? = some v ∧ NobL w4 v ∧ Q.one v = true := by
    rw [hc]
    match i, hlt with
    | 0, _ => exact ⟨_, rfl, .inl rfl, rfl⟩
    | 1, _ => exact ⟨_, rfl, .inr ⟨_, 71, (0, 0), rfl, by rw [hyb, hy]⟩, rfl⟩
  rw [← hc] at hsl
  have hsl1 := hk.get hsl (by simp)
  have hiw : IntKind.i64.wrap ((i : Int) + 1) = ((i + 1 : Nat) : Int) := by rw [w64 (by omega) (by omega)]; simp
  have hlti : (i : Int) < 2 := by omega
  simp [-getElem?_pos, -Array.getElem?_eq_getElem, -List.length_flatten, List.getElem?_cons_zero, List.getElem?_cons_succ, hsl1, hv, hlti]
  refine nobL_Records (hnb.keep hk) ?_
  simp [-getElem?_pos, -Array.getElem?_eq_getElem, -List.length_flatten, List.getElem?_cons_zero, List.getElem?_cons_succ, hsl1, hv, hlti]
  rw [bsl_one rfl]
  obtain ⟨w5, hw5⟩ : ∃ w5, w5 = w.alloc (.cells #[.string ⟨#[120]⟩] 9) := ⟨_, rfl⟩
  have hk5 : Kp [] w w5 := by rw [hw5]; exact (Kp.refl [] w).alloc _
  rw [← hw5]
  have hk45 := hk.trans' hk5
  refine nobL_Add (hnb.keep hk45) hone _ fun w6 hk6 => ?_
  have hk46 := hk45.trans' hk6
  have hsl6 := hk46.get hsl (by simp)
  simp [-getElem?_pos, -Array.getElem?_eq_getElem, -List.length_flatten, List.getElem?_cons_zero, List.getElem?_cons_succ, hsl6, hv, hlti]
  refine nobL_Sync (hnb.keep hk46) ?_
  simp [-getElem?_pos, -Array.getElem?_eq_getElem, -List.length_flatten, List.getElem?_cons_zero, List.getElem?_cons_succ, hsl6, hv, hlti]
  refine nobL_Used (hnb.keep hk46) ?_
  simp [-getElem?_pos, -Array.getElem?_eq_getElem, -List.length_flatten, List.getElem?_cons_zero, List.getElem?_cons_succ, hiw]
  exact hN (2 - (i + 1)) _ _ (by omega) ⟨i + 1, by omega, rfl, rfl, hk46⟩
end Go.Proofs

/- WalPlays: the call. -/
set_option linter.unusedVariables false
set_option linter.unusedSimpArgs false
namespace Go.Proofs
open Go Go.Q
theorem hz76 : hasZ Try.prog 76 2 = true := by kernel_rfl
theorem zc76 : zc Try.prog 76 = #[.int .i64 0, .int .i64 0] := by kernel_rfl
theorem sz3 : szO Try.prog 3 = some 1 := by kernel_rfl
theorem arr76 {p q : Int} {w : World} {K : Value → Prop} : qG Try.prog (Instr.build 76 #[(0, .int .i64 p), (1, .int .i64 q)]) w K = K (.agg #[.int .i64 p, .int .i64 q]) := by
  refine qG_of ?_
  obtain ⟨z, hr, hzc, _⟩ := hasZ_run hz76 w
  simp only [Instr.build, Sem.run_bind, hr, Result.andThen_ok, run_underlying Try.underlying76, szO_some sz3]
  rw [hzc, zc76]
  rfl
theorem zc80 : zc Try.prog 80 = #[.pointer none, .pointer none, .slice none 0 0, .slice none 0 0, .int .i64 0, .bool false, .int .i64 0, .int .i64 0, .int .i64 0, .slice none 0 0, .string (str []), .int .i64 0, .int .i64 0] := by kernel_rfl
theorem bld80 {x7 : Value} (h7 : one x7 = true) {sv lv : Value} (o1 : one sv = true) (o2 : one lv = true) {d : DK} {lo hi : Int} {k : Value → Prop} :
    bld [(0, 1), (1, 1), (2, 4), (6, 5), (11, 2)] (zc Try.prog 80) #[(0, x7), (2, .agg (qc sv lv d)), (4, .agg #[.int .i64 lo, .int .i64 hi])] k = k (.agg (sideC x7 (.pointer none) sv lv d (.int .i64 0) (.int .i64 0) (.int .i64 0) (.slice none 0 0) (.string (str [])) lo hi)) := by
  have c7 : Value.cells x7 = #[x7] := cells_one h7
  unfold bld
  rw [zc80]
  rw [fill_step (off := 0) (size := 1) rfl (by rw [c7]; rfl) (by simp), fill_step (off := 2) (size := 4) rfl rfl (by rw [c7]; simp [splice]), fill_step (off := 11) (size := 2) rfl rfl (by rw [c7]; simp [splice, qc])]
  simp only [Instr.fill, c7]
  rfl
theorem Open_bad {w : World} {b : Nat} {d : DK} {S : List Nat} (h : DiskAt w b d S) {lo hi turn : Int} (hb : lo < 0 ∨ d.now.length < hi ∨ hi ≤ lo) {K : Value → World → Prop} (hK : ∀ w', Kp [] w w' → K (.tuple #[.pointer none, .int .i64 1]) w') :
    callG Try.prog 35 #[.pointer (some ⟨b, 0, none⟩), .int .i64 lo, .int .i64 hi, .int .i64 turn] w K := by
  refine wal_Open_call ?_
  simp only [wal_Open, wal_Open_s1]
  rw [newG_k, cells_one rfl]
  obtain ⟨n, hn⟩ : ∃ n, n = w.heap.size := ⟨_, rfl⟩
  obtain ⟨w1, hw1⟩ : ∃ w1, w1 = w.alloc (.cells #[.pointer (some ⟨b, 0, none⟩)] 23) := ⟨_, rfl⟩
  have hk1 : Kp [] w w1 := by rw [hw1]; exact (Kp.refl [] w).alloc _
  have hX1 : w1.heap[n]? = some (.cells #[.pointer (some ⟨b, 0, none⟩)] 23) := by rw [hw1, hn]; exact heap_new
  rw [← hn, ← hw1]
  simp [-getElem?_pos, -Array.getElem?_eq_getElem, -List.length_flatten, List.getElem?_cons_zero, List.getElem?_cons_succ, hX1]
  refine ⟨fun _ => hK w1 hk1, fun h0 => Size_spec (h.keep hk1 (by simp)) ?_⟩
  simp [-getElem?_pos, -Array.getElem?_eq_getElem, -List.length_flatten, List.getElem?_cons_zero, List.getElem?_cons_succ, ]
  exact ⟨fun _ => hK w1 hk1, fun h2 => ⟨fun _ => hK w1 hk1, fun h3 => by exfalso; omega⟩⟩
theorem plays4_call {w0 : World} {R : Value → World → Prop} {fro to : Int} {x2 : Value} (hR : ∀ w', Kp [] w0 w' → R (.bool true) w') {rows : List (List Value)} {SA : List Nat} (hx : ArgAt w0 x2 5 rows SA) (hacts : ∀ r ∈ rows, ∃ kind n gv kv more group SG ks SK, Act4 w0 r kind n gv kv more group SG ks SK) :
    callG Try.prog 10 #[.int .i64 fro, .int .i64 to, x2] w0 R := by
  refine law04_WalPlays_call ?_
  unfold law04_WalPlays law04_WalPlays_s9
  have haw : ∀ w', Kp [] w0 w' → callG Try.prog 29 #[] w' fun t w => R t w := fun w' hk => awake4_spec fun w'' hk' => hR w'' (hk.trans' hk')
  refine own_new (n := 24) (Kp.refl [] w0) (by omega) (by omega) fun w1 b S o1 hk1 => ?_
  simp [-getElem?_pos, -Array.getElem?_eq_getElem, -List.length_flatten, List.getElem?_cons_zero, List.getElem?_cons_succ, -newG_k, -stn_p, -ldn_p]
  refine ref_New (n := 24) (by omega) (by omega) fun w2 x' SR r2 hk2 hSR => ?_
  obtain ⟨sv, lv, rfl, q1, q2⟩ := r2.form
  rw [ex0, ex1, newG_k, zc39z]
  obtain ⟨n9, hn9⟩ : ∃ n9, n9 = w2.heap.size := ⟨_, rfl⟩
  obtain ⟨w3, hw3⟩ := ex_w (w' := w2.alloc (.cells z39 39))
  have k3 : Kp [] w2 w3 := by rw [hw3]; exact kp_alloc
  have b3 : w3.heap[n9]? = some (.cells z39 39) := by rw [hw3, hn9]; exact heap_new
  rw [← hw3, ← hn9, stA (k := 4) b3 rfl rfl (qc_one q1 q2)]
  obtain ⟨w4, hw4⟩ := ex_w (w' := setBlk w3 n9 (.cells (qc sv lv (DK.fresh 24)) 39))
  have k4 : Kp [n9] w3 w4 := by rw [hw4]; exact (Kp.refl _ w3).setBlk (.inl (by simp)) _
  have b4 : w4.heap[n9]? = some (.cells (qc sv lv (DK.fresh 24)) 39) := by rw [hw4]; exact heap_self (live_of b3)
  rw [← hw4]
  have k24 : Kp [] w2 w4 := k3.trans k4 fun y hy hlt => by simp at hy; omega
  simp [-getElem?_pos, -Array.getElem?_eq_getElem, -List.length_flatten, List.getElem?_cons_zero, List.getElem?_cons_succ, -newG_k, -stn_p, -ldn_p]
  unfold law04_WalPlays_s8
  rw [ldA (k := 4) b4 rfl, arr76, bld80 rfl q1 q2, newG_k]
  obtain ⟨x, hxn⟩ : ∃ x, x = w4.heap.size := ⟨_, rfl⟩
  obtain ⟨w5, hw5⟩ := ex_w (w' := w4.alloc (.cells (sideC (.pointer (some ⟨b, 0, none⟩)) (.pointer none) sv lv (DK.fresh 24) (.int .i64 0) (.int .i64 0) (.int .i64 0) (.slice none 0 0) (.string (str [])) fro to) 80))
  have k5 : Kp [] w4 w5 := by rw [hw5]; exact kp_alloc
  have hx5 : w5.heap[x]? = some (.cells (sideC (.pointer (some ⟨b, 0, none⟩)) (.pointer none) sv lv (DK.fresh 24) (.int .i64 0) (.int .i64 0) (.int .i64 0) (.slice none 0 0) (.string (str [])) fro to) 80) := by rw [hw5, hxn]; exact heap_new
  rw [cells_agg, ← hw5, ← hxn]
  have k15 : Kp [] w1 w5 := (hk2.trans' k24).trans' k5
  have k05 : Kp [] w0 w5 := hk1.trans' k15
  have o5 := o1.keep k15
  have hSlt : ∀ y ∈ S, y < w1.heap.size := o1.at_.live
  have s1 := hk1.size
  have s2 := hk2.size
  have s24 := k24.size
  have hrl := r2.lt
  have key : (fro < 0 ∨ 24 < to ∨ to ≤ fro) → callG Try.prog 35 #[.pointer (some ⟨b, 0, none⟩), .int .i64 fro, .int .i64 to, .int .i64 1] w5 fun t55 w =>
      qG Try.prog (Instr.extract t55 0) w fun t56 => qG Try.prog (Instr.extract t55 1) w fun t57 => qG Try.prog (bq .eql 64 (.tmp 58) (.const (.pointer none)) t56 (.pointer none)) w fun t59 =>
      bV t59 (qG Try.prog (bq .eql 24 (.tmp 61) (.const (.int .i64 1)) t57 (.int .i64 1)) w fun t62 => bV t62 (callG Try.prog 29 #[] w fun t65 w => R t65 w) (R (.bool false) w)) (R (.bool false) w) := by
    intro hb
    refine Open_bad o5.at_ (by simpa [DK.fresh, secs0] using hb) fun w6 hk6 => ?_
    simp [-getElem?_pos, -Array.getElem?_eq_getElem, -List.length_flatten, List.getElem?_cons_zero, List.getElem?_cons_succ, ]
    exact haw _ (k05.trans' hk6)
  have good : 0 ≤ fro → to ≤ 24 → fro < to → law04_WalPlays_s5 R x2 (.pointer (some ⟨x, 0, none⟩)) w5 := by
    intro h1 h2 h3
    obtain ⟨lo, rfl⟩ : ∃ m : Nat, fro = m := ⟨fro.toNat, by omega⟩
    obtain ⟨hi, rfl⟩ : ∃ m : Nat, to = m := ⟨to.toNat, by omega⟩
    unfold law04_WalPlays_s5
    have po : PO w0 w5 x b (DK.fresh 24) S SR sv lv (.pointer none) (.int .i64 0) (.int .i64 0) (.int .i64 0) (.slice none 0 0) (.string (str [])) lo hi :=
      ⟨hx5, o5, r2.keep (k24.trans' k5) (by simp), by omega, fun hm => by have := hSlt x hm; omega, fun y hy => ⟨fun hm => by have := hSlt y hm; have := hSR y hy; omega, by have := hrl y hy; omega, by have := hSR y hy; omega⟩, rfl, by omega, by omega, by simp [DK.fresh, secs0], rfl⟩
    refine opens_spec po (by simp [DK.fresh]) turn1 fun w6 a g B SM ll ht ps => ?_
    simp [-getElem?_pos, -Array.getElem?_eq_getElem, -List.length_flatten, List.getElem?_cons_zero, List.getElem?_cons_succ, ]
    exact plays4_loop hR hx hacts ps rfl ht
  unfold law04_WalPlays_s7 law04_WalPlays_s6
  simp [-getElem?_pos, -Array.getElem?_eq_getElem, -List.length_flatten, List.getElem?_cons_zero, List.getElem?_cons_succ, -newG_k, -stn_p, -ldn_p]
  exact ⟨fun h => key (.inl h), fun h0 => ⟨fun h => key (.inr (.inl h)), fun h1 => ⟨fun h => key (.inr (.inr h)), fun h2 => good h0 h1 h2⟩⟩⟩
theorem act4_in {H : Type} {enc : TypeId × Value → H} {w : World} {fuel : Nat} {r : List Value} {x : DataW H × List MemPlace} (h : DataW.trod enc Try.prog w 0 (fun _ => true) true fuel 84 r = some x) :
    ∃ kind n gv kv more group SG ks SK, Act4 w r kind n gv kv more group SG ks SK := by
  obtain ⟨xs, n, rfl, _, hl, hx, hf⟩ := DataW.trod_struct Try.underlying84 h
  have h84 : Try.prog.cellsOf 84 = 5 := by kernel_rfl
  have h3 : Try.prog.cellsOf 3 = 1 := by kernel_rfl
  have h36 : Try.prog.cellsOf 36 = 1 := by kernel_rfl
  have h22 : Try.prog.cellsOf 22 = 1 := by kernel_rfl
  have h4 : Try.prog.cellsOf 4 = 1 := by kernel_rfl
  rw [h84] at hl
  have hx5 : xs.length = 5 := hx
  obtain ⟨r0, r1, r2, r3, r4, rfl⟩ := list5 hl
  have g0 : DataW.trod enc Try.prog w 0 (fun _ => true) true n 3 (([r0, r1, r2, r3, r4].drop 0).take (Try.prog.cellsOf 3)) = xs[0]? := hf 0 _ rfl
  have g1 : DataW.trod enc Try.prog w 0 (fun _ => true) true n 3 (([r0, r1, r2, r3, r4].drop 1).take (Try.prog.cellsOf 3)) = xs[1]? := hf 1 _ rfl
  have g2 : DataW.trod enc Try.prog w 0 (fun _ => true) true n 36 (([r0, r1, r2, r3, r4].drop 2).take (Try.prog.cellsOf 36)) = xs[2]? := hf 2 _ rfl
  have g3 : DataW.trod enc Try.prog w 0 (fun _ => true) true n 22 (([r0, r1, r2, r3, r4].drop 3).take (Try.prog.cellsOf 22)) = xs[3]? := hf 3 _ rfl
  have g4 : DataW.trod enc Try.prog w 0 (fun _ => true) true n 4 (([r0, r1, r2, r3, r4].drop 4).take (Try.prog.cellsOf 4)) = xs[4]? := hf 4 _ rfl
  rw [List.getElem?_eq_getElem (by omega)] at g0 g1 g2 g3 g4
  rw [h3] at g0 g1
  rw [h36] at g2
  rw [h22] at g3
  rw [h4] at g4
  have e0 : ([r0, r1, r2, r3, r4].drop 0).take 1 = [r0] := rfl
  have e1 : ([r0, r1, r2, r3, r4].drop 1).take 1 = [r1] := rfl
  have e2 : ([r0, r1, r2, r3, r4].drop 2).take 1 = [r2] := rfl
  have e3 : ([r0, r1, r2, r3, r4].drop 3).take 1 = [r3] := rfl
  have e4 : ([r0, r1, r2, r3, r4].drop 4).take 1 = [r4] := rfl
  rw [e0] at g0
  rw [e1] at g1
  rw [e2] at g2
  rw [e3] at g3
  rw [e4] at g4
  obtain ⟨kind, e0, _, _⟩ := DataW.trod_int Try.underlying3 g0
  obtain ⟨nn, e1, _, wf1⟩ := DataW.trod_int Try.underlying3 g1
  obtain ⟨group, SG, hG, hlG, _, _⟩ := strs_in g2
  obtain ⟨ks, SK, hk, hlt, hw⟩ := ints_taken g3
  obtain ⟨more, e4, _⟩ := DataW.trod_bool Try.underlying4 g4
  injection e0 with e0 _
  injection e1 with e1 _
  injection e4 with e4 _
  exact ⟨kind, nn, r2, r3, more, group, SG, ks, SK, by rw [e0, e1, e4], hG, hlG, hk, hlt, hw, (wf64 wf1).2⟩
theorem acts4_taken {w : World} {v : Value} (h : Taken w 74 v) : ∃ rows SA, ArgAt w v 5 rows SA ∧ ∀ r ∈ rows, ∃ kind n gv kv more group SG ks SK, Act4 w r kind n gv kv more group SG ks SK := by
  obtain ⟨H, enc, fuel, x, h⟩ := h
  obtain ⟨v', rows, SK, hv, harg, hlt, hlen, hr⟩ := arg_slice Try.underlying74 (n := 5) (by kernel_rfl) (by omega) h
  injection hv with hv _
  subst hv
  exact ⟨rows, SK, harg, fun r hm => by obtain ⟨f, y, hy⟩ := hr r hm; exact act4_in hy⟩
end Go.Proofs
