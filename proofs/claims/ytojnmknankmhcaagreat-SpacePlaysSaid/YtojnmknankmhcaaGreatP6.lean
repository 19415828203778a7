/- Part of the proof (P6): an engine, rules or contracts of the functions; it states nothing of the claim by itself. -/
import Derived.Test.YtojnmknankmhcaaGreatP5
import Derived.Test.YtojnmknankmhcaaGreatP2
import Derived.Test.YtojnmknankmhcaaGreatP1
import Derived.ChangeSlices

/- Layer 13: a call on both sides. -/
set_option maxRecDepth 100000
set_option linter.unusedVariables false
set_option linter.unusedSimpArgs false
namespace Go.Proofs
open Go Go.Q
section
variable {w0 w w' : World} {x bd b : Nat} {cq : List Value} {s s' : SP} {qs qn os on : St} {X : List Nat} {R : Value → World → Prop}
theorem PX.xlt (h : PX w0 w x bd b cq s qs qn X) : x < w.heap.size := lt_of_blk h.side.cell
theorem PX.Xlt (h : PX w0 w x bd b cq s qs qn X) : ∀ y ∈ X, y < w.heap.size := by
  obtain ⟨Sd, ms, mn, rfl, hsp⟩ := h.sp
  exact hsp.lts
theorem PX.keep (h : PX w0 w x bd b cq s qs qn X) (hk : Kp [] w w') : PX w0 w' x bd b cq s qs qn X := by
  obtain ⟨Sd, ms, mn, rfl, hsp⟩ := h.sp
  exact ⟨⟨Sd, ms, mn, rfl, hsp.keep0 hk⟩, h.old, h.x0, h.xX, h.av, h.kp.trans' hk, h.side.keep hk (by simp), h.q.keep hk⟩
theorem PX.drew (h : PX w0 w x bd b cq s qs qn X) : PX w0 w.drew x bd b cq s qs qn X := h.keep ((Kp.refl [] w).drew)
theorem PX.write (h : PX w0 w x bd b cq s qs qn X) {p : Nat} (h0 : w0.heap.size ≤ p) (hx : p ≠ x) (hX : p ∉ X) (ha : Av [p] cq) (hk : Kp [p] w w') : PX w0 w' x bd b cq s qs qn X := by
  obtain ⟨Sd, ms, mn, rfl, hsp⟩ := h.sp
  refine ⟨⟨Sd, ms, mn, rfl, hsp.keep hk fun y hy hm => ?_⟩, h.old, h.x0, h.xX, h.av, h.kp.trans hk fun y hy hlt => ?_, h.side.keep hk (by simp; exact fun hh => hx hh.symm), QAt.keepX h.q ha hk⟩
  · simp at hm; subst hm; exact hX hy
  · simp at hy; omega
/-- the space did a call -/
theorem PX.go (h : PX w0 w x bd b cq s qs qn X) (hg : SpGo w X b bd s' w') : ∃ X', PX w0 w' x bd b cq s' qs qn X' ∧ Kp X w w' ∧ ∀ y ∈ X', y ∈ X ∨ w.heap.size ≤ y := by
  obtain ⟨X', g1, g2, g3⟩ := hg
  have z := h.kp.size
  have lx := h.xlt
  refine ⟨X', ⟨g1, fun y hy => ?_, h.x0, fun hy => ?_, h.q.new h.av fun y hy => ?_, h.kp.trans g2 fun y hy hlt => ?_, h.side.keep g2 h.xX, QAt.keepX h.q (h.av.sub (fun y hy => by simp [hy])) g2⟩, g2, g3⟩
  · rcases g3 y hy with hh | hh
    · exact h.old y hh
    · omega
  · rcases g3 x hy with hh | hh
    · exact h.xX hh
    · omega
  · rcases List.mem_cons.1 hy with rfl | hy
    · exact .inl (by simp)
    · exact (g3 y hy).imp (fun hh => by simp [hh]) id
  · have := h.old y hy; omega
theorem PX.lds (h : PX w0 w x bd b cq s qs qn X) {K : Value → Prop} : ld1 (.pointer (some ⟨x, 0 + 1, none⟩)) w K = K (.pointer (some ⟨b, 0, none⟩)) := h.side.lds
theorem PX.ldd (h : PX w0 w x bd b cq s qs qn X) {K : Value → Prop} : ld1 (.pointer (some ⟨x, 0 + 0, none⟩)) w K = K (.pointer (some ⟨bd, 0, none⟩)) := h.side.ldd
theorem PX.ldq (h : PX w0 w x bd b cq s qs qn X) {K : Value → Prop} : ldn 8 (.pointer (some ⟨x, 0 + 2, none⟩)) w K = K (.agg cq.toArray) := h.side.ldq h.q.len
/-- the call's own blocks: the act, and the document's space that comes of it -/
structure Loc (w0 w : World) (x : Nat) (X : List Nat) (cq : List Value) (p3 p7 : Nat) (ac c7 : List Value) : Prop where
  h3 : w.heap[p3]? = some (.cells ac.toArray 45)
  h7 : w.heap[p7]? = some (.cells c7.toArray 39)
  n3 : w0.heap.size ≤ p3
  n7 : w0.heap.size ≤ p7
  ne : p3 ≠ p7
  ne3 : p3 ≠ x ∧ p3 ∉ X
  ne7 : p7 ≠ x ∧ p7 ∉ X
  av7 : Av [p7] cq
  l7 : c7.length = 8
section
variable {p3 p7 : Nat} {ac c7 c' : List Value}
theorem Loc.keep (h : Loc w0 w x X cq p3 p7 ac c7) (hk : Kp [] w w') : Loc w0 w' x X cq p3 p7 ac c7 := ⟨hk.get h.h3 (by simp), hk.get h.h7 (by simp), h.n3, h.n7, h.ne, h.ne3, h.ne7, h.av7, h.l7⟩
theorem Loc.go (h : Loc w0 w x X cq p3 p7 ac c7) {X' : List Nat} (hk : Kp X w w') (hX : ∀ y ∈ X', y ∈ X ∨ w.heap.size ≤ y) : Loc w0 w' x X' cq p3 p7 ac c7 := by
  have l3 := lt_of_blk h.h3
  have l7 := lt_of_blk h.h7
  refine ⟨hk.get h.h3 h.ne3.2, hk.get h.h7 h.ne7.2, h.n3, h.n7, h.ne, ⟨h.ne3.1, fun hm => ?_⟩, ⟨h.ne7.1, fun hm => ?_⟩, h.av7, h.l7⟩
  · rcases hX p3 hm with hh | hh
    · exact h.ne3.2 hh
    · omega
  · rcases hX p7 hm with hh | hh
    · exact h.ne7.2 hh
    · omega
theorem Loc.ld3 (h : Loc w0 w x X cq p3 p7 ac c7) {j : Nat} {v : Value} (hv : ac[j]? = some v) {K : Value → Prop} : ld1 (.pointer (some ⟨p3, 0 + j, none⟩)) w K = K v := ldV h.h3 hv
/-- the document's space is put down -/
theorem put7 (h : PX w0 w x bd b cq s qs qn X) (hl : Loc w0 w x X cq p3 p7 ac c7) (hc : QAt w c' os on) (hav : Av (p7 :: x :: X) c') {K : World → Prop}
    (hK : ∀ w', PX w0 w' x bd b cq s qs qn X → Loc w0 w' x X cq p3 p7 ac c' → QAt w' c' os on → Av (x :: X) c' → K w') : stn 8 (.pointer (some ⟨p7, 0, none⟩)) (.agg c'.toArray) w K := by
  have l8 := hc.len
  rw [stA hl.h7 (by simpa using hl.l7) (by simpa using l8) (by simpa using hc.one)]
  have hk : Kp [p7] w (setBlk w p7 (.cells c'.toArray 39)) := (Kp.refl _ _).setBlk (.inl (by simp)) _
  refine hK _ (h.write hl.n7 hl.ne7.1 hl.ne7.2 hl.av7 hk) ⟨hk.get hl.h3 (by simp; exact hl.ne), heap_self (live_of hl.h7), hl.n3, hl.n7, hl.ne, hl.ne3, hl.ne7, hl.av7, l8⟩ (QAt.keepX hc (hav.sub (by simp)) hk) (hav.sub (fun y hy => by simp only [List.mem_cons] at hy ⊢; exact .inr hy))
/-- both answer alike -/
theorem does_ok (h : PX w0 w x bd b cq s qs qn X) (hl : Loc w0 w x X cq p3 p7 ac c') (hc : QAt w c' os on) (hav : Av (x :: X) c') {k : Nat} (hr : Rel s os on k) {e f : Int} (hef : e = f) (he : e ≠ 30) (may : Bool)
    (hR : ∀ w' cq' qs' qn', PX w0 w' x bd b cq' s qs' qn' X → Rel s qs' qn' k → R (.bool true) w') :
    law13_side_does_s1 R (.pointer (some ⟨x, 0, none⟩)) (.pointer (some ⟨p3, 0, none⟩)) (.int .i64 e) (.int .i64 f) (.pointer (some ⟨p7, 0, none⟩)) (.bool may) w := by
  subst hef
  unfold law13_side_does_s1
  simp only [bq_eql, bV_b, decide_eq_true_eq, decide_eq_false_iff_not]
  refine ⟨fun hh => absurd hh he, fun _ => ?_⟩
  unfold law13_side_does_s0
  simp only [bq_neq, bV_b, decide_eq_true_eq]
  refine ⟨fun hh => absurd rfl hh, fun _ => ?_⟩
  obtain ⟨Sd, ms, mn, rfl, hsp⟩ := h.sp
  have hxX := h.xX
  rw [ld_all hl.h7 hc.len, nk_p, fa_p]
  refine side_q h.side h.q.len hc.len hc.one fun w1 hs1 k1 => ?_
  have h71 := k1.get hl.h7 (by simp; exact hl.ne7.1)
  have hc1 : QAt w1 c' os on := QAt.keepX hc (hav.sub (by simp)) k1
  have hsp1 := hsp.keep k1 (fun y hy hm => by simp at hm; subst hm; exact hxX hy)
  obtain ⟨c1, c2, ec, g1, g2⟩ := hc1
  subst ec
  have hc1 : QAt w1 (c1 ++ c2) os on := ⟨c1, c2, rfl, g1, g2⟩
  rw [fa_p, ld_now h71 g1.len g2.len]
  have hfew := hr.fN.few
  refine sameAs_spec hs1 hsp1 hc1 g2 hr.same hr.on (by omega) fun w2 k2 => ?_
  have hx0 := h.x0
  refine hR w2 _ os on ⟨⟨Sd, ms, mn, rfl, hsp1.keep0 k2⟩, h.old, h.x0, h.xX, hav, ?_, hs1.keep k2 (by simp), hc1.keep k2⟩ hr
  exact (h.kp.trans k1 fun y hy hlt => by simp at hy; omega).trans' k2
/-- the power went off -/
theorem does_dead (h : PX w0 w x bd b cq s qs qn X) (hl : Loc w0 w x X cq p3 p7 ac c') (hc : QAt w c' os on) (hav : Av (x :: X) c') {kv : Value} (hkv : ac[5]? = some kv) {ks : List Int} {SK : List Nat} (hks : IntsAt w kv ks SK) (hdis : ∀ y ∈ SK, y < w0.heap.size) (hkw : ∀ x ∈ ks, -9223372036854775808 ≤ x ∧ x < 9223372036854775808)
    (hoff : s.d.off = true) (hll : s.d.l.length < 2 ^ 40) {t k : Nat} {u u' : List UInt8} (hqs : StQ qs t u) (may : Bool) (htk : t ≤ k) (hk : k ≤ 50)
    (hkeep : Keeps (s.d.crash ks).now t u qs.ns qs.bs ∨ (may = true ∧ t + 1 ≤ k ∧ Keeps (s.d.crash ks).now (t + 1) u' os.ns os.bs ∧ StQ os (t + 1) u')) (f : Int)
    (hR : ∀ w' b' cq' s' q' X', PX w0 w' x bd b' cq' s' q' q' X' → Rel s' q' q' k → R (.bool true) w') :
    law13_side_does_s1 R (.pointer (some ⟨x, 0, none⟩)) (.pointer (some ⟨p3, 0, none⟩)) (.int .i64 30) (.int .i64 f) (.pointer (some ⟨p7, 0, none⟩)) (.bool may) w := by
  unfold law13_side_does_s1
  simp only [bq_eql, bV_b, decide_eq_true_eq]
  refine ⟨fun _ => ?_, fun hh => by simp at hh⟩
  obtain ⟨Sd, ms, mn, e, hsp⟩ := h.sp
  rw [nk_p, fa_p, h.ldd]
  refine Off_spec hsp.disk ?_
  rw [hoff]
  simp only [bV_b]
  refine ⟨fun _ => ?_, fun hh => by simp at hh⟩
  rw [fa_p, hl.ld3 hkv, ld_all hl.h7 hc.len]
  exact opens13_spec h hc hav hll hks hdis hkw hqs may htk hk hkeep hR
end
end
end Go.Proofs

/- Layer 13: does, each kind of call. -/
set_option maxRecDepth 100000
set_option linter.unusedVariables false
set_option linter.unusedSimpArgs false
namespace Go.Proofs
open Go Go.Q
/-- an act as it came in -/
structure A13 where
  kind : Int
  n : Int
  fuse : Int
  c : UInt8
  nm : List UInt8
  kv : Value
  ks : List Int
  SK : List Nat
def A13.C (a : A13) : List Value := [.int .i64 a.kind, .int .i64 a.n, .int .i64 a.fuse, .int .u8 a.c.toNat, .string (str a.nm), a.kv]
structure A13.Ok (a : A13) (w0 : World) : Prop where
  ints : IntsAt w0 a.kv a.ks a.SK
  old : ∀ y ∈ a.SK, y < w0.heap.size
  rg : ∀ x ∈ a.ks, -9223372036854775808 ≤ x ∧ x < 9223372036854775808
  fu : a.fuse < 9223372036854775808
theorem ex3_0 {a b c : Value} {w : World} {K : Value → Prop} : qG Tryz.prog (Instr.extract (.tuple #[a, b, c]) 0) w K = K a := qG_of rfl
theorem ex3_1 {a b c : Value} {w : World} {K : Value → Prop} : qG Tryz.prog (Instr.extract (.tuple #[a, b, c]) 1) w K = K b := qG_of rfl
theorem ex3_2 {a b c : Value} {w : World} {K : Value → Prop} : qG Tryz.prog (Instr.extract (.tuple #[a, b, c]) 2) w K = K c := qG_of rfl
section
variable {w0 w w' : World} {x bd b : Nat} {cq : List Value} {s s' : SP} {qs qn os on : St} {X : List Nat} {R : Value → World → Prop} {k : Nat}
theorem Rel.stq (h : Rel s qs qn k) : StQ qs s.turn s.su := ⟨h.tS, h.usS, h.okS⟩
theorem Rel.log40 (h : Rel s qs qn k) (hk : k < 50) : s.d.l.length + 9 < 2 ^ 40 := by have := h.few; omega
theorem Rel.ok (h : Rel s qs qn k) : StOk qn := ⟨by rw [h.okN.1, h.okN.2], by rw [h.okN.1]; omega⟩
theorem Rel.nsl (h : Rel s qs qn k) : qn.ns.length < 2 ^ 20 := by rw [h.pN.length_eq]; have := h.fN.few; omega
/-- what 'does' leaves -/
def DoesR (w0 : World) (x bd k : Nat) (R : Value → World → Prop) : Prop := ∀ w' b' cq' s' qs' qn' X', PX w0 w' x bd b' cq' s' qs' qn' X' → Rel s' qs' qn' k → R (.bool true) w'
section
variable {p3 p7 : Nat} {c7 : List Value} {a : A13}
/-- the tail of a call that commits nothing -/
theorem does_tail (h : PX w0 w x bd b cq s' qs qn X) (hl : Loc w0 w x X cq p3 p7 a.C c7) (hc : QAt w c7 qs on) (hav : Av (x :: X) c7) (ha : a.Ok w0) {e f : Int} {t : Nat} {u : List UInt8} (hq : StQ qs t u) (ht : t ≤ k + 1) (hk : k < 50)
    (hor : (e = f ∧ e ≠ 30 ∧ Rel s' qs on (k + 1)) ∨ (e = 30 ∧ Dead s'.d (k + 1) t u qs.ns qs.bs)) (hR : DoesR w0 x bd (k + 1) R) :
    law13_side_does_s1 R (.pointer (some ⟨x, 0, none⟩)) (.pointer (some ⟨p3, 0, none⟩)) (.int .i64 e) (.int .i64 f) (.pointer (some ⟨p7, 0, none⟩)) (.bool false) w := by
  rcases hor with ⟨h1, h2, h3⟩ | ⟨h1, h2⟩
  · exact does_ok h hl hc hav h3 h1 h2 false fun w' cq' qs' qn' hp hr => hR w' b cq' s' qs' qn' X hp hr
  · subst h1
    have := h2.few
    exact does_dead h hl hc hav (kv := a.kv) rfl (ha.ints.keep h.kp (by simp)) ha.old ha.rg h2.off (by omega) hq (u' := u) false ht (by omega) (.inl (h2.keeps a.ks)) f fun w' b' cq' s' q' X' hp hr => hR w' b' cq' s' q' q' X' hp hr
end
theorem does13_spec (h : PX w0 w x bd b cq s qs qn X) (hr : Rel s qs qn k) (hk : k < 50) {a : A13} (ha : a.Ok w0) (hR : DoesR w0 x bd (k + 1) R) :
    callG Tryz.prog 10 #[.pointer (some ⟨x, 0, none⟩), .agg a.C.toArray] w R := by
  refine law13_side_does_call ?_
  unfold law13_side_does law13_side_does_s2
  refine argB fun p3 w1 hp3 h3 k1 => ?_
  have z0 := h.kp.size
  have z1 := k1.size
  have l3 := lt_of_blk h3
  have xlt := h.xlt
  have Xlt := h.Xlt
  have h1 := h.keep k1
  rw [nk_p, fa_p, h1.ldq]
  refine newB fun p7 w2 hp7 h7 k2 => ?_
  have z2 := k2.size
  have l7 := lt_of_blk h7
  have h2 := h1.keep k2
  have av7 : Av [p7] cq := h.q.new h.av (by intro y hy; simp at hy; right; omega)
  have hl2 : Loc w0 w2 x X cq p3 p7 a.C (zc Tryz.prog 39).toList := ⟨k2.get h3 (by simp), h7, by omega, by omega, by omega, ⟨by omega, fun hm => by have := Xlt p3 hm; omega⟩, ⟨by omega, fun hm => by have := Xlt p7 hm; omega⟩, av7, by rw [zcQ]; rfl⟩
  have htk := hr.tk
  have hlog := hr.log40 hk
  have hstq := hr.stq
  refine put7 h2 hl2 h2.q (h.q.new h.av (by intro y hy; simp only [List.mem_cons] at hy ⊢; rcases hy with rfl | rfl | hy; · right; omega
                                            · exact .inl (.inl rfl)
                                            · exact .inl (.inr hy))) fun w3 h3 hl3 hq3 av3 => ?_
  clear h2 hl2 h1 h7
  have l73 := lt_of_blk hl3.h7
  -- the document's answer, put down
  have put : ∀ (w4 w5 : World) (X' : List Nat) (s' : SP) (c5 : List Value) (os on : St) (K : World → Prop), PX w0 w4 x bd b cq s' qs qn X' → Loc w0 w4 x X' cq p3 p7 a.C cq → QAt w5 c5 os on → Src w4 cq c5 → Kp [] w4 w5 →
      (∀ w6, PX w0 w6 x bd b cq s' qs qn X' → Loc w0 w6 x X' cq p3 p7 a.C c5 → QAt w6 c5 os on → Av (x :: X') c5 → K w6) → stn 8 (.pointer (some ⟨p7, 0, none⟩)) (.agg c5.toArray) w5 K := by
    intro w4 w5 X' s' c5 os on K h4 hl4 hq5 hs5 k5 hK
    refine put7 (h4.keep k5) (hl4.keep k5) hq5 ?_ hK
    have a1 : Av (x :: X') c5 := h4.av.src hs5 fun y hy => by
      rcases List.mem_cons.1 hy with rfl | hy
      · exact h4.xlt
      · exact h4.Xlt y hy
    have a2 : Av [p7] c5 := hl4.av7.src hs5 fun y hy => by simp at hy; subst hy; exact lt_of_blk hl4.h7
    intro v hv bl o f n cap e hn hm
    rcases List.mem_cons.1 hm with rfl | hm
    · exact a2 v hv _ o f n cap e hn (by simp)
    · exact a1 v hv bl o f n cap e hn hm
  have ld0 : ∀ K : Value → Prop, ld1 (.pointer (some ⟨p3, 0 + 0, none⟩)) w3 K = K (.int .i64 a.kind) := fun K => hl3.ld3 rfl
  rw [fa_p, ld0]
  simp only [bq_eql, bV_b, decide_eq_true_eq, decide_eq_false_iff_not]
  refine ⟨fun _ => ?_, fun _ => ⟨fun _ => ?_, fun _ => ⟨fun _ => ?_, fun _ => ⟨fun _ => ?_, fun _ => ⟨fun _ => ?_, fun _ => ⟨fun _ => ?_, fun _ => ⟨fun _ => ?_, fun _ => ⟨fun _ => ?_, fun _ => ?_⟩⟩⟩⟩⟩⟩⟩⟩
  · -- Alloc
    rw [nk_p, fa_p, h3.lds]
    refine alloc_sp h3.sp (by omega) fun w4 hg => ?_
    obtain ⟨X', h4, k4, hX'⟩ := h3.go hg
    have hl4 := hl3.go k4 hX'
    rw [ex0, ex1, nk_p, fa_p, h4.ldq]
    refine alloc_ref h4.q hr.ok (by rw [hr.okS.1, hr.okN.1]) fun w5 c5 hq5 hs5 k5 => ?_
    rw [ex3_0, ex3_1, ex3_2]
    refine newB fun p11 w6 hp11 h11 k6 => ?_
    have z5 := k5.size
    have z4 := k4.size
    rw [stA h11 (by rw [zcQ]; rfl) (by simpa using hq5.len) (by simpa using hq5.one)]
    generalize hw7 : setBlk w6 p11 (.cells c5.toArray 39) = w7
    have h117 : w7.heap[p11]? = some (.cells c5.toArray 39) := by rw [← hw7]; exact heap_self (live_of h11)
    have k7 : Kp [] w5 w7 := k6.trans (by rw [← hw7]; exact (Kp.refl _ _).setBlk (.inl (List.mem_singleton.2 rfl)) _ : Kp [p11] w6 w7) fun y hy hlt => by simp at hy; omega
    rw [ld_all h117 hq5.len]
    refine put w4 w7 X' s.alloc.1 c5 qs _ _ h4 hl4 (hq5.keep k7) hs5 (k5.trans' k7) fun w8 h8 hl8 hq8 av8 => ?_
    rcases hr.alloc with ⟨e1, e2, e3⟩ | ⟨e1, e2⟩
    · simp only [bq_neq, bV_b, decide_eq_true_eq, decide_eq_false_iff_not]
      refine ⟨fun _ => ⟨fun hh => absurd (by rw [e1]) hh, fun _ => ?_⟩, fun hh => absurd e2 hh⟩
      exact does_tail h8 hl8 hq8 av8 ha hstq (by omega) hk (.inl ⟨by rw [e1], e2, e3⟩) hR
    · simp only [bq_neq, bV_b, decide_eq_true_eq, decide_eq_false_iff_not]
      refine ⟨fun hh => absurd e1 hh, fun _ => ?_⟩
      exact does_tail h8 hl8 hq8 av8 ha hstq (by omega) hk (.inr ⟨e1, e2⟩) hR
  · -- Release
    have h3d := h3.drew
    have hl3d := hl3.keep ((Kp.refl [] w3).drew)
    rw [nk_p, fa_p, h3d.lds, fa_p, hl3d.ld3 (j := 1) rfl]
    refine release_sp h3d.sp _ fun w4 hg => ?_
    obtain ⟨X', h4, k4, hX'⟩ := h3d.go hg
    have hl4 := hl3d.go k4 hX'
    have h4d := h4.drew
    have hl4d := hl4.keep ((Kp.refl [] w4).drew)
    rw [nk_p, fa_p, h4d.ldq, fa_p, hl4d.ld3 (j := 1) rfl]
    refine release_ref h4d.q hr.ok a.n fun w5 c5 hq5 hs5 k5 => ?_
    simp only [ex0, ex1, stb_ex1, true_and]
    refine put _ w5 X' _ c5 qs _ _ h4d hl4d hq5 hs5 k5 fun w8 h8 hl8 hq8 av8 => ?_
    obtain ⟨e1, e2, e3⟩ := hr.release a.n
    exact does_tail h8 hl8 hq8 av8 ha hstq (by omega) hk (.inl ⟨e1, e2, e3⟩) hR
  · -- Write
    have h3d := h3.drew
    have hl3d := hl3.keep ((Kp.refl [] w3).drew)
    rw [nk_p, fa_p, h3d.lds, fa_p, hl3d.ld3 (j := 1) rfl, fa_p, hl3d.ld3 (j := 3) rfl]
    refine filled_spec a.c fun w3' k3' => ?_
    have h3e := h3d.keep k3'
    have hl3e := hl3d.keep k3'
    refine ⟨by rw [hl3e.ld3 (j := 1) rfl], by rw [h3e.lds], ?_⟩
    refine write_sp h3e.sp (by omega) _ _ fun w4 hg => ?_
    obtain ⟨X', h4, k4, hX'⟩ := h3e.go hg
    have hl4 := hl3e.go k4 hX'
    have h4d := h4.drew
    have hl4d := hl4.keep ((Kp.refl [] w4).drew)
    rw [nk_p, fa_p, h4d.ldq, fa_p, hl4d.ld3 (j := 1) rfl, fa_p, hl4d.ld3 (j := 3) rfl]
    refine filled_spec a.c fun w4' k4' => ?_
    have h4e := h4d.keep k4'
    have hl4e := hl4d.keep k4'
    refine ⟨by rw [hl4e.ld3 (j := 1) rfl], by rw [h4e.ldq], ?_⟩
    refine write_ref h4e.q hr.ok a.n _ fun w5 c5 hq5 hs5 k5 => ?_
    simp only [ex0, ex1, stb_ex1, true_and]
    refine put _ w5 X' _ c5 qs _ _ h4e hl4e hq5 hs5 k5 fun w8 h8 hl8 hq8 av8 => ?_
    exact does_tail h8 hl8 hq8 av8 ha hstq (by omega) hk (hr.write a.n (by simp)) hR
  · -- Name
    have h3d := h3.drew
    have hl3d := hl3.keep ((Kp.refl [] w3).drew)
    rw [nk_p, fa_p, h3d.lds, fa_p, hl3d.ld3 (j := 4) rfl, fa_p, hl3d.ld3 (j := 1) rfl]
    refine name_sp h3d.sp _ _ fun w4 hg => ?_
    obtain ⟨X', h4, k4, hX'⟩ := h3d.go hg
    have hl4 := hl3d.go k4 hX'
    have h4d := h4.drew
    have hl4d := hl4.keep ((Kp.refl [] w4).drew)
    rw [nk_p, fa_p, h4d.ldq, fa_p, hl4d.ld3 (j := 4) rfl, fa_p, hl4d.ld3 (j := 1) rfl]
    refine call_ref h4d.q hr.nsl a.nm a.n fun w5 c5 hq5 hs5 k5 => ?_
    simp only [ex0, ex1, stb_ex1, true_and]
    refine put _ w5 X' _ c5 qs _ _ h4d hl4d hq5 hs5 k5 fun w8 h8 hl8 hq8 av8 => ?_
    exact does_tail h8 hl8 hq8 av8 ha hstq (by omega) hk (.inl (hr.name a.nm a.n)) hR
  · -- Forget
    have h3d := h3.drew
    have hl3d := hl3.keep ((Kp.refl [] w3).drew)
    rw [nk_p, fa_p, h3d.lds, fa_p, hl3d.ld3 (j := 4) rfl]
    refine forget_sp h3d.sp _ fun w4 hg => ?_
    obtain ⟨X', h4, k4, hX'⟩ := h3d.go hg
    have hl4 := hl3d.go k4 hX'
    have h4d := h4.drew
    have hl4d := hl4.keep ((Kp.refl [] w4).drew)
    rw [nk_p, fa_p, h4d.ldq, fa_p, hl4d.ld3 (j := 4) rfl]
    refine forget_ref h4d.q hr.nsl a.nm fun w5 c5 hq5 hs5 k5 => ?_
    simp only [ex0, ex1, stb_ex1, true_and]
    refine put _ w5 X' _ c5 qs _ _ h4d hl4d hq5 hs5 k5 fun w8 h8 hl8 hq8 av8 => ?_
    exact does_tail h8 hl8 hq8 av8 ha hstq (by omega) hk (.inl (hr.forget a.nm)) hR
  · -- Commit
    rw [nk_p, fa_p, h3.lds]
    refine commit_sp h3.sp (by omega) hr.fN fun w4 N hN hS hg => ?_
    obtain ⟨X', h4, k4, hX'⟩ := h3.go hg
    have hl4 := hl3.go k4 hX'
    rw [nk_p, fa_p, h4.ldq]
    refine commit_ref h4.q hr.nsl (by rw [hr.tS]; omega) fun w5 c5 hq5 hs5 k5 => ?_
    simp only [ex0, ex1]
    refine put _ w5 X' _ c5 _ _ _ h4 hl4 hq5 hs5 k5 fun w8 h8 hl8 hq8 av8 => ?_
    rcases hr.commit hk hN hS with ⟨e1, e2, e3⟩ | ⟨e1, e2, e3⟩
    · exact does_ok h8 hl8 hq8 av8 e3 e1 e2 true fun w' cq' qs' qn' hp hr' => hR w' b cq' _ qs' qn' X' hp hr'
    · rw [e1]
      rw [e2] at hq8
      have hfew := e3.few
      refine does_dead h8 hl8 hq8 av8 (kv := a.kv) rfl (ha.ints.keep h8.kp (by simp)) ha.old ha.rg e3.off (by omega) hstq (u' := s.nu) true (k := k + 1) (by omega) (by omega) ?_ _ fun w' b' cq' s' q' X' hp hr' => hR w' b' cq' s' q' q' X' hp hr'
      rcases e3.keeps a.ks with hh | hh
      · exact .inl hh
      · refine .inr ⟨rfl, by omega, hh, ⟨?_, hr.usN, hr.okN⟩⟩
        show qs.t + 1 = ((s.turn + 1 : Nat) : Int)
        rw [hr.tS]; simp
  · -- Rollback
    rw [nk_p, fa_p, h3.lds]
    refine rollback_sp h3.sp fun w4 hg => ?_
    obtain ⟨X', h4, k4, hX'⟩ := h3.go hg
    have hl4 := hl3.go k4 hX'
    rw [nk_p, fa_p, h4.ldq]
    refine rollback_ref h4.q fun w5 c5 hq5 hs5 k5 => ?_
    refine put _ w5 X' _ c5 qs qs _ h4 hl4 hq5 hs5 k5 fun w8 h8 hl8 hq8 av8 => ?_
    exact does_tail h8 hl8 hq8 av8 ha hstq (by omega) hk (.inl ⟨rfl, by simp, hr.back⟩) hR
  · -- Fuse
    have h3d := h3.drew
    have hl3d := hl3.keep ((Kp.refl [] w3).drew)
    rw [nk_p, fa_p, h3d.ldd, fa_p, hl3d.ld3 (j := 2) rfl]
    obtain ⟨Sd, ms, mn, rfl, hsp⟩ := h3d.sp
    refine Fuse_spec hsp.disk _ ha.fu fun w4 hd4 k4 => ?_
    have hbd : bd ∈ Sd := by
      obtain ⟨bs, bn, lv, SL, T, Ts, Tn, e, _⟩ := hsp.disk
      rw [e]; simp
    have hsp4 := hsp.setD (d' := { s.d with fuse := max a.fuse (-1) }) hd4 (k4.mono (by simp [hbd])) (fun y hy => .inl hy) rfl
    have hg : SpGo w3.drew (b :: ms :: mn :: Sd) b bd { s with d := { s.d with fuse := max a.fuse (-1) } } w4 := hsp.go hsp4 (k4.mono (by simp [hbd])) (.inl rfl) (.inl rfl) fun y hy => .inl hy
    obtain ⟨X', h4, k4', hX'⟩ := h3d.go hg
    simp only [bq_eql]
    refine hR w4 b cq _ qs qn X' h4 ?_
    exact ⟨hr.fr, hr.pg, hr.on, hr.lnu, hr.usS, hr.usN, hr.okS, hr.okN, hr.pS, hr.pN, hr.kN, hr.fN, hr.tS, hr.tN, by show s.turn ≤ k + 1; omega, hr.byt, hr.flow, hr.keeps, hr.log, by have := hr.few; show s.d.l.length ≤ _; omega⟩
  · -- Crash
    have h3d := h3.drew
    have hl3d := hl3.keep ((Kp.refl [] w3).drew)
    rw [fa_p, hl3d.ld3 (j := 5) rfl, nk_p, fa_p, h3d.ldq]
    refine opens13_spec h3d h3d.q h3d.av (by omega) (ha.ints.keep h3d.kp (by simp)) ha.old ha.rg hstq (u' := s.su) false (k := k + 1) (by omega) (by omega) (.inl (keeps_crash hr.keeps hr.log a.ks)) fun w' b' cq' s' q' X' hp hr' => hR w' b' cq' s' q' q' X' hp hr'
end
end Go.Proofs

/- Indexes as values: buckets that can be read; buckets in a slice of one's own; buckets that are filled. -/
set_option linter.unusedVariables false
set_option linter.unusedSimpArgs false
namespace Go.Q
/-- a value whose numbers are numbers of 64 bits -/
structure V3.Rg (v : V3) : Prop where
  k0 : -9223372036854775808 ≤ v.k
  k1 : v.k < 9223372036854775808
  n0 : -9223372036854775808 ≤ v.n
  n1 : v.n < 9223372036854775808
theorem V3.Rg.wf {v : V3} (h : v.Rg) (hok : v.ok = true) : v.Wf := by
  refine ⟨h.k0, h.k1, h.n0, h.n1, ?_⟩
  unfold V3.ok at hok
  split at hok
  · simp at hok; rw [hok.2]; decide
  · split at hok
    · simp at hok; rw [hok]; decide
    · split at hok
      · simp at hok; omega
      · split at hok
        · simp at hok; rw [hok.2]; decide
        · cases hok
def cel (v : Value) : List Value := [v]
def Ix (w : World) (o : Value) (bs : List (List E)) : Prop :=
  ∃ vs : List Value, Rd w o 1 (vs.map cel) ∧ vs.length = bs.length ∧ ∀ k (h : k < bs.length) v, vs[k]? = some v → Rd w v 4 (bs[k].map eC)
def IxO (w : World) (o : Value) (bs : List (List E)) (So X : List Nat) : Prop :=
  (∃ vs : List Value, RowsAt w o 1 (vs.map cel) So ∧ vs.length = bs.length ∧ ∀ k (h : k < bs.length) v, vs[k]? = some v → ∃ S, ArgAt w v 4 (bs[k].map eC) S ∧ ∀ x ∈ S, x ∉ So ∧ x ∉ X) ∧ ∀ x ∈ So, x ∉ X
section
variable {w0 w w' : World} {o : Value} {bs : List (List E)}
theorem Ix.keep (h : Ix w o bs) (hk : Kp [] w w') : Ix w' o bs := by
  obtain ⟨vs, h1, h2, h3⟩ := h
  exact ⟨vs, h1.keep hk, h2, fun k hlt v hv => (h3 k hlt v hv).keep hk⟩
theorem Ix.lenL (h : Ix w o bs) {K : Value → Prop} : lenL o K = K (.int .i64 bs.length) := by
  obtain ⟨vs, h1, h2, h3⟩ := h
  rw [h1.lenL, List.length_map, h2]
theorem Ix.one (h : Ix w o bs) : Q.one o = true := by
  obtain ⟨vs, h1, h2, h3⟩ := h
  obtain ⟨a, c, hv⟩ := h1.slice
  rw [hv]; rfl
/-- a row of one cell is read, now or later -/
theorem Rd.oneK {v : Value} {rows : List (List Value)} (h : Rd w v 1 rows) {i : Nat} (hi : i < rows.length) {x : Value} (hx : rows[i] = [x]) : ∃ p, (∀ kd K, ia 1 v (.int kd i) K = K p) ∧ ∀ w', Kp [] w w' → ∀ K : Value → Prop, ld1 p w' K = K x := by
  obtain ⟨bl, o, T, c, fr, h1, h2, h3, h4, h5⟩ := h.at hi
  refine ⟨_, h2, fun w' hk K => ?_⟩
  have := h5 0 (by omega)
  rw [hx, Nat.add_zero, List.getElem?_cons_zero] at this
  exact ldF (hk.get h1 (by simp)) this
/-- a row is read, whole or in part, now or later -/
theorem Rd.rowK {v : Value} {k : Nat} {rows : List (List Value)} (h : Rd w v k rows) {i : Nat} (hi : i < rows.length) : ∃ bl o, (∀ kd K, ia k v (.int kd i) K = K (.pointer (some ⟨bl, o, none⟩))) ∧ ∀ w', Kp [] w w' → (∀ K : Value → Prop, ldn k (.pointer (some ⟨bl, o, none⟩)) w' K = K (.agg rows[i].toArray)) ∧
    (∀ j x, j < k → rows[i][j]? = some x → ∀ K : Value → Prop, ld1 (.pointer (some ⟨bl, o + j, none⟩)) w' K = K x) ∧ ∀ j n part, j + n ≤ k → rows[i].toArray.extract j (j + n) = part → ∀ K : Value → Prop, ldn n (.pointer (some ⟨bl, o + j, none⟩)) w' K = K (.agg part) := by
  obtain ⟨bl, o, T, c, fr, h1, h2, h3, h4, h5⟩ := h.at hi
  refine ⟨bl, o, h2, fun w' hk => ⟨fun K => ldP (hk.get h1 (by simp)) h4 h3, fun j x hj hx K => ldF (hk.get h1 (by simp)) (by rw [h5 j hj]; exact hx), fun j n part hjn hp K => ldP (hk.get h1 (by simp)) ?_ (by omega)⟩⟩
  rw [← hp, ← h4]
  apply Array.toList_inj.1
  simp only [Array.toList_extract, List.extract_eq_take_drop, List.drop_take, List.take_take, List.drop_drop]
  congr 1
  omega
theorem Ix.at (h : Ix w o bs) {k : Nat} (hk : k < bs.length) : ∃ p v, (∀ K, ia 1 o (.int .i64 k) K = K p) ∧ (∀ w', Kp [] w w' → ∀ K : Value → Prop, ld1 p w' K = K v) ∧ Rd w v 4 (bs[k].map eC) := by
  obtain ⟨vs, h1, h2, h3⟩ := h
  have hkv : k < (vs.map cel).length := by simpa [h2] using hk
  obtain ⟨p, g1, g2⟩ := h1.oneK (i := k) hkv (x := vs[k]) (by simp [cel])
  exact ⟨p, vs[k], fun K => g1 .i64 K, g2, h3 k hk _ (by simp [h2, hk])⟩
theorem IxO.ix {So X : List Nat} (h : IxO w o bs So X) : Ix w o bs := by
  obtain ⟨⟨vs, h1, h2, h3⟩, _⟩ := h
  refine ⟨vs, ⟨So, .inr h1.rd⟩, h2, fun k hlt v hv => ?_⟩
  obtain ⟨S, h4, _⟩ := h3 k hlt v hv
  exact ⟨S, h4⟩
theorem IxO.keepS {So X S : List Nat} (h : IxO w o bs So X) (hk : Kp S w w') (hS : ∀ x ∈ S, x ∈ X) : IxO w' o bs So X := by
  obtain ⟨⟨vs, h1, h2, h3⟩, h0⟩ := h
  refine ⟨⟨vs, h1.keep hk fun x hx hm => h0 x hx (hS x hm), h2, fun k hlt v hv => ?_⟩, h0⟩
  obtain ⟨S, h4, h5⟩ := h3 k hlt v hv
  exact ⟨S, h4.keep hk fun x hx hm => (h5 x hx).2 (hS x hm), h5⟩
theorem IxO.keep {So X : List Nat} (h : IxO w o bs So X) (hk : Kp [] w w') : IxO w' o bs So X := h.keepS hk (by simp)
theorem eC_one (b : List E) : ((b.map eC).flatten).all Q.one = true := by
  rw [List.all_eq_true]
  intro x hx
  obtain ⟨r, hr, hxr⟩ := List.mem_flatten.1 hx
  obtain ⟨y, _, rfl⟩ := List.mem_map.1 hr
  simp only [eC, valV, List.cons_append, List.nil_append, List.mem_cons, List.not_mem_nil, or_false] at hxr
  rcases hxr with rfl | rfl | rfl | rfl <;> rfl
theorem argLt {v : Value} {k : Nat} {rows : List (List Value)} {S : List Nat} (h : ArgAt w v k rows S) : ∃ S', ArgAt w v k rows S' ∧ ∀ x ∈ S', x ∈ S ∧ x < w.heap.size := by
  rcases h with h | h
  · exact ⟨[], .inl h, by simp⟩
  · rcases h with h | ⟨bl, o, cap, c, T, fr, h1, h2, h3, h4⟩
    · exact ⟨[], .inr (.inl h), by simp⟩
    · exact ⟨S, .inr (.inr ⟨bl, o, cap, c, T, fr, h1, h2, h3, h4⟩), fun x hx => ⟨hx, by rw [h2] at hx; simp at hx; rw [hx]; exact lt_of_blk h3⟩⟩
/-- an index whose blocks are none of these -/
def IxX (X : List Nat) (w : World) (o : Value) (bs : List (List E)) : Prop :=
  ∃ vs : List Value, (∃ So, ArgAt w o 1 (vs.map cel) So ∧ ∀ x ∈ So, x ∉ X) ∧ vs.length = bs.length ∧ ∀ k (h : k < bs.length) v, vs[k]? = some v → ∃ S, ArgAt w v 4 (bs[k].map eC) S ∧ ∀ x ∈ S, x ∉ X
theorem IxX.ix {X : List Nat} (h : IxX X w o bs) : Ix w o bs := by
  obtain ⟨vs, ⟨So, h1, _⟩, h2, h3⟩ := h
  refine ⟨vs, ⟨So, h1⟩, h2, fun k hlt v hv => ?_⟩
  obtain ⟨S, h4, _⟩ := h3 k hlt v hv
  exact ⟨S, h4⟩
theorem IxX.keepS {X S : List Nat} (h : IxX X w o bs) (hk : Kp S w w') (hS : ∀ x ∈ S, x ∈ X) : IxX X w' o bs := by
  obtain ⟨vs, ⟨So, h1, h0⟩, h2, h3⟩ := h
  refine ⟨vs, ⟨So, h1.keep hk fun x hx hm => h0 x hx (hS x hm), h0⟩, h2, fun k hlt v hv => ?_⟩
  obtain ⟨S, h4, h5⟩ := h3 k hlt v hv
  exact ⟨S, h4.keep hk fun x hx hm => h5 x hx (hS x hm), h5⟩
theorem IxX.keep {X : List Nat} (h : IxX X w o bs) (hk : Kp [] w w') : IxX X w' o bs := h.keepS hk (by simp)
theorem IxX.more {X Y : List Nat} (h : IxX X w o bs) (hY : ∀ y ∈ Y, y ∈ X ∨ w.heap.size ≤ y) : IxX Y w o bs := by
  obtain ⟨vs, ⟨So, h1, h0⟩, h2, h3⟩ := h
  obtain ⟨So', g1, g2⟩ := argLt h1
  refine ⟨vs, ⟨So', g1, fun x hx hm => ?_⟩, h2, fun k hlt v hv => ?_⟩
  · rcases hY x hm with hm | hm
    · exact h0 x (g2 x hx).1 hm
    · have := (g2 x hx).2; omega
  · obtain ⟨S, h4, h5⟩ := h3 k hlt v hv
    obtain ⟨S', g3, g4⟩ := argLt h4
    refine ⟨S', g3, fun x hx hm => ?_⟩
    rcases hY x hm with hm | hm
    · exact h5 x (g4 x hx).1 hm
    · have := (g4 x hx).2; omega
/-- a bucket of one's own is turned -/
theorem IxO.upd {So X : List Nat} (h : IxO w o bs So X) {k : Nat} (hk : k < bs.length) : ∃ p v, (∀ K, ia 1 o (.int .i64 k) K = K p) ∧ (∀ w1, Kp [] w w1 → ∀ K : Value → Prop, ld1 p w1 K = K v) ∧ Rd w v 4 (bs[k].map eC) ∧
    ∀ w2, Kp [] w w2 → ∀ v' b' S', ArgAt w2 v' 4 (b'.map eC) S' → Q.one v' = true → (∀ x ∈ S', x ∉ So ∧ x ∉ X) → ∀ K : World → Prop, (∀ w3, Kp So w2 w3 → IxO w3 o (bs.set k b') So X → K w3) → st1 p v' w2 K := by
  obtain ⟨⟨vs, h1, h2, h3⟩, h0⟩ := h
  have hkv : k < vs.length := by omega
  obtain ⟨bl, g1, g2, g3, g4⟩ := h1.updK (f := cel) hkv
  obtain ⟨S, g5, g6⟩ := h3 k hk vs[k] (by simp [hkv])
  refine ⟨_, vs[k], g2, fun w1 hk1 K => g3 w1 hk1 0 vs[k] rfl K, ⟨S, g5⟩, fun w2 hk2 v' b' S' hv' hone hS' K hK => ?_⟩
  refine g4 w2 hk2 0 (by omega) v' v' hone rfl K fun w3 hk3 hr => hK w3 hk3 ⟨⟨vs.set k v', hr, by simp [h2], fun j hj v hv => ?_⟩, h0⟩
  simp only [List.length_set] at hj
  by_cases he : k = j
  · subst he
    rw [List.getElem?_set_self hkv] at hv
    injection hv with hv
    subst hv
    refine ⟨S', ?_, hS'⟩
    rw [List.getElem_set_self]
    exact hv'.keep hk3 fun x hx => (hS' x hx).1
  · rw [List.getElem?_set_ne he] at hv
    obtain ⟨S2, q1, q2⟩ := h3 j hj v hv
    refine ⟨S2, ?_, q2⟩
    rw [List.getElem_set_ne he]
    exact (q1.keep hk2 (by simp)).keep hk3 fun x hx => (q2 x hx).1
/-! ### buckets that are filled -/
structure Gro (w0 w : World) (y : Nat) (o : Value) (bs : List (List E)) (So : List Nat) (B : Nat → List Nat) : Prop where
  ex : ∃ vs : List Value, RowsAt w o 1 (vs.map cel) So ∧ vs.length = bs.length ∧ ∀ k (h : k < bs.length) v, vs[k]? = some v → RowsAt w v 4 (bs[k].map eC) (B k)
  so : ∀ x ∈ So, w0.heap.size ≤ x ∧ x ≠ y
  b : ∀ k x, x ∈ B k → w0.heap.size ≤ x ∧ x < w.heap.size ∧ x ∉ So ∧ x ≠ y
  nd : ∀ j k x, j ≠ k → x ∈ B j → x ∉ B k
theorem Gro.keep {y : Nat} {So : List Nat} {B : Nat → List Nat} (h : Gro w0 w y o bs So B) (hk : Kp [] w w') : Gro w0 w' y o bs So B := by
  obtain ⟨⟨vs, h1, h2, h3⟩, h4, h5, h6⟩ := h
  exact ⟨⟨vs, h1.keep hk (by simp), h2, fun k hlt v hv => (h3 k hlt v hv).keep hk (by simp)⟩, h4, fun k x hx => by
    obtain ⟨a, b, c⟩ := h5 k x hx
    exact ⟨a, Nat.lt_of_lt_of_le b hk.size, c⟩, h6⟩
theorem Gro.keepS {y : Nat} {So S : List Nat} {B : Nat → List Nat} (h : Gro w0 w y o bs So B) (hk : Kp S w w') (hS : ∀ x ∈ S, x < w0.heap.size ∨ x = y) : Gro w0 w' y o bs So B := by
  obtain ⟨⟨vs, h1, h2, h3⟩, h4, h5, h6⟩ := h
  exact ⟨⟨vs, h1.keep hk fun x hx hm => by have := h4 x hx; have := hS x hm; omega, h2, fun k hlt v hv => (h3 k hlt v hv).keep hk fun x hx hm => by have := h5 k x hx; have := hS x hm; omega⟩, h4, fun k x hx => by
    obtain ⟨a, b, c⟩ := h5 k x hx
    exact ⟨a, Nat.lt_of_lt_of_le b hk.size, c⟩, h6⟩
theorem Gro.push {e bytes : Nat} {z : List Value} {y : Nat} {So : List Nat} {B : Nat → List Nat} (h : Gro w0 w y o bs So B) (hy : y < w.heap.size) (hz : z.length = 4) (hb : bytes ≤ 64) {k : Nat} (hk : k < bs.length) : ∃ p v, (∀ K, ia 1 o (.int .i64 k) K = K p) ∧ (∀ w1, Kp [] w w1 → ∀ K : Value → Prop, ld1 p w1 K = K v) ∧
    ∀ w1, Kp [] w w1 → ∀ x a, Rd w1 x 4 [eC a] → bs[k].length < 2 ^ 30 → ∀ K : Value → World → Prop, (∀ v' w2 B', Kp (B k) w1 w2 → (∀ K2 : World → Prop, (∀ w3, Kp So w2 w3 → Gro w0 w3 y o (bs.set k (bs[k] ++ [a])) So B' → K2 w3) → st1 p v' w2 K2) → K v' w2) → app e 4 bytes z.toArray v x w1 K := by
  obtain ⟨⟨vs, h1, h2, h3⟩, h4, h5, h6⟩ := h
  have hkv : k < vs.length := by omega
  obtain ⟨bl, g1, g2, g3, g4⟩ := h1.updK (f := cel) hkv
  have g5 := h3 k hk vs[k] (by simp [hkv])
  refine ⟨_, vs[k], g2, fun w1 hk1 K => g3 w1 hk1 0 vs[k] rfl K, fun w1 hk1 x a hx hl K hK => ?_⟩
  have hs1 := hk1.size
  have hm : 2 * (bs[k].length + 1) * bytes ≤ 2 ^ 32 * 64 := Nat.mul_le_mul (by omega) hb
  refine rows_app (g5.keep hk1 (by simp)) (by omega) hz (G := [eC a]) (by simp [eC, valV]) (by simpa using eC_one [a]) (fun K' hK' => hx.src K' hK') (by simp; omega) (by simp; omega) fun v' w2 S' hr hk2 hS' => ?_
  have hs2 := hk2.size
  obtain ⟨va, vc, hva, _⟩ := hr.len
  have hone : Q.one v' = true := by rw [hva]; rfl
  have hS2 : ∀ q ∈ S', w0.heap.size ≤ q ∧ q ∉ So ∧ q ≠ y ∧ ∀ j, j ≠ k → q ∉ B j := by
    intro q hq
    rcases hS' q hq with hq | hq
    · obtain ⟨a1, a2, a3, a4⟩ := h5 k q hq
      exact ⟨a1, a3, a4, fun j hj => h6 k j q (fun h => hj h.symm) hq⟩
    · have hso := h1.lt
      refine ⟨?_, fun hm => by have := hso q hm; omega, by omega, fun j hj hm => by have := (h5 j q hm).2.1; omega⟩
      have := (h4 bl (by rw [g1]; simp)).1
      have := hso bl (by rw [g1]; simp)
      omega
  have hnS : ∀ q ∈ So, q ∉ B k := fun q hq hm => (h5 k q hm).2.2.1 hq
  have hso2 := (h1.keep hk1 (by simp)).keep hk2 hnS
  obtain ⟨bl', g1', g2', g3', g4'⟩ := hso2.updK (f := cel) hkv
  have hbl : bl' = bl := by rw [g1] at g1'; simpa using g1'.symm
  subst hbl
  refine hK v' w2 (fun j => if j = k then S' else B j) hk2 fun K2 hK2 => ?_
  refine g4' w2 (Kp.refl _ _) 0 (by omega) v' v' hone rfl K2 fun w3 hk3 hr3 => hK2 w3 hk3 ⟨⟨vs.set k v', hr3, by simp [h2], fun j hj v hv => ?_⟩, h4, fun j q hq => ?_, fun i j q hij hq => ?_⟩
  · simp only [List.length_set] at hj
    by_cases he : k = j
    · subst he
      rw [List.getElem?_set_self hkv] at hv
      injection hv with hv
      subst hv
      simp only [if_true]
      rw [List.getElem_set_self, List.map_append]
      exact hr.keep hk3 fun q hq => (hS2 q hq).2.1
    · rw [List.getElem?_set_ne he] at hv
      rw [List.getElem_set_ne he]
      have hjk : ¬ j = k := fun h => he h.symm
      simp only [if_neg hjk]
      exact (((h3 j hj v hv).keep hk1 (by simp)).keep hk2 fun q hq => h6 j k q hjk hq).keep hk3 fun q hq => (h5 j q hq).2.2.1
  · have hs3 := hk3.size
    by_cases hj : j = k
    · simp only [if_pos hj] at hq
      obtain ⟨a1, a2, a3, a4⟩ := hS2 q hq
      have := hr.lt q hq
      exact ⟨a1, by omega, a2, a3⟩
    · simp only [if_neg hj] at hq
      obtain ⟨a1, a2, a3, a4⟩ := h5 j q hq
      exact ⟨a1, by omega, a3, a4⟩
  · by_cases hi : i = k
    · have hj : ¬ j = k := fun h => hij (hi.trans h.symm)
      simp only [if_pos hi] at hq
      simp only [if_neg hj]
      exact (hS2 q hq).2.2.2 j hj
    · simp only [if_neg hi] at hq
      by_cases hj : j = k
      · simp only [if_pos hj]
        intro hm
        exact (hS2 q hm).2.2.2 i hi hq
      · simp only [if_neg hj]
        exact h6 i j q hij hq
end
end Go.Q

/- SpacePlays. -/
set_option maxRecDepth 100000
set_option linter.unusedVariables false
set_option linter.unusedSimpArgs false
namespace Go.Proofs
open Go Go.Q
theorem hasU_z (n : Int) : hasU z63 n = false := by
  have := bits_zero.2 n
  rw [this]
  exact decide_eq_false (by omega)
theorem rIn_st9 (n : Int) : rIn st9 n = false := by
  unfold rIn
  refine decide_eq_false fun ⟨h1, h2, h3⟩ => ?_
  have : st9.us.getD n.toNat false = false := by
    simp only [st9, List.getD, List.getElem?_replicate]
    split <;> rfl
  rw [this] at h3
  exact Bool.noConfusion h3
theorem stq9 : StQ st9 0 z63 := ⟨rfl, fun n => by rw [rIn_st9, hasU_z, Bool.and_false], rfl, rfl⟩
theorem keeps0 : Keeps (DK.fresh 100).now 0 z63 st9.ns st9.bs := by
  have hn : ∀ i, i < 100 → sec (DK.fresh 100).now i = nought := fun i hi => sec_fresh hi
  have hm : mixB 0 0 = nought := by unfold mixB oldB; simp
  refine ⟨by simp [DK.fresh, secs0], (live_fresh 100).sz, by simp [z63], fun _ => ⟨rfl, rfl⟩, hn 3 (by omega), fun h => by omega, ⟨0, by omega, ?_, ?_⟩, fun n _ h => ?_, ⟨by simp [st9], by simp [st9], by simp [st9]⟩, List.Pairwise.nil⟩
  · rw [hm]; exact hn 4 (by omega)
  · rw [hm]; exact nought_not (by omega) (by omega)
  · rw [hasU_z] at h; exact Bool.noConfusion h
section
variable {w w' : World} {R : Value → World → Prop}
theorem zcSd : zc Tryz.prog 42 = #[.pointer none, .pointer none, .slice none 0 0, .slice none 0 0, .slice none 0 0, .int .i64 0, .slice none 0 0, .slice none 0 0, .slice none 0 0, .int .i64 0] := by kernel_rfl
theorem bldSd {bd b : Nat} {c : List Value} (l : c.length = 8) {K : Value → Prop} : bld [(0, 1), (1, 1), (2, 8)] (zc Tryz.prog 42) #[(0, .pointer (some ⟨bd, 0, none⟩)), (1, .pointer (some ⟨b, 0, none⟩)), (2, .agg c.toArray)] K = K (.agg ([Value.pointer (some ⟨bd, 0, none⟩), Value.pointer (some ⟨b, 0, none⟩)] ++ c).toArray) := by
  have s1 : (Value.cells (.agg c.toArray)).size = 8 := by simp [Value.cells, l]
  rw [zcSd]
  unfold bld
  rw [fill_step (off := 0) (size := 1) rfl rfl (by simp), fill_step (off := 1) (size := 1) rfl rfl (by simp [splice, Value.cells]), fill_step (off := 2) (size := 8) rfl s1 (by simp [splice, Value.cells])]
  have e : splice (splice (splice #[.pointer none, .pointer none, .slice none 0 0, .slice none 0 0, .slice none 0 0, .int .i64 0, .slice none 0 0, .slice none 0 0, .slice none 0 0, .int .i64 0] 0 (Value.cells (.pointer (some ⟨bd, 0, none⟩)))) 1 (Value.cells (.pointer (some ⟨b, 0, none⟩)))) 2 (Value.cells (.agg c.toArray)) = ([Value.pointer (some ⟨bd, 0, none⟩), Value.pointer (some ⟨b, 0, none⟩)] ++ c).toArray := by
    simp [splice, Value.cells, l, List.take_of_length_le]
  simp only [Instr.fill, e]
theorem plays13 {va : Value} {acts : List A13} (hv : Rd w va 6 (acts.map A13.C)) (ha : ∀ a ∈ acts, a.Ok w) (hR : ∀ w', Kp [] w w' → R (.bool true) w') : callG Tryz.prog 3 #[va] w R := by
  refine law13_SpacePlays_call ?_
  unfold law13_SpacePlays law13_SpacePlays_s6
  rw [show (Value.int .i64 100) = .int .i64 ((100 : Nat) : Int) from rfl, show (Value.int .i64 3) = .int .i64 ((3 : Nat) : Int) from rfl, show (Value.int .i64 99) = .int .i64 ((99 : Nat) : Int) from rfl, show (Value.int .i64 96) = .int .i64 ((96 : Nat) : Int) from rfl]
  refine New_ok (by omega) (by omega) fun w1 bd Sd hd1 k1 hS1 => ?_
  rw [ex0, ex1]
  have hnl : (DK.fresh 100).now.length = 100 := by simp [DK.fresh, secs0]
  refine Open_any hd1 rfl (pages := 9) (by rw [hnl]; omega) (by omega) (by decide) (keeps0.oK_ok 0) (keeps0.oK_ok 1) fun w2 b ms mn s1 sv q0 q1 hb hms hmn k2 hsp2 => ?_
  have hsv := keeps0.opened (by omega) q0 q1
  rw [hsv] at hsp2
  have hsp2 : SpAt w2 b bd (openS (DK.fresh 100) 0 z63 st9.ns) Sd ms mn := hsp2
  have hrel : Rel (openS (DK.fresh 100) 0 z63 st9.ns) st9 st9 0 := rel_open rfl rfl rfl keeps0 stq9.t stq9.us stq9.l (Nat.le_refl _)
  rw [ex0, ex1]
  simp only [bq_neq, bV_b, decide_eq_true_eq]
  refine ⟨fun hh => absurd rfl hh, fun _ => ⟨fun hh => absurd rfl hh, fun _ => ?_⟩⟩
  rw [bq_peql _ (by kernel_rfl)]
  simp only [bV_b, Option.isNone_some]
  refine ⟨fun hh => by simp at hh, fun _ => ?_⟩
  refine pages_sp hsp2 ?_
  refine pages_ref (by omega) (by omega) ?_
  simp only [bq_neq, bV_b, decide_eq_true_eq]
  refine ⟨fun hh => absurd rfl hh, fun _ => ?_⟩
  unfold law13_SpacePlays_s5
  refine new_ref fun w3 c3 hq3 hs3 k3 => ?_
  rw [bldSd hq3.len]
  refine argB fun x w4 hx4 hx k4 => ?_
  have z1 := k1.size
  have z2 := k2.size
  have z3 := k3.size
  have z4 := k4.size
  have lts := hsp2.lts
  have hX : ∀ y ∈ b :: ms :: mn :: Sd, w.heap.size ≤ y := by
    intro y hy
    simp only [List.mem_cons] at hy
    rcases hy with rfl | rfl | rfl | hy
    · omega
    · omega
    · omega
    · exact hS1 y hy
  have av3 : Av (b :: ms :: mn :: Sd) c3 := by
    have : Av (b :: ms :: mn :: Sd) [] := fun v hv => by simp at hv
    exact this.src hs3 lts
  have k24 := k3.trans' k4
  have hp : PX w w4 x bd b c3 (openS (DK.fresh 100) 0 z63 st9.ns) st9 st9 (b :: ms :: mn :: Sd) :=
    ⟨⟨Sd, ms, mn, rfl, hsp2.keep0 k24⟩, hX, by omega, fun hm => by have := lts x hm; omega, hq3.new av3 fun y hy => by
      rcases List.mem_cons.1 hy with rfl | hy
      · right; omega
      · exact .inl hy, ((k1.trans' k2).trans' k3).trans' k4, ⟨hx⟩, hq3.keep k4⟩
  unfold law13_SpacePlays_s4 law13_SpacePlays_L3
  have hlen : (acts.map A13.C).length = acts.length := by simp
  refine loop_inv (fun m xs w' => ∃ k b cq s qs qn X, k ≤ acts.length ∧ k ≤ 50 ∧ m = 50 - k ∧ xs = [va, .pointer (some ⟨x, 0, none⟩), .int .i64 (k : Nat)] ∧ PX w w' x bd b cq s qs qn X ∧ Rel s qs qn k) ?_ (m := 50) ⟨0, _, _, _, _, _, _, by omega, by omega, rfl, rfl, hp, hrel⟩
  rintro m N xs w5 ⟨k, b5, c5, s5, qs5, qn5, X5, hk, hk50, rfl, rfl, hp5, hr5⟩ hN
  unfold law13_SpacePlays_L3F law13_SpacePlays_s2
  dsimp only
  have kp5 := hp5.kp
  have fin : law13_SpacePlays_s0 R w5 := by
    unfold law13_SpacePlays_s0
    exact awake_spec fun w6 k6 => hR w6 (kp5.trans' k6)
  rw [hv.lenL, hlen]
  simp only [bq_lss, bV_b, decide_eq_true_eq, decide_eq_false_iff_not]
  refine ⟨fun hlt => ⟨fun hlt2 => ?_, fun _ => fin⟩, fun _ => fin⟩
  have hlt : k < acts.length := by omega
  have hlt2 : k < 50 := by omega
  obtain ⟨bl, o, i1, i2⟩ := hv.rowK (i := k) (by rw [hlen]; exact hlt)
  obtain ⟨j1, j2, _⟩ := i2 w5 kp5
  have hrow : (acts.map A13.C)[k]'(by rw [hlen]; exact hlt) = acts[k].C := by simp
  rw [hrow] at j1 j2
  unfold law13_SpacePlays_s1
  rw [i1, fa_p, j2 4 (.string (str acts[k].nm)) (by omega) rfl]
  simp only [lenS_s, str_size, bq_gtr, bV_b, decide_eq_true_eq, decide_eq_false_iff_not]
  refine ⟨fun _ => awake_spec fun w6 k6 => hR w6 (kp5.trans' k6), fun _ => ?_⟩
  rw [i1, j1]
  refine does13_spec hp5 hr5 hlt2 (ha _ (List.getElem_mem hlt)) fun w6 b6 c6 s6 qs6 qn6 X6 hp6 hr6 => ?_
  simp only [un_not, bV_b]
  refine ⟨fun hh => by simp at hh, fun _ => ?_⟩
  have e1 : IntKind.i64.wrap ((k : Int) + 1) = ((k + 1 : Nat) : Int) := by rw [w64 (by omega) (by omega)]; simp
  simp only [bq_add, e1]
  exact hN (50 - (k + 1)) _ w6 (by omega) ⟨k + 1, b6, c6, s6, qs6, qn6, X6, by omega, by omega, rfl, rfl, hp6, hr6⟩
end
end Go.Proofs

/- SpacePlays: the calls that came in. -/
set_option linter.unusedVariables false
set_option linter.unusedSimpArgs false
namespace Go.Proofs
open Go Go.Q
/-- an argument that the statement's own reading took -/
def Taken (w : World) (t : TypeId) (v : Value) : Prop :=
  ∃ (H : Type) (enc : TypeId × Value → H) (fuel : Nat) (x : DataW H × List MemPlace), DataW.trod enc Tryz.prog w 0 (fun _ => true) true fuel t v.cells.toList = some x
theorem i64_bnd' {a : Int} (h : (Lit.int .i64 a).wf = true) : -9223372036854775808 ≤ a ∧ a < 9223372036854775808 := by
  simp only [Lit.wf, IntKind.min, IntKind.max, IntKind.signed, IntKind.bits, Bool.and_eq_true, decide_eq_true_eq, if_true] at h
  omega
variable {w w' : World} {R : Value → World → Prop}
theorem ints13 {H : Type} {enc : TypeId × Value → H} {w : World} {fuel : Nat} {v : Value} {x : DataW H × List MemPlace} (h : DataW.trod enc Tryz.prog w 0 (fun _ => true) true fuel 43 [v] = some x) :
    ∃ ks SK, IntsAt w v ks SK ∧ (∀ b ∈ SK, b < w.heap.size) ∧ ∀ x ∈ ks, -9223372036854775808 ≤ x ∧ x < 9223372036854775808 := by
  rcases Go.ChangeShapes.open_ints Tryz.underlying43 Tryz.underlying3 (by kernel_rfl) h with ⟨hcs, _⟩ | ⟨x, l, c, zs, hcs, _, hl, hm, hz, _, hcell, hwz⟩
  · injection hcs with hcs _
    subst hcs
    exact ⟨[], [], ints_nil, by simp, by simp⟩
  · injection hcs with hcs _
    subst hcs
    simp only [if_true] at hz
    obtain ⟨SK, h1, h2⟩ := ints_in (len := l) (cap := c) hcell (by omega)
    exact ⟨_, SK, h1, h2, fun y hy => i64_bnd' (hwz y (List.mem_of_mem_take hy))⟩
theorem wf8' {n : Int} (h : (Lit.int .u8 n).wf = true) : n = ((UInt8.ofNat n.toNat).toNat : Int) := by
  simp [Lit.wf, IntKind.min, IntKind.max, IntKind.bits, IntKind.signed] at h
  simp
  omega
theorem str_all' (s : ByteArray) : s = str s.data.toList := by cases s; simp [str]
theorem list6 {r : List Value} (h : r.length = 6) : ∃ a b c d e f, r = [a, b, c, d, e, f] := by
  match r, h with
  | [a, b, c, d, e, f], _ => exact ⟨a, b, c, d, e, f, rfl⟩
theorem act13 {H : Type} {enc : TypeId × Value → H} {w : World} {fuel : Nat} {r : List Value} {x : DataW H × List MemPlace} (h : DataW.trod enc Tryz.prog w 0 (fun _ => true) true fuel 45 r = some x) : ∃ a : A13, r = a.C ∧ a.Ok w := by
  obtain ⟨xs, n, rfl, _, hl, hx, hf⟩ := DataW.trod_struct Tryz.underlying45 h
  have hA : Tryz.prog.cellsOf 45 = 6 := by kernel_rfl
  have h3 : Tryz.prog.cellsOf 3 = 1 := by kernel_rfl
  have h5 : Tryz.prog.cellsOf 5 = 1 := by kernel_rfl
  have h9 : Tryz.prog.cellsOf 9 = 1 := by kernel_rfl
  have h22 : Tryz.prog.cellsOf 43 = 1 := by kernel_rfl
  rw [hA] at hl
  have hx6 : xs.length = 6 := hx
  obtain ⟨r0, r1, r2, r3, r4, r5, rfl⟩ := list6 hl
  have g0 : DataW.trod enc Tryz.prog w 0 (fun _ => true) true n 3 (([r0, r1, r2, r3, r4, r5].drop 0).take (Tryz.prog.cellsOf 3)) = xs[0]? := hf 0 _ rfl
  have g1 : DataW.trod enc Tryz.prog w 0 (fun _ => true) true n 3 (([r0, r1, r2, r3, r4, r5].drop 1).take (Tryz.prog.cellsOf 3)) = xs[1]? := hf 1 _ rfl
  have g2 : DataW.trod enc Tryz.prog w 0 (fun _ => true) true n 3 (([r0, r1, r2, r3, r4, r5].drop 2).take (Tryz.prog.cellsOf 3)) = xs[2]? := hf 2 _ rfl
  have g3 : DataW.trod enc Tryz.prog w 0 (fun _ => true) true n 5 (([r0, r1, r2, r3, r4, r5].drop 3).take (Tryz.prog.cellsOf 5)) = xs[3]? := hf 3 _ rfl
  have g4 : DataW.trod enc Tryz.prog w 0 (fun _ => true) true n 9 (([r0, r1, r2, r3, r4, r5].drop 4).take (Tryz.prog.cellsOf 9)) = xs[4]? := hf 4 _ rfl
  have g5 : DataW.trod enc Tryz.prog w 0 (fun _ => true) true n 43 (([r0, r1, r2, r3, r4, r5].drop 5).take (Tryz.prog.cellsOf 43)) = xs[5]? := hf 5 _ rfl
  rw [List.getElem?_eq_getElem (by omega)] at g0 g1 g2 g3 g4 g5
  rw [h3] at g0 g1 g2
  rw [h5] at g3
  rw [h9] at g4
  rw [h22] at g5
  have e0 : ([r0, r1, r2, r3, r4, r5].drop 0).take 1 = [r0] := rfl
  have e1 : ([r0, r1, r2, r3, r4, r5].drop 1).take 1 = [r1] := rfl
  have e2 : ([r0, r1, r2, r3, r4, r5].drop 2).take 1 = [r2] := rfl
  have e3 : ([r0, r1, r2, r3, r4, r5].drop 3).take 1 = [r3] := rfl
  have e4 : ([r0, r1, r2, r3, r4, r5].drop 4).take 1 = [r4] := rfl
  have e5 : ([r0, r1, r2, r3, r4, r5].drop 5).take 1 = [r5] := rfl
  rw [e0] at g0
  rw [e1] at g1
  rw [e2] at g2
  rw [e3] at g3
  rw [e4] at g4
  rw [e5] at g5
  clear e0 e1 e2 e3 e4 e5
  obtain ⟨kind, e0, _, _⟩ := DataW.trod_int Tryz.underlying3 g0
  obtain ⟨nn, e1, _, _⟩ := DataW.trod_int Tryz.underlying3 g1
  obtain ⟨fuse, e2, _, wf2⟩ := DataW.trod_int Tryz.underlying3 g2
  obtain ⟨c, e3, _, wf3⟩ := DataW.trod_int Tryz.underlying5 g3
  obtain ⟨s, e4, _, _⟩ := DataW.trod_string Tryz.underlying9 g4
  obtain ⟨ks, SK, hk, hlt, hw⟩ := ints13 g5
  injection e0 with e0 _
  injection e1 with e1 _
  injection e2 with e2 _
  injection e3 with e3 _
  injection e4 with e4 _
  subst e0; subst e1; subst e2; subst e3; subst e4
  exact ⟨⟨kind, nn, fuse, UInt8.ofNat c.toNat, s.data.toList, r5, ks, SK⟩, by show _ = [_, _, _, _, _, _]; rw [← wf8' wf3, ← str_all'], hk, hlt, hw, (i64_bnd' wf2).2⟩
theorem acts13_of {w : World} {rows : List (List Value)} (h : ∀ r ∈ rows, ∃ a : A13, r = a.C ∧ a.Ok w) : ∃ l : List A13, rows = l.map A13.C ∧ ∀ a ∈ l, a.Ok w := by
  induction rows with
  | nil => exact ⟨[], rfl, by simp⟩
  | cons r rows ih =>
    obtain ⟨l, h1, h2⟩ := ih fun x hx => h x (by simp [hx])
    obtain ⟨s, h3, h4⟩ := h r (by simp)
    exact ⟨s :: l, by rw [h1, h3]; rfl, fun x hx => by
      rcases List.mem_cons.1 hx with rfl | hx
      · exact h4
      · exact h2 x hx⟩
theorem acts13_taken {w : World} {a : Option Addr} {l c : Nat} (h : Taken w 22 (.slice a l c)) : ∃ acts : List A13, Rd w (.slice a l c) 6 (acts.map A13.C) ∧ ∀ a ∈ acts, a.Ok w := by
  obtain ⟨H, enc, fuel, x, h⟩ := h
  obtain ⟨v, rows, SK, hv, harg, hlt, hlen, hr⟩ := arg_slice Tryz.underlying22 (n := 6) (by kernel_rfl) (by omega) h
  obtain ⟨acts, hl, hs⟩ := acts13_of (rows := rows) fun r hm => by
    obtain ⟨f, y, hy⟩ := hr r hm
    exact act13 hy
  subst hl
  injection hv with e _
  subst e
  exact ⟨acts, ⟨SK, harg⟩, hs⟩
end Go.Proofs

