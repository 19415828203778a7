/- Part of the proof (P5): an engine, rules or contracts of the functions; it states nothing of the claim by itself. -/
import Derived.Test.YtojnmknankmhcaaGreatP4
import Derived.Test.YtojnmknankmhcaaGreatP1
import Derived.Test.YtojnmknankmhcaaGreatP2
import Derived.Test.YtojnmknankmhcaaGreatP3

/- Layer 13: what the laws' calls leave on a disk that lives (no program in sight). -/
set_option maxRecDepth 100000
set_option linter.unusedVariables false
set_option linter.unusedSimpArgs false
namespace Go.Proofs
open Go Go.Q
def nought : List UInt8 := List.replicate 32 0
theorem nought_head {L : List (List UInt8)} {fr i pages : Nat} (h : sec L (fr + i) = nought) (hp : pages ≤ 500) : HeadAt L fr pages i none := by
  intro t h1 h2 _ he
  have e1 : takeN (headB t pages) 4 = t * 4096 + pages := take_head h2 hp
  have e2 : sec L (fr + i) = headB t pages := he
  rw [← e2, h] at e1
  have : takeN nought 4 = 0 := by decide
  omega
/-- a commit of turn 1, as it lies on a disk from its first sector on -/
structure Kept (L : List (List UInt8)) (P n : Nat) (u : List UInt8) (N : List (List UInt8 × Int)) (f : Nat → UInt8) : Prop where
  h0 : sec L 0 = nought
  h1 : sec L 1 = headB 1 P
  mp : pgs L 16 = bytesP (lay 200 (stL u N))
  pg : ∀ j, 1 ≤ j → j ≤ n → pgs L (8 * (j + 2)) = List.replicate 256 (f j)
theorem Kept.congr {L M : List (List UInt8)} {P n : Nat} {u : List UInt8} {N : List (List UInt8 × Int)} {f : Nat → UInt8} (h : Kept L P n u N f) (hn : 1 ≤ n) (hL : 8 * (n + 3) ≤ L.length) (hM : 8 * (n + 3) ≤ M.length) (hs : ∀ i, i < 8 * (n + 3) → sec M i = sec L i) : Kept M P n u N f :=
  ⟨by rw [hs 0 (by omega)]; exact h.h0, by rw [hs 1 (by omega)]; exact h.h1, by rw [pgs_congr (M := L) (by omega) (by omega) fun i _ hi => hs i (by omega)]; exact h.mp,
    fun j h1 h2 => by rw [pgs_congr (M := L) (by omega) (by omega) fun i _ hi => hs i (by omega)]; exact h.pg j h1 h2⟩
theorem Kept.heads {L : List (List UInt8)} {P n : Nat} {u : List UInt8} {N : List (List UInt8 × Int)} {f : Nat → UInt8} (h : Kept L P n u N f) (hP : P ≤ 500) (hu : u.length = 63) (hN : Fine N) (hs : KeyS N) : HeadAt L 0 P 0 none ∧ HeadAt L 0 P 1 (some ⟨1, u, N⟩) :=
  ⟨nought_head (by simpa using h.h0) hP, h.h1, rfl, by show 1 ≤ 1; omega, by show 1 ≤ 1048575; omega, hu, fun x hx => by have := hN.vl x hx; omega, fit_stL hu hN, sort_stL hs, h.mp⟩
/-! ### ahead of the commit -/
structure Pre (s : SP) (P i : Nat) (f : Nat → UInt8) : Prop where
  live : Live s.d
  fr : s.from_ = 0
  pages : s.pages = P
  turn : s.turn = 0
  su : s.su = z63
  nn : s.nn = []
  bits : Bits s.nu 0 i
  fit : 8 * (P + 3) ≤ s.d.now.length
  low : ∀ j, j < 24 → sec s.d.now j = nought
  pg : ∀ j, 1 ≤ j → j ≤ i → pgs s.d.now (8 * (j + 2)) = List.replicate 256 (f j)
  log : s.d.l.length ≤ 16 * i
theorem pre_zero {n P : Nat} (f : Nat → UInt8) (hP : 8 * (P + 3) ≤ n) : Pre ⟨DK.fresh n, 0, P, 0, z63, z63, [], []⟩ P 0 f :=
  ⟨live_fresh n, rfl, rfl, rfl, rfl, rfl, bits_zero, by simpa [DK.fresh, secs0] using hP, fun j hj => sec_fresh (by omega), fun j h1 h2 => by omega, by simp [DK.fresh]⟩
/-- the next page is taken -/
theorem alloc_next {s : SP} {i : Nat} (h : Live s.d) (hn : Bits s.nu 0 i) (hu : Bits s.su 0 0) (hi : i < s.pages) (hf : s.from_ + 8 * (s.pages + 3) ≤ s.d.now.length) :
    ∃ d', s.alloc = ({ s with d := d', nu := setB s.nu (i + 1) true }, ((i + 1 : Nat) : Int), 0) ∧ Wrote s.d d' (s.from_ + 8 * (i + 1 + 2)) 8 (List.replicate 256 0) := by
  have hfr : ∀ j, j < i → isFree s ((j : Nat) + 1 : Int) = false := fun j hj => by
    unfold isFree
    rw [hn.2, hu.2, decide_eq_true (by omega)]; rfl
  have hfi : isFree s ((i : Nat) + 1 : Int) = true := by
    unfold isFree
    rw [hn.2, hu.2, decide_eq_false (by omega), decide_eq_false (by omega)]; rfl
  have hfind := find_range (p := fun k => isFree s ((k : Nat) + 1 : Int)) hi hfr hfi
  obtain ⟨g1, g2⟩ := wrs_live 8 h (a := s.from_ + 8 * (i + 1 + 2)) (t := List.replicate 256 0) (by omega) (by simp)
  refine ⟨(s.wr (i + 1) (List.replicate 256 0)).1, ?_, g2⟩
  unfold SP.alloc
  rw [hfind]
  simp only
  rw [if_neg (by show ¬ (wrs 8 s.d (s.from_ + 8 * (i + 1 + 2)) (List.replicate 256 0)).2 ≠ 0; rw [g1]; simp)]
/-- a page is taken and written -/
theorem Pre.step {s : SP} {P i : Nat} {f : Nat → UInt8} (h : Pre s P i f) (hi : i < P) (hP : P ≤ 500) : s.alloc.2 = (((i + 1 : Nat) : Int), 0) ∧ (s.alloc.1.write ((i + 1 : Nat) : Int) (List.replicate 256 (f (i + 1)))).2 = 0 ∧ Pre (s.alloc.1.write ((i + 1 : Nat) : Int) (List.replicate 256 (f (i + 1)))).1 P (i + 1) f := by
  have hsu : Bits s.su 0 0 := by rw [h.su]; exact bits_zero
  have hfit := h.fit
  obtain ⟨d', e, hw⟩ := alloc_next h.live h.bits hsu (by rw [h.pages]; exact hi) (by rw [h.fr, h.pages]; omega)
  rw [e]
  refine ⟨rfl, ?_⟩
  have hb := h.bits.add (by omega) (by omega)
  have hfresh : ({ s with d := d', nu := setB s.nu (i + 1) true } : SP).fresh ((i + 1 : Nat) : Int) = true := by
    unfold SP.fresh
    have h1 : inN13 ({ s with d := d', nu := setB s.nu (i + 1) true } : SP) ((i + 1 : Nat) : Int) = true := by
      rw [Bits.inN (lo := 0) (hi := i + 1) hb (by show i + 1 ≤ s.pages; rw [h.pages]; omega)]
      rw [decide_eq_true_eq]; omega
    have h2 : hasU s.su ((i + 1 : Nat) : Int) = false := by rw [hsu.2, decide_eq_false_iff_not]; omega
    rw [h1]
    show (true && !hasU s.su ((i + 1 : Nat) : Int)) = true
    rw [h2]; rfl
  have hwl := hw.len
  rw [h.fr] at hw
  obtain ⟨g1, g2⟩ := wrs_live 8 hw.live (a := 0 + 8 * (i + 1 + 2)) (t := List.replicate 256 (f (i + 1))) (by omega) (by simp)
  unfold SP.write
  rw [if_neg (by simp), if_pos hfresh]
  have hwr : ({ s with d := d', nu := setB s.nu (i + 1) true } : SP).wr (((i + 1 : Nat) : Int)).toNat (List.replicate 256 (f (i + 1))) = wrs 8 d' (0 + 8 * (i + 1 + 2)) (List.replicate 256 (f (i + 1))) := by
    rw [Int.toNat_natCast]; unfold SP.wr; rw [← h.fr]
  rw [hwr]
  refine ⟨g1, ⟨g2.live, h.fr, h.pages, h.turn, h.su, h.nn, hb, ?_, fun j hj => ?_, fun j h1 h2 => ?_, ?_⟩⟩
  · show _ ≤ (wrs 8 d' (0 + 8 * (i + 1 + 2)) (List.replicate 256 (f (i + 1)))).1.now.length
    rw [g2.len, hwl]; exact hfit
  · show sec (wrs 8 d' (0 + 8 * (i + 1 + 2)) (List.replicate 256 (f (i + 1)))).1.now j = nought
    rw [g2.out j (.inl (by omega)), hw.out j (.inl (by omega))]
    exact h.low j hj
  · show pgs (wrs 8 d' (0 + 8 * (i + 1 + 2)) (List.replicate 256 (f (i + 1)))).1.now _ = _
    by_cases hj : j = i + 1
    · subst hj
      refine pgs_text (by rw [g2.len, hwl]; omega) (by simp) fun k hk => ?_
      have := g2.inn k hk
      rw [show 0 + 8 * (i + 1 + 2) + k = 8 * (i + 1 + 2) + k by omega] at this
      exact this
    · rw [pgs_congr (M := s.d.now) (by rw [g2.len, hwl]; omega) (by omega) fun x h3 h4 => by rw [g2.out x (.inl (by omega)), hw.out x (.inl (by omega))]]
      exact h.pg j h1 (by omega)
  · show (wrs 8 d' (0 + 8 * (i + 1 + 2)) (List.replicate 256 (f (i + 1)))).1.l.length ≤ _
    obtain ⟨E, e1, e2, _⟩ := g2.log
    obtain ⟨E', e1', e2', _⟩ := hw.log
    have := h.log
    rw [e1, e1']; simp only [List.length_append]; omega
theorem perm_one {α : Type} {x : α} {l : List α} (h : l.Perm [x]) : l = [x] := List.perm_singleton.1 h
/-- .. and committed by one name -/
theorem Pre.done {s : SP} {P n : Nat} {f : Nat → UInt8} (h : Pre s P n f) (hn : 1 ≤ n) (hnP : n ≤ P) (hP : P ≤ 500) {nm : List UInt8} (hnm : 1 ≤ nm.length ∧ nm.length ≤ 8) {N : List (List UInt8 × Int)} (hp : N.Perm [(nm, 1)]) :
    N = [(nm, 1)] ∧ (({ s with nn := [(nm, 1)] } : SP).commit N).2 = 0 ∧ Done { s with nn := [(nm, 1)] } (({ s with nn := [(nm, 1)] } : SP).commit N).1 N ∧ Kept (({ s with nn := [(nm, 1)] } : SP).commit N).1.d.now P n s.nu N f := by
  have hN := perm_one hp
  subst hN
  have hin : inN13 ({ s with nn := [(nm, 1)] } : SP) 1 = true := by
    rw [Bits.inN (s := { s with nn := [(nm, 1)] }) (lo := 0) (hi := n) h.bits (by show n ≤ s.pages; rw [h.pages]; exact hnP), decide_eq_true_eq]; omega
  have hfine : Fine [(nm, (1 : Int))] := ⟨by simp, by simpa using hnm, by simp⟩
  have hfit := h.fit
  obtain ⟨g1, g2⟩ := commit_live (s := { s with nn := [(nm, 1)] }) (N := [(nm, 1)]) h.live (by simpa using hin) (by show s.turn < _; rw [h.turn]; omega) (by show s.from_ + 8 * (s.pages + 3) ≤ s.d.now.length; rw [h.fr, h.pages]; omega) (by show 1 ≤ s.pages; rw [h.pages]; omega) (bytesP_len (lay_len (fit_stL h.bits.1 hfine)))
  refine ⟨rfl, g1, g2, ?_⟩
  have e1 : ({ s with nn := [(nm, 1)] } : SP).from_ + (({ s with nn := [(nm, 1)] } : SP).turn + 1) % 2 = 1 := by show s.from_ + (s.turn + 1) % 2 = 1; rw [h.fr, h.turn]
  have e2 : ({ s with nn := [(nm, 1)] } : SP).from_ + 8 * (1 + (({ s with nn := [(nm, 1)] } : SP).turn + 1) % 2) = 16 := by show s.from_ + 8 * (1 + (s.turn + 1) % 2) = 16; rw [h.fr, h.turn]
  have gh := g2.head
  have gm := g2.map_
  have go := g2.out
  rw [e1] at gh go
  rw [e2] at gm go
  have ht : ({ s with nn := [(nm, 1)] } : SP).turn + 1 = 1 := by show s.turn + 1 = 1; rw [h.turn]
  have hpg : ({ s with nn := [(nm, 1)] } : SP).pages = P := h.pages
  have gh := gh.trans (show headB _ _ = headB 1 P by rw [ht, hpg])
  have gl : (({ s with nn := [(nm, 1)] } : SP).commit [(nm, 1)]).1.d.now.length = s.d.now.length := g2.len
  refine ⟨?_, gh, gm, fun j h1 h2 => ?_⟩
  · rw [go 0 (by omega) (.inl (by omega))]
    exact h.low 0 (by omega)
  · rw [pgs_congr (M := s.d.now) (by rw [gl]; omega) (by omega) fun x h3 h4 => go x (by omega) (.inr (by omega))]
    exact h.pg j h1 h2
/-! ### behind the commit -/
structure Aft (s : SP) (P n : Nat) (N : List (List UInt8 × Int)) (u0 : List UInt8) (f : Nat → UInt8) (k : Nat) : Prop where
  live : Live s.d
  fr : s.from_ = 0
  pages : s.pages = P
  su : Bits s.su 0 n
  kept : Kept s.d.sure P n u0 N f
  len : s.d.sure.length = s.d.now.length
  fit : 8 * (P + 3) ≤ s.d.now.length
  log : ∀ x ∈ s.d.l, 8 * (n + 3) ≤ x.1
  few : s.d.l.length ≤ 8 * k
theorem Aft.wrote {s : SP} {P n k : Nat} {N : List (List UInt8 × Int)} {u0 : List UInt8} {f : Nat → UInt8} (h : Aft s P n N u0 f k) {d' : DK} {m : Nat} {t nu : List UInt8} (hw : Wrote s.d d' (s.from_ + 8 * (m + 2)) 8 t) (hm : n < m) : Aft { s with d := d', nu := nu } P n N u0 f (k + 1) := by
  obtain ⟨E, e1, e2, e3⟩ := hw.log
  refine ⟨hw.live, h.fr, h.pages, h.su, by show Kept d'.sure _ _ _ _ _; rw [hw.sure]; exact h.kept, by show d'.sure.length = d'.now.length; rw [hw.sure, hw.len]; exact h.len, by show _ ≤ d'.now.length; rw [hw.len]; exact h.fit, fun x hx => ?_, ?_⟩
  · have hx : x ∈ s.d.l ++ E := by rw [← e1]; exact hx
    rcases List.mem_append.1 hx with hx | hx
    · exact h.log x hx
    · have := e3 x hx; rw [h.fr] at this; omega
  · show d'.l.length ≤ _
    rw [e1, List.length_append, e2]; have := h.few; omega
theorem Aft.more {s : SP} {P n k : Nat} {N : List (List UInt8 × Int)} {u0 : List UInt8} {f : Nat → UInt8} (h : Aft s P n N u0 f k) : Aft s P n N u0 f (k + 1) := ⟨h.live, h.fr, h.pages, h.su, h.kept, h.len, h.fit, h.log, by have := h.few; omega⟩
theorem Aft.release {s : SP} {P n k : Nat} {N : List (List UInt8 × Int)} {u0 : List UInt8} {f : Nat → UInt8} (h : Aft s P n N u0 f k) (x : Int) : Aft (s.release x).1 P n N u0 f (k + 1) := by
  unfold SP.release
  split
  · exact ⟨h.live, h.fr, h.pages, h.su, h.kept, h.len, h.fit, h.log, by have := h.few; show s.d.l.length ≤ _; omega⟩
  · exact h.more
theorem Aft.name {s : SP} {P n k : Nat} {N : List (List UInt8 × Int)} {u0 : List UInt8} {f : Nat → UInt8} (h : Aft s P n N u0 f k) (nm : List UInt8) (x : Int) : Aft (s.name nm x).1 P n N u0 f (k + 1) := by
  unfold SP.name
  split
  · exact h.more
  · split
    · exact h.more
    · split
      · exact h.more
      · exact ⟨h.live, h.fr, h.pages, h.su, h.kept, h.len, h.fit, h.log, by have := h.few; show s.d.l.length ≤ _; omega⟩
theorem Aft.alloc {s : SP} {P n k : Nat} {N : List (List UInt8 × Int)} {u0 : List UInt8} {f : Nat → UInt8} (h : Aft s P n N u0 f k) : Aft s.alloc.1 P n N u0 f (k + 1) ∧ (s.alloc.2.2 = 0 → (n : Int) < s.alloc.2.1) := by
  unfold SP.alloc
  cases hf : (List.range s.pages).find? (fun k => isFree s ((k : Nat) + 1 : Int)) with
  | none => exact ⟨h.more, fun hh => by simp at hh⟩
  | some m =>
    have hfree := List.find?_some hf
    have hmem := List.mem_of_find?_eq_some hf
    simp at hmem
    have hnm : n < m + 1 := by
      refine Classical.byContradiction fun hh => ?_
      have : hasU s.su ((m : Nat) + 1 : Int) = true := by rw [h.su.2, decide_eq_true_eq]; omega
      unfold isFree at hfree
      rw [this] at hfree
      simp at hfree
    have hfit := h.fit
    have hpages := h.pages
    obtain ⟨g1, g2⟩ := wrs_live 8 h.live (a := s.from_ + 8 * (m + 1 + 2)) (t := List.replicate 256 0) (by rw [h.fr]; omega) (by simp)
    have hw : (s.wr (m + 1) (List.replicate 256 0)).2 = 0 := g1
    simp only
    rw [if_neg (by rw [hw]; simp)]
    exact ⟨h.wrote g2 hnm, fun _ => by show (n : Int) < ((m + 1 : Nat) : Int); omega⟩
theorem Aft.write {s : SP} {P n k : Nat} {N : List (List UInt8 × Int)} {u0 : List UInt8} {f : Nat → UInt8} (h : Aft s P n N u0 f k) (x : Int) {t : List UInt8} (ht : t.length = 256) : Aft (s.write x t).1 P n N u0 f (k + 1) ∧ ((s.write x t).2 = 0 → (n : Int) < x) := by
  unfold SP.write
  rw [if_neg (by omega)]
  by_cases hfr : s.fresh x = true
  · rw [if_pos hfr]
    unfold SP.fresh at hfr
    rw [Bool.and_eq_true] at hfr
    obtain ⟨n1, n2, n3⟩ := inN_pos hfr.1
    have hx : (n : Int) < x := by
      refine Classical.byContradiction fun hh => ?_
      have : hasU s.su x = true := by rw [h.su.2, decide_eq_true_eq]; omega
      rw [this] at hfr
      simp at hfr
    have hfit := h.fit
    have hpages := h.pages
    obtain ⟨g1, g2⟩ := wrs_live 8 h.live (a := s.from_ + 8 * (x.toNat + 2)) (t := t) (by rw [h.fr]; omega) (by omega)
    exact ⟨h.wrote g2 (nu := s.nu) (by omega), fun _ => hx⟩
  · rw [if_neg hfr]
    exact ⟨h.more, fun hh => by simp at hh⟩
theorem Aft.crash {s : SP} {P n k : Nat} {N : List (List UInt8 × Int)} {u0 : List UInt8} {f : Nat → UInt8} (h : Aft s P n N u0 f k) (hn : 1 ≤ n) (hnP : n ≤ P) (ks : List Int) (hl : (s.d.crash ks).now.length = s.d.now.length) : Kept (s.d.crash ks).now P n u0 N f := by
  have hfit := h.fit
  refine h.kept.congr hn (by rw [h.len]; omega) (by rw [hl]; omega) fun i hi => ?_
  exact crash_out fun x hx hh => by have := h.log x hx; omega
theorem Done.aft {s s' : SP} {P n : Nat} {N : List (List UInt8 × Int)} {f : Nat → UInt8} (h : Done s s' N) (hk : Kept s'.d.now P n s.nu N f) (hb : Bits s.nu 0 n) (hfr : s.from_ = 0) (hp : s.pages = P) (hfit : 8 * (P + 3) ≤ s.d.now.length) : Aft s' P n N s.nu f 0 := by
  have hs := h.same
  refine ⟨h.live, ?_, ?_, ?_, ?_, ?_, ?_, ?_, ?_⟩
  · rw [hs]; exact hfr
  · rw [hs]; exact hp
  · rw [hs]; exact hb
  · rw [h.sure]; exact hk
  · rw [h.sure]
  · rw [h.len]; exact hfit
  · rw [h.log]; simp
  · rw [h.log]; simp
end Go.Proofs

/- Layer 13: what must come, whatever the arguments are. -/
set_option maxRecDepth 100000
set_option linter.unusedVariables false
set_option linter.unusedSimpArgs false
namespace Go.Proofs
open Go Go.Q
/-- a disk that came to be since a world -/
def DOwn (w0 w : World) (bd : Nat) (d : DK) : Prop := ∃ S, DiskAt w bd d S ∧ (∀ x ∈ S, w0.heap.size ≤ x) ∧ Kp [] w0 w
theorem DOwn.keep {w0 w w' : World} {bd : Nat} {d : DK} (h : DOwn w0 w bd d) (hk : Kp [] w w') : DOwn w0 w' bd d := by
  obtain ⟨S, h1, h2, h3⟩ := h
  exact ⟨S, h1.keep hk (by simp), h2, h3.trans' hk⟩
theorem DOwn.kp {w0 w : World} {bd : Nat} {d : DK} (h : DOwn w0 w bd d) : Kp [] w0 w := by
  obtain ⟨S, _, _, h3⟩ := h
  exact h3
section
variable {w0 w w' : World} {b bd : Nat} {s : SP} {d : DK} {R : Value → World → Prop}
theorem SpOwn.at (h : SpOwn w0 w b bd s) : ∃ Sd ms mn, SpAt w b bd s Sd ms mn := by
  obtain ⟨X, ⟨Sd, ms, mn, rfl, h1⟩, _, _⟩ := h
  exact ⟨Sd, ms, mn, h1⟩
theorem SpOwn.disk (h : SpOwn w0 w b bd s) : DOwn w0 w bd s.d := by
  obtain ⟨X, ⟨Sd, ms, mn, rfl, h1⟩, h2, h3⟩ := h
  exact ⟨Sd, h1.disk, fun x hx => h2 x (by simp [hx]), h3⟩
theorem new_own {n : Nat} (h1 : 1 ≤ n) (h2 : n ≤ 4096) (hk : Kp [] w0 w) (hR : ∀ w' bd, DOwn w0 w' bd (DK.fresh n) → R (.tuple #[.pointer (some ⟨bd, 0, none⟩), .int .i64 0]) w') : callG Tryz.prog 4 #[.int .i64 (n : Nat)] w R := by
  refine New_ok h1 h2 fun w' b S hd k hS => ?_
  have := hk.size
  exact hR w' b ⟨S, hd, fun x hx => by have := hS x hx; omega, hk.trans' k⟩
theorem open_own (hd : DOwn w0 w bd d) (ho : d.off = false) {fr to pages : Nat} (ht : to ≤ d.now.length) (hft : fr + 32 ≤ to) (hpg : pages = min ((to - fr) / 8 - 3) 500) {o0 o1 : Option Sv} (h0 : HeadAt d.now fr pages 0 o0) (h1 : HeadAt d.now fr pages 1 o1)
    (hR : ∀ w' b, SpOwn w0 w' b bd ⟨d, fr, pages, (upd (upd sv0 o0) o1).turn, (upd (upd sv0 o0) o1).u, (upd (upd sv0 o0) o1).u, (upd (upd sv0 o0) o1).N, (upd (upd sv0 o0) o1).N⟩ → R (.tuple #[.pointer (some ⟨b, 0, none⟩), .int .i64 0]) w') :
    callG Tryz.prog 5 #[.pointer (some ⟨bd, 0, none⟩), .int .i64 (fr : Nat), .int .i64 (to : Nat)] w R := by
  obtain ⟨S, g1, g2, g3⟩ := hd
  have z := g3.size
  refine Open_ok g1 ho ht hft hpg h0 h1 fun w' b ms mn hb hms hmn k hsp => ?_
  refine hR w' b ⟨_, ⟨S, ms, mn, rfl, hsp⟩, fun x hx => ?_, g3.trans' k⟩
  simp only [List.mem_cons] at hx
  rcases hx with rfl | rfl | rfl | hx
  · omega
  · omega
  · omega
  · exact g2 x hx
theorem crash_own (h : DOwn w0 w bd d) (hl : d.l.length < 2 ^ 40) {kv : Value} {ks : List Int} {SK : List Nat} (hks : IntsAt w kv ks SK) (hdis : ∀ x ∈ SK, x < w0.heap.size) (hkw : ∀ x ∈ ks, -9223372036854775808 ≤ x ∧ x < 9223372036854775808)
    (hR : ∀ w', DOwn w0 w' bd (d.crash ks) → R (.int .i64 0) w') : callG Tryz.prog 24 #[.pointer (some ⟨bd, 0, none⟩), kv] w R := by
  obtain ⟨S, g1, g2, g3⟩ := h
  refine Crash_spec g1 hl hks (fun x hx hm => by have := hdis x hx; have := g2 x hm; omega) hkw fun w' h' k => ?_
  exact hR w' ⟨S, h', g2, g3.trans k fun x hx hlt => by have := g2 x hx; omega⟩
theorem DiskAt.crashed {w : World} {b : Nat} {d : DK} {S : List Nat} (h : DiskAt w b d S) (ks : List Int) : (∀ x ∈ crashL d.l ks d.sure, x.length = 32) ∧ (d.crash ks).now.length = d.now.length := by
  obtain ⟨bs, bn, lv, SL, T, Ts, Tn, rfl, h⟩ := h
  have := crashL_ok (ks := ks) h.ok.sz1 h.ok.len h.ok.szl
  exact this
/-- the state behind a crash and an open, of a commit by one name -/
def reSP (d : DK) (P : Nat) (u : List UInt8) (nm : List UInt8) : SP := ⟨d, 0, P, 1, u, u, [(nm, 1)], [(nm, 1)]⟩
theorem reopen_own (h : DOwn w0 w bd d) (ho : d.off = false) {to P n : Nat} (ht : to ≤ d.now.length) (h32 : 32 ≤ to) (hP : P = min (to / 8 - 3) 500) {u nm : List UInt8} {f : Nat → UInt8} (hk : Kept d.now P n u [(nm, 1)] f) (hu : u.length = 63) (hnm : 1 ≤ nm.length ∧ nm.length ≤ 8)
    (hR : ∀ w' b, SpOwn w0 w' b bd (reSP d P u nm) → R (.tuple #[.pointer (some ⟨b, 0, none⟩), .int .i64 0]) w') :
    callG Tryz.prog 5 #[.pointer (some ⟨bd, 0, none⟩), .int .i64 ((0 : Nat) : Int), .int .i64 (to : Nat)] w R := by
  have hfine : Fine [(nm, (1 : Int))] := ⟨by simp, by simpa using hnm, by simp⟩
  obtain ⟨g0, g1⟩ := hk.heads (by omega) hu hfine (by simp [KeyS])
  refine open_own h ho ht (by omega) (by simpa using hP) g0 g1 fun w' b hs => ?_
  exact hR w' b hs
def root : List UInt8 := [114, 111, 111, 116]
theorem awake_spec (hR : ∀ w', Kp [] w w' → R (.bool true) w') : callG Tryz.prog 9 #[] w R := by
  refine law13_awake_call ?_
  unfold law13_awake law13_awake_s3
  rw [show (Value.int .i64 64) = .int .i64 ((64 : Nat) : Int) from rfl]
  refine new_own (w0 := w) (by omega) (by omega) (Kp.refl _ _) fun w1 bd hd1 => ?_
  rw [ex0, ex1]
  have hfl : (DK.fresh 64).now.length = 64 := by simp [DK.fresh, secs0]
  have hn : ∀ i, i < 64 → sec (DK.fresh 64).now i = nought := fun i hi => sec_fresh hi
  rw [show (Value.int .i64 0) = .int .i64 ((0 : Nat) : Int) from rfl]
  refine open_own (pages := 5) hd1 rfl (by rw [hfl]; omega) (by omega) (by decide) (o0 := none) (o1 := none) (nought_head (hn _ (by omega)) (by omega)) (nought_head (hn _ (by omega)) (by omega)) fun w2 b hs2 => ?_
  have hs2 : SpOwn w w2 b bd ⟨DK.fresh 64, 0, 5, 0, z63, z63, [], []⟩ := hs2
  have p0 := pre_zero (n := 64) (P := 5) (fun _ => 97) (by omega)
  generalize hS0 : (⟨DK.fresh 64, 0, 5, 0, z63, z63, [], []⟩ : SP) = s0 at *
  rw [ex0, ex1]
  simp only [bq_neq, bV_b, decide_eq_true_eq]
  refine ⟨fun hh => absurd rfl hh, fun _ => ⟨fun hh => absurd rfl hh, fun _ => ?_⟩⟩
  rw [bq_peql _ (by kernel_rfl)]
  simp only [bV_b, Option.isNone_some]
  refine ⟨fun hh => by simp at hh, fun _ => ?_⟩
  obtain ⟨Sd, ms, mn, ha2⟩ := hs2.at
  refine pages_sp ha2 ?_
  rw [p0.pages]
  simp only [bq_neq, bV_b, decide_eq_true_eq]
  refine ⟨fun hh => absurd rfl hh, fun _ => ?_⟩
  unfold law13_awake_s2
  obtain ⟨q1, q2, q3⟩ := p0.step (by omega) (by omega)
  have hlog0 := p0.log
  obtain ⟨X, hx2, hg2⟩ := hs2.go
  refine alloc_sp hx2 (by omega) fun w3 h3 => ?_
  have hs3 := hg2 _ _ h3
  have hal : s0.alloc.2.1 = 1 ∧ s0.alloc.2.2 = 0 := by rw [q1]; exact ⟨rfl, rfl⟩
  rw [hal.1, hal.2, ex0, ex1]
  simp only [bq_neq, bV_b, decide_eq_true_eq]
  refine ⟨fun hh => absurd rfl hh, fun _ => ⟨fun hh => absurd rfl hh, fun _ => ?_⟩⟩
  refine filled_spec 97 fun w4 k4 => ?_
  have hs4 := hs3.keep k4
  obtain ⟨X4, hx4, hg4⟩ := hs4.go
  have hlog1 : s0.alloc.1.d.l.length ≤ 8 := by
    have hsu : Bits s0.su 0 0 := by rw [p0.su]; exact bits_zero
    obtain ⟨d', e, hw⟩ := alloc_next p0.live p0.bits hsu (by rw [p0.pages]; omega) (by rw [p0.fr, p0.pages]; have := p0.fit; omega)
    obtain ⟨E, e1, e2, _⟩ := hw.log
    rw [e]
    show d'.l.length ≤ 8
    rw [e1, List.length_append, e2]; omega
  refine write_sp hx4 (by omega) 1 (List.replicate 256 97) fun w5 h5 => ?_
  have hs5 := hg4 _ _ h5
  have q2' : (s0.alloc.1.write 1 (List.replicate 256 97)).2 = 0 := q2
  have q3' : Pre (s0.alloc.1.write 1 (List.replicate 256 97)).1 5 1 (fun _ => 97) := q3
  rw [q2']
  simp only [bq_neq, bV_b, decide_eq_true_eq]
  refine ⟨fun hh => absurd rfl hh, fun _ => ?_⟩
  generalize hS1 : (s0.alloc.1.write 1 (List.replicate 256 97)).1 = s1 at *
  obtain ⟨X5, hx5, hg5⟩ := hs5.go
  rw [show (Value.string ⟨#[114, 111, 111, 116]⟩) = .string (str root) from rfl]
  have hin1 : inN13 s1 1 = true := by rw [Bits.inN q3'.bits (by rw [q3'.pages]; omega), decide_eq_true_eq]; omega
  have hname : s1.name root 1 = ({ s1 with nn := [(root, 1)] }, 0) := by
    unfold SP.name
    rw [if_neg (by decide), if_neg (by rw [hin1]; simp), if_neg (by rw [q3'.nn]; simp), q3'.nn]
    rfl
  refine name_sp hx5 root 1 fun w6 h6 => ?_
  rw [hname] at h6 ⊢
  have hs6 := hg5 _ _ h6
  simp only [bq_neq, bV_b, decide_eq_true_eq]
  refine ⟨fun hh => absurd rfl hh, fun _ => ?_⟩
  obtain ⟨X6, hx6, hg6⟩ := hs6.go
  have hlog2 := q3'.log
  have hfine : Fine [(root, (1 : Int))] := ⟨by simp, by simp [root], by simp⟩
  refine commit_sp hx6 (by show s1.d.l.length + 9 < _; omega) hfine fun w7 N hNp hNs h7 => ?_
  obtain ⟨hN, c1, c2, c3⟩ := q3'.done (by omega) (by omega) (by omega) (nm := root) (by simp [root]) hNp
  subst hN
  rw [c1]
  have hs7 := hg6 _ _ h7
  simp only [bq_neq, bV_b, decide_eq_true_eq]
  refine ⟨fun hh => absurd rfl hh, fun _ => ?_⟩
  have haft := c2.aft c3 q3'.bits q3'.fr q3'.pages q3'.fit
  have hlen7 := c2.len
  generalize hS2 : (({ s1 with nn := [(root, 1)] } : SP).commit [(root, 1)]).1 = s2 at *
  have hd7 := hs7.disk
  obtain ⟨SD, hD, _, _⟩ := hs7.disk
  have hcr := hD.crashed []
  refine crash_own hd7 (by have := haft.few; omega) (kv := .slice none 0 0) (ks := []) (SK := []) ⟨none, 0, rfl, .inl rfl⟩ (by simp) (by simp) fun w8 h8 => ?_
  simp only [bq_neq, bV_b, decide_eq_true_eq]
  refine ⟨fun hh => absurd rfl hh, fun _ => ?_⟩
  have hkept := haft.crash (by omega) (by omega) [] hcr.2
  unfold law13_awake_s1
  have hfit1 := q3'.fit
  have h64 : 64 ≤ s2.d.now.length := by
    rw [hlen7]
    exact q3'.fit
  rw [show (Value.int .i64 64) = .int .i64 ((64 : Nat) : Int) from rfl, show (Value.int .i64 0) = .int .i64 ((0 : Nat) : Int) from rfl]
  refine reopen_own h8 rfl (to := 64) (P := 5) (by rw [hcr.2]; exact h64) (by omega) (by decide) hkept q3'.bits.1 (nm := root) (by simp [root]) fun w9 b9 hs9 => ?_
  rw [ex0, ex1]
  simp only [bq_neq, bV_b, decide_eq_true_eq]
  refine ⟨fun hh => absurd rfl hh, fun _ => ?_⟩
  rw [bq_peql _ (by kernel_rfl)]
  simp only [bV_b, Option.isNone_some]
  refine ⟨fun hh => by simp at hh, fun _ => ?_⟩
  unfold law13_awake_s0
  obtain ⟨Sd9, ms9, mn9, ha9⟩ := hs9.at
  rw [show (Value.string ⟨#[114, 111, 111, 116]⟩) = .string (str root) from rfl]
  refine named_sp ha9 root ?_
  rw [show (getN (reSP (s2.d.crash []) 5 s1.nu root).nn root) = some 1 from by simp [reSP, getN], ex0, ex1]
  have hb9 : Bits (reSP (s2.d.crash []) 5 s1.nu root).nu 0 1 := q3'.bits
  have hin9 : inN13 (reSP (s2.d.crash []) 5 s1.nu root) 1 = true := by
    rw [Bits.inN hb9 (by show 1 ≤ 5; omega), decide_eq_true_eq]; omega
  refine read_sp ha9 rfl 1 fun w10 k10 => ?_
  have ha10 := ha9.keep0 k10
  have hrd : (reSP (s2.d.crash []) 5 s1.nu root).read 1 = (List.replicate 256 97, 0) := by
    unfold SP.read
    rw [if_pos hin9]
    have := hkept.pg 1 (by omega) (by omega)
    exact Prod.ext this rfl
  rw [hrd, ex0, ex1]
  simp only [Option.getD_some, Option.isSome_some, bq_eql, bV_b, decide_eq_true_eq]
  refine ⟨fun _ => ⟨fun _ => ?_, fun hh => by simp at hh⟩, fun hh => by simp at hh⟩
  refine filled_spec 97 fun w11 k11 => ?_
  have ha11 := ha10.keep0 k11
  rw [bq_eqs]
  simp only [bV_b, bq_eql, decide_eq_true_eq]
  refine ⟨fun _ => ⟨fun _ => ?_, fun hh => by simp at hh⟩, fun hh => by simp at hh⟩
  refine turn_sp ha11 ?_
  simp only [bV_b, bq_eql, decide_eq_true_eq]
  refine ⟨fun _ => ?_, fun hh => by simp [reSP] at hh⟩
  refine used_sp ha11 ?_
  rw [hb9.used]
  simp only [bV_b, bq_eql, decide_eq_true_eq]
  refine ⟨fun _ => ?_, fun hh => by simp [reSP] at hh⟩
  refine fresh_sp ha11 1 ?_
  have hfr : (reSP (s2.d.crash []) 5 s1.nu root).fresh 1 = false := by
    unfold SP.fresh
    have : hasU (reSP (s2.d.crash []) 5 s1.nu root).su 1 = true := by
      show hasU s1.nu 1 = true
      rw [q3'.bits.2, decide_eq_true_eq]; omega
    rw [this]; simp
  rw [hfr]
  simp only [un_not]
  exact hR w11 ((hs9.kp.trans' k10).trans' k11)
end
end Go.Proofs

/- A cell of a slice of one's own is written. -/
set_option linter.unusedVariables false
set_option linter.unusedSimpArgs false
namespace Go.Q
theorem rows_st1 {w : World} {v : Value} {rows : List (List Value)} {S : List Nat} (h : RowsAt w v 1 rows S) {i : Nat} (hi : i < rows.length) {x : Value} (hx : Q.one x = true) :
    ∃ p, (∀ (kd : IntKind) (K : Value → Prop), ia 1 v (.int kd i) K = K p) ∧ ∀ K : World → Prop, (∀ w', RowsAt w' v 1 (rows.set i [x]) S → Kp S w w' → K w') → st1 p x w K := by
  rcases h with ⟨h1, h2, h3⟩ | ⟨bl, F, T, h1, h2, h3, h4, h5, h6⟩
  · rw [h2] at hi; simp at hi
  · subst h1; subst h2
    have hiF : i < F.length := by omega
    have hfl := flat_len h4
    refine ⟨.pointer (some ⟨bl, 0 + i * 1, none⟩), fun kd K => ?_, fun K hK => ?_⟩
    · simp only [ia, Int.toNat_natCast, add_mk]
      exact propext ⟨fun h => h.2, fun h => ⟨⟨by omega, by omega⟩, h⟩⟩
    · rw [stF h3 (by simp [-List.length_flatten]; omega) hx]
      refine hK _ (.inr ⟨bl, F.set i [x], T, ?_, rfl, ?_, ?_, ?_, ?_⟩) ((Kp.refl _ w).setBlk (.inl (by simp)) _)
      · simp
      · rw [heap_self (live_of h3)]
        have h1 : F[i].length = 1 := h4 _ (List.getElem_mem hiF)
        have hF : F[i].set 0 x = [x] := by
          obtain ⟨a, ha⟩ := List.length_eq_one_iff.1 h1
          rw [ha]; rfl
        have := set_flat (k := 1) (F := F) (i := i) (j := 0) (v := x) h4 hiF (by omega)
        rw [hF] at this
        congr 2
        apply Array.toList_inj.1
        rw [Array.toList_setIfInBounds]
        simp only [Nat.zero_add]
        exact this
      · intro y hy
        rcases List.mem_or_eq_of_mem_set hy with hy | hy
        · exact h4 y hy
        · rw [hy]; rfl
      · rw [List.length_set, List.take_set, h5]
      · simpa using h6
end Go.Q

/- Layer 13: the document's space: values, In, used, Count. -/
set_option maxRecDepth 100000
set_option linter.unusedVariables false
set_option linter.unusedSimpArgs false
namespace Go.Proofs
open Go Go.Q
/-- the document's state -/
structure St where
  us : List Bool
  bs : List (List UInt8)
  ns : List (List UInt8 × Int)
  t : Int
def boolR (x : Bool) : List Value := [.bool x]
def nameR (x : List UInt8 × Int) : List Value := [.string (str x.1), .int .i64 x.2]
structure StAt (w : World) (c : List Value) (q : St) : Prop where
  ex : ∃ vu vb vn, c = [vu, vb, vn, .int .i64 q.t] ∧ Rd w vu 1 (q.us.map boolR) ∧ Rd w vb 1 (q.bs.map nmR) ∧ Rd w vn 2 (q.ns.map nameR)
theorem StAt.keep {w w' : World} {c : List Value} {q : St} (h : StAt w c q) (hk : Kp [] w w') : StAt w' c q := by
  obtain ⟨vu, vb, vn, e, h1, h2, h3⟩ := h
  exact ⟨vu, vb, vn, e, h1.keep hk, h2.keep hk, h3.keep hk⟩
theorem StAt.len {w : World} {c : List Value} {q : St} (h : StAt w c q) : c.length = 4 := by
  obtain ⟨vu, vb, vn, rfl, _⟩ := h
  rfl
theorem Rd.isOne {w : World} {v : Value} {k : Nat} {rows : List (List Value)} (h : Rd w v k rows) : Q.one v = true := by
  obtain ⟨a, c, rfl⟩ := h.slice
  rfl
theorem StAt.one {w : World} {c : List Value} {q : St} (h : StAt w c q) : c.all Q.one = true := by
  obtain ⟨vu, vb, vn, rfl, h1, h2, h3⟩ := h
  simp only [List.all_cons, List.all_nil, Rd.isOne h1, Rd.isOne h2, Rd.isOne h3, Bool.and_true, Bool.true_and]
  rfl
def rIn (q : St) (n : Int) : Bool := decide (1 ≤ n ∧ n < q.us.length ∧ q.us.getD n.toNat false = true)
/-- a value that was there, or is a slice made since -/
def OldV (w0 : World) (C : List Value) (v : Value) : Prop := v ∈ C ∨ ∀ bl o f n cap, v = .slice (some ⟨bl, o, f⟩) n cap → 0 < n → w0.heap.size ≤ bl
def Src (w0 : World) (C C' : List Value) : Prop := ∀ v ∈ C', OldV w0 C v
theorem Src.refl (w0 : World) (C : List Value) : Src w0 C C := fun v h => .inl h
theorem Src.sub {w0 : World} {C C' : List Value} (h : ∀ v ∈ C', v ∈ C) : Src w0 C C' := fun v hv => .inl (h v hv)
theorem Fr.newV {wb w0 w : World} {v : Value} {k : Nat} {rows : List (List Value)} {C : List Value} (h : Fr w0 w v k rows) (hb : wb.heap.size ≤ w0.heap.size) : OldV wb C v := by
  refine .inr fun bl o f n cap e hn => ?_
  obtain ⟨S, h1, h2⟩ := h.ex
  rcases h1 with ⟨g1, _⟩ | ⟨bl', F, T, g1, g2, _⟩
  · rw [g1] at e; cases e
  · rw [g1] at e
    injection e with e
    injection e with e
    injection e with e
    have := h2 bl' (by rw [g2]; simp)
    omega
theorem oldV_int {w0 : World} {C : List Value} {k : IntKind} {n : Int} : OldV w0 C (.int k n) := .inr fun bl o f n cap e => by cases e
section
variable {w w' : World} {R : Value → World → Prop} {c : List Value} {q : St}
theorem ldV {b j : Nat} {T : TypeId} {c : List Value} {v : Value} (h : w.heap[b]? = some (.cells c.toArray T)) (hv : c[j]? = some v) {K : Value → Prop} : ld1 (.pointer (some ⟨b, 0 + j, none⟩)) w K = K v := by
  rw [Nat.zero_add]
  exact ldF h (by simpa using hv)
theorem rIn_spec (h : StAt w c q) (n : Int) (hR : ∀ w', Kp [] w w' → R (.bool (rIn q n)) w') : callG Tryz.prog 66 #[.agg c.toArray, .int .i64 n] w R := by
  refine ref13_In_call ?_
  unfold ref13_In ref13_In_s0
  refine argB fun b w1 hb1 hb k1 => ?_
  obtain ⟨vu, vb, vn, rfl, h1, h2, h3⟩ := h
  have h1' := h1.keep k1
  have hld : ∀ K : Value → Prop, ld1 (.pointer (some ⟨b, 0 + 0, none⟩)) w1 K = K vu := fun K => ldV hb rfl
  have hR := hR w1 k1
  unfold rIn at hR
  simp only [bq_geq, bV_b, decide_eq_true_eq, decide_eq_false_iff_not]
  refine ⟨fun hge => ?_, fun hlt => ?_⟩
  · rw [fa_p, hld, h1'.lenL, List.length_map]
    simp only [bq_lss, bV_b, decide_eq_true_eq, decide_eq_false_iff_not]
    refine ⟨fun hlt => ?_, fun hg => ?_⟩
    · obtain ⟨m, rfl⟩ : ∃ m : Nat, n = m := ⟨n.toNat, by omega⟩
      have hm : m < q.us.length := by omega
      obtain ⟨p, hia, hldp⟩ := h1'.one (i := m) (by simpa using hm) (x := .bool q.us[m]) (by simp [boolR])
      rw [fa_p, hld, hia, hldp]
      have : decide (1 ≤ (m : Int) ∧ (m : Int) < q.us.length ∧ q.us.getD (m : Int).toNat false = true) = q.us[m] := by
        rw [Int.toNat_natCast]
        have hg : q.us.getD m false = q.us[m] := by simp [List.getD, hm]
        rw [hg]
        cases q.us[m]
        · simp
        · simp; omega
      rw [this] at hR
      exact hR
    · rw [decide_eq_false (by omega)] at hR; exact hR
  · rw [decide_eq_false (by omega)] at hR; exact hR
/-- a page is in use, or not, and its bytes -/
def St.set (q : St) (n : Nat) (is : Bool) (b : List UInt8) : St := { q with us := q.us.set n is, bs := q.bs.set n b }
theorem boolR_flat (l : List Bool) : (l.map boolR).flatten.all Q.one = true := by
  induction l with
  | nil => rfl
  | cons x l ih => simp only [List.map_cons, List.flatten_cons, List.all_append, ih, Bool.and_true]; rfl
theorem zcSt : zc Tryz.prog 37 = #[.slice none 0 0, .slice none 0 0, .slice none 0 0, .int .i64 0] := by kernel_rfl
theorem stV {b j : Nat} {T : TypeId} {c : List Value} {v : Value} (h : w.heap[b]? = some (.cells c.toArray T)) (hj : j < c.length) (hv : Q.one v = true) {K : World → Prop} : st1 (.pointer (some ⟨b, 0 + j, none⟩)) v w K = K (setBlk w b (.cells (c.set j v).toArray T)) := by
  rw [Nat.zero_add, stF h (by simpa using hj) hv]
  simp
theorem used_ref {wb : World} (h : StAt wb c q) (hwb : Kp [] wb w) {n : Nat} (hn : n < q.us.length) (hn2 : n < q.bs.length) (hl : q.us.length < 2 ^ 20) (hl2 : q.bs.length < 2 ^ 20) (is : Bool) (b : List UInt8)
    (hR : ∀ w' c', (∀ S w'', (∀ x ∈ S, wb.heap.size ≤ x ∧ x < w.heap.size) → Kp S w' w'' → StAt w'' c' (q.set n is b)) → Src wb c c' → Kp [] w w' → R (.agg c'.toArray) w') : callG Tryz.prog 65 #[.agg c.toArray, .int .i64 (n : Nat), .bool is, .string (str b)] w R := by
  refine ref13_used_call ?_
  unfold ref13_used ref13_used_s0
  refine argB fun p w1 hp1 hp k1 => ?_
  refine newB fun r w2 hr2 hr k2 => ?_
  obtain ⟨vu, vb, vn, rfl, g1, g2, g3⟩ := h
  have g1 := g1.keep (hwb.trans' (k1.trans' k2))
  have g2 := g2.keep (hwb.trans' (k1.trans' k2))
  have zb := hwb.size
  have hp2 := k2.get hp (by simp)
  have lp := lt_of_blk hp
  have lr := lt_of_blk hr
  have z1 := k1.size
  have z2 := k2.size
  have hld0 : ∀ K : Value → Prop, ld1 (.pointer (some ⟨p, 0 + 0, none⟩)) w2 K = K vu := fun K => ldV hp2 rfl
  rw [fa_p, hld0, show zc Tryz.prog 4 = [Value.bool false].toArray by kernel_rfl]
  refine fr_app (k := 1) (fr_nil (Kp.refl [] w2)) (by omega) rfl (G := q.us.map boolR) (fun y hy => by obtain ⟨x, _, rfl⟩ := List.mem_map.1 hy; rfl) (boolR_flat _) (fun K' hK' => g1.src K' hK') (by simp; omega) (by simp; omega) fun v1 w3 hf1 => ?_
  have k3 := hf1.kp
  have hp3 := k3.get hp2 (by simp)
  have z3 := k3.size
  have hld1 : ∀ K : Value → Prop, ld1 (.pointer (some ⟨p, 0 + 1, none⟩)) w3 K = K vb := fun K => ldV hp3 rfl
  rw [fa_p, hld1, show zc Tryz.prog 9 = [Value.string (str [])].toArray by kernel_rfl]
  refine fr_app (k := 1) (fr_nil (Kp.refl [] w3)) (by omega) rfl (G := q.bs.map nmR) (fun y hy => by obtain ⟨x, _, rfl⟩ := List.mem_map.1 hy; rfl) (nmR_flat _) (fun K' hK' => (g2.keep k3).src K' hK') (by simp; omega) (by simp; omega) fun v2 w4 hf2 => ?_
  have k4 := hf2.kp
  have z4 := k4.size
  have hp4 := k4.get hp3 (by simp)
  have hr4 := k4.get (k3.get hr (by simp)) (by simp)
  simp only [List.nil_append] at hf1 hf2
  obtain ⟨S1, a1, a2⟩ := hf1.ex
  obtain ⟨S2, b1, b2⟩ := hf2.ex
  have a1' := a1.keep k4 (by simp)
  have hS1 : ∀ x ∈ S1, x < w3.heap.size := fun x hx => by
    obtain ⟨h1, h2, h3⟩ | ⟨bl, F, T, h1, h2, h3, _⟩ := a1
    · rw [h3] at hx; simp at hx
    · rw [h2] at hx; simp at hx; have := lt_of_blk h3; omega
  obtain ⟨pe, hia, hst⟩ := rows_st1 a1' (i := n) (by simpa using hn) (x := .bool is) rfl
  rw [hia]
  refine hst _ fun w5 a5 k5 => ?_
  have z5 := k5.size
  have b5 := b1.keep k5 (fun x hx hm => by have := b2 x hx; have := hS1 x hm; omega)
  obtain ⟨pe2, hia2, hst2⟩ := rows_st1 b5 (i := n) (by simpa using hn2) (x := .string (str b)) rfl
  rw [hia2]
  refine hst2 _ fun w6 b6 k6 => ?_
  have z6 := k6.size
  have a6 := a5.keep k6 (fun x hx hm => by have := hS1 x hx; have := b2 x hm; omega)
  have hpk : ∀ x ∈ S1, x ≠ p ∧ x ≠ r := fun x hx => by have := a2 x hx; omega
  have hpk2 : ∀ x ∈ S2, x ≠ p ∧ x ≠ r := fun x hx => by have := b2 x hx; omega
  have hp6 := k6.get (k5.get hp4 (fun hm => (hpk p hm).1 rfl)) (fun hm => (hpk2 p hm).1 rfl)
  have hr6 := k6.get (k5.get hr4 (fun hm => (hpk r hm).2 rfl)) (fun hm => (hpk2 r hm).2 rfl)
  have o1 : Q.one v1 = true := hf1.one
  have o2 : Q.one v2 = true := hf2.one
  rw [fa_p, stV hp6 (by simp) o1]
  generalize hw7 : setBlk w6 p _ = w7
  have hp7 : w7.heap[p]? = some (.cells [v1, vb, vn, .int .i64 q.t].toArray 37) := by rw [← hw7]; exact heap_self (live_of hp6)
  have k7 : Kp [p] w6 w7 := by rw [← hw7]; exact (Kp.refl _ _).setBlk (.inl (by simp)) _
  rw [fa_p, stV hp7 (by simp) o2]
  generalize hw8 : setBlk w7 p _ = w8
  have hp8 : w8.heap[p]? = some (.cells [v1, v2, vn, .int .i64 q.t].toArray 37) := by rw [← hw8]; exact heap_self (live_of hp7)
  have k8 : Kp [p] w7 w8 := by rw [← hw8]; exact (Kp.refl _ _).setBlk (.inl (by simp)) _
  have k78 := k7.trans' k8
  have hr8 := k78.get hr6 (by simp; omega)
  rw [ldA (k := 4) hp8 rfl]
  have z7 := k7.size
  have z8 := k8.size
  have kA : Kp [] w w4 := ((k1.trans' k2).trans' k3).trans' k4
  have zA := kA.size
  have kB : Kp [] w w8 := ((kA.trans k5 fun x hx hlt => by have := a2 x hx; omega).trans k6 fun x hx hlt => by have := b2 x hx; omega).trans k78 fun x hx hlt => by simp at hx; omega
  have a8 := a6.keep k78 (fun x hx hm => (hpk x hx).1 (by simpa using hm))
  have b8 := b6.keep k78 (fun x hx hm => (hpk2 x hx).1 (by simpa using hm))
  have h8 : StAt w8 [v1, v2, vn, .int .i64 q.t] (q.set n is b) := by
    refine ⟨v1, v2, vn, rfl, ?_, ?_, g3.keep (hwb.trans' kB)⟩
    · show Rd w8 v1 1 ((q.us.set n is).map boolR)
      rw [List.map_set]
      exact (show Fr w w8 v1 1 _ from ⟨⟨S1, a8, fun x hx => by have := a2 x hx; omega⟩, kB⟩).rd
    · show Rd w8 v2 1 ((q.bs.set n b).map nmR)
      rw [List.map_set]
      exact (show Fr w w8 v2 1 _ from ⟨⟨S2, b8, fun x hx => by have := b2 x hx; omega⟩, kB⟩).rd
  refine retB (by kernel_rfl) (by kernel_rfl) hr8 (by rw [zcSt]; rfl) rfl (by simpa using h8.one) fun w9 k9 => ?_
  have a9 := a8.keep k9 (fun x hx hm => (hpk x hx).2 (by simpa using hm))
  have b9 := b8.keep k9 (fun x hx hm => (hpk2 x hx).2 (by simpa using hm))
  have kC : Kp [] w w9 := kB.trans k9 fun x hx hlt => by simp at hx; omega
  refine hR w9 _ (fun S w'' hS hk => ?_) (fun v hv => ?_) kC
  rotate_left
  · simp only [List.mem_cons, List.not_mem_nil, or_false] at hv
    rcases hv with rfl | rfl | rfl | rfl
    · exact Fr.newV hf1 (by omega)
    · exact Fr.newV hf2 (by omega)
    · exact .inl (by simp)
    · exact oldV_int
  have a10 := a9.keep hk (fun x hx hm => by have := a2 x hx; have := hS x hm; omega)
  have b10 := b9.keep hk (fun x hx hm => by have := b2 x hx; have := hS x hm; omega)
  have kD : Kp [] wb w'' := (hwb.trans' kC).trans hk fun x hx hlt => by have := hS x hx; omega
  refine ⟨v1, v2, vn, rfl, ?_, ?_, g3.keep kD⟩
  · show Rd w'' v1 1 ((q.us.set n is).map boolR)
    rw [List.map_set]
    exact (show Fr wb w'' v1 1 _ from ⟨⟨S1, a10, fun x hx => by have := a2 x hx; omega⟩, kD⟩).rd
  · show Rd w'' v2 1 ((q.bs.set n b).map nmR)
    rw [List.map_set]
    exact (show Fr wb w'' v2 1 _ from ⟨⟨S2, b10, fun x hx => by have := b2 x hx; omega⟩, kD⟩).rd
end
end Go.Proofs

/- Layer 13: the document's Release, Write, Fresh, Rollback, Commit, Count. -/
set_option maxRecDepth 100000
set_option linter.unusedVariables false
set_option linter.unusedSimpArgs false
namespace Go.Proofs
open Go Go.Q
/-- the document's space -/
structure QAt (w : World) (c : List Value) (qs qn : St) : Prop where
  ex : ∃ c1 c2, c = c1 ++ c2 ∧ StAt w c1 qs ∧ StAt w c2 qn
theorem QAt.keep {w w' : World} {c : List Value} {qs qn : St} (h : QAt w c qs qn) (hk : Kp [] w w') : QAt w' c qs qn := by
  obtain ⟨c1, c2, e, h1, h2⟩ := h
  exact ⟨c1, c2, e, h1.keep hk, h2.keep hk⟩
theorem QAt.len {w : World} {c : List Value} {qs qn : St} (h : QAt w c qs qn) : c.length = 8 := by
  obtain ⟨c1, c2, rfl, h1, h2⟩ := h
  rw [List.length_append, h1.len, h2.len]
theorem QAt.one {w : World} {c : List Value} {qs qn : St} (h : QAt w c qs qn) : c.all Q.one = true := by
  obtain ⟨c1, c2, rfl, h1, h2⟩ := h
  rw [List.all_append, h1.one, h2.one]; rfl
/-- lists of the same length, and not too long -/
structure StOk (q : St) : Prop where
  same : q.us.length = q.bs.length
  few : q.us.length < 2 ^ 20
section
variable {w w' : World} {R : Value → World → Prop} {b : Nat} {T : TypeId} {c c1 c2 : List Value} {q qs qn : St}
theorem ld_sure (h : w.heap[b]? = some (.cells (c1 ++ c2).toArray T)) (l1 : c1.length = 4) (l2 : c2.length = 4) {K : Value → Prop} : ldn 4 (.pointer (some ⟨b, 0 + 0, none⟩)) w K = K (.agg c1.toArray) := by
  refine ldP h (p := c1.toArray) ?_ (by simp; omega)
  simp [l1, List.take_append, List.take_of_length_le]
theorem ld_now (h : w.heap[b]? = some (.cells (c1 ++ c2).toArray T)) (l1 : c1.length = 4) (l2 : c2.length = 4) {K : Value → Prop} : ldn 4 (.pointer (some ⟨b, 0 + 4, none⟩)) w K = K (.agg c2.toArray) := by
  refine ldP h (p := c2.toArray) ?_ (by simp; omega)
  simp [l1, l2, List.take_append, List.drop_append, List.take_of_length_le]
theorem ld_all (h : w.heap[b]? = some (.cells c.toArray T)) (l : c.length = 8) {K : Value → Prop} : ldn 8 (.pointer (some ⟨b, 0, none⟩)) w K = K (.agg c.toArray) := ldA h (by simpa using l)
theorem st_now {c2' : List Value} (h : w.heap[b]? = some (.cells (c1 ++ c2).toArray T)) (l1 : c1.length = 4) (l2 : c2.length = 4) (l3 : c2'.length = 4) (ho : c2'.all Q.one = true) {K : World → Prop} : stn 4 (.pointer (some ⟨b, 0 + 4, none⟩)) (.agg c2'.toArray) w K = K (setBlk w b (.cells (c1 ++ c2').toArray T)) := by
  have h' : w.heap[b]? = some (.cells (c1 ++ (c2 ++ [])).toArray T) := by rw [List.append_nil]; exact h
  have := stP h' (o := 0 + 4) (k := 4) (cs := c2') (by omega) l3 l2 ho (K := K)
  rw [List.append_nil] at this
  exact this
theorem st_sure {c1' : List Value} (h : w.heap[b]? = some (.cells (c1 ++ c2).toArray T)) (l1 : c1.length = 4) (l3 : c1'.length = 4) (ho : c1'.all Q.one = true) {K : World → Prop} : stn 4 (.pointer (some ⟨b, 0 + 0, none⟩)) (.agg c1'.toArray) w K = K (setBlk w b (.cells (c1' ++ c2).toArray T)) := by
  have := stP (pre := []) h (o := 0 + 0) (k := 4) (cs := c1') rfl l3 l1 ho (K := K)
  exact this
theorem zcQ : zc Tryz.prog 39 = #[.slice none 0 0, .slice none 0 0, .slice none 0 0, .int .i64 0, .slice none 0 0, .slice none 0 0, .slice none 0 0, .int .i64 0] := by kernel_rfl
/-- a space is given back by its variable -/
theorem ret8 {r : Nat} {w : World} {R : Value → World → Prop} (hr : w.heap[r]? = some (.cells (zc Tryz.prog 39) 39)) (l : c.length = 8) (ho : c.all Q.one = true) (hR : ∀ w', Kp [r] w w' → R (.agg c.toArray) w') :
    stn 8 (.pointer (some ⟨r, 0, none⟩)) (.agg c.toArray) w fun w => qG Tryz.prog (do loadVar 39 (← asAddr (.pointer (some ⟨r, 0, none⟩)))) w fun v => R v w :=
  retB (by kernel_rfl) (by kernel_rfl) hr (by rw [zcQ]; rfl) (by simpa using l) (by simpa using ho) hR
def isFresh (qs qn : St) (n : Int) : Bool := rIn qn n && !rIn qs n
theorem fresh_ref (h : QAt w c qs qn) (n : Int) (hR : ∀ w', Kp [] w w' → R (.bool (isFresh qs qn n)) w') : callG Tryz.prog 67 #[.agg c.toArray, .int .i64 n] w R := by
  refine ref13_Fresh_call ?_
  unfold ref13_Fresh ref13_Fresh_s0
  refine argB fun p w1 hp1 hp k1 => ?_
  obtain ⟨c1, c2, rfl, h1, h2⟩ := h
  rw [fa_p, ld_now hp h1.len h2.len]
  refine rIn_spec (h2.keep k1) n fun w2 k2 => ?_
  have k12 := k1.trans' k2
  unfold isFresh at hR
  simp only [bV_b]
  refine ⟨fun hh => ?_, fun hh => ?_⟩
  · rw [fa_p, ld_sure (k2.get hp (by simp)) h1.len h2.len]
    refine rIn_spec (h1.keep k12) n fun w3 k3 => ?_
    simp only [un_not]
    have := hR w3 (k12.trans' k3)
    rw [hh] at this
    simpa using this
  · have := hR w2 k12
    rw [hh] at this
    simpa using this
theorem rollback_ref (h : QAt w c qs qn) (hR : ∀ w' c', QAt w' c' qs qs → Src w c c' → Kp [] w w' → R (.agg c'.toArray) w') : callG Tryz.prog 39 #[.agg c.toArray] w R := by
  refine ref13_Rollback_call ?_
  unfold ref13_Rollback ref13_Rollback_s0
  refine argB fun p w1 hp1 hp k1 => ?_
  refine newB fun r w2 hr2 hr k2 => ?_
  obtain ⟨c1, c2, rfl, h1, h2⟩ := h
  have hp2 := k2.get hp (by simp)
  have lp := lt_of_blk hp
  have z1 := k1.size
  have z2 := k2.size
  rw [fa_p, ld_sure hp2 h1.len h2.len, fa_p, st_now hp2 h1.len h2.len h1.len h1.one]
  generalize hw3 : setBlk w2 p (.cells (c1 ++ c1).toArray 39) = w3
  have hp3 : w3.heap[p]? = some (.cells (c1 ++ c1).toArray 39) := by rw [← hw3]; exact heap_self (live_of hp2)
  have k3 : Kp [p] w2 w3 := by rw [← hw3]; exact (Kp.refl _ _).setBlk (.inl (by simp)) _
  have z3 := k3.size
  have k03 : Kp [] w w3 := (k1.trans' k2).trans k3 fun x hx hlt => by simp at hx; omega
  have l8 : (c1 ++ c1).length = 8 := by rw [List.length_append, h1.len]
  rw [ld_all hp3 l8]
  refine ret8 (k3.get hr (by simp; omega)) l8 (by rw [List.all_append, h1.one]; rfl) fun w4 k4 => ?_
  have k04 : Kp [] w w4 := k03.trans k4 fun x hx hlt => by simp at hx; omega
  exact hR w4 _ ⟨c1, c1, rfl, h1.keep k04, h1.keep k04⟩ (Src.sub fun v hv => by simp only [List.mem_append, or_self] at hv ⊢; exact .inl hv) k04
theorem Src.right {w0 : World} {C C' : List Value} (h : Src w0 C C') (D : List Value) : Src w0 (D ++ C) C' := fun v hv => (h v hv).imp (fun h => List.mem_append_right _ h) id
/-- a space whose state now is another one -/
theorem put_now {p r : Nat} {w0 : World} {c2' : List Value} {K : Value → World → Prop} (hp : w.heap[p]? = some (.cells (c1 ++ c2).toArray 39)) (hr : w.heap[r]? = some (.cells (zc Tryz.prog 39) 39))
    (hp0 : w0.heap.size ≤ p) (hr0 : w0.heap.size ≤ r) (hpr : p ≠ r) (hk : Kp [] w0 w) (h1 : StAt w c1 qs) (l2 : c2.length = 4) (h2 : StAt w c2' q) (s1 : ∀ w', Kp [] w0 w' → StAt w' c1 qs) (s2 : ∀ w', Kp [p, r] w w' → StAt w' c2' q) (hsrc : Src w0 (c1 ++ c2) c2')
    (hK : ∀ w' c', QAt w' c' qs q → Src w0 (c1 ++ c2) c' → Kp [] w0 w' → K (.agg c'.toArray) w') :
    fa 4 (.pointer (some ⟨p, 0, none⟩)) fun t => stn 4 t (.agg c2'.toArray) w fun w => ldn 8 (.pointer (some ⟨p, 0, none⟩)) w fun t => stn 8 (.pointer (some ⟨r, 0, none⟩)) t w fun w => qG Tryz.prog (do loadVar 39 (← asAddr (.pointer (some ⟨r, 0, none⟩)))) w fun v => K v w := by
  rw [fa_p, st_now hp h1.len l2 h2.len h2.one]
  generalize hw3 : setBlk w p (.cells (c1 ++ c2').toArray 39) = w3
  have hp3 : w3.heap[p]? = some (.cells (c1 ++ c2').toArray 39) := by rw [← hw3]; exact heap_self (live_of hp)
  have k3 : Kp [p] w w3 := by rw [← hw3]; exact (Kp.refl _ _).setBlk (.inl (by simp)) _
  have l8 : (c1 ++ c2').length = 8 := by rw [List.length_append, h1.len, h2.len]
  rw [ld_all hp3 l8]
  refine ret8 (k3.get hr (by simp; exact fun hh => hpr hh.symm)) l8 (by rw [List.all_append, h1.one, h2.one]; rfl) fun w4 k4 => ?_
  have z := hk.size
  have kpr : Kp [p, r] w w4 := (k3.mono fun x hx _ => by simp at hx; simp [hx]).trans' (k4.mono fun x hx _ => by simp at hx; simp [hx])
  have k04 : Kp [] w0 w4 := hk.trans kpr fun x hx hlt => by simp at hx; omega
  exact hK w4 _ ⟨c1, c2', rfl, s1 w4 k04, s2 w4 kpr⟩ (fun v hv => by
    rcases List.mem_append.1 hv with hv | hv
    · exact .inl (List.mem_append_left _ hv)
    · exact hsrc v hv) k04
def rRelease (qs qn : St) (n : Int) : St × Int := if rIn qn n = true then (qn.set n.toNat false [], 0) else (qn, 130)
def rWrite (qs qn : St) (n : Int) (t : List UInt8) : St × Int := if t.length ≠ 256 then (qn, 1) else if isFresh qs qn n = true then (qn.set n.toNat true t, 0) else (qn, 130)
theorem rIn_lt {n : Int} (h : rIn q n = true) : 1 ≤ n ∧ n < q.us.length := by
  unfold rIn at h
  simp only [decide_eq_true_eq] at h
  exact ⟨h.1, h.2.1⟩
theorem release_ref (h : QAt w c qs qn) (hok : StOk qn) (n : Int) (hR : ∀ w' c', QAt w' c' qs (rRelease qs qn n).1 → Src w c c' → Kp [] w w' → R (.tuple #[.agg c'.toArray, .int .i64 (rRelease qs qn n).2]) w') :
    callG Tryz.prog 32 #[.agg c.toArray, .int .i64 n] w R := by
  refine ref13_Release_call ?_
  unfold ref13_Release ref13_Release_s0
  refine argB fun p w1 hp1 hp k1 => ?_
  refine newB fun r w2 hr2 hr k2 => ?_
  have hQ := h
  obtain ⟨c1, c2, rfl, h1, h2⟩ := h
  have hp2 := k2.get hp (by simp)
  have lp := lt_of_blk hp
  have lr := lt_of_blk hr
  have z1 := k1.size
  have z2 := k2.size
  have k12 := k1.trans' k2
  rw [fa_p, ld_now hp2 h1.len h2.len]
  refine rIn_spec (h2.keep k12) n fun w3 k3 => ?_
  have k13 := k12.trans' k3
  have z3 := k3.size
  have hp3 := k3.get hp2 (by simp)
  have hr3 := k3.get hr (by simp)
  unfold rRelease at hR
  simp only [un_not, bV_b]
  refine ⟨fun hh => ?_, fun hh => ?_⟩
  · have hh : rIn qn n = false := by simpa using hh
    rw [hh] at hR
    rw [ld_all hp3 hQ.len]
    refine ret8 (R := fun v w => R (.tuple #[v, .int .i64 130]) w) hr3 hQ.len hQ.one fun w4 k4 => ?_
    have k04 : Kp [] w w4 := k13.trans k4 fun x hx hlt => by simp at hx; omega
    exact hR w4 _ (hQ.keep k04) (Src.refl _ _) k04
  · have hh : rIn qn n = true := by simpa using hh
    rw [if_pos hh] at hR
    obtain ⟨n1, n2⟩ := rIn_lt hh
    obtain ⟨m, rfl⟩ : ∃ m : Nat, n = m := ⟨n.toNat, by omega⟩
    rw [Int.toNat_natCast] at hR
    have hs := hok.same
    have hf := hok.few
    rw [fa_p, ld_now hp3 h1.len h2.len, show (Value.string ⟨#[]⟩) = .string (str []) from rfl]
    refine used_ref h2 k13 (by omega) (by omega) hf (by omega) false [] fun w4 c' hs4 hsr k4 => ?_
    have k04 := k13.trans' k4
    refine put_now (K := fun v w => R (.tuple #[v, .int .i64 0]) w) (w0 := w) (k4.get hp3 (by simp)) (k4.get hr3 (by simp)) (by omega) (by omega) (by omega) k04 (h1.keep k04) h2.len (hs4 [] w4 (by simp) (Kp.refl _ _)) (fun w' k => h1.keep k) (fun w' k => hs4 [p, r] w' (by simp; omega) k) (hsr.right _) hR
theorem write_ref (h : QAt w c qs qn) (hok : StOk qn) (n : Int) (t : List UInt8) (hR : ∀ w' c', QAt w' c' qs (rWrite qs qn n t).1 → Src w c c' → Kp [] w w' → R (.tuple #[.agg c'.toArray, .int .i64 (rWrite qs qn n t).2]) w') :
    callG Tryz.prog 33 #[.agg c.toArray, .int .i64 n, .string (str t)] w R := by
  refine ref13_Write_call ?_
  unfold ref13_Write ref13_Write_s0
  refine argB fun p w1 hp1 hp k1 => ?_
  refine newB fun r w2 hr2 hr k2 => ?_
  have hQ := h
  obtain ⟨c1, c2, rfl, h1, h2⟩ := h
  have hp2 := k2.get hp (by simp)
  have lp := lt_of_blk hp
  have lr := lt_of_blk hr
  have z1 := k1.size
  have z2 := k2.size
  have k12 := k1.trans' k2
  have stay : ∀ (w3 : World) (e : Int), Kp [] w2 w3 → (∀ w' c', QAt w' c' qs qn → Src w (c1 ++ c2) c' → Kp [] w w' → R (.tuple #[.agg c'.toArray, .int .i64 e]) w') → ldn 8 (.pointer (some ⟨p, 0, none⟩)) w3 fun t => stn 8 (.pointer (some ⟨r, 0, none⟩)) t w3 fun w => qG Tryz.prog (do loadVar 39 (← asAddr (.pointer (some ⟨r, 0, none⟩)))) w fun v => R (.tuple #[v, .int .i64 e]) w := by
    intro w3 e k3 hR
    have z3 := k3.size
    rw [ld_all (k3.get hp2 (by simp)) hQ.len]
    refine ret8 (R := fun v w => R (.tuple #[v, .int .i64 e]) w) (k3.get hr (by simp)) hQ.len hQ.one fun w4 k4 => ?_
    have k04 : Kp [] w w4 := (k12.trans' k3).trans k4 fun x hx hlt => by simp at hx; omega
    exact hR w4 _ (hQ.keep k04) (Src.refl _ _) k04
  unfold rWrite at hR
  simp only [lenS_s, str_size, bq_neq, bV_b, decide_eq_true_eq, decide_eq_false_iff_not]
  refine ⟨fun hh => ?_, fun hh => ?_⟩
  · rw [if_pos (by omega)] at hR
    exact stay w2 1 (Kp.refl _ _) hR
  rw [if_neg (by omega)] at hR
  rw [ld_all hp2 hQ.len]
  refine fresh_ref (hQ.keep k12) n fun w3 k3 => ?_
  have k13 := k12.trans' k3
  have z3 := k3.size
  have hp3 := k3.get hp2 (by simp)
  have hr3 := k3.get hr (by simp)
  simp only [un_not, bV_b]
  refine ⟨fun hh => ?_, fun hh => ?_⟩
  · have hh : isFresh qs qn n = false := by simpa using hh
    rw [hh] at hR
    exact stay w3 130 k3 hR
  · have hh : isFresh qs qn n = true := by simpa using hh
    rw [if_pos hh] at hR
    unfold isFresh at hh
    rw [Bool.and_eq_true] at hh
    obtain ⟨n1, n2⟩ := rIn_lt hh.1
    obtain ⟨m, rfl⟩ : ∃ m : Nat, n = m := ⟨n.toNat, by omega⟩
    rw [Int.toNat_natCast] at hR
    have hs := hok.same
    have hf := hok.few
    rw [fa_p, ld_now hp3 h1.len h2.len]
    refine used_ref h2 k13 (by omega) (by omega) hf (by omega) true t fun w4 c' hs4 hsr k4 => ?_
    have k04 := k13.trans' k4
    refine put_now (K := fun v w => R (.tuple #[v, .int .i64 0]) w) (w0 := w) (k4.get hp3 (by simp)) (k4.get hr3 (by simp)) (by omega) (by omega) (by omega) k04 (h1.keep k04) h2.len (hs4 [] w4 (by simp) (Kp.refl _ _)) (fun w' k => h1.keep k) (fun w' k => hs4 [p, r] w' (by simp; omega) k) (hsr.right _) hR
end
end Go.Proofs

/- Layer 13: the document's Alloc, Count, Commit. -/
set_option maxRecDepth 100000
set_option linter.unusedVariables false
set_option linter.unusedSimpArgs false
namespace Go.Proofs
open Go Go.Q
section
variable {w w' : World} {R : Value → World → Prop} {b : Nat} {T : TypeId} {c c1 c2 : List Value} {q qs qn : St}
theorem ldV2 {b j : Nat} {T : TypeId} {c : List Value} {v : Value} (h : w.heap[b]? = some (.cells c.toArray T)) {o : Nat} (ho : o = j) (hv : c[j]? = some v) {K : Value → Prop} : ld1 (.pointer (some ⟨b, o, none⟩)) w K = K v := by
  subst ho
  exact ldF h (by simpa using hv)
def cntL (us : List Bool) (n : Nat) : Nat := ((List.range n).filter fun k => us.getD (k + 1) false).length
theorem cntL_succ (us : List Bool) (n : Nat) : cntL us (n + 1) = cntL us n + if us.getD (n + 1) false = true then 1 else 0 := by
  unfold cntL
  rw [List.range_succ, List.filter_append, List.length_append]
  congr 1
  rw [List.filter_cons, List.filter_nil]
  by_cases h : us.getD (n + 1) false = true
  · rw [if_pos h, if_pos h]; rfl
  · rw [if_neg h, if_neg h]; rfl
theorem cntL_le (us : List Bool) (n : Nat) : cntL us n ≤ n := Nat.le_trans (List.length_filter_le _ _) (by simp)
theorem count_ref (h : StAt w c q) (hl : q.us.length < 2 ^ 20) (hR : ∀ w', Kp [] w w' → R (.int .i64 (cntL q.us (q.us.length - 1) : Nat)) w') : callG Tryz.prog 68 #[.agg c.toArray] w R := by
  refine ref13_Count_call ?_
  unfold ref13_Count ref13_Count_s4
  refine argB fun p w1 hp1 hp k1 => ?_
  have h' := h.keep k1
  obtain ⟨vu, vb, vn, rfl, g1, g2, g3⟩ := h'
  have hld : ∀ K : Value → Prop, ld1 (.pointer (some ⟨p, 0 + 0, none⟩)) w1 K = K vu := fun K => ldV hp rfl
  unfold ref13_Count_s3 ref13_Count_L2
  refine loop_inv (fun n xs w' => ∃ k, k ≤ q.us.length - 1 ∧ n = q.us.length - k ∧ xs = [.pointer (some ⟨p, 0, none⟩), .int .i64 (cntL q.us k : Nat), .int .i64 ((k + 1 : Nat) : Int)] ∧ w' = w1) ?_ (m := q.us.length) ⟨0, by omega, rfl, rfl, rfl⟩
  rintro n N xs w' ⟨k, hk, rfl, rfl, rfl⟩ hN
  unfold ref13_Count_L2F ref13_Count_b1
  dsimp only
  have hle := cntL_le q.us k
  have e1 : IntKind.i64.wrap (((k + 1 : Nat) : Int) + 1) = ((k + 1 + 1 : Nat) : Int) := by rw [w64 (by omega) (by omega)]; omega
  have e2 : IntKind.i64.wrap ((cntL q.us k : Int) + 1) = ((cntL q.us k + 1 : Nat) : Int) := by rw [w64 (by omega) (by omega)]; simp
  rw [fa_p, hld, g1.lenL, List.length_map]
  simp only [bq_lss, bV_b, decide_eq_true_eq, decide_eq_false_iff_not]
  refine ⟨fun hlt => ?_, fun hge => ?_⟩
  · have hlt : k + 1 < q.us.length := by omega
    obtain ⟨pe, hia, hldp⟩ := g1.one (i := k + 1) (by simpa using hlt) (x := .bool q.us[k + 1]) (by simp [boolR])
    have hg : q.us.getD (k + 1) false = q.us[k + 1] := by simp [List.getD, hlt]
    rw [fa_p, hld, hia, hldp]
    simp only [bV_b, bq_add, e1, e2]
    refine ⟨fun ht => ?_, fun hf => ?_⟩
    · exact hN (q.us.length - (k + 1)) _ w' (by omega) ⟨k + 1, by omega, rfl, by rw [cntL_succ, hg, if_pos ht], rfl⟩
    · exact hN (q.us.length - (k + 1)) _ w' (by omega) ⟨k + 1, by omega, rfl, by rw [cntL_succ, hg, if_neg (by rw [hf]; simp)]; rfl, rfl⟩
  · have : k = q.us.length - 1 := by omega
    subst this
    unfold ref13_Count_s0
    exact hR w' k1
/-! ### taken -/
def rFree (qs qn : St) (k : Nat) : Bool := !(qn.us.getD k false) && !(qs.us.getD k false)
def rAlloc (qs qn : St) : St × Int × Int :=
  match (List.range (qn.us.length - 1)).find? fun k => rFree qs qn (k + 1) with
  | none => (qn, 0, 2)
  | some k => (qn.set (k + 1) true (List.replicate 256 0), ((k + 1 : Nat) : Int), 0)
theorem alloc_ref (h : QAt w c qs qn) (hok : StOk qn) (hsl : qs.us.length = qn.us.length) (hR : ∀ w' c', QAt w' c' qs (rAlloc qs qn).1 → Src w c c' → Kp [] w w' → R (.tuple #[.agg c'.toArray, .int .i64 (rAlloc qs qn).2.1, .int .i64 (rAlloc qs qn).2.2]) w') :
    callG Tryz.prog 30 #[.agg c.toArray] w R := by
  refine ref13_Alloc_call ?_
  unfold ref13_Alloc ref13_Alloc_s7
  refine argB fun p w1 hp1 hp k1 => ?_
  refine newB fun r w2 hr2 hr k2 => ?_
  have hQ := h
  obtain ⟨c1, c2, rfl, h1, h2⟩ := h
  have hp2 := k2.get hp (by simp)
  have lp := lt_of_blk hp
  have lr := lt_of_blk hr
  have z1 := k1.size
  have z2 := k2.size
  have k12 := k1.trans' k2
  have hs := hok.same
  have hf := hok.few
  obtain ⟨su, sb, sn, e1, g1, _, _⟩ := h1.keep k12
  obtain ⟨nu, nb, nn, e2, j1, _, _⟩ := h2.keep k12
  have hcell : (c1 ++ c2)[0]? = some su ∧ (c1 ++ c2)[4]? = some nu := by rw [e1, e2]; exact ⟨rfl, rfl⟩
  unfold ref13_Alloc_s6 ref13_Alloc_L5
  refine loop_inv (fun m xs w' => ∃ k, k ≤ qn.us.length - 1 ∧ m = qn.us.length - k ∧ xs = [.pointer (some ⟨p, 0, none⟩), .pointer (some ⟨r, 0, none⟩), .int .i64 ((k + 1 : Nat) : Int)] ∧ Kp [] w2 w' ∧ ∀ j, j < k → rFree qs qn (j + 1) = false) ?_ (m := qn.us.length) ⟨0, by omega, rfl, rfl, Kp.refl _ _, fun j hj => by omega⟩
  rintro m N xs w3 ⟨k, hk, rfl, rfl, k3, hno⟩ hN
  unfold ref13_Alloc_L5F ref13_Alloc_s4
  dsimp only
  have z3 := k3.size
  have hp3 := k3.get hp2 (by simp)
  have hr3 := k3.get hr (by simp)
  have ldn_ : ∀ K : Value → Prop, ld1 (.pointer (some ⟨p, 0 + 4 + 0, none⟩)) w3 K = K nu := fun K => ldV2 hp3 (j := 4) rfl hcell.2
  have lds_ : ∀ K : Value → Prop, ld1 (.pointer (some ⟨p, 0 + 0 + 0, none⟩)) w3 K = K su := fun K => ldV2 hp3 (j := 0) rfl hcell.1
  have j3 := j1.keep k3
  have g3 := g1.keep k3
  rw [fa_p, fa_p, ldn_, j3.lenL, List.length_map]
  simp only [bq_lss, bV_b, decide_eq_true_eq, decide_eq_false_iff_not]
  refine ⟨fun hlt => ?_, fun hge => ?_⟩
  · have hlt : k + 1 < qn.us.length := by omega
    have hlt2 : k + 1 < qs.us.length := by omega
    obtain ⟨pe, hia, hldp⟩ := j3.one (i := k + 1) (by simpa using hlt) (x := .bool qn.us[k + 1]) (by simp [boolR])
    obtain ⟨pe2, hia2, hldp2⟩ := g3.one (i := k + 1) (by simpa using hlt2) (x := .bool qs.us[k + 1]) (by simp [boolR])
    have hg : qn.us.getD (k + 1) false = qn.us[k + 1] := by simp [List.getD, hlt]
    have hg2 : qs.us.getD (k + 1) false = qs.us[k + 1] := by simp [List.getD, hlt2]
    have e3 : IntKind.i64.wrap (((k + 1 : Nat) : Int) + 1) = ((k + 1 + 1 : Nat) : Int) := by rw [w64 (by omega) (by omega)]; omega
    have next : rFree qs qn (k + 1) = false → ref13_Alloc_s2 R N (.pointer (some ⟨p, 0, none⟩)) (.pointer (some ⟨r, 0, none⟩)) (.int .i64 ((k + 1 : Nat) : Int)) (.bool false) w3 := fun hfr => by
      unfold ref13_Alloc_s2 ref13_Alloc_s1
      simp only [bV_b, bq_add, e3]
      refine ⟨fun hh => by simp at hh, fun _ => ?_⟩
      refine hN (qn.us.length - (k + 1)) _ w3 (by omega) ⟨k + 1, by omega, rfl, rfl, k3, fun j hj => ?_⟩
      by_cases hjk : j < k
      · exact hno j hjk
      · have : j = k := by omega
        subst this; exact hfr
    unfold ref13_Alloc_s3
    rw [fa_p, fa_p, ldn_, hia, hldp]
    simp only [un_not, bV_b]
    refine ⟨fun hn => ?_, fun hn => next (by unfold rFree; rw [hg]; simp at hn; rw [hn]; rfl)⟩
    have hn : qn.us[k + 1] = false := by simpa using hn
    rw [fa_p, fa_p, lds_, hia2, hldp2]
    simp only [un_not]
    cases hsv : qs.us[k + 1] with
    | true => exact next (by unfold rFree; rw [hg2, hsv]; simp)
    | false =>
      have hfree : rFree qs qn (k + 1) = true := by unfold rFree; rw [hg, hg2, hn, hsv]; rfl
      have hfind := find_range (p := fun k => rFree qs qn (k + 1)) (n := qn.us.length - 1) (by omega) hno hfree
      unfold rAlloc at hR
      rw [hfind] at hR
      simp only at hR
      unfold ref13_Alloc_s2
      simp only [Bool.not_false, bV_b]
      refine ⟨fun _ => ?_, fun hh => by simp at hh⟩
      have k3d := k3.drew
      have hp3d : w3.drew.heap[p]? = some (.cells (c1 ++ c2).toArray 39) := hp3
      rw [fa_p, ld_now hp3d h1.len h2.len]
      have hz : rep (zc Tryz.prog 5) (256 * 1) = arC [] (List.replicate 256 0) [] := by kernel_rfl
      simp only [mkG]
      refine ⟨by decide, ?_⟩
      rw [show (256 : Int).toNat = 256 from rfl, hz]
      generalize hw4 : w3.drew.alloc (.cells (arC [] (List.replicate 256 0) []) 5) = w4
      have hx : w4.heap[w3.drew.heap.size]? = some (.cells (arC [] (List.replicate 256 0) []) 5) := by rw [← hw4]; exact heap_new
      have k4 : Kp [] w2 w4 := by rw [← hw4]; exact k3d.alloc _
      have z4 := k4.size
      have hp4 := k4.get hp2 (by simp)
      refine ⟨by rw [ld_now hp4 h1.len h2.len], ?_⟩
      rw [ar_text hx (lo := 0) (n := 256) (by simp) (.inl (by simp))]
      have : ((List.replicate 256 (0 : UInt8)).drop 0).take 256 = List.replicate 256 0 := by simp
      rw [this]
      have k04 := k12.trans' k4
      refine used_ref h2 k04 (by omega) (by omega) hf (by omega) true _ fun w5 c' hs5 hsr k5 => ?_
      have k05 := k04.trans' k5
      refine put_now (K := fun v w => R (.tuple #[v, .int .i64 ((k + 1 : Nat) : Int), .int .i64 0]) w) (w0 := w) (k5.get hp4 (by simp)) (k5.get (k4.get hr (by simp)) (by simp)) (by omega) (by omega) (by omega) k05 (h1.keep k05) h2.len (hs5 [] w5 (by simp) (Kp.refl _ _)) (fun w' k => h1.keep k) (fun w' k => hs5 [p, r] w' (by simp; omega) k) (hsr.right _) hR
  · have hke : k = qn.us.length - 1 := by omega
    have hfind : (List.range (qn.us.length - 1)).find? (fun k => rFree qs qn (k + 1)) = none := by
      rw [List.find?_eq_none]
      intro j hj
      simp at hj
      simp [hno j (by omega)]
    unfold rAlloc at hR
    rw [hfind] at hR
    unfold ref13_Alloc_s0
    rw [ld_all hp3 hQ.len]
    refine ret8 (R := fun v w => R (.tuple #[v, .int .i64 0, .int .i64 2]) w) hr3 hQ.len hQ.one fun w4 k4 => ?_
    have k04 : Kp [] w w4 := (k12.trans' k3).trans k4 fun x hx hlt => by simp at hx; omega
    exact hR w4 _ (hQ.keep k04) (Src.refl _ _) k04
end
end Go.Proofs

/- Layer 13: the document's Commit, Forget. -/
set_option maxRecDepth 100000
set_option linter.unusedVariables false
set_option linter.unusedSimpArgs false
namespace Go.Proofs
open Go Go.Q
section
variable {w w' : World} {R : Value → World → Prop} {b : Nat} {T : TypeId} {c c1 c2 : List Value} {q qs qn : St}
theorem nm_get {vn : Value} {ns : List (List UInt8 × Int)} (h : Rd w vn 2 (ns.map nameR)) {i : Nat} (hi : i < ns.length) :
    ∃ p, (∀ kd K, ia 2 vn (.int kd i) K = K p) ∧ (∀ K : Value → Prop, ldn 2 p w K = K (.agg (nameR ns[i]).toArray)) ∧ (∀ K : Value → Prop, fa 0 p (fun q => ld1 q w K) = K (.string (str ns[i].1))) ∧ (∀ K : Value → Prop, fa 1 p (fun q => ld1 q w K) = K (.int .i64 ns[i].2)) := by
  obtain ⟨p, h1, h2, h3⟩ := h.get (i := i) (by simpa using hi)
  have hg : (ns.map nameR)[i]'(by simpa using hi) = nameR ns[i] := by simp
  refine ⟨p, h1, fun K => by rw [h2, hg], fun K => ?_, fun K => ?_⟩
  · rw [h3 0 (by rw [hg]; simp [nameR])]; simp only [hg]; rfl
  · rw [h3 1 (by rw [hg]; simp [nameR])]; simp only [hg]; rfl
def rCommit (qs qn : St) : (St × St) × Int := if (qn.ns.all fun x => rIn qn x.2) = true then (({ qn with t := qs.t + 1 }, { qn with t := qs.t + 1 }), 0) else ((qs, qn), 130)
theorem commit_ref (h : QAt w c qs qn) (hl : qn.ns.length < 2 ^ 20) (ht : 0 ≤ qs.t ∧ qs.t < 2 ^ 40) (hR : ∀ w' c', QAt w' c' (rCommit qs qn).1.1 (rCommit qs qn).1.2 → Src w c c' → Kp [] w w' → R (.tuple #[.agg c'.toArray, .int .i64 (rCommit qs qn).2]) w') :
    callG Tryz.prog 37 #[.agg c.toArray] w R := by
  refine ref13_Commit_call ?_
  unfold ref13_Commit ref13_Commit_s4
  refine argB fun p w1 hp1 hp k1 => ?_
  refine newB fun r w2 hr2 hr k2 => ?_
  have hQ := h
  obtain ⟨c1, c2, rfl, h1, h2⟩ := h
  have hp2 := k2.get hp (by simp)
  have lp := lt_of_blk hp
  have lr := lt_of_blk hr
  have z1 := k1.size
  have z2 := k2.size
  have k12 := k1.trans' k2
  have h1w := h1
  have h2w := h2
  obtain ⟨su, sb, sn, rfl, s1, s2, s3⟩ := h1
  obtain ⟨nu, nb, nn, rfl, n1, n2, n3⟩ := h2
  unfold ref13_Commit_s3 ref13_Commit_L2
  refine loop_inv (fun m xs w' => ∃ k, k ≤ qn.ns.length ∧ m = qn.ns.length - k ∧ xs = [.pointer (some ⟨p, 0, none⟩), .pointer (some ⟨r, 0, none⟩), .int .i64 (k : Nat)] ∧ Kp [] w2 w' ∧ ∀ x ∈ qn.ns.take k, rIn qn x.2 = true) ?_ (m := qn.ns.length) ⟨0, by omega, rfl, rfl, Kp.refl _ _, by simp⟩
  rintro m N xs w3 ⟨k, hk, rfl, rfl, k3, hall⟩ hN
  unfold ref13_Commit_L2F ref13_Commit_b1
  dsimp only
  have z3 := k3.size
  have hp3 := k3.get hp2 (by simp)
  have hr3 := k3.get hr (by simp)
  have k03 := k12.trans' k3
  have ldm : ∀ K : Value → Prop, ld1 (.pointer (some ⟨p, 0 + 4 + 2, none⟩)) w3 K = K nn := fun K => ldV2 hp3 (j := 6) rfl rfl
  rw [fa_p, fa_p, ldm, (n3.keep k03).lenL, List.length_map]
  simp only [bq_lss, bV_b, decide_eq_true_eq, decide_eq_false_iff_not]
  unfold rCommit at hR
  refine ⟨fun hlt => ?_, fun hge => ?_⟩
  · have hlt : k < qn.ns.length := by omega
    have hp3d : w3.drew.heap[p]? = some (.cells ([su, sb, sn, .int .i64 qs.t] ++ [nu, nb, nn, .int .i64 qn.t]).toArray 39) := hp3
    have ldmd : ∀ K : Value → Prop, ld1 (.pointer (some ⟨p, 0 + 4 + 2, none⟩)) w3.drew K = K nn := fun K => ldV2 hp3d (j := 6) rfl rfl
    obtain ⟨pe, i1, _, _, i4⟩ := nm_get ((n3.keep k03).keep ((Kp.refl [] w3).drew)) hlt
    rw [fa_p, ld_now hp3d rfl rfl, fa_p, fa_p, ldmd, i1, i4]
    refine rIn_spec ((h2w.keep k03).keep ((Kp.refl [] w3).drew)) _ fun w4 k4 => ?_
    have k34 : Kp [] w3 w4 := ((Kp.refl [] w3).drew).trans' k4
    have k24 := k3.trans' k34
    simp only [un_not, bV_b]
    refine ⟨fun hh => ?_, fun hh => ?_⟩
    · have hh : rIn qn qn.ns[k].2 = false := by simpa using hh
      have hno : ¬ (qn.ns.all fun x => rIn qn x.2) = true := by
        rw [List.all_eq_true]
        intro ha
        have := ha _ (List.getElem_mem hlt)
        rw [hh] at this; cases this
      rw [if_neg hno] at hR
      rw [ld_all (k34.get hp3 (by simp)) rfl]
      refine ret8 (R := fun v w => R (.tuple #[v, .int .i64 130]) w) (k34.get hr3 (by simp)) rfl hQ.one fun w5 k5 => ?_
      have z4 := k24.size
      have k05 : Kp [] w w5 := (k12.trans' k24).trans k5 fun x hx hlt => by simp at hx; omega
      exact hR w5 _ (hQ.keep k05) (Src.refl _ _) k05
    · have hh : rIn qn qn.ns[k].2 = true := by simpa using hh
      have e1 : IntKind.i64.wrap ((k : Int) + 1) = ((k + 1 : Nat) : Int) := by rw [w64 (by omega) (by omega)]; simp
      simp only [bq_add, e1]
      refine hN (qn.ns.length - (k + 1)) _ w4 (by omega) ⟨k + 1, by omega, rfl, rfl, k24, fun x hx => ?_⟩
      rw [take_snoc hlt] at hx
      rcases List.mem_append.1 hx with hx | hx
      · exact hall x hx
      · simp at hx; rw [hx]; exact hh
  · have : k = qn.ns.length := by omega
    subst this
    rw [List.take_length] at hall
    rw [if_pos (List.all_eq_true.2 hall)] at hR
    unfold ref13_Commit_s0
    have ldt : ∀ K : Value → Prop, ld1 (.pointer (some ⟨p, 0 + 0 + 3, none⟩)) w3 K = K (.int .i64 qs.t) := fun K => ldV2 hp3 (j := 3) rfl rfl
    have e1 : IntKind.i64.wrap (qs.t + 1) = qs.t + 1 := w64 (by omega) (by omega)
    rw [fa_p, fa_p, ldt]
    simp only [bq_add, e1]
    have hst : ∀ K : World → Prop, st1 (.pointer (some ⟨p, 0 + 4 + 3, none⟩)) (.int .i64 (qs.t + 1)) w3 K = K (setBlk w3 p (.cells ([su, sb, sn, .int .i64 qs.t] ++ [nu, nb, nn, .int .i64 (qs.t + 1)]).toArray 39)) := fun K => by
      rw [stF hp3 (by simp) rfl]
      rfl
    rw [fa_p, fa_p, hst]
    generalize hw4 : setBlk w3 p _ = w4
    have hp4 : w4.heap[p]? = some (.cells ([su, sb, sn, .int .i64 qs.t] ++ [nu, nb, nn, .int .i64 (qs.t + 1)]).toArray 39) := by rw [← hw4]; exact heap_self (live_of hp3)
    have k4 : Kp [p] w3 w4 := by rw [← hw4]; exact (Kp.refl _ _).setBlk (.inl (by simp)) _
    have z4 := k4.size
    have k04 : Kp [] w w4 := k03.trans k4 fun x hx hlt => by simp at hx; omega
    have hnew : ∀ w', Kp [] w w' → StAt w' [nu, nb, nn, .int .i64 (qs.t + 1)] { qn with t := qs.t + 1 } := fun w' k => ⟨nu, nb, nn, rfl, n1.keep k, n2.keep k, n3.keep k⟩
    rw [fa_p, ld_now hp4 rfl rfl, fa_p, st_sure hp4 rfl rfl (hnew w4 k04).one]
    generalize hw5 : setBlk w4 p _ = w5
    have hp5 : w5.heap[p]? = some (.cells ([nu, nb, nn, .int .i64 (qs.t + 1)] ++ [nu, nb, nn, .int .i64 (qs.t + 1)]).toArray 39) := by rw [← hw5]; exact heap_self (live_of hp4)
    have k5 : Kp [p] w4 w5 := by rw [← hw5]; exact (Kp.refl _ _).setBlk (.inl (by simp)) _
    have k05 : Kp [] w w5 := k04.trans k5 fun x hx hlt => by simp at hx; omega
    have hQ5 : QAt w5 ([nu, nb, nn, .int .i64 (qs.t + 1)] ++ [nu, nb, nn, .int .i64 (qs.t + 1)]) { qn with t := qs.t + 1 } { qn with t := qs.t + 1 } := ⟨_, _, rfl, hnew w5 k05, hnew w5 k05⟩
    rw [ld_all hp5 rfl]
    have hr5 := k5.get (k4.get hr3 (by simp; omega)) (by simp; omega)
    refine ret8 (R := fun v w => R (.tuple #[v, .int .i64 0]) w) hr5 rfl hQ5.one fun w6 k6 => ?_
    have z5 := k5.size
    have k06 : Kp [] w w6 := k05.trans k6 fun x hx hlt => by simp at hx; omega
    refine hR w6 _ ⟨_, _, rfl, hnew w6 k06, hnew w6 k06⟩ (fun v hv => ?_) k06
    simp only [List.mem_append, or_self, List.mem_cons, List.not_mem_nil, or_false] at hv
    rcases hv with rfl | rfl | rfl | rfl
    · exact .inl (by simp)
    · exact .inl (by simp)
    · exact .inl (by simp)
    · exact oldV_int
end
end Go.Proofs

/- Layer 13: the document's Forget, Call, New. -/
set_option maxRecDepth 100000
set_option linter.unusedVariables false
set_option linter.unusedSimpArgs false
namespace Go.Proofs
open Go Go.Q
section
variable {w w' : World} {R : Value → World → Prop} {b : Nat} {T : TypeId} {c c1 c2 : List Value} {q qs qn : St}
/-- the state now gets other names -/
theorem put_names {p r : Nat} {w0 w2 w3 : World} {nu nb nn v : Value} {out : List (List UInt8 × Int)} {K : Value → World → Prop} (hp : w3.heap[p]? = some (.cells (c1 ++ [nu, nb, nn, .int .i64 qn.t]).toArray 39)) (hr : w3.heap[r]? = some (.cells (zc Tryz.prog 39) 39))
    (hp0 : w0.heap.size ≤ p ∧ p < w2.heap.size) (hr0 : w0.heap.size ≤ r ∧ r < w2.heap.size) (hpr : p ≠ r) (hk : Kp [] w0 w2) (hf : Fr w2 w3 v 2 (out.map nameR)) (h1 : StAt w0 c1 qs) (h2 : Rd w0 nu 1 (qn.us.map boolR)) (h3 : Rd w0 nb 1 (qn.bs.map nmR))
    (hK : ∀ w' c', QAt w' c' qs { qn with ns := out } → Src w0 (c1 ++ [nu, nb, nn, .int .i64 qn.t]) c' → Kp [] w0 w' → K (.agg c'.toArray) w') :
    fa 4 (.pointer (some ⟨p, 0, none⟩)) fun t => fa 2 t fun t => st1 t v w3 fun w => ldn 8 (.pointer (some ⟨p, 0, none⟩)) w fun t => stn 8 (.pointer (some ⟨r, 0, none⟩)) t w fun w => qG Tryz.prog (do loadVar 39 (← asAddr (.pointer (some ⟨r, 0, none⟩)))) w fun v => K v w := by
  have l1 := h1.len
  have hst : ∀ K : World → Prop, st1 (.pointer (some ⟨p, 0 + 4 + 2, none⟩)) v w3 K = K (setBlk w3 p (.cells (c1 ++ [nu, nb, v, .int .i64 qn.t]).toArray 39)) := fun K => by
    rw [stF hp (by simp; omega) hf.one]
    obtain ⟨a1, a2, a3, a4, rfl⟩ : ∃ a1 a2 a3 a4, c1 = [a1, a2, a3, a4] := by
      match c1, l1 with
      | [a, b, c, d], _ => exact ⟨a, b, c, d, rfl⟩
    rfl
  rw [fa_p, fa_p, hst]
  generalize hw4 : setBlk w3 p _ = w4
  have hp4 : w4.heap[p]? = some (.cells (c1 ++ [nu, nb, v, .int .i64 qn.t]).toArray 39) := by rw [← hw4]; exact heap_self (live_of hp)
  have k4 : Kp [p] w3 w4 := by rw [← hw4]; exact (Kp.refl _ _).setBlk (.inl (by simp)) _
  have k3 := hf.kp
  have z3 := k3.size
  have z4 := k4.size
  have z0 := hk.size
  have k03 : Kp [] w0 w3 := hk.trans' k3
  obtain ⟨S, s1, s2⟩ := hf.ex
  have hq : ∀ w', Kp [p, r] w3 w' → Kp [] w0 w' ∧ QAt w' (c1 ++ [nu, nb, v, .int .i64 qn.t]) qs { qn with ns := out } := fun w' k => by
    have k0 : Kp [] w0 w' := k03.trans k fun x hx hlt => by simp at hx; omega
    refine ⟨k0, c1, _, rfl, h1.keep k0, nu, nb, v, rfl, h2.keep k0, h3.keep k0, ?_⟩
    exact (show Fr w0 w' v 2 _ from ⟨⟨S, s1.keep k (fun x hx hm => by have := s2 x hx; simp at hm; omega), fun x hx => by have := s2 x hx; omega⟩, k0⟩).rd
  have l8 : (c1 ++ [nu, nb, v, .int .i64 qn.t]).length = 8 := by simp [l1]
  rw [ld_all hp4 l8]
  refine ret8 (k4.get hr (by simp; exact fun hh => hpr hh.symm)) l8 (hq w4 (k4.mono fun x hx _ => by simp at hx; simp [hx])).2.one fun w5 k5 => ?_
  have k35 : Kp [p, r] w3 w5 := (k4.mono fun x hx _ => by simp at hx; simp [hx]).trans' (k5.mono fun x hx _ => by simp at hx; simp [hx])
  refine hK w5 _ (hq w5 k35).2 (fun x hx => ?_) (hq w5 k35).1
  rcases List.mem_append.1 hx with hx | hx
  · exact .inl (List.mem_append_left _ hx)
  · simp only [List.mem_cons, List.not_mem_nil, or_false] at hx
    rcases hx with rfl | rfl | rfl | rfl
    · exact .inl (by simp)
    · exact .inl (by simp)
    · exact Fr.newV hf (by omega)
    · exact oldV_int
theorem zcNm : zc Tryz.prog 112 = [Value.string (str []), Value.int .i64 0].toArray := by kernel_rfl
theorem nameR_flat (x : List UInt8 × Int) : (nameR x).all Q.one = true := rfl
def rForget (qn : St) (nm : List UInt8) : St × Int := if (qn.ns.filter fun x => decide (x.1 ≠ nm)).length = qn.ns.length then (qn, 3) else ({ qn with ns := qn.ns.filter fun x => decide (x.1 ≠ nm) }, 0)
theorem forget_ref (h : QAt w c qs qn) (hl : qn.ns.length < 2 ^ 20) (nm : List UInt8) (hR : ∀ w' c', QAt w' c' qs (rForget qn nm).1 → Src w c c' → Kp [] w w' → R (.tuple #[.agg c'.toArray, .int .i64 (rForget qn nm).2]) w') :
    callG Tryz.prog 36 #[.agg c.toArray, .string (str nm)] w R := by
  refine ref13_Forget_call ?_
  unfold ref13_Forget ref13_Forget_s4
  refine argB fun p w1 hp1 hp k1 => ?_
  refine newB fun r w2 hr2 hr k2 => ?_
  have hQ := h
  obtain ⟨c1, c2, rfl, h1, h2⟩ := h
  have hp2 := k2.get hp (by simp)
  have lp := lt_of_blk hp
  have lr := lt_of_blk hr
  have z1 := k1.size
  have z2 := k2.size
  have k12 := k1.trans' k2
  have l1 := h1.len
  obtain ⟨nu, nb, nn, rfl, n1, n2, n3⟩ := h2
  have hnn : (c1 ++ [nu, nb, nn, .int .i64 qn.t])[6]? = some nn := by rw [List.getElem?_append_right (by omega), l1]; rfl
  unfold ref13_Forget_s3 ref13_Forget_L2
  refine loop_inv (fun m xs w' => ∃ k v, k ≤ qn.ns.length ∧ m = qn.ns.length - k ∧ xs = [.string (str nm), .pointer (some ⟨p, 0, none⟩), .pointer (some ⟨r, 0, none⟩), v, .int .i64 (k : Nat)] ∧ Fr w2 w' v 2 (((qn.ns.take k).filter fun x => decide (x.1 ≠ nm)).map nameR)) ?_ (m := qn.ns.length) ⟨0, .slice none 0 0, by omega, rfl, rfl, by simpa using fr_nil (Kp.refl _ _)⟩
  rintro m N xs w3 ⟨k, v, hk, rfl, rfl, hf⟩ hN
  unfold ref13_Forget_L2F ref13_Forget_b1
  dsimp only
  have k3 := hf.kp
  have z3 := k3.size
  have hp3 := k3.get hp2 (by simp)
  have hr3 := k3.get hr (by simp)
  have k03 := k12.trans' k3
  have n3' := n3.keep k03
  have ldm : ∀ K : Value → Prop, ld1 (.pointer (some ⟨p, 0 + 4 + 2, none⟩)) w3 K = K nn := fun K => ldV2 hp3 (j := 6) rfl hnn
  have hfl : ((qn.ns.take k).filter fun x => decide (x.1 ≠ nm)).length ≤ k := Nat.le_trans (List.length_filter_le _ _) (by rw [List.length_take]; omega)
  rw [fa_p, fa_p, ldm, n3'.lenL, List.length_map]
  simp only [bq_lss, bV_b, decide_eq_true_eq, decide_eq_false_iff_not]
  refine ⟨fun hlt => ?_, fun hge => ?_⟩
  · have hlt : k < qn.ns.length := by omega
    obtain ⟨pe, i1, i2, i3, i4⟩ := nm_get n3' hlt
    have e1 : IntKind.i64.wrap ((k : Int) + 1) = ((k + 1 : Nat) : Int) := by rw [w64 (by omega) (by omega)]; simp
    have htk := take_snoc hlt
    rw [fa_p, fa_p, ldm, i1, i3, bq_nes]
    simp only [bV_b]
    refine ⟨fun hne => ?_, fun heq => ?_⟩
    · have hne : qn.ns[k].1 ≠ nm := by simpa using hne
      rw [fa_p, fa_p, ldm, i1, i2]
      refine bsl_rowN (n := 2) (cs := nameR qn.ns[k]) (by omega) rfl rfl fun v' w4 hf4 => ?_
      rw [zcNm]
      refine fr_push (wx := w4) (k := 2) (hf.keep hf4.kp) hf4.rd (by omega) rfl (nameR_flat _) (by rw [List.length_map]; omega) (by rw [List.length_map]; omega) fun v2 w5 hf5 => ?_
      simp only [bq_add, e1]
      refine hN (qn.ns.length - (k + 1)) _ w5 (by omega) ⟨k + 1, v2, by omega, rfl, rfl, ?_⟩
      rw [htk, List.filter_append, List.filter_cons_of_pos (by simpa using hne), List.filter_nil, List.map_append]
      exact hf5
    · have heq : qn.ns[k].1 = nm := by simpa using heq
      simp only [bq_add, e1]
      refine hN (qn.ns.length - (k + 1)) _ w3 (by omega) ⟨k + 1, v, by omega, rfl, rfl, ?_⟩
      rw [htk, List.filter_append, List.filter_cons_of_neg (by simpa using heq), List.filter_nil, List.append_nil]
      exact hf
  · have : k = qn.ns.length := by omega
    subst this
    rw [List.take_length] at hf hfl
    unfold ref13_Forget_s0
    unfold rForget at hR
    rw [hf.rd.lenL, List.length_map, fa_p, fa_p, ldm, n3'.lenL, List.length_map]
    simp only [bq_eql, bV_b, decide_eq_true_eq, decide_eq_false_iff_not]
    refine ⟨fun he => ?_, fun hne => ?_⟩
    · rw [if_pos (by omega)] at hR
      rw [ld_all hp3 hQ.len]
      refine ret8 (R := fun v w => R (.tuple #[v, .int .i64 3]) w) hr3 hQ.len hQ.one fun w4 k4 => ?_
      have k04 : Kp [] w w4 := k03.trans k4 fun x hx hlt => by simp at hx; omega
      exact hR w4 _ (hQ.keep k04) (Src.refl _ _) k04
    · rw [if_neg (by omega)] at hR
      exact put_names (K := fun v w => R (.tuple #[v, .int .i64 0]) w) hp3 hr3 (by omega) (by omega) (by omega) k12 hf h1 n1 n2 hR
theorem bq_sgeq {P : Program} {T : TypeId} {xo yo : Operand} {a b : List UInt8} {w : World} {K : Value → Prop} : qG P (bq .geq T xo yo (.string (str a)) (.string (str b))) w K = K (.bool (!lexL a b)) := by
  have h : (bq .geq T xo yo (.string (str a)) (.string (str b))).run P w = .ok (.bool (!sLt (str a) (str b))) w := run_bq_str (s := .pure _) fun w => by simp only [binOp, Op.stringOp, toList_beq]; rfl
  rw [qG_of h, sLt_lexS]
/-- a name is put into its place -/
def geN (x nm : List UInt8) : Bool := !lexL x nm
def cStep (nm : List UInt8) (n : Int) (s : List (List UInt8 × Int) × Bool) (x : List UInt8 × Int) : List (List UInt8 × Int) × Bool :=
  ((s.1 ++ if (!s.2 && geN x.1 nm) = true then [(nm, n)] else []) ++ (if x.1 ≠ nm then [x] else []), s.2 || geN x.1 nm)
def cAll (nm : List UInt8) (n : Int) (l : List (List UInt8 × Int)) : List (List UInt8 × Int) × Bool := l.foldl (cStep nm n) ([], false)
def cOut (nm : List UInt8) (n : Int) (l : List (List UInt8 × Int)) : List (List UInt8 × Int) := (cAll nm n l).1 ++ if (cAll nm n l).2 = true then [] else [(nm, n)]
theorem cAll_len (nm : List UInt8) (n : Int) (l : List (List UInt8 × Int)) : (cAll nm n l).1.length ≤ 2 * l.length := by
  unfold cAll
  have key : ∀ (l : List (List UInt8 × Int)) (s : List (List UInt8 × Int) × Bool), (l.foldl (cStep nm n) s).1.length ≤ s.1.length + 2 * l.length := by
    intro l
    induction l with
    | nil => intro s; simp
    | cons x l ih =>
      intro s
      have := ih (cStep nm n s x)
      have h2 : (cStep nm n s x).1.length ≤ s.1.length + 2 := by
        unfold cStep
        simp only [List.length_append]
        split <;> split <;> simp <;> omega
      simp only [List.foldl_cons, List.length_cons]
      omega
  have := key l ([], false)
  simpa using this
def rCall (qn : St) (nm : List UInt8) (n : Int) : St × Int :=
  if nm.length < 1 ∨ 8 < nm.length then (qn, 1) else if rIn qn n = false then (qn, 130) else if 6 < (cOut nm n qn.ns).length then (qn, 2) else ({ qn with ns := cOut nm n qn.ns }, 0)
theorem call_ref (h : QAt w c qs qn) (hl : qn.ns.length < 2 ^ 20) (nm : List UInt8) (n : Int) (hR : ∀ w' c', QAt w' c' qs (rCall qn nm n).1 → Src w c c' → Kp [] w w' → R (.tuple #[.agg c'.toArray, .int .i64 (rCall qn nm n).2]) w') :
    callG Tryz.prog 34 #[.agg c.toArray, .string (str nm), .int .i64 n] w R := by
  refine ref13_Call_call ?_
  unfold ref13_Call ref13_Call_s11
  refine argB fun p w1 hp1 hp k1 => ?_
  refine newB fun r w2 hr2 hr k2 => ?_
  have hQ := h
  obtain ⟨c1, c2, rfl, h1, h2⟩ := h
  have hp2 := k2.get hp (by simp)
  have lp := lt_of_blk hp
  have lr := lt_of_blk hr
  have z1 := k1.size
  have z2 := k2.size
  have k12 := k1.trans' k2
  have l1 := h1.len
  have stay : ∀ (w3 : World) (e : Int), Kp [] w2 w3 → (∀ w' c', QAt w' c' qs qn → Src w (c1 ++ c2) c' → Kp [] w w' → R (.tuple #[.agg c'.toArray, .int .i64 e]) w') → ldn 8 (.pointer (some ⟨p, 0, none⟩)) w3 fun t => stn 8 (.pointer (some ⟨r, 0, none⟩)) t w3 fun w => qG Tryz.prog (do loadVar 39 (← asAddr (.pointer (some ⟨r, 0, none⟩)))) w fun v => R (.tuple #[v, .int .i64 e]) w := by
    intro w3 e k3 hR
    have z3 := k3.size
    rw [ld_all (k3.get hp2 (by simp)) hQ.len]
    refine ret8 (R := fun v w => R (.tuple #[v, .int .i64 e]) w) (k3.get hr (by simp)) hQ.len hQ.one fun w4 k4 => ?_
    have k04 : Kp [] w w4 := (k12.trans' k3).trans k4 fun x hx hlt => by simp at hx; omega
    exact hR w4 _ (hQ.keep k04) (Src.refl _ _) k04
  unfold rCall at hR
  simp only [lenS_s, str_size, bq_lss, bq_gtr, bV_b, decide_eq_true_eq, decide_eq_false_iff_not]
  refine ⟨fun hh => ?_, fun hh1 => ⟨fun hh => ?_, fun hh2 => ?_⟩⟩
  · rw [if_pos (.inl (by omega))] at hR
    exact stay w2 1 (Kp.refl _ _) hR
  · rw [if_pos (.inr (by omega))] at hR
    exact stay w2 1 (Kp.refl _ _) hR
  rw [if_neg (by omega)] at hR
  unfold ref13_Call_s10
  rw [fa_p, ld_now hp2 h1.len h2.len]
  refine rIn_spec (h2.keep k12) n fun w3 k3 => ?_
  simp only [un_not, bV_b]
  refine ⟨fun hh => ?_, fun hh => ?_⟩
  · rw [if_pos (by simpa using hh)] at hR
    exact stay w3 130 k3 hR
  have hh : rIn qn n = true := by simpa using hh
  rw [if_neg (by rw [hh]; simp)] at hR
  obtain ⟨nu, nb, nn, rfl, n1, n2, n3⟩ := h2
  have hnn : (c1 ++ [nu, nb, nn, .int .i64 qn.t])[6]? = some nn := by rw [List.getElem?_append_right (by omega), l1]; rfl
  have z3 := k3.size
  have push : ∀ (w4 : World) (v : Value) (out : List (List UInt8 × Int)) (x : List UInt8 × Int) (K : Value → World → Prop), Fr w3 w4 v 2 (out.map nameR) → out.length < 2 ^ 30 → (∀ v' w', Fr w3 w' v' 2 ((out ++ [x]).map nameR) → (∀ y o, (∀ S, RowsAt w4 v 2 (out.map nameR) S → y ∉ S) → w4.heap[y]? = some o → w'.heap[y]? = some o) → K v' w') →
      bsl 112 2 1 (zc Tryz.prog 112) #[(0, .agg (nameR x).toArray)] w4 fun t w => app 112 2 24 (zc Tryz.prog 112) v t w K := by
    intro w4 v out x K hf hlo hK
    obtain ⟨S, s1, s2⟩ := hf.ex
    refine bsl_rowN (n := 2) (cs := nameR x) (by omega) rfl rfl fun v' w5 hf5 => ?_
    rw [zcNm]
    have k5 := hf5.kp
    have z3 := hf.kp.size
    have z5 := k5.size
    refine rows_app (k := 2) (s1.keep k5 (by simp)) (by omega) rfl (G := [nameR x]) (by simp [nameR]) (by rfl) (fun K' hK' => hf5.rd.src K' hK') (by simp; omega) (by simp; omega) fun v2 w6 S6 h6 k6 hS6 => ?_
    refine hK v2 w6 ⟨⟨S6, by rw [List.map_append]; exact h6, fun y hy => ?_⟩, (hf.kp.trans' k5).trans k6 fun y hy hlt => by have := s2 y hy; omega⟩ fun y o hy ho => k6.get (k5.get ho (by simp)) (hy S s1)
    rcases hS6 y hy with h | h
    · exact s2 y h
    · omega
  have bldN : ∀ K : Value → Prop, bld [(0, 1), (1, 1)] (zc Tryz.prog 112) #[(0, .string (str nm)), (1, .int .i64 n)] K = K (.agg (nameR (nm, n)).toArray) := fun K => by
    rw [zcNm]; rfl
  unfold ref13_Call_s9 ref13_Call_L8
  refine loop_inv (fun m xs w' => ∃ k v, k ≤ qn.ns.length ∧ m = qn.ns.length - k ∧ xs = [.string (str nm), .int .i64 n, .pointer (some ⟨p, 0, none⟩), .pointer (some ⟨r, 0, none⟩), v, .bool (cAll nm n (qn.ns.take k)).2, .int .i64 (k : Nat)] ∧ Fr w3 w' v 2 ((cAll nm n (qn.ns.take k)).1.map nameR)) ?_ (m := qn.ns.length) ⟨0, .slice none 0 0, by omega, rfl, rfl, by simpa [cAll] using fr_nil (Kp.refl _ _)⟩
  rintro m N xs w4 ⟨k, v, hk, rfl, rfl, hf⟩ hN
  unfold ref13_Call_L8F ref13_Call_s7
  dsimp only
  have k4 := hf.kp
  have z4 := k4.size
  have hp4 := k4.get (k3.get hp2 (by simp)) (by simp)
  have hr4 := k4.get (k3.get hr (by simp)) (by simp)
  have k04 := (k12.trans' k3).trans' k4
  have n3' := n3.keep k04
  have ldm : ∀ (w' : World), Kp [] w4 w' → ∀ K : Value → Prop, ld1 (.pointer (some ⟨p, 0 + 4 + 2, none⟩)) w' K = K nn := fun w' kk K => ldV2 (kk.get hp4 (by simp)) (j := 6) rfl hnn
  have hcl := cAll_len nm n (qn.ns.take k)
  rw [List.length_take] at hcl
  rw [fa_p, fa_p, ldm w4 (Kp.refl _ _), n3'.lenL, List.length_map]
  simp only [bq_lss, bV_b, decide_eq_true_eq, decide_eq_false_iff_not]
  refine ⟨fun hlt => ?_, fun hge => ?_⟩
  · have hlt : k < qn.ns.length := by omega
    obtain ⟨pe, i1, i2, i3, i4⟩ := nm_get n3' hlt
    have e1 : IntKind.i64.wrap ((k : Int) + 1) = ((k + 1 : Nat) : Int) := by rw [w64 (by omega) (by omega)]; simp
    have hst : cAll nm n (qn.ns.take (k + 1)) = cStep nm n (cAll nm n (qn.ns.take k)) qn.ns[k] := by
      unfold cAll; rw [take_snoc hlt, List.foldl_append]; rfl
    unfold ref13_Call_s6
    rw [fa_p, fa_p, ldm w4 (Kp.refl _ _), i1, i2]
    refine newB fun x w5 hx5 hx k5 => ?_
    rw [stA (k := 2) (c := (nameR qn.ns[k]).toArray) hx (by rw [zcNm]; rfl) rfl (by simpa using nameR_flat qn.ns[k])]
    generalize hw6 : setBlk w5 x (.cells (nameR qn.ns[k]).toArray 112) = w6
    have hx6 : w6.heap[x]? = some (.cells (nameR qn.ns[k]).toArray 112) := by rw [← hw6]; exact heap_self (live_of hx)
    have z5 := k5.size
    have k46 : Kp [] w4 w6 := k5.trans (by rw [← hw6]; exact (Kp.refl _ _).setBlk (.inl (by simp)) _ : Kp [x] w5 w6) fun y hy hl => by simp at hy; omega
    have hf6 := hf.keep k46
    have lds : ∀ (w' : World), w'.heap[x]? = some (.cells (nameR qn.ns[k]).toArray 112) → ∀ K : Value → Prop, ld1 (.pointer (some ⟨x, 0 + 0, none⟩)) w' K = K (.string (str qn.ns[k].1)) := fun w' kk K => ldV kk rfl
    have fin3 : ∀ (w7 : World) (v7 : Value) (o : List (List UInt8 × Int)) (d : Bool), w7.heap[x]? = some (.cells (nameR qn.ns[k]).toArray 112) → Fr w3 w7 v7 2 (o.map nameR) → o.length < 2 ^ 29 → cAll nm n (qn.ns.take (k + 1)) = (o ++ (if qn.ns[k].1 ≠ nm then [qn.ns[k]] else []), d) →
        ref13_Call_s3 R N (.string (str nm)) (.int .i64 n) (.pointer (some ⟨p, 0, none⟩)) (.pointer (some ⟨r, 0, none⟩)) v7 (.bool d) (.int .i64 (k : Nat)) (.pointer (some ⟨x, 0, none⟩)) w7 := by
      intro w7 v7 o d k7 hf7 hol he
      have go : ∀ (w8 : World) (v8 : Value), Fr w3 w8 v8 2 ((cAll nm n (qn.ns.take (k + 1))).1.map nameR) → ref13_Call_s2 R N (.string (str nm)) (.int .i64 n) (.pointer (some ⟨p, 0, none⟩)) (.pointer (some ⟨r, 0, none⟩)) v8 (.bool d) (.int .i64 (k : Nat)) w8 := fun w8 v8 h8 => by
        unfold ref13_Call_s2
        simp only [bq_add, e1]
        exact hN (qn.ns.length - (k + 1)) _ w8 (by omega) ⟨k + 1, v8, by omega, rfl, by rw [he], h8⟩
      unfold ref13_Call_s3
      rw [fa_p, lds w7 k7, bq_nes]
      simp only [bV_b]
      refine ⟨fun hne => ?_, fun heq => ?_⟩
      · have hne : qn.ns[k].1 ≠ nm := by simpa using hne
        rw [ldA (k := 2) k7 rfl]
        refine push w7 v7 o qn.ns[k] _ hf7 (by omega) fun v8 w8 h8 _ => go w8 v8 ?_
        rw [he, if_pos hne]
        exact h8
      · have heq : qn.ns[k].1 = nm := by simpa using heq
        refine go w7 v7 ?_
        rw [he, if_neg (by simpa using heq), List.append_nil]
        exact hf7
    have fin4 : ∀ (g : Bool), g = (!(cAll nm n (qn.ns.take k)).2 && geN qn.ns[k].1 nm) → ref13_Call_s4 R N (.string (str nm)) (.int .i64 n) (.pointer (some ⟨p, 0, none⟩)) (.pointer (some ⟨r, 0, none⟩)) v (.bool (cAll nm n (qn.ns.take k)).2) (.int .i64 (k : Nat)) (.pointer (some ⟨x, 0, none⟩)) (.bool g) w6 := by
      intro g hg
      unfold ref13_Call_s4
      simp only [bV_b]
      refine ⟨fun ht => ?_, fun hfl => ?_⟩
      · rw [ht] at hg
        have hg2 := hg.symm
        rw [Bool.and_eq_true] at hg2
        rw [bldN]
        refine push w6 v _ (nm, n) _ hf6 (by omega) fun v7 w7 h7 hkeep => ?_
        have hx7 := hkeep x _ (fun S hS hm => by
          obtain ⟨h1, h2, h3⟩ | ⟨bl, F, T, h1, h2, h3, _⟩ := hS
          · rw [h3] at hm; simp at hm
          · rw [h2] at hm
            simp at hm
            obtain ⟨S', s1, s2⟩ := hf.ex
            obtain ⟨g1, g2, g3⟩ | ⟨bl', F', T', g1, g2, g3, _⟩ := s1
            · rw [h1] at g1; cases g1
            · rw [h1] at g1
              injection g1 with g1
              injection g1 with g1
              injection g1 with g1
              have := lt_of_blk g3
              omega) hx6
        refine fin3 w7 v7 _ true hx7 h7 (by simp; omega) ?_
        rw [hst]
        unfold cStep
        rw [← hg, if_pos rfl, hg2.2]
        simp
      · rw [hfl] at hg
        refine fin3 w6 v _ _ hx6 hf6 (by omega) ?_
        rw [hst]
        unfold cStep
        rw [← hg]
        simp only [Bool.false_eq_true, if_false, List.append_nil]
        congr 1
        cases hd : (cAll nm n (qn.ns.take k)).2 with
        | true => rfl
        | false => rw [hd] at hg; simpa using hg.symm
    unfold ref13_Call_s5
    simp only [un_not, bV_b]
    refine ⟨fun hd => ?_, fun hd => ?_⟩
    · rw [fa_p, lds w6 hx6, bq_sgeq]
      exact fin4 _ (by rw [hd]; rfl)
    · exact fin4 false (by rw [hd]; rfl)
  · have : k = qn.ns.length := by omega
    subst this
    rw [List.take_length] at hf hcl ⊢
    have hout : cOut nm n qn.ns = (cAll nm n qn.ns).1 ++ if (cAll nm n qn.ns).2 = true then [] else [(nm, n)] := rfl
    have fin : ∀ (w7 : World) (v7 : Value), Fr w3 w7 v7 2 ((cOut nm n qn.ns).map nameR) → ref13_Call_s0 R (.pointer (some ⟨p, 0, none⟩)) (.pointer (some ⟨r, 0, none⟩)) v7 w7 := by
      intro w7 v7 h7
      have k7 := h7.kp
      unfold ref13_Call_s0
      rw [h7.rd.lenL, List.length_map]
      simp only [bq_gtr, bV_b, decide_eq_true_eq, decide_eq_false_iff_not]
      refine ⟨fun h6 => ?_, fun h6 => ?_⟩
      · rw [if_pos (by omega)] at hR
        exact stay w7 2 (k3.trans' k7) hR
      · rw [if_neg (by omega)] at hR
        exact put_names (K := fun v w => R (.tuple #[v, .int .i64 0]) w) (k7.get (k3.get hp2 (by simp)) (by simp)) (k7.get (k3.get hr (by simp)) (by simp)) (by omega) (by omega) (by omega) (k12.trans' k3) h7 h1 n1 n2 hR
    unfold ref13_Call_s1
    simp only [un_not, bV_b]
    refine ⟨fun hd => ?_, fun hd => ?_⟩
    · have hd : (cAll nm n qn.ns).2 = false := by simpa using hd
      rw [bldN]
      refine push w4 v _ (nm, n) _ hf (by omega) fun v7 w7 h7 _ => fin w7 v7 ?_
      rw [hout, hd, if_neg (by simp)]
      exact h7
    · have hd : (cAll nm n qn.ns).2 = true := by simpa using hd
      refine fin w4 v ?_
      rw [hout, hd, if_pos rfl, List.append_nil]
      exact hf
end
end Go.Proofs

/- Layer 13: the document's New. -/
set_option maxRecDepth 100000
set_option linter.unusedVariables false
set_option linter.unusedSimpArgs false
namespace Go.Proofs
open Go Go.Q
def st9 : St := ⟨List.replicate 10 false, List.replicate 10 [], [], 0⟩
section
variable {w w' : World} {R : Value → World → Prop}
theorem rd_made {a T : Nat} {rows : List (List Value)} (h : w.heap[a]? = some (.cells rows.flatten.toArray T)) (h1 : ∀ x ∈ rows, x.length = 1) (hl : rows.length = 10) : Rd w (.slice (some ⟨a, 0, none⟩) 10 10) 1 rows := by
  have hr : RowsAt w (.slice (some ⟨a, 0, none⟩) 10 10) 1 rows [a] := .inr ⟨a, rows, T, by rw [hl], rfl, h, h1, by rw [List.take_length], by omega⟩
  exact ⟨[a], .inr hr.rd⟩
noncomputable def cB : Array Value := rep (zc Tryz.prog 4) (10 * 1)
noncomputable def cS : Array Value := rep (zc Tryz.prog 9) (10 * 1)
def q4 (a6 a9 : Nat) : List Value := [.slice (some ⟨a6, 0, none⟩) 10 10, .slice (some ⟨a9, 0, none⟩) 10 10, .slice none 0 0, .int .i64 0]
theorem q4_one (a6 a9 : Nat) : (q4 a6 a9).all Q.one = true := rfl
theorem cB_eq : cB = ((List.replicate 10 false).map boolR).flatten.toArray := by kernel_rfl
theorem cS_eq : cS = ((List.replicate 10 ([] : List UInt8)).map nmR).flatten.toArray := by kernel_rfl
theorem bldSt {v u : Value} (hv : v.cells = #[v]) (hu : u.cells = #[u]) {K : Value → Prop} : bld [(0, 1), (1, 1), (2, 1), (3, 1)] (zc Tryz.prog 37) #[(0, v), (1, u)] K = K (.agg [v, u, .slice none 0 0, .int .i64 0].toArray) := by
  rw [zcSt]
  unfold bld
  rw [fill_step (off := 0) (size := 1) rfl (by rw [hv]; rfl) (by simp), hv, fill_step (off := 1) (size := 1) rfl (by rw [hu]; rfl) (by simp [splice]), hu]
  rfl
theorem bldQ {c1 c2 : List Value} (l1 : c1.length = 4) (l2 : c2.length = 4) {K : Value → Prop} : bld [(0, 4), (4, 4)] (zc Tryz.prog 39) #[(0, .agg c1.toArray), (1, .agg c2.toArray)] K = K (.agg (c1 ++ c2).toArray) := by
  have hz : (zc Tryz.prog 39).size = 8 := by rw [zcQ]; rfl
  have s1 : (Value.cells (.agg c1.toArray)).size = 4 := by simp [Value.cells, l1]
  have s2 : (Value.cells (.agg c2.toArray)).size = 4 := by simp [Value.cells, l2]
  unfold bld
  rw [fill_step (off := 0) (size := 4) rfl s1 (by omega), fill_step (off := 4) (size := 4) rfl s2 (by rw [splice_size (by omega)]; omega)]
  have e : splice (splice (zc Tryz.prog 39) 0 (Value.cells (.agg c1.toArray))) 4 (Value.cells (.agg c2.toArray)) = (c1 ++ c2).toArray := by
    rw [zcQ]
    simp [splice, Value.cells, l1, l2, List.take_append, List.take_of_length_le]
  simp only [Instr.fill, e]
theorem new_tail {wb wx : World} {a6 a9 x r : Nat} (h6 : wx.heap[a6]? = some (.cells cB 4)) (h9 : wx.heap[a9]? = some (.cells cS 9)) (hx : wx.heap[x]? = some (.cells (zc Tryz.prog 37) 37)) (hr : wx.heap[r]? = some (.cells (zc Tryz.prog 39) 39))
    (hxr : x ≠ r) (n1 : a6 ≠ x) (n2 : a6 ≠ r) (n3 : a9 ≠ x) (n4 : a9 ≠ r) (b1 : wb.heap.size ≤ x) (b2 : wb.heap.size ≤ r) (b3 : wb.heap.size ≤ a6) (b4 : wb.heap.size ≤ a9) (hk : Kp [] wb wx) (hR : ∀ w' c', QAt w' c' st9 st9 → Src wb [] c' → Kp [] wb w' → R (.agg c'.toArray) w') :
    stn 4 (.pointer (some ⟨x, 0, none⟩)) (.agg (q4 a6 a9).toArray) wx fun w => ldn 4 (.pointer (some ⟨x, 0, none⟩)) w fun t11 => ldn 4 (.pointer (some ⟨x, 0, none⟩)) w fun t12 =>
      bld [(0, 4), (4, 4)] (zc Tryz.prog 39) #[(0, t11), (1, t12)] fun t13 => stn 8 (.pointer (some ⟨r, 0, none⟩)) t13 w fun w => qG Tryz.prog (do loadVar 39 (← asAddr (.pointer (some ⟨r, 0, none⟩)))) w fun v => R v w := by
  rw [stA (k := 4) hx (by rw [zcSt]; rfl) rfl (by simpa using q4_one a6 a9)]
  generalize hw1 : setBlk wx x _ = w1
  have hx1 : w1.heap[x]? = some (.cells (q4 a6 a9).toArray 37) := by rw [← hw1]; exact heap_self (live_of hx)
  have k1 : Kp [x] wx w1 := by rw [← hw1]; exact (Kp.refl _ _).setBlk (.inl (by simp)) _
  rw [ldA (k := 4) hx1 rfl, ldA (k := 4) hx1 rfl]
  rw [bldQ (c1 := q4 a6 a9) (c2 := q4 a6 a9) rfl rfl]
  have hr1 := k1.get hr (by simp; exact fun h => hxr h.symm)
  have l8 : (q4 a6 a9 ++ q4 a6 a9).length = 8 := rfl
  have o8 : (q4 a6 a9 ++ q4 a6 a9).all Q.one = true := by rw [List.all_append, q4_one]; rfl
  refine ret8 (c := q4 a6 a9 ++ q4 a6 a9) hr1 l8 o8 ?_
  intro w2 k2
  have k01 : Kp [x, r] wx w2 := (k1.mono fun y hy _ => by simp at hy; simp [hy]).trans' (k2.mono fun y hy _ => by simp at hy; simp [hy])
  have k02 : Kp [] wb w2 := hk.trans k01 fun y hy hlt => by simp at hy; omega
  have hst : StAt w2 (q4 a6 a9) st9 := by
    refine ⟨_, _, _, rfl, rd_made (T := 4) ?_ (by intro y hy; obtain ⟨z, _, rfl⟩ := List.mem_map.1 hy; rfl) rfl, rd_made (T := 9) ?_ (by intro y hy; obtain ⟨z, _, rfl⟩ := List.mem_map.1 hy; rfl) rfl, rd_nil⟩
    · have := k01.get h6 (by simp; exact ⟨n1, n2⟩)
      rw [cB_eq] at this; exact this
    · have := k01.get h9 (by simp; exact ⟨n3, n4⟩)
      rw [cS_eq] at this; exact this
  refine hR w2 _ ⟨_, _, rfl, hst, hst⟩ (fun v hv => ?_) k02
  simp only [q4, List.mem_append, or_self, List.mem_cons, List.not_mem_nil, or_false] at hv
  rcases hv with rfl | rfl | rfl | rfl
  · refine .inr fun bl o f n cap e hn => ?_
    injection e with e
    injection e with e
    injection e with e
    omega
  · refine .inr fun bl o f n cap e hn => ?_
    injection e with e
    injection e with e
    injection e with e
    omega
  · exact .inr fun bl o f n cap e => by cases e
  · exact oldV_int
end
end Go.Proofs

/- Layer 13: the document's New, whole. -/
set_option maxRecDepth 100000
set_option linter.unusedVariables false
set_option linter.unusedSimpArgs false
namespace Go.Proofs
open Go Go.Q
section
variable {w w' : World} {R : Value → World → Prop}
theorem drewS (w : World) : w.drew.heap.size = w.heap.size := rfl
theorem mkB {w : World} {K : Value → World → Prop} (hK : K (.slice (some ⟨w.heap.size, 0, none⟩) 10 10) (w.alloc (.cells cB 4))) : mkG 4 1 1 (zc Tryz.prog 4) (.int .i64 10) (.int .i64 10) w K := ⟨by decide, hK⟩
theorem mkS {w : World} {K : Value → World → Prop} (hK : K (.slice (some ⟨w.heap.size, 0, none⟩) 10 10) (w.alloc (.cells cS 9))) : mkG 9 1 16 (zc Tryz.prog 9) (.int .i64 10) (.int .i64 10) w K := ⟨by decide, hK⟩
theorem new_ref (hR : ∀ w' c', QAt w' c' st9 st9 → Src w [] c' → Kp [] w w' → R (.agg c'.toArray) w') : callG Tryz.prog 8 #[.int .i64 9] w R := by
  refine ref13_New_call ?_
  unfold ref13_New ref13_New_s0
  have e1 : IntKind.i64.wrap (9 + 1) = 10 := by rfl
  simp only [newG_k, bq_add, stb_add, e1, true_and]
  refine ⟨mkB ⟨mkS ?_, mkS ?_⟩, mkS ⟨mkB ?_, mkB ?_⟩, ⟨mkB (mkS ?_), mkS (mkB ?_)⟩⟩
  all_goals rw [bldSt rfl rfl]
  all_goals refine new_tail (wb := w) ?_ ?_ ?_ ?_ ?_ ?_ ?_ ?_ ?_ ?_ ?_ ?_ ?_ ?_ hR
  all_goals first
    | exact ((((Kp.refl _ _).alloc _).drew.alloc _).alloc _).alloc _
    | exact Nat.le_refl _
    | (simp only [World.size_alloc, drewS]; omega)
    | (simp only [heap_drew, heap_alloc, World.size_alloc, drewS]; (repeat (first | rw [if_pos (by first | trivial | omega)] | rw [if_neg (by omega)])); done)
    | (simp only [heap_drew, heap_alloc, World.size_alloc, drewS]; (repeat (first | rw [if_pos (by first | trivial | omega)] | rw [if_neg (by omega)])); rfl)
    | trace_state
end
end Go.Proofs

/- A key is taken out of a map of texts to numbers. -/
set_option linter.unusedVariables false
set_option linter.unusedSimpArgs false
namespace Go.Q
open Go.MapKept
section
variable {P : Program} {T kt et : TypeId} {w : World} {n : Nat} {N : List (List UInt8 × Int)} {k : List UInt8}
theorem SMap.drop (ht : SMapT P T kt et) (h : SMap w n N) {t2 ty : TypeId} {K : Value → World → Prop} (hK : ∀ w', SMap w' n (dropN N k) → Kp [n] w w' → K (.tuple #[]) w') : eG P (Builtin.delete_ #[T, t2] ty #[.map (some n), .string (str k)]) w K := by
  obtain ⟨m, c, h1, h2⟩ := h
  have hgo := Go.MapKept.run_getObj_map (P := P) h1.blk
  have hso := fun o => Go.MapKept.run_setObj_map (P := P) o h1.blk
  have hc := fun e n => run_checkKey (P := P) (w := w) ht.hk (isKey_s k) e n
  have hlv := lt_of_blk h1.blk
  rcases find_spec m k with ⟨g1, g2⟩ | ⟨j, hj, g1, g2⟩
  · have hf : (Instr.findKey kt (.string (str k)) (m.map SE.ent).toArray.toList).run P w = .ok none w := run_findKey ht.hk g1
    refine eG_of (v := .tuple #[]) (w' := setBlk w n (.map (m.map SE.ent).toArray c)) ?_ (hK _ ⟨m, c, ⟨heap_self (live_of h1.blk), h1.nb, h1.old, h1.nk⟩, ?_⟩ ((Kp.refl _ w).setBlk (.inl (by simp)) _))
    · simp [Builtin.delete_, Sem.run_bind, run_underlying ht.hm, hgo, hc, hf, hso, Result.andThen]
      rfl
    · have hfl : N.filter (fun x => decide (x.1 ≠ k)) = N := by
        rw [List.filter_eq_self]
        intro x hx
        obtain ⟨e, he, hex⟩ := List.mem_map.1 (h2.mem_iff.2 hx)
        rw [← hex, decide_eq_true_eq]
        exact g2 e he
      unfold dropN
      rw [hfl]
      exact h2
  · have hf : (Instr.findKey kt (.string (str k)) (m.map SE.ent).toArray.toList).run P w = .ok (some (j, .int .i64 m[j].v)) w := run_findKey ht.hk g1
    have hm : m = m.take j ++ m[j] :: m.drop (j + 1) := by rw [← List.drop_eq_getElem_cons hj, List.take_append_drop]
    have hsub : (m.take j ++ m.drop (j + 1)).Sublist m := by
      conv => rhs; rw [hm]
      exact List.Sublist.append (List.Sublist.refl _) (List.sublist_cons_self _ _)
    refine eG_of (v := .tuple #[]) (w' := setBlk w n (.map ((m.map SE.ent).toArray.eraseIdxIfInBounds j) c)) ?_ (hK _ ⟨m.take j ++ m.drop (j + 1), c, ⟨?_, ?_, ?_, ?_⟩, ?_⟩ ((Kp.refl _ w).setBlk (.inl (by simp)) _))
    · simp [Builtin.delete_, Sem.run_bind, run_underlying ht.hm, hgo, hc, hf, hso, Result.andThen]
      rfl
    · rw [heap_self (live_of h1.blk)]
      congr 2
      apply Array.toList_inj.1
      rw [Array.toList_eraseIdxIfInBounds]
      simp [List.eraseIdx_eq_take_drop_succ, List.map_take, List.map_drop]
    · exact h1.nb.sublist (hsub.map _)
    · intro e he
      exact h1.old e (hsub.mem he)
    · exact h1.nk.sublist (hsub.map _)
    · have hnk := h1.nk
      rw [hm, List.map_append, List.map_cons, List.nodup_append] at hnk
      obtain ⟨_, q2, q3⟩ := hnk
      rw [List.nodup_cons] at q2
      have hA : ∀ e ∈ m.take j, e.k ≠ k := fun e he hk => q3 _ (List.mem_map.2 ⟨e, he, rfl⟩) m[j].k List.mem_cons_self (hk.trans g2.symm)
      have hB : ∀ e ∈ m.drop (j + 1), e.k ≠ k := fun e he hk => q2.1 (List.mem_map.2 ⟨e, he, hk.trans g2.symm⟩)
      have hf : ((m.map SE.kv).filter fun x => decide (x.1 ≠ k)) = (m.take j).map SE.kv ++ (m.drop (j + 1)).map SE.kv := by
        conv => lhs; rw [hm]
        rw [List.map_append, List.map_cons, List.filter_append, List.filter_cons_of_neg (by simp [SE.kv, g2])]
        congr 1
        · rw [List.filter_eq_self]; intro x hx; obtain ⟨e, he, rfl⟩ := List.mem_map.1 hx; rw [decide_eq_true_eq]; exact hA e he
        · rw [List.filter_eq_self]; intro x hx; obtain ⟨e, he, rfl⟩ := List.mem_map.1 hx; rw [decide_eq_true_eq]; exact hB e he
      rw [List.map_append, ← hf]
      unfold dropN
      exact h2.filter _
end
end Go.Q

/- Layer 13: a name is forgotten; what was done is taken back. -/
set_option maxRecDepth 100000
set_option linter.unusedVariables false
set_option linter.unusedSimpArgs false
namespace Go.Proofs
open Go Go.Q
def SP.forget (s : SP) (nm : List UInt8) : SP × Int := if (getN s.nn nm).isSome = false then (s, 3) else ({ s with nn := dropN s.nn nm }, 0)
def SP.rollback (s : SP) : SP := { s with nu := s.su, nn := s.sn }
section
variable {w w' : World} {b bd : Nat} {s : SP} {Sd X : List Nat} {ms mn : Nat} {R : Value → World → Prop}
theorem forget_sp (h : SpX w b bd s X) (nm : List UInt8) (hR : ∀ w', SpGo w X b bd (s.forget nm).1 w' → R (.int .i64 (s.forget nm).2) w') :
    callG Tryz.prog 35 #[.pointer (some ⟨b, 0, none⟩), .string (str nm)] w R := by
  have hX := h
  obtain ⟨Sd, ms, mn, rfl, h⟩ := h
  refine space_Space_Forget_call ?_
  unfold space_Space_Forget space_Space_Forget_s0
  refine given_sp h ?_
  simp only [un_not, bV_b]
  refine ⟨fun hh => by simp at hh, fun _ => ?_⟩
  have hld : ∀ K : Value → Prop, ld1 (.pointer (some ⟨b, 0 + 68 + 63, none⟩)) w K = K (.map (some mn)) := fun K => h.ldmn (by rfl)
  unfold SP.forget at hR
  rw [nk_p, fa_p, fa_p, hld]
  refine h.mN.get2 mapT ?_
  rw [ex0, ex1]
  simp only [un_not, bV_b]
  refine ⟨fun hn => ?_, fun hn => ?_⟩
  · rw [if_pos (by simpa using hn)] at hR
    exact hR w (hX.stay (Kp.refl _ _))
  · have hn : (getN s.nn nm).isSome = true := by simpa using hn
    rw [if_neg (by rw [hn]; simp)] at hR
    rw [nk_p, fa_p, fa_p, hld]
    refine h.mN.drop mapT fun w2 hM k2 => ?_
    exact hR w2 (h.go (h.set_nn hM k2) (k2.mono fun x hx _ => by simp at hx; simp [hx]) (.inl rfl) (.inl rfl) fun x hx => .inl hx)
theorem rollback_sp (h : SpX w b bd s X) (hR : ∀ w', SpGo w X b bd s.rollback w' → R (.int .i64 0) w') :
    callG Tryz.prog 38 #[.pointer (some ⟨b, 0, none⟩)] w R := by
  obtain ⟨Sd, ms, mn, rfl, h⟩ := h
  refine space_Space_Rollback_call ?_
  unfold space_Space_Rollback space_Space_Rollback_s0
  refine given_sp h ?_
  simp only [un_not, bV_b]
  refine ⟨fun hh => by simp at hh, fun _ => ?_⟩
  rw [nk_p, fa_p, opC_sure h.cellO h.lsu]
  refine copied_spec h.lsu h.mS fun w2 m' hm' hM2 k2 => ?_
  have h2 := h.keep0 k2
  have lts := h.lts
  rw [nk_p, fa_p, opC_now h2.cellO h.lsu h.lnu h.lsu]
  generalize hw3 : setBlk w2 b (.cells (opC bd s.from_ s.pages ⟨s.turn, s.su, s.sn⟩ ms s.su (some m')) 59) = w3
  have hb3 : w3.heap[b]? = some (.cells (opC bd s.from_ s.pages ⟨s.turn, s.su, s.sn⟩ ms s.su (some m')) 59) := by rw [← hw3]; exact heap_self (live_of h2.cellO)
  have k3 : Kp [b] w2 w3 := by rw [← hw3]; exact (Kp.refl _ _).setBlk (.inl (by simp)) _
  obtain ⟨a1, a2, a3, a4, a5, a6⟩ := h2.apart
  have nb : ∀ x ∈ b :: ms :: mn :: Sd, x ≠ m' := fun x hx => by have := lts x hx; omega
  have hend : SpAt w3 b bd s.rollback Sd ms m' := by
    refine ⟨hb3, h2.disk.keep k3 (fun x hx hm => a3 (by simp at hm; rw [← hm]; exact hx)), h2.mS.keep k3 (by simp; exact fun hh => a1 hh.symm), hM2.keep k3 (by simp; exact fun hh => nb b (by simp) hh.symm), h.lsu, h.lsu, ?_, h.fit, h.most, h.tn⟩
    simp only [List.nodup_cons, List.mem_cons, not_or]
    exact ⟨⟨a1, nb b (by simp), a3⟩, ⟨nb ms (by simp), a5⟩, fun hh => nb m' (by simp [hh]) rfl, h.disk.nodup⟩
  refine hR w3 (h.go hend ((k2.mono (S' := b :: ms :: mn :: Sd) (by simp)).trans' (k3.mono fun x hx _ => by simp at hx; simp [hx])) (.inl rfl) (.inr hm') fun x hx => .inl hx)
end
end Go.Proofs

/- Layer 13: is a space as a state says? -/
set_option maxRecDepth 100000
set_option linter.unusedVariables false
set_option linter.unusedSimpArgs false
namespace Go.Proofs
open Go Go.Q
/-- a space is as a state says; 'qs' is what was committed -/
structure Same (s : SP) (q qs : St) : Prop where
  used : ∀ n : Int, rIn q n = inN13 s n
  sure : ∀ n : Int, rIn q n = true → rIn qs n = hasU s.su n
  byt : ∀ n : Nat, inN13 s (n : Nat) = true → pgs s.d.now (s.from_ + 8 * (n + 2)) = q.bs.getD n []
  perm : q.ns.Perm s.nn
  keys : KeyS q.ns
  turn : q.t = s.turn
  ul : q.us.length = s.pages + 1
  bl : q.bs.length = s.pages + 1
theorem Same.count {s : SP} {q qs : St} (h : Same s q qs) : usedC s.nu s.pages = cntL q.us (q.us.length - 1) := by
  rw [h.ul, Nat.add_sub_cancel]
  unfold usedC cntL
  congr 1
  apply List.filter_congr
  intro k hk
  simp at hk
  have h1 := h.used ((k : Nat) + 1 : Int)
  unfold rIn inN13 at h1
  have hl := h.ul
  have e : ((k : Int) + 1).toNat = k + 1 := by omega
  rw [e] at h1
  rw [decide_eq_decide] at h1
  cases hu : hasU s.nu ((k : Nat) + 1 : Int) <;> cases hq : q.us.getD (k + 1) false
  · rfl
  · rw [hu, hq] at h1
    have := h1.1 ⟨by omega, by omega, rfl⟩
    simp at this
  · rw [hu, hq] at h1
    have := h1.2 ⟨by omega, rfl⟩
    simp at this
  · rfl
end Go.Proofs

/- Layer 13: what a disk with a fuse holds; what lies on it whatever the power does (no program in sight). -/
set_option maxRecDepth 100000
set_option linter.unusedVariables false
set_option linter.unusedSimpArgs false
namespace Go.Proofs
open Go Go.Q
theorem burns_F (d : DK) (h : d.off = false) : (d.burns.2 = true ∧ d.burns.1.off = false) ∨ (d.burns.2 = false ∧ d.burns.1.off = true) := by
  unfold DK.burns
  split
  · exact .inr ⟨rfl, rfl⟩
  · exact .inl ⟨rfl, h⟩
theorem applyAll_out : ∀ {E : List (Nat × List UInt8)} {L : List (List UInt8)} {i : Nat}, (∀ x ∈ E, x.1 ≠ i) → sec (applyAll L E) i = sec L i
  | [], L, i, _ => rfl
  | x :: E, L, i, h => by
    show sec (applyAll (L.set x.1 x.2) E) i = _
    rw [applyAll_out fun y hy => h y (by simp [hy])]
    unfold sec
    simp only [List.getD]
    rw [List.getElem?_set_ne (h x (by simp))]
theorem applyAll_app (L : List (List UInt8)) (a b : List (Nat × List UInt8)) : applyAll L (a ++ b) = applyAll (applyAll L a) b := by simp [applyAll]
/-- what writes leave, fuse or not -/
structure WroteF (d : DK) (r : DK × Int) (a n : Nat) (t : List UInt8) : Prop where
  sure : r.1.sure = d.sure
  len : r.1.now.length = d.now.length
  log : ∃ E : List (Nat × List UInt8), r.1.l = d.l ++ E ∧ E.length ≤ n ∧ (∀ x ∈ E, a ≤ x.1 ∧ x.1 < a + n ∧ x.2.length = 32) ∧ r.1.now = applyAll d.now E
  code : (r.2 = 0 ∧ r.1.off = false ∧ ∀ k, k < n → sec r.1.now (a + k) = (t.drop (32 * k)).take 32) ∨ (r.2 = 30 ∧ r.1.off = true)
theorem WroteF.out {d : DK} {r : DK × Int} {a n : Nat} {t : List UInt8} (h : WroteF d r a n t) {i : Nat} (hi : i < a ∨ a + n ≤ i) : sec r.1.now i = sec d.now i := by
  obtain ⟨E, h1, h2, h3, h4⟩ := h.log
  rw [h4]
  exact applyAll_out fun x hx => by have := h3 x hx; omega
theorem wrs_F : ∀ (n : Nat) {d : DK} (h : d.off = false) {a : Nat} (ha : a + n ≤ d.now.length) {t : List UInt8} (ht : t.length = 32 * n), WroteF d (wrs n d a t) a n t
  | 0, d, h, a, ha, t, ht => ⟨rfl, rfl, ⟨[], by simp [wrs], by simp, by simp, rfl⟩, .inl ⟨rfl, h, fun k hk => by omega⟩⟩
  | n + 1, d, h, a, ha, t, ht => by
    have ha1 : a < d.now.length := by omega
    have ht1 : (t.take 32).length = 32 := by rw [List.length_take]; omega
    have hb := d.burns_now
    have he : wrs (n + 1) d a t = if (d.write (a : Nat) (t.take 32)).2 ≠ 0 then d.write (a : Nat) (t.take 32) else wrs n (d.write (a : Nat) (t.take 32)).1 (a + 1) (t.drop 32) := rfl
    rw [he]
    rcases burns_F d h with ⟨b1, b2⟩ | ⟨b1, b2⟩
    · have hw : d.write (a : Nat) (t.take 32) = ({ d.burns.1 with now := d.now.set a (t.take 32), l := d.l ++ [(a, t.take 32)] }, 0) := by
        unfold DK.write
        rw [if_pos ⟨by omega, ht1⟩, if_pos b1, Int.toNat_natCast]
      rw [hw, if_neg (by simp)]
      obtain ⟨g1, g2, ⟨E, e1, e2, e3, e4⟩, g4⟩ := wrs_F n (d := { d.burns.1 with now := d.now.set a (t.take 32), l := d.l ++ [(a, t.take 32)] }) b2 (a := a + 1) (t := t.drop 32) (by simp; omega) (by rw [List.length_drop]; omega)
      refine ⟨g1.trans hb.2.2, g2.trans (by simp), ⟨(a, t.take 32) :: E, by rw [e1]; simp, by simp; omega, fun x hx => ?_, ?_⟩, ?_⟩
      · rcases List.mem_cons.1 hx with rfl | hx
        · exact ⟨Nat.le_refl _, by omega, ht1⟩
        · have := e3 x hx; omega
      · rw [e4]; rfl
      · rcases g4 with ⟨c1, c2, c3⟩ | c
        · refine .inl ⟨c1, c2, fun k hk => ?_⟩
          cases k with
          | zero =>
            rw [e4, Nat.add_zero, applyAll_out fun x hx => by have := e3 x hx; omega]
            show sec (d.now.set a (t.take 32)) a = _
            rw [sec_set ha1, if_pos rfl]; simp
          | succ k =>
            have := c3 k (by omega)
            rw [show a + (k + 1) = a + 1 + k by omega, this, List.drop_drop]
            congr 2; omega
        · exact .inr c
    · have hw : d.write (a : Nat) (t.take 32) = (d.burns.1, 30) := by
        unfold DK.write
        rw [if_pos ⟨by omega, ht1⟩, if_neg (by rw [b1]; simp)]
      rw [hw, if_pos (by simp)]
      exact ⟨hb.2.2, by rw [hb.1], ⟨[], by rw [hb.2.1]; simp, by simp, by simp, hb.1⟩, .inr ⟨rfl, b2⟩⟩
theorem flush_F {d : DK} (h : d.off = false) : (d.flush.2 = 0 ∧ d.flush.1.off = false ∧ d.flush.1.sure = applyAll d.sure d.l ∧ d.flush.1.l = [] ∧ d.flush.1.now = d.now) ∨ (d.flush.2 = 30 ∧ d.flush.1.off = true ∧ d.flush.1.sure = d.sure ∧ d.flush.1.l = d.l ∧ d.flush.1.now = d.now) := by
  have hb := d.burns_now
  unfold DK.flush
  rcases burns_F d h with ⟨b1, b2⟩ | ⟨b1, b2⟩
  · rw [if_pos b1]
    exact .inl ⟨rfl, b2, rfl, rfl, hb.1⟩
  · rw [if_neg (by rw [b1]; simp)]
    exact .inr ⟨rfl, b2, hb.2.2, hb.2.1, hb.1⟩
/-! ### heads -/
def oldB (t : Nat) : List UInt8 := if t ≤ 1 then nought else headB (t - 1) 9
def mixB (t m : Nat) : List UInt8 := (headB (t + 1) 9).take m ++ (oldB t).drop m
def ownB (t : Nat) : List UInt8 := if t = 0 then nought else headB t 9
def mixOk (t m : Nat) : Bool := decide (mixB t m = oldB t) || (decide (mixB t m = headB (t + 1) 9) || !decide (mixB t m = headB (takeN (mixB t m) 4 / 4096) 9))
theorem mix_all : ((List.range 51).all fun t => (List.range 33).all fun m => mixOk t m) = true := by kernel_rfl
theorem oldB_len (t : Nat) : (oldB t).length = 32 := by
  unfold oldB
  split
  · rfl
  · exact headB_len _ _
theorem mixB_len {t m : Nat} (hm : m ≤ 32) : (mixB t m).length = 32 := by
  unfold mixB
  rw [List.length_append, List.length_take, List.length_drop, headB_len, oldB_len]; omega
theorem head_inj {t t' : Nat} (h1 : t ≤ 1048575) (h2 : t' ≤ 1048575) (h : headB t 9 = headB t' 9) : t = t' := by
  have e1 := take_head (t := t) (pages := 9) h1 (by omega)
  have e2 := take_head (t := t') (pages := 9) h2 (by omega)
  rw [h, e2] at e1
  omega
theorem nought_not {t : Nat} (h1 : 1 ≤ t) (h2 : t ≤ 1048575) : nought ≠ headB t 9 := fun h => by
  have e1 := take_head (t := t) (pages := 9) h2 (by omega)
  rw [← h] at e1
  have : takeN nought 4 = 0 := by decide
  omega
theorem mix_head {t m : Nat} (ht : t ≤ 50) (hm : m ≤ 32) (hn : mixB t m ≠ headB (t + 1) 9) {t' : Nat} (h1 : 1 ≤ t') (h2 : t' ≤ 1048575) (h : mixB t m = headB t' 9) : t' < t := by
  have ha := mix_all
  rw [List.all_eq_true] at ha
  have hb := ha t (by simp; omega)
  rw [List.all_eq_true] at hb
  have hc := hb m (by simp; omega)
  unfold mixOk at hc
  simp only [Bool.or_eq_true, decide_eq_true_eq, Bool.not_eq_true', decide_eq_false_iff_not] at hc
  rcases hc with hc | hc | hc
  · rw [hc] at h
    unfold oldB at h
    split at h
    · exact absurd h (nought_not h1 h2)
    · have := head_inj (by omega) h2 h
      omega
  · exact absurd hc hn
  · exfalso
    apply hc
    rw [h, take_head h2 (by omega)]
    congr 1
    omega
/-- a torn write of the next head -/
theorem mix_mix (t : Nat) {m k : Nat} (hm : m ≤ 32) (hk : k ≤ 32) : (headB (t + 1) 9).take k ++ (mixB t m).drop k = mixB t (max k m) := by
  unfold mixB
  have l1 := headB_len (t + 1) 9
  have l2 := oldB_len t
  rw [List.drop_append, List.length_take, l1, List.drop_drop, ← List.append_assoc]
  by_cases h : k ≤ m
  · rw [show max k m = m by omega, show min m 32 = m by omega, show m + (k - m) = m by omega]
    congr 1
    have : (headB (t + 1) 9).take m = ((headB (t + 1) 9).take m).take k ++ ((headB (t + 1) 9).take m).drop k := (List.take_append_drop _ _).symm
    rw [List.take_take, show min k m = k by omega] at this
    exact this.symm
  · rw [show max k m = k by omega, show min m 32 = m by omega, show m + (k - m) = k by omega]
    have : ((headB (t + 1) 9).take m).drop k = [] := by rw [List.drop_eq_nil_iff, List.length_take]; omega
    rw [this, List.append_nil]
/-! ### what a disk keeps -/
structure Keeps (L : List (List UInt8)) (t : Nat) (u : List UInt8) (ns : List (List UInt8 × Int)) (bs : List (List UInt8)) : Prop where
  len : L.length = 100
  sz : ∀ x ∈ L, x.length = 32
  lu : u.length = 63
  zero : t = 0 → u = z63 ∧ ns = []
  own : sec L (3 + t % 2) = ownB t
  mp : 1 ≤ t → pgs L (3 + 8 * (1 + t % 2)) = bytesP (lay 200 (stL u ns))
  other : ∃ m, m ≤ 32 ∧ sec L (3 + (t + 1) % 2) = mixB t m ∧ mixB t m ≠ headB (t + 1) 9
  pg : ∀ n : Nat, n ≤ 9 → hasU u (n : Int) = true → pgs L (3 + 8 * (n + 2)) = bs.getD n []
  fine : Fine ns
  ks : KeyS ns
/-- sectors that must stay -/
def Prot (t : Nat) (u : List UInt8) (i : Nat) : Prop := i = 3 ∨ i = 4 ∨ (3 + 8 * (1 + t % 2) ≤ i ∧ i < 3 + 8 * (1 + t % 2) + 8) ∨ ∃ n : Nat, 1 ≤ n ∧ n ≤ 9 ∧ hasU u (n : Int) = true ∧ 3 + 8 * (n + 2) ≤ i ∧ i < 3 + 8 * (n + 2) + 8
theorem hasU_pos {u : List UInt8} {n : Int} (h : hasU u n = true) : 1 ≤ n := by
  unfold hasU at h
  simp only [decide_eq_true_eq] at h
  exact h.1
theorem Keeps.congr {L M : List (List UInt8)} {t : Nat} {u : List UInt8} {ns : List (List UInt8 × Int)} {bs : List (List UInt8)} (h : Keeps L t u ns bs) (hl : M.length = 100) (hz : ∀ x ∈ M, x.length = 32) (hs : ∀ i, Prot t u i → sec M i = sec L i) : Keeps M t u ns bs := by
  have hL := h.len
  obtain ⟨m, m1, m2, m3⟩ := h.other
  refine ⟨hl, hz, h.lu, h.zero, ?_, fun ht => ?_, ⟨m, m1, ?_, m3⟩, fun n hn hu => ?_, h.fine, h.ks⟩
  · rw [hs _ (by unfold Prot; omega)]; exact h.own
  · rw [← h.mp ht]
    exact pgs_congr (by omega) (by omega) fun i h1 h2 => hs i (.inr (.inr (.inl ⟨h1, h2⟩)))
  · rw [hs _ (by unfold Prot; omega)]; exact m2
  · rw [← h.pg n hn hu]
    have := hasU_pos hu
    exact pgs_congr (by omega) (by omega) fun i h1 h2 => hs i (.inr (.inr (.inr ⟨n, by omega, hn, hu, h1, h2⟩)))
end Go.Proofs

/- Layer 13: a space and the document's go side by side: each call (no program in sight). -/
set_option maxRecDepth 100000
set_option linter.unusedVariables false
set_option linter.unusedSimpArgs false
namespace Go.Proofs
open Go Go.Q
/-! ### names -/
def insN (nm : List UInt8) (n : Int) : List (List UInt8 × Int) → List (List UInt8 × Int)
  | [] => [(nm, n)]
  | x :: l => if geN x.1 nm = true then (nm, n) :: (x :: l).filter fun y => decide (y.1 ≠ nm) else x :: insN nm n l
theorem insN_cons (nm : List UInt8) (n : Int) (x : List UInt8 × Int) (l : List (List UInt8 × Int)) : insN nm n (x :: l) = if geN x.1 nm = true then (nm, n) :: (x :: l).filter fun y => decide (y.1 ≠ nm) else x :: insN nm n l := rfl
theorem cAll_true (nm : List UInt8) (n : Int) : ∀ (l out : List (List UInt8 × Int)), l.foldl (cStep nm n) (out, true) = (out ++ l.filter fun y => decide (y.1 ≠ nm), true)
  | [], out => by simp
  | x :: l, out => by
    rw [List.foldl_cons]
    have : cStep nm n (out, true) x = (out ++ if x.1 ≠ nm then [x] else [], true) := by simp [cStep]
    rw [this, cAll_true nm n l]
    by_cases h : x.1 = nm
    · simp [h]
    · simp [h]
theorem geN_not {x nm : List UInt8} (h : geN x nm = false) : lexL x nm = true := by
  unfold geN at h
  simpa using h
theorem cOut_ins (nm : List UInt8) (n : Int) (l : List (List UInt8 × Int)) : cOut nm n l = insN nm n l := by
  have key : ∀ (l out : List (List UInt8 × Int)), (l.foldl (cStep nm n) (out, false)).1 ++ (if (l.foldl (cStep nm n) (out, false)).2 = true then [] else [(nm, n)]) = out ++ insN nm n l := by
    intro l
    induction l with
    | nil => intro out; simp [insN]
    | cons x l ih =>
      intro out
      rw [List.foldl_cons]
      by_cases hg : geN x.1 nm = true
      · have : cStep nm n (out, false) x = (out ++ [(nm, n)] ++ if x.1 ≠ nm then [x] else [], true) := by simp [cStep, hg]
        rw [this, cAll_true, insN_cons, if_pos hg]
        by_cases h : x.1 = nm
        · simp [h]
        · simp [h]
      · have hg : geN x.1 nm = false := by simpa using hg
        have hne : x.1 ≠ nm := lexL_ne (geN_not hg)
        have : cStep nm n (out, false) x = (out ++ [x], false) := by simp [cStep, hg, hne]
        rw [this, ih, insN_cons, if_neg (by rw [hg]; simp)]
        simp
  have := key l []
  rw [List.nil_append] at this
  exact this
theorem insN_perm (nm : List UInt8) (n : Int) : ∀ l : List (List UInt8 × Int), (insN nm n l).Perm (putN l nm n)
  | [] => by simp [insN, putN]
  | x :: l => by
    unfold insN
    split
    · exact List.Perm.refl _
    · rename_i hg
      have hg : geN x.1 nm = false := by simpa using hg
      have hne : x.1 ≠ nm := lexL_ne (geN_not hg)
      have := (insN_perm nm n l).cons x
      refine this.trans ?_
      unfold putN
      rw [List.filter_cons_of_pos (by simpa using hne)]
      exact List.Perm.swap _ _ _
theorem insN_keys (nm : List UInt8) (n : Int) : ∀ l : List (List UInt8 × Int), KeyS l → KeyS (insN nm n l)
  | [], _ => by simp [insN, KeyS]
  | x :: l, h => by
    unfold KeyS at h
    rw [List.map_cons, List.pairwise_cons] at h
    unfold insN
    split
    · rename_i hg
      unfold KeyS
      rw [List.map_cons, List.pairwise_cons]
      have hs : KeyS (x :: l) := by unfold KeyS; rw [List.map_cons, List.pairwise_cons]; exact h
      refine ⟨fun a ha => ?_, ?_⟩
      · rw [List.mem_map] at ha
        obtain ⟨y, hy, rfl⟩ := ha
        rw [List.mem_filter] at hy
        have hne : y.1 ≠ nm := by simpa using hy.2
        have hxn : lexL x.1 nm = false := by unfold geN at hg; simpa using hg
        cases hcmp : lexL nm y.1 with
        | true => rfl
        | false =>
          exfalso
          have hyn : lexL y.1 nm = true := by
            cases hc : lexL y.1 nm with
            | true => rfl
            | false => exact absurd (lexL_tri hc hcmp) hne
          rcases List.mem_cons.1 hy.1 with rfl | hy'
          · rw [hyn] at hxn; exact Bool.noConfusion hxn
          · have h1 := h.1 y.1 (List.mem_map_of_mem hy')
            have h2 := lexL_trans h1 hyn
            rw [h2] at hxn; exact Bool.noConfusion hxn
      · unfold KeyS at hs
        exact hs.sublist (List.Sublist.map _ List.filter_sublist)
    · rename_i hg
      have hg : geN x.1 nm = false := by simpa using hg
      unfold KeyS
      rw [List.map_cons, List.pairwise_cons]
      refine ⟨fun a ha => ?_, insN_keys nm n l h.2⟩
      rw [List.mem_map] at ha
      obtain ⟨y, hy, rfl⟩ := ha
      have hy := (insN_perm nm n l).mem_iff.1 hy
      unfold putN at hy
      rcases List.mem_cons.1 hy with rfl | hy
      · exact geN_not hg
      · exact h.1 _ (List.mem_map_of_mem (List.mem_filter.1 hy).1)
theorem KeyS.nd {l : List (List UInt8 × Int)} (h : KeyS l) : (l.map (·.1)).Nodup := by
  rw [List.nodup_iff_pairwise_ne]
  exact List.Pairwise.imp (fun h => lexL_ne h) h
/-! ### the relation -/
structure Rel (s : SP) (qs qn : St) (k : Nat) : Prop where
  fr : s.from_ = 3
  pg : s.pages = 9
  on : s.d.off = false
  lnu : s.nu.length = 63
  usS : ∀ n : Int, rIn qs n = (decide (n ≤ 9) && hasU s.su n)
  usN : ∀ n : Int, rIn qn n = (decide (n ≤ 9) && hasU s.nu n)
  okS : qs.us.length = 10 ∧ qs.bs.length = 10
  okN : qn.us.length = 10 ∧ qn.bs.length = 10
  pS : qs.ns.Perm s.sn
  pN : qn.ns.Perm s.nn
  kN : KeyS qn.ns
  fN : Fine s.nn
  tS : qs.t = s.turn
  tN : qn.t = s.turn
  tk : s.turn ≤ k
  byt : ∀ n : Nat, n ≤ 9 → hasU s.nu (n : Int) = true → pgs s.d.now (3 + 8 * (n + 2)) = qn.bs.getD n []
  flow : s.d.now = applyAll s.d.sure s.d.l
  keeps : Keeps s.d.sure s.turn s.su qs.ns qs.bs
  log : ∀ x ∈ s.d.l, ¬ Prot s.turn s.su x.1 ∧ x.1 < 100 ∧ x.2.length = 32
  few : s.d.l.length ≤ 100 * k
section
variable {s : SP} {qs qn : St} {k : Nat}
theorem Rel.inN (h : Rel s qs qn k) (n : Int) : inN13 s n = rIn qn n := by
  rw [h.usN]
  unfold inN13
  rw [h.pg]
  cases hasU s.nu n <;> simp
theorem Rel.same (h : Rel s qs qn k) : Same s qn qs := by
  refine ⟨fun n => (h.inN n).symm, fun n hn => ?_, fun n hn => ?_, h.pN, h.kN, h.tN, by rw [h.okN.1, h.pg], by rw [h.okN.2, h.pg]⟩
  · rw [h.usN] at hn
    rw [h.usS]
    simp only [Bool.and_eq_true, decide_eq_true_eq] at hn
    rw [decide_eq_true hn.1]; rfl
  · rw [h.fr]
    rw [h.inN, h.usN] at hn
    simp only [Bool.and_eq_true, decide_eq_true_eq] at hn
    exact h.byt n (by omega) hn.2
theorem keeps_now {d : DK} {t : Nat} {u : List UInt8} {ns : List (List UInt8 × Int)} {bs : List (List UInt8)} (hk : Keeps d.sure t u ns bs) (hf : d.now = applyAll d.sure d.l) (hl : ∀ x ∈ d.l, ¬ Prot t u x.1 ∧ x.1 < 100 ∧ x.2.length = 32) : Keeps d.now t u ns bs := by
  have ho := applyAll_ok (n := 100) (l := d.l) (L := d.sure) hk.sz fun x hx => (hl x hx).2
  rw [← hf] at ho
  refine hk.congr (by rw [ho.2]; exact hk.len) ho.1 fun i hi => ?_
  rw [hf]
  exact applyAll_out fun x hx hh => (hl x hx).1 (by rw [hh]; exact hi)
theorem keeps_crash {d : DK} {t : Nat} {u : List UInt8} {ns : List (List UInt8 × Int)} {bs : List (List UInt8)} (hk : Keeps d.sure t u ns bs) (hl : ∀ x ∈ d.l, ¬ Prot t u x.1 ∧ x.1 < 100 ∧ x.2.length = 32) (ks : List Int) : Keeps (d.crash ks).now t u ns bs := by
  have ho := crashL_ok (n := 100) (l := d.l) (ks := ks) (L := d.sure) hk.sz hk.len fun x hx => (hl x hx).2
  exact hk.congr ho.2 ho.1 fun i hi => crash_out fun x hx hh => (hl x hx).1 (by rw [hh]; exact hi)
theorem Rel.more (h : Rel s qs qn k) : Rel s qs qn (k + 1) :=
  ⟨h.fr, h.pg, h.on, h.lnu, h.usS, h.usN, h.okS, h.okN, h.pS, h.pN, h.kN, h.fN, h.tS, h.tN, by have := h.tk; omega, h.byt, h.flow, h.keeps, h.log, by have := h.few; omega⟩
theorem Rel.back (h : Rel s qs qn k) : Rel s.rollback qs qs (k + 1) :=
  ⟨h.fr, h.pg, h.on, h.keeps.lu, h.usS, h.usS, h.okS, h.okS, h.pS, h.pS, h.keeps.ks, h.keeps.fine.perm h.pS.symm, h.tS, h.tS, by have := h.tk; show s.turn ≤ _; omega, (keeps_now h.keeps h.flow h.log).pg, h.flow, h.keeps, h.log, by have := h.few; show s.d.l.length ≤ _; omega⟩
/-- what an open makes of a disk that keeps something -/
def openS (d : DK) (t : Nat) (u : List UInt8) (N : List (List UInt8 × Int)) : SP := ⟨d, 3, 9, t, u, u, N, N⟩
theorem rel_open {d : DK} {q : St} {t : Nat} {u : List UInt8} (ho : d.off = false) (hl : d.l = []) (hn : d.now = d.sure) (hk : Keeps d.now t u q.ns q.bs) (hq : q.t = t) (hu : ∀ n : Int, rIn q n = (decide (n ≤ 9) && hasU u n)) (hq1 : q.us.length = 10 ∧ q.bs.length = 10) (ht : t ≤ k) : Rel (openS d t u q.ns) q q k :=
  ⟨rfl, rfl, ho, hk.lu, hu, hu, hq1, hq1, List.Perm.refl _, List.Perm.refl _, hk.ks, hk.fine, hq, hq, ht, hk.pg, by show d.now = applyAll d.sure d.l; rw [hl, hn]; rfl, by rw [hn] at hk; exact hk, by show ∀ x ∈ d.l, _; rw [hl]; simp, by show d.l.length ≤ _; rw [hl]; simp⟩
/-! ### pages -/
theorem has_set10 {u : List UInt8} (hu : u.length = 63) {j : Nat} (h1 : 1 ≤ j) (h9 : j ≤ 9) (is : Bool) (n : Int) : hasU (setB u j is) n = if n = j then is else hasU u n := has_set hu (by omega) h1 is n
theorem rIn_set {q : St} (hq : q.us.length = 10) {j : Nat} (h1 : 1 ≤ j) (h9 : j ≤ 9) (is : Bool) (b : List UInt8) (n : Int) : rIn (q.set j is b) n = if n = j then is else rIn q n := by
  unfold rIn St.set
  simp only [List.length_set, hq]
  by_cases hn : n = (j : Int)
  · subst hn
    rw [if_pos rfl, Int.toNat_natCast]
    have : (q.us.set j is).getD j false = is := by simp only [List.getD]; rw [List.getElem?_set_self (by omega)]; rfl
    rw [this]
    cases is
    · simp
    · simp; omega
  · rw [if_neg hn]
    by_cases h : 1 ≤ n
    · have : (q.us.set j is).getD n.toNat false = q.us.getD n.toNat false := by
        simp only [List.getD]
        rw [List.getElem?_set_ne (by omega)]
      rw [this]
    · rw [decide_eq_false (by omega), decide_eq_false (by omega)]
theorem prot_not {t : Nat} {u : List UInt8} {n : Nat} (h1 : 1 ≤ n) (h9 : n ≤ 9) (hu : hasU u (n : Int) = false) {i : Nat} (hi : 3 + 8 * (n + 2) ≤ i) (hi2 : i < 3 + 8 * (n + 2) + 8) : ¬ Prot t u i := by
  unfold Prot
  rintro (h | h | h | ⟨m, m1, m9, hm, h, h'⟩)
  · omega
  · omega
  · omega
  · have : m = n := by omega
    subst this
    rw [hm] at hu
    exact Bool.noConfusion hu
theorem wr_flow {d : DK} {r : DK × Int} {a n : Nat} {t : List UInt8} (hf : d.now = applyAll d.sure d.l) (hr : WroteF d r a n t) : r.1.now = applyAll r.1.sure r.1.l := by
  obtain ⟨E, e1, e2, e3, e4⟩ := hr.log
  rw [e4, e1, hr.sure, applyAll_app, ← hf]
/-- a page that was not committed is written -/
theorem Rel.wr (h : Rel s qs qn k) {n : Nat} (h1 : 1 ≤ n) (h9 : n ≤ 9) (hu : hasU s.su (n : Int) = false) {t : List UInt8} {r : DK × Int} (hr : WroteF s.d r (3 + 8 * (n + 2)) 8 t) :
    Keeps r.1.sure s.turn s.su qs.ns qs.bs ∧ (∀ x ∈ r.1.l, ¬ Prot s.turn s.su x.1 ∧ x.1 < 100 ∧ x.2.length = 32) ∧ r.1.l.length ≤ 100 * (k + 1) ∧ r.1.now = applyAll r.1.sure r.1.l := by
  have hfl := wr_flow h.flow hr
  obtain ⟨E, e1, e2, e3, e4⟩ := hr.log
  have hf := h.few
  refine ⟨by rw [hr.sure]; exact h.keeps, fun x hx => ?_, by rw [e1, List.length_append]; omega, hfl⟩
  rw [e1, List.mem_append] at hx
  rcases hx with hx | hx
  · exact h.log x hx
  · have := e3 x hx
    exact ⟨prot_not h1 h9 hu this.1 this.2.1, by omega, this.2.2⟩
theorem Rel.now100 (h : Rel s qs qn k) : s.d.now.length = 100 := (keeps_now h.keeps h.flow h.log).len
/-- the power is off -/
structure Dead (d : DK) (k t : Nat) (u : List UInt8) (ns : List (List UInt8 × Int)) (bs : List (List UInt8)) : Prop where
  off : d.off = true
  few : d.l.length ≤ 100 * k
  keeps : ∀ ks, Keeps (d.crash ks).now t u ns bs
theorem Rel.put (h : Rel s qs qn k) {n : Nat} (h1 : 1 ≤ n) (h9 : n ≤ 9) (hu : hasU s.su (n : Int) = false) {t : List UInt8} (ht : t.length = 256) {r : DK × Int} (hr : WroteF s.d r (3 + 8 * (n + 2)) 8 t) :
    (r.2 = 0 ∧ Rel { s with d := r.1, nu := setB s.nu n true } qs (qn.set n true t) (k + 1)) ∨ (r.2 = 30 ∧ Dead r.1 (k + 1) s.turn s.su qs.ns qs.bs) := by
  obtain ⟨a1, a2, a3, a4⟩ := h.wr h1 h9 hu hr
  have hlen := h.now100
  rcases hr.code with ⟨c1, c2, c3⟩ | ⟨c1, c2⟩
  · refine .inl ⟨c1, h.fr, h.pg, c2, by rw [setB_len]; exact h.lnu, h.usS, fun m => ?_, h.okS, by simp [St.set, h.okN], h.pS, h.pN, h.kN, h.fN, h.tS, h.tN, by have := h.tk; show s.turn ≤ _; omega, fun m hm hmu => ?_, a4, a1, a2, a3⟩
    · rw [rIn_set h.okN.1 h1 h9, has_set10 h.lnu h1 h9, h.usN]
      by_cases hmn : m = (n : Int)
      · rw [if_pos hmn, if_pos hmn, decide_eq_true (by omega)]; rfl
      · rw [if_neg hmn, if_neg hmn]
    · show pgs r.1.now _ = _
      by_cases hmn : m = n
      · subst hmn
        have : (qn.bs.set m t).getD m [] = t := by simp only [List.getD]; rw [List.getElem?_set_self (by rw [h.okN.2]; omega)]; rfl
        rw [show (qn.set m true t).bs = qn.bs.set m t from rfl, this]
        exact pgs_text (by rw [hr.len, hlen]; omega) ht c3
      · have : (qn.bs.set n t).getD m [] = qn.bs.getD m [] := by
          simp only [List.getD]
          rw [List.getElem?_set_ne (by omega)]
        rw [show (qn.set n true t).bs = qn.bs.set n t from rfl, this]
        have hmu' : hasU s.nu (m : Int) = true := by
          have e : hasU (setB s.nu n true) (m : Int) = hasU s.nu (m : Int) := by rw [has_set10 h.lnu h1 h9, if_neg (by omega)]
          rw [← e]; exact hmu
        rw [← h.byt m hm hmu']
        exact pgs_congr (by rw [hr.len, hlen]; omega) (by rw [hlen]; omega) fun i i1 i2 => hr.out (by omega)
  · exact .inr ⟨c1, c2, a3, fun ks => keeps_crash a1 a2 ks⟩
theorem rFree_eq (h : Rel s qs qn k) {j : Nat} (hj : j < 9) : rFree qs qn (j + 1) = isFree s ((j : Nat) + 1 : Int) := by
  have e1 := h.usN ((j : Nat) + 1 : Int)
  have e2 := h.usS ((j : Nat) + 1 : Int)
  unfold rIn at e1 e2
  rw [h.okN.1] at e1
  rw [h.okS.1] at e2
  have et : ((j : Int) + 1).toNat = j + 1 := by omega
  rw [et] at e1 e2
  rw [decide_eq_true (show (j : Int) + 1 ≤ 9 by omega), Bool.true_and] at e1 e2
  have f1 : qn.us.getD (j + 1) false = hasU s.nu ((j : Int) + 1) := by
    rw [← e1]
    cases qn.us.getD (j + 1) false
    · simp
    · simp; omega
  have f2 : qs.us.getD (j + 1) false = hasU s.su ((j : Int) + 1) := by
    rw [← e2]
    cases qs.us.getD (j + 1) false
    · simp
    · simp; omega
  unfold rFree isFree
  rw [f1, f2]
theorem find_congr {p q : Nat → Bool} {l : List Nat} (h : ∀ x ∈ l, p x = q x) : l.find? p = l.find? q := by
  induction l with
  | nil => rfl
  | cons x l ih =>
    rw [List.find?_cons, List.find?_cons, h x (by simp), ih fun y hy => h y (by simp [hy])]
theorem Rel.alloc (h : Rel s qs qn k) : (s.alloc.2 = (rAlloc qs qn).2 ∧ s.alloc.2.2 ≠ 30 ∧ Rel s.alloc.1 qs (rAlloc qs qn).1 (k + 1)) ∨ (s.alloc.2.2 = 30 ∧ Dead s.alloc.1.d (k + 1) s.turn s.su qs.ns qs.bs) := by
  have hfe : ((List.range s.pages).find? fun k => isFree s ((k : Nat) + 1 : Int)) = (List.range (qn.us.length - 1)).find? fun k => rFree qs qn (k + 1) := by
    rw [h.pg, h.okN.1]
    exact find_congr fun j hj => (rFree_eq h (by simpa using hj)).symm
  unfold SP.alloc rAlloc
  rw [hfe]
  cases hq : (List.range (qn.us.length - 1)).find? fun k => rFree qs qn (k + 1) with
  | none => exact .inl ⟨rfl, by simp, h.more⟩
  | some j =>
    have hj : j < 9 := by
      have := List.mem_of_find?_eq_some hq
      rw [h.okN.1] at this
      simpa using this
    have hp := List.find?_some hq
    have hp : rFree qs qn (j + 1) = true := hp
    rw [rFree_eq h hj] at hp
    have hu : hasU s.su ((j + 1 : Nat) : Int) = false := by
      unfold isFree at hp
      simp only [Bool.and_eq_true, Bool.not_eq_true'] at hp
      exact hp.2
    have hr : WroteF s.d (s.wr (j + 1) (List.replicate 256 0)) (3 + 8 * (j + 1 + 2)) 8 (List.replicate 256 0) := by
      unfold SP.wr
      rw [h.fr]
      exact wrs_F 8 h.on (by rw [h.now100]; omega) (by simp)
    rcases h.put (n := j + 1) (by omega) (by omega) hu (by simp) hr with ⟨g1, g2⟩ | ⟨g1, g2⟩
    · dsimp only
      rw [if_neg (by rw [g1]; simp)]
      exact .inl ⟨rfl, by simp, g2⟩
    · dsimp only
      rw [if_pos (by rw [g1]; simp)]
      exact .inr ⟨g1, g2⟩
theorem Rel.release (h : Rel s qs qn k) (n : Int) : (s.release n).2 = (rRelease qs qn n).2 ∧ (s.release n).2 ≠ 30 ∧ Rel (s.release n).1 qs (rRelease qs qn n).1 (k + 1) := by
  unfold SP.release rRelease
  rw [h.inN]
  by_cases hi : rIn qn n = true
  · rw [if_pos hi, if_pos hi]
    have hn : 1 ≤ n ∧ n ≤ 9 := by
      have h2 := hi
      rw [h.usN] at h2
      simp only [Bool.and_eq_true, decide_eq_true_eq] at h2
      exact ⟨hasU_pos h2.2, h2.1⟩
    obtain ⟨j, rfl⟩ : ∃ j : Nat, n = j := ⟨n.toNat, by omega⟩
    rw [Int.toNat_natCast]
    have h1 : 1 ≤ j := by omega
    have h9 : j ≤ 9 := by omega
    refine ⟨rfl, by simp, h.fr, h.pg, h.on, by rw [setB_len]; exact h.lnu, h.usS, fun m => ?_, h.okS, by simp [St.set, h.okN], h.pS, h.pN, h.kN, h.fN, h.tS, h.tN, by have := h.tk; show s.turn ≤ _; omega, fun m hm hmu => ?_, h.flow, h.keeps, h.log, by have := h.few; show s.d.l.length ≤ _; omega⟩
    · rw [rIn_set h.okN.1 h1 h9, has_set10 h.lnu h1 h9, h.usN]
      by_cases hmn : m = (j : Int)
      · rw [if_pos hmn, if_pos hmn]; simp
      · rw [if_neg hmn, if_neg hmn]
    · have hmu : hasU (setB s.nu j false) (m : Int) = true := hmu
      rw [has_set10 h.lnu h1 h9] at hmu
      by_cases hmn : (m : Int) = (j : Int)
      · rw [if_pos hmn] at hmu; exact Bool.noConfusion hmu
      · rw [if_neg hmn] at hmu
        have : (qn.bs.set j ([] : List UInt8)).getD m [] = qn.bs.getD m [] := by
          simp only [List.getD]
          rw [List.getElem?_set_ne (by omega)]
        rw [show (qn.set j false ([] : List UInt8)).bs = qn.bs.set j [] from rfl, this]
        exact h.byt m hm hmu
  · rw [if_neg hi, if_neg hi]
    exact ⟨rfl, by simp, h.more⟩
theorem Rel.fresh (h : Rel s qs qn k) (n : Int) : s.fresh n = isFresh qs qn n := by
  unfold SP.fresh isFresh
  rw [h.inN, h.usS]
  by_cases h2 : rIn qn n = true
  · have h3 := h2
    rw [h.usN] at h3
    simp only [Bool.and_eq_true, decide_eq_true_eq] at h3
    rw [h2, decide_eq_true h3.1]; rfl
  · have h2 : rIn qn n = false := by simpa using h2
    rw [h2]; rfl
theorem setB_same {s : SP} {qs qn : St} {k : Nat} (h : Rel s qs qn k) {n : Nat} (h1 : 1 ≤ n) (h9 : n ≤ 9) (hu : hasU s.nu (n : Int) = true) {d : DK} {q : St} {j : Nat} (hr : Rel { s with d := d, nu := setB s.nu n true } qs q j) : Rel { s with d := d } qs q j := by
  have e : ∀ m : Int, hasU (setB s.nu n true) m = hasU s.nu m := fun m => by
    rw [has_set10 h.lnu h1 h9]
    split
    · rename_i hm; rw [hm, hu]
    · rfl
  exact ⟨hr.fr, hr.pg, hr.on, h.lnu, hr.usS, fun m => by rw [hr.usN]; show (_ && hasU (setB s.nu n true) m) = _; rw [e], hr.okS, hr.okN, hr.pS, hr.pN, hr.kN, hr.fN, hr.tS, hr.tN, hr.tk, fun m hm hmu => hr.byt m hm (by show hasU (setB s.nu n true) _ = true; rw [e]; exact hmu), hr.flow, hr.keeps, hr.log, hr.few⟩
theorem Rel.write (h : Rel s qs qn k) (n : Int) {t : List UInt8} (ht : t.length = 256) : ((s.write n t).2 = (rWrite qs qn n t).2 ∧ (s.write n t).2 ≠ 30 ∧ Rel (s.write n t).1 qs (rWrite qs qn n t).1 (k + 1)) ∨ ((s.write n t).2 = 30 ∧ Dead (s.write n t).1.d (k + 1) s.turn s.su qs.ns qs.bs) := by
  unfold SP.write rWrite
  have h256 : ¬ t.length ≠ 256 := by omega
  rw [if_neg h256, if_neg h256, h.fresh]
  by_cases hf : isFresh qs qn n = true
  · rw [if_pos hf, if_pos hf]
    have hf2 := hf
    unfold isFresh at hf2
    simp only [Bool.and_eq_true, Bool.not_eq_true'] at hf2
    obtain ⟨f1, f2⟩ := hf2
    rw [h.usN] at f1
    simp only [Bool.and_eq_true, decide_eq_true_eq] at f1
    have hp := hasU_pos f1.2
    obtain ⟨j, rfl⟩ : ∃ j : Nat, n = j := ⟨n.toNat, by omega⟩
    rw [Int.toNat_natCast]
    have hu : hasU s.su (j : Int) = false := by
      rw [h.usS, decide_eq_true f1.1, Bool.true_and] at f2
      exact f2
    have hr : WroteF s.d (s.wr j t) (3 + 8 * (j + 2)) 8 t := by
      unfold SP.wr
      rw [h.fr]
      exact wrs_F 8 h.on (by rw [h.now100]; omega) (by omega)
    rcases h.put (n := j) (by omega) (by omega) hu ht hr with ⟨g1, g2⟩ | ⟨g1, g2⟩
    · exact .inl ⟨g1, by dsimp only; rw [g1]; simp, setB_same h (by omega) (by omega) f1.2 g2⟩
    · exact .inr ⟨g1, g2⟩
  · rw [if_neg hf, if_neg hf]
    exact .inl ⟨rfl, by simp, h.more⟩
theorem Rel.name (h : Rel s qs qn k) (nm : List UInt8) (n : Int) : (s.name nm n).2 = (rCall qn nm n).2 ∧ (s.name nm n).2 ≠ 30 ∧ Rel (s.name nm n).1 qs (rCall qn nm n).1 (k + 1) := by
  unfold SP.name rCall
  rw [h.inN]
  by_cases hl : nm.length < 1 ∨ 8 < nm.length
  · rw [if_pos hl, if_pos hl]
    exact ⟨rfl, by simp, h.more⟩
  rw [if_neg hl, if_neg hl]
  by_cases hi : rIn qn n = false
  · rw [if_pos hi, if_pos hi]
    exact ⟨rfl, by simp, h.more⟩
  rw [if_neg hi, if_neg hi]
  have hnd : (qn.ns.map (·.1)).Nodup := h.kN.nd
  have hndn : (s.nn.map (·.1)).Nodup := (h.pN.map (·.1)).nodup hnd
  have hperm : (cOut nm n qn.ns).Perm (putN s.nn nm n) := by
    rw [cOut_ins]
    refine (insN_perm nm n qn.ns).trans ?_
    unfold putN
    exact (h.pN.filter _).cons _
  have hfew := h.fN.few
  have hlen : (putN s.nn nm n).length = if (getN s.nn nm).isSome = true then s.nn.length else s.nn.length + 1 := by
    unfold putN
    rw [List.length_cons]
    cases hg : getN s.nn nm with
    | none =>
      rw [List.filter_eq_self.2 fun x hx => decide_eq_true (getN_none.1 hg x hx)]
      simp
    | some v =>
      have hm := (getN_some hndn).1 hg
      simp only [Option.isSome_some, if_true]
      have hcount : (s.nn.filter fun x => decide (x.1 ≠ nm)).length + 1 = s.nn.length := by
        have key : ∀ (l : List (List UInt8 × Int)), (l.map (·.1)).Nodup → (nm, v) ∈ l → (l.filter fun x => decide (x.1 ≠ nm)).length + 1 = l.length := by
          intro l
          induction l with
          | nil => intro _ h; simp at h
          | cons x l ih =>
            intro hnd hm
            rw [List.map_cons, List.nodup_cons] at hnd
            by_cases hx : x.1 = nm
            · rw [List.filter_cons_of_neg (by simp [hx])]
              rw [List.filter_eq_self.2]
              · simp
              · intro y hy
                refine decide_eq_true fun hh => hnd.1 ?_
                rw [hx, ← hh]
                exact List.mem_map_of_mem hy
            · rw [List.filter_cons_of_pos (by simpa using hx), List.length_cons, List.length_cons]
              rcases List.mem_cons.1 hm with rfl | hm
              · exact absurd rfl hx
              · rw [ih hnd.2 hm]
        exact key _ hndn hm
      exact hcount
  have hlc : (cOut nm n qn.ns).length = (putN s.nn nm n).length := hperm.length_eq
  by_cases hfull : (getN s.nn nm).isSome = false ∧ 6 ≤ s.nn.length
  · rw [if_pos hfull, if_pos (by rw [hlc, hlen, if_neg (by rw [hfull.1]; simp)]; omega)]
    exact ⟨rfl, by simp, h.more⟩
  · have hle : (putN s.nn nm n).length ≤ 6 := by
      rw [hlen]
      cases hg : (getN s.nn nm).isSome
      · rw [hg] at hfull
        simp at hfull ⊢; omega
      · simp; omega
    rw [if_neg hfull, if_neg (by omega)]
    have hi : rIn qn n = true := by simpa using hi
    have hi2 := hi
    rw [h.usN] at hi2
    simp only [Bool.and_eq_true, decide_eq_true_eq] at hi2
    have hp := hasU_pos hi2.2
    refine ⟨rfl, by simp, h.fr, h.pg, h.on, h.lnu, h.usS, h.usN, h.okS, h.okN, h.pS, hperm, ?_, ?_, h.tS, h.tN, by have := h.tk; show s.turn ≤ _; omega, h.byt, h.flow, h.keeps, h.log, by have := h.few; show s.d.l.length ≤ _; omega⟩
    · show KeyS (cOut nm n qn.ns)
      rw [cOut_ins]; exact insN_keys nm n _ h.kN
    · refine ⟨hle, fun x hx => ?_, fun x hx => ?_⟩
      · unfold putN at hx
        rcases List.mem_cons.1 hx with rfl | hx
        · simp only; omega
        · exact h.fN.nm x (List.mem_filter.1 hx).1
      · unfold putN at hx
        rcases List.mem_cons.1 hx with rfl | hx
        · simp only; omega
        · exact h.fN.vl x (List.mem_filter.1 hx).1
theorem Rel.forget (h : Rel s qs qn k) (nm : List UInt8) : (s.forget nm).2 = (rForget qn nm).2 ∧ (s.forget nm).2 ≠ 30 ∧ Rel (s.forget nm).1 qs (rForget qn nm).1 (k + 1) := by
  unfold SP.forget rForget
  have hp : (qn.ns.filter fun x => decide (x.1 ≠ nm)).Perm (s.nn.filter fun x => decide (x.1 ≠ nm)) := h.pN.filter _
  have hiff : (getN s.nn nm).isSome = false ↔ (qn.ns.filter fun x => decide (x.1 ≠ nm)).length = qn.ns.length := by
    rw [hp.length_eq, h.pN.length_eq]
    constructor
    · intro hg
      have hg : getN s.nn nm = none := by simpa using hg
      rw [List.filter_eq_self.2 fun x hx => decide_eq_true (getN_none.1 hg x hx)]
    · intro hl
      have : getN s.nn nm = none := by
        rw [getN_none]
        intro x hx
        have := List.length_filter_eq_length_iff.1 hl x hx
        simpa using this
      simp [this]
  by_cases hg : (getN s.nn nm).isSome = false
  · rw [if_pos hg, if_pos (hiff.1 hg)]
    exact ⟨rfl, by simp, h.more⟩
  · rw [if_neg hg, if_neg (fun hh => hg (hiff.2 hh))]
    refine ⟨rfl, by simp, h.fr, h.pg, h.on, h.lnu, h.usS, h.usN, h.okS, h.okN, h.pS, hp, ?_, ?_, h.tS, h.tN, by have := h.tk; show s.turn ≤ _; omega, h.byt, h.flow, h.keeps, h.log, by have := h.few; show s.d.l.length ≤ _; omega⟩
    · exact h.kN.sublist (List.Sublist.map _ List.filter_sublist)
    · exact ⟨Nat.le_trans (List.length_filter_le _ _) h.fN.few, fun x hx => h.fN.nm x (List.mem_filter.1 hx).1, fun x hx => h.fN.vl x (List.mem_filter.1 hx).1⟩
end
end Go.Proofs

/- Layer 13: sameAs walked. -/
set_option maxRecDepth 100000
set_option linter.unusedVariables false
set_option linter.unusedSimpArgs false
namespace Go.Proofs
open Go Go.Q
section
variable {w w' : World} {R : Value → World → Prop} {b bd x : Nat} {s : SP} {q qs qn : St} {cq c : List Value} {Sd : List Nat} {ms mn : Nat}
/-- both sides, in memory -/
structure SideAt (w : World) (x bd b : Nat) (cq : List Value) : Prop where
  cell : w.heap[x]? = some (.cells ([Value.pointer (some ⟨bd, 0, none⟩), Value.pointer (some ⟨b, 0, none⟩)] ++ cq).toArray 42)
theorem SideAt.keep {S : List Nat} (h : SideAt w x bd b cq) (hk : Kp S w w') (hx : x ∉ S) : SideAt w' x bd b cq := ⟨hk.get h.cell hx⟩
theorem SideAt.ldd (h : SideAt w x bd b cq) {K : Value → Prop} : ld1 (.pointer (some ⟨x, 0 + 0, none⟩)) w K = K (.pointer (some ⟨bd, 0, none⟩)) := ldV h.cell rfl
theorem SideAt.lds (h : SideAt w x bd b cq) {K : Value → Prop} : ld1 (.pointer (some ⟨x, 0 + 1, none⟩)) w K = K (.pointer (some ⟨b, 0, none⟩)) := ldV h.cell rfl
theorem SideAt.ldq (h : SideAt w x bd b cq) (l : cq.length = 8) {K : Value → Prop} : ldn 8 (.pointer (some ⟨x, 0 + 2, none⟩)) w K = K (.agg cq.toArray) := by
  refine ldP h.cell (p := cq.toArray) ?_ (by simp; omega)
  simp [l, List.take_of_length_le]
theorem SideAt.ldsure {c1 c2 : List Value} (h : SideAt w x bd b (c1 ++ c2)) (l1 : c1.length = 4) {K : Value → Prop} : ldn 4 (.pointer (some ⟨x, 0 + 2 + 0, none⟩)) w K = K (.agg c1.toArray) := by
  refine ldP h.cell (p := c1.toArray) ?_ (by simp; omega)
  simp [l1, List.take_append, List.take_of_length_le]
theorem keys_eq {a c : List (List UInt8)} (ha : a.Pairwise fun x y => lexL x y = true) (hc : c.Pairwise fun x y => lexL x y = true) (h : a.Perm c) : a = c :=
  List.Perm.eq_of_pairwise (le := fun x y => lexL x y = true) (fun x y _ _ h1 h2 => by have := lexL_asymm h1; rw [h2] at this; cases this) ha hc h
theorem sameAs_spec (hx : SideAt w x bd b cq) (hs : SpAt w b bd s Sd ms mn) (hq : QAt w cq qs qn) (hc : StAt w c q) (hsm : Same s q qs) (ho : s.d.off = false) (hn : s.nn.length < 2 ^ 20)
    (hR : ∀ w', Kp [] w w' → R (.bool true) w') : callG Tryz.prog 42 #[.pointer (some ⟨x, 0, none⟩), .agg c.toArray] w R := by
  refine law13_side_sameAs_call ?_
  unfold law13_side_sameAs law13_side_sameAs_s7
  refine argB fun p w1 hp1 hp k1 => ?_
  have hmost := hs.most
  obtain ⟨c1, c2, rfl, hq1, hq2⟩ := hq
  have l1 := hq1.len
  rw [nk_p, fa_p, (hx.keep k1 (by simp)).lds]
  refine names_sp (hs.keep0 k1) hn fun w2 v ks hks hksort hfr => ?_
  have k2 := hfr.kp
  have k12 := k1.trans' k2
  have hx2 := hx.keep k12 (by simp)
  have hs2 := hs.keep0 k12
  have hp2 := k2.get hp (by simp)
  have hnd := hs.mN.nodup
  have hkeys : ks = q.ns.map (·.1) := keys_eq hksort hsm.keys (hks.trans (hsm.perm.map (·.1)).symm)
  have hkl : ks.length = q.ns.length := by rw [hkeys, List.length_map]
  have hqn : q.ns.length = s.nn.length := hsm.perm.length_eq
  obtain ⟨vu, vb, vn, rfl, g1, g2, g3⟩ := hc
  have ldp : ∀ (w' : World), Kp [] w2 w' → ∀ K : Value → Prop, ldn 4 (.pointer (some ⟨p, 0, none⟩)) w' K = K (.agg [vu, vb, vn, .int .i64 q.t].toArray) := fun w' k K => ldA (k := 4) (k.get hp2 (by simp)) rfl
  have ldt : ∀ (w' : World), Kp [] w2 w' → ∀ K : Value → Prop, ld1 (.pointer (some ⟨p, 0 + 3, none⟩)) w' K = K (.int .i64 q.t) := fun w' k K => ldV (k.get hp2 (by simp)) rfl
  have ldb : ∀ (w' : World), Kp [] w2 w' → ∀ K : Value → Prop, ld1 (.pointer (some ⟨p, 0 + 1, none⟩)) w' K = K vb := fun w' k K => ldV (k.get hp2 (by simp)) rfl
  have ldm : ∀ (w' : World), Kp [] w2 w' → ∀ K : Value → Prop, ld1 (.pointer (some ⟨p, 0 + 2, none⟩)) w' K = K vn := fun w' k K => ldV (k.get hp2 (by simp)) rfl
  have hst : ∀ (w' : World), Kp [] w w' → StAt w' [vu, vb, vn, .int .i64 q.t] q := fun w' k => ⟨vu, vb, vn, rfl, g1.keep k, g2.keep k, g3.keep k⟩
  have kd := (Kp.refl [] w2).drew
  rw [nk_p, fa_p, (hx2.keep kd (by simp)).lds, ldp _ kd]
  refine used_sp (hs2.keep0 kd) ?_
  rw [ldp _ kd]
  refine ⟨rfl, ?_⟩
  refine count_ref (hst _ (k12.trans' kd)) (by rw [hsm.ul]; omega) fun w3 k3 => ?_
  have k23 := kd.trans' k3
  have k03 := k12.trans' k23
  rw [hsm.count]
  simp only [bq_neq, bV_b, decide_eq_true_eq]
  refine ⟨fun hh => absurd rfl hh, fun _ => ?_⟩
  rw [nk_p, fa_p, (hx.keep k03 (by simp)).lds, fa_p, ldt _ k23]
  refine turn_sp (hs.keep0 k03) ?_
  rw [ldt _ k23]
  refine ⟨rfl, ?_⟩
  rw [hsm.turn]
  simp only [bq_neq, bV_b, decide_eq_true_eq]
  refine ⟨fun hh => absurd rfl hh, fun _ => ?_⟩
  rw [hfr.rd.lenL, List.length_map, fa_p, ldm _ k23, (g3.keep k03).lenL, List.length_map, hkl]
  simp only [bq_neq, bV_b, decide_eq_true_eq]
  refine ⟨fun hh => absurd rfl hh, fun _ => ?_⟩
  -- the pages
  have pagesL : ∀ w4, Kp [] w2 w4 → law13_side_sameAs_s3 R (.pointer (some ⟨x, 0, none⟩)) (.pointer (some ⟨p, 0, none⟩)) w4 := by
    intro w4 k4
    unfold law13_side_sameAs_s3 law13_side_sameAs_L2
    refine loop_inv (fun m xs w' => ∃ k, k ≤ s.pages + 2 ∧ m = s.pages + 2 - k ∧ xs = [.pointer (some ⟨x, 0, none⟩), .pointer (some ⟨p, 0, none⟩), .int .i64 (k : Nat)] ∧ Kp [] w2 w') ?_ (m := s.pages + 2) ⟨0, by omega, rfl, rfl, k4⟩
    rintro m N xs w5 ⟨k, hk, rfl, rfl, k5⟩ hN
    unfold law13_side_sameAs_L2F law13_side_sameAs_b1
    dsimp only
    have k05 := k12.trans' k5
    have hs5 := hs.keep0 k05
    have e1 : IntKind.i64.wrap ((s.pages : Int) + 1) = (s.pages : Int) + 1 := w64 (by omega) (by omega)
    have e2 : IntKind.i64.wrap ((k : Int) + 1) = ((k + 1 : Nat) : Int) := by rw [w64 (by omega) (by omega)]; simp
    rw [nk_p, fa_p, (hx.keep k05 (by simp)).lds]
    refine pages_sp hs5 ?_
    simp only [bq_add, e1, bq_leq, bV_b, decide_eq_true_eq, decide_eq_false_iff_not]
    refine ⟨fun hle => ?_, fun hgt => ?_⟩
    · rw [nk_p, fa_p, (hx.keep k05 (by simp)).lds]
      refine read_sp hs5 ho _ fun w6 k6 => ?_
      have k26 := k5.trans' k6
      have k06 := k12.trans' k26
      rw [ex0, ex1, ldp _ k26]
      refine rIn_spec (hst _ k06) _ fun w7 k7 => ?_
      have k27 := k26.trans' k7
      have k07 := k12.trans' k27
      have hu := hsm.used (k : Nat)
      have next : ∀ w', Kp [] w2 w' → k ≤ s.pages + 1 → N [.pointer (some ⟨x, 0, none⟩), .pointer (some ⟨p, 0, none⟩), .int .i64 ((k + 1 : Nat) : Int)] w' := fun w' kk hkk =>
        hN (s.pages + 2 - (k + 1)) _ w' (by omega) ⟨k + 1, by omega, rfl, rfl, kk⟩
      cases hin : inN13 s (k : Nat) with
      | false =>
        rw [hin] at hu
        have hrd : s.read (k : Nat) = ([], 130) := by unfold SP.read; rw [if_neg (by rw [hin]; simp)]
        rw [hu, hrd]
        simp only [un_not, bV_b]
        refine ⟨fun _ => ?_, fun hh => by simp at hh⟩
        rw [show (Value.string ⟨#[]⟩) = .string (str []) from rfl, bq_nes]
        simp only [bV_b, bq_neq, decide_eq_true_eq, bq_add, e2]
        exact ⟨fun hh => by simp at hh, fun _ => ⟨fun hh => absurd rfl hh, fun _ => next w7 k27 (by omega)⟩⟩
      | true =>
        rw [hin] at hu
        obtain ⟨n1, n2, n3⟩ := inN_pos hin
        have hrd : s.read (k : Nat) = (q.bs.getD k [], 0) := by
          unfold SP.read
          rw [if_pos hin, Int.toNat_natCast, hsm.byt k hin]
        rw [hu, hrd]
        simp only [un_not, bV_b]
        refine ⟨fun hh => by simp at hh, fun _ => ?_⟩
        have kd7 := k27.drew
        have k0d := k12.trans' kd7
        have hkb : k < q.bs.length := by rw [hsm.bl]; omega
        obtain ⟨pe, i1, i2⟩ := (g2.keep k0d).one (i := k) (by simpa using hkb) (x := .string (str q.bs[k])) (by simp [nmR])
        have hg : q.bs.getD k [] = q.bs[k] := by simp [List.getD, hkb]
        simp only [bq_neq, bV_b, decide_eq_true_eq]
        refine ⟨fun hh => absurd rfl hh, fun _ => ?_⟩
        rw [fa_p, ldb _ kd7, i1, i2, bq_nes, hg]
        simp only [bV_b]
        refine ⟨fun hh => by simp at hh, fun _ => ?_⟩
        have hxd := hx.keep k0d (by simp)
        rw [nk_p, fa_p, hxd.lds, nk_p, fa_p, fa_p, hxd.ldsure l1]
        refine fresh_sp (hs.keep0 k0d) _ ?_
        rw [hxd.ldsure l1]
        refine ⟨rfl, ?_⟩
        refine rIn_spec (hq1.keep k0d) _ fun w8 k8 => ?_
        have hfr2 : s.fresh (k : Nat) = !rIn qs (k : Nat) := by
          unfold SP.fresh
          rw [hin, hsm.sure _ hu]; rfl
        rw [hfr2]
        simp only [un_not]
        rw [bq_bneq _ _ (by kernel_rfl)]
        simp only [bV_b, beq_self_eq_true, Bool.not_true, bq_add, e2]
        exact ⟨fun hh => by simp at hh, fun _ => next w8 (kd7.trans' k8) (by omega)⟩
    · unfold law13_side_sameAs_s0
      exact hR w5 k05
  unfold law13_side_sameAs_s6 law13_side_sameAs_L5
  refine loop_inv (fun m xs w' => ∃ k, k ≤ ks.length ∧ m = ks.length - k ∧ xs = [.pointer (some ⟨x, 0, none⟩), .pointer (some ⟨p, 0, none⟩), v, .int .i64 (k : Nat)] ∧ Kp [] w2 w') ?_ (m := ks.length) ⟨0, by omega, rfl, rfl, k23⟩
  rintro m N xs w4 ⟨k, hk, rfl, rfl, k4⟩ hN
  unfold law13_side_sameAs_L5F law13_side_sameAs_b4
  dsimp only
  rw [(hfr.keep k4).rd.lenL, List.length_map]
  simp only [bq_lss, bV_b, decide_eq_true_eq, decide_eq_false_iff_not]
  refine ⟨fun hlt => ?_, fun hge => pagesL w4 k4⟩
  have hlt : k < ks.length := by omega
  have hltn : k < q.ns.length := by omega
  have kd4 := k4.drew
  have k04 := k12.trans' kd4
  have hkk : ks[k] = q.ns[k].1 := by subst hkeys; simp
  have hget : getN s.nn ks[k] = some q.ns[k].2 := by
    rw [getN_some hnd, hkk]
    exact hsm.perm.mem_iff.1 (List.getElem_mem hltn)
  obtain ⟨pe, i1, i2⟩ := (hfr.keep kd4).rd.one (i := k) (by simpa using hlt) (x := .string (str ks[k])) (by simp [nmR])
  have e1 : IntKind.i64.wrap ((k : Int) + 1) = ((k + 1 : Nat) : Int) := by rw [w64 (by omega) (by omega)]; simp
  rw [nk_p, fa_p, (hx.keep k04 (by simp)).lds, i1, i2]
  refine named_sp (hs.keep0 k04) ks[k] ?_
  rw [hget, ex0, ex1]
  simp only [un_not, bV_b, Option.isSome_some, Bool.not_true, Option.getD_some]
  refine ⟨fun hh => by simp at hh, fun _ => ?_⟩
  have kd5 := kd4.drew
  obtain ⟨pe5, i3, i4⟩ := (hfr.keep kd5).rd.one (i := k) (by simpa using hlt) (x := .string (str ks[k])) (by simp [nmR])
  obtain ⟨pn, j1, _, j3, j4⟩ := nm_get (g3.keep (k12.trans' kd5)) hltn
  rw [i3, i4, fa_p, ldm _ kd5, j1, j3, bq_nes, hkk]
  simp only [bV_b]
  refine ⟨fun hh => by simp at hh, fun _ => ?_⟩
  rw [fa_p, ldm _ kd5, j1, j4]
  simp only [bq_neq, bV_b, decide_eq_true_eq, bq_add, e1]
  refine ⟨fun hh => absurd rfl hh, fun _ => ?_⟩
  exact hN (ks.length - (k + 1)) _ _ (by omega) ⟨k + 1, by omega, rfl, rfl, kd5⟩
end
end Go.Proofs

/- A page of any bytes is read without a fault. -/
set_option maxRecDepth 100000
set_option linter.unusedVariables false
set_option linter.unusedSimpArgs false
namespace Go.Proofs
open Go Go.Q
def gb (b : List UInt8) (i : Nat) : Nat := (b.getD i 0).toNat
def nB (b : List UInt8) : Nat := gb b 1
def uB (b : List UInt8) : Nat := gb b 2 + gb b 3 * 256
def frB (b : List UInt8) (k : Nat) : Nat := gb b (8 + 2 * k)
def kyB (b : List UInt8) (k : Nat) : Nat := gb b (8 + 2 * k + 1)
def enB (b : List UInt8) (k : Nat) : Nat := if k = 0 then 256 else frB b (k - 1)
structure SafeP (b : List UInt8) : Prop where
  n : nB b ≤ 123
  cell : ∀ k, k < nB b → frB b k + kyB b k ≤ enB b k
theorem gb_lt (b : List UInt8) (i : Nat) : gb b i < 256 := (b.getD i 0).toNat_lt
section
variable {w w' : World} {p : Nat} {b : List UInt8} {R : Value → World → Prop}
theorem gb_get (hb : b.length = 256) {i : Nat} (hi : i < 256) : b[i]? = some (b.getD i 0) := by
  have : i < b.length := by omega
  simp [List.getD, this]
theorem room_B (h : PgB w p b) (hR : R (.int .i64 (248 - 2 * (nB b : Int) - (uB b : Int))) w.drew) : callG Tryz.prog 78 #[.pointer (some ⟨p, 0, none⟩)] w R := by
  refine page_Page_room_call ?_
  unfold page_Page_room page_Page_room_s0
  have h1 := gb_lt b 1
  have h2 := gb_lt b 2
  have h3 := gb_lt b 3
  refine Len_B h (gb_get h.2 (by omega)) ?_
  show qG Tryz.prog (bq _ _ _ _ _ (.int .i64 ((gb b 1 : Nat) : Int))) w _
  have e1 : IntKind.i64.wrap (2 * ((gb b 1 : Nat) : Int)) = 2 * ((gb b 1 : Nat) : Int) := w64 (by omega) (by omega)
  have e2 : IntKind.i64.wrap (248 - 2 * ((gb b 1 : Nat) : Int)) = 248 - 2 * ((gb b 1 : Nat) : Int) := w64 (by omega) (by omega)
  simp only [bq_mul, e1, bq_sub, e2]
  refine used_B h (gb_get h.2 (by omega)) (gb_get h.2 (by omega)) ?_
  show qG Tryz.prog (bq _ _ _ _ _ (.int .i64 ((gb b 2 + gb b 3 * 256 : Nat) : Int))) w.drew _
  have e3 : IntKind.i64.wrap (248 - 2 * ((gb b 1 : Nat) : Int) - ((gb b 2 + gb b 3 * 256 : Nat) : Int)) = 248 - 2 * ((gb b 1 : Nat) : Int) - ((gb b 2 + gb b 3 * 256 : Nat) : Int) := w64 (by omega) (by omega)
  simp only [bq_sub, e3]
  exact hR
theorem len_A (h : PgB w p b) (hR : R (.int .i64 (nB b : Nat)) w) : callG Tryz.prog 50 #[.pointer (some ⟨p, 0, none⟩)] w R := Len_B h (gb_get h.2 (by omega)) hR
theorem kind_A (h : PgB w p b) (hR : R (.int .i64 (gb b 0 : Nat)) w) : callG Tryz.prog 49 #[.pointer (some ⟨p, 0, none⟩)] w R := Kind_B h (gb_get h.2 (by omega)) hR
theorem used_A (h : PgB w p b) (hR : R (.int .i64 (uB b : Nat)) w.drew) : callG Tryz.prog 77 #[.pointer (some ⟨p, 0, none⟩)] w R := used_B h (gb_get h.2 (by omega)) (gb_get h.2 (by omega)) hR
theorem from_A (h : PgB w p b) {k : Nat} (hk : k < 124) (hR : R (.int .i64 (frB b k : Nat)) w) : callG Tryz.prog 79 #[.pointer (some ⟨p, 0, none⟩), .int .i64 (k : Nat)] w R := from_B h hk (gb_get h.2 (by omega)) hR
theorem end_A (h : PgB w p b) {k : Nat} (hk : k ≤ 124) {j : Int} (hj : j = (k : Int) - 1) (hR : R (.int .i64 (enB b k : Nat)) w) : callG Tryz.prog 79 #[.pointer (some ⟨p, 0, none⟩), .int .i64 j] w R := by
  unfold enB at hR
  subst hj
  cases k with
  | zero => exact from_end hR
  | succ k =>
    rw [if_neg (by omega)] at hR
    have : ((k + 1 : Nat) : Int) - 1 = (k : Nat) := by omega
    rw [this]
    exact from_A h (by omega) hR
theorem keyed_A (h : PgB w p b) {k : Nat} (hk : k < 123) (hR : R (.int .i64 (kyB b k : Nat)) w) : callG Tryz.prog 80 #[.pointer (some ⟨p, 0, none⟩), .int .i64 (k : Nat)] w R := keyed_B h hk (gb_get h.2 (by omega)) hR
theorem enB_le (b : List UInt8) (k : Nat) : enB b k ≤ 256 := by
  unfold enB
  split
  · omega
  · exact Nat.le_of_lt (gb_lt _ _)
/-- the key and the value that a slot of a page points to -/
theorem at_A (h : PgB w p b) {k : Nat} (hk : k < nB b) (hn : nB b ≤ 123) (hc : frB b k + kyB b k ≤ enB b k)
    (hR : R (.tuple #[.string (str ((b.drop (frB b k)).take (kyB b k))), .string (str ((b.drop (frB b k + kyB b k)).take (enB b k - (frB b k + kyB b k))))]) w.drew) : callG Tryz.prog 51 #[.pointer (some ⟨p, 0, none⟩), .int .i64 (k : Nat)] w R := by
  refine page_Page_At_call ?_
  unfold page_Page_At page_Page_At_s1
  have he := enB_le b k
  simp only [bq_lss, bV_b, decide_eq_true_eq, decide_eq_false_iff_not]
  refine ⟨fun h => by omega, fun _ => ?_⟩
  refine len_A h ?_
  simp only [bq_geq, bV_b, decide_eq_true_eq, decide_eq_false_iff_not]
  refine ⟨fun h => by omega, fun _ => ?_⟩
  unfold page_Page_At_s0
  refine from_A h (by omega) ?_
  have e1 : IntKind.i64.wrap ((k : Int) - 1) = (k : Int) - 1 := w64 (by omega) (by omega)
  simp only [bq_sub, e1]
  refine end_A h (k := k) (by omega) rfl ?_
  refine keyed_A h (by omega) ?_
  have e2 : IntKind.i64.wrap ((frB b k : Int) + (kyB b k : Int)) = ((frB b k + kyB b k : Nat) : Int) := by rw [w64 (by omega) (by omega)]; simp
  have hd : PgB w.drew p b := h
  simp only [bq_add, e2]
  rw [hd.text (by omega) (by omega), hd.text (by omega) (by omega)]
  have : frB b k + kyB b k - frB b k = kyB b k := by omega
  rw [this]
  exact hR
theorem pRead_any {s : List UInt8} (hs : s.length = 256) (hbad : ∀ w' (e : Int), e ≠ 0 → Kp [] w w' → R (.tuple #[.pointer none, .int .i64 e]) w') (hok : ∀ w' p c, w.heap.size ≤ p → PgB w' p c → SafeP c → Kp [] w w' → R (.tuple #[.pointer (some ⟨p, 0, none⟩), .int .i64 0]) w') :
    callG Tryz.prog 48 #[.string (str s)] w R := by
  refine page_Read_call ?_
  unfold page_Read page_Read_s13
  have bad : ∀ w', Kp [] w w' → R (.tuple #[.pointer none, .int .i64 120]) w' := fun w' k => hbad w' 120 (by omega) k
  simp only [lenS_s, str_size, hs, bq_neq, bV_b, decide_eq_true_eq, decide_eq_false_iff_not]
  refine ⟨fun h => absurd rfl h, fun _ => ?_⟩
  rw [show (Value.int .i64 0) = .int .i64 ((0 : Nat) : Int) from rfl, ixS_str (s := s) (i := 0) (by omega)]
  simp only [bq_eql, bV_b, decide_eq_true_eq, decide_eq_false_iff_not]
  refine ⟨fun h => bad w (Kp.refl _ _), fun _ => ?_⟩
  unfold page_Read_s12
  rw [bld_pg]
  refine argB fun p w1 hp h1 k1 => ?_
  have hb1 : PgB w1 p (List.replicate 256 0) := ⟨h1, by simp⟩
  rw [pg_pt, slA_whole (by omega), ar_cp_str (o := 0) (n := 256) hb1.1 (lo := 0) s (by rw [hs]; simp) (.inl rfl)]
  have hm : min s.length 256 = 256 := by rw [hs]; rfl
  have hsp : spl (List.replicate 256 0) 0 (s.take 256) = s := by
    rw [List.take_of_length_le (by omega)]
    unfold spl
    rw [hs]
    simp
  rw [hm, hsp]
  obtain ⟨h2, k2⟩ := hb1.put (b' := s) hs
  generalize setBlk w1 p (.cells (arC [] s [.bool true]) 130) = w2 at *
  have k02 : Kp [] w w2 := k1.trans k2 fun x hx hlt => by simp at hx; omega
  have e48 : ∀ K : Value → Prop, slA 256 1 (.pointer (some ⟨p, 0, none⟩)) (some (.int .i64 4)) (some (.int .i64 8)) K = K (.slice (some ⟨p, 4, none⟩) 4 252) := fun K => slA_at (lo := 4) (hi := 8) (by omega) (by omega)
  rw [pg_pt, e48, ar_clr (o := 4) (n := 4) h2.1 zc5l (lo := 4) (by omega) (by omega) rfl]
  obtain ⟨c, hc⟩ : ∃ c, c = spl s 4 (List.replicate 4 0) := ⟨_, rfl⟩
  have hcl : c.length = 256 := by rw [hc, spl_len (by simp; omega)]; exact hs
  rw [← hc]
  obtain ⟨h3, k3⟩ := h2.put (b' := c) hcl
  generalize setBlk w2 p (.cells (arC [] c [.bool true]) 130) = w3 at *
  have k03 : Kp [] w w3 := k02.trans k3 fun x hx hlt => by simp at hx; omega
  refine Bytes_spec h3 fun w4 k4 => ?_
  have k04 := k03.trans' k4
  have h4 := h3.keep k4 (by simp)
  rw [bq_sneq]
  simp only [bV_b]
  refine ⟨fun _ => bad _ k04, fun _ => ?_⟩
  refine used_A h4 ?_
  have h4d : PgB w4.drew p c := h4
  simp only [bq_gtr, bV_b, decide_eq_true_eq, decide_eq_false_iff_not]
  refine ⟨fun h => bad _ k04.drew, fun hu256 => ?_⟩
  refine room_B h4d ?_
  have h5 : PgB w4.drew.drew p c := h4
  have k05 : Kp [] w w4.drew.drew := (k04.drew).drew
  simp only [bq_lss, bV_b, decide_eq_true_eq, decide_eq_false_iff_not]
  refine ⟨fun h => bad _ k05, fun hroom => ?_⟩
  unfold page_Read_s11
  generalize w4.drew.drew = w5 at *
  refine len_A h5 ?_
  have e1 : IntKind.i64.wrap (2 * (nB c : Int)) = ((2 * nB c : Nat) : Int) := by rw [w64 (by omega) (by omega)]; simp
  have e2 : IntKind.i64.wrap (8 + ((2 * nB c : Nat) : Int)) = ((8 + 2 * nB c : Nat) : Int) := by rw [w64 (by omega) (by omega)]; simp
  have e3 : IntKind.i64.wrap ((nB c : Int) - 1) = (nB c : Int) - 1 := w64 (by omega) (by omega)
  have e4 : IntKind.i64.wrap (256 - (uB c : Int)) = ((256 - uB c : Nat) : Int) := by rw [w64 (by omega) (by omega)]; omega
  simp only [bq_mul, e1, bq_add, e2]
  refine len_A h5 ?_
  simp only [bq_sub, e3]
  refine end_A h5 (k := nB c) (by omega) rfl ?_
  refine used_A h5 ?_
  simp only [bq_sub, e4, bq_neq, bV_b, decide_eq_true_eq, decide_eq_false_iff_not]
  have k06 : Kp [] w w5.drew := k05.drew
  have h6 : PgB w5.drew p c := h5
  generalize w5.drew = w6 at *
  refine ⟨fun h => bad _ k06, fun hlast => ?_⟩
  have hlast : enB c (nB c) = 256 - uB c := by omega
  have hn : nB c ≤ 123 := by
    refine Classical.byContradiction fun hh => ?_
    have h124 : nB c = 124 := by omega
    have hu : uB c = 0 := by omega
    rw [h124, hu] at hlast
    unfold enB at hlast
    rw [if_neg (by omega)] at hlast
    have := gb_lt c (8 + 2 * (124 - 1))
    unfold frB at hlast
    omega
  -- the cells, one behind the other
  have fin : ∀ w7, Kp [] w6 w7 → page_Read_s7 R (.pointer (some ⟨p, 0, none⟩)) (.int .i64 ((8 + 2 * nB c : Nat) : Int)) w7 := by
    intro w7 k7
    unfold page_Read_s7 page_Read_s6
    refine len_A (h6.keep k7 (by simp)) ?_
    unfold page_Read_L5
    refine loop_inv (fun m xs wi => ∃ i a, i ≤ nB c ∧ m = nB c - i ∧ xs = [.pointer (some ⟨p, 0, none⟩), .int .i64 ((8 + 2 * nB c : Nat) : Int), .string (str a), .int .i64 (nB c : Nat), .int .i64 (i : Nat)] ∧ Kp [] w6 wi ∧ ∀ j, j < i → frB c j + kyB c j ≤ enB c j) ?_ (m := nB c) ⟨0, [], by omega, rfl, rfl, k7, fun j h => by omega⟩
    rintro m N xs wi ⟨i, a, hi, rfl, rfl, hki, hall⟩ hN
    have hpi := h6.keep hki (by simp)
    have k0i := k06.trans' hki
    unfold page_Read_L5F page_Read_s4
    dsimp only
    simp only [bq_lss, bV_b, decide_eq_true_eq, decide_eq_false_iff_not]
    refine ⟨fun hlt => ?_, fun hge => ?_⟩
    · have hlt : i < nB c := by omega
      unfold page_Read_s3
      refine from_A hpi (by omega) ?_
      have e5 : IntKind.i64.wrap ((i : Int) - 1) = (i : Int) - 1 := w64 (by omega) (by omega)
      have e6 : IntKind.i64.wrap ((i : Int) + 1) = ((i + 1 : Nat) : Int) := by rw [w64 (by omega) (by omega)]; simp
      simp only [bq_sub, e5]
      refine end_A hpi (k := i) (by omega) rfl ?_
      refine keyed_A hpi (by omega) ?_
      have hen := enB_le c i
      simp only [bq_geq, bV_b, decide_eq_true_eq, decide_eq_false_iff_not]
      refine ⟨fun h => bad _ k0i, fun hlt1 => ?_⟩
      simp only [bq_lss, bV_b, decide_eq_true_eq, decide_eq_false_iff_not]
      refine ⟨fun h => bad _ k0i, fun hlt2 => ?_⟩
      have e7 : IntKind.i64.wrap ((enB c i : Int) - (frB c i : Int)) = ((enB c i - frB c i : Nat) : Int) := by rw [w64 (by omega) (by omega)]; omega
      simp only [bq_sub, e7, bq_gtr, bV_b, decide_eq_true_eq, decide_eq_false_iff_not]
      refine ⟨fun h => bad _ k0i, fun hlt3 => ?_⟩
      have hci : frB c i + kyB c i ≤ enB c i := by omega
      unfold page_Read_s2
      refine at_A hpi hlt hn hci ?_
      rw [ex0, ex1]
      refine cell_spec _ _ ?_
      simp only [un_not, bV_b]
      refine ⟨fun h => bad _ k0i.drew, fun _ => ?_⟩
      have next : ∀ a', page_Read_s1 R N (.pointer (some ⟨p, 0, none⟩)) (.int .i64 ((8 + 2 * nB c : Nat) : Int)) (.string (str a')) (.int .i64 (nB c : Nat)) (.int .i64 (i : Nat)) wi.drew := fun a' => by
        unfold page_Read_s1
        simp only [bq_add, e6]
        refine hN (nB c - (i + 1)) _ _ (by omega) ⟨i + 1, a', by omega, rfl, rfl, hki.drew, fun j hj => ?_⟩
        by_cases hji : j < i
        · exact hall j hji
        · have : j = i := by omega
          subst this; exact hci
      simp only [bq_gtr, bV_b]
      refine ⟨fun _ => ?_, fun _ => next _⟩
      rw [bq_sleq]
      simp only [bV_b]
      exact ⟨fun _ => bad _ k0i.drew, fun _ => next _⟩
    · have : i = nB c := by omega
      subst this
      unfold page_Read_s0
      exact hok wi p c hp hpi ⟨hn, hall⟩ k0i
  unfold page_Read_s10 page_Read_L9
  refine loop_inv (fun m xs wi => ∃ i, 8 + 2 * nB c ≤ i ∧ m = 256 - i ∧ xs = [.pointer (some ⟨p, 0, none⟩), .int .i64 ((8 + 2 * nB c : Nat) : Int), .int .i64 (i : Nat)] ∧ Kp [] w6 wi ∧ i ≤ 256) ?_ (m := 256 - (8 + 2 * nB c)) ⟨8 + 2 * nB c, by omega, rfl, rfl, Kp.refl _ _, by omega⟩
  rintro m N xs wi ⟨i, hi1, rfl, rfl, hki, hi2⟩ hN
  have hpi := h6.keep hki (by simp)
  have hpd : PgB wi.drew p c := hpi
  unfold page_Read_L9F page_Read_b8
  dsimp only
  refine used_A hpi ?_
  simp only [bq_sub, e4, bq_lss, bV_b, decide_eq_true_eq, decide_eq_false_iff_not]
  refine ⟨fun hlt => ?_, fun _ => fin _ hki.drew⟩
  have e8 : IntKind.i64.wrap ((i : Int) + 1) = ((i + 1 : Nat) : Int) := by rw [w64 (by omega) (by omega)]; simp
  rw [pg_ix (by omega) (by omega), hpd.ld (i := i) (Int.toNat_natCast _) (gb_get hcl (by omega))]
  simp only [bq_neq, bV_b, bq_add, e8]
  exact ⟨fun _ => bad _ (k06.trans' hki.drew), fun _ => hN (256 - (i + 1)) _ _ (by omega) ⟨i + 1, by omega, rfl, rfl, hki.drew, by omega⟩⟩
end
end Go.Proofs

/- Layer 13: the map of a turn, whatever it is. -/
set_option maxRecDepth 100000
set_option linter.unusedVariables false
set_option linter.unusedSimpArgs false
namespace Go.Proofs
open Go Go.Q
section
variable {w w' : World} {R : Value → World → Prop}
theorem reads_any {b bd fr pages : Nat} {d : DK} {Sd : List Nat} (h : Sp0 w b bd fr pages d Sd) (ho : d.off = false) {turn : Nat} (hno : ∀ w', Kp [] w w' → R (.tuple #[.agg (stC z63 (.map none)), .bool false]) w')
    (hR : ∀ w' m u N, w.heap.size ≤ m → u.length = 63 → SMap w' m N → Kp [] w w' → R (.tuple #[.agg (stC u (.map (some m))), .bool true]) w') : callG Tryz.prog 16 #[.pointer (some ⟨b, 0, none⟩), .int .i64 (turn : Nat)] w R := by
  refine space_Space_read_call ?_
  unfold space_Space_read space_Space_read_s12
  refine newB fun r w1 hr1 hr k1 => ?_
  have e1 : IntKind.i64.wrap (1 + ((turn % 2 : Nat) : Int)) = ((1 + turn % 2 : Nat) : Int) := by rw [w64 (by omega) (by omega)]; omega
  have e2 : ((turn : Int) % 2) = ((turn % 2 : Nat) : Int) := by simp
  rw [rem_of (by omega) (by omega), e2]
  simp only [bq_add, e1]
  have hm := h.most
  have hmost := h.disk.dlen
  have hfit := h.fit
  have lr := lt_of_blk hr
  have bad : ∀ w', Kp [] w1 w' → (bld [(0, 63), (63, 1)] (zc Tryz.prog 57) #[] fun t =>
      stn 64 (.pointer (some ⟨r, 0, none⟩)) t w' fun w => qG Tryz.prog (do loadVar 57 (← asAddr (.pointer (some ⟨r, 0, none⟩)))) w fun r4 => R (.tuple #[r4, (.bool false)]) w) := fun w' k => by
    rw [bldS0]
    refine retB (R := fun v w => R (.tuple #[v, .bool false]) w) (by kernel_rfl) (by kernel_rfl) (k.get hr (by simp)) (by rw [zcS]; exact stC_size (by simp [z63]) _) (stC_size (by simp [z63]) _) (stC_one rfl) fun w8 k8 => ?_
    exact hno w8 ((k1.trans' k).trans k8 fun y hy hlt => by simp at hy; omega)
  refine reads_spec (h.keep k1 (by simp) (by simp)) ho _ (by omega) fun w2 k2 => ?_
  rw [ex0, ex1]
  simp only [bq_neq, bV_b, decide_eq_true_eq]
  refine ⟨fun hh => by simp at hh, fun _ => ?_⟩
  refine pRead_any (pgs_len h.disk.sz (by omega)) (fun w3 e he k3 => ?_) fun w3 p c hp3 hpg hsafe k3 => ?_
  · rw [ex0, ex1]
    simp only [bq_neq, bV_b, decide_eq_true_eq]
    exact ⟨fun _ => bad w3 (k2.trans' k3), fun hh => absurd he (by simpa using hh)⟩
  rw [ex0, ex1]
  simp only [bq_neq, bV_b, decide_eq_true_eq]
  refine ⟨fun hh => by simp at hh, fun _ => ?_⟩
  refine kind_A hpg ?_
  simp only [bq_neq, bV_b, decide_eq_true_eq]
  refine ⟨fun _ => bad w3 (k2.trans' k3), fun _ => ?_⟩
  unfold space_Space_read_s11
  refine SMap.new fun m w4 hm4 k4 hM => ?_
  rw [bldS1]
  refine newB fun x w5 hx5 hx k5 => ?_
  have z1 := k1.size
  have z2 := k2.size
  have z3 := k3.size
  have z4 := k4.size
  have z5 := k5.size
  have lm := hM.lt
  have lx := lt_of_blk hx
  have lp := hpg.lt
  rw [stA hx (by rw [zcS]; exact stC_size (by simp [z63]) _) (stC_size (by simp [z63]) _) (stC_one rfl)]
  generalize hw6 : setBlk w5 x (.cells (stC z63 (.map (some m))) 57) = w6
  have hx6 : w6.heap[x]? = some (.cells (stC z63 (.map (some m))) 57) := by rw [← hw6]; exact heap_self (live_of hx)
  have k6 : Kp [x] w5 w6 := by rw [← hw6]; exact (Kp.refl _ _).setBlk (.inl (by simp)) _
  have k36 : Kp [] w3 w6 := ((k4.trans' k5).trans k6 fun y hy hlt => by simp at hy; omega)
  have hr6 := k6.get (k5.get (k4.get (k3.get (k2.get hr (by simp)) (by simp)) (by simp)) (by simp)) (by simp; omega)
  have hM6 := (hM.keep k5 (by simp)).keep k6 (by simp; omega)
  have hp6 := hpg.keep k36 (by simp)
  have k16 : Kp [] w1 w6 := (k2.trans' k3).trans' k36
  have k06 : Kp [] w w6 := k1.trans' k16
  have z6 := k6.size
  unfold space_Space_read_s10
  refine len_A hp6 ?_
  have hn := hsafe.n
  unfold space_Space_read_L9
  refine loop_inv (fun n xs w' => ∃ (k : Nat) (u : List UInt8) (N : List (List UInt8 × Int)), k ≤ nB c ∧ n = nB c - k ∧ xs = [.pointer (some ⟨r, 0, none⟩), .pointer (some ⟨p, 0, none⟩), .pointer (some ⟨x, 0, none⟩), .int .i64 (nB c : Nat), .int .i64 (k : Nat)] ∧ u.length = 63 ∧ w'.heap[x]? = some (.cells (stC u (.map (some m))) 57) ∧ SMap w' m N ∧ Kp [x, m] w6 w') ?_ (m := nB c) ⟨0, z63, [], by omega, rfl, rfl, by simp [z63], hx6, hM6, Kp.refl _ _⟩
  rintro n NN xs w' ⟨k, u, N, hk, rfl, rfl, hu, hx', hM', hk'⟩ hN
  unfold space_Space_read_L9F space_Space_read_s8
  dsimp only
  simp only [bq_lss, bV_b, decide_eq_true_eq, decide_eq_false_iff_not]
  refine ⟨fun hlt => ?_, fun hlt => ?_⟩
  · have hlt : k < nB c := by omega
    have hp' := hp6.keep hk' (by simp; omega)
    unfold space_Space_read_s7
    refine at_A hp' hlt hn (hsafe.cell k hlt) ?_
    rw [ex0, ex1]
    generalize (c.drop (frB c k)).take (kyB c k) = ky
    generalize (c.drop (frB c k + kyB c k)).take (enB c k - (frB c k + kyB c k)) = vl
    have hxd : w'.drew.heap[x]? = some (.cells (stC u (.map (some m))) 57) := hx'
    have hMd := hM'.keep ((Kp.refl [] w').drew) (by simp)
    have kd := hk'.drew
    have e4 : IntKind.i64.wrap ((k : Int) + 1) = ((k + 1 : Nat) : Int) := by rw [w64 (by omega) (by omega)]; simp
    have k1d : Kp [] w1 w'.drew := k16.trans kd fun y hy hl => by simp at hy; omega
    have go : ∀ w'' u' N', u'.length = 63 → w''.heap[x]? = some (.cells (stC u' (.map (some m))) 57) → SMap w'' m N' → Kp [x, m] w'.drew w'' → space_Space_read_s1 R NN (.pointer (some ⟨r, 0, none⟩)) (.pointer (some ⟨p, 0, none⟩)) (.pointer (some ⟨x, 0, none⟩)) (.int .i64 (nB c : Nat)) (.int .i64 (k : Nat)) w'' := fun w'' u' N' hu' hx'' hM'' kk => by
      unfold space_Space_read_s1
      simp only [bq_add, e4]
      exact hN (nB c - (k + 1)) _ w'' (by omega) ⟨k + 1, u', N', by omega, rfl, rfl, hu', hx'', hM'', kd.trans' kk⟩
    have no : space_Space_read_s3 R NN (.pointer (some ⟨r, 0, none⟩)) (.pointer (some ⟨p, 0, none⟩)) (.pointer (some ⟨x, 0, none⟩)) (.string (str ky)) (.string (str vl)) (.int .i64 (nB c : Nat)) (.int .i64 (k : Nat)) (.bool false) w'.drew := by
      unfold space_Space_read_s3
      simp only [bV_b]
      exact ⟨fun hh => by simp at hh, fun _ => bad _ k1d⟩
    have named : space_Space_read_s4 R NN (.pointer (some ⟨r, 0, none⟩)) (.pointer (some ⟨p, 0, none⟩)) (.pointer (some ⟨x, 0, none⟩)) (.string (str ky)) (.string (str vl)) (.int .i64 (nB c : Nat)) (.int .i64 (k : Nat)) w'.drew := by
      unfold space_Space_read_s4
      rw [show (Value.string ⟨#[110]⟩) = .string (str [110]) from rfl]
      refine prefix_spec ?_
      simp only [bV_b, decide_eq_true_eq, decide_eq_false_iff_not]
      refine ⟨fun hpre => ?_, fun _ => no⟩
      obtain ⟨hpre1, hpre2⟩ := hpre
      simp only [lenS_s, str_size, bq_eql]
      by_cases hv2 : vl.length = 2
      · rw [decide_eq_true (by omega)]
        unfold space_Space_read_s3
        simp only [bV_b]
        refine ⟨fun _ => ?_, fun hh => by simp at hh⟩
        obtain ⟨t, rfl⟩ : ∃ t, ky = 110 :: t := by
          cases ky with
          | nil => simp at hpre1
          | cons y t => exact ⟨t, by simp at hpre2; rw [hpre2]⟩
        have hv0 := (vl[0]'(by omega)).toNat_lt
        have hv1 := (vl[1]'(by omega)).toNat_lt
        rw [fa_p, ldF (w := w'.drew.drew) hxd (j := 0 + 63) (x := .map (some m)) (by simp [stC, arC, hu]), slS_tail]
        rw [show (Value.int .i64 0) = .int .i64 ((0 : Nat) : Int) from rfl, ixS_str (s := vl) (i := 0) (by omega), cvI_i, show (Value.int .i64 1) = .int .i64 ((1 : Nat) : Int) from rfl, ixS_str (s := vl) (i := 1) (by omega), cvI_i]
        rw [wrap_nat64 (by omega), wrap_nat64 (by omega), shl_of (by omega) (by decide)]
        have e6 : IntKind.i64.wrap (((vl[1]'(by omega)).toNat : Int) * 2 ^ (8 : Int).toNat) = (((vl[1]'(by omega)).toNat * 2 ^ 8 : Nat) : Int) := by
          rw [show (8 : Int).toNat = 8 from rfl, w64 (by omega) (by omega)]; simp
        rw [e6, or64_of (by omega) (by omega)]
        refine (hMd.keep ((Kp.refl [] _).drew) (by simp)).put mapT _ fun w7 hM7 k7 => ?_
        refine go w7 u _ hu (k7.get hxd (by simp; omega)) hM7 (((Kp.refl [] w'.drew).drew.mono (by simp)).trans' (k7.mono fun y hy _ => by simp at hy; simp [hy]))
      · rw [decide_eq_false (by omega)]
        exact no
    unfold space_Space_read_s6
    rw [show (Value.string ⟨#[117]⟩) = .string (str [117]) from rfl, bq_eqs]
    simp only [bV_b, decide_eq_true_eq, decide_eq_false_iff_not]
    have l5 : space_Space_read_s5 R NN (.pointer (some ⟨r, 0, none⟩)) (.pointer (some ⟨p, 0, none⟩)) (.pointer (some ⟨x, 0, none⟩)) (.string (str ky)) (.string (str vl)) (.int .i64 (nB c : Nat)) (.int .i64 (k : Nat)) (.bool false) w'.drew := by
      unfold space_Space_read_s5
      simp only [bV_b]
      exact ⟨fun hh => by simp at hh, fun _ => named⟩
    refine ⟨fun _ => ?_, fun _ => l5⟩
    simp only [lenS_s, str_size, bq_eql]
    by_cases hv : vl.length = 63
    · rw [decide_eq_true (by omega)]
      unfold space_Space_read_s5
      simp only [bV_b]
      refine ⟨fun _ => ?_, fun hh => by simp at hh⟩
      unfold space_Space_read_s2
      rw [fa_p, slA_whole (by omega)]
      rw [ar_cp_str (pre := []) (b := u) (post := [.map (some m)]) (o := 0 + 0) (n := 63) (cap := 63) hxd (lo := 0) vl (by simp [hu, hv]) (.inl rfl)]
      have e8 : spl u 0 (vl.take (min vl.length 63)) = vl := by
        rw [hv]; simp [spl, hu, hv, List.take_of_length_le]
      rw [e8]
      refine go _ vl N hv (heap_self (live_of hxd)) ?_ ((Kp.refl _ _).setBlk (.inl (by simp)) _)
      exact hMd.keep ((Kp.refl [x] _).setBlk (.inl (by simp)) _) (by simp; omega)
    · rw [decide_eq_false (by omega)]
      exact l5
  · unfold space_Space_read_s0
    rw [ldA hx' (stC_size hu _)]
    refine retB (R := fun v w => R (.tuple #[v, .bool true]) w) (by kernel_rfl) (by kernel_rfl) (hk'.get hr6 (by simp; omega)) (by rw [zcS]; exact stC_size (by simp [z63]) _) (stC_size hu _) (stC_one rfl) fun w8 k8 => ?_
    refine hR w8 m u N (by omega) hu (hM'.keep k8 (by simp; omega)) ?_
    exact (k06.trans hk' fun y hy hlt => by simp at hy; omega).trans k8 fun y hy hlt => by simp at hy; omega
end
end Go.Proofs

/- Layer 13: a space is opened, whatever its other map is. -/
set_option maxRecDepth 100000
set_option linter.unusedVariables false
set_option linter.unusedSimpArgs false
namespace Go.Proofs
open Go Go.Q
/-- a head of a turn stands in a slot -/
def HeadT (L : List (List UInt8)) (fr pages k t : Nat) : Prop := 1 ≤ t ∧ t ≤ 1048575 ∧ t % 2 = k ∧ L.getD (fr + k) [] = headB t pages
/-- what a slot makes of a state; 'o' is its map, where that is known -/
def OpQ (L : List (List UInt8)) (fr pages k : Nat) (o : Option (List UInt8 × List (List UInt8 × Int))) (s s' : Sv) : Prop :=
  (s' = s ∧ ∀ t, HeadT L fr pages k t → t ≤ s.turn) ∨ (∃ t, HeadT L fr pages k t ∧ s.turn < t ∧ s'.turn = t ∧ ∀ x, o = some x → s'.u = x.1 ∧ s'.N = x.2) ∨ (s' = s ∧ o = none ∧ ∃ t, HeadT L fr pages k t ∧ s.turn < t)
section
variable {w w' : World} {R : Value → World → Prop}
theorem Open_any {bd : Nat} {d : DK} {Sd : List Nat} (hd : DiskAt w bd d Sd) (ho : d.off = false) {fr to pages : Nat} (ht : to ≤ d.now.length) (hft : fr + 32 ≤ to) (hpg : pages = min ((to - fr) / 8 - 3) 500) {o0 o1 : Option (List UInt8 × List (List UInt8 × Int))} (h0 : ∀ x, o0 = some x → MapOk d.now fr 0 x.1 x.2) (h1 : ∀ x, o1 = some x → MapOk d.now fr 1 x.1 x.2)
    (hR : ∀ w' b ms mn s1 s, OpQ d.now fr pages 0 o0 sv0 s1 → OpQ d.now fr pages 1 o1 s1 s → w.heap.size ≤ b → w.heap.size ≤ ms → w.heap.size ≤ mn → Kp [] w w' → SpAt w' b bd ⟨d, fr, pages, s.turn, s.u, s.u, s.N, s.N⟩ Sd ms mn → R (.tuple #[.pointer (some ⟨b, 0, none⟩), .int .i64 0]) w') :
    callG Tryz.prog 5 #[.pointer (some ⟨bd, 0, none⟩), .int .i64 (fr : Nat), .int .i64 (to : Nat)] w R := by
  have hmost := hd.dlen
  have hlts := hd.lts
  refine space_Open_call ?_
  unfold space_Open space_Open_s10 space_Open_s9
  have e1 : IntKind.i64.wrap ((to : Int) - (fr : Int)) = ((to - fr : Nat) : Int) := by rw [w64 (by omega) (by omega)]; omega
  have e2 : (((to - fr : Nat) : Int) / 8) = (((to - fr) / 8 : Nat) : Int) := by simp
  have e3 : IntKind.i64.wrap (((to - fr) / 8 : Nat) : Int) = (((to - fr) / 8 : Nat) : Int) := wrap_nat64 (by omega)
  simp only [bq_lss, bV_b, decide_eq_true_eq, decide_eq_false_iff_not]
  refine ⟨fun hh => by omega, fun hf => ?_⟩
  refine Size_spec hd ?_
  simp only [bq_gtr, bV_b, decide_eq_true_eq, decide_eq_false_iff_not]
  refine ⟨fun hh => by omega, fun _ => ⟨fun hh => by omega, fun _ => ?_⟩⟩
  simp only [bq_sub, e1]
  rw [quo_of (by omega) (by omega), e2, e3]
  simp only [bq_lss]
  rw [decide_eq_false (by omega)]
  unfold space_Open_s8
  simp only [bV_b]
  refine ⟨fun hh => by simp at hh, fun _ => ?_⟩
  refine Off_spec hd ?_
  rw [ho]
  simp only [bV_b]
  refine ⟨fun hh => by simp at hh, fun _ => ?_⟩
  unfold space_Open_s7
  have e4 : IntKind.i64.wrap ((((to - fr) / 8 : Nat) : Int) - 1) = (((to - fr) / 8 - 1 : Nat) : Int) := by rw [w64 (by omega) (by omega)]; omega
  have e5 : IntKind.i64.wrap ((((to - fr) / 8 - 1 : Nat) : Int) - 2) = (((to - fr) / 8 - 3 : Nat) : Int) := by rw [w64 (by omega) (by omega)]; omega
  simp only [bq_sub, e1]
  rw [quo_of (by omega) (by omega), e2, e3]
  simp only [bq_sub, e4, e5]
  rw [show qG Tryz.prog (Builtin.min_ #[3, 3] 3 #[.int .i64 (((to - fr) / 8 - 3 : Nat) : Int), .int .i64 500]) w = fun K => K (.int .i64 (pages : Nat)) from ?_]
  rotate_left
  · funext K
    rw [qG_of run_min, hpg]
    congr 2
    omega
  dsimp only
  rw [bldSp]
  refine argB fun b w1 hb1 hb k1 => ?_
  refine SMap.new fun m w2 hm2 k2 hM => ?_
  rw [nk_p, fa_p, fa_p]
  have hb2 := k2.get hb (by simp)
  rw [stF hb2 (by simp [arC, z63]) rfl]
  have lb := lt_of_blk hb
  have z1 := k1.size
  have z2 := k2.size
  generalize hw3 : setBlk w2 b _ = w3
  have hb3 : w3.heap[b]? = some (.cells (opC bd fr pages sv0 m z63 none) 59) := by rw [← hw3]; exact heap_self (live_of hb2)
  have k3 : Kp [b] w2 w3 := by rw [← hw3]; exact (Kp.refl _ _).setBlk (.inl (by simp)) _
  have hM3 := hM.keep k3 (by simp; omega)
  have k03 : Kp [] w w3 := (k1.trans' k2).trans k3 fun x hx hlt => by simp at hx; omega
  have z3 := k3.size
  clear hw3 hM hb hb2
  unfold space_Open_s6 space_Open_L5
  have step : ∀ (k : Nat) (o : Option (List UInt8 × List (List UInt8 × Int))) (s : Sv) (m : Nat) (w' : World) (NN : List Value → World → Prop), k < 2 → (∀ x, o = some x → MapOk d.now fr k x.1 x.2) → w'.heap[b]? = some (.cells (opC bd fr pages s m z63 none) 59) → s.u.length = 63 → s.turn ≤ 1048575 → SMap w' m s.N → w.heap.size ≤ m → m ≠ b → Kp [] w w' →
      (∀ w'' m'' s', OpQ d.now fr pages k o s s' → w''.heap[b]? = some (.cells (opC bd fr pages s' m'' z63 none) 59) → s'.u.length = 63 → s'.turn ≤ 1048575 → SMap w'' m'' s'.N → w.heap.size ≤ m'' → m'' ≠ b → Kp [] w w'' → NN [.pointer (some ⟨bd, 0, none⟩), .int .i64 (fr : Nat), .pointer (some ⟨b, 0, none⟩), .int .i64 ((k + 1 : Nat) : Int)] w'') →
      space_Open_s3 R NN (.pointer (some ⟨bd, 0, none⟩)) (.int .i64 (fr : Nat)) (.pointer (some ⟨b, 0, none⟩)) (.int .i64 (k : Nat)) w' := by
    intro k o s m w' NN hk hh hb' hu htn hM' hm hmb hkp hN
    have e6 : IntKind.i64.wrap ((fr : Int) + (k : Int)) = ((fr + k : Nat) : Int) := by rw [w64 (by omega) (by omega)]; omega
    have e7 : IntKind.i64.wrap ((k : Int) + 1) = ((k + 1 : Nat) : Int) := by rw [w64 (by omega) (by omega)]; simp
    have hd' := hd.keep hkp (by simp)
    unfold space_Open_s3
    simp only [bq_add, e6]
    refine Read_spec hd' _ ?_
    rw [DK.read_ok ho (by omega), ex0, ex1]
    simp only [bq_neq, bV_b, decide_eq_true_eq]
    refine ⟨fun h => by simp at h, fun _ => ?_⟩
    have hlen : (d.now.getD (fr + k) []).length = 32 := by
      have hi : fr + k < d.now.length := by omega
      have : d.now.getD (fr + k) [] = d.now[fr + k] := by simp [List.getD, hi]
      rw [this]; exact hd.sz _ (List.getElem_mem _)
    generalize hB : d.now.getD (fr + k) [] = B at *
    have hHT : ∀ t', HeadT d.now fr pages k t' → t' = takeN B 4 / 4096 ∧ B = headB t' pages ∧ 1 ≤ t' ∧ t' % 2 = k := fun t' ⟨a1, a2, a3, a4⟩ => by
      rw [hB] at a4
      have hx : takeN B 4 = t' * 4096 + pages := by rw [a4]; exact take_head a2 (by omega)
      exact ⟨by omega, a4, a1, a3⟩
    refine Take_spec B (by omega) ?_
    rw [if_neg (by omega), shr_of (by omega) (by decide)]
    have hlt := takeN_lt B 4
    have e8 : ((takeN B 4 : Int) / 2 ^ (12 : Int).toNat) = ((takeN B 4 / 4096 : Nat) : Int) := by simp
    rw [e8]
    have hlt2 : takeN B 4 / 4096 ≤ 1048575 := by omega
    generalize htt : takeN B 4 / 4096 = t at *
    have stayQ : OpQ d.now fr pages k o s s → ∀ w'', Kp [] w' w'' → space_Open_s1 R NN (.pointer (some ⟨bd, 0, none⟩)) (.int .i64 (fr : Nat)) (.pointer (some ⟨b, 0, none⟩)) (.int .i64 (k : Nat)) w'' := fun he w'' kk => by
      unfold space_Open_s1
      simp only [bq_add, e7]
      exact hN w'' m s he (kk.get hb' (by simp)) hu htn (hM'.keep kk (by simp)) hm hmb (hkp.trans' kk)
    have stay : (1 ≤ t → t % 2 = k → B = headB t pages → t ≤ s.turn) → ∀ w'', Kp [] w' w'' → space_Open_s1 R NN (.pointer (some ⟨bd, 0, none⟩)) (.int .i64 (fr : Nat)) (.pointer (some ⟨b, 0, none⟩)) (.int .i64 (k : Nat)) w'' := fun he => stayQ (.inl ⟨rfl, fun t' ht' => by
      obtain ⟨a1, a2, a3, a4⟩ := hHT t' ht'
      rw [a1] at a2 a3 a4
      rw [a1]
      exact he a3 a4 a2⟩)
    simp only [bq_lss, bV_b, decide_eq_true_eq, decide_eq_false_iff_not]
    refine ⟨fun hlt1 => stay (fun h => by omega) w' (Kp.refl _ _), fun hge1 => ?_⟩
    simp only [bq_gtr, bV_b, decide_eq_true_eq, decide_eq_false_iff_not]
    refine ⟨fun hlt1 => by omega, fun _ => ?_⟩
    have e9 : ((t : Int) % 2) = ((t % 2 : Nat) : Int) := by simp
    rw [rem_of (by omega) (by omega), e9]
    simp only [bq_neq, bV_b, decide_eq_true_eq, decide_eq_false_iff_not]
    refine ⟨fun hne => stay (fun _ h => by simp at hne; omega) w' (Kp.refl _ _), fun heq => ?_⟩
    have heq : t % 2 = k := by simp at heq; omega
    have hsp : Sp0 w' b bd fr pages d Sd := Sp0.of hb' rfl rfl rfl hd' (fun hm => by have := hlts _ hm; omega) (by omega) (by omega)
    refine head_spec hsp t (by omega) fun w2 kk2 => ?_
    rw [bq_nes]
    simp only [bV_b]
    refine ⟨fun hne => stay (fun _ _ h => by simp at hne; exact absurd h hne) w2 kk2, fun heqB => ?_⟩
    have heqB : B = headB t pages := by simpa using heqB
    rw [nk_p, fa_p, opC_ld (kk2.get hb' (by simp))]
    simp only [bq_leq, bV_b, decide_eq_true_eq, decide_eq_false_iff_not]
    refine ⟨fun hle => stay (fun _ _ _ => by omega) w2 kk2, fun hgt => ?_⟩
    have hHt : HeadT d.now fr pages k t := ⟨by omega, hlt2, heq, by rw [hB]; exact heqB⟩
    have lb2 := lt_of_blk hb'
    have y1 := hkp.size
    have y2 := kk2.size
    unfold space_Open_s2
    have good : ∀ (w4 : World) (m' : Nat) (u : List UInt8) (N : List (List UInt8 × Int)), w2.heap.size ≤ m' → u.length = 63 → SMap w4 m' N → Kp [] w2 w4 → (∀ x, o = some x → u = x.1 ∧ N = x.2) →
        (qG Tryz.prog (Instr.extract (.tuple #[.agg (stC u (.map (some m'))), .bool true]) 0) w4 fun t103 => qG Tryz.prog (Instr.extract (.tuple #[.agg (stC u (.map (some m'))), .bool true]) 1) w4 fun t104 =>
          newG (zc Tryz.prog 57) 57 w4 fun t13 w => stn 64 t13 t103 w fun w =>
          bV t104
          (ldn 64 t13 w fun t108 => nk (.pointer (some ⟨b, 0, none⟩)) fun t110 => fa 4 t110 fun t111 => stn 64 t111 t108 w fun w => nk (.pointer (some ⟨b, 0, none⟩)) fun t112 => fa 3 t112 fun t113 => st1 t113 (.int .i64 (t : Nat)) w fun w => space_Open_s1 R NN (.pointer (some ⟨bd, 0, none⟩)) (.int .i64 (fr : Nat)) (.pointer (some ⟨b, 0, none⟩)) (.int .i64 (k : Nat)) w)
          (space_Open_s1 R NN (.pointer (some ⟨bd, 0, none⟩)) (.int .i64 (fr : Nat)) (.pointer (some ⟨b, 0, none⟩)) (.int .i64 (k : Nat)) w)) := by
      intro w4 m' u N hm' hu4 hM4 kk4 ho4
      rw [ex0, ex1]
      refine newB fun r w5 hr5 hr kk5 => ?_
      rw [stA hr (by rw [zcS]; exact stC_size (by simp [z63]) _) (stC_size hu4 _) (stC_one rfl)]
      generalize hw6 : setBlk w5 r (.cells (stC u (.map (some m'))) 57) = w6
      have hr6 : w6.heap[r]? = some (.cells (stC u (.map (some m'))) 57) := by rw [← hw6]; exact heap_self (live_of hr)
      have kk6 : Kp [r] w5 w6 := by rw [← hw6]; exact (Kp.refl _ _).setBlk (.inl (by simp)) _
      have lr := lt_of_blk hr
      have y4 := kk4.size
      have y5 := kk5.size
      have lm' := hM4.lt
      simp only [bV_b]
      refine ⟨fun _ => ?_, fun hh => by simp at hh⟩
      have hb6 := kk6.get (kk5.get (kk4.get (kk2.get hb' (by simp)) (by simp)) (by simp)) (by simp; omega)
      rw [ldA hr6 (stC_size hu4 _), nk_p, fa_p, opC_st hb6 hu hu4]
      generalize hw7 : setBlk w6 b (.cells (opC bd fr pages ⟨s.turn, u, s.N⟩ m' z63 none) 59) = w7
      have hb7 : w7.heap[b]? = some (.cells (opC bd fr pages ⟨s.turn, u, s.N⟩ m' z63 none) 59) := by rw [← hw7]; exact heap_self (live_of hb6)
      have kk7 : Kp [b] w6 w7 := by rw [← hw7]; exact (Kp.refl _ _).setBlk (.inl (by simp)) _
      rw [nk_p, fa_p, opC_turn hb7]
      generalize hw8 : setBlk w7 b (.cells (opC bd fr pages ⟨t, u, s.N⟩ m' z63 none) 59) = w8
      have hb8 : w8.heap[b]? = some (.cells (opC bd fr pages ⟨t, u, s.N⟩ m' z63 none) 59) := by rw [← hw8]; exact heap_self (live_of hb7)
      have kk8 : Kp [b] w7 w8 := by rw [← hw8]; exact (Kp.refl _ _).setBlk (.inl (by simp)) _
      unfold space_Open_s1
      simp only [bq_add, e7]
      refine hN w8 m' ⟨t, u, N⟩ (.inr (.inl ⟨t, hHt, by omega, rfl, ho4⟩)) ?_ hu4 hlt2 ?_ (by omega) (by omega) ?_
      · rw [hb8]; rfl
      · exact (((hM4.keep kk5 (by simp)).keep kk6 (by simp; omega)).keep kk7 (by simp; omega)).keep kk8 (by simp; omega)
      · exact (((((hkp.trans' kk2).trans' kk4).trans' kk5).trans kk6 fun y hy hl => by simp at hy; omega).trans kk7 fun y hy hl => by simp at hy; omega).trans kk8 fun y hy hl => by simp at hy; omega
    cases o with
    | some x =>
      have h5 := hh x rfl
      have hpgs := h5.pg
      rw [← heq] at hpgs
      refine read_spec (hsp.keep kk2 (by simp) (by simp)) ho h5.len h5.vals h5.fit h5.srt hpgs fun w4 m' hm' hM4 kk4 => ?_
      exact good w4 m' x.1 x.2 hm' h5.len hM4 kk4 fun y hy => by cases hy; exact ⟨rfl, rfl⟩
    | none =>
      refine reads_any (hsp.keep kk2 (by simp) (by simp)) ho (fun w4 kk4 => ?_) fun w4 m' u N hm' hu4 hM4 kk4 => good w4 m' u N hm' hu4 hM4 kk4 fun y hy => by cases hy
      rw [ex0, ex1]
      refine newB fun r w5 hr5 hr kk5 => ?_
      rw [stA hr (by rw [zcS]; exact stC_size (by simp [z63]) _) (stC_size (by simp [z63]) _) (stC_one rfl)]
      have y4 := kk4.size
      simp only [bV_b]
      refine ⟨fun hh => by simp at hh, fun _ => stayQ (.inr (.inr ⟨rfl, rfl, t, hHt, by omega⟩)) _ ?_⟩
      exact ((kk2.trans' kk4).trans' kk5).trans ((Kp.refl _ w5).setBlk (.inl (List.mem_singleton.2 rfl)) _) fun y hy hl => by simp at hy; omega
  have fin : ∀ (s1 s : Sv) (m : Nat) (w' : World), OpQ d.now fr pages 0 o0 sv0 s1 → OpQ d.now fr pages 1 o1 s1 s → w'.heap[b]? = some (.cells (opC bd fr pages s m z63 none) 59) → s.u.length = 63 → s.turn ≤ 1048575 → SMap w' m s.N → w.heap.size ≤ m → m ≠ b → Kp [] w w' → space_Open_s0 R (.pointer (some ⟨b, 0, none⟩)) w' := by
    intro s1 s m w' hs1 hs hb' hu htn hM' hm hmb hkp
    unfold space_Open_s0
    rw [nk_p, fa_p, opC_sure hb' hu]
    refine copied_spec hu hM' fun w2 mn hmn hM2 kk2 => ?_
    have hb2 := kk2.get hb' (by simp)
    have lb2 := lt_of_blk hb'
    have lm2 := hM'.lt
    have y1 := hkp.size
    have y2 := kk2.size
    rw [nk_p, fa_p, opC_now hb2 hu (by simp [z63]) hu]
    generalize hw3 : setBlk w2 b (.cells (opC bd fr pages s m s.u (some mn)) 59) = w3
    have hb3 : w3.heap[b]? = some (.cells (opC bd fr pages s m s.u (some mn)) 59) := by rw [← hw3]; exact heap_self (live_of hb2)
    have kk3 : Kp [b] w2 w3 := by rw [← hw3]; exact (Kp.refl _ _).setBlk (.inl (by simp)) _
    have kall : Kp [] w w3 := (hkp.trans' kk2).trans kk3 fun y hy hl => by simp at hy; omega
    refine hR w3 b m mn s1 s hs1 hs (by omega) hm (by omega) kall ⟨hb3, hd.keep kall (by simp), (hM'.keep kk2 (by simp)).keep kk3 (by simp; omega), hM2.keep kk3 (by simp; omega), hu, hu, ?_, by show fr + 8 * (pages + 3) ≤ d.now.length; omega, by show 1 ≤ pages ∧ pages ≤ 500; omega, by show s.turn < 2 ^ 20; omega⟩
    simp only [List.nodup_cons, List.mem_cons, not_or]
    have out : ∀ x, w.heap.size ≤ x → x ∉ Sd := fun x hx hm => by have := hlts x hm; omega
    exact ⟨⟨by omega, by omega, out b (by omega)⟩, ⟨by omega, out m (by omega)⟩, out mn (by omega), hd.nodup⟩
  refine loop_inv (fun n xs w' => ∃ k s1 s m, k ≤ 2 ∧ n = 2 - k ∧ xs = [.pointer (some ⟨bd, 0, none⟩), .int .i64 (fr : Nat), .pointer (some ⟨b, 0, none⟩), .int .i64 (k : Nat)] ∧ (if k = 0 then s = sv0 else if k = 1 then OpQ d.now fr pages 0 o0 sv0 s else OpQ d.now fr pages 0 o0 sv0 s1 ∧ OpQ d.now fr pages 1 o1 s1 s) ∧ w'.heap[b]? = some (.cells (opC bd fr pages s m z63 none) 59) ∧ s.u.length = 63 ∧ s.turn ≤ 1048575 ∧ SMap w' m s.N ∧ w.heap.size ≤ m ∧ m ≠ b ∧ Kp [] w w') ?_ (m := 2) ⟨0, sv0, sv0, m, by omega, rfl, rfl, rfl, hb3, by simp [sv0, z63], by simp [sv0], hM3, by omega, by omega, k03⟩
  rintro n NN xs w' ⟨k, s1, s, m, hk, rfl, rfl, hs, hb', hu, htn, hM', hm, hmb, hkp⟩ hN
  unfold space_Open_L5F space_Open_s4
  dsimp only
  simp only [bq_lss, bV_b, decide_eq_true_eq, decide_eq_false_iff_not]
  refine ⟨fun hlt => ?_, fun hge => ?_⟩
  · rcases (show k = 0 ∨ k = 1 by omega) with rfl | rfl
    · have hs : s = sv0 := hs
      refine step 0 o0 s m w' NN (by omega) h0 hb' hu htn hM' hm hmb hkp fun w'' m'' s' q a1 a2 a3 a4 a5 a6 a7 => ?_
      exact hN 1 _ w'' (by omega) ⟨1, s', s', m'', by omega, rfl, rfl, by rw [hs] at q; exact q, a1, a2, a3, a4, a5, a6, a7⟩
    · have hs : OpQ d.now fr pages 0 o0 sv0 s := hs
      refine step 1 o1 s m w' NN (by omega) h1 hb' hu htn hM' hm hmb hkp fun w'' m'' s' q a1 a2 a3 a4 a5 a6 a7 => ?_
      exact hN 0 _ w'' (by omega) ⟨2, s, s', m'', by omega, rfl, rfl, ⟨hs, q⟩, a1, a2, a3, a4, a5, a6, a7⟩
  · have : k = 2 := by omega
    subst this
    have hs : OpQ d.now fr pages 0 o0 sv0 s1 ∧ OpQ d.now fr pages 1 o1 s1 s := hs
    exact fin s1 s m w' hs.1 hs.2 hb' hu htn hM' hm hmb hkp
end
end Go.Proofs

/- Layer 13: a commit, whatever the power does; what an open finds (no program in sight). -/
set_option maxRecDepth 100000
set_option linter.unusedVariables false
set_option linter.unusedSimpArgs false
namespace Go.Proofs
open Go Go.Q
theorem pairs_eq {a c : List (List UInt8 × Int)} (ha : KeyS a) (hc : KeyS c) (h : a.Perm c) : a = c := by
  unfold KeyS at ha hc
  rw [List.pairwise_map] at ha hc
  exact List.Perm.eq_of_pairwise (le := fun x y => lexL x.1 y.1 = true) (fun x y _ _ h1 h2 => by have := lexL_asymm h1; rw [h2] at this; cases this) ha hc h
section
variable {L M : List (List UInt8)} {t : Nat} {u nu : List UInt8} {ns ns' : List (List UInt8 × Int)} {bs bs' : List (List UInt8)}
theorem Keeps.torn (h : Keeps L t u ns bs) (hl : M.length = 100) (hz : ∀ x ∈ M, x.length = 32) {m : Nat} (hm : m ≤ 32) (hh : sec M (3 + (t + 1) % 2) = mixB t m) (hn : mixB t m ≠ headB (t + 1) 9) (ho : ∀ i, i ≠ 3 + (t + 1) % 2 → sec M i = sec L i) : Keeps M t u ns bs := by
  have hL := h.len
  refine ⟨hl, hz, h.lu, h.zero, ?_, fun ht => ?_, ⟨m, hm, hh, hn⟩, fun n hn hu => ?_, h.fine, h.ks⟩
  · rw [ho _ (by omega)]; exact h.own
  · rw [← h.mp ht]
    exact pgs_congr (by omega) (by omega) fun i h1 h2 => ho i (by omega)
  · rw [← h.pg n hn hu]
    have := hasU_pos hu
    exact pgs_congr (by omega) (by omega) fun i h1 h2 => ho i (by omega)
theorem Keeps.next (h : Keeps L t u ns bs) (ht : t ≤ 49) (hl : M.length = 100) (hz : ∀ x ∈ M, x.length = 32) (hh : sec M (3 + (t + 1) % 2) = headB (t + 1) 9) (ho : ∀ i, i ≠ 3 + (t + 1) % 2 → sec M i = sec L i)
    (hu : nu.length = 63) (hf : Fine ns') (hk : KeyS ns') (hm : pgs L (3 + 8 * (1 + (t + 1) % 2)) = bytesP (lay 200 (stL nu ns'))) (hp : ∀ n : Nat, n ≤ 9 → hasU nu (n : Int) = true → pgs L (3 + 8 * (n + 2)) = bs'.getD n []) : Keeps M (t + 1) nu ns' bs' := by
  have hL := h.len
  refine ⟨hl, hz, hu, fun h => by omega, ?_, fun _ => ?_, ⟨0, by omega, ?_, ?_⟩, fun n hn hnu => ?_, hf, hk⟩
  · rw [hh]; unfold ownB; rw [if_neg (by omega)]
  · rw [← hm]
    exact pgs_congr (by omega) (by omega) fun i h1 h2 => ho i (by omega)
  · rw [ho _ (by omega), show 3 + (t + 1 + 1) % 2 = 3 + t % 2 by omega, h.own]
    unfold mixB ownB oldB
    by_cases h0 : t = 0
    · subst h0; rfl
    · rw [if_neg h0, if_neg (by omega)]; rfl
  · unfold mixB oldB
    rw [List.take_zero, List.nil_append, List.drop_zero]
    split
    · exact nought_not (by omega) (by omega)
    · intro he
      have := head_inj (by omega) (by omega) he
      omega
  · rw [← hp n hn hnu]
    have := hasU_pos hnu
    exact pgs_congr (by omega) (by omega) fun i h1 h2 => ho i (by omega)
theorem Keeps.mapOk (h : Keeps L t u ns bs) (ht : 1 ≤ t) : MapOk L 3 (t % 2) u ns :=
  ⟨h.lu, fun x hx => by have := h.fine.vl x hx; omega, fit_stL h.lu h.fine, sort_stL h.ks, h.mp ht⟩
/-- what is known of a slot's map -/
def oK (t : Nat) (u : List UInt8) (ns : List (List UInt8 × Int)) (k : Nat) : Option (List UInt8 × List (List UInt8 × Int)) := if 1 ≤ t ∧ t % 2 = k then some (u, ns) else none
theorem Keeps.oK_ok (h : Keeps L t u ns bs) (k : Nat) : ∀ x, oK t u ns k = some x → MapOk L 3 k x.1 x.2 := by
  intro x hx
  unfold oK at hx
  split at hx
  · rename_i hc
    cases hx
    rw [← hc.2]
    exact h.mapOk hc.1
  · cases hx
theorem Keeps.opened (h : Keeps L t u ns bs) (ht : t ≤ 50) {s1 s : Sv} (h0 : OpQ L 3 9 0 (oK t u ns 0) sv0 s1) (h1 : OpQ L 3 9 1 (oK t u ns 1) s1 s) : s = ⟨t, u, ns⟩ := by
  obtain ⟨m, m1, m2, m3⟩ := h.other
  have hoth : ∀ t', HeadT L 3 9 ((t + 1) % 2) t' → t' < t := fun t' ⟨a1, a2, a3, a4⟩ => by
    have a4 : sec L (3 + (t + 1) % 2) = headB t' 9 := a4
    rw [m2] at a4
    exact mix_head ht m1 m3 a1 a2 a4
  have hown : ∀ t', HeadT L 3 9 (t % 2) t' → 1 ≤ t ∧ t' = t := fun t' ⟨a1, a2, a3, a4⟩ => by
    have a4 : sec L (3 + t % 2) = headB t' 9 := a4
    rw [h.own] at a4
    unfold ownB at a4
    split at a4
    · exact absurd a4 (nought_not a1 a2)
    · exact ⟨by omega, (head_inj (by omega) a2 a4).symm⟩
  have hHt : 1 ≤ t → HeadT L 3 9 (t % 2) t := fun h1 => ⟨h1, by omega, rfl, by
    have := h.own
    unfold ownB at this
    rw [if_neg (by omega)] at this
    exact this⟩
  by_cases hz : t = 0
  · subst hz
    obtain ⟨z1, z2⟩ := h.zero rfl
    subst z1; subst z2
    have n0 : ∀ t', ¬ HeadT L 3 9 0 t' := fun t' hh => by have := (hown t' hh).1; omega
    have n1 : ∀ t', ¬ HeadT L 3 9 1 t' := fun t' hh => by have := hoth t' hh; omega
    have e0 : s1 = sv0 := by
      rcases h0 with h0 | ⟨t', a, _⟩ | ⟨_, _, t', a, _⟩
      · exact h0.1
      · exact absurd a (n0 t')
      · exact absurd a (n0 t')
    have e1 : s = s1 := by
      rcases h1 with h1 | ⟨t', a, _⟩ | ⟨_, _, t', a, _⟩
      · exact h1.1
      · exact absurd a (n1 t')
      · exact absurd a (n1 t')
    rw [e1, e0]; rfl
  · have hHt := hHt (by omega)
    rcases (show t % 2 = 0 ∨ t % 2 = 1 by omega) with hp | hp
    · rw [hp] at hHt hown
      rw [show (t + 1) % 2 = 1 by omega] at hoth
      have ok0 : oK t u ns 0 = some (u, ns) := by unfold oK; rw [if_pos ⟨by omega, hp⟩]
      have e0 : s1 = ⟨t, u, ns⟩ := by
        rcases h0 with ⟨_, h0⟩ | ⟨t', a, b, c, e⟩ | ⟨_, h0, _⟩
        · have := h0 t hHt; simp [sv0] at this; omega
        · have := (hown t' a).2
          obtain ⟨e1, e2⟩ := e _ ok0
          cases s1
          simp only at c e1 e2
          rw [c, e1, e2, this]
        · rw [ok0] at h0; cases h0
      have e1 : s = s1 := by
        rcases h1 with h1 | ⟨t', a, b, _⟩ | ⟨_, _, t', a, b⟩
        · exact h1.1
        · have := hoth t' a; rw [e0] at b; simp only at b; omega
        · have := hoth t' a; rw [e0] at b; simp only at b; omega
      rw [e1, e0]
    · rw [hp] at hHt hown
      rw [show (t + 1) % 2 = 0 by omega] at hoth
      have ok1 : oK t u ns 1 = some (u, ns) := by unfold oK; rw [if_pos ⟨by omega, hp⟩]
      have e0 : s1.turn < t := by
        rcases h0 with ⟨h0, _⟩ | ⟨t', a, b, c, e⟩ | ⟨h0, _⟩
        · rw [h0]; simp [sv0]; omega
        · have := hoth t' a; omega
        · rw [h0]; simp [sv0]; omega
      rcases h1 with ⟨_, h1⟩ | ⟨t', a, b, c, e⟩ | ⟨_, h1, _⟩
      · have := h1 t hHt; omega
      · have := (hown t' a).2
        obtain ⟨e1, e2⟩ := e _ ok1
        cases s
        simp only at c e1 e2
        rw [c, e1, e2, this]
      · rw [ok1] at h1; cases h1
end
/-! ### a commit -/
/-- the power is off: as it was, or as it was being committed -/
structure Dead2 (d : DK) (k t : Nat) (u nu : List UInt8) (ns ns' : List (List UInt8 × Int)) (bs bs' : List (List UInt8)) : Prop where
  off : d.off = true
  few : d.l.length ≤ 100 * k
  keeps : ∀ ks, Keeps (d.crash ks).now t u ns bs ∨ Keeps (d.crash ks).now (t + 1) nu ns' bs'
theorem Dead.two {d : DK} {k t : Nat} {u nu : List UInt8} {ns ns' : List (List UInt8 × Int)} {bs bs' : List (List UInt8)} (h : Dead d k t u ns bs) : Dead2 d k t u nu ns ns' bs bs' := ⟨h.off, h.few, fun ks => .inl (h.keeps ks)⟩
theorem Rel.commit {s : SP} {qs qn : St} {k : Nat} (h : Rel s qs qn k) (hk : k < 50) {N : List (List UInt8 × Int)} (hN : N.Perm s.nn) (hS : KeyS N) :
    ((s.commit N).2 = (rCommit qs qn).2 ∧ (s.commit N).2 ≠ 30 ∧ Rel (s.commit N).1 (rCommit qs qn).1.1 (rCommit qs qn).1.2 (k + 1)) ∨
    ((s.commit N).2 = 30 ∧ (rCommit qs qn).1 = ({ qn with t := qs.t + 1 }, { qn with t := qs.t + 1 }) ∧ Dead2 (s.commit N).1.d (k + 1) s.turn s.su s.nu qs.ns qn.ns qs.bs qn.bs) := by
  have hNe : N = qn.ns := pairs_eq hS h.kN (hN.trans h.pN.symm)
  subst hNe
  have htk := h.tk
  have hfew := h.few
  have hnow := h.now100
  have hfineN : Fine qn.ns := h.fN.perm h.pN
  have hall : (qn.ns.all fun x => inN13 s x.2) = (qn.ns.all fun x => rIn qn x.2) := by
    congr 1
    funext x
    exact h.inN x.2
  have hT := bytesP_len (lay_len (kd := 200) (fit_stL h.lnu hfineN))
  unfold SP.commit rCommit
  rw [hall]
  by_cases ha : (qn.ns.all fun x => rIn qn x.2) = true
  rotate_left
  · have ha : (qn.ns.all fun x => rIn qn x.2) = false := by simpa using ha
    rw [if_pos ha, if_neg (by rw [ha]; simp)]
    exact .inl ⟨rfl, by simp, h.more⟩
  rw [if_neg (by rw [ha]; simp), if_pos ha, if_neg (show ¬ 1048575 ≤ s.turn by omega)]
  rw [h.fr, h.pg]
  have hw := wrs_F 8 h.on (a := 3 + 8 * (1 + (s.turn + 1) % 2)) (by omega) (t := bytesP (lay 200 (stL s.nu qn.ns))) (by rw [hT])
  generalize wrs 8 s.d (3 + 8 * (1 + (s.turn + 1) % 2)) (bytesP (lay 200 (stL s.nu qn.ns))) = r1 at *
  have hfl1 := wr_flow h.flow hw
  obtain ⟨E, e1, e2, e3, e4⟩ := hw.log
  have hk1 : Keeps r1.1.sure s.turn s.su qs.ns qs.bs := by rw [hw.sure]; exact h.keeps
  have hl1 : ∀ x ∈ r1.1.l, ¬ Prot s.turn s.su x.1 ∧ x.1 < 100 ∧ x.2.length = 32 := fun x hx => by
    rw [e1, List.mem_append] at hx
    rcases hx with hx | hx
    · exact h.log x hx
    · have := e3 x hx
      refine ⟨?_, by omega, this.2.2⟩
      rintro (hh | hh | hh | ⟨n, n1, n9, hn, n2, n3⟩) <;> omega
  have hlen1 : r1.1.l.length ≤ 100 * (k + 1) := by rw [e1, List.length_append]; omega
  rcases hw.code with ⟨c1, c2, c3⟩ | ⟨c1, c2⟩
  rotate_left
  · rw [if_pos (by rw [c1]; simp)]
    exact .inr ⟨c1, rfl, Dead.two ⟨c2, hlen1, fun ks => keeps_crash hk1 hl1 ks⟩⟩
  rw [if_neg (by rw [c1]; simp)]
  rcases flush_F c2 with ⟨f1, f2, f3, f4, f5⟩ | ⟨f1, f2, f3, f4, f5⟩
  rotate_left
  · rw [if_pos (by rw [f1]; simp)]
    exact .inr ⟨f1, rfl, Dead.two ⟨f2, by show r1.1.flush.1.l.length ≤ _; rw [f4]; exact hlen1, fun ks => keeps_crash (by rw [f3]; exact hk1) (by rw [f4]; exact hl1) ks⟩⟩
  rw [if_neg (by rw [f1]; simp)]
  rw [← hfl1] at f3
  generalize r1.1.flush.1 = d2 at *
  have hk2n : Keeps r1.1.now s.turn s.su qs.ns qs.bs := keeps_now hk1 hfl1 hl1
  have hk2 : Keeps d2.sure s.turn s.su qs.ns qs.bs := by rw [f3]; exact hk2n
  have hmap : pgs d2.sure (3 + 8 * (1 + (s.turn + 1) % 2)) = bytesP (lay 200 (stL s.nu qn.ns)) := by
    rw [f3]
    exact pgs_text (by rw [hk2n.len]; omega) hT c3
  have hpgs : ∀ n : Nat, n ≤ 9 → hasU s.nu (n : Int) = true → pgs d2.sure (3 + 8 * (n + 2)) = qn.bs.getD n [] := fun n hn hu => by
    have := hasU_pos hu
    rw [f3, ← h.byt n hn hu]
    exact pgs_congr (by rw [hk2n.len]; omega) (by omega) fun i i1 i2 => hw.out (by omega)
  have hd2len : d2.now.length = 100 := by rw [f5]; exact hk2n.len
  have hb := d2.burns_now
  have hHl := headB_len (s.turn + 1) 9
  rcases burns_F d2 f2 with ⟨b1, b2⟩ | ⟨b1, b2⟩
  rotate_left
  · have hwr : d2.write ((3 + (s.turn + 1) % 2 : Nat) : Int) (headB (s.turn + 1) 9) = (d2.burns.1, 30) := by
      unfold DK.write
      rw [if_pos ⟨by omega, hHl⟩, if_neg (by rw [b1]; simp)]
    rw [hwr, if_pos (by simp)]
    refine .inr ⟨rfl, rfl, Dead.two ⟨b2, by show d2.burns.1.l.length ≤ _; rw [hb.2.1, f4]; simp, fun ks => keeps_crash (by rw [hb.2.2]; exact hk2) (by rw [hb.2.1, f4]; simp) ks⟩⟩
  have hwr : d2.write ((3 + (s.turn + 1) % 2 : Nat) : Int) (headB (s.turn + 1) 9) = ({ d2.burns.1 with now := d2.now.set (3 + (s.turn + 1) % 2) (headB (s.turn + 1) 9), l := d2.l ++ [(3 + (s.turn + 1) % 2, headB (s.turn + 1) 9)] }, 0) := by
    unfold DK.write
    rw [if_pos ⟨by omega, hHl⟩, if_pos b1, Int.toNat_natCast]
  rw [hwr, if_neg (by simp), f4, List.nil_append]
  have hsetl : (d2.sure.set (3 + (s.turn + 1) % 2) (headB (s.turn + 1) 9)).length = 100 := by rw [List.length_set]; exact hk2.len
  have hd2s : d2.burns.1.sure = d2.sure := hb.2.2
  generalize hd3 : ({ d2.burns.1 with now := d2.now.set (3 + (s.turn + 1) % 2) (headB (s.turn + 1) 9), l := [(3 + (s.turn + 1) % 2, headB (s.turn + 1) 9)] } : DK) = d3
  have d3off : d3.off = false := by rw [← hd3]; exact b2
  have d3l : d3.l = [(3 + (s.turn + 1) % 2, headB (s.turn + 1) 9)] := by rw [← hd3]
  have d3s : d3.sure = d2.sure := by rw [← hd3]; exact hd2s
  have d3n : d3.now = d2.now.set (3 + (s.turn + 1) % 2) (headB (s.turn + 1) 9) := by rw [← hd3]
  dsimp only
  have lt2 : 3 + (s.turn + 1) % 2 < d2.sure.length := by rw [hk2.len]; omega
  have hset : ∀ (x : List UInt8) (i : Nat), sec (d2.sure.set (3 + (s.turn + 1) % 2) x) i = if i = 3 + (s.turn + 1) % 2 then x else sec d2.sure i := fun x i => sec_set lt2
  have hsz : ∀ x : List UInt8, x.length = 32 → ∀ y ∈ d2.sure.set (3 + (s.turn + 1) % 2) x, y.length = 32 := fun x hx y hy => by
    rcases List.mem_or_eq_of_mem_set hy with hy | hy
    · exact hk2.sz y hy
    · rw [hy]; exact hx
  have hnext : ∀ x : List UInt8, x = headB (s.turn + 1) 9 → Keeps (d2.sure.set (3 + (s.turn + 1) % 2) x) (s.turn + 1) s.nu qn.ns qn.bs := fun x hx => by
    subst hx
    refine hk2.next (by omega) hsetl (hsz _ hHl) ?_ (fun i hi => ?_) h.lnu hfineN h.kN hmap hpgs
    · rw [hset, if_pos rfl]
    · rw [hset, if_neg hi]
  rcases flush_F d3off with ⟨g1, g2, g3, g4, g5⟩ | ⟨g1, g2, g3, g4, g5⟩
  rotate_left
  · rw [if_pos (by rw [g1]; simp)]
    refine .inr ⟨g1, rfl, ⟨g2, by show d3.flush.1.l.length ≤ _; rw [g4, d3l]; simp; omega, fun ks => ?_⟩⟩
    show Keeps (crashL d3.flush.1.l ks d3.flush.1.sure) _ _ _ _ ∨ Keeps (crashL d3.flush.1.l ks d3.flush.1.sure) _ _ _ _
    rw [g4, g3, d3l, d3s]
    cases ks with
    | nil => exact .inl hk2
    | cons j ks =>
      have hcr : crashL [(3 + (s.turn + 1) % 2, headB (s.turn + 1) 9)] (j :: ks) d2.sure = d2.sure.set (3 + (s.turn + 1) % 2) ((headB (s.turn + 1) 9).take (max 0 (min j 32)).toNat ++ (sec d2.sure (3 + (s.turn + 1) % 2)).drop (max 0 (min j 32)).toNat) := by
        unfold crashL
        cases ks <;> rfl
      rw [hcr]
      obtain ⟨m, m1, m2, m3⟩ := hk2.other
      have hj : (max 0 (min j 32)).toNat ≤ 32 := by omega
      rw [m2, mix_mix _ m1 hj]
      have hM : max (max 0 (min j 32)).toNat m ≤ 32 := by omega
      generalize max (max 0 (min j 32)).toNat m = mm at *
      by_cases hh : mixB s.turn mm = headB (s.turn + 1) 9
      · exact .inr (hnext _ hh)
      · refine .inl (hk2.torn (by rw [List.length_set]; exact hk2.len) (hsz _ (mixB_len hM)) hM ?_ hh fun i hi => ?_)
        · rw [hset, if_pos rfl]
        · rw [hset, if_neg hi]
  · rw [if_neg (by rw [g1]; simp)]
    have e3s : d3.flush.1.sure = d2.sure.set (3 + (s.turn + 1) % 2) (headB (s.turn + 1) 9) := by rw [g3, d3l, d3s]; rfl
    have e3n : d3.flush.1.now = d2.sure.set (3 + (s.turn + 1) % 2) (headB (s.turn + 1) 9) := by rw [g5, d3n, f5, f3]
    have hkn := hnext _ rfl
    refine .inl ⟨rfl, by simp, rfl, rfl, g2, h.lnu, ?_, ?_, h.okN, h.okN, h.pN, h.pN, h.kN, h.fN, ?_, ?_, ?_, ?_, ?_, ?_, ?_, ?_⟩
    · exact h.usN
    · exact h.usN
    · show qs.t + 1 = ((s.turn + 1 : Nat) : Int); rw [h.tS]; simp
    · show qs.t + 1 = ((s.turn + 1 : Nat) : Int); rw [h.tS]; simp
    · show s.turn + 1 ≤ k + 1; omega
    · intro n hn hu
      show pgs d3.flush.1.now _ = _
      rw [e3n]
      exact hkn.pg n hn hu
    · show d3.flush.1.now = applyAll d3.flush.1.sure d3.flush.1.l
      rw [g4, e3n, e3s]; rfl
    · show Keeps d3.flush.1.sure (s.turn + 1) s.nu qn.ns qn.bs
      rw [e3s]; exact hkn
    · show ∀ x ∈ d3.flush.1.l, _
      rw [g4]; simp
    · show d3.flush.1.l.length ≤ _
      rw [g4]; simp
end Go.Proofs

/- Layer 13: a state of another turn is not the same. -/
set_option maxRecDepth 100000
set_option linter.unusedVariables false
set_option linter.unusedSimpArgs false
namespace Go.Proofs
open Go Go.Q
section
variable {w w' : World} {R : Value → World → Prop} {b bd x : Nat} {s : SP} {q qs qn : St} {cq c : List Value} {Sd : List Nat} {ms mn : Nat}
theorem sameAs_not (hx : SideAt w x bd b cq) (hs : SpAt w b bd s Sd ms mn) (hc : StAt w c q) (hl : q.us.length < 2 ^ 20) (hn : s.nn.length < 2 ^ 20) (ht : (s.turn : Int) ≠ q.t)
    (hR : ∀ w', Kp [] w w' → R (.bool false) w') : callG Tryz.prog 42 #[.pointer (some ⟨x, 0, none⟩), .agg c.toArray] w R := by
  refine law13_side_sameAs_call ?_
  unfold law13_side_sameAs law13_side_sameAs_s7
  refine argB fun p w1 hp1 hp k1 => ?_
  have hmost := hs.most
  rw [nk_p, fa_p, (hx.keep k1 (by simp)).lds]
  refine names_sp (hs.keep0 k1) hn fun w2 v ks hks hksort hfr => ?_
  have k2 := hfr.kp
  have k12 := k1.trans' k2
  have hx2 := hx.keep k12 (by simp)
  have hs2 := hs.keep0 k12
  have hp2 := k2.get hp (by simp)
  obtain ⟨vu, vb, vn, rfl, g1, g2, g3⟩ := hc
  have ldp : ∀ (w' : World), Kp [] w2 w' → ∀ K : Value → Prop, ldn 4 (.pointer (some ⟨p, 0, none⟩)) w' K = K (.agg [vu, vb, vn, .int .i64 q.t].toArray) := fun w' k K => ldA (k := 4) (k.get hp2 (by simp)) rfl
  have ldt : ∀ (w' : World), Kp [] w2 w' → ∀ K : Value → Prop, ld1 (.pointer (some ⟨p, 0 + 3, none⟩)) w' K = K (.int .i64 q.t) := fun w' k K => ldV (k.get hp2 (by simp)) rfl
  have hst : ∀ (w' : World), Kp [] w w' → StAt w' [vu, vb, vn, .int .i64 q.t] q := fun w' k => ⟨vu, vb, vn, rfl, g1.keep k, g2.keep k, g3.keep k⟩
  have kd := (Kp.refl [] w2).drew
  rw [nk_p, fa_p, (hx2.keep kd (by simp)).lds, ldp _ kd]
  refine used_sp (hs2.keep0 kd) ?_
  rw [ldp _ kd]
  refine ⟨rfl, ?_⟩
  refine count_ref (hst _ (k12.trans' kd)) hl fun w3 k3 => ?_
  have k23 := kd.trans' k3
  have k03 := k12.trans' k23
  simp only [bq_neq, bV_b, decide_eq_true_eq]
  refine ⟨fun _ => hR w3 k03, fun _ => ?_⟩
  rw [nk_p, fa_p, (hx.keep k03 (by simp)).lds, fa_p, ldt _ k23]
  refine turn_sp (hs.keep0 k03) ?_
  rw [ldt _ k23]
  refine ⟨rfl, ?_⟩
  simp only [bq_neq, bV_b, decide_eq_true_eq]
  exact ⟨fun _ => hR w3 k03, fun hh => absurd ht (by simpa using hh)⟩
end
end Go.Proofs

/- Layer 13: both sides in memory; the power goes off, and both are opened. -/
set_option maxRecDepth 100000
set_option linter.unusedVariables false
set_option linter.unusedSimpArgs false
namespace Go.Proofs
open Go Go.Q
/-- slices among values lie in none of these blocks -/
def Av (X : List Nat) (c : List Value) : Prop := ∀ v ∈ c, ∀ bl o f n cap, v = .slice (some ⟨bl, o, f⟩) n cap → 0 < n → bl ∉ X
theorem Av.sub {X Y : List Nat} {c : List Value} (h : Av Y c) (hs : ∀ x ∈ X, x ∈ Y) : Av X c := fun v hv bl o f n cap e hn hm => h v hv bl o f n cap e hn (hs bl hm)
theorem Av.src {w : World} {X : List Nat} {c c' : List Value} (h : Av X c) (hs : Src w c c') (hX : ∀ x ∈ X, x < w.heap.size) : Av X c' := by
  intro v hv bl o f n cap e hn hm
  rcases hs v hv with h1 | h1
  · exact h v h1 bl o f n cap e hn hm
  · have := h1 bl o f n cap e hn
    have := hX bl hm
    omega
section
variable {w w' : World} {v : Value} {k : Nat} {rows : List (List Value)} {S : List Nat} {c c1 c2 : List Value} {q qs qn : St}
theorem rd_keepX (h : Rd w v k rows) (ha : ∀ bl o f n cap, v = .slice (some ⟨bl, o, f⟩) n cap → 0 < n → bl ∉ S) (hk : Kp S w w') : Rd w' v k rows := by
  obtain ⟨S', h⟩ := h
  rcases h with h | h | ⟨bl, o, cap, cs, T, fr, h1, h2, h3, h4⟩
  · exact ⟨S', .inl h⟩
  · exact ⟨S', .inr (.inl h)⟩
  · by_cases hz : rows = []
    · subst hz
      exact ⟨S', .inl ⟨_, _, h1, rfl⟩⟩
    · have hpos : 0 < rows.length := by
        cases rows with
        | nil => exact absurd rfl hz
        | cons _ _ => simp
      have hb := ha bl o none rows.length cap h1 hpos
      exact ⟨S', .inr (.inr ⟨bl, o, cap, cs, T, fr, h1, h2, hk.get h3 hb, h4⟩)⟩
theorem rd_live (h : Rd w v k rows) : ∀ bl o f n cap, v = .slice (some ⟨bl, o, f⟩) n cap → 0 < n → bl < w.heap.size := by
  intro bl o f n cap e hn
  obtain ⟨S', h⟩ := h
  rcases h with ⟨a, cp, h1, h2⟩ | ⟨h1, h2⟩ | ⟨bl', o', cap', cs, T, fr, h1, h2, h3, h4⟩
  · rw [h1] at e; injection e with e e2 e3; omega
  · rw [h1] at e; cases e
  · rw [h1] at e
    injection e with e
    injection e with e
    injection e with e
    rw [← e]
    exact lt_of_blk h3
theorem StAt.keepX (h : StAt w c q) (ha : Av S c) (hk : Kp S w w') : StAt w' c q := by
  obtain ⟨vu, vb, vn, rfl, h1, h2, h3⟩ := h
  exact ⟨vu, vb, vn, rfl, rd_keepX h1 (ha vu (by simp)) hk, rd_keepX h2 (ha vb (by simp)) hk, rd_keepX h3 (ha vn (by simp)) hk⟩
theorem StAt.live (h : StAt w c q) : ∀ v ∈ c, ∀ bl o f n cap, v = .slice (some ⟨bl, o, f⟩) n cap → 0 < n → bl < w.heap.size := by
  obtain ⟨vu, vb, vn, rfl, h1, h2, h3⟩ := h
  intro v hv
  simp only [List.mem_cons, List.not_mem_nil, or_false] at hv
  rcases hv with rfl | rfl | rfl | rfl
  · exact rd_live h1
  · exact rd_live h2
  · exact rd_live h3
  · intro bl o f n cap e; cases e
theorem QAt.keepX (h : QAt w c qs qn) (ha : Av S c) (hk : Kp S w w') : QAt w' c qs qn := by
  obtain ⟨c1, c2, rfl, h1, h2⟩ := h
  exact ⟨c1, c2, rfl, StAt.keepX h1 (fun v hv => ha v (by simp [hv])) hk, StAt.keepX h2 (fun v hv => ha v (by simp [hv])) hk⟩
theorem QAt.new (h : QAt w c qs qn) {X Y : List Nat} (ha : Av X c) (hY : ∀ y ∈ Y, y ∈ X ∨ w.heap.size ≤ y) : Av Y c := by
  obtain ⟨c1, c2, rfl, h1, h2⟩ := h
  intro v hv bl o f n cap e hn hm
  have hlt : bl < w.heap.size := by
    rcases List.mem_append.1 hv with hv | hv
    · exact StAt.live h1 v hv bl o f n cap e hn
    · exact StAt.live h2 v hv bl o f n cap e hn
  rcases hY bl hm with h | h
  · exact ha v hv bl o f n cap e hn h
  · omega
end
section
variable {w w' : World} {x bd b : Nat} {cq : List Value}
theorem side_s (h : SideAt w x bd b cq) {b' : Nat} {K : World → Prop} (hK : ∀ w', SideAt w' x bd b' cq → Kp [x] w w' → K w') : st1 (.pointer (some ⟨x, 0 + 1, none⟩)) (.pointer (some ⟨b', 0, none⟩)) w K := by
  rw [stV h.cell (by simp) rfl]
  exact hK _ ⟨heap_self (live_of h.cell)⟩ ((Kp.refl _ _).setBlk (.inl (by simp)) _)
theorem side_q (h : SideAt w x bd b cq) (l : cq.length = 8) {c' : List Value} (l' : c'.length = 8) (ho : c'.all Q.one = true) {K : World → Prop} (hK : ∀ w', SideAt w' x bd b c' → Kp [x] w w' → K w') : stn 8 (.pointer (some ⟨x, 0 + 2, none⟩)) (.agg c'.toArray) w K := by
  have h' : w.heap[x]? = some (.cells ([Value.pointer (some ⟨bd, 0, none⟩), Value.pointer (some ⟨b, 0, none⟩)] ++ (cq ++ [])).toArray 42) := by simpa using h.cell
  rw [stP h' (o := 0 + 2) (k := 8) (cs := c') rfl l' l ho]
  refine hK _ ⟨?_⟩ ((Kp.refl _ _).setBlk (.inl (by simp)) _)
  rw [heap_self (live_of h')]
  simp
end
/-- both sides -/
structure PX (w0 w : World) (x bd b : Nat) (cq : List Value) (s : SP) (qs qn : St) (X : List Nat) : Prop where
  sp : SpX w b bd s X
  old : ∀ y ∈ X, w0.heap.size ≤ y
  x0 : w0.heap.size ≤ x
  xX : x ∉ X
  av : Av (x :: X) cq
  kp : Kp [] w0 w
  side : SideAt w x bd b cq
  q : QAt w cq qs qn
/-- what is known of a state that was committed -/
structure StQ (q : St) (t : Nat) (u : List UInt8) : Prop where
  t : q.t = t
  us : ∀ n : Int, rIn q n = (decide (n ≤ 9) && hasU u n)
  l : q.us.length = 10 ∧ q.bs.length = 10
theorem crash_now (d : DK) (ks : List Int) : (d.crash ks).now = (d.crash ks).sure := rfl
section
variable {w0 w w' : World} {x bd b : Nat} {cq : List Value} {s : SP} {qs qn os on : St} {X : List Nat} {R : Value → World → Prop}
theorem opens13_spec (h : PX w0 w x bd b cq s qs qn X) {co : List Value} (hco : QAt w co os on) (hav : Av (x :: X) co) (hl : s.d.l.length < 2 ^ 40) {kv : Value} {ks : List Int} {SK : List Nat} (hks : IntsAt w kv ks SK) (hdis : ∀ y ∈ SK, y < w0.heap.size) (hkw : ∀ x ∈ ks, -9223372036854775808 ≤ x ∧ x < 9223372036854775808)
    {t k : Nat} {u u' : List UInt8} (hqs : StQ qs t u) (may : Bool) (htk : t ≤ k) (hk : k ≤ 50)
    (hkeep : Keeps (s.d.crash ks).now t u qs.ns qs.bs ∨ (may = true ∧ t + 1 ≤ k ∧ Keeps (s.d.crash ks).now (t + 1) u' os.ns os.bs ∧ StQ os (t + 1) u'))
    (hR : ∀ w' b' cq' s' q' X', PX w0 w' x bd b' cq' s' q' q' X' → Rel s' q' q' k → R (.bool true) w') :
    callG Tryz.prog 41 #[.pointer (some ⟨x, 0, none⟩), kv, .agg co.toArray, .bool may] w R := by
  refine law13_side_opens_call ?_
  unfold law13_side_opens law13_side_opens_s1
  refine argB fun p6 w1 hp6 h6 k1 => ?_
  obtain ⟨Sd, ms, mn, rfl, hsp⟩ := h.sp
  have z0 := h.kp.size
  have z1 := k1.size
  have lx := lt_of_blk h.side.cell
  have hxX := h.xX
  simp only [List.mem_cons, not_or] at hxX
  obtain ⟨x1, x2, x3, x4⟩ := hxX
  have hlts := hsp.lts
  have l6 := lt_of_blk h6
  have hSd : ∀ y ∈ Sd, y < w.heap.size := fun y hy => hlts y (by simp [hy])
  have hSd0 : ∀ y ∈ Sd, w0.heap.size ≤ y := fun y hy => h.old y (by simp [hy])
  have hs1 := h.side.keep k1 (by simp)
  rw [nk_p, fa_p, hs1.ldd]
  refine Crash_spec (hsp.disk.keep k1 (by simp)) hl (hks.keep k1 (by simp)) (fun y hy hm => by have := hdis y hy; have := hSd0 y hm; omega) hkw fun w2 hd2 k2 => ?_
  have k02 : Kp Sd w w2 := (k1.mono (by simp)).trans' k2
  have z2 := k2.size
  have hs2 := h.side.keep k02 x4
  have h62 := k2.get h6 (fun hm => by have := hSd p6 hm; omega)
  simp only [bq_neq, bV_b, decide_eq_true_eq]
  refine ⟨fun hh => absurd rfl hh, fun _ => ?_⟩
  rw [nk_p, fa_p, hs2.ldd]
  -- what is found
  have key : ∀ (q' : St) (t' : Nat) (uu : List UInt8), Keeps (s.d.crash ks).now t' uu q'.ns q'.bs → StQ q' t' uu → t' ≤ k →
      (∀ w3 b' ms' mn', w2.heap.size ≤ b' → w2.heap.size ≤ ms' → w2.heap.size ≤ mn' → Kp [] w2 w3 → SpAt w3 b' bd (openS (s.d.crash ks) t' uu q'.ns) Sd ms' mn' → Rel (openS (s.d.crash ks) t' uu q'.ns) q' q' k →
        law13_side_opens_s0 R (.pointer (some ⟨x, 0, none⟩)) (.bool may) (.pointer (some ⟨p6, 0, none⟩)) (.pointer (some ⟨b', 0, none⟩)) w3) →
      callG Tryz.prog 5 #[.pointer (some ⟨bd, 0, none⟩), .int .i64 3, .int .i64 99] w2 fun t24 w => qG Tryz.prog (Instr.extract t24 0) w fun t25 => qG Tryz.prog (Instr.extract t24 1) w fun t26 =>
        qG Tryz.prog (bq .neq 24 (.tmp 26) (.const (.int .i64 0)) t26 (.int .i64 0)) w fun t28 => bV t28 (R (.bool false) w)
        (qG Tryz.prog (bq .eql 27 (.tmp 25) (.const (.pointer none)) t25 (.pointer none)) w fun t31 => bV t31 (R (.bool false) w)
        (law13_side_opens_s0 R (.pointer (some ⟨x, 0, none⟩)) (.bool may) (.pointer (some ⟨p6, 0, none⟩)) t25 w)) := by
    intro q' t' uu hkp hq' ht' hgo
    rw [show (Value.int .i64 3) = .int .i64 ((3 : Nat) : Int) from rfl, show (Value.int .i64 99) = .int .i64 ((99 : Nat) : Int) from rfl]
    have hnl : (s.d.crash ks).now.length = 100 := hkp.len
    refine Open_any hd2 rfl (pages := 9) (by rw [hnl]; omega) (by omega) (by decide) (hkp.oK_ok 0) (hkp.oK_ok 1) fun w3 b' ms' mn' s1 sv q0 q1 hb' hms' hmn' k3 hsp3 => ?_
    have hsv := hkp.opened (by omega) q0 q1
    rw [hsv] at hsp3
    rw [ex0, ex1]
    simp only [bq_neq, bV_b, decide_eq_true_eq]
    refine ⟨fun hh => absurd rfl hh, fun _ => ?_⟩
    rw [bq_peql _ (by kernel_rfl)]
    simp only [bV_b, Option.isNone_some]
    refine ⟨fun hh => by simp at hh, fun _ => ?_⟩
    exact hgo w3 b' ms' mn' hb' hms' hmn' k3 hsp3 (rel_open rfl rfl (crash_now _ _) hkp hq'.t hq'.us hq'.l ht')
  -- behind the open
  have tail : ∀ (q' : St) (t' : Nat) (uu : List UInt8), Keeps (s.d.crash ks).now t' uu q'.ns q'.bs → (q' = qs ∧ t' = t ∨ q' = os ∧ t' = t + 1 ∧ may = true ∧ os.t = t + 1) →
      ∀ w3 b' ms' mn', w2.heap.size ≤ b' → w2.heap.size ≤ ms' → w2.heap.size ≤ mn' → Kp [] w2 w3 → SpAt w3 b' bd (openS (s.d.crash ks) t' uu q'.ns) Sd ms' mn' → Rel (openS (s.d.crash ks) t' uu q'.ns) q' q' k →
        law13_side_opens_s0 R (.pointer (some ⟨x, 0, none⟩)) (.bool may) (.pointer (some ⟨p6, 0, none⟩)) (.pointer (some ⟨b', 0, none⟩)) w3 := by
    intro q' t' uu hkp hor w3 b' ms' mn' hb' hms' hmn' k3 hsp3 hrel
    have z3 := k3.size
    have hq3 : QAt w3 cq qs qn := (QAt.keepX h.q (h.av.sub (by simp; intro y hy; simp [hy])) k02).keep k3
    have hc3 : QAt w3 co os on := (QAt.keepX hco (hav.sub (by simp; intro y hy; simp [hy])) k02).keep k3
    have hs3 := hs2.keep k3 (by simp)
    have h63 := k3.get h62 (by simp)
    unfold law13_side_opens_s0
    rw [nk_p, fa_p]
    refine side_s hs3 fun w4 hs4 k4 => ?_
    have z4 := k4.size
    have l8 := hq3.len
    rw [nk_p, fa_p, hs4.ldq l8]
    refine newB fun p11 w5 hp11 h11 k5 => ?_
    have z5 := k5.size
    have l11 := lt_of_blk h11
    rw [stA h11 (by rw [zcQ]; rfl) (by simpa using l8) (by simpa using hq3.one)]
    generalize hw6 : setBlk w5 p11 (.cells cq.toArray 39) = w6
    have h116 : w6.heap[p11]? = some (.cells cq.toArray 39) := by rw [← hw6]; exact heap_self (live_of h11)
    have k6 : Kp [p11] w5 w6 := by rw [← hw6]; exact (Kp.refl _ _).setBlk (.inl (by simp)) _
    have z6 := k6.size
    have hY : ∀ y ∈ x :: p6 :: p11 :: b' :: ms' :: mn' :: Sd, y ∈ (x :: b :: ms :: mn :: Sd) ∨ w.heap.size ≤ y := by
      intro y hy
      simp only [List.mem_cons] at hy ⊢
      rcases hy with rfl | rfl | rfl | rfl | rfl | rfl | hy
      · exact .inl (.inl rfl)
      · right; omega
      · right; omega
      · right; omega
      · right; omega
      · right; omega
      · exact .inl (.inr (.inr (.inr (.inr hy))))
    have avq := h.q.new h.av hY
    have avc := hco.new hav hY
    have hq4 : QAt w4 cq qs qn := QAt.keepX hq3 (avq.sub (by simp)) k4
    have hc4 : QAt w4 co os on := QAt.keepX hc3 (avc.sub (by simp)) k4
    have hq6 : QAt w6 cq qs qn := QAt.keepX (hq4.keep k5) (avq.sub (by simp)) k6
    have hc6 : QAt w6 co os on := QAt.keepX (hc4.keep k5) (avc.sub (by simp)) k6
    have hs6 := (hs4.keep k5 (by simp)).keep k6 (by simp; omega)
    have h66 := k6.get (k5.get (k4.get h63 (by simp; omega)) (by simp)) (by simp; omega)
    have xb : x ∉ b' :: ms' :: mn' :: Sd := by
      simp only [List.mem_cons, not_or]
      exact ⟨by omega, by omega, by omega, x4⟩
    have lsp3 := hsp3.lts
    have p11n : ∀ y ∈ b' :: ms' :: mn' :: Sd, y ≠ p11 := fun y hy => by have := lsp3 y hy; omega
    have hsp4 := hsp3.keep k4 (fun y hy hm => by simp at hm; subst hm; exact xb hy)
    have hsp6 := (hsp4.keep0 k5).keep k6 (fun y hy hm => by simp at hm; exact p11n y hy hm)
    have hYlt : ∀ y ∈ x :: p6 :: p11 :: b' :: ms' :: mn' :: Sd, y < w6.heap.size := by
      intro y hy
      simp only [List.mem_cons] at hy
      have lsp6 := hsp6.lts
      rcases hy with rfl | rfl | rfl | hy
      · omega
      · omega
      · omega
      · exact lsp6 y (by simpa using hy)
    rw [nk_p, fa_p, hs6.ldq l8]
    refine rollback_ref hq6 fun w7 c7 hq7 hsrc7 k7 => ?_
    have z7 := k7.size
    have av7 := avq.src hsrc7 hYlt
    have hs7 := hs6.keep k7 (by simp)
    rw [nk_p, fa_p]
    refine side_q hs7 l8 hq7.len hq7.one fun w8 hs8 k8 => ?_
    have z8 := k8.size
    have hq8 : QAt w8 c7 qs qs := QAt.keepX hq7 (av7.sub (by simp)) k8
    have hc8 : QAt w8 co os on := QAt.keepX (hc6.keep k7) (avc.sub (by simp)) k8
    have hsp8 := (hsp6.keep0 k7).keep k8 (fun y hy hm => by simp at hm; subst hm; exact xb hy)
    have h68 := k8.get (k7.get h66 (by simp)) (by simp; omega)
    have h118 := k8.get (k7.get h116 (by simp)) (by simp; omega)
    have k38 : Kp (x :: p11 :: Sd) w w8 := by
      refine ((((((k02.mono ?_).trans' (k3.mono ?_)).trans' (k4.mono ?_)).trans' (k5.mono ?_)).trans' (k6.mono ?_)).trans' (k7.mono ?_)).trans' (k8.mono ?_) <;> simp <;> try (intro y hy; simp [hy])
    have kp8 : Kp [] w0 w8 := h.kp.trans k38 fun y hy hlt => by
      have := h.x0
      simp only [List.mem_cons] at hy
      rcases hy with rfl | rfl | hy
      · omega
      · omega
      · have := hSd0 y hy; omega
    have hold : ∀ y ∈ b' :: ms' :: mn' :: Sd, w0.heap.size ≤ y := by
      intro y hy
      simp only [List.mem_cons] at hy
      rcases hy with rfl | rfl | rfl | hy
      · omega
      · omega
      · omega
      · exact hSd0 y hy
    have hN20 : (openS (s.d.crash ks) t' uu q'.ns).nn.length < 2 ^ 20 := by have := hrel.fN.few; omega
    obtain ⟨a1, a2, ec, g1, g2⟩ := hq8
    subst ec
    have hq8 : QAt w8 (a1 ++ a2) qs qs := ⟨a1, a2, rfl, g1, g2⟩
    rw [nk_p, fa_p, fa_p, hs8.ldsure g1.len]
    rcases hor with ⟨e1, e2⟩ | ⟨e1, e2, hmay, host⟩
    · subst e1
      refine sameAs_spec hs8 hsp8 hq8 g1 hrel.same rfl hN20 fun w9 k9 => ?_
      simp only [bV_b]
      refine ⟨fun _ => ?_, fun hh => by simp at hh⟩
      exact hR w9 b' _ _ _ _ ⟨⟨Sd, ms', mn', rfl, hsp8.keep0 k9⟩, hold, h.x0, xb, av7.sub (fun y hy => by simp only [List.mem_cons] at hy ⊢; rcases hy with hy | hy | hy | hy | hy <;> simp [hy]), kp8.trans' k9, hs8.keep k9 (by simp), hq8.keep k9⟩ hrel
    · subst e1
      have hqst := hqs.t
      refine sameAs_not hs8 hsp8 g1 (by rw [hqs.l.1]; omega) hN20 (by show (t' : Int) ≠ _; omega) fun w9 k9 => ?_
      simp only [bV_b]
      refine ⟨fun hh => by simp at hh, fun _ => ?_⟩
      rw [ld_all (k9.get h68 (by simp)) hco.len]
      refine rollback_ref (hc8.keep k9) fun w10 c10 hq10 hsrc10 k10 => ?_
      have z9 := k9.size
      have z10 := k10.size
      have av10 := avc.src hsrc10 (fun y hy => by have := hYlt y hy; omega)
      have hs10 := (hs8.keep k9 (by simp)).keep k10 (by simp)
      rw [nk_p, fa_p]
      refine side_q hs10 hq8.len hq10.len hq10.one fun w11 hs11 k11 => ?_
      have hq11 : QAt w11 c10 q' q' := QAt.keepX hq10 (av10.sub (by simp)) k11
      have hsp11 := ((hsp8.keep0 k9).keep0 k10).keep k11 (fun y hy hm => by simp at hm; subst hm; exact xb hy)
      have k811 : Kp [x] w8 w11 := ((k9.mono (by simp)).trans' (k10.mono (by simp))).trans' k11
      have h6b := k811.get h68 (by simp; omega)
      have h11b := k811.get h118 (by simp; omega)
      refine ⟨fun _ => ?_, fun hh => by rw [hmay] at hh; cases hh⟩
      obtain ⟨b1, b2, ecq, hb1, hb2⟩ := h.q
      obtain ⟨su, sb, sn, rfl, _⟩ := hb1
      obtain ⟨d1, d2, eco, hd1, hd2'⟩ := hco
      obtain ⟨ou, ob, on', rfl, _⟩ := hd1
      subst ecq
      subst eco
      have ldt1 : ∀ K : Value → Prop, ld1 (.pointer (some ⟨p11, 0 + 0 + 3, none⟩)) w11 K = K (.int .i64 qs.t) := fun K => ldV2 h11b (j := 3) rfl rfl
      have ldt2 : ∀ K : Value → Prop, ld1 (.pointer (some ⟨p6, 0 + 0 + 3, none⟩)) w11 K = K (.int .i64 q'.t) := fun K => ldV2 h6b (j := 3) rfl rfl
      rw [fa_p, fa_p, ldt1, fa_p, fa_p, ldt2]
      simp only [bq_lss, bV_b, decide_eq_true_eq, decide_eq_false_iff_not]
      refine ⟨fun _ => ?_, fun hh => by rw [hqst, host] at hh; omega⟩
      obtain ⟨a1', a2', ec', g1', g2'⟩ := hq11
      subst ec'
      have hq11 : QAt w11 (a1' ++ a2') q' q' := ⟨a1', a2', rfl, g1', g2'⟩
      rw [nk_p, fa_p, fa_p, hs11.ldsure g1'.len]
      refine sameAs_spec hs11 hsp11 hq11 g1' hrel.same rfl hN20 fun w12 k12 => ?_
      have kp11 : Kp [] w0 w11 := kp8.trans k811 fun y hy hlt => by have := h.x0; simp at hy; omega
      exact hR w12 b' _ _ _ _ ⟨⟨Sd, ms', mn', rfl, hsp11.keep0 k12⟩, hold, h.x0, xb, av10.sub (fun y hy => by simp only [List.mem_cons] at hy ⊢; rcases hy with hy | hy | hy | hy | hy <;> simp [hy]), kp11.trans' k12, hs11.keep k12 (by simp), hq11.keep k12⟩ hrel
  rcases hkeep with hkp | ⟨hmay, ht1, hkp, hos⟩
  · exact key qs t u hkp hqs htk (tail qs t u hkp (.inl ⟨rfl, rfl⟩))
  · exact key os (t + 1) u' hkp hos ht1 (tail os (t + 1) u' hkp (.inr ⟨rfl, rfl, hmay, by have := hos.t; omega⟩))
end
end Go.Proofs

