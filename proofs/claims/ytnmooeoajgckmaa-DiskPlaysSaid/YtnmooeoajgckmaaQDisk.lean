/- Part of the proof (text QDisk): an engine, rules or contracts of the functions; it states nothing of the claim by itself. -/
import Derived.Test.YtnmooeoajgckmaaXDisk
import Derived.Test.YtnmooeoajgckmaaXFacts
import Derived.Test.YtnmooeoajgckmaaQSlices
/- Layer 3, the disk: what each function does. -/
set_option linter.unusedVariables false
set_option linter.unusedSimpArgs false
namespace Go.Proofs
open Go Go.Q

structure DK where
  sure : List (List UInt8)
  now : List (List UInt8)
  l : List (Nat × List UInt8)
  fuse : Int
  off : Bool
structure DK.Ok (d : DK) : Prop where
  len : d.sure.length = d.now.length
  pos : 0 < d.now.length
  most : d.now.length ≤ 4096
  sz1 : ∀ x ∈ d.sure, x.length = 32
  sz2 : ∀ x ∈ d.now, x.length = 32
  szl : ∀ x ∈ d.l, x.1 < d.now.length ∧ x.2.length = 32
  f0 : -1 ≤ d.fuse
  f1 : d.fuse < 9223372036854775808
def encW (x : Nat × List UInt8) : List Value := .int .i64 x.1 :: u8c x.2
def LogAt (w : World) (lv : Value) (l : List (Nat × List UInt8)) (S : List Nat) : Prop := RowsAt w lv 33 (l.map encW) S
structure DiskIs (w : World) (b : Nat) (d : DK) (bs bn : Nat) (lv : Value) (SL : List Nat) (T Ts Tn : Nat) : Prop where
  hb : w.heap[b]? = some (.cells #[.slice (some ⟨bs, 0, none⟩) d.now.length d.now.length, .slice (some ⟨bn, 0, none⟩) d.now.length d.now.length, lv, .int .i64 d.fuse, .bool d.off] T (0, 0))
  hs : w.heap[bs]? = some (.cells (d.sure.map u8c).flatten.toArray Ts (0, 0))
  hn : w.heap[bn]? = some (.cells (d.now.map u8c).flatten.toArray Tn (0, 0))
  hl : LogAt w lv d.l SL
  nd : (b :: bs :: bn :: SL).Nodup
  ok : d.Ok
def DiskAt (w : World) (b : Nat) (d : DK) (S : List Nat) : Prop := ∃ bs bn lv SL T Ts Tn, S = b :: bs :: bn :: SL ∧ DiskIs w b d bs bn lv SL T Ts Tn

theorem DiskAt.keep {w w' : World} {b : Nat} {d : DK} {S S' : List Nat} (h : DiskAt w b d S) (hk : Kp S' w w') (hd : ∀ x ∈ S, x ∉ S') : DiskAt w' b d S := by
  obtain ⟨bs, bn, lv, SL, T, Ts, Tn, rfl, h⟩ := h
  exact ⟨bs, bn, lv, SL, T, Ts, Tn, rfl, hk.get h.hb (hd _ (by simp)), hk.get h.hs (hd _ (by simp)), hk.get h.hn (hd _ (by simp)), RowsAt.keep h.hl hk (fun x hx => hd x (by simp [hx])), h.nd, h.ok⟩

def DK.burns (d : DK) : DK × Bool :=
  if d.off = true ∨ d.fuse = 0 then ({ d with off := true, fuse := -1 }, false) else ({ d with fuse := if d.fuse > 0 then d.fuse - 1 else d.fuse }, true)

theorem Size_spec {w : World} {b : Nat} {d : DK} {S : List Nat} (h : DiskAt w b d S) {K : Value → World → Prop} (hK : K (.int .i64 d.now.length) w) : callG Try.prog 28 #[.pointer (some ⟨b, 0, none⟩)] w K := by
  obtain ⟨bs, bn, lv, SL, T, Ts, Tn, rfl, h⟩ := h
  refine disk_Disk_Size_call ?_
  simpa [disk_Disk_Size, disk_Disk_Size_s0, h.hb] using hK
theorem Size_nil {w : World} {K : Value → World → Prop} (hK : K (.int .i64 0) w) : callG Try.prog 28 #[.pointer none] w K := by
  refine disk_Disk_Size_call ?_
  simpa [disk_Disk_Size, disk_Disk_Size_s0] using hK
theorem has_spec {w : World} {b : Nat} {d : DK} {S : List Nat} (h : DiskAt w b d S) (at_ : Int) {K : Value → World → Prop} (hK : K (.bool (decide (0 ≤ at_ ∧ at_ < d.now.length))) w) :
    callG Try.prog 44 #[.pointer (some ⟨b, 0, none⟩), .int .i64 at_] w K := by
  refine disk_Disk_has_call ?_
  simp only [disk_Disk_has, disk_Disk_has_s0, bq_geq, bV_b]
  refine ⟨fun h0 => Size_spec h ?_, fun h0 => ?_⟩
  · simp at h0
    simpa [h0] using hK
  · simp at h0
    have : ¬ 0 ≤ at_ := by omega
    simpa [this, h0] using hK
theorem DiskIs.ne {w : World} {b : Nat} {d : DK} {bs bn : Nat} {lv : Value} {SL : List Nat} {T Ts Tn : Nat} (h : DiskIs w b d bs bn lv SL T Ts Tn) :
    ¬ b = bs ∧ ¬ b = bn ∧ b ∉ SL ∧ ¬ bs = bn ∧ bs ∉ SL ∧ bn ∉ SL ∧ SL.Nodup ∧ ¬ bs = b ∧ ¬ bn = b ∧ ¬ bn = bs := by
  have hnd := h.nd
  simp only [List.nodup_cons, List.mem_cons, not_or] at hnd
  obtain ⟨⟨n1, n2, n3⟩, ⟨n4, n5⟩, n6, n7⟩ := hnd
  exact ⟨n1, n2, n3, n4, n5, n6, n7, fun h => n1 h.symm, fun h => n2 h.symm, fun h => n4 h.symm⟩
/-- the head of a disk is another one -/
theorem DiskIs.head {w : World} {b : Nat} {d : DK} {bs bn : Nat} {lv : Value} {SL : List Nat} {T Ts Tn : Nat} (h : DiskIs w b d bs bn lv SL T Ts Tn) (f : Int) (o : Bool) (hf : -1 ≤ f) (hf' : f < 9223372036854775808) :
    let w' := setBlk w b (.cells #[.slice (some ⟨bs, 0, none⟩) d.now.length d.now.length, .slice (some ⟨bn, 0, none⟩) d.now.length d.now.length, lv, .int .i64 f, .bool o] T (0, 0))
    DiskIs w' b { d with fuse := f, off := o } bs bn lv SL T Ts Tn ∧ Kp [b] w w' := by
  obtain ⟨n1, n2, n3, n4, n5, n6, n7, n8, n9, n10⟩ := h.ne
  have hk : Kp [b] w (setBlk w b (.cells #[.slice (some ⟨bs, 0, none⟩) d.now.length d.now.length, .slice (some ⟨bn, 0, none⟩) d.now.length d.now.length, lv, .int .i64 f, .bool o] T (0, 0))) := (Kp.refl _ _).setBlk (.inl (by simp)) _
  exact ⟨⟨heap_self (live_of h.hb), hk.get h.hs (by simp [n8]), hk.get h.hn (by simp [n9]), RowsAt.keep h.hl hk (fun x hx => by simp; intro hh; subst hh; exact n3 hx), h.nd,
    ⟨h.ok.len, h.ok.pos, h.ok.most, h.ok.sz1, h.ok.sz2, h.ok.szl, hf, hf'⟩⟩, hk⟩
theorem burns_spec {w : World} {b : Nat} {d : DK} {S : List Nat} (h : DiskAt w b d S) {K : Value → World → Prop} (hK : ∀ w', DiskAt w' b d.burns.1 S → Kp [b] w w' → K (.bool d.burns.2) w') :
    callG Try.prog 45 #[.pointer (some ⟨b, 0, none⟩)] w K := by
  obtain ⟨bs, bn, lv, SL, T, Ts, Tn, rfl, h⟩ := h
  have hlv := live_of h.hb
  have f0 := h.ok.f0
  have f1 := h.ok.f1
  refine disk_Disk_burns_call ?_
  have put : ∀ f o, d.burns.1 = { d with fuse := f, off := o } → -1 ≤ f → f < 9223372036854775808 → K (.bool d.burns.2) (setBlk w b (.cells #[.slice (some ⟨bs, 0, none⟩) d.now.length d.now.length, .slice (some ⟨bn, 0, none⟩) d.now.length d.now.length, lv, .int .i64 f, .bool o] T (0, 0))) := by
    intro f o hb h0 h1
    obtain ⟨g1, g2⟩ := h.head f o h0 h1
    exact hK _ (by rw [hb]; exact ⟨bs, bn, lv, SL, T, Ts, Tn, rfl, g1⟩) g2
  have hw : IntKind.i64.wrap (d.fuse - 1) = d.fuse - 1 := w64 (by omega) (by omega)
  cases ho : d.off with
  | true =>
    have hbb : d.burns = ({ d with fuse := -1, off := true }, false) := by simp [DK.burns, ho]
    have := put (-1) true (by rw [hbb]) (by omega) (by omega)
    rw [hbb] at this
    simpa [disk_Disk_burns, disk_Disk_burns_s0, disk_Disk_burns_s1, disk_Disk_burns_s2, disk_Disk_burns_s3, h.hb, heap_self, hlv, ho] using this
  | false =>
    by_cases hz : d.fuse = 0
    · have hbb : d.burns = ({ d with fuse := -1, off := true }, false) := by simp [DK.burns, hz]
      have := put (-1) true (by rw [hbb]) (by omega) (by omega)
      rw [hbb] at this
      simpa [disk_Disk_burns, disk_Disk_burns_s0, disk_Disk_burns_s1, disk_Disk_burns_s2, disk_Disk_burns_s3, h.hb, heap_self, hlv, ho, hz] using this
    · by_cases hp : 0 < d.fuse
      · have hbb : d.burns = ({ d with fuse := d.fuse - 1, off := false }, true) := by simp [DK.burns, ho, hz, hp]
        have := put (d.fuse - 1) false (by rw [hbb]) (by omega) (by omega)
        rw [hbb] at this
        have hle : ¬ d.fuse ≤ 0 := by omega
        simpa [disk_Disk_burns, disk_Disk_burns_s0, disk_Disk_burns_s1, disk_Disk_burns_s2, disk_Disk_burns_s3, h.hb, heap_self, hlv, ho, hz, hp, hw, hle] using this
      · have hbb : d.burns = ({ d with fuse := d.fuse, off := false }, true) := by simp [DK.burns, ho, hz, hp]
        have := put d.fuse false (by rw [hbb]) (by omega) (by omega)
        rw [hbb] at this
        have hle : d.fuse ≤ 0 := by omega
        simpa [disk_Disk_burns, disk_Disk_burns_s0, disk_Disk_burns_s1, disk_Disk_burns_s2, disk_Disk_burns_s3, h.hb, heap_self, hlv, ho, hz, hp, hle] using this
theorem Fuse_spec {w : World} {b : Nat} {d : DK} {S : List Nat} (h : DiskAt w b d S) (n : Int) (hn : n < 9223372036854775808) {K : Value → World → Prop}
    (hK : ∀ w', DiskAt w' b { d with fuse := max n (-1) } S → Kp [b] w w' → K (.int .i64 0) w') : callG Try.prog 23 #[.pointer (some ⟨b, 0, none⟩), .int .i64 n] w K := by
  refine disk_Disk_Fuse_call ?_
  simp only [disk_Disk_Fuse, disk_Disk_Fuse_s0]
  refine Size_spec h ?_
  obtain ⟨bs, bn, lv, SL, T, Ts, Tn, rfl, h⟩ := h
  have hp := h.ok.pos
  have hz : ¬ ((d.now.length : Int) = 0) := by omega
  obtain ⟨g1, g2⟩ := h.head (max n (-1)) d.off (by omega) (by omega)
  have := hK _ ⟨bs, bn, lv, SL, T, Ts, Tn, rfl, g1⟩ g2
  have hne : d.now ≠ [] := by intro hh; rw [hh] at hp; simp at hp
  simpa [hne, h.hb] using this
theorem Off_spec {w : World} {b : Nat} {d : DK} {S : List Nat} (h : DiskAt w b d S) {K : Value → World → Prop} (hK : K (.bool d.off) w) : callG Try.prog 26 #[.pointer (some ⟨b, 0, none⟩)] w K := by
  obtain ⟨bs, bn, lv, SL, T, Ts, Tn, rfl, h⟩ := h
  refine disk_Disk_Off_call ?_
  simpa [disk_Disk_Off, disk_Disk_Off_s0, h.hb] using hK
theorem LogAt.len {w : World} {lv : Value} {l : List (Nat × List UInt8)} {S : List Nat} (h : LogAt w lv l S) : ∃ a c, lv = .slice a l.length c := by
  obtain ⟨a, c, h, _⟩ := RowsAt.len h
  exact ⟨a, c, by simpa using h⟩
theorem Waits_spec {w : World} {b : Nat} {d : DK} {S : List Nat} (h : DiskAt w b d S) {K : Value → World → Prop} (hK : K (.int .i64 d.l.length) w) : callG Try.prog 27 #[.pointer (some ⟨b, 0, none⟩)] w K := by
  obtain ⟨bs, bn, lv, SL, T, Ts, Tn, rfl, h⟩ := h
  obtain ⟨a, c, hlv⟩ := h.hl.len
  refine disk_Disk_Waits_call ?_
  simpa [disk_Disk_Waits, disk_Disk_Waits_s0, h.hb, hlv] using hK
/-- what Read answers -/
def DK.read (d : DK) (at_ : Int) : List UInt8 × Int :=
  if 0 ≤ at_ ∧ at_ < d.now.length then (if d.off = true then ([], 30) else (d.now.getD at_.toNat [], 0)) else ([], 1)
theorem rows_get {L : List (List UInt8)} (h : ∀ x ∈ L, x.length = 32) {i : Nat} (hi : i < L.length) : ((L.map u8c).flatten.drop (i * 32)).take 32 = u8c (L.getD i []) := by
  rw [flat_get (k := 32) (by intro x hx; rw [List.mem_map] at hx; obtain ⟨y, hy, rfl⟩ := hx; simp [h y hy]) (by simpa using hi)]
  simp [List.getD, hi]
theorem rows_len {L : List (List UInt8)} (h : ∀ x ∈ L, x.length = 32) : (L.map u8c).flatten.length = L.length * 32 := by
  rw [flat_len (k := 32) (by intro x hx; rw [List.mem_map] at hx; obtain ⟨y, hy, rfl⟩ := hx; simp [h y hy])]
  simp
theorem Read_spec {w : World} {b : Nat} {d : DK} {S : List Nat} (h : DiskAt w b d S) (at_ : Int) {K : Value → World → Prop} (hK : K (.tuple #[.string (str (d.read at_).1), .int .i64 (d.read at_).2]) w) :
    callG Try.prog 17 #[.pointer (some ⟨b, 0, none⟩), .int .i64 at_] w K := by
  refine disk_Disk_Read_call ?_
  simp only [disk_Disk_Read, disk_Disk_Read_s0]
  refine has_spec h at_ ?_
  obtain ⟨bs, bn, lv, SL, T, Ts, Tn, rfl, h⟩ := h
  unfold DK.read at hK
  by_cases hat : 0 ≤ at_ ∧ at_ < d.now.length
  · rw [if_pos hat] at hK
    cases ho : d.off with
    | true => rw [ho, if_pos rfl] at hK; simpa [hat, h.hb, ho, str] using hK
    | false =>
      rw [ho, if_neg (by simp)] at hK
      have hi : at_.toNat < d.now.length := by omega
      have hlen := rows_len h.ok.sz2
      have hget := rows_get h.ok.sz2 hi
      have hle : at_.toNat * 32 + 32 ≤ (d.now.map u8c).flatten.length := by rw [hlen]; omega
      simpa [-List.length_flatten, hat, h.hb, ho, cvBS, h.hn, hle, hget, bytesOf_u8c, str] using hK
  · rw [if_neg hat] at hK
    simpa [hat, str] using hK

/-- the log is emptied -/
def DK.settled (d : DK) : DK := { d with l := [] }
theorem rep_rows {k : Nat} {v : List Value} (hv : v.length = k) (hk : 0 < k) (n : Nat) : rep v.toArray (n * k) = (List.replicate n v).flatten.toArray := by
  apply Array.ext
  · simp [rep, hv]
  · intro i h1 h2
    have hi : i < n * k := by simpa [rep] using h1
    simp only [rep, Array.getElem_map, Array.getElem_range, List.size_toArray, hv]
    have hm : i % k < k := Nat.mod_lt _ hk
    have hd : i / k < n := (Nat.div_lt_iff_lt_mul hk).2 hi
    have hfl : ((List.replicate n v).flatten.drop ((i / k) * k)).take k = v := by
      rw [flat_get (k := k) (by intro x hx; rw [List.mem_replicate] at hx; rw [hx.2, hv]) (by simpa using hd)]
      simp
    have hidx : i / k * k + i % k = i := by rw [Nat.mul_comm]; exact Nat.div_add_mod i k
    have e2 := congrArg (fun l => l[i % k]?) hfl
    simp only [List.getElem?_take_of_lt hm, List.getElem?_drop, hidx] at e2
    have h2' : i < (List.replicate n v).flatten.length := by simpa using h2
    rw [List.getElem?_eq_getElem h2', List.getElem?_eq_getElem (by omega)] at e2
    injection e2 with e2
    rw [List.getElem_toArray, e2]
    simp [hv, hm]
theorem zc93 : zc Try.prog 93 = (Value.int .i64 0 :: List.replicate 32 (Value.int .u8 0)).toArray := by kernel_rfl
theorem zc91 : zc Try.prog 91 = (List.replicate 32 (Value.int .u8 0)).toArray := by kernel_rfl
theorem one_all_replicate (n : Nat) (v : List Value) (hv : v.all one = true) : (List.replicate n v).flatten.toArray.all one = true := by
  rw [List.all_toArray, List.all_eq_true]
  intro x hx
  rw [List.mem_flatten] at hx
  obtain ⟨y, hy, hxy⟩ := hx
  rw [List.mem_replicate] at hy
  rw [hy.2] at hxy
  exact List.all_eq_true.1 hv x hxy
theorem settles_spec {w : World} {b : Nat} {d : DK} {S : List Nat} (h : DiskAt w b d S) {K : Value → World → Prop} (hK : ∀ w', DiskAt w' b d.settled S → Kp S w w' → K (.tuple #[]) w') :
    callG Try.prog 46 #[.pointer (some ⟨b, 0, none⟩)] w K := by
  refine disk_Disk_settles_call ?_
  obtain ⟨bs, bn, lv, SL, T, Ts, Tn, rfl, h⟩ := h
  obtain ⟨n1, n2, n3, n4, n5, n6, n7, n8, n9, n10⟩ := h.ne
  have hlv := live_of h.hb
  rcases h.hl with ⟨h1, h2, h3⟩ | ⟨bl, F, TF, h1, h2, h3, h4, h5, h6⟩
  · subst h1; subst h3
    have g := h.head d.fuse d.off h.ok.f0 h.ok.f1
    have hl0 : d.l = [] := by simpa using h2
    have hd : d.settled = { d with fuse := d.fuse, off := d.off } := by simp [DK.settled, ← hl0]
    have := hK _ (by rw [hd]; exact ⟨bs, bn, _, [], T, Ts, Tn, rfl, g.1⟩) (g.2.mono (by simp))
    simpa [disk_Disk_settles, disk_Disk_settles_s0, h.hb, clr] using this
  · simp only [List.length_map] at h1 h5 h6
    subst h1; subst h2
    simp only [List.mem_singleton] at n3 n5 n6
    have nl : ¬ bl = b := fun hh => n3 hh.symm
    have nl2 : ¬ bl = bs := fun hh => n5 hh.symm
    have nl3 : ¬ bl = bn := fun hh => n6 hh.symm
    have hlvl := live_of h3
    -- the head behind it
    have fin : ∀ F' : List (List Value), F'.length = F.length → (∀ x ∈ F', x.length = 33) →
        K (.tuple #[]) (setBlk (setBlk w bl (.cells F'.flatten.toArray TF (0, 0))) b (.cells #[.slice (some ⟨bs, 0, none⟩) d.now.length d.now.length, .slice (some ⟨bn, 0, none⟩) d.now.length d.now.length, .slice (some ⟨bl, 0, none⟩) 0 F.length, .int .i64 d.fuse, .bool d.off] T (0, 0))) := by
      intro F' hF' hF'r
      have hk : Kp [b, bl] w (setBlk (setBlk w bl (.cells F'.flatten.toArray TF (0, 0))) b (.cells #[.slice (some ⟨bs, 0, none⟩) d.now.length d.now.length, .slice (some ⟨bn, 0, none⟩) d.now.length d.now.length, .slice (some ⟨bl, 0, none⟩) 0 F.length, .int .i64 d.fuse, .bool d.off] T (0, 0))) :=
        ((Kp.refl _ _).setBlk (.inl (by simp)) _).setBlk (.inl (by simp)) _
      refine hK _ ⟨bs, bn, .slice (some ⟨bl, 0, none⟩) 0 F.length, [bl], T, Ts, Tn, rfl, heap_self (by simpa using hlv), hk.get h.hs (by simp [n8]; exact fun hh => nl2 hh.symm), hk.get h.hn (by simp [n9]; exact fun hh => nl3 hh.symm), ?_, h.nd, ?_⟩ (hk.mono (by simp))
      · refine .inr ⟨bl, F', TF, by simp [DK.settled, hF'], rfl, ?_, hF'r, by simp [DK.settled], by simp [DK.settled]⟩
        rw [heap_ne n3, heap_self hlvl]
      · exact ⟨h.ok.len, h.ok.pos, h.ok.most, h.ok.sz1, h.ok.sz2, by simp [DK.settled], h.ok.f0, h.ok.f1⟩
    cases hm : d.l.length with
    | zero =>
      have := fin F rfl h4
      have hself : setBlk w bl (.cells F.flatten.toArray TF (0, 0)) = w := setBlk_self h3
      rw [hself] at this
      have hite : (if F.length = 0 then some (⟨bl, 0, none⟩ : Addr) else some ⟨bl, 0, none⟩) = some ⟨bl, 0, none⟩ := by split <;> rfl
      simpa [disk_Disk_settles, disk_Disk_settles_s0, h.hb, clr, hm, hite] using this
    | succ m =>
      have hle : m + 1 ≤ F.length := by omega
      have hfl := flat_len h4
      have := fin (List.replicate (m + 1) (Value.int .i64 0 :: List.replicate 32 (Value.int .u8 0)) ++ F.drop (m + 1)) (by simp; omega) (by
        intro x hx
        rw [List.mem_append] at hx
        rcases hx with hx | hx
        · rw [List.mem_replicate] at hx; rw [hx.2]; simp
        · exact h4 x (List.mem_of_mem_drop hx))
      have hsp := flat_splice_many (i := 0) h4 (G := List.replicate (m + 1) (Value.int .i64 0 :: List.replicate 32 (Value.int .u8 0))) (by intro x hx; rw [List.mem_replicate] at hx; rw [hx.2]; simp) (by simp; omega)
      have hrep := rep_rows (k := 33) (v := Value.int .i64 0 :: List.replicate 32 (Value.int .u8 0)) (by simp) (by omega) (m + 1)
      have hite : (if F.length = 0 then some (⟨bl, 0, none⟩ : Addr) else some ⟨bl, 0, none⟩) = some ⟨bl, 0, none⟩ := by split <;> rfl
      have hcells : splice F.flatten.toArray 0 (rep (zc Try.prog 93) ((m + 1) * 33)) = (List.replicate (m + 1) (Value.int .i64 0 :: List.replicate 32 (Value.int .u8 0)) ++ F.drop (m + 1)).flatten.toArray := by
        rw [zc93, hrep, splice_list]
        congr 1
        simpa [-List.length_flatten, -List.flatten_append] using hsp
      have hone : (rep (zc Try.prog 93) ((m + 1) * 33)).all one = true := by rw [zc93, hrep]; exact one_all_replicate _ _ (by simp)
      have hsz : (rep (zc Try.prog 93) ((m + 1) * 33)).size ≤ F.flatten.length := by
        rw [hfl]; simp [rep]; omega
      simpa [-List.length_flatten, disk_Disk_settles, disk_Disk_settles_s0, h.hb, clr, hm, hite, h3, hcells, hone, hsz, heap_ne nl] using this
end Go.Proofs
