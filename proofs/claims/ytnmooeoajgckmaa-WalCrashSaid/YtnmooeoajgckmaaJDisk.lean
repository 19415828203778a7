/- Part of the proof (JDisk): an engine, rules or contracts of the functions; it states nothing of the claim by itself. -/
import Derived.Test.YtnmooeoajgckmaaJText
import Derived.Test.YtnmooeoajgckmaaJBase
import Derived.ChangeSlices

/- Layer 3, the disk: what each function does. -/
set_option linter.unusedVariables false
set_option linter.unusedSimpArgs false
namespace Go.Proofs
open Go Go.Q

structure DK where
  sure : List (List UInt8)
  now : List (List UInt8)
  l : List (Nat × List UInt8)
  fuse : Int
  off : Bool
structure DK.Ok (d : DK) : Prop where
  len : d.sure.length = d.now.length
  pos : 0 < d.now.length
  most : d.now.length ≤ 4096
  sz1 : ∀ x ∈ d.sure, x.length = 32
  sz2 : ∀ x ∈ d.now, x.length = 32
  szl : ∀ x ∈ d.l, x.1 < d.now.length ∧ x.2.length = 32
  f0 : -1 ≤ d.fuse
  f1 : d.fuse < 9223372036854775808
def encW (x : Nat × List UInt8) : List Value := .int .i64 x.1 :: u8c x.2
def LogAt (w : World) (lv : Value) (l : List (Nat × List UInt8)) (S : List Nat) : Prop := RowsAt w lv 33 (l.map encW) S
structure DiskIs (w : World) (b : Nat) (d : DK) (bs bn : Nat) (lv : Value) (SL : List Nat) (T Ts Tn : Nat) : Prop where
  hb : w.heap[b]? = some (.cells #[.slice (some ⟨bs, 0, none⟩) d.now.length d.now.length, .slice (some ⟨bn, 0, none⟩) d.now.length d.now.length, lv, .int .i64 d.fuse, .bool d.off] T (0, 0))
  hs : w.heap[bs]? = some (.cells (d.sure.map u8c).flatten.toArray Ts (0, 0))
  hn : w.heap[bn]? = some (.cells (d.now.map u8c).flatten.toArray Tn (0, 0))
  hl : LogAt w lv d.l SL
  nd : (b :: bs :: bn :: SL).Nodup
  ok : d.Ok
def DiskAt (w : World) (b : Nat) (d : DK) (S : List Nat) : Prop := ∃ bs bn lv SL T Ts Tn, S = b :: bs :: bn :: SL ∧ DiskIs w b d bs bn lv SL T Ts Tn

theorem DiskAt.keep {w w' : World} {b : Nat} {d : DK} {S S' : List Nat} (h : DiskAt w b d S) (hk : Kp S' w w') (hd : ∀ x ∈ S, x ∉ S') : DiskAt w' b d S := by
  obtain ⟨bs, bn, lv, SL, T, Ts, Tn, rfl, h⟩ := h
  exact ⟨bs, bn, lv, SL, T, Ts, Tn, rfl, hk.get h.hb (hd _ (by simp)), hk.get h.hs (hd _ (by simp)), hk.get h.hn (hd _ (by simp)), RowsAt.keep h.hl hk (fun x hx => hd x (by simp [hx])), h.nd, h.ok⟩

def DK.burns (d : DK) : DK × Bool :=
  if d.off = true ∨ d.fuse = 0 then ({ d with off := true, fuse := -1 }, false) else ({ d with fuse := if d.fuse > 0 then d.fuse - 1 else d.fuse }, true)

theorem Size_spec {w : World} {b : Nat} {d : DK} {S : List Nat} (h : DiskAt w b d S) {K : Value → World → Prop} (hK : K (.int .i64 d.now.length) w) : callG Try.prog 28 #[.pointer (some ⟨b, 0, none⟩)] w K := by
  obtain ⟨bs, bn, lv, SL, T, Ts, Tn, rfl, h⟩ := h
  refine disk_Disk_Size_call ?_
  simpa [disk_Disk_Size, disk_Disk_Size_s0, h.hb] using hK
theorem Size_nil {w : World} {K : Value → World → Prop} (hK : K (.int .i64 0) w) : callG Try.prog 28 #[.pointer none] w K := by
  refine disk_Disk_Size_call ?_
  simpa [disk_Disk_Size, disk_Disk_Size_s0] using hK
theorem has_spec {w : World} {b : Nat} {d : DK} {S : List Nat} (h : DiskAt w b d S) (at_ : Int) {K : Value → World → Prop} (hK : K (.bool (decide (0 ≤ at_ ∧ at_ < d.now.length))) w) :
    callG Try.prog 44 #[.pointer (some ⟨b, 0, none⟩), .int .i64 at_] w K := by
  refine disk_Disk_has_call ?_
  simp only [disk_Disk_has, disk_Disk_has_s0, bq_geq, bV_b]
  refine ⟨fun h0 => Size_spec h ?_, fun h0 => ?_⟩
  · simp at h0
    simpa [h0] using hK
  · simp at h0
    have : ¬ 0 ≤ at_ := by omega
    simpa [this, h0] using hK
theorem DiskIs.ne {w : World} {b : Nat} {d : DK} {bs bn : Nat} {lv : Value} {SL : List Nat} {T Ts Tn : Nat} (h : DiskIs w b d bs bn lv SL T Ts Tn) :
    ¬ b = bs ∧ ¬ b = bn ∧ b ∉ SL ∧ ¬ bs = bn ∧ bs ∉ SL ∧ bn ∉ SL ∧ SL.Nodup ∧ ¬ bs = b ∧ ¬ bn = b ∧ ¬ bn = bs := by
  have hnd := h.nd
  simp only [List.nodup_cons, List.mem_cons, not_or] at hnd
  obtain ⟨⟨n1, n2, n3⟩, ⟨n4, n5⟩, n6, n7⟩ := hnd
  exact ⟨n1, n2, n3, n4, n5, n6, n7, fun h => n1 h.symm, fun h => n2 h.symm, fun h => n4 h.symm⟩
/-- the head of a disk is another one -/
theorem DiskIs.head {w : World} {b : Nat} {d : DK} {bs bn : Nat} {lv : Value} {SL : List Nat} {T Ts Tn : Nat} (h : DiskIs w b d bs bn lv SL T Ts Tn) (f : Int) (o : Bool) (hf : -1 ≤ f) (hf' : f < 9223372036854775808) :
    let w' := setBlk w b (.cells #[.slice (some ⟨bs, 0, none⟩) d.now.length d.now.length, .slice (some ⟨bn, 0, none⟩) d.now.length d.now.length, lv, .int .i64 f, .bool o] T (0, 0))
    DiskIs w' b { d with fuse := f, off := o } bs bn lv SL T Ts Tn ∧ Kp [b] w w' := by
  obtain ⟨n1, n2, n3, n4, n5, n6, n7, n8, n9, n10⟩ := h.ne
  have hk : Kp [b] w (setBlk w b (.cells #[.slice (some ⟨bs, 0, none⟩) d.now.length d.now.length, .slice (some ⟨bn, 0, none⟩) d.now.length d.now.length, lv, .int .i64 f, .bool o] T (0, 0))) := (Kp.refl _ _).setBlk (.inl (by simp)) _
  exact ⟨⟨heap_self (live_of h.hb), hk.get h.hs (by simp [n8]), hk.get h.hn (by simp [n9]), RowsAt.keep h.hl hk (fun x hx => by simp; intro hh; subst hh; exact n3 hx), h.nd,
    ⟨h.ok.len, h.ok.pos, h.ok.most, h.ok.sz1, h.ok.sz2, h.ok.szl, hf, hf'⟩⟩, hk⟩
theorem burns_spec {w : World} {b : Nat} {d : DK} {S : List Nat} (h : DiskAt w b d S) {K : Value → World → Prop} (hK : ∀ w', DiskAt w' b d.burns.1 S → Kp [b] w w' → K (.bool d.burns.2) w') :
    callG Try.prog 45 #[.pointer (some ⟨b, 0, none⟩)] w K := by
  obtain ⟨bs, bn, lv, SL, T, Ts, Tn, rfl, h⟩ := h
  have hlv := live_of h.hb
  have f0 := h.ok.f0
  have f1 := h.ok.f1
  refine disk_Disk_burns_call ?_
  have put : ∀ f o, d.burns.1 = { d with fuse := f, off := o } → -1 ≤ f → f < 9223372036854775808 → K (.bool d.burns.2) (setBlk w b (.cells #[.slice (some ⟨bs, 0, none⟩) d.now.length d.now.length, .slice (some ⟨bn, 0, none⟩) d.now.length d.now.length, lv, .int .i64 f, .bool o] T (0, 0))) := by
    intro f o hb h0 h1
    obtain ⟨g1, g2⟩ := h.head f o h0 h1
    exact hK _ (by rw [hb]; exact ⟨bs, bn, lv, SL, T, Ts, Tn, rfl, g1⟩) g2
  have hw : IntKind.i64.wrap (d.fuse - 1) = d.fuse - 1 := w64 (by omega) (by omega)
  cases ho : d.off with
  | true =>
    have hbb : d.burns = ({ d with fuse := -1, off := true }, false) := by simp [DK.burns, ho]
    have := put (-1) true (by rw [hbb]) (by omega) (by omega)
    rw [hbb] at this
    simpa [disk_Disk_burns, disk_Disk_burns_s0, disk_Disk_burns_s1, disk_Disk_burns_s2, disk_Disk_burns_s3, h.hb, heap_self, hlv, ho] using this
  | false =>
    by_cases hz : d.fuse = 0
    · have hbb : d.burns = ({ d with fuse := -1, off := true }, false) := by simp [DK.burns, hz]
      have := put (-1) true (by rw [hbb]) (by omega) (by omega)
      rw [hbb] at this
      simpa [disk_Disk_burns, disk_Disk_burns_s0, disk_Disk_burns_s1, disk_Disk_burns_s2, disk_Disk_burns_s3, h.hb, heap_self, hlv, ho, hz] using this
    · by_cases hp : 0 < d.fuse
      · have hbb : d.burns = ({ d with fuse := d.fuse - 1, off := false }, true) := by simp [DK.burns, ho, hz, hp]
        have := put (d.fuse - 1) false (by rw [hbb]) (by omega) (by omega)
        rw [hbb] at this
        have hle : ¬ d.fuse ≤ 0 := by omega
        simpa [disk_Disk_burns, disk_Disk_burns_s0, disk_Disk_burns_s1, disk_Disk_burns_s2, disk_Disk_burns_s3, h.hb, heap_self, hlv, ho, hz, hp, hw, hle] using this
      · have hbb : d.burns = ({ d with fuse := d.fuse, off := false }, true) := by simp [DK.burns, ho, hz, hp]
        have := put d.fuse false (by rw [hbb]) (by omega) (by omega)
        rw [hbb] at this
        have hle : d.fuse ≤ 0 := by omega
        simpa [disk_Disk_burns, disk_Disk_burns_s0, disk_Disk_burns_s1, disk_Disk_burns_s2, disk_Disk_burns_s3, h.hb, heap_self, hlv, ho, hz, hp, hle] using this
theorem Fuse_spec {w : World} {b : Nat} {d : DK} {S : List Nat} (h : DiskAt w b d S) (n : Int) (hn : n < 9223372036854775808) {K : Value → World → Prop}
    (hK : ∀ w', DiskAt w' b { d with fuse := max n (-1) } S → Kp [b] w w' → K (.int .i64 0) w') : callG Try.prog 23 #[.pointer (some ⟨b, 0, none⟩), .int .i64 n] w K := by
  refine disk_Disk_Fuse_call ?_
  simp only [disk_Disk_Fuse, disk_Disk_Fuse_s0]
  refine Size_spec h ?_
  obtain ⟨bs, bn, lv, SL, T, Ts, Tn, rfl, h⟩ := h
  have hp := h.ok.pos
  have hz : ¬ ((d.now.length : Int) = 0) := by omega
  obtain ⟨g1, g2⟩ := h.head (max n (-1)) d.off (by omega) (by omega)
  have := hK _ ⟨bs, bn, lv, SL, T, Ts, Tn, rfl, g1⟩ g2
  have hne : d.now ≠ [] := by intro hh; rw [hh] at hp; simp at hp
  simpa [hne, h.hb] using this
theorem Off_spec {w : World} {b : Nat} {d : DK} {S : List Nat} (h : DiskAt w b d S) {K : Value → World → Prop} (hK : K (.bool d.off) w) : callG Try.prog 26 #[.pointer (some ⟨b, 0, none⟩)] w K := by
  obtain ⟨bs, bn, lv, SL, T, Ts, Tn, rfl, h⟩ := h
  refine disk_Disk_Off_call ?_
  simpa [disk_Disk_Off, disk_Disk_Off_s0, h.hb] using hK
theorem LogAt.len {w : World} {lv : Value} {l : List (Nat × List UInt8)} {S : List Nat} (h : LogAt w lv l S) : ∃ a c, lv = .slice a l.length c := by
  obtain ⟨a, c, h, _⟩ := RowsAt.len h
  exact ⟨a, c, by simpa using h⟩
theorem Waits_spec {w : World} {b : Nat} {d : DK} {S : List Nat} (h : DiskAt w b d S) {K : Value → World → Prop} (hK : K (.int .i64 d.l.length) w) : callG Try.prog 27 #[.pointer (some ⟨b, 0, none⟩)] w K := by
  obtain ⟨bs, bn, lv, SL, T, Ts, Tn, rfl, h⟩ := h
  obtain ⟨a, c, hlv⟩ := h.hl.len
  refine disk_Disk_Waits_call ?_
  simpa [disk_Disk_Waits, disk_Disk_Waits_s0, h.hb, hlv] using hK
/-- what Read answers -/
def DK.read (d : DK) (at_ : Int) : List UInt8 × Int :=
  if 0 ≤ at_ ∧ at_ < d.now.length then (if d.off = true then ([], 30) else (d.now.getD at_.toNat [], 0)) else ([], 1)
theorem rows_get {L : List (List UInt8)} (h : ∀ x ∈ L, x.length = 32) {i : Nat} (hi : i < L.length) : ((L.map u8c).flatten.drop (i * 32)).take 32 = u8c (L.getD i []) := by
  rw [flat_get (k := 32) (by intro x hx; rw [List.mem_map] at hx; obtain ⟨y, hy, rfl⟩ := hx; simp [h y hy]) (by simpa using hi)]
  simp [List.getD, hi]
theorem rows_len {L : List (List UInt8)} (h : ∀ x ∈ L, x.length = 32) : (L.map u8c).flatten.length = L.length * 32 := by
  rw [flat_len (k := 32) (by intro x hx; rw [List.mem_map] at hx; obtain ⟨y, hy, rfl⟩ := hx; simp [h y hy])]
  simp
theorem Read_spec {w : World} {b : Nat} {d : DK} {S : List Nat} (h : DiskAt w b d S) (at_ : Int) {K : Value → World → Prop} (hK : K (.tuple #[.string (str (d.read at_).1), .int .i64 (d.read at_).2]) w) :
    callG Try.prog 17 #[.pointer (some ⟨b, 0, none⟩), .int .i64 at_] w K := by
  refine disk_Disk_Read_call ?_
  simp only [disk_Disk_Read, disk_Disk_Read_s0]
  refine has_spec h at_ ?_
  obtain ⟨bs, bn, lv, SL, T, Ts, Tn, rfl, h⟩ := h
  unfold DK.read at hK
  by_cases hat : 0 ≤ at_ ∧ at_ < d.now.length
  · rw [if_pos hat] at hK
    cases ho : d.off with
    | true => rw [ho, if_pos rfl] at hK; simpa [hat, h.hb, ho, str] using hK
    | false =>
      rw [ho, if_neg (by simp)] at hK
      have hi : at_.toNat < d.now.length := by omega
      have hlen := rows_len h.ok.sz2
      have hget := rows_get h.ok.sz2 hi
      have hle : at_.toNat * 32 + 32 ≤ (d.now.map u8c).flatten.length := by rw [hlen]; omega
      simpa [-List.length_flatten, hat, h.hb, ho, cvBS, h.hn, hle, hget, bytesOf_u8c, str] using hK
  · rw [if_neg hat] at hK
    simpa [hat, str] using hK

/-- the log is emptied -/
def DK.settled (d : DK) : DK := { d with l := [] }
theorem rep_rows {k : Nat} {v : List Value} (hv : v.length = k) (hk : 0 < k) (n : Nat) : rep v.toArray (n * k) = (List.replicate n v).flatten.toArray := by
  apply Array.ext
  · simp [rep, hv]
  · intro i h1 h2
    have hi : i < n * k := by simpa [rep] using h1
    simp only [rep, Array.getElem_map, Array.getElem_range, List.size_toArray, hv]
    have hm : i % k < k := Nat.mod_lt _ hk
    have hd : i / k < n := (Nat.div_lt_iff_lt_mul hk).2 hi
    have hfl : ((List.replicate n v).flatten.drop ((i / k) * k)).take k = v := by
      rw [flat_get (k := k) (by intro x hx; rw [List.mem_replicate] at hx; rw [hx.2, hv]) (by simpa using hd)]
      simp
    have hidx : i / k * k + i % k = i := by rw [Nat.mul_comm]; exact Nat.div_add_mod i k
    have e2 := congrArg (fun l => l[i % k]?) hfl
    simp only [List.getElem?_take_of_lt hm, List.getElem?_drop, hidx] at e2
    have h2' : i < (List.replicate n v).flatten.length := by simpa using h2
    rw [List.getElem?_eq_getElem h2', List.getElem?_eq_getElem (by omega)] at e2
    injection e2 with e2
    rw [List.getElem_toArray, e2]
    simp [hv, hm]
theorem zc93 : zc Try.prog 93 = (Value.int .i64 0 :: List.replicate 32 (Value.int .u8 0)).toArray := by kernel_rfl
theorem zc91 : zc Try.prog 91 = (List.replicate 32 (Value.int .u8 0)).toArray := by kernel_rfl
theorem one_all_replicate (n : Nat) (v : List Value) (hv : v.all one = true) : (List.replicate n v).flatten.toArray.all one = true := by
  rw [List.all_toArray, List.all_eq_true]
  intro x hx
  rw [List.mem_flatten] at hx
  obtain ⟨y, hy, hxy⟩ := hx
  rw [List.mem_replicate] at hy
  rw [hy.2] at hxy
  exact List.all_eq_true.1 hv x hxy
theorem settles_spec {w : World} {b : Nat} {d : DK} {S : List Nat} (h : DiskAt w b d S) {K : Value → World → Prop} (hK : ∀ w', DiskAt w' b d.settled S → Kp S w w' → K (.tuple #[]) w') :
    callG Try.prog 46 #[.pointer (some ⟨b, 0, none⟩)] w K := by
  refine disk_Disk_settles_call ?_
  obtain ⟨bs, bn, lv, SL, T, Ts, Tn, rfl, h⟩ := h
  obtain ⟨n1, n2, n3, n4, n5, n6, n7, n8, n9, n10⟩ := h.ne
  have hlv := live_of h.hb
  rcases h.hl with ⟨h1, h2, h3⟩ | ⟨bl, F, TF, h1, h2, h3, h4, h5, h6⟩
  · subst h1; subst h3
    have g := h.head d.fuse d.off h.ok.f0 h.ok.f1
    have hl0 : d.l = [] := by simpa using h2
    have hd : d.settled = { d with fuse := d.fuse, off := d.off } := by simp [DK.settled, ← hl0]
    have := hK _ (by rw [hd]; exact ⟨bs, bn, _, [], T, Ts, Tn, rfl, g.1⟩) (g.2.mono (by simp))
    simpa [disk_Disk_settles, disk_Disk_settles_s0, h.hb, clr] using this
  · simp only [List.length_map] at h1 h5 h6
    subst h1; subst h2
    simp only [List.mem_singleton] at n3 n5 n6
    have nl : ¬ bl = b := fun hh => n3 hh.symm
    have nl2 : ¬ bl = bs := fun hh => n5 hh.symm
    have nl3 : ¬ bl = bn := fun hh => n6 hh.symm
    have hlvl := live_of h3
    -- the head behind it
    have fin : ∀ F' : List (List Value), F'.length = F.length → (∀ x ∈ F', x.length = 33) →
        K (.tuple #[]) (setBlk (setBlk w bl (.cells F'.flatten.toArray TF (0, 0))) b (.cells #[.slice (some ⟨bs, 0, none⟩) d.now.length d.now.length, .slice (some ⟨bn, 0, none⟩) d.now.length d.now.length, .slice (some ⟨bl, 0, none⟩) 0 F.length, .int .i64 d.fuse, .bool d.off] T (0, 0))) := by
      intro F' hF' hF'r
      have hk : Kp [b, bl] w (setBlk (setBlk w bl (.cells F'.flatten.toArray TF (0, 0))) b (.cells #[.slice (some ⟨bs, 0, none⟩) d.now.length d.now.length, .slice (some ⟨bn, 0, none⟩) d.now.length d.now.length, .slice (some ⟨bl, 0, none⟩) 0 F.length, .int .i64 d.fuse, .bool d.off] T (0, 0))) :=
        ((Kp.refl _ _).setBlk (.inl (by simp)) _).setBlk (.inl (by simp)) _
      refine hK _ ⟨bs, bn, .slice (some ⟨bl, 0, none⟩) 0 F.length, [bl], T, Ts, Tn, rfl, heap_self (by simpa using hlv), hk.get h.hs (by simp [n8]; exact fun hh => nl2 hh.symm), hk.get h.hn (by simp [n9]; exact fun hh => nl3 hh.symm), ?_, h.nd, ?_⟩ (hk.mono (by simp))
      · refine .inr ⟨bl, F', TF, by simp [DK.settled, hF'], rfl, ?_, hF'r, by simp [DK.settled], by simp [DK.settled]⟩
        rw [heap_ne n3, heap_self hlvl]
      · exact ⟨h.ok.len, h.ok.pos, h.ok.most, h.ok.sz1, h.ok.sz2, by simp [DK.settled], h.ok.f0, h.ok.f1⟩
    cases hm : d.l.length with
    | zero =>
      have := fin F rfl h4
      have hself : setBlk w bl (.cells F.flatten.toArray TF (0, 0)) = w := setBlk_self h3
      rw [hself] at this
      have hite : (if F.length = 0 then some (⟨bl, 0, none⟩ : Addr) else some ⟨bl, 0, none⟩) = some ⟨bl, 0, none⟩ := by split <;> rfl
      simpa [disk_Disk_settles, disk_Disk_settles_s0, h.hb, clr, hm, hite] using this
    | succ m =>
      have hle : m + 1 ≤ F.length := by omega
      have hfl := flat_len h4
      have := fin (List.replicate (m + 1) (Value.int .i64 0 :: List.replicate 32 (Value.int .u8 0)) ++ F.drop (m + 1)) (by simp; omega) (by
        intro x hx
        rw [List.mem_append] at hx
        rcases hx with hx | hx
        · rw [List.mem_replicate] at hx; rw [hx.2]; simp
        · exact h4 x (List.mem_of_mem_drop hx))
      have hsp := flat_splice_many (i := 0) h4 (G := List.replicate (m + 1) (Value.int .i64 0 :: List.replicate 32 (Value.int .u8 0))) (by intro x hx; rw [List.mem_replicate] at hx; rw [hx.2]; simp) (by simp; omega)
      have hrep := rep_rows (k := 33) (v := Value.int .i64 0 :: List.replicate 32 (Value.int .u8 0)) (by simp) (by omega) (m + 1)
      have hite : (if F.length = 0 then some (⟨bl, 0, none⟩ : Addr) else some ⟨bl, 0, none⟩) = some ⟨bl, 0, none⟩ := by split <;> rfl
      have hcells : splice F.flatten.toArray 0 (rep (zc Try.prog 93) ((m + 1) * 33)) = (List.replicate (m + 1) (Value.int .i64 0 :: List.replicate 32 (Value.int .u8 0)) ++ F.drop (m + 1)).flatten.toArray := by
        rw [zc93, hrep, splice_list]
        congr 1
        simpa [-List.length_flatten, -List.flatten_append] using hsp
      have hone : (rep (zc Try.prog 93) ((m + 1) * 33)).all one = true := by rw [zc93, hrep]; exact one_all_replicate _ _ (by simp)
      have hsz : (rep (zc Try.prog 93) ((m + 1) * 33)).size ≤ F.flatten.length := by
        rw [hfl]; simp [rep]; omega
      simpa [-List.length_flatten, disk_Disk_settles, disk_Disk_settles_s0, h.hb, clr, hm, hite, h3, hcells, hone, hsz, heap_ne nl] using this
end Go.Proofs

/- Layer 3, the disk: New, Write, Flush, Crash. -/
set_option linter.unusedVariables false
set_option linter.unusedSimpArgs false
namespace Go.Proofs
open Go Go.Q
theorem zc56 : zc Try.prog 56 = #[.slice none 0 0, .slice none 0 0, .slice none 0 0, .int .i64 0, .bool false] := by kernel_rfl
def secs0 (n : Nat) : List (List UInt8) := List.replicate n (List.replicate 32 0)
def DK.fresh (n : Nat) : DK := { sure := secs0 n, now := secs0 n, l := [], fuse := -1, off := false }
theorem secs0_cells (n : Nat) : rep (zc Try.prog 91) (n * 32) = ((secs0 n).map u8c).flatten.toArray := by
  rw [zc91, rep_rows (k := 32) (by simp) (by omega)]
  simp [secs0, u8c]
theorem New_bad {w : World} {n : Int} (hn : ¬ (1 ≤ n ∧ n ≤ 4096)) {K : Value → World → Prop} (hK : K (.tuple #[.pointer none, .int .i64 1]) w) : callG Try.prog 12 #[.int .i64 n] w K := by
  refine disk_New_call ?_
  by_cases h1 : n < 1
  · simpa [disk_New, disk_New_s0, h1] using hK
  · have h2 : n > 4096 := by omega
    have h2' : (4096 : Int) < n := by omega
    have h3 : ¬ n ≤ 4096 := by omega
    simpa [disk_New, disk_New_s0, h1, h2'] using hK
theorem fresh_ok {n : Nat} (h1 : 1 ≤ n) (h2 : n ≤ 4096) : (DK.fresh n).Ok :=
  ⟨rfl, by simp [DK.fresh, secs0]; omega, by simp [DK.fresh, secs0]; omega, by intro x hx; simp only [DK.fresh, secs0, List.mem_replicate] at hx; rw [hx.2]; simp,
   by intro x hx; simp only [DK.fresh, secs0, List.mem_replicate] at hx; rw [hx.2]; simp, by simp [DK.fresh], by simp [DK.fresh], by simp [DK.fresh]⟩
theorem New_ok {w : World} {n : Nat} (h1 : 1 ≤ n) (h2 : n ≤ 4096) {K : Value → World → Prop}
    (hK : ∀ w' b S, DiskAt w' b (DK.fresh n) S → Kp [] w w' → (∀ x ∈ S, w.heap.size ≤ x) → K (.tuple #[.pointer (some ⟨b, 0, none⟩), .int .i64 0]) w') : callG Try.prog 12 #[.int .i64 n] w K := by
  refine disk_New_call ?_
  have ha : ¬ ((n : Int) < 1) := by omega
  have hb : ¬ ((4096 : Int) < n) := by omega
  have hn1 : ((n : Int)).toNat = n := by omega
  have hlen : (DK.fresh n).now.length = n := by simp [DK.fresh, secs0]
  have one : ∀ bs bn, ((bs = w.heap.size ∧ bn = w.heap.size + 1) ∨ (bs = w.heap.size + 1 ∧ bn = w.heap.size)) →
      K (.tuple #[.pointer (some ⟨w.heap.size + 2, 0, none⟩), .int .i64 0]) ((((w.alloc (.cells ((secs0 n).map u8c).flatten.toArray 91)).alloc (.cells ((secs0 n).map u8c).flatten.toArray 91)).alloc
        (.cells #[.slice (some ⟨bs, 0, none⟩) n n, .slice (some ⟨bn, 0, none⟩) n n, .slice none 0 0, .int .i64 (-1), .bool false] 56)).drew) := by
    intro bs bn hbb
    refine hK _ _ [w.heap.size + 2, bs, bn] ⟨bs, bn, .slice none 0 0, [], 56, 91, 91, rfl, ?_, ?_, ?_, .inl ⟨rfl, rfl, rfl⟩, ?_, fresh_ok h1 h2⟩ ?_ ?_
    · rw [hlen]; simp only [heap_drew, heap_alloc, World.size_alloc]; (repeat (first | rw [if_pos (by first | trivial | omega)] | rw [if_neg (by omega)])); rfl
    · rcases hbb with ⟨rfl, rfl⟩ | ⟨rfl, rfl⟩ <;> simp only [heap_drew, heap_alloc, World.size_alloc] <;> (repeat (first | rw [if_pos (by first | trivial | omega)] | rw [if_neg (by omega)])) <;> rfl
    · rcases hbb with ⟨rfl, rfl⟩ | ⟨rfl, rfl⟩ <;> simp only [heap_drew, heap_alloc, World.size_alloc] <;> (repeat (first | rw [if_pos (by first | trivial | omega)] | rw [if_neg (by omega)])) <;> rfl
    · rcases hbb with ⟨rfl, rfl⟩ | ⟨rfl, rfl⟩ <;> simp
    · exact ((((Kp.refl _ _).alloc _).alloc _).alloc _).drew
    · intro x hx
      simp only [List.mem_cons, List.not_mem_nil, or_false] at hx
      rcases hbb with ⟨rfl, rfl⟩ | ⟨rfl, rfl⟩ <;> rcases hx with hx | hx | hx <;> omega
  have hone := one w.heap.size (w.heap.size + 1) (.inl ⟨rfl, rfl⟩)
  have htwo := one (w.heap.size + 1) w.heap.size (.inr ⟨rfl, rfl⟩)
  have hb2 : (32 : Int) * n ≤ 281474976710656 := by omega
  have hb3 : (n : Int) < 9223372036854775808 := by omega
  have hb0 : (0 : Int) ≤ n := by omega
  simp [disk_New, disk_New_s0, ha, hb, mkG, hb2, hb3, hn1, secs0_cells, zc56, bld, Instr.fill, Value.cells]
  exact ⟨hone, htwo⟩
end Go.Proofs

/- Layer 3, the disk: Write. -/
set_option linter.unusedVariables false
set_option linter.unusedSimpArgs false
namespace Go.Proofs
open Go Go.Q
def DK.write (d : DK) (at_ : Int) (s : List UInt8) : DK × Int :=
  if (0 ≤ at_ ∧ at_ < d.now.length) ∧ s.length = 32 then
    (if d.burns.2 = true then ({ d.burns.1 with now := d.now.set at_.toNat s, l := d.l ++ [(at_.toNat, s)] }, 0) else (d.burns.1, 30))
  else (d, 1)
theorem DK.burns_now (d : DK) : d.burns.1.now = d.now ∧ d.burns.1.l = d.l ∧ d.burns.1.sure = d.sure := by
  unfold DK.burns; split <;> simp
theorem set_cells {L : List (List UInt8)} (h : ∀ x ∈ L, x.length = 32) {i : Nat} (hi : i < L.length) {s : List UInt8} (hs : s.length = 32) :
    splice (L.map u8c).flatten.toArray (i * 32) (u8c s).toArray = ((L.set i s).map u8c).flatten.toArray := by
  rw [splice_list, flat_splice (k := 32) (by intro x hx; rw [List.mem_map] at hx; obtain ⟨y, hy, rfl⟩ := hx; simp [h y hy]) (by simpa using hi) (by simp [hs])]
  congr 2
  rw [List.map_set]
  congr 1
  rw [List.drop_of_length_le (by simp [hs, h _ (List.getElem_mem hi)])]
  simp
theorem bld93 {n : Int} {cs : Array Value} (hc : cs.size = 32) {k : Value → Prop} : bld [(0, 1), (1, 32)] (zc Try.prog 93) #[(0, .int .i64 n), (1, .agg cs)] k = k (.agg (.int .i64 n :: cs.toList).toArray) := by
  have hz : (zc Try.prog 93).size = 33 := by rw [zc93]; simp
  unfold bld
  rw [fill_step (off := 0) (size := 1) rfl rfl (by omega), fill_step (off := 1) (size := 32) rfl (show (Value.agg cs).cells.size = 32 from hc) (by rw [splice_size (by simp [Value.cells, hz])]; omega)]
  have hdrop : (zc Try.prog 93).toList.drop 33 = [] := List.drop_of_length_le (by simp [hz])
  have e : splice (splice (zc Try.prog 93) 0 (Value.cells (.int .i64 n))) 1 (Value.cells (.agg cs)) = (.int .i64 n :: cs.toList).toArray := by
    simp [splice, Value.cells, hc, hdrop]
  simp only [Instr.fill, e]
theorem bsl93 {cs : Array Value} (hc : cs.size = 33) {w : World} {k : Value → World → Prop} : bsl 93 33 1 (zc Try.prog 93) #[(0, .agg cs)] w k = k (.slice (some ⟨w.heap.size, 0, none⟩) 1 1) (w.alloc (.cells cs 93)) := by
  have hr : (rep (zc Try.prog 93) (1 * 33)).size = 33 := by simp [rep]
  unfold bsl
  show (match Instr.fill (fun i => some (i * 33, 33)) (rep (zc Try.prog 93) (1 * 33)) [(0, Value.agg cs)] with | some cs => k (Value.slice (some ⟨w.heap.size, 0, none⟩) 1 1) (w.alloc (Obj.cells cs 93)) | none => False) = _
  rw [fill_step (off := 0) (size := 33) rfl (show (Value.agg cs).cells.size = 33 from hc) (by omega)]
  have hdrop : (rep (zc Try.prog 93) 33).toList.drop 33 = [] := List.drop_of_length_le (by simpa using Nat.le_of_eq hr)
  have e : splice (rep (zc Try.prog 93) (1 * 33)) 0 (Value.cells (.agg cs)) = cs := by
    simp [splice, Value.cells, hc, hdrop]
  simp only [Instr.fill, e]
theorem Write_spec {w : World} {b : Nat} {d : DK} {S : List Nat} (h : DiskAt w b d S) (hl : d.l.length < 2 ^ 40) (at_ : Int) (s : List UInt8) {K : Value → World → Prop}
    (hK : ∀ w' S', DiskAt w' b (d.write at_ s).1 S' → Kp S w w' → (∀ x ∈ S', x ∈ S ∨ w.heap.size ≤ x) → K (.int .i64 (d.write at_ s).2) w') :
    callG Try.prog 13 #[.pointer (some ⟨b, 0, none⟩), .int .i64 at_, .string (str s)] w K := by
  refine disk_Disk_Write_call ?_
  simp only [disk_Disk_Write, disk_Disk_Write_s1]
  refine has_spec h at_ ?_
  unfold DK.write at hK
  by_cases hat : (0 ≤ at_ ∧ at_ < d.now.length) ∧ s.length = 32
  case neg =>
    rw [if_neg hat] at hK
    have := hK w S h (Kp.refl _ _) (fun x hx => .inl hx)
    by_cases ha : 0 ≤ at_ ∧ at_ < d.now.length
    · have hs : ¬ s.length = 32 := fun hs => hat ⟨ha, hs⟩
      have hs' : ¬ ((s.length : Int) = 32) := by omega
      simpa [ha, hs'] using this
    · simpa [ha] using this
  case pos =>
    rw [if_pos hat] at hK
    obtain ⟨ha, hs⟩ := hat
    have hs' : ((s.length : Int) = 32) := by omega
    suffices hmain : disk_Disk_Write_s0 K (.pointer (some ⟨b, 0, none⟩)) (.int .i64 at_) (.string (str s)) w by
      simpa [ha, hs'] using hmain
    unfold disk_Disk_Write_s0
    refine burns_spec h fun w1 h1 hk1 => ?_
    obtain ⟨hnow, hlog, hsure⟩ := d.burns_now
    have hbS : b ∈ S := by obtain ⟨bs, bn, lv, SL, T, Ts, Tn, rfl, _⟩ := h; simp
    cases hb2 : d.burns.2 with
    | false =>
      rw [hb2] at hK
      have := hK w1 S h1 (hk1.mono (by simpa using fun _ => hbS)) (fun x hx => .inl hx)
      simpa using this
    | true =>
      rw [hb2] at hK
      simp only [if_true] at hK
      generalize hd1 : d.burns.1 = d1 at *
      obtain ⟨bs, bn, lv, SL, T, Ts, Tn, rfl, h1⟩ := h1
      obtain ⟨n1, n2, n3, n4, n5, n6, n7, n8, n9, n10⟩ := h1.ne
      have hlv := live_of h1.hb
      have hlvn := live_of h1.hn
      have hi : at_.toNat < d1.now.length := by rw [hnow]; omega
      have hlen := rows_len h1.ok.sz2
      have hle : at_.toNat * 32 + 32 ≤ (d1.now.map u8c).flatten.length := by rw [hlen]; omega
      have hset := set_cells h1.ok.sz2 hi hs
      have hsz2 : ∀ x ∈ d1.now.set at_.toNat s, x.length = 32 := by
        intro x hx
        rcases List.mem_or_eq_of_mem_set hx with hx | hx
        · exact h1.ok.sz2 x hx
        · rw [hx, hs]
      have hget := rows_get hsz2 (i := at_.toNat) (by simpa using hi)
      have hsget : (d1.now.set at_.toNat s).getD at_.toNat [] = s := by simp [List.getD, hi]
      have hext : (str s).extract 0 32 = str s := by
        have := ByteArray.extract_zero_size (b := str s)
        simpa [hs] using this
      have hcs : u8s (str s) = (u8c s).toArray := by rw [u8s_eq]; rfl
      have hon := one_u8c s
      have hle2 : at_.toNat * 32 + 32 ≤ ((d1.now.set at_.toNat s).map u8c).flatten.length := by rw [rows_len hsz2]; simp; omega
      have hat' : at_ < d1.now.length := by rw [hnow]; exact ha.2
      obtain ⟨N2, hN2⟩ : ∃ N2, N2 = ((d1.now.set at_.toNat s).map u8c).flatten.toArray := ⟨_, rfl⟩
      obtain ⟨N1, hN1⟩ : ∃ N1, N1 = (d1.now.map u8c).flatten.toArray := ⟨_, rfl⟩
      obtain ⟨cs, hcs2⟩ : ∃ cs, cs = (u8c s).toArray := ⟨_, rfl⟩
      have hn1 := h1.hn
      have hcsz : cs.size = 32 := by rw [hcs2]; simp [hs]
      have hN1s : at_.toNat * 32 + 32 ≤ N1.size := by rw [hN1]; exact hle
      have hN2s : at_.toNat * 32 + 32 ≤ N2.size := by rw [hN2]; exact hle2
      have hN2e : N2.extract (at_.toNat * 32) (at_.toNat * 32 + 32) = cs := by rw [hN2, extract_list, hget, hsget, hcs2]
      rw [← hcs2] at hcs hset hon
      rw [← hN1, ← hN2] at hset
      rw [← hN1] at hn1
      have hencs : encW (at_.toNat, s) = .int .i64 at_ :: cs.toList := by rw [hcs2]; simp [encW, Int.toNat_of_nonneg ha.1]
      simp [hs, ha.1, hat', h1.hb, hn1, cp, src, wrO, hext, hcs, hcsz, hN1s, hset, hN2s, hN2e, heap_self, hlv, hlvn, heap_ne n9, bld93, bsl93, heap_old]
      refine ⟨fun i hi => by rw [Array.all_eq_true] at hon; exact hon i (by omega), ?_⟩
      obtain ⟨W, hW⟩ : ∃ W, W = ((setBlk w1 bn (Obj.cells N2 Tn)).alloc (Obj.cells (Value.int IntKind.i64 at_ :: cs.toList).toArray 93)).drew := ⟨_, rfl⟩
      rw [← hW]
      have hkW : Kp [bn] w1 W := by rw [hW]; exact (((Kp.refl _ _).setBlk (.inl (by simp)) _).alloc _).drew
      have hWb := hkW.get h1.hb (by simpa using n2)
      have hWs := hkW.get h1.hs (by simpa using n4)
      have hWn : W.heap[bn]? = some (.cells N2 Tn (0, 0)) := by rw [hW]; simp only [heap_drew]; rw [heap_old (by simpa using hlvn), heap_self hlvn]
      have hWl : RowsAt W lv 33 (d1.l.map encW) SL := RowsAt.keep h1.hl hkW (fun x hx => by simp; intro hh; subst hh; exact n6 hx)
      have hWx : W.heap[w1.heap.size]? = some (.cells (encW (at_.toNat, s)).toArray 93 (0, 0)) := by
        rw [hW, hencs]; simp only [heap_drew]
        have := heap_new (w := setBlk w1 bn (Obj.cells N2 Tn)) (o := Obj.cells (Value.int IntKind.i64 at_ :: cs.toList).toArray 93)
        rw [size_setBlk] at this
        exact this
      have henl : (encW (at_.toNat, s)).length = 33 := by simp [encW, hs]
      rw [zc93]
      refine rows_app (rows := d1.l.map encW) (G := [encW (at_.toNat, s)]) hWl (by omega) (by simp) (by simpa using henl) ?_ ?_ ?_ ?_ ?_
      · have := one_u8c s
        rw [List.all_toArray] at this
        simpa [encW] using this
      · intro K' hk'
        have : (encW (at_.toNat, s)).toArray.extract 0 33 = (encW (at_.toNat, s)).toArray := by rw [← henl]; simp
        simpa [srcA, hWx, henl, this] using hk'
      · simp only [List.length_map, List.length_singleton, hlog]; omega
      · simp only [List.length_map, List.length_singleton, hlog]; omega
      · intro v' w' S' hr hk' hS'
        obtain ⟨a, c, hv', _⟩ := hr.len
        have hone' : one v' = true := by rw [hv']; rfl
        have hb' := hk'.get hWb n3
        have hs2 := hk'.get hWs n5
        have hn2 := hk'.get hWn n6
        have hlt : ∀ x, x ∈ b :: bs :: bn :: SL → x < w1.heap.size := by
          intro x hx
          simp only [List.mem_cons] at hx
          rcases hx with rfl | rfl | rfl | hx
          · exact hlv
          · exact live_of h1.hs
          · exact hlvn
          · exact RowsAt.lt h1.hl x hx
        have hWsz := hkW.size
        have hd' : ∀ x ∈ S', x ≠ b ∧ x ≠ bs ∧ x ≠ bn := by
          intro x hx
          rcases hS' x hx with hx | hx
          · exact ⟨fun hh => n3 (hh ▸ hx), fun hh => n5 (hh ▸ hx), fun hh => n6 (hh ▸ hx)⟩
          · have := hlt b (by simp); have := hlt bs (by simp); have := hlt bn (by simp)
            exact ⟨by omega, by omega, by omega⟩
        obtain ⟨w2, hw2⟩ : ∃ w2, w2 = setBlk w' b (.cells #[.slice (some ⟨bs, 0, none⟩) d1.now.length d1.now.length, .slice (some ⟨bn, 0, none⟩) d1.now.length d1.now.length, v', .int .i64 d1.fuse, .bool d1.off] T (0, 0)) := ⟨_, rfl⟩
        have hk2 : Kp [b] w' w2 := by rw [hw2]; exact (Kp.refl _ _).setBlk (.inl (by simp)) _
        have := hK w2 (b :: bs :: bn :: S') ⟨bs, bn, v', S', T, Ts, Tn, rfl, ?_, ?_, ?_, ?_, ?_, ?_⟩ ?_ ?_
        · simpa [hone', hb', hw2] using this
        · have := heap_self (o := .cells #[.slice (some ⟨bs, 0, none⟩) d1.now.length d1.now.length, .slice (some ⟨bn, 0, none⟩) d1.now.length d1.now.length, v', .int .i64 d1.fuse, .bool d1.off] T (0, 0)) (live_of hb')
          rw [hw2, this]; simp [hnow]
        · exact hk2.get hs2 (by simpa using n8)
        · rw [hN2, hnow] at hn2; exact hk2.get hn2 (by simpa using n9)
        · have := RowsAt.keep hr hk2 (fun x hx => by simpa using (hd' x hx).1)
          rw [hlog] at this
          simpa [LogAt] using this
        · have := hr.nodup
          simp only [List.nodup_cons, List.mem_cons, not_or]
          exact ⟨⟨n1, n2, fun hx => (hd' _ hx).1 rfl⟩, ⟨n4, fun hx => (hd' _ hx).2.1 rfl⟩, fun hx => (hd' _ hx).2.2 rfl, this⟩
        · refine ⟨by simpa [hsure, hnow] using h1.ok.len, by simpa [hnow] using h1.ok.pos, by simpa [hnow] using h1.ok.most, h1.ok.sz1, by rw [hnow] at hsz2; exact hsz2, ?_, h1.ok.f0, h1.ok.f1⟩
          intro x hx
          rw [List.mem_append] at hx
          simp only [List.length_set]
          rcases hx with hx | hx
          · have := h1.ok.szl x (by rw [hlog]; exact hx); rw [hnow] at this; exact this
          · simp only [List.mem_singleton] at hx; subst hx; exact ⟨by rw [hnow] at hi; exact hi, hs⟩
        · have e1 : Kp (b :: bs :: bn :: SL) w w1 := hk1.mono (by simp)
          have e2 : Kp (b :: bs :: bn :: SL) w1 W := hkW.mono (by simp)
          have e3 : Kp (b :: bs :: bn :: SL) W w' := hk'.mono (fun x hx _ => by simp [hx])
          have e4 : Kp (b :: bs :: bn :: SL) w' w2 := hk2.mono (by simp)
          exact ((e1.trans' e2).trans' e3).trans' e4
        · intro x hx
          simp only [List.mem_cons] at hx ⊢
          rcases hx with hx | hx | hx | hx
          · exact .inl (.inl hx)
          · exact .inl (.inr (.inl hx))
          · exact .inl (.inr (.inr (.inl hx)))
          · rcases hS' x hx with hx | hx
            · exact .inl (.inr (.inr (.inr hx)))
            · exact .inr (by have := hk1.size; omega)
end Go.Proofs

/- Layer 3, the disk: Flush and Crash. -/
set_option linter.unusedVariables false
set_option linter.unusedSimpArgs false
namespace Go.Proofs
open Go Go.Q
def applyAll (L : List (List UInt8)) (l : List (Nat × List UInt8)) : List (List UInt8) := l.foldl (fun L x => L.set x.1 x.2) L
def DK.flush (d : DK) : DK × Int :=
  if d.burns.2 = true then ({ d.burns.1 with sure := applyAll d.sure d.l, l := [] }, 0) else (d.burns.1, 30)
theorem applyAll_ok {n : Nat} : ∀ {l : List (Nat × List UInt8)} {L : List (List UInt8)}, (∀ x ∈ L, x.length = 32) → (∀ x ∈ l, x.1 < n ∧ x.2.length = 32) → (∀ x ∈ applyAll L l, x.length = 32) ∧ (applyAll L l).length = L.length := by
  intro l
  induction l with
  | nil => intro L hL _; exact ⟨hL, rfl⟩
  | cons y r ih =>
    intro L hL hl
    have := ih (L := L.set y.1 y.2) (fun x hx => by
      rcases List.mem_or_eq_of_mem_set hx with hx | hx
      · exact hL x hx
      · rw [hx]; exact (hl y (by simp)).2) (fun x hx => hl x (by simp [hx]))
    exact ⟨this.1, by rw [show applyAll L (y :: r) = applyAll (L.set y.1 y.2) r from rfl, this.2]; simp⟩
/-- the sure sectors are others -/
theorem DiskIs.setSure {w : World} {b : Nat} {d : DK} {bs bn : Nat} {lv : Value} {SL : List Nat} {T Ts Tn : Nat} (h : DiskIs w b d bs bn lv SL T Ts Tn) (L : List (List UInt8)) (hL : ∀ x ∈ L, x.length = 32) (hn : L.length = d.sure.length) :
    DiskIs (setBlk w bs (.cells (L.map u8c).flatten.toArray Ts (0, 0))) b { d with sure := L } bs bn lv SL T Ts Tn ∧ Kp [bs] w (setBlk w bs (.cells (L.map u8c).flatten.toArray Ts (0, 0))) := by
  obtain ⟨n1, n2, n3, n4, n5, n6, n7, n8, n9, n10⟩ := h.ne
  have hk : Kp [bs] w (setBlk w bs (.cells (L.map u8c).flatten.toArray Ts (0, 0))) := (Kp.refl _ _).setBlk (.inl (by simp)) _
  exact ⟨⟨hk.get h.hb (by simpa using n1), heap_self (live_of h.hs), hk.get h.hn (by simpa using n10), RowsAt.keep h.hl hk (fun x hx => by simp; intro hh; subst hh; exact n5 hx), h.nd,
    ⟨by rw [hn]; exact h.ok.len, h.ok.pos, h.ok.most, hL, h.ok.sz2, h.ok.szl, h.ok.f0, h.ok.f1⟩⟩, hk⟩
theorem DiskIs.keep {w w' : World} {b : Nat} {d : DK} {bs bn : Nat} {lv : Value} {SL : List Nat} {T Ts Tn : Nat} {S' : List Nat} (h : DiskIs w b d bs bn lv SL T Ts Tn) (hk : Kp S' w w') (hd : ∀ x ∈ b :: bs :: bn :: SL, x ∉ S') :
    DiskIs w' b d bs bn lv SL T Ts Tn :=
  ⟨hk.get h.hb (hd _ (by simp)), hk.get h.hs (hd _ (by simp)), hk.get h.hn (hd _ (by simp)), RowsAt.keep h.hl hk (fun x hx => hd x (by simp [hx])), h.nd, h.ok⟩
theorem DiskIs.live {w : World} {b : Nat} {d : DK} {bs bn : Nat} {lv : Value} {SL : List Nat} {T Ts Tn : Nat} (h : DiskIs w b d bs bn lv SL T Ts Tn) : ∀ x ∈ b :: bs :: bn :: SL, x < w.heap.size := by
  intro x hx
  simp only [List.mem_cons] at hx
  rcases hx with rfl | rfl | rfl | hx
  · exact live_of h.hb
  · exact live_of h.hs
  · exact live_of h.hn
  · exact RowsAt.lt h.hl x hx
theorem take_snoc {α : Type} {l : List α} {i : Nat} (hi : i < l.length) : l.take (i + 1) = l.take i ++ [l[i]] := by
  rw [List.take_succ_eq_append_getElem hi]
theorem Flush_loop {R : Value → World → Prop} {w0 : World} {b : Nat} {d : DK} {bs bn : Nat} {lv : Value} {SL : List Nat} {T Ts Tn : Nat} (h0 : DiskIs w0 b d bs bn lv SL T Ts Tn) (hlen : d.l.length < 2 ^ 40)
    (hend : ∀ w', DiskIs w' b { d with sure := applyAll d.sure d.l } bs bn lv SL T Ts Tn → Kp [bs] w0 w' → disk_Disk_Flush_s0 R (.pointer (some ⟨b, 0, none⟩)) w') :
    disk_Disk_Flush_L2 R (.pointer (some ⟨b, 0, none⟩)) lv (.int .i64 d.l.length) (.int .i64 0) w0 := by
  unfold disk_Disk_Flush_L2
  refine loop_inv (fun m xs w => ∃ i, i ≤ d.l.length ∧ m = d.l.length - i ∧ xs = [.pointer (some ⟨b, 0, none⟩), lv, .int .i64 d.l.length, .int .i64 i] ∧
    DiskIs w b { d with sure := applyAll d.sure (d.l.take i) } bs bn lv SL T Ts Tn ∧ Kp [bs] w0 w) ?_ (m := d.l.length) ⟨0, by omega, by omega, rfl, h0, Kp.refl _ _⟩
  rintro m N xs w ⟨i, hi, rfl, rfl, h, hk⟩ hN
  simp only [disk_Disk_Flush_L2F, disk_Disk_Flush_b1, bq_lss, bV_b]
  refine ⟨fun hlt => ?_, fun hge => ?_⟩
  · have hlt : i < d.l.length := by simpa using hlt
    obtain ⟨n1, n2, n3, n4, n5, n6, n7, n8, n9, n10⟩ := h.ne
    obtain ⟨bl, TF, c, hbl, hheap, hia, hle, hext, _⟩ := RowsAt.at h.hl (i := i) (by simpa using hlt)
    have hrow : (d.l.map encW)[i]'(by simpa using hlt) = encW d.l[i] := by simp
    simp only at hia hext
    rw [hrow] at hext
    have hx := h0.ok.szl d.l[i] (List.getElem_mem hlt)
    have hin := hN (d.l.length - (i + 1)) [.pointer (some ⟨b, 0, none⟩), lv, .int .i64 d.l.length, .int .i64 ((i + 1 : Nat) : Int)]
    have hencl : (encW d.l[i]).length = 33 := by simp [encW, hx.2]
    have hext2 : ((encW d.l[i]).toArray.extract 1 33) = (u8c d.l[i].2).toArray := by
      have := extract_list (encW d.l[i]) 1 32
      rw [this]
      have h32 : (u8c d.l[i].2).take 32 = u8c d.l[i].2 := List.take_of_length_le (by simp [hx.2])
      simp [encW, h32]
    have hzsz : (zc Try.prog 93).size = 33 := by rw [zc93]; simp
    have hsp : splice (zc Try.prog 93) 0 (encW d.l[i]).toArray = (encW d.l[i]).toArray := by
      have : (zc Try.prog 93).toList.drop 33 = [] := List.drop_of_length_le (by simp [hzsz])
      simp [splice, hencl, this]
    have hone : (encW d.l[i]).toArray.all one = true := by
      have := one_u8c d.l[i].2
      rw [List.all_toArray] at this ⊢
      simpa [encW] using this
    have hgen : ∀ k, k < w.heap.size → k ≠ w.heap.size := fun k hk => by omega
    obtain ⟨E, hE⟩ : ∃ E, E = (encW d.l[i]).toArray := ⟨_, rfl⟩
    have hE0 : E[0]? = some (.int .i64 d.l[i].1) := by rw [hE]; rfl
    have hEs : E.size = 33 := by rw [hE]; simpa using hencl
    rw [← hE] at hext hext2 hsp hone
    rw [hia]
    have hlb := live_of h.hb
    have hls := live_of h.hs
    have hks : Kp [] w (w.alloc (.cells E 93)) := (Kp.refl _ _).alloc _
    have h' := h.keep hks (by simp)
    have hiw : IntKind.i64.wrap ((i : Int) + 1) = ((i + 1 : Nat) : Int) := by rw [w64 (by omega) (by omega)]; simp
    simp [-getElem?_pos, -Array.getElem?_eq_getElem, -List.length_flatten, List.getElem?_cons_zero, List.getElem?_cons_succ, hheap, hle, hext, hEs, hzsz, hone, hsp, h.hb, heap_new, heap_old, hlb, hls, hE0, hext2, hx.1, h.hs, hiw]
    refine ⟨fun j hj => by rw [Array.all_eq_true] at hone; exact hone j (by omega), ?_⟩
    have hi1 : d.l[i].1 < (applyAll d.sure (d.l.take i)).length := by have := h.ok.len; simp only at this; omega
    have hsz := h.ok.sz1
    simp only at hsz
    have hcells := set_cells hsz hi1 hx.2
    rw [hcells]
    have hL : applyAll d.sure (d.l.take (i + 1)) = (applyAll d.sure (d.l.take i)).set d.l[i].1 d.l[i].2 := by unfold applyAll; rw [take_snoc hlt, List.foldl_append]; rfl
    have hset := h'.setSure ((applyAll d.sure (d.l.take i)).set d.l[i].1 d.l[i].2) (by
      intro x hx'
      rcases List.mem_or_eq_of_mem_set hx' with hx' | hx'
      · exact hsz x hx'
      · rw [hx']; exact hx.2) (by simp)
    have hkd : ∀ w, Kp [] w w.drew := fun w => (Kp.refl _ w).drew
    refine ⟨hx.2, ⟨by rw [rows_len hsz, hx.2]; omega, by have := one_u8c d.l[i].2; rw [List.all_toArray, List.all_eq_true] at this; exact this⟩, ?_⟩
    refine hin _ (by omega) ⟨i + 1, hlt, rfl, by simp, ?_, ?_⟩
    · rw [hL]; exact hset.1.keep (hkd _) (by simp)
    · exact (hk.trans' ((hks.mono (by simp)).trans' hset.2)).drew
  · have hie : i = d.l.length := by simp at hge; omega
    subst hie
    rw [List.take_length] at h
    exact hend w h hk

theorem Flush_spec {w : World} {b : Nat} {d : DK} {S : List Nat} (h : DiskAt w b d S) (hl : d.l.length < 2 ^ 40) {K : Value → World → Prop}
    (hK : ∀ w', DiskAt w' b d.flush.1 S → Kp S w w' → K (.int .i64 d.flush.2) w') : callG Try.prog 15 #[.pointer (some ⟨b, 0, none⟩)] w K := by
  refine disk_Disk_Flush_call ?_
  simp only [disk_Disk_Flush, disk_Disk_Flush_s4]
  refine Size_spec h ?_
  have hp : d.now ≠ [] := by
    obtain ⟨bs, bn, lv, SL, T, Ts, Tn, rfl, h⟩ := h
    intro hh; have := h.ok.pos; rw [hh] at this; simp at this
  suffices hmain : callG Try.prog 45 #[.pointer (some ⟨b, 0, none⟩)] w fun t11 w =>
      qG Try.prog (Op.unary .not t11) w fun t12 => bV t12 (K (.int .i64 30) w) (disk_Disk_Flush_s3 K (.pointer (some ⟨b, 0, none⟩)) w) by
    simpa [hp] using hmain
  refine burns_spec h fun w1 h1 hk1 => ?_
  obtain ⟨hnow, hlog, hsure⟩ := d.burns_now
  unfold DK.flush at hK
  have hbS : b ∈ S := by obtain ⟨bs, bn, lv, SL, T, Ts, Tn, rfl, _⟩ := h; simp
  have hk1' : Kp S w w1 := hk1.mono (by simpa using fun _ => hbS)
  cases hb2 : d.burns.2 with
  | false =>
    rw [hb2] at hK
    have := hK w1 h1 hk1'
    simpa using this
  | true =>
    rw [hb2] at hK
    simp only [if_true] at hK
    generalize hd1 : d.burns.1 = d1 at *
    obtain ⟨bs, bn, lv, SL, T, Ts, Tn, rfl, h1⟩ := h1
    obtain ⟨a, c, hlv⟩ := LogAt.len h1.hl
    suffices hmain : disk_Disk_Flush_L2 K (.pointer (some ⟨b, 0, none⟩)) lv (.int .i64 d1.l.length) (.int .i64 0) w1 by
      rw [hlv] at hmain
      simpa [disk_Disk_Flush_s3, h1.hb, hlv] using hmain
    refine Flush_loop h1 (by rw [hlog]; exact hl) fun w2 h2 hk2 => ?_
    simp only [disk_Disk_Flush_s0]
    refine settles_spec ⟨bs, bn, lv, SL, T, Ts, Tn, rfl, h2⟩ fun w3 h3 hk3 => ?_
    refine hK w3 ?_ ((hk1'.trans' (hk2.mono (by simp))).trans' hk3)
    rw [hsure, hlog] at h3
    exact h3

/-- what survives of the writes that are not sure -/
def crashL : List (Nat × List UInt8) → List Int → List (List UInt8) → List (List UInt8)
  | [], _, L => L
  | _ :: _, [], L => L
  | x :: l, k :: ks, L => crashL l ks (L.set x.1 (x.2.take (max 0 (min k 32)).toNat ++ (L.getD x.1 []).drop (max 0 (min k 32)).toNat))
def crash1 (x : Nat × List UInt8) (k : Option Int) (L : List (List UInt8)) : List (List UInt8) :=
  match k with
  | none => L
  | some k => L.set x.1 (x.2.take (max 0 (min k 32)).toNat ++ (L.getD x.1 []).drop (max 0 (min k 32)).toNat)
theorem crashL_snoc (x : Nat × List UInt8) : ∀ (l : List (Nat × List UInt8)) (ks : List Int) (L : List (List UInt8)), crashL (l ++ [x]) ks L = crash1 x ks[l.length]? (crashL l ks L) := by
  intro l
  induction l with
  | nil => intro ks L; cases ks <;> rfl
  | cons y r ih =>
    intro ks L
    cases ks with
    | nil => rfl
    | cons k ks => simp only [List.cons_append, crashL, ih]; rfl
theorem crashL_ok {n : Nat} : ∀ {l : List (Nat × List UInt8)} {ks : List Int} {L : List (List UInt8)}, (∀ x ∈ L, x.length = 32) → L.length = n → (∀ x ∈ l, x.1 < n ∧ x.2.length = 32) → (∀ x ∈ crashL l ks L, x.length = 32) ∧ (crashL l ks L).length = n := by
  intro l
  induction l with
  | nil => intro ks L hL hn _; exact ⟨hL, hn⟩
  | cons y r ih =>
    intro ks L hL hn hl
    cases ks with
    | nil => exact ⟨hL, hn⟩
    | cons k ks =>
      have hy := hl y (by simp)
      refine ih (fun x hx => ?_) (by simpa using hn) (fun x hx => hl x (by simp [hx]))
      rcases List.mem_or_eq_of_mem_set hx with hx | hx
      · exact hL x hx
      · have hg : (L.getD y.1 []).length = 32 := by
          have : y.1 < L.length := by omega
          simp only [List.getD, List.getElem?_eq_getElem this, Option.getD_some]
          exact hL _ (List.getElem_mem this)
        have hle : (max 0 (min k 32)).toNat ≤ 32 := by omega
        rw [hx, List.length_append, List.length_take, List.length_drop, hg, hy.2]; omega
def DK.crash (d : DK) (ks : List Int) : DK := { sure := crashL d.l ks d.sure, now := crashL d.l ks d.sure, l := [], fuse := -1, off := false }
end Go.Proofs

/- Layer 3, the disk: Crash. -/
set_option linter.unusedVariables false
set_option linter.unusedSimpArgs false
namespace Go.Proofs
open Go Go.Q
theorem pre_cells {L : List (List UInt8)} (h : ∀ x ∈ L, x.length = 32) {i : Nat} (hi : i < L.length) {s : List UInt8} (hs : s.length ≤ 32) :
    splice (L.map u8c).flatten.toArray (i * 32) (u8c s).toArray = ((L.set i (s ++ (L.getD i []).drop s.length)).map u8c).flatten.toArray := by
  rw [splice_list, flat_splice (k := 32) (by intro x hx; rw [List.mem_map] at hx; obtain ⟨y, hy, rfl⟩ := hx; simp [h y hy]) (by simpa using hi) (by simp [hs])]
  congr 2
  rw [List.map_set]
  congr 1
  rw [u8c_append, ← u8c_drop]
  simp [List.getD, hi]
/-- the sectors as written are others -/
theorem DiskIs.setNow {w : World} {b : Nat} {d : DK} {bs bn : Nat} {lv : Value} {SL : List Nat} {T Ts Tn : Nat} (h : DiskIs w b d bs bn lv SL T Ts Tn) (L : List (List UInt8)) (hL : ∀ x ∈ L, x.length = 32) (hn : L.length = d.now.length) :
    DiskIs (setBlk w bn (.cells (L.map u8c).flatten.toArray Tn (0, 0))) b { d with now := L } bs bn lv SL T Ts Tn ∧ Kp [bn] w (setBlk w bn (.cells (L.map u8c).flatten.toArray Tn (0, 0))) := by
  obtain ⟨n1, n2, n3, n4, n5, n6, n7, n8, n9, n10⟩ := h.ne
  have hk : Kp [bn] w (setBlk w bn (.cells (L.map u8c).flatten.toArray Tn (0, 0))) := (Kp.refl _ _).setBlk (.inl (by simp)) _
  exact ⟨⟨by simp only [hn]; exact hk.get h.hb (by simpa using n2), hk.get h.hs (by simpa using n4), heap_self (live_of h.hn), RowsAt.keep h.hl hk (fun x hx => by simp; intro hh; subst hh; exact n6 hx), h.nd,
    ⟨by simp only [hn]; exact h.ok.len, by simp only [hn]; exact h.ok.pos, by simp only [hn]; exact h.ok.most, h.ok.sz1, hL, by simp only [hn]; exact h.ok.szl, h.ok.f0, h.ok.f1⟩⟩, hk⟩
theorem Crash_loop {R : Value → World → Prop} {w0 : World} {b : Nat} {d : DK} {bs bn : Nat} {lv kv : Value} {ks : List Int} {SK : List Nat} {SL : List Nat} {T Ts Tn : Nat} (h0 : DiskIs w0 b d bs bn lv SL T Ts Tn) (hlen : d.l.length < 2 ^ 40)
    (hks : IntsAt w0 kv ks SK) (hdis : ∀ x ∈ SK, x ∉ b :: bs :: bn :: SL) (hkw : ∀ x ∈ ks, -9223372036854775808 ≤ x ∧ x < 9223372036854775808)
    (hend : ∀ w', DiskIs w' b { d with sure := crashL d.l ks d.sure } bs bn lv SL T Ts Tn → Kp [bs] w0 w' → disk_Disk_Crash_s0 R (.pointer (some ⟨b, 0, none⟩)) w') :
    disk_Disk_Crash_L2 R (.pointer (some ⟨b, 0, none⟩)) kv lv (.int .i64 d.l.length) (.int .i64 0) w0 := by
  unfold disk_Disk_Crash_L2
  have hstart : crashL (d.l.take 0) ks d.sure = d.sure := rfl
  refine loop_inv (fun m xs w => ∃ i, i ≤ d.l.length ∧ m = d.l.length - i ∧ xs = [.pointer (some ⟨b, 0, none⟩), kv, lv, .int .i64 d.l.length, .int .i64 i] ∧
    DiskIs w b { d with sure := crashL (d.l.take i) ks d.sure } bs bn lv SL T Ts Tn ∧ Kp [bs] w0 w) ?_ (m := d.l.length) ⟨0, by omega, by omega, rfl, by rw [hstart]; exact h0, Kp.refl _ _⟩
  rintro m N xs w ⟨i, hi, rfl, rfl, h, hk⟩ hN
  simp only [disk_Disk_Crash_L2F, disk_Disk_Crash_b1, bq_lss, bV_b]
  refine ⟨fun hlt => ?_, fun hge => ?_⟩
  · have hlt : i < d.l.length := by simpa using hlt
    have hks' : IntsAt w kv ks SK := hks.keep hk (fun x hx => by
      have := hdis x hx
      simp only [List.mem_cons, not_or] at this
      simp [this.2.1])
    obtain ⟨n1, n2, n3, n4, n5, n6, n7, n8, n9, n10⟩ := h.ne
    obtain ⟨bl, TF, c, hbl, hheap, hia, hle, hext, _⟩ := RowsAt.at h.hl (i := i) (by simpa using hlt)
    have hrow : (d.l.map encW)[i]'(by simpa using hlt) = encW d.l[i] := by simp
    simp only at hia hext
    rw [hrow] at hext
    have hx := h0.ok.szl d.l[i] (List.getElem_mem hlt)
    have hin := hN (d.l.length - (i + 1)) [.pointer (some ⟨b, 0, none⟩), kv, lv, .int .i64 d.l.length, .int .i64 ((i + 1 : Nat) : Int)]
    have hencl : (encW d.l[i]).length = 33 := by simp [encW, hx.2]
    have hzsz : (zc Try.prog 93).size = 33 := by rw [zc93]; simp
    have hsp : splice (zc Try.prog 93) 0 (encW d.l[i]).toArray = (encW d.l[i]).toArray := by
      have : (zc Try.prog 93).toList.drop 33 = [] := List.drop_of_length_le (by simp [hzsz])
      simp [splice, hencl, this]
    have hone : (encW d.l[i]).toArray.all one = true := by
      have := one_u8c d.l[i].2
      rw [List.all_toArray] at this ⊢
      simpa [encW] using this
    obtain ⟨E, hE⟩ : ∃ E, E = (encW d.l[i]).toArray := ⟨_, rfl⟩
    have hE0 : E[0]? = some (.int .i64 d.l[i].1) := by rw [hE]; rfl
    have hEs : E.size = 33 := by rw [hE]; simpa using hencl
    have hEx : ∀ n, n ≤ 32 → E.extract 1 (1 + n) = (u8c (d.l[i].2.take n)).toArray := by
      intro n hn
      rw [hE, extract_list, ← u8c_take]
      simp [encW]
    rw [← hE] at hext hsp hone
    have hlb := live_of h.hb
    have hls := live_of h.hs
    have hks1 : Kp [] w (w.alloc (.cells E 93)) := (Kp.refl _ _).alloc _
    have h' := h.keep hks1 (by simp)
    have hiw : IntKind.i64.wrap ((i : Int) + 1) = ((i + 1 : Nat) : Int) := by rw [w64 (by omega) (by omega)]; simp
    obtain ⟨ka, kc, hkv⟩ := hks'.len
    have hkl : ∀ K : Value → Prop, lenL kv K = K (.int .i64 ks.length) := by intro K; rw [hkv]; rfl
    have hi1 : d.l[i].1 < (crashL (d.l.take i) ks d.sure).length := by have := h.ok.len; simp only at this; omega
    have hsz := h.ok.sz1
    simp only at hsz
    have hL : crashL (d.l.take (i + 1)) ks d.sure = crash1 d.l[i] ks[i]? (crashL (d.l.take i) ks d.sure) := by
      rw [take_snoc hlt, crashL_snoc]; simp [Nat.min_eq_left hi]
    have hkd : ∀ w, Kp [] w w.drew := fun w => (Kp.refl _ w).drew
    rw [hia]
    by_cases hik : i < ks.length
    · obtain ⟨bk, ok, ck, Tk, frk, hbk, hkheap, hkia, hkc⟩ := hks'.at hik
      have hkne := live_of hkheap
      obtain ⟨q, hq⟩ : ∃ q, q = ks.getD i 0 := ⟨_, rfl⟩
      rw [← hq] at hkc
      have hki : ks[i]? = some q := by rw [hq]; simp [List.getD, hik]
      obtain ⟨n, hn⟩ : ∃ n, n = (max 0 (min q 32)).toNat := ⟨_, rfl⟩
      have hnq : max 0 (min q 32) = (n : Int) := by omega
      have hn32 : n ≤ 32 := by omega
      have hpre := pre_cells hsz hi1 (s := d.l[i].2.take n) (by simp; omega)
      have hmin : Nat.min 32 n = n := Nat.min_eq_right hn32
      have htl : (d.l[i].2.take n).length = n := by simp [hx.2, hn32]
      rw [htl] at hpre
      have honep := one_u8c (d.l[i].2.take n)
      obtain ⟨X, hX⟩ : ∃ X, X = (u8c (d.l[i].2.take n)).toArray := ⟨_, rfl⟩
      have hEX : E.extract 1 (1 + n) = X := by rw [hEx n hn32, hX]
      have hXs : X.size = n := by rw [hX]; simpa using htl
      rw [← hX] at hpre honep
      simp [-getElem?_pos, -Array.getElem?_eq_getElem, -List.length_flatten, List.getElem?_cons_zero, List.getElem?_cons_succ, hheap, hle, hext, hEs, hzsz, hone, hsp, h.hb, heap_new, heap_old, hlb, hls, hE0, hx.1, h.hs, hiw, hkl, hik, hkia, hkheap, hkc, hkne, hnq, hn32, cp, src, wrO, hmin, hEX, hXs, hpre]
      have hset := h'.setSure ((crashL (d.l.take i) ks d.sure).set d.l[i].1 (d.l[i].2.take n ++ ((crashL (d.l.take i) ks d.sure).getD d.l[i].1 []).drop n)) (by
        intro x hx'
        have hok := crashL_ok (n := d.now.length) (ks := ks) (l := d.l.take (i + 1)) h0.ok.sz1 (by have := h0.ok.len; exact this) (fun x hx => h0.ok.szl x (List.mem_of_mem_take hx))
        rw [hL, hki] at hok
        simp only [crash1, ← hn] at hok
        exact hok.1 x hx') (by simp)
      refine ⟨fun j hj => by rw [Array.all_eq_true] at hone; exact hone j (by omega), by omega, by omega, ⟨by rw [rows_len hsz]; omega, by rw [show min (1 + n) 33 - 1 = X.size by omega]; exact honep⟩, ?_⟩
      refine hin _ (by omega) ⟨i + 1, hlt, rfl, by simp, ?_, ?_⟩
      · rw [hL, hki]; simp only [crash1, ← hn]
        have := hset.1.keep (hkd _) (by simp)
        simpa using this
      · have := (hk.trans' ((hks1.mono (by simp)).trans' hset.2)).drew
        simpa using this
    · have hki : ks[i]? = none := by simp; omega
      simp [-getElem?_pos, -Array.getElem?_eq_getElem, -List.length_flatten, List.getElem?_cons_zero, List.getElem?_cons_succ, hheap, hle, hext, hEs, hzsz, hone, hsp, h.hb, heap_new, heap_old, hlb, hls, hE0, hx.1, h.hs, hiw, hkl, hik]
      refine ⟨fun j hj => by rw [Array.all_eq_true] at hone; exact hone j (by omega), ?_⟩
      refine hin _ (by omega) ⟨i + 1, hlt, rfl, by simp, ?_, hk.trans' (hks1.mono (by simp))⟩
      rw [hL, hki]
      exact h'
  · have hie : i = d.l.length := by simp at hge; omega
    subst hie
    rw [List.take_length] at h
    exact hend w h hk

theorem Crash_spec {w : World} {b : Nat} {d : DK} {S : List Nat} (h : DiskAt w b d S) (hl : d.l.length < 2 ^ 40) {kv : Value} {ks : List Int} {SK : List Nat} (hks : IntsAt w kv ks SK) (hdis : ∀ x ∈ SK, x ∉ S)
    (hkw : ∀ x ∈ ks, -9223372036854775808 ≤ x ∧ x < 9223372036854775808) {K : Value → World → Prop}
    (hK : ∀ w', DiskAt w' b (d.crash ks) S → Kp S w w' → K (.int .i64 0) w') : callG Try.prog 16 #[.pointer (some ⟨b, 0, none⟩), kv] w K := by
  refine disk_Disk_Crash_call ?_
  simp only [disk_Disk_Crash, disk_Disk_Crash_s4]
  refine Size_spec h ?_
  obtain ⟨bs, bn, lv, SL, T, Ts, Tn, rfl, h⟩ := h
  have hp : d.now ≠ [] := by intro hh; have := h.ok.pos; rw [hh] at this; simp at this
  obtain ⟨a, c, hlv⟩ := LogAt.len h.hl
  suffices hmain : disk_Disk_Crash_L2 K (.pointer (some ⟨b, 0, none⟩)) kv lv (.int .i64 d.l.length) (.int .i64 0) w by
    rw [hlv] at hmain
    simpa [hp, disk_Disk_Crash_s3, h.hb, hlv] using hmain
  refine Crash_loop h hl hks hdis hkw fun w1 h1 hk1 => ?_
  obtain ⟨n1, n2, n3, n4, n5, n6, n7, n8, n9, n10⟩ := h1.ne
  have hok := crashL_ok (n := d.now.length) (ks := ks) (l := d.l) h.ok.sz1 h.ok.len h.ok.szl
  -- now is what is sure
  obtain ⟨L, hL⟩ : ∃ L, L = crashL d.l ks d.sure := ⟨_, rfl⟩
  rw [← hL] at hok h1
  obtain ⟨C, hC⟩ : ∃ C, C = (L.map u8c).flatten.toArray := ⟨_, rfl⟩
  obtain ⟨N, hN⟩ : ∃ N, N = (d.now.map u8c).flatten.toArray := ⟨_, rfl⟩
  have hs := h1.hs
  have hn := h1.hn
  simp only at hs hn
  rw [← hC] at hs
  rw [← hN] at hn
  have hCs : C.size = d.now.length * 32 := by
    have := rows_len hok.1
    rw [hok.2] at this
    rw [hC]; exact this
  have hNs : N.size = d.now.length * 32 := by
    have := rows_len h.ok.sz2
    rw [hN]; exact this
  have hCone : C.all one = true := by
    rw [hC, List.all_toArray, List.all_eq_true]
    intro x hx
    rw [List.mem_flatten] at hx
    obtain ⟨y, hy, hxy⟩ := hx
    rw [List.mem_map] at hy
    obtain ⟨z, _, rfl⟩ := hy
    have := one_u8c z
    rw [List.all_toArray, List.all_eq_true] at this
    exact this x hxy
  have hCx : C.extract 0 (d.now.length * 32) = C := by rw [← hCs]; simp
  have hsp : splice N 0 C = C := by
    have : N.toList.drop C.size = [] := List.drop_of_length_le (by simp [hNs, hCs])
    simp [splice, this]
  have hlb := live_of h1.hb
  have hln := live_of h1.hn
  simp [-getElem?_pos, -Array.getElem?_eq_getElem, -List.length_flatten, List.getElem?_cons_zero, List.getElem?_cons_succ, disk_Disk_Crash_s0, h1.hb, hs, hn, cp, src, wrO, hCs, hNs, hCx, hsp, hCone]
  refine ⟨by rw [← hCs]; exact hCone, ?_⟩
  have hnow := h1.setNow L hok.1 hok.2
  rw [← hC] at hnow
  have hk2 : Kp [bn] w1 (setBlk w1 bn (.cells C Tn (0, 0))).drew := hnow.2.drew
  have h2 : DiskIs (setBlk w1 bn (.cells C Tn (0, 0))).drew b { sure := L, now := L, l := d.l, fuse := d.fuse, off := d.off } bs bn lv SL T Ts Tn := hnow.1.keep (Kp.refl [] _).drew (by simp)
  refine settles_spec ⟨bs, bn, lv, SL, T, Ts, Tn, rfl, h2⟩ fun w3 h3 hk3 => ?_
  obtain ⟨bs', bn', lv', SL', T', Ts', Tn', hS, h3⟩ := h3
  have hlv3 := live_of h3.hb
  have hhead := h3.head (-1) false (by omega) (by omega)
  simp only [List.cons.injEq, true_and] at hS
  obtain ⟨rfl, rfl, rfl⟩ := hS
  subst hL
  have := hK _ ⟨bs, bn, lv', SL, T', Ts', Tn', rfl, hhead.1⟩ ((((hk1.mono (by simp)).trans' (hk2.mono (by simp))).trans' hk3).trans' (hhead.2.mono (by simp)))
  simp [-getElem?_pos, -Array.getElem?_eq_getElem, -List.length_flatten, List.getElem?_cons_zero, List.getElem?_cons_succ, h3.hb, heap_self, hlv3]
  simpa [DK.settled] using this
end Go.Proofs

/- Layer 3: the statements' helpers: filled, awake. -/
set_option linter.unusedVariables false
set_option linter.unusedSimpArgs false
namespace Go.Proofs
open Go Go.Q
theorem zc5 : zc Try.prog 5 = #[.int .u8 0] := by kernel_rfl
theorem rep5 (n : Nat) : rep (zc Try.prog 5) n = (u8c (List.replicate n 0)).toArray := by
  have := rep_replicate (.int .u8 0) 1 n (by omega)
  rw [zc5]
  simpa [u8c] using this
def fill32 (c : UInt8) : List UInt8 := List.replicate 32 c
@[simp] theorem fill32_len (c : UInt8) : (fill32 c).length = 32 := by simp [fill32]
theorem filled_spec {w : World} (c : UInt8) {K : Value → World → Prop} (hK : ∀ w', Kp [] w w' → K (.string (str (fill32 c))) w') : callG Try.prog 14 #[.int .u8 c.toNat] w K := by
  refine law03_filled_call ?_
  simp only [law03_filled, law03_filled_s4, law03_filled_s3]
  suffices hmain : law03_filled_L2 K (.int .u8 c.toNat) (.slice (some ⟨w.heap.size, 0, none⟩) 32 32) (.int .i64 0) (w.alloc (.cells (u8c (List.replicate 32 0)).toArray 5)) by
    simpa [mkG, rep5] using hmain
  unfold law03_filled_L2
  refine loop_inv (fun m xs w1 => ∃ i, i ≤ 32 ∧ m = 32 - i ∧ xs = [.int .u8 c.toNat, .slice (some ⟨w.heap.size, 0, none⟩) 32 32, .int .i64 (i : Nat)] ∧
    w1 = w.alloc (.cells (u8c (List.replicate i c ++ List.replicate (32 - i) 0)).toArray 5)) ?_ (m := 32) ⟨0, by omega, rfl, rfl, rfl⟩
  rintro m N xs w1 ⟨i, hi, rfl, rfl, rfl⟩ hN
  simp only [law03_filled_L2F, law03_filled_b1, bq_lss, bV_b]
  refine ⟨fun hlt => ?_, fun hge => ?_⟩
  · have hlt : i < 32 := by simp at hlt; omega
    have hin := hN (32 - (i + 1)) _ _ (by omega) ⟨i + 1, by omega, rfl, rfl, rfl⟩
    have hcells : (u8c (List.replicate i c ++ List.replicate (32 - i) 0)).set i (.int .u8 c.toNat) = u8c (List.replicate (i + 1) c ++ List.replicate (32 - (i + 1)) 0) := by
      have : 32 - i = (32 - (i + 1)) + 1 := by omega
      rw [this, List.replicate_succ, List.replicate_succ']
      simp [u8c]
    have hiw : IntKind.i64.wrap ((i : Int) + 1) = ((i + 1 : Nat) : Int) := by rw [w64 (by omega) (by omega)]; simp
    have hlen : (u8c (List.replicate i c ++ List.replicate (32 - i) 0)).length = 32 := by simp; omega
    obtain ⟨C, hC⟩ : ∃ C, C = u8c (List.replicate i c ++ List.replicate (32 - i) 0) := ⟨_, rfl⟩
    obtain ⟨C', hC'⟩ : ∃ C', C' = u8c (List.replicate (i + 1) c ++ List.replicate (32 - (i + 1)) 0) := ⟨_, rfl⟩
    rw [← hC, ← hC'] at hcells
    rw [← hC] at hlen
    rw [← hC'] at hin
    rw [← hC]
    simp [-getElem?_pos, -Array.getElem?_eq_getElem, -List.length_flatten, List.getElem?_cons_zero, List.getElem?_cons_succ, heap_new, hlen, hlt, hcells, hiw]
    refine ⟨by omega, ?_⟩
    simpa using hin
  · have hie : i = 32 := by simp at hge; omega
    subst hie
    have hlen : (u8c (List.replicate 32 c)).length = 32 := by simp
    have hK' := hK (w.alloc (.cells (u8c (List.replicate 32 c)).toArray 5)) ((Kp.refl _ _).alloc _)
    have ht : List.take 32 (u8c (List.replicate 32 c)) = u8c (List.replicate 32 c) := List.take_of_length_le (by simp)
    have hb := bytesOf_u8c (List.replicate 32 c)
    obtain ⟨C, hC⟩ : ∃ C, C = u8c (List.replicate 32 c) := ⟨_, rfl⟩
    simp only [Nat.sub_self, List.replicate_zero, List.append_nil]
    rw [← hC] at hlen ht hb hK' ⊢
    simp [-getElem?_pos, -Array.getElem?_eq_getElem, -List.length_flatten, List.getElem?_cons_zero, List.getElem?_cons_succ, law03_filled_s0, cvBS, heap_new, hlen, ht, hb]
    exact hK'

/-- a disk of the call's own: nothing that was there when the call began has turned -/
structure Own (w0 w : World) (b : Nat) (d : DK) (S : List Nat) : Prop where
  at_ : DiskAt w b d S
  kp : Kp [] w0 w
  new : ∀ x ∈ S, w0.heap.size ≤ x
theorem Own.keep {w0 w w' : World} {b : Nat} {d : DK} {S : List Nat} (h : Own w0 w b d S) (hk : Kp [] w w') : Own w0 w' b d S := ⟨h.at_.keep hk (by simp), h.kp.trans' hk, h.new⟩
theorem Own.next {w0 w w' : World} {b : Nat} {d d' : DK} {S S' : List Nat} (h : Own w0 w b d S) (h' : DiskAt w' b d' S') (hk : Kp S w w') (hS : ∀ x ∈ S', x ∈ S ∨ w.heap.size ≤ x) : Own w0 w' b d' S' :=
  ⟨h', h.kp.trans hk (fun x hx hlt => by have := h.new x hx; omega), fun x hx => by
    rcases hS x hx with hx | hx
    · exact h.new x hx
    · have := h.kp.size; omega⟩
theorem own_new {w0 w : World} (hk0 : Kp [] w0 w) {n : Nat} (h1 : 1 ≤ n) (h2 : n ≤ 4096) {K : Value → World → Prop}
    (hK : ∀ w' b S, Own w0 w' b (DK.fresh n) S → Kp [] w w' → K (.tuple #[.pointer (some ⟨b, 0, none⟩), .int .i64 0]) w') : callG Try.prog 12 #[.int .i64 n] w K :=
  New_ok h1 h2 fun w' b S hd hk hS => hK w' b S ⟨hd, hk0.trans' hk, fun x hx => by have := hS x hx; have := hk0.size; omega⟩ hk
theorem own_write {w0 w : World} {b : Nat} {d : DK} {S : List Nat} (h : Own w0 w b d S) (hl : d.l.length < 2 ^ 40) (at_ : Int) (s : List UInt8) {K : Value → World → Prop}
    (hK : ∀ w' S', Own w0 w' b (d.write at_ s).1 S' → Kp S w w' → (∀ x ∈ S', x ∈ S ∨ w.heap.size ≤ x) → K (.int .i64 (d.write at_ s).2) w') :
    callG Try.prog 13 #[.pointer (some ⟨b, 0, none⟩), .int .i64 at_, .string (str s)] w K :=
  Write_spec h.at_ hl at_ s fun w' S' hd hk hS => hK w' S' (h.next hd hk hS) hk hS
theorem own_flush {w0 w : World} {b : Nat} {d : DK} {S : List Nat} (h : Own w0 w b d S) (hl : d.l.length < 2 ^ 40) {K : Value → World → Prop}
    (hK : ∀ w', Own w0 w' b d.flush.1 S → Kp S w w' → K (.int .i64 d.flush.2) w') : callG Try.prog 15 #[.pointer (some ⟨b, 0, none⟩)] w K :=
  Flush_spec h.at_ hl fun w' hd hk => hK w' (h.next hd hk fun _ h => .inl h) hk
theorem own_crash {w0 w : World} {b : Nat} {d : DK} {S : List Nat} (h : Own w0 w b d S) (hl : d.l.length < 2 ^ 40) {kv : Value} {ks : List Int} {SK : List Nat} (hks : IntsAt w kv ks SK) (hdis : ∀ x ∈ SK, x ∉ S)
    (hkw : ∀ x ∈ ks, -9223372036854775808 ≤ x ∧ x < 9223372036854775808) {K : Value → World → Prop}
    (hK : ∀ w', Own w0 w' b (d.crash ks) S → Kp S w w' → K (.int .i64 0) w') : callG Try.prog 16 #[.pointer (some ⟨b, 0, none⟩), kv] w K :=
  Crash_spec h.at_ hl hks hdis hkw fun w' hd hk => hK w' (h.next hd hk fun _ h => .inl h) hk
theorem own_fuse {w0 w : World} {b : Nat} {d : DK} {S : List Nat} (h : Own w0 w b d S) (n : Int) (hn : n < 9223372036854775808) {K : Value → World → Prop}
    (hK : ∀ w', Own w0 w' b { d with fuse := max n (-1) } S → Kp S w w' → K (.int .i64 0) w') : callG Try.prog 23 #[.pointer (some ⟨b, 0, none⟩), .int .i64 n] w K :=
  Fuse_spec h.at_ n hn fun w' hd hk => by
    have hb : b ∈ S := by obtain ⟨bs, bn, lv, SL, T, Ts, Tn, rfl, _⟩ := h.at_; simp
    have hk' : Kp S w w' := hk.mono (by simpa using fun _ => hb)
    exact hK w' (h.next hd hk' fun _ h => .inl h) hk'
def awD1 : DK := ((DK.fresh 2).write 0 (fill32 97)).1
def awD2 : DK := awD1.flush.1
def awD3 : DK := (awD2.write 0 (fill32 98)).1
def awD4 : DK := awD3.crash [5]
theorem zc3 : zc Try.prog 3 = #[.int .i64 0] := by kernel_rfl
theorem awake_spec {w : World} {K : Value → World → Prop} (hK : ∀ w', Kp [] w w' → K (.bool true) w') : callG Try.prog 18 #[] w K := by
  refine law03_awake_call ?_
  simp only [law03_awake, law03_awake_s2]
  refine own_new (n := 2) (Kp.refl [] w) (by omega) (by omega) fun w1 b S1 o1 _ => ?_
  simp [-getElem?_pos, -Array.getElem?_eq_getElem, -List.length_flatten, List.getElem?_cons_zero, List.getElem?_cons_succ, ]
  refine filled_spec 97 fun w2 hk2 => ?_
  refine own_write (o1.keep hk2) (by simp [DK.fresh]) 0 (fill32 97) fun w3 S3 o3 _ _ => ?_
  have e3 : ((DK.fresh 2).write 0 (fill32 97)).2 = 0 := by decide
  simp [-getElem?_pos, -Array.getElem?_eq_getElem, -List.length_flatten, List.getElem?_cons_zero, List.getElem?_cons_succ, e3]
  refine own_flush o3 (by decide) fun w4 o4 _ => ?_
  have e4 : ((DK.fresh 2).write 0 (fill32 97)).1.flush.2 = 0 := by decide
  simp [-getElem?_pos, -Array.getElem?_eq_getElem, -List.length_flatten, List.getElem?_cons_zero, List.getElem?_cons_succ, e4]
  refine filled_spec 98 fun w5 hk5 => ?_
  refine own_write (o4.keep hk5) (by decide) 0 (fill32 98) fun w6 S6 o6 _ _ => ?_
  have e6 : (((DK.fresh 2).write 0 (fill32 97)).1.flush.1.write 0 (fill32 98)).2 = 0 := by decide
  simp [-getElem?_pos, -Array.getElem?_eq_getElem, -List.length_flatten, List.getElem?_cons_zero, List.getElem?_cons_succ, e6]
  refine Waits_spec o6.at_ ?_
  have e7 : (((DK.fresh 2).write 0 (fill32 97)).1.flush.1.write 0 (fill32 98)).1.l.length = 1 := by decide
  simp [-getElem?_pos, -Array.getElem?_eq_getElem, -List.length_flatten, List.getElem?_cons_zero, List.getElem?_cons_succ, e7]
  simp only [law03_awake_s1]
  refine Read_spec o6.at_ 0 ?_
  have e8 : (((DK.fresh 2).write 0 (fill32 97)).1.flush.1.write 0 (fill32 98)).1.read 0 = (fill32 98, 0) := by decide
  simp [-getElem?_pos, -Array.getElem?_eq_getElem, -List.length_flatten, List.getElem?_cons_zero, List.getElem?_cons_succ, e8]
  refine filled_spec 98 fun w8 hk8 => ?_
  have o8 := o6.keep hk8
  simp [-getElem?_pos, -Array.getElem?_eq_getElem, -List.length_flatten, List.getElem?_cons_zero, List.getElem?_cons_succ, bsl_one]
  have hk9 : Kp [] w8 (w8.alloc (.cells #[.int .i64 5] 3)) := (Kp.refl _ _).alloc _
  have o9 := o8.keep hk9
  have hks : IntsAt (w8.alloc (.cells #[.int .i64 5] 3)) (.slice (some ⟨w8.heap.size, 0, none⟩) 1 1) [5] [w8.heap.size] :=
    ⟨_, 1, rfl, .inr ⟨_, 0, _, _, _, rfl, rfl, heap_new, fun i hi => by have : i = 0 := by simpa using hi
                                                                        subst this; rfl⟩⟩
  have hdis : ∀ x ∈ [w8.heap.size], x ∉ S6 := by
    intro x hx hx6
    simp only [List.mem_singleton] at hx
    subst hx
    obtain ⟨bs, bn, lv, SL, T, Ts, Tn, rfl, h⟩ := o8.at_
    exact absurd (h.live _ hx6) (by omega)
  rw [bsl_one rfl]
  refine own_crash o9 (by decide) hks hdis (by simp) fun w10 o10 _ => ?_
  simp [-getElem?_pos, -Array.getElem?_eq_getElem, -List.length_flatten, List.getElem?_cons_zero, List.getElem?_cons_succ, ]
  simp only [law03_awake_s0]
  refine Read_spec o10.at_ 0 ?_
  have e10 : ((((DK.fresh 2).write 0 (fill32 97)).1.flush.1.write 0 (fill32 98)).1.crash [5]).read 0 = ((fill32 98).take 5 ++ (fill32 97).drop 5, 0) := by decide
  simp [-getElem?_pos, -Array.getElem?_eq_getElem, -List.length_flatten, List.getElem?_cons_zero, List.getElem?_cons_succ, e10]
  refine filled_spec 98 fun w11 hk11 => ?_
  simp [-getElem?_pos, -Array.getElem?_eq_getElem, -List.length_flatten, List.getElem?_cons_zero, List.getElem?_cons_succ, ]
  refine filled_spec 97 fun w12 hk12 => ?_
  have o12 := (o10.keep ((Kp.refl _ _).drew.trans' hk11)).keep hk12
  have e12 : List.drop 5 (List.take 32 (fill32 97)) = List.drop 5 (fill32 97) := by decide
  simp [-getElem?_pos, -Array.getElem?_eq_getElem, -List.length_flatten, List.getElem?_cons_zero, List.getElem?_cons_succ, bq_sadd, str_extract, e12]
  refine Size_spec o12.at_ ?_
  have e13 : ((((DK.fresh 2).write 0 (fill32 97)).1.flush.1.write 0 (fill32 98)).1.crash [5]).now.length = 2 := by decide
  simp [-getElem?_pos, -Array.getElem?_eq_getElem, -List.length_flatten, List.getElem?_cons_zero, List.getElem?_cons_succ, e13]
  refine Waits_spec o12.at_ ?_
  simpa [DK.crash] using hK w12 o12.kp
end Go.Proofs

/- DiskSure: what is flushed survives. -/
set_option linter.unusedVariables false
set_option linter.unusedSimpArgs false
namespace Go.Proofs
open Go Go.Q
theorem burns_calm {d : DK} (h1 : d.off = false) (h2 : d.fuse = -1) : d.burns = (d, true) := by
  cases d
  simp only at h1 h2
  subst h1; subst h2
  simp [DK.burns]
theorem write_calm {d : DK} (h1 : d.off = false) (h2 : d.fuse = -1) {i : Nat} (hi : i < d.now.length) {s : List UInt8} (hs : s.length = 32) :
    d.write i s = ({ d with now := d.now.set i s, l := d.l ++ [(i, s)] }, 0) := by
  unfold DK.write
  rw [burns_calm h1 h2, if_pos ⟨⟨by omega, by omega⟩, hs⟩, if_pos rfl]
  simp
theorem flush_calm {d : DK} (h1 : d.off = false) (h2 : d.fuse = -1) : d.flush = ({ d with sure := applyAll d.sure d.l, l := [] }, 0) := by
  unfold DK.flush
  rw [burns_calm h1 h2, if_pos rfl]
def let0 (base : Nat) (i : Nat) : UInt8 := UInt8.ofNat (base + i)
/-- the sectors, so many of them written -/
def secA (n : Nat) : List (List UInt8) := (List.range 16).map fun j => fill32 (if j < n then let0 97 j else 0)
def logA (n : Nat) : List (Nat × List UInt8) := (List.range n).map fun j => (j, fill32 (let0 97 j))
def bitOf (again : Int) (i : Nat) : Bool := decide (again / 2 ^ i % 2 = 1)
theorem secA_len (n : Nat) : (secA n).length = 16 := by simp [secA]
theorem secA_zero : secA 0 = secs0 16 := by decide
theorem secA_set {i : Nat} (hi : i < 16) : (secA i).set i (fill32 (let0 97 i)) = secA (i + 1) := by
  apply List.ext_getElem
  · simp [secA]
  · intro j h1 h2
    simp only [secA, List.getElem_set, List.getElem_map, List.getElem_range]
    by_cases hj : i = j
    · subst hj; simp
    · simp only [hj, if_false]
      have : (j < i) = (j < i + 1) := by apply propext; omega
      simp only [this]
theorem logA_succ (i : Nat) : logA i ++ [(i, fill32 (let0 97 i))] = logA (i + 1) := by simp [logA, List.range_succ]
theorem applyA : ∀ n, n ≤ 16 → applyAll (secs0 16) (logA n) = secA n := by
  intro n
  induction n with
  | zero => intro _; rw [secA_zero]; rfl
  | succ n ih =>
    intro h
    rw [← logA_succ, ← secA_set (by omega), ← ih (by omega)]
    unfold applyAll
    rw [List.foldl_append]; rfl
/-- one write at most to each sector: what a crash leaves there -/
theorem crashL_get {p : Nat} : ∀ {l : List (Nat × List UInt8)} {ks : List Int} {L : List (List UInt8)}, (l.map (·.1)).Nodup →
    (p ∉ l.map (·.1) → (crashL l ks L).getD p [] = L.getD p []) := by
  intro l
  induction l with
  | nil => intro ks L _ _; rfl
  | cons x r ih =>
    intro ks L hn hp
    cases ks with
    | nil => rfl
    | cons k ks =>
      simp only [List.map_cons, List.nodup_cons, List.mem_cons, not_or] at hn hp
      show (crashL r ks _).getD p [] = _
      rw [ih hn.2 hp.2]
      have : ¬ x.1 = p := fun h => hp.1 h.symm
      simp [List.getD, List.getElem?_set_ne this]
theorem crashL_at {p : Nat} {s : List UInt8} : ∀ {l1 l2 : List (Nat × List UInt8)} {ks : List Int} {L : List (List UInt8)}, ((l1 ++ (p, s) :: l2).map (·.1)).Nodup → p < L.length →
    (crashL (l1 ++ (p, s) :: l2) ks L).getD p [] = (match ks[l1.length]? with | none => L.getD p [] | some k => s.take (max 0 (min k 32)).toNat ++ (L.getD p []).drop (max 0 (min k 32)).toNat) := by
  intro l1
  induction l1 with
  | nil =>
    intro l2 ks L hn hp
    cases ks with
    | nil => rfl
    | cons k ks =>
      simp only [List.nil_append, List.map_cons, List.nodup_cons] at hn
      show (crashL l2 ks _).getD p [] = _
      rw [crashL_get hn.2 hn.1]
      simp [List.getD, hp]
  | cons x r ih =>
    intro l2 ks L hn hp
    cases ks with
    | nil => rfl
    | cons k ks =>
      simp only [List.cons_append, List.map_cons, List.nodup_cons] at hn
      have hx : ¬ x.1 = p := fun h => hn.1 (by simp [h])
      show (crashL (r ++ (p, s) :: l2) ks _).getD p [] = _
      rw [ih hn.2 (by simpa using hp)]
      have : (L.set x.1 (x.2.take (max 0 (min k 32)).toNat ++ (L.getD x.1 []).drop (max 0 (min k 32)).toNat)).getD p [] = L.getD p [] := by simp [List.getD, List.getElem?_set_ne hx]
      simp only [this, List.length_cons, List.getElem?_cons_succ]
def logB (again : Int) (n : Nat) : List (Nat × List UInt8) := ((List.range n).filter (bitOf again)).map fun j => (j, fill32 (let0 65 j))
theorem logB_succ (again : Int) (i : Nat) : logB again (i + 1) = if bitOf again i = true then logB again i ++ [(i, fill32 (let0 65 i))] else logB again i := by
  unfold logB
  rw [List.range_succ, List.filter_append]
  split
  · rename_i h; simp [h]
  · rename_i h; simp [h]
theorem logB_nodup (again : Int) (n : Nat) : ((logB again n).map (·.1)).Nodup := by
  unfold logB
  rw [List.map_map]
  have : ((fun x : Nat × List UInt8 => x.1) ∘ fun j => (j, fill32 (let0 65 j))) = id := by funext j; rfl
  rw [this, List.map_id]
  exact List.Pairwise.sublist List.filter_sublist List.nodup_range
theorem logB_split (again : Int) {i n : Nat} (hi : i < n) (hb : bitOf again i = true) : ∃ l2, logB again n = logB again i ++ (i, fill32 (let0 65 i)) :: l2 := by
  induction n with
  | zero => omega
  | succ n ih =>
    by_cases h : i = n
    · subst h; exact ⟨[], by rw [logB_succ, if_pos hb]⟩
    · obtain ⟨l2, h2⟩ := ih (by omega)
      rw [logB_succ]
      split
      · exact ⟨l2 ++ [(n, fill32 (let0 65 n))], by rw [h2]; simp⟩
      · exact ⟨l2, h2⟩
theorem logB_not (again : Int) {i n : Nat} (hb : bitOf again i = false) : i ∉ (logB again n).map (·.1) := by
  unfold logB
  simp only [List.map_map, List.mem_map, List.mem_filter, List.mem_range, Function.comp]
  rintro ⟨j, ⟨_, hj⟩, hji⟩
  subst hji
  rw [hb] at hj; cases hj
/-- what a sector reads as behind the crash -/
def behind (n : Nat) (again : Int) (ks : List Int) (i : Nat) : List UInt8 :=
  let k : Int := if bitOf again i = true then (match ks[(logB again i).length]? with | none => 0 | some k => max 0 (min k 32)) else 0
  (fill32 (let0 65 i)).take k.toNat ++ (fill32 (if i < n then let0 97 i else 0)).drop k.toNat
theorem crash_behind (n : Nat) (again : Int) (ks : List Int) {i : Nat} (hi : i < 16) : (crashL (logB again 16) ks (secA n)).getD i [] = behind n again ks i := by
  have hget : (secA n).getD i [] = fill32 (if i < n then let0 97 i else 0) := by simp [secA, List.getD, hi]
  unfold behind
  cases hb : bitOf again i with
  | true =>
    obtain ⟨l2, h2⟩ := logB_split again hi hb
    have hn := logB_nodup again 16
    rw [h2] at hn ⊢
    rw [crashL_at hn (by rw [secA_len]; exact hi), hget]
    split <;> simp_all
  | false =>
    rw [crashL_get (logB_nodup again 16) (logB_not again hb), hget]
    simp

theorem let0_nat {a i : Nat} (h : a + i < 256) : ((let0 a i).toNat : Int) = a + i := by
  unfold let0
  simp
  omega
theorem wrap_u8 {x : Int} (h0 : 0 ≤ x) (h1 : x < 256) : IntKind.u8.wrap x = x := by
  simp [IntKind.wrap, IntKind.bits, IntKind.signed]; omega
def dA (i n : Nat) : DK := { sure := secs0 16, now := secA i, l := logA i, fuse := -1, off := false }
def dB (n : Nat) (again : Int) (i : Nat) : DK := { sure := secA n, now := applyAll (secA n) (logB again i), l := logB again i, fuse := -1, off := false }
def dC (n : Nat) (again : Int) (ks : List Int) : DK := { sure := crashL (logB again 16) ks (secA n), now := crashL (logB again 16) ks (secA n), l := [], fuse := -1, off := false }
section
variable {w0 : World} {b n : Nat} {again : Int} {kv : Value} {ks : List Int} {SK : List Nat}

theorem sure_end {R : Value → World → Prop} (hR : ∀ w', Kp [] w0 w' → R (.bool true) w') {w : World} (hk : Kp [] w0 w) : law03_DiskSure_s0 R w := by
  unfold law03_DiskSure_s0
  exact awake_spec fun w' hk' => hR w' (hk.trans' hk')
theorem sure_loop3 {R : Value → World → Prop} (hR : ∀ w', Kp [] w0 w' → R (.bool true) w') (hn : n ≤ 16) (ha : -9223372036854775808 ≤ again ∧ again < 9223372036854775808)
    (hks : IntsAt w0 kv ks SK) (hkw : ∀ x ∈ ks, -9223372036854775808 ≤ x ∧ x < 9223372036854775808) {w : World} {S : List Nat} (o : Own w0 w b (dC n again ks) S) :
    law03_DiskSure_L6 R (.int .i64 again) kv (.pointer (some ⟨b, 0, none⟩)) (.int .i64 n) (.int .i64 0) (.int .i64 0) w := by
  unfold law03_DiskSure_L6
  refine loop_inv (fun m xs w => ∃ i, i ≤ 16 ∧ m = 16 - i ∧ xs = [.int .i64 again, kv, .pointer (some ⟨b, 0, none⟩), .int .i64 n, .int .i64 (logB again i).length, .int .i64 (i : Nat)] ∧ Own w0 w b (dC n again ks) S)
    ?_ (m := 16) ⟨0, by omega, rfl, rfl, o⟩
  rintro m N xs w ⟨i, hi, rfl, rfl, o⟩ hN
  simp only [law03_DiskSure_L6F, law03_DiskSure_s5, bq_lss, bV_b]
  refine ⟨fun hlt => ?_, fun hge => sure_end hR o.kp⟩
  have hlt : i < 16 := by simp at hlt; omega
  have hks' := hks.keep o.kp (by simp)
  obtain ⟨ka, kc, hkv⟩ := hks'.len
  have hkl : ∀ K : Value → Prop, lenL kv K = K (.int .i64 ks.length) := by intro K; rw [hkv]; rfl
  have hin : ∀ w', Own w0 w' b (dC n again ks) S → N [.int .i64 again, kv, .pointer (some ⟨b, 0, none⟩), .int .i64 n, .int .i64 (logB again (i + 1)).length, .int .i64 ((i + 1 : Nat) : Int)] w' :=
    fun w' o' => hN (16 - (i + 1)) _ _ (by omega) ⟨i + 1, by omega, rfl, rfl, o'⟩
  have hlen : (logB again i).length ≤ i := by
    unfold logB; rw [List.length_map]
    exact Nat.le_trans (List.length_filter_le _ _) (by simp)
  have hiw : IntKind.i64.wrap ((i : Int) + 1) = ((i + 1 : Nat) : Int) := by rw [w64 (by omega) (by omega)]; simp
  -- behind the choice of 'k'
  have tail : ∀ (k : Nat) (w : World), Own w0 w b (dC n again ks) S → k ≤ 32 → behind n again ks i = (fill32 (let0 65 i)).take k ++ (fill32 (if i < n then let0 97 i else 0)).drop k →
      law03_DiskSure_s2 R N (.int .i64 again) kv (.pointer (some ⟨b, 0, none⟩)) (.int .i64 n) (.int .i64 (logB again (i + 1)).length) (.int .i64 i) (.string (str (fill32 (if i < n then let0 97 i else 0)))) (.int .i64 k) w := by
    intro k w o hk hbe
    unfold law03_DiskSure_s2
    refine Read_spec o.at_ i ?_
    have hnowl : (dC n again ks).now.length = 16 := by
      have := crashL_ok (n := 16) (l := logB again 16) (ks := ks) (L := secA n) (by intro x hx; simp only [secA, List.mem_map] at hx; obtain ⟨j, _, rfl⟩ := hx; simp) (secA_len n) (by
        intro x hx; simp only [logB, List.mem_map, List.mem_filter, List.mem_range] at hx; obtain ⟨j, hj, rfl⟩ := hx; simp; omega)
      exact this.2
    have hread : (dC n again ks).read i = (behind n again ks i, 0) := by
      unfold DK.read
      rw [if_pos ⟨by omega, by rw [hnowl]; omega⟩, if_neg (by simp [dC]), Int.toNat_natCast]
      rw [← crash_behind n again ks hlt]; rfl
    have hA : IntKind.u8.wrap (65 + (i : Int)) = ((let0 65 i).toNat : Int) := by rw [wrap_u8 (by omega) (by omega), let0_nat (by omega)]; rfl
    have hw65 : IntKind.i64.wrap (65 + (i : Int)) = 65 + (i : Int) := w64 (by omega) (by omega)
    simp [-getElem?_pos, -Array.getElem?_eq_getElem, -List.length_flatten, List.getElem?_cons_zero, List.getElem?_cons_succ, hread, hw65, hA, hk]
    refine filled_spec (let0 65 i) fun w2 hk2 => ?_
    have ht : List.take 32 (fill32 (if i < n then let0 97 i else 0)) = fill32 (if i < n then let0 97 i else 0) := List.take_of_length_le (by simp)
    simp [-getElem?_pos, -Array.getElem?_eq_getElem, -List.length_flatten, List.getElem?_cons_zero, List.getElem?_cons_succ, bq_sadd, str_extract, hbe, hk, ht]
    refine ⟨by omega, ?_⟩
    simp only [law03_DiskSure_s1, bq_add, hiw]
    exact hin _ ((o.keep (Kp.refl _ _).drew).keep hk2)
  -- the bits
  have bits : ∀ (w : World), Own w0 w b (dC n again ks) S → law03_DiskSure_s3 R N (.int .i64 again) kv (.pointer (some ⟨b, 0, none⟩)) (.int .i64 n) (.int .i64 (logB again i).length) (.int .i64 i) (.string (str (fill32 (if i < n then let0 97 i else 0)))) w := by
    intro w o
    unfold law03_DiskSure_s3
    rw [shr_of (by omega) (by simp [IntKind.bits]; omega)]
    have hb : ((again / 2 ^ (i : Int).toNat % 2) = 1) = (bitOf again i = true) := by simp [bitOf]
    have hb2 : decide ((again / 2 ^ (i : Int).toNat % 2) = 1) = bitOf again i := by simp [bitOf]
    simp only [and1, bq_eql, bV_b, hb2]
    refine ⟨fun hbt => ?_, fun hbf => ?_⟩
    · have hl1 : (logB again (i + 1)).length = (logB again i).length + 1 := by rw [logB_succ, if_pos hbt]; simp
      have hw1 : IntKind.i64.wrap (((logB again i).length : Int) + 1) = ((logB again (i + 1)).length : Int) := by rw [w64 (by omega) (by omega), hl1]; simp
      rw [hkl]
      by_cases hj : (logB again i).length < ks.length
      · have hks' := hks.keep o.kp (by simp)
        obtain ⟨bk, ok, ck, Tk, frk, hbk, hkheap, hkia, hkc⟩ := hks'.at hj
        obtain ⟨q, hq⟩ : ∃ q, q = ks.getD (logB again i).length 0 := ⟨_, rfl⟩
        rw [← hq] at hkc
        have hki : ks[(logB again i).length]? = some q := by rw [hq]; simp [List.getD, hj]
        obtain ⟨k, hk⟩ : ∃ k, k = (max 0 (min q 32)).toNat := ⟨_, rfl⟩
        have hkq : max 0 (min q 32) = (k : Int) := by omega
        have hbe : behind n again ks i = (fill32 (let0 65 i)).take k ++ (fill32 (if i < n then let0 97 i else 0)).drop k := by
          unfold behind; simp only [hbt, if_true, hki]; rw [← hk]
        have := tail k w o (by omega) hbe
        simp [-getElem?_pos, -Array.getElem?_eq_getElem, -List.length_flatten, List.getElem?_cons_zero, List.getElem?_cons_succ, hj, hkia, hkheap, hkc, hkq, hw1]
        exact this
      · have hki : ks[(logB again i).length]? = none := by simp; omega
        have hbe : behind n again ks i = (fill32 (let0 65 i)).take 0 ++ (fill32 (if i < n then let0 97 i else 0)).drop 0 := by
          unfold behind; simp only [hbt, if_true, hki]; rfl
        have := tail 0 w o (by omega) hbe
        simp [-getElem?_pos, -Array.getElem?_eq_getElem, -List.length_flatten, List.getElem?_cons_zero, List.getElem?_cons_succ, hj, hw1]
        exact this
    · have hl1 : logB again (i + 1) = logB again i := by rw [logB_succ, if_neg (by simp [hbf])]
      have hbe : behind n again ks i = (fill32 (let0 65 i)).take 0 ++ (fill32 (if i < n then let0 97 i else 0)).drop 0 := by
        unfold behind; simp only [hbf]; rfl
      have := tail 0 w o (by omega) hbe
      rw [hl1] at this
      exact this
  unfold law03_DiskSure_s4
  refine filled_spec 0 fun w1 hk1 => ?_
  simp only [bq_lss, bV_b]
  refine ⟨fun hin' => ?_, fun hout => ?_⟩
  · have hin' : i < n := by simpa using hin'
    have hA : IntKind.u8.wrap (97 + (i : Int)) = ((let0 97 i).toNat : Int) := by rw [wrap_u8 (by omega) (by omega), let0_nat (by omega)]; rfl
    have hw97 : IntKind.i64.wrap (97 + (i : Int)) = 97 + (i : Int) := w64 (by omega) (by omega)
    simp only [bq_add, hw97, cvI_i, hA]
    refine filled_spec (let0 97 i) fun w2 hk2 => ?_
    have := bits w2 ((o.keep hk1).keep hk2)
    simpa [hin'] using this
  · have hout : ¬ i < n := by simpa using hout
    have := bits w1 (o.keep hk1)
    simpa [hout] using this
end
end Go.Proofs

/- DiskSure, its other half: the writes, the flush and the crash. -/
set_option linter.unusedVariables false
set_option linter.unusedSimpArgs false
namespace Go.Proofs
open Go Go.Q
theorem logA_len (n : Nat) : (logA n).length = n := by simp [logA]
theorem logB_len (again : Int) (n : Nat) : (logB again n).length ≤ n := by
  unfold logB; rw [List.length_map]
  exact Nat.le_trans (List.length_filter_le _ _) (by simp)
theorem applyAll_len : ∀ (l : List (Nat × List UInt8)) (L : List (List UInt8)), (applyAll L l).length = L.length := by
  intro l
  induction l with
  | nil => intro L; rfl
  | cons x r ih =>
    intro L
    show (applyAll (L.set x.1 x.2) r).length = _
    rw [ih]; simp
theorem applyAll_snoc (L : List (List UInt8)) (l : List (Nat × List UInt8)) (x : Nat × List UInt8) : applyAll L (l ++ [x]) = (applyAll L l).set x.1 x.2 := by
  unfold applyAll; rw [List.foldl_append]; rfl
theorem dA_write {i n : Nat} (hi : i < 16) : (dA i n).write (i : Int) (fill32 (let0 97 i)) = (dA (i + 1) n, 0) := by
  have h := write_calm (d := dA i n) rfl rfl (i := i) (by simp [dA, secA_len]; exact hi) (s := fill32 (let0 97 i)) (by simp)
  rw [h]
  simp only [dA, secA_set hi, logA_succ]
theorem dA_flush {n m : Nat} (hn : n ≤ 16) : (dA n m).flush = (dB n 0 0, 0) := by
  have h := flush_calm (d := dA n m) rfl rfl
  rw [h]
  simp only [dA, dB, applyA n hn, logB]
  rfl
theorem dB_zero (n : Nat) (again : Int) : dB n 0 0 = dB n again 0 := rfl
theorem dB_write {n i : Nat} {again : Int} (hi : i < 16) (hb : bitOf again i = true) : (dB n again i).write (i : Int) (fill32 (let0 65 i)) = (dB n again (i + 1), 0) := by
  have h := write_calm (d := dB n again i) rfl rfl (i := i) (by simp [dB, applyAll_len, secA_len]; exact hi) (s := fill32 (let0 65 i)) (by simp)
  rw [h]
  simp only [dB, logB_succ, hb, if_true, applyAll_snoc]
theorem dB_skip {n i : Nat} {again : Int} (hb : ¬ bitOf again i = true) : dB n again (i + 1) = dB n again i := by
  simp only [dB, logB_succ, hb]
  rfl
theorem dB_crash (n : Nat) (again : Int) (ks : List Int) : (dB n again 16).crash ks = dC n again ks := rfl
section
variable {w0 : World} {b n : Nat} {again : Int} {kv : Value} {ks : List Int} {SK : List Nat}
theorem sure_s8 {R : Value → World → Prop} (hR : ∀ w', Kp [] w0 w' → R (.bool true) w') (hn : n ≤ 16) (ha : -9223372036854775808 ≤ again ∧ again < 9223372036854775808)
    (hks : IntsAt w0 kv ks SK) (hSK : ∀ x ∈ SK, x < w0.heap.size) (hkw : ∀ x ∈ ks, -9223372036854775808 ≤ x ∧ x < 9223372036854775808) {w : World} {S : List Nat} (o : Own w0 w b (dB n again 16) S) :
    law03_DiskSure_s8 R (.int .i64 again) kv (.pointer (some ⟨b, 0, none⟩)) (.int .i64 n) w := by
  unfold law03_DiskSure_s8
  have hl := logB_len again 16
  refine own_crash o (by simp only [dB]; omega) (hks.keep o.kp (by simp)) (fun x hx hxS => by have := hSK x hx; have := o.new x hxS; omega) hkw fun w1 o1 _ => ?_
  rw [dB_crash] at o1
  simp [-getElem?_pos, -Array.getElem?_eq_getElem, -List.length_flatten]
  exact sure_loop3 hR hn ha hks hkw o1
theorem sure_loop2 {R : Value → World → Prop} (hR : ∀ w', Kp [] w0 w' → R (.bool true) w') (hn : n ≤ 16) (ha : -9223372036854775808 ≤ again ∧ again < 9223372036854775808)
    (hks : IntsAt w0 kv ks SK) (hSK : ∀ x ∈ SK, x < w0.heap.size) (hkw : ∀ x ∈ ks, -9223372036854775808 ≤ x ∧ x < 9223372036854775808) {w : World} {S : List Nat} (o : Own w0 w b (dB n again 0) S) :
    law03_DiskSure_L10 R (.int .i64 again) kv (.pointer (some ⟨b, 0, none⟩)) (.int .i64 n) (.int .i64 0) w := by
  unfold law03_DiskSure_L10
  refine loop_inv (fun m xs w => ∃ i S, i ≤ 16 ∧ m = 16 - i ∧ xs = [.int .i64 again, kv, .pointer (some ⟨b, 0, none⟩), .int .i64 n, .int .i64 (i : Nat)] ∧ Own w0 w b (dB n again i) S)
    ?_ (m := 16) ⟨0, S, by omega, rfl, rfl, o⟩
  rintro m N xs w ⟨i, S, hi, rfl, rfl, o⟩ hN
  simp only [law03_DiskSure_L10F, law03_DiskSure_b9, bq_lss, bV_b]
  have hin : ∀ w' S', Own w0 w' b (dB n again (i + 1)) S' → i < 16 → N [.int .i64 again, kv, .pointer (some ⟨b, 0, none⟩), .int .i64 n, .int .i64 ((i + 1 : Nat) : Int)] w' :=
    fun w' S' o' h => hN (16 - (i + 1)) _ _ (by omega) ⟨i + 1, S', by omega, rfl, rfl, o'⟩
  refine ⟨fun hlt => ?_, fun hge => ?_⟩
  · have hlt : i < 16 := by simp at hlt; omega
    have hiw : IntKind.i64.wrap ((i : Int) + 1) = ((i + 1 : Nat) : Int) := by rw [w64 (by omega) (by omega)]; simp
    rw [shr_of (by omega) (by simp [IntKind.bits]; omega)]
    have hb2 : decide ((again / 2 ^ (i : Int).toNat % 2) = 1) = bitOf again i := by simp [bitOf]
    simp only [and1, bq_eql, bV_b, hb2]
    refine ⟨fun hbt => ?_, fun hbf => ?_⟩
    · have hA : IntKind.u8.wrap (65 + (i : Int)) = ((let0 65 i).toNat : Int) := by rw [wrap_u8 (by omega) (by omega), let0_nat (by omega)]; rfl
      have hw65 : IntKind.i64.wrap (65 + (i : Int)) = 65 + (i : Int) := w64 (by omega) (by omega)
      simp only [bq_add, hw65, cvI_i, hA]
      refine filled_spec (let0 65 i) fun w2 hk2 => ?_
      have hl := logB_len again i
      refine own_write (o.keep hk2) (by simp only [dB]; omega) i _ fun w3 S3 o3 _ _ => ?_
      rw [dB_write hlt hbt] at o3 ⊢
      simp [-getElem?_pos, -Array.getElem?_eq_getElem, -List.length_flatten, hiw]
      exact hin _ _ o3 hlt
    · rw [← dB_skip (by simp [hbf])] at o
      simp [-getElem?_pos, -Array.getElem?_eq_getElem, -List.length_flatten, hiw]
      exact hin _ _ o hlt
  · have hie : i = 16 := by simp at hge; omega
    subst hie
    exact sure_s8 hR hn ha hks hSK hkw o
theorem sure_s12 {R : Value → World → Prop} (hR : ∀ w', Kp [] w0 w' → R (.bool true) w') (hn : n ≤ 16) (ha : -9223372036854775808 ≤ again ∧ again < 9223372036854775808)
    (hks : IntsAt w0 kv ks SK) (hSK : ∀ x ∈ SK, x < w0.heap.size) (hkw : ∀ x ∈ ks, -9223372036854775808 ≤ x ∧ x < 9223372036854775808) {w : World} {S : List Nat} (o : Own w0 w b (dA n 0) S) :
    law03_DiskSure_s12 R (.int .i64 again) kv (.pointer (some ⟨b, 0, none⟩)) (.int .i64 n) w := by
  unfold law03_DiskSure_s12
  refine own_flush o (by simp only [dA, logA_len]; omega) fun w1 o1 _ => ?_
  rw [dA_flush hn, dB_zero n again] at o1
  rw [dA_flush hn]
  simp [-getElem?_pos, -Array.getElem?_eq_getElem, -List.length_flatten]
  unfold law03_DiskSure_s11
  exact sure_loop2 hR hn ha hks hSK hkw o1
theorem sure_loop1 {R : Value → World → Prop} (hR : ∀ w', Kp [] w0 w' → R (.bool true) w') (hn : n ≤ 16) (ha : -9223372036854775808 ≤ again ∧ again < 9223372036854775808)
    (hks : IntsAt w0 kv ks SK) (hSK : ∀ x ∈ SK, x < w0.heap.size) (hkw : ∀ x ∈ ks, -9223372036854775808 ≤ x ∧ x < 9223372036854775808) {w : World} {S : List Nat} (o : Own w0 w b (dA 0 0) S) :
    law03_DiskSure_L14 R (.int .i64 again) kv (.pointer (some ⟨b, 0, none⟩)) (.int .i64 n) (.int .i64 0) w := by
  unfold law03_DiskSure_L14
  refine loop_inv (fun m xs w => ∃ i S, i ≤ n ∧ m = n - i ∧ xs = [.int .i64 again, kv, .pointer (some ⟨b, 0, none⟩), .int .i64 n, .int .i64 (i : Nat)] ∧ Own w0 w b (dA i 0) S)
    ?_ (m := n) ⟨0, S, by omega, rfl, rfl, o⟩
  rintro m N xs w ⟨i, S, hi, rfl, rfl, o⟩ hN
  simp only [law03_DiskSure_L14F, law03_DiskSure_b13, bq_lss, bV_b]
  have hin : ∀ w' S', Own w0 w' b (dA (i + 1) 0) S' → i < n → N [.int .i64 again, kv, .pointer (some ⟨b, 0, none⟩), .int .i64 n, .int .i64 ((i + 1 : Nat) : Int)] w' :=
    fun w' S' o' h => hN (n - (i + 1)) _ _ (by omega) ⟨i + 1, S', by omega, rfl, rfl, o'⟩
  refine ⟨fun hlt => ?_, fun hge => ?_⟩
  · have hlt : i < n := by simp at hlt; omega
    have hiw : IntKind.i64.wrap ((i : Int) + 1) = ((i + 1 : Nat) : Int) := by rw [w64 (by omega) (by omega)]; simp
    have hA : IntKind.u8.wrap (97 + (i : Int)) = ((let0 97 i).toNat : Int) := by rw [wrap_u8 (by omega) (by omega), let0_nat (by omega)]; rfl
    have hw97 : IntKind.i64.wrap (97 + (i : Int)) = 97 + (i : Int) := w64 (by omega) (by omega)
    simp only [bq_add, hw97, cvI_i, hA]
    refine filled_spec (let0 97 i) fun w2 hk2 => ?_
    refine own_write (o.keep hk2) (by simp only [dA, logA_len]; omega) i _ fun w3 S3 o3 _ _ => ?_
    rw [dA_write (by omega)] at o3 ⊢
    simp [-getElem?_pos, -Array.getElem?_eq_getElem, -List.length_flatten, hiw]
    exact hin _ _ o3 hlt
  · have hie : i = n := by simp at hge; omega
    subst hie
    exact sure_s12 hR hn ha hks hSK hkw o
theorem sure_call {many again : Int} {R : Value → World → Prop} (hR : ∀ w', Kp [] w0 w' → R (.bool true) w') (ha : -9223372036854775808 ≤ again ∧ again < 9223372036854775808)
    (hks : IntsAt w0 kv ks SK) (hSK : ∀ x ∈ SK, x < w0.heap.size) (hkw : ∀ x ∈ ks, -9223372036854775808 ≤ x ∧ x < 9223372036854775808) :
    callG Try.prog 3 #[.int .i64 many, .int .i64 again, kv] w0 R := by
  refine law03_DiskSure_call ?_
  simp only [law03_DiskSure, law03_DiskSure_s17]
  refine own_new (n := 16) (Kp.refl [] w0) (by omega) (by omega) fun w1 b S1 o1 _ => ?_
  simp [-getElem?_pos, -Array.getElem?_eq_getElem, -List.length_flatten, List.getElem?_cons_zero, List.getElem?_cons_succ]
  simp only [law03_DiskSure_s16, and15, law03_DiskSure_s15]
  obtain ⟨n, hn⟩ : ∃ n : Nat, many % 16 = (n : Int) := ⟨(many % 16).toNat, by have := Int.emod_nonneg many (show (16 : Int) ≠ 0 by omega); omega⟩
  rw [hn]
  have hn16 : n ≤ 16 := by have := Int.emod_lt_of_pos many (show (0 : Int) < 16 by omega); omega
  have hd : DK.fresh 16 = dA 0 0 := by unfold DK.fresh dA; rw [secA_zero]; rfl
  rw [hd] at o1
  exact sure_loop1 hR hn16 ha hks hSK hkw o1
end
end Go.Proofs

/- DiskNobody: a disk that nobody made. -/
set_option linter.unusedVariables false
set_option linter.unusedSimpArgs false
namespace Go.Proofs
open Go Go.Q
theorem bsl_two {e : Nat} {z : Array Value} {v u : Value} (hv : one v = true) (hu : one u = true) {w : World} {k : Value → World → Prop} :
    bsl e 1 2 z #[(0, v), (1, u)] w k = k (.slice (some ⟨w.heap.size, 0, none⟩) 2 2) (w.alloc (.cells #[v, u] e)) := by
  have hc := cells_one hv
  have hd := cells_one hu
  obtain ⟨r, hr⟩ : ∃ r, r = rep z (2 * 1) := ⟨_, rfl⟩
  have hs : r.size = 2 := by rw [hr, rep_size]
  obtain ⟨l⟩ := r
  match l, hs with
  | [a, b], _ =>
    unfold bsl
    show (match Instr.fill (fun i => some (i * 1, 1)) (rep z (2 * 1)) [(0, v), (1, u)] with | some cs => k (Value.slice (some ⟨w.heap.size, 0, none⟩) 2 2) (w.alloc (Obj.cells cs e)) | none => False) = _
    rw [← hr]
    rw [fill_step (off := 0) (size := 1) rfl (by rw [hc]; rfl) (by simp), hc]
    rw [fill_step (off := 1) (size := 1) rfl (by rw [hd]; rfl) (by simp [splice]), hd]
    rfl
/-- nobody's disk: none, or one whose cells are zero -/
def Nob (w : World) (v : Value) : Prop := v = .pointer none ∨ ∃ b T fr, v = .pointer (some ⟨b, 0, none⟩) ∧ w.heap[b]? = some (.cells #[.slice none 0 0, .slice none 0 0, .slice none 0 0, .int .i64 0, .bool false] T fr)
section
variable {w : World} {v : Value} (h : Nob w v) {K : Value → World → Prop}
include h
theorem nob_Size (hK : K (.int .i64 0) w) : callG Try.prog 28 #[v] w K := by
  refine disk_Disk_Size_call ?_
  rcases h with rfl | ⟨b, T, fr, rfl, hb⟩
  · simpa [disk_Disk_Size, disk_Disk_Size_s0] using hK
  · simpa [disk_Disk_Size, disk_Disk_Size_s0, hb] using hK
theorem nob_has (n : Int) (hK : K (.bool false) w) : callG Try.prog 44 #[v, .int .i64 n] w K := by
  refine disk_Disk_has_call ?_
  simp only [disk_Disk_has, disk_Disk_has_s0, bq_geq, bV_b]
  refine ⟨fun hp => nob_Size h ?_, fun _ => hK⟩
  have : ¬ n < 0 := by simpa using hp
  simp [-getElem?_pos, -Array.getElem?_eq_getElem, -List.length_flatten, List.getElem?_cons_zero, List.getElem?_cons_succ, this]
  exact hK
theorem nob_Read (n : Int) (hK : K (.tuple #[.string ⟨#[]⟩, .int .i64 1]) w) : callG Try.prog 17 #[v, .int .i64 n] w K := by
  refine disk_Disk_Read_call ?_
  simp only [disk_Disk_Read, disk_Disk_Read_s0]
  refine nob_has h n ?_
  simp [-getElem?_pos, -Array.getElem?_eq_getElem, -List.length_flatten, List.getElem?_cons_zero, List.getElem?_cons_succ, ]
  exact hK
theorem nob_Write (n : Int) (s : ByteArray) (hK : K (.int .i64 1) w) : callG Try.prog 13 #[v, .int .i64 n, .string s] w K := by
  refine disk_Disk_Write_call ?_
  simp only [disk_Disk_Write, disk_Disk_Write_s1]
  refine nob_has h n ?_
  simp [-getElem?_pos, -Array.getElem?_eq_getElem, -List.length_flatten, List.getElem?_cons_zero, List.getElem?_cons_succ, ]
  exact hK
theorem nob_Flush (hK : K (.int .i64 1) w) : callG Try.prog 15 #[v] w K := by
  refine disk_Disk_Flush_call ?_
  simp only [disk_Disk_Flush, disk_Disk_Flush_s4]
  refine nob_Size h ?_
  simp [-getElem?_pos, -Array.getElem?_eq_getElem, -List.length_flatten, List.getElem?_cons_zero, List.getElem?_cons_succ, ]
  exact hK
theorem nob_Waits (hK : K (.int .i64 0) w) : callG Try.prog 27 #[v] w K := by
  refine disk_Disk_Waits_call ?_
  rcases h with rfl | ⟨b, T, fr, rfl, hb⟩
  · simpa [disk_Disk_Waits, disk_Disk_Waits_s0] using hK
  · simpa [disk_Disk_Waits, disk_Disk_Waits_s0, hb] using hK
theorem nob_Fuse (n : Int) (hK : K (.int .i64 1) w) : callG Try.prog 23 #[v, .int .i64 n] w K := by
  refine disk_Disk_Fuse_call ?_
  simp only [disk_Disk_Fuse, disk_Disk_Fuse_s0]
  refine nob_Size h ?_
  simp [-getElem?_pos, -Array.getElem?_eq_getElem, -List.length_flatten, List.getElem?_cons_zero, List.getElem?_cons_succ, ]
  exact hK
theorem nob_Off (hK : K (.bool false) w) : callG Try.prog 26 #[v] w K := by
  refine disk_Disk_Off_call ?_
  rcases h with rfl | ⟨b, T, fr, rfl, hb⟩
  · simpa [disk_Disk_Off, disk_Disk_Off_s0] using hK
  · simpa [disk_Disk_Off, disk_Disk_Off_s0, hb] using hK
theorem nob_Crash (ks : Value) (hK : K (.int .i64 1) w) : callG Try.prog 16 #[v, ks] w K := by
  refine disk_Disk_Crash_call ?_
  simp only [disk_Disk_Crash, disk_Disk_Crash_s4]
  refine nob_Size h ?_
  simp [-getElem?_pos, -Array.getElem?_eq_getElem, -List.length_flatten, List.getElem?_cons_zero, List.getElem?_cons_succ, ]
  exact hK
end
theorem nobody_call {n : Int} {s : ByteArray} {w0 : World} {R : Value → World → Prop} (hR : ∀ w', Kp [] w0 w' → R (.bool true) w') : callG Try.prog 6 #[.int .i64 n, .string s] w0 R := by
  refine law03_DiskNobody_call ?_
  simp only [law03_DiskNobody, law03_DiskNobody_s4]
  obtain ⟨z, hz⟩ : ∃ z : Array Value, z = #[.slice none 0 0, .slice none 0 0, .slice none 0 0, .int .i64 0, .bool false] := ⟨_, rfl⟩
  have hbld : ∀ K : Value → Prop, bld [(0, 1), (1, 1), (2, 1), (3, 1), (4, 1)] (zc Try.prog 56) #[] K = K (.agg z) := by intro K; rw [zc56, hz]; rfl
  rw [hbld, newG_k, bsl_two rfl rfl]
  obtain ⟨w1, hw1⟩ : ∃ w1, w1 = (w0.alloc (.cells (Value.agg z).cells 56)).alloc (.cells #[.pointer none, .pointer (some ⟨w0.heap.size, 0, none⟩)] 23) := ⟨_, rfl⟩
  have hk : Kp [] w0 w1 := by rw [hw1]; exact ((Kp.refl [] w0).alloc _).alloc _
  have hsl : w1.heap[w0.heap.size + 1]? = some (.cells #[.pointer none, .pointer (some ⟨w0.heap.size, 0, none⟩)] 23) := by
    rw [hw1]; have := @heap_new (w0.alloc (.cells (Value.agg z).cells 56)) (.cells #[.pointer none, .pointer (some ⟨w0.heap.size, 0, none⟩)] 23)
    simpa using this
  have hzb : w1.heap[w0.heap.size]? = some (.cells #[.slice none 0 0, .slice none 0 0, .slice none 0 0, .int .i64 0, .bool false] 56 (0, 0)) := by
    rw [hw1, heap_alloc, if_neg (by simp), heap_new, hz]; rfl
  have hss : (w0.alloc (.cells (Value.agg z).cells 56)).heap.size = w0.heap.size + 1 := by simp
  rw [← hw1, hss]
  simp only [law03_DiskNobody_s3]
  unfold law03_DiskNobody_L2
  refine loop_inv (fun m xs w => ∃ i : Nat, i ≤ 2 ∧ m = 2 - i ∧ xs = [.int .i64 n, .string s, .slice (some ⟨w0.heap.size + 1, 0, none⟩) 2 2, .int .i64 (i : Nat)] ∧ w = w1)
    ?_ (m := 2) ⟨0, by omega, rfl, rfl, rfl⟩
  rintro m N xs w ⟨i, hi, rfl, rfl, rfl⟩ hN
  simp only [law03_DiskNobody_L2F, law03_DiskNobody_b1, law03_DiskNobody_s0]
  have hin := fun h => hN (2 - (i + 1)) [.int .i64 n, .string s, .slice (some ⟨w0.heap.size + 1, 0, none⟩) 2 2, .int .i64 ((i + 1 : Nat) : Int)] w (by omega) ⟨i + 1, h, rfl, rfl, rfl⟩
  obtain ⟨v, hv⟩ : ∃ v, i < 2 → (#[.pointer none, .pointer (some ⟨w0.heap.size, 0, none⟩)] : Array Value)[i]? = some v ∧ Nob w v := by
    match i, hi with
    | 0, _ => exact ⟨_, fun _ => ⟨rfl, .inl rfl⟩⟩
    | 1, _ => exact ⟨_, fun _ => ⟨rfl, .inr ⟨_, _, _, rfl, hzb⟩⟩⟩
    | 2, _ => exact ⟨.pointer none, fun h => by omega⟩
  obtain ⟨c, hc⟩ : ∃ c : Array Value, c = #[.pointer none, .pointer (some ⟨w0.heap.size, 0, none⟩)] := ⟨_, rfl⟩
  rw [← hc] at hv hsl
  simp only [lenL_s, bq_lss, bV_b]
  refine ⟨fun hlt => ?_, fun _ => awake_spec fun w' hk' => hR w' (hk.trans' hk')⟩
  have hlt : i < 2 := by simp at hlt; omega
  obtain ⟨hv, hnb⟩ := hv hlt
  have hiw : IntKind.i64.wrap ((i : Int) + 1) = ((i + 1 : Nat) : Int) := by rw [w64 (by omega) (by omega)]; simp
  have hlti : (i : Int) < 2 := by omega
  simp [-getElem?_pos, -Array.getElem?_eq_getElem, -List.length_flatten, List.getElem?_cons_zero, List.getElem?_cons_succ, hsl, hv, hlti]
  refine nob_Read hnb n ?_
  simp [-getElem?_pos, -Array.getElem?_eq_getElem, -List.length_flatten, List.getElem?_cons_zero, List.getElem?_cons_succ, hsl, hv, hlti]
  refine nob_Size hnb ?_
  simp [-getElem?_pos, -Array.getElem?_eq_getElem, -List.length_flatten, List.getElem?_cons_zero, List.getElem?_cons_succ, hsl, hv, hlti]
  refine nob_Write hnb n s ?_
  simp [-getElem?_pos, -Array.getElem?_eq_getElem, -List.length_flatten, List.getElem?_cons_zero, List.getElem?_cons_succ, hsl, hv, hlti]
  refine nob_Flush hnb ?_
  simp [-getElem?_pos, -Array.getElem?_eq_getElem, -List.length_flatten, List.getElem?_cons_zero, List.getElem?_cons_succ, hsl, hv, hlti]
  refine nob_Waits hnb ?_
  simp [-getElem?_pos, -Array.getElem?_eq_getElem, -List.length_flatten, List.getElem?_cons_zero, List.getElem?_cons_succ, hsl, hv, hlti]
  refine nob_Fuse hnb n ?_
  simp [-getElem?_pos, -Array.getElem?_eq_getElem, -List.length_flatten, List.getElem?_cons_zero, List.getElem?_cons_succ, hsl, hv, hlti]
  refine nob_Off hnb ?_
  simp [-getElem?_pos, -Array.getElem?_eq_getElem, -List.length_flatten, List.getElem?_cons_zero, List.getElem?_cons_succ, hsl, hv, hlti]
  refine nob_Crash hnb _ ?_
  simp [-getElem?_pos, -Array.getElem?_eq_getElem, -List.length_flatten, List.getElem?_cons_zero, List.getElem?_cons_succ, hsl, hv, hlti, hiw]
  exact hin (by omega)
end Go.Proofs

/- The document's disk (the reference): what each function does. Its lists are never written over. -/
set_option linter.unusedVariables false
set_option linter.unusedSimpArgs false
namespace Go.Proofs
open Go Go.Q
theorem Try.agg39 : aggO Try.prog 39 = some true := by kernel_rfl
theorem Try.sz39 : szO Try.prog 39 = some 4 := by kernel_rfl
theorem lv39 {b : Nat} {w : World} {c : Array Value} {T : TypeId} {fr : Nat × Nat} (hh : w.heap[b]? = some (.cells c T fr)) (hs : c.size = 4) {K : Value → Prop} :
    qG Try.prog (do loadVar 39 (← asAddr (.pointer (some ⟨b, 0, none⟩)))) w K = K (.agg c) := by
  refine qG_of ?_
  have h : ldn 4 (.pointer (some ⟨b, 0, none⟩)) w (fun v => v = .agg c) := by
    rw [ldn_p]; unfold rdN; simp only [hh, true_and, hs, Nat.zero_add, Nat.le_refl]
    have : c.extract 0 4 = c := by rw [← hs]; simp
    rw [this]
  obtain ⟨v, hr, hv⟩ := ldn_q (P := Try.prog) Try.agg39 Try.sz39 h
  subst hv
  exact hr
def qc (sv lv : Value) (d : DK) : Array Value := #[sv, lv, .int .i64 d.fuse, .bool d.off]
theorem zc39 : zc Try.prog 39 = #[.slice none 0 0, .slice none 0 0, .int .i64 0, .bool false] := by kernel_rfl
def strV (s : List UInt8) : List Value := [.string (str s)]
def wroteV (x : Nat × List UInt8) : List Value := [.int .i64 x.1, .string (str x.2)]
theorem newG2 {w : World} {c1 c2 : Array Value} {T1 T2 : TypeId} {K : Value → Value → World → Prop}
    (h : ∀ a b w1, w.heap.size ≤ a → w.heap.size ≤ b → ¬ a = b → ¬ b = a → w1.heap[a]? = some (.cells c1 T1) → w1.heap[b]? = some (.cells c2 T2) → Live w1 a → Live w1 b → Kp [] w w1 →
      K (.pointer (some ⟨a, 0, none⟩)) (.pointer (some ⟨b, 0, none⟩)) w1) :
    newG c1 T1 w fun x w => newG c2 T2 w fun y w => K x y w := by
  rw [newG_k, newG_k]
  refine h _ _ _ (Nat.le_refl _) (by simp) (by simp) (by simp) ?_ heap_new ?_ ?_ (((Kp.refl [] w).alloc _).alloc _)
  · rw [heap_alloc, if_neg (by simp), heap_new]
  · unfold Live; simp; omega
  · unfold Live; simp
theorem lvS {b : Nat} {w : World} {c : Array Value} {T : TypeId} {fr : Nat × Nat} (hb : Live w b) (hs : c.size = 4) {K : Value → Prop} :
    qG Try.prog (do loadVar 39 (← asAddr (.pointer (some ⟨b, 0, none⟩)))) (setBlk w b (.cells c T fr)) K = K (.agg c) := lv39 (heap_self hb) hs
theorem spl4 {a b c d x y z u : Value} : splice #[a, b, c, d] 0 #[x, y, z, u] = #[x, y, z, u] := rfl
theorem one4 {a b c d : Value} : (#[a, b, c, d] : Array Value).all one = (one a && (one b && (one c && one d))) := by
  rw [← Array.all_toList]; simp
theorem one2 {a b : Value} : (#[a, b] : Array Value).all one = (one a && one b) := by
  rw [← Array.all_toList]; simp
theorem one4p {a b c d : Value} (ha : one a = true) (hb : one b = true) (hc : one c = true) (hd : one d = true) : ∀ (i : Nat) (x : i < 4), one ([a, b, c, d] : List Value)[i] = true := by
  intro i hi
  match i, hi with
  | 0, _ => exact ha
  | 1, _ => exact hb
  | 2, _ => exact hc
  | 3, _ => exact hd
theorem one_i {k : IntKind} {n : Int} : one (.int k n) = true := rfl
theorem one_b {t : Bool} : one (.bool t) = true := rfl
theorem ref_burns {w : World} {sv lv : Value} {d : DK} (hs : one sv = true) (hl : one lv = true) (hf : -1 ≤ d.fuse ∧ d.fuse < 9223372036854775808) {K : Value → World → Prop}
    (hK : ∀ w', Kp [] w w' → K (.tuple #[.agg (qc sv lv d.burns.1), .bool d.burns.2]) w') : callG Try.prog 47 #[.agg (qc sv lv d)] w K := by
  refine ref03_burns_call ?_
  simp only [ref03_burns, ref03_burns_s3]
  refine newG2 fun a b w1 ha hb hab hba hA hB la lb hk => ?_
  have hc : Value.cells (.agg (qc sv lv d)) = qc sv lv d := rfl
  rw [hc] at hA
  simp only [qc, zc39] at hA hB
  have hk1 : ∀ o o', Kp [] w (setBlk (setBlk w1 a o) b o') := fun o o' => (hk.setBlk (.inr ha) _).setBlk (.inr hb) _
  have hk2 : ∀ o, Kp [] w (setBlk w1 b o) := fun o => hk.setBlk (.inr hb) _
  simp [-getElem?_pos, -Array.getElem?_eq_getElem, -List.length_flatten, List.getElem?_cons_zero, List.getElem?_cons_succ, ref03_burns_s2, ref03_burns_s1, ref03_burns_s0, hA, hB, heap_self, heap_ne, hab, hba, la, lb, -Array.all_eq_true, lvS, spl4, one4, one_i, one_b, hs, hl]
  unfold DK.burns qc at hK
  refine ⟨fun ho => ?_, fun ho => ⟨fun h0 => ?_, fun h0 => ⟨fun hp => ?_, fun hp => ?_⟩⟩⟩
  · rw [if_pos (.inl ho)] at hK
    exact hK _ (hk1 _ _)
  · rw [if_pos (.inr h0)] at hK
    exact hK _ (hk1 _ _)
  · rw [if_neg (by simp [ho, h0])] at hK
    rw [w64 (by omega) (by omega)]
    have := hK _ (hk1 (.cells #[sv, lv, .int .i64 (d.fuse - 1), .bool d.off] 39) (.cells #[sv, lv, .int .i64 (d.fuse - 1), .bool d.off] 39))
    simpa [hp] using this
  · rw [if_neg (by simp [ho, h0])] at hK
    have := hK _ (hk2 (.cells #[sv, lv, .int .i64 d.fuse, .bool d.off] 39))
    have hp' : ¬ d.fuse > 0 := by omega
    simpa [hp'] using this
/-- the document's disk: a struct of two lists, a fuse, and whether the power is off -/
def RefAt (w : World) (x : Value) (d : DK) (S : List Nat) : Prop :=
  ∃ sv lv SS SL, x = .agg (qc sv lv d) ∧ RowsAt w sv 1 (d.sure.map strV) SS ∧ RowsAt w lv 2 (d.l.map wroteV) SL ∧ S = SS ++ SL
theorem RefAt.keep {w w' : World} {x : Value} {d : DK} {S S' : List Nat} (h : RefAt w x d S) (hk : Kp S' w w') (hd : ∀ y ∈ S, y ∉ S') : RefAt w' x d S := by
  obtain ⟨sv, lv, SS, SL, h1, h2, h3, rfl⟩ := h
  exact ⟨sv, lv, SS, SL, h1, h2.keep hk (fun y hy => hd y (by simp [hy])), h3.keep hk (fun y hy => hd y (by simp [hy])), rfl⟩
theorem rows_one {w : World} {v : Value} {k : Nat} {rows : List (List Value)} {S : List Nat} (h : RowsAt w v k rows S) : one v = true := by
  obtain ⟨a, c, h, _⟩ := h.len
  rw [h]; rfl
theorem strV_one (L : List (List UInt8)) : (L.map strV).flatten.all Q.one = true := by
  induction L with
  | nil => rfl
  | cons x r ih => simp [strV, Q.one] at ih ⊢
theorem wroteV_one (L : List (Nat × List UInt8)) : (L.map wroteV).flatten.all Q.one = true := by
  induction L with
  | nil => rfl
  | cons x r ih => simp [wroteV, Q.one] at ih ⊢
theorem zc9 : zc Try.prog 9 = [Value.string ⟨#[]⟩].toArray := by kernel_rfl
theorem zc97 : zc Try.prog 97 = [Value.int .i64 0, Value.string ⟨#[]⟩].toArray := by kernel_rfl
theorem ref_with {w : World} {sv : Value} {L : List (List UInt8)} {S : List Nat} (h : RowsAt w sv 1 (L.map strV) S) {p : Nat} (hp : p < L.length) (hL : L.length < 2 ^ 40) (s : List UInt8) {K : Value → World → Prop}
    (hK : ∀ v' w' S', RowsAt w' v' 1 ((L.set p s).map strV) S' → Kp [] w w' → (∀ y ∈ S', w.heap.size ≤ y) → K v' w') : callG Try.prog 48 #[sv, .int .i64 p, .string (str s)] w K := by
  refine ref03_with_call ?_
  simp only [ref03_with, ref03_with_s0]
  obtain ⟨v1, hv1, e1⟩ := h.rd.take (p := p) (by simp; omega) (kd := .i64)
  rw [e1, zc9]
  have hone1 : (((L.map strV).take p)).flatten.all Q.one = true := by rw [← List.map_take]; exact strV_one _
  refine rows_app (k := 1) (z := [.string ⟨#[]⟩]) (rows := []) (G := (L.map strV).take p) (S := []) (.inl ⟨rfl, rfl, rfl⟩) (by omega) rfl (fun y hy => hv1.row hy) hone1 (fun K' hK' => hv1.src K' hK') (by simp; omega) (by simp; omega) fun v2 w2 S2 h2 hk2 hS2 => ?_
  rw [bsl_one rfl]
  obtain ⟨w3, hw3⟩ : ∃ w3, w3 = w2.alloc (.cells #[.string (str s)] 9) := ⟨_, rfl⟩
  have hk3 : Kp [] w2 w3 := by rw [hw3]; exact (Kp.refl [] w2).alloc _
  have hb3 : w3.heap[w2.heap.size]? = some (.cells #[.string (str s)] 9) := by rw [hw3]; exact heap_new
  rw [← hw3]
  have h3 := h2.keep hk3 (by simp)
  have hs3 : RdAt w3 (.slice (some ⟨w2.heap.size, 0, none⟩) 1 1) 1 [strV s] [w2.heap.size] :=
    .inr ⟨_, 0, 1, _, _, _, rfl, rfl, hb3, by simp [strV], by simp, by simp [strV], by simp⟩
  refine rows_app (k := 1) (z := [.string ⟨#[]⟩]) (G := [strV s]) h3 (by omega) rfl (by simp [strV]) (by simp [strV, Q.one]) (fun K' hK' => hs3.src K' hK') (by simp; omega) (by simp; omega) fun v4 w4 S4 h4 hk4 hS4 => ?_
  have hk24 : Kp [] w w4 := by
    refine (hk2.trans' hk3).trans hk4 fun y hy hlt => ?_
    rcases hS2 y hy with h | h
    · cases h
    · omega
  have hp1 : IntKind.i64.wrap ((p : Int) + 1) = ((p + 1 : Nat) : Int) := by rw [w64 (by omega) (by omega)]; simp
  simp only [bq_add, hp1]
  obtain ⟨v5, hv5, e5⟩ := h.rd.drop (p := p + 1) (by simp; omega) (kd := .i64)
  rw [e5]
  have hv5 := hv5.keep hk24 (by simp)
  have hone5 : (((L.map strV).drop (p + 1))).flatten.all Q.one = true := by rw [← List.map_drop]; exact strV_one _
  refine rows_app (k := 1) (z := [.string ⟨#[]⟩]) (G := (L.map strV).drop (p + 1)) h4 (by omega) rfl (fun y hy => hv5.row hy) hone5 (fun K' hK' => hv5.src K' hK') (by simp; omega) (by simp; omega) fun v6 w6 S6 h6 hk6 hS6 => ?_
  have hset : [] ++ (L.map strV).take p ++ [strV s] ++ (L.map strV).drop (p + 1) = (L.set p s).map strV := by
    rw [List.map_set, List.set_eq_take_append_cons_drop, if_pos (by simpa using hp)]
    simp
  rw [hset] at h6
  have hn4 : ∀ y ∈ S4, w.heap.size ≤ y := fun y hy => by
    rcases hS4 y hy with h | h
    · rcases hS2 y h with h | h
      · cases h
      · exact h
    · have := hk2.size; have := hk3.size; omega
  refine hK v6 w6 S6 h6 (hk24.trans hk6 fun y hy hlt => by have := hn4 y hy; omega) fun y hy => ?_
  rcases hS6 y hy with h | h
  · exact hn4 y h
  · have := hk24.size; omega
theorem bsl_agg {e n : Nat} {z cs : Array Value} (hc : cs.size = n) {w : World} {k : Value → World → Prop} : bsl e n 1 z #[(0, .agg cs)] w k = k (.slice (some ⟨w.heap.size, 0, none⟩) 1 1) (w.alloc (.cells cs e)) := by
  have hr : (rep z (1 * n)).size = n := by simp [rep]
  unfold bsl
  show (match Instr.fill (fun i => some (i * n, n)) (rep z (1 * n)) [(0, Value.agg cs)] with | some cs => k (Value.slice (some ⟨w.heap.size, 0, none⟩) 1 1) (w.alloc (Obj.cells cs e)) | none => False) = _
  rw [fill_step (off := 0) (size := n) (by simp) (show (Value.agg cs).cells.size = n from hc) (by omega)]
  have e : splice (rep z (1 * n)) 0 (Value.cells (.agg cs)) = cs := splice_all (by rw [hr]; exact hc.symm)
  simp only [Instr.fill, e]
theorem bld97 {x y : Value} (hx : one x = true) (hy : one y = true) {k : Value → Prop} : bld [(0, 1), (1, 1)] (zc Try.prog 97) #[(0, x), (1, y)] k = k (.agg #[x, y]) := by
  have hcx := cells_one hx
  have hcy := cells_one hy
  rw [zc97]
  unfold bld
  rw [fill_step (off := 0) (size := 1) rfl (by rw [hcx]; rfl) (by simp), hcx, fill_step (off := 1) (size := 1) rfl (by rw [hcy]; rfl) (by simp [splice]), hcy]
  rfl
theorem bld39 {x y : Value} (hx : one x = true) (hy : one y = true) {k : Value → Prop} : bld [(0, 1), (1, 1), (2, 1), (3, 1)] (zc Try.prog 39) #[(0, x), (2, y)] k = k (.agg #[x, .slice none 0 0, y, .bool false]) := by
  have hcx := cells_one hx
  have hcy := cells_one hy
  rw [zc39]
  unfold bld
  rw [fill_step (off := 0) (size := 1) rfl (by rw [hcx]; rfl) (by simp), hcx, fill_step (off := 2) (size := 1) rfl (by rw [hcy]; rfl) (by simp [splice]), hcy]
  rfl
theorem bld39z {k : Value → Prop} : bld [(0, 1), (1, 1), (2, 1), (3, 1)] (zc Try.prog 39) #[] k = k (.agg #[.slice none 0 0, .slice none 0 0, .int .i64 0, .bool false]) := by
  rw [zc39]; rfl
theorem burns_same (d : DK) : d.burns.1.sure = d.sure ∧ d.burns.1.l = d.l := by unfold DK.burns; split <;> simp
theorem ext4 {a b c d : Value} : (#[a, b, c, d] : Array Value).extract 0 4 = #[a, b, c, d] := rfl
theorem ref_burned {w w' : World} {sv lv : Value} {d : DK} {SS SL : List Nat} (hs : RowsAt w sv 1 (d.sure.map strV) SS) (hlg : RowsAt w lv 2 (d.l.map wroteV) SL) (hk : Kp [] w w') :
    RefAt w' (.agg (qc sv lv d.burns.1)) d.burns.1 (SS ++ SL) := by
  obtain ⟨b1, b2⟩ := burns_same d
  exact ⟨sv, lv, SS, SL, rfl, by rw [b1]; exact hs.keep hk (by simp), by rw [b2]; exact hlg.keep hk (by simp), rfl⟩
theorem ref_Write {w : World} {x : Value} {d : DK} {S : List Nat} (h : RefAt w x d S) (ok : d.Ok) (hl : d.l.length < 2 ^ 40) (at_ : Int) (s : List UInt8) {K : Value → World → Prop}
    (hK : ∀ w' x' S', RefAt w' x' (d.write at_ s).1 S' → Kp [] w w' → (∀ y ∈ S', y ∈ S ∨ w.heap.size ≤ y) → K (.tuple #[x', .int .i64 (d.write at_ s).2]) w') :
    callG Try.prog 20 #[x, .int .i64 at_, .string (str s)] w K := by
  refine ref03_Write_call ?_
  obtain ⟨sv, lv, SS, SL, rfl, hs, hlg, rfl⟩ := h
  simp only [ref03_Write, ref03_Write_s1]
  refine newG2 fun a b w1 ha hb hab hba hA hB la lb hk => ?_
  have hc : Value.cells (.agg (qc sv lv d)) = qc sv lv d := rfl
  rw [hc] at hA
  simp only [qc, zc39] at hA hB
  obtain ⟨sa, sc, hsv, hcs⟩ := hs.len
  have hsv1 := rows_one hs
  have hlv1 := rows_one hlg
  have hsl : ∀ K : Value → Prop, lenL sv K = K (.int .i64 d.now.length) := by intro K; rw [hsv]; simp [ok.len]
  have hkb : ∀ o, Kp [] w (setBlk w1 b o) := fun o => hk.setBlk (.inr hb) _
  have hbad : ¬ ((0 ≤ at_ ∧ at_ < d.now.length) ∧ s.length = 32) → K (.tuple #[.agg #[sv, lv, .int .i64 d.fuse, .bool d.off], .int .i64 1]) (setBlk w1 b (.cells #[sv, lv, .int .i64 d.fuse, .bool d.off] 39)) := by
    intro hb'
    have := hK (setBlk w1 b (.cells #[sv, lv, .int .i64 d.fuse, .bool d.off] 39)) (.agg (qc sv lv d)) (SS ++ SL)
    unfold DK.write at this
    rw [if_neg hb'] at this
    exact this ⟨sv, lv, SS, SL, rfl, hs.keep (hkb _) (by simp), hlg.keep (hkb _) (by simp), rfl⟩ (hkb _) (fun y hy => .inl hy)
  simp [-getElem?_pos, -Array.getElem?_eq_getElem, -List.length_flatten, List.getElem?_cons_zero, List.getElem?_cons_succ, hA, hB, heap_self, heap_ne, hab, hba, la, lb, -Array.all_eq_true, lvS, spl4, one4, one_i, one_b, hsv1, hlv1, hsl, ext4]
  refine ⟨fun h0 => hbad (by omega), fun h0 => ⟨fun h1 => hbad (by omega), fun h1 => ⟨fun h2 => hbad (by omega), fun h2 => ?_⟩⟩⟩
  have hgood : (0 ≤ at_ ∧ at_ < d.now.length) ∧ s.length = 32 := by omega
  unfold ref03_Write_s0
  unfold DK.write at hK
  rw [if_pos hgood] at hK
  simp [-getElem?_pos, -Array.getElem?_eq_getElem, -List.length_flatten, List.getElem?_cons_zero, List.getElem?_cons_succ, hA, ext4]
  refine ref_burns (sv := sv) (lv := lv) (d := d) hsv1 hlv1 ⟨ok.f0, ok.f1⟩ fun w2 hk2 => ?_
  obtain ⟨b1, b2⟩ := burns_same d
  have hA2 := hk2.get hA (by simp)
  have hB2 := hk2.get hB (by simp)
  have la2 := live_of hA2
  have lb2 := live_of hB2
  have hkw2 : Kp [] w w2 := hk.trans' hk2
  cases hon : d.burns.2 with
  | false =>
    simp only [hon, Bool.false_eq_true, if_false] at hK
    have hkb2 : ∀ o o', Kp [] w (setBlk (setBlk w2 a o) b o') := fun o o' => (hkw2.setBlk (.inr ha) _).setBlk (.inr hb) _
    have := hK _ (.agg (qc sv lv d.burns.1)) (SS ++ SL) (ref_burned hs hlg (hkb2 (.cells (qc sv lv d.burns.1) 39) (.cells (qc sv lv d.burns.1) 39))) (hkb2 _ _) (fun y hy => .inl hy)
    simp only [qc] at this
    simp [-getElem?_pos, -Array.getElem?_eq_getElem, -List.length_flatten, List.getElem?_cons_zero, List.getElem?_cons_succ, qc, hA2, hB2, heap_self, heap_ne, hab, hba, la2, lb2, -Array.all_eq_true, lvS, spl4, one4, one_i, one_b, hsv1, hlv1, ext4]
    exact ⟨one4p hsv1 hlv1 rfl rfl, this⟩
  | true =>
    simp only [hon, if_true] at hK
    simp [-getElem?_pos, -Array.getElem?_eq_getElem, -List.length_flatten, List.getElem?_cons_zero, List.getElem?_cons_succ, qc, hA2, hB2, heap_self, heap_ne, hab, hba, la2, lb2, -Array.all_eq_true, lvS, spl4, one4, one_i, one_b, hsv1, hlv1, ext4]
    obtain ⟨b1, b2⟩ := burns_same d
    obtain ⟨f', hf'⟩ : ∃ f', f' = d.burns.1.fuse := ⟨_, rfl⟩
    obtain ⟨o', ho'⟩ : ∃ o', o' = d.burns.1.off := ⟨_, rfl⟩
    rw [← hf', ← ho']
    obtain ⟨w3, hw3⟩ : ∃ w3, w3 = setBlk w2 a (.cells #[sv, lv, .int .i64 f', .bool o'] 39) := ⟨_, rfl⟩
    have hkw3 : Kp [] w w3 := by rw [hw3]; exact hkw2.setBlk (.inr ha) _
    have hA3 : w3.heap[a]? = some (.cells #[sv, lv, .int .i64 f', .bool o'] 39) := by rw [hw3]; exact heap_self la2
    have hB3 : w3.heap[b]? = some (.cells #[.slice none 0 0, .slice none 0 0, .int .i64 0, .bool false] 39) := by rw [hw3, heap_ne hab]; exact hB2
    rw [← hw3]
    have hl3 := (hlg.keep hkw3 (by simp)).rd
    have hz := zc97
    rw [hz]
    refine rows_app (k := 2) (z := [Value.int .i64 0, .string ⟨#[]⟩]) (rows := []) (G := d.l.map wroteV) (S := []) (.inl ⟨rfl, rfl, rfl⟩) (by omega) rfl (fun y hy => hl3.row hy) (wroteV_one _) (fun K' hK' => hl3.src K' hK') (by simp; omega) (by simp; omega) fun v4 w4 S4 h4 hk4 hS4 => ?_
    rw [← hz, bld97 rfl rfl, bsl_agg (n := 2) rfl]
    obtain ⟨w5, hw5⟩ : ∃ w5, w5 = w4.alloc (.cells #[.int .i64 at_, .string (str s)] 97) := ⟨_, rfl⟩
    have hk5 : Kp [] w4 w5 := by rw [hw5]; exact (Kp.refl [] w4).alloc _
    have hb5 : w5.heap[w4.heap.size]? = some (.cells #[.int .i64 at_, .string (str s)] 97) := by rw [hw5]; exact heap_new
    rw [← hw5, hz]
    have hat : ((at_.toNat : Nat) : Int) = at_ := by omega
    have hs5 : RdAt w5 (.slice (some ⟨w4.heap.size, 0, none⟩) 1 1) 2 [wroteV (at_.toNat, s)] [w4.heap.size] :=
      .inr ⟨_, 0, 1, _, _, _, rfl, rfl, hb5, by simp [wroteV], by simp, by simp [wroteV, hat], by simp⟩
    have hw0 := hk4.size
    refine rows_app (k := 2) (z := [Value.int .i64 0, .string ⟨#[]⟩]) (G := [wroteV (at_.toNat, s)]) (h4.keep hk5 (by simp)) (by omega) rfl (by simp [wroteV]) (by simp [wroteV, Q.one]) (fun K' hK' => hs5.src K' hK') (by simp; omega) (by simp; omega) fun v6 w6 S6 h6 hk6 hS6 => ?_
    have hn4 : ∀ y ∈ S4, w3.heap.size ≤ y := fun y hy => by
      rcases hS4 y hy with h | h
      · cases h
      · exact h
    have hs3 := hkw3.size
    have hk46 : Kp [] w3 w6 := (hk4.trans' hk5).trans hk6 fun y hy hlt => by have := hn4 y hy; omega
    have hA6 := hk46.get hA3 (by simp)
    have hB6 := hk46.get hB3 (by simp)
    have la6 := live_of hA6
    have lb6 := live_of hB6
    have hv6 := rows_one h6
    have hkw6 : Kp [] w w6 := hkw3.trans' hk46
    have hend : ∀ o o', Kp [] w (setBlk (setBlk w6 a o) b o') := fun o o' => (hkw6.setBlk (.inr ha) _).setBlk (.inr hb) _
    have ha3 := live_of hA3
    have hb3 := live_of hB3
    unfold Live at ha3 hb3
    have hne6 : ∀ y ∈ S6, w3.heap.size ≤ y := fun y hy => by
      rcases hS6 y hy with h | h
      · exact hn4 y h
      · have := hk5.size; omega
    simp [-getElem?_pos, -Array.getElem?_eq_getElem, -List.length_flatten, List.getElem?_cons_zero, List.getElem?_cons_succ, hA6, hB6, heap_self, heap_ne, hab, hba, la6, lb6, -Array.all_eq_true, lvS, spl4, one4, one_i, one_b, hsv1, hlv1, ext4, hv6]
    have hfin := hK (setBlk (setBlk w6 a (.cells #[sv, v6, .int .i64 f', .bool o'] 39)) b (.cells #[sv, v6, .int .i64 f', .bool o'] 39)) (.agg #[sv, v6, .int .i64 f', .bool o']) (SS ++ S6)
    refine ⟨one4p hsv1 hv6 rfl rfl, hfin ⟨sv, v6, SS, S6, by rw [hf', ho']; rfl, ?_, ?_, rfl⟩ (hend _ _) fun y hy => ?_⟩
    · show RowsAt _ sv 1 (List.map strV d.burns.1.sure) SS
      rw [b1]; exact hs.keep (hend _ _) (by simp)
    · show RowsAt _ v6 2 (List.map wroteV (d.l ++ [(at_.toNat, s)])) S6
      rw [List.map_append]
      have hk66 : Kp [a, b] w6 (setBlk (setBlk w6 a (.cells #[sv, v6, .int .i64 f', .bool o'] 39)) b (.cells #[sv, v6, .int .i64 f', .bool o'] 39)) :=
        ((Kp.refl _ w6).setBlk (.inl (by simp)) _).setBlk (.inl (by simp)) _
      exact h6.keep hk66 fun y hy => by have := hne6 y hy; simp; omega
    · rcases List.mem_append.1 hy with h | h
      · exact .inl (by simp [h])
      · exact .inr (by have := hne6 y h; omega)
end Go.Proofs

/- The document's disk, its other functions: Fuse, Read, Flush, Crash, New. -/
set_option linter.unusedVariables false
set_option linter.unusedSimpArgs false
namespace Go.Proofs
open Go Go.Q
theorem ref_Fuse {w : World} {x : Value} {d : DK} {S : List Nat} (h : RefAt w x d S) (n : Int) (hn : n < 9223372036854775808) {K : Value → World → Prop}
    (hK : ∀ w' x', RefAt w' x' { d with fuse := max n (-1) } S → Kp [] w w' → K x' w') : callG Try.prog 24 #[x, .int .i64 n] w K := by
  refine ref03_Fuse_call ?_
  obtain ⟨sv, lv, SS, SL, rfl, hs, hlg, rfl⟩ := h
  simp only [ref03_Fuse, ref03_Fuse_s0]
  refine newG2 fun a b w1 ha hb hab hba hA hB la lb hk => ?_
  have hc : Value.cells (.agg (qc sv lv d)) = qc sv lv d := rfl
  rw [hc] at hA
  simp only [qc, zc39] at hA hB
  have hsv1 := rows_one hs
  have hlv1 := rows_one hlg
  have hkb : ∀ o o', Kp [] w (setBlk (setBlk w1 a o) b o') := fun o o' => (hk.setBlk (.inr ha) _).setBlk (.inr hb) _
  simp [-getElem?_pos, -Array.getElem?_eq_getElem, -List.length_flatten, List.getElem?_cons_zero, List.getElem?_cons_succ, hA, hB, heap_self, heap_ne, hab, hba, la, lb, -Array.all_eq_true, lvS, spl4, one4, one_i, one_b, hsv1, hlv1, ext4]
  exact hK _ _ ⟨sv, lv, SS, SL, rfl, hs.keep (hkb (.cells #[sv, lv, .int .i64 (max n (-1)), .bool d.off] 39) (.cells #[sv, lv, .int .i64 (max n (-1)), .bool d.off] 39)) (by simp), hlg.keep (hkb _ _) (by simp), rfl⟩ (hkb _ _)
/-- what is read is what is sure, and what was written -/
def Syn (d : DK) : Prop := d.now = applyAll d.sure d.l
theorem apply_get {L : List (List UInt8)} {l : List (Nat × List UInt8)} {i p : Nat} (hi : i < l.length) (hp : p < L.length) :
    (applyAll L (l.take (i + 1))).getD p [] = if l[i].1 = p then l[i].2 else (applyAll L (l.take i)).getD p [] := by
  rw [List.take_succ_eq_append_getElem hi, applyAll_snoc]
  by_cases h : l[i].1 = p
  · rw [if_pos h, h]
    have : p < (applyAll L (l.take i)).length := by rw [applyAll_len]; exact hp
    simp [List.getD, this]
  · rw [if_neg h]
    simp [List.getD, List.getElem?_set_ne h]
theorem ref_Read {w : World} {x : Value} {d : DK} {S : List Nat} (h : RefAt w x d S) (ok : d.Ok) (hsyn : Syn d) (hl : d.l.length < 2 ^ 40) (at_ : Int) {K : Value → World → Prop}
    (hK : ∀ w', Kp [] w w' → K (.tuple #[.string (str (d.read at_).1), .int .i64 (d.read at_).2]) w') : callG Try.prog 21 #[x, .int .i64 at_] w K := by
  refine ref03_Read_call ?_
  obtain ⟨sv, lv, SS, SL, rfl, hs, hlg, rfl⟩ := h
  simp only [ref03_Read, ref03_Read_s5]
  have hc : Value.cells (.agg (qc sv lv d)) = qc sv lv d := rfl
  rw [newG_k, hc]
  obtain ⟨a, hae⟩ : ∃ a, a = w.heap.size := ⟨_, rfl⟩
  obtain ⟨w1, hw1⟩ : ∃ w1, w1 = w.alloc (.cells (qc sv lv d) 39) := ⟨_, rfl⟩
  have hk : Kp [] w w1 := by rw [hw1]; exact (Kp.refl [] w).alloc _
  have hA : w1.heap[a]? = some (.cells #[sv, lv, .int .i64 d.fuse, .bool d.off] 39) := by rw [hw1, hae]; exact heap_new
  rw [← hae, ← hw1]
  have hs1 := hs.keep hk (by simp)
  have hl1 := hlg.keep hk (by simp)
  have hsl : ∀ K : Value → Prop, lenL sv K = K (.int .i64 d.now.length) := by
    intro K; rw [hs1.rd.lenL]; simp [ok.len]
  have hll : ∀ K : Value → Prop, lenL lv K = K (.int .i64 d.l.length) := by
    intro K; rw [hl1.rd.lenL]; simp
  have hbad : ¬ (0 ≤ at_ ∧ at_ < d.now.length) → K (.tuple #[.string ⟨#[]⟩, .int .i64 1]) w1 := by
    intro hb; have := hK w1 hk; unfold DK.read at this; rw [if_neg hb] at this; exact this
  simp [-getElem?_pos, -Array.getElem?_eq_getElem, -List.length_flatten, List.getElem?_cons_zero, List.getElem?_cons_succ, hA, hsl]
  refine ⟨fun h0 => hbad (by omega), fun h0 => ⟨fun h1 => hbad (by omega), fun h1 => ?_⟩⟩
  have hgood : 0 ≤ at_ ∧ at_ < d.now.length := by omega
  unfold ref03_Read_s4
  unfold DK.read at hK
  simp only [hgood, and_self, if_true] at hK
  obtain ⟨p, hp⟩ : ∃ p : Nat, at_ = p := ⟨at_.toNat, by omega⟩
  subst hp
  have hp : p < d.sure.length := by rw [ok.len]; omega
  obtain ⟨bl, T, c, hbl, hheap, hia, _, _, hcell⟩ := hs1.at (i := p) (by simpa using hp)
  have hc0 : c[p]? = some (.string (str d.sure[p])) := by
    have := hcell 0 (by omega)
    simpa [strV] using this
  simp [-getElem?_pos, -Array.getElem?_eq_getElem, -List.length_flatten, List.getElem?_cons_zero, List.getElem?_cons_succ, hA, hia, hheap, hc0]
  refine ⟨fun ho => ?_, fun ho => ?_⟩
  · have := hK w1 hk
    rw [if_pos ho] at this
    exact this
  · simp only [ho] at hK
    unfold ref03_Read_s3 ref03_Read_L2
    have hc00 : d.sure[p] = (applyAll d.sure (d.l.take 0)).getD p [] := by simp [applyAll, List.getD, hp]
    refine loop_inv (fun m xs w => ∃ i, i ≤ d.l.length ∧ m = d.l.length - i ∧ xs = [.int .i64 p, .pointer (some ⟨a, 0, none⟩), .string (str ((applyAll d.sure (d.l.take i)).getD p [])), .int .i64 (i : Nat)] ∧ w = w1)
      ?_ (m := d.l.length) ⟨0, by omega, rfl, by rw [hc00]; rfl, rfl⟩
    rintro m N xs w ⟨i, hi, rfl, rfl, rfl⟩ hN
    simp only [ref03_Read_L2F, ref03_Read_b1]
    simp [-getElem?_pos, -Array.getElem?_eq_getElem, -List.length_flatten, List.getElem?_cons_zero, List.getElem?_cons_succ, hA, hll]
    refine ⟨fun hlt => ?_, fun hge => ?_⟩
    · have hiw : IntKind.i64.wrap ((i : Int) + 1) = ((i + 1 : Nat) : Int) := by rw [w64 (by omega) (by omega)]; simp
      have hin := hN (d.l.length - (i + 1)) _ w (by omega) ⟨i + 1, by omega, rfl, rfl, rfl⟩
      obtain ⟨bl2, T2, c2, hbl2, hheap2, hia2, hle2, _, hcell2⟩ := hl1.at (i := i) (by simpa using hlt)
      have h20 : c2[i * 2]? = some (.int .i64 (d.l[i].1 : Nat)) := by
        have := hcell2 0 (by omega)
        simpa [wroteV] using this
      have h21 : c2[i * 2 + 1]? = some (.string (str d.l[i].2)) := by
        have := hcell2 1 (by omega)
        simpa [wroteV] using this
      rw [apply_get hlt hp] at hin
      simp [-getElem?_pos, -Array.getElem?_eq_getElem, -List.length_flatten, List.getElem?_cons_zero, List.getElem?_cons_succ, hia2, hheap2, h20, h21, hiw]
      refine ⟨fun he => ?_, fun he => ?_⟩
      · rw [if_pos (by omega)] at hin
        exact hin
      · rw [if_neg (by omega)] at hin
        exact hin
    · have hie : i = d.l.length := by omega
      subst hie
      rw [List.take_length] 
      have := hK w hk
      unfold Syn at hsyn
      rw [hsyn] at this
      simpa [ref03_Read_s0] using this
end Go.Proofs

/- The document's disk: Flush, Crash and New. -/
set_option linter.unusedVariables false
set_option linter.unusedSimpArgs false
namespace Go.Proofs
open Go Go.Q
theorem one2p {a b : Value} (ha : one a = true) (hb : one b = true) : ∀ (i : Nat) (x : i < 2), one ([a, b] : List Value)[i] = true := by
  intro i hi
  match i, hi with
  | 0, _ => exact ha
  | 1, _ => exact hb
theorem crashL_over : ∀ (ks : List Int) (l : List (Nat × List UInt8)) (L : List (List UInt8)) (i : Nat), ks.length ≤ i → crashL (l.take i) ks L = crashL l ks L := by
  intro ks
  induction ks with
  | nil => intro l L i _; cases l <;> cases i <;> rfl
  | cons k ks ih =>
    intro l L i hi
    cases i with
    | zero => simp at hi
    | succ i =>
      cases l with
      | nil => rfl
      | cons x l => exact ih l _ i (by simpa using hi)
/-- in a loop over what was written: a struct at 'a', its list of sectors 'L' -/
structure LoopAt (w wi : World) (a b : Nat) (lv : Value) (f : Int) (o : Bool) (L : List (List UInt8)) (SS : List Nat) (sv : Value) (Si : List Nat) : Prop where
  kp : Kp [] w wi
  hA : wi.heap[a]? = some (.cells #[sv, lv, .int .i64 f, .bool o] 39)
  hB : wi.heap[b]? = some (.cells #[.slice none 0 0, .slice none 0 0, .int .i64 0, .bool false] 39)
  rows : RowsAt wi sv 1 (L.map strV) Si
  new : ∀ y ∈ Si, (y ∈ SS ∨ w.heap.size ≤ y) ∧ y ≠ a ∧ y ≠ b
theorem LoopAt.step {w wi w' : World} {a b : Nat} {lv : Value} {f : Int} {o : Bool} {L L' : List (List UInt8)} {SS : List Nat} {sv v' : Value} {Si S' : List Nat} (h : LoopAt w wi a b lv f o L SS sv Si)
    (ha : w.heap.size ≤ a) (hb : w.heap.size ≤ b) (hab : ¬ a = b) (hk : Kp [] wi w') (hr : RowsAt w' v' 1 (L'.map strV) S') (hS : ∀ y ∈ S', wi.heap.size ≤ y) :
    LoopAt w (setBlk w' a (.cells #[v', lv, .int .i64 f, .bool o] 39)) a b lv f o L' SS v' S' := by
  have hA' := hk.get h.hA (by simp)
  have hB' := hk.get h.hB (by simp)
  have l1 : a < wi.heap.size := live_of h.hA
  have l2 : b < wi.heap.size := live_of h.hB
  have hne : ∀ y ∈ S', y ≠ a ∧ y ≠ b := fun y hy => by have := hS y hy; omega
  have hka : Kp [a] w' (setBlk w' a (.cells #[v', lv, .int .i64 f, .bool o] 39)) := (Kp.refl _ w').setBlk (.inl (by simp)) _
  refine ⟨(h.kp.trans' hk).setBlk (.inr ha) _, heap_self (live_of hA'), by rw [heap_ne hab]; exact hB', hr.keep hka fun y hy => by simp; exact (hne y hy).1, fun y hy => ⟨.inr ?_, hne y hy⟩⟩
  have := hS y hy
  have := h.kp.size
  omega
theorem ref_Flush {w : World} {x : Value} {d : DK} {S : List Nat} (h : RefAt w x d S) (ok : d.Ok) (hl : d.l.length < 2 ^ 40) {K : Value → World → Prop}
    (hK : ∀ w' x' S', RefAt w' x' d.flush.1 S' → Kp [] w w' → (∀ y ∈ S', y ∈ S ∨ w.heap.size ≤ y) → K (.tuple #[x', .int .i64 d.flush.2]) w') : callG Try.prog 22 #[x] w K := by
  refine ref03_Flush_call ?_
  obtain ⟨sv, lv, SS, SL, rfl, hs, hlg, rfl⟩ := h
  simp only [ref03_Flush, ref03_Flush_s4]
  refine newG2 fun a b w1 ha hb hab hba hA hB la lb hk => ?_
  have hc : Value.cells (.agg (qc sv lv d)) = qc sv lv d := rfl
  rw [hc] at hA
  simp only [qc, zc39] at hA hB
  have hsv1 := rows_one hs
  have hlv1 := rows_one hlg
  simp [-getElem?_pos, -Array.getElem?_eq_getElem, -List.length_flatten, List.getElem?_cons_zero, List.getElem?_cons_succ, hA, ext4]
  unfold DK.flush at hK
  refine ref_burns (sv := sv) (lv := lv) (d := d) hsv1 hlv1 ⟨ok.f0, ok.f1⟩ fun w2 hk2 => ?_
  obtain ⟨b1, b2⟩ := burns_same d
  have hA2 := hk2.get hA (by simp)
  have hB2 := hk2.get hB (by simp)
  have la2 := live_of hA2
  have lb2 := live_of hB2
  have hkw2 : Kp [] w w2 := hk.trans' hk2
  cases hon : d.burns.2 with
  | false =>
    simp only [hon, Bool.false_eq_true, if_false] at hK
    have hkb2 : ∀ o o', Kp [] w (setBlk (setBlk w2 a o) b o') := fun o o' => (hkw2.setBlk (.inr ha) _).setBlk (.inr hb) _
    have := hK _ (.agg (qc sv lv d.burns.1)) (SS ++ SL) (ref_burned hs hlg (hkb2 (.cells (qc sv lv d.burns.1) 39) (.cells (qc sv lv d.burns.1) 39))) (hkb2 _ _) (fun y hy => .inl hy)
    simp only [qc] at this
    simp [-getElem?_pos, -Array.getElem?_eq_getElem, -List.length_flatten, List.getElem?_cons_zero, List.getElem?_cons_succ, qc, hA2, hB2, heap_self, heap_ne, hab, hba, la2, lb2, -Array.all_eq_true, lvS, spl4, one4, one_i, one_b, hsv1, hlv1, ext4]
    exact ⟨one4p hsv1 hlv1 rfl rfl, this⟩
  | true =>
    simp only [hon, if_true] at hK
    obtain ⟨f', hf'⟩ : ∃ f', f' = d.burns.1.fuse := ⟨_, rfl⟩
    obtain ⟨o', ho'⟩ : ∃ o', o' = d.burns.1.off := ⟨_, rfl⟩
    simp [-getElem?_pos, -Array.getElem?_eq_getElem, -List.length_flatten, List.getElem?_cons_zero, List.getElem?_cons_succ, qc, hA2, hB2, heap_self, heap_ne, hab, hba, la2, lb2, -Array.all_eq_true, lvS, spl4, one4, one_i, one_b, hsv1, hlv1, ext4]
    rw [← hf', ← ho']
    have hkw3 : Kp [] w (setBlk w2 a (.cells #[sv, lv, .int .i64 f', .bool o'] 39)) := hkw2.setBlk (.inr ha) _
    have hlt := hs.lt
    have h0 : LoopAt w (setBlk w2 a (.cells #[sv, lv, .int .i64 f', .bool o'] 39)) a b lv f' o' (applyAll d.sure (d.l.take 0)) SS sv SS :=
      ⟨hkw3, heap_self la2, by rw [heap_ne hab]; exact hB2, hs.keep hkw3 (by simp), fun y hy => ⟨.inl hy, by have := hlt y hy; omega, by have := hlt y hy; omega⟩⟩
    unfold ref03_Flush_s3 ref03_Flush_L2
    refine loop_inv (fun m xs wi => ∃ i svi Si, i ≤ d.l.length ∧ m = d.l.length - i ∧ xs = [.pointer (some ⟨a, 0, none⟩), .pointer (some ⟨b, 0, none⟩), .int .i64 (i : Nat)] ∧ LoopAt w wi a b lv f' o' (applyAll d.sure (d.l.take i)) SS svi Si)
      ?_ (m := d.l.length) ⟨0, sv, SS, by omega, rfl, rfl, h0⟩
    rintro m N xs wi ⟨i, svi, Si, hi, rfl, rfl, hL⟩ hN
    have hlgi := hlg.keep hL.kp (by simp)
    have hll : ∀ K : Value → Prop, lenL lv K = K (.int .i64 d.l.length) := by intro K; rw [hlgi.rd.lenL]; simp
    have hAi := hL.hA
    have hBi := hL.hB
    have lai := live_of hAi
    have lbi := live_of hBi
    simp only [ref03_Flush_L2F, ref03_Flush_b1]
    simp [-getElem?_pos, -Array.getElem?_eq_getElem, -List.length_flatten, List.getElem?_cons_zero, List.getElem?_cons_succ, hAi, hll]
    refine ⟨fun hlt => ?_, fun hge => ?_⟩
    · have hiw : IntKind.i64.wrap ((i : Int) + 1) = ((i + 1 : Nat) : Int) := by rw [w64 (by omega) (by omega)]; simp
      obtain ⟨bl2, T2, c2, hbl2, hheap2, hia2, hle2, _, hcell2⟩ := hlgi.at (i := i) (by simpa using hlt)
      have h20 : c2[i * 2]? = some (.int .i64 (d.l[i].1 : Nat)) := by
        have := hcell2 0 (by omega)
        simpa [wroteV] using this
      have h21 : c2[i * 2 + 1]? = some (.string (str d.l[i].2)) := by
        have := hcell2 1 (by omega)
        simpa [wroteV] using this
      simp [-getElem?_pos, -Array.getElem?_eq_getElem, -List.length_flatten, List.getElem?_cons_zero, List.getElem?_cons_succ, hia2, hheap2, h20, h21, hiw]
      have hok := ok.szl _ (List.getElem_mem hlt)
      have hlen := ok.len
      have hmost := ok.most
      refine ref_with (hL.rows.keep (Kp.refl [] wi).drew (by simp)) (p := d.l[i].1) (by rw [applyAll_len]; omega) (by rw [applyAll_len]; omega) d.l[i].2 fun v' w' S' hr' hk' hS' => ?_
      have hk'' : Kp [] wi w' := (Kp.refl [] wi).drew.trans' hk'
      have hA' := hk''.get hAi (by simp)
      have hv1 := rows_one hr'
      have hstep := hL.step ha hb hab hk'' hr' hS'
      have htk : (applyAll d.sure (d.l.take i)).set d.l[i].1 d.l[i].2 = applyAll d.sure (d.l.take (i + 1)) := by rw [List.take_succ_eq_append_getElem hlt, applyAll_snoc]
      rw [htk] at hstep
      simp [-getElem?_pos, -Array.getElem?_eq_getElem, -List.length_flatten, List.getElem?_cons_zero, List.getElem?_cons_succ, hA', hv1, live_of hA']
      exact hN (d.l.length - (i + 1)) _ _ (by omega) ⟨i + 1, v', S', by omega, rfl, rfl, hstep⟩
    · have hie : i = d.l.length := by omega
      subst hie
      have hsvi := rows_one hL.rows
      unfold ref03_Flush_s0
      have hend : ∀ o o', Kp [] w (setBlk (setBlk wi a o) b o') := fun o o' => (hL.kp.setBlk (.inr ha) _).setBlk (.inr hb) _
      have hrows := hL.rows
      rw [List.take_length] at hrows
      have hfin := hK (setBlk (setBlk wi a (.cells #[svi, .slice none 0 0, .int .i64 f', .bool o'] 39)) b (.cells #[svi, .slice none 0 0, .int .i64 f', .bool o'] 39)) (.agg #[svi, .slice none 0 0, .int .i64 f', .bool o']) (Si ++ [])
        ⟨svi, .slice none 0 0, Si, [], by rw [hf', ho']; rfl, by
          have hk66 : Kp [a, b] wi (setBlk (setBlk wi a (.cells #[svi, .slice none 0 0, .int .i64 f', .bool o'] 39)) b (.cells #[svi, .slice none 0 0, .int .i64 f', .bool o'] 39)) :=
            ((Kp.refl _ wi).setBlk (.inl (by simp)) _).setBlk (.inl (by simp)) _
          exact hrows.keep hk66 fun y hy => by have := hL.new y hy; simp; exact ⟨this.2.1, this.2.2⟩, .inl ⟨rfl, rfl, rfl⟩, rfl⟩ (hend _ _) (fun y hy => by
            have := (hL.new y (by simpa using hy)).1
            rcases this with h | h
            · exact .inl (by simp [h])
            · exact .inr h)
      simp [-getElem?_pos, -Array.getElem?_eq_getElem, -List.length_flatten, List.getElem?_cons_zero, List.getElem?_cons_succ, hAi, hBi, heap_self, heap_ne, hab, hba, lai, lbi, -Array.all_eq_true, lvS, spl4, one4, one_i, one_b, hsvi, ext4]
      exact hfin
theorem ref_Crash {w : World} {x : Value} {d : DK} {S : List Nat} (h : RefAt w x d S) (ok : d.Ok) (hl : d.l.length < 2 ^ 40) {kv : Value} {ks : List Int} {SK : List Nat} (hks : IntsAt w kv ks SK) {K : Value → World → Prop}
    (hK : ∀ w' x' S', RefAt w' x' (d.crash ks) S' → Kp [] w w' → (∀ y ∈ S', y ∈ S ∨ w.heap.size ≤ y) → K x' w') : callG Try.prog 25 #[x, kv] w K := by
  refine ref03_Crash_call ?_
  obtain ⟨sv, lv, SS, SL, rfl, hs, hlg, rfl⟩ := h
  simp only [ref03_Crash, ref03_Crash_s5]
  refine newG2 fun a b w1 ha hb hab hba hA hB la lb hk => ?_
  have hc : Value.cells (.agg (qc sv lv d)) = qc sv lv d := rfl
  rw [hc] at hA
  simp only [qc, zc39] at hA hB
  have hlv1 := rows_one hlg
  have hlt := hs.lt
  have h0 : LoopAt w w1 a b lv d.fuse d.off (crashL (d.l.take 0) ks d.sure) SS sv SS :=
    ⟨hk, hA, hB, hs.keep hk (by simp), fun y hy => ⟨.inl hy, by have := hlt y hy; omega, by have := hlt y hy; omega⟩⟩
  have hend : ∀ (i : Nat) (svi : Value) (Si : List Nat) (wi : World), LoopAt w wi a b lv d.fuse d.off (crashL (d.l.take i) ks d.sure) SS svi Si → crashL (d.l.take i) ks d.sure = crashL d.l ks d.sure →
      ref03_Crash_s0 K (.pointer (some ⟨a, 0, none⟩)) (.pointer (some ⟨b, 0, none⟩)) wi := by
    intro i svi Si wi hL he
    have hAi := hL.hA
    have hBi := hL.hB
    have lbi := live_of hBi
    have hsvi := rows_one hL.rows
    have hrows := hL.rows
    rw [he] at hrows
    have hkb : ∀ o, Kp [] w (setBlk wi b o) := fun o => hL.kp.setBlk (.inr hb) _
    have hkb' : ∀ o, Kp [b] wi (setBlk wi b o) := fun o => (Kp.refl _ wi).setBlk (.inl (by simp)) _
    have hfin := hK (setBlk wi b (.cells #[svi, .slice none 0 0, .int .i64 (-1), .bool false] 39)) (.agg #[svi, .slice none 0 0, .int .i64 (-1), .bool false]) (Si ++ [])
      ⟨svi, .slice none 0 0, Si, [], rfl, hrows.keep (hkb' _) fun y hy => by have := hL.new y hy; simp; exact this.2.2, .inl ⟨rfl, rfl, rfl⟩, rfl⟩ (hkb _) (fun y hy => by
        have := (hL.new y (by simpa using hy)).1
        rcases this with h | h
        · exact .inl (by simp [h])
        · exact .inr h)
    unfold ref03_Crash_s0
    simp [-getElem?_pos, -Array.getElem?_eq_getElem, -List.length_flatten, List.getElem?_cons_zero, List.getElem?_cons_succ, hAi, bld39 hsvi one_i]
    simp [-getElem?_pos, -Array.getElem?_eq_getElem, -List.length_flatten, List.getElem?_cons_zero, List.getElem?_cons_succ, hBi, heap_self, heap_ne, hab, hba, lbi, -Array.all_eq_true, lvS, spl4, one4, one_i, one_b, hsvi, ext4]
    exact hfin
  unfold ref03_Crash_s4 ref03_Crash_L3
  refine loop_inv (fun m xs wi => ∃ i svi Si, i ≤ d.l.length ∧ i ≤ ks.length ∧ m = d.l.length - i ∧ xs = [kv, .pointer (some ⟨a, 0, none⟩), .pointer (some ⟨b, 0, none⟩), .int .i64 (i : Nat)] ∧ LoopAt w wi a b lv d.fuse d.off (crashL (d.l.take i) ks d.sure) SS svi Si)
    ?_ (m := d.l.length) ⟨0, sv, SS, by omega, by omega, rfl, rfl, h0⟩
  rintro m N xs wi ⟨i, svi, Si, hi, hik, rfl, rfl, hL⟩ hN
  have hlgi := hlg.keep hL.kp (by simp)
  have hll : ∀ K : Value → Prop, lenL lv K = K (.int .i64 d.l.length) := by intro K; rw [hlgi.rd.lenL]; simp
  have hksi := hks.keep hL.kp (by simp)
  obtain ⟨ka, kc, hkv⟩ := hksi.len
  have hkl : ∀ K : Value → Prop, lenL kv K = K (.int .i64 ks.length) := by intro K; rw [hkv]; rfl
  have hAi := hL.hA
  have hBi := hL.hB
  have lai := live_of hAi
  simp only [ref03_Crash_L3F, ref03_Crash_s2]
  simp [-getElem?_pos, -Array.getElem?_eq_getElem, -List.length_flatten, List.getElem?_cons_zero, List.getElem?_cons_succ, hAi, hll, hkl]
  refine ⟨fun hlt => ⟨fun hkt => ?_, fun hge => ?_⟩, fun hge => ?_⟩
  · have hiw : IntKind.i64.wrap ((i : Int) + 1) = ((i + 1 : Nat) : Int) := by rw [w64 (by omega) (by omega)]; simp
    obtain ⟨bl2, T2, c2, hbl2, hheap2, hia2, hle2, hext2, hcell2⟩ := hlgi.at (i := i) (by simpa using hlt)
    obtain ⟨bk, ok', ck, Tk, frk, hbk, hkheap, hkia, hkc⟩ := hksi.at hkt
    obtain ⟨q, hq⟩ : ∃ q, q = ks.getD i 0 := ⟨_, rfl⟩
    rw [← hq] at hkc
    have hki : ks[i]? = some q := by rw [hq]; simp [List.getD, hkt]
    obtain ⟨k, hkk⟩ : ∃ k, k = (max 0 (min q 32)).toNat := ⟨_, rfl⟩
    have hkq : max 0 (min q 32) = (k : Int) := by omega
    have hk32 : k ≤ 32 := by omega
    have hokl := ok.szl _ (List.getElem_mem hlt)
    have hcok := crashL_ok (n := d.now.length) (ks := ks) (l := d.l.take i) ok.sz1 ok.len (fun x hx => ok.szl x (List.mem_of_mem_take hx))
    obtain ⟨L, hLd⟩ : ∃ L, L = crashL (d.l.take i) ks d.sure := ⟨_, rfl⟩
    rw [← hLd] at hcok hL
    have hpL : d.l[i].1 < L.length := by rw [hcok.2]; exact hokl.1
    have hsz : (L[d.l[i].1]).length = 32 := hcok.1 _ (List.getElem_mem hpL)
    have hmost := ok.most
    have hLs : crashL (d.l.take (i + 1)) ks d.sure = L.set d.l[i].1 (d.l[i].2.take k ++ (L[d.l[i].1]).drop k) := by
      rw [take_snoc hlt, crashL_snoc, ← hLd]
      have : (d.l.take i).length = i := by simp; omega
      rw [this, hki]
      simp only [crash1, ← hkk]
      congr 2
      simp [List.getD, hpL]
    -- the one that was written
    obtain ⟨w2, hw2⟩ : ∃ w2, w2 = wi.alloc (.cells #[.int .i64 (d.l[i].1 : Nat), .string (str d.l[i].2)] 97) := ⟨_, rfl⟩
    have hk2 : Kp [] wi w2 := by rw [hw2]; exact (Kp.refl [] wi).alloc _
    have hC2 : w2.heap[wi.heap.size]? = some (.cells #[.int .i64 (d.l[i].1 : Nat), .string (str d.l[i].2)] 97) := by rw [hw2]; exact heap_new
    have hA2 := hk2.get hAi (by simp)
    have hspl : ∀ x y : Value, splice #[.int .i64 0, .string ⟨#[]⟩] 0 #[x, y] = #[x, y] := fun _ _ => rfl
    have hrow : (List.map wroteV d.l)[i]'(by simpa using hlt) = [.int .i64 (d.l[i].1 : Nat), .string (str d.l[i].2)] := by simp [wroteV]
    rw [hrow] at hext2
    obtain ⟨bl3, T3, c3, hbl3, hheap3, hia3, hle3, hext3, hcell3⟩ := hL.rows.at (i := d.l[i].1) (by simpa using hpL)
    have hc30 : c3[d.l[i].1]? = some (.string (str (L[d.l[i].1]))) := by
      have := hcell3 0 (by omega)
      simpa [strV] using this
    have hheap3' := hk2.get hheap3 (by simp)
    unfold ref03_Crash_s1
    simp [-getElem?_pos, -Array.getElem?_eq_getElem, -List.length_flatten, List.getElem?_cons_zero, List.getElem?_cons_succ, hkia, hkheap, hkc, hkq, hAi, hia2, hheap2, hle2, hext2, zc97, heap_new, hspl]
    refine ⟨one2p rfl rfl, ?_⟩
    rw [← hw2]
    simp [-getElem?_pos, -Array.getElem?_eq_getElem, -List.length_flatten, List.getElem?_cons_zero, List.getElem?_cons_succ, hA2, hC2, hk32, hokl.2, hia3, hheap3', hc30, hsz, bq_sadd, str_extract]
    have ht32 : List.take 32 (L[d.l[i].1]) = L[d.l[i].1] := List.take_of_length_le (by omega)
    rw [ht32]
    refine ref_with ((hL.rows.keep hk2 (by simp)).keep (Kp.refl [] w2).drew (by simp)) (p := d.l[i].1) hpL (by omega) _ fun v' w' S' hr' hk' hS' => ?_
    have hk'' : Kp [] wi w' := hk2.trans' ((Kp.refl [] w2).drew.trans' hk')
    have hA' := hk''.get hAi (by simp)
    have hv1 := rows_one hr'
    have hs2 := hk2.size
    have hstep := hL.step ha hb hab hk'' hr' fun y hy => by
      have h := hS' y hy
      simp only [heap_drew] at h
      omega
    rw [← hLs] at hstep
    simp [-getElem?_pos, -Array.getElem?_eq_getElem, -List.length_flatten, List.getElem?_cons_zero, List.getElem?_cons_succ, hA', hv1, live_of hA', hiw]
    exact hN (d.l.length - (i + 1)) _ _ (by omega) ⟨i + 1, v', S', by omega, by omega, rfl, rfl, hstep⟩
  · exact hend i svi Si wi hL (by
exact crashL_over _ _ _ _ (by omega))
  · exact hend i svi Si wi hL (by
      have : i = d.l.length := by omega
      rw [this, List.take_length])
theorem ref_New_bad {w : World} {n : Int} (hn : n < 1 ∨ 4096 < n) {K : Value → World → Prop}
    (hK : ∀ w', Kp [] w w' → K (.tuple #[.agg #[.slice none 0 0, .slice none 0 0, .int .i64 0, .bool false], .int .i64 1]) w') : callG Try.prog 19 #[.int .i64 n] w K := by
  refine ref03_New_call ?_
  simp only [ref03_New, ref03_New_s5]
  rw [newG_k]
  obtain ⟨a, hae⟩ : ∃ a, a = w.heap.size := ⟨_, rfl⟩
  obtain ⟨w1, hw1⟩ : ∃ w1, w1 = w.alloc (.cells (zc Try.prog 39) 39) := ⟨_, rfl⟩
  have hk : Kp [] w w1 := by rw [hw1]; exact (Kp.refl [] w).alloc _
  have hA : w1.heap[a]? = some (.cells #[.slice none 0 0, .slice none 0 0, .int .i64 0, .bool false] 39) := by rw [hw1, hae, ← zc39]; exact heap_new
  rw [← hae, ← hw1]
  have la := live_of hA
  have ha : w.heap.size ≤ a := by omega
  simp only [bld39z]
  simp [-getElem?_pos, -Array.getElem?_eq_getElem, -List.length_flatten, List.getElem?_cons_zero, List.getElem?_cons_succ, hA, la, -Array.all_eq_true, lvS, spl4, one4, one_i, one_b]
  refine ⟨fun h1 => hK _ (hk.setBlk (.inr ha) _), fun h1 => ⟨fun h2 => hK _ (hk.setBlk (.inr ha) _), fun h2 => ?_⟩⟩
  exfalso; omega
theorem u32z : u8c (List.replicate 32 0) = List.replicate 32 (Value.int .u8 0) := by simp [u8c]
theorem ref_New {w : World} {n : Nat} (h1 : 1 ≤ n) (h2 : n ≤ 4096) {K : Value → World → Prop}
    (hK : ∀ w' x' S', RefAt w' x' (DK.fresh n) S' → Kp [] w w' → (∀ y ∈ S', w.heap.size ≤ y) → K (.tuple #[x', .int .i64 0]) w') : callG Try.prog 19 #[.int .i64 n] w K := by
  refine ref03_New_call ?_
  simp only [ref03_New, ref03_New_s5]
  rw [newG_k]
  obtain ⟨a, hae⟩ : ∃ a, a = w.heap.size := ⟨_, rfl⟩
  obtain ⟨w1, hw1⟩ : ∃ w1, w1 = w.alloc (.cells (zc Try.prog 39) 39) := ⟨_, rfl⟩
  have hk : Kp [] w w1 := by rw [hw1]; exact (Kp.refl [] w).alloc _
  have hA : w1.heap[a]? = some (.cells #[.slice none 0 0, .slice none 0 0, .int .i64 0, .bool false] 39) := by rw [hw1, hae, ← zc39]; exact heap_new
  rw [← hae, ← hw1]
  have la : a < w1.heap.size := live_of hA
  have ha : w.heap.size ≤ a := by omega
  have hn1 : ¬ (n : Int) < 1 := by omega
  have hn2 : ¬ (n : Int) > 4096 := by omega
  have hrep : ∀ m, rep (zc Try.prog 9) m = (List.replicate m (Value.string ⟨#[]⟩)).toArray := by
    intro m
    rw [zc9]
    exact rep_replicate (.string ⟨#[]⟩) 1 m (by omega)
  simp only [bq_lss, bq_gtr, bV_b, hn1, hn2]
  refine ⟨fun h => by simp at h, fun _ => ⟨fun h => by simp at h, fun _ => ?_⟩⟩
  unfold ref03_New_s4
  obtain ⟨o, hoe⟩ : ∃ o, o = w1.heap.size := ⟨_, rfl⟩
  obtain ⟨z, hz⟩ : ∃ z, z = Value.string (str (List.replicate 32 0)) := ⟨_, rfl⟩
  have hcells : ∀ (i : Nat), i < n → (List.replicate i z ++ List.replicate (n - i) (Value.string ⟨#[]⟩)).set i z = List.replicate (i + 1) z ++ List.replicate (n - (i + 1)) (Value.string ⟨#[]⟩) := by
    intro i hi
    have : n - i = (n - (i + 1)) + 1 := by omega
    rw [this, List.replicate_succ, List.replicate_succ']
    simp
  obtain ⟨w2, hw2⟩ : ∃ w2, w2 = w1.alloc (.cells (List.replicate n (Value.string ⟨#[]⟩)).toArray 9) := ⟨_, rfl⟩
  have hk2 : Kp [] w1 w2 := by rw [hw2]; exact (Kp.refl [] w1).alloc _
  have hO : w2.heap[o]? = some (.cells (List.replicate n (Value.string ⟨#[]⟩)).toArray 9) := by rw [hw2, hoe]; exact heap_new
  have hmk : ∀ K : Value → World → Prop, mkG 9 1 16 (zc Try.prog 9) (.int .i64 n) (.int .i64 n) w1 K = K (.slice (some ⟨o, 0, none⟩) n n) w2 := by
    intro K
    have : (0 ≤ (n : Int) ∧ (n : Int) ≤ n ∧ (16 : Int) * n ≤ 2 ^ 48 ∧ (n : Int) < 2 ^ 63) := by omega
    simp [mkG, hrep, hw2, hoe]
    intro _
    omega
  rw [hmk]
  unfold ref03_New_s3 ref03_New_L2
  have hoa : ¬ o = a := by omega
  have hko : w.heap.size ≤ o := by have := hk.size; omega
  refine loop_inv (fun m xs wi => ∃ i, i ≤ n ∧ m = n - i ∧ xs = [.int .i64 n, .pointer (some ⟨a, 0, none⟩), .slice (some ⟨o, 0, none⟩) n n, .int .i64 (i : Nat)] ∧ Kp [] w wi ∧
    wi.heap[a]? = some (.cells #[.slice none 0 0, .slice none 0 0, .int .i64 0, .bool false] 39) ∧ wi.heap[o]? = some (.cells (List.replicate i z ++ List.replicate (n - i) (Value.string ⟨#[]⟩)).toArray 9))
    ?_ (m := n) ⟨0, by omega, rfl, rfl, hk.trans' hk2, hk2.get hA (by simp), by simpa using hO⟩
  rintro m N xs wi ⟨i, hi, rfl, rfl, hki, hAi, hOi⟩ hN
  have loi : o < wi.heap.size := live_of hOi
  have lai : a < wi.heap.size := live_of hAi
  simp only [ref03_New_L2F, ref03_New_b1, bq_lss, bV_b]
  refine ⟨fun hlt => ?_, fun hge => ?_⟩
  · have hlt : i < n := by simp at hlt; omega
    have hiw : IntKind.i64.wrap ((i : Int) + 1) = ((i + 1 : Nat) : Int) := by rw [w64 (by omega) (by omega)]; simp
    have hlen : (u8c (List.replicate 32 0)).length = 32 := by simp
    have ht : List.take 32 (u8c (List.replicate 32 0)) = u8c (List.replicate 32 0) := List.take_of_length_le (by simp)
    have hb := bytesOf_u8c (List.replicate 32 0)
    obtain ⟨w3, hw3⟩ : ∃ w3, w3 = wi.alloc (.cells (u8c (List.replicate 32 0)).toArray 5) := ⟨_, rfl⟩
    have hk3 : Kp [] wi w3 := by rw [hw3]; exact (Kp.refl [] wi).alloc _
    have hm2 : ∀ K : Value → World → Prop, (mkG 5 1 1 (zc Try.prog 5) (.int .i64 32) (.int .i64 32) wi fun t w => cvBS t w fun u => K u w) = K z w3 := by
      intro K
      obtain ⟨C, hC⟩ : ∃ C, C = u8c (List.replicate 32 0) := ⟨_, rfl⟩
      rw [← hC] at hlen ht hb hw3
      simp [-getElem?_pos, -Array.getElem?_eq_getElem, -List.reduceReplicate, mkG, rep5, cvBS, heap_new, ← hC, hlen, ht, hb, hw3, hz, str]
    obtain ⟨K', hK'⟩ : ∃ K' : Value → World → Prop, K' = fun t23 w => ia 1 (.slice (some ⟨o, 0, none⟩) n n) (.int .i64 i) fun t24 => st1 t24 t23 w fun w => qG Try.prog (bq .add 3 (.tmp 18) (.const (.int .i64 1)) (.int .i64 i) (.int .i64 1)) w fun t19 => N [.int .i64 n, .pointer (some ⟨a, 0, none⟩), .slice (some ⟨o, 0, none⟩) n n, t19] w := ⟨_, rfl⟩
    have h5 := hm2 K'
    rw [hK'] at h5
    rw [h5]
    have hO3 := hk3.get hOi (by simp)
    have hA3 := hk3.get hAi (by simp)
    have hlC : (List.replicate i z ++ List.replicate (n - i) (Value.string ⟨#[]⟩)).length = n := by simp; omega
    have hset := hcells i hlt
    obtain ⟨C, hC⟩ : ∃ C, C = List.replicate i z ++ List.replicate (n - i) (Value.string ⟨#[]⟩) := ⟨_, rfl⟩
    rw [← hC] at hO3 hset hlC
    have hoz : one z = true := by rw [hz]; rfl
    have hilt : (i : Int) < n := by omega
    simp [-getElem?_pos, -Array.getElem?_eq_getElem, -List.length_flatten, List.getElem?_cons_zero, List.getElem?_cons_succ, hO3, hlC, hoz, hiw, hilt, hlt, hset]
    refine hN (n - (i + 1)) _ _ (by omega) ⟨i + 1, by omega, rfl, rfl, (hki.trans' hk3).setBlk (.inr hko) _, by rw [heap_ne hoa]; exact hA3, heap_self (live_of hO3)⟩
  · have hie : i = n := by simp at hge; omega
    subst hie
    have hkb : ∀ ob, Kp [] w (setBlk wi a ob) := fun ob => hki.setBlk (.inr ha) _
    have hfin := hK (setBlk wi a (.cells #[.slice (some ⟨o, 0, none⟩) i i, .slice none 0 0, .int .i64 (-1), .bool false] 39)) (.agg #[.slice (some ⟨o, 0, none⟩) i i, .slice none 0 0, .int .i64 (-1), .bool false]) ([o] ++ [])
      ⟨.slice (some ⟨o, 0, none⟩) i i, .slice none 0 0, [o], [], rfl, by
        have hF : ((DK.fresh i).sure.map strV).flatten = List.replicate i z := by
          have h1 : (DK.fresh i).sure.map strV = List.replicate i [z] := by simp [DK.fresh, secs0, strV, hz]
          rw [h1]; simp
        have hL : ((DK.fresh i).sure.map strV).length = i := by simp [DK.fresh, secs0]
        refine .inr ⟨o, (DK.fresh i).sure.map strV, 9, by rw [hL], rfl, ?_, by simp [strV], List.take_length, by omega⟩
        rw [heap_ne (fun h => hoa h.symm), hOi, hF]
        simp, .inl ⟨rfl, rfl, rfl⟩, rfl⟩ (hkb _) (fun y hy => by simp at hy; omega)
    simp only [ref03_New_s0, bld39 (one_sl) one_i]
    simp [-getElem?_pos, -Array.getElem?_eq_getElem, -List.length_flatten, List.getElem?_cons_zero, List.getElem?_cons_succ, hAi, heap_self, live_of hAi, -Array.all_eq_true, lvS, spl4, one4, one_i, one_b]
    exact hfin
end Go.Proofs

/- DiskPlays: both disks go on alike. -/
set_option linter.unusedVariables false
set_option linter.unusedSimpArgs false
namespace Go.Proofs
open Go Go.Q
theorem syn_write {d : DK} (h : Syn d) (at_ : Int) (s : List UInt8) : Syn (d.write at_ s).1 ∧ (d.write at_ s).1.l.length ≤ d.l.length + 1 := by
  obtain ⟨b1, b2⟩ := burns_same d
  have b3 : d.burns.1.now = d.now := by unfold DK.burns; split <;> rfl
  unfold DK.write
  split
  · split
    · refine ⟨?_, by simp⟩
      show d.now.set _ _ = applyAll d.burns.1.sure (d.l ++ _)
      rw [b1, applyAll_snoc, ← h]
    · exact ⟨by show d.burns.1.now = applyAll d.burns.1.sure d.burns.1.l; rw [b1, b2, b3]; exact h, by show d.burns.1.l.length ≤ _; rw [b2]; omega⟩
  · exact ⟨h, Nat.le_succ _⟩
theorem syn_flush {d : DK} (h : Syn d) : Syn d.flush.1 ∧ d.flush.1.l.length ≤ d.l.length := by
  obtain ⟨b1, b2⟩ := burns_same d
  have b3 : d.burns.1.now = d.now := by unfold DK.burns; split <;> rfl
  unfold DK.flush
  split
  · exact ⟨by show d.burns.1.now = applyAll (applyAll d.sure d.l) []; rw [b3, h]; rfl, by simp⟩
  · exact ⟨by show d.burns.1.now = applyAll d.burns.1.sure d.burns.1.l; rw [b1, b2, b3]; exact h, by show d.burns.1.l.length ≤ _; rw [b2]; omega⟩
theorem syn_crash (d : DK) (ks : List Int) : Syn (d.crash ks) ∧ (d.crash ks).l.length = 0 := ⟨rfl, rfl⟩
/-- both disks, the document's in a variable at 'a' -/
structure PlayAt (w0 w : World) (b a : Nat) (d : DK) (S SR : List Nat) (sv lv : Value) : Prop where
  own : Own w0 w b d S
  ref : RefAt w (.agg (qc sv lv d)) d SR
  var : w.heap[a]? = some (.cells (qc sv lv d) 39)
  apart : ∀ y ∈ SR, y ∉ S
  aS : a ∉ S
  aR : a ∉ SR
  a0 : w0.heap.size ≤ a
  syn : Syn d
theorem RefAt.lt {w : World} {x : Value} {d : DK} {S : List Nat} (h : RefAt w x d S) : ∀ y ∈ S, y < w.heap.size := by
  obtain ⟨sv, lv, SS, SL, h1, h2, h3, rfl⟩ := h
  intro y hy
  rcases List.mem_append.1 hy with h | h
  · exact h2.lt y h
  · exact h3.lt y h
theorem RefAt.form {w : World} {x : Value} {d : DK} {S : List Nat} (h : RefAt w x d S) : ∃ sv lv, x = .agg (qc sv lv d) ∧ one sv = true ∧ one lv = true := by
  obtain ⟨sv, lv, SS, SL, h1, h2, h3, rfl⟩ := h
  exact ⟨sv, lv, h1, rows_one h2, rows_one h3⟩
theorem PlayAt.keep {w0 w w' : World} {b a : Nat} {d : DK} {S SR : List Nat} {sv lv : Value} (h : PlayAt w0 w b a d S SR sv lv) (hk : Kp [] w w') : PlayAt w0 w' b a d S SR sv lv :=
  ⟨h.own.keep hk, h.ref.keep hk (by simp), hk.get h.var (by simp), h.apart, h.aS, h.aR, h.a0, h.syn⟩
/-- a call of the disk, then one of the document's, whose disk is laid into the variable -/
theorem PlayAt.next {w0 w w1 w2 : World} {b a : Nat} {d d' : DK} {S SR S' SR' : List Nat} {sv lv sv' lv' : Value} (h : PlayAt w0 w b a d S SR sv lv) (o : Own w0 w1 b d' S') (hk : Kp S w w1) (hS : ∀ y ∈ S', y ∈ S ∨ w.heap.size ≤ y)
    (r : RefAt w2 (.agg (qc sv' lv' d')) d' SR') (hk2 : Kp [] w1 w2) (hR : ∀ y ∈ SR', y ∈ SR ∨ w1.heap.size ≤ y) (hs : Syn d') : PlayAt w0 (setBlk w2 a (.cells (qc sv' lv' d') 39)) b a d' S' SR' sv' lv' := by
  have ha : a < w.heap.size := lt_of_blk h.var
  have hsz := hk.size
  have hsz2 := hk2.size
  have hSa : a ∉ S' := fun hm => by rcases hS a hm with h1 | h1; exact h.aS h1; omega
  have hRa : a ∉ SR' := fun hm => by rcases hR a hm with h1 | h1; exact h.aR h1; omega
  have hka : Kp [a] w2 (setBlk w2 a (.cells (qc sv' lv' d') 39)) := (Kp.refl _ w2).setBlk (.inl (by simp)) _
  have hA2 : a < w2.heap.size := by omega
  refine ⟨⟨(o.at_.keep hk2 (by simp)).keep hka fun y hy => by simp; intro hh; exact hSa (hh ▸ hy), (o.kp.trans' hk2).setBlk (.inr h.a0) _, o.new⟩,
    r.keep hka fun y hy => by simp; intro hh; exact hRa (hh ▸ hy), heap_self hA2, ?_, hSa, hRa, h.a0, hs⟩
  intro y hy hyS
  have hlS : y < w1.heap.size := by
    obtain ⟨bs, bn, lv, SL, T, Ts, Tn, rfl, hd⟩ := o.at_
    exact hd.live y hyS
  rcases hR y hy with h1 | h1
  · rcases hS y hyS with h2 | h2
    · exact h.apart y h1 h2
    · have := h.ref.lt y h1; omega
  · omega
/-- a call that came in -/
structure ActIs (w : World) (r : List Value) (kind at_ : Int) (c : UInt8) (s : List UInt8) (kv : Value) (ks : List Int) (SK : List Nat) : Prop where
  row : r = [.int .i64 kind, .int .i64 at_, .int .u8 c.toNat, .string (str s), kv]
  hk : IntsAt w kv ks SK
  lt : ∀ x ∈ SK, x < w.heap.size
  at64 : at_ < 9223372036854775808
  ks64 : ∀ x ∈ ks, -9223372036854775808 ≤ x ∧ x < 9223372036854775808
theorem zc43 : zc Try.prog 43 = #[.int .i64 0, .int .i64 0, .int .u8 0, .string ⟨#[]⟩, .slice none 0 0] := by kernel_rfl
section
variable {w0 : World} {b a : Nat} {R : Value → World → Prop} {N : List Value → World → Prop} {x1 : Value} {i : Nat}
/-- what is asked behind each call -/
theorem plays_tail (hR : ∀ w', Kp [] w0 w' → R (.bool true) w') (hi : i < 80) {w : World} {d : DK} {S SR : List Nat} {sv lv : Value} (p : PlayAt w0 w b a d S SR sv lv) (g : Int)
    (hN : ∀ w' , PlayAt w0 w' b a d S SR sv lv → N [x1, .pointer (some ⟨b, 0, none⟩), .pointer (some ⟨a, 0, none⟩), .int .i64 ((i + 1 : Nat) : Int)] w') :
    law03_DiskPlays_s2 R N x1 (.pointer (some ⟨b, 0, none⟩)) (.pointer (some ⟨a, 0, none⟩)) (.int .i64 i) (.int .i64 g) (.int .i64 g) w := by
  have hiw : IntKind.i64.wrap ((i : Int) + 1) = ((i + 1 : Nat) : Int) := by rw [w64 (by omega) (by omega)]; simp
  have p1 := p.keep (Kp.refl [] w).drew
  have hv := p1.var
  simp only [qc] at hv
  obtain ⟨sv', lv', SS, SL, hx, hs, hl, _⟩ := p1.ref
  obtain ⟨rfl, rfl⟩ : sv = sv' ∧ lv = lv' := by simpa [qc] using hx
  have hll : ∀ K : Value → Prop, lenL lv K = K (.int .i64 d.l.length) := by intro K; rw [hl.rd.lenL]; simp
  have ok : d.Ok := by obtain ⟨bs, bn, lv, SL, T, Ts, Tn, rfl, hd⟩ := p1.own.at_; exact hd.ok
  have hsl : ∀ K : Value → Prop, lenL sv K = K (.int .i64 d.now.length) := by intro K; rw [hs.rd.lenL]; simp [ok.len]
  unfold law03_DiskPlays_s2
  simp only [heap_drew] at hv
  simp [-getElem?_pos, -Array.getElem?_eq_getElem, -List.length_flatten, List.getElem?_cons_zero, List.getElem?_cons_succ, hv]
  refine Off_spec p1.own.at_ ?_
  simp [-getElem?_pos, -Array.getElem?_eq_getElem, -List.length_flatten, List.getElem?_cons_zero, List.getElem?_cons_succ, hv, hll]
  refine Waits_spec p1.own.at_ ?_
  simp [-getElem?_pos, -Array.getElem?_eq_getElem, -List.length_flatten, List.getElem?_cons_zero, List.getElem?_cons_succ, hv, hll, hsl]
  refine Size_spec p1.own.at_ ?_
  simp [-getElem?_pos, -Array.getElem?_eq_getElem, -List.length_flatten, List.getElem?_cons_zero, List.getElem?_cons_succ, hv, hsl, law03_DiskPlays_s1, hiw]
  exact hN _ p1
theorem st_var {w : World} {sv lv : Value} {d : DK} {old : Array Value} (hv : w.heap[a]? = some (.cells old 39)) (hs : old.size = 4) (h1 : one sv = true) (h2 : one lv = true) {K : World → Prop} :
    stn 4 (.pointer (some ⟨a, 0, none⟩)) (.agg (qc sv lv d)) w K = K (setBlk w a (.cells (qc sv lv d) 39)) := by
  have hall : (qc sv lv d).all Q.one = true := by rw [qc, one4, h1, h2]; rfl
  have hsz : (qc sv lv d).size = 4 := rfl
  rw [stn_p, wrN_mk, hv]
  have hsp : splice old 0 (qc sv lv d) = qc sv lv d := splice_all (by rw [hs, hsz])
  apply propext
  constructor
  · rintro ⟨_, _, hk⟩
    rw [hsp] at hk
    exact hk
  · intro hk
    refine ⟨hsz, ⟨by omega, by rw [okFr0]; trivial, hall⟩, ?_⟩
    rw [hsp]; exact hk
theorem ld_var {w : World} {sv lv : Value} {d : DK} (hv : w.heap[a]? = some (.cells (qc sv lv d) 39)) {K : Value → Prop} : ldn 4 (.pointer (some ⟨a, 0, none⟩)) w K = K (.agg (qc sv lv d)) := by
  have hsz : (qc sv lv d).size = 4 := rfl
  rw [ldn_p, rdN_mk, hv]
  have : (qc sv lv d).extract 0 (0 + 4) = qc sv lv d := rfl
  simp only [this, hsz]
  simp
theorem PlayAt.ok {w : World} {d : DK} {S SR : List Nat} {sv lv : Value} (p : PlayAt w0 w b a d S SR sv lv) : d.Ok := by
  obtain ⟨bs, bn, lv, SL, T, Ts, Tn, rfl, hd⟩ := p.own.at_; exact hd.ok
theorem plays_s3 (hR : ∀ w', Kp [] w0 w' → R (.bool true) w') (hi : i < 80) {w : World} {d : DK} {S SR : List Nat} {sv lv : Value} (p : PlayAt w0 w b a d S SR sv lv) (hl : d.l.length ≤ i)
    {ac : Nat} {kind at_ : Int} {c : Value} {s : Value} {kv : Value} (hac : w.heap[ac]? = some (.cells #[.int .i64 kind, .int .i64 at_, c, s, kv] 43)) (hacS : ac ∉ S)
    (hN : ∀ w' d' S' SR' sv' lv', PlayAt w0 w' b a d' S' SR' sv' lv' → d'.l.length ≤ i + 1 → N [x1, .pointer (some ⟨b, 0, none⟩), .pointer (some ⟨a, 0, none⟩), .int .i64 ((i + 1 : Nat) : Int)] w') (s' : List UInt8) :
    law03_DiskPlays_s3 R N x1 (.pointer (some ⟨b, 0, none⟩)) (.pointer (some ⟨a, 0, none⟩)) (.int .i64 i) (.pointer (some ⟨ac, 0, none⟩)) (.string (str s')) w := by
  unfold law03_DiskPlays_s3
  simp [-getElem?_pos, -Array.getElem?_eq_getElem, -List.length_flatten, List.getElem?_cons_zero, List.getElem?_cons_succ, hac, -ldn_p, -stn_p]
  refine own_write p.own (by omega) at_ s' fun w1 S1 o1 hk1 hS1 => ?_
  have hac1 := hk1.get hac hacS
  have hv1 := hk1.get p.var p.aS
  rw [ld_var hv1]
  simp [-getElem?_pos, -Array.getElem?_eq_getElem, -List.length_flatten, List.getElem?_cons_zero, List.getElem?_cons_succ, hac1, -stn_p]
  refine ref_Write (p.ref.keep hk1 p.apart) p.ok (by omega) at_ s' fun w2 x' SR' r' hk2 hR2 => ?_
  have hv2 := hk2.get hv1 (by simp)
  obtain ⟨sv', lv', rfl, h1, h2⟩ := r'.form
  rw [ex0, ex1, st_var hv2 rfl h1 h2]
  obtain ⟨hs1, hs2⟩ := syn_write p.syn at_ s'
  have p' := p.next o1 hk1 hS1 r' hk2 hR2 hs1
  exact plays_tail hR hi p' _ fun w' hp => hN w' _ _ _ _ _ hp (by omega)
theorem str_nil : (⟨#[]⟩ : ByteArray) = str [] := rfl
theorem str_inj {x y : List UInt8} : (str x = str y) = (x = y) := by
  apply propext
  constructor
  · intro h
    have := congrArg (fun b : ByteArray => b.data.toList) h
    simpa [str] using this
  · intro h; rw [h]
theorem plays_s8 (hR : ∀ w', Kp [] w0 w' → R (.bool true) w') (hi : i < 80) {w : World} {d : DK} {S SR : List Nat} {sv lv : Value} (p : PlayAt w0 w b a d S SR sv lv) (hl : d.l.length ≤ i)
    {r : List Value} {ac : Nat} {kind at_ : Int} {c : UInt8} {s : List UInt8} {kv : Value} {ks : List Int} {SK : List Nat} (act : ActIs w0 r kind at_ c s kv ks SK) (hac : w.heap[ac]? = some (.cells #[.int .i64 kind, .int .i64 at_, .int .u8 c.toNat, .string (str s), kv] 43)) (hacS : ac ∉ S)
    (hN : ∀ w' d' S' SR' sv' lv', PlayAt w0 w' b a d' S' SR' sv' lv' → d'.l.length ≤ i + 1 → N [x1, .pointer (some ⟨b, 0, none⟩), .pointer (some ⟨a, 0, none⟩), .int .i64 ((i + 1 : Nat) : Int)] w') :
    law03_DiskPlays_s8 R N x1 (.pointer (some ⟨b, 0, none⟩)) (.pointer (some ⟨a, 0, none⟩)) (.int .i64 i) (.pointer (some ⟨ac, 0, none⟩)) (.int .i64 0) (.int .i64 0) w := by
  have hks := act.hk.keep p.own.kp (by simp)
  have hdis : ∀ x ∈ SK, x ∉ S := fun x hx hxS => by have := act.lt x hx; have := p.own.new x hxS; omega
  unfold law03_DiskPlays_s8
  simp [-getElem?_pos, -Array.getElem?_eq_getElem, -List.length_flatten, List.getElem?_cons_zero, List.getElem?_cons_succ, hac, law03_DiskPlays_s7, law03_DiskPlays_s6]
  refine ⟨fun h1 => ?_, fun h1 => ?_⟩
  · unfold law03_DiskPlays_s4
    simp [-getElem?_pos, -Array.getElem?_eq_getElem, -List.length_flatten, List.getElem?_cons_zero, List.getElem?_cons_succ, hac, str_nil, str_inj]
    refine ⟨fun he => ?_, fun he => plays_s3 hR hi p hl hac hacS hN s⟩
    refine filled_spec c fun w1 hk1 => ?_
    exact plays_s3 hR hi (p.keep hk1) hl (hk1.get hac (by simp)) hacS hN _
  · unfold law03_DiskPlays_s5
    simp [-getElem?_pos, -Array.getElem?_eq_getElem, -List.length_flatten, List.getElem?_cons_zero, List.getElem?_cons_succ, hac, -ldn_p, -stn_p]
    refine ⟨fun h2 => ?_, fun h2 => ⟨fun h3 => ?_, fun h3 => ⟨fun h4 => ?_, fun h4 => ?_⟩⟩⟩
    · refine Read_spec p.own.at_ at_ ?_
      rw [ex0, ex1, ld_var p.var]
      simp [-getElem?_pos, -Array.getElem?_eq_getElem, -List.length_flatten, List.getElem?_cons_zero, List.getElem?_cons_succ, hac]
      refine ref_Read p.ref p.ok p.syn (by omega) at_ fun w1 hk1 => ?_
      simp [-getElem?_pos, -Array.getElem?_eq_getElem, -List.length_flatten, List.getElem?_cons_zero, List.getElem?_cons_succ, ]
      exact plays_tail hR hi (p.keep hk1) _ fun w' hp => hN w' _ _ _ _ _ hp (by omega)
    · refine own_flush p.own (by omega) fun w1 o1 hk1 => ?_
      have hv1 := hk1.get p.var p.aS
      rw [ld_var hv1]
      refine ref_Flush (p.ref.keep hk1 p.apart) p.ok (by omega) fun w2 x' SR' r' hk2 hR2 => ?_
      have hv2 := hk2.get hv1 (by simp)
      obtain ⟨sv', lv', rfl, h1, h2⟩ := r'.form
      rw [ex0, ex1, st_var hv2 rfl h1 h2]
      obtain ⟨hs1, hs2⟩ := syn_flush p.syn
      have p' := p.next o1 hk1 (fun _ h => .inl h) r' hk2 hR2 hs1
      exact plays_tail hR hi p' _ fun w' hp => hN w' _ _ _ _ _ hp (by omega)
    · refine own_fuse p.own at_ act.at64 fun w1 o1 hk1 => ?_
      have hac1 := hk1.get hac hacS
      have hv1 := hk1.get p.var p.aS
      rw [ld_var hv1]
      simp [-getElem?_pos, -Array.getElem?_eq_getElem, -List.length_flatten, List.getElem?_cons_zero, List.getElem?_cons_succ, hac1, -stn_p]
      refine ref_Fuse (p.ref.keep hk1 p.apart) at_ act.at64 fun w2 x' r' hk2 => ?_
      have hv2 := hk2.get hv1 (by simp)
      obtain ⟨sv', lv', rfl, h1, h2⟩ := r'.form
      rw [st_var hv2 rfl h1 h2]
      have p' := p.next o1 hk1 (fun _ h => .inl h) r' hk2 (fun _ h => .inl h) (show Syn _ from p.syn)
      exact plays_tail hR hi p' _ fun w' hp => hN w' _ _ _ _ _ hp (show d.l.length ≤ i + 1 by omega)
    · refine own_crash p.own (by omega) hks hdis act.ks64 fun w1 o1 hk1 => ?_
      have hac1 := hk1.get hac hacS
      have hv1 := hk1.get p.var p.aS
      rw [ld_var hv1]
      simp [-getElem?_pos, -Array.getElem?_eq_getElem, -List.length_flatten, List.getElem?_cons_zero, List.getElem?_cons_succ, hac1, -stn_p]
      refine ref_Crash (p.ref.keep hk1 p.apart) p.ok (by omega) (hks.keep hk1 hdis) fun w2 x' SR' r' hk2 hR2 => ?_
      have hv2 := hk2.get hv1 (by simp)
      obtain ⟨sv', lv', rfl, h1, h2⟩ := r'.form
      rw [st_var hv2 rfl h1 h2]
      obtain ⟨hs1, hs2⟩ := syn_crash d ks
      have p' := p.next o1 hk1 (fun _ h => .inl h) r' hk2 hR2 hs1
      exact plays_tail hR hi p' _ fun w' hp => hN w' _ _ _ _ _ hp (by omega)
/-- what is told of the calls that came in -/
def ActsAt (w : World) (v : Value) (rows : List (List Value)) (SA : List Nat) : Prop :=
  ArgAt w v 5 rows SA ∧ (∀ x ∈ SA, x < w.heap.size) ∧ ∀ r ∈ rows, ∃ kind at_ c s kv ks SK, ActIs w r kind at_ c s kv ks SK
theorem plays_loop (hR : ∀ w', Kp [] w0 w' → R (.bool true) w') {rows : List (List Value)} {SA : List Nat} (acts : ActsAt w0 x1 rows SA) {w : World} {d : DK} {S SR : List Nat} {sv lv : Value} (p : PlayAt w0 w b a d S SR sv lv) (hl : d.l.length = 0) :
    law03_DiskPlays_L11 R x1 (.pointer (some ⟨b, 0, none⟩)) (.pointer (some ⟨a, 0, none⟩)) (.int .i64 0) w := by
  unfold law03_DiskPlays_L11
  refine loop_inv (fun m xs w => ∃ (i : Nat) (d : DK) (S SR : List Nat) (sv lv : Value), i ≤ 80 ∧ m = 80 - i ∧ xs = [x1, .pointer (some ⟨b, 0, none⟩), .pointer (some ⟨a, 0, none⟩), .int .i64 (i : Nat)] ∧ PlayAt w0 w b a d S SR sv lv ∧ d.l.length ≤ i)
    ?_ (m := 80) ⟨0, d, S, SR, sv, lv, by omega, rfl, rfl, p, by omega⟩
  rintro m N xs w ⟨i, d, S, SR, sv, lv, hi, rfl, rfl, p, hl⟩ hN
  obtain ⟨harg, hlt, hrow⟩ := acts
  have hend : ∀ w', Kp [] w0 w' → law03_DiskPlays_s0 R w' := fun w' hk => by
    unfold law03_DiskPlays_s0
    exact awake_spec fun w'' hk' => hR w'' (hk.trans' hk')
  have harg' := harg.keep p.own.kp (by simp)
  simp only [law03_DiskPlays_L11F, law03_DiskPlays_s10, harg'.lenL, bq_lss, bV_b]
  refine ⟨fun h1 => ⟨fun h2 => ?_, fun _ => hend _ p.own.kp⟩, fun _ => hend _ p.own.kp⟩
  have h1 : i < rows.length := by simpa using h1
  have h2 : i < 80 := by simp at h2; omega
  obtain ⟨kind, at_, c, s, kv, ks, SK, act⟩ := hrow _ (List.getElem_mem h1)
  obtain ⟨bl, o, T, cs, fr, hbl, hheap, hia, hle, hext, hcell⟩ := harg'.at h1
  rw [act.row] at hext
  obtain ⟨w1, hw1⟩ : ∃ w1, w1 = w.alloc (.cells #[.int .i64 kind, .int .i64 at_, .int .u8 c.toNat, .string (str s), kv] 43) := ⟨_, rfl⟩
  have hk1 : Kp [] w w1 := by rw [hw1]; exact (Kp.refl [] w).alloc _
  obtain ⟨ac, hac⟩ : ∃ ac, ac = w.heap.size := ⟨_, rfl⟩
  have hA : w1.heap[ac]? = some (.cells #[.int .i64 kind, .int .i64 at_, .int .u8 c.toNat, .string (str s), kv] 43) := by rw [hw1, hac]; exact heap_new
  have hacS : ac ∉ S := fun hm => by
    have : ac < w.heap.size := by
      obtain ⟨bs, bn, lv, SL, T, Ts, Tn, rfl, hd⟩ := p.own.at_
      exact hd.live ac hm
    omega
  have hkv1 : Q.one kv = true := by
    obtain ⟨ka, kc, hkv⟩ := act.hk.len
    rw [hkv]; rfl
  have hspl : splice #[.int .i64 0, .int .i64 0, .int .u8 0, .string ⟨#[]⟩, .slice none 0 0] 0 #[.int .i64 kind, .int .i64 at_, .int .u8 c.toNat, .string (str s), kv] = #[.int .i64 kind, .int .i64 at_, .int .u8 c.toNat, .string (str s), kv] := rfl
  have hall : ∀ (i : Nat) (x : i < 5), Q.one ([Value.int .i64 kind, .int .i64 at_, .int .u8 c.toNat, .string (str s), kv] : List Value)[i] = true := by
    intro i hi
    match i, hi with
    | 0, _ => rfl
    | 1, _ => rfl
    | 2, _ => rfl
    | 3, _ => rfl
    | 4, _ => exact hkv1
  unfold law03_DiskPlays_s9
  simp [-getElem?_pos, -Array.getElem?_eq_getElem, -List.length_flatten, List.getElem?_cons_zero, List.getElem?_cons_succ, hia, hheap, hle, hext, zc43, heap_new, hspl]
  rw [← hw1, ← hac]
  refine ⟨hall, fun _ => awake_spec fun w' hk' => hR w' ((p.own.kp.trans' hk1).trans' hk'), fun _ => ?_⟩
  exact plays_s8 hR h2 (p.keep hk1) hl act hA hacS fun w' d' S' SR' sv' lv' p' hl' => hN (80 - (i + 1)) _ _ (by omega) ⟨i + 1, d', S', SR', sv', lv', by omega, rfl, rfl, p', hl'⟩
theorem plays_call {n : Int} (hR : ∀ w', Kp [] w0 w' → R (.bool true) w') {rows : List (List Value)} {SA : List Nat} (acts : ActsAt w0 x1 rows SA) : callG Try.prog 4 #[.int .i64 n, x1] w0 R := by
  refine law03_DiskPlays_call ?_
  simp only [law03_DiskPlays, law03_DiskPlays_s14]
  by_cases hn : n < 1 ∨ 4096 < n
  · refine New_bad (by omega) ?_
    simp [-getElem?_pos, -Array.getElem?_eq_getElem, -List.length_flatten, List.getElem?_cons_zero, List.getElem?_cons_succ, -newG_k, -stn_p]
    have hk1 : Kp [] w0 w0 := Kp.refl _ _
    refine ref_New_bad hn fun w2 hk2 => ?_
    rw [ex0, ex1, newG_k]
    obtain ⟨w3, hw3⟩ : ∃ w3, w3 = w2.alloc (.cells (zc Try.prog 39) 39) := ⟨_, rfl⟩
    have hk3 : Kp [] w2 w3 := by rw [hw3]; exact (Kp.refl [] w2).alloc _
    have hA : w3.heap[w2.heap.size]? = some (.cells (zc Try.prog 39) 39) := by rw [hw3]; exact heap_new
    have hlt : w2.heap.size < w3.heap.size := lt_of_blk hA
    rw [← hw3]
    have hq : (#[.slice none 0 0, .slice none 0 0, .int .i64 0, .bool false] : Array Value) = qc (.slice none 0 0) (.slice none 0 0) { sure := [], now := [], l := [], fuse := 0, off := false } := rfl
    rw [hq, st_var hA (by rw [zc39]; rfl) rfl rfl]
    have hk4 : Kp [] w0 (setBlk w3 w2.heap.size (.cells (qc (.slice none 0 0) (.slice none 0 0) { sure := [], now := [], l := [], fuse := 0, off := false }) 39)) :=
      ((hk1.trans' hk2).trans' hk3).setBlk (.inr (by have := (hk1.trans' hk2).size; exact this)) _
    simp [-getElem?_pos, -Array.getElem?_eq_getElem, -List.length_flatten, List.getElem?_cons_zero, List.getElem?_cons_succ, law03_DiskPlays_s13]
    exact awake_spec fun w' hk' => hR w' (hk4.trans' hk')
  · obtain ⟨m, rfl⟩ : ∃ m : Nat, n = m := ⟨n.toNat, by omega⟩
    refine own_new (n := m) (Kp.refl [] w0) (by omega) (by omega) fun w1 b S o1 hk1 => ?_
    simp [-getElem?_pos, -Array.getElem?_eq_getElem, -List.length_flatten, List.getElem?_cons_zero, List.getElem?_cons_succ, -newG_k, -stn_p]
    refine ref_New (n := m) (by omega) (by omega) fun w2 x' SR r2 hk2 hSR => ?_
    rw [ex0, ex1, newG_k]
    obtain ⟨w3, hw3⟩ : ∃ w3, w3 = w2.alloc (.cells (zc Try.prog 39) 39) := ⟨_, rfl⟩
    have hk3 : Kp [] w2 w3 := by rw [hw3]; exact (Kp.refl [] w2).alloc _
    have hA : w3.heap[w2.heap.size]? = some (.cells (zc Try.prog 39) 39) := by rw [hw3]; exact heap_new
    have hlt : w2.heap.size < w3.heap.size := lt_of_blk hA
    rw [← hw3]
    obtain ⟨sv, lv, rfl, h1, h2⟩ := r2.form
    rw [st_var hA (by rw [zc39]; rfl) h1 h2]
    obtain ⟨a, ha⟩ : ∃ a, a = w2.heap.size := ⟨_, rfl⟩
    rw [← ha] at hA hlt ⊢
    have hs1 := o1.kp.size
    have hs2 := hk2.size
    have hka : Kp [a] w3 (setBlk w3 a (.cells (qc sv lv (DK.fresh m)) 39)) := (Kp.refl _ w3).setBlk (.inl (by simp)) _
    have hSlt : ∀ y ∈ S, y < w1.heap.size := fun y hy => by
      obtain ⟨bs, bn, lv, SL, T, Ts, Tn, rfl, hd⟩ := o1.at_
      exact hd.live y hy
    have hkk : Kp [] w1 w3 := hk2.trans' hk3
    have p : PlayAt w0 (setBlk w3 a (.cells (qc sv lv (DK.fresh m)) 39)) b a (DK.fresh m) S SR sv lv :=
      ⟨⟨(o1.at_.keep hkk (by simp)).keep hka fun y hy => by have := hSlt y hy; simp; omega, (o1.kp.trans' hkk).setBlk (.inr (by omega)) _, o1.new⟩,
        (r2.keep hk3 (by simp)).keep hka fun y hy => by have := r2.lt y hy; simp; omega, heap_self hlt, fun y hy hyS => by have := hSR y hy; have := hSlt y hyS; omega,
        fun hm => by have := hSlt a hm; omega, fun hm => by have := r2.lt a hm; omega, by omega, rfl⟩
    simp [-getElem?_pos, -Array.getElem?_eq_getElem, -List.length_flatten, List.getElem?_cons_zero, List.getElem?_cons_succ, law03_DiskPlays_s13]
    refine ⟨fun _ => awake_spec fun w' hk' => hR w' (p.own.kp.trans' hk'), fun _ => ?_⟩
    unfold law03_DiskPlays_s12
    exact plays_loop hR acts p rfl
end
end Go.Proofs

/- DiskPlays: what the statement's own reading says of the calls that came in. -/
set_option linter.unusedVariables false
set_option linter.unusedSimpArgs false
namespace Go.Proofs
open Go Go.Q
/-- an argument that the statement's own reading took -/
def Taken (w : World) (t : TypeId) (v : Value) : Prop :=
  ∃ (H : Type) (enc : TypeId × Value → H) (fuel : Nat) (x : DataW H × List MemPlace), DataW.trod enc Try.prog w 0 (fun _ => true) true fuel t [v] = some x
theorem ints_taken {H : Type} {enc : TypeId × Value → H} {w : World} {fuel : Nat} {v : Value} {x : DataW H × List MemPlace} (h : DataW.trod enc Try.prog w 0 (fun _ => true) true fuel 22 [v] = some x) :
    ∃ ks SK, IntsAt w v ks SK ∧ (∀ b ∈ SK, b < w.heap.size) ∧ ∀ x ∈ ks, -9223372036854775808 ≤ x ∧ x < 9223372036854775808 := by
  rcases Go.ChangeShapes.open_ints Try.underlying22 Try.underlying3 (by kernel_rfl) h with ⟨hcs, _⟩ | ⟨x, l, c, zs, hcs, _, hl, hm, hz, _, hcell, hwz⟩
  · injection hcs with hcs _
    subst hcs
    exact ⟨[], [], ints_nil, by simp, by simp⟩
  · injection hcs with hcs _
    subst hcs
    simp only [if_true] at hz
    obtain ⟨SK, h1, h2⟩ := ints_in (len := l) (cap := c) hcell (by omega)
    exact ⟨_, SK, h1, h2, fun y hy => wf64 (hwz y (List.mem_of_mem_take hy))⟩
theorem wf8 {n : Int} (h : (Lit.int .u8 n).wf = true) : n = ((UInt8.ofNat n.toNat).toNat : Int) := by
  simp [Lit.wf, IntKind.min, IntKind.max, IntKind.bits, IntKind.signed] at h
  simp
  omega
theorem str_all (s : ByteArray) : s = str s.data.toList := by cases s; simp [str]
theorem list5 {r : List Value} (h : r.length = 5) : ∃ a b c d e, r = [a, b, c, d, e] := by
  match r, h with
  | [a, b, c, d, e], _ => exact ⟨a, b, c, d, e, rfl⟩
theorem act_in {H : Type} {enc : TypeId × Value → H} {w : World} {fuel : Nat} {r : List Value} {x : DataW H × List MemPlace} (h : DataW.trod enc Try.prog w 0 (fun _ => true) true fuel 43 r = some x) :
    ∃ kind at_ c s kv ks SK, ActIs w r kind at_ c s kv ks SK := by
  obtain ⟨xs, n, rfl, _, hl, hx, hf⟩ := DataW.trod_struct Try.underlying43 h
  have h43 : Try.prog.cellsOf 43 = 5 := by kernel_rfl
  have h3 : Try.prog.cellsOf 3 = 1 := by kernel_rfl
  have h5 : Try.prog.cellsOf 5 = 1 := by kernel_rfl
  have h9 : Try.prog.cellsOf 9 = 1 := by kernel_rfl
  have h22 : Try.prog.cellsOf 22 = 1 := by kernel_rfl
  rw [h43] at hl
  have hx5 : xs.length = 5 := hx
  obtain ⟨r0, r1, r2, r3, r4, rfl⟩ := list5 hl
  have g0 : DataW.trod enc Try.prog w 0 (fun _ => true) true n 3 (([r0, r1, r2, r3, r4].drop 0).take (Try.prog.cellsOf 3)) = xs[0]? := hf 0 _ rfl
  have g1 : DataW.trod enc Try.prog w 0 (fun _ => true) true n 3 (([r0, r1, r2, r3, r4].drop 1).take (Try.prog.cellsOf 3)) = xs[1]? := hf 1 _ rfl
  have g2 : DataW.trod enc Try.prog w 0 (fun _ => true) true n 5 (([r0, r1, r2, r3, r4].drop 2).take (Try.prog.cellsOf 5)) = xs[2]? := hf 2 _ rfl
  have g3 : DataW.trod enc Try.prog w 0 (fun _ => true) true n 9 (([r0, r1, r2, r3, r4].drop 3).take (Try.prog.cellsOf 9)) = xs[3]? := hf 3 _ rfl
  have g4 : DataW.trod enc Try.prog w 0 (fun _ => true) true n 22 (([r0, r1, r2, r3, r4].drop 4).take (Try.prog.cellsOf 22)) = xs[4]? := hf 4 _ rfl
  rw [List.getElem?_eq_getElem (by omega)] at g0 g1 g2 g3 g4
  rw [h3] at g0 g1
  rw [h5] at g2
  rw [h9] at g3
  rw [h22] at g4
  have e0 : ([r0, r1, r2, r3, r4].drop 0).take 1 = [r0] := rfl
  have e1 : ([r0, r1, r2, r3, r4].drop 1).take 1 = [r1] := rfl
  have e2 : ([r0, r1, r2, r3, r4].drop 2).take 1 = [r2] := rfl
  have e3 : ([r0, r1, r2, r3, r4].drop 3).take 1 = [r3] := rfl
  have e4 : ([r0, r1, r2, r3, r4].drop 4).take 1 = [r4] := rfl
  rw [e0] at g0
  rw [e1] at g1
  rw [e2] at g2
  rw [e3] at g3
  rw [e4] at g4
  clear e0 e1 e2 e3 e4
  obtain ⟨kind, e0, _, _⟩ := DataW.trod_int Try.underlying3 g0
  obtain ⟨at_, e1, _, wf1⟩ := DataW.trod_int Try.underlying3 g1
  obtain ⟨c, e2, _, wf2⟩ := DataW.trod_int Try.underlying5 g2
  obtain ⟨s, e3, _, _⟩ := DataW.trod_string Try.underlying9 g3
  obtain ⟨ks, SK, hk, hlt, hw⟩ := ints_taken g4
  injection e0 with e0 _
  injection e1 with e1 _
  injection e2 with e2 _
  injection e3 with e3 _
  subst e0; subst e1; subst e2; subst e3
  exact ⟨kind, at_, UInt8.ofNat c.toNat, s.data.toList, r4, ks, SK, by rw [← wf8 wf2, ← str_all], hk, hlt, (wf64 wf1).2, hw⟩
theorem acts_in {w : World} {v : Value} (h : Taken w 35 v) : ∃ rows SA, ActsAt w v rows SA := by
  obtain ⟨H, enc, fuel, x, h⟩ := h
  obtain ⟨v', rows, SK, hv, harg, hlt, _, hr⟩ := arg_slice Try.underlying35 (n := 5) (by kernel_rfl) (by omega) h
  injection hv with hv _
  subst hv
  exact ⟨rows, SK, harg, hlt, fun r hm => by obtain ⟨f, y, hy⟩ := hr r hm; exact act_in hy⟩
end Go.Proofs
