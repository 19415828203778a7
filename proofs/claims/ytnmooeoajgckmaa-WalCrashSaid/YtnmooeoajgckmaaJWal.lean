/- Part of the proof (JWal): an engine, rules or contracts of the functions; it states nothing of the claim by itself. -/
import Derived.Test.YtnmooeoajgckmaaJText
import Derived.Test.YtnmooeoajgckmaaJBase
import Derived.Test.YtnmooeoajgckmaaJDisk
import Derived.Lib.Builder
import Derived.Laws.Externs
import Derived.Lib.UnsafeStr

/- Layer 2, sums of texts: what each function computes; the document's too. -/
set_option linter.unusedVariables false
set_option linter.unusedSimpArgs false
namespace Go.Proofs
open Go Go.Q
def crcBit (c : Nat) : Nat := if c % 2 = 1 then (c / 2) ^^^ 3988292384 else c / 2
def crcBits : Nat → Nat → Nat
  | 0, c => c
  | n + 1, c => crcBit (crcBits n c)
def crcByte (c : Nat) (b : UInt8) : Nat := crcBits 8 (c ^^^ b.toNat)
def crcRun (c : Nat) (s : List UInt8) : Nat := s.foldl crcByte c
def crcMore (sum : Int) (s : List UInt8) : Nat := 4294967295 ^^^ crcRun (4294967295 ^^^ (sum % 4294967296).toNat) s
theorem crcBit_lt {c : Nat} (h : c < 2 ^ 32) : crcBit c < 2 ^ 32 := by
  unfold crcBit
  split
  · exact Nat.xor_lt_two_pow (by omega) (by omega)
  · omega
theorem crcBits_lt {c : Nat} (h : c < 2 ^ 32) : ∀ n, crcBits n c < 2 ^ 32 := by
  intro n
  induction n with
  | zero => exact h
  | succ n ih => exact crcBit_lt ih
theorem crcByte_lt {c : Nat} (h : c < 2 ^ 32) (b : UInt8) : crcByte c b < 2 ^ 32 := crcBits_lt (Nat.xor_lt_two_pow h (by have := b.toNat_lt; omega)) 8
theorem crcRun_lt {s : List UInt8} : ∀ {c : Nat}, c < 2 ^ 32 → crcRun c s < 2 ^ 32 := by
  induction s with
  | nil => intro c h; exact h
  | cons b s ih => intro c h; exact ih (crcByte_lt h b)
theorem crcRun_take {c : Nat} {s : List UInt8} {i : Nat} (hi : i < s.length) : crcRun c (s.take (i + 1)) = crcByte (crcRun c (s.take i)) s[i] := by
  rw [List.take_succ_eq_append_getElem hi]
  unfold crcRun
  rw [List.foldl_append]; rfl
theorem ixS_str {s : List UInt8} {kd : IntKind} {i : Nat} (hi : i < s.length) {K : Value → Prop} : ixS (.string (str s)) (.int kd i) K = K (.int .u8 s[i].toNat) := by
  have : (str s)[i]? = some s[i] := by
    have h : i < (str s).size := by simpa using hi
    rw [getElem?_pos (str s) i h]
    rfl
  unfold ixS
  simp only [Int.toNat_natCast, this]
  simp
/-- eight bits, as the program goes -/
theorem crc_step {c : Nat} (h : c < 2 ^ 32) : (c / 2) ^^^ (3988292384 &&& ((2 ^ 32 - c % 2) % 2 ^ 32)) = crcBit c := by
  unfold crcBit
  rcases Nat.mod_two_eq_zero_or_one c with h0 | h0
  · rw [h0, if_neg (by omega)]; simp
  · rw [h0, if_pos rfl]
    have : (2 ^ 32 - 1) % 2 ^ 32 = 4294967295 := by decide
    rw [this]
    rfl
theorem crcMore_lt (sum : Int) (s : List UInt8) : crcMore sum s < 2 ^ 32 := by
  unfold crcMore
  have h0 : (sum % 4294967296).toNat < 2 ^ 32 := by omega
  exact Nat.xor_lt_two_pow (by omega) (crcRun_lt (Nat.xor_lt_two_pow (by omega) h0))
theorem More_spec {w : World} (sum : Int) (s : List UInt8) (hs : s.length < 2 ^ 62) {K : Value → World → Prop} (hK : K (.int .i64 (crcMore sum s)) w) : callG Try.prog 51 #[.int .i64 sum, .string (str s)] w K := by
  refine crc_More_call ?_
  simp only [crc_More, crc_More_s8]
  obtain ⟨c0, hc0⟩ : ∃ c0, c0 = (sum % 4294967296).toNat := ⟨_, rfl⟩
  have hlt0 : c0 < 2 ^ 32 := by omega
  have hw : IntKind.u32.wrap sum = (c0 : Int) := by
    simp [IntKind.wrap, IntKind.bits, IntKind.signed]; omega
  simp only [cvI_i, hw]
  rw [not32_of hlt0]
  obtain ⟨c, hc⟩ : ∃ c, c = 4294967295 ^^^ c0 := ⟨_, rfl⟩
  have hlt : c < 2 ^ 32 := by rw [hc]; exact Nat.xor_lt_two_pow (by omega) hlt0
  have hcm : crcMore sum s = 4294967295 ^^^ crcRun c s := by unfold crcMore; rw [hc, hc0]
  have hc2 : (2 ^ 32 - 1) ^^^ c0 = c := by rw [hc]
  rw [hc2]
  rw [hcm] at hK
  unfold crc_More_s7 crc_More_L6
  simp only [lenS_s, str_size]
  refine loop_inv (fun m xs w' => ∃ i, i ≤ s.length ∧ m = s.length - i ∧ xs = [.string (str s), .int .u32 (crcRun c (s.take i)), .int .i64 s.length, .int .i64 (i : Nat)] ∧ w' = w)
    ?_ (m := s.length) ⟨0, by omega, rfl, rfl, rfl⟩
  rintro m N xs w' ⟨i, hi, rfl, rfl, rfl⟩ hN
  simp only [crc_More_L6F, crc_More_s5, bq_lss, bV_b]
  have hri := crcRun_lt (s := s.take i) hlt
  refine ⟨fun h => ?_, fun h => ?_⟩
  · have hi : i < s.length := by simpa using h
    have hN' := hN (s.length - (i + 1)) _ w' (by omega) ⟨i + 1, by omega, rfl, rfl, rfl⟩
    have hiw : IntKind.i64.wrap ((i : Int) + 1) = ((i + 1 : Nat) : Int) := by rw [w64 (by omega) (by omega)]; simp
    rw [crcRun_take hi] at hN'
    obtain ⟨r, hr⟩ : ∃ r, r = crcRun c (s.take i) := ⟨_, rfl⟩
    rw [← hr] at hri hN' ⊢
    unfold crc_More_s4
    rw [ixS_str hi]
    have hb := s[i].toNat_lt
    simp only [cvI_i, wrap_nat32 (show s[i].toNat < 2 ^ 32 by omega)]
    rw [xor32_of hri (by omega)]
    unfold crc_More_L3
    have hx : r ^^^ s[i].toNat < 2 ^ 32 := Nat.xor_lt_two_pow hri (by omega)
    obtain ⟨x, hxe⟩ : ∃ x, x = r ^^^ s[i].toNat := ⟨_, rfl⟩
    have hby : crcByte r s[i] = crcBits 8 x := by rw [hxe]; rfl
    rw [hby] at hN'
    rw [← hxe] at hx ⊢
    refine loop_inv (fun m xs w'' => ∃ j, j ≤ 8 ∧ m = 8 - j ∧ xs = [.string (str s), .int .u32 (crcBits j x), .int .i64 s.length, .int .i64 (i : Nat), .int .i64 (j : Nat)] ∧ w'' = w')
      ?_ (m := 8) ⟨0, by omega, rfl, rfl, rfl⟩
    rintro m N2 xs w'' ⟨j, hj, rfl, rfl, rfl⟩ hN2
    simp only [crc_More_L3F, crc_More_b2, bq_lss, bV_b]
    have hbl := crcBits_lt hx j
    refine ⟨fun h => ?_, fun h => ?_⟩
    · have hj : j < 8 := by simp at h; omega
      have hN2' := hN2 (8 - (j + 1)) _ w'' (by omega) ⟨j + 1, by omega, rfl, rfl, rfl⟩
      have hjw : IntKind.i64.wrap ((j : Int) + 1) = ((j + 1 : Nat) : Int) := by rw [w64 (by omega) (by omega)]; simp
      have hst := crc_step hbl
      have hcj : crcBits (j + 1) x = crcBit (crcBits j x) := rfl
      rw [hcj, ← hst] at hN2'
      obtain ⟨y, hy⟩ : ∃ y, y = crcBits j x := ⟨_, rfl⟩
      rw [← hy] at hbl hN2' ⊢
      rw [shr_of (by omega) (by decide)]
      have h1 : ((y : Int) / 2 ^ (1 : Int).toNat) = ((y / 2 : Nat) : Int) := by simp
      rw [h1]
      rw [show ((1 : Int)) = ((1 : Nat) : Int) from rfl, and32_of hbl (by omega), Nat.and_one_is_mod, neg32_of (by omega)]
      rw [show ((3988292384 : Int)) = ((3988292384 : Nat) : Int) from rfl, and32_of (by omega) (by omega)]
      have ha : 3988292384 &&& ((2 ^ 32 - y % 2) % 2 ^ 32) < 2 ^ 32 := Nat.and_lt_two_pow _ (by omega)
      rw [xor32_of (by omega) ha]
      simp only [bq_add]
      rw [show ((1 : Nat) : Int) = 1 from rfl, hjw]
      exact hN2'
    · have hje : j = 8 := by simp at h; omega
      subst hje
      unfold crc_More_s1
      simp only [bq_add, hiw]
      exact hN'
  · have hie : i = s.length := by simp at h; omega
    subst hie
    rw [List.take_length] at hri ⊢
    unfold crc_More_s0
    rw [not32_of hri]
    simp only [cvI_i]
    have hx : (2 ^ 32 - 1) ^^^ crcRun c s < 2 ^ 32 := Nat.xor_lt_two_pow (by omega) hri
    rw [wrap_nat64 (by omega)]
    exact hK
theorem Sum_spec {w : World} (s : List UInt8) (hs : s.length < 2 ^ 62) {K : Value → World → Prop} (hK : K (.int .i64 (crcMore 0 s)) w) : callG Try.prog 52 #[.string (str s)] w K := by
  refine crc_Sum_call ?_
  simp only [crc_Sum, crc_Sum_s0]
  exact More_spec 0 s hs hK
end Go.Proofs

/- Layer 2: bytes of a sum, and back; the document's sums. -/
set_option linter.unusedVariables false
set_option linter.unusedSimpArgs false
namespace Go.Proofs
open Go Go.Q
theorem cvBS_str {w : World} {b cap T : Nat} {fr : Nat × Nat} {l : List UInt8} (h : w.heap[b]? = some (.cells (u8c l).toArray T fr)) {n : Nat} (hn : n = l.length) {K : Value → Prop} :
    cvBS (.slice (some ⟨b, 0, none⟩) n cap) w K = K (.string (str l)) := by
  subst hn
  have ht : List.take l.length (u8c l) = u8c l := List.take_of_length_le (by simp)
  have hb := bytesOf_u8c l
  have hl : (u8c l).length = l.length := by simp
  obtain ⟨C, hC⟩ : ∃ C, C = u8c l := ⟨_, rfl⟩
  rw [← hC] at h ht hb hl
  simp [-getElem?_pos, -Array.getElem?_eq_getElem, cvBS, h, hl, ht, hb]
  rfl
def putB (x : Int) (k : Nat) : UInt8 := UInt8.ofNat ((x / 2 ^ (8 * k)) % 256).toNat
def put4 (x : Int) : List UInt8 := [putB x 0, putB x 1, putB x 2, putB x 3]
theorem zc119 : zc Try.prog 119 = (u8c [0, 0, 0, 0]).toArray := by kernel_rfl
theorem putB_wrap (x : Int) (k : Nat) : IntKind.u8.wrap (x / 2 ^ (8 * k)) = ((putB x k).toNat : Int) := by
  obtain ⟨y, hy⟩ : ∃ y, y = x / 2 ^ (8 * k) := ⟨_, rfl⟩
  have : putB x k = UInt8.ofNat (y % 256).toNat := by rw [hy]; rfl
  rw [this, ← hy]
  simp [IntKind.wrap, IntKind.bits, IntKind.signed]
  omega
theorem Put_spec {w : World} (x : Int) {K : Value → World → Prop} (hK : ∀ w', Kp [] w w' → K (.string (str (put4 x))) w') : callG Try.prog 50 #[.int .i64 x] w K := by
  refine crc_Put_call ?_
  simp only [crc_Put, crc_Put_s4, crc_Put_s3, newG_k, zc119]
  obtain ⟨a, ha⟩ : ∃ a, a = w.heap.size := ⟨_, rfl⟩
  obtain ⟨w1, hw1⟩ : ∃ w1, w1 = w.alloc (.cells (u8c [0, 0, 0, 0]).toArray 119) := ⟨_, rfl⟩
  have hk1 : Kp [] w w1 := by rw [hw1]; exact (Kp.refl [] w).alloc _
  have hA : w1.heap[a]? = some (.cells (u8c [0, 0, 0, 0]).toArray 119) := by rw [hw1, ha]; exact heap_new
  rw [← ha, ← hw1]
  unfold crc_Put_L2
  refine loop_inv (fun m xs w' => ∃ i, i ≤ 4 ∧ m = 4 - i ∧ xs = [.int .i64 x, .pointer (some ⟨a, 0, none⟩), .int .i64 (i : Nat)] ∧ Kp [] w w' ∧ w'.heap[a]? = some (.cells (u8c ((put4 x).take i ++ List.replicate (4 - i) 0)).toArray 119))
    ?_ (m := 4) ⟨0, by omega, rfl, rfl, hk1, hA⟩
  rintro m N xs w' ⟨i, hi, rfl, rfl, hk, hA⟩ hN
  simp only [crc_Put_L2F, crc_Put_b1, bq_lss, bV_b]
  refine ⟨fun h => ?_, fun h => ?_⟩
  · have hi : i < 4 := by simp at h; omega
    have hiw : IntKind.i64.wrap ((i : Int) + 1) = ((i + 1 : Nat) : Int) := by rw [w64 (by omega) (by omega)]; simp
    have h8 : IntKind.i64.wrap (8 * (i : Int)) = ((8 * i : Nat) : Int) := by rw [w64 (by omega) (by omega)]; simp
    simp only [bq_mul, h8]
    rw [shr_of (by omega) (by simp [IntKind.bits]; omega), Int.toNat_natCast]
    simp only [cvI_i, putB_wrap]
    have hset : (u8c ((put4 x).take i ++ List.replicate (4 - i) 0)).set i (.int .u8 (putB x i).toNat) = u8c ((put4 x).take (i + 1) ++ List.replicate (4 - (i + 1)) 0) := by
      match i, hi with
      | 0, _ => rfl
      | 1, _ => rfl
      | 2, _ => rfl
      | 3, _ => rfl
    have hlen : (u8c ((put4 x).take i ++ List.replicate (4 - i) 0)).length = 4 := by simp [put4]; omega
    obtain ⟨C, hC⟩ : ∃ C, C = u8c ((put4 x).take i ++ List.replicate (4 - i) 0) := ⟨_, rfl⟩
    obtain ⟨C', hC'⟩ : ∃ C', C' = u8c ((put4 x).take (i + 1) ++ List.replicate (4 - (i + 1)) 0) := ⟨_, rfl⟩
    rw [← hC] at hA hset hlen
    rw [← hC'] at hset
    have hi4 : (i : Int) < 4 := by omega
    simp [-getElem?_pos, -Array.getElem?_eq_getElem, -List.length_flatten, List.getElem?_cons_zero, List.getElem?_cons_succ, hA, hlen, hi, hi4, hset, hiw]
    exact hN (4 - (i + 1)) _ _ (by omega) ⟨i + 1, by omega, rfl, rfl, hk.setBlk (.inr (by omega)) _, by rw [← hC']; exact heap_self (live_of hA)⟩
  · have hie : i = 4 := by simp at h; omega
    subst hie
    have hp : (put4 x).take 4 ++ List.replicate (4 - 4) 0 = put4 x := rfl
    rw [hp] at hA
    unfold crc_Put_s0
    simp only [slA_p, bnd_none]
    have e : (if 4 = 0 then 0 else 0 + 0 * 1) = 0 := rfl
    simp only [e]
    rw [cvBS_str (n := 4 - 0) hA rfl]
    exact hK _ hk
theorem take4_get {s : List UInt8} (h : ¬ s.length < 4) : ∃ a b c d r, s = a :: b :: c :: d :: r := by
  match s, h with
  | a :: b :: c :: d :: r, _ => exact ⟨a, b, c, d, r, rfl⟩
  | [], h => simp at h
  | [_], h => simp at h
  | [_, _], h => simp at h
  | [_, _, _], h => simp at h
theorem or_add {x y k : Nat} (hx : x < 2 ^ k) : x ||| (y * 2 ^ k) = x + y * 2 ^ k := by
  rw [Nat.or_comm, Nat.add_comm, Nat.mul_comm]
  exact (Nat.two_pow_add_eq_or_of_lt hx y).symm
def takeN (s : List UInt8) : Nat → Nat
  | 0 => 0
  | i + 1 => takeN s i + (s.getD i 0).toNat * 2 ^ (8 * i)
theorem takeN_lt (s : List UInt8) : ∀ i, takeN s i < 2 ^ (8 * i) := by
  intro i
  induction i with
  | zero => simp [takeN]
  | succ i ih =>
    have hb := (s.getD i 0).toNat_lt
    have : (s.getD i 0).toNat * 2 ^ (8 * i) ≤ 255 * 2 ^ (8 * i) := Nat.mul_le_mul_right _ (by omega)
    have h2 : 2 ^ (8 * (i + 1)) = 256 * 2 ^ (8 * i) := by rw [Nat.mul_succ, Nat.pow_add]; omega
    simp only [takeN]
    omega
theorem Take_spec {w : World} (s : List UInt8) (hs : s.length < 2 ^ 62) {K : Value → World → Prop} (hK : K (.int .i64 (if s.length < 4 then -1 else (takeN s 4 : Nat))) w) : callG Try.prog 69 #[.string (str s)] w K := by
  refine crc_Take_call ?_
  simp only [crc_Take, crc_Take_s4, lenS_s, str_size, bq_lss, bV_b]
  refine ⟨fun h => ?_, fun h => ?_⟩
  · have h : s.length < 4 := by simp at h; omega
    rw [if_pos h] at hK; exact hK
  · have h : ¬ s.length < 4 := by simp at h; omega
    rw [if_neg h] at hK
    unfold crc_Take_s3 crc_Take_L2
    refine loop_inv (fun m xs w' => ∃ i, i ≤ 4 ∧ m = 4 - i ∧ xs = [.string (str s), .int .i64 (takeN s i : Nat), .int .i64 (i : Nat)] ∧ w' = w)
      ?_ (m := 4) ⟨0, by omega, rfl, rfl, rfl⟩
    rintro m N xs w' ⟨i, hi, rfl, rfl, rfl⟩ hN
    simp only [crc_Take_L2F, crc_Take_b1, bq_lss, bV_b]
    refine ⟨fun h4 => ?_, fun h4 => ?_⟩
    · have hi : i < 4 := by simp at h4; omega
      have hi' : i < s.length := by omega
      have hiw : IntKind.i64.wrap ((i : Int) + 1) = ((i + 1 : Nat) : Int) := by rw [w64 (by omega) (by omega)]; simp
      have h8 : IntKind.i64.wrap (8 * (i : Int)) = ((8 * i : Nat) : Int) := by rw [w64 (by omega) (by omega)]; simp
      have hin := hN (4 - (i + 1)) _ w' (by omega) ⟨i + 1, by omega, rfl, rfl, rfl⟩
      have hg : s.getD i 0 = s[i] := by simp [List.getD, hi']
      have ht : takeN s (i + 1) = takeN s i + s[i].toNat * 2 ^ (8 * i) := by rw [← hg]; rfl
      have hlt := takeN_lt s i
      have hlt' := takeN_lt s (i + 1)
      rw [ht] at hin hlt'
      have hb := s[i].toNat_lt
      have hp : 2 ^ (8 * (i + 1)) ≤ 2 ^ 32 := Nat.pow_le_pow_right (by omega) (by omega)
      have hp' : 2 ^ (8 * i) ≤ 2 ^ 32 := Nat.pow_le_pow_right (by omega) (by omega)
      rw [ixS_str hi']
      simp only [cvI_i, wrap_nat64 (show s[i].toNat < 2 ^ 63 by omega), bq_mul, h8]
      rw [shl_of (by omega) (by simp [IntKind.bits]; omega), Int.toNat_natCast]
      have hc : ((s[i].toNat : Int) * 2 ^ (8 * i)) = ((s[i].toNat * 2 ^ (8 * i) : Nat) : Int) := by simp
      rw [hc, wrap_nat64 (by omega), or64_of (by omega) (by omega), or_add hlt]
      simp only [bq_add, hiw]
      exact hin
    · have hie : i = 4 := by simp at h4; omega
      subst hie
      exact hK
end Go.Proofs

/- Layer 2: the document's sums. -/
set_option linter.unusedVariables false
set_option linter.unusedSimpArgs false
namespace Go.Proofs
open Go Go.Q
theorem refMore_spec {w : World} (sum : Int) (s : List UInt8) (hs : s.length < 2 ^ 62) {K : Value → World → Prop} (hK : K (.int .i64 (crcMore sum s)) w) : callG Try.prog 68 #[.int .i64 sum, .string (str s)] w K := by
  refine ref02_More_call ?_
  simp only [ref02_More, ref02_More_s8]
  rw [and_of 32 (by omega) (by decide)]
  obtain ⟨c0, hc0⟩ : ∃ c0, c0 = (sum % 4294967296).toNat := ⟨_, rfl⟩
  have hlt0 : c0 < 2 ^ 32 := by omega
  have hw : sum % 2 ^ 32 = (c0 : Int) := by omega
  rw [hw, show (4294967295 : Int) = ((4294967295 : Nat) : Int) from rfl, xor64_of (by omega) (by omega), Nat.xor_comm]
  obtain ⟨c, hc⟩ : ∃ c, c = 4294967295 ^^^ c0 := ⟨_, rfl⟩
  have hlt : c < 2 ^ 32 := by rw [hc]; exact Nat.xor_lt_two_pow (by omega) hlt0
  have hcm : crcMore sum s = 4294967295 ^^^ crcRun c s := by unfold crcMore; rw [hc, hc0]
  rw [← hc]
  rw [hcm] at hK
  unfold ref02_More_s7 ref02_More_L6
  refine loop_inv (fun m xs w' => ∃ i, i ≤ s.length ∧ m = s.length - i ∧ xs = [.string (str s), .int .i64 (crcRun c (s.take i)), .int .i64 (i : Nat)] ∧ w' = w)
    ?_ (m := s.length) ⟨0, by omega, rfl, rfl, rfl⟩
  rintro m N xs w' ⟨i, hi, rfl, rfl, rfl⟩ hN
  simp only [ref02_More_L6F, ref02_More_s5, lenS_s, str_size, bq_lss, bV_b]
  have hri := crcRun_lt (s := s.take i) hlt
  refine ⟨fun h => ?_, fun h => ?_⟩
  · have hi : i < s.length := by simpa using h
    have hN' := hN (s.length - (i + 1)) _ w' (by omega) ⟨i + 1, by omega, rfl, rfl, rfl⟩
    have hiw : IntKind.i64.wrap ((i : Int) + 1) = ((i + 1 : Nat) : Int) := by rw [w64 (by omega) (by omega)]; simp
    rw [crcRun_take hi] at hN'
    obtain ⟨r, hr⟩ : ∃ r, r = crcRun c (s.take i) := ⟨_, rfl⟩
    rw [← hr] at hri hN' ⊢
    unfold ref02_More_s4
    rw [ixS_str hi]
    have hb := s[i].toNat_lt
    simp only [cvI_i, wrap_nat64 (show s[i].toNat < 2 ^ 63 by omega)]
    rw [xor64_of (by omega) (by omega)]
    unfold ref02_More_L3
    have hx : r ^^^ s[i].toNat < 2 ^ 32 := Nat.xor_lt_two_pow hri (by omega)
    obtain ⟨x, hxe⟩ : ∃ x, x = r ^^^ s[i].toNat := ⟨_, rfl⟩
    have hby : crcByte r s[i] = crcBits 8 x := by rw [hxe]; rfl
    rw [hby] at hN'
    rw [← hxe] at hx ⊢
    refine loop_inv (fun m xs w'' => ∃ j, j ≤ 8 ∧ m = 8 - j ∧ xs = [.string (str s), .int .i64 (crcBits j x), .int .i64 (i : Nat), .int .i64 (j : Nat)] ∧ w'' = w')
      ?_ (m := 8) ⟨0, by omega, rfl, rfl, rfl⟩
    rintro m N2 xs w'' ⟨j, hj, rfl, rfl, rfl⟩ hN2
    simp only [ref02_More_L3F, ref02_More_b2, bq_lss, bV_b]
    have hbl := crcBits_lt hx j
    refine ⟨fun h => ?_, fun h => ?_⟩
    · have hj : j < 8 := by simp at h; omega
      have hN2' := hN2 (8 - (j + 1)) _ w'' (by omega) ⟨j + 1, by omega, rfl, rfl, rfl⟩
      have hjw : IntKind.i64.wrap ((j : Int) + 1) = ((j + 1 : Nat) : Int) := by rw [w64 (by omega) (by omega)]; simp
      have hcj : crcBits (j + 1) x = crcBit (crcBits j x) := rfl
      rw [hcj] at hN2'
      obtain ⟨y, hy⟩ : ∃ y, y = crcBits j x := ⟨_, rfl⟩
      rw [← hy] at hbl hN2' ⊢
      have h1 : ((y : Int) / 2 ^ (1 : Int).toNat) = ((y / 2 : Nat) : Int) := by simp
      simp only [and1, bq_eql, bV_b]
      unfold crcBit at hN2'
      refine ⟨fun hb => ?_, fun hb => ?_⟩
      · have hb : y % 2 = 1 := by simp at hb; omega
        rw [if_pos hb] at hN2'
        rw [shr_of (by omega) (by decide), h1, show ((3988292384 : Int)) = ((3988292384 : Nat) : Int) from rfl, xor64_of (by omega) (by omega)]
        simp only [bq_add, hjw]
        exact hN2'
      · have hb : ¬ y % 2 = 1 := by simp at hb; omega
        rw [if_neg hb] at hN2'
        rw [shr_of (by omega) (by decide), h1]
        simp only [bq_add, hjw]
        exact hN2'
    · have hje : j = 8 := by simp at h; omega
      subst hje
      unfold ref02_More_s1
      simp only [bq_add, hiw]
      exact hN'
  · have hie : i = s.length := by simp at h; omega
    subst hie
    rw [List.take_length] at hri ⊢
    unfold ref02_More_s0
    rw [show (4294967295 : Int) = ((4294967295 : Nat) : Int) from rfl, xor64_of (by omega) (by omega), Nat.xor_comm]
    exact hK
theorem refSum_spec {w : World} (s : List UInt8) (hs : s.length < 2 ^ 62) {K : Value → World → Prop} (hK : K (.int .i64 (crcMore 0 s)) w) : callG Try.prog 54 #[.string (str s)] w K := by
  refine ref02_Sum_call ?_
  simp only [ref02_Sum, ref02_Sum_s0]
  exact refMore_spec 0 s hs hK
theorem bsl_four {e : Nat} {z : Array Value} {v0 v1 v2 v3 : Value} (h0 : one v0 = true) (h1 : one v1 = true) (h2 : one v2 = true) (h3 : one v3 = true) {w : World} {k : Value → World → Prop} :
    bsl e 1 4 z #[(0, v0), (1, v1), (2, v2), (3, v3)] w k = k (.slice (some ⟨w.heap.size, 0, none⟩) 4 4) (w.alloc (.cells #[v0, v1, v2, v3] e)) := by
  have g0 := cells_one h0
  have g1 := cells_one h1
  have g2 := cells_one h2
  have g3 := cells_one h3
  obtain ⟨r, hr⟩ : ∃ r, r = rep z (4 * 1) := ⟨_, rfl⟩
  have hs : r.size = 4 := by rw [hr, rep_size]
  obtain ⟨l⟩ := r
  obtain ⟨a, b, c, d, rfl⟩ : ∃ a b c d, l = [a, b, c, d] := by
    match l, hs with
    | [a, b, c, d], _ => exact ⟨a, b, c, d, rfl⟩
  unfold bsl
  show (match Instr.fill (fun i => some (i * 1, 1)) (rep z (4 * 1)) [(0, v0), (1, v1), (2, v2), (3, v3)] with | some cs => k (Value.slice (some ⟨w.heap.size, 0, none⟩) 4 4) (w.alloc (Obj.cells cs e)) | none => False) = _
  rw [← hr]
  rw [fill_step (off := 0) (size := 1) rfl (by rw [g0]; rfl) (by simp), g0]
  rw [fill_step (off := 1) (size := 1) rfl (by rw [g1]; rfl) (by simp [splice]), g1]
  rw [fill_step (off := 2) (size := 1) rfl (by rw [g2]; rfl) (by simp [splice]), g2]
  rw [fill_step (off := 3) (size := 1) rfl (by rw [g3]; rfl) (by simp [splice]), g3]
  rfl
theorem putB_and (x : Int) (k : Nat) : IntKind.u8.wrap (x / 2 ^ (8 * k) % 2 ^ 8) = ((putB x k).toNat : Int) := by
  rw [← putB_wrap]
  simp [IntKind.wrap, IntKind.bits, IntKind.signed]
theorem refPut_spec {w : World} (x : Int) {K : Value → World → Prop} (hK : ∀ w', Kp [] w w' → K (.string (str (put4 x))) w') : callG Try.prog 53 #[.int .i64 x] w K := by
  refine ref02_Put_call ?_
  simp only [ref02_Put, ref02_Put_s0]
  have p0 := putB_and x 0
  have p1 := putB_and x 1
  have p2 := putB_and x 2
  have p3 := putB_and x 3
  have e0 : x / 2 ^ (8 * 0) = x := by simp
  rw [e0] at p0
  rw [and_of 8 (by omega) (by decide), cvI_i, shr_of (by omega) (by decide), and_of 8 (by omega) (by decide), cvI_i, shr_of (by omega) (by decide), and_of 8 (by omega) (by decide), cvI_i, shr_of (by omega) (by decide), and_of 8 (by omega) (by decide), cvI_i]
  have t1 : (8 : Int).toNat = 8 * 1 := rfl
  have t2 : (16 : Int).toNat = 8 * 2 := rfl
  have t3 : (24 : Int).toNat = 8 * 3 := rfl
  rw [t1, t2, t3, p0, p1, p2, p3]
  rw [bsl_four rfl rfl rfl rfl]
  have hA := @heap_new w (.cells #[.int .u8 (putB x 0).toNat, .int .u8 (putB x 1).toNat, .int .u8 (putB x 2).toNat, .int .u8 (putB x 3).toNat] 5)
  have hA' : (w.alloc (.cells #[.int .u8 (putB x 0).toNat, .int .u8 (putB x 1).toNat, .int .u8 (putB x 2).toNat, .int .u8 (putB x 3).toNat] 5)).heap[w.heap.size]? = some (.cells (u8c (put4 x)).toArray 5) := hA
  rw [cvBS_str (n := 4) hA' rfl]
  exact hK _ ((Kp.refl _ _).alloc _)
end Go.Proofs

/- Layer 4: a record's bytes, and the records of bytes; the document's too. -/
set_option linter.unusedVariables false
set_option linter.unusedSimpArgs false
namespace Go.Proofs
open Go Go.Q
def turnOk (t : Int) : Bool := decide (1 ≤ t ∧ t ≤ 2147483647)
def headOf (t : Int) (s : List UInt8) : List UInt8 := put4 t ++ (put4 s.length).take 2
def frameB (t : Int) (s : List UInt8) : List UInt8 := headOf t s ++ put4 (crcMore 0 (headOf t s ++ s)) ++ s
def frame (t : Int) (s : List UInt8) : List UInt8 × Int := if turnOk t = true ∧ s ≠ [] ∧ s.length ≤ 1024 then (frameB t s, 0) else ([], 1)
theorem put4_len (x : Int) : (put4 x).length = 4 := rfl
theorem headOf_len (t : Int) (s : List UInt8) : (headOf t s).length = 6 := by simp [headOf, put4_len]
theorem frameB_len (t : Int) (s : List UInt8) : (frameB t s).length = 10 + s.length := by simp [frameB, headOf_len, put4_len]; omega
/-- a sum of what is begun: the sum of the whole -/
theorem crcMore_more (a b : List UInt8) : crcMore (crcMore 0 a) b = crcMore 0 (a ++ b) := by
  have hlt := crcMore_lt 0 a
  have h1 : ((crcMore 0 a : Nat) : Int) % 4294967296 = (crcMore 0 a : Nat) := Int.emod_eq_of_lt (by omega) (by omega)
  unfold crcMore at h1 ⊢
  rw [h1, Int.toNat_natCast, ← Nat.xor_assoc, Nat.xor_self, Nat.zero_xor]
  unfold crcRun
  rw [List.foldl_append]
theorem right_spec {w : World} (t : Int) {K : Value → World → Prop} (hK : K (.bool (turnOk t)) w) : callG Try.prog 49 #[.int .i64 t] w K := by
  refine wal_right_call ?_
  simp only [wal_right, wal_right_s0, bq_geq, bq_leq, bV_b]
  unfold turnOk at hK
  refine ⟨fun h => ?_, fun h => ?_⟩
  · have : 1 ≤ t := by simpa using h
    simpa [this] using hK
  · have : ¬ 1 ≤ t := by simpa using h
    simpa [this] using hK
theorem put2 (t : List UInt8) : (put4 t.length).take 2 = [putB t.length 0, putB t.length 1] := rfl
theorem Frame_spec {w : World} (t : Int) (s : List UInt8) {K : Value → World → Prop} (hs : s.length < 2 ^ 62) (hK : ∀ w', Kp [] w w' → K (.tuple #[.string (str (frame t s).1), .int .i64 (frame t s).2]) w') :
    callG Try.prog 30 #[.int .i64 t, .string (str s)] w K := by
  refine wal_Frame_call ?_
  simp only [wal_Frame, wal_Frame_s1]
  refine right_spec t ?_
  unfold frame at hK
  have hnil : (⟨#[]⟩ : ByteArray) = str [] := rfl
  have hbad : ¬ (turnOk t = true ∧ s ≠ [] ∧ s.length ≤ 1024) → K (.tuple #[.string (str []), .int .i64 1]) w := by
    intro h; have := hK w (Kp.refl _ _); rw [if_neg h] at this; exact this
  simp only [hnil]
  simp [-getElem?_pos, -Array.getElem?_eq_getElem, -List.length_flatten, List.getElem?_cons_zero, List.getElem?_cons_succ, ]
  refine ⟨fun h => hbad (by simp [h]), fun h => ⟨fun h1 => hbad (by simp [h1]), fun h1 => ⟨fun h2 => hbad (by omega), fun h2 => ?_⟩⟩⟩
  rw [if_pos ⟨h, h1, by omega⟩] at hK
  unfold wal_Frame_s0
  refine Put_spec t fun w1 hk1 => ?_
  simp only [lenS_s, str_size]
  refine Put_spec s.length fun w2 hk2 => ?_
  have hl := put4_len t
  have hl2 := put4_len s.length
  simp [-getElem?_pos, -Array.getElem?_eq_getElem, -List.length_flatten, List.getElem?_cons_zero, List.getElem?_cons_succ, str_extract, hl, hl2, bq_sadd]
  have hh : put4 t ++ (put4 s.length).take 2 = headOf t s := rfl
  rw [hh]
  refine Sum_spec _ (by rw [headOf_len]; omega) ?_
  refine More_spec _ _ hs ?_
  rw [crcMore_more]
  refine Put_spec _ fun w3 hk3 => ?_
  have hl3 := put4_len (crcMore 0 (headOf t s ++ s))
  have hl4 := headOf_len t s
  have b1 : (str (headOf t s)).size + (str (put4 (crcMore 0 (headOf t s ++ s)))).size < 9223372036854775808 := by simp [hl3, hl4]
  have b2 : (str (headOf t s ++ put4 (crcMore 0 (headOf t s ++ s)))).size + (str s).size < 9223372036854775808 := by simp [hl3, hl4]; omega
  rw [bq_sadd b1, str_append, bq_sadd b2, str_append]
  exact hK w3 ((hk1.trans' hk2).trans' hk3)
theorem refFrame_spec {w : World} (t : Int) (s : List UInt8) {K : Value → World → Prop} (hs : s.length < 2 ^ 62) (hK : ∀ w', Kp [] w w' → K (.tuple #[.string (str (frame t s).1), .int .i64 (frame t s).2]) w') :
    callG Try.prog 31 #[.int .i64 t, .string (str s)] w K := by
  refine ref04_Frame_call ?_
  simp only [ref04_Frame, ref04_Frame_s1]
  unfold frame at hK
  have hnil : (⟨#[]⟩ : ByteArray) = str [] := rfl
  have hbad : ¬ (turnOk t = true ∧ s ≠ [] ∧ s.length ≤ 1024) → K (.tuple #[.string (str []), .int .i64 1]) w := by
    intro h; have := hK w (Kp.refl _ _); rw [if_neg h] at this; exact this
  simp only [hnil]
  simp [-getElem?_pos, -Array.getElem?_eq_getElem, -List.length_flatten, List.getElem?_cons_zero, List.getElem?_cons_succ, ]
  refine ⟨fun h => hbad (by simp [turnOk]; omega), fun h => ⟨fun h0 => hbad (by simp [turnOk]; omega), fun h0 => ⟨fun h1 => hbad (by simp [h1]), fun h1 => ⟨fun h2 => hbad (by omega), fun h2 => ?_⟩⟩⟩⟩
  rw [if_pos ⟨by simp [turnOk]; omega, h1, by omega⟩] at hK
  unfold ref04_Frame_s0
  refine refPut_spec t fun w1 hk1 => ?_
  simp only [lenS_s, str_size]
  refine refPut_spec s.length fun w2 hk2 => ?_
  have hl := put4_len t
  have hl2 := put4_len s.length
  have hb0 : (str (headOf t s)).size + (str s).size < 9223372036854775808 := by simp [headOf_len]; omega
  have hh : put4 t ++ (put4 s.length).take 2 = headOf t s := rfl
  simp [-getElem?_pos, -Array.getElem?_eq_getElem, -List.length_flatten, List.getElem?_cons_zero, List.getElem?_cons_succ, str_extract, hl, hl2, bq_sadd, hh]
  rw [bq_sadd hb0, str_append]
  refine refSum_spec (headOf t s ++ s) (by rw [List.length_append, headOf_len]; omega) ?_
  refine refPut_spec _ fun w3 hk3 => ?_
  have hl3 := put4_len (crcMore 0 (headOf t s ++ s))
  have hl4 := headOf_len t s
  have b1 : (str (headOf t s)).size + (str (put4 (crcMore 0 (headOf t s ++ s)))).size < 9223372036854775808 := by simp [hl3, hl4]
  have b2 : (str (headOf t s ++ put4 (crcMore 0 (headOf t s ++ s)))).size + (str s).size < 9223372036854775808 := by simp [hl3, hl4]; omega
  rw [bq_sadd b1, str_append, bq_sadd b2, str_append]
  exact hK w3 ((hk1.trans' hk2).trans' hk3)
end Go.Proofs

/- Layer 4: what record bytes begin with. -/
set_option linter.unusedVariables false
set_option linter.unusedSimpArgs false
namespace Go.Proofs
open Go Go.Q
def lenAt (s : List UInt8) : Nat := (s.getD 4 0).toNat + (s.getD 5 0).toNat * 2 ^ 8
def recOf (s : List UInt8) : List UInt8 := (s.drop 10).take (lenAt s)
def nextOk (t : Int) (s : List UInt8) : Bool :=
  decide (10 < s.length) && turnOk t && decide (((takeN s 4 : Nat) : Int) = t) && decide (1 ≤ lenAt s) && decide (lenAt s ≤ 1024) && decide (lenAt s + 10 ≤ s.length) && decide (takeN (s.drop 6) 4 = crcMore 0 (s.take 6 ++ recOf s))
theorem lenAt_lt (s : List UInt8) : lenAt s < 65536 := by
  have h1 := (s.getD 4 0).toNat_lt
  have h2 := (s.getD 5 0).toNat_lt
  unfold lenAt; omega
theorem next_spec {w : World} (t : Int) (s : List UInt8) (hs : s.length < 2 ^ 62) {K : Value → World → Prop}
    (hK : ∀ w' r, Kp [] w w' → (nextOk t s = true → r = str (recOf s)) → K (.tuple #[.string r, .bool (nextOk t s)]) w') : callG Try.prog 55 #[.int .i64 t, .string (str s)] w K := by
  refine wal_next_call ?_
  simp only [wal_next, wal_next_s2, lenS_s, str_size, bq_leq, bV_b]
  have no : ∀ w', Kp [] w w' → nextOk t s = false → K (.tuple #[.string ⟨#[]⟩, .bool false]) w' := by
    intro w' hk h
    have := hK w' ⟨#[]⟩ hk (by rw [h]; intro h; cases h)
    rw [h] at this; exact this
  have hk0 : Kp [] w w := Kp.refl _ _
  refine ⟨fun h => no w hk0 ?_, fun h => ?_⟩
  · have : ¬ 10 < s.length := by simp at h; omega
    simp [nextOk, this]
  have h10 : 10 < s.length := by simp at h; omega
  refine right_spec t ?_
  simp [-getElem?_pos, -Array.getElem?_eq_getElem, -List.length_flatten, List.getElem?_cons_zero, List.getElem?_cons_succ, ]
  refine ⟨fun h => no w hk0 (by simp [nextOk, h]), fun hto => ?_⟩
  refine Take_spec s hs ?_
  rw [if_neg (by omega)]
  simp [-getElem?_pos, -Array.getElem?_eq_getElem, -List.length_flatten, List.getElem?_cons_zero, List.getElem?_cons_succ, ]
  refine ⟨fun h => no w hk0 (by simp [nextOk, h]), fun htk => ?_⟩
  unfold wal_next_s1
  have e4 : s.getD 4 0 = s[4] := by simp [List.getD, show 4 < s.length by omega]
  have e5 : s.getD 5 0 = s[5] := by simp [List.getD, show 5 < s.length by omega]
  have b4 := s[4].toNat_lt
  have b5 := s[5].toNat_lt
  have hn : lenAt s = s[4].toNat + s[5].toNat * 2 ^ 8 := by unfold lenAt; rw [e4, e5]
  have i4 : ∀ K : Value → Prop, ixS (.string (str s)) (.int .i64 4) K = K (.int .u8 s[4].toNat) := fun K => ixS_str (i := 4) (by omega)
  have i5 : ∀ K : Value → Prop, ixS (.string (str s)) (.int .i64 5) K = K (.int .u8 s[5].toNat) := fun K => ixS_str (i := 5) (by omega)
  simp only [i4, i5, cvI_i, wrap_nat64 (show s[4].toNat < 2 ^ 63 by omega), wrap_nat64 (show s[5].toNat < 2 ^ 63 by omega)]
  rw [shl_of (by omega) (by decide)]
  have hc : ((s[5].toNat : Int) * (2 : Int) ^ (8 : Int).toNat) = ((s[5].toNat * 2 ^ 8 : Nat) : Int) := by simp
  rw [hc, wrap_nat64 (by omega), or64_of (by omega) (by omega), or_add (by omega), ← hn]
  have hkd : Kp [] w w.drew := (Kp.refl _ _).drew
  have hlt := lenAt_lt s
  simp only [bq_lss, bq_gtr, bV_b]
  refine ⟨fun h => no _ hkd ?_, fun h1 => ⟨fun h => no _ hkd ?_, fun h2 => ?_⟩⟩
  · have : ¬ 1 ≤ lenAt s := by simp at h; omega
    simp [nextOk, this]
  · have : ¬ lenAt s ≤ 1024 := by simp at h; omega
    simp [nextOk, this]
  have h1 : 1 ≤ lenAt s := by simp at h1; omega
  have h2 : lenAt s ≤ 1024 := by simp at h2; omega
  have hsub : IntKind.i64.wrap ((s.length : Int) - 10) = (s.length : Int) - 10 := w64 (by omega) (by omega)
  simp only [lenS_s, str_size, bq_sub, hsub, bq_gtr, bV_b]
  refine ⟨fun h => no _ hkd ?_, fun h3 => ?_⟩
  · have : ¬ lenAt s + 10 ≤ s.length := by simp at h; omega
    simp [nextOk, this]
  have h3 : lenAt s + 10 ≤ s.length := by simp at h3; omega
  unfold wal_next_s0
  have hadd : IntKind.i64.wrap (10 + (lenAt s : Int)) = ((10 + lenAt s : Nat) : Int) := by rw [w64 (by omega) (by omega)]; simp
  have hext : (str s).extract 10 (10 + lenAt s) = str (recOf s) := by
    rw [str_extract]; unfold recOf; rw [List.drop_take]; congr 2; omega
  have hle1 : ((10 + lenAt s : Nat) : Int) ≤ s.length := by omega
  have hle2 : (10 : Int) ≤ ((10 + lenAt s : Nat) : Int) := by omega
  have h6 : (6 : Int) ≤ s.length := by omega
  have hext2 : (str s).extract 6 s.length = str (s.drop 6) := by rw [str_extract, List.take_length]
  have hext3 : (str s).extract 0 6 = str (s.take 6) := by rw [str_extract]; rfl
  simp only [bq_add, hadd, slS_p, bnd_some, bnd_none, str_size, Int.toNat_natCast]
  refine ⟨⟨by omega, hle1⟩, ⟨by omega, hle2⟩, ⟨by omega, h6⟩, ⟨by omega, h6⟩, ?_⟩
  have t10 : (10 : Int).toNat = 10 := rfl
  have t6 : (6 : Int).toNat = 6 := rfl
  rw [t10, t6, hext, hext2, hext3]
  refine Take_spec (s.drop 6) (by simp; omega) ?_
  rw [if_neg (by simp; omega)]
  refine Sum_spec (s.take 6) (by simp; omega) ?_
  have hrl : (recOf s).length = lenAt s := by unfold recOf; simp; omega
  refine More_spec _ (recOf s) (by omega) ?_
  rw [crcMore_more]
  simp only [bq_eql]
  have hok : nextOk t s = decide (((takeN (s.drop 6) 4 : Nat) : Int) = (crcMore 0 (s.take 6 ++ recOf s) : Nat)) := by
    have hi : (((takeN (s.drop 6) 4 : Nat) : Int) = (crcMore 0 (s.take 6 ++ recOf s) : Nat)) = (takeN (s.drop 6) 4 = crcMore 0 (s.take 6 ++ recOf s)) := by apply propext; omega
    simp only [hi]
    simp [nextOk, h10, hto, htk, h1, h2, h3]
  rw [← hok]
  exact hK _ _ hkd.drew fun _ => rfl
/-! ### a record is whole just where its bytes are its frame -/
theorem put_take {s : List UInt8} (h : 4 ≤ s.length) : put4 (takeN s 4 : Nat) = s.take 4 := by
  obtain ⟨a, b, c, d, r, rfl⟩ := take4_get (s := s) (by omega)
  have ha := a.toNat_lt
  have hb := b.toNat_lt
  have hc := c.toNat_lt
  have hd := d.toNat_lt
  have hN : takeN (a :: b :: c :: d :: r) 4 = a.toNat + b.toNat * 256 + c.toNat * 65536 + d.toNat * 16777216 := by
    simp [takeN, List.getD]
  rw [hN]
  have p : ∀ (k : Nat) (x : UInt8), ((((a.toNat + b.toNat * 256 + c.toNat * 65536 + d.toNat * 16777216 : Nat) : Int) / 2 ^ (8 * k)) % 256).toNat = x.toNat → putB ((a.toNat + b.toNat * 256 + c.toNat * 65536 + d.toNat * 16777216 : Nat) : Int) k = x := by
    intro k x h
    unfold putB
    rw [h]; simp
  have q0 := p 0 a (by simp; omega)
  have q1 := p 1 b (by simp; omega)
  have q2 := p 2 c (by simp; omega)
  have q3 := p 3 d (by simp; omega)
  unfold put4
  rw [q0, q1, q2, q3]
  rfl
theorem take_put (x : Nat) (h : x < 4294967296) (r : List UInt8) : takeN (put4 x ++ r) 4 = x := by
  have p : ∀ k, (putB x k).toNat = (x / 2 ^ (8 * k)) % 256 := by
    intro k
    unfold putB
    have : (((x : Int) / 2 ^ (8 * k)) % 256).toNat = (x / 2 ^ (8 * k)) % 256 := by
      have : ((x : Int) / 2 ^ (8 * k)) = ((x / 2 ^ (8 * k) : Nat) : Int) := by simp
      rw [this]; omega
    rw [this]
    simp
  have hN : takeN (put4 x ++ r) 4 = (putB x 0).toNat + (putB x 1).toNat * 256 + (putB x 2).toNat * 65536 + (putB x 3).toNat * 16777216 := by
    simp [takeN, List.getD, put4]
  rw [hN, p, p, p, p]
  simp
  omega
end Go.Proofs

/- Layer 4: the records of bytes. -/
set_option linter.unusedVariables false
set_option linter.unusedSimpArgs false
namespace Go.Proofs
open Go Go.Q
theorem recOf_len {s : List UInt8} (h : lenAt s + 10 ≤ s.length) : (recOf s).length = lenAt s := by unfold recOf; simp; omega
theorem head_take {s : List UInt8} {t : Int} (h : lenAt s + 10 ≤ s.length) (h4 : put4 t = s.take 4) : headOf t (recOf s) = s.take 6 := by
  have h6 : 6 ≤ s.length := by omega
  obtain ⟨a, b, c, d, r, rfl⟩ := take4_get (s := s) (by omega)
  match r, h6 with
  | e :: f :: r, _ =>
    have he := e.toNat_lt
    have hf := f.toNat_lt
    have hl : lenAt (a :: b :: c :: d :: e :: f :: r) = e.toNat + f.toNat * 256 := by simp [lenAt, List.getD]
    have p0 : putB (lenAt (a :: b :: c :: d :: e :: f :: r) : Nat) 0 = e := by
      rw [hl]
      unfold putB
      have : ((((e.toNat + f.toNat * 256 : Nat) : Int) / 2 ^ (8 * 0)) % 256).toNat = e.toNat := by simp; omega
      rw [this]; simp
    have p1 : putB (lenAt (a :: b :: c :: d :: e :: f :: r) : Nat) 1 = f := by
      rw [hl]
      unfold putB
      have : ((((e.toNat + f.toNat * 256 : Nat) : Int) / 2 ^ (8 * 1)) % 256).toNat = f.toNat := by simp; omega
      rw [this]; simp
    unfold headOf
    rw [put2, h4, recOf_len h, p0, p1]
    rfl
theorem next_frame (t : Int) (s : List UInt8) : nextOk t s = true ↔ (10 < s.length ∧ 1 ≤ lenAt s ∧ lenAt s ≤ 1024 ∧ lenAt s + 10 ≤ s.length ∧ frame t (recOf s) = (s.take (10 + lenAt s), 0)) := by
  have hsum : ∀ {h : List UInt8}, lenAt s + 10 ≤ s.length → s.take 6 ++ (s.drop 6).take 4 ++ recOf s = s.take (10 + lenAt s) := by
    intro _ h
    unfold recOf
    rw [List.take_add (l := s) (i := 10), show (10 : Nat) = 6 + 4 from rfl, List.take_add (l := s) (i := 6)]
  constructor
  · intro h
    simp only [nextOk, Bool.and_eq_true, decide_eq_true_eq] at h
    obtain ⟨⟨⟨⟨⟨⟨h1, h2⟩, h3⟩, h4⟩, h5⟩, h6⟩, h7⟩ := h
    refine ⟨h1, h4, h5, h6, ?_⟩
    have hl := recOf_len h6
    have hp : put4 t = s.take 4 := by rw [← h3]; exact put_take (by omega)
    have hh := head_take h6 hp
    unfold frame
    rw [if_pos ⟨h2, by intro h0; rw [h0] at hl; simp at hl; omega, by omega⟩]
    unfold frameB
    rw [hh, ← h7, put_take (by simp; omega), hsum (h := []) h6]
  · rintro ⟨h1, h4, h5, h6, h⟩
    have hl := recOf_len h6
    unfold frame at h
    split at h
    · rename_i hc
      injection h with h _
      have hto := hc.1
      have ht : 1 ≤ t ∧ t ≤ 2147483647 := by simpa [turnOk] using hto
      unfold frameB at h
      have e4 : put4 t = s.take 4 := by
        have := congrArg (List.take 4) h
        rw [List.take_take, Nat.min_eq_left (by omega)] at this
        rw [← this]
        simp [headOf, put4]
      have hh := head_take h6 e4
      have hts : ((takeN s 4 : Nat) : Int) = t := by
        have hs : s = put4 t ++ s.drop 4 := by rw [e4, List.take_append_drop]
        obtain ⟨n, rfl⟩ : ∃ n : Nat, t = n := ⟨t.toNat, by omega⟩
        rw [hs, take_put n (by omega)]
      have e6 : put4 (crcMore 0 (s.take 6 ++ recOf s)) = (s.drop 6).take 4 := by
        rw [hh] at h
        have := congrArg (fun l => (l.drop 6).take 4) h
        simp only [List.append_assoc] at this
        rw [List.drop_left' (by simp; omega), List.take_left' (put4_len _), List.drop_take, List.take_take, Nat.min_eq_left (by omega)] at this
        exact this
      have h7 : takeN (s.drop 6) 4 = crcMore 0 (s.take 6 ++ recOf s) := by
        have hs : s.drop 6 = put4 (crcMore 0 (s.take 6 ++ recOf s)) ++ (s.drop 6).drop 4 := by rw [e6, List.take_append_drop]
        have := take_put (crcMore 0 (s.take 6 ++ recOf s)) (crcMore_lt _ _) ((s.drop 6).drop 4)
        rw [← hs] at this
        exact this
      simp [nextOk, h1, hto, hts, h4, h5, h6, h7]
    · injection h with _ h
      cases h
def scanL (t : Int) : Nat → List UInt8 → List (List UInt8)
  | 0, _ => []
  | n + 1, s => if nextOk t s = true then recOf s :: scanL t n (s.drop (10 + lenAt s)) else []
def usedOf (l : List (List UInt8)) : Nat := (l.map fun r => 10 + r.length).sum
theorem usedOf_snoc (l : List (List UInt8)) (r : List UInt8) : usedOf (l ++ [r]) = usedOf l + (10 + r.length) := by simp [usedOf]
theorem usedOf_len (l : List (List UInt8)) : l.length ≤ usedOf l := by
  induction l with
  | nil => simp
  | cons x l ih => simp [usedOf] at ih ⊢; omega
def scan (t : Int) (s : List UInt8) : List (List UInt8) := scanL t s.length s
theorem Scan_spec {w : World} (t : Int) (s : List UInt8) (hs : s.length < 2 ^ 40) {K : Value → World → Prop}
    (hK : ∀ w' v S, RowsAt w' v 1 ((scan t s).map strV) S → Kp [] w w' → (∀ y ∈ S, w.heap.size ≤ y) → K (.tuple #[v, .int .i64 (usedOf (scan t s))]) w') : callG Try.prog 32 #[.int .i64 t, .string (str s)] w K := by
  refine wal_Scan_call ?_
  simp only [wal_Scan, wal_Scan_s2]
  unfold wal_Scan_L1
  refine loop_inv (fun m xs wi => ∃ out f v S, scan t s = out ++ scanL t f (s.drop (usedOf out)) ∧ usedOf out ≤ s.length ∧ s.length - usedOf out ≤ f ∧ m = s.length - usedOf out ∧ xs = [.int .i64 t, .string (str s), v, .int .i64 (usedOf out)] ∧
      RowsAt wi v 1 (out.map strV) S ∧ Kp [] w wi ∧ ∀ y ∈ S, w.heap.size ≤ y)
    ?_ (m := s.length) ⟨[], s.length, .slice none 0 0, [], rfl, by simp [usedOf], by simp [usedOf], by simp [usedOf], rfl, .inl ⟨rfl, rfl, rfl⟩, Kp.refl _ _, by simp⟩
  rintro m N xs wi ⟨out, f, v, S, hsc, hu, hf, rfl, rfl, hr, hk, hS⟩ hN
  simp only [wal_Scan_L1F, wal_Scan_b0, slS_p, bnd_some, bnd_none, str_size, Int.toNat_natCast]
  refine ⟨⟨by omega, by omega⟩, ?_⟩
  rw [str_extract, List.take_length]
  refine next_spec t (s.drop (usedOf out)) (by simp; omega) fun w1 r hk1 hr1 => ?_
  cases hok : nextOk t (s.drop (usedOf out)) with
  | false =>
    simp [-getElem?_pos, -Array.getElem?_eq_getElem, -List.length_flatten, List.getElem?_cons_zero, List.getElem?_cons_succ, ]
    have he : scanL t f (s.drop (usedOf out)) = [] := by
      cases f with
      | zero => rfl
      | succ f => unfold scanL; rw [if_neg (by rw [hok]; simp)]
    rw [he, List.append_nil] at hsc
    rw [hsc] at hK
    exact hK w1 v S (hr.keep hk1 (by simp)) (hk.trans' hk1) hS
  | true =>
    have hrr := hr1 hok
    subst hrr
    obtain ⟨n1, n2, n3, n4, n5⟩ := (next_frame t _).1 hok
    have hrl := recOf_len n4
    rw [List.length_drop] at n1 n4
    obtain ⟨f, rfl⟩ : ∃ f', f = f' + 1 := ⟨f - 1, by omega⟩
    have he : scanL t (f + 1) (s.drop (usedOf out)) = recOf (s.drop (usedOf out)) :: scanL t f ((s.drop (usedOf out)).drop (10 + lenAt (s.drop (usedOf out)))) := by
      conv => lhs; unfold scanL
      rw [if_pos hok]
    rw [he] at hsc
    obtain ⟨rc, hrc⟩ : ∃ rc, rc = recOf (s.drop (usedOf out)) := ⟨_, rfl⟩
    obtain ⟨n, hn⟩ : ∃ n, n = lenAt (s.drop (usedOf out)) := ⟨_, rfl⟩
    rw [← hrc, ← hn] at hsc hrl
    rw [← hn] at n2 n3 n4
    rw [← hrc]
    have hlen := usedOf_len out
    simp only [ex0, ex1]
    simp [-getElem?_pos, -Array.getElem?_eq_getElem, -List.length_flatten, List.getElem?_cons_zero, List.getElem?_cons_succ, ]
    rw [bsl_one rfl]
    obtain ⟨w3, hw3⟩ : ∃ w3, w3 = w1.alloc (.cells #[.string (str rc)] 9) := ⟨_, rfl⟩
    have hk3 : Kp [] w1 w3 := by rw [hw3]; exact (Kp.refl [] w1).alloc _
    have hb3 : w3.heap[w1.heap.size]? = some (.cells #[.string (str rc)] 9) := by rw [hw3]; exact heap_new
    rw [← hw3, zc9]
    have hs3 : RdAt w3 (.slice (some ⟨w1.heap.size, 0, none⟩) 1 1) 1 [strV rc] [w1.heap.size] :=
      .inr ⟨_, 0, 1, _, _, _, rfl, rfl, hb3, by simp [strV], by simp, by simp [strV], by simp⟩
    have hk13 := hk1.trans' hk3
    refine rows_app (k := 1) (z := [.string ⟨#[]⟩]) (G := [strV rc]) (hr.keep hk13 (by simp)) (by omega) rfl (by simp [strV]) (by simp [strV, Q.one]) (fun K' hK' => hs3.src K' hK') (by simp; omega) (by simp; omega) fun v4 w4 S4 h4 hk4 hS4 => ?_
    have hw3s := (hk.trans' hk13).size
    have ha1 : IntKind.i64.wrap (10 + (rc.length : Int)) = ((10 + rc.length : Nat) : Int) := by rw [w64 (by omega) (by omega)]; simp
    have hus := usedOf_snoc out rc
    have ha2 : IntKind.i64.wrap ((usedOf out : Int) + ((10 + rc.length : Nat) : Int)) = ((usedOf (out ++ [rc]) : Nat) : Int) := by rw [w64 (by omega) (by omega), hus]; simp
    simp only [lenS_s, str_size, bq_add, ha1, ha2]
    refine hN (s.length - usedOf (out ++ [rc])) _ _ (by omega) ⟨out ++ [rc], f, v4, S4, ?_, by omega, by omega, rfl, rfl, by simpa using h4, (hk.trans' hk13).trans hk4 fun y hy hlt => by have := hS y hy; omega, fun y hy => ?_⟩
    · rw [hsc, List.drop_drop, hus, hrl]; simp
    · rcases hS4 y hy with h | h
      · exact hS y h
      · omega
end Go.Proofs

/- Layer 4: the document's records of bytes. -/
set_option linter.unusedVariables false
set_option linter.unusedSimpArgs false
namespace Go.Proofs
open Go Go.Q
theorem refScan_spec {w : World} (t : Int) (s : List UInt8) (hs : s.length < 2 ^ 40) {K : Value → World → Prop}
    (hK : ∀ w' v S, RowsAt w' v 1 ((scan t s).map strV) S → Kp [] w w' → (∀ y ∈ S, w.heap.size ≤ y) → K (.tuple #[v, .int .i64 (usedOf (scan t s))]) w') : callG Try.prog 33 #[.int .i64 t, .string (str s)] w K := by
  refine ref04_Scan_call ?_
  simp only [ref04_Scan, ref04_Scan_s6]
  unfold ref04_Scan_L5
  refine loop_inv (fun m xs wi => ∃ out f v S, scan t s = out ++ scanL t f (s.drop (usedOf out)) ∧ usedOf out ≤ s.length ∧ s.length - usedOf out ≤ f ∧ m = s.length - usedOf out ∧ xs = [.int .i64 t, .string (str s), v, .int .i64 (usedOf out)] ∧
      RowsAt wi v 1 (out.map strV) S ∧ Kp [] w wi ∧ ∀ y ∈ S, w.heap.size ≤ y)
    ?_ (m := s.length) ⟨[], s.length, .slice none 0 0, [], rfl, by simp [usedOf], by simp [usedOf], by simp [usedOf], rfl, .inl ⟨rfl, rfl, rfl⟩, Kp.refl _ _, by simp⟩
  rintro m N xs wi ⟨out, f, v, S, hsc, hu, hf, rfl, rfl, hr, hk, hS⟩ hN
  have stop : ∀ w1, Kp [] wi w1 → nextOk t (s.drop (usedOf out)) = false → ref04_Scan_s0 K v (.int .i64 (usedOf out)) w1 := by
    intro w1 hk1 hok
    have he : scanL t f (s.drop (usedOf out)) = [] := by
      cases f with
      | zero => rfl
      | succ f => unfold scanL; rw [if_neg (by rw [hok]; simp)]
    rw [he, List.append_nil] at hsc
    rw [hsc] at hK
    exact hK w1 v S (hr.keep hk1 (by simp)) (hk.trans' hk1) hS
  have hk0 : Kp [] wi wi := Kp.refl _ _
  have hsub : IntKind.i64.wrap ((s.length : Int) - (usedOf out : Nat)) = ((s.length - usedOf out : Nat) : Int) := by rw [w64 (by omega) (by omega)]; omega
  simp only [ref04_Scan_L5F, ref04_Scan_s4, lenS_s, str_size, bq_sub, hsub, bq_gtr, bV_b]
  obtain ⟨r, hr0⟩ : ∃ r, r = s.drop (usedOf out) := ⟨_, rfl⟩
  have hrl : r.length = s.length - usedOf out := by rw [hr0]; simp
  rw [← hrl]
  rw [← hr0] at stop hsc
  refine ⟨fun h10 => ?_, fun h => stop wi hk0 (by
    have : ¬ 10 < r.length := by simp at h; omega
    simp [nextOk, this])⟩
  have h10 : 10 < r.length := by simp at h10; omega
  unfold ref04_Scan_s3
  simp only [slS_p, bnd_some, bnd_none, str_size, Int.toNat_natCast]
  refine ⟨⟨by omega, by omega⟩, ?_⟩
  rw [str_extract, List.take_length, ← hr0]
  have e4 : r.getD 4 0 = r[4] := by simp [List.getD, show 4 < r.length by omega]
  have e5 : r.getD 5 0 = r[5] := by simp [List.getD, show 5 < r.length by omega]
  have b4 := r[4].toNat_lt
  have b5 := r[5].toNat_lt
  have hn : lenAt r = r[4].toNat + r[5].toNat * 2 ^ 8 := by unfold lenAt; rw [e4, e5]
  have i4 : ∀ K : Value → Prop, ixS (.string (str r)) (.int .i64 4) K = K (.int .u8 r[4].toNat) := fun K => ixS_str (i := 4) (by omega)
  have i5 : ∀ K : Value → Prop, ixS (.string (str r)) (.int .i64 5) K = K (.int .u8 r[5].toNat) := fun K => ixS_str (i := 5) (by omega)
  simp only [i4, i5, cvI_i, wrap_nat64 (show r[4].toNat < 2 ^ 63 by omega), wrap_nat64 (show r[5].toNat < 2 ^ 63 by omega)]
  rw [shl_of (by omega) (by decide)]
  have hc : ((r[5].toNat : Int) * (2 : Int) ^ (8 : Int).toNat) = ((r[5].toNat * 2 ^ 8 : Nat) : Int) := by simp
  rw [hc, wrap_nat64 (by omega), or64_of (by omega) (by omega), or_add (by omega), ← hn]
  have hkd : Kp [] wi wi.drew := (Kp.refl _ _).drew
  have hlt := lenAt_lt r
  simp only [bq_eql, bq_gtr, bV_b]
  refine ⟨fun h => stop _ hkd ?_, fun h1 => ⟨fun h => stop _ hkd ?_, fun h2 => ?_⟩⟩
  · have : ¬ 1 ≤ lenAt r := by simp at h; omega
    simp [nextOk, this]
  · have : ¬ lenAt r ≤ 1024 := by simp at h; omega
    simp [nextOk, this]
  have h1 : 1 ≤ lenAt r := by simp at h1; omega
  have h2 : lenAt r ≤ 1024 := by simp at h2; omega
  have hsub2 : IntKind.i64.wrap ((r.length : Int) - 10) = (r.length : Int) - 10 := w64 (by omega) (by omega)
  simp only [lenS_s, str_size, bq_sub, hsub2, bq_lss, bV_b]
  refine ⟨fun h => stop _ hkd ?_, fun h3 => ?_⟩
  · have : ¬ lenAt r + 10 ≤ r.length := by simp at h; omega
    simp [nextOk, this]
  have h3 : lenAt r + 10 ≤ r.length := by simp at h3; omega
  have hrcl := recOf_len h3
  obtain ⟨rc, hrc⟩ : ∃ rc, rc = recOf r := ⟨_, rfl⟩
  have hnf := next_frame t r
  have hadd : IntKind.i64.wrap (10 + (lenAt r : Int)) = ((10 + lenAt r : Nat) : Int) := by rw [w64 (by omega) (by omega)]; simp
  have hext : (str r).extract 10 (10 + lenAt r) = str (recOf r) := by
    rw [str_extract]; unfold recOf; rw [List.drop_take]; congr 2; omega
  have hle1 : ((10 + lenAt r : Nat) : Int) ≤ r.length := by omega
  have hle2 : (10 : Int) ≤ ((10 + lenAt r : Nat) : Int) := by omega
  have t10 : (10 : Int).toNat = 10 := rfl
  unfold ref04_Scan_s2
  simp only [bq_add, hadd, slS_p, bnd_some, bnd_none, str_size, Int.toNat_natCast, t10, hext]
  refine ⟨⟨by omega, hle1⟩, ⟨by omega, hle2⟩, ?_⟩
  rw [← hrc] at hnf hrcl ⊢
  refine refFrame_spec t rc (by omega) fun w1 hk1 => ?_
  have hk1' := hkd.trans' hk1
  have hpre : (str r).extract 0 (10 + lenAt r) = str (r.take (10 + lenAt r)) := by rw [str_extract]; rfl
  have hf2 : (frame t rc).2 = 0 ∨ (frame t rc).2 = 1 := by unfold frame; split <;> simp
  simp only [ex0, ex1, bq_neq, bV_b]
  refine ⟨fun h => stop _ hk1' ?_, fun h => ?_⟩
  · cases hok : nextOk t r with
    | false => rfl
    | true =>
      obtain ⟨_, _, _, _, hfr⟩ := hnf.1 hok
      rw [hfr] at h; simp at h
  have hz : (frame t rc).2 = 0 := by simpa using h
  refine ⟨⟨by omega, hle1⟩, ?_⟩
  rw [hpre, bq_sneq]
  simp only [bV_b]
  refine ⟨fun h => stop _ hk1' ?_, fun h => ?_⟩
  · cases hok : nextOk t r with
    | false => rfl
    | true =>
      obtain ⟨_, _, _, _, hfr⟩ := hnf.1 hok
      rw [hfr] at h; simp at h
  have hfe : (frame t rc).1 = r.take (10 + lenAt r) := by simpa using h
  have hok : nextOk t r = true := hnf.2 ⟨h10, h1, h2, h3, by rw [← hfe, ← hz]⟩
  obtain ⟨f, rfl⟩ : ∃ f', f = f' + 1 := ⟨f - 1, by omega⟩
  have he : scanL t (f + 1) r = rc :: scanL t f (r.drop (10 + lenAt r)) := by
    conv => lhs; unfold scanL
    rw [if_pos hok, hrc]
  rw [he] at hsc
  obtain ⟨n, hnn⟩ : ∃ n, n = lenAt r := ⟨_, rfl⟩
  rw [← hnn] at hsc hrcl hadd hext hle1 hle2 h1 h2 h3 ⊢
  have hlen := usedOf_len out
  unfold ref04_Scan_s1
  simp only [bq_add, hadd, slS_p, bnd_some, bnd_none, str_size, Int.toNat_natCast, t10, hext]
  refine ⟨⟨by omega, hle1⟩, ⟨by omega, hle2⟩, ?_⟩
  rw [← hrc, bsl_one rfl]
  obtain ⟨w3, hw3⟩ : ∃ w3, w3 = w1.alloc (.cells #[.string (str rc)] 9) := ⟨_, rfl⟩
  have hk3 : Kp [] w1 w3 := by rw [hw3]; exact (Kp.refl [] w1).alloc _
  have hb3 : w3.heap[w1.heap.size]? = some (.cells #[.string (str rc)] 9) := by rw [hw3]; exact heap_new
  rw [← hw3, zc9]
  have hs3 : RdAt w3 (.slice (some ⟨w1.heap.size, 0, none⟩) 1 1) 1 [strV rc] [w1.heap.size] :=
    .inr ⟨_, 0, 1, _, _, _, rfl, rfl, hb3, by simp [strV], by simp, by simp [strV], by simp⟩
  have hk13 := hk1'.trans' hk3
  refine rows_app (k := 1) (z := [.string ⟨#[]⟩]) (G := [strV rc]) (hr.keep hk13 (by simp)) (by omega) rfl (by simp [strV]) (by simp [strV, Q.one]) (fun K' hK' => hs3.src K' hK') (by simp; omega) (by simp; omega) fun v4 w4 S4 h4 hk4 hS4 => ?_
  have hw3s := (hk.trans' hk13).size
  have hus := usedOf_snoc out rc
  have ha1 : IntKind.i64.wrap ((usedOf out : Int) + 10) = ((usedOf out + 10 : Nat) : Int) := by rw [w64 (by omega) (by omega)]; simp
  have ha2 : IntKind.i64.wrap (((usedOf out + 10 : Nat) : Int) + (n : Int)) = ((usedOf (out ++ [rc]) : Nat) : Int) := by rw [w64 (by omega) (by omega), hus]; omega
  rw [ha1, ha2]
  refine hN (s.length - usedOf (out ++ [rc])) _ _ (by omega) ⟨out ++ [rc], f, v4, S4, ?_, by omega, by omega, rfl, rfl, by simpa using h4, (hk.trans' hk13).trans hk4 fun y hy hlt => by have := hS y hy; omega, fun y hy => ?_⟩
  · rw [hsc, hr0, List.drop_drop, hus, hrcl]; simp
  · rcases hS4 y hy with h | h
    · exact hS y h
    · omega
end Go.Proofs

/- Layer 4: a log's parts, and whether two lists of texts are the same. -/
set_option linter.unusedVariables false
set_option linter.unusedSimpArgs false
namespace Go.Proofs
open Go Go.Q
theorem same_spec {w : World} {v u : Value} {a b : List (List UInt8)} {S U : List Nat} (ha : ArgAt w v 1 (a.map strV) S) (hb : ArgAt w u 1 (b.map strV) U) (hs : a.length < 2 ^ 62) {K : Value → World → Prop}
    (hK : ∀ w', Kp [] w w' → K (.bool (decide (a = b))) w') : callG Try.prog 34 #[v, u] w K := by
  refine law04_same_call ?_
  simp only [law04_same, law04_same_s4, ha.lenL, hb.lenL, bq_neq, bV_b, List.length_map]
  refine ⟨fun h => ?_, fun h => ?_⟩
  · have hne : a ≠ b := by intro he; subst he; simp at h
    have := hK w (Kp.refl _ _)
    simpa [hne] using this
  have hl : a.length = b.length := by simp at h; omega
  unfold law04_same_s3 law04_same_L2
  refine loop_inv (fun m xs w' => ∃ i, i ≤ a.length ∧ m = a.length - i ∧ xs = [v, u, .int .i64 (i : Nat)] ∧ Kp [] w w' ∧ a.take i = b.take i)
    ?_ (m := a.length) ⟨0, by omega, rfl, rfl, Kp.refl _ _, rfl⟩
  rintro m N xs w' ⟨i, hi, rfl, rfl, hk, he⟩ hN
  have ha' := ha.keep hk (by simp)
  have hb' := hb.keep hk (by simp)
  simp only [law04_same_L2F, law04_same_b1, ha'.lenL, List.length_map, bq_lss, bV_b]
  refine ⟨fun h => ?_, fun h => ?_⟩
  · have hi : i < a.length := by simpa using h
    have hiw : IntKind.i64.wrap ((i : Int) + 1) = ((i + 1 : Nat) : Int) := by rw [w64 (by omega) (by omega)]; simp
    obtain ⟨bl, o, T, c, fr, _, hh, hia, _, _, hc⟩ := ha'.at (i := i) (by simpa using hi)
    obtain ⟨bl2, o2, T2, c2, fr2, _, hh2, hia2, _, _, hc2⟩ := hb'.at (i := i) (by simp; omega)
    have h1 : c[o]? = some (.string (str a[i])) := by have := hc 0 (by omega); simpa [strV] using this
    have h2 : c2[o2]? = some (.string (str b[i])) := by have := hc2 0 (by omega); simpa [strV] using this
    simp [-getElem?_pos, -Array.getElem?_eq_getElem, -List.length_flatten, List.getElem?_cons_zero, List.getElem?_cons_succ, hia, hia2, hh, hh2, h1, h2, hiw]
    refine ⟨fun hne => ?_, fun heq => ?_⟩
    · have hab : a ≠ b := by intro h; subst h; exact hne rfl
      have := hK w'.drew hk.drew
      simpa [hab] using this
    · refine hN (a.length - (i + 1)) _ _ (by omega) ⟨i + 1, by omega, rfl, rfl, hk.drew, ?_⟩
      rw [List.take_succ_eq_append_getElem hi, List.take_succ_eq_append_getElem (by omega), he, heq]
  · have hie : i = a.length := by simp at h; omega
    subst hie
    have hab : a = b := by
      rw [List.take_length] at he
      rw [hl, List.take_length] at he
      exact he
    have := hK w' hk
    simpa [law04_same_s0, hab] using this
structure LG where
  lo : Int
  hi : Int
  turn : Int
  l : List (List UInt8)
  used : List UInt8
/-- a log at 'a', of the disk at 'b' -/
def LogIs (w : World) (a b : Nat) (g : LG) (SL : List Nat) (lv : Value) : Prop :=
  w.heap[a]? = some (.cells #[.pointer (some ⟨b, 0, none⟩), .int .i64 g.lo, .int .i64 g.hi, .int .i64 g.turn, lv, .string (str g.used)] 71) ∧ RowsAt w lv 1 (g.l.map strV) SL ∧ a ∉ SL
theorem LogIs.keep {w w' : World} {a b : Nat} {g : LG} {SL S' : List Nat} {lv : Value} (h : LogIs w a b g SL lv) (hk : Kp S' w w') (h1 : a ∉ S') (h2 : ∀ x ∈ SL, x ∉ S') : LogIs w' a b g SL lv :=
  ⟨hk.get h.1 h1, h.2.1.keep hk h2, h.2.2⟩
theorem given_spec {w : World} {a b : Nat} {g : LG} {SL : List Nat} {lv : Value} (h : LogIs w a b g SL lv) {K : Value → World → Prop} (hK : K (.bool true) w) : callG Try.prog 60 #[.pointer (some ⟨a, 0, none⟩)] w K := by
  refine wal_Log_given_call ?_
  simpa [wal_Log_given, wal_Log_given_s0, h.1] using hK
theorem Used_spec {w : World} {a b : Nat} {g : LG} {SL : List Nat} {lv : Value} (h : LogIs w a b g SL lv) {K : Value → World → Prop} (hK : K (.int .i64 g.used.length) w) : callG Try.prog 38 #[.pointer (some ⟨a, 0, none⟩)] w K := by
  refine wal_Log_Used_call ?_
  simp only [wal_Log_Used, wal_Log_Used_s0]
  refine given_spec h ?_
  simpa [h.1] using hK
theorem Clone_spec {w : World} {v : Value} {l : List (List UInt8)} {S : List Nat} (h : RowsAt w v 1 (l.map strV) S) (hl : l.length < 2 ^ 40) {K : Value → World → Prop}
    (hK : ∀ w' v' S', RowsAt w' v' 1 (l.map strV) S' → Kp [] w w' → (∀ y ∈ S', w.heap.size ≤ y) → K v' w') : callG Try.prog 63 #[v] w K := by
  refine slices_Clone_string_string_call ?_
  simp only [slices_Clone_string_string, slices_Clone_string_string_s0]
  obtain ⟨sa, sc, hv, _⟩ := h.len
  have hnil : sa = none → l = [] := by
    intro h0
    subst h0
    rcases h with ⟨_, h2, _⟩ | ⟨bl, F, T, h1, _⟩
    · simpa using h2
    · rw [h1] at hv; cases hv
  rw [hv, bq_sleql _ _ _ _ _ (by kernel_rfl)]
  simp only [bV_b]
  refine ⟨fun h0 => ?_, fun h0 => ?_⟩
  · have : l = [] := hnil (by simpa using h0)
    subst this
    exact hK w _ [] (.inl ⟨rfl, rfl, rfl⟩) (Kp.refl _ _) (by simp)
  · have hb : ∀ K : Value → World → Prop, bsl 9 1 0 (zc Try.prog 9) #[] w K = K (.slice (some ⟨w.heap.size, 0, none⟩) 0 0) (w.alloc (.cells #[] 9)) := by
      intro K
      have hr : rep (zc Try.prog 9) (0 * 1) = #[] := by simp [rep]
      unfold bsl
      rw [hr]
      rfl
    rw [hb, zc9]
    obtain ⟨w1, hw1⟩ : ∃ w1, w1 = w.alloc (.cells #[] 9) := ⟨_, rfl⟩
    have hk1 : Kp [] w w1 := by rw [hw1]; exact (Kp.refl [] w).alloc _
    have hb1 : w1.heap[w.heap.size]? = some (.cells #[] 9) := by rw [hw1]; exact heap_new
    rw [← hw1, ← hv]
    have h1 : RowsAt w1 (.slice (some ⟨w.heap.size, 0, none⟩) 0 0) 1 [] [w.heap.size] := .inr ⟨_, [], 9, rfl, rfl, hb1, by simp, rfl, by simp⟩
    have hs := (h.keep hk1 (by simp)).rd
    have hone := strV_one l
    refine rows_app (k := 1) (z := [.string ⟨#[]⟩]) (G := l.map strV) h1 (by omega) rfl (fun y hy => hs.row hy) hone (fun K' hK' => hs.src K' hK') (by simp; omega) (by simp; omega) fun v2 w2 S2 h2 hk2 hS2 => ?_
    have hsz := hk1.size
    refine hK w2 v2 S2 (by simpa using h2) (hk1.trans hk2 fun y hy hlt => by simp at hy; omega) fun y hy => ?_
    rcases hS2 y hy with h | h
    · simp at h; omega
    · omega
theorem Records_spec {w : World} {a b : Nat} {g : LG} {SL : List Nat} {lv : Value} (h : LogIs w a b g SL lv) (hl : g.l.length < 2 ^ 40) {K : Value → World → Prop}
    (hK : ∀ w' v' S', RowsAt w' v' 1 (g.l.map strV) S' → Kp [] w w' → (∀ y ∈ S', w.heap.size ≤ y) → K v' w') : callG Try.prog 37 #[.pointer (some ⟨a, 0, none⟩)] w K := by
  refine wal_Log_Records_call ?_
  simp only [wal_Log_Records, wal_Log_Records_s0]
  refine given_spec h ?_
  simp [-getElem?_pos, -Array.getElem?_eq_getElem, -List.length_flatten, List.getElem?_cons_zero, List.getElem?_cons_succ, h.1]
  exact Clone_spec h.2.1 hl hK
end Go.Proofs

/- strings.Builder: what each function of it does. -/
set_option linter.unusedVariables false
set_option linter.unusedSimpArgs false
namespace Go.Proofs
open Go Go.Q
theorem info_some {t : TypeId} {n : Nat} (h : szO Try.prog t = some n) : ∃ j, Try.prog.info? t = some j ∧ j.size = n := by
  unfold szO at h
  cases hi : Try.prog.info? t with
  | none => rw [hi] at h; cases h
  | some j => rw [hi] at h; exact ⟨j, rfl, by simpa using h⟩
theorem Try.sz107 : szO Try.prog 107 = some 2 := by kernel_rfl
theorem Try.cellsOf5 : Try.prog.cellsOf 5 = 1 := by kernel_rfl
theorem bq_psame {xo yo : Operand} {w : World} {a : Addr} {K : Value → Prop} : qG Try.prog (bq .neq 105 xo yo (.pointer (some a)) (.pointer (some a))) w K = K (.bool false) := by
  obtain ⟨j, hj, _⟩ := info_some Try.sz107
  refine qG_of ((run_equal1 (P := Try.prog) (T := 105) (x := .pointer (some a)) (y := .pointer (some a)) (w := w) (b := true) ?_ (fun _ _ h => by cases h.1) (fun h => by cases h.1) xo yo rfl rfl).2)
  have h := Go.Lib.run_neq_ptr_same (P := Try.prog) w a Try.underlying105 hj
  have h2 : ∀ d : Nat, (Op.equalIn (d + 1) 105 (.pointer (some a)) (.pointer (some a))).run Try.prog w = .ok true w := fun d => by
    simp [Op.equalIn, Go.run_underlying Try.underlying105, sizeOf, typeInfo, hj, Go.run_sameAddr_same]
  simp [Op.equal, Op.maxDepth, h2 9999]
theorem to_unsafe {w : World} {b : Nat} {cs : Array Value} {fr : Nat × Nat} (hb : w.heap[b]? = some (.cells cs 107 fr)) (hs : cs.size = 2) {K : Value → World → Prop} (hK : K (.pointer (some ⟨b, 0, none⟩)) w) :
    eG Try.prog (convert 105 122 (.pointer (some ⟨b, 0, none⟩))) w K := by
  obtain ⟨j, hj, hsz⟩ := info_some Try.sz107
  exact ⟨_, w, Go.Lib.run_to_unsafe (P := Try.prog) (cells := 2) (e := 107) w ⟨b, 0, none⟩ Try.underlying105 Try.underlying122 hj (by omega) (by simp [World.shape?, hb, hs]) (Nat.zero_lt_succ 1), hK⟩
theorem from_unsafe {w : World} {b : Nat} {cs : Array Value} {fr : Nat × Nat} (hb : w.heap[b]? = some (.cells cs 107 fr)) (hs : cs.size = 2) {K : Value → World → Prop} (hK : K (.pointer (some ⟨b, 0, none⟩)) w) :
    eG Try.prog (convert 122 105 (.pointer (some ⟨b, 0, none⟩))) w K := by
  obtain ⟨j, hj, hsz⟩ := info_some Try.sz107
  exact ⟨_, w, Go.Lib.run_from_unsafe (P := Try.prog) (cells := 2) (e := 107) w ⟨b, 0, none⟩ Try.underlying122 Try.underlying105 hj (by simp [World.shape?, hb, hs]) (by kernel_rfl), hK⟩
theorem no_escape {w : World} {x : Value} {K : Value → World → Prop} (hK : K x w) : nG Try.prog (callFunc 71 #[x]) w K := by
  refine ⟨x, w, ?_, hK⟩
  rw [run_callFunc_extern (e := Extern.AbiNoEscape.same) Try.func71 (by kernel_rfl) rfl (by kernel_rfl) (by kernel_rfl)]
  rfl
def byteV (c : UInt8) : List Value := [.int .u8 c.toNat]
theorem byteV_flat (l : List UInt8) : (l.map byteV).flatten = u8c l := by
  induction l with
  | nil => rfl
  | cons c l ih => simp only [List.map_cons, List.flatten_cons, ih]; rfl
/-- a builder's buffer, frozen or not -/
def BufT (w : World) (v : Value) (l : List UInt8) (S : List Nat) : Prop :=
  (v = .slice none 0 0 ∧ l = [] ∧ S = []) ∨
  ∃ (bl cap : Nat) (c : Array Value) (fr : Nat × Nat), v = .slice (some ⟨bl, 0, none⟩) l.length cap ∧ S = [bl] ∧ w.heap[bl]? = some (.cells c 5 fr) ∧ l ≠ [] ∧ l.length ≤ c.size ∧ l.length ≤ cap ∧ c.toList.take l.length = u8c l
/-- a builder that may be written on -/
def Bld (w : World) (b : Nat) (l : List UInt8) (S : List Nat) : Prop :=
  ∃ p v SB, w.heap[b]? = some (.cells #[p, v] 107) ∧ (p = .pointer none ∨ p = .pointer (some ⟨b, 0, none⟩)) ∧ RowsT w v 1 5 (l.map byteV) SB ∧ (l = [] → v = .slice none 0 0) ∧ S = b :: SB ∧ b ∉ SB
/-- a builder that is read -/
def BldD (w : World) (b : Nat) (l : List UInt8) (S : List Nat) : Prop :=
  ∃ p v SB, w.heap[b]? = some (.cells #[p, v] 107) ∧ BufT w v l SB ∧ S = b :: SB ∧ b ∉ SB
theorem Bld.keep {w w' : World} {b : Nat} {l : List UInt8} {S S' : List Nat} (h : Bld w b l S) (hk : Kp S' w w') (hd : ∀ x ∈ S, x ∉ S') : Bld w' b l S := by
  obtain ⟨p, v, SB, h1, h2, h3, h4, rfl, h5⟩ := h
  exact ⟨p, v, SB, hk.get h1 (hd b (by simp)), h2, h3.keep hk (fun x hx => hd x (by simp [hx])), h4, rfl, h5⟩
theorem BufT.keep {w w' : World} {v : Value} {l : List UInt8} {S S' : List Nat} (h : BufT w v l S) (hk : Kp S' w w') (hd : ∀ x ∈ S, x ∉ S') : BufT w' v l S := by
  rcases h with h | ⟨bl, cap, c, fr, h1, rfl, h3, h4⟩
  · exact .inl h
  · exact .inr ⟨bl, cap, c, fr, h1, rfl, hk.get h3 (hd bl (by simp)), h4⟩
theorem BldD.keep {w w' : World} {b : Nat} {l : List UInt8} {S S' : List Nat} (h : BldD w b l S) (hk : Kp S' w w') (hd : ∀ x ∈ S, x ∉ S') : BldD w' b l S := by
  obtain ⟨p, v, SB, h1, h2, rfl, h5⟩ := h
  exact ⟨p, v, SB, hk.get h1 (hd b (by simp)), h2.keep hk (fun x hx => hd x (by simp [hx])), rfl, h5⟩
theorem Bld.done {w : World} {b : Nat} {l : List UInt8} {S : List Nat} (h : Bld w b l S) : BldD w b l S := by
  obtain ⟨p, v, SB, h1, h2, h3, h4, rfl, h5⟩ := h
  refine ⟨p, v, SB, h1, ?_, rfl, h5⟩
  by_cases hl : l = []
  · have hv := h4 hl
    subst hl
    rcases h3 with ⟨_, _, h6⟩ | ⟨bl, F, h7, _⟩
    · exact .inl ⟨hv, rfl, h6⟩
    · rw [hv] at h7; cases h7
  · rcases h3 with ⟨_, h6, _⟩ | ⟨bl, F, h7, h8, h9, h10, h11, h12⟩
    · exact absurd (by simpa using h6) hl
    · have hfl := flat_len h10
      simp only [List.length_map] at h7 h11 h12
      refine .inr ⟨bl, F.length, F.flatten.toArray, (0, 0), by rw [h7], h8, h9, hl, ?_, h12, ?_⟩
      · simp only [List.size_toArray, hfl]; omega
      · have := flat_take l.length h10
        rw [Nat.mul_one] at this
        rw [this, h11, byteV_flat]
theorem Bld.live {w : World} {b : Nat} {l : List UInt8} {S : List Nat} (h : Bld w b l S) : ∀ x ∈ S, x < w.heap.size := by
  obtain ⟨p, v, SB, h1, h2, h3, h4, rfl, h5⟩ := h
  intro x hx
  rcases List.mem_cons.1 hx with rfl | hx
  · exact lt_of_blk h1
  · exact h3.at_.lt x hx
theorem bld_new {w : World} : Bld (w.alloc (.cells #[.pointer none, .slice none 0 0] 107)) w.heap.size [] [w.heap.size] :=
  ⟨.pointer none, .slice none 0 0, [], heap_new, .inl rfl, .inl ⟨rfl, rfl, rfl⟩, fun _ => rfl, rfl, by simp⟩
theorem copy_spec {w : World} {b : Nat} {l : List UInt8} {S : List Nat} (h : Bld w b l S) {K : Value → World → Prop} (hK : ∀ w', Bld w' b l S → Kp S w w' → K (.tuple #[]) w') : callG Try.prog 70 #[.pointer (some ⟨b, 0, none⟩)] w K := by
  refine strings_Builder_copyCheck_call ?_
  have h0 := h
  obtain ⟨p, v, SB, h1, h2, h3, h4, rfl, h5⟩ := h
  simp only [strings_Builder_copyCheck, strings_Builder_copyCheck_s0]
  rcases h2 with rfl | rfl
  · simp [-getElem?_pos, -Array.getElem?_eq_getElem, -List.length_flatten, List.getElem?_cons_zero, List.getElem?_cons_succ, h1]
    refine to_unsafe h1 rfl ?_
    refine no_escape ?_
    refine from_unsafe h1 rfl ?_
    have lb := live_of h1
    simp [-getElem?_pos, -Array.getElem?_eq_getElem, -List.length_flatten, List.getElem?_cons_zero, List.getElem?_cons_succ, h1, lb]
    have hk : Kp [b] w (setBlk w b (.cells #[.pointer (some ⟨b, 0, none⟩), v] 107)) := (Kp.refl _ w).setBlk (.inl (by simp)) _
    refine hK _ ⟨_, v, SB, heap_self lb, .inr rfl, h3.keep hk (fun x hx => by simp; intro hh; exact h5 (hh ▸ hx)), h4, rfl, h5⟩ (hk.mono fun x hx _ => by simp at hx; simp [hx])
  · simp [-getElem?_pos, -Array.getElem?_eq_getElem, -List.length_flatten, List.getElem?_cons_zero, List.getElem?_cons_succ, h1]
    rw [bq_psame]
    simp [-getElem?_pos, -Array.getElem?_eq_getElem, -List.length_flatten, List.getElem?_cons_zero, List.getElem?_cons_succ, ]
    exact hK w h0 (Kp.refl _ _)
end Go.Proofs

/- strings.Builder: WriteString, Len, String. -/
set_option linter.unusedVariables false
set_option linter.unusedSimpArgs false
namespace Go.Proofs
open Go Go.Q
theorem app_nothing {w : World} {z : Array Value} {K : Value → World → Prop} (hK : K (.slice none 0 0) w) : app 5 1 1 z (.slice none 0 0) (.string (str [])) w K := by
  unfold app
  simp [srcA]
  exact hK
theorem zc5l : zc Try.prog 5 = [Value.int .u8 0].toArray := by kernel_rfl
theorem WriteString_spec {w : World} {b : Nat} {l : List UInt8} {S : List Nat} (h : Bld w b l S) (s : List UInt8) (hl : l.length + s.length < 2 ^ 40) {K : Value → World → Prop}
    (hK : ∀ w' S', Bld w' b (l ++ s) S' → Kp S w w' → (∀ x ∈ S', x ∈ S ∨ w.heap.size ≤ x) → K (.tuple #[.int .i64 s.length, .nilIface]) w') : callG Try.prog 58 #[.pointer (some ⟨b, 0, none⟩), .string (str s)] w K := by
  refine strings_Builder_WriteString_call ?_
  simp only [strings_Builder_WriteString, strings_Builder_WriteString_s0]
  refine copy_spec h fun w1 h1 hk1 => ?_
  obtain ⟨p, v, SB, g1, g2, g3, g4, rfl, g5⟩ := h1
  have lb := live_of g1
  have hsz := hk1.size
  simp [-getElem?_pos, -Array.getElem?_eq_getElem, -List.length_flatten, List.getElem?_cons_zero, List.getElem?_cons_succ, g1]
  by_cases h0 : l = [] ∧ s = []
  · obtain ⟨rfl, rfl⟩ := h0
    have hv := g4 rfl
    subst hv
    refine app_nothing ?_
    simp [-getElem?_pos, -Array.getElem?_eq_getElem, -List.length_flatten, List.getElem?_cons_zero, List.getElem?_cons_succ, g1, lb]
    have hk : Kp [b] w1 (setBlk w1 b (.cells #[p, .slice none 0 0] 107)) := (Kp.refl _ w1).setBlk (.inl (by simp)) _
    refine hK _ (b :: SB) ⟨p, _, SB, heap_self lb, g2, g3.keep hk (fun x hx => by simp; intro hh; exact g5 (hh ▸ hx)), fun _ => rfl, rfl, g5⟩ (hk1.trans hk fun x hx _ => by simp at hx; simp [hx]) (fun x hx => .inl hx)
  · have hone : ((s.map byteV).flatten).all Q.one = true := by rw [byteV_flat]; have := one_u8c s; rw [List.all_toArray] at this; exact this
    have hsrc : ∀ K' : Nat → Array Value → Prop, K' (s.map byteV).length (s.map byteV).flatten.toArray → srcA 1 (.string (str s)) w1 K' := by
      intro K' hK'
      have he : u8s ((str s).extract 0 s.length) = (u8c s).toArray := by rw [str_extract, List.take_length, List.drop_zero, u8s_eq]; rfl
      rw [byteV_flat, List.length_map] at hK'
      simp only [srcA, str_size, he]
      exact hK'
    rw [zc5l]
    refine rowsT_app (k := 1) (z := [Value.int .u8 0]) (G := s.map byteV) g3 (by omega) rfl (by simp [byteV]) hone hsrc (by simp; omega) (by simp; omega) fun v2 w2 S2 h2 hk2 hS2 => ?_
    have gg := hk2.get g1 g5
    have lb2 := live_of gg
    have hv2 := rows_one h2.at_
    have hbS2 : b ∉ S2 := fun hm => by
      rcases hS2 b hm with h | h
      · exact g5 h
      · have : b < w1.heap.size := lb
        omega
    have hk : Kp [b] w2 (setBlk w2 b (.cells #[p, v2] 107)) := (Kp.refl _ w2).setBlk (.inl (by simp)) _
    simp [-getElem?_pos, -Array.getElem?_eq_getElem, -List.length_flatten, List.getElem?_cons_zero, List.getElem?_cons_succ, gg, lb2, hv2]
    refine hK _ (b :: S2) ⟨p, v2, S2, heap_self lb2, g2, ?_, ?_, rfl, hbS2⟩ ?_ ?_
    · rw [List.map_append]
      exact h2.keep hk (fun x hx => by simp; intro hh; exact hbS2 (hh ▸ hx))
    · intro hn
      exact absurd (by simpa using hn) h0
    · exact (hk1.trans hk2 fun x hx _ => by simp [hx]).trans hk fun x hx _ => by simp at hx; simp [hx]
    · intro x hx
      rcases List.mem_cons.1 hx with rfl | hx
      · exact .inl (by simp)
      · rcases hS2 x hx with h | h
        · exact .inl (by simp [h])
        · exact .inr (by omega)
theorem BufT.lenL {w : World} {v : Value} {l : List UInt8} {S : List Nat} (h : BufT w v l S) {K : Value → Prop} : lenL v K = K (.int .i64 l.length) := by
  rcases h with ⟨h1, h2, _⟩ | ⟨bl, cap, c, fr, h1, _⟩
  · rw [h1, h2]; rfl
  · rw [h1]; rfl
theorem Len_spec {w : World} {b : Nat} {l : List UInt8} {S : List Nat} (h : BldD w b l S) {K : Value → World → Prop} (hK : K (.int .i64 l.length) w) : callG Try.prog 61 #[.pointer (some ⟨b, 0, none⟩)] w K := by
  refine strings_Builder_Len_call ?_
  obtain ⟨p, v, SB, h1, h2, rfl, h5⟩ := h
  simp only [strings_Builder_Len, strings_Builder_Len_s0]
  simp [-getElem?_pos, -Array.getElem?_eq_getElem, -List.length_flatten, List.getElem?_cons_zero, List.getElem?_cons_succ, h1]
  rw [BufT.lenL h2]
  exact hK
theorem freeze_blk {w : World} {bl n : Nat} {c : Array Value} {T : TypeId} {fr : Nat × Nat} (h : w.heap[bl]? = some (.cells c T fr)) (hn : n ≠ 0) : ∃ fr', w.freeze ⟨bl, 0, none⟩ n = setBlk w bl (.cells c T fr') := by
  obtain ⟨lo, hi⟩ := fr
  refine ⟨if lo == hi then (0, 0 + n) else (min lo 0, max hi (0 + n)), ?_⟩
  unfold World.freeze
  rw [if_neg hn]
  unfold setBlk
  congr 1
  apply Array.ext_getElem?
  intro j
  rw [Array.getElem?_modify, Array.getElem?_setIfInBounds]
  by_cases hj : bl = j
  · subst hj
    rw [if_pos rfl, if_pos rfl, h]
    have := (Array.getElem?_eq_some_iff.1 h).1
    rw [if_pos this]
    rfl
  · rw [if_neg hj, if_neg hj]
theorem String_spec {w : World} {b : Nat} {l : List UInt8} {S : List Nat} (h : BldD w b l S) (hl : l.length < 2 ^ 62) {K : Value → World → Prop}
    (hK : ∀ w', BldD w' b l S → Kp S w w' → K (.string (str l)) w') : callG Try.prog 59 #[.pointer (some ⟨b, 0, none⟩)] w K := by
  refine strings_Builder_String_call ?_
  have h0 := h
  obtain ⟨p, v, SB, h1, h2, rfl, h5⟩ := h
  simp only [strings_Builder_String, strings_Builder_String_s0]
  simp [-getElem?_pos, -Array.getElem?_eq_getElem, -List.length_flatten, List.getElem?_cons_zero, List.getElem?_cons_succ, h1]
  rw [BufT.lenL h2]
  have hkd : Kp (b :: SB) w w.drew := (Kp.refl _ _).drew
  rcases h2 with ⟨rfl, rfl, rfl⟩ | ⟨bl, cap, c, fr, rfl, rfl, g3, g4, g5, g6, g7⟩
  · refine ⟨_, _, Go.Lib.run_unsafeSliceData_nil _ _ _ _ _, ?_⟩
    simp [-getElem?_pos, -Array.getElem?_eq_getElem, -List.length_flatten, List.getElem?_cons_zero, List.getElem?_cons_succ, h1]
    refine ⟨_, _, Go.Lib.run_unsafeString_none _ _ _ _ _, ?_⟩
    exact hK w.drew h0 hkd
  · have hpos : l.length ≠ 0 := by simpa using g4
    refine ⟨_, _, Go.Lib.run_unsafeSliceData_row _ _ _ _ _ _ (by omega), ?_⟩
    simp [-getElem?_pos, -Array.getElem?_eq_getElem, -List.length_flatten, List.getElem?_cons_zero, List.getElem?_cons_succ, h1]
    refine ⟨_, _, Go.Lib.run_unsafeString_row (e := 5) w.drew 121 3 9 Try.underlying121 Try.cellsOf5 bl c.size (by simp [World.shape?, g3]) l g4 g5 (by omega) ?_, ?_⟩
    · intro j x hx
      have hj : j < l.length := (List.getElem?_eq_some_iff.1 hx).1
      have : c.toList[j]? = (u8c l)[j]? := by rw [← g7, List.getElem?_take_of_lt hj]
      simp only [add_mk, World.cell?, heap_drew, g3, Nat.zero_add]
      rw [← Array.getElem?_toList, this]
      simp [u8c, hx]
    · obtain ⟨fr', hf⟩ := freeze_blk (w := w.drew) (bl := bl) (n := l.length) g3 hpos
      rw [hf]
      have hk : Kp [bl] w.drew (setBlk w.drew bl (.cells c 5 fr')) := (Kp.refl _ _).setBlk (.inl (by simp)) _
      have hne : ¬ b = bl := by simpa using h5
      refine hK _ ⟨p, _, [bl], by rw [heap_ne (fun h => hne h.symm)]; exact h1, .inr ⟨bl, cap, c, fr', rfl, rfl, heap_self (live_of g3), g4, g5, g6, g7⟩, rfl, h5⟩ (hkd.trans hk fun x hx _ => by simp at hx; simp [hx])
end Go.Proofs

/- Layer 4: a log is opened. -/
set_option linter.unusedVariables false
set_option linter.unusedSimpArgs false
namespace Go.Proofs
open Go Go.Q
def allOf (d : DK) (lo n : Nat) : List UInt8 := ((d.now.drop lo).take n).flatten
theorem allOf_succ {d : DK} {lo n : Nat} (h : lo + n < d.now.length) : allOf d lo (n + 1) = allOf d lo n ++ d.now.getD (lo + n) [] := by
  unfold allOf
  rw [List.take_succ_eq_append_getElem (by simp; omega), List.flatten_append]
  simp [List.getD, h]
theorem allOf_len {d : DK} (ok : d.Ok) {lo n : Nat} (h : lo + n ≤ d.now.length) : (allOf d lo n).length = 32 * n := by
  unfold allOf
  rw [flat_len (k := 32) (fun x hx => ok.sz2 x (List.mem_of_mem_drop (List.mem_of_mem_take hx)))]
  simp; omega
theorem mk_func {f : FuncId} {caps : Array Value} {w : World} {K : Value → Prop} : qG Try.prog (Instr.makeFunc (.func f) #[] caps) w K = K (.func (.func f) #[] caps) := qG_of rfl
theorem has57 : hasBody Try.prog 57 = true := by kernel_rfl
theorem open_fn {w : World} {b xb bb : Nat} {d : DK} {S SB : List Nat} {l : List UInt8} (h : DiskAt w b d S) (hx : w.heap[xb]? = some (.cells #[.pointer (some ⟨b, 0, none⟩)] 23)) (hb : Bld w bb l SB) (at_ : Int) (hl : l.length + (d.read at_).1.length < 2 ^ 40) {K : Value → World → Prop}
    (hK : ∀ w' SB', Bld w' bb (l ++ (d.read at_).1) SB' → Kp SB w w' → (∀ x ∈ SB', x ∈ SB ∨ w.heap.size ≤ x) → K (.int .i64 (d.read at_).2) w') : callG Try.prog 57 #[.int .i64 at_, .pointer (some ⟨xb, 0, none⟩), .pointer (some ⟨bb, 0, none⟩)] w K := by
  refine wal_Open_1_call ?_
  simp only [wal_Open_1, wal_Open_1_s0]
  simp [-getElem?_pos, -Array.getElem?_eq_getElem, -List.length_flatten, List.getElem?_cons_zero, List.getElem?_cons_succ, hx]
  refine Read_spec h at_ ?_
  rw [ex0, ex1]
  exact WriteString_spec hb _ hl fun w' SB' h' hk hS => hK w' SB' h' hk hS
theorem open_sectors {w : World} {w0s : Nat} {b xb bb : Nat} {d : DK} {S SB : List Nat} {lo hi : Nat} {lp : Value} (h : DiskAt w b d S) (ok : d.Ok) (hoff : d.off = false) (hx : w.heap[xb]? = some (.cells #[.pointer (some ⟨b, 0, none⟩)] 23)) (hb : Bld w bb [] SB)
    (hd : ∀ x ∈ SB, w0s ≤ x) (hS0 : ∀ x ∈ S, x < w0s) (hx0 : xb ∉ SB) (hxs : w0s ≤ xb) (hxw : xb < w.heap.size) (hws : w0s ≤ w.heap.size) (hlh : lo ≤ hi) (hhi : hi ≤ d.now.length) {K : Value → World → Prop}
    (hK : ∀ w' SB', Bld w' bb (allOf d lo (hi - lo)) SB' → (∀ x ∈ SB', x ∈ SB ∨ w.heap.size ≤ x) → Kp SB w w' → K (.int .i64 0) w') :
    callG Try.prog 56 #[lp, .int .i64 lo, .int .i64 hi, .func (.func 57) #[] #[.pointer (some ⟨xb, 0, none⟩), .pointer (some ⟨bb, 0, none⟩)]] w K := by
  refine wal_Log_sectors_call ?_
  simp only [wal_Log_sectors, wal_Log_sectors_s4, wal_Log_sectors_s3]
  unfold wal_Log_sectors_L2
  have hmost := ok.most
  refine loop_inv (fun m xs wi => ∃ i SBi, lo + i ≤ hi ∧ m = hi - lo - i ∧ xs = [.int .i64 hi, .func (.func 57) #[] #[.pointer (some ⟨xb, 0, none⟩), .pointer (some ⟨bb, 0, none⟩)], .int .i64 ((lo + i : Nat) : Int)] ∧
      Bld wi bb (allOf d lo i) SBi ∧ (∀ x ∈ SBi, x ∈ SB ∨ w.heap.size ≤ x) ∧ Kp SB w wi)
    ?_ (m := hi - lo) ⟨0, SB, by omega, rfl, by rw [Nat.add_zero], by simpa [allOf] using hb, fun x hx => .inl hx, Kp.refl _ _⟩
  rintro m N xs wi ⟨i, SBi, hi', rfl, rfl, hbi, hSi, hki⟩ hN
  simp only [wal_Log_sectors_L2F, wal_Log_sectors_b1, bq_lss, bV_b]
  refine ⟨fun hlt => ?_, fun hge => ?_⟩
  · have hlt : lo + i < hi := by simp at hlt; omega
    refine ⟨has57, ?_⟩
    have hdi : DiskAt wi b d S := h.keep hki fun x hx hm => by have := hd x hm; have := hS0 x hx; omega
    have hxi := hki.get hx hx0
    have hr : d.read ((lo + i : Nat) : Int) = (d.now.getD (lo + i) [], 0) := by
      unfold DK.read
      rw [if_pos ⟨by omega, by omega⟩, if_neg (by simp [hoff]), Int.toNat_natCast]
    have hal := allOf_len ok (lo := lo) (n := i) (by omega)
    have hal2 := allOf_len ok (lo := lo) (n := i + 1) (by omega)
    have hsucc := allOf_succ (d := d) (lo := lo) (n := i) (by omega)
    have hg32 : (d.now.getD (lo + i) []).length ≤ 32 := by
      rw [hsucc, List.length_append] at hal2; omega
    refine open_fn hdi hxi hbi _ (by rw [hr]; simp only; omega) fun w' SB' hb' hk' hS' => ?_
    rw [hr] at hb' ⊢
    simp only at hb'
    rw [← hsucc] at hb'
    have hiw : IntKind.i64.wrap (((lo + i : Nat) : Int) + 1) = ((lo + (i + 1) : Nat) : Int) := by rw [w64 (by omega) (by omega)]; omega
    have hks := hki.size
    have hkk : Kp SB w w' := hki.trans hk' fun x hx hlt => by
      rcases hSi x hx with h | h
      · exact h
      · omega
    have hiw2 : IntKind.i64.wrap ((lo : Int) + (i : Int) + 1) = ((lo + (i + 1) : Nat) : Int) := by rw [w64 (by omega) (by omega)]; omega
    simp [-getElem?_pos, -Array.getElem?_eq_getElem, -List.length_flatten, List.getElem?_cons_zero, List.getElem?_cons_succ, ]
    rw [hiw2]
    refine hN (hi - lo - (i + 1)) _ _ (by omega) ⟨i + 1, SB', by omega, rfl, rfl, hb', fun x hx => ?_, hkk⟩
    rcases hS' x hx with h | h
    · exact hSi x h
    · exact .inr (by omega)
  · have hie : i = hi - lo := by simp at hge; omega
    subst hie
    unfold wal_Log_sectors_s0
    exact hK wi SBi hbi hSi hki
theorem zc107 : zc Try.prog 107 = #[.pointer none, .slice none 0 0] := by kernel_rfl
theorem zc71 : zc Try.prog 71 = #[.pointer none, .int .i64 0, .int .i64 0, .int .i64 0, .slice none 0 0, .string (str [])] := by kernel_rfl
theorem bld71 {x0 x1 x2 x3 : Value} (h0 : one x0 = true) (h1 : one x1 = true) (h2 : one x2 = true) (h3 : one x3 = true) {k : Value → Prop} :
    bld [(0, 1), (1, 1), (2, 1), (3, 1), (4, 1), (5, 1)] (zc Try.prog 71) #[(0, x0), (1, x1), (2, x2), (3, x3)] k = k (.agg #[x0, x1, x2, x3, .slice none 0 0, .string (str [])]) := by
  have g0 := cells_one h0
  have g1 := cells_one h1
  have g2 := cells_one h2
  have g3 := cells_one h3
  rw [zc71]
  unfold bld
  rw [fill_step (off := 0) (size := 1) rfl (by rw [g0]; rfl) (by simp), g0]
  rw [fill_step (off := 1) (size := 1) rfl (by rw [g1]; rfl) (by simp [splice]), g1]
  rw [fill_step (off := 2) (size := 1) rfl (by rw [g2]; rfl) (by simp [splice]), g2]
  rw [fill_step (off := 3) (size := 1) rfl (by rw [g3]; rfl) (by simp [splice]), g3]
  rfl
theorem scanL_used (t : Int) : ∀ f s, usedOf (scanL t f s) ≤ s.length := by
  intro f
  induction f with
  | zero => intro s; simp [scanL, usedOf]
  | succ f ih =>
    intro s
    unfold scanL
    split
    · rename_i h
      obtain ⟨_, _, _, n4, _⟩ := (next_frame t s).1 h
      have h1 := ih (s.drop (10 + lenAt s))
      have h2 := recOf_len n4
      rw [List.length_drop] at h1
      simp only [usedOf, List.map_cons, List.sum_cons] at h1 ⊢
      omega
    · simp [usedOf]
theorem scan_used (t : Int) (s : List UInt8) : usedOf (scan t s) ≤ s.length := scanL_used t _ s
theorem open_kp {w0 : Nat} {w w' : World} {S : List Nat} (h : Kp S w w') (hS : ∀ x ∈ S, w0 ≤ x) {w0w : World} (hk : Kp [] w0w w) (he : w0 = w0w.heap.size) : Kp [] w0w w' :=
  hk.trans h fun x hx hlt => by have := hS x hx; omega
theorem Open_ok {w : World} {b : Nat} {d : DK} {S : List Nat} (h : DiskAt w b d S) (hoff : d.off = false) {lo hi : Nat} (hlh : lo < hi) (hhi : hi ≤ d.now.length) {turn : Int} (ht : turnOk turn = true) {K : Value → World → Prop}
    (hK : ∀ w' a lv SL, LogIs w' a b ⟨lo, hi, turn, scan turn (allOf d lo (hi - lo)), (allOf d lo (hi - lo)).take (usedOf (scan turn (allOf d lo (hi - lo))))⟩ SL lv → Kp [] w w' → w.heap.size ≤ a → (∀ x ∈ SL, w.heap.size ≤ x) →
      K (.tuple #[.pointer (some ⟨a, 0, none⟩), .int .i64 0]) w') : callG Try.prog 35 #[.pointer (some ⟨b, 0, none⟩), .int .i64 lo, .int .i64 hi, .int .i64 turn] w K := by
  refine wal_Open_call ?_
  have ok : d.Ok := by obtain ⟨bs, bn, lv, SL, T, Ts, Tn, rfl, hd⟩ := h; exact hd.ok
  have hSlt : ∀ y ∈ S, y < w.heap.size := fun y hy => by
    obtain ⟨bs, bn, lv, SL, T, Ts, Tn, rfl, hd⟩ := h
    exact hd.live y hy
  have hmost := ok.most
  simp only [wal_Open, wal_Open_s1]
  rw [newG_k]
  obtain ⟨n, hn⟩ : ∃ n, n = w.heap.size := ⟨_, rfl⟩
  obtain ⟨w1, hw1⟩ : ∃ w1, w1 = w.alloc (.cells (Value.cells (.pointer (some ⟨b, 0, none⟩))) 23) := ⟨_, rfl⟩
  have hk1 : Kp [] w w1 := by rw [hw1]; exact (Kp.refl [] w).alloc _
  have hX1 : w1.heap[n]? = some (.cells #[.pointer (some ⟨b, 0, none⟩)] 23) := by rw [hw1, hn]; exact heap_new
  have hs1 : w1.heap.size = n + 1 := by rw [hw1, hn]; simp
  rw [← hn, ← hw1]
  have hlo : ¬ (lo : Int) < 0 := by omega
  simp [-getElem?_pos, -Array.getElem?_eq_getElem, -List.length_flatten, List.getElem?_cons_zero, List.getElem?_cons_succ, hX1]
  refine ⟨fun hbad => by omega, Size_spec (h.keep hk1 (by simp)) ?_⟩
  simp [-getElem?_pos, -Array.getElem?_eq_getElem, -List.length_flatten, List.getElem?_cons_zero, List.getElem?_cons_succ, ]
  refine ⟨fun hbad => by omega, fun _ => ⟨fun hbad => by omega, fun _ => ?_⟩⟩
  refine right_spec turn ?_
  simp [-getElem?_pos, -Array.getElem?_eq_getElem, -List.length_flatten, List.getElem?_cons_zero, List.getElem?_cons_succ, ht]
  unfold wal_Open_s0
  simp only [ld1_p, rd1_mk, hX1]
  have hget : (#[Value.pointer (some ⟨b, 0, none⟩)] : Array Value)[0]? = some (.pointer (some ⟨b, 0, none⟩)) := rfl
  simp only [hget]
  rw [bld71 rfl rfl rfl rfl, newG_k, newG_k, mk_func, zc107]
  have hcells : Value.cells (.agg #[.pointer (some ⟨b, 0, none⟩), .int .i64 lo, .int .i64 hi, .int .i64 turn, .slice none 0 0, .string (str [])]) = #[.pointer (some ⟨b, 0, none⟩), .int .i64 lo, .int .i64 hi, .int .i64 turn, .slice none 0 0, .string (str [])] := rfl
  rw [hcells]
  obtain ⟨w2, hw2⟩ : ∃ w2, w2 = w1.alloc (.cells #[.pointer (some ⟨b, 0, none⟩), .int .i64 lo, .int .i64 hi, .int .i64 turn, .slice none 0 0, .string (str [])] 71) := ⟨_, rfl⟩
  have hk2 : Kp [] w1 w2 := by rw [hw2]; exact (Kp.refl [] w1).alloc _
  have hA2 : w2.heap[n + 1]? = some (.cells #[.pointer (some ⟨b, 0, none⟩), .int .i64 lo, .int .i64 hi, .int .i64 turn, .slice none 0 0, .string (str [])] 71) := by rw [hw2, ← hs1]; exact heap_new
  have hs2 : w2.heap.size = n + 2 := by rw [hw2]; simp [hs1]
  rw [← hw2, hs1, hs2]
  obtain ⟨w3, hw3⟩ : ∃ w3, w3 = w2.alloc (.cells #[.pointer none, .slice none 0 0] 107) := ⟨_, rfl⟩
  have hk3 : Kp [] w2 w3 := by rw [hw3]; exact (Kp.refl [] w2).alloc _
  have hB3 : Bld w3 (n + 2) [] [n + 2] := by rw [hw3, ← hs2]; exact bld_new
  have hs3 : w3.heap.size = n + 3 := by rw [hw3]; simp [hs2]
  rw [← hw3]
  have hk13 := (hk1.trans' hk2).trans' hk3
  have hX3 := (hk2.trans' hk3).get hX1 (by simp)
  have hA3 := hk3.get hA2 (by simp)
  refine open_sectors (w0s := n) (SB := [n + 2]) (h.keep hk13 (by simp)) ok hoff hX3 hB3 (by simp) (by intro x hx; have := hSlt x hx; omega) (by simp) (by omega) (by omega) (by omega) (by omega) hhi fun w4 SB4 hB4 hS4 hk4 => ?_
  obtain ⟨all, hall⟩ : ∃ all, all = allOf d lo (hi - lo) := ⟨_, rfl⟩
  have hlen : all.length = 32 * (hi - lo) := by rw [hall]; exact allOf_len ok (by omega)
  rw [← hall] at hB4 hK
  have hA4 := hk4.get hA3 (by simp)
  have hs4 := hk4.size
  have hS4' : ∀ x ∈ SB4, n + 2 ≤ x := fun x hx => by
    rcases hS4 x hx with h | h
    · simp at h; omega
    · omega
  have ha4 : n + 1 ∉ SB4 := fun hm => by have := hS4' _ hm; omega
  simp [-getElem?_pos, -Array.getElem?_eq_getElem, -List.length_flatten, List.getElem?_cons_zero, List.getElem?_cons_succ, ]
  refine String_spec hB4.done (by omega) fun w5 hB5 hk5 => ?_
  have hs5 := hk5.size
  refine Scan_spec turn all (by omega) fun w6 v S6 hr6 hk6 hS6 => ?_
  have hA6 := hk6.get (hk5.get hA4 ha4) (by simp)
  have l6 := live_of hA6
  have hs6 := hk6.size
  have hv := rows_one hr6
  rw [ex0, ex1]
  simp [-getElem?_pos, -Array.getElem?_eq_getElem, -List.length_flatten, List.getElem?_cons_zero, List.getElem?_cons_succ, hA6, l6, hv]
  obtain ⟨w7, hw7⟩ : ∃ w7, w7 = setBlk w6 (n + 1) (.cells #[.pointer (some ⟨b, 0, none⟩), .int .i64 lo, .int .i64 hi, .int .i64 turn, v, .string (str [])] 71) := ⟨_, rfl⟩
  have hk7 : Kp [n + 1] w6 w7 := by rw [hw7]; exact (Kp.refl _ w6).setBlk (.inl (by simp)) _
  have hA7 : w7.heap[n + 1]? = some (.cells #[.pointer (some ⟨b, 0, none⟩), .int .i64 lo, .int .i64 hi, .int .i64 turn, v, .string (str [])] 71) := by rw [hw7]; exact heap_self l6
  rw [← hw7]
  have hB7 := (hB5.keep hk6 (by simp)).keep hk7 fun x hx => by have := hS4' x hx; simp; omega
  refine String_spec hB7 (by omega) fun w8 hB8 hk8 => ?_
  have hA8 := hk8.get hA7 ha4
  have l8 := live_of hA8
  have hus := scan_used turn all
  have hext : (str all).extract 0 (usedOf (scan turn all)) = str (all.take (usedOf (scan turn all))) := by rw [str_extract]; rfl
  simp [-getElem?_pos, -Array.getElem?_eq_getElem, -List.length_flatten, List.getElem?_cons_zero, List.getElem?_cons_succ, hA8, l8, hext, hus]
  have hk9 : Kp [n + 1] w8 (setBlk w8 (n + 1) (.cells #[.pointer (some ⟨b, 0, none⟩), .int .i64 lo, .int .i64 hi, .int .i64 turn, v, .string (str (all.take (usedOf (scan turn all))))] 71)) := (Kp.refl _ w8).setBlk (.inl (by simp)) _
  have hne6 : ∀ x ∈ S6, x ≠ n + 1 ∧ x ∉ SB4 := fun x hx => by
    have h5 := hS6 x hx
    refine ⟨by omega, fun hm => ?_⟩
    have hlive := (hB5.keep (Kp.refl [] w5) (by simp))
    have : x < w4.heap.size := hB4.live x hm
    omega
  have e1 : Kp [] w w6 := ((open_kp hk4 (w0 := n) (by simp) hk13 hn).trans hk5 fun x hx hlt => by have := hS4' x hx; omega).trans' hk6
  have e2 : Kp [] w w8 := (e1.trans hk7 fun x hx hlt => by simp at hx; omega).trans hk8 fun x hx hlt => by have := hS4' x hx; omega
  refine hK _ (n + 1) v S6 ⟨heap_self l8, ?_, fun hm => (hne6 _ hm).1 rfl⟩ (e2.trans hk9 fun x hx hlt => by simp at hx; omega) (by omega) (fun x hx => by have := hS6 x hx; have := hk13.size; omega)
  exact ((hr6.keep hk7 fun x hx => by have := hne6 x hx; simp; exact this.1).keep hk8 fun x hx => (hne6 x hx).2).keep hk9 fun x hx => by have := hne6 x hx; simp; exact this.1
end Go.Proofs

/- Layer 4: Sync; one sector of a log is written. -/
set_option linter.unusedVariables false
set_option linter.unusedSimpArgs false
namespace Go.Proofs
open Go Go.Q
theorem Sync_spec {w : World} {a b : Nat} {g : LG} {SL S : List Nat} {lv : Value} {d : DK} (h : LogIs w a b g SL lv) (hd : DiskAt w b d S) (hl : d.l.length < 2 ^ 40) {K : Value → World → Prop}
    (hK : ∀ w', DiskAt w' b d.flush.1 S → Kp S w w' → K (.int .i64 d.flush.2) w') : callG Try.prog 39 #[.pointer (some ⟨a, 0, none⟩)] w K := by
  refine wal_Log_Sync_call ?_
  simp only [wal_Log_Sync, wal_Log_Sync_s0]
  refine given_spec h ?_
  simp [-getElem?_pos, -Array.getElem?_eq_getElem, -List.length_flatten, List.getElem?_cons_zero, List.getElem?_cons_succ, h.1]
  exact Flush_spec hd hl hK
/-- the bytes of a log's sector 'k' -/
def secOf (all : List UInt8) (k : Nat) : List UInt8 := (all.take (min (32 * k + 32) all.length)).drop (32 * k)
/-- one sector is written: what is there is kept behind the log's bytes -/
def putK (d : DK) (lo : Nat) (all : List UInt8) (k : Nat) : DK × Int :=
  if (d.read ((lo + k : Nat) : Int)).2 = 0 then d.write ((lo + k : Nat) : Int) (secOf all k ++ (d.read ((lo + k : Nat) : Int)).1.drop (secOf all k).length) else (d, (d.read ((lo + k : Nat) : Int)).2)
theorem read_len {d : DK} (ok : d.Ok) {at_ : Int} (h : (d.read at_).2 = 0) : (d.read at_).1.length = 32 := by
  unfold DK.read at h ⊢
  split
  · rename_i hc
    rw [if_pos hc] at h
    split
    · rename_i ho; rw [if_pos ho] at h; simp at h
    · have hi : at_.toNat < d.now.length := by omega
      simp only [List.getD, List.getElem?_eq_getElem hi, Option.getD_some]
      exact ok.sz2 _ (List.getElem_mem hi)
  · rename_i hc
    rw [if_neg hc] at h
    simp at h
theorem add_fn {w : World} {a b xa xl : Nat} {g : LG} {SL S : List Nat} {lv : Value} {d : DK} {all : List UInt8} (h : LogIs w a b g SL lv) (hd : DiskAt w b d S) (hl : d.l.length < 2 ^ 40)
    (hxa : w.heap[xa]? = some (.cells #[.string (str all)] 9)) (hxl : w.heap[xl]? = some (.cells #[.pointer (some ⟨a, 0, none⟩)] 64)) {k lo : Nat} (hlo : g.lo = (lo : Int)) (hk : 32 * k < all.length) (hall : all.length < 2 ^ 40) (hlo2 : lo < 2 ^ 40) {K : Value → World → Prop}
    (hK : ∀ w' S', DiskAt w' b (putK d lo all k).1 S' → Kp S w w' → (∀ x ∈ S', x ∈ S ∨ w.heap.size ≤ x) → K (.int .i64 (putK d lo all k).2) w') :
    callG Try.prog 62 #[.int .i64 k, .pointer (some ⟨xa, 0, none⟩), .pointer (some ⟨xl, 0, none⟩)] w K := by
  refine wal_Log_Add_1_call ?_
  simp only [wal_Log_Add_1, wal_Log_Add_1_s0]
  have ok : d.Ok := by obtain ⟨bs, bn, lv, SL, T, Ts, Tn, rfl, hd⟩ := hd; exact hd.ok
  have h32 : IntKind.i64.wrap (32 * (k : Int)) = 32 * (k : Int) := w64 (by omega) (by omega)
  have h64 : IntKind.i64.wrap (32 * (k : Int) + 32) = 32 * (k : Int) + 32 := w64 (by omega) (by omega)
  obtain ⟨x, hx⟩ : ∃ x, x = min (32 * k + 32) all.length := ⟨_, rfl⟩
  have hmin : min (32 * (k : Int) + 32) (all.length : Int) = (x : Int) := by omega
  have hlk : IntKind.i64.wrap ((lo : Int) + (k : Int)) = (lo : Int) + (k : Int) := w64 (by omega) (by omega)
  have hA := h.1
  rw [hlo] at hA
  have htn : (32 * (k : Int)).toNat = 32 * k := by omega
  have hsec : (str all).extract (32 * k) x = str (secOf all k) := by rw [str_extract, hx]; rfl
  have hb1 : (0 : Int) ≤ x ∧ (x : Int) ≤ all.length := by omega
  have hb2 : (0 : Int) ≤ 32 * (k : Int) ∧ 32 * (k : Int) ≤ x := by omega
  have hsl : (secOf all k).length = x - 32 * k := by unfold secOf; rw [← hx]; simp; omega
  simp [-getElem?_pos, -Array.getElem?_eq_getElem, -List.length_flatten, List.getElem?_cons_zero, List.getElem?_cons_succ, hxa, hxl, hA, h32, h64, hmin, hlk, htn, hsec]
  refine ⟨by omega, by omega, ?_⟩
  refine Read_spec (hd.keep (Kp.refl [] w).drew (by simp)) _ ?_
  unfold putK at hK
  have hcast : ((lo + k : Nat) : Int) = (lo : Int) + (k : Int) := by simp
  rw [hcast] at hK
  simp [-getElem?_pos, -Array.getElem?_eq_getElem, -List.length_flatten, List.getElem?_cons_zero, List.getElem?_cons_succ, hxa, hxl, hA, hlk]
  have hmx : min x all.length = x := by omega
  rw [hmx]
  have hkd : Kp S w w.drew.drew := (Kp.refl _ _).drew.drew
  refine ⟨fun he => ?_, fun h0 => ⟨?_, ?_⟩⟩
  · rw [if_neg he] at hK
    exact hK w.drew S (hd.keep (Kp.refl [] w).drew (by simp)) (Kp.refl _ _).drew (fun x hx => .inl hx)
  · have := read_len ok h0
    omega
  · have hr := read_len ok h0
    rw [if_pos h0] at hK
    have hext : (str (d.read ((lo : Int) + (k : Int))).1).extract (x - 32 * k) (d.read ((lo : Int) + (k : Int))).1.length = str ((d.read ((lo : Int) + (k : Int))).1.drop (secOf all k).length) := by
      rw [str_extract, List.take_length, hsl]
    rw [hext, bq_sadd (by simp [hsl]; omega), str_append]
    refine Write_spec (hd.keep (Kp.refl [] w).drew.drew (by simp)) hl _ _ fun w' S' h' hk hS => ?_
    exact hK w' S' h' (hkd.trans' hk) hS
end Go.Proofs

/- Layer 4: a log's sectors are written. -/
set_option linter.unusedVariables false
set_option linter.unusedSimpArgs false
namespace Go.Proofs
open Go Go.Q
theorem write_l (d : DK) (at_ : Int) (s : List UInt8) : (d.write at_ s).1.l.length ≤ d.l.length + 1 := by
  obtain ⟨b1, b2⟩ := burns_same d
  unfold DK.write
  split
  · split
    · simp
    · show d.burns.1.l.length ≤ d.l.length + 1
      rw [b2]; omega
  · exact Nat.le_succ _
theorem putK_l (d : DK) (lo : Nat) (all : List UInt8) (k : Nat) : (putK d lo all k).1.l.length ≤ d.l.length + 1 := by
  unfold putK
  split
  · exact write_l _ _ _
  · exact Nat.le_succ _
def putN (lo : Nat) (all : List UInt8) : DK → Nat → Nat → DK × Int
  | d, _, 0 => (d, 0)
  | d, k, n + 1 => if (putK d lo all k).2 = 0 then putN lo all (putK d lo all k).1 (k + 1) n else putK d lo all k
theorem has62 : hasBody Try.prog 62 = true := by kernel_rfl
theorem add_sectors {w : World} {a b xa xl : Nat} {g : LG} {SL S : List Nat} {lv lp : Value} {d : DK} {all : List UInt8} (h : LogIs w a b g SL lv) (hd : DiskAt w b d S)
    (hxa : w.heap[xa]? = some (.cells #[.string (str all)] 9)) (hxl : w.heap[xl]? = some (.cells #[.pointer (some ⟨a, 0, none⟩)] 64)) {first last lo : Nat} (hlo : g.lo = (lo : Int)) (hk : 32 * last < all.length + 32) (hfl : first ≤ last) (hall : all.length < 2 ^ 30) (hlo2 : lo < 2 ^ 40)
    (hl : d.l.length + (last - first) < 2 ^ 40) (haS : a ∉ S) (hxaS : xa ∉ S) (hxlS : xl ∉ S) (hSL : ∀ x ∈ SL, x ∉ S) {K : Value → World → Prop}
    (hK : ∀ w' S', DiskAt w' b (putN lo all d first (last - first)).1 S' → Kp S w w' → (∀ x ∈ S', x ∈ S ∨ w.heap.size ≤ x) → K (.int .i64 (putN lo all d first (last - first)).2) w') :
    callG Try.prog 56 #[lp, .int .i64 first, .int .i64 last, .func (.func 62) #[] #[.pointer (some ⟨xa, 0, none⟩), .pointer (some ⟨xl, 0, none⟩)]] w K := by
  refine wal_Log_sectors_call ?_
  simp only [wal_Log_sectors, wal_Log_sectors_s4, wal_Log_sectors_s3]
  unfold wal_Log_sectors_L2
  have ha : a < w.heap.size := lt_of_blk h.1
  have hxa' : xa < w.heap.size := lt_of_blk hxa
  have hxl' : xl < w.heap.size := lt_of_blk hxl
  refine loop_inv (fun m xs wi => ∃ k dk Sk, first ≤ k ∧ k ≤ last ∧ m = last - k ∧ xs = [.int .i64 last, .func (.func 62) #[] #[.pointer (some ⟨xa, 0, none⟩), .pointer (some ⟨xl, 0, none⟩)], .int .i64 (k : Nat)] ∧
      putN lo all d first (last - first) = putN lo all dk k (last - k) ∧ DiskAt wi b dk Sk ∧ dk.l.length ≤ d.l.length + (k - first) ∧ Kp S w wi ∧ ∀ x ∈ Sk, x ∈ S ∨ w.heap.size ≤ x)
    ?_ (m := last - first) ⟨first, d, S, by omega, hfl, rfl, rfl, rfl, hd, by omega, Kp.refl _ _, fun x hx => .inl hx⟩
  rintro m N xs wi ⟨k, dk, Sk, hk1, hk2, rfl, rfl, hput, hdk, hlk, hkp, hSk⟩ hN
  simp only [wal_Log_sectors_L2F, wal_Log_sectors_b1, bq_lss, bV_b]
  refine ⟨fun hlt => ?_, fun hge => ?_⟩
  · have hlt : k < last := by simp at hlt; omega
    refine ⟨has62, ?_⟩
    have hi := h.keep hkp haS hSL
    refine add_fn hi hdk (by omega) (hkp.get hxa hxaS) (hkp.get hxl hxlS) (k := k) hlo (by omega) (by omega) hlo2 fun w' S' hd' hk' hS' => ?_
    have hks := hkp.size
    have hkk : Kp S w w' := hkp.trans hk' fun x hx hlt => by
      rcases hSk x hx with h | h
      · exact h
      · omega
    have hSS : ∀ x ∈ S', x ∈ S ∨ w.heap.size ≤ x := fun x hx => by
      rcases hS' x hx with h | h
      · exact hSk x h
      · exact .inr (by omega)
    have hn : last - k = (last - (k + 1)) + 1 := by omega
    rw [hn] at hput
    simp only [putN] at hput
    simp [-getElem?_pos, -Array.getElem?_eq_getElem, -List.length_flatten, List.getElem?_cons_zero, List.getElem?_cons_succ, ]
    refine ⟨fun he => ?_, fun he => ?_⟩
    · rw [if_neg he] at hput
      have := hK w' S' (by rw [hput]; exact hd') hkk hSS
      rw [hput] at this
      exact this
    · rw [if_pos he] at hput
      have hiw : IntKind.i64.wrap ((k : Int) + 1) = ((k + 1 : Nat) : Int) := by rw [w64 (by omega) (by omega)]; simp
      rw [hiw]
      have hpl := putK_l dk lo all k
      exact hN (last - (k + 1)) _ _ (by omega) ⟨k + 1, _, S', by omega, by omega, rfl, rfl, hput, hd', by omega, hkk, hSS⟩
  · have hke : k = last := by simp at hge; omega
    subst hke
    rw [Nat.sub_self] at hput
    unfold wal_Log_sectors_s0
    have := hK wi Sk (by rw [hput]; exact hdk) hkp hSk
    rw [hput] at this
    exact this
end Go.Proofs

/- Layer 4: what is added, ahead of the writes. -/
set_option linter.unusedVariables false
set_option linter.unusedSimpArgs false
namespace Go.Proofs
open Go Go.Q
def addRun (turn room : Int) : List (List UInt8) → List UInt8 → Bool → Int × List UInt8 × Bool
  | [], b, full => (0, b, full)
  | s :: r, b, full =>
    if (frame turn s).2 = 0 then
      (if full = true ∨ ((frame turn s).1.length : Int) > room - (b.length : Int) then addRun turn room r b true else addRun turn room r (b ++ (frame turn s).1) false)
    else ((frame turn s).2, b, full)
theorem addRun_cons (turn room : Int) (s : List UInt8) (r : List (List UInt8)) (b : List UInt8) (full : Bool) : addRun turn room (s :: r) b full =
    if (frame turn s).2 = 0 then
      (if full = true ∨ ((frame turn s).1.length : Int) > room - (b.length : Int) then addRun turn room r b true else addRun turn room r (b ++ (frame turn s).1) false)
    else ((frame turn s).2, b, full) := rfl
theorem addRun_len (turn room : Int) (hr : 0 ≤ room) : ∀ (r : List (List UInt8)) (b : List UInt8) (full : Bool), (b.length : Int) ≤ room → ((addRun turn room r b full).2.1.length : Int) ≤ room := by
  intro r
  induction r with
  | nil => intro b full h; exact h
  | cons s r ih =>
    intro b full h
    unfold addRun
    split
    · split
      · exact ih b true h
      · rename_i hn
        refine ih _ _ ?_
        rw [not_or] at hn
        rw [List.length_append]
        omega
    · exact h
theorem frame_len_le (t : Int) (s : List UInt8) : (frame t s).1.length ≤ 1034 := by
  unfold frame
  split
  · rename_i h; rw [frameB_len]; omega
  · simp
theorem add_loop {w : World} {a bb xl b : Nat} {g : LG} {SL SB : List Nat} {lv gv : Value} {group : List (List UInt8)} {SG : List Nat} {room : Int} {R : Value → World → Prop}
    (h : LogIs w a b g SL lv) (hgv : ArgAt w gv 1 (group.map strV) SG) (hxl : w.heap[xl]? = some (.cells #[.pointer (some ⟨a, 0, none⟩)] 64)) (hB : Bld w bb [] SB) (haB : a ∉ SB) (hLB : ∀ x ∈ SL, x ∉ SB) (hGB : ∀ x ∈ SG, x ∉ SB) (hxB : xl ∉ SB)
    (hgl : group.length < 2 ^ 40) (hgs : ∀ s ∈ group, s.length < 2 ^ 62) (hroom : 0 ≤ room ∧ room < 2 ^ 30)
    (hbad : ∀ w' e, Kp SB w w' → (addRun g.turn room group [] false).1 = e → e ≠ 0 → R (.int .i64 e) w')
    (hend : ∀ w' SB', Kp SB w w' → (addRun g.turn room group [] false).1 = 0 → Bld w' bb (addRun g.turn room group [] false).2.1 SB' → (∀ x ∈ SB', x ∈ SB ∨ w.heap.size ≤ x) →
      wal_Log_Add_s1 R gv (.pointer (some ⟨xl, 0, none⟩)) (.pointer (some ⟨bb, 0, none⟩)) (.bool (addRun g.turn room group [] false).2.2) w') :
    wal_Log_Add_s4 R gv (.pointer (some ⟨xl, 0, none⟩)) (.pointer (some ⟨bb, 0, none⟩)) (.int .i64 room) (.bool false) w := by
  unfold wal_Log_Add_s4
  rw [hgv.lenL]
  unfold wal_Log_Add_L3
  simp only [List.length_map]
  refine loop_inv (fun m xs wi => ∃ i bi fi SBi, i ≤ group.length ∧ m = group.length - i ∧ xs = [gv, .pointer (some ⟨xl, 0, none⟩), .pointer (some ⟨bb, 0, none⟩), .int .i64 room, .bool fi, gv, .int .i64 group.length, .int .i64 (i : Nat)] ∧
      addRun g.turn room group [] false = addRun g.turn room (group.drop i) bi fi ∧ Bld wi bb bi SBi ∧ (bi.length : Int) ≤ room ∧ Kp SB w wi ∧ ∀ x ∈ SBi, x ∈ SB ∨ w.heap.size ≤ x)
    ?_ (m := group.length) ⟨0, [], false, SB, by omega, rfl, rfl, rfl, hB, by simpa using hroom.1, Kp.refl _ _, fun x hx => .inl hx⟩
  rintro m N xs wi ⟨i, bi, fi, SBi, hi, rfl, rfl, hrun, hbi, hbl, hk, hSi⟩ hN
  simp only [wal_Log_Add_L3F, wal_Log_Add_b2, bq_lss, bV_b]
  refine ⟨fun hlt' => ?_, fun hge => ?_⟩
  · have hi : i < group.length := by simpa using hlt'
    have hiw : IntKind.i64.wrap ((i : Int) + 1) = ((i + 1 : Nat) : Int) := by rw [w64 (by omega) (by omega)]; simp
    have hgi := hgv.keep hk hGB
    obtain ⟨bl, o, T, c, fr, _, hh, hia, _, _, hc⟩ := hgi.at (i := i) (by simpa using hi)
    have h1 : c[o]? = some (.string (str group[i])) := by have := hc 0 (by omega); simpa [strV] using this
    have hxi := hk.get hxl hxB
    have hAi := hk.get h.1 haB
    rw [List.drop_eq_getElem_cons hi] at hrun
    rw [addRun_cons] at hrun
    simp [-getElem?_pos, -Array.getElem?_eq_getElem, -List.length_flatten, List.getElem?_cons_zero, List.getElem?_cons_succ, hia, hh, h1, hxi, hAi]
    refine Frame_spec g.turn group[i] (hgs _ (List.getElem_mem hi)) fun w1 hk1 => ?_
    have hk1' : Kp SB w w1 := hk.trans hk1 (by simp)
    have hb1 := hbi.keep hk1 (by simp)
    have hfl := frame_len_le g.turn group[i]
    have hs1 := hk1'.size
    rw [ex0, ex1]
    simp [-getElem?_pos, -Array.getElem?_eq_getElem, -List.length_flatten, List.getElem?_cons_zero, List.getElem?_cons_succ, ]
    refine ⟨fun he => ?_, fun he => ?_⟩
    · rw [if_neg he] at hrun
      exact hbad w1 _ hk1' (by rw [hrun]) he
    rw [if_pos he] at hrun
    have write : addRun g.turn room group [] false = addRun g.turn room (group.drop (i + 1)) (bi ++ (frame g.turn group[i]).1) false → ((bi ++ (frame g.turn group[i]).1).length : Int) ≤ room →
        callG Try.prog 58 #[.pointer (some ⟨bb, 0, none⟩), .string (str (frame g.turn group[i]).1)] w1 fun t64 w => N [gv, .pointer (some ⟨xl, 0, none⟩), .pointer (some ⟨bb, 0, none⟩), .int .i64 room, .bool false, gv, .int .i64 group.length, .int .i64 ((i + 1 : Nat) : Int)] w := by
      intro hr hlen
      refine WriteString_spec hb1 _ (by rw [List.length_append] at hlen; omega) fun w2 S2 hb2 hk2 hS2 => ?_
      have hkk : Kp SB w w2 := hk1'.trans hk2 fun x hx hlt => by
        rcases hSi x hx with h | h
        · exact h
        · omega
      refine hN (group.length - (i + 1)) _ _ (by omega) ⟨i + 1, _, false, S2, by omega, rfl, rfl, hr, hb2, hlen, hkk, fun x hx => ?_⟩
      rcases hS2 x hx with h | h
      · exact hSi x h
      · exact .inr (by omega)
    have skip : addRun g.turn room group [] false = addRun g.turn room (group.drop (i + 1)) bi true →
        N [gv, .pointer (some ⟨xl, 0, none⟩), .pointer (some ⟨bb, 0, none⟩), .int .i64 room, .bool true, gv, .int .i64 group.length, .int .i64 ((i + 1 : Nat) : Int)] w1 := fun hr =>
      hN (group.length - (i + 1)) _ _ (by omega) ⟨i + 1, bi, true, SBi, by omega, rfl, rfl, hr, hb1, hbl, hk1', hSi⟩
    rw [hiw]
    refine ⟨fun hf => ?_, fun hf => ?_⟩
    · rw [if_pos (.inl hf)] at hrun
      exact skip hrun
    · refine Len_spec hb1.done ?_
      have hsub : IntKind.i64.wrap (room - (bi.length : Int)) = room - (bi.length : Int) := w64 (by omega) (by omega)
      simp only [bq_sub, hsub, bq_gtr]
      by_cases hbig : ((frame g.turn group[i]).1.length : Int) > room - (bi.length : Int)
      · rw [if_pos (.inr hbig)] at hrun
        simp only [hbig, decide_true]
        simp [-getElem?_pos, -Array.getElem?_eq_getElem, -List.length_flatten, List.getElem?_cons_zero, List.getElem?_cons_succ, ]
        exact skip hrun
      · rw [if_neg (by rw [hf]; simp; omega)] at hrun
        simp only [hbig, decide_false]
        simp [-getElem?_pos, -Array.getElem?_eq_getElem, -List.length_flatten, List.getElem?_cons_zero, List.getElem?_cons_succ, ]
        exact write hrun (by rw [List.length_append]; omega)
  · have hie : i = group.length := by simp at hge; omega
    subst hie
    rw [List.drop_length] at hrun
    have h0 : (addRun g.turn room group [] false).1 = 0 := by rw [hrun]; rfl
    have h2 : addRun g.turn room [] bi fi = (0, bi, fi) := rfl
    rw [h2] at hrun
    have := hend wi SBi hk h0 (by rw [hrun]; exact hbi) hSi
    rw [hrun] at this
    exact this
end Go.Proofs

/- Layer 4: Add. -/
set_option linter.unusedVariables false
set_option linter.unusedSimpArgs false
namespace Go.Proofs
open Go Go.Q
def roomOf (g : LG) : Int := 32 * (g.hi - g.lo) - g.used.length
/-- what Add comes to: the disk, the result, and the log where all went well -/
def addG (g : LG) (d : DK) (group : List (List UInt8)) : LG × DK × Int :=
  let r := addRun g.turn (roomOf g) group [] false
  if r.1 ≠ 0 then (g, d, r.1)
  else if r.2.2 = true then (g, d, 2)
  else
    let all := g.used ++ r.2.1
    let p := if 0 < r.2.1.length then putN g.lo.toNat all d (g.used.length / 32) ((all.length + 31) / 32 - g.used.length / 32) else (d, 0)
    if p.2 = 0 then ({ g with l := g.l ++ group, used := all }, p.1, 0) else (g, p.1, p.2)
/-- the end: the log has the records -/
theorem add_s0 {w : World} {a b xa xl : Nat} {g : LG} {SL : List Nat} {lv gv : Value} {group : List (List UInt8)} {SG : List Nat} {all : List UInt8} {R : Value → World → Prop}
    (h : LogIs w a b g SL lv) (hgv : ArgAt w gv 1 (group.map strV) SG) (hxl : w.heap[xl]? = some (.cells #[.pointer (some ⟨a, 0, none⟩)] 64)) (hxa : w.heap[xa]? = some (.cells #[.string (str all)] 9))
    (hgl : g.l.length + group.length < 2 ^ 40) (hxlS : xl ∉ SL) (hxaS : xa ∉ SL) (hne1 : a ≠ xl) (hne2 : a ≠ xa)
    (hR : ∀ w' SL' lv', LogIs w' a b { g with l := g.l ++ group, used := all } SL' lv' → Kp (a :: SL) w w' → (∀ x ∈ SL', x ∈ SL ∨ w.heap.size ≤ x) → R (.int .i64 0) w') :
    wal_Log_Add_s0 R gv (.pointer (some ⟨xl, 0, none⟩)) (.pointer (some ⟨xa, 0, none⟩)) w := by
  unfold wal_Log_Add_s0
  obtain ⟨hA, hL, haS⟩ := h
  simp [-getElem?_pos, -Array.getElem?_eq_getElem, -List.length_flatten, List.getElem?_cons_zero, List.getElem?_cons_succ, hxl, hxa, hA]
  have hone := strV_one group
  have hgd := hgv.keep (Kp.refl [] w).drew (by simp)
  rw [zc9]
  refine rows_app (k := 1) (z := [.string ⟨#[]⟩]) (G := group.map strV) (hL.keep (Kp.refl [] w).drew (by simp)) (by omega) rfl (fun y hy => hgv.row hy) hone (fun K' hK' => hgd.src K' hK') (by simp; omega) (by simp; omega) fun v2 w2 S2 h2 hk2 hS2 => ?_
  have hkd : Kp SL w w2 := (Kp.refl _ w).drew.trans' hk2
  have hxl2 := hkd.get hxl hxlS
  have hxa2 := hkd.get hxa hxaS
  have hA2 := hkd.get hA haS
  have l2 := live_of hA2
  have hv2 := rows_one h2
  simp [-getElem?_pos, -Array.getElem?_eq_getElem, -List.length_flatten, List.getElem?_cons_zero, List.getElem?_cons_succ, hxl2, hxa2, hA2, l2, hv2, heap_self, heap_ne, hne1, hne2]
  have halive : a < w.heap.size := lt_of_blk hA
  have haS2 : a ∉ S2 := fun hm => by
    rcases hS2 a hm with h | h
    · exact haS h
    · simp only [heap_drew] at h; omega
  have hk3 : Kp [a] w2 (setBlk w2 a (.cells #[.pointer (some ⟨b, 0, none⟩), .int .i64 g.lo, .int .i64 g.hi, .int .i64 g.turn, v2, .string (str all)] 71)) := (Kp.refl _ w2).setBlk (.inl (by simp)) _
  refine hR _ S2 v2 ⟨heap_self l2, ?_, haS2⟩ ?_ ?_
  · show RowsAt _ v2 1 (List.map strV (g.l ++ group)) S2
    rw [List.map_append]
    exact h2.keep hk3 fun x hx => by simp; intro hh; exact haS2 (hh ▸ hx)
  · exact (hkd.mono fun x hx _ => by simp [hx]).trans hk3 fun x hx _ => by simp at hx; simp [hx]
  · intro x hx
    rcases hS2 x hx with h | h
    · exact .inl h
    · exact .inr (by simpa using h)
end Go.Proofs

/- Layer 4: Add, the whole. -/
set_option linter.unusedVariables false
set_option linter.unusedSimpArgs false
namespace Go.Proofs
open Go Go.Q
theorem zc9' : zc Try.prog 9 = #[.string (str [])] := by kernel_rfl
theorem add_s1 {w : World} {a b bb xl : Nat} {g : LG} {SL S SB SG : List Nat} {lv gv : Value} {group : List (List UInt8)} {d : DK} {r : List UInt8} {full : Bool} {R : Value → World → Prop} {lo : Nat}
    (h : LogIs w a b g SL lv) (hd : DiskAt w b d S) (hgv : ArgAt w gv 1 (group.map strV) SG) (hxl : w.heap[xl]? = some (.cells #[.pointer (some ⟨a, 0, none⟩)] 64)) (hB : Bld w bb r SB)
    (haB : a ∉ SB) (hLB : ∀ x ∈ SL, x ∉ SB) (hGB : ∀ x ∈ SG, x ∉ SB) (hxB : xl ∉ SB) (hSB : ∀ x ∈ S, x ∉ SB) (haS : a ∉ S) (hxlS : xl ∉ S) (hLS : ∀ x ∈ SL, x ∉ S) (hGS : ∀ x ∈ SG, x ∉ S) (hxlL : xl ∉ SL) (hne : a ≠ xl)
    (hgl : g.l.length + group.length < 2 ^ 39) (hlo : g.lo = (lo : Int)) (hlo2 : lo < 2 ^ 40) (hul : g.used.length + r.length < 2 ^ 30) (hdl : d.l.length < 2 ^ 39)
    (hlive : ∀ x ∈ SL ++ S ++ SG, x < w.heap.size)
    (hfull : full = true → R (.int .i64 2) w)
    (hdone : full = false → ∀ w' g' d' e S' SL' lv', (let p := if 0 < r.length then putN lo (g.used ++ r) d (g.used.length / 32) (((g.used ++ r).length + 31) / 32 - g.used.length / 32) else (d, 0)
        d' = p.1 ∧ e = p.2 ∧ g' = if p.2 = 0 then { g with l := g.l ++ group, used := g.used ++ r } else g) →
      LogIs w' a b g' SL' lv' → DiskAt w' b d' S' → (∀ x ∈ S', x ∈ S ∨ w.heap.size ≤ x) → (∀ x ∈ SL', x ∈ SL ∨ w.heap.size ≤ x) → (∀ x ∈ SL', x ∉ S') → a ∉ S' → Kp (a :: (SL ++ S ++ SB)) w w' → R (.int .i64 e) w') :
    wal_Log_Add_s1 R gv (.pointer (some ⟨xl, 0, none⟩)) (.pointer (some ⟨bb, 0, none⟩)) (.bool full) w := by
  unfold wal_Log_Add_s1
  simp only [bV_b]
  refine ⟨hfull, fun hf => ?_⟩
  have hdone := hdone hf
  have hA := h.1
  have ha : a < w.heap.size := lt_of_blk hA
  have hxlw : xl < w.heap.size := lt_of_blk hxl
  have hall : (str g.used).size + (str r).size < 9223372036854775808 := by simp; omega
  -- what follows, in either order
  have tail : ∀ (wT : World) (xa : Nat), w.heap.size ≤ xa → wT.heap[xa]? = some (.cells #[.string (str (g.used ++ r))] 9) → Kp SB w wT → BldD wT bb r SB → xa ∉ SB →
      (ld1 (.pointer (some ⟨xl, 0, none⟩)) wT fun t73 =>
        nk t73 fun t74 => fa 5 t74 fun t75 => ld1 t75 wT fun t76 => lenS t76 fun t77 =>
        qG Try.prog (bq .quo 3 (.tmp 77) (.const (.int .i64 32)) t77 (.int .i64 32)) wT fun t78 =>
        callG Try.prog 61 #[.pointer (some ⟨bb, 0, none⟩)] wT fun t79 w =>
        qG Try.prog (bq .gtr 3 (.tmp 79) (.const (.int .i64 0)) t79 (.int .i64 0)) w fun t80 =>
        bV t80
        (ld1 (.pointer (some ⟨xl, 0, none⟩)) w fun t81 =>
        ld1 (.pointer (some ⟨xa, 0, none⟩)) w fun t83 =>
        lenS t83 fun t84 =>
        qG Try.prog (bq .add 3 (.tmp 84) (.const (.int .i64 32)) t84 (.int .i64 32)) w fun t85 =>
        qG Try.prog (bq .sub 3 (.tmp 85) (.const (.int .i64 1)) t85 (.int .i64 1)) w fun t86 =>
        qG Try.prog (bq .quo 3 (.tmp 86) (.const (.int .i64 32)) t86 (.int .i64 32)) w fun t87 =>
        qG Try.prog (Instr.makeFunc (.func 62) #[] #[.pointer (some ⟨xa, 0, none⟩), .pointer (some ⟨xl, 0, none⟩)]) w fun t88 =>
        callG Try.prog 56 #[t81, t78, t87, t88] w fun t89 w =>
        qG Try.prog (bq .neq 24 (.tmp 90) (.const (.int .i64 0)) t89 (.int .i64 0)) w fun t91 =>
        bV t91
        (R t89 w)
        (wal_Log_Add_s0 R gv (.pointer (some ⟨xl, 0, none⟩)) (.pointer (some ⟨xa, 0, none⟩)) w))
        (wal_Log_Add_s0 R gv (.pointer (some ⟨xl, 0, none⟩)) (.pointer (some ⟨xa, 0, none⟩)) w)) := by
    intro wT xa hxaw hxa hk hBT hxaB
    have hxlT := hk.get hxl hxB
    have hAT := hk.get hA haB
    have hAll := h.keep hk haB hLB
    have hdT := hd.keep hk hSB
    have hgT := hgv.keep hk hGB
    simp [-getElem?_pos, -Array.getElem?_eq_getElem, -List.length_flatten, List.getElem?_cons_zero, List.getElem?_cons_succ, hxlT, hAT]
    rw [quo_of (by omega) (by omega)]
    have hq : IntKind.i64.wrap ((g.used.length : Int) / 32) = ((g.used.length / 32 : Nat) : Int) := by rw [w64 (by omega) (by omega)]; simp
    rw [hq]
    refine Len_spec hBT ?_
    simp [-getElem?_pos, -Array.getElem?_eq_getElem, -List.length_flatten, List.getElem?_cons_zero, List.getElem?_cons_succ, hxlT, hxa]
    have hxaS : xa ∉ S := fun hm => by have := hlive xa (by simp [hm]); omega
    have hxaL : xa ∉ SL := fun hm => by have := hlive xa (by simp [hm]); omega
    have hsT := hk.size
    have hkT' : Kp (a :: (SL ++ S ++ SB)) w wT := hk.mono fun x hx _ => by simp [hx]
    have hlen : (g.used ++ r).length = g.used.length + r.length := by simp
    refine ⟨fun hp => ?_, fun h0 => ?_⟩
    · have hr1 : IntKind.i64.wrap (IntKind.i64.wrap ((g.used.length : Int) + (r.length : Int) + 32) - 1) = ((g.used.length + r.length + 31 : Nat) : Int) := by
        rw [w64 (x := (g.used.length : Int) + (r.length : Int) + 32) (by omega) (by omega), w64 (by omega) (by omega)]; omega
      have hq2 : IntKind.i64.wrap (((g.used.length + r.length + 31 : Nat) : Int) / 32) = (((g.used.length + r.length + 31) / 32 : Nat) : Int) := by rw [w64 (by omega) (by omega)]; omega
      have hq3 : (g.used.length : Int) / 32 = ((g.used.length / 32 : Nat) : Int) := by omega
      rw [hr1, quo_of (by omega) (by omega), hq2, mk_func, hq3]
      refine add_sectors hAll hdT hxa hxlT (first := g.used.length / 32) (last := (g.used.length + r.length + 31) / 32) hlo (by rw [hlen]; omega) (by omega) (by rw [hlen]; omega) hlo2 (by omega) haS hxaS hxlS hLS fun w' S' hd' hk' hS' => ?_
      have hS'w : ∀ x ∈ S', x ∈ S ∨ w.heap.size ≤ x := fun x hx => by
        rcases hS' x hx with h | h
        · exact .inl h
        · exact .inr (by omega)
      have hk'' : Kp (a :: (SL ++ S ++ SB)) w w' := hkT'.trans hk' fun x hx _ => by simp [hx]
      have hL' := hAll.keep hk' haS hLS
      have haS' : a ∉ S' := fun hm => by
        rcases hS'w a hm with h | h
        · exact haS h
        · omega
      have hLS' : ∀ x ∈ SL, x ∉ S' := fun x hx hm => by
        rcases hS'w x hm with h | h
        · exact hLS x hx h
        · have := hlive x (by simp [hx]); omega
      rw [hlen] at hdone
      rw [if_pos hp] at hdone
      simp [-getElem?_pos, -Array.getElem?_eq_getElem, -List.length_flatten, List.getElem?_cons_zero, List.getElem?_cons_succ, ]
      refine ⟨fun he => ?_, fun he => ?_⟩
      · exact hdone w' g _ _ S' SL lv ⟨rfl, rfl, by rw [if_neg he]⟩ hL' hd' hS'w (fun x hx => .inl hx) hLS' haS' hk''
      · refine add_s0 hL' (hgT.keep hk' hGS) (hk'.get hxlT hxlS) (hk'.get hxa hxaS) (by omega) hxlL hxaL hne (by omega) fun w9 SL' lv' hL9 hk9 hS9 => ?_
        have hsz' := hk'.size
        have hnS : ∀ x ∈ a :: SL, x ∉ S' := fun x hx => by
          rcases List.mem_cons.1 hx with rfl | hx
          · exact haS'
          · exact hLS' x hx
        have hS'live : ∀ x ∈ S', x < w'.heap.size := fun x hx => by
          obtain ⟨bs, bn, lv, SL, T, Ts, Tn, rfl, hd⟩ := hd'
          exact hd.live x hx
        refine hdone w9 _ _ _ S' SL' lv' ⟨rfl, rfl, by rw [if_pos he]⟩ hL9 (hd'.keep hk9 fun x hx hm => hnS x hm hx) hS'w (fun x hx => ?_) (fun x hx hm => ?_) haS' (hk''.trans hk9 fun x hx _ => ?_) |> fun hR => by rw [he] at hR; exact hR
        · rcases hS9 x hx with h | h
          · exact .inl h
          · exact .inr (by omega)
        · rcases hS9 x hx with h | h
          · exact hLS' x h hm
          · have := hS'live x hm; omega
        · rcases List.mem_cons.1 hx with rfl | hx
          · simp
          · simp [hx]
    · rw [if_neg (by rw [h0]; simp)] at hdone
      refine add_s0 hAll hgT hxlT hxa (by omega) hxlL hxaL hne (by omega) fun w9 SL' lv' hL9 hk9 hS9 => ?_
      refine hdone w9 _ _ _ S SL' lv' ⟨rfl, rfl, by rw [if_pos rfl]⟩ hL9 (hdT.keep hk9 fun x hx hm => ?_) (fun x hx => .inl hx) (fun x hx => ?_) (fun x hx hm => ?_) haS (hkT'.trans hk9 fun x hx _ => ?_)
      · rcases List.mem_cons.1 hm with rfl | hm
        · exact haS hx
        · exact hLS x hm hx
      · rcases hS9 x hx with h | h
        · exact .inl h
        · exact .inr (by omega)
      · rcases hS9 x hx with h | h
        · exact hLS x h hm
        · have := hlive x (by simp [hm]); omega
      · rcases List.mem_cons.1 hx with rfl | hx
        · simp
        · simp [hx]
  have hxlx : ∀ K : Value → Prop, ld1 (.pointer (some ⟨xl, 0, none⟩)) w.drew K = K (.pointer (some ⟨a, 0, none⟩)) := by intro K; simp [hxl]
  simp [-getElem?_pos, -Array.getElem?_eq_getElem, -List.length_flatten, List.getElem?_cons_zero, List.getElem?_cons_succ, hxl, hA]
  refine ⟨?_, ?_⟩
  · refine String_spec (hB.done.keep (Kp.refl [] w).drew (by simp)) (by omega) fun w1 hB1 hk1 => ?_
    have hk1' : Kp SB w w1 := (Kp.refl _ w).drew.trans' hk1
    have hA1 := hk1'.get hA haB
    have hxl1 := hk1'.get hxl hxB
    have ha1 := live_of hA1
    have hxlv1 := live_of hxl1
    rw [bq_sadd hall]
    have hst : ∀ w', stb Try.prog (bq .add 9 (.tmp 70) (.tmp 71) (.string (str g.used)) (.string (str r))) (.string (str g.used ++ str r)) w' := fun w' => by rw [stb_of (run_sadd hall)]
    have hsz := hk1'.size
    simp [-getElem?_pos, -Array.getElem?_eq_getElem, -List.length_flatten, List.getElem?_cons_zero, List.getElem?_cons_succ, hA1, hxl1, heap_old, ha1, hxlv1, heap_new, zc9', -str_append]
    refine ⟨by simpa using hst _, ?_⟩
    have hkn : Kp [] w1 (w1.alloc (.cells #[.string (str (g.used ++ r))] 9)) := (Kp.refl [] w1).alloc _
    have ht := tail _ w1.heap.size (by omega) (heap_new (w := w1) (o := .cells #[.string (str (g.used ++ r))] 9)) (hk1'.trans hkn (by simp)) (hB1.keep hkn (by simp)) (fun hm => by have := hB.live _ hm; omega)
    simpa [-getElem?_pos, -Array.getElem?_eq_getElem, -List.length_flatten, List.getElem?_cons_zero, List.getElem?_cons_succ, hA1, hxl1, heap_old, ha1, hxlv1, heap_new, zc9'] using ht
  · simp [-getElem?_pos, -Array.getElem?_eq_getElem, -List.length_flatten, List.getElem?_cons_zero, List.getElem?_cons_succ, zc9', heap_old, (show Live w.drew a from ha), (show Live w.drew xl from hxlw), hA, hxl]
    obtain ⟨w1, hw1⟩ : ∃ w1, w1 = (w.alloc (.cells #[.string (str [])] 9)) := ⟨_, rfl⟩
    have hk1 : Kp [] w w1 := by rw [hw1]; exact (Kp.refl [] w).alloc _
    have hX1 : w1.heap[w.heap.size]? = some (.cells #[.string (str [])] 9) := by rw [hw1]; exact heap_new
    have hA1 := hk1.get hA (by simp)
    have hxl1 := hk1.get hxl (by simp)
    rw [← hw1]
    have hXB : w.heap.size ∉ SB := fun hm => by have := hB.live _ hm; omega
    simp [-getElem?_pos, -Array.getElem?_eq_getElem, -List.length_flatten, List.getElem?_cons_zero, List.getElem?_cons_succ, hA1, hxl1]
    refine String_spec ((hB.done.keep hk1 (by simp)).keep (Kp.refl [] w1).drew (by simp)) (by omega) fun w2 hB2 hk2 => ?_
    have hk2' : Kp SB w w2 := (hk1.mono (by simp)).trans ((Kp.refl _ w1).drew.trans' hk2) fun x hx _ => hx
    have hk12 : Kp SB w1 w2 := (Kp.refl _ w1).drew.trans' hk2
    have hA2 := hk2'.get hA haB
    have hxl2 := hk2'.get hxl hxB
    have hX2 := hk12.get hX1 hXB
    have lX2 := live_of hX2
    have hneX : ¬ w.heap.size = xl := by omega
    have hneA : ¬ w.heap.size = a := by omega
    rw [bq_sadd hall]
    have hkX : Kp [w.heap.size] w2 (setBlk w2 w.heap.size (.cells #[.string (str (g.used ++ r))] 9)) := (Kp.refl _ w2).setBlk (.inl (by simp)) _
    have ht := tail (setBlk w2 w.heap.size (.cells #[.string (str (g.used ++ r))] 9)) w.heap.size (Nat.le_refl _) (heap_self lX2) (hk2'.trans hkX fun x hx hlt => by simp at hx; omega) (hB2.keep hkX fun x hx => by simp; intro hh; exact hXB (hh ▸ hx)) hXB
    simpa [-getElem?_pos, -Array.getElem?_eq_getElem, -List.length_flatten, List.getElem?_cons_zero, List.getElem?_cons_succ, hA2, hxl2, hX2, lX2, heap_self, heap_ne, hneX, hneA] using ht
end Go.Proofs

/- Layer 4: Add's contract. -/
set_option linter.unusedVariables false
set_option linter.unusedSimpArgs false
namespace Go.Proofs
open Go Go.Q
theorem Add_spec {w : World} {a b : Nat} {g : LG} {SL S SG : List Nat} {lv gv : Value} {group : List (List UInt8)} {d : DK} {lo hi : Nat}
    (h : LogIs w a b g SL lv) (hd : DiskAt w b d S) (hgv : ArgAt w gv 1 (group.map strV) SG)
    (haS : a ∉ S) (hLS : ∀ x ∈ SL, x ∉ S) (hGS : ∀ x ∈ SG, x ∉ S) (hlive : ∀ x ∈ SL ++ S ++ SG, x < w.heap.size)
    (hgl : g.l.length + group.length < 2 ^ 39) (hgs : ∀ s ∈ group, s.length < 2 ^ 62) (hlo : g.lo = (lo : Int)) (hhi : g.hi = (hi : Int)) (hlh : lo ≤ hi) (hhi2 : hi ≤ 4096) (hroom : (g.used.length : Int) ≤ 32 * (hi - lo)) (hdl : d.l.length < 2 ^ 39) {K : Value → World → Prop}
    (hK : ∀ w' g' d' e S' SL' lv', (g', d', e) = addG g d group → LogIs w' a b g' SL' lv' → DiskAt w' b d' S' → (∀ x ∈ S', x ∈ S ∨ w.heap.size ≤ x) → (∀ x ∈ SL', x ∈ SL ∨ w.heap.size ≤ x) → (∀ x ∈ SL', x ∉ S') → a ∉ S' →
      Kp (a :: (SL ++ S)) w w' → K (.int .i64 e) w') : callG Try.prog 36 #[.pointer (some ⟨a, 0, none⟩), gv] w K := by
  refine wal_Log_Add_call ?_
  simp only [wal_Log_Add, wal_Log_Add_s5]
  rw [newG_k]
  obtain ⟨n, hn⟩ : ∃ n, n = w.heap.size := ⟨_, rfl⟩
  obtain ⟨w1, hw1⟩ : ∃ w1, w1 = w.alloc (.cells (Value.cells (.pointer (some ⟨a, 0, none⟩))) 64) := ⟨_, rfl⟩
  have hk1 : Kp [] w w1 := by rw [hw1]; exact (Kp.refl [] w).alloc _
  have hX1 : w1.heap[n]? = some (.cells #[.pointer (some ⟨a, 0, none⟩)] 64) := by rw [hw1, hn]; exact heap_new
  have hs1 : w1.heap.size = n + 1 := by rw [hw1, hn]; simp
  rw [← hn, ← hw1]
  have h1 := h.keep hk1 (by simp) (by simp)
  have hA1 := h1.1
  simp only [ld1_p, rd1_mk, hX1]
  have hget : (#[Value.pointer (some ⟨a, 0, none⟩)] : Array Value)[0]? = some (.pointer (some ⟨a, 0, none⟩)) := rfl
  simp only [hget]
  refine given_spec h1 ?_
  obtain ⟨w2, hw2⟩ : ∃ w2, w2 = w1.alloc (.cells #[.pointer none, .slice none 0 0] 107) := ⟨_, rfl⟩
  have hk2 : Kp [] w1 w2 := by rw [hw2]; exact (Kp.refl [] w1).alloc _
  have hB2 : Bld w2 (n + 1) [] [n + 1] := by rw [hw2, ← hs1]; exact bld_new
  have hs2 : w2.heap.size = n + 2 := by rw [hw2]; simp [hs1]
  have hX2 := hk2.get hX1 (by simp)
  have h2 := h1.keep hk2 (by simp) (by simp)
  have hA2 := h2.1
  simp [-getElem?_pos, -Array.getElem?_eq_getElem, -List.length_flatten, List.getElem?_cons_zero, List.getElem?_cons_succ, zc107]
  rw [← hw2, hs1]
  have e1 : IntKind.i64.wrap (g.hi - g.lo) = g.hi - g.lo := w64 (by omega) (by omega)
  have e2 : IntKind.i64.wrap (32 * (g.hi - g.lo)) = 32 * (g.hi - g.lo) := w64 (by omega) (by omega)
  have e3 : IntKind.i64.wrap (32 * (g.hi - g.lo) - (g.used.length : Int)) = 32 * (g.hi - g.lo) - (g.used.length : Int) := w64 (by omega) (by omega)
  simp [-getElem?_pos, -Array.getElem?_eq_getElem, -List.length_flatten, List.getElem?_cons_zero, List.getElem?_cons_succ, hX2, hA2, e1, e2, e3]
  have hr : 32 * (g.hi - g.lo) - (g.used.length : Int) = roomOf g := rfl
  rw [hr]
  have hroom0 : 0 ≤ roomOf g ∧ roomOf g < 2 ^ 30 := by unfold roomOf; omega
  have hk3 : Kp [] w w2.drew := (hk1.trans' hk2).drew
  have hk2d : Kp [] w2 w2.drew := (Kp.refl _ _).drew
  have hlv : ∀ x, x ∈ SL ++ S ++ SG → x < n := fun x hx => by have := hlive x hx; omega
  have han : a < n := by have := lt_of_blk h.1; omega
  have hgv3 := hgv.keep hk3 (by simp)
  have hd3 := hd.keep hk3 (by simp)
  have h3 := h2.keep hk2d (by simp) (by simp)
  have hX3 := hk2d.get hX2 (by simp)
  have hB3 := hB2.keep hk2d (by simp)
  have hs3 : w2.drew.heap.size = n + 2 := hs2
  have hno : ∀ x, x ∈ SL ++ S ++ SG → x ∉ [n + 1] := fun x hx hm => by have := hlv x hx; simp at hm; omega
  refine add_loop h3 hgv3 hX3 hB3 (by simp; omega) (fun x hx => hno x (by simp [hx])) (fun x hx => hno x (by simp [hx])) (by simp) (by omega) hgs hroom0 ?_ ?_
  · intro w' e hk he hne
    have hk' : Kp [] w w' := hk3.trans hk fun x hx hlt => by simp at hx; omega
    refine hK w' g d e S SL lv ?_ (h.keep hk' (by simp) (by simp)) (hd.keep hk' (by simp)) (fun x hx => .inl hx) (fun x hx => .inl hx) hLS haS (hk'.mono (by simp))
    unfold addG
    simp only [he]
    rw [if_pos hne]
  · intro w' SB' hk he hB' hSB'
    have hk' : Kp [] w w' := hk3.trans hk fun x hx hlt => by simp at hx; omega
    have hSBn : ∀ x ∈ SB', n + 1 ≤ x := fun x hx => by
      rcases hSB' x hx with h | h
      · simp at h; omega
      · omega
    have hnoB : ∀ x, x ∈ SL ++ S ++ SG → x ∉ SB' := fun x hx hm => by have := hlv x hx; have := hSBn x hm; omega
    have hsz := hk'.size
    have hlen := addRun_len g.turn (roomOf g) hroom0.1 group [] false (by simpa using hroom0.1)
    have hrm : (g.used.length : Int) + roomOf g = 32 * (g.hi - g.lo) := by unfold roomOf; omega
    refine add_s1 (h.keep hk' (by simp) (by simp)) (hd.keep hk' (by simp)) (hgv.keep hk' (by simp)) (hk.get hX3 (by simp)) hB' (fun hm => by have := hSBn _ hm; omega) (fun x hx => hnoB x (by simp [hx])) (fun x hx => hnoB x (by simp [hx])) (fun hm => by have := hSBn _ hm; omega)
      (fun x hx => hnoB x (by simp [hx])) haS (fun hm => by have := hlv n (by simp [hm]); omega) hLS hGS (fun hm => by have := hlv n (by simp [hm]); omega) (by omega) hgl hlo (by omega) (by omega) hdl (fun x hx => by have := hlv x hx; omega) ?_ ?_
    · intro hf
      refine hK w' g d 2 S SL lv ?_ (h.keep hk' (by simp) (by simp)) (hd.keep hk' (by simp)) (fun x hx => .inl hx) (fun x hx => .inl hx) hLS haS (hk'.mono (by simp))
      unfold addG
      simp only [he, hf]
      rfl
    · intro hf w9 g' d' e S' SL' lv' hp hL9 hd9 hS9 hSL9 hLS9 haS9 hk9
      obtain ⟨p1, p2, p3⟩ := hp
      refine hK w9 g' d' e S' SL' lv' ?_ hL9 hd9 (fun x hx => ?_) (fun x hx => ?_) hLS9 haS9 ((hk'.mono (S' := a :: (SL ++ S)) (by simp)).trans hk9 fun x hx hlt => ?_)
      · have hlt : g.lo.toNat = lo := by omega
        obtain ⟨rr, hrr⟩ : ∃ rr, rr = (addRun g.turn (roomOf g) group [] false).2.1 := ⟨_, rfl⟩
        rw [← hrr] at p1 p2 p3
        obtain ⟨P, hP⟩ : ∃ P, P = (if 0 < rr.length then putN lo (g.used ++ rr) d (g.used.length / 32) (((g.used ++ rr).length + 31) / 32 - g.used.length / 32) else (d, 0)) := ⟨_, rfl⟩
        rw [← hP] at p1 p2 p3
        have hg : addG g d group = if P.2 = 0 then ({ g with l := g.l ++ group, used := g.used ++ rr }, P.1, 0) else (g, P.1, P.2) := by
          unfold addG
          simp only [he, hf, hlt, ← hrr, ← hP]
          simp
        rw [hg, p1, p2, p3]
        by_cases h0 : P.2 = 0
        · rw [if_pos h0, if_pos h0, h0]
        · rw [if_neg h0, if_neg h0]
      · rcases hS9 x hx with h | h
        · exact .inl h
        · exact .inr (by omega)
      · rcases hSL9 x hx with h | h
        · exact .inl h
        · exact .inr (by omega)
      · rcases List.mem_cons.1 hx with rfl | hx
        · simp
        · rcases List.mem_append.1 hx with hx | hx
          · simp at hx; rcases hx with hx | hx <;> simp [hx]
          · have := hSBn x hx; omega
end Go.Proofs

/- Layer 4: awake. -/
set_option linter.unusedVariables false
set_option linter.unusedSimpArgs false
namespace Go.Proofs
open Go Go.Q
def aw4g : LG := ⟨1, 8, 3, [], []⟩
def aw4s : List (List UInt8) := [[111, 110, 101], [116, 119, 111]]
def aw4r : LG × DK × Int := addG aw4g (DK.fresh 8) aw4s
def aw4d : DK := aw4r.2.1.flush.1
theorem aw4_scan0 : scan 3 (allOf (DK.fresh 8) 1 7) = [] := by decide +kernel
theorem aw4_add : aw4r.2.2 = 0 := by decide +kernel
theorem aw4_flush : aw4r.2.1.flush.2 = 0 := by decide +kernel
theorem aw4_scan3 : scan 3 (allOf aw4d 1 7) = aw4s := by decide +kernel
theorem aw4_used : usedOf aw4s = 26 := by decide +kernel
theorem aw4_scan4 : scan 4 (allOf aw4d 1 7) = [] := by decide +kernel
theorem aw4_off : aw4d.off = false := by decide +kernel
theorem aw4_len : aw4d.now.length = 8 := by decide +kernel
theorem aw4_l : aw4r.2.1.l.length < 100 := by decide +kernel
theorem awake4_spec {w : World} {K : Value → World → Prop} (hK : ∀ w', Kp [] w w' → K (.bool true) w') : callG Try.prog 29 #[] w K := by
  refine law04_awake_call ?_
  simp only [law04_awake, law04_awake_s1]
  refine own_new (n := 8) (Kp.refl [] w) (by omega) (by omega) fun w1 b S1 o1 hk1 => ?_
  rw [ex0, ex1]
  refine Open_ok (lo := 1) (hi := 8) (turn := 3) o1.at_ rfl (by omega) (by simp [DK.fresh, secs0]) (by decide) fun w2 a lv SL hL2 hk2 ha2 hSL2 => ?_
  have o2 := o1.keep hk2
  rw [aw4_scan0] at hL2
  have hg : (⟨((1 : Nat) : Int), ((8 : Nat) : Int), 3, [], (allOf (DK.fresh 8) 1 (8 - 1)).take (usedOf [])⟩ : LG) = aw4g := by simp [usedOf, aw4g]
  rw [hg] at hL2
  have hsz2 := o1.kp.size
  simp [-getElem?_pos, -Array.getElem?_eq_getElem, -List.length_flatten, List.getElem?_cons_zero, List.getElem?_cons_succ, ]
  rw [bsl_two rfl rfl]
  obtain ⟨w3, hw3⟩ : ∃ w3, w3 = w2.alloc (.cells #[.string ⟨#[111, 110, 101]⟩, .string ⟨#[116, 119, 111]⟩] 9) := ⟨_, rfl⟩
  have hk3 : Kp [] w2 w3 := by rw [hw3]; exact (Kp.refl [] w2).alloc _
  have hb3 : w3.heap[w2.heap.size]? = some (.cells #[.string ⟨#[111, 110, 101]⟩, .string ⟨#[116, 119, 111]⟩] 9) := by rw [hw3]; exact heap_new
  have hg3 : RdAt w3 (.slice (some ⟨w2.heap.size, 0, none⟩) 2 2) 1 (aw4s.map strV) [w2.heap.size] :=
    .inr ⟨_, 0, 2, _, _, _, rfl, rfl, hb3, by simp [aw4s, strV], by simp [aw4s], by rfl, by simp [aw4s]⟩
  rw [← hw3]
  have o3 := o2.keep hk3
  have hS1 : ∀ x ∈ S1, x < w1.heap.size := fun x hx => by
    obtain ⟨bs, bn, lv, SL, T, Ts, Tn, rfl, hd⟩ := o1.at_
    exact hd.live x hx
  have hs3 := hk3.size
  have hs2 := hk2.size
  have hLl : ∀ x ∈ SL, x < w2.heap.size := hL2.2.1.lt
  have ha2' : a < w2.heap.size := lt_of_blk hL2.1
  have hw23 : w2.heap.size < w3.heap.size := lt_of_blk hb3
  refine Add_spec (lo := 1) (hi := 8) (hL2.keep hk3 (by simp) (by simp)) o3.at_ (.inr hg3) (fun hm => by have := hS1 _ hm; omega) (fun x hx hm => by have := hSL2 x hx; have := hS1 _ hm; omega) (fun x hx hm => by simp at hx; have := hS1 _ hm; omega)
    (fun x hx => by
      rcases List.mem_append.1 hx with hx | hx
      · rcases List.mem_append.1 hx with hx | hx
        · have := hLl x hx; omega
        · have := hS1 x hx; omega
      · simp at hx; omega) (by simp [aw4g, aw4s]) (by simp [aw4s]) rfl rfl (by omega) (by omega) (by simp [aw4g]) (by simp [DK.fresh]) fun w4 g4 d4 e4 S4 SL4 lv4 hres hL4 hd4 hS4 hSL4 hLS4 haS4 hk4 => ?_
  have hr1 : (g4, d4, e4) = aw4r := hres
  have he : e4 = 0 := by have := aw4_add; rw [← hr1] at this; exact this
  have hd : d4 = aw4r.2.1 := by rw [← hr1]
  subst he
  simp [-getElem?_pos, -Array.getElem?_eq_getElem, -List.length_flatten, List.getElem?_cons_zero, List.getElem?_cons_succ, ]
  have hS4n : ∀ x ∈ S4, w.heap.size ≤ x := fun x hx => by
    rcases hS4 x hx with h | h
    · exact o1.new x h
    · omega
  have hk04 : Kp [] w w4 := (o3.kp).trans hk4 fun x hx hlt => by
    rcases List.mem_cons.1 hx with rfl | hx
    · omega
    · rcases List.mem_append.1 hx with hx | hx
      · have := hSL2 x hx; omega
      · have := o1.new x hx; omega
  have hdl4 : d4.l.length < 2 ^ 40 := by rw [hd]; have := aw4_l; omega
  refine Sync_spec hL4 hd4 hdl4 fun w5 hd5 hk5 => ?_
  have hk05 : Kp [] w w5 := hk04.trans hk5 fun x hx hlt => by have := hS4n x hx; omega
  have hf : d4.flush.2 = 0 := by rw [hd]; exact aw4_flush
  have hd5' : d4.flush.1 = aw4d := by rw [hd]; rfl
  rw [hd5'] at hd5
  rw [hf]
  simp [-getElem?_pos, -Array.getElem?_eq_getElem, -List.length_flatten, List.getElem?_cons_zero, List.getElem?_cons_succ, ]
  unfold law04_awake_s0
  refine Open_ok (lo := 1) (hi := 8) (turn := 3) hd5 aw4_off (by omega) (by rw [aw4_len]; omega) (by decide) fun w6 a6 lv6 SL6 hL6 hk6 ha6 hSL6 => ?_
  rw [show (8 : Nat) - 1 = 7 from rfl, aw4_scan3, aw4_used] at hL6
  rw [ex0, ex1]
  have hd6 := hd5.keep hk6 (by simp)
  refine Open_ok (lo := 1) (hi := 8) (turn := 4) hd6 aw4_off (by omega) (by rw [aw4_len]; omega) (by decide) fun w7 a7 lv7 SL7 hL7 hk7 ha7 hSL7 => ?_
  rw [show (8 : Nat) - 1 = 7 from rfl, aw4_scan4] at hL7
  rw [ex0, ex1]
  simp [-getElem?_pos, -Array.getElem?_eq_getElem, -List.length_flatten, List.getElem?_cons_zero, List.getElem?_cons_succ, ]
  have hL67 := hL6.keep hk7 (by simp) (by simp)
  refine Records_spec hL67 (by simp [aw4s]) fun w8 v8 S8 hr8 hk8 hS8 => ?_
  rw [bsl_two rfl rfl]
  obtain ⟨w9, hw9⟩ : ∃ w9, w9 = w8.alloc (.cells #[.string ⟨#[111, 110, 101]⟩, .string ⟨#[116, 119, 111]⟩] 9) := ⟨_, rfl⟩
  have hk9 : Kp [] w8 w9 := by rw [hw9]; exact (Kp.refl [] w8).alloc _
  have hb9 : w9.heap[w8.heap.size]? = some (.cells #[.string ⟨#[111, 110, 101]⟩, .string ⟨#[116, 119, 111]⟩] 9) := by rw [hw9]; exact heap_new
  have hg9 : RdAt w9 (.slice (some ⟨w8.heap.size, 0, none⟩) 2 2) 1 (aw4s.map strV) [w8.heap.size] :=
    .inr ⟨_, 0, 2, _, _, _, rfl, rfl, hb9, by simp [aw4s, strV], by simp [aw4s], by rfl, by simp [aw4s]⟩
  rw [← hw9]
  refine same_spec (.inr (hr8.keep hk9 (by simp)).rd) (.inr hg9) (by simp [aw4s]) fun w10 hk10 => ?_
  simp [-getElem?_pos, -Array.getElem?_eq_getElem, -List.length_flatten, List.getElem?_cons_zero, List.getElem?_cons_succ, ]
  have hk810 := (hk8.trans' hk9).trans' hk10
  refine Used_spec (hL67.keep hk810 (by simp) (by simp)) ?_
  have hul : ((allOf aw4d 1 7).take 26).length = 26 := by
    have hok : aw4d.Ok := by obtain ⟨bs, bn, lv, SL, T, Ts, Tn, rfl, hd⟩ := hd5; exact hd.ok
    have := allOf_len hok (lo := 1) (n := 7) (by rw [aw4_len]; omega)
    rw [List.length_take, this]; rfl
  simp only [hul]
  simp [-getElem?_pos, -Array.getElem?_eq_getElem, -List.length_flatten, List.getElem?_cons_zero, List.getElem?_cons_succ, ]
  refine Records_spec (hL7.keep hk810 (by simp) (by simp)) (by simp) fun w11 v11 S11 hr11 hk11 hS11 => ?_
  rw [hr11.rd.lenL]
  simp [-getElem?_pos, -Array.getElem?_eq_getElem, -List.length_flatten, List.getElem?_cons_zero, List.getElem?_cons_succ, ]
  exact hK w11 ((((hk05.trans' hk6).trans' hk7).trans' hk810).trans' hk11)
end Go.Proofs

/- What the statement's own reading says of lists of texts that came in. -/
set_option linter.unusedVariables false
set_option linter.unusedSimpArgs false
namespace Go.Proofs
open Go Go.Q
theorem strs_of {rows : List (List Value)} (h : ∀ r ∈ rows, ∃ s : List UInt8, s.length ≤ maxLen ∧ r = strV s) : ∃ l : List (List UInt8), rows = l.map strV ∧ ∀ s ∈ l, s.length ≤ maxLen := by
  induction rows with
  | nil => exact ⟨[], rfl, by simp⟩
  | cons r rows ih =>
    obtain ⟨l, h1, h2⟩ := ih fun x hx => h x (by simp [hx])
    obtain ⟨s, h3, h4⟩ := h r (by simp)
    exact ⟨s :: l, by rw [h1, h4]; rfl, fun x hx => by
      rcases List.mem_cons.1 hx with rfl | hx
      · exact h3
      · exact h2 x hx⟩
theorem strs_in {H : Type} {enc : TypeId × Value → H} {w : World} {fuel : Nat} {v : Value} {x : DataW H × List MemPlace} (h : DataW.trod enc Try.prog w 0 (fun _ => true) true fuel 36 [v] = some x) :
    ∃ (l : List (List UInt8)) (SA : List Nat), ArgAt w v 1 (l.map strV) SA ∧ (∀ z ∈ SA, z < w.heap.size) ∧ (∀ s ∈ l, s.length ≤ maxLen) ∧ l.length ≤ maxLen := by
  obtain ⟨v', rows, SK, hv, harg, hlt, hlen, hr⟩ := arg_slice Try.underlying36 (n := 1) (by kernel_rfl) (by omega) h
  injection hv with hv _
  subst hv
  obtain ⟨l, hl, hs⟩ := strs_of (rows := rows) fun r hm => by
    obtain ⟨f, y, hy⟩ := hr r hm
    have hrl := harg.row hm
    obtain ⟨a, rfl⟩ : ∃ a, r = [a] := by
      match r, hrl with
      | [a], _ => exact ⟨a, rfl⟩
    obtain ⟨s, e, _, hw⟩ := DataW.trod_string Try.underlying9 hy
    injection e with e _
    exact ⟨s.data.toList, hw, by rw [e]; show [Value.string s] = [Value.string (str s.data.toList)]; rw [← str_all s]⟩
  subst hl
  exact ⟨l, SK, harg, hlt, hs, by simpa using hlen⟩
theorem strs_taken {w : World} {v : Value} (h : Taken w 36 v) : ∃ (l : List (List UInt8)) (SA : List Nat), ArgAt w v 1 (l.map strV) SA ∧ (∀ z ∈ SA, z < w.heap.size) ∧ (∀ s ∈ l, s.length ≤ maxLen) ∧ l.length ≤ maxLen := by
  obtain ⟨H, enc, fuel, x, h⟩ := h
  exact strs_in h
end Go.Proofs
