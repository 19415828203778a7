/- Part of the proof (text QEngF): an engine, rules or contracts of the functions; it states nothing of the claim by itself. -/
import Derived.Test.YtnmooeoajgckmaaQEngE
/- The engine, part F: 'drawK' is sound. -/
set_option linter.unusedVariables false
set_option linter.unusedSimpArgs false
namespace Go.Q
variable {P : Program} {n : Nat} {ops : Array Oper} {B : Array Nat}
section
variable {e0 : Env} {S : Nat → Bool} {D : List Nat} {m : List (Nat × Option Bool)} {pd : List (Nat × (World → Prop))} {V : Nat → Value} {a : Act} {e : Env} {w : World}

/-- what was reckoned ahead is carried out -/
theorem Inv.listed (hk : DOk n ops B) (h : Inv P n ops B e0 S D m pd V a e w) {x : Nat} {o : Oper} (ho : ops[x]? = some o) (hx : has D x = true) (hS : S x = false)
    (hp : ∀ p ∈ predsOf ops x, S p = true) :
    Inv P n ops B e0 (fun i => decide (x = i) || S i) D m pd V (a.put o.dst (V x)) e w := by
  obtain ⟨ea, hag, hea⟩ := h.agA
  have hxl := size_of_some ho
  have hB := ready_B hk hxl hp h.clS
  exact {
    agA := ⟨_, hag.put (regOk_lt hk.reg ho) (V x), hea.add_old hk.reg ho hS⟩
    envC := h.envC
    sub := fun i hi => by
      simp only [Bool.or_eq_true, decide_eq_true_iff] at hi
      rcases hi with hi | hi
      · subst hi; exact hx
      · exact h.sub i hi
    lt := h.lt
    clS := fun y hy z hz hb => by
      simp only [Bool.or_eq_true, decide_eq_true_iff] at hy ⊢
      rcases hy with hy | hy
      · subst hy; exact .inr (hB z hz hb)
      · exact .inr (h.clS y hy z hz hb)
    clD := h.clD
    memo := h.memo
    pend := h.pend
    now := fun y oy hoy hy hyS => by
      simp only [Bool.or_eq_false_iff] at hyS
      exact h.now y oy hoy hy hyS.2
    grd := h.grd }

/-- an operation that may turn the world is carried out -/
theorem Inv.effect (hk : DOk n ops B) (h : Inv P n ops B e0 S D m pd V a e w) {x : Nat} {o : Oper} (ho : ops[x]? = some o) (hx : has D x = false)
    (hp : ∀ p ∈ predsOf ops x, S p = true) (hnq : quietOp P o = false) {m' : List (Nat × Option Bool)} (hm : MemoV ops D V m') (v : Value) {w' : World}
    (hst : ∀ y c, (y, c) ∈ pd → bit B x y = true ∨ c w') :
    Inv P n ops B e0 (fun i => decide (x = i) || S i) (x :: D) m' pd (fun i => if i = x then v else V i) (a.put o.dst v) (updO e o.dst v) w' := by
  have hxl := size_of_some ho
  have hxS := h.not_S hx
  have hpD : ∀ p ∈ predsOf ops x, has D p = true := fun p hpm => h.sub p (hp p hpm)
  have hB := ready_B hk hxl hpD h.clD
  have hBS := ready_B hk hxl hp h.clS
  have old : ∀ (y : Nat) (oy : Oper), ops[y]? = some oy → has D y = true → ∀ w', RunsAt P ops B e0 V y oy w' → RunsAt P ops B e0 (fun i => if i = x then v else V i) y oy w' := by
    intro y oy _ hy w' hrun
    have hyx : y ≠ x := fun hh => by subst hh; rw [hx] at hy; cases hy
    unfold RunsAt at *
    rw [refE_same (bit_not_D h hx hxl hy)]
    simpa [hyx] using hrun
  obtain ⟨ea, hag, hea⟩ := h.agA
  constructor
  · exact ⟨_, hag.put (regOk_lt hk.reg ho) v, hea.add hk.reg ho hxS v⟩
  · have := h.envC.add hk.reg ho hx v
    have hfun : (fun i => decide (x = i) || has D i) = has (x :: D) := by funext i; rw [has_cons]
    rw [hfun] at this
    exact this
  · intro i hi
    rw [has_cons]
    simp only [Bool.or_eq_true, decide_eq_true_iff] at hi ⊢
    exact hi.imp id (h.sub i)
  · intro i hi; rw [has_cons] at hi
    simp only [Bool.or_eq_true, decide_eq_true_iff] at hi
    rcases hi with hi | hi
    · subst hi; exact hxl
    · exact h.lt i hi
  · intro y hy z hz hb
    simp only [Bool.or_eq_true, decide_eq_true_iff] at hy ⊢
    rcases hy with hy | hy
    · subst hy; exact .inr (hBS z hz hb)
    · exact .inr (h.clS y hy z hz hb)
  · intro y hy z hz hb
    rw [has_cons] at hy ⊢
    simp only [Bool.or_eq_true, decide_eq_true_iff] at hy ⊢
    rcases hy with hy | hy
    · subst hy; exact .inr (hB z hz hb)
    · exact .inr (h.clD y hy z hz hb)
  · exact hm.val hx v
  · intro y oy hoy hy hqy hwy
    rw [has_cons] at hy
    simp only [Bool.or_eq_true, decide_eq_true_iff] at hy
    rcases hy with hy | hy
    · subst hy
      rw [ho] at hoy; injection hoy with hoy; subst hoy
      rw [hnq] at hqy; cases hqy
    · rw [wantV_same hk hx hoy (h.grd y oy hoy hy) v] at hwy
      rcases h.pend y oy hoy hy hqy hwy with ⟨c, hc, hcw⟩ | hall
      · exact .inl ⟨c, hc, fun w' hw' => old y oy hoy hy w' (hcw w' hw')⟩
      · exact .inr fun w' => old y oy hoy hy w' (hall w')
  · intro y oy hoy hy hyS
    simp only [Bool.or_eq_false_iff, decide_eq_false_iff_not] at hyS
    obtain ⟨hxy, hyS⟩ := hyS
    rw [has_cons] at hy
    simp only [Bool.or_eq_true, decide_eq_true_iff] at hy
    have hy : has D y = true := hy.resolve_left hxy
    have hyx : y ≠ x := fun hh => hxy hh.symm
    obtain ⟨h1, h2⟩ := h.now y oy hoy hy hyS
    rw [wantV_same hk hx hoy (h.grd y oy hoy hy) v]
    refine ⟨fun hw' => ⟨(h1 hw').1, old y oy hoy hy w' ?_⟩, fun hf => by simp [hyx, h2 hf]⟩
    rcases h.pend y oy hoy hy (h1 hw').1 hw' with ⟨c, hc, hcw⟩ | hall
    · rcases hst y c hc with hb | hcc
      · have := hBS y (size_of_some hoy) hb
        rw [hyS] at this; cases this
      · exact hcw w' hcc
    · exact hall w'
  · intro y oy hoy hy p hpm
    rw [has_cons] at hy ⊢
    simp only [Bool.or_eq_true, decide_eq_true_iff] at hy ⊢
    rcases hy with hy | hy
    · subst hy; exact .inr (hpD p hpm)
    · exact .inr (h.grd y oy hoy hy p hpm)

theorem Inv.wanted (hk : DOk n ops B) (h : Inv P n ops B e0 S D m pd V a e w) {x : Nat} {o : Oper} (ho : ops[x]? = some o) (hp : ∀ p ∈ predsOf ops x, S p = true) :
    Region.wanted o (yielded ops a.tmps) = wantV V o := by
  unfold Region.wanted wantV
  cases hg : o.guard with
  | none => rfl
  | some jt =>
    obtain ⟨j, t⟩ := jt
    obtain ⟨hjp, hjd⟩ := hk.guard x o ho j t hg
    have hSj := hp j hjp
    obtain ⟨ea, hag, hea⟩ := h.agA
    have hx : (ops[j]?).bind (·.dst) = some (dstOf ops j) := by
      unfold hasDst at hjd
      unfold dstOf
      cases hy : (ops[j]?).bind (·.dst) with
      | none => rw [hy] at hjd; cases hjd
      | some d => rfl
    have hval : ea (dstOf ops j) = V j := by
      rw [hea (dstOf ops j), writer_of hk.reg hx]; simp [hSj]
    have hlt : dstOf ops j < n := by
      cases hoj : ops[j]? with
      | none => simp [hoj] at hx
      | some oj => rw [hoj] at hx; exact regOk_lt hk.reg hoj _ hx
    have hy : yielded ops a.tmps j = boolOf (V j) := by
      unfold yielded
      rw [hx]
      simp only [Option.bind_some]
      have he := hag.eq (dstOf ops j)
      have hs := hag.size
      have hlt' : dstOf ops j < a.tmps.size := by rw [hs]; exact hlt
      rw [hval] at he
      rw [Array.getElem?_eq_getElem hlt']
      simp only [Array.getD, hlt', dite_true] at he
      simp only [Array.getInternal_eq_getElem] at he
      rw [he]
      cases V j <;> rfl
    simp only [hy]

theorem Inv.exec (hk : DOk n ops B) (h : Inv P n ops B e0 S D m pd V a e w) {x : Nat} {o : Oper} (ho : ops[x]? = some o) (hS : S x = false) (hp : ∀ p ∈ predsOf ops x, S p = true) :
    execOp a.eval o = execOp (ev (refE ops B e0 V x)) o := by
  obtain ⟨ea, hag, hea⟩ := h.agA
  rw [hag.eval]
  exact execOp_ref hk ho (hea.ref hk ho (ready_B hk (size_of_some ho) hp h.clS) hS h.clS)
end

theorem filter_set {x : Nat} {p p' : Nat → Bool} (hx : p x = true) (hx' : p' x = false) (ho : ∀ i, i ≠ x → p' i = p i) : ∀ l : List Nat, l.Nodup → x ∈ l → (l.filter p').length + 1 = (l.filter p).length := by
  intro l
  induction l with
  | nil => intro _ h; cases h
  | cons y r ih =>
    intro hn hm
    rw [List.nodup_cons] at hn
    by_cases hy : y = x
    · subst hy
      have hr : r.filter p' = r.filter p := List.filter_congr fun i hi => ho i fun h => by subst h; exact hn.1 hi
      simp [hx, hx', hr]
    · have hm' : x ∈ r := by rcases List.mem_cons.1 hm with h | h; exact absurd h.symm hy; exact h
      have := ih hn.2 hm'
      have hyy := ho y hy
      cases hp : p y <;> simp [hyy, hp] <;> omega

def listedS (listed : Array Bool) : Nat → Bool := fun i => listed.getD i false
theorem listedS_set {listed : Array Bool} {x : Nat} (hx : x < listed.size) : listedS (listed.setIfInBounds x true) = fun i => decide (x = i) || listedS listed i := by
  funext i
  unfold listedS
  by_cases h : x = i
  · subst h; simp [hx]
  · simp [Array.getElem?_setIfInBounds_ne h, h]

theorem draw_fin {e0 : Env} {S : Nat → Bool} {D : List Nat} {m : List (Nat × Option Bool)} {pd : List (Nat × (World → Prop))} {V : Nat → Value} {a : Act} {e : Env} {w : World} {f : Nat}
    (hk : DOk n ops B) {k : Env → World → Prop} {Q : Exit → Act → World → Prop} (hQ : ∀ a e w, Ag n a e → k e w → Q .normal a w)
    (hall : ∀ i, i < ops.size → S i = true) (hinv : Inv P n ops B e0 S D m pd V a e w) (h : drawK P ops B f D m pd e w k) : Q .normal a w := by
  obtain ⟨f', D', m', pd', V', e', hinv', h', hn⟩ := sat hk f D m pd V e hinv h
  have hD : ∀ i, i < ops.size → has D' i = true := fun i hi => hinv'.sub i (hall i hi)
  have hr : readyOps ops D' = [] := by
    unfold readyOps
    rw [List.filter_eq_nil_iff]
    intro i hi
    simp [isReady, hD i (List.mem_range.1 hi)]
  unfold drawK at h'
  rw [hn, hr] at h'
  simp only at h'
  cases hall' : allIn ops D' with
  | false => rw [hall'] at h'; exact h'.elim
  | true =>
    rw [hall'] at h'
    obtain ⟨ea, hag, hea⟩ := hinv'.agA
    have : e' = ea := by
      funext t
      rw [hinv'.envC t, hea t]
      cases hw : writer ops t with
      | none => rfl
      | some z =>
        obtain ⟨_, hzl⟩ := writer_some hw
        simp [hD z hzl, hall z hzl]
    subst this
    exact hQ _ _ _ hag h'

theorem ready_iff {listed : Array Bool} (hsz : listed.size = ops.size) {x : Nat} : x ∈ Region.ready .any ops listed ↔ x < ops.size ∧ listedS listed x = false ∧ ∀ p ∈ predsOf ops x, listedS listed p = true := by
  rw [mem_ready]
  constructor
  · rintro ⟨h0, o, ho, hall⟩
    have hx := size_of_some ho
    refine ⟨hx, ?_, ?_⟩
    · unfold listedS
      have : x < listed.size := by omega
      simp [Array.getD, this] at h0 ⊢
      exact h0
    · intro p hp
      unfold predsOf at hp
      rw [ho] at hp
      simp only [List.mem_map, List.mem_filter, Array.mem_toList_iff] at hp
      obtain ⟨ed, ⟨h1, h2⟩, rfl⟩ := hp
      exact hall ed h1 h2
  · rintro ⟨hx, h0, hall⟩
    have hlt : x < listed.size := by omega
    refine ⟨?_, ops[x], by simp [hx], ?_⟩
    · unfold listedS at h0
      simp [Array.getD, hlt] at h0 ⊢
      exact h0
    · intro ed h1 h2
      refine hall ed.on ?_
      unfold predsOf
      simp only [hx, Array.getElem?_eq_getElem, List.mem_map, List.mem_filter, Array.mem_toList_iff]
      exact ⟨ed, ⟨h1, h2⟩, rfl⟩

theorem all_of_none_ready (hk : DOk n ops B) {listed : Array Bool} (hsz : listed.size = ops.size) (h : Region.ready .any ops listed = []) : ∀ i, i < ops.size → listedS listed i = true := by
  intro i
  induction i using Nat.strongRecOn with
  | _ i ih =>
    intro hi
    cases hl : listedS listed i with
    | true => rfl
    | false =>
      have : i ∈ Region.ready .any ops listed := (ready_iff hsz).2 ⟨hi, hl, fun p hp => by
        have := hk.back i p hp
        exact ih p this (by omega)⟩
      rw [h] at this; cases this

theorem drawK_any (hk : DOk n ops B) {k : Env → World → Prop} {Q : Exit → Act → World → Prop} (hQ : ∀ a e w, Ag n a e → k e w → Q .normal a w) {e0 : Env} :
    ∀ (fuel : Nat) (listed : Array Bool) (D : List Nat) (m : List (Nat × Option Bool)) (pd : List (Nat × (World → Prop))) (V : Nat → Value) (a : Act) (e : Env) (w : World) (f : Nat),
      listed.size = ops.size → ((List.range ops.size).filter fun i => !listedS listed i).length = fuel →
      Inv P n ops B e0 (listedS listed) D m pd V a e w → drawK P ops B f D m pd e w k → wpAny P .any ops Q fuel listed a w := by
  intro fuel
  induction fuel with
  | zero =>
    intro listed D m pd V a e w f hsz hcnt hinv h
    have hall : ∀ i, i < ops.size → listedS listed i = true := by
      intro i hi
      cases hl : listedS listed i with
      | true => rfl
      | false =>
        have hm : i ∈ (List.range ops.size).filter fun i => !listedS listed i := List.mem_filter.2 ⟨List.mem_range.2 hi, by simp [hl]⟩
        rw [List.length_eq_zero_iff.1 hcnt] at hm; cases hm
    unfold wpAny
    refine ⟨?_, draw_fin hk hQ hall hinv h⟩
    cases hr : Region.ready .any ops listed with
    | nil => rfl
    | cons x r =>
      have hx : x ∈ Region.ready .any ops listed := by rw [hr]; simp
      obtain ⟨h1, h2, _⟩ := (ready_iff hsz).1 hx
      rw [hall x h1] at h2; cases h2
  | succ fuel ih =>
    intro listed D m pd V a e w f hsz hcnt hinv h
    unfold wpAny
    refine ⟨fun hr => draw_fin hk hQ (all_of_none_ready hk hsz hr) hinv h, fun x hx => ?_⟩
    obtain ⟨hxl, hxS, hxp⟩ := (ready_iff hsz).1 hx
    obtain ⟨f', D', m', pd', V', e', hinv', h', hn⟩ := sat hk f D m pd V e hinv h
    obtain ⟨o, ho⟩ : ∃ o, ops[x]? = some o := ⟨ops[x], by simp [hxl]⟩
    have hsz' : (listed.setIfInBounds x true).size = ops.size := by simp [hsz]
    have hSset : listedS (listed.setIfInBounds x true) = fun i => decide (x = i) || listedS listed i := listedS_set (by omega)
    have hcnt' : ((List.range ops.size).filter fun i => !listedS (listed.setIfInBounds x true) i).length = fuel := by
      have := filter_set (x := x) (p := fun i => !listedS listed i) (p' := fun i => !listedS (listed.setIfInBounds x true) i) (by simp [hxS]) (by simp [hSset])
        (fun i hi => by rw [hSset]; simp [Ne.symm hi]) (List.range ops.size) List.nodup_range (List.mem_range.2 hxl)
      omega
    have hex := hinv'.exec hk ho hxS hxp
    have hwt := hinv'.wanted hk ho hxp
    unfold wpOp
    rw [ho]
    simp only
    cases hDx : has D' x with
    | true =>
      obtain ⟨h1, h2⟩ := hinv'.now x o ho hDx hxS
      have hnew := hinv'.listed hk ho hDx hxS hxp
      rw [← hSset] at hnew
      cases hw : wantV V' o with
      | true =>
        rw [hw] at hwt
        rw [if_pos hwt]
        obtain ⟨_, hrun⟩ := h1 hw
        refine .inl (NextOk.wp (k := fun v w' => v = V' x ∧ w' = w) ?_ ?_)
        · rw [hex]
          exact hrun
        · rintro v w' ⟨rfl, rfl⟩
          exact ih _ _ _ _ _ _ _ _ _ hsz' hcnt' hnew h'
      | false =>
        rw [hw] at hwt
        rw [if_neg (by simp [hwt])]
        rw [← h2 hw]
        exact ih _ _ _ _ _ _ _ _ _ hsz' hcnt' hnew h'
    | false =>
      have hpD : ∀ p ∈ predsOf ops x, has D' p = true := fun p hp => hinv'.sub p (hxp p hp)
      have hrdy : isReady ops D' x = true := by
        unfold isReady
        simp only [hDx, Bool.not_false, Bool.true_and, List.all_eq_true]
        exact hpD
      have hnq : quietOp P o = false := by
        have := List.find?_eq_none.1 hn x (List.mem_range.2 hxl)
        simp only [hrdy, Bool.true_and, Bool.not_eq_true] at this
        unfold quietAt at this
        rw [ho] at this
        exact this
      have hmem : x ∈ readyOps ops D' := List.mem_filter.2 ⟨List.mem_range.2 hxl, hrdy⟩
      have hdk := h'
      unfold drawK at hdk
      rw [hn] at hdk
      simp only at hdk
      have hdk : guardK ops m' x o e'
            (fun e' m' => opK P o (ev e') w fun v w' => stab B x w' (drawK P ops B f' (x :: D') m' pd' (updO e' o.dst v) w' k) pd')
            (fun e' m' => drawK P ops B f' (x :: D') m' pd' (updO e' o.dst undef) w k) := by
        split at hdk
        · rename_i hnil; rw [hnil] at hmem; cases hmem
        · have := conj_mem hdk x hmem
          rw [ho] at this
          exact this
      rcases guardK_cases hk ho hinv'.memo hinv'.envC hpD hdk with ⟨hw, m2, hm2, hrun⟩ | ⟨hw, m2, hm2, hskip⟩
      · rw [hw] at hwt
        rw [if_pos hwt]
        have hex' : execOp (ev e') o = execOp a.eval o := by
          rw [hex]
          exact execOp_ref hk ho (hinv'.envC.ref hk ho (ready_B hk hxl hpD hinv'.clD) hDx hinv'.clD)
        refine .inl (NextOk.wp (k := fun v w' => stab B x w' (drawK P ops B f' (x :: D') m2 pd' (updO e' o.dst v) w' k) pd') ?_ ?_)
        · rw [← hex']
          exact opK_ok (ev_func e') hrun
        · intro v w' hst
          obtain ⟨hk1, hk2⟩ := stab_all hst
          have hnew := hinv'.effect hk ho hDx hxp hnq hm2 v hk2
          rw [← hSset] at hnew
          exact ih _ _ _ _ _ _ _ _ _ hsz' hcnt' hnew hk1
      · rw [hw] at hwt
        rw [if_neg (by simp [hwt])]
        have hs := hinv'.skip hk ho hDx hpD hw hm2
        have hnew := hs.listed hk ho (by rw [has_cons]; simp) hxS hxp
        rw [← hSset] at hnew
        simp only [if_true] at hnew
        exact ih _ _ _ _ _ _ _ _ _ hsz' hcnt' hnew hskip
end Go.Q
