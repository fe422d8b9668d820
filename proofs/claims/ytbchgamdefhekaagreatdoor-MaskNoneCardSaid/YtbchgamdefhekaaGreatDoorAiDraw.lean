/- A region does what 'runOps' says in whatever order its operations are drawn. -/
import Derived.Test.YtbchgamdefhekaaGreatDoorAiRegion
namespace Go.Ai
open Go

/-- The run in text order that the others are measured by. -/
structure Text (C : Ctx) (n : Nat) (all : List Oper) (frs : Nat → Fr) (σs : Nat → St) (off : Nat → Nat) (as : List Acc) (L : Nat) : Prop where
  alen : as.length = all.length
  len : ∀ i, i ≤ all.length → (σs i).length = L
  offN : off all.length ≤ L
  static : staticOk all (masks all) = true
  dyn : dynOk (masks all) as = true
  step : ∀ (i : Nat) (o : Oper), all[i]? = some o → ∃ ac v b, as[i]? = some ac ∧ wantedA all (frs i) o = some b ∧ putA n (frs i) o.dst v = some (frs (i + 1)) ∧ off (i + 1) = off i + slots C o.op ∧
    (b = true → off i + slots C o.op ≤ L → OpSem C o (evalA C (frs i)) v (getRow (σs i)) (getRow (σs (i + 1))) L L ac (idsOf C o.op (off i))) ∧
    (b = false → v = .tup [] ∧ σs (i + 1) = σs i ∧ ac = ⟨some [], some []⟩)

structure DInv (C : Ctx) (n : Nat) (all : List Oper) (frs : Nat → Fr) (σs : Nat → St) (off : Nat → Nat) (as : List Acc) (L : Nat) (E0 : Env) (g0 : Nat → Row) (w0 : World) (listed : Array Bool) (E : Env) (g : Nat → Row) (a : Act) (w : World) : Prop where
  size : listed.size = all.length
  closed : Closed all (fun j => listed.getD j false)
  stp : Stp E0 g0 w0 E g w
  glob : GlobOK C E
  fit : Fit E L
  tsize : a.tmps.size = n
  tdefs : a.defers = []
  base : ∀ id, id < off 0 → E.own id = E0.own id
  ids : ∀ (j : Nat) (o : Oper), all[j]? = some o → listed.getD j false = false → ∀ id ∈ idsOf C o.op (off j), E.own id = none
  rows : ∀ (id k : Nat), k ≤ all.length → (∀ (i : Nat) (ac : Acc), as[i]? = some ac → isIn ac.wr id → (i < k ↔ listed.getD i false = true)) → g id = getRow (σs k) id
  tmps : ∀ (t k : Nat), k ≤ all.length → (∀ (i : Nat) (o : Oper), all[i]? = some o → o.dst = some t → (i < k ↔ listed.getD i false = true)) → RelV E (look (frs k) t) (a.tmps.getD t undef)

section
variable {C : Ctx} {n : Nat} {all : List Oper} {frs : Nat → Fr} {σs : Nat → St} {off : Nat → Nat} {as : List Acc} {L : Nat}

theorem off_mono (T : Text C n all frs σs off as L) : ∀ (d i : Nat), i + d ≤ all.length → off i ≤ off (i + d)
  | 0, i, _ => Nat.le_refl _
  | d + 1, i, h => by
    have h1 := off_mono T d i (by omega)
    have hlt : i + d < all.length := by omega
    obtain ⟨_, _, _, _, _, _, h2, _⟩ := T.step (i + d) all[i + d] (List.getElem?_eq_getElem hlt)
    have : off (i + (d + 1)) = off (i + d) + slots C all[i + d].op := h2
    omega

theorem off_le (T : Text C n all frs σs off as L) {i j : Nat} (h : i ≤ j) (hj : j ≤ all.length) : off i ≤ off j := by
  have := off_mono T (j - i) i (by omega)
  rwa [show i + (j - i) = j by omega] at this

theorem off_slot (T : Text C n all frs σs off as L) {i : Nat} {o : Oper} (h : all[i]? = some o) : off (i + 1) = off i + slots C o.op := by
  obtain ⟨_, _, _, _, _, _, h2, _⟩ := T.step i o h; exact h2

theorem slot_L (T : Text C n all frs σs off as L) {i : Nat} {o : Oper} (h : all[i]? = some o) : off i + slots C o.op ≤ L := by
  have hlt : i < all.length := (List.getElem?_eq_some_iff.1 h).1
  have h1 := off_le T (show i + 1 ≤ all.length from hlt) (Nat.le_refl _)
  rw [off_slot T h] at h1
  have := T.offN
  omega

theorem ids_apart (T : Text C n all frs σs off as L) {i j : Nat} {p o : Oper} (hp : all[i]? = some p) (ho : all[j]? = some o) (hij : i ≠ j) {id : Nat} (h : id ∈ idsOf C p.op (off i)) : id ∉ idsOf C o.op (off j) := by
  intro k
  have h := mem_idsOf.1 h
  have k := mem_idsOf.1 k
  have hi : i < all.length := (List.getElem?_eq_some_iff.1 hp).1
  have hj : j < all.length := (List.getElem?_eq_some_iff.1 ho).1
  rcases Nat.lt_or_gt_of_ne hij with hlt | hlt
  · have := off_le T (show i + 1 ≤ j from hlt) (by omega)
    rw [off_slot T hp] at this
    omega
  · have := off_le T (show j + 1 ≤ i from hlt) (by omega)
    rw [off_slot T ho] at this
    omega

theorem row_still (T : Text C n all frs σs off as L) {i : Nat} {o : Oper} {ac : Acc} (ho : all[i]? = some o) (ha : as[i]? = some ac) {id : Nat} (h : ¬ isIn ac.wr id) : getRow (σs (i + 1)) id = getRow (σs i) id := by
  obtain ⟨ac', v, b, h1, h2, h3, h4, h5, h6⟩ := T.step i o ho
  rw [ha] at h1; injection h1 with h1; subst h1
  cases b with
  | true => exact (h5 rfl (slot_L T ho)).1 id h
  | false => rw [(h6 rfl).2.1]

theorem tmp_still (T : Text C n all frs σs off as L) {i : Nat} {o : Oper} (ho : all[i]? = some o) {t : Nat} (h : o.dst ≠ some t) : look (frs (i + 1)) t = look (frs i) t := by
  obtain ⟨ac', v, b, h1, h2, h3, _⟩ := T.step i o ho
  rw [putA_look h3, if_neg h]

theorem rows_still (T : Text C n all frs σs off as L) {id : Nat} : ∀ (d i : Nat), i + d ≤ all.length → (∀ (q : Nat) (ac : Acc), i ≤ q → q < i + d → as[q]? = some ac → ¬ isIn ac.wr id) → getRow (σs (i + d)) id = getRow (σs i) id
  | 0, i, _, _ => rfl
  | d + 1, i, h, hq => by
    have hlt : i + d < all.length := by omega
    have hlt' : i + d < as.length := by rw [T.alen]; exact hlt
    have h1 := row_still T (List.getElem?_eq_getElem hlt) (List.getElem?_eq_getElem hlt') (id := id) (hq (i + d) _ (by omega) (by omega) (List.getElem?_eq_getElem hlt'))
    rw [show i + (d + 1) = i + d + 1 by omega, h1]
    exact rows_still T d i (by omega) (fun q ac h1 h2 => hq q ac h1 (by omega))

theorem tmps_still (T : Text C n all frs σs off as L) {t : Nat} : ∀ (d i : Nat), i + d ≤ all.length → (∀ (q : Nat) (o : Oper), i ≤ q → q < i + d → all[q]? = some o → o.dst ≠ some t) → look (frs (i + d)) t = look (frs i) t
  | 0, i, _, _ => rfl
  | d + 1, i, h, hq => by
    have hlt : i + d < all.length := by omega
    have h1 := tmp_still T (List.getElem?_eq_getElem hlt) (t := t) (hq (i + d) _ (by omega) (by omega) (List.getElem?_eq_getElem hlt))
    rw [show i + (d + 1) = i + d + 1 by omega, h1]
    exact tmps_still T d i (by omega) (fun q o h1 h2 => hq q o h1 (by omega))

theorem draw_step (T : Text C n all frs σs off as L) {E0 : Env} {g0 : Nat → Row} {w0 : World} {listed : Array Bool} {E : Env} {g : Nat → Row} {a : Act} {w : World} (I : DInv C n all frs σs off as L E0 g0 w0 listed E g a w) {j : Nat} (hj : j ∈ Region.ready .any all.toArray listed)
    {K : Act → World → Prop} {Q : Exit → Act → World → Prop} (hK : ∀ E' g' a' w', DInv C n all frs σs off as L E0 g0 w0 (listed.setIfInBounds j true) E' g' a' w' → K a' w') : wpOp C.P all.toArray Q j K a w := by
  obtain ⟨hun, o, ho, hedges⟩ := mem_ready.1 hj
  rw [List.getElem?_toArray] at ho
  have hjlt : j < all.length := (List.getElem?_eq_some_iff.1 ho).1
  have hFj : listed.getD j false = false := by
    have hs : j < listed.size := by rw [I.size]; exact hjlt
    simp [Array.getD, hs] at hun ⊢; exact hun
  obtain ⟨mj, hmj⟩ := masks_get (all := all) hjlt
  have hpre : ∀ i, mj.testBit i = true → listed.getD i false = true := fun i hb =>
    closed_mask (listed := fun j => listed.getD j false) I.closed j mj i hmj hb (fun o' ho' e he hb => by rw [ho] at ho'; injection ho' with ho'; subst ho'; exact hedges e he hb)
  have hpost : ∀ i mi, (masks all)[i]? = some mi → mi.testBit j = true → listed.getD i false = false := fun i mi hmi hb => by
    cases hF : listed.getD i false with
    | false => rfl
    | true =>
      have := closed_mask (listed := fun j => listed.getD j false) I.closed i mi j hmi hb (fun o' ho' e he hb => I.closed i o' hF ho' e he hb)
      simp only [hFj] at this; cases this
  have hstat := static_spec T.static
  obtain ⟨acj, vj, bj, hacj, hwant, hput, hoff, hsem, hskip⟩ := T.step j o ho
  -- another operation that is bound to this one, or free of it
  have ord : ∀ (i : Nat) (p : Oper) (ac : Acc), i ≠ j → all[i]? = some p → as[i]? = some ac → ((i < j ↔ listed.getD i false = true)) ∨
      ((∀ d, p.dst = some d → d ∉ opTmps all o ∧ o.dst ≠ some d) ∧ ∀ id, ¬ (isIn ac.wr id ∧ isIn acj.rd id) ∧ ¬ (isIn ac.wr id ∧ isIn acj.wr id)) := by
    intro i p ac hij hp hac
    have hilt : i < all.length := (List.getElem?_eq_some_iff.1 hp).1
    obtain ⟨mi, hmi⟩ := masks_get (all := all) hilt
    rcases Nat.lt_or_gt_of_ne hij with hlt | hlt
    · cases hb : mj.testBit i with
      | true => exact .inl ⟨fun _ => hpre i hb, fun _ => hlt⟩
      | false =>
        refine .inr ⟨(hstat.free i j p o mi mj hlt hp ho hmi hmj hb).1, fun id => ?_⟩
        have := clash_spec (dyn_spec T.dyn hlt hacj hac hmj hmi hb) id
        exact ⟨fun h => this.2.2 ⟨h.2, h.1⟩, fun h => this.2.1 ⟨h.2, h.1⟩⟩
    · cases hb : mi.testBit j with
      | true => exact .inl ⟨fun h => by omega, fun h => by rw [hpost i mi hmi hb] at h; cases h⟩
      | false =>
        have h1 := hstat.free j i o p mj mi hlt ho hp hmj hmi hb
        refine .inr ⟨fun d hd => ⟨h1.2 d hd, fun he => (h1.1 d he).2 hd⟩, fun id => ?_⟩
        have := clash_spec (dyn_spec T.dyn hlt hac hacj hmi hmj hb) id
        exact ⟨fun h => this.1 ⟨h.1, h.2⟩, fun h => this.2.1 ⟨h.1, h.2⟩⟩
  have acOf : ∀ (i : Nat) (p : Oper), all[i]? = some p → ∃ ac, as[i]? = some ac := fun i p hp => ⟨_, List.getElem?_eq_getElem (by rw [T.alen]; exact (List.getElem?_eq_some_iff.1 hp).1)⟩
  have opOf : ∀ (i : Nat) (ac : Acc), as[i]? = some ac → ∃ p, all[i]? = some p := fun i ac hp => ⟨_, List.getElem?_eq_getElem (by rw [← T.alen]; exact (List.getElem?_eq_some_iff.1 hp).1)⟩
  have rdT : ∀ t ∈ opTmps all o, RelV E (look (frs j) t) (a.tmps.getD t undef) := fun t ht => I.tmps t j (by omega) (fun i p hp hd => by
    by_cases hij : i = j
    · subst hij; rw [hFj]; simp
    · obtain ⟨ac, hac⟩ := acOf i p hp
      rcases ord i p ac hij hp hac with h | h
      · exact h
      · exact absurd ht (h.1 t hd).1)
  have rdR : ∀ id, isIn acj.rd id → g id = getRow (σs j) id := fun id hid => I.rows id j (by omega) (fun i ac hac hwr => by
    by_cases hij : i = j
    · subst hij; rw [hFj]; simp
    · obtain ⟨p, hp⟩ := opOf i ac hac
      rcases ord i p ac hij hp hac with h | h
      · exact h
      · exact absurd ⟨hwr, hid⟩ (h.2 id).1)
  have hset : ∀ i d, (listed.setIfInBounds j true).getD i d = if i = j then true else listed.getD i d := by
    intro i d
    have hs : j < listed.size := by rw [I.size]; exact hjlt
    by_cases hij : i = j
    · subst hij; simp [hs]
    · rw [if_neg hij]
      simp [Array.getElem?_setIfInBounds_ne (Ne.symm hij)]
  -- what holds behind the step
  have fin : ∀ cv w' E', Stp E g w E' (mixR acj.wr (getRow (σs (j + 1))) g) w' → RelV E' vj cv → (∀ id, id < L → E.own id = none → id ∉ idsOf C o.op (off j) → E'.own id = none) → Fit E' L → K (a.put o.dst cv) w' := by
    intro cv w' E' h1 h2 h3 h4
    refine hK E' (mixR acj.wr (getRow (σs (j + 1))) g) (a.put o.dst cv) w' ⟨by simp [I.size], ?_, I.stp.trans h1, I.glob.imm h1.le.imm, h4, by rw [put_size]; exact I.tsize, by rw [put_defs]; exact I.tdefs, ?_, ?_, ?_, ?_⟩
    · intro i p hi hp e he hb
      simp only [hset] at hi ⊢
      by_cases hej : e.on = j
      · rw [if_pos hej]
      · rw [if_neg hej]
        by_cases hij : i = j
        · subst hij
          rw [ho] at hp; injection hp with hp; subst hp
          exact hedges e he hb
        · rw [if_neg hij] at hi
          exact I.closed i p hi hp e he hb
    · intro id hid
      rw [← I.base id hid]
      have h0 := off_le T (Nat.zero_le j) (by omega)
      have hL := slot_L T ho
      refine own_eq h1.le fun hn => h3 id (by omega) hn (fun hm => ?_)
      have := mem_idsOf.1 hm
      omega
    · intro i p hp hi id hid
      rw [hset] at hi
      by_cases hij : i = j
      · rw [if_pos hij] at hi; cases hi
      · rw [if_neg hij] at hi
        have hL := slot_L T hp
        have hm := mem_idsOf.1 hid
        exact h3 id (by omega) (I.ids i p hp hi id hid) (ids_apart T hp ho hij hid)
    · intro id k hk hcomp
      by_cases hwr : isIn acj.wr id
      · rw [mix_in hwr]
        have hjk : j < k := (hcomp j acj hacj hwr).2 (by rw [hset, if_pos rfl])
        have := rows_still T (id := id) (k - (j + 1)) (j + 1) (by omega) (fun q ac h5 h6 hac hq => by
          have hqj : q ≠ j := by omega
          obtain ⟨p, hp⟩ := opOf q ac hac
          rcases ord q p ac hqj hp hac with h | h
          · have hqk : q < k := by omega
            have := (hcomp q ac hac hq).1 hqk
            rw [hset, if_neg hqj] at this
            have := h.2 this
            omega
          · exact (h.2 id).2 ⟨hq, hwr⟩)
        rw [show j + 1 + (k - (j + 1)) = k by omega] at this
        exact this.symm
      · rw [mix_out hwr]
        refine I.rows id k hk (fun i ac hac hi => ?_)
        have hij : i ≠ j := fun e => by subst e; rw [hacj] at hac; injection hac with hac; subst hac; exact hwr hi
        have := hcomp i ac hac hi
        rwa [hset, if_neg hij] at this
    · intro t k hk hcomp
      rw [put_getD hput I.tsize]
      by_cases hd : o.dst = some t
      · rw [if_pos hd]
        have hjk : j < k := (hcomp j o ho hd).2 (by rw [hset, if_pos rfl])
        have := tmps_still T (t := t) (k - (j + 1)) (j + 1) (by omega) (fun q p h5 h6 hp hq => by
          have hqj : q ≠ j := by omega
          obtain ⟨ac, hac⟩ := acOf q p hp
          rcases ord q p ac hqj hp hac with h | h
          · have hqk : q < k := by omega
            have := (hcomp q p hp hq).1 hqk
            rw [hset, if_neg hqj] at this
            have := h.2 this
            omega
          · exact (h.1 t hq).2 hd)
        rw [show j + 1 + (k - (j + 1)) = k by omega] at this
        rw [this, putA_look hput, if_pos hd]
        exact h2
      · rw [if_neg hd]
        refine (I.tmps t k hk (fun i p hp hi => ?_)).mono h1.le
        have hij : i ≠ j := fun e => by subst e; rw [ho] at hp; injection hp with hp; subst hp; exact hd hi
        have := hcomp i p hp hi
        rwa [hset, if_neg hij] at this
  have hguard := wanted_rel (a := a) hwant (fun q want t hq ht => rdT t (by
    unfold opTmps
    refine List.mem_append_right _ ?_
    rw [hq]; simp [ht]))
  unfold wpOp
  rw [List.getElem?_toArray, ho]
  simp only [hguard]
  cases bj with
  | true =>
    simp only [if_true]
    refine .inl ?_
    obtain ⟨ho1, _, ho3⟩ := hsem rfl (slot_L T ho)
    exact ho3 E w a g K Q I.stp.ok I.glob I.fit (fun x hx => eval_rel I.glob (fun t ht => rdT t (by
      unfold opTmps
      refine List.mem_append_left _ (List.mem_filterMap.2 ⟨x, Array.mem_toList_iff.2 hx, by rw [ht]⟩)))) rdR (fun id hid => I.ids j o ho hFj id hid) fin
  | false =>
    simp only [Bool.false_eq_true, if_false]
    obtain ⟨hv, hσ, hac⟩ := hskip rfl
    refine fin undef w E ?_ ?_ (fun _ _ hn _ => hn) I.fit
    · have : mixR acj.wr (getRow (σs (j + 1))) g = g := by
        funext id; rw [hac]; exact mix_out (by simp [isIn])
      rw [this]; exact .refl I.stp.ok
    · rw [hv]; exact tup_undef E

theorem draw_any (T : Text C n all frs σs off as L) {E0 : Env} {g0 : Nat → Row} {w0 : World} {Q : Exit → Act → World → Prop}
    (hQ : ∀ E' a' w', Stp E0 g0 w0 E' (getRow (σs all.length)) w' → Fit E' L → FrOK n E' (frs all.length) a' → GlobOK C E' → (∀ id, id < off 0 → E'.own id = E0.own id) → Q .normal a' w') :
    ∀ (fuel : Nat) (listed : Array Bool) (E : Env) (g : Nat → Row) (a : Act) (w : World), listed.toList.count false ≤ fuel → DInv C n all frs σs off as L E0 g0 w0 listed E g a w → wpAny C.P .any all.toArray Q fuel listed a w := by
  have done : ∀ (listed : Array Bool) (E : Env) (g : Nat → Row) (a : Act) (w : World), DInv C n all frs σs off as L E0 g0 w0 listed E g a w → Region.ready .any all.toArray listed = [] → Q .normal a w := by
    intro listed E g a w I hr
    have hall : ∀ j, j < all.length → listed.getD j false = true := by
      intro j
      induction j using Nat.strongRecOn with
      | _ j ih =>
        intro hj
        cases hF : listed.getD j false with
        | true => rfl
        | false =>
          have hs : j < listed.size := by rw [I.size]; exact hj
          have : j ∈ Region.ready .any all.toArray listed := mem_ready.2 ⟨by simp [Array.getD, hs] at hF ⊢; exact hF, all[j], by simp [hj], fun e he hb => by
            obtain ⟨m, hm⟩ := masks_get (all := all) hj
            have hlt := (static_spec T.static).back j all[j] m (List.getElem?_eq_getElem hj) hm e he hb
            exact ih e.on hlt (by omega)⟩
          rw [hr] at this; cases this
    have hg : g = getRow (σs all.length) := funext fun id => I.rows id all.length (Nat.le_refl _) (fun i ac hac _ => by
      have hi : i < all.length := by rw [← T.alen]; exact (List.getElem?_eq_some_iff.1 hac).1
      exact ⟨fun _ => hall i hi, fun _ => hi⟩)
    subst hg
    exact hQ E a w I.stp I.fit ⟨I.tsize, I.tdefs, fun t => I.tmps t all.length (Nat.le_refl _) (fun i o ho _ => by
      have hi : i < all.length := (List.getElem?_eq_some_iff.1 ho).1
      exact ⟨fun _ => hall i hi, fun _ => hi⟩)⟩ I.glob I.base
  intro fuel
  induction fuel with
  | zero =>
    intro listed E g a w hc I
    have hr : Region.ready .any all.toArray listed = [] := by
      cases hr : Region.ready .any all.toArray listed with
      | nil => rfl
      | cons j rest =>
        have hj : j ∈ Region.ready .any all.toArray listed := by rw [hr]; simp
        obtain ⟨hun, o, ho, _⟩ := mem_ready.1 hj
        rw [List.getElem?_toArray] at ho
        have hs : j < listed.size := by rw [I.size]; exact (List.getElem?_eq_some_iff.1 ho).1
        have h0 : listed.toList.count false = 0 := by omega
        have := List.count_eq_zero.1 h0
        simp [Array.getD, hs] at hun
        exact absurd (by rw [← hun]; exact Array.mem_toList_iff.2 (Array.getElem_mem hs)) this
    exact ⟨hr, done listed E g a w I hr⟩
  | succ fuel ih =>
    intro listed E g a w hc I
    refine ⟨done listed E g a w I, fun j hj => draw_step T I hj fun E' g' a' w' I' => ih _ E' g' a' w' ?_ I'⟩
    obtain ⟨hun, o, ho, _⟩ := mem_ready.1 hj
    rw [List.getElem?_toArray] at ho
    have hs : j < listed.size := by rw [I.size]; exact (List.getElem?_eq_some_iff.1 ho).1
    have hun' : listed[j] = false := by simpa [Array.getD, hs] using hun
    rw [Array.toList_setIfInBounds, List.count_set (by simpa using hs)]
    have hpos : 0 < listed.toList.count false := List.count_pos_iff.2 (by rw [← hun']; exact Array.mem_toList_iff.2 (Array.getElem_mem hs))
    simp [hun']
    simp only [Array.count_toList] at hc hpos
    omega

end
end Go.Ai
