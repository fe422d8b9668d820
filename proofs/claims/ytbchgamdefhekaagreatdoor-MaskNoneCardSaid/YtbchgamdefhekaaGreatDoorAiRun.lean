/- Code does what 'run' says. -/
import Derived.Test.YtbchgamdefhekaaGreatDoorAiDraw
namespace Go.Ai
open Go

/-- A place of a function: what its entry knew, what is known now. -/
structure GoodE (C : Ctx) (n n0 : Nat) (E0 : Env) (g0 : Nat → Row) (w0 : World) (fr : Fr) (σ : St) (a : Act) (w : World) (E : Env) : Prop where
  stp : Stp E0 g0 w0 E (getRow σ) w
  fit : Fit E σ.length
  glob : GlobOK C E
  fr : FrOK n E fr a
  len : n0 ≤ σ.length
  base : ∀ id, id < n0 → E.own id = E0.own id

def Good (C : Ctx) (n n0 : Nat) (E0 : Env) (g0 : Nat → Row) (w0 : World) (fr : Fr) (σ : St) (a : Act) (w : World) : Prop := ∃ E, GoodE C n n0 E0 g0 w0 fr σ a w E

def Post (C : Ctx) (n n0 : Nat) (E0 : Env) (g0 : Nat → Row) (w0 : World) (ex : Ex) (fr : Fr) (σ : St) (e : Exit) (a : Act) (w : World) : Prop :=
  match ex with
  | .norm => e = .normal ∧ Good C n n0 E0 g0 w0 fr σ a w
  | .exit id => e = .exit id ∧ Good C n n0 E0 g0 w0 fr σ a w
  | .ret => e = .ret ∧ Good C n n0 E0 g0 w0 fr σ a w
  | .panic v => ∃ cv E, e = .panic [{ v := cv, recovered := false }] ∧ Stp E0 g0 w0 E (getRow σ) w ∧ Fit E σ.length ∧ a.defers = [] ∧ (∀ id, id < n0 → E.own id = E0.own id) ∧ RelV E v cv

theorem look_prune (locs : List Nat) (fr : Fr) (t : Nat) : look (prune locs fr) t = look fr t ∨ look (prune locs fr) t = .junk := by
  unfold prune
  induction locs with
  | nil => exact .inr rfl
  | cons l r ih =>
    simp only [List.map_cons, look]
    cases h : Nat.beq t l with
    | true => have := Nat.eq_of_beq_eq_true h; subst this; exact .inl rfl
    | false => exact ih

theorem FrOK.prune {n : Nat} {E : Env} {fr : Fr} {a : Act} (h : FrOK n E fr a) (locs : List Nat) : FrOK n E (Ai.prune locs fr) a := by
  refine ⟨h.size, h.defers, fun t => ?_⟩
  rcases look_prune locs fr t with e | e <;> rw [e]
  · exact h.rel t
  · exact .junk _

theorem GoodE.prune {C : Ctx} {n n0 : Nat} {E0 : Env} {g0 : Nat → Row} {w0 : World} {fr : Fr} {σ : St} {a : Act} {w : World} {E : Env} (h : GoodE C n n0 E0 g0 w0 fr σ a w E) (locs : List Nat) :
    GoodE C n n0 E0 g0 w0 (Ai.prune locs fr) σ a w E := ⟨h.stp, h.fit, h.glob, h.fr.prune locs, h.len, h.base⟩

theorem sum_fold (C : Ctx) : ∀ (ops : List Oper) (k : Nat), ops.foldl (fun n o => n + slots C o.op) k = k + sumSlots C ops
  | [], k => rfl
  | o :: ops, k => by simp only [List.foldl_cons, sumSlots, sum_fold C ops]; omega

theorem getRow_pad (σ : St) (m : Nat) : getRow (σ ++ List.replicate m .dead) = getRow σ := by
  funext id
  simp only [getRow, List.getD_eq_getElem?_getD]
  rcases Nat.lt_or_ge id σ.length with h | h
  · rw [List.getElem?_append_left h]
  · rw [List.getElem?_append_right h, List.getElem?_eq_none h, List.getElem?_replicate]
    split <;> rfl

theorem then_ne {K : Act → World → Prop} {Q : Exit → Act → World → Prop} {e : Exit} (h : e ≠ .normal) (a : Act) (w : World) : Exit.then K Q e a w = Q e a w := by
  cases e <;> first | rfl | exact absurd rfl h

section
variable {C : Ctx} {call : Call}

theorem region_sound (hC : COK C) (hcall : CallOK C call) {fi : FI} {n0 : Nat} {E0 : Env} {g0 : Nat → Row} {w0 : World} {ops : List Oper} {draw : Bool} {fr fr' : Fr} {σ σ' : St} {ex : Ex} (h : runRegion C call fi ops draw fr σ = some (ex, fr', σ')) {a : Act} {w : World}
    (hG : Good C fi.ntmps n0 E0 g0 w0 fr σ a w) (id : Nat) : (Code.region id ops.toArray draw).wp C.P (Post C fi.ntmps n0 E0 g0 w0 ex fr' σ') a w := by
  obtain ⟨E, hE⟩ := hG
  have hE := hE.prune fi.locs
  simp only [runRegion] at h
  revert h hE
  generalize prune fi.locs fr = fr1
  intro h hE
  rw [sum_fold, Nat.zero_add] at h
  obtain ⟨σ1, hσ1, hrow, hlen⟩ : ∃ σ1, (bif Nat.beq (sumSlots C ops) 0 then σ else σ ++ List.replicate (sumSlots C ops) .dead) = σ1 ∧ getRow σ1 = getRow σ ∧ σ1.length = σ.length + sumSlots C ops := by
    refine ⟨_, rfl, ?_, ?_⟩
    · cases Nat.beq (sumSlots C ops) 0 with
      | true => rfl
      | false => exact getRow_pad _ _
    · cases hb : Nat.beq (sumSlots C ops) 0 with
      | true => simp [Nat.eq_of_beq_eq_true hb]
      | false => simp
  rw [hσ1] at h
  have hok : WOK E (getRow σ1) w := by rw [hrow]; exact hE.stp.ok
  have hfit1 : Fit E σ1.length := fun id hid => hE.fit id (by omega)
  split at h
  · rename_i fr2 σ2 accs hrun
    have key : ∀ E' w' a', Stp E (getRow σ1) w E' (getRow σ2) w' → Fit E' σ2.length → FrOK fi.ntmps E' fr2 a' → σ1.length ≤ σ2.length → (∀ id, id < σ.length → E'.own id = E.own id) → Post C fi.ntmps n0 E0 g0 w0 .norm fr2 σ2 .normal a' w' :=
      fun E' w' a' h1 h2 h3 h4 h5 => ⟨rfl, E', by rw [hrow] at h1; exact hE.stp.trans h1, h2, hE.glob.imm h1.le.imm, h3, by have := hE.len; omega, fun id hid => by
        have := hE.len
        rw [h5 id (by omega), hE.base id hid]⟩
    cases draw with
    | false =>
      simp only [cond_false, Option.some.injEq, Prod.mk.injEq] at h
      obtain ⟨rfl, rfl, rfl⟩ := h
      refine wp_region ?_
      have := runOps_text hC hcall (Q := Post C fi.ntmps n0 E0 g0 w0 .norm fr2 σ2) ops [] σ.length fr1 σ1 [] _ rfl hrun E w a σ.length (by omega) hok hE.glob hfit1 hE.fr (fun id h1 _ => hE.fit id h1) (Nat.le_refl _)
        (fun E' w' a' hx hy => key E' w' a' hx.1 hx.2.1 hx.2.2.1 hx.2.2.2 hy) (fun E' w' a' cv hx => hx.elim)
      simpa [List.range_eq_range'] using this
    | true =>
      simp only [cond_true] at h
      obtain ⟨hchk, h⟩ := cond_some h
      simp only [Bool.and_eq_true] at hchk
      obtain ⟨⟨hst, hdyn⟩, hl⟩ := hchk
      have hl := Nat.eq_of_beq_eq_true hl
      simp only [Option.some.injEq, Prod.mk.injEq] at h
      obtain ⟨rfl, rfl, rfl⟩ := h
      obtain ⟨frs, σs, off, as, h1, h2, h3, h4, h5, h6, h7, h8, h9⟩ := runOps_seq hC hcall (all := ops) ops σ.length fr1 σ1 [] fr2 σ2 accs hrun
      simp only [List.reverse_nil, List.nil_append] at h1
      subst h1
      have mono : ∀ (d i : Nat), i + d ≤ ops.length → (σs i).length ≤ (σs (i + d)).length := by
        intro d
        induction d with
        | zero => intro i _; exact Nat.le_refl _
        | succ d ih =>
          intro i hi
          have hlt : i + d < ops.length := by omega
          obtain ⟨_, _, _, _, _, _, _, h10, _⟩ := h9 (i + d) ops[i + d] (List.getElem?_eq_getElem hlt)
          exact Nat.le_trans (ih i (by omega)) h10
      have hL : ∀ i, i ≤ ops.length → (σs i).length = σ1.length := by
        intro i hi
        have e1 := mono i 0 (by omega)
        have e2 := mono (ops.length - i) i (by omega)
        rw [show i + (ops.length - i) = ops.length by omega, h7] at e2
        rw [Nat.zero_add, h4] at e1
        omega
      have T : Text C fi.ntmps ops frs σs off accs σ1.length := ⟨h2, hL, by rw [h8]; omega, hst, hdyn, fun i o ho => by
        obtain ⟨ac, v, b, q1, q2, q3, q4, q5, q6, q7⟩ := h9 i o ho
        have hi : i < ops.length := (List.getElem?_eq_some_iff.1 ho).1
        refine ⟨ac, v, b, q1, q2, q3, q4, fun hb hle => ?_, q7⟩
        have := q6 hb (by rw [hL i (by omega)]; exact hle)
        rwa [hL i (by omega), hL (i + 1) (by omega)] at this⟩
      refine wp_region_any hC.mixed ?_
      have hsz : ops.toArray.size = ops.length := by simp
      rw [hsz]
      refine draw_any T (E0 := E) (g0 := getRow σ1) (w0 := w) (Q := Post C fi.ntmps n0 E0 g0 w0 .norm fr2 σ2) ?_ ops.length _ E (getRow σ1) a { w with drawn := w.drawn + 1 } (by simp) ?_
      · intro E' a' w' k1 k2 k3 k4 k5
        rw [h7] at k1
        rw [h6] at k3
        rw [h5] at k5
        exact key E' w' a' k1 (by rw [hl]; exact k2) k3 (by omega) k5
      · have hF : ∀ i, (Array.replicate ops.length false).getD i false = false := fun i => by
          by_cases hi : i < ops.length <;> simp [hi]
        refine ⟨by simp, fun j o hj => (by simp only [hF] at hj; cases hj), stp_drawn hok _, hE.glob, hfit1, hE.fr.size, hE.fr.defers, fun id _ => rfl, ?_, ?_, ?_⟩
        · intro j o ho _ id hid
          have hm := mem_idsOf.1 hid
          have := off_le T (Nat.zero_le j) (by have := (List.getElem?_eq_some_iff.1 ho).1; omega)
          exact hE.fit id (by omega)
        · intro id k hk hcomp
          have hno : ∀ (q : Nat) (ac : Acc), 0 ≤ q → q < 0 + k → accs[q]? = some ac → ¬ isIn ac.wr id := fun q ac _ hq hac hi => by
            have := (hcomp q ac hac hi).1 (by omega)
            rw [hF] at this; cases this
          have := rows_still T (id := id) k 0 (by omega) hno
          rw [Nat.zero_add, h4] at this
          exact this.symm
        · intro t k hk hcomp
          have hno : ∀ (q : Nat) (o : Oper), 0 ≤ q → q < 0 + k → ops[q]? = some o → o.dst ≠ some t := fun q o _ hq ho hi => by
            have := (hcomp q o ho hi).1 (by omega)
            rw [hF] at this; cases this
          have := tmps_still T (t := t) k 0 (by omega) hno
          rw [Nat.zero_add, h3] at this
          rw [this]
          exact hE.fr.rel t
  · rename_i v fr2 σ2 hrun
    cases draw with
    | true => simp at h
    | false =>
      simp only [cond_false, Option.some.injEq, Prod.mk.injEq] at h
      obtain ⟨rfl, rfl, rfl⟩ := h
      refine wp_region ?_
      have := runOps_text hC hcall (Q := Post C fi.ntmps n0 E0 g0 w0 (.panic v) fr2 σ2) ops [] σ.length fr1 σ1 [] _ rfl hrun E w a σ.length (by omega) hok hE.glob hfit1 hE.fr (fun id h1 _ => hE.fit id h1) (Nat.le_refl _)
        (fun E' w' a' hx => hx.elim) (fun E' w' a' cv hx hy => ⟨cv, E', rfl, by rw [hrow] at hx; exact hE.stp.trans hx.1, hx.2.1, hx.2.2.1.defers, fun id hid => by
          have := hE.len
          rw [hy id (by omega), hE.base id hid], hx.2.2.2⟩)
      simpa [List.range_eq_range'] using this
  · cases h

end

/-! ### rows that are not reached -/
theorem nodup_rev {l : List Nat} (h : l.Nodup) : l.reverse.Nodup := by
  unfold List.Nodup at *
  rw [List.pairwise_reverse]
  exact h.imp fun e => Ne.symm e

theorem mark_spec (σ : St) (n0 : Nat) : ∀ (n : Nat) (todo seen : List Nat), seen.Nodup → (∀ id ∈ seen, n0 ≤ id) → (mark σ n0 n todo seen).Nodup ∧ ∀ id ∈ mark σ n0 n todo seen, n0 ≤ id
  | 0, todo, seen, h, k => by
    simp only [mark]
    exact ⟨nodup_rev h, fun id hid => k id (List.mem_reverse.1 hid)⟩
  | n + 1, [], seen, h, k => by
    simp only [mark]
    exact ⟨nodup_rev h, fun id hid => k id (List.mem_reverse.1 hid)⟩
  | n + 1, id :: r, seen, h, k => by
    simp only [mark]
    cases hb : Nat.blt id n0 || seen.any (Nat.beq id) with
    | true => exact mark_spec σ n0 n r seen h k
    | false =>
      simp only [cond_false]
      simp only [Bool.or_eq_false_iff] at hb
      have hge : n0 ≤ id := by
        rcases Nat.lt_or_ge id n0 with h1 | h1
        · have : Nat.blt id n0 = true := by simpa using h1
          rw [hb.1] at this; cases this
        · exact h1
      have hns : id ∉ seen := fun hm => by
        have : seen.any (Nat.beq id) = true := List.any_eq_true.2 ⟨id, hm, by simp⟩
        rw [hb.2] at this; cases this
      split
      · exact mark_spec σ n0 n r seen h k
      · exact mark_spec σ n0 n _ _ (List.nodup_cons.2 ⟨hns, h⟩) (fun x hx => by
          rcases List.mem_cons.1 hx with rfl | hx
          · exact hge
          · exact k x hx)

theorem idxIn_spec {id : Nat} : ∀ (l : List Nat) (k j : Nat), idxIn id l k = some j → k ≤ j ∧ l[j - k]? = some id
  | [], k, j, h => by simp [idxIn] at h
  | x :: r, k, j, h => by
    simp only [idxIn] at h
    cases hb : Nat.beq x id with
    | true =>
      rw [hb] at h
      simp only [cond_true, Option.some.injEq] at h
      subst h
      have := Nat.eq_of_beq_eq_true hb
      subst this
      simp
    | false =>
      rw [hb] at h
      simp only [cond_false] at h
      obtain ⟨h1, h2⟩ := idxIn_spec r (k + 1) j h
      refine ⟨by omega, ?_⟩
      rw [show j - k = (j - (k + 1)) + 1 by omega, List.getElem?_cons_succ]
      exact h2

theorem look_map (f : AV → AV) (hf : f .junk = .junk) : ∀ (fr : Fr) (t : Nat), look (fr.map fun p => (p.1, f p.2)) t = f (look fr t)
  | [], t => by simp [look, hf]
  | (u, v) :: r, t => by
    simp only [List.map_cons, look]
    cases Nat.beq t u with
    | true => rfl
    | false => exact look_map f hf r t

theorem Good.compact {C : Ctx} {n n0 : Nat} {E0 : Env} {g0 : Nat → Row} {w0 : World} {fr : Fr} {σ : St} {a : Act} {w : World} (h0 : Fit E0 n0) (h : Good C n n0 E0 g0 w0 fr σ a w) (fuel : Nat) :
    Good C n n0 E0 g0 w0 (Ai.compact n0 fuel fr σ).1 (Ai.compact n0 fuel fr σ).2 a w := by
  unfold Ai.compact
  cases hb : Nat.beq σ.length n0 with
  | true => exact h
  | false =>
    obtain ⟨E, hE⟩ := h
    simp only [cond_false]
    obtain ⟨hnd, hge⟩ := mark_spec σ n0 fuel (fr.flatMap (fun p => idsIn p.2) ++ (σ.take n0).flatMap idsRow) [] List.nodup_nil (fun id h => by cases h)
    revert hnd hge
    generalize mark σ n0 fuel (fr.flatMap (fun p => idsIn p.2) ++ (σ.take n0).flatMap idsRow) [] = l
    intro hnd hge
    -- the other names
    obtain ⟨f, hfdef⟩ : ∃ f : Nat → Option Nat, f = fun id => bif Nat.blt id n0 then some id else idxIn id l n0 := ⟨_, rfl⟩
    rw [← hfdef]
    have hflt : ∀ id j, f id = some j → (id < n0 ∧ j = id) ∨ (n0 ≤ id ∧ n0 ≤ j ∧ l[j - n0]? = some id) := by
      intro id j hj
      rw [hfdef] at hj
      simp only at hj
      cases hlt : Nat.blt id n0 with
      | true =>
        rw [hlt] at hj
        simp only [cond_true, Option.some.injEq] at hj
        exact .inl ⟨by simpa using hlt, hj.symm⟩
      | false =>
        rw [hlt] at hj
        simp only [cond_false] at hj
        obtain ⟨h1, h2⟩ := idxIn_spec l n0 j hj
        exact .inr ⟨hge id (List.mem_of_getElem? h2), h1, h2⟩
    -- where a new name comes from
    let src : Nat → Option Nat := fun j => if j < n0 then some j else l[j - n0]?
    let E' : Env := ⟨E.imm, fun j => (src j).bind E.own⟩
    have hown : ∀ id q j, E.own id = some q → f id = some j → E'.own j = some q := by
      intro id q j hq hj
      show (src j).bind E.own = some q
      rcases hflt id j hj with ⟨h1, rfl⟩ | ⟨_, h2, h3⟩
      · simp [src, h1, hq]
      · have : ¬ j < n0 := by omega
        simp [src, this, h3, hq]
    have hlenT : (σ.take n0).length = n0 := by rw [List.length_take]; exact Nat.min_eq_left hE.len
    have hrow : ∀ j, getRow ((σ.take n0).map (renRow f) ++ l.map fun id => renRow f (getRow σ id)) j = (match src j with | some i => renRow f (getRow σ i) | none => .dead) := by
      intro j
      simp only [src]
      by_cases hj : j < n0
      · rw [if_pos hj]
        simp only [getRow, List.getD_eq_getElem?_getD]
        rw [List.getElem?_append_left (by simp only [List.length_map, hlenT]; exact hj), List.getElem?_map, List.getElem?_take_of_lt hj]
        cases σ[j]? <;> rfl
      · rw [if_neg hj]
        simp only [getRow, List.getD_eq_getElem?_getD]
        rw [List.getElem?_append_right (by simp only [List.length_map, hlenT]; omega)]
        simp only [List.length_map, hlenT, List.getElem?_map]
        cases l[j - n0]? <;> rfl
    have hsrc : ∀ j, getRow ((σ.take n0).map (renRow f) ++ l.map fun id => renRow f (getRow σ id)) j ≠ .dead → ∃ i, src j = some i ∧ getRow σ i ≠ .dead ∧
        getRow ((σ.take n0).map (renRow f) ++ l.map fun id => renRow f (getRow σ id)) j = renRow f (getRow σ i) := by
      intro j hj
      rw [hrow] at hj ⊢
      cases hs : src j with
      | none => rw [hs] at hj; exact absurd rfl hj
      | some i => rw [hs] at hj; exact ⟨i, rfl, renRow_dead hj, rfl⟩
    have hinj : ∀ i j x, src i = some x → src j = some x → i = j := by
      intro i j x hi hj
      simp only [src] at hi hj
      split at hi <;> split at hj
      · simp at hi hj; omega
      · rename_i h1 h2
        simp only [Option.some.injEq] at hi; subst hi
        have := hge i (List.mem_of_getElem? hj); omega
      · rename_i h1 h2
        simp only [Option.some.injEq] at hj; subst hj
        have := hge j (List.mem_of_getElem? hi); omega
      · rename_i h1 h2
        have := (List.getElem?_inj (l := l) (i := i - n0) (j := j - n0) (by exact (List.getElem?_eq_some_iff.1 hi).1) hnd).1 (by rw [hi, hj])
        omega
    have hok := hE.stp.ok
    refine ⟨E', ⟨⟨fun b o hb => hE.stp.le.imm b o hb, fun id q hq => ?_⟩, ⟨hok.imm, ?_, ?_⟩, hE.stp.os, hE.stp.tape, hE.stp.output, hE.stp.size, hE.stp.keep, ?_, hE.stp.immN⟩, ?_, ?_, ⟨hE.fr.size, hE.fr.defers, fun t => ?_⟩, ?_, ?_⟩
    · have hE0 := hE.stp.le.own id q hq
      -- a name of the entry is below n0
      by_cases hid : id < n0
      · show (src id).bind E.own = some q
        simp [src, hid, hE0]
      · exact absurd hq (by rw [show E0.own id = none from h0 id (by omega)]; simp)
    · intro j hj
      obtain ⟨i, h1, h2, h3⟩ := hsrc j hj
      obtain ⟨q, hq, hr, hi⟩ := hok.rows i h2
      refine ⟨q, ?_, ?_, hi⟩
      · show (src j).bind E.own = some q
        rw [h1]; exact hq
      · rw [h3]; exact RowOK.ren (E := E) (E' := E') (fun _ _ h => h) hown hr
    · intro i j li lj hi hj hli hlj hij
      obtain ⟨i', h1, h2, _⟩ := hsrc i hi
      obtain ⟨j', k1, k2, _⟩ := hsrc j hj
      have e1 : E.own i' = some li := by have : (src i).bind E.own = some li := hli; rw [h1] at this; exact this
      have e2 : E.own j' = some lj := by have : (src j).bind E.own = some lj := hlj; rw [k1] at this; exact this
      exact hok.apart i' j' li lj h2 k2 e1 e2 (fun e => hij (hinj i j i' h1 (by rw [k1, e])))
    · intro b hb ⟨j, q, hj, hq, hqb⟩
      obtain ⟨i, h1, h2, _⟩ := hsrc j hj
      have e1 : E.own i = some q := by have : (src j).bind E.own = some q := hq; rw [h1] at this; exact this
      exact hE.stp.live b hb ⟨i, q, h2, e1, hqb⟩
    · intro j hj
      simp only [List.length_append, List.length_map, hlenT] at hj
      show (src j).bind E.own = none
      have h1 : ¬ j < n0 := by omega
      simp only [src, if_neg h1]
      rw [List.getElem?_eq_none (by omega)]; rfl
    · exact hE.glob.imm (fun _ _ h => h)
    · rw [look_map (ren f) rfl]
      exact RelV.ren (E := E) (E' := E') (fun _ _ h => h) hown (hE.fr.rel t)
    · simp only [List.length_append, List.length_map, hlenT]; omega
    · intro id hid
      show (src id).bind E.own = E0.own id
      simp [src, hid, hE.base id hid]

end Go.Ai
