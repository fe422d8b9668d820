/- A call in a region does what 'callOp' says. -/
import Derived.Test.YtbchgamdefhekaaGreatDoorAiOp
namespace Go.Ai
open Go

theorem isE0_rel {E : Env} {x : AV} {v : Value} (h : isE0 x = true) (r : RelV E x v) : ∃ a, v = .slice a 0 0 := by
  unfold isE0 at h
  split at h
  · cases r with | e0 a => exact ⟨a, rfl⟩
  · exact ⟨none, r.lit_inv⟩
  · cases h

theorem isNilKnown_eq {vs : List AV} (h : isNilKnown vs = true) : vs = [.i (.sl [])] := by
  unfold isNilKnown at h; split at h
  · rfl
  · cases h

section
variable {C : Ctx} {call : Call}

/-- A call that begins without rows: how its end looks from outside. -/
theorem call_bare (hcall : CallOK C call) {k : Nat} {vs : List AV} {out : Out} {σ1 : St} (h : call k vs [] = some (out, σ1)) {E : Env} {w : World} {g : Nat → Row} (hw : WOK E g w) (hg : GlobOK C E) {us : List Value} (hu : RelL E.bare vs us)
    {R : Ending → World → Prop} (hR : ∀ e w' E1, Stp E.bare (getRow []) w E1 (getRow σ1) w' → Fit E1 σ1.length → OutOK E1 out e → R e w') : (∃ i, C.fn k = some i) ∧ Calls C.P k us.toArray w R := by
  obtain ⟨hi, hc⟩ := hcall k vs [] out σ1 h
  refine ⟨hi, (hc E.bare w us (hg.imm fun _ _ h => h) hw.bare (fit_bare E) hu).mono ?_⟩
  rintro e w' ⟨E1, h1, h2, _, h3⟩
  exact hR e w' E1 h1 h2 h3

theorem y_pure (hC : COK C) (hcall : CallOK C call) {o : Oper} {c : Go.Call} (ho : o.op = .call c) {f : Operand} (hf : c.callee = .value f) {a : Act} {k : Nat} {caps : List AV} {args : List AV} {v : AV} (h : call k (args ++ caps) [] = some (.ret v, []))
    {E : Env} {w : World} {g : Nat → Row} (hw : WOK E g w) (hg : GlobOK C E) {us : List Value} (hfv : a.eval f = .func (.func k) #[] us.toArray) (hall : (args ++ caps).all noId = true)
    (hargs : RelL E args (c.args.toList.map a.eval)) (hcaps : RelL E caps us) {K : Act → World → Prop} {Q : Exit → Act → World → Prop}
    (hK : ∀ cv w' E', Stp E g w E' g w' → RelV E' v cv → E'.own = E.own → K (a.put o.dst cv) w') : o.wp C.P a w K Q := by
  obtain ⟨⟨i, hi⟩, hc⟩ := call_bare hcall h hw hg (noIds_rel (E := E) (E' := E.bare) (fun _ _ h => h) hall (hargs.append hcaps)) (R := fun e w' => match e with
      | .returned v => K (a.put o.dst v) w'
      | .panicked chain => Q (.panic chain) a w'
      | .outgrown => LetsOut Q) (fun e w' E1 h1 h2 h3 => by
    cases e with
    | returned cv => exact hK cv w' ⟨E1.imm, E.own⟩ (forget_stp hw h1) (bare_mono (E := ⟨E1.imm, E.own⟩) (E' := E1) (fun _ _ h => h) h2 h3) rfl
    | panicked ch => exact h3.elim
    | outgrown => exact h3.elim)
  exact wp_callV hC ho hf hi hfv (hc.mono fun e w' he => by cases e <;> exact he)

theorem y_new (hC : COK C) (hcall : CallOK C call) {o : Oper} {c : Go.Call} (ho : o.op = .call c) {f : Operand} (hf : c.callee = .value f) {a : Act} {k : Nat} {caps : List AV} {args : List AV} {v : AV} {σ1 : St} (h : call k (args ++ caps) [] = some (.ret v, σ1))
    {E : Env} {w : World} {g : Nat → Row} (hw : WOK E g w) (hg : GlobOK C E) {us : List Value} (hfv : a.eval f = .func (.func k) #[] us.toArray) (hall : (args ++ caps).all noId = true)
    (hargs : RelL E args (c.args.toList.map a.eval)) (hcaps : RelL E caps us) {fresh : Nat} (hfr : ∀ id, fresh ≤ id → id < fresh + σ1.length → E.own id = none) {K : Act → World → Prop} {Q : Exit → Act → World → Prop}
    (hK : ∀ cv w' E', Stp E g w E' (upd g (adopt fresh (σ1.map (renRow fun id => some (id + fresh))))) w' → RelV E' (ren (fun id => some (id + fresh)) v) cv → (∀ id, ¬ (fresh ≤ id ∧ id < fresh + σ1.length) → E'.own id = E.own id) → K (a.put o.dst cv) w') :
    o.wp C.P a w K Q := by
  obtain ⟨⟨i, hi⟩, hc⟩ := call_bare hcall h hw hg (noIds_rel (E := E) (E' := E.bare) (fun _ _ h => h) hall (hargs.append hcaps)) (R := fun e w' => match e with
      | .returned v => K (a.put o.dst v) w'
      | .panicked chain => Q (.panic chain) a w'
      | .outgrown => LetsOut Q) (fun e w' E1 h1 h2 h3 => by
    cases e with
    | returned cv =>
      have hst := adopt_stp hw h1 h2 hfr
      refine hK cv w' ⟨E1.imm, fun id => if fresh ≤ id ∧ id < fresh + σ1.length then E1.own (id - fresh) else E.own id⟩ ?_ ?_ (fun id hn => if_neg hn)
      · rw [upd_adopt]
        simp only [adopt_len, getRow_map]
        exact hst
      · refine RelV.ren (E := E1) (E' := ⟨E1.imm, fun id => if fresh ≤ id ∧ id < fresh + σ1.length then E1.own (id - fresh) else E.own id⟩) (fun _ _ h => h) ?_ h3
        intro id l j hl hj
        injection hj with hj; subst hj
        have : id < σ1.length := by
          rcases Nat.lt_or_ge id σ1.length with h1 | h1
          · exact h1
          · rw [h2 id h1] at hl; cases hl
        show (if fresh ≤ id + fresh ∧ id + fresh < fresh + σ1.length then E1.own (id + fresh - fresh) else E.own (id + fresh)) = some l
        rw [if_pos (by omega), Nat.add_sub_cancel]; exact hl
    | panicked ch => exact h3.elim
    | outgrown => exact h3.elim)
  exact wp_callV hC ho hf hi hfv (hc.mono fun e w' he => by cases e <;> exact he)

theorem y_forget (hC : COK C) (hcall : CallOK C call) {o : Oper} {c : Go.Call} (ho : o.op = .call c) {f : Operand} (hf : c.callee = .value f) {a : Act} {k : Nat} {xs : List AV} {v : AV} {σ1 : St} (h : call k xs [] = some (.ret v, σ1)) (hv : isE0 v = true)
    {E : Env} {w : World} {g : Nat → Row} (hw : WOK E g w) (hg : GlobOK C E) {us : List Value} (hfv : a.eval f = .func (.func k) #[] us.toArray)
    (hargs : RelL E.bare xs (c.args.toList.map a.eval ++ us)) {K : Act → World → Prop} {Q : Exit → Act → World → Prop}
    (hK : ∀ cv w' E', Stp E g w E' g w' → RelV E' .e0 cv → E'.own = E.own → K (a.put o.dst cv) w') : o.wp C.P a w K Q := by
  obtain ⟨⟨i, hi⟩, hc⟩ := call_bare hcall h hw hg hargs (R := fun e w' => match e with
      | .returned v => K (a.put o.dst v) w'
      | .panicked chain => Q (.panic chain) a w'
      | .outgrown => LetsOut Q) (fun e w' E1 h1 h2 h3 => by
    cases e with
    | returned cv =>
      obtain ⟨q, rfl⟩ := isE0_rel hv h3
      exact hK _ w' ⟨E1.imm, E.own⟩ (forget_stp hw h1) (.e0 q) rfl
    | panicked ch => exact h3.elim
    | outgrown => exact h3.elim)
  exact wp_callV hC ho hf hi hfv (hc.mono fun e w' he => by cases e <;> exact he)

theorem y_state (hC : COK C) (hcall : CallOK C call) {o : Oper} {c : Go.Call} (ho : o.op = .call c) {f : Operand} (hf : c.callee = .value f) {a : Act} {k : Nat} {caps : List AV} {args : List AV} {out : Out} {σ σ' : St} (h : call k (args ++ caps) σ = some (out, σ'))
    {E : Env} {w : World} (hw : WOK E (getRow σ) w) (hg : GlobOK C E) (hfit : Fit E σ.length) {us : List Value} (hfv : a.eval f = .func (.func k) #[] us.toArray)
    (hargs : RelL E args (c.args.toList.map a.eval)) (hcaps : RelL E caps us) {K : Act → World → Prop} {Q : Exit → Act → World → Prop}
    (hK : ∀ v cv w' E', out = .ret v → Stp E (getRow σ) w E' (getRow σ') w' → RelV E' v cv → Fit E' σ'.length → (∀ id, id < σ.length → E'.own id = E.own id) → K (a.put o.dst cv) w')
    (hP : ∀ v cv w' E', out = .panic v → Stp E (getRow σ) w E' (getRow σ') w' → RelV E' v cv → Fit E' σ'.length → (∀ id, id < σ.length → E'.own id = E.own id) → Q (.panic [{ v := cv, recovered := false }]) a w') : o.wp C.P a w K Q := by
  obtain ⟨⟨i, hi⟩, hc⟩ := hcall k _ σ out σ' h
  refine wp_callV hC ho hf hi hfv ((hc E w _ hg hw hfit (hargs.append hcaps)).mono ?_)
  rintro e w' ⟨E', h1, h2, h3, h4⟩
  cases out with
  | ret v => cases e with
    | returned cv => exact hK v cv w' E' rfl h1 h4 h2 h3
    | panicked ch => exact h4.elim
    | outgrown => exact h4.elim
  | panic v => cases e with
    | returned cv => exact h4.elim
    | panicked ch => obtain ⟨cv, rfl, hr⟩ := h4; exact hP v cv w' E' rfl h1 hr h2 h3
    | outgrown => exact h4.elim

theorem callOp_sem (hC : COK C) (hcall : CallOK C call) {o : Oper} {c : Go.Call} (ho : o.op = .call c) {f : Operand} (hf : c.callee = .value f) {ρ : Operand → AV} {v : AV} {σ σ' : St} {acc : Acc} {fresh : Nat} (hle : fresh + slots C o.op ≤ σ.length)
    (h : callOp C call fresh (slots C o.op) (ρ f) (c.args.toList.map ρ) σ = some (.val v σ' acc)) : OpSem C o ρ v (getRow σ) (getRow σ') σ.length σ'.length acc (idsOf C o.op fresh) := by
  unfold callOp at h
  split at h
  case h_2 => cases h
  rename_i k caps hfk
  have hops : ∀ {E : Env} {a : Act}, (∀ x ∈ o.op.operands, RelV E (ρ x) (a.eval x)) → RelL E (c.args.toList.map ρ) (c.args.toList.map a.eval) ∧ ∃ us : List Value, a.eval f = .func (.func k) #[] us.toArray ∧ RelL E caps us := by
    intro E a hρ
    rw [ho] at hρ
    constructor
    · refine ⟨by simp, fun j x hx => ?_⟩
      simp only [List.getElem?_map, Option.map_eq_some_iff] at hx ⊢
      obtain ⟨y, hy, rfl⟩ := hx
      exact ⟨_, ⟨y, hy, rfl⟩, hρ y (by
        have := Array.mem_toList_iff.1 (List.mem_of_getElem? hy)
        simp [Op.operands, Call.operands, this])⟩
    · have := hρ f (by simp [Op.operands, Call.operands, hf])
      rw [hfk] at this
      exact this.fn_inv
  have newCase : ∀ (s : Nat), s ≤ slots C o.op → (c.args.toList.map ρ ++ caps).all noId = true → callNew call k s fresh (c.args.toList.map ρ ++ caps) σ = some (.val v σ' acc) →
      OpSem C o ρ v (getRow σ) (getRow σ') σ.length σ'.length acc (idsOf C o.op fresh) := by
    intro s hs hall hn
    unfold callNew at hn
    split at hn
    · rename_i v1 σ1 hcl
      obtain ⟨hlen, hn⟩ := cond_some hn
      have hlen : σ1.length ≤ s := by simpa using hlen
      simp only [Option.some.injEq, OpR.val.injEq] at hn
      obtain ⟨rfl, rfl, rfl⟩ := hn
      refine ⟨fun id hid => by rw [getRow_applyUpd]; exact upd_out _ _ hid, applyUpd_le _ σ, ?_⟩
      intro E w a g2 K Q hw hg hfit hρ hrd hids hK
      obtain ⟨hargs, us, hus, hcaps⟩ := hops hρ
      refine y_new hC hcall ho hf hcl hw hg hus hall hargs hcaps (fun id h1 h2 => hids id (mem_idsOf.2 ⟨h1, by omega⟩)) ?_
      intro cv w' E' h1 h2 h3
      refine hK cv w' E' (by rw [getRow_applyUpd, mix_upd]; exact h1) h2 (fun id _ hn hi => ?_) (fun id hid => ?_)
      · rw [h3 id (fun hc => hi (mem_idsOf.2 ⟨hc.1, by omega⟩))]; exact hn
      · have := applyUpd_le (adopt fresh (σ1.map (renRow fun id => some (id + fresh)))) σ
        rw [h3 id (by omega)]; exact hfit id (by omega)
    · cases hn
  have stCase : ∀ (out : Out), call k (c.args.toList.map ρ ++ caps) σ = some (out, σ') → out = .ret v → σ.length ≤ σ'.length → acc = ⟨none, none⟩ →
      OpSem C o ρ v (getRow σ) (getRow σ') σ.length σ'.length acc (idsOf C o.op fresh) := by
    intro out hcl hout hl hacc
    subst hacc
    refine ⟨fun id hid => absurd trivial hid, hl, ?_⟩
    intro E w a g2 K Q hw hg hfit hρ hrd hids hK
    obtain ⟨hargs, us, hus, hcaps⟩ := hops hρ
    have e : g2 = getRow σ := funext fun id => hrd id trivial
    subst e
    refine y_state hC hcall ho hf hcl hw hg hfit hus hargs hcaps (fun v1 cv w' E' hv h1 h2 h3 h4 => ?_) (fun v1 cv w' E' hv => by rw [hout] at hv; cases hv)
    rw [hout] at hv; injection hv with hv; subst hv
    exact hK cv w' E' h1 h2 (fun id hid hn _ => by rw [h4 id hid]; exact hn) h3
  have stCase' : (match call k (c.args.toList.map ρ ++ caps) σ with
        | some (.ret v, σ') => bif Nat.ble σ.length σ'.length then some (OpR.val v σ' ⟨none, none⟩) else none
        | some (.panic v, σ') => some (.panic v σ')
        | none => none) = some (.val v σ' acc) → OpSem C o ρ v (getRow σ) (getRow σ') σ.length σ'.length acc (idsOf C o.op fresh) := by
    intro h
    split at h
    · rename_i v1 σ1 hcl
      obtain ⟨hlen, h⟩ := cond_some h
      simp only [Option.some.injEq, OpR.val.injEq] at h
      obtain ⟨rfl, rfl, rfl⟩ := h
      exact stCase _ hcl rfl (by simpa using hlen) rfl
    · cases h
    · cases h
  simp only at h
  split at h
  · obtain ⟨hall, h⟩ := cond_some h
    split at h
    · rename_i v1 hcl
      simp only [Option.some.injEq, OpR.val.injEq] at h
      obtain ⟨rfl, rfl, rfl⟩ := h
      refine ⟨fun id hid => rfl, Nat.le_refl _, ?_⟩
      intro E w a g2 K Q hw hg hfit hρ hrd hids hK
      obtain ⟨hargs, us, hus, hcaps⟩ := hops hρ
      refine y_pure hC hcall ho hf hcl hw hg hus hall hargs hcaps ?_
      intro cv w' E' h1 h2 h3
      have e : mixR (some []) (getRow σ) g2 = g2 := by funext id; exact mix_out (by simp [isIn])
      exact hK cv w' E' (by rw [e]; exact h1) h2 (fun id _ hn _ => by rw [h3]; exact hn) (fun id hid => by rw [h3]; exact hfit id hid)
    · cases h
    · cases h
  · obtain ⟨hall, h⟩ := cond_some h
    simp only [Bool.and_eq_true] at hall
    exact newCase _ (by simpa using hall.2) hall.1 h
  · cases hk : isNilKnown (c.args.toList.map ρ ++ caps) with
    | true =>
      rw [hk] at h
      simp only [cond_true] at h
      split at h
      · rename_i a1 σ1 b1 σ2 hc1 hc2
        obtain ⟨hab, h⟩ := cond_some h
        simp only [Bool.and_eq_true] at hab
        simp only [Option.some.injEq, OpR.val.injEq] at h
        obtain ⟨rfl, rfl, rfl⟩ := h
        refine ⟨fun id hid => rfl, Nat.le_refl _, ?_⟩
        intro E w a g2 K Q hw hg hfit hρ hrd hids hK
        obtain ⟨hargs, us, hus, hcaps⟩ := hops hρ
        have hall := hargs.append hcaps
        rw [isNilKnown_eq hk] at hall
        obtain ⟨u, us', hu, hr, hnil⟩ := hall.cases_cons
        have := hnil.cases_nil; subst this
        have e : mixR (some []) (getRow σ) g2 = g2 := by funext id; exact mix_out (by simp [isIn])
        have fin : ∀ cv w' E', Stp E g2 w E' g2 w' → RelV E' .e0 cv → E'.own = E.own → K (a.put o.dst cv) w' := fun cv w' E' h1 h2 h3 =>
          hK cv w' E' (by rw [e]; exact h1) h2 (fun id _ hn _ => by rw [h3]; exact hn) (fun id hid => by rw [h3]; exact hfit id hid)
        cases hr with
        | i hr => cases hr with
          | nil q cap hq =>
            cases q with
            | none =>
              have := hq rfl; subst this
              exact y_forget hC hcall ho hf hc1 hab.1 hw hg hus (by rw [hu]; exact .cons (.lit_mk _ _) (.nil _)) fin
            | some q => exact y_forget hC hcall ho hf hc2 hab.2 hw hg hus (by rw [hu]; exact .cons (.nn q cap) (.nil _)) fin
          | sl us hne => exact absurd rfl hne
      · cases h
    | false =>
      rw [hk] at h
      simp only [cond_false] at h
      cases hb : (c.args.toList.map ρ ++ caps).all noId && Nat.ble 2 (slots C o.op) with
      | true =>
        rw [hb] at h
        simp only [cond_true] at h
        simp only [Bool.and_eq_true] at hb
        exact newCase 2 (by simpa using hb.2) hb.1 h
      | false =>
        rw [hb] at h
        simp only [cond_false] at h
        exact stCase' h
  · exact stCase' h

/-- A call in text order that panics. -/
theorem callOp_panic (hC : COK C) (hcall : CallOK C call) {o : Oper} {c : Go.Call} (ho : o.op = .call c) {f : Operand} (hf : c.callee = .value f) {ρ : Operand → AV} {v : AV} {σ σ' : St} {fresh sl : Nat}
    (h : callOp C call fresh sl (ρ f) (c.args.toList.map ρ) σ = some (.panic v σ')) {E : Env} {w : World} {a : Act} {K : Act → World → Prop} {Q : Exit → Act → World → Prop} (hw : WOK E (getRow σ) w) (hg : GlobOK C E) (hfit : Fit E σ.length)
    (hρ : ∀ x ∈ o.op.operands, RelV E (ρ x) (a.eval x))
    (hQ : ∀ cv w' E', Stp E (getRow σ) w E' (getRow σ') w' → RelV E' v cv → Fit E' σ'.length → (∀ id, id < σ.length → E'.own id = E.own id) → Q (.panic [{ v := cv, recovered := false }]) a w') : o.wp C.P a w K Q := by
  unfold callOp at h
  split at h
  case h_2 => cases h
  rename_i k caps hfk
  have hops : RelL E (c.args.toList.map ρ) (c.args.toList.map a.eval) ∧ ∃ us : List Value, a.eval f = .func (.func k) #[] us.toArray ∧ RelL E caps us := by
    rw [ho] at hρ
    constructor
    · refine ⟨by simp, fun j x hx => ?_⟩
      simp only [List.getElem?_map, Option.map_eq_some_iff] at hx ⊢
      obtain ⟨y, hy, rfl⟩ := hx
      exact ⟨_, ⟨y, hy, rfl⟩, hρ y (by
        have := Array.mem_toList_iff.1 (List.mem_of_getElem? hy)
        simp [Op.operands, Call.operands, this])⟩
    · have := hρ f (by simp [Op.operands, Call.operands, hf])
      rw [hfk] at this
      exact this.fn_inv
  obtain ⟨hargs, us, hus, hcaps⟩ := hops
  have stCase' : (match call k (c.args.toList.map ρ ++ caps) σ with
        | some (.ret v, σ') => bif Nat.ble σ.length σ'.length then some (OpR.val v σ' ⟨none, none⟩) else none
        | some (.panic v, σ') => some (.panic v σ')
        | none => none) = some (.panic v σ') → o.wp C.P a w K Q := by
    intro h
    split at h
    · obtain ⟨_, h⟩ := cond_some h; cases h
    · rename_i v1 σ1 hcl
      simp only [Option.some.injEq, OpR.panic.injEq] at h
      obtain ⟨rfl, rfl⟩ := h
      exact y_state hC hcall ho hf hcl hw hg hfit hus hargs hcaps (fun _ _ _ _ hv => by cases hv) (fun v2 cv w' E' hv h1 h2 h3 h4 => by
        injection hv with hv; subst hv; exact hQ cv w' E' h1 h2 h3 h4)
    · cases h
  have newN : ∀ s, callNew call k s fresh (c.args.toList.map ρ ++ caps) σ ≠ some (.panic v σ') := by
    intro s hn
    unfold callNew at hn
    split at hn
    · obtain ⟨_, hn⟩ := cond_some hn; cases hn
    · cases hn
  simp only at h
  split at h
  · obtain ⟨hall, h⟩ := cond_some h
    split at h
    · cases h
    · rename_i v1 hcl
      simp only [Option.some.injEq, OpR.panic.injEq] at h
      obtain ⟨rfl, rfl⟩ := h
      obtain ⟨⟨i, hi⟩, hc⟩ := call_bare hcall hcl hw hg (noIds_rel (E := E) (E' := E.bare) (fun _ _ h => h) hall (hargs.append hcaps)) (R := fun e w' => match e with
          | .returned v => K (a.put o.dst v) w'
          | .panicked chain => Q (.panic chain) a w'
          | .outgrown => LetsOut Q) (fun e w' E1 h1 h2 h3 => by
        cases e with
        | returned cv => exact h3.elim
        | panicked ch =>
          obtain ⟨cv, rfl, hr⟩ := h3
          exact hQ cv w' ⟨E1.imm, E.own⟩ (forget_stp hw h1) (bare_mono (E := ⟨E1.imm, E.own⟩) (E' := E1) (fun _ _ h => h) h2 hr) hfit (fun _ _ => rfl)
        | outgrown => exact h3.elim)
      exact wp_callV hC ho hf hi hus (hc.mono fun e w' he => by cases e <;> exact he)
    · cases h
  · obtain ⟨_, h⟩ := cond_some h; exact absurd h (newN _)
  · cases hk : isNilKnown (c.args.toList.map ρ ++ caps) with
    | true =>
      rw [hk] at h
      simp only [cond_true] at h
      split at h
      · obtain ⟨_, h⟩ := cond_some h; cases h
      · cases h
    | false =>
      rw [hk] at h
      simp only [cond_false] at h
      cases hb : (c.args.toList.map ρ ++ caps).all noId && Nat.ble 2 sl with
      | true => rw [hb] at h; exact absurd h (newN _)
      | false => rw [hb] at h; exact stCase' h
  · exact stCase' h

theorem stepOp_sem (hC : COK C) (hcall : CallOK C call) {o : Oper} {ρ : Operand → AV} {v : AV} {σ σ' : St} {acc : Acc} {fresh : Nat} (hle : fresh + slots C o.op ≤ σ.length)
    (h : stepOp C call ρ fresh o.op σ = some (.val v σ' acc)) : OpSem C o ρ v (getRow σ) (getRow σ') σ.length σ'.length acc (idsOf C o.op fresh) := by
  unfold stepOp at h
  split at h
  · rename_i c hc
    split at h
    · rename_i f hf; exact callOp_sem hC hcall hc hf hle h
    · exact stepEx_sem hC hle h
  · split at h
    · cases h
    · cases h
  · exact stepEx_sem hC hle h

theorem stepOp_panic (hC : COK C) (hcall : CallOK C call) {o : Oper} {ρ : Operand → AV} {v : AV} {σ σ' : St} {fresh : Nat}
    (h : stepOp C call ρ fresh o.op σ = some (.panic v σ')) {E : Env} {w : World} {a : Act} {K : Act → World → Prop} {Q : Exit → Act → World → Prop} (hw : WOK E (getRow σ) w) (hg : GlobOK C E) (hfit : Fit E σ.length)
    (hρ : ∀ x ∈ o.op.operands, RelV E (ρ x) (a.eval x))
    (hQ : ∀ cv w' E', Stp E (getRow σ) w E' (getRow σ') w' → RelV E' v cv → Fit E' σ'.length → (∀ id, id < σ.length → E'.own id = E.own id) → Q (.panic [{ v := cv, recovered := false }]) a w') : o.wp C.P a w K Q := by
  have exN : stepEx C ρ fresh o.op σ ≠ some (.panic v σ') := by
    intro hn; unfold stepEx at hn; split at hn <;> cases hn
  unfold stepOp at h
  split at h
  · rename_i c hc
    split at h
    · rename_i f hf; exact callOp_panic hC hcall hc hf h hw hg hfit hρ hQ
    · exact absurd h exN
  · rename_i x hx
    split at h
    · rename_i t u he
      simp only [Option.some.injEq, OpR.panic.injEq] at h
      obtain ⟨rfl, rfl⟩ := h
      have := hρ x (by simp [hx, Op.operands])
      rw [he] at this
      have e := this.lit_inv
      unfold Oper.wp
      have hr : (execOp a.eval o).run C.P w = .halt (.panic (.iface t u)) w := by
        simp [execOp, hx, e, Instr.panic, goPanic]
      rw [hr]
      exact hQ _ w E (.refl hw) (.lit_mk E _) hfit (fun _ _ => rfl)
    · cases h
  · exact absurd h exN

end
end Go.Ai
