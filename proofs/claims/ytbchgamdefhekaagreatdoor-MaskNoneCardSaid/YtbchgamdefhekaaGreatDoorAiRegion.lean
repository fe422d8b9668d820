/- A region does what 'runOps' says, in text order and in any order. -/
import Derived.Test.YtbchgamdefhekaaGreatDoorAiFrame
namespace Go.Ai
open Go

theorem own_eq {E E' : Env} (le : E.le E') {id : Nat} (h : E.own id = none → E'.own id = none) : E'.own id = E.own id := by
  cases ho : E.own id with
  | none => exact h ho
  | some l => exact le.own id l ho

def sumSlots (C : Ctx) : List Oper → Nat
  | [] => 0
  | o :: r => slots C o.op + sumSlots C r

theorem callNew_len {call : Call} {k s fresh : Nat} {vs : List AV} {σ σ' : St} {v : AV} {acc : Acc} (h : callNew call k s fresh vs σ = some (.val v σ' acc)) : σ.length ≤ σ'.length := by
  unfold callNew at h
  split at h
  · obtain ⟨_, h⟩ := cond_some h
    simp only [Option.some.injEq, OpR.val.injEq] at h
    obtain ⟨_, rfl, _⟩ := h
    exact applyUpd_le _ _
  · cases h

theorem stCase_len {r : Option (Out × St)} {σ σ' : St} {v : AV} {acc : Acc} (h : (match r with
        | some (.ret v, σ') => bif Nat.ble σ.length σ'.length then some (OpR.val v σ' ⟨none, none⟩) else none
        | some (.panic v, σ') => some (.panic v σ')
        | none => none) = some (.val v σ' acc)) : σ.length ≤ σ'.length := by
  split at h
  · obtain ⟨hl, h⟩ := cond_some h
    simp only [Option.some.injEq, OpR.val.injEq] at h
    obtain ⟨_, rfl, _⟩ := h
    simpa using hl
  · cases h
  · cases h

theorem callOp_len {C : Ctx} {call : Call} {fresh sl : Nat} {f : AV} {args : List AV} {σ σ' : St} {v : AV} {acc : Acc} (h : callOp C call fresh sl f args σ = some (.val v σ' acc)) : σ.length ≤ σ'.length := by
  unfold callOp at h
  split at h
  · simp only at h
    split at h
    · obtain ⟨_, h⟩ := cond_some h
      split at h
      · simp only [Option.some.injEq, OpR.val.injEq] at h; obtain ⟨_, rfl, _⟩ := h; exact Nat.le_refl _
      · cases h
      · cases h
    · obtain ⟨_, h⟩ := cond_some h; exact callNew_len h
    · rename_i k caps m hm
      cases hk : isNilKnown (args ++ caps) with
      | true =>
        rw [hk] at h
        simp only [cond_true] at h
        split at h
        · obtain ⟨_, h⟩ := cond_some h
          simp only [Option.some.injEq, OpR.val.injEq] at h; obtain ⟨_, rfl, _⟩ := h; exact Nat.le_refl _
        · cases h
      | false =>
        rw [hk] at h
        simp only [cond_false] at h
        cases hb : (args ++ caps).all noId && Nat.ble 2 sl with
        | true => rw [hb] at h; exact callNew_len h
        | false => rw [hb] at h; exact stCase_len h
    · exact stCase_len h
  · cases h

theorem stepEx_len {C : Ctx} {ρ : Operand → AV} {fresh : Nat} {op : Op} {σ σ' : St} {v : AV} {acc : Acc} (h : stepEx C ρ fresh op σ = some (.val v σ' acc)) : σ.length ≤ σ'.length := by
  unfold stepEx at h
  split at h
  · simp only [Option.some.injEq, OpR.val.injEq] at h; obtain ⟨_, rfl, _⟩ := h; exact applyUpd_le _ _
  · cases h

theorem stepOp_len {C : Ctx} {call : Call} {ρ : Operand → AV} {fresh : Nat} {op : Op} {σ σ' : St} {v : AV} {acc : Acc} (h : stepOp C call ρ fresh op σ = some (.val v σ' acc)) : σ.length ≤ σ'.length := by
  unfold stepOp at h
  split at h
  · split at h
    · exact callOp_len h
    · exact stepEx_len h
  · split at h
    · cases h
    · cases h
  · exact stepEx_len h

/-- The places of a run of operations, one by one. -/
def SeqR (C : Ctx) (n : Nat) (all rest : List Oper) (fresh : Nat) (fr : Fr) (σ : St) (acc : List Acc) (fr' : Fr) (σ' : St) (accs : List Acc) : Prop :=
    ∃ (frs : Nat → Fr) (σs : Nat → St) (off : Nat → Nat) (as : List Acc), accs = acc.reverse ++ as ∧ as.length = rest.length ∧ frs 0 = fr ∧ σs 0 = σ ∧ off 0 = fresh ∧ frs rest.length = fr' ∧ σs rest.length = σ' ∧
      off rest.length = fresh + sumSlots C rest ∧
      ∀ i o, rest[i]? = some o → ∃ ac v b, as[i]? = some ac ∧ wantedA all (frs i) o = some b ∧ putA n (frs i) o.dst v = some (frs (i + 1)) ∧ off (i + 1) = off i + slots C o.op ∧ (σs i).length ≤ (σs (i + 1)).length ∧
    (b = true → off i + slots C o.op ≤ (σs i).length → OpSem C o (evalA C (frs i)) v (getRow (σs i)) (getRow (σs (i + 1))) (σs i).length (σs (i + 1)).length ac (idsOf C o.op (off i))) ∧
    (b = false → v = .tup [] ∧ σs (i + 1) = σs i ∧ ac = ⟨some [], some []⟩)

section
variable {C : Ctx} {call : Call}

/-- In text order. -/
theorem runOps_text (hC : COK C) (hcall : CallOK C call) {n : Nat} {all : List Oper} {Q : Exit → Act → World → Prop} : ∀ (rest pre : List Oper) (fresh : Nat) (fr : Fr) (σ : St) (acc : List Acc) (r : RegR), all = pre ++ rest → runOps C call n all rest fresh fr σ acc = some r →
    ∀ (E : Env) (w : World) (a : Act) (B : Nat), fresh + sumSlots C rest ≤ σ.length → WOK E (getRow σ) w → GlobOK C E → Fit E σ.length → FrOK n E fr a → (∀ id, fresh ≤ id → id < fresh + sumSlots C rest → E.own id = none) → B ≤ fresh →
    (∀ E' w' a', (match r with | .norm fr' σ' _ => Stp E (getRow σ) w E' (getRow σ') w' ∧ Fit E' σ'.length ∧ FrOK n E' fr' a' ∧ σ.length ≤ σ'.length | .panic _ _ _ => False) → (∀ id, id < B → E'.own id = E.own id) → Q .normal a' w') →
    (∀ E' w' a' cv, (match r with | .norm _ _ _ => False | .panic v fr' σ' => Stp E (getRow σ) w E' (getRow σ') w' ∧ Fit E' σ'.length ∧ FrOK n E' fr' a' ∧ RelV E' v cv) → (∀ id, id < B → E'.own id = E.own id) → Q (.panic [{ v := cv, recovered := false }]) a' w') →
    wpOps C.P all.toArray Q (List.range' pre.length rest.length) a w
  | [], pre, fresh, fr, σ, acc, r, he, h, E, w, a, B, _, hw, _, hfit, hfr, _, _, hN, _ => by
    simp only [runOps, Option.some.injEq] at h
    subst h
    exact hN E w a ⟨.refl hw, hfit, hfr, Nat.le_refl _⟩ (fun _ _ => rfl)
  | o :: rest, pre, fresh, fr, σ, acc, r, he, h, E, w, a, B, hle, hw, hg, hfit, hfr, hids, hB, hN, hP => by
    simp only [runOps] at h
    obtain ⟨b, hb, h⟩ := opt_bind h
    have hget : all.toArray[pre.length]? = some o := by simp [he]
    have hwant := wanted_rel (a := a) hb (fun j want t _ _ => hfr.rel t)
    have hρ : ∀ x ∈ o.op.operands, RelV E (evalA C fr x) (a.eval x) := fun x _ => eval_rel hg (fun t _ => hfr.rel t)
    simp only [sumSlots] at hle hids
    simp only [List.length_cons, List.range'_succ, wpOps, hget, hwant]
    have next : ∀ (v cv : _) (fr1 : Fr) (σ1 : St) (acc1 : List Acc) (E1 : Env) (w1 : World), runOps C call n all rest (fresh + slots C o.op) fr1 σ1 acc1 = some r → putA n fr o.dst v = some fr1 → RelV E1 v cv →
        Stp E (getRow σ) w E1 (getRow σ1) w1 → σ.length ≤ σ1.length → Fit E1 σ1.length → (∀ id, id < σ.length → E.own id = none → id ∉ idsOf C o.op fresh → E1.own id = none) →
        wpOps C.P all.toArray Q (List.range' (pre.length + 1) rest.length) (a.put o.dst cv) w1 := by
      intro v cv fr1 σ1 acc1 E1 w1 hrun hput hv hst hl hf1 hown
      have hB1 : ∀ id, id < B → E1.own id = E.own id := fun id hid => own_eq hst.le fun hn => hown id (by omega) hn (fun hm => by have := mem_idsOf.1 hm; omega)
      have := runOps_text hC hcall rest (pre ++ [o]) (fresh + slots C o.op) fr1 σ1 acc1 r (by simp [he]) hrun E1 w1 (a.put o.dst cv) B (by omega) hst.ok (hg.imm hst.le.imm) hf1 ((hfr.mono hst.le).put hput hv)
        (fun id h1 h2 => hown id (by omega) (hids id (by omega) (by omega)) (fun hm => by have := mem_idsOf.1 hm; omega)) (by omega)
        (fun E' w' a' hx hy => by
          refine hN E' w' a' ?_ (fun id hid => by rw [hy id hid, hB1 id hid])
          cases r with
          | norm fr' σ' _ => exact ⟨hst.trans hx.1, hx.2.1, hx.2.2.1, Nat.le_trans hl hx.2.2.2⟩
          | panic v fr' σ' => exact hx.elim)
        (fun E' w' a' cv hx hy => by
          refine hP E' w' a' cv ?_ (fun id hid => by rw [hy id hid, hB1 id hid])
          cases r with
          | norm fr' σ' _ => exact hx.elim
          | panic v fr' σ' => exact ⟨hst.trans hx.1, hx.2.1, hx.2.2.1, hx.2.2.2⟩)
      simpa using this
    cases b with
    | true =>
      simp only [cond_true] at h
      simp only [if_true]
      refine .inl ?_
      split at h
      · rename_i v σ1 ac hs
        obtain ⟨fr1, hput, h⟩ := opt_bind h
        obtain ⟨ho1, ho2, ho3⟩ := stepOp_sem hC hcall (by omega) hs
        refine ho3 E w a (getRow σ) _ Q hw hg hfit hρ (fun _ _ => rfl) (fun id hm => by have := mem_idsOf.1 hm; exact hids id (by omega) (by omega)) ?_
        intro cv w1 E1 h1 h2 h3 h4
        rw [mix_self ho1] at h1
        exact next v cv fr1 σ1 _ E1 w1 h hput h2 h1 ho2 h4 h3
      · rename_i v σ1 hs
        simp only [Option.some.injEq] at h
        subst h
        refine stepOp_panic hC hcall hs hw hg hfit hρ ?_
        intro cv w1 E1 h1 h2 h3 h4
        exact hP E1 w1 a cv ⟨h1, h3, hfr.mono h1.le, h2⟩ (fun id hid => h4 id (by omega))
      · cases h
    | false =>
      simp only [cond_false] at h
      obtain ⟨fr1, hput, h⟩ := opt_bind h
      simp only [Bool.false_eq_true, if_false]
      exact next (.tup []) undef fr1 σ _ E w h hput (tup_undef E) (.refl hw) (Nat.le_refl _) hfit (fun _ _ hn _ => hn)

theorem runOps_seq (hC : COK C) (hcall : CallOK C call) {n : Nat} {all : List Oper} : ∀ (rest : List Oper) (fresh : Nat) (fr : Fr) (σ : St) (acc : List Acc) (fr' : Fr) (σ' : St) (accs : List Acc), runOps C call n all rest fresh fr σ acc = some (.norm fr' σ' accs) →
    SeqR C n all rest fresh fr σ acc fr' σ' accs
  | [], fresh, fr, σ, acc, fr', σ', accs, h => by
    simp only [runOps, Option.some.injEq, RegR.norm.injEq] at h
    obtain ⟨rfl, rfl, rfl⟩ := h
    exact ⟨fun _ => fr, fun _ => σ, fun _ => fresh, [], by simp, rfl, rfl, rfl, rfl, rfl, rfl, rfl, fun i o h => by simp at h⟩
  | o :: rest, fresh, fr, σ, acc, fr', σ', accs, h => by
    simp only [runOps] at h
    obtain ⟨b, hb, h⟩ := opt_bind h
    have fin : ∀ (v : AV) (ac : Acc) (fr1 : Fr) (σ1 : St), putA n fr o.dst v = some fr1 → runOps C call n all rest (fresh + slots C o.op) fr1 σ1 (ac :: acc) = some (.norm fr' σ' accs) → σ.length ≤ σ1.length →
        (b = true → fresh + slots C o.op ≤ σ.length → OpSem C o (evalA C fr) v (getRow σ) (getRow σ1) σ.length σ1.length ac (idsOf C o.op fresh)) → (b = false → v = .tup [] ∧ σ1 = σ ∧ ac = ⟨some [], some []⟩) → SeqR C n all (o :: rest) fresh fr σ acc fr' σ' accs := by
      intro v ac fr1 σ1 hput hrun hlen hsem hskip
      obtain ⟨frs, σs, off, as, h1, h2, h3, h4, h5, h6, h7, h8, h9⟩ := runOps_seq hC hcall rest (fresh + slots C o.op) fr1 σ1 (ac :: acc) fr' σ' accs hrun
      refine ⟨fun i => match i with | 0 => fr | i + 1 => frs i, fun i => match i with | 0 => σ | i + 1 => σs i, fun i => match i with | 0 => fresh | i + 1 => off i, ac :: as, by simp [h1], by simp [h2], rfl, rfl, rfl, h6, h7,
        by simp only [List.length_cons, sumSlots, h8]; omega, ?_⟩
      intro i o' ho'
      cases i with
      | zero =>
        simp only [List.getElem?_cons_zero, Option.some.injEq] at ho'
        subst ho'
        refine ⟨ac, v, b, rfl, hb, by rw [show (0 + 1 : Nat) = 0 + 1 from rfl]; simp only [h3]; exact hput, by simp only [h5], by simp only [h4]; exact hlen, ?_, ?_⟩
        · simp only [h4]; exact hsem
        · simp only [h4]; exact hskip
      | succ i =>
        simp only [List.getElem?_cons_succ] at ho' ⊢
        exact h9 i o' ho'
    cases b with
    | true =>
      simp only [cond_true] at h
      split at h
      · rename_i v σ1 ac hs
        obtain ⟨fr1, hput, h⟩ := opt_bind h
        refine fin v ac fr1 σ1 hput h ?_ (fun _ hle => stepOp_sem hC hcall hle hs) (fun hf => by cases hf)
        exact stepOp_len hs
      · cases h
      · cases h
    | false =>
      simp only [cond_false] at h
      obtain ⟨fr1, hput, h⟩ := opt_bind h
      exact fin (.tup []) _ fr1 σ hput h (Nat.le_refl _) (fun hf => by cases hf) (fun _ => ⟨rfl, rfl, rfl⟩)

end
end Go.Ai
