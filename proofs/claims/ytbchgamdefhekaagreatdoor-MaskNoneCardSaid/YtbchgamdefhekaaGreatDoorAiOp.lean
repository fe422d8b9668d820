/- An operation of a region does what 'stepOp' says. -/
import Derived.Test.YtbchgamdefhekaaGreatDoorAiStep
namespace Go.Ai
open Go

/-- What is wanted of an operation: at any world that shows what it looks at, it yields the value and leaves the rows of its account as said. -/
def OpSem (C : Ctx) (o : Oper) (ρ : Operand → AV) (v : AV) (g g' : Nat → Row) (L L' : Nat) (acc : Acc) (ids : List Nat) : Prop :=
  (∀ id, ¬ isIn acc.wr id → g' id = g id) ∧ L ≤ L' ∧
  ∀ (E : Env) (w : World) (a : Act) (g2 : Nat → Row) (K : Act → World → Prop) (Q : Exit → Act → World → Prop),
    WOK E g2 w → GlobOK C E → Fit E L → (∀ x ∈ o.op.operands, RelV E (ρ x) (a.eval x)) → (∀ id, isIn acc.rd id → g2 id = g id) → (∀ id ∈ ids, E.own id = none) →
    (∀ cv w' E', Stp E g2 w E' (mixR acc.wr g' g2) w' → RelV E' v cv → (∀ id, id < L → E.own id = none → id ∉ ids → E'.own id = none) → Fit E' L' → K (a.put o.dst cv) w') →
    o.wp C.P a w K Q

def idsOf (C : Ctx) (op : Op) (fresh : Nat) : List Nat := List.range' fresh (slots C op)

theorem mem_idsOf {C : Ctx} {op : Op} {fresh id : Nat} : id ∈ idsOf C op fresh ↔ fresh ≤ id ∧ id < fresh + slots C op := by
  simp [idsOf, List.mem_range'_1]

theorem exec_fresh {C : Ctx} {g : Nat → Row} {ρ : Operand → AV} {op : Op} (h : slots C op = 0) (f1 f2 : Nat) : exec C g f1 ρ op = exec C g f2 ρ op := by
  cases op with
  | call c =>
    simp only [exec]
    cases hc : c.callee with
    | builtin b =>
      simp only []
      cases b with
      | append => simp [slots, hc] at h
      | _ => rfl
    | _ => rfl
  | alloc t => simp [slots] at h
  | box t x => simp [slots] at h
  | buildSlice t l p => simp [slots] at h
  | makeMap t r => simp [slots] at h
  | makeSlice t l c => simp [slots] at h
  | _ => rfl

theorem stepEx_sem {C : Ctx} (hC : COK C) {o : Oper} {ρ : Operand → AV} {v : AV} {σ σ' : St} {acc : Acc} {fresh : Nat} (hle : fresh + slots C o.op ≤ σ.length)
    (h : stepEx C ρ fresh o.op σ = some (.val v σ' acc)) : OpSem C o ρ v (getRow σ) (getRow σ') σ.length σ'.length acc (idsOf C o.op fresh) := by
  unfold stepEx at h
  cases he : exec C (getRow σ) fresh ρ o.op with
  | none => rw [he] at h; cases h
  | some r =>
    obtain ⟨v', u⟩ := r
    rw [he] at h
    simp only [Option.some.injEq, OpR.val.injEq] at h
    obtain ⟨rfl, rfl, rfl⟩ := h
    refine ⟨fun id hid => by rw [getRow_applyUpd]; exact upd_out u _ hid, applyUpd_le u σ, ?_⟩
    intro E w a g2 K Q hw hg hfit hρ hrd hids hK
    have hloc := exec_local (C := C) (fresh := fresh) (ρ := ρ) (op := o.op) (g := getRow σ) (g2 := g2) (fun id hid => hrd id hid)
    rw [he] at hloc
    have key : Yld C.P E g2 w (execOp a.eval o) v' u (idsOf C o.op fresh) := by
      by_cases hs : slots C o.op = 0
      · rw [exec_fresh hs fresh σ.length] at hloc
        have := exec_sound hC hw (hfit σ.length (Nat.le_refl _)) hρ hloc
        have e : freshOf C o.op σ.length = [] := by simp [freshOf, hs]
        rw [e] at this
        have e2 : idsOf C o.op fresh = [] := by simp [idsOf, hs]
        rw [e2]; exact this
      · have hm : fresh ∈ idsOf C o.op fresh := mem_idsOf.2 ⟨Nat.le_refl _, by omega⟩
        have := exec_sound hC hw (hids fresh hm) hρ hloc
        have e : freshOf C o.op fresh = [fresh] := by simp [freshOf, hs]
        rw [e] at this
        obtain ⟨cv, w', E', h1, h2, h3, h4⟩ := this
        exact ⟨cv, w', E', h1, h2, h3, fun id hn hi => h4 id hn (fun hm' => hi (by simp at hm'; subst hm'; exact hm))⟩
    obtain ⟨cv, w', E', h1, h2, h3, h4⟩ := key
    have hK' := hK cv w' E' (by rw [getRow_applyUpd, mix_upd]; exact h2) h3 (fun id _ hn hi => h4 id hn hi) (fun id hid => h4 id (hfit id (Nat.le_trans (applyUpd_le u σ) hid)) (fun hm => by
      have := mem_idsOf.1 hm
      have := applyUpd_le u σ
      omega))
    unfold Oper.wp
    rcases h1 with h1 | ⟨h1, rfl⟩
    · rw [h1]; exact hK'
    · rw [h1]; exact hK'

theorem getRow_map (f : Nat → Option Nat) (σ : St) (j : Nat) : getRow (σ.map (renRow f)) j = renRow f (getRow σ j) := by
  simp only [getRow, List.getD_eq_getElem?_getD, List.getElem?_map]
  cases σ[j]? <;> rfl

theorem upd_adopt : ∀ (rows : List Row) (k : Nat) (g : Nat → Row), upd g (adopt k rows) = fun id => if k ≤ id ∧ id < k + rows.length then getRow rows (id - k) else g id
  | [], k, g => by
    funext id
    rw [if_neg (by simp)]; rfl
  | r :: rest, k, g => by
    show upd (fun i => if i = k then r else g i) (adopt (k + 1) rest) = _
    rw [upd_adopt rest]
    funext id
    simp only [List.length_cons]
    by_cases h1 : k + 1 ≤ id ∧ id < k + 1 + rest.length
    · rw [if_pos h1, if_pos (by omega)]
      obtain ⟨m, hm⟩ : ∃ m, id = k + 1 + m := ⟨id - (k + 1), by omega⟩
      subst hm
      rw [show k + 1 + m - (k + 1) = m by omega, show k + 1 + m - k = m + 1 by omega]
      simp [getRow]
    · rw [if_neg h1]
      by_cases h2 : id = k
      · subst h2; rw [if_pos rfl, if_pos (by omega)]; simp [getRow]
      · rw [if_neg h2, if_neg (by omega)]

theorem adopt_len (rows : List Row) (f : Nat → Option Nat) : (rows.map (renRow f)).length = rows.length := by simp

/-- A call of a function value runs the function. -/
theorem wp_callV {C : Ctx} (hC : COK C) {o : Oper} {c : Go.Call} (ho : o.op = .call c) {f : Operand} (hf : c.callee = .value f) {k : Nat} {i : FI} (hi : C.fn k = some i) {a : Act} {w : World} {us : List Value} (hv : a.eval f = .func (.func k) #[] us.toArray)
    {K : Act → World → Prop} {Q : Exit → Act → World → Prop} (h : Calls C.P k (((c.args.toList.map a.eval) ++ us).toArray) w fun
      | .returned v, w'' => K (a.put o.dst v) w''
      | .panicked chain, w'' => Q (.panic chain) a w''
      | .outgrown, _ => LetsOut Q) : o.wp C.P a w K Q := by
  unfold Oper.wp
  have : (execOp a.eval o).run C.P w = .ok (.enter k ((c.args.toList.map a.eval ++ us).toArray)) w := by
    have e : (c.args.toList.map a.eval ++ us).toArray = c.args.map a.eval ++ us.toArray := by
      apply Array.toList_inj.1; simp
    rw [e]
    simp only [execOp, ho, resolve, hf, hv, Deferred.ofValue, Sem.run_bind, Sem.run_pure, Result.andThen_ok, invoke, Array.empty_append]
    exact hC.call k i hi _ w
  rw [this]
  exact h

theorem bare_mono {E E' : Env} (himm : ∀ b o, E'.imm b = some o → E.imm b = some o) (hfit : Fit E' 0) {x : AV} {v : Value} (r : RelV E' x v) : RelV E x v :=
  r.mono ⟨himm, fun id l hl => by rw [hfit id (Nat.zero_le _)] at hl; cases hl⟩

theorem fit_bare (E : Env) : Fit E.bare ([] : St).length := fun _ _ => rfl

end Go.Ai
