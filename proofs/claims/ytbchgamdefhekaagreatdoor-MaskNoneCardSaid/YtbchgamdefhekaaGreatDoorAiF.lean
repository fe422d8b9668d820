/- A function does what 'F' says. -/
import Derived.Test.YtbchgamdefhekaaGreatDoorAiRun
namespace Go.Ai
open Go

section
variable {C : Ctx} {call : Call}

theorem Post.exits (hC : COK C) (hcall : CallOK C call) {n n0 : Nat} {E0 : Env} {g0 : Nat → Row} {w0 : World} {ex : Ex} {fr : Fr} {σ : St} {e : Exit} {a : Act} {w : World} (h : Post C n n0 E0 g0 w0 ex fr σ e a w) (hx : ex ≠ .norm) : e ≠ .normal := by
  cases ex with
  | norm => exact absurd rfl hx
  | exit id => rw [h.1]; simp
  | ret => rw [h.1]; simp
  | panic v => obtain ⟨cv, E, rfl, _⟩ := h; simp

theorem run_sound (hC : COK C) (hcall : CallOK C call) {fi : FI} {n0 : Nat} {E0 : Env} {g0 : Nat → Row} {w0 : World} (h0 : Fit E0 n0) (fuel : Nat) : ∀ (c : Code) (fr : Fr) (σ : St) (ex : Ex) (fr' : Fr) (σ' : St), run C call fi fuel n0 c fr σ = some (ex, fr', σ') →
    ∀ (a : Act) (w : World), Good C fi.ntmps n0 E0 g0 w0 fr σ a w → c.wp C.P (Post C fi.ntmps n0 E0 g0 w0 ex fr' σ') a w := by
  intro c
  induction c with
  | skip =>
    intro fr σ ex fr' σ' h a w hG
    simp only [run, Option.some.injEq, Prod.mk.injEq] at h
    obtain ⟨rfl, rfl, rfl⟩ := h
    exact wp_skip ⟨rfl, hG⟩
  | region id ops draw =>
    intro fr σ ex fr' σ' h a w hG
    simp only [run] at h
    have := region_sound hC hcall h hG id
    simpa using this
  | seq x y ihx ihy =>
    intro fr σ ex fr' σ' h a w hG
    simp only [run] at h
    split at h
    · rename_i fr1 σ1 h1
      refine wp_seq (wp_mono (ihx fr σ _ fr1 σ1 h1 a w hG) ?_)
      rintro e a1 w1 ⟨rfl, hG1⟩
      exact ihy fr1 σ1 ex fr' σ' h a1 w1 hG1
    · rename_i hne
      refine wp_seq (wp_mono (ihx fr σ ex fr' σ' h a w hG) fun e a1 w1 hP => ?_)
      rw [then_ne (hP.exits hC hcall (fun he => by subst he; exact hne _ _ h))]
      exact hP
  | cond c x y ihx ihy =>
    intro fr σ ex fr' σ' h a w hG
    simp only [run] at h
    split at h
    · rename_i t ht
      obtain ⟨E, hE⟩ := hG
      have := eval_rel (x := c) hE.glob (fun t _ => hE.fr.rel t)
      rw [ht] at this
      refine wp_cond (t := t) this.lit_inv ?_
      cases t with
      | true => exact ihx fr σ ex fr' σ' h a w ⟨E, hE⟩
      | false => exact ihy fr σ ex fr' σ' h a w ⟨E, hE⟩
    · cases h
  | block id b ih =>
    intro fr σ ex fr' σ' h a w hG
    simp only [run] at h
    refine wp_block ?_
    split at h
    · rename_i id' fr1 σ1 h1
      refine wp_mono (ih fr σ _ fr1 σ1 h1 a w hG) ?_
      rintro e a1 w1 ⟨rfl, hG1⟩
      show (if id' = id then Post C fi.ntmps n0 E0 g0 w0 ex fr' σ' .normal a1 w1 else Post C fi.ntmps n0 E0 g0 w0 ex fr' σ' (.exit id') a1 w1)
      cases hb : Nat.beq id' id with
      | true =>
        rw [hb] at h
        simp only [cond_true, Option.some.injEq, Prod.mk.injEq] at h
        obtain ⟨rfl, rfl, rfl⟩ := h
        rw [if_pos (Nat.eq_of_beq_eq_true hb)]
        exact ⟨rfl, hG1⟩
      | false =>
        rw [hb] at h
        simp only [cond_false, Option.some.injEq, Prod.mk.injEq] at h
        obtain ⟨rfl, rfl, rfl⟩ := h
        rw [if_neg (fun e => by subst e; simp at hb)]
        exact ⟨rfl, hG1⟩
    · rename_i hne
      refine wp_mono (ih fr σ ex fr' σ' h a w hG) fun e a1 w1 hP => ?_
      cases ex with
      | norm => obtain ⟨rfl, hG1⟩ := hP; exact ⟨rfl, hG1⟩
      | exit id' => exact absurd h (hne _ _ _)
      | ret => obtain ⟨rfl, hG1⟩ := hP; exact ⟨rfl, hG1⟩
      | panic v => obtain ⟨cv, E, rfl, hr⟩ := hP; exact ⟨cv, E, rfl, hr⟩
  | loop b ih =>
    intro fr σ ex fr' σ' h a w hG
    simp only [run] at h
    refine wp_loop_rounds fuel ?_
    revert h
    suffices key : ∀ (m : Nat) (fr : Fr) (σ : St) (a : Act) (w : World), iter (fun fr σ => match compact n0 fuel (prune fi.locs fr) σ with | (fr, σ) => run C call fi fuel n0 b fr σ) m fr σ = some (ex, fr', σ') → Good C fi.ntmps n0 E0 g0 w0 fr σ a w →
        Code.rounds C.P b (Post C fi.ntmps n0 E0 g0 w0 ex fr' σ') m a w from fun h => key fuel fr σ a w h hG
    intro m
    induction m with
    | zero => intro fr σ a w h _; simp [iter] at h
    | succ m ihm =>
      intro fr σ a w h hG
      rw [rounds_succ]
      simp only [iter] at h
      obtain ⟨E, hE⟩ := hG
      have hG2 := Good.compact h0 ⟨E, hE.prune fi.locs⟩ fuel
      revert h hG2
      generalize compact n0 fuel (prune fi.locs fr) σ = q
      obtain ⟨fr2, σ2⟩ := q
      intro h hG2
      simp only at h hG2
      split at h
      · rename_i fr1 σ1 h1
        refine wp_mono (ih fr2 σ2 _ fr1 σ1 h1 a w hG2) ?_
        rintro e a1 w1 ⟨rfl, hG1⟩
        exact ihm fr1 σ1 a1 w1 h hG1
      · rename_i hne
        refine wp_mono (ih fr2 σ2 ex fr' σ' h a w hG2) fun e a1 w1 hP => ?_
        rw [then_ne (hP.exits hC hcall (fun he => by subst he; exact hne _ _ h))]
        exact hP
  | exit id =>
    intro fr σ ex fr' σ' h a w hG
    simp only [run, Option.some.injEq, Prod.mk.injEq] at h
    obtain ⟨rfl, rfl, rfl⟩ := h
    exact wp_exit ⟨rfl, hG⟩
  | ret =>
    intro fr σ ex fr' σ' h a w hG
    simp only [run, Option.some.injEq, Prod.mk.injEq] at h
    obtain ⟨rfl, rfl, rfl⟩ := h
    exact wp_ret ⟨rfl, hG⟩
  | _ =>
    intro fr σ ex fr' σ' h a w hG
    simp [run] at h

/-- What a function yields. -/
theorem results_rel (hC : COK C) {E : Env} {w : World} {fr : Fr} {σ : St} {n : Nat} {a : Act} (hw : WOK E (getRow σ) w) (hg : GlobOK C E) (hf : FrOK n E fr a) : ∀ (rs : List ResultVar) (vs : List AV), rs.mapM (resA C fr σ) = some vs →
    ∃ us : List Value, (rs.mapM fun r => (match r with
      | .tmp t => pure (a.tmps.getD t undef)
      | .cell q t => do loadVar t (← asAddr (a.tmps.getD q undef)) : Sem Value)).run C.P w = .ok us w ∧ RelL E vs us
  | [], vs, h => by
    simp at h; subst h
    exact ⟨[], by simp, .nil E⟩
  | r :: rs, vs, h => by
    simp only [List.mapM_cons] at h
    obtain ⟨v, hv, h⟩ := opt_bind h
    obtain ⟨vs', hvs, h⟩ := opt_bind h
    simp only [Option.pure_def, Option.some.injEq] at h
    subst h
    obtain ⟨us, h1, h2⟩ := results_rel hC hw hg hf rs vs' hvs
    have key : ∃ u, ((match r with
      | .tmp t => pure (a.tmps.getD t undef)
      | .cell q t => do loadVar t (← asAddr (a.tmps.getD q undef)) : Sem Value)).run C.P w = .ok u w ∧ RelV E v u := by
      cases r with
      | tmp t =>
        simp only [resA, Option.some.injEq] at hv
        subst hv
        exact ⟨_, rfl, hf.rel t⟩
      | cell q t =>
        simp only [resA] at hv
        split at hv
        · rename_i v' u' hx
          simp only [Option.some.injEq] at hv
          subst hv
          simp only [exec, evalA] at hx
          obtain ⟨i, hi, hx⟩ := opt_bind hx
          have hq := hf.rel q
          have hi' := hC.ty t i hi
          split at hx
          · rename_i id ei off hlk
            rw [hlk] at hq
            split at hx
            · rename_i sz es hrow
              obtain ⟨e, he, hx⟩ := opt_bind hx
              obtain ⟨v2, hv2, hx⟩ := opt_bind hx
              simp only [Option.some.injEq, Prod.mk.injEq] at hx
              obtain ⟨rfl, _⟩ := hx
              obtain ⟨b, o, e1, hc⟩ := row_cells hw hrow he hq
              obtain ⟨cv, h3, h4⟩ := load_rel hi' hc hv2
              exact ⟨cv, by simp [asAddr, e1, h3], h4⟩
            · cases hx
          · rename_i c off hlk
            rw [hlk] at hq
            obtain ⟨v2, hv2, hx⟩ := opt_bind hx
            simp only [Option.some.injEq, Prod.mk.injEq] at hx
            obtain ⟨rfl, _⟩ := hx
            obtain ⟨b, o, e1, hc⟩ := ipt_cells hw hq
            obtain ⟨cv, h3, h4⟩ := load_rel hi' hc hv2
            exact ⟨cv, by simp [asAddr, e1, h3], h4⟩
          · cases hx
        · cases hv
    obtain ⟨u, h3, h4⟩ := key
    exact ⟨u :: us, by simp only [List.mapM_cons, Sem.run_bind, h3, Result.andThen_ok, h1, Sem.run_pure], .cons h4 h2⟩

end
end Go.Ai
