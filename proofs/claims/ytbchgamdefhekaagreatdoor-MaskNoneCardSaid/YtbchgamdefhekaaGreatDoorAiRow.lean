/- From a run of the interpreter to a row: nothing that was there is changed. -/
import Derived.Test.YtbchgamdefhekaaGreatDoorAiTie
import Derived.Lib.LaidTab
import Derived.Carry
import Derived.Below
import Derived.ChangeSame
import Derived.OpenShut
namespace Go.Ai
open Go Go.RowKit Go.WideShapes Go.ChangeShapes

/-- A world as a call finds it: all that is there stays. -/
def Env.start (W : World) : Env := ⟨fun b => W.heap[b]?, fun _ => none⟩

theorem start_ok (W : World) : WOK (Env.start W) (getRow []) W :=
  ⟨fun _ _ h => h, fun id hd => by rw [getRow_nil] at hd; exact absurd rfl hd, fun i j li lj hi => by rw [getRow_nil] at hi; exact absurd rfl hi⟩

theorem start_below {W W' : World} {E' : Env} {g' : Nat → Row} (h : Stp (Env.start W) (getRow []) W E' g' W') : Below W.heap.size W W' :=
  ⟨h.os, h.tape, h.output, h.size, fun k hk => h.keep k hk (fun ⟨id, l, hd, _⟩ => by rw [getRow_nil] at hd; exact absurd rfl hd)⟩

/-- A law that the interpreter runs to 'true'. -/
theorem law_calls {C : Ctx} (hC : COK C) {n f : Nat} {xs : List AV} {σ : St} (hF : F C n f xs [] = some (.ret (.i (.lit (.bool true))), σ)) {W : World} {args : Array Value} (hg : GlobOK C (Env.start W)) (hx : RelL (Env.start W) xs args.toList) :
    Calls C.P f args W fun e W' => e = .returned (.bool true) ∧ Below W.heap.size W W' := by
  obtain ⟨_, hc⟩ := F_sound hC n f xs [] _ σ hF
  have := hc (Env.start W) W args.toList hg (start_ok W) (fun _ _ => rfl) hx
  have e : args.toList.toArray = args := by simp
  rw [e] at this
  refine Calls.mono this ?_
  rintro e W' ⟨E', h1, _, _, h2⟩
  cases e with
  | returned cv => exact ⟨by rw [h2.lit_inv], start_below h1⟩
  | panicked ch => exact h2.elim
  | outgrown => exact h2.elim

theorem glob_tab {P : Program} {W : World} {name : String} {k : IntKind} {zs : List Int} {g : Nat} (h : Lib.TabIs P W name k zs) (hg : P.globalNamed name = some g) :
    RelV (Env.start W) (.ipt (zs.map fun z => .lit (.int k z)) 0) (.pointer (some ⟨g, 0, none⟩)) := by
  unfold Lib.TabIs World.var? at h
  rw [hg] at h
  simp only [Option.bind_some] at h
  split at h
  · rename_i cs t fz hh
    simp only [Option.some.injEq] at h
    have := RelV.ipt (E := Env.start W) (c := zs.map fun z => IV.lit (.int k z)) (off := 0) (b := g) (o := 0) (arr := cs) (t := t) (fz := fz) (fun j => .int k (zs.getD j 0)) hh (fun j x hx => by
      simp only [List.getElem?_map, Option.map_eq_some_iff] at hx
      obtain ⟨z, hz, rfl⟩ := hx
      rw [h]; simp [hz]) (fun j x hx => by
      simp only [List.getElem?_map, Option.map_eq_some_iff] at hx
      obtain ⟨z, hz, rfl⟩ := hx
      simp only [List.getD_eq_getElem?_getD, hz]
      exact .lit _)
    simpa using this
  · cases h

section
variable {H : Type} {enc : TypeId × Value → H} {P : Program}

theorem post_below {f : Func} {s : ChangeSpec} {apart fresh handsOn again : Bool} {W W' : World} {args : Array Value} {v : Value} {ds gs : List (DataW H)} {before pa pv : List MemPlace}
    (hW : DataW.Whole enc P f.params.toList s.vars apart W args.toList ds gs before)
    (hres : ∀ (b : Nat) (sp : Nat → Bool) (hd : Bool), DataW.TrodAll enc P W' b sp hd f.resultTypes.toList (v.resultList f.resultTypes.size) (s.fn H (ds ++ gs)).results [])
    (hargs : ∀ sp : Nat → Bool, (∀ p ∈ before, sp p.block = true) → DataW.TrodAll enc P W' 0 sp true f.params.toList args.toList (s.fn H (ds ++ gs)).args pa)
    (hvars : ∀ sp : Nat → Bool, (∀ p ∈ before, sp p.block = true) → DataW.TrodVars enc P W' sp s.vars (s.fn H (ds ++ gs)).vars pv)
    (hps : before = pa ++ pv) (hb : Below W.heap.size W W')
    (hok : ∀ (j : Nat) (t : TypeId) (r : Value), f.resultTypes[j]? = some t → (v.resultList f.resultTypes.size)[j]? = some r → Value.okWide P W' .any 0 t r) :
    s.post enc P f apart fresh handsOn again W args v W' := by
  have hlt : ∀ p ∈ before, p.block < W.heap.size := fun p hp => hW.lt p hp
  have hold : ∀ p ∈ before, (fun b => decide (b < W.heap.size)) p.block = true := fun p hp => by simpa using hlt p hp
  refine ⟨ds, gs, before, [], pa, pv, hW, hres _ _ _, hargs _ hold, hvars _ hold, World.keptBut_mono (fun p hp => ⟨hp, ?_⟩) (hb.frame (· ∈ before)), fun _ => ?_⟩
  · rw [hps, List.mem_append] at hp
    exact Or.inr hp
  · obtain ⟨_, _, _, _, _, hz, hn⟩ := hW
    refine ⟨hok, _, _, ([] ++ pa) ++ pv, ⟨[] ++ pa, pv, trodAll_append (hargs _ (fun _ _ => rfl)) (hres _ _ _), hvars _ (fun _ _ => rfl), rfl, ?_, ?_⟩, ?_⟩
    · intro b off hp
      have hin : MemPlace.cell b off ∈ before := by rw [hps]; simpa using hp
      rw [hb.frozen (hlt _ hin)]
      exact hz b off hin
    · intro ha
      have := hn ha
      rw [hps] at this
      simpa using this
    · intro p hp _
      rw [hps]
      simpa using hp

/-- Every argument reads as it did. -/
theorem args_stay (hl : laidOutB P = true) {W W' : World} (hb : Below W.heap.size W W') : ∀ (ts : List TypeId) (vs : List Value) (ds : List (DataW H)) (p : List MemPlace), (∀ t ∈ ts, P.readableRec t = true ∧ t < P.types.size) →
    DataW.TrodAll enc P W 0 (fun _ => true) true ts vs ds p → (∀ x ∈ p, x.block < W.heap.size) → ∀ sp : Nat → Bool, (∀ x ∈ p, sp x.block = true) → DataW.TrodAll enc P W' 0 sp true ts vs ds p := by
  intro ts
  induction ts with
  | nil =>
    intro vs ds p _ h _ sp _
    cases vs with
    | nil => cases ds with
      | nil => obtain rfl : p = [] := h; exact rfl
      | cons d ds => exact absurd h (by intro h; cases h)
    | cons v vs => exact absurd h (by intro h; cases h)
  | cons t ts ih =>
    intro vs ds p hts h hlt sp hsp
    obtain ⟨v0, vs0, d0, ds0, p0, q0, rfl, rfl, rfl, h0, r0⟩ := trodAll_cons h
    have ht := hts t (by simp)
    have h1 := WideElems.Trod_stays (sp' := sp) hl ht.1 ht.2 h0 (fun x hx => hb.same (hlt x (List.mem_append_left _ hx))) (fun x hx => hsp x (List.mem_append_left _ hx))
    exact trodAll_cons_mk h1 (ih vs0 ds0 q0 (fun t ht => hts t (List.mem_cons_of_mem _ ht)) r0 (fun x hx => hlt x (List.mem_append_right _ hx)) sp (fun x hx => hsp x (List.mem_append_right _ hx)))

end
end Go.Ai
