/- A context that says what the program says; small runs. -/
import Derived.Test.YtbchgamdefhekaaGreatDoorAiRel
import Derived.Laws.Sem
import Derived.Laws.Cells
import Derived.Laws.CopyRow
namespace Go.Ai
open Go

def aggD : TypeDesc → Bool
  | .struct _ | .array _ _ => true
  | _ => false

def SzOK (P : Program) (t n : Nat) : Prop := ∃ info, P.info? t = some info ∧ info.size = n

def KdOK (P : Program) : Kd → TypeDesc → Prop
  | .other, _ => True
  | .string, d => d = .string
  | .int, d => ∃ k, d = .int k
  | .ptr, d => ∃ e, d = .pointer e
  | .func, d => ∃ a b c, d = .func a b c
  | .map k e kd, d => d = .map k e ∧ P.underlying k = some kd
  | .struct fs, d => ∃ fields : Array Field, d = .struct fields ∧ fields.size = fs.length ∧ ∀ (j : Nat) (q : Nat × Nat × Bool), fs[j]? = some q →
      ∃ f, fields[j]? = some f ∧ f.offset = q.1 ∧ SzOK P f.type q.2.1 ∧ ∃ d', P.underlying f.type = some d' ∧ aggD d' = q.2.2
  | .array n e esz, d => d = .array n e ∧ SzOK P e esz ∧ ∃ d', P.underlying e = some d'
  | .slice e esz, d => d = .slice e ∧ SzOK P e esz

def zv (i : TI) : Value := bif i.agg then .agg i.zero.toArray else i.zero.headD (.tuple #[])

structure TyOK (P : Program) (t : Nat) (i : TI) : Prop where
  info : ∃ f, P.info? t = some f ∧ f.size = i.size ∧ f.bytes = i.bytes ∧ f.zero = some (zv i)
  und : ∃ d, P.underlying t = some d ∧ aggD d = i.agg ∧ KdOK P i.kd d
  ones : i.zero.all oneC = true
  len : i.zero.length = i.size
  scalar : i.agg = false → i.size = 1

structure COK (C : Ctx) : Prop where
  ty : ∀ t i, C.ty t = some i → TyOK C.P t i
  fn : ∀ f i, C.fn f = some i → ∃ fn, C.P.funcs[f]? = some fn ∧ fn.body = some i.body ∧ fn.ntmps = i.ntmps ∧ fn.results.toList = i.results
  call : ∀ f i, C.fn f = some i → ∀ args w, (callFunc f args).run C.P w = .ok (.enter f args) w
  mixed : C.P.follows .mixedOrders = true

section
variable {P : Program}

theorem run_info {t : Nat} {f : TypeInfo} (h : P.info? t = some f) (w : World) : (typeInfo t).run P w = .ok f w := by simp [typeInfo, h]
theorem run_und {t : Nat} {d : TypeDesc} (h : P.underlying t = some d) (w : World) : (underlying t).run P w = .ok d w := by simp [underlying, h]
theorem run_size {t n : Nat} (h : SzOK P t n) (w : World) : (Go.sizeOf t).run P w = .ok n w := by
  obtain ⟨f, hf, rfl⟩ := h; simp [Go.sizeOf, run_info hf]
theorem run_agg {t : Nat} {d : TypeDesc} (h : P.underlying t = some d) (w : World) : (isAgg t).run P w = .ok (aggD d) w := by
  simp only [isAgg, Sem.run_bind, run_und h, Result.andThen_ok]; cases d <;> rfl

theorem TyOK.sz {t : Nat} {i : TI} (h : TyOK P t i) : SzOK P t i.size := by obtain ⟨f, a, b, _⟩ := h.info; exact ⟨f, a, b⟩
theorem TyOK.run_agg {t : Nat} {i : TI} (h : TyOK P t i) (w : World) : (isAgg t).run P w = .ok i.agg w := by
  obtain ⟨d, a, b, _⟩ := h.und; rw [Ai.run_agg a, b]
theorem TyOK.run_zero {t : Nat} {i : TI} (h : TyOK P t i) (w : World) : (zeroValue t).run P w = .ok (zv i) w := by
  obtain ⟨f, a, _, _, d⟩ := h.info; simp [zeroValue, run_info a, d]
theorem TyOK.bytes {t : Nat} {i : TI} (h : TyOK P t i) (w : World) : ∃ f, (typeInfo t).run P w = .ok f w ∧ f.bytes = i.bytes := by
  obtain ⟨f, a, _, c, _⟩ := h.info; exact ⟨f, run_info a w, c⟩

theorem oneC_eq (v : Value) : oneC v = v.oneCell' := by cases v <;> rfl

theorem TyOK.zcells {t : Nat} {i : TI} (h : TyOK P t i) : (zv i).cells.toList = i.zero := by
  unfold zv
  cases ha : i.agg with
  | true => simp [Value.cells]
  | false =>
    have hl := h.len; have hs := h.scalar ha
    match hz : i.zero with
    | [] => rw [hz] at hl; simp [hs] at hl
    | [c] =>
      have := h.ones; rw [hz] at this
      cases c <;> simp_all [Value.cells, oneC]
    | _ :: _ :: _ => rw [hz, hs] at hl; simp at hl

/-! ### peek -/
theorem peek_run {α : Type} : ∀ (s : Sem α) (a : α), peek P s = some a → ∀ w, s.run P w = .ok a w
  | .pure b, a, h, w => by simp only [peek, Option.some.injEq] at h; subst h; rfl
  | .program k, a, h, w => by simp only [peek] at h; simp only [Sem.run]; exact peek_run (k P) a h w
  | .mark m k, a, h, w => by simp only [peek] at h; simp only [Sem.run]; exact peek_run k a h w
  | .load .., _, h, _ => by simp [peek] at h
  | .store .., _, h, _ => by simp [peek] at h
  | .new .., _, h, _ => by simp [peek] at h
  | .shape .., _, h, _ => by simp [peek] at h
  | .freeze .., _, h, _ => by simp [peek] at h
  | .frozen .., _, h, _ => by simp [peek] at h
  | .getObj .., _, h, _ => by simp [peek] at h
  | .setObj .., _, h, _ => by simp [peek] at h
  | .choose .., _, h, _ => by simp [peek] at h
  | .sys .., _, h, _ => by simp [peek] at h
  | .halt .., _, h, _ => by simp [peek] at h

end

/-! ### plain values -/
theorem mapM_lit {E : Env} : ∀ (cs : List AV) (l : List Value), cs.mapM litOf = some l → ∀ vs, RelL E cs vs → vs = l
  | [], l, h, vs, hr => by simp at h; subst h; exact hr.cases_nil
  | c :: cs, l, h, vs, hr => by
    simp only [List.mapM_cons, Option.pure_def, Option.bind_eq_bind, Option.bind_eq_some_iff] at h
    obtain ⟨x, hx, ys, hys, he⟩ := h
    injection he with he; subst he
    obtain ⟨v, vs', rfl, h1, h2⟩ := hr.cases_cons
    rw [mapM_lit cs ys hys vs' h2]
    cases c with
    | i x' => cases x' with
      | lit u => simp [litOf] at hx; subst hx; rw [h1.lit_inv]
      | sl es => simp [litOf] at hx
    | _ => simp [litOf] at hx

theorem toVal_rel {E : Env} {x : AV} {u v : Value} (h : toVal x = some u) (r : RelV E x v) : v = u := by
  cases x with
  | i x => cases x with
    | lit w => simp [toVal] at h; subst h; exact r.lit_inv
    | sl es => simp [toVal] at h
  | agg cs =>
    simp only [toVal, Option.map_eq_some_iff] at h
    obtain ⟨l, hl, rfl⟩ := h
    obtain ⟨vs, rfl, hr⟩ := r.agg_inv
    rw [mapM_lit cs l hl vs hr]
  | fn f caps => cases caps with
    | nil => simp [toVal] at h; subst h; obtain ⟨vs, rfl, hr⟩ := r.fn_inv; rw [hr.cases_nil]
    | cons a b => simp [toVal] at h
  | _ => simp [toVal] at h

theorem litOf_rel {E : Env} {x : AV} {u v : Value} (h : litOf x = some u) (r : RelV E x v) : v = u := by
  cases x with
  | i x => cases x with
    | lit w => simp [litOf] at h; subst h; exact r.lit_inv
    | sl es => simp [litOf] at h
  | _ => simp [litOf] at h

theorem natOf_rel {E : Env} {x : AV} {n : Nat} {v : Value} (h : natOf x = some n) (r : RelV E x v) : ∃ k, v = .int k n := by
  cases x with
  | i x => cases x with
    | lit w =>
      have e := r.lit_inv; rw [e]; clear r e
      cases w <;> simp [natOf] at h
      rename_i k m
      cases m with
      | ofNat q => simp at h; subst h; exact ⟨k, rfl⟩
      | negSucc q => simp at h
    | sl es => simp [natOf] at h
  | _ => simp [natOf] at h

/-- A value of certainly one cell is one. -/
theorem one_rel {E : Env} {x : AV} {v : Value} (h : one x = true) (r : RelV E x v) : v.oneCell' = true := by
  cases r with
  | i r => cases r with
    | lit u => simp [one] at h; rw [oneC_eq] at h; exact h
    | nil => rfl
    | sl => rfl
  | junk => simp [one] at h
  | agg => simp [one] at h
  | tup => simp [one] at h
  | _ => rfl

theorem Value.cells_one {v : Value} (h : v.oneCell' = true) : v.cells = #[v] := by cases v <;> first | rfl | simp [Value.oneCell'] at h

theorem cellsOf_rel {E : Env} {x : AV} {cs : List AV} {v : Value} (h : cellsOf x = some cs) (r : RelV E x v) :
    RelL E cs v.cells.toList ∧ (∀ u ∈ v.cells.toList, u.oneCell' = true) ∧ cs.all one = true := by
  have key : ∀ (q : AV) , one q = true → ∀ u, RelV E q u → RelL E [q] u.cells.toList ∧ (∀ z ∈ u.cells.toList, z.oneCell' = true) ∧ [q].all one = true := by
    intro q hq u hu
    have h1 := one_rel hq hu
    rw [Value.cells_one h1]
    exact ⟨.cons hu (.nil E), by simpa using h1, by simpa using hq⟩
  cases x with
  | agg ds =>
    simp only [cellsOf] at h
    cases ha : ds.all one with
    | false => rw [ha] at h; simp at h
    | true =>
      rw [ha] at h; simp at h; subst h
      obtain ⟨vs, rfl, hr⟩ := r.agg_inv
      refine ⟨by simpa [Value.cells] using hr, ?_, ha⟩
      intro u hu
      simp only [Value.cells, List.toList_toArray] at hu
      obtain ⟨j, hj, rfl⟩ := List.getElem_of_mem hu
      have hlen := hr.len
      obtain ⟨u', hu', hru⟩ := hr.get (j := j) (x := ds[j]'(by omega)) (List.getElem?_eq_getElem _)
      have : vs[j] = u' := by simpa using (List.getElem?_eq_some_iff.1 hu').2
      rw [this]
      exact one_rel (List.all_eq_true.1 ha _ (List.getElem_mem _)) hru
  | tup ds => simp [cellsOf, one] at h
  | junk => simp [cellsOf, one] at h
  | i y =>
    simp only [cellsOf] at h
    cases ho : one (.i y) with
    | false => rw [ho] at h; simp at h
    | true => rw [ho] at h; simp at h; subst h; exact key _ ho _ r
  | _ => (simp only [cellsOf, one, cond_true, Option.some.injEq] at h; subst h; exact key _ rfl _ r)

theorem ofVal1_rel (E : Env) (v : Value) : RelV E (ofVal1 v) v := by
  cases v with
  | agg cs =>
    simp only [ofVal1]
    have : RelL E (cs.toList.map fun c => AV.i (.lit c)) cs.toList := ⟨by simp, fun j x hx => by
      simp only [List.getElem?_map, Option.map_eq_some_iff] at hx
      obtain ⟨u, hu, rfl⟩ := hx
      exact ⟨u, hu, .lit_mk E u⟩⟩
    simpa using RelV.agg_mk this
  | _ => (show RelV E (.i (.lit _)) _; exact .lit_mk E _)

theorem ofVal_rel (E : Env) (v : Value) : RelV E (ofVal v) v := by
  cases v with
  | tuple cs =>
    simp only [ofVal]
    have : RelL E (cs.toList.map ofVal1) cs.toList := ⟨by simp, fun j x hx => by
      simp only [List.getElem?_map, Option.map_eq_some_iff] at hx
      obtain ⟨u, hu, rfl⟩ := hx
      exact ⟨u, hu, ofVal1_rel E u⟩⟩
    simpa using RelV.tup_mk this
  | agg cs => simpa only [ofVal] using ofVal1_rel E (.agg cs)
  | _ => (simp only [ofVal, ofVal1]; exact .lit_mk E _)

theorem lits_rel (E : Env) (zs : List Value) : RelL E (zs.map fun c => AV.i (.lit c)) zs :=
  ⟨by simp, fun j x hx => by
    simp only [List.getElem?_map, Option.map_eq_some_iff] at hx
    obtain ⟨u, hu, rfl⟩ := hx
    exact ⟨u, hu, .lit_mk E u⟩⟩

/-! ### worlds -/
theorem add_none (b o n : Nat) : (⟨b, o, none⟩ : Addr).add n = ⟨b, o + n, none⟩ := by unfold Addr.add; split <;> simp_all

theorem cell_of_heap {w : World} {b o : Nat} {arr : Array Value} {t : TypeId} {fz : Nat × Nat} (h : w.heap[b]? = some (.cells arr t fz)) :
    w.cell? ⟨b, o, none⟩ = arr[o]? := by simp [World.cell?, h]

theorem lt_of_heap {w : World} {b : Nat} {o : Obj} (h : w.heap[b]? = some o) : b < w.heap.size := (Array.getElem?_eq_some_iff.1 h).1

theorem WOK.lt {E : Env} {g : Nat → Row} {w : World} (h : WOK E g w) {id : Nat} {l : Loc} (hd : g id ≠ .dead) (ho : E.own id = some l) : l.b < w.heap.size := by
  obtain ⟨l', hl, hr, _⟩ := h.rows id hd
  rw [ho] at hl; injection hl with hl; subst hl
  cases hg : g id with
  | dead => exact absurd hg hd
  | cells sz es => rw [hg] at hr; obtain ⟨_, _, arr, t, hh, _⟩ := hr; exact lt_of_heap hh
  | map es => rw [hg] at hr; obtain ⟨ents, c, hh, _⟩ := hr; exact lt_of_heap hh

theorem RowOK.mono {E E' : Env} {w w' : World} {l : Loc} {r : Row} (h : RowOK E w l r) (le : E.le E') (hb : w'.heap[l.b]? = w.heap[l.b]?) : RowOK E' w' l r := by
  cases r with
  | dead => trivial
  | cells sz es =>
    obtain ⟨a, b, arr, t, hh, hc⟩ := h
    exact ⟨a, b, arr, t, by rw [hb]; exact hh, ⟨hc.size, hc.fit, hc.len, fun i j e x he hx => let ⟨u, hu, hr⟩ := hc.cell i j e x he hx; ⟨u, hu, hr.mono le⟩⟩⟩
  | map es =>
    obtain ⟨ents, c, hh, hs, hr⟩ := h
    exact ⟨ents, c, by rw [hb]; exact hh, hs, fun i k x hx => let ⟨e, he, hk, hv⟩ := hr i k x hx; ⟨e, he, hk, hv.mono le⟩⟩

end Go.Ai
