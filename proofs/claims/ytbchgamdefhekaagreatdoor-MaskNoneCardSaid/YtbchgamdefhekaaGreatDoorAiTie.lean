/- A context by its tables, checked against the program. -/
import Derived.Test.YtbchgamdefhekaaGreatDoorAiFin
namespace Go.Ai
open Go

def szP (P : Program) (t : Nat) : Option Nat := (P.info? t).map (·.size)

def fieldP (P : Program) (f : Field) : Option (Nat × Nat × Bool) := do
  let s ← szP P f.type
  let d ← P.underlying f.type
  some (f.offset, s, aggD d)

def kdP (P : Program) (d : TypeDesc) : Option Kd :=
  match d with
  | .string => some .string
  | .int _ => some .int
  | .pointer _ => some .ptr
  | .func .. => some .func
  | .map k e => match P.underlying k with
    | some (.int q) => some (.map k e (.int q))
    | some .string => some (.map k e .string)
    | some .bool => some (.map k e .bool)
    | _ => some .other
  | .struct fs => (fs.toList.mapM (fieldP P)).map .struct
  | .array n e => do
    let s ← szP P e
    let _ ← P.underlying e
    some (.array n e s)
  | .slice e => do
    let s ← szP P e
    some (.slice e s)
  | _ => some .other

def zshape (agg : Bool) (z : Value) : Bool :=
  match z with
  | .agg _ => agg
  | z => !agg && oneC z

def tiP (P : Program) (t : Nat) : Option TI := do
  let f ← P.info? t
  let z ← f.zero
  let d ← P.underlying t
  let kd ← kdP P d
  bif z.cells.toList.all oneC && Nat.beq z.cells.toList.length f.size && (aggD d || Nat.beq f.size 1) && zshape (aggD d) z then
    some ⟨f.size, f.bytes, aggD d, z.cells.toList, kd⟩ else none

def fiP (P : Program) (f : Nat) (locs : List Nat) : Option FI := do
  let fn ← P.funcs[f]?
  let b ← fn.body
  bif fn.name == "runtime.NumGoroutine" then none else some ⟨b, fn.ntmps, fn.results.toList, locs⟩

def Tr.list {α : Type} : Tr α → List (Nat × α)
  | .lf => []
  | .nd l k v r => l.list ++ (k, v) :: r.list

theorem Tr.get_mem {α : Type} : ∀ (t : Tr α) {n : Nat} {v : α}, t.get n = some v → (n, v) ∈ t.list
  | .lf, n, v, h => by simp [Tr.get] at h
  | .nd l k x r, n, v, h => by
    simp only [Tr.get] at h
    simp only [Tr.list, List.mem_append, List.mem_cons]
    cases h1 : Nat.blt n k with
    | true => rw [h1] at h; exact .inl (Tr.get_mem l h)
    | false =>
      rw [h1] at h
      simp only [cond_false] at h
      cases h2 : Nat.beq n k with
      | true =>
        rw [h2] at h
        simp only [cond_true, Option.some.injEq] at h
        subst h
        have := Nat.eq_of_beq_eq_true h2
        exact .inr (.inl (by rw [this]))
      | false => rw [h2] at h; exact .inr (.inr (Tr.get_mem r h))

theorem kdP_ok {P : Program} {d : TypeDesc} {kd : Kd} (h : kdP P d = some kd) : KdOK P kd d := by
  unfold kdP at h
  split at h
  · simp only [Option.some.injEq] at h; subst h; rfl
  · simp only [Option.some.injEq] at h; subst h; exact ⟨_, rfl⟩
  · simp only [Option.some.injEq] at h; subst h; exact ⟨_, rfl⟩
  · simp only [Option.some.injEq] at h; subst h; exact ⟨_, _, _, rfl⟩
  · split at h
    · rename_i hu; simp only [Option.some.injEq] at h; subst h; exact ⟨rfl, hu⟩
    · rename_i hu; simp only [Option.some.injEq] at h; subst h; exact ⟨rfl, hu⟩
    · rename_i hu; simp only [Option.some.injEq] at h; subst h; exact ⟨rfl, hu⟩
    · simp only [Option.some.injEq] at h; subst h; trivial
  · rename_i fs
    obtain ⟨qs, hqs, rfl⟩ := Option.map_eq_some_iff.1 h
    obtain ⟨h1, h2⟩ := mapM_spec _ _ hqs
    refine ⟨fs, rfl, by simpa using h1.symm, fun j q hq => ?_⟩
    obtain ⟨f, hf, hp⟩ := h2 j q hq
    unfold fieldP at hp
    obtain ⟨s, hs, hp⟩ := opt_bind hp
    obtain ⟨d', hd', hp⟩ := opt_bind hp
    simp only [Option.some.injEq] at hp
    subst hp
    obtain ⟨info, hi, rfl⟩ := Option.map_eq_some_iff.1 hs
    exact ⟨f, by simpa using hf, rfl, ⟨info, hi, rfl⟩, d', hd', rfl⟩
  · obtain ⟨s, hs, h⟩ := opt_bind h
    obtain ⟨d', hd', h⟩ := opt_bind h
    simp only [Option.some.injEq] at h
    subst h
    obtain ⟨info, hi, rfl⟩ := Option.map_eq_some_iff.1 hs
    exact ⟨rfl, ⟨info, hi, rfl⟩, d', hd'⟩
  · obtain ⟨s, hs, h⟩ := opt_bind h
    simp only [Option.some.injEq] at h
    subst h
    obtain ⟨info, hi, rfl⟩ := Option.map_eq_some_iff.1 hs
    exact ⟨rfl, info, hi, rfl⟩
  · simp only [Option.some.injEq] at h; subst h; trivial

theorem tiP_ok {P : Program} {t : Nat} {i : TI} (h : tiP P t = some i) : TyOK P t i := by
  unfold tiP at h
  obtain ⟨f, hf, h⟩ := opt_bind h
  obtain ⟨z, hz, h⟩ := opt_bind h
  obtain ⟨d, hd, h⟩ := opt_bind h
  obtain ⟨kd, hkd, h⟩ := opt_bind h
  obtain ⟨hc, h⟩ := cond_some h
  simp only [Option.some.injEq] at h
  subst h
  simp only [Bool.and_eq_true, Bool.or_eq_true] at hc
  obtain ⟨⟨⟨h1, h2⟩, h3⟩, h4⟩ := hc
  have h2 := Nat.eq_of_beq_eq_true h2
  have hzv : zv ⟨f.size, f.bytes, aggD d, z.cells.toList, kd⟩ = z := by
    unfold zv
    simp only
    cases z with
    | agg cs =>
      have : aggD d = true := h4
      rw [this]; simp [Value.cells]
    | tuple vs => simp [zshape, oneC] at h4
    | _ =>
      simp only [zshape, Bool.and_eq_true, Bool.not_eq_true'] at h4
      rw [h4.1]; rfl
  exact ⟨⟨f, hf, rfl, rfl, by rw [hzv]; exact hz⟩, ⟨d, hd, rfl, kdP_ok hkd⟩, h1, h2, fun ha => by
    rcases h3 with h3 | h3
    · simp only at ha; rw [ha] at h3; cases h3
    · exact Nat.eq_of_beq_eq_true h3⟩

/-- The tables say what the program says. -/
structure Tied (P : Program) (tys : Tr TI) (fns : Tr FI) : Prop where
  ty : tys.list.map (fun p => tiP P p.1) = tys.list.map (fun p => some p.2)
  fn : fns.list.map (fun p => fiP P p.1 p.2.locs) = fns.list.map (fun p => some p.2)
  mixed : P.follows .mixedOrders = true

theorem map_at {α β : Type} {f g : α → β} : ∀ {l : List α}, l.map f = l.map g → ∀ x ∈ l, f x = g x
  | [], _, x, hx => by cases hx
  | y :: l, h, x, hx => by
    simp only [List.map_cons, List.cons.injEq] at h
    rcases List.mem_cons.1 hx with rfl | hx
    · exact h.1
    · exact map_at h.2 x hx

theorem Tied.cok {P : Program} {tys : Tr TI} {fns : Tr FI} (h : Tied P tys fns) (mode : Nat → CMode) (glob : Nat → Option (List IV)) : COK ⟨P, tys.get, fns.get, mode, glob⟩ := by
  have fnOf : ∀ f i, fns.get f = some i → ∃ fn, P.funcs[f]? = some fn ∧ fn.body = some i.body ∧ fn.ntmps = i.ntmps ∧ fn.results.toList = i.results ∧ (fn.name == "runtime.NumGoroutine") = false := by
    intro f i hi
    have := map_at h.fn _ (Tr.get_mem fns hi)
    simp only [fiP] at this
    obtain ⟨fn, hfn, h1⟩ := opt_bind this
    obtain ⟨b, hb, h1⟩ := opt_bind h1
    cases hn : fn.name == "runtime.NumGoroutine" with
    | true => rw [hn] at h1; cases h1
    | false =>
      rw [hn] at h1
      simp only [cond_false, Option.some.injEq] at h1
      rw [← h1]
      exact ⟨fn, hfn, hb, rfl, rfl, hn⟩
  refine ⟨fun t i hi => tiP_ok (map_at h.ty _ (Tr.get_mem tys hi)), fun f i hi => ?_, fun f i hi args w => ?_, h.mixed⟩
  · obtain ⟨fn, h1, h2, h3, h4, _⟩ := fnOf f i hi
    exact ⟨fn, h1, h2, h3, h4⟩
  · obtain ⟨fn, h1, h2, _, _, h5⟩ := fnOf f i hi
    have h1' : P.funcs[f]? = some fn := h1
    have e : (program : Sem Program).run P w = .ok P w := rfl
    show (callFunc f args).run P w = _
    simp only [callFunc, Sem.run_bind, e, Result.andThen_ok, h1', h5]
    simp [h2]

end Go.Ai
