/- Steps: a new row, a row laid anew. -/
import Derived.Test.YtbchgamdefhekaaGreatDoorAiBase
namespace Go.Ai
open Go

def upd (g : Nat → Row) (u : List (Nat × Row)) : Nat → Row := u.foldl (fun g p => fun i => if i = p.1 then p.2 else g i) g

theorem upd_nil (g : Nat → Row) : upd g [] = g := rfl
theorem upd_one (g : Nat → Row) (a : Nat) (r : Row) : upd g [(a, r)] = fun i => if i = a then r else g i := rfl
theorem upd_two (g : Nat → Row) (a b : Nat) (r q : Row) : upd g [(a, r), (b, q)] = fun i => if i = b then q else if i = a then r else g i := rfl

def OwnExt (E E' : Env) (ids : List Nat) : Prop := ∀ id, E.own id = none → id ∉ ids → E'.own id = none

theorem OwnExt.refl (E : Env) (ids : List Nat) : OwnExt E E ids := fun _ h _ => h

def Env.put (E : Env) (id : Nat) (l : Loc) : Env := { E with own := fun j => if j = id then some l else E.own j }

theorem Env.put_le {E : Env} {id : Nat} {l : Loc} (h : E.own id = none) : E.le (E.put id l) :=
  ⟨fun _ _ h => h, fun j m hj => by
    show (if j = id then some l else E.own j) = some m
    split
    · rename_i e; subst e; rw [h] at hj; cases hj
    · exact hj⟩

theorem Env.put_own {E : Env} {id : Nat} {l : Loc} : (E.put id l).own id = some l := by simp [Env.put]
theorem Env.put_ext {E : Env} {id : Nat} {l : Loc} {ids : List Nat} (h : id ∈ ids) : OwnExt E (E.put id l) ids := fun j hj hn => by
  show (if j = id then some l else E.own j) = none
  split
  · rename_i e; subst e; exact absurd h hn
  · exact hj

/-- A new block, with a row that says what it holds. -/
theorem stp_new {E : Env} {g : Nat → Row} {w w' : World} {id : Nat} {l : Loc} {r : Row} {o : Obj} (h : WOK E g w) (hn : E.own id = none) (hb : l.b = w.heap.size)
    (hh : w'.heap = w.heap.push o) (ho : w'.os = w.os) (ht : w'.tape = w.tape) (hu : w'.output = w.output) (hr : RowOK (E.put id l) w' l r) :
    Stp E g w (E.put id l) (upd g [(id, r)]) w' := by
  have hget : ∀ b, b < w.heap.size → w'.heap[b]? = w.heap[b]? := fun b hlt => by rw [hh, Array.getElem?_push, if_neg (by omega)]
  have himm : E.imm w.heap.size = none := by
    cases hx : E.imm w.heap.size with
    | none => rfl
    | some q => exact absurd (lt_of_heap (h.imm _ _ hx)) (Nat.lt_irrefl _)
  refine ⟨Env.put_le hn, ⟨?_, ?_, ?_⟩, ho, ht, hu, by rw [hh]; simp, fun b hlt _ => hget b hlt, ?_, fun _ _ _ => rfl⟩
  · intro b q hq
    have hq' : E.imm b = some q := hq
    have := h.imm b q hq'
    rw [hget b (lt_of_heap this)]; exact this
  · intro j hj
    rw [upd_one] at hj ⊢
    by_cases e : j = id
    · subst e
      simp only [if_true] at hj ⊢
      exact ⟨l, Env.put_own, hr, by show E.imm l.b = none; rw [hb]; exact himm⟩
    · simp only [e, if_false] at hj ⊢
      obtain ⟨m, hm, hrow, hi⟩ := h.rows j hj
      exact ⟨m, (Env.put_le hn).own _ _ hm, hrow.mono (Env.put_le hn) (hget _ (h.lt hj hm)), hi⟩
  · intro i j li lj hi hj hli hlj hne
    rw [upd_one] at hi hj
    have hli' : (if i = id then some l else E.own i) = some li := hli
    have hlj' : (if j = id then some l else E.own j) = some lj := hlj
    by_cases e1 : i = id <;> by_cases e2 : j = id
    · omega
    · simp only [e1, if_true, Option.some.injEq] at hli'; simp only [e2, if_false] at hlj' hj
      subst hli'; have := h.lt hj hlj'; omega
    · simp only [e2, if_true, Option.some.injEq] at hlj'; simp only [e1, if_false] at hli' hi
      subst hlj'; have := h.lt hi hli'; omega
    · simp only [e1, e2, if_false] at hi hj hli' hlj'
      exact h.apart i j li lj hi hj hli' hlj' hne
  · intro b hlt ⟨j, m, hj, hm, hmb⟩
    rw [upd_one] at hj
    have hm' : (if j = id then some l else E.own j) = some m := hm
    by_cases e : j = id
    · simp only [e, if_true, Option.some.injEq] at hm'; subst hm'; omega
    · simp only [e, if_false] at hj hm'; exact ⟨j, m, hj, hm', hmb⟩

/-- A new block that no row names. -/
theorem stp_push {E : Env} {g : Nat → Row} {w w' : World} {o : Obj} (h : WOK E g w) (hh : w'.heap = w.heap.push o) (ho : w'.os = w.os) (ht : w'.tape = w.tape) (hu : w'.output = w.output) :
    Stp E g w E g w' := by
  have hget : ∀ b, b < w.heap.size → w'.heap[b]? = w.heap[b]? := fun b hlt => by rw [hh, Array.getElem?_push, if_neg (by omega)]
  refine ⟨.refl E, ⟨fun b q hq => ?_, fun j hj => ?_, h.apart⟩, ho, ht, hu, by rw [hh]; simp, fun b hlt _ => hget b hlt, fun _ _ h => h, fun _ _ _ => rfl⟩
  · have := h.imm b q hq; rw [hget b (lt_of_heap this)]; exact this
  · obtain ⟨m, hm, hrow, hi⟩ := h.rows j hj
    exact ⟨m, hm, hrow.mono (.refl E) (hget _ (h.lt hj hm)), hi⟩

/-- Only how many answers were drawn has changed. -/
theorem WOK.drawn {E : Env} {g : Nat → Row} {w : World} (h : WOK E g w) (d : Nat) : WOK E g { w with drawn := d } :=
  ⟨h.imm, fun id hd => let ⟨l, a, b, c⟩ := h.rows id hd; ⟨l, a, b.mono (.refl E) rfl, c⟩, h.apart⟩

theorem stp_drawn {E : Env} {g : Nat → Row} {w : World} (h : WOK E g w) (d : Nat) : Stp E g w E g { w with drawn := d } :=
  ⟨.refl E, h.drawn d, rfl, rfl, rfl, Nat.le_refl _, fun _ _ _ => rfl, fun _ _ h => h, fun _ _ _ => rfl⟩

/-- A live row's block is laid anew. -/
theorem stp_set {E : Env} {g : Nat → Row} {w w' : World} {id : Nat} {l : Loc} {r : Row} (h : WOK E g w) (hd : g id ≠ .dead) (hl : E.own id = some l)
    (hs : w'.heap.size = w.heap.size) (hh : ∀ b, b ≠ l.b → w'.heap[b]? = w.heap[b]?) (ho : w'.os = w.os) (ht : w'.tape = w.tape) (hu : w'.output = w.output)
    (hr : RowOK E w' l r) : Stp E g w E (upd g [(id, r)]) w' := by
  obtain ⟨l0, hl0, _, himm⟩ := h.rows id hd
  rw [hl] at hl0; injection hl0 with hl0; subst hl0
  refine ⟨.refl E, ⟨?_, ?_, ?_⟩, ho, ht, hu, by omega, ?_, ?_, fun _ _ _ => rfl⟩
  · intro b q hq
    rw [hh b (fun e => by subst e; rw [himm] at hq; cases hq)]; exact h.imm b q hq
  · intro j hj
    rw [upd_one] at hj ⊢
    by_cases e : j = id
    · subst e; simp only [if_true] at hj ⊢; exact ⟨l, hl, hr, himm⟩
    · simp only [e, if_false] at hj ⊢
      obtain ⟨m, hm, hrow, hi⟩ := h.rows j hj
      exact ⟨m, hm, hrow.mono (.refl E) (hh _ (h.apart j id m l hj hd hm hl e)), hi⟩
  · intro i j li lj hi hj hli hlj hne
    rw [upd_one] at hi hj
    have hi' : g i ≠ .dead := by by_cases e : i = id; (exact e ▸ hd); (simpa [e] using hi)
    have hj' : g j ≠ .dead := by by_cases e : j = id; (exact e ▸ hd); (simpa [e] using hj)
    exact h.apart i j li lj hi' hj' hli hlj hne
  · intro b _ hn
    exact hh b fun e => hn ⟨id, l, hd, hl, e.symm⟩
  · intro b _ ⟨j, m, hj, hm, hmb⟩
    rw [upd_one] at hj
    by_cases e : j = id
    · exact ⟨id, l, hd, hl, by subst e; rw [hl] at hm; injection hm with hm; rw [hm]; exact hmb⟩
    · simp only [e, if_false] at hj; exact ⟨j, m, hj, hm, hmb⟩

/-- A row is given up. -/
theorem stp_kill {E : Env} {g : Nat → Row} {w : World} {id : Nat} (h : WOK E g w) : Stp E g w E (upd g [(id, .dead)]) w := by
  refine ⟨.refl E, ⟨h.imm, ?_, ?_⟩, rfl, rfl, rfl, Nat.le_refl _, fun _ _ _ => rfl, ?_, fun _ _ _ => rfl⟩
  · intro j hj
    rw [upd_one] at hj ⊢
    by_cases e : j = id
    · simp [e] at hj
    · simp only [e, if_false] at hj ⊢; exact h.rows j hj
  · intro i j li lj hi hj hli hlj hne
    rw [upd_one] at hi hj
    have e1 : i ≠ id := fun e => by simp [e] at hi
    have e2 : j ≠ id := fun e => by simp [e] at hj
    simp only [e1, e2, if_false] at hi hj
    exact h.apart i j li lj hi hj hli hlj hne
  · intro b _ ⟨j, m, hj, hm, hmb⟩
    rw [upd_one] at hj
    have e1 : j ≠ id := fun e => by simp [e] at hj
    simp only [e1, if_false] at hj; exact ⟨j, m, hj, hm, hmb⟩

/-- A row given up, its block taken over under a new name. -/
theorem stp_over {E : Env} {g : Nat → Row} {w w' : World} {id new : Nat} {l l' : Loc} {r : Row} (h : WOK E g w) (hd : g id ≠ .dead) (hl : E.own id = some l) (hn : E.own new = none)
    (hb : l'.b = l.b) (hs : w'.heap.size = w.heap.size) (hh : ∀ b, b ≠ l.b → w'.heap[b]? = w.heap[b]?) (ho : w'.os = w.os) (ht : w'.tape = w.tape) (hu : w'.output = w.output)
    (hr : RowOK (E.put new l') w' l' r) : Stp E g w (E.put new l') (upd g [(id, .dead), (new, r)]) w' := by
  obtain ⟨l0, hl0, _, himm⟩ := h.rows id hd
  rw [hl] at hl0; injection hl0 with hl0; subst hl0
  have hne : id ≠ new := fun e => by subst e; rw [hl] at hn; cases hn
  refine ⟨Env.put_le hn, ⟨?_, ?_, ?_⟩, ho, ht, hu, by omega, ?_, ?_, fun _ _ _ => rfl⟩
  · intro b q hq
    have hq' : E.imm b = some q := hq
    rw [hh b (fun e => by subst e; rw [himm] at hq'; cases hq')]; exact h.imm b q hq'
  · intro j hj
    rw [upd_two] at hj ⊢
    by_cases e : j = new
    · subst e; simp only [if_true] at hj ⊢
      exact ⟨l', Env.put_own, hr, by show E.imm l'.b = none; rw [hb]; exact himm⟩
    · by_cases e2 : j = id
      · simp [e2, hne] at hj
      · simp only [e, e2, if_false] at hj ⊢
        obtain ⟨m, hm, hrow, hi⟩ := h.rows j hj
        exact ⟨m, (Env.put_le hn).own _ _ hm, hrow.mono (Env.put_le hn) (hh _ (h.apart j id m l hj hd hm hl e2)), hi⟩
  · intro i j li lj hi hj hli hlj hij
    rw [upd_two] at hi hj
    have hli' : (if i = new then some l' else E.own i) = some li := hli
    have hlj' : (if j = new then some l' else E.own j) = some lj := hlj
    by_cases e1 : i = new <;> by_cases e2 : j = new
    · omega
    · have e3 : j ≠ id := fun e => by subst e; simp [e2] at hj
      simp only [e1, if_true, Option.some.injEq] at hli'; simp only [e2, e3, if_false] at hlj' hj
      subst hli'; rw [hb]; exact h.apart id j l lj hd hj hl hlj' (Ne.symm e3)
    · have e3 : i ≠ id := fun e => by subst e; simp [e1] at hi
      simp only [e2, if_true, Option.some.injEq] at hlj'; simp only [e1, e3, if_false] at hli' hi
      subst hlj'; rw [hb]; exact h.apart i id li l hi hd hli' hl e3
    · have e3 : j ≠ id := fun e => by subst e; simp [e2] at hj
      have e4 : i ≠ id := fun e => by subst e; simp [e1] at hi
      simp only [e1, e2, e3, e4, if_false] at hi hj hli' hlj'
      exact h.apart i j li lj hi hj hli' hlj' hij
  · intro b _ hnl
    exact hh b fun e => hnl ⟨id, l, hd, hl, e.symm⟩
  · intro b _ ⟨j, m, hj, hm, hmb⟩
    rw [upd_two] at hj
    have hm' : (if j = new then some l' else E.own j) = some m := hm
    by_cases e : j = new
    · simp only [e, if_true, Option.some.injEq] at hm'; subst hm'; exact ⟨id, l, hd, hl, hb ▸ hmb⟩
    · have e2 : j ≠ id := fun e' => by subst e'; simp [e] at hj
      simp only [e, e2, if_false] at hj hm'; exact ⟨j, m, hj, hm', hmb⟩

theorem setRow_other {w : World} {b c : Nat} {cs : Array Value} (h : c ≠ b) : (w.setRow b cs).heap[c]? = w.heap[c]? := by
  simp only [World.setRow, Array.getElem?_modify]
  rw [if_neg (Ne.symm h)]
theorem setRow_size {w : World} {b : Nat} {cs : Array Value} : (w.setRow b cs).heap.size = w.heap.size := by simp [World.setRow]

end Go.Ai
