/- What values and rows stand for in a world. -/
import Derived.Test.YtbchgamdefhekaaGreatDoorAiDefs
namespace Go.Ai
open Go

/-- Where a row lies: its block, its first cell, cells of an element, cells of the block. -/
structure Loc where
  b : Nat
  base : Nat
  sz : Nat
  n : Nat

/-- Blocks that stay as they are, and the places of the rows. -/
structure Env where
  imm : Nat → Option Obj
  own : Nat → Option Loc

inductive RelI (imm : Nat → Option Obj) : IV → Value → Prop
  | lit (v : Value) : RelI imm (.lit v) v
  | nil (a : Option Addr) (cap : Nat) (h : a = none → cap = 0) : RelI imm (.sl []) (.slice a 0 cap)
  | sl {es : List (List IV)} {b off cap sz : Nat} {arr : Array Value} {t : TypeId} {fz : Nat × Nat} (us : Nat → Nat → Value)
      (hne : es ≠ []) (hb : imm b = some (.cells arr t fz)) (hsz : 0 < sz) (hs : ∀ (i : Nat) (e : List IV), es[i]? = some e → e.length = sz)
      (hc : ∀ (i j : Nat) (e : List IV) (x : IV), es[i]? = some e → e[j]? = some x → arr[off + i * sz + j]? = some (us i j))
      (hr : ∀ (i j : Nat) (e : List IV) (x : IV), es[i]? = some e → e[j]? = some x → RelI imm x (us i j)) (hcap : es.length ≤ cap) :
      RelI imm (.sl es) (.slice (some ⟨b, off, none⟩) es.length cap)

inductive RelV (E : Env) : AV → Value → Prop
  | junk (v : Value) : RelV E .junk v
  | i {x : IV} {v : Value} (h : RelI E.imm x v) : RelV E (.i x) v
  | ptr {id ei off : Nat} {l : Loc} (h : E.own id = some l) : RelV E (.ptr id ei off) (.pointer (some ⟨l.b, l.base + ei * l.sz + off, none⟩))
  | ipt {c : List IV} {off b o : Nat} {arr : Array Value} {t : TypeId} {fz : Nat × Nat} (us : Nat → Value) (hb : E.imm b = some (.cells arr t fz))
      (hc : ∀ (j : Nat) (x : IV), c[j]? = some x → arr[o + j]? = some (us j)) (hr : ∀ (j : Nat) (x : IV), c[j]? = some x → RelI E.imm x (us j)) :
      RelV E (.ipt c off) (.pointer (some ⟨b, o + off, none⟩))
  | rs {id off len cmin cap : Nat} {l : Loc} {a : Addr} (h : E.own id = some l) (ha : 0 < cap → a = ⟨l.b, l.base + off * l.sz, none⟩)
      (hn : l.base + (off + cap) * l.sz ≤ l.n) (hl : len ≤ cmin) (hc : cmin ≤ cap) : RelV E (.rs id off len cmin) (.slice (some a) len cap)
  | e0 (a : Option Addr) : RelV E .e0 (.slice a 0 0)
  | nn (a : Addr) (cap : Nat) : RelV E .nn (.slice (some a) 0 cap)
  | map {id : Nat} {l : Loc} (h : E.own id = some l) : RelV E (.map id) (.map (some l.b))
  | fn {f : Nat} {caps : List AV} {vs : Array Value} (us : Nat → Value) (hs : vs.size = caps.length) (hc : ∀ (j : Nat) (x : AV), caps[j]? = some x → vs[j]? = some (us j))
      (hr : ∀ (j : Nat) (x : AV), caps[j]? = some x → RelV E x (us j)) : RelV E (.fn f caps) (.func (.func f) #[] vs)
  | agg {cs : List AV} {vs : Array Value} (us : Nat → Value) (hs : vs.size = cs.length) (hc : ∀ (j : Nat) (x : AV), cs[j]? = some x → vs[j]? = some (us j))
      (hr : ∀ (j : Nat) (x : AV), cs[j]? = some x → RelV E x (us j)) : RelV E (.agg cs) (.agg vs)
  | tup {cs : List AV} {vs : Array Value} (us : Nat → Value) (hs : vs.size = cs.length) (hc : ∀ (j : Nat) (x : AV), cs[j]? = some x → vs[j]? = some (us j))
      (hr : ∀ (j : Nat) (x : AV), cs[j]? = some x → RelV E x (us j)) : RelV E (.tup cs) (.tuple vs)

/-- Lists of values, place by place. -/
def RelL (E : Env) (xs : List AV) (vs : List Value) : Prop := vs.length = xs.length ∧ ∀ (j : Nat) (x : AV), xs[j]? = some x → ∃ u, vs[j]? = some u ∧ RelV E x u

theorem RelL.nil (E : Env) : RelL E [] [] := ⟨rfl, fun j x h => by simp at h⟩

theorem RelL.cons {E : Env} {x : AV} {v : Value} {xs : List AV} {vs : List Value} (h : RelV E x v) (hs : RelL E xs vs) : RelL E (x :: xs) (v :: vs) := by
  refine ⟨by simp [hs.1], fun j y hy => ?_⟩
  cases j with
  | zero => simp at hy; subst hy; exact ⟨v, by simp, h⟩
  | succ j => exact hs.2 j y (by simpa using hy)

theorem RelL.tail {E : Env} {x : AV} {v : Value} {xs : List AV} {vs : List Value} (h : RelL E (x :: xs) (v :: vs)) : RelV E x v ∧ RelL E xs vs := by
  refine ⟨?_, by have := h.1; simp at this; exact this, fun j y hy => ?_⟩
  · obtain ⟨u, hu, hr⟩ := h.2 0 x (by simp)
    simp at hu; subst hu; exact hr
  · obtain ⟨u, hu, hr⟩ := h.2 (j + 1) y (by simpa using hy)
    exact ⟨u, by simpa using hu, hr⟩

theorem RelL.cases_nil {E : Env} {vs : List Value} (h : RelL E [] vs) : vs = [] := by
  have := h.1; simpa using this

theorem RelL.cases_cons {E : Env} {x : AV} {xs : List AV} {vs : List Value} (h : RelL E (x :: xs) vs) : ∃ v vs', vs = v :: vs' ∧ RelV E x v ∧ RelL E xs vs' := by
  cases vs with
  | nil => have := h.1; simp at this
  | cons v vs' => exact ⟨v, vs', rfl, h.tail⟩

theorem RelL.append {E : Env} {xs ys : List AV} {us vs : List Value} (h : RelL E xs us) (k : RelL E ys vs) : RelL E (xs ++ ys) (us ++ vs) := by
  induction xs generalizing us with
  | nil => rw [h.cases_nil]; exact k
  | cons x xs ih => obtain ⟨v, vs', rfl, hr, hs⟩ := h.cases_cons; exact .cons hr (ih hs)

theorem RelL.len {E : Env} {xs : List AV} {vs : List Value} (h : RelL E xs vs) : vs.length = xs.length := h.1

theorem RelL.take {E : Env} {xs : List AV} {vs : List Value} (h : RelL E xs vs) (n : Nat) : RelL E (xs.take n) (vs.take n) := by
  refine ⟨by simp [h.1], fun j x hx => ?_⟩
  rw [List.getElem?_take] at hx ⊢
  split at hx
  · rename_i hj; obtain ⟨u, hu, hr⟩ := h.2 j x hx; exact ⟨u, by simpa [hj] using hu, hr⟩
  · cases hx

theorem RelL.drop {E : Env} {xs : List AV} {vs : List Value} (h : RelL E xs vs) (n : Nat) : RelL E (xs.drop n) (vs.drop n) := by
  refine ⟨by simp [h.1], fun j x hx => ?_⟩
  rw [List.getElem?_drop] at hx ⊢
  exact h.2 _ x hx

theorem RelL.get {E : Env} {xs : List AV} {vs : List Value} (h : RelL E xs vs) {j : Nat} {x : AV} (hx : xs[j]? = some x) : ∃ u, vs[j]? = some u ∧ RelV E x u := h.2 j x hx

theorem RelL.set {E : Env} {xs : List AV} {vs : List Value} (h : RelL E xs vs) {j : Nat} {x : AV} {v : Value} (hx : RelV E x v) : RelL E (xs.set j x) (vs.set j v) := by
  refine ⟨by simp [h.1], fun i y hy => ?_⟩
  rw [List.getElem?_set] at hy ⊢
  split at hy
  · rename_i hij; subst hij
    split at hy
    · rename_i hlt; simp at hy; subst hy; exact ⟨v, by simp [h.1, hlt], hx⟩
    · cases hy
  · rename_i hij; obtain ⟨u, hu, hr⟩ := h.2 i y hy; exact ⟨u, by simp [hij, hu], hr⟩

theorem RelL.of_fun {E : Env} {cs : List AV} {vs : Array Value} (us : Nat → Value) (hs : vs.size = cs.length) (hc : ∀ (j : Nat) (x : AV), cs[j]? = some x → vs[j]? = some (us j))
    (hr : ∀ (j : Nat) (x : AV), cs[j]? = some x → RelV E x (us j)) : RelL E cs vs.toList :=
  ⟨by simpa using hs, fun j x hx => ⟨us j, by simpa using hc j x hx, hr j x hx⟩⟩

theorem RelL.to_fun {E : Env} {cs : List AV} {vs : List Value} (h : RelL E cs vs) : ∃ us : Nat → Value, vs.toArray.size = cs.length ∧ (∀ (j : Nat) (x : AV), cs[j]? = some x → vs.toArray[j]? = some (us j)) ∧
    (∀ (j : Nat) (x : AV), cs[j]? = some x → RelV E x (us j)) := by
  refine ⟨fun j => vs.getD j default, by simpa using h.1, fun j x hx => ?_, fun j x hx => ?_⟩ <;> obtain ⟨u, hu, hr⟩ := h.2 j x hx
  · simp [hu]
  · simp [hu]; exact hr

theorem RelV.agg_mk {E : Env} {cs : List AV} {vs : List Value} (h : RelL E cs vs) : RelV E (.agg cs) (.agg vs.toArray) := by
  obtain ⟨us, a, b, c⟩ := h.to_fun; exact .agg us a b c
theorem RelV.tup_mk {E : Env} {cs : List AV} {vs : List Value} (h : RelL E cs vs) : RelV E (.tup cs) (.tuple vs.toArray) := by
  obtain ⟨us, a, b, c⟩ := h.to_fun; exact .tup us a b c
theorem RelV.fn_mk {E : Env} {f : Nat} {cs : List AV} {vs : List Value} (h : RelL E cs vs) : RelV E (.fn f cs) (.func (.func f) #[] vs.toArray) := by
  obtain ⟨us, a, b, c⟩ := h.to_fun; exact .fn us a b c
theorem RelV.agg_inv {E : Env} {cs : List AV} {v : Value} (h : RelV E (.agg cs) v) : ∃ vs : List Value, v = .agg vs.toArray ∧ RelL E cs vs := by
  cases h with | agg us hs hc hr => rename_i vs; exact ⟨vs.toList, by simp, .of_fun us hs hc hr⟩
theorem RelV.tup_inv {E : Env} {cs : List AV} {v : Value} (h : RelV E (.tup cs) v) : ∃ vs : List Value, v = .tuple vs.toArray ∧ RelL E cs vs := by
  cases h with | tup us hs hc hr => rename_i vs; exact ⟨vs.toList, by simp, .of_fun us hs hc hr⟩
theorem RelV.fn_inv {E : Env} {f : Nat} {cs : List AV} {v : Value} (h : RelV E (.fn f cs) v) : ∃ vs : List Value, v = .func (.func f) #[] vs.toArray ∧ RelL E cs vs := by
  cases h with | fn us hs hc hr => rename_i vs; exact ⟨vs.toList, by simp, .of_fun us hs hc hr⟩
theorem RelV.lit_inv {E : Env} {u v : Value} (h : RelV E (.i (.lit u)) v) : v = u := by
  cases h with | i h => cases h; rfl
theorem RelV.lit_mk (E : Env) (u : Value) : RelV E (.i (.lit u)) u := .i (.lit u)

/-- One environment knows all that another does. -/
structure Env.le (E E' : Env) : Prop where
  imm : ∀ b o, E.imm b = some o → E'.imm b = some o
  own : ∀ id l, E.own id = some l → E'.own id = some l

theorem Env.le.refl (E : Env) : E.le E := ⟨fun _ _ h => h, fun _ _ h => h⟩
theorem Env.le.trans {A B C : Env} (h : A.le B) (k : B.le C) : A.le C := ⟨fun b o e => k.imm b o (h.imm b o e), fun i l e => k.own i l (h.own i l e)⟩

theorem RelI.mono {m m' : Nat → Option Obj} (h : ∀ b o, m b = some o → m' b = some o) {x : IV} {v : Value} (r : RelI m x v) : RelI m' x v := by
  induction r with
  | lit v => exact .lit v
  | nil a cap h => exact .nil a cap h
  | sl us hne hb hsz hs hc _ hcap ih => exact .sl us hne (h _ _ hb) hsz hs hc ih hcap

theorem RelV.mono {E E' : Env} (h : E.le E') {x : AV} {v : Value} (r : RelV E x v) : RelV E' x v := by
  induction r with
  | junk v => exact .junk v
  | i r => exact .i (r.mono h.imm)
  | ptr k => exact .ptr (h.own _ _ k)
  | ipt us hb hc hr => exact .ipt us (h.imm _ _ hb) hc fun j x hx => (hr j x hx).mono h.imm
  | rs k ha hn hl hc => exact .rs (h.own _ _ k) ha hn hl hc
  | e0 a => exact .e0 a
  | nn a cap => exact .nn a cap
  | map k => exact .map (h.own _ _ k)
  | fn us hs hc _ ih => exact .fn us hs hc ih
  | agg us hs hc _ ih => exact .agg us hs hc ih
  | tup us hs hc _ ih => exact .tup us hs hc ih

theorem RelL.mono {E E' : Env} (h : E.le E') {xs : List AV} {vs : List Value} (r : RelL E xs vs) : RelL E' xs vs :=
  ⟨r.1, fun j x hx => let ⟨u, hu, hr⟩ := r.2 j x hx; ⟨u, hu, hr.mono h⟩⟩

/-- The cells of a row in a block. -/
structure CellsRel (E : Env) (l : Loc) (es : List (List AV)) (arr : Array Value) : Prop where
  size : arr.size = l.n
  fit : l.base + es.length * l.sz ≤ l.n
  len : ∀ (i : Nat) (e : List AV), es[i]? = some e → e.length = l.sz
  cell : ∀ (i j : Nat) (e : List AV) (x : AV), es[i]? = some e → e[j]? = some x → ∃ u, arr[l.base + i * l.sz + j]? = some u ∧ RelV E x u

def RowOK (E : Env) (w : World) (l : Loc) : Row → Prop
  | .dead => True
  | .cells sz es => l.sz = sz ∧ 0 < sz ∧ ∃ arr t, w.heap[l.b]? = some (.cells arr t (0, 0)) ∧ CellsRel E l es arr
  | .map es => ∃ ents clock, w.heap[l.b]? = some (.map ents clock) ∧ ents.size = es.length ∧
      ∀ (i : Nat) (k : Value) (x : AV), es[i]? = some (k, x) → ∃ e, ents[i]? = some e ∧ e.key = k ∧ RelV E x e.val

/-- A world that is as environment and rows say. -/
structure WOK (E : Env) (g : Nat → Row) (w : World) : Prop where
  imm : ∀ b o, E.imm b = some o → w.heap[b]? = some o
  rows : ∀ id, g id ≠ .dead → ∃ l, E.own id = some l ∧ RowOK E w l (g id) ∧ E.imm l.b = none
  apart : ∀ i j li lj, g i ≠ .dead → g j ≠ .dead → E.own i = some li → E.own j = some lj → i ≠ j → li.b ≠ lj.b

def Live (E : Env) (g : Nat → Row) (b : Nat) : Prop := ∃ id l, g id ≠ .dead ∧ E.own id = some l ∧ l.b = b

/-- What a step does: it knows more, the new rows are as they should be, and of what existed it has changed rows alone. -/
structure Stp (E : Env) (g : Nat → Row) (w : World) (E' : Env) (g' : Nat → Row) (w' : World) : Prop where
  le : E.le E'
  ok : WOK E' g' w'
  os : w'.os = w.os
  tape : w'.tape = w.tape
  output : w'.output = w.output
  size : w.heap.size ≤ w'.heap.size
  keep : ∀ b, b < w.heap.size → ¬ Live E g b → w'.heap[b]? = w.heap[b]?
  live : ∀ b, b < w.heap.size → Live E' g' b → Live E g b
  immN : ∀ b, b < w.heap.size → ¬ Live E g b → E'.imm b = E.imm b

theorem Stp.refl {E : Env} {g : Nat → Row} {w : World} (h : WOK E g w) : Stp E g w E g w :=
  ⟨.refl E, h, rfl, rfl, rfl, Nat.le_refl _, fun _ _ _ => rfl, fun _ _ h => h, fun _ _ _ => rfl⟩

theorem Stp.trans {E E1 E2 : Env} {g g1 g2 : Nat → Row} {w w1 w2 : World} (h : Stp E g w E1 g1 w1) (k : Stp E1 g1 w1 E2 g2 w2) : Stp E g w E2 g2 w2 where
  le := h.le.trans k.le
  ok := k.ok
  os := k.os.trans h.os
  tape := k.tape.trans h.tape
  output := k.output.trans h.output
  size := Nat.le_trans h.size k.size
  keep := fun b hb hl => by
    rw [k.keep b (Nat.lt_of_lt_of_le hb h.size) (fun hl' => hl (h.live b hb hl')), h.keep b hb hl]
  live := fun b hb hl => h.live b hb (k.live b (Nat.lt_of_lt_of_le hb h.size) hl)
  immN := fun b hb hl => by
    rw [k.immN b (Nat.lt_of_lt_of_le hb h.size) (fun hl' => hl (h.live b hb hl')), h.immN b hb hl]

end Go.Ai
