/- One operation of a region, at any world that shows it what it looks at. -/
import Derived.Test.YtbchgamdefhekaaGreatDoorAiCall
namespace Go.Ai
open Go

theorem getRow_setRow (σ : St) (id : Nat) (r : Row) : getRow (setRow σ id r) = fun i => if i = id then r else getRow σ i := by
  funext i
  unfold setRow getRow
  cases h : Nat.blt id σ.length with
  | true =>
    have hlt : id < σ.length := by simpa using h
    simp only [cond_true, List.getD_eq_getElem?_getD, List.getElem?_set]
    by_cases hi : i = id
    · subst hi; simp [hlt]
    · rw [if_neg (fun e => hi e.symm), if_neg hi]
  | false =>
    have hle : σ.length ≤ id := by
      rcases Nat.lt_or_ge id σ.length with h1 | h1
      · have : Nat.blt id σ.length = true := by simpa using h1
        rw [h] at this; cases this
      · exact h1
    simp only [cond_false, List.getD_eq_getElem?_getD, List.append_assoc]
    by_cases hi : i = id
    · subst hi
      rw [List.getElem?_append_right hle, List.getElem?_append_right (by simp)]
      simp
    · rw [if_neg hi]
      rcases Nat.lt_or_ge i σ.length with h1 | h1
      · rw [List.getElem?_append_left h1]
      · rw [List.getElem?_append_right h1, List.getElem?_eq_none h1]
        rcases Nat.lt_or_ge (i - σ.length) (id - σ.length) with h2 | h2
        · rw [List.getElem?_append_left (by simpa using h2), List.getElem?_replicate]; simp [h2]
        · rw [List.getElem?_eq_none (by simp; omega)]

theorem setRow_len (σ : St) (id : Nat) (r : Row) : σ.length ≤ (setRow σ id r).length ∧ (id < σ.length → (setRow σ id r).length = σ.length) := by
  unfold setRow
  cases h : Nat.blt id σ.length with
  | true => simp only [cond_true, List.length_set]; exact ⟨Nat.le_refl _, fun _ => trivial⟩
  | false =>
    refine ⟨by simp, fun hlt => ?_⟩
    have : Nat.blt id σ.length = true := by simpa using hlt
    rw [h] at this; cases this

theorem getRow_applyUpd : ∀ (u : List (Nat × Row)) (σ : St), getRow (applyUpd σ u) = upd (getRow σ) u
  | [], σ => rfl
  | p :: u, σ => by
    show getRow (applyUpd (setRow σ p.1 p.2) u) = _
    rw [getRow_applyUpd u, getRow_setRow]
    rfl

theorem applyUpd_le : ∀ (u : List (Nat × Row)) (σ : St), σ.length ≤ (applyUpd σ u).length
  | [], σ => Nat.le_refl _
  | p :: u, σ => Nat.le_trans (setRow_len σ p.1 p.2).1 (applyUpd_le u (setRow σ p.1 p.2))

theorem upd_in {u : List (Nat × Row)} : ∀ (g h : Nat → Row) {id : Nat}, id ∈ u.map (·.1) → upd g u id = upd h u id := by
  induction u with
  | nil => intro g h id hid; simp at hid
  | cons p u ih =>
    intro g h id hid
    show upd (fun i => if i = p.1 then p.2 else g i) u id = upd (fun i => if i = p.1 then p.2 else h i) u id
    by_cases hu : id ∈ u.map (·.1)
    · exact ih _ _ hu
    · have hp : id = p.1 := by simpa [hu] using hid
      have key : ∀ (u : List (Nat × Row)) (g : Nat → Row), id ∉ u.map (·.1) → upd g u id = g id := by
        intro u
        induction u with
        | nil => intro g _; rfl
        | cons q u ih =>
          intro g hn
          simp only [List.map_cons, List.mem_cons, not_or] at hn
          show upd (fun i => if i = q.1 then q.2 else g i) u id = g id
          rw [ih _ hn.2, if_neg hn.1]
      rw [key u _ hu, key u _ hu, if_pos hp, if_pos hp]

theorem upd_out : ∀ (u : List (Nat × Row)) (g : Nat → Row) {id : Nat}, id ∉ u.map (·.1) → upd g u id = g id
  | [], g, id, _ => rfl
  | q :: u, g, id, hn => by
    simp only [List.map_cons, List.mem_cons, not_or] at hn
    show upd (fun i => if i = q.1 then q.2 else g i) u id = g id
    rw [upd_out u _ hn.2, if_neg hn.1]

/-- Whether a row is among those of an account. -/
def isIn : Option (List Nat) → Nat → Prop
  | none, _ => True
  | some l, id => id ∈ l

theorem meets_spec {a b : Option (List Nat)} (h : meets a b = false) (id : Nat) : ¬ (isIn a id ∧ isIn b id) := by
  rintro ⟨ha, hb⟩
  cases a with
  | none => cases b with
    | none => simp [meets] at h
    | some b => cases b with
      | nil => cases hb
      | cons x y => simp [meets] at h
  | some a => cases b with
    | none => cases a with
      | nil => cases ha
      | cons x y => simp [meets] at h
    | some b =>
      have h' : (a.any fun x => b.any (Nat.beq x)) = false := by cases a <;> cases b <;> exact h
      have : (a.any fun x => b.any (Nat.beq x)) = true := List.any_eq_true.2 ⟨id, ha, List.any_eq_true.2 ⟨id, hb, by simp⟩⟩
      rw [h'] at this; cases this

theorem clash_spec {a b : Acc} (h : clash a b = false) (id : Nat) : ¬ (isIn a.wr id ∧ isIn b.rd id) ∧ ¬ (isIn a.wr id ∧ isIn b.wr id) ∧ ¬ (isIn a.rd id ∧ isIn b.wr id) := by
  simp only [clash, Bool.or_eq_false_iff] at h
  exact ⟨meets_spec h.1.1 id, meets_spec h.1.2 id, meets_spec h.2 id⟩

/-- The rows of one state among those of an account, the others of another. -/
def mixR (wr : Option (List Nat)) (g' g2 : Nat → Row) : Nat → Row :=
  match wr with
  | none => g'
  | some l => fun id => if id ∈ l then g' id else g2 id

theorem mix_in {wr : Option (List Nat)} {g' g2 : Nat → Row} {id : Nat} (h : isIn wr id) : mixR wr g' g2 id = g' id := by
  cases wr with
  | none => rfl
  | some l => exact if_pos h
theorem mix_out {wr : Option (List Nat)} {g' g2 : Nat → Row} {id : Nat} (h : ¬ isIn wr id) : mixR wr g' g2 id = g2 id := by
  cases wr with
  | none => exact absurd trivial h
  | some l => exact if_neg h

theorem mix_upd (u : List (Nat × Row)) (g g2 : Nat → Row) : mixR (some (u.map (·.1))) (upd g u) g2 = upd g2 u := by
  funext id
  by_cases h : id ∈ u.map (·.1)
  · rw [mix_in (wr := some _) h]; exact upd_in _ _ h
  · rw [mix_out (wr := some _) h, upd_out u g2 h]

theorem mix_self {wr : Option (List Nat)} {g g' : Nat → Row} (h : ∀ id, ¬ isIn wr id → g' id = g id) : mixR wr g' g = g' := by
  funext id
  by_cases hi : isIn wr id
  · exact mix_in hi
  · rw [mix_out hi, h id hi]

/-! ### an operation looks at the rows that it names -/
theorem len_local {C : Ctx} {g g2 : Nat → Row} {t : Nat} {x : AV} (h : ∀ id ∈ idsTop x, g2 id = g id) : execLen C g2 t x = execLen C g t x := by
  unfold execLen
  cases x <;> simp only [idsTop, List.mem_singleton, forall_eq] at h ⊢ <;> first | rfl | rw [h] | (cases C.ty t <;> first | rfl | (simp only [Option.bind_eq_bind, Option.bind_some]; rename_i i; cases i.kd <;> first | rfl | (simp only []; rw [h]; done) | (simp only [h]; done) | (repeat (first | rfl | contradiction | split))))

theorem elems_local {g g2 : Nat → Row} {x : AV} (h : ∀ id ∈ idsTop x, g2 id = g id) : elems g2 x = elems g x := by
  unfold elems
  cases x <;> simp only [idsTop, List.mem_singleton, forall_eq] at h ⊢ <;> first | rfl | rw [h] | (split <;> simp_all)

theorem ents_local {g g2 : Nat → Row} {x : AV} (h : ∀ id ∈ idsTop x, g2 id = g id) : mapEnts g2 x = mapEnts g x := by
  unfold mapEnts
  cases x <;> simp only [idsTop, List.mem_singleton, forall_eq] at h ⊢ <;> first | rfl | rw [h] | (split <;> simp_all)

theorem clear_local {C : Ctx} {g g2 : Nat → Row} {t : Nat} {x : AV} (h : ∀ id ∈ idsTop x, g2 id = g id) : execClear C g2 t x = execClear C g t x := by
  unfold execClear
  cases x <;> simp only [idsTop, List.mem_singleton, forall_eq] at h ⊢ <;> first | rfl | rw [h] | (cases C.ty t <;> first | rfl | (simp only [Option.bind_eq_bind, Option.bind_some]; rename_i i; cases i.kd <;> first | rfl | (simp only []; rw [h]; done) | (simp only [h]; done) | (repeat (first | rfl | contradiction | split))))

theorem append_local {C : Ctx} {g g2 : Nat → Row} {fresh t u : Nat} {s x : AV} (h : ∀ id ∈ idsTop s, g2 id = g id) (k : ∀ id ∈ idsTop x, g2 id = g id) : execAppend C g2 fresh t u s x = execAppend C g fresh t u s x := by
  unfold execAppend
  rw [elems_local k]
  cases s <;> simp only [idsTop, List.mem_singleton, forall_eq] at h ⊢ <;> first | rfl | rw [h] | (cases C.ty t <;> first | rfl | (simp only [Option.bind_eq_bind, Option.bind_some]; rename_i i; cases i.kd <;> first | rfl | (simp only []; rw [h]; done) | (simp only [h]; done) | (repeat (first | rfl | contradiction | split))))

theorem execB_local {C : Ctx} {g g2 : Nat → Row} {fresh : Nat} {b : Builtin} {tys : Array TypeId} {xs : List AV} (h : ∀ id ∈ xs.flatMap idsTop, g2 id = g id) : execB C g2 fresh b tys xs = execB C g fresh b tys xs := by
  unfold execB
  have hx : ∀ x ∈ xs, ∀ id ∈ idsTop x, g2 id = g id := fun x hx id hid => h id (List.mem_flatMap.2 ⟨x, hx, hid⟩)
  clear h
  cases b with
  | len =>
    match xs, hx with
    | [], _ => rfl
    | [x], hx => simp only [len_local (hx x (by simp))]
    | _ :: _ :: _, _ => rfl
  | append =>
    match xs, hx with
    | [], _ => rfl
    | [x], _ => rfl
    | [s, x], hx => simp only [append_local (hx s (by simp)) (hx x (by simp))]
    | _ :: _ :: _ :: _, _ => rfl
  | clear =>
    match xs, hx with
    | [], _ => rfl
    | [x], hx => simp only [clear_local (hx x (by simp))]
    | _ :: _ :: _, _ => rfl
  | _ => rfl

theorem exec_local {C : Ctx} {g g2 : Nat → Row} {fresh : Nat} {ρ : Operand → AV} {op : Op} (h : ∀ id ∈ touch ρ op, g2 id = g id) : exec C g2 fresh ρ op = exec C g fresh ρ op := by
  cases op with
  | load t a =>
    simp only [exec, touch] at h ⊢
    generalize ρ a = y at h ⊢
    cases y <;> simp only [idsTop, List.mem_singleton, forall_eq] at h ⊢ <;> first | rfl | rw [h] | (cases C.ty t <;> first | rfl | (simp only [Option.bind_eq_bind, Option.bind_some]; rename_i i; cases i.kd <;> first | rfl | (simp only []; rw [h]; done) | (simp only [h]; done) | (repeat (first | rfl | contradiction | split))))
  | store t a x =>
    simp only [exec, touch] at h ⊢
    generalize ρ a = y at h ⊢
    cases y <;> simp only [idsTop, List.mem_singleton, forall_eq] at h ⊢ <;> first | rfl | rw [h] | (cases C.ty t <;> first | rfl | (simp only [Option.bind_eq_bind, Option.bind_some]; rename_i i; cases i.kd <;> first | rfl | (simp only []; rw [h]; done) | (simp only [h]; done) | (repeat (first | rfl | contradiction | split))))
  | indexAddr t x ix =>
    simp only [exec, touch] at h ⊢
    generalize ρ x = y at h ⊢
    cases y <;> simp only [idsTop, List.mem_singleton, forall_eq] at h ⊢ <;> first | rfl | rw [h] | (cases C.ty t <;> first | rfl | (simp only [Option.bind_eq_bind, Option.bind_some]; rename_i i; cases i.kd <;> first | rfl | (simp only []; rw [h]; done) | (simp only [h]; done) | (repeat (first | rfl | contradiction | split))))
  | slice t x lo hi mx =>
    simp only [exec, touch] at h ⊢
    generalize ρ x = y at h ⊢
    cases y <;> simp only [idsTop, List.mem_singleton, forall_eq] at h ⊢ <;> first | rfl | rw [h] | (cases C.ty t <;> first | rfl | (simp only [Option.bind_eq_bind, Option.bind_some]; rename_i i; cases i.kd <;> first | rfl | (simp only []; rw [h]; done) | (simp only [h]; done) | (repeat (first | rfl | contradiction | split))))
  | lookup t x k ok =>
    simp only [exec, touch] at h ⊢
    rw [ents_local h]
  | mapUpdate t x k v =>
    simp only [exec, touch] at h ⊢
    generalize ρ x = y at h ⊢
    cases y <;> simp only [idsTop, List.mem_singleton, forall_eq] at h ⊢ <;> first | rfl | rw [h] | (cases C.ty t <;> first | rfl | (simp only [Option.bind_eq_bind, Option.bind_some]; rename_i i; cases i.kd <;> first | rfl | (simp only []; rw [h]; done) | (simp only [h]; done) | (repeat (first | rfl | contradiction | split))))
  | call c =>
    simp only [exec]
    cases hc : c.callee with
    | builtin b =>
      simp only []
      refine execB_local fun id hid => h id ?_
      simp only [List.mem_flatMap, List.mem_map] at hid
      obtain ⟨x, ⟨y, hy, rfl⟩, hid⟩ := hid
      simp only [touch, List.mem_flatMap]
      exact ⟨y, hy, hid⟩
    | _ => rfl
  | _ => rfl

end Go.Ai
