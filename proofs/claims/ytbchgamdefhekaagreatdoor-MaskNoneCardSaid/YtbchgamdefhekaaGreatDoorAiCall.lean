/- Names changed; a call taken over into the caller's state. -/
import Derived.Test.YtbchgamdefhekaaGreatDoorAiExec
namespace Go.Ai
open Go

theorem renL_get (f : Nat → Option Nat) : ∀ (l : List AV) (j : Nat), (ren.renL f l)[j]? = (l[j]?).map (ren f)
  | [], j => by simp [ren.renL]
  | x :: r, 0 => by simp [ren.renL]
  | x :: r, j + 1 => by simp only [ren.renL, List.getElem?_cons_succ]; exact renL_get f r j
theorem renL_len (f : Nat → Option Nat) : ∀ (l : List AV), (ren.renL f l).length = l.length
  | [] => rfl
  | x :: r => by simp [ren.renL, renL_len f r]

/-- What a value stands for under other names. -/
theorem RelV.ren {E E' : Env} {f : Nat → Option Nat} (himm : ∀ b o, E.imm b = some o → E'.imm b = some o) (hown : ∀ id l k, E.own id = some l → f id = some k → E'.own k = some l) {x : AV} {v : Value} (h : RelV E x v) :
    RelV E' (Ai.ren f x) v := by
  induction h with
  | junk v => exact .junk v
  | i r => exact .i (r.mono himm)
  | ptr ho =>
    rename_i id ei off l
    unfold Ai.ren
    cases hf : f id with
    | none => exact .junk _
    | some k => exact .ptr (hown _ _ _ ho hf)
  | ipt us hb hc hr => exact .ipt us (himm _ _ hb) hc fun j x hx => (hr j x hx).mono himm
  | rs ho ha hn hl hc =>
    rename_i id off len cmin cap l a
    unfold Ai.ren
    cases hf : f id with
    | none => exact .junk _
    | some k => exact .rs (hown _ _ _ ho hf) ha hn hl hc
  | e0 a => exact .e0 a
  | nn a cap => exact .nn a cap
  | map ho =>
    rename_i id l
    unfold Ai.ren
    cases hf : f id with
    | none => exact .junk _
    | some k => exact .map (hown _ _ _ ho hf)
  | fn us hs hc _ ih =>
    unfold Ai.ren
    refine .fn us (by rw [renL_len]; exact hs) (fun j x hx => ?_) (fun j x hx => ?_) <;> rw [renL_get] at hx <;> obtain ⟨y, hy, rfl⟩ := Option.map_eq_some_iff.1 hx
    · exact hc j y hy
    · exact ih j y hy
  | agg us hs hc _ ih =>
    unfold Ai.ren
    refine .agg us (by rw [renL_len]; exact hs) (fun j x hx => ?_) (fun j x hx => ?_) <;> rw [renL_get] at hx <;> obtain ⟨y, hy, rfl⟩ := Option.map_eq_some_iff.1 hx
    · exact hc j y hy
    · exact ih j y hy
  | tup us hs hc _ ih =>
    unfold Ai.ren
    refine .tup us (by rw [renL_len]; exact hs) (fun j x hx => ?_) (fun j x hx => ?_) <;> rw [renL_get] at hx <;> obtain ⟨y, hy, rfl⟩ := Option.map_eq_some_iff.1 hx
    · exact hc j y hy
    · exact ih j y hy

theorem RowOK.ren {E E' : Env} {f : Nat → Option Nat} (himm : ∀ b o, E.imm b = some o → E'.imm b = some o) (hown : ∀ id l k, E.own id = some l → f id = some k → E'.own k = some l) {w : World} {l : Loc} {r : Row} (h : RowOK E w l r) :
    RowOK E' w l (renRow f r) := by
  cases r with
  | dead => trivial
  | cells sz es =>
    obtain ⟨a, b, arr, t, hh, hc⟩ := h
    refine ⟨a, b, arr, t, hh, ⟨hc.size, by simpa using hc.fit, fun i e he => ?_, fun i j e x he hx => ?_⟩⟩
    · simp only [List.getElem?_map, Option.map_eq_some_iff] at he
      obtain ⟨e', he', rfl⟩ := he
      simpa using hc.len i e' he'
    · simp only [List.getElem?_map, Option.map_eq_some_iff] at he
      obtain ⟨e', he', rfl⟩ := he
      simp only [List.getElem?_map, Option.map_eq_some_iff] at hx
      obtain ⟨x', hx', rfl⟩ := hx
      obtain ⟨u, hu, hr⟩ := hc.cell i j e' x' he' hx'
      exact ⟨u, hu, hr.ren himm hown⟩
  | map es =>
    obtain ⟨ents, c, hh, hs, hr⟩ := h
    refine ⟨ents, c, hh, by simpa using hs, fun i k x hx => ?_⟩
    simp only [List.getElem?_map, Option.map_eq_some_iff] at hx
    obtain ⟨⟨k', x'⟩, hx', hp⟩ := hx
    injection hp with h1 h2
    subst h1; subst h2
    obtain ⟨e, he, hk, hv⟩ := hr i _ x' hx'
    exact ⟨e, he, hk, hv.ren himm hown⟩

theorem renRow_dead {f : Nat → Option Nat} {r : Row} (h : renRow f r ≠ .dead) : r ≠ .dead := by
  intro e; subst e; exact h rfl

def Fit (E : Env) (n : Nat) : Prop := ∀ id, n ≤ id → E.own id = none

def GlobOK (C : Ctx) (E : Env) : Prop := ∀ g c, C.glob g = some c → RelV E (.ipt c 0) (.pointer (some ⟨g, 0, none⟩))

theorem GlobOK.imm {C : Ctx} {E E' : Env} (h : GlobOK C E) (himm : ∀ b o, E.imm b = some o → E'.imm b = some o) : GlobOK C E' := fun g c hg => by
  have := RelV.ren (f := fun _ => none) (E' := E') himm (fun _ _ _ _ h => by cases h) (h g c hg)
  simpa [ren] using this

def OutOK (E : Env) : Out → Ending → Prop
  | .ret v, .returned cv => RelV E v cv
  | .panic v, .panicked ch => ∃ cv, ch = [{ v := cv, recovered := false }] ∧ RelV E v cv
  | _, _ => False

/-- What a call of the interpreter says of the program. -/
def ACalls (C : Ctx) (k : Nat) (args : List AV) (σ : St) (out : Out) (σ' : St) : Prop :=
  (∃ i, C.fn k = some i) ∧ ∀ (E : Env) (w : World) (vs : List Value), GlobOK C E → WOK E (getRow σ) w → Fit E σ.length → RelL E args vs →
    Calls C.P k vs.toArray w fun e w' => ∃ E', Stp E (getRow σ) w E' (getRow σ') w' ∧ Fit E' σ'.length ∧ (∀ id, id < σ.length → E'.own id = E.own id) ∧ OutOK E' out e

def CallOK (C : Ctx) (call : Call) : Prop := ∀ k args σ out σ', call k args σ = some (out, σ') → ACalls C k args σ out σ'

theorem noId_one {E E' : Env} (himm : ∀ b o, E.imm b = some o → E'.imm b = some o) {x : AV} {v : Value} (h : below 0 x = true) (r : RelV E x v) : RelV E' x v := by
  cases r with
  | i r => exact .i (r.mono himm)
  | ipt us hb hc hr => exact .ipt us (himm _ _ hb) hc fun j x hx => (hr j x hx).mono himm
  | e0 a => exact .e0 a
  | nn a c => exact .nn a c
  | fn us hs hc hr =>
    rename_i f caps vs
    cases caps with
    | nil => exact .fn us hs (fun j x hx => by simp at hx) (fun j x hx => by simp at hx)
    | cons a b => simp [below] at h
  | _ => simp [below] at h

theorem noId_rel {E E' : Env} (himm : ∀ b o, E.imm b = some o → E'.imm b = some o) {x : AV} {v : Value} (h : noId x = true) (r : RelV E x v) : RelV E' x v := by
  cases x with
  | junk => exact .junk v
  | agg cs =>
    obtain ⟨vs, rfl, hr⟩ := r.agg_inv
    simp only [noId, List.all_eq_true] at h
    refine RelV.agg_mk ⟨hr.len, fun j x hx => ?_⟩
    obtain ⟨u, hu, hru⟩ := hr.get hx
    exact ⟨u, hu, noId_one himm (h x (List.mem_of_getElem? hx)) hru⟩
  | i y => exact noId_one himm rfl r
  | ipt c o => exact noId_one himm rfl r
  | e0 => exact noId_one himm rfl r
  | nn => exact noId_one himm rfl r
  | fn f caps =>
    cases caps with
    | nil => exact noId_one himm rfl r
    | cons a b => simp [noId] at h
  | _ => simp [noId] at h

theorem noIds_rel {E E' : Env} (himm : ∀ b o, E.imm b = some o → E'.imm b = some o) {xs : List AV} {vs : List Value} (h : xs.all noId = true) (r : RelL E xs vs) : RelL E' xs vs := by
  rw [List.all_eq_true] at h
  exact ⟨r.len, fun j x hx => let ⟨u, hu, hr⟩ := r.get hx; ⟨u, hu, noId_rel himm (h x (List.mem_of_getElem? hx)) hr⟩⟩

/-- The environment without rows. -/
def Env.bare (E : Env) : Env := ⟨E.imm, fun _ => none⟩

theorem getRow_nil : getRow [] = fun _ => .dead := by funext id; simp [getRow]

theorem WOK.bare {E : Env} {g : Nat → Row} {w : World} (h : WOK E g w) : WOK E.bare (getRow []) w :=
  ⟨h.imm, fun id hd => by rw [getRow_nil] at hd; exact absurd rfl hd, fun i j li lj hi => by rw [getRow_nil] at hi; exact absurd rfl hi⟩

theorem not_live_bare {E : Env} (b : Nat) : ¬ Live E.bare (getRow []) b := fun ⟨id, l, h, _⟩ => by rw [getRow_nil] at h; exact absurd rfl h

/-- A call that began without rows, taken over: its rows under names from k on that nobody has. -/
theorem adopt_stp {E E1 : Env} {g g1 : Nat → Row} {w w' : World} {k n : Nat} (hw : WOK E g w) (h : Stp E.bare (getRow []) w E1 g1 w') (hfit : Fit E1 n) (hk : ∀ id, k ≤ id → id < k + n → E.own id = none) :
    Stp E g w ⟨E1.imm, fun id => if k ≤ id ∧ id < k + n then E1.own (id - k) else E.own id⟩
      (fun id => if k ≤ id ∧ id < k + n then renRow (fun j => some (j + k)) (g1 (id - k)) else g id) w' := by
  have himm : ∀ b o, E.imm b = some o → E1.imm b = some o := h.le.imm
  have hle : E.le ⟨E1.imm, fun id => if k ≤ id ∧ id < k + n then E1.own (id - k) else E.own id⟩ := ⟨himm, fun id l hl => by
    show (if k ≤ id ∧ id < k + n then E1.own (id - k) else E.own id) = some l
    rw [if_neg (fun hc => by rw [hk id hc.1 hc.2] at hl; cases hl)]; exact hl⟩
  have hown : ∀ id l j, E1.own id = some l → some (id + k) = some j → (if k ≤ j ∧ j < k + n then E1.own (j - k) else E.own j) = some l := by
    intro id l j hl hj
    injection hj with hj; subst hj
    have : id < n := by
      rcases Nat.lt_or_ge id n with h1 | h1
      · exact h1
      · rw [hfit id h1] at hl; cases hl
    rw [if_pos (by omega), Nat.add_sub_cancel]; exact hl
  have hheap : ∀ b, b < w.heap.size → w'.heap[b]? = w.heap[b]? := fun b hb => h.keep b hb (not_live_bare b)
  have hnew : ∀ j l, g1 j ≠ .dead → E1.own j = some l → w.heap.size ≤ l.b := by
    intro j l hj hl
    rcases Nat.lt_or_ge l.b w.heap.size with h1 | h1
    · exact absurd (h.live l.b h1 ⟨j, l, hj, hl, rfl⟩) (not_live_bare _)
    · exact h1
  refine ⟨hle, ⟨h.ok.imm, ?_, ?_⟩, h.os, h.tape, h.output, h.size, fun b hb _ => hheap b hb, ?_, fun b hb _ => h.immN b hb (not_live_bare b)⟩
  · intro id hd
    by_cases hc : k ≤ id ∧ id < k + n
    · simp only [hc, and_self, if_true] at hd ⊢
      obtain ⟨l, hl, hr, hi⟩ := h.ok.rows (id - k) (renRow_dead hd)
      exact ⟨l, hl, RowOK.ren (E := E1) (E' := ⟨E1.imm, fun id => if k ≤ id ∧ id < k + n then E1.own (id - k) else E.own id⟩) (f := fun j => some (j + k)) (fun _ _ h => h) hown hr, hi⟩
    · simp only [hc, if_false] at hd ⊢
      obtain ⟨l, hl, hr, hi⟩ := hw.rows id hd
      have hlt := hw.lt hd hl
      exact ⟨l, hl, hr.mono hle (hheap _ hlt), by show E1.imm l.b = none; rw [h.immN l.b hlt (not_live_bare _)]; exact hi⟩
  · intro i j li lj hi hj hli hlj hij
    simp only at hi hj hli hlj
    by_cases h1 : k ≤ i ∧ i < k + n <;> by_cases h2 : k ≤ j ∧ j < k + n
    · simp only [h1, h2, and_self, if_true] at hi hj hli hlj
      exact h.ok.apart (i - k) (j - k) li lj (renRow_dead hi) (renRow_dead hj) hli hlj (by omega)
    · simp only [h1, h2, and_self, if_true, if_false] at hi hj hli hlj
      have := hnew _ _ (renRow_dead hi) hli
      have := hw.lt hj hlj
      omega
    · simp only [h1, h2, and_self, if_true, if_false] at hi hj hli hlj
      have := hnew _ _ (renRow_dead hj) hlj
      have := hw.lt hi hli
      omega
    · simp only [h1, h2, if_false] at hi hj hli hlj
      exact hw.apart i j li lj hi hj hli hlj hij
  · intro b hb ⟨id, l, hd, hl, hlb⟩
    simp only at hd hl
    by_cases hc : k ≤ id ∧ id < k + n
    · simp only [hc, and_self, if_true] at hd hl
      have := hnew _ _ (renRow_dead hd) hl
      omega
    · simp only [hc, if_false] at hd hl
      exact ⟨id, l, hd, hl, hlb⟩

/-- A call that began without rows, all its rows given up. -/
theorem forget_stp {E E1 : Env} {g g1 : Nat → Row} {w w' : World} (hw : WOK E g w) (h : Stp E.bare (getRow []) w E1 g1 w') : Stp E g w ⟨E1.imm, E.own⟩ g w' := by
  have hle : E.le ⟨E1.imm, E.own⟩ := ⟨h.le.imm, fun id l hl => hl⟩
  have hheap : ∀ b, b < w.heap.size → w'.heap[b]? = w.heap[b]? := fun b hb => h.keep b hb (not_live_bare b)
  refine ⟨hle, ⟨h.ok.imm, ?_, hw.apart⟩, h.os, h.tape, h.output, h.size, fun b hb _ => hheap b hb, fun b _ hl => hl, fun b hb _ => h.immN b hb (not_live_bare b)⟩
  intro id hd
  obtain ⟨l, hl, hr, hi⟩ := hw.rows id hd
  have hlt := hw.lt hd hl
  exact ⟨l, hl, hr.mono hle (hheap _ hlt), by show E1.imm l.b = none; rw [h.immN l.b hlt (not_live_bare _)]; exact hi⟩

end Go.Ai
