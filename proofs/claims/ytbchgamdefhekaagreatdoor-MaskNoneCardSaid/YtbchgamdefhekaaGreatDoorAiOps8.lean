/- Maps, and what an operation yields. -/
import Derived.Test.YtbchgamdefhekaaGreatDoorAiOps7
namespace Go.Ai
open Go

section
variable {P : Program} {E : Env} {g : Nat → Row} {w : World}

theorem keyKind_check {kt : Nat} {kd : TypeDesc} (hk : P.underlying kt = some kd) {q : Value} (h : keyKind kd q = true) (b : Bool) : (Instr.checkKey b 10000 kt q).run P w = .ok () w := by
  have key : ∀ n, (Instr.checkKey b (n + 1) kt q).run P w = .ok () w := by
    intro n
    cases kd <;> cases q <;> simp [keyKind] at h <;> simp [Instr.checkKey, run_und hk]
  exact key 9999

/-- Entries that stand for a list. -/
def EntRel (E : Env) (es : List (Value × AV)) (ents : List MapEntry) : Prop :=
  ents.length = es.length ∧ ∀ (i : Nat) (k : Value) (x : AV), es[i]? = some (k, x) → ∃ e, ents[i]? = some e ∧ e.key = k ∧ RelV E x e.val

theorem EntRel.cons_inv {E : Env} {k : Value} {x : AV} {es : List (Value × AV)} {ents : List MapEntry} (h : EntRel E ((k, x) :: es) ents) :
    ∃ e r, ents = e :: r ∧ e.key = k ∧ RelV E x e.val ∧ EntRel E es r := by
  cases ents with
  | nil => have := h.1; simp at this
  | cons e r =>
    obtain ⟨e', he', hk, hv⟩ := h.2 0 k x (by simp)
    simp at he'; subst he'
    exact ⟨e, r, rfl, hk, hv, by have := h.1; simpa using this, fun i k2 x2 hx => by simpa using h.2 (i + 1) k2 x2 (by simpa using hx)⟩

theorem findA_rel {E : Env} {kd : TypeDesc} {q : Value} : ∀ (es : List (Value × AV)) (ents : List MapEntry) (i : Nat) (r : Option (Nat × AV)), EntRel E es ents → findA kd q es i = some r →
    match r with
    | none => Instr.findNow kd q ents i = some none
    | some (j, v) => ∃ cv, Instr.findNow kd q ents i = some (some (j, cv)) ∧ RelV E v cv ∧ i ≤ j ∧ j - i < es.length ∧ ∃ e, ents[j - i]? = some e ∧ Instr.sameNow kd q e.key = some true
  | [], ents, i, r, h, hf => by
    simp only [findA, Option.some.injEq] at hf; subst hf
    have := h.1; simp at this; subst this; rfl
  | (k, x) :: es, ents, i, r, h, hf => by
    obtain ⟨e, rest, rfl, hk, hv, hr⟩ := h.cons_inv
    simp only [findA] at hf
    cases hs : Instr.sameNow kd q k with
    | none => rw [hs] at hf; simp at hf
    | some b =>
      rw [hs] at hf
      cases b with
      | true =>
        simp only [Option.some.injEq] at hf; subst hf
        exact ⟨e.val, by simp [Instr.findNow, hk, hs], hv, Nat.le_refl _, by simp, e, by simp, by rw [hk]; exact hs⟩
      | false =>
        simp only at hf
        have ih := findA_rel es rest (i + 1) r hr hf
        cases r with
        | none => simp only at ih ⊢; simp [Instr.findNow, hk, hs, ih]
        | some jv =>
          obtain ⟨j, v⟩ := jv
          obtain ⟨cv, h1, h2, h3, h4, e', he', hse⟩ := ih
          refine ⟨cv, by simp [Instr.findNow, hk, hs, h1], h2, by omega, by simp; omega, e', ?_, hse⟩
          rw [show j - i = (j - (i + 1)) + 1 by omega]; simpa using he'

theorem bytes_beq' (a b : ByteArray) : (a == b) = true ↔ a = b := by
  show (a.data == b.data) = true ↔ a = b
  rw [beq_iff_eq]
  exact ⟨fun h => ByteArray.ext h, fun h => by rw [h]⟩

theorem sameNow_eq {kd : TypeDesc} {a b : Value} (h : Instr.sameNow kd a b = some true) : a = b := by
  cases kd <;> cases a <;> cases b <;> simp [Instr.sameNow, bytes_beq'] at h
  all_goals first
    | (obtain ⟨h1, h2⟩ := h; subst h1; subst h2; rfl)
    | (subst h; rfl)

theorem sameBits_refl {kd : TypeDesc} {q : Value} (h : keyKind kd q = true) : Instr.sameBits 10000 q q = true := by
  cases kd <;> cases q <;> simp [keyKind] at h <;> simp [Instr.sameBits, bytes_beq']

theorem run_findKey {kt : Nat} {kd : TypeDesc} (hk : P.underlying kt = some kd) {q : Value} {ents : List MapEntry} {r : Option (Nat × Value)} (h : Instr.findNow kd q ents 0 = some r) :
    (Instr.findKey kt q ents).run P w = .ok r w := by
  simp [Instr.findKey, run_und hk, h]

theorem zeroAV_rel (i : TI) : RelV E (zeroAV i) (zv i) := by
  unfold zeroAV zv
  cases i.agg with
  | true => simpa using RelV.agg_mk (lits_rel E i.zero)
  | false => simpa using RelV.lit_mk E _

theorem y_lookup (hw : WOK E g w) {t kt elem : Nat} {kd : TypeDesc} {ie : TI} (ht : P.underlying t = some (.map kt elem)) (hk : P.underlying kt = some kd) (he : TyOK P elem ie) {x : AV} {cx q : Value} (hx : RelV E x cx)
    (hq : keyKind kd q = true) {es : List (Value × AV)} (hes : mapEnts g x = some es) {r : Option (Nat × AV)} (hf : findA kd q es 0 = some r) (ok : Bool) :
    ∃ cv, (Instr.lookup t cx q ok).run P w = .ok cv w ∧ RelV E (bif ok then .tup [lkVal r ie, .i (.lit (.bool r.isSome))] else lkVal r ie) cv := by
  have key : ∃ ents : Array MapEntry, EntRel E es ents.toList ∧
      ((cx = .map none ∧ ents = #[]) ∨ ∃ b clock, cx = .map (some b) ∧ w.heap[b]? = some (.map ents clock)) := by
    cases x with
    | map id =>
      simp only [mapEnts] at hes
      cases hg : g id with
      | dead => rw [hg] at hes; simp at hes
      | cells sz rs => rw [hg] at hes; simp at hes
      | map ms =>
        rw [hg] at hes
        simp only [Option.some.injEq] at hes; subst hes
        cases hx with
        | map ho =>
          obtain ⟨l', hl', hrow, _⟩ := hw.rows id (by rw [hg]; simp)
          rw [ho] at hl'; injection hl' with hl'; subst hl'
          rw [hg] at hrow
          obtain ⟨ents, clock, hh, hs, hr⟩ := hrow
          exact ⟨ents, ⟨by simpa using hs, fun i k y hy => by obtain ⟨e, a, b, c⟩ := hr i k y hy; exact ⟨e, by simpa using a, b, c⟩⟩, .inr ⟨_, clock, rfl, hh⟩⟩
    | i y =>
      cases hx with
      | i hy => cases hy with
        | lit =>
          cases cx <;> simp [mapEnts] at hes
          rename_i r
          cases r with
          | none => simp at hes; subst hes; exact ⟨#[], ⟨rfl, fun i k x h => by simp at h⟩, .inl ⟨rfl, rfl⟩⟩
          | some r => simp at hes
        | nil => simp [mapEnts] at hes
        | sl => simp [mapEnts] at hes
    | _ => simp [mapEnts] at hes
  obtain ⟨ents, hrel, hcx⟩ := key
  have hfr := findA_rel es ents.toList 0 r hrel hf
  have hz := he.run_zero w
  have hzr := zeroAV_rel (E := E) ie
  have fin : ∀ (v : AV) (cv : Value) (b : Bool), RelV E v cv → (do
      let (v, ok') ← (match (if b then some (0, cv) else none : Option (Nat × Value)) with
        | some (_, v) => pure (v, true)
        | none => pure (cv, false) : Sem (Value × Bool))
      pure (if ok then .tuple #[v, .bool ok'] else v) : Sem Value).run P w = .ok (if ok then .tuple #[cv, .bool b] else cv) w ∧
      RelV E (bif ok then .tup [v, .i (.lit (.bool b))] else v) (if ok then .tuple #[cv, .bool b] else cv) := by
    intro v cv b hv
    refine ⟨by cases b <;> simp, ?_⟩
    cases ok with
    | true => simpa using RelV.tup_mk (.cons hv (.cons (.lit_mk E (.bool b)) (.nil E)))
    | false => simpa using hv
  cases r with
  | none =>
    simp only at hfr
    have hfk := run_findKey (P := P) (w := w) hk hfr
    refine ⟨if ok then .tuple #[zv ie, .bool false] else zv ie, ?_, ?_⟩
    · rcases hcx with ⟨rfl, rfl⟩ | ⟨b, clock, rfl, hh⟩
      · simp only [Instr.lookup, Sem.run_bind, run_und ht, Result.andThen_ok, Sem.run_pure, keyKind_check hk hq]
        simp only [] at hfk
        rw [hfk]
        simp [hz]
      · have hgo : (getObj b).run P w = .ok (.map ents clock) w := by simp [getObj, Sem.run, hh]
        simp [Instr.lookup, run_und ht, hgo, keyKind_check hk hq, hfk, hz]
    · exact (fin _ _ false hzr).2
  | some jv =>
    obtain ⟨j, v⟩ := jv
    obtain ⟨cv, h1, h2, _⟩ := hfr
    have hfk := run_findKey (P := P) (w := w) hk h1
    refine ⟨if ok then .tuple #[cv, .bool true] else cv, ?_, (fin _ _ true h2).2⟩
    rcases hcx with ⟨rfl, rfl⟩ | ⟨b, clock, rfl, hh⟩
    · simp [Instr.lookup, run_und ht, keyKind_check hk hq, hfk]
    · have hgo : (getObj b).run P w = .ok (.map ents clock) w := by simp [getObj, Sem.run, hh]
      simp [Instr.lookup, run_und ht, hgo, keyKind_check hk hq, hfk]

theorem run_setObj {b : Nat} {o o' : Obj} (h : w.heap[b]? = some o) (hc : ∀ c t f, o ≠ .cells c t f) : (setObj b o').run P w = .ok () { w with heap := w.heap.setIfInBounds b o' } := by
  simp only [setObj, Sem.run, h]

theorem set_heap_self {b : Nat} {o : Obj} (h : b < w.heap.size) : (w.heap.setIfInBounds b o)[b]? = some o := by simp [h]
theorem set_heap_other {b c : Nat} {o : Obj} (h : c ≠ b) : (w.heap.setIfInBounds b o)[c]? = w.heap[c]? := by
  simp [Array.getElem?_setIfInBounds_ne (Ne.symm h)]

theorem y_mapUpdate (hw : WOK E g w) {t kt elem : Nat} {kd : TypeDesc} (ht : P.underlying t = some (.map kt elem)) (hk : P.underlying kt = some kd) {id : Nat} {cx q cv : Value} (hx : RelV E (.map id) cx)
    (hq : keyKind kd q = true) {es : List (Value × AV)} (hg : g id = .map es) {v : AV} (hv : RelV E v cv) {r : Option (Nat × AV)} (hf : findA kd q es 0 = some r) :
    ∃ w', (Instr.mapUpdate t cx q cv).run P w = .ok () w' ∧ Stp E g w E (upd g [(id, .map (mapPut r es q v))]) w' := by
  have hd : g id ≠ .dead := by rw [hg]; simp
  cases hx with
  | map ho =>
    rename_i l
    obtain ⟨l', hl', hrow, himm⟩ := hw.rows id hd
    rw [ho] at hl'; injection hl' with hl'; subst hl'
    rw [hg] at hrow
    obtain ⟨ents, clock, hh, hs, hr⟩ := hrow
    have hlt := lt_of_heap hh
    have hrel : EntRel E es ents.toList := ⟨by simpa using hs, fun i k y hy => by obtain ⟨e, a, b, c⟩ := hr i k y hy; exact ⟨e, by simpa using a, b, c⟩⟩
    have hfr := findA_rel es ents.toList 0 r hrel hf
    have hgo : (getObj l.b).run P w = .ok (.map ents clock) w := by simp [getObj, Sem.run, hh]
    cases r with
    | none =>
      simp only at hfr
      have hfk := run_findKey (P := P) (w := w) hk hfr
      refine ⟨{ w with heap := w.heap.setIfInBounds l.b (.map (ents.push { key := q, val := cv, born := clock }) (clock + 1)) }, ?_, ?_⟩
      · simp only [Instr.mapUpdate, Sem.run_bind, run_und ht, Result.andThen_ok, hgo, keyKind_check hk hq, hfk]
        exact run_setObj hh (fun _ _ _ e => by cases e)
      · refine stp_set hw hd ho (by simp) (fun b hb => set_heap_other hb) rfl rfl rfl ⟨_, _, set_heap_self hlt, by simp [hs, mapPut], fun i k x hx => ?_⟩
        simp only [mapPut] at hx
        rw [List.getElem?_append] at hx
        split at hx
        · obtain ⟨e, he, h1, h2⟩ := hr i k x hx
          exact ⟨e, by rw [Array.getElem?_push, if_neg (by omega)]; exact he, h1, h2⟩
        · rename_i hi
          have : i - es.length = 0 := by
            cases hii : i - es.length with
            | zero => rfl
            | succ n => rw [hii] at hx; simp at hx
          rw [this] at hx
          simp at hx
          obtain ⟨rfl, rfl⟩ := hx
          exact ⟨{ key := q, val := cv, born := clock }, by rw [Array.getElem?_push, if_pos (by omega)], rfl, hv⟩
    | some jv =>
      obtain ⟨j, v0⟩ := jv
      obtain ⟨cv0, h1, _, _, hjl, e0, he0, hse⟩ := hfr
      simp only [Nat.sub_zero] at hjl he0
      have hfk := run_findKey (P := P) (w := w) hk h1
      have hkey := sameNow_eq hse
      have he0' : ents[j]? = some e0 := by simpa using he0
      have hks : (Instr.keyThatStays (((ents[j]?).map (·.key)).getD q) q).run P w = .ok q w := by
        rw [he0']
        simp only [Option.map_some, Option.getD_some, Instr.keyThatStays, ← hkey, sameBits_refl hq, if_true, Sem.run_pure]
      refine ⟨{ w with heap := w.heap.setIfInBounds l.b (.map (ents.modify j fun e => { e with key := q, val := cv }) clock) }, ?_, ?_⟩
      · simp only [Instr.mapUpdate, Sem.run_bind, run_und ht, Result.andThen_ok, hgo, keyKind_check hk hq, hfk, hks]
        exact run_setObj hh (fun _ _ _ e => by cases e)
      · refine stp_set hw hd ho (by simp) (fun b hb => set_heap_other hb) rfl rfl rfl ⟨_, _, set_heap_self hlt, by simp [hs, mapPut], fun i k x hx => ?_⟩
        simp only [mapPut] at hx
        rw [List.getElem?_set] at hx
        by_cases hij : j = i
        · subst hij
          simp only [if_true, hjl] at hx
          injection hx with hx
          obtain ⟨rfl, rfl⟩ := Prod.mk.inj hx
          exact ⟨{ e0 with key := q, val := cv }, by simp [Array.getElem?_modify, he0'], rfl, hv⟩
        · simp only [hij, if_false] at hx
          obtain ⟨e, he, h3, h4⟩ := hr i k x hx
          exact ⟨e, by simp [Array.getElem?_modify, hij, he], h3, h4⟩

theorem y_makeMap (hw : WOK E g w) (t : Nat) {id : Nat} (hn : E.own id = none) : Yld P E g w (do pure (Next.value (← Instr.makeMap t none))) (.map id) [(id, .map [])] [id] := by
  refine ⟨.map (some w.heap.size), { w with heap := w.heap.push (.map #[] 0) }, E.put id ⟨w.heap.size, 0, 0, 0⟩, .inl (run_v ?_), ?_, .map Env.put_own, Env.put_ext (by simp)⟩
  · simp [Instr.makeMap]
  · exact stp_new hw hn rfl rfl rfl rfl rfl ⟨#[], 0, by simp, rfl, fun i k x h => by simp at h⟩

end
end Go.Ai
