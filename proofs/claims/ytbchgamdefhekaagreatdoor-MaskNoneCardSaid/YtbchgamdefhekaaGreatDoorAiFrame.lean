/- Temporaries; the orders of a region. -/
import Derived.Test.YtbchgamdefhekaaGreatDoorAiOpCall
namespace Go.Ai
open Go

structure FrOK (n : Nat) (E : Env) (fr : Fr) (a : Act) : Prop where
  size : a.tmps.size = n
  defers : a.defers = []
  rel : ∀ t, RelV E (look fr t) (a.tmps.getD t undef)

theorem FrOK.mono {n : Nat} {E E' : Env} (le : E.le E') {fr : Fr} {a : Act} (h : FrOK n E fr a) : FrOK n E' fr a := ⟨h.size, h.defers, fun t => (h.rel t).mono le⟩

theorem eval_rel {C : Ctx} {E : Env} (hg : GlobOK C E) {fr : Fr} {a : Act} {x : Operand} (h : ∀ t, x = .tmp t → RelV E (look fr t) (a.tmps.getD t undef)) : RelV E (evalA C fr x) (a.eval x) := by
  cases x with
  | tmp t => exact h t rfl
  | const v => exact ofVal_rel E v
  | global g =>
    simp only [evalA, Act.eval]
    cases hc : C.glob g with
    | none => exact .junk _
    | some c => exact hg g c hc
  | func f => exact RelV.fn_mk (.nil E)

theorem putA_look {n : Nat} {fr fr' : Fr} {dst : Option Nat} {v : AV} (h : putA n fr dst v = some fr') (t : Nat) : look fr' t = if dst = some t then v else look fr t := by
  cases dst with
  | none => simp only [putA, Option.some.injEq] at h; subst h; rfl
  | some d =>
    simp only [putA] at h
    obtain ⟨_, h⟩ := cond_some h
    simp only [Option.some.injEq] at h
    subst h
    simp only [look, Option.some.injEq]
    by_cases hd : d = t
    · subst hd; simp
    · have : Nat.beq t d = false := by
        cases hb : Nat.beq t d with
        | false => rfl
        | true => exact absurd (Nat.eq_of_beq_eq_true hb).symm hd
      rw [this, if_neg hd]; rfl

theorem putA_lt {n : Nat} {fr fr' : Fr} {d : Nat} {v : AV} (h : putA n fr (some d) v = some fr') : d < n := by
  simp only [putA] at h
  obtain ⟨h, _⟩ := cond_some h
  simpa using h

theorem put_getD {n : Nat} {fr fr' : Fr} {dst : Option Nat} {v : AV} (h : putA n fr dst v = some fr') {a : Act} (hs : a.tmps.size = n) (cv : Value) (t : Nat) :
    (a.put dst cv).tmps.getD t undef = if dst = some t then cv else a.tmps.getD t undef := by
  cases dst with
  | none => rfl
  | some d =>
    have hd := putA_lt h
    simp only [Act.put, Array.getD_eq_getD_getElem?, Array.getElem?_setIfInBounds, Option.some.injEq]
    by_cases e : d = t
    · subst e; simp [hs, hd]
    · simp [e]

theorem put_size (a : Act) (dst : Option Nat) (cv : Value) : (a.put dst cv).tmps.size = a.tmps.size := by cases dst <;> simp [Act.put]
theorem put_defs (a : Act) (dst : Option Nat) (cv : Value) : (a.put dst cv).defers = a.defers := by cases dst <;> rfl

theorem FrOK.put {n : Nat} {E : Env} {fr fr' : Fr} {a : Act} (h : FrOK n E fr a) {dst : Option Nat} {v : AV} {cv : Value} (hp : putA n fr dst v = some fr') (hv : RelV E v cv) : FrOK n E fr' (a.put dst cv) := by
  refine ⟨by rw [put_size]; exact h.size, by rw [put_defs]; exact h.defers, fun t => ?_⟩
  rw [putA_look hp, put_getD hp h.size]
  split
  · exact hv
  · exact h.rel t

theorem tup_undef (E : Env) : RelV E (.tup []) undef := RelV.tup_mk (.nil E)

/-- A guard. -/
theorem wanted_rel {E : Env} {ops : List Oper} {fr : Fr} {o : Oper} {b : Bool} {a : Act} (h : wantedA ops fr o = some b)
    (hr : ∀ j want t, o.guard = some (j, want) → (ops[j]?).bind (·.dst) = some t → RelV E (look fr t) (a.tmps.getD t undef)) : Region.wanted o (yielded ops.toArray a.tmps) = b := by
  unfold wantedA at h
  unfold Region.wanted
  split at h
  · rename_i hg
    rw [hg]; simpa using h
  · rename_i j want hg
    rw [hg]
    simp only
    split at h
    · rename_i t ht
      have hrt := hr j want t hg ht
      have hy : yielded ops.toArray a.tmps j = (match a.tmps[t]? with | some (.bool b) => some b | _ => none) := by
        unfold yielded
        rw [List.getElem?_toArray, ht]; rfl
      rw [hy]
      rw [Array.getD_eq_getD_getElem?] at hrt
      split at h
      · rename_i b' hb'
        simp only [Option.some.injEq] at h
        rw [hb'] at hrt
        have e := hrt.lit_inv
        cases hq : a.tmps[t]? with
        | none => rw [hq] at e; simp [undef] at e
        | some q => rw [hq] at e; simp at e; subst e; simpa using h
      · rename_i vs hb'
        simp only [Option.some.injEq] at h
        subst h
        rw [hb'] at hrt
        obtain ⟨us, e, _⟩ := hrt.tup_inv
        cases hq : a.tmps[t]? with
        | none => rfl
        | some q => rw [hq] at e; simp at e; subst e; rfl
      · cases h
    · cases h

/-! ### what comes before -/
theorem fold_bits (acc : Array Nat) (i : Nat) : ∀ (es : List Edge) (s : Nat), (es.foldl (fun s e => if Region.binds .any e then s ||| 2 ^ e.on ||| acc.getD e.on 0 else s) s).testBit i = true →
    s.testBit i = true ∨ ∃ e ∈ es, Region.binds .any e = true ∧ (e.on = i ∨ (acc.getD e.on 0).testBit i = true)
  | [], s, h => .inl h
  | e :: es, s, h => by
    simp only [List.foldl_cons] at h
    rcases fold_bits acc i es _ h with h | ⟨e', he', hb, hc⟩
    · split at h
      · rename_i hb
        simp only [Nat.testBit_or, Bool.or_eq_true] at h
        rcases h with (h | h) | h
        · exact .inl h
        · exact .inr ⟨e, by simp, hb, .inl (by rw [Nat.testBit_two_pow] at h; simpa using h)⟩
        · exact .inr ⟨e, by simp, hb, .inr h⟩
      · exact .inl h
    · exact .inr ⟨e', by simp [he'], hb, hc⟩

def MaskOK (all : List Oper) (acc : Array Nat) : Prop := ∀ j m i, acc[j]? = some m → m.testBit i = true →
  ∃ o, all[j]? = some o ∧ ∃ e ∈ o.after, Region.binds .any e = true ∧ (e.on = i ∨ ∃ m', acc[e.on]? = some m' ∧ m'.testBit i = true ∧ e.on < j)

theorem masks_go (all : List Oper) : ∀ (rest pre : List Oper) (acc : Array Nat), all = pre ++ rest → acc.size = pre.length → MaskOK all acc →
    MaskOK all (rest.foldl (init := acc) fun acc o => acc.push (o.after.foldl (fun s e => if Region.binds .any e then s ||| 2 ^ e.on ||| acc.getD e.on 0 else s) 0)) ∧
      (rest.foldl (init := acc) fun acc o => acc.push (o.after.foldl (fun s e => if Region.binds .any e then s ||| 2 ^ e.on ||| acc.getD e.on 0 else s) 0)).size = all.length
  | [], pre, acc, he, hs, h => ⟨h, by simp [he, hs]⟩
  | o :: rest, pre, acc, he, hs, h => by
    simp only [List.foldl_cons]
    refine masks_go all rest (pre ++ [o]) _ (by simp [he]) (by simp [hs]) ?_
    intro j m i hj hb
    rw [Array.getElem?_push] at hj
    split at hj
    · rename_i hjs
      simp only [Option.some.injEq] at hj
      subst hj
      refine ⟨o, by rw [he, hjs, hs]; simp, ?_⟩
      rw [← Array.foldl_toList] at hb
      rcases fold_bits acc i o.after.toList 0 hb with hb | ⟨e, hem, hbi, hc⟩
      · simp at hb
      · refine ⟨e, Array.mem_toList_iff.1 hem, hbi, hc.imp id fun hc => ?_⟩
        cases hq : acc[e.on]? with
        | none => simp [hq] at hc
        | some m' =>
          have hlt := (Array.getElem?_eq_some_iff.1 hq).1
          refine ⟨m', ?_, by simpa [hq] using hc, by omega⟩
          rw [Array.getElem?_push, if_neg (by omega)]; exact hq
    · obtain ⟨o', ho', e, he', hbi, hc⟩ := h j m i hj hb
      refine ⟨o', ho', e, he', hbi, hc.imp id ?_⟩
      rintro ⟨m', hm', h1, h2⟩
      have hlt := (Array.getElem?_eq_some_iff.1 hm').1
      exact ⟨m', by rw [Array.getElem?_push, if_neg (by omega)]; exact hm', h1, h2⟩

theorem masks_ok (all : List Oper) : MaskOK all (Region.before all.toArray) ∧ (Region.before all.toArray).size = all.length := by
  have := masks_go all all [] #[] rfl rfl (fun j m i h => by simp at h)
  unfold Region.before
  simpa only [List.foldl_toArray'] using this

theorem masks_spec {all : List Oper} {j m i : Nat} (h : (masks all)[j]? = some m) (hb : m.testBit i = true) :
    ∃ o, all[j]? = some o ∧ ∃ e ∈ o.after, Region.binds .any e = true ∧ (e.on = i ∨ ∃ m', (masks all)[e.on]? = some m' ∧ m'.testBit i = true ∧ e.on < j) := by
  have := (masks_ok all).1 j m i (by simpa [masks] using h) hb
  simpa [masks] using this

theorem masks_get {all : List Oper} {j : Nat} (h : j < all.length) : ∃ m, (masks all)[j]? = some m := by
  have := (masks_ok all).2
  have hlt : j < (masks all).length := by simp [masks, this, h]
  exact ⟨_, List.getElem?_eq_getElem hlt⟩

/-- What is listed is listed with all that comes before it. -/
def Closed (all : List Oper) (listed : Nat → Bool) : Prop := ∀ j o, listed j = true → all[j]? = some o → ∀ e ∈ o.after, Region.binds .any e = true → listed e.on = true

theorem closed_mask {all : List Oper} {listed : Nat → Bool} (h : Closed all listed) : ∀ (j m i : Nat), (masks all)[j]? = some m → m.testBit i = true → (∀ o, all[j]? = some o → ∀ e ∈ o.after, Region.binds .any e = true → listed e.on = true) → listed i = true := by
  intro j
  induction j using Nat.strongRecOn with
  | _ j ih =>
    intro m i hm hb hl
    obtain ⟨o, ho, e, he, hbi, hc⟩ := masks_spec hm hb
    have hle := hl o ho e he hbi
    rcases hc with rfl | ⟨m', hm', hb', hlt⟩
    · exact hle
    · exact ih e.on hlt m' i hm' hb' (fun o' ho' e' he' hb' => h e.on o' hle ho' e' he' hb')

/-! ### the checks of a region -/
theorem zip_mem {α β : Type} {xs : List α} {ys : List β} {j : Nat} {x : α} {y : β} (hx : xs[j]? = some x) (hy : ys[j]? = some y) : ((x, y), j) ∈ (xs.zip ys).zipIdx := by
  refine List.mem_of_getElem? (i := j) ?_
  have : (xs.zip ys)[j]? = some (x, y) := List.getElem?_zip_eq_some.2 ⟨hx, hy⟩
  rw [List.getElem?_zipIdx, this]
  simp

structure StaticOK (all : List Oper) (ms : List Nat) : Prop where
  back : ∀ (j : Nat) (o : Oper) (m : Nat), all[j]? = some o → ms[j]? = some m → ∀ e ∈ o.after, Region.binds .any e = true → e.on < j
  free : ∀ (i j : Nat) (p o : Oper) (mi m : Nat), i < j → all[i]? = some p → all[j]? = some o → ms[i]? = some mi → ms[j]? = some m → m.testBit i = false →
    (∀ d, p.dst = some d → d ∉ opTmps all o ∧ o.dst ≠ some d) ∧ (∀ d, o.dst = some d → d ∉ opTmps all p)

theorem static_spec {all : List Oper} {ms : List Nat} (h : staticOk all ms = true) : StaticOK all ms := by
  unfold staticOk at h
  simp only [List.all_eq_true] at h
  constructor
  · intro j o m ho hm e he hb
    have := h _ (zip_mem ho hm)
    simp only [Bool.and_eq_true, Array.all_eq_true_iff_forall_mem] at this
    have := this.1.1 e he
    rw [hb] at this
    simpa using this
  · intro i j p o mi m hij hp ho hmi hm hb
    have := h _ (zip_mem ho hm)
    simp only [Bool.and_eq_true, List.all_eq_true] at this
    have := this.2 _ (zip_mem hp hmi)
    have hlt : Nat.blt i j = true := by simpa using hij
    simp only [hlt, hb, Bool.not_true, Bool.false_or, Bool.and_eq_true] at this
    obtain ⟨h1, h2⟩ := this
    constructor
    · intro d hd
      rw [hd] at h1
      simp only [Bool.and_eq_true, Bool.not_eq_true', List.contains_eq_mem, decide_eq_false_iff_not] at h1
      exact ⟨h1.1, fun he => by rw [he] at h1; simp at h1⟩
    · intro d hd
      rw [hd] at h2
      simpa using h2

theorem dyn_spec {ms : List Nat} {accs : List Acc} (h : dynOk ms accs = true) {i j m mi : Nat} {a b : Acc} (hij : i < j) (ha : accs[j]? = some a) (hb : accs[i]? = some b) (hm : ms[j]? = some m) (hmi : ms[i]? = some mi)
    (hbit : m.testBit i = false) : clash a b = false := by
  unfold dynOk at h
  simp only [List.all_eq_true] at h
  have := h _ (zip_mem ha hm)
  simp only [List.all_eq_true] at this
  have := this _ (zip_mem hb hmi)
  have hlt : Nat.blt i j = true := by simpa using hij
  simp only [hlt, hbit, Bool.not_true, Bool.false_or] at this
  simpa using this

end Go.Ai
