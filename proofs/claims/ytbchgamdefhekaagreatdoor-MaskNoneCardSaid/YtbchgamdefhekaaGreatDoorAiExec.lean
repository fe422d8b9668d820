/- An operation of the model does what 'exec' says. -/
import Derived.Test.YtbchgamdefhekaaGreatDoorAiOps8
namespace Go.Ai
open Go

section
variable {C : Ctx} {E : Env} {g : Nat → Row} {w : World}

theorem opt_bind {α β : Type} {x : Option α} {f : α → Option β} {b : β} (h : (x >>= f) = some b) : ∃ a, x = some a ∧ f a = some b := by
  cases x with
  | none => cases h
  | some a => exact ⟨a, rfl, h⟩

theorem cond_some {α : Type} {b : Bool} {x : Option α} {a : α} (h : (bif b then x else none) = some a) : b = true ∧ x = some a := by
  cases b with
  | true => exact ⟨rfl, h⟩
  | false => cases h

theorem x_move (hw : WOK E g w) {ρ : Operand → AV} {ρc : Operand → Value} {o : Oper} {x : Operand} (ho : o.op = .move x ∨ o.op = .assign x) (hx : RelV E (ρ x) (ρc x)) {ids : List Nat} : Yld C.P E g w (execOp ρc o) (ρ x) [] ids := by
  refine .of_same hw ?_ hx
  rcases ho with ho | ho <;> simp [execOp, ho]

theorem eq_ptr {P : Program} {t e : Nat} (hd : P.underlying t = some (.pointer e)) (a : Addr) (w : World) : (Op.equal t (.pointer (some a)) (.pointer none)).run P w = .ok false w := by
  have : ∀ n, (Op.equalIn (n + 1) t (.pointer (some a)) (.pointer none)).run P w = .ok false w := fun n => by simp [Op.equalIn, run_und hd]
  exact this 9999
theorem eq_sl {P : Program} {t e : Nat} (hd : P.underlying t = some (.slice e)) (a : Addr) (l c : Nat) (w : World) : (Op.equal t (.slice (some a) l c) (.slice none 0 0)).run P w = .ok false w := by
  have : ∀ n, (Op.equalIn (n + 1) t (.slice (some a) l c) (.slice none 0 0)).run P w = .ok false w := fun n => by simp [Op.equalIn, run_und hd]
  exact this 9999
theorem eq_map {P : Program} {t k e : Nat} (hd : P.underlying t = some (.map k e)) (a : Nat) (w : World) : (Op.equal t (.map (some a)) (.map none)).run P w = .ok false w := by
  have : ∀ n, (Op.equalIn (n + 1) t (.map (some a)) (.map none)).run P w = .ok false w := fun n => by simp [Op.equalIn, run_und hd]
  exact this 9999
theorem eq_fn {P : Program} {t : Nat} {a b : Array TypeId} {c : Bool} (hd : P.underlying t = some (.func a b c)) (f : Fn) (x y : Array Value) (w : World) : (Op.equal t (.func f x y) .nilFunc).run P w = .ok false w := by
  have : ∀ n, (Op.equalIn (n + 1) t (.func f x y) .nilFunc).run P w = .ok false w := fun n => by simp [Op.equalIn, run_und hd]
  exact this 9999

theorem nilEq_rel {k : Kd} {x y : AV} {q : Bool} {cx cy : Value} {t : Nat} {d : TypeDesc} (h : nilEq k x y = some q) (hx : RelV E x cx) (hy : RelV E y cy) (hd : C.P.underlying t = some d) (hk : KdOK C.P k d) (ox oy : Operand) :
    q = false ∧ (Op.equal t cx cy).run C.P w = .ok false w ∧ (∀ b, (eqGuard b t ox oy cx cy).run C.P w = .ok () w) ∧
      binOp .eql t cx cy = (do pure (.bool (← Op.equal t cx cy)) : Sem Value) ∧ binOp .neq t cx cy = (do pure (.bool (!(← Op.equal t cx cy))) : Sem Value) := by
  have hg : ∀ a b : Value, (∀ b', (eqGuard b' t ox oy a b).run C.P w = .ok () w) ∨ (∃ c, a = .agg c) ∨ a = .nilIface := by
    intro a b
    cases a <;> first
      | exact .inr (.inl ⟨_, rfl⟩)
      | exact .inr (.inr rfl)
      | (refine .inl fun b' => ?_
         simp only [eqGuard]
         split <;> simp)
  unfold nilEq at h
  split at h
  · simp only [Option.some.injEq] at h
    cases hx with
    | ptr ho =>
      have := hy.lit_inv; subst this
      obtain ⟨e, rfl⟩ := hk
      refine ⟨h.symm, ?_, ?_, rfl, rfl⟩
      · exact eq_ptr hd _ w
      · exact (hg _ _).resolve_right (by simp)
  · simp only [Option.some.injEq] at h
    cases hx with
    | ipt us h1 h2 h3 =>
      have := hy.lit_inv; subst this
      obtain ⟨e, rfl⟩ := hk
      refine ⟨h.symm, ?_, ?_, rfl, rfl⟩
      · exact eq_ptr hd _ w
      · exact (hg _ _).resolve_right (by simp)
  · simp only [Option.some.injEq] at h
    cases hx with
    | rs ho ha hn hl hc =>
      have := hy.lit_inv; subst this
      obtain ⟨rfl, _⟩ := hk
      refine ⟨h.symm, ?_, ?_, rfl, rfl⟩
      · exact eq_sl hd _ _ _ w
      · exact (hg _ _).resolve_right (by simp)
  · simp only [Option.some.injEq] at h
    cases hx with
    | nn a cap =>
      have := hy.lit_inv; subst this
      obtain ⟨rfl, _⟩ := hk
      refine ⟨h.symm, ?_, ?_, rfl, rfl⟩
      · exact eq_sl hd _ _ _ w
      · exact (hg _ _).resolve_right (by simp)
  · simp only [Option.some.injEq] at h
    cases hx with
    | i hx => cases hx with
      | sl us hne hb hsz hsl hc hr hcap =>
        have := hy.lit_inv; subst this
        obtain ⟨rfl, _⟩ := hk
        refine ⟨h.symm, ?_, ?_, rfl, rfl⟩
        · exact eq_sl hd _ _ _ w
        · exact (hg _ _).resolve_right (by simp)
  · simp only [Option.some.injEq] at h
    cases hx with
    | map ho =>
      have := hy.lit_inv; subst this
      obtain ⟨rfl, _⟩ := hk
      refine ⟨h.symm, ?_, ?_, rfl, rfl⟩
      · exact eq_map hd _ w
      · exact (hg _ _).resolve_right (by simp)
  · simp only [Option.some.injEq] at h
    obtain ⟨vs, rfl, _⟩ := hx.fn_inv
    have := hy.lit_inv; subst this
    obtain ⟨a, b, c, rfl⟩ := hk
    refine ⟨h.symm, ?_, ?_, rfl, rfl⟩
    · exact eq_fn hd _ _ _ w
    · exact (hg _ _).resolve_right (by simp)
  · cases h

def isApp : Builtin → Bool
  | .append => true
  | _ => false

/-- The id that an operation may lay. -/
def freshOf (C : Ctx) (op : Op) (fresh : Nat) : List Nat := if slots C op = 0 then [] else [fresh]

theorem map2 {c : Array Operand} {f : Operand → AV} {x : AV} (h : c.toList.map f = [x]) : ∃ a, c = #[a] ∧ x = f a := by
  match hc : c.toList with
  | [a] => rw [hc] at h; simp at h; exact ⟨a, by rw [← Array.toArray_toList (xs := c), hc], h.symm⟩
  | [] => rw [hc] at h; simp at h
  | _ :: _ :: _ => rw [hc] at h; simp at h
theorem map3 {c : Array Operand} {f : Operand → AV} {x y : AV} (h : c.toList.map f = [x, y]) : ∃ a b, c = #[a, b] ∧ x = f a ∧ y = f b := by
  match hc : c.toList with
  | [a, b] => rw [hc] at h; simp at h; exact ⟨a, b, by rw [← Array.toArray_toList (xs := c), hc], h.1.symm, h.2.symm⟩
  | [] => rw [hc] at h; simp at h
  | [_] => rw [hc] at h; simp at h
  | _ :: _ :: _ :: _ => rw [hc] at h; simp at h

theorem mapM_args {ρ : Operand → AV} {ρc : Operand → Value} : ∀ (l : List Operand) (vs : List Value), (l.map ρ).mapM litOf = some vs → (∀ x ∈ l, RelV E (ρ x) (ρc x)) → l.map ρc = vs
  | [], vs, h, _ => by simp at h; subst h; rfl
  | a :: l, vs, h, hr => by
    simp only [List.map_cons, List.mapM_cons] at h
    obtain ⟨x, hx, h⟩ := opt_bind h
    obtain ⟨ys, hys, h⟩ := opt_bind h
    injection h with h; subst h
    simp only [List.map_cons]
    rw [litOf_rel hx (hr a (by simp)), mapM_args l ys hys (fun q hq => hr q (by simp [hq]))]

theorem y_len (hC : COK C) (hw : WOK E g w) {tys : Array TypeId} {t ty : Nat} (ht : tys[0]? = some t) {x : AV} {cx : Value} (hx : RelV E x cx) {v : AV} {u : List (Nat × Row)} (h : execLen C g t x = some (v, u)) {ids : List Nat} :
    Yld C.P E g w (do pure (Next.value (← Builtin.len_ tys ty #[cx])) : Sem Next) v u ids := by
  simp only [execLen] at h
  obtain ⟨i, hi, h⟩ := opt_bind h
  obtain ⟨d, hd, _, hkd⟩ := (hC.ty t i hi).und
  have fin : ∀ (n : Nat), (Builtin.len_ tys ty #[cx]).run C.P w = .ok (.int .i64 n) w → v = .i (.lit (.int .i64 n)) → u = [] → Yld C.P E g w (do pure (Next.value (← Builtin.len_ tys ty #[cx])) : Sem Next) v u ids := by
    intro n hr hv hu
    subst hv; subst hu
    exact .of_same hw (run_v hr) (.lit_mk E _)
  split at h
  · rename_i s hk _
    injection h with h; injection h with e1 e2
    rw [hk] at hkd; rw [hkd] at hd
    have := hx.lit_inv; subst this
    exact fin s.size (by simp [Builtin.len_, ht, run_und hd, goInt]) e1.symm e2.symm
  · rename_i n el esz hk _
    injection h with h; injection h with e1 e2
    rw [hk] at hkd; obtain ⟨rfl, _⟩ := hkd
    exact fin n (by simp [Builtin.len_, ht, run_und hd, goInt]) e1.symm e2.symm
  · rename_i el esz es hk _
    injection h with h; injection h with e1 e2
    rw [hk] at hkd; obtain ⟨rfl, _⟩ := hkd
    cases hx with
    | i hx => cases hx with
      | nil a cap hn => exact fin 0 (by simp [Builtin.len_, ht, run_und hd, goInt]) e1.symm e2.symm
      | sl us hne hb hsz hsl hc hr hcap => exact fin es.length (by simp [Builtin.len_, ht, run_und hd, goInt]) e1.symm e2.symm
  · rename_i el esz id off len cm hk _
    injection h with h; injection h with e1 e2
    rw [hk] at hkd; obtain ⟨rfl, _⟩ := hkd
    cases hx with
    | rs ho ha hn hl hc => exact fin len (by simp [Builtin.len_, ht, run_und hd, goInt]) e1.symm e2.symm
  · rename_i el esz hk _
    injection h with h; injection h with e1 e2
    rw [hk] at hkd; obtain ⟨rfl, _⟩ := hkd
    cases hx with
    | e0 a => exact fin 0 (by simp [Builtin.len_, ht, run_und hd, goInt]) e1.symm e2.symm
  · rename_i el esz hk _
    injection h with h; injection h with e1 e2
    rw [hk] at hkd; obtain ⟨rfl, _⟩ := hkd
    cases hx with
    | nn a cap => exact fin 0 (by simp [Builtin.len_, ht, run_und hd, goInt]) e1.symm e2.symm
  · rename_i el esz hk _
    injection h with h; injection h with e1 e2
    rw [hk] at hkd; obtain ⟨rfl, _⟩ := hkd
    have := hx.lit_inv; subst this
    exact fin 0 (by simp [Builtin.len_, ht, run_und hd, goInt]) e1.symm e2.symm
  · rename_i k e kd id hk _
    split at h
    · rename_i es hg
      injection h with h; injection h with e1 e2
      rw [hk] at hkd; obtain ⟨rfl, _⟩ := hkd
      cases hx with
      | map ho =>
        rename_i lc
        obtain ⟨l', hl', hrow, _⟩ := hw.rows id (by rw [hg]; simp)
        rw [ho] at hl'; injection hl' with hl'; subst hl'
        rw [hg] at hrow
        obtain ⟨ents, clock, hh, hs, hr⟩ := hrow
        refine fin es.length ?_ e1.symm e2.symm
        have hgo : (getObj lc.b).run C.P w = .ok (.map ents clock) w := by simp [getObj, Sem.run, hh]
        simp [Builtin.len_, ht, run_und hd, goInt, hgo, hs]
    · cases h
  · cases h

theorem y_append (hC : COK C) (hw : WOK E g w) {fresh : Nat} (hn : E.own fresh = none) {tys : Array TypeId} {t q ty : Nat} (ht : tys[0]? = some t) (hq : tys[1]? = some q) {s x : AV} {cs cx : Value} (hs : RelV E s cs) (hx : RelV E x cx)
    {v : AV} {u : List (Nat × Row)} (h : execAppend C g fresh t q s x = some (v, u)) : Yld C.P E g w (do pure (Next.value (← Builtin.append_ tys ty #[cs, cx])) : Sem Next) v u [fresh] := by
  simp only [execAppend] at h
  obtain ⟨i, hi, h⟩ := opt_bind h
  obtain ⟨iu, hiu, h⟩ := opt_bind h
  split at h
  · rename_i elem esz hk
    obtain ⟨ie, hie, h⟩ := opt_bind h
    obtain ⟨new, hnew, h⟩ := opt_bind h
    obtain ⟨hsl, h⟩ := cond_some h
    obtain ⟨d, hd, _, hkd⟩ := (hC.ty t i hi).und
    rw [hk] at hkd
    obtain ⟨rfl, hes⟩ := hkd
    have H : AppH C.P tys t q elem iu ie := ⟨ht, hq, hd, hC.ty q iu hiu, hsl, hC.ty elem ie hie⟩
    split at h
    · obtain ⟨hb, h⟩ := cond_some h
      injection h with h; injection h with e1 e2
      subst e1; subst e2
      exact y_append_none H hw hs hx hb hnew
    · rename_i e0 es0
      obtain ⟨hb, h⟩ := cond_some h
      simp only [Bool.and_eq_true] at hb
      have hz := Nat.eq_of_beq_eq_true hb.2
      have hl := H.he.len
      have hszz : esz = ie.size := by omega
      subst hszz
      have hpos : 0 < ie.size := by have := hb.1.2; simpa [Nat.blt_eq] using this
      obtain ⟨hall, hones⟩ := all_sz hb.1.1
      cases hnil : isNilSl s with
      | true =>
        rw [hnil] at h
        simp only [cond_true] at h
        obtain ⟨hr, h⟩ := cond_some h
        injection h with h; injection h with e1 e2
        subst e1; subst e2
        exact y_append_nil H hw hs hx hnil hnew (by simp) hall hpos hr hn
      | false =>
        rw [hnil] at h
        simp only [cond_false] at h
        split at h
        · rename_i id off len cm
          split at h
          · rename_i sz rs hg
            obtain ⟨hb2, h⟩ := cond_some h
            injection h with h; injection h with e1 e2
            subst e1; subst e2
            simp only [Bool.and_eq_true] at hb2
            have hsz := Nat.eq_of_beq_eq_true hb2.1.1
            subst hsz
            exact y_append_rs H hw hs hx hg (Nat.le_of_ble_eq_true hb2.1.2) hnew (by simp) hall hones hpos hb2.2 hn
          · cases h
        · cases h
  · cases h

theorem execB_sound (hC : COK C) (hw : WOK E g w) {fresh : Nat} (hn : E.own fresh = none) {ρ : Operand → AV} {ρc : Operand → Value} (args : Array Operand) (ty : Nat) {s : Sem Next}
    (hargs : ∀ x ∈ args.toList, RelV E (ρ x) (ρc x)) {b : Builtin} {tys : Array TypeId} {v : AV} {u : List (Nat × Row)} (h : execB C g fresh b tys (args.toList.map ρ) = some (v, u)) {consts : Array Bool}
    (hex : s.run C.P w = (builtin b tys ty consts (args.map ρc)).run C.P w) : Yld C.P E g w s v u (if isApp b = true then [fresh] else []) := by
  have lift : ∀ {ids}, Yld C.P E g w (builtin b tys ty consts (args.map ρc)) v u ids → Yld C.P E g w s v u ids := by
    intro ids ⟨cv, w', E', h1, h2⟩
    exact ⟨cv, w', E', by rw [hex]; exact h1, h2⟩
  cases b with
  | len =>
    simp only [execB] at h
    split at h
    · rename_i x hx
      obtain ⟨a, rfl, rfl⟩ := map2 hx
      obtain ⟨t, ht, h⟩ := opt_bind h
      have hxa := hargs a (by simp)
      refine lift ?_
      have : Yld C.P E g w (do pure (Next.value (← Builtin.len_ tys ty #[ρc a])) : Sem Next) v u [] := y_len hC hw ht hxa h
      simpa [builtin, isApp] using this
    · cases h
  | append =>
    simp only [execB] at h
    split at h
    · rename_i x y hx
      obtain ⟨a, b, rfl, rfl, rfl⟩ := map3 hx
      obtain ⟨t, ht, h⟩ := opt_bind h
      obtain ⟨q, hq, h⟩ := opt_bind h
      refine lift ?_
      have : Yld C.P E g w (do pure (Next.value (← Builtin.append_ tys ty #[ρc a, ρc b])) : Sem Next) v u [fresh] := y_append hC hw hn ht hq (hargs a (by simp)) (hargs b (by simp)) h
      simpa [builtin, isApp] using this
    · cases h
  | clear =>
    simp only [execB] at h
    split at h
    · rename_i x hx
      obtain ⟨a, rfl, rfl⟩ := map2 hx
      obtain ⟨t, ht, h⟩ := opt_bind h
      refine lift ?_
      have : Yld C.P E g w (do pure (Next.value (← Builtin.clear_ tys ty #[ρc a])) : Sem Next) v u [] := by
        simp only [execClear] at h
        obtain ⟨i, hi, h⟩ := opt_bind h
        split at h
        · rename_i elem esz hk
          obtain ⟨ie, hie, h⟩ := opt_bind h
          split at h
          · rename_i id off len cm hid
            split at h
            · rename_i sz es hg
              obtain ⟨hb, h⟩ := cond_some h
              injection h with h
              injection h with e1 e2
              subst e1; subst e2
              simp only [Bool.and_eq_true] at hb
              obtain ⟨d, hd, _, hkd⟩ := (hC.ty t i hi).und
              rw [hk] at hkd
              obtain ⟨rfl, hes⟩ := hkd
              have hty := hC.ty elem ie hie
              have h1 := Nat.eq_of_beq_eq_true hb.1.1
              have h2 := Nat.eq_of_beq_eq_true hb.1.2
              have hl := hty.len
              have ha := hargs a (by simp)
              rw [hid] at ha
              exact y_clear ht hd hty hw ha hg (by omega) (Nat.le_of_ble_eq_true hb.2)
            · cases h
          · cases h
        · cases h
      simpa [builtin, isApp] using this
    · cases h
  | min =>
    simp only [execB] at h
    obtain ⟨vs, hvs, h⟩ := opt_bind h
    obtain ⟨r, hr, h⟩ := opt_bind h
    injection h with h
    injection h with e1 e2
    subst e1; subst e2
    have hl := mapM_args args.toList vs hvs hargs
    have ha : args.map ρc = vs.toArray := by apply Array.ext'; simpa using hl
    refine lift ?_
    have := run_v (peek_run _ _ hr w)
    rw [ha]
    exact .of_same hw (by simpa [builtin, Builtin.min_] using this) (.lit_mk E r)
  | max =>
    simp only [execB] at h
    obtain ⟨vs, hvs, h⟩ := opt_bind h
    obtain ⟨r, hr, h⟩ := opt_bind h
    injection h with h
    injection h with e1 e2
    subst e1; subst e2
    have hl := mapM_args args.toList vs hvs hargs
    have ha : args.map ρc = vs.toArray := by apply Array.ext'; simpa using hl
    refine lift ?_
    have := run_v (peek_run _ _ hr w)
    rw [ha]
    exact .of_same hw (by simpa [builtin, Builtin.max_] using this) (.lit_mk E r)
  | _ => simp only [execB] at h; cases h

theorem exec_sound (hC : COK C) (hw : WOK E g w) {fresh : Nat} (hn : E.own fresh = none) {ρ : Operand → AV} {ρc : Operand → Value} {o : Oper} (hρ : ∀ x ∈ o.op.operands, RelV E (ρ x) (ρc x)) {v : AV} {u : List (Nat × Row)}
    (h : exec C g fresh ρ o.op = some (v, u)) : Yld C.P E g w (execOp ρc o) v u (freshOf C o.op fresh) := by
  cases hop : o.op with
  | move x =>
    rw [hop] at h hρ
    simp only [exec, Option.some.injEq, Prod.mk.injEq] at h
    obtain ⟨rfl, rfl⟩ := h
    exact x_move hw (.inl hop) (hρ x (by simp [Op.operands]))
  | assign x =>
    rw [hop] at h hρ
    simp only [exec, Option.some.injEq, Prod.mk.injEq] at h
    obtain ⟨rfl, rfl⟩ := h
    exact x_move hw (.inr hop) (hρ x (by simp [Op.operands]))
  | pick c a b =>
    rw [hop] at h hρ
    have hc := hρ c (by simp [Op.operands])
    simp only [exec] at h
    split at h
    · rename_i t ht
      simp only [Option.some.injEq, Prod.mk.injEq] at h
      obtain ⟨rfl, rfl⟩ := h
      rw [ht] at hc
      have hcv := hc.lit_inv
      refine .of_same hw (cv := if t then ρc a else ρc b) (by simp [execOp, hop, hcv, asBool]) ?_
      cases t
      · exact hρ b (by simp [Op.operands])
      · exact hρ a (by simp [Op.operands])
    · cases h
  | alloc t =>
    rw [hop] at h hρ
    simp only [exec] at h
    obtain ⟨i, hi, h⟩ := opt_bind h
    obtain ⟨hb, h⟩ := cond_some h
    simp only [Option.some.injEq, Prod.mk.injEq] at h
    obtain ⟨rfl, rfl⟩ := h
    have := y_alloc (hC.ty t i hi) hw hn (by simpa [Nat.blt_eq] using hb) (.tuple #[])
    simpa [execOp, hop, freshOf, slots] using this
  | box t x =>
    rw [hop] at h hρ
    simp only [exec] at h
    obtain ⟨cs, hcs, h⟩ := opt_bind h
    obtain ⟨hb, h⟩ := cond_some h
    simp only [Option.some.injEq, Prod.mk.injEq] at h
    obtain ⟨rfl, rfl⟩ := h
    have := y_box (P := C.P) (t := t) hw hn (hρ x (by simp [Op.operands])) hcs (by simpa [Nat.blt_eq] using hb)
    simpa [execOp, hop, freshOf, slots] using this
  | build t parts =>
    rw [hop] at h hρ
    simp only [exec] at h
    obtain ⟨i, hi, h⟩ := opt_bind h
    have hp : ∀ p ∈ parts.toList, RelV E (ρ p.2) (ρc p.2) := fun p hp => hρ p.2 (by simp only [Op.operands, List.mem_toArray, List.mem_map]; exact ⟨p, hp, rfl⟩)
    have key : ∃ cs, v = .agg cs ∧ u = [] ∧ ((∃ fs, i.kd = .struct fs ∧ fillA (fun k => (fs[k]?).map fun f => (f.1, f.2.1)) (i.zero.map fun c => AV.i (.lit c)) (parts.toList.map fun p => (p.1, ρ p.2)) = some cs) ∨
        (∃ m e esz, i.kd = .array m e esz ∧ fillA (fun k => some (k * esz, esz)) (i.zero.map fun c => AV.i (.lit c)) (parts.toList.map fun p => (p.1, ρ p.2)) = some cs)) := by
      split at h
      · rename_i fs hk
        obtain ⟨cs, hcs, h⟩ := opt_bind h
        simp only [Option.some.injEq, Prod.mk.injEq] at h
        exact ⟨cs, h.1.symm, h.2.symm, .inl ⟨fs, hk, hcs⟩⟩
      · rename_i m e esz hk
        obtain ⟨cs, hcs, h⟩ := opt_bind h
        simp only [Option.some.injEq, Prod.mk.injEq] at h
        exact ⟨cs, h.1.symm, h.2.symm, .inr ⟨m, e, esz, hk, hcs⟩⟩
      · cases h
    obtain ⟨cs, rfl, rfl, hcs⟩ := key
    obtain ⟨cv, h1, h2⟩ := y_build (w := w) (hC.ty t i hi) ρc ρ parts hp hcs
    exact .of_same hw (by simpa [execOp, hop] using run_v h1) h2
  | buildSlice t len parts =>
    rw [hop] at h hρ
    simp only [exec] at h
    obtain ⟨i, hi, h⟩ := opt_bind h
    have hp : ∀ p ∈ parts.toList, RelV E (ρ p.2) (ρc p.2) := fun p hp => hρ p.2 (by simp only [Op.operands, List.mem_toArray, List.mem_map]; exact ⟨p, hp, rfl⟩)
    split at h
    · rename_i elem esz hk
      obtain ⟨ie, hie, h⟩ := opt_bind h
      obtain ⟨d, hd, _, hkd⟩ := (hC.ty t i hi).und
      rw [hk] at hkd
      obtain ⟨rfl, hes⟩ := hkd
      have hty := hC.ty elem ie hie
      have hsz : ie.size = esz := by
        obtain ⟨f, a, b⟩ := hes; obtain ⟨f', a', b', _⟩ := hty.info
        rw [a] at a'; injection a' with a'; rw [← b, ← b', a']
      cases hl0 : Nat.beq len 0 with
      | true =>
        rw [hl0] at h
        simp only [cond_true] at h
        obtain ⟨hpe, h⟩ := cond_some h
        simp only [Option.some.injEq, Prod.mk.injEq] at h
        obtain ⟨rfl, rfl⟩ := h
        have hl := Nat.eq_of_beq_eq_true hl0
        subst hl
        have hpe' : parts = #[] := by simpa using hpe
        subst hpe'
        have hrun : (Instr.buildSlice t 0 #[]).run C.P w = .ok (.slice (some ⟨w.heap.size, 0, none⟩) 0 0) { w with heap := w.heap.push (.cells #[] elem) } := by
          simp [Instr.buildSlice, run_und hd, run_size hes, Instr.fill, newRow, Array.range_zero']
        refine ⟨.slice (some ⟨w.heap.size, 0, none⟩) 0 0, _, E, .inl ?_, stp_push (w' := { w with heap := w.heap.push (.cells #[] elem) }) (o := .cells #[] elem) hw rfl rfl rfl rfl, .e0 _, .refl E _⟩
        simpa [execOp, hop] using run_v hrun
      | false =>
        rw [hl0] at h
        simp only [cond_false] at h
        obtain ⟨hb, h⟩ := cond_some h
        simp only [Bool.and_eq_true] at hb
        obtain ⟨⟨hb1, hb2⟩, hb3⟩ := hb
        obtain ⟨es, hes', h⟩ := opt_bind h
        simp only [Option.some.injEq, Prod.mk.injEq] at h
        obtain ⟨rfl, rfl⟩ := h
        subst hsz
        have hlen0 : 0 < len := by
          cases len with
          | zero => simp at hl0
          | succ n => omega
        have := y_buildSlice (P := C.P) hd hty hw ρc ρ parts hp (by simpa [Nat.blt_eq] using hb3) (Nat.le_of_ble_eq_true hb2) hlen0 hes' hn
        simpa [execOp, hop, freshOf, slots] using this
    · cases h
  | load t a =>
    rw [hop] at h hρ
    simp only [exec] at h
    obtain ⟨i, hi, h⟩ := opt_bind h
    have ha := hρ a (by simp [Op.operands])
    have key : u = [] ∧ ((∃ id ei off sz es e, ρ a = .ptr id ei off ∧ g id = .cells sz es ∧ es[ei]? = some e ∧ readCells i.agg i.size off e = some v) ∨
      (∃ c off, ρ a = .ipt c off ∧ readCells i.agg i.size off (c.map AV.i) = some v)) := by
      split at h
      · rename_i id ei off hid
        split at h
        · rename_i sz es hg
          obtain ⟨e, he, h⟩ := opt_bind h
          obtain ⟨v', hv', h⟩ := opt_bind h
          simp only [Option.some.injEq, Prod.mk.injEq] at h
          obtain ⟨rfl, rfl⟩ := h
          exact ⟨rfl, .inl ⟨id, ei, off, sz, es, e, hid, hg, he, hv'⟩⟩
        · cases h
      · rename_i c off hc
        obtain ⟨v', hv', h⟩ := opt_bind h
        simp only [Option.some.injEq, Prod.mk.injEq] at h
        obtain ⟨rfl, rfl⟩ := h
        exact ⟨rfl, .inr ⟨c, off, hc, hv'⟩⟩
      · cases h
    obtain ⟨rfl, hk⟩ := key
    obtain ⟨cv, h1, h2⟩ := y_load (hC.ty t i hi) hw ha hk
    exact .of_same hw (by simpa [execOp, hop] using run_v h1) h2
  | store t a x =>
    rw [hop] at h hρ
    simp only [exec] at h
    obtain ⟨i, hi, h⟩ := opt_bind h
    obtain ⟨vs, hvs, h⟩ := opt_bind h
    have ha := hρ a (by simp [Op.operands])
    have hx := hρ x (by simp [Op.operands])
    split at h
    · rename_i id ei off hid
      split at h
      · rename_i sz es hg
        obtain ⟨e, he, h⟩ := opt_bind h
        obtain ⟨hb, h⟩ := cond_some h
        simp only [Option.some.injEq, Prod.mk.injEq] at h
        obtain ⟨rfl, rfl⟩ := h
        rw [Bool.and_eq_true] at hb
        rw [hid] at ha
        obtain ⟨w', h1, h2⟩ := y_store (hC.ty t i hi) hw ha hx hvs hg he (Nat.eq_of_beq_eq_true hb.1) (Nat.le_of_ble_eq_true hb.2)
        exact ⟨undef, w', E, .inr ⟨by simpa [execOp, hop] using run_u h1, rfl⟩, h2, by simpa [undef] using RelV.tup_mk (.nil E), .refl E _⟩
      · cases h
    · cases h
  | nilCheck x =>
    rw [hop] at h hρ
    have hx := hρ x (by simp [Op.operands])
    simp only [exec] at h
    split at h
    · rename_i id ei off hid
      simp only [Option.some.injEq, Prod.mk.injEq] at h
      obtain ⟨rfl, rfl⟩ := h
      rw [hid] at hx
      generalize hcx : ρc x = cx at hx
      cases hx with
      | ptr ho => exact .of_same hw (by simp [execOp, hop, hcx]) (.ptr ho)
    · rename_i c off hc
      simp only [Option.some.injEq, Prod.mk.injEq] at h
      obtain ⟨rfl, rfl⟩ := h
      rw [hc] at hx
      generalize hcx : ρc x = cx at hx
      cases hx with
      | ipt us h1 h2 h3 => exact .of_same hw (by simp [execOp, hop, hcx]) (.ipt us h1 h2 h3)
    · cases h
  | unOp b t x =>
    rw [hop] at h hρ
    have hx := hρ x (by simp [Op.operands])
    simp only [exec] at h
    obtain ⟨q, hq, h⟩ := opt_bind h
    obtain ⟨r, hr, h⟩ := opt_bind h
    simp only [Option.some.injEq, Prod.mk.injEq] at h
    obtain ⟨rfl, rfl⟩ := h
    have := toVal_rel hq hx
    refine .of_same hw (cv := r) ?_ (.lit_mk E r)
    have := peek_run _ _ hr w
    simpa [execOp, hop, toVal_rel hq hx] using run_v this
  | convert s d x =>
    rw [hop] at h hρ
    have hx := hρ x (by simp [Op.operands])
    simp only [exec] at h
    obtain ⟨q, hq, h⟩ := opt_bind h
    obtain ⟨r, hr, h⟩ := opt_bind h
    simp only [Option.some.injEq, Prod.mk.injEq] at h
    obtain ⟨rfl, rfl⟩ := h
    refine .of_same hw (cv := r) ?_ (.lit_mk E r)
    have := peek_run _ _ hr w
    simpa [execOp, hop, litOf_rel hq hx] using run_v this
  | binOp b t x y yt =>
    rw [hop] at h hρ
    have hx := hρ x (by simp [Op.operands])
    have hy := hρ y (by simp [Op.operands])
    simp only [exec] at h
    split at h
    · rename_i p q hp hq
      obtain ⟨r, hr, h⟩ := opt_bind h
      simp only [Option.some.injEq, Prod.mk.injEq] at h
      obtain ⟨rfl, rfl⟩ := h
      refine .of_same hw (cv := r) ?_ (.lit_mk E r)
      have hrun := peek_run _ _ hr w
      have e := run_v hrun
      simp only [execOp, hop, toVal_rel hp hx, toVal_rel hq hy]
      exact e
    · obtain ⟨i, hi, h⟩ := opt_bind h
      obtain ⟨q, hq, h⟩ := opt_bind h
      obtain ⟨d, hd, _, hkd⟩ := (hC.ty t i hi).und
      obtain ⟨rfl, h1, h2, h3, h4⟩ := nilEq_rel (w := w) hq hx hy hd hkd x y
      split at h
      · simp only [Option.some.injEq, Prod.mk.injEq] at h
        obtain ⟨rfl, rfl⟩ := h
        refine .of_same hw (cv := .bool false) ?_ (.lit_mk E _)
        simp [execOp, hop, h2, h3, h1]
      · simp only [Option.some.injEq, Prod.mk.injEq] at h
        obtain ⟨rfl, rfl⟩ := h
        refine .of_same hw (cv := .bool true) ?_ (.lit_mk E _)
        simp [execOp, hop, h2, h4, h1]
      · cases h
  | makeFunc f first caps =>
    rw [hop] at h hρ
    simp only [exec] at h
    split at h
    · rename_i k
      obtain ⟨hb, h⟩ := cond_some h
      have hfe : first = #[] := by simpa using hb
      subst hfe
      injection h with h
      injection h with h1 h2
      subst h1; subst h2
      refine .of_same hw (cv := .func (.func k) #[] (caps.map ρc)) (by simp [execOp, hop, Instr.makeFunc]) ?_
      have hr : RelL E (caps.toList.map ρ) (caps.toList.map ρc) := ⟨by simp, fun j x hx => by
        simp only [List.getElem?_map, Option.map_eq_some_iff] at hx ⊢
        obtain ⟨q, hq, rfl⟩ := hx
        exact ⟨ρc q, ⟨q, hq, rfl⟩, hρ q (by simp only [Op.operands, Array.mem_append]; right; rw [← Array.mem_toList_iff]; exact List.mem_of_getElem? hq)⟩⟩
      have := RelV.fn_mk (f := k) hr
      have e : (caps.toList.map ρc).toArray = caps.map ρc := by apply Array.ext'; simp
      rw [e] at this
      exact this
    · cases h
  | makeMap t r =>
    rw [hop] at h hρ
    simp only [exec] at h
    cases r with
    | none =>
      simp only [Option.some.injEq, Prod.mk.injEq] at h
      obtain ⟨rfl, rfl⟩ := h
      simpa [execOp, hop, freshOf, slots] using y_makeMap (P := C.P) hw t hn
    | some r => cases h
  | makeSlice t l c =>
    rw [hop] at h hρ
    simp only [exec] at h
    obtain ⟨i, hi, h⟩ := opt_bind h
    split at h
    · rename_i elem esz hk
      obtain ⟨ie, hie, h⟩ := opt_bind h
      obtain ⟨n, hnn, h⟩ := opt_bind h
      obtain ⟨m, hm, h⟩ := opt_bind h
      obtain ⟨hb, h⟩ := cond_some h
      simp only [Option.some.injEq, Prod.mk.injEq] at h
      obtain ⟨rfl, rfl⟩ := h
      simp only [Bool.and_eq_true] at hb
      obtain ⟨⟨⟨⟨hb1, hb2⟩, hb3⟩, hb4⟩, hb5⟩ := hb
      obtain ⟨d, hd, _, hkd⟩ := (hC.ty t i hi).und
      rw [hk] at hkd
      obtain ⟨rfl, hes⟩ := hkd
      obtain ⟨k1, hk1⟩ := natOf_rel hnn (hρ l (by simp [Op.operands]))
      obtain ⟨k2, hk2⟩ := natOf_rel hm (hρ c (by simp [Op.operands]))
      have hz := Nat.eq_of_beq_eq_true hb3
      subst hz
      have := y_makeSlice (P := C.P) hd (hC.ty elem ie hie) hw (k1 := k1) (k2 := k2) (Nat.le_of_ble_eq_true hb1) hb2 (by simpa [Nat.blt_eq] using hb4) hn
      simpa [execOp, hop, hk1, hk2, freshOf, slots] using this
    · cases h
  | slice t x lo hi mx =>
    rw [hop] at h hρ
    have hx := hρ x (by simp [Op.operands])
    have hlo : ∀ y, lo = some y → RelV E (ρ y) (ρc y) := fun y e => hρ y (by simp [Op.operands, e])
    have hhi : ∀ y, hi = some y → RelV E (ρ y) (ρc y) := fun y e => hρ y (by simp [Op.operands, e])
    have hmx : ∀ y, mx = some y → RelV E (ρ y) (ρc y) := fun y e => hρ y (by simp [Op.operands, e])
    simp only [exec] at h
    obtain ⟨i, hi', h⟩ := opt_bind h
    obtain ⟨l, hl, h⟩ := opt_bind h
    obtain ⟨d, hd, _, hkd⟩ := (hC.ty t i hi').und
    have bl := hi_bd hlo hl
    have hexec : ∀ (cv : Value) , (Instr.sliceAt t (ρc x) (lo.map ρc) (hi.map ρc) (mx.map ρc)).run C.P w = .ok cv w → (execOp ρc o).run C.P w = .ok (.value cv) w := fun cv e => by
      simpa [execOp, hop] using run_v e
    obtain ⟨hmh, h⟩ := cond_some h
    have hmxh : mx.map ρc ≠ none → hi.map ρc ≠ none := by
      intro e e2
      cases mx with
      | none => exact e rfl
      | some m => cases hi with
        | none => simp at hmh
        | some _ => simp at e2
    split at h
    · rename_i s hk hs
      obtain ⟨hh, hhh, h⟩ := opt_bind h
      obtain ⟨hb, h⟩ := cond_some h
      simp only [Option.some.injEq, Prod.mk.injEq] at h
      obtain ⟨rfl, rfl⟩ := h
      simp only [Bool.and_eq_true] at hb
      obtain ⟨⟨hb1, hb2⟩, hb3⟩ := hb
      have hmn : mx = none := by simpa using hb3
      subst hmn
      rw [hk] at hkd
      rw [hkd] at hd
      rw [hs] at hx
      have hcx := hx.lit_inv
      have := y_slice_str (w := w) hd bl (hi_bd hhi hhh) (Nat.le_of_ble_eq_true hb1) (Nat.le_of_ble_eq_true hb2)
      exact .of_same hw (hexec _ (by rw [hcx]; exact this)) (.lit_mk E _)
    · rename_i el esz es hk hs
      obtain ⟨hh, hhh, h⟩ := opt_bind h
      obtain ⟨m, hm, h⟩ := opt_bind h
      obtain ⟨hb, h⟩ := cond_some h
      simp only [Bool.and_eq_true] at hb
      obtain ⟨⟨hb1, hb2⟩, hb3⟩ := hb
      rw [hk] at hkd
      obtain ⟨rfl, hes⟩ := hkd
      rw [hs] at hx
      obtain ⟨q1, q2⟩ := y_slice_sl (w := w) hd hes hx bl (hi_bd hhi hhh) (hi_bd hmx hm) hmxh (Nat.le_of_ble_eq_true hb1) (Nat.le_of_ble_eq_true hb2) hb3
      cases hmn : mx.isNone with
      | true =>
        rw [hmn] at h
        simp only [cond_true, Option.some.injEq, Prod.mk.injEq] at h
        obtain ⟨rfl, rfl⟩ := h
        have hmn' : mx = none := by simpa using hmn
        obtain ⟨cv, h1, h2⟩ := q1 (by rw [hmn']; rfl)
        exact .of_same hw (hexec _ h1) h2
      | false =>
        rw [hmn] at h
        simp only [cond_false] at h
        obtain ⟨hb4, h⟩ := cond_some h
        simp only [Option.some.injEq, Prod.mk.injEq] at h
        obtain ⟨rfl, rfl⟩ := h
        rw [Bool.and_eq_true] at hb4
        have hmn' : mx.map ρc ≠ none := by cases mx with | none => simp at hmn | some _ => simp
        obtain ⟨cv, h1, h2⟩ := q2 hmn' (Nat.eq_of_beq_eq_true hb4.1) (Nat.eq_of_beq_eq_true hb4.2)
        exact .of_same hw (hexec _ h1) h2
    · rename_i el esz id off len cmin hk hs
      obtain ⟨hh, hhh, h⟩ := opt_bind h
      obtain ⟨m, hm, h⟩ := opt_bind h
      split at h
      · rename_i sz rs hg
        obtain ⟨hb, hq⟩ := cond_some h
        clear h
        simp only [Bool.and_eq_true] at hb
        obtain ⟨⟨⟨⟨hb1, hb2⟩, hb3⟩, hb4⟩, hb5⟩ := hb
        have hsz := Nat.eq_of_beq_eq_true hb5
        subst hsz
        rw [hk] at hkd
        obtain ⟨rfl, hes⟩ := hkd
        rw [hs] at hx
        obtain ⟨cv, h1, h2, h3⟩ := y_slice_rs hw hd hes hx hg bl (hi_bd hhi hhh) (hi_bd hmx hm) hmxh (Nat.le_of_ble_eq_true hb1) (Nat.le_of_ble_eq_true hb2) (Nat.le_of_ble_eq_true hb3) (Nat.le_of_ble_eq_true hb4)
        cases hmn : mx.isNone with
        | true =>
          rw [hmn] at hq
          simp only [cond_true] at hq
          injection hq with hq
          injection hq with e1 e2
          subst e1; subst e2
          exact .of_same hw (hexec _ h1) h2
        | false =>
          rw [hmn] at hq
          simp only [cond_false] at hq
          have hmn' : mx.map ρc ≠ none := by cases mx with | none => simp at hmn | some _ => simp
          cases hml : Nat.beq m l with
          | true =>
            rw [hml] at hq
            simp only [cond_true] at hq
            injection hq with hq
            injection hq with e1 e2
            subst e1; subst e2
            exact .of_same hw (hexec _ h1) (h3 hmn' (Nat.eq_of_beq_eq_true hml))
          | false =>
            rw [hml] at hq
            simp only [cond_false] at hq
            injection hq with hq
            injection hq with e1 e2
            subst e1; subst e2
            exact .of_same hw (hexec _ h1) h2
      · cases h
    · rename_i el esz hk hs
      obtain ⟨hh, hhh, h⟩ := opt_bind h
      obtain ⟨m, hm, h⟩ := opt_bind h
      obtain ⟨hb, h⟩ := cond_some h
      simp only [Option.some.injEq, Prod.mk.injEq] at h
      obtain ⟨rfl, rfl⟩ := h
      simp only [Bool.and_eq_true] at hb
      obtain ⟨⟨hb1, hb2⟩, hb3⟩ := hb
      have e1 := Nat.eq_of_beq_eq_true hb1
      have e2 := Nat.eq_of_beq_eq_true hb2
      have e3 := Nat.eq_of_beq_eq_true hb3
      subst e1; subst e2; subst e3
      rw [hk] at hkd
      obtain ⟨rfl, hes⟩ := hkd
      rw [hs] at hx
      have hcx := hx.lit_inv
      have := run_slice_sl (w := w) hd hes (a := none) (len := 0) (cap := 0) (run_bounds (b := true) bl (hi_bd hhi hhh) (hi_bd hmx hm) hmxh (Nat.le_refl 0) (Nat.le_refl 0) (Nat.le_refl 0))
      refine .of_same hw (hexec (.slice none 0 0) (by rw [hcx]; simpa using this)) (.lit_mk E _)
    · cases h
  | fieldAddr t x f =>
    rw [hop] at h hρ
    have hx := hρ x (by simp [Op.operands])
    simp only [exec] at h
    obtain ⟨i, hi, h⟩ := opt_bind h
    split at h
    · rename_i fs hk
      obtain ⟨⟨fo, fz, fa⟩, hf, h⟩ := opt_bind h
      simp only at h
      cases hz : Nat.beq fz 0 with
      | true => rw [hz] at h; cases h
      | false =>
        rw [hz] at h
        simp only [cond_false] at h
        have hz' : fz ≠ 0 := by intro e; subst e; simp at hz
        split at h
        · rename_i id ei off hid
          simp only [Option.some.injEq, Prod.mk.injEq] at h
          obtain ⟨rfl, rfl⟩ := h
          rw [hid] at hx
          generalize hcx : ρc x = cx at hx
          cases hx with
          | ptr ho =>
            rename_i lc
            have := run_fieldAt (w := w) (hC.ty t i hi) hk hf hz' (b := lc.b) (o := lc.base + ei * lc.sz + off)
            refine .of_same hw (by simpa [execOp, hop, hcx] using run_v this) ?_
            have := RelV.ptr (E := E) (id := id) (ei := ei) (off := off + fo) ho
            simpa [Nat.add_assoc] using this
        · rename_i c off hc
          simp only [Option.some.injEq, Prod.mk.injEq] at h
          obtain ⟨rfl, rfl⟩ := h
          rw [hc] at hx
          generalize hcx : ρc x = cx at hx
          cases hx with
          | ipt us h1 h2 h3 =>
            rename_i b o arr ty fzz
            have := run_fieldAt (w := w) (hC.ty t i hi) hk hf hz' (b := b) (o := o + off)
            refine .of_same hw (by simpa [execOp, hop, hcx] using run_v this) ?_
            have := RelV.ipt (off := off + fo) us h1 h2 h3
            simpa [Nat.add_assoc] using this
        · cases h
    · cases h
  | field t x f =>
    rw [hop] at h hρ
    have hx := hρ x (by simp [Op.operands])
    simp only [exec] at h
    obtain ⟨i, hi, h⟩ := opt_bind h
    split at h
    · rename_i fs hk
      obtain ⟨⟨fo, fz, fa⟩, hf, h⟩ := opt_bind h
      simp only at h
      split at h
      · rename_i cs hcs
        obtain ⟨v', hv', h⟩ := opt_bind h
        simp only [Option.some.injEq, Prod.mk.injEq] at h
        obtain ⟨rfl, rfl⟩ := h
        rw [hcs] at hx
        obtain ⟨cv, h1, h2⟩ := y_field (w := w) (hC.ty t i hi) hk hf hx hv'
        exact .of_same hw (by simpa [execOp, hop] using run_v h1) h2
      · cases h
    · cases h
  | indexAddr t x ix =>
    rw [hop] at h hρ
    have hx := hρ x (by simp [Op.operands])
    simp only [exec] at h
    obtain ⟨i, hi, h⟩ := opt_bind h
    obtain ⟨n, hnn, h⟩ := opt_bind h
    obtain ⟨d, hd, _, hkd⟩ := (hC.ty t i hi).und
    obtain ⟨k, hk1⟩ := natOf_rel hnn (hρ ix (by simp [Op.operands]))
    split at h
    · rename_i el esz id off len cmin hk hid
      split at h
      · rename_i sz rs hg
        obtain ⟨hb, h⟩ := cond_some h
        simp only [Option.some.injEq, Prod.mk.injEq] at h
        obtain ⟨rfl, rfl⟩ := h
        rw [Bool.and_eq_true] at hb
        rw [hk] at hkd
        obtain ⟨rfl, hes⟩ := hkd
        have hsz := Nat.eq_of_beq_eq_true hb.2
        subst hsz
        rw [hid] at hx
        obtain ⟨cv, h1, h2⟩ := y_indexAt_rs (k := k) hw hd hes hx hg (by have := hb.1; simpa [Nat.blt_eq] using this)
        exact .of_same hw (by simpa [execOp, hop, hk1] using run_v h1) h2
      · cases h
    · rename_i el esz es hk hid
      obtain ⟨e, he, h⟩ := opt_bind h
      obtain ⟨hb, h⟩ := cond_some h
      simp only [Option.some.injEq, Prod.mk.injEq] at h
      obtain ⟨rfl, rfl⟩ := h
      rw [hk] at hkd
      obtain ⟨rfl, hes⟩ := hkd
      rw [hid] at hx
      obtain ⟨cv, h1, h2⟩ := y_indexAt_sl (w := w) (k := k) hd hes hx he (Nat.eq_of_beq_eq_true hb)
      exact .of_same hw (by simpa [execOp, hop, hk1] using run_v h1) h2
    · rename_i m el esz id ei off hk hid
      obtain ⟨hb, h⟩ := cond_some h
      simp only [Option.some.injEq, Prod.mk.injEq] at h
      obtain ⟨rfl, rfl⟩ := h
      rw [hk] at hkd
      obtain ⟨rfl, hes, _⟩ := hkd
      rw [hid] at hx
      generalize hcx : ρc x = cx at hx
      cases hx with
      | ptr ho =>
        rename_i lc
        have := run_indexAt_array (w := w) (k := k) hd hes (n := n) (b := lc.b) (o := lc.base + ei * lc.sz + off) (by simpa [Nat.blt_eq] using hb)
        refine .of_same hw (by simpa [execOp, hop, hcx, hk1] using run_v this) ?_
        have := RelV.ptr (E := E) (id := id) (ei := ei) (off := off + n * esz) ho
        simpa [Nat.add_assoc] using this
    · rename_i m el esz c off hk hc
      obtain ⟨hb, h⟩ := cond_some h
      simp only [Option.some.injEq, Prod.mk.injEq] at h
      obtain ⟨rfl, rfl⟩ := h
      rw [hk] at hkd
      obtain ⟨rfl, hes, _⟩ := hkd
      rw [hc] at hx
      generalize hcx : ρc x = cx at hx
      cases hx with
      | ipt us h1 h2 h3 =>
        rename_i b o arr ty fzz
        have := run_indexAt_array (w := w) (k := k) hd hes (n := n) (b := b) (o := o + off) (by simpa [Nat.blt_eq] using hb)
        refine .of_same hw (by simpa [execOp, hop, hcx, hk1] using run_v this) ?_
        have := RelV.ipt (off := off + n * esz) us h1 h2 h3
        simpa [Nat.add_assoc] using this
    · cases h
  | index t x ix =>
    rw [hop] at h hρ
    have hx := hρ x (by simp [Op.operands])
    simp only [exec] at h
    obtain ⟨i, hi, h⟩ := opt_bind h
    obtain ⟨n, hnn, h⟩ := opt_bind h
    obtain ⟨d, hd, _, hkd⟩ := (hC.ty t i hi).und
    obtain ⟨k, hk1⟩ := natOf_rel hnn (hρ ix (by simp [Op.operands]))
    split at h
    · rename_i s hk hs
      obtain ⟨b, hb, h⟩ := opt_bind h
      simp only [Option.some.injEq, Prod.mk.injEq] at h
      obtain ⟨rfl, rfl⟩ := h
      rw [hk] at hkd
      rw [hkd] at hd
      rw [hs] at hx
      have hcx := hx.lit_inv
      have := run_index_str (w := w) (k := k) hd hb
      exact .of_same hw (by simpa [execOp, hop, hcx, hk1] using run_v this) (.lit_mk E _)
    · rename_i m elem esz cs hk hcs
      obtain ⟨ie, hie, h⟩ := opt_bind h
      obtain ⟨hb, h⟩ := cond_some h
      obtain ⟨v', hv', h⟩ := opt_bind h
      simp only [Option.some.injEq, Prod.mk.injEq] at h
      obtain ⟨rfl, rfl⟩ := h
      rw [hk] at hkd
      obtain ⟨rfl, hes, _⟩ := hkd
      rw [hcs] at hx
      obtain ⟨cv, h1, h2⟩ := y_index_arr (w := w) (k := k) hd hes (hC.ty elem ie hie) hx (by simpa [Nat.blt_eq] using hb) hv'
      exact .of_same hw (by simpa [execOp, hop, hk1] using run_v h1) h2
    · cases h
  | lookup t x k ok =>
    rw [hop] at h hρ
    have hx := hρ x (by simp [Op.operands])
    simp only [exec] at h
    obtain ⟨i, hi, h⟩ := opt_bind h
    split at h
    · rename_i kt elem kd hk
      obtain ⟨ie, hie, h⟩ := opt_bind h
      obtain ⟨q, hq, h⟩ := opt_bind h
      obtain ⟨hb, h⟩ := cond_some h
      obtain ⟨es, hes, h⟩ := opt_bind h
      obtain ⟨r, hr, h⟩ := opt_bind h
      obtain ⟨d, hd, _, hkd⟩ := (hC.ty t i hi).und
      rw [hk] at hkd
      obtain ⟨rfl, hkk⟩ := hkd
      have hqc := litOf_rel hq (hρ k (by simp [Op.operands]))
      obtain ⟨cv, h1, h2⟩ := y_lookup hw hd hkk (hC.ty elem ie hie) hx hb hes hr ok
      simp only [Option.some.injEq, Prod.mk.injEq] at h
      obtain ⟨rfl, rfl⟩ := h
      exact .of_same hw (by simpa [execOp, hop, hqc] using run_v h1) h2
    · cases h
  | mapUpdate t x k y =>
    rw [hop] at h hρ
    have hx := hρ x (by simp [Op.operands])
    have hy := hρ y (by simp [Op.operands])
    simp only [exec] at h
    obtain ⟨i, hi, h⟩ := opt_bind h
    split at h
    · rename_i kt elem kd hk
      obtain ⟨q, hq, h⟩ := opt_bind h
      obtain ⟨hb, h⟩ := cond_some h
      obtain ⟨d, hd, _, hkd⟩ := (hC.ty t i hi).und
      rw [hk] at hkd
      obtain ⟨rfl, hkk⟩ := hkd
      have hqc := litOf_rel hq (hρ k (by simp [Op.operands]))
      split at h
      · rename_i id hid
        split at h
        · rename_i es hg
          obtain ⟨r, hr, h⟩ := opt_bind h
          rw [hid] at hx
          obtain ⟨w', h1, h2⟩ := y_mapUpdate hw hd hkk hx hb hg hy hr
          simp only [Option.some.injEq, Prod.mk.injEq] at h
          obtain ⟨rfl, rfl⟩ := h
          exact ⟨undef, w', E, .inr ⟨by simpa [execOp, hop, hqc] using run_u h1, rfl⟩, h2, by simpa [undef] using RelV.tup_mk (.nil E), .refl E _⟩
        · cases h
      · cases h
    · cases h
  | extract t ix =>
    rw [hop] at h hρ
    have hx := hρ t (by simp [Op.operands])
    simp only [exec] at h
    split at h
    · rename_i vs hvs
      simp only [Option.map_eq_some_iff, Prod.mk.injEq] at h
      obtain ⟨v', hv', rfl, rfl⟩ := h
      rw [hvs] at hx
      obtain ⟨us, hus, hr⟩ := hx.tup_inv
      obtain ⟨cv, h1, h2⟩ := hr.get hv'
      exact .of_same hw (by simp [execOp, hop, hus, Instr.extract, h1]) h2
    · cases h
  | makeInterface t x =>
    rw [hop] at h hρ
    have hx := hρ x (by simp [Op.operands])
    simp only [exec] at h
    obtain ⟨i, hi, h⟩ := opt_bind h
    obtain ⟨d, hd, _, hkd⟩ := (hC.ty t i hi).und
    split at h
    · rename_i hk
      obtain ⟨q, hq, h⟩ := opt_bind h
      simp only [Option.some.injEq, Prod.mk.injEq] at h
      obtain ⟨rfl, rfl⟩ := h
      rw [hk] at hkd
      obtain ⟨kk, rfl⟩ := hkd
      exact .of_same hw (by simp [execOp, hop, Instr.makeInterface, run_und hd, litOf_rel hq hx]) (.lit_mk E _)
    · rename_i hk
      obtain ⟨q, hq, h⟩ := opt_bind h
      simp only [Option.some.injEq, Prod.mk.injEq] at h
      obtain ⟨rfl, rfl⟩ := h
      rw [hk] at hkd
      rw [hkd] at hd
      exact .of_same hw (by simp [execOp, hop, Instr.makeInterface, run_und hd, litOf_rel hq hx]) (.lit_mk E _)
    · cases h
  | call c =>
    rw [hop] at h hρ
    simp only [exec] at h
    have hargs : ∀ x ∈ c.args.toList, RelV E (ρ x) (ρc x) := fun x hx => hρ x (by simp only [Op.operands, Call.operands, Array.mem_append]; right; exact Array.mem_toList_iff.1 hx)
    split at h
    · rename_i b hb
      obtain ⟨consts, hex⟩ : ∃ consts, (execOp ρc o).run C.P w = (builtin b c.argTypes o.type consts (c.args.map ρc)).run C.P w := by
        simp only [execOp, hop, resolve, hb, Sem.run_bind, Sem.run_pure, Result.andThen_ok, invoke]
        exact ⟨_, rfl⟩
      have := execB_sound hC hw hn c.args o.type hargs h hex
      have e : freshOf C (.call c) fresh = (if isApp b = true then [fresh] else []) := by
        unfold freshOf; simp only [slots, hb]; cases b <;> rfl
      rw [e]; exact this
    · cases h
  | _ => rw [hop] at h; simp only [exec] at h; cases h

end
end Go.Ai
