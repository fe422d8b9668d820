/- What leaves a function; the interpreter is sound. -/
import Derived.Test.YtbchgamdefhekaaGreatDoorAiF
namespace Go.Ai
open Go

theorem mapM_spec {α β : Type} {f : α → Option β} : ∀ (xs : List α) (ys : List β), xs.mapM f = some ys → ys.length = xs.length ∧ ∀ (i : Nat) (y : β), ys[i]? = some y → ∃ x, xs[i]? = some x ∧ f x = some y
  | [], ys, h => by simp at h; subst h; exact ⟨rfl, fun i y h => by simp at h⟩
  | x :: xs, ys, h => by
    simp only [List.mapM_cons] at h
    obtain ⟨y, hy, h⟩ := opt_bind h
    obtain ⟨ys', hys, h⟩ := opt_bind h
    simp only [Option.pure_def, Option.some.injEq] at h
    subst h
    obtain ⟨h1, h2⟩ := mapM_spec xs ys' hys
    refine ⟨by simp [h1], fun i z hz => ?_⟩
    cases i with
    | zero => simp at hz; subst hz; exact ⟨x, by simp, hy⟩
    | succ i => simpa using h2 i z (by simpa using hz)

theorem look_args : ∀ (args : List AV) (k t : Nat), look ((args.zipIdx k).map fun p => (p.2, p.1)) t = .junk ∨ ∃ x, k ≤ t ∧ args[t - k]? = some x ∧ look ((args.zipIdx k).map fun p => (p.2, p.1)) t = x
  | [], k, t => .inl rfl
  | x :: args, k, t => by
    simp only [List.zipIdx_cons, List.map_cons, look]
    cases hb : Nat.beq t k with
    | true =>
      have := Nat.eq_of_beq_eq_true hb
      subst this
      exact .inr ⟨x, Nat.le_refl _, by simp, rfl⟩
    | false =>
      simp only [cond_false]
      rcases look_args args (k + 1) t with h | ⟨y, h1, h2, h3⟩
      · exact .inl h
      · exact .inr ⟨y, by omega, by rw [show t - k = (t - (k + 1)) + 1 by omega, List.getElem?_cons_succ]; exact h2, h3⟩

theorem entry_ok {E : Env} {args : List AV} {vs : List Value} {n : Nat} (h : RelL E args vs) (hn : args.length ≤ n) :
    FrOK n E (args.zipIdx.map fun p => (p.2, p.1)) { tmps := vs.toArray ++ Array.replicate (n - vs.toArray.size) undef, defers := [] } := by
  have hl := h.len
  refine ⟨by simp; omega, rfl, fun t => ?_⟩
  rcases look_args args 0 t with e | ⟨x, _, h2, h3⟩
  · rw [e]; exact .junk _
  · rw [h3]
    obtain ⟨u, hu, hr⟩ := h.get h2
    rw [Nat.sub_zero] at hu
    have hlt : t < vs.length := (List.getElem?_eq_some_iff.1 hu).1
    have : (vs.toArray ++ Array.replicate (n - vs.toArray.size) undef).getD t undef = u := by
      rw [Array.getD_eq_getD_getElem?, Array.getElem?_append_left (by simpa using hlt)]
      simp [hu]
    show RelV E x ((vs.toArray ++ Array.replicate (n - vs.toArray.size) undef).getD t undef)
    rw [this]; exact hr

/-! ### rows turned into values -/
section
open Classical

/-- The environment behind a call: what the caller does not own is not changed any more. -/
noncomputable def Env.shut (E0 : Env) (g0 : Nat → Row) (w0 : World) (E : Env) (g : Nat → Row) (w : World) (n0 : Nat) : Env where
  imm := fun b => if (∃ id l, id < n0 ∧ g id ≠ .dead ∧ E.own id = some l ∧ l.b = b) ∨ (b < w0.heap.size ∧ ¬ Live E0 g0 b) then E.imm b else w.heap[b]?
  own := fun id => if id < n0 then E.own id else none

variable {E0 E : Env} {g0 g : Nat → Row} {w0 w : World} {n0 : Nat}

theorem shut_imm (hst : Stp E0 g0 w0 E g w) (b : Nat) (o : Obj) (h : E.imm b = some o) : (Env.shut E0 g0 w0 E g w n0).imm b = some o := by
  show (if _ then E.imm b else w.heap[b]?) = some o
  split
  · exact h
  · exact hst.ok.imm b o h

theorem shut_own  {id : Nat} (h : id < n0) : (Env.shut E0 g0 w0 E g w n0).own id = E.own id := if_pos h

theorem below_rel (hst : Stp E0 g0 w0 E g w) {x : AV} {v : Value} (h : below n0 x = true) (r : RelV E x v) : RelV (Env.shut E0 g0 w0 E g w n0) x v := by
  cases r with
  | i r => exact .i (r.mono (shut_imm hst))
  | ipt us hb hc hr => exact .ipt us (shut_imm hst _ _ hb) hc fun j x hx => (hr j x hx).mono (shut_imm hst)
  | e0 a => exact .e0 a
  | nn a c => exact .nn a c
  | ptr ho => simp only [below, Nat.blt_eq] at h; exact .ptr (by rw [shut_own h]; exact ho)
  | rs ho ha hn hl hc => simp only [below, Nat.blt_eq] at h; exact .rs (by rw [shut_own h]; exact ho) ha hn hl hc
  | map ho => simp only [below, Nat.blt_eq] at h; exact .map (by rw [shut_own h]; exact ho)
  | fn us hs hc hr =>
    rename_i f caps vs
    cases caps with
    | nil => exact .fn us hs (fun j x hx => by simp at hx) (fun j x hx => by simp at hx)
    | cons a b => simp [below] at h
  | _ => simp [below] at h

theorem rowBelow_ok (hst : Stp E0 g0 w0 E g w) {l : Loc} {r : Row} (hb : rowBelow n0 r = true) (h : RowOK E w l r) : RowOK (Env.shut E0 g0 w0 E g w n0) w l r := by
  cases r with
  | dead => trivial
  | cells sz es =>
    obtain ⟨h1, h2, arr, t, hh, hc⟩ := h
    simp only [rowBelow, List.all_eq_true] at hb
    exact ⟨h1, h2, arr, t, hh, ⟨hc.size, hc.fit, hc.len, fun i j e x he hx => let ⟨u, hu, hr⟩ := hc.cell i j e x he hx;
      ⟨u, hu, below_rel hst (hb e (List.mem_of_getElem? he) x (List.mem_of_getElem? hx)) hr⟩⟩⟩
  | map es =>
    obtain ⟨ents, c, hh, hs, hr⟩ := h
    simp only [rowBelow, List.all_eq_true] at hb
    exact ⟨ents, c, hh, hs, fun i k x hx => let ⟨e, he, hk, hv⟩ := hr i k x hx; ⟨e, he, hk, below_rel hst (hb _ (List.mem_of_getElem? hx)) hv⟩⟩

theorem frzI_rel (hst : Stp E0 g0 w0 E g w) : ∀ (n : Nat) (x : AV) (y : IV) (v : Value), frzI g n0 n x = some y → RelV E x v → RelI (Env.shut E0 g0 w0 E g w n0).imm y v
  | 0, x, y, v, h, r => by simp [frzI] at h
  | n + 1, x, y, v, h, r => by
    unfold frzI at h
    split at h
    · simp only [Option.some.injEq] at h
      subst h
      rw [r.lit_inv]
      exact .nil none 0 (fun _ => rfl)
    · simp only [Option.some.injEq] at h
      subst h
      cases r with | i r => exact r.mono (shut_imm hst)
    · simp only [Option.some.injEq] at h
      subst h
      cases r with | e0 a => exact .nil a 0 (fun _ => rfl)
    · simp only [Option.some.injEq] at h
      subst h
      cases r with | nn a c => exact .nil (some a) c (fun h => by cases h)
    · rename_i id off len m
      cases hlt : Nat.blt id n0 with
      | true => rw [hlt] at h; simp at h
      | false =>
        rw [hlt] at h
        simp only [cond_false] at h
        have hge : n0 ≤ id := by
          rcases Nat.lt_or_ge id n0 with h1 | h1
          · have : Nat.blt id n0 = true := by simpa using h1
            rw [hlt] at this; cases this
          · exact h1
        split at h
        · rename_i sz es hg
          obtain ⟨hle, h⟩ := cond_some h
          have hle := Nat.le_of_ble_eq_true hle
          obtain ⟨ees, hees, rfl⟩ := Option.map_eq_some_iff.1 h
          obtain ⟨h1, h2⟩ := mapM_spec _ _ hees
          have hlen : ees.length = len := by rw [h1]; simp; omega
          cases r with
          | rs ho ha hn hl hc =>
            rename_i cap l a
            cases len with
            | zero =>
              have : ees = [] := List.eq_nil_of_length_eq_zero hlen
              subst this
              exact .nil (some a) cap (fun h => by cases h)
            | succ len =>
              have hgd : g id ≠ .dead := by rw [hg]; simp
              obtain ⟨l', hl', hrow, hnone⟩ := hst.ok.rows id hgd
              rw [ho] at hl'; injection hl' with hl'; subst hl'
              rw [hg] at hrow
              obtain ⟨hsz, hpos, arr, t, hheap, hcells⟩ := hrow
              have himm : (Env.shut E0 g0 w0 E g w n0).imm l.b = some (.cells arr t (0, 0)) := by
                show (if _ then E.imm l.b else w.heap[l.b]?) = _
                rw [if_neg]
                · exact hheap
                · rintro (⟨id', l', hid', hd', ho', hb'⟩ | ⟨hb, hnl⟩)
                  · exact hst.ok.apart id' id l' l hd' hgd ho' ho (by omega) hb'
                  · exact hnl (hst.live l.b hb ⟨id, l, hgd, ho, rfl⟩)
              have hcap : 0 < cap := by omega
              rw [ha hcap]
              have helem : ∀ (i : Nat) (e : List IV), ees[i]? = some e → ∃ e0, es[off + i]? = some e0 ∧ e.length = l.sz ∧ ∀ (j : Nat) (q : IV), e[j]? = some q → ∃ x, e0[j]? = some x ∧ frzI g n0 n x = some q := by
                intro i e he
                obtain ⟨e0, he0, hm⟩ := h2 i e he
                obtain ⟨h3, h4⟩ := mapM_spec _ _ hm
                rw [List.getElem?_take] at he0
                split at he0
                · rw [List.getElem?_drop] at he0
                  exact ⟨e0, he0, by rw [h3]; exact hcells.len _ e0 he0, h4⟩
                · cases he0
              have := RelI.sl (imm := (Env.shut E0 g0 w0 E g w n0).imm) (es := ees) (b := l.b) (off := l.base + off * l.sz) (cap := cap) (sz := l.sz) (fun i j => arr.getD (l.base + (off + i) * l.sz + j) default)
                (fun h => by rw [h] at hlen; simp at hlen) himm (by omega) (fun i e he => (helem i e he).choose_spec.2.1) (fun i j e q he hq => by
                  obtain ⟨e0, he0, _, h5⟩ := helem i e he
                  obtain ⟨x, hx, _⟩ := h5 j q hq
                  obtain ⟨u, hu, _⟩ := hcells.cell _ _ e0 x he0 hx
                  have e1 : l.base + off * l.sz + i * l.sz + j = l.base + (off + i) * l.sz + j := by rw [Nat.add_mul]; omega
                  rw [e1, Array.getD_eq_getD_getElem?, hu]; rfl) (fun i j e q he hq => by
                  obtain ⟨e0, he0, _, h5⟩ := helem i e he
                  obtain ⟨x, hx, hfx⟩ := h5 j q hq
                  obtain ⟨u, hu, hr⟩ := hcells.cell _ _ e0 x he0 hx
                  rw [Array.getD_eq_getD_getElem?, hu]
                  exact frzI_rel hst n x q u hfx hr) (by omega)
              rw [hlen] at this
              exact this
        · cases h
    · simp only [Option.some.injEq] at h
      subst h
      obtain ⟨vs, rfl, hr⟩ := r.fn_inv
      rw [hr.cases_nil]
      exact .lit _
    · cases h

theorem frz1_rel (hst : Stp E0 g0 w0 E g w) {n : Nat} {x y : AV} {v : Value} (h : frz1 g n0 n x = some y) (r : RelV E x v) : RelV (Env.shut E0 g0 w0 E g w n0) y v := by
  have hI : ∀ x, (frzI g n0 n x).map AV.i = some y → RelV E x v → RelV (Env.shut E0 g0 w0 E g w n0) y v := by
    intro x h r
    obtain ⟨q, hq, rfl⟩ := Option.map_eq_some_iff.1 h
    exact .i (frzI_rel hst n x q v hq r)
  unfold frz1 at h
  split at h
  · obtain ⟨hb, h⟩ := cond_some h
    simp only [Option.some.injEq] at h; subst h
    exact below_rel hst (by simpa [below] using hb) r
  · obtain ⟨hb, h⟩ := cond_some h
    simp only [Option.some.injEq] at h; subst h
    exact below_rel hst (by simpa [below] using hb) r
  · simp only [Option.some.injEq] at h; subst h
    exact below_rel hst rfl r
  · rename_i id off len m
    cases hb : Nat.blt id n0 with
    | true =>
      rw [hb] at h
      simp only [cond_true, Option.some.injEq] at h; subst h
      exact below_rel hst (by simpa [below] using hb) r
    | false => rw [hb] at h; exact hI _ h r
  · exact hI _ h r

theorem frzL_rel (hst : Stp E0 g0 w0 E g w) {f : AV → Option AV} (hf : ∀ x y v, f x = some y → RelV E x v → RelV (Env.shut E0 g0 w0 E g w n0) y v) {xs ys : List AV} {vs : List Value} (h : xs.mapM f = some ys) (r : RelL E xs vs) :
    RelL (Env.shut E0 g0 w0 E g w n0) ys vs := by
  obtain ⟨h1, h2⟩ := mapM_spec _ _ h
  refine ⟨by rw [r.len, h1], fun j y hy => ?_⟩
  obtain ⟨x, hx, hfx⟩ := h2 j y hy
  obtain ⟨u, hu, hr⟩ := r.get hx
  exact ⟨u, hu, hf x y u hfx hr⟩

theorem frz2_rel (hst : Stp E0 g0 w0 E g w) {n : Nat} {x y : AV} {v : Value} (h : frz2 g n0 n x = some y) (r : RelV E x v) : RelV (Env.shut E0 g0 w0 E g w n0) y v := by
  unfold frz2 at h
  split at h
  · obtain ⟨q, hq, rfl⟩ := Option.map_eq_some_iff.1 h
    obtain ⟨vs, rfl, hr⟩ := r.agg_inv
    exact RelV.agg_mk (frzL_rel hst (fun x y v h r => frz1_rel hst h r) hq hr)
  · exact frz1_rel hst h r

theorem frz_rel (hst : Stp E0 g0 w0 E g w) {n : Nat} {x y : AV} {v : Value} (h : frz g n0 n x = some y) (r : RelV E x v) : RelV (Env.shut E0 g0 w0 E g w n0) y v := by
  unfold frz at h
  split at h
  · obtain ⟨q, hq, rfl⟩ := Option.map_eq_some_iff.1 h
    obtain ⟨vs, rfl, hr⟩ := r.tup_inv
    exact RelV.tup_mk (frzL_rel hst (fun x y v h r => frz2_rel hst h r) hq hr)
  · exact frz2_rel hst h r
end

theorem take_row {σ : St} {n0 id : Nat} (h : getRow (σ.take n0) id ≠ .dead) : id < n0 ∧ getRow (σ.take n0) id = getRow σ id := by
  simp only [getRow, List.getD_eq_getElem?_getD, List.getElem?_take] at h ⊢
  split at h
  · rename_i hlt; exact ⟨hlt, by rw [if_pos hlt]⟩
  · exact absurd rfl h

theorem shut_stp {E0 E : Env} {g0 : Nat → Row} {σ : St} {w0 w : World} {n0 : Nat} (hst : Stp E0 g0 w0 E (getRow σ) w) (h0 : Fit E0 n0) (hbase : ∀ id, id < n0 → E.own id = E0.own id) (hall : (σ.take n0).all (rowBelow n0) = true) :
    Stp E0 g0 w0 (Env.shut E0 g0 w0 E (getRow σ) w n0) (getRow (σ.take n0)) w := by
  have hok := hst.ok
  refine ⟨⟨fun b o h => shut_imm hst b o (hst.le.imm b o h), fun id l hl => ?_⟩, ⟨?_, ?_, ?_⟩, hst.os, hst.tape, hst.output, hst.size, hst.keep, ?_, ?_⟩
  · by_cases hid : id < n0
    · rw [shut_own hid, hbase id hid]; exact hl
    · rw [h0 id (by omega)] at hl; cases hl
  · intro b o h
    simp only [Env.shut] at h
    split at h
    · exact hok.imm b o h
    · exact h
  · intro id hd
    obtain ⟨hlt, he⟩ := take_row hd
    rw [he] at hd ⊢
    obtain ⟨l, hl, hr, hi⟩ := hok.rows id hd
    refine ⟨l, by rw [shut_own hlt]; exact hl, rowBelow_ok hst ?_ hr, ?_⟩
    · rw [List.all_eq_true] at hall
      rw [← he]
      simp only [getRow, List.getD_eq_getElem?_getD] at *
      cases hq : (σ.take n0)[id]? with
      | none => rfl
      | some r => exact hall r (List.mem_of_getElem? hq)
    · simp only [Env.shut]
      rw [if_pos (.inl ⟨id, l, hlt, hd, hl, rfl⟩)]; exact hi
  · intro i j li lj hi hj hli hlj hij
    obtain ⟨h1, e1⟩ := take_row hi
    obtain ⟨h2, e2⟩ := take_row hj
    rw [e1] at hi; rw [e2] at hj
    rw [shut_own h1] at hli; rw [shut_own h2] at hlj
    exact hok.apart i j li lj hi hj hli hlj hij
  · rintro b hb ⟨id, l, hd, hl, hlb⟩
    obtain ⟨h1, e1⟩ := take_row hd
    rw [e1] at hd; rw [shut_own h1] at hl
    exact hst.live b hb ⟨id, l, hd, hl, hlb⟩
  · intro b hb hnl
    simp only [Env.shut]
    rw [if_pos (.inr ⟨hb, hnl⟩)]
    exact hst.immN b hb hnl

theorem finish_rel {keep : Bool} {σ σ' : St} {n0 fuel : Nat} {mk : AV → Out} {v : AV} {out : Out} (h : finish keep σ n0 fuel mk v = some (out, σ')) {E0 E : Env} {g0 : Nat → Row} {w0 w : World} {cv : Value}
    (hst : Stp E0 g0 w0 E (getRow σ) w) (h0 : Fit E0 n0) (hfit : Fit E σ.length) (hbase : ∀ id, id < n0 → E.own id = E0.own id) (hr : RelV E v cv) :
    ∃ v' E', out = mk v' ∧ Stp E0 g0 w0 E' (getRow σ') w ∧ Fit E' σ'.length ∧ (∀ id, id < n0 → E'.own id = E0.own id) ∧ RelV E' v' cv := by
  have same : ∀ (h : some (mk v, σ) = some (out, σ')), ∃ v' E', out = mk v' ∧ Stp E0 g0 w0 E' (getRow σ') w ∧ Fit E' σ'.length ∧ (∀ id, id < n0 → E'.own id = E0.own id) ∧ RelV E' v' cv := by
    intro h
    simp only [Option.some.injEq, Prod.mk.injEq] at h
    obtain ⟨rfl, rfl⟩ := h
    exact ⟨v, E, rfl, hst, hfit, hbase, hr⟩
  unfold finish at h
  cases keep with
  | true => exact same h
  | false =>
    simp only [cond_false] at h
    cases hall : (σ.take n0).all (rowBelow n0) with
    | false => rw [hall] at h; exact same h
    | true =>
      rw [hall] at h
      simp only [cond_true] at h
      split at h
      · rename_i v' hv'
        simp only [Option.some.injEq, Prod.mk.injEq] at h
        obtain ⟨rfl, rfl⟩ := h
        refine ⟨v', Env.shut E0 g0 w0 E (getRow σ) w n0, rfl, shut_stp hst h0 hbase hall, ?_, fun id hid => by rw [shut_own hid]; exact hbase id hid, frz_rel hst hv' hr⟩
        intro id hid
        show (if id < n0 then E.own id else none) = none
        split
        · rename_i hlt
          exact hfit id (by rw [List.length_take] at hid; omega)
        · rfl
      · exact same h

def packA (rs : List AV) : AV := match rs with | [v] => v | vs => .tup vs
def packV (us : List Value) : Value := match us with | [u] => u | us => .tuple us.toArray

theorem results_run {P : Program} {fn : Func} {tmps : Array Value} {w : World} {us : List Value} (h : (fn.results.toList.mapM fun r => (match r with
      | .tmp t => pure (tmps.getD t undef)
      | .cell q t => do loadVar t (← asAddr (tmps.getD q undef)) : Sem Value)).run P w = .ok us w) :
    (results fn tmps).run P w = .ok (packV us) w := by
  unfold results
  rw [Array.mapM_eq_mapM_toList, Sem.run_bind, map_eq_pure_bind, Sem.run_bind]
  refine Eq.trans (congrArg (fun r => (Result.andThen r _).andThen _) h) ?_
  match us with
  | [] => rfl
  | [u] => rfl
  | _ :: _ :: _ => simp [packV]

theorem pack_rel {E : Env} {rs : List AV} {us : List Value} (h : RelL E rs us) : RelV E (packA rs) (packV us) := by
  have hl := h.len
  match rs, us, hl, h with
  | [], [], _, h => exact RelV.tup_mk h
  | [r], [u], _, h => exact h.tail.1
  | _ :: _ :: _, _ :: _ :: _, _, h => exact RelV.tup_mk h

/-- THE INTERPRETER IS SOUND. -/
theorem F_sound {C : Ctx} (hC : COK C) : ∀ (n : Nat), CallOK C (F C n)
  | 0, k, args, σ, out, σ', h => by simp [F] at h
  | n + 1, k, args, σ, out, σ', h => by
    simp only [F] at h
    obtain ⟨fi, hfi, h⟩ := opt_bind h
    obtain ⟨hlen, h⟩ := cond_some h
    have hlen := Nat.le_of_ble_eq_true hlen
    refine ⟨⟨fi, hfi⟩, fun E w vs hg hw hfit hvs => ?_⟩
    obtain ⟨fn, hfn, hbody, hnt, hres⟩ := hC.fn k fi hfi
    have hG : Good C fi.ntmps σ.length E (getRow σ) w (args.zipIdx.map fun p => (p.2, p.1)) σ { tmps := vs.toArray ++ Array.replicate (fi.ntmps - vs.toArray.size) undef, defers := [] } w :=
      ⟨E, .refl hw, hfit, hg, entry_ok hvs hlen, Nat.le_refl _, fun _ _ => rfl⟩
    refine calls_of_wp hfn hbody ?_
    rw [hnt]
    have back : ∀ (fr' : Fr) (σ1 : St) (a : Act) (w' : World) (e : Exit), (e = .normal ∨ e = .ret) → Good C fi.ntmps σ.length E (getRow σ) w fr' σ1 a w' →
        (do let vs ← fi.results.mapM (resA C fr' σ1)
            finish (keeps (C.mode k)) σ1 σ.length n .ret (packA vs)) = some (out, σ') →
        bodyPost C.P fn (fun e w' => ∃ E', Stp E (getRow σ) w E' (getRow σ') w' ∧ Fit E' σ'.length ∧ (∀ id, id < σ.length → E'.own id = E.own id) ∧ OutOK E' out e) e a w' := by
      intro fr' σ1 a w' e he hG h
      obtain ⟨E1, hE⟩ := hG
      obtain ⟨rs, hrs, h⟩ := opt_bind h
      obtain ⟨us, h1, h2⟩ := results_rel hC hE.stp.ok hE.glob hE.fr fi.results rs hrs
      rw [← hres] at h1
      have hrun := results_run h1
      have hrel := pack_rel h2
      obtain ⟨v', E', rfl, k1, k2, k3, k4⟩ := finish_rel h hE.stp hfit hE.fit hE.base hrel
      have : a.defers = [] ∧ ∃ v, (results fn a.tmps).run C.P w' = .ok v w' ∧ ∃ E'', Stp E (getRow σ) w E'' (getRow σ') w' ∧ Fit E'' σ'.length ∧ (∀ id, id < σ.length → E''.own id = E.own id) ∧ OutOK E'' (.ret v') (.returned v) :=
        ⟨hE.fr.defers, _, hrun, E', k1, k2, k3, k4⟩
      rcases he with rfl | rfl <;> exact this
    split at h
    · rename_i fr' σ1 hrun
      exact wp_mono (run_sound hC (F_sound hC n) hfit n _ _ _ _ _ _ hrun _ _ hG) fun e a w' hP => back fr' σ1 a w' e (.inl hP.1) hP.2 h
    · rename_i fr' σ1 hrun
      exact wp_mono (run_sound hC (F_sound hC n) hfit n _ _ _ _ _ _ hrun _ _ hG) fun e a w' hP => back fr' σ1 a w' e (.inr hP.1) hP.2 h
    · rename_i v fr' σ1 hrun
      refine wp_mono (run_sound hC (F_sound hC n) hfit n _ _ _ _ _ _ hrun _ _ hG) ?_
      rintro e a w' ⟨cv, E1, rfl, q1, q2, q3, q4, q5⟩
      obtain ⟨v', E', rfl, k1, k2, k3, k4⟩ := finish_rel h q1 hfit q2 q4 q5
      exact ⟨q3, E', k1, k2, k3, cv, rfl, k4⟩
    · cases h

end Go.Ai
