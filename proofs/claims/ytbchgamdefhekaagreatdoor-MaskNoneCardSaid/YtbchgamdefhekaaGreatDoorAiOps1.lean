/- Operations, first part. -/
import Derived.Test.YtbchgamdefhekaaGreatDoorAiStp
namespace Go.Ai
open Go

def Yld (P : Program) (E : Env) (g : Nat → Row) (w : World) (s : Sem Next) (v : AV) (u : List (Nat × Row)) (ids : List Nat) : Prop :=
  ∃ cv w' E', (s.run P w = .ok (.value cv) w' ∨ (s.run P w = .ok .skip w' ∧ cv = undef)) ∧ Stp E g w E' (upd g u) w' ∧ RelV E' v cv ∧ OwnExt E E' ids

section
variable {P : Program} {E : Env} {g : Nat → Row} {w : World}

theorem Yld.of_same (hw : WOK E g w) {s : Sem Next} {v : AV} {cv : Value} (hs : s.run P w = .ok (.value cv) w) (hv : RelV E v cv) {ids : List Nat} : Yld P E g w s v [] ids :=
  ⟨cv, w, E, .inl hs, by rw [upd_nil]; exact .refl hw, hv, .refl E _⟩

theorem run_v {s : Sem Value} {cv : Value} {w' : World} (h : s.run P w = .ok cv w') : ((do pure (Next.value (← s))) : Sem Next).run P w = .ok (.value cv) w' := by
  simp [h]
theorem run_u {s : Sem Unit} {w' : World} (h : s.run P w = .ok () w') : ((do s; pure Next.skip) : Sem Next).run P w = .ok .skip w' := by
  simp [h]

theorem gather {E : Env} : ∀ (c : List AV) (f : Nat → Option Value), (∀ (j : Nat) (x : AV), c[j]? = some x → ∃ u, f j = some u ∧ RelV E x u) →
    ∃ vs : List Value, RelL E c vs ∧ ∀ (j : Nat) (v : Value), vs[j]? = some v → f j = some v
  | [], _, _ => ⟨[], .nil E, fun j v h => by simp at h⟩
  | x :: c, f, h => by
    obtain ⟨u, hu, hr⟩ := h 0 x (by simp)
    obtain ⟨vs, h1, h2⟩ := gather c (fun j => f (j + 1)) (fun j y hy => h (j + 1) y (by simpa using hy))
    exact ⟨u :: vs, .cons hr h1, fun j v hv => by
      cases j with
      | zero => simp at hv; subst hv; exact hu
      | succ j => exact h2 j v (by simpa using hv)⟩

/-- A variable is read out of cells that are known. -/
theorem load_rel {t : Nat} {i : TI} (hi : TyOK P t i) {e : List AV} {b o off : Nat} {v : AV}
    (hc : ∀ (j : Nat) (x : AV), e[j]? = some x → ∃ u, w.cell? ⟨b, o + j, none⟩ = some u ∧ RelV E x u) (h : readCells i.agg i.size off e = some v) :
    ∃ cv, (loadVar t ⟨b, o + off, none⟩).run P w = .ok cv w ∧ RelV E v cv := by
  unfold readCells at h
  unfold loadVar
  simp only [Sem.run_bind, hi.run_agg, Result.andThen_ok]
  cases ha : i.agg with
  | true =>
    rw [ha] at h
    simp only [cond_true] at h
    cases hl : Nat.ble (off + i.size) e.length with
    | false => rw [hl] at h; simp at h
    | true =>
      rw [hl] at h; simp at h; subst h
      have hle := Nat.le_of_ble_eq_true hl
      obtain ⟨vs, hvs, hcell⟩ := gather (E := E) ((e.drop off).take i.size) (fun j => w.cell? ⟨b, o + off + j, none⟩) (fun j x hx => by
        rw [List.getElem?_take] at hx
        split at hx
        · rw [List.getElem?_drop] at hx
          obtain ⟨u, hu, hr⟩ := hc _ x hx
          exact ⟨u, by rw [← hu, Nat.add_assoc], hr⟩
        · cases hx)
      have hlen : vs.length = i.size := by rw [hvs.len]; simp; omega
      have hrun := run_loadCells_list (P := P) w ⟨b, o + off, none⟩ vs (fun j v hv => by rw [add_none]; exact hcell j v hv)
      rw [hlen] at hrun
      exact ⟨.agg vs.toArray, by simp [run_size hi.sz, hrun], RelV.agg_mk hvs⟩
  | false =>
    rw [ha] at h
    simp only [cond_false] at h
    obtain ⟨u, hu, hr⟩ := hc off v h
    exact ⟨u, by simp [hu], hr⟩

theorem iv_cells {c : List IV} {j : Nat} {x : AV} (h : (c.map AV.i)[j]? = some x) : ∃ y, c[j]? = some y ∧ x = .i y := by
  simp only [List.getElem?_map, Option.map_eq_some_iff] at h
  obtain ⟨y, a, b⟩ := h; exact ⟨y, a, b.symm⟩

theorem ipt_cells (hw : WOK E g w) {c : List IV} {off : Nat} {v : Value} (h : RelV E (.ipt c off) v) :
    ∃ b o, v = .pointer (some ⟨b, o + off, none⟩) ∧ ∀ (j : Nat) (x : AV), (c.map AV.i)[j]? = some x → ∃ u, w.cell? ⟨b, o + j, none⟩ = some u ∧ RelV E x u := by
  cases h with
  | ipt us hb hc hr =>
    rename_i b o arr t fz
    refine ⟨b, o, rfl, fun j x hx => ?_⟩
    obtain ⟨y, hy, rfl⟩ := iv_cells hx
    exact ⟨us j, by rw [cell_of_heap (hw.imm _ _ hb)]; exact hc j y hy, .i (hr j y hy)⟩

/-- The cells of a live row's element. -/
theorem row_cells (hw : WOK E g w) {id ei off sz : Nat} {es : List (List AV)} {e : List AV} {v : Value} (hg : g id = .cells sz es) (he : es[ei]? = some e) (h : RelV E (.ptr id ei off) v) :
    ∃ b o, v = .pointer (some ⟨b, o + off, none⟩) ∧ ∀ (j : Nat) (x : AV), e[j]? = some x → ∃ u, w.cell? ⟨b, o + j, none⟩ = some u ∧ RelV E x u := by
  cases h with
  | ptr ho =>
    rename_i l
    obtain ⟨l', hl, hr, _⟩ := hw.rows id (by rw [hg]; simp)
    rw [ho] at hl; injection hl with hl; subst hl
    rw [hg] at hr
    obtain ⟨_, _, arr, t, hh, hc⟩ := hr
    refine ⟨l.b, l.base + ei * l.sz, rfl, fun j x hx => ?_⟩
    obtain ⟨u, hu, hru⟩ := hc.cell ei j e x he hx
    exact ⟨u, by rw [cell_of_heap hh]; exact hu, hru⟩

theorem y_load {t : Nat} {i : TI} (hi : TyOK P t i) (hw : WOK E g w) {a : AV} {ca : Value} (ha : RelV E a ca) {v : AV}
    (h : (∃ id ei off sz es e, a = .ptr id ei off ∧ g id = .cells sz es ∧ es[ei]? = some e ∧ readCells i.agg i.size off e = some v) ∨
      (∃ c off, a = .ipt c off ∧ readCells i.agg i.size off (c.map AV.i) = some v)) :
    ∃ cv, (Instr.loadAt t ca).run P w = .ok cv w ∧ RelV E v cv := by
  rcases h with ⟨id, ei, off, sz, es, e, rfl, hg, he, hr⟩ | ⟨c, off, rfl, hr⟩
  · obtain ⟨b, o, rfl, hc⟩ := row_cells hw hg he ha
    obtain ⟨cv, h1, h2⟩ := load_rel hi hc hr
    exact ⟨cv, by simp [Instr.loadAt, Instr.sureAddr, h1], h2⟩
  · obtain ⟨b, o, rfl, hc⟩ := ipt_cells hw ha
    obtain ⟨cv, h1, h2⟩ := load_rel hi hc hr
    exact ⟨cv, by simp [Instr.loadAt, Instr.sureAddr, h1], h2⟩

theorem over_get {α : Type} {e vs : List α} {off j : Nat} (h : off + vs.length ≤ e.length) :
    (over e off vs)[j]? = if j < off then e[j]? else if j < off + vs.length then vs[j - off]? else e[j]? := by
  unfold over
  have h1 : min off e.length = off := by omega
  by_cases a : j < off
  · simp [a, List.getElem?_append, h1]
  · by_cases b : j < off + vs.length
    · simp only [a, b, if_true, if_false]
      rw [List.append_assoc, List.getElem?_append_right (by simp; omega), List.getElem?_append_left (by simp; omega)]
      simp [h1]
    · simp only [a, b, if_false]
      rw [List.getElem?_append_right (by simp; omega)]
      simp only [List.length_append, List.length_take, h1, List.getElem?_drop]
      congr 1; omega

theorem over_len {α : Type} {e vs : List α} {off : Nat} (h : off + vs.length ≤ e.length) : (over e off vs).length = e.length := by
  unfold over; simp; omega

/-- Cells of a row laid anew: an element's cells from off on. -/
theorem cells_over {E : Env} {l : Loc} {es : List (List AV)} {arr : Array Value} (h : CellsRel E l es arr) {ei off : Nat} {e : List AV} {xs : List AV} {vs : List Value}
    (he : es[ei]? = some e) (hfit : off + xs.length ≤ e.length) (hr : RelL E xs vs) :
    CellsRel E l (es.set ei (over e off xs)) (arr.toList.take (l.base + ei * l.sz + off) ++ vs ++ arr.toList.drop (l.base + ei * l.sz + off + vs.length)).toArray := by
  have hlt : ei < es.length := (List.getElem?_eq_some_iff.1 he).1
  have hel := h.len ei e he
  have hvl := hr.len
  have hspan : ei * l.sz + l.sz ≤ es.length * l.sz := by
    have : (ei + 1) * l.sz ≤ es.length * l.sz := Nat.mul_le_mul_right _ hlt
    rwa [Nat.succ_mul] at this
  have hfit2 := h.fit
  have hsize := h.size
  have hin : l.base + ei * l.sz + off + vs.length ≤ arr.toList.length := by simp; omega
  have hov : ∀ j, (arr.toList.take (l.base + ei * l.sz + off) ++ vs ++ arr.toList.drop (l.base + ei * l.sz + off + vs.length)).toArray[j]? =
      if j < l.base + ei * l.sz + off then arr[j]? else if j < l.base + ei * l.sz + off + vs.length then vs[j - (l.base + ei * l.sz + off)]? else arr[j]? := fun j => by
    have := over_get (e := arr.toList) (vs := vs) (off := l.base + ei * l.sz + off) (j := j) hin
    unfold over at this
    simpa using this
  refine ⟨?_, by simpa using h.fit, ?_, ?_⟩
  · simp only [List.size_toArray, List.length_append, List.length_take, List.length_drop]; simp at hin ⊢; omega
  · intro i e' he'
    rw [List.getElem?_set] at he'
    by_cases hij : ei = i
    · subst hij
      simp only [if_true, hlt] at he'
      injection he' with he'; subst he'; rw [over_len (by omega)]; exact hel
    · simp only [hij, if_false] at he'
      exact h.len i e' he'
  · intro i j e' x he' hx
    rw [List.getElem?_set] at he'
    by_cases hij : ei = i
    · subst hij
      simp only [if_true, hlt] at he'
      injection he' with he'; subst he'
      rw [over_get hfit] at hx
      by_cases h1 : j < off
      · simp only [h1, if_true] at hx
        obtain ⟨u, hu, hru⟩ := h.cell ei j e x he hx
        exact ⟨u, by rw [hov, if_pos (by omega)]; exact hu, hru⟩
      · by_cases h2 : j < off + xs.length
        · simp only [h1, h2, if_true, if_false] at hx
          obtain ⟨u, hu, hru⟩ := hr.get hx
          refine ⟨u, ?_, hru⟩
          rw [hov, if_neg (by omega), if_pos (by omega), ← hu]
          congr 1; omega
        · simp only [h1, h2, if_false] at hx
          obtain ⟨u, hu, hru⟩ := h.cell ei j e x he hx
          exact ⟨u, by rw [hov, if_neg (by omega), if_neg (by omega)]; exact hu, hru⟩
    · simp only [hij, if_false] at he'
      obtain ⟨u, hu, hru⟩ := h.cell i j e' x he' hx
      have hj : j < e'.length := (List.getElem?_eq_some_iff.1 hx).1
      have hl' := h.len i e' he'
      refine ⟨u, ?_, hru⟩
      rw [hov]
      rcases Nat.lt_or_gt_of_ne hij with hlt' | hgt
      · have : (ei + 1) * l.sz ≤ i * l.sz := Nat.mul_le_mul_right _ hlt'
        rw [Nat.succ_mul] at this
        rw [if_neg (by omega), if_neg (by omega)]; exact hu
      · have : (i + 1) * l.sz ≤ ei * l.sz := Nat.mul_le_mul_right _ hgt
        rw [Nat.succ_mul] at this
        rw [if_pos (by omega)]; exact hu

theorem y_store {t : Nat} {i : TI} (hi : TyOK P t i) (hw : WOK E g w) {id ei off sz : Nat} {x : AV} {ca cx : Value} (ha : RelV E (.ptr id ei off) ca) (hx : RelV E x cx)
    {vs : List AV} (hvs : cellsOf x = some vs) {es : List (List AV)} {e : List AV} (hg : g id = .cells sz es) (he : es[ei]? = some e) (hl : vs.length = i.size) (hfit : off + i.size ≤ e.length) :
    ∃ w', (Instr.storeAt t ca cx).run P w = .ok () w' ∧ Stp E g w E (upd g [(id, .cells sz (es.set ei (over e off vs)))]) w' := by
  obtain ⟨hrl, hone, _⟩ := cellsOf_rel hvs hx
  cases ha with
  | ptr ho =>
    rename_i l
    obtain ⟨l', hl', hr, himm⟩ := hw.rows id (by rw [hg]; simp)
    rw [ho] at hl'; injection hl' with hl'; subst hl'
    rw [hg] at hr
    obtain ⟨hsz, hpos, arr, ty, hh, hc⟩ := hr
    have hlt : ei < es.length := (List.getElem?_eq_some_iff.1 he).1
    have hel := hc.len ei e he
    have hspan : (ei + 1) * l.sz ≤ es.length * l.sz := Nat.mul_le_mul_right _ hlt
    rw [Nat.succ_mul] at hspan
    have hfit2 := hc.fit
    have hsize := hc.size
    have hcl : cx.cells.toList.length = i.size := by rw [hrl.len, hl]
    have hrun := run_storeCells_at P l.b (l.base + ei * l.sz + off) ty cx.cells.toList 0 arr w hh (by rw [hcl]; omega) hone
    refine ⟨w.setRow l.b (arr.toList.take (l.base + ei * l.sz + off) ++ cx.cells.toList ++ arr.toList.drop (l.base + ei * l.sz + off + cx.cells.toList.length)).toArray, ?_,
      stp_set hw (by rw [hg]; simp) ho setRow_size (fun b hb => setRow_other hb) rfl rfl rfl ⟨hsz, hpos, _, ty, setRow_heap w l.b arr _ ty (0, 0) hh, ?_⟩⟩
    · simp only [Instr.storeAt, Instr.sureAddr, storeVar, Sem.run_bind, Sem.run_pure, Result.andThen_ok, run_size hi.sz]
      have : cx.cells.size = i.size := by simpa using hcl
      simp only [this, ne_eq, not_true_eq_false, if_false]
      simpa using hrun
    · have := cells_over hc he (xs := vs) (vs := cx.cells.toList) (off := off) (by omega) hrl
      simpa using this

end

end Go.Ai
