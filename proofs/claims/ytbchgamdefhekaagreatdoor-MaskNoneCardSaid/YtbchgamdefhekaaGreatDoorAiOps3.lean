/- Slices: elements in a row, append, make, literals. -/
import Derived.Test.YtbchgamdefhekaaGreatDoorAiOps2
namespace Go.Ai
open Go

section
variable {P : Program} {E : Env} {g : Nat → Row} {w : World}

/-- Elements one behind the other. -/
structure FlatRel (E : Env) (sz : Nat) (es : List (List AV)) (vs : List Value) : Prop where
  size : vs.length = es.length * sz
  len : ∀ (i : Nat) (e : List AV), es[i]? = some e → e.length = sz
  cell : ∀ (i j : Nat) (e : List AV) (x : AV), es[i]? = some e → e[j]? = some x → ∃ u, vs[i * sz + j]? = some u ∧ RelV E x u

theorem FlatRel.nil (E : Env) (sz : Nat) : FlatRel E sz [] [] := ⟨by simp, fun i e h => by simp at h, fun i j e x h => by simp at h⟩

theorem FlatRel.append {E : Env} {sz : Nat} {es ds : List (List AV)} {vs us : List Value} (h : FlatRel E sz es vs) (k : FlatRel E sz ds us) : FlatRel E sz (es ++ ds) (vs ++ us) := by
  refine ⟨by simp [h.size, k.size, Nat.add_mul], fun i e he => ?_, fun i j e x he hx => ?_⟩
  · rw [List.getElem?_append] at he
    split at he
    · exact h.len i e he
    · exact k.len _ e he
  · rw [List.getElem?_append] at he
    split at he
    · rename_i hi
      obtain ⟨u, hu, hr⟩ := h.cell i j e x he hx
      exact ⟨u, by rw [List.getElem?_append_left (List.getElem?_eq_some_iff.1 hu).1]; exact hu, hr⟩
    · rename_i hi
      obtain ⟨u, hu, hr⟩ := k.cell _ j e x he hx
      refine ⟨u, ?_, hr⟩
      have : i * sz = es.length * sz + (i - es.length) * sz := by rw [← Nat.add_mul]; congr 1; omega
      rw [List.getElem?_append_right (by rw [h.size]; omega), h.size, ← hu]
      congr 1; omega

theorem FlatRel.mono {E E' : Env} (le : E.le E') {sz : Nat} {es : List (List AV)} {vs : List Value} (h : FlatRel E sz es vs) : FlatRel E' sz es vs :=
  ⟨h.size, h.len, fun i j e x he hx => let ⟨u, hu, hr⟩ := h.cell i j e x he hx; ⟨u, hu, hr.mono le⟩⟩

/-- In a block of its own, with room behind it. -/
theorem FlatRel.cells {E : Env} {b sz : Nat} {es : List (List AV)} {vs rest : List Value} (h : FlatRel E sz es vs) : CellsRel E ⟨b, 0, sz, (vs ++ rest).toArray.size⟩ es (vs ++ rest).toArray := by
  refine ⟨rfl, by simp [h.size], h.len, fun i j e x he hx => ?_⟩
  obtain ⟨u, hu, hr⟩ := h.cell i j e x he hx
  refine ⟨u, ?_, hr⟩
  have hlt := (List.getElem?_eq_some_iff.1 hu).1
  simp only [Nat.zero_add, List.getElem?_toArray]
  rw [List.getElem?_append_left hlt]; exact hu

/-- A part of a block's elements. -/
theorem CellsRel.part {E : Env} {l : Loc} {es : List (List AV)} {arr : Array Value} (h : CellsRel E l es arr) (off len : Nat) (hl : off + len ≤ es.length) :
    FlatRel E l.sz ((es.drop off).take len) ((arr.toList.drop (l.base + off * l.sz)).take (len * l.sz)) := by
  have hm : (off + len) * l.sz ≤ es.length * l.sz := Nat.mul_le_mul_right _ hl
  rw [Nat.add_mul] at hm
  have h1 := h.fit
  have h2 := h.size
  refine ⟨?_, fun i e he => ?_, fun i j e x he hx => ?_⟩
  · simp only [List.length_take, List.length_drop, Array.length_toList]
    rw [Nat.min_eq_left (by omega), Nat.min_eq_left (by omega)]
  · rw [List.getElem?_take] at he
    split at he
    · rw [List.getElem?_drop] at he; exact h.len _ e he
    · cases he
  · rw [List.getElem?_take] at he
    by_cases hi : i < len
    · simp only [hi, if_true] at he
      rw [List.getElem?_drop] at he
      obtain ⟨u, hu, hr⟩ := h.cell _ j e x he hx
      have hel := h.len _ e he
      have hj : j < e.length := (List.getElem?_eq_some_iff.1 hx).1
      have hsp : (i + 1) * l.sz ≤ len * l.sz := Nat.mul_le_mul_right _ hi
      rw [Nat.succ_mul] at hsp
      refine ⟨u, ?_, hr⟩
      rw [List.getElem?_take, if_pos (by omega), List.getElem?_drop, Array.getElem?_toList, ← hu]
      congr 1; rw [Nat.add_mul]; omega
    · simp [hi] at he

theorem block_load {b o n : Nat} {arr : Array Value} {t : TypeId} {fz : Nat × Nat} (hh : w.heap[b]? = some (.cells arr t fz)) (hl : o + n ≤ arr.size) :
    (loadCells ⟨b, o, none⟩ n).run P w = .ok ((arr.toList.drop o).take n).toArray w := by
  have hlen : ((arr.toList.drop o).take n).length = n := by simp; omega
  have := run_loadCells_list (P := P) w ⟨b, o, none⟩ ((arr.toList.drop o).take n) (fun j v hv => by
    rw [add_none, cell_of_heap hh]
    rw [List.getElem?_take] at hv
    split at hv
    · rw [List.getElem?_drop, Array.getElem?_toList] at hv; exact hv
    · cases hv)
  rwa [hlen] at this

/-- What the elements of a slice are in the world. -/
theorem elems_rel (hw : WOK E g w) {x : AV} {cx : Value} (hx : RelV E x cx) {es : List (List AV)} {sz : Nat} (h : elems g x = some es) (hne : es ≠ []) (hs : ∀ e ∈ es, e.length = sz) :
    (Builtin.lenOf cx).run P w = .ok es.length w ∧ ∃ vs : List Value, (∀ w2 : World, w2.heap = w.heap → (Builtin.firstCells sz es.length cx).run P w2 = .ok vs.toArray w2) ∧ FlatRel E sz es vs := by
  cases x with
  | i y =>
    cases hx with
    | i hy =>
    cases hy with
    | lit =>
      cases cx <;> simp only [elems] at h <;> try (cases h; done)
      · rename_i s
        injection h with h; subst h
        have hsz : sz = 1 := by
          cases hl : s.data.toList with
          | nil => simp [hl] at hne
          | cons a r => exact (hs [.i (.lit (.int .u8 a.toNat))] (by simp [hl])).symm
        subst hsz
        refine ⟨by simp [Builtin.lenOf], (s.data.toList.map fun b => .int .u8 b.toNat), fun w2 _ => ?_, ⟨by simp, fun i e he => ?_, fun i j e x he hx => ?_⟩⟩
        · have he : s.extract 0 s.size = s := by simp
          simp only [Builtin.firstCells, List.length_map, Array.length_toList]
          rw [show s.data.size = s.size from rfl, he]
          simp only [Sem.run_pure]
          congr 1
          apply Array.ext'
          simp
        · simp only [List.getElem?_map, Option.map_eq_some_iff] at he
          obtain ⟨b, _, rfl⟩ := he; rfl
        · simp only [List.getElem?_map, Option.map_eq_some_iff] at he
          obtain ⟨b, hb, rfl⟩ := he
          cases j with
          | zero => simp at hx; subst hx; exact ⟨.int .u8 b.toNat, by simp only [Nat.mul_one, Nat.add_zero, List.getElem?_map, hb]; rfl, .lit_mk E _⟩
          | succ j => simp at hx
      · rename_i a len cap
        cases a with
        | none => cases len with
          | zero => cases cap with
            | zero => simp at h; exact absurd h.symm (by simpa using hne)
            | succ => simp at h
          | succ => simp at h
        | some a => simp at h
    | nil a cap hn => simp [elems] at h; exact absurd h.symm (by simpa using hne)
    | sl us hne' hb hsz hsl hc hr hcap =>
      rename_i xs b off cap sz' arr t fz
      simp only [elems, Option.some.injEq] at h
      subst h
      have hszz : sz = sz' := by
        match hq : xs with
        | [] => exact absurd rfl hne'
        | e :: r =>
          have h1 := hs (e.map .i) (by simp)
          have h2 := hsl 0 e (by simp)
          simp at h1; omega
      subst hszz
      have hh := hw.imm _ _ hb
      have hfit : off + xs.length * sz ≤ arr.size := by
        have hl : 0 < xs.length := List.length_pos_iff.2 hne'
        have hlast : xs[xs.length - 1]? = some (xs[xs.length - 1]'(by omega)) := List.getElem?_eq_getElem _
        have hel := hsl _ _ hlast
        have hcell := hc (xs.length - 1) (sz - 1) _ _ hlast (List.getElem?_eq_getElem (by omega))
        have hlt := (Array.getElem?_eq_some_iff.1 hcell).1
        have : (xs.length - 1 + 1) * sz = (xs.length - 1) * sz + sz := Nat.succ_mul _ _
        rw [Nat.sub_add_cancel hl] at this
        omega
      refine ⟨by simp [Builtin.lenOf], (arr.toList.drop off).take (xs.length * sz), fun w2 hw2 => ?_, ⟨?_, fun i e he => ?_, fun i j e x he hx => ?_⟩⟩
      · simp only [Builtin.firstCells, List.length_map]
        exact block_load (by rw [hw2]; exact hh) hfit
      · simp only [List.length_take, List.length_drop, Array.length_toList, List.length_map]; omega
      · simp only [List.getElem?_map, Option.map_eq_some_iff] at he
        obtain ⟨e', he', rfl⟩ := he
        simpa using hsl i e' he'
      · simp only [List.getElem?_map, Option.map_eq_some_iff] at he
        obtain ⟨e', he', rfl⟩ := he
        obtain ⟨y, hy, rfl⟩ := iv_cells hx
        have hi : i < xs.length := (List.getElem?_eq_some_iff.1 he').1
        have hj : j < e'.length := (List.getElem?_eq_some_iff.1 hy).1
        have hel := hsl i e' he'
        have hsp : (i + 1) * sz ≤ xs.length * sz := Nat.mul_le_mul_right _ hi
        rw [Nat.succ_mul] at hsp
        refine ⟨us i j, ?_, .i (hr i j e' y he' hy)⟩
        rw [List.getElem?_take, if_pos (by omega), List.getElem?_drop, Array.getElem?_toList, ← hc i j e' y he' hy]
        congr 1; omega
  | rs id off len cmin =>
    simp only [elems] at h
    cases hgr : g id with
    | dead => rw [hgr] at h; simp at h
    | map ms => rw [hgr] at h; simp at h
    | cells sz' rs =>
      rw [hgr] at h
      simp only at h
      cases hble : Nat.ble (off + len) rs.length with
      | false => rw [hble] at h; simp at h
      | true =>
      rw [hble] at h
      simp only [cond_true, Option.some.injEq] at h
      have hol := Nat.le_of_ble_eq_true hble
      cases hx with
      | rs ho ha hn hl hc =>
        rename_i cap l a
        obtain ⟨l', hl', hrow, _⟩ := hw.rows id (by rw [hgr]; simp)
        rw [ho] at hl'; injection hl' with hl'; subst hl'
        rw [hgr] at hrow
        obtain ⟨hsz, hpos, arr, t, hh, hcr⟩ := hrow
        subst hsz
        subst h
        have hne2 : 0 < ((rs.drop off).take len).length := List.length_pos_iff.2 hne
        have hszz : sz = l.sz := by
          have hmem : ((rs.drop off).take len)[0] ∈ (rs.drop off).take len := List.getElem_mem hne2
          have h1 := hs _ hmem
          have h2 : rs[off]? = some ((rs.drop off).take len)[0] := by
            have : ((rs.drop off).take len)[0]? = some ((rs.drop off).take len)[0] := List.getElem?_eq_getElem hne2
            rw [List.getElem?_take] at this
            split at this
            · rw [List.getElem?_drop] at this; exact this
            · cases this
          have h3 := hcr.len _ _ h2
          omega
        subst hszz
        have hlen : ((rs.drop off).take len).length = len := by simp; omega
        have hlp : 0 < len := by omega
        have ha' := ha (by omega)
        subst ha'
        have hm : (off + len) * l.sz ≤ (off + cap) * l.sz := Nat.mul_le_mul_right _ (by omega)
        rw [Nat.add_mul] at hm
        have hsize := hcr.size
        rw [hlen]
        refine ⟨by simp [Builtin.lenOf], (arr.toList.drop (l.base + off * l.sz)).take (len * l.sz), fun w2 hw2 => ?_, ?_⟩
        · simp only [Builtin.firstCells]
          exact block_load (by rw [hw2]; exact hh) (by omega)
        · exact hcr.part off len hol
  | e0 => simp [elems] at h; exact absurd h.symm (by simpa using hne)
  | nn => simp [elems] at h; exact absurd h.symm (by simpa using hne)
  | _ => simp [elems] at h

end
end Go.Ai
