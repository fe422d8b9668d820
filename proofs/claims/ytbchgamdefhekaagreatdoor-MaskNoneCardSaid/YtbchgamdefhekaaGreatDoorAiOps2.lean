/- Operations that lay rows. -/
import Derived.Test.YtbchgamdefhekaaGreatDoorAiOps1
namespace Go.Ai
open Go

section
variable {P : Program} {E : Env} {g : Nat → Row} {w : World}

theorem rowNew {E : Env} {w w' : World} {id sz : Nat} {es : List (List AV)} {arr : Array Value} {t : TypeId} (hn : E.own id = none) (hsz : 0 < sz) (hh : w'.heap = w.heap.push (.cells arr t))
    (hc : CellsRel E ⟨w.heap.size, 0, sz, arr.size⟩ es arr) : RowOK (E.put id ⟨w.heap.size, 0, sz, arr.size⟩) w' ⟨w.heap.size, 0, sz, arr.size⟩ (.cells sz es) :=
  ⟨rfl, hsz, arr, t, by rw [hh]; simp, ⟨hc.size, hc.fit, hc.len, fun i j e x he hx => let ⟨u, hu, hr⟩ := hc.cell i j e x he hx; ⟨u, hu, hr.mono (Env.put_le hn)⟩⟩⟩

/-- A row of one element. -/
theorem cells_single {E : Env} {b n : Nat} {cs : List AV} {vs : List Value} (h : RelL E cs vs) (hn : n = vs.toArray.size) : CellsRel E ⟨b, 0, cs.length, n⟩ [cs] vs.toArray := by
  subst hn
  refine ⟨rfl, by simp [h.len], fun i e he => ?_, fun i j e x he hx => ?_⟩
  · cases i with
    | zero => simp at he; subst he; rfl
    | succ i => simp at he
  · cases i with
    | zero =>
      simp at he; subst he
      obtain ⟨u, hu, hr⟩ := h.get hx
      exact ⟨u, by simpa using hu, hr⟩
    | succ i => simp at he

theorem y_newVar (hw : WOK E g w) {t id : Nat} {cs : List AV} {v : Value} (hn : E.own id = none) (hr : RelL E cs v.cells.toList) (hpos : 0 < cs.length) :
    ∃ w' l, (newVar t v).run P w = .ok ⟨w.heap.size, 0, none⟩ w' ∧ Stp E g w (E.put id l) (upd g [(id, .cells cs.length [cs])]) w' ∧ l.b = w.heap.size ∧ l.base = 0 := by
  refine ⟨{ w with heap := w.heap.push (.cells v.cells t) }, ⟨w.heap.size, 0, cs.length, v.cells.size⟩, by simp [newVar, newRow], ?_, rfl, rfl⟩
  refine stp_new hw hn rfl rfl rfl rfl rfl (rowNew hn hpos rfl ?_)
  have := cells_single (b := w.heap.size) (n := v.cells.size) hr (by simp)
  simpa using this

theorem y_alloc {t : Nat} {i : TI} (hi : TyOK P t i) (hw : WOK E g w) {id : Nat} (hn : E.own id = none) (hpos : 0 < i.zero.length) (old : Value) :
    Yld P E g w (do pure (Next.value (← Instr.alloc t true old))) (.ptr id 0 0) [(id, .cells i.zero.length [i.zero.map fun c => .i (.lit c)])]  [id] := by
  have hz := hi.zcells
  obtain ⟨w', l, h1, h2, h3, h4⟩ := y_newVar (P := P) (t := t) (v := zv i) hw hn (by rw [hz]; exact lits_rel E i.zero) (by simpa using hpos)
  refine ⟨.pointer (some ⟨w.heap.size, 0, none⟩), w', E.put id l, .inl (run_v ?_), by simpa using h2, ?_, Env.put_ext (by simp)⟩
  · simp [Instr.alloc, hi.run_zero, h1]
  · have := RelV.ptr (E := E.put id l) (id := id) (ei := 0) (off := 0) (l := l) Env.put_own
    simpa [h3, h4] using this

theorem y_box (hw : WOK E g w) {t id : Nat} (hn : E.own id = none) {x : AV} {cx : Value} (hx : RelV E x cx) {cs : List AV} (hcs : cellsOf x = some cs) (hpos : 0 < cs.length) :
    Yld P E g w (do pure (Next.value (← Instr.box t cx))) (.ptr id 0 0) [(id, .cells cs.length [cs])]  [id] := by
  obtain ⟨hrl, _, _⟩ := cellsOf_rel hcs hx
  obtain ⟨w', l, h1, h2, h3, h4⟩ := y_newVar (P := P) (t := t) hw hn hrl hpos
  refine ⟨.pointer (some ⟨w.heap.size, 0, none⟩), w', E.put id l, .inl (run_v ?_), h2, ?_, Env.put_ext (by simp)⟩
  · simp [Instr.box, h1]
  · have := RelV.ptr (E := E.put id l) (id := id) (ei := 0) (off := 0) (l := l) Env.put_own
    simpa [h3, h4] using this

theorem set_over {vs : List Value} {arr : List Value} {v : Value} {k : Nat} (h : k + (vs.length + 1) ≤ arr.length) : over (arr.set k v) (k + 1) vs = over arr k (v :: vs) := by
  have hr : ((arr.set k v).take (k + 1) ++ vs ++ (arr.set k v).drop (k + 1 + vs.length)) = arr.take k ++ (v :: vs) ++ arr.drop (k + (vs.length + 1)) := list_seg_step arr k v vs h
  simpa [over] using hr

theorem fold_over (off : Nat) : ∀ (vs : List Value) (k : Nat) (arr : Array Value), off + k + vs.length ≤ arr.size →
    ((vs.zipIdx k).foldl (fun (cs : Array Value) p => cs.setIfInBounds (off + p.2) p.1) arr).toList = over arr.toList (off + k) vs
  | [], k, arr, h => by simp [over]
  | v :: vs, k, arr, h => by
    simp only [List.length_cons] at h
    rw [List.zipIdx_cons, List.foldl_cons, fold_over off vs (k + 1) _ (by simp; omega)]
    simp only [Array.toList_setIfInBounds]
    rw [show off + (k + 1) = off + k + 1 by omega]
    exact set_over (by simp; omega)

theorem RelL.over {E : Env} {xs ys : List AV} {us vs : List Value} (h : RelL E xs us) (k : RelL E ys vs) (off : Nat) : RelL E (Ai.over xs off ys) (Ai.over us off vs) := by
  unfold Ai.over
  rw [k.len]
  exact ((h.take off).append k).append (h.drop _)

theorem fill_rel (places : Nat → Option (Nat × Nat)) (ρc : Operand → Value) (ρ : Operand → AV) : ∀ (ps : List (Nat × Operand)), (∀ p ∈ ps, RelV E (ρ p.2) (ρc p.2)) → ∀ (cells cs : List AV) (arr : Array Value),
    fillA places cells (ps.map fun p => (p.1, ρ p.2)) = some cs → RelL E cells arr.toList →
    ∃ arr', Instr.fill places arr (ps.map fun p => (p.1, ρc p.2)) = some arr' ∧ RelL E cs arr'.toList
  | [], _, cells, cs, arr, h, hr => by simp [fillA] at h; subst h; exact ⟨arr, rfl, hr⟩
  | p :: ps, hp, cells, cs, arr, h, hr => by
    simp only [List.map_cons, fillA] at h
    cases hpl : places p.1 with
    | none => rw [hpl] at h; simp at h
    | some q =>
      obtain ⟨off, size⟩ := q
      cases hc : cellsOf (ρ p.2) with
      | none => rw [hpl, hc] at h; simp at h
      | some xs =>
        rw [hpl, hc] at h
        simp only at h
        cases hb : (xs.length == size && Nat.ble (off + size) cells.length) with
        | false => rw [hb] at h; simp at h
        | true =>
          rw [hb] at h
          simp only [cond_true] at h
          simp only [Bool.and_eq_true, beq_iff_eq] at hb
          have hle := Nat.le_of_ble_eq_true hb.2
          obtain ⟨hrl, _, _⟩ := cellsOf_rel hc (hp p (by simp))
          have hlen : (ρc p.2).cells.size = size := by have := hrl.len; simp at this; omega
          have hal : arr.size = cells.length := by have := hr.len; simpa using this
          have hfo := fold_over off (ρc p.2).cells.toList 0 arr (by simp; omega)
          simp only [Nat.add_zero] at hfo
          have hfold : ((ρc p.2).cells.zipIdx.foldl (fun cs (c, j) => cs.setIfInBounds (off + j) c) arr).toList = over arr.toList off (ρc p.2).cells.toList := by
            rw [← Array.foldl_toList, Array.toList_zipIdx]; exact hfo
          obtain ⟨arr', h1, h2⟩ := fill_rel places ρc ρ ps (fun q hq => hp q (by simp [hq])) (over cells off xs) cs _ h (by rw [hfold]; exact hr.over hrl off)
          refine ⟨arr', ?_, h2⟩
          simp only [List.map_cons, Instr.fill, hpl]
          rw [if_neg (by simp; omega)]
          exact h1

theorem mod_cell (z : Array Value) (n k : Nat) (hk : k < n) : ((Array.range n).map (z[· % z.size]!))[k]? = some (z[k % z.size]!) := by
  simp [hk]

/-- Cells of zero values. -/
theorem cells_zero {E : Env} {b len cap : Nat} {zs : List Value} (hle : len ≤ cap) :
    CellsRel E ⟨b, 0, zs.length, ((Array.range (cap * zs.length)).map (zs.toArray[· % zs.toArray.size]!)).size⟩ (List.replicate len (zs.map fun c => AV.i (.lit c))) ((Array.range (cap * zs.length)).map (zs.toArray[· % zs.toArray.size]!)) := by
  have hm : len * zs.length ≤ cap * zs.length := Nat.mul_le_mul_right _ hle
  refine ⟨rfl, by simp; exact hm, fun i e he => ?_, fun i j e x he hx => ?_⟩
  · rw [List.getElem?_replicate] at he
    split at he
    · injection he with he; subst he; simp
    · cases he
  · rw [List.getElem?_replicate] at he
    by_cases hi : i < len
    · simp only [hi, if_true] at he
      injection he with he; subst he
      simp only [List.getElem?_map, Option.map_eq_some_iff] at hx
      obtain ⟨c, hc, rfl⟩ := hx
      have hj : j < zs.length := (List.getElem?_eq_some_iff.1 hc).1
      have hsp : (i + 1) * zs.length ≤ cap * zs.length := Nat.mul_le_mul_right _ (by omega)
      rw [Nat.succ_mul] at hsp
      refine ⟨c, ?_, .lit_mk E c⟩
      rw [mod_cell _ _ _ (by simp; omega)]
      have hmod : (0 + i * zs.length + j) % zs.toArray.size = j := by
        simp only [List.size_toArray, Nat.zero_add]
        rw [Nat.add_comm, Nat.mul_comm, Nat.add_mul_mod_self_left, Nat.mod_eq_of_lt hj]
      rw [hmod]
      have := (List.getElem?_eq_some_iff.1 hc).2
      simp [hj, this]
    · simp [hi] at he

end
end Go.Ai
