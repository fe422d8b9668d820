/- append. -/
import Derived.Test.YtbchgamdefhekaaGreatDoorAiOps3
namespace Go.Ai
open Go

section
variable {P : Program} {E : Env} {g : Nat → Row} {w : World}

theorem growBy_le (n : Nat) : ∀ (r c : Nat), c ≤ 2 * n + 192 → Builtin.growBy n r c ≤ 2 * n + 192
  | 0, c, h => h
  | r + 1, c, h => by
    simp only [Builtin.growBy]
    split
    · exact h
    · exact growBy_le n r _ (by omega)

theorem nextslicecap_le (n c : Nat) (h : c < n) : Builtin.nextslicecap n c ≤ 2 * n + 192 := by
  unfold Builtin.nextslicecap
  split
  · omega
  · split
    · omega
    · exact growBy_le n 4 c (by omega)

theorem roomOk_spec {n b : Nat} (h : roomOk n b = true) : (2 * n + 192) * b ≤ 2 ^ 46 ∧ n ≤ 2 ^ 40 := by
  unfold roomOk at h
  rw [Bool.and_eq_true] at h
  exact ⟨Nat.le_of_ble_eq_true h.1, Nat.le_of_ble_eq_true h.2⟩

/-- append where the capacity does not suffice. -/
theorem run_append_grow {t u elem need : Nat} {iu ie : TI} {argTypes : Array TypeId} {ty : Nat} {a : Option Addr} {sLen sCap n : Nat} {cx : Value} {old new : List Value}
    (h0 : argTypes[0]? = some t) (h1 : argTypes[1]? = some u) (ht : P.underlying t = some (.slice elem)) (hu : TyOK P u iu) (hk : sliceLike iu.kd = true) (he : TyOK P elem ie)
    (hneed : need = sLen + n) (hgt : sCap < need) (hroom : roomOk need ie.bytes = true)
    (hlen : (Builtin.lenOf cx).run P w = .ok n w)
    (hold : ∀ w2 : World, w2.heap = w.heap → (Builtin.firstCells ie.size sLen (.slice a sLen sCap)).run P w2 = .ok old.toArray w2)
    (hnew : ∀ w2 : World, w2.heap = w.heap → (Builtin.firstCells ie.size n cx).run P w2 = .ok new.toArray w2) :
    ∃ (cap d : Nat) (rest : List Value), need ≤ cap ∧ rest.length = (cap - need) * ie.zero.length ∧
      (Builtin.append_ argTypes ty #[.slice a sLen sCap, cx]).run P w =
        .ok (.slice (some ⟨w.heap.size, 0, none⟩) need cap) { w with heap := w.heap.push (.cells (old ++ new ++ rest).toArray elem), drawn := d } := by
  obtain ⟨du, hud, _, hkd⟩ := hu.und
  obtain ⟨f, hf, hfb⟩ := he.bytes w
  obtain ⟨hr1, hr2⟩ := roomOk_spec hroom
  have hnc := nextslicecap_le need sCap hgt
  have hdu : (∃ q, du = .slice q) ∨ du = .string := by
    cases hi : iu.kd <;> rw [hi] at hk hkd <;> simp [sliceLike] at hk
    · exact .inr hkd
    · exact .inl ⟨_, hkd.1⟩
  have h48 : ¬ (Builtin.nextslicecap need sCap * f.bytes > 2 ^ 48) := by
    rw [hfb]
    have : Builtin.nextslicecap need sCap * ie.bytes ≤ (2 * need + 192) * ie.bytes := Nat.mul_le_mul_right _ hnc
    omega
  let q : Question := .appendCap need sCap elem
  refine ⟨q.cut (w.tape w.drawn q), w.drawn + 1, (Builtin.zeroCells (zv ie).cells (q.cut (w.tape w.drawn q) - need)).toList, ?_, ?_, ?_⟩
  · simp only [q, Question.cut]; omega
  · have hzc : (zv ie).cells.size = ie.zero.length := by rw [← he.zcells]; simp
    simp [Builtin.zeroCells, hzc]
  · have hgt' : ¬ (sLen + n ≤ sCap) := by omega
    subst hneed
    have e1 := hold w.drew rfl
    have e2 := hnew w.drew rfl
    obtain ⟨f', hf', hff⟩ := he.bytes w.drew
    have hfe : f' = f := by
      obtain ⟨f0, g0, _⟩ := he.info
      rw [run_info g0] at hf hf'; injection hf with hf; injection hf' with hf'; rw [← hf, ← hf']
    subst hfe
    have hz := he.run_zero w.drew
    have hsz := run_size he.sz w
    have h63' : ¬ (9223372036854775807 < ((sLen : Int) + (n : Int))) := by omega
    have h48' : ¬ (281474976710656 < Builtin.nextslicecap (sLen + n) sCap * f'.bytes) := by simpa using h48
    have key : ∀ d, (d = .string ∨ ∃ q, d = .slice q) → P.underlying u = some d → (Builtin.append_ argTypes ty #[.slice a sLen sCap, cx]).run P w =
        .ok (.slice (some ⟨w.heap.size, 0, none⟩) (sLen + n) (q.cut (w.tape w.drawn q))) { w with heap := w.heap.push (.cells (old ++ new ++ (Builtin.zeroCells (zv ie).cells (q.cut (w.tape w.drawn q) - (sLen + n))).toList).toArray elem), drawn := w.drawn + 1 } := by
      intro d hd hud'
      rcases hd with rfl | ⟨qq, rfl⟩ <;>
      · simp [Builtin.append_, h0, h1, run_und ht, run_und hud', hsz, hlen, hgt', hf, h63', h48', Question.forced, e1, e2, hz, hf', newRow, q, Question.cut]
        simp only [World.drew, World.alloc]
        congr 3
        apply Array.ext'
        simp
    exact key du (hdu.symm) hud

theorem kd_slice {u : Nat} {iu : TI} (hu : TyOK P u iu) (hk : sliceLike iu.kd = true) : ∃ du, P.underlying u = some du ∧ (du = .string ∨ ∃ q, du = .slice q) := by
  obtain ⟨du, hud, _, hkd⟩ := hu.und
  refine ⟨du, hud, ?_⟩
  cases hi : iu.kd <;> rw [hi] at hk hkd <;> simp [sliceLike] at hk
  · exact .inl hkd
  · exact .inr ⟨_, hkd.1⟩

/-- append where the capacity suffices. -/
theorem run_append_fit {t u elem : Nat} {iu ie : TI} {argTypes : Array TypeId} {ty : Nat} {b o : Nat} {sLen sCap n : Nat} {cx : Value} {new : List Value} {arr : Array Value} {et : TypeId}
    (h0 : argTypes[0]? = some t) (h1 : argTypes[1]? = some u) (ht : P.underlying t = some (.slice elem)) (hu : TyOK P u iu) (hk : sliceLike iu.kd = true) (he : TyOK P elem ie)
    (hle : sLen + n ≤ sCap) (hlen : (Builtin.lenOf cx).run P w = .ok n w) (hnew : (Builtin.firstCells ie.size n cx).run P w = .ok new.toArray w)
    (hh : w.heap[b]? = some (.cells arr et (0, 0))) (hfit : o + sLen * ie.size + new.length ≤ arr.size) (hone : ∀ v ∈ new, v.oneCell' = true) :
    (Builtin.append_ argTypes ty #[.slice (some ⟨b, o, none⟩) sLen sCap, cx]).run P w =
      .ok (.slice (some ⟨b, o, none⟩) (sLen + n) sCap) (w.setRow b (arr.toList.take (o + sLen * ie.size) ++ new ++ arr.toList.drop (o + sLen * ie.size + new.length)).toArray) := by
  obtain ⟨du, hud, hdu⟩ := kd_slice hu hk
  have hst := run_storeCells_at P b (o + sLen * ie.size) et new 0 arr w hh (by omega) hone
  have hsz := run_size he.sz w
  rcases hdu with rfl | ⟨q, rfl⟩ <;>
    simp [Builtin.append_, h0, h1, run_und ht, run_und hud, hsz, hlen, hle, hnew, add_none, hst]

/-- Nothing appended. -/
theorem run_append_none {t u elem : Nat} {iu ie : TI} {argTypes : Array TypeId} {ty : Nat} {a : Option Addr} {sLen sCap : Nat} {cx : Value}
    (h0 : argTypes[0]? = some t) (h1 : argTypes[1]? = some u) (ht : P.underlying t = some (.slice elem)) (hu : TyOK P u iu) (hk : sliceLike iu.kd = true) (he : TyOK P elem ie)
    (hle : sLen ≤ sCap) (hlen : (Builtin.lenOf cx).run P w = .ok 0 w) (hnew : (Builtin.firstCells ie.size 0 cx).run P w = .ok #[] w) :
    (Builtin.append_ argTypes ty #[.slice a sLen sCap, cx]).run P w = .ok (.slice a sLen sCap) w := by
  obtain ⟨du, hud, hdu⟩ := kd_slice hu hk
  have hsz := run_size he.sz w
  rcases hdu with rfl | ⟨q, rfl⟩ <;> cases a <;>
    simp [Builtin.append_, h0, h1, run_und ht, run_und hud, hsz, hlen, hle, hnew, storeCells]

theorem elems_nil {x : AV} {cx : Value} (hx : RelV E x cx) (h : elems g x = some []) (sz : Nat) :
    (Builtin.lenOf cx).run P w = .ok 0 w ∧ (Builtin.firstCells sz 0 cx).run P w = .ok #[] w := by
  have key : ∀ (a : Option Addr) (cap : Nat), (Builtin.lenOf (.slice a 0 cap)).run P w = .ok 0 w ∧ (Builtin.firstCells sz 0 (.slice a 0 cap)).run P w = .ok #[] w := by
    intro a cap
    cases a <;> simp [Builtin.lenOf, Builtin.firstCells, loadCells, loadCellsFrom]
  cases x with
  | i y =>
    cases hx with
    | i hy =>
    cases hy with
    | lit =>
      cases cx <;> simp only [elems] at h <;> try (cases h; done)
      · rename_i s
        have : s.data.toList = [] := by simpa using h
        have hs : s.size = 0 := by have := congrArg List.length this; simpa using this
        constructor
        · simp [Builtin.lenOf, hs]
        · simp [Builtin.firstCells]
      · rename_i a len cap
        cases a with
        | none => cases len with
          | zero => cases cap with
            | zero => exact key none 0
            | succ => simp at h
          | succ => simp at h
        | some a => simp at h
    | nil a cap hn => exact key a cap
    | sl us hne => simp [elems] at h; exact absurd h hne
  | rs id off len cmin =>
    cases hx with
    | rs ho ha hn hl hc =>
      rename_i cap l a
      simp only [elems] at h
      cases hgr : g id with
      | dead => rw [hgr] at h; simp at h
      | map ms => rw [hgr] at h; simp at h
      | cells sz' rs =>
        rw [hgr] at h
        simp only at h
        cases hble : Nat.ble (off + len) rs.length with
        | false => rw [hble] at h; simp at h
        | true =>
          rw [hble] at h
          have hol := Nat.le_of_ble_eq_true hble
          simp only [cond_true, Option.some.injEq] at h
          have hll := congrArg List.length h
          simp at hll
          have : len = 0 := by omega
          subst this
          exact key _ _
  | e0 => cases hx with | e0 a => exact key a 0
  | nn => cases hx with | nn a cap => exact key _ cap
  | _ => simp [elems] at h

theorem all_sz {es : List (List AV)} {sz : Nat} (h : es.all (fun e => Nat.beq e.length sz && e.all one) = true) : (∀ e ∈ es, e.length = sz) ∧ ∀ e ∈ es, e.all one = true := by
  rw [List.all_eq_true] at h
  refine ⟨fun e he => ?_, fun e he => ?_⟩ <;> have := h e he <;> rw [Bool.and_eq_true] at this
  · exact Nat.eq_of_beq_eq_true this.1
  · exact this.2

theorem FlatRel.ones {E : Env} {sz : Nat} {es : List (List AV)} {vs : List Value} (h : FlatRel E sz es vs) (ho : ∀ e ∈ es, e.all one = true) (hpos : 0 < sz) : ∀ v ∈ vs, v.oneCell' = true := by
  intro v hv
  obtain ⟨k, hk, rfl⟩ := List.getElem_of_mem hv
  have hs := h.size
  have hi : k / sz < es.length := by rw [Nat.div_lt_iff_lt_mul hpos]; omega
  have hej : es[k / sz]? = some es[k / sz] := List.getElem?_eq_getElem hi
  have hl := h.len _ _ hej
  have hj : k % sz < es[k / sz].length := by rw [hl]; exact Nat.mod_lt _ hpos
  obtain ⟨u, hu, hr⟩ := h.cell _ _ _ _ hej (List.getElem?_eq_getElem hj)
  have hkk : k / sz * sz + k % sz = k := by rw [Nat.mul_comm]; exact Nat.div_add_mod k sz
  rw [hkk, List.getElem?_eq_getElem hk] at hu
  injection hu with hu
  rw [hu]
  exact one_rel (List.all_eq_true.1 (ho _ (List.getElem_mem hi)) _ (List.getElem_mem hj)) hr

end
end Go.Ai
