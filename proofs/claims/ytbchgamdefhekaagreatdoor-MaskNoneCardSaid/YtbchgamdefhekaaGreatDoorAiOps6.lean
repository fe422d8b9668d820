/- make, literals, clear. -/
import Derived.Test.YtbchgamdefhekaaGreatDoorAiOps5
import Derived.Laws.MakeOwn
namespace Go.Ai
open Go

section
variable {P : Program} {E : Env} {g : Nat → Row} {w : World}

theorem zv_cells {t : Nat} {i : TI} (hi : TyOK P t i) : (zv i).cells = i.zero.toArray := by
  apply Array.ext'; rw [hi.zcells]

theorem y_makeSlice {t elem n m : Nat} {ie : TI} (ht : P.underlying t = some (.slice elem)) (he : TyOK P elem ie) (hw : WOK E g w) {k1 k2 : IntKind} (hnm : n ≤ m)
    (hroom : roomOk m ie.bytes = true) (hpos : 0 < ie.zero.length) {id : Nat} (hn : E.own id = none) :
    Yld P E g w (do pure (Next.value (← Instr.makeSlice t (.int k1 n) (.int k2 m)))) (.rs id 0 n m) [(id, .cells ie.zero.length (List.replicate n (ie.zero.map fun c => .i (.lit c))))]  [id] := by
  obtain ⟨hr1, hr2⟩ := roomOk_spec hroom
  have hmb : m * ie.bytes ≤ (2 * m + 192) * ie.bytes := Nat.mul_le_mul_right _ (by omega)
  have hlen := he.len
  obtain ⟨f, hf, hfs, hfb, hfz⟩ := he.info
  have hbi : (f.bytes : Int) * (m : Int) ≤ 281474976710656 := by
    have : ((f.bytes * m : Nat) : Int) ≤ 281474976710656 := by rw [hfb, Nat.mul_comm]; omega
    rwa [Int.natCast_mul] at this
  have hrun0 := run_make (P := P) w t elem f (zv ie) ht hf hfz k1 k2 n m (by omega) (by omega) hbi (by omega)
  have hrun : (Instr.makeSlice t (.int k1 n) (.int k2 m)).run P w =
      .ok (.slice (some ⟨w.heap.size, 0, none⟩) n m) { w with heap := w.heap.push (.cells ((Array.range (m * ie.zero.length)).map (ie.zero.toArray[· % ie.zero.toArray.size]!)) elem) } := by
    rw [hrun0]
    simp only [Int.toNat_natCast, madeCells, zv_cells he, hfs, hlen]
    rfl
  have hcells := cells_zero (E := E) (b := w.heap.size) (len := n) (cap := m) (zs := ie.zero) hnm
  refine ⟨_, _, _, .inl (run_v hrun), stp_new hw hn rfl rfl rfl rfl rfl (rowNew (t := elem) hn hpos rfl hcells), ?_, Env.put_ext (by simp)⟩
  exact rs_mk Env.put_own (by simp) (by simp) hnm (Nat.le_refl _)


theorem over_full {α : Type} {e xs : List α} (h : xs.length = e.length) : over e 0 xs = xs := by
  unfold over; rw [Nat.zero_add, h]; simp

/-- The parts of a literal. -/
theorem fillS_rel {b esz n : Nat} (hpos : 0 < esz) (ρc : Operand → Value) (ρ : Operand → AV) (len : Nat) : ∀ (ps : List (Nat × Operand)), (∀ p ∈ ps, RelV E (ρ p.2) (ρc p.2)) → ∀ (es es' : List (List AV)) (arr : Array Value),
    (ps.map fun p => (p.1, ρ p.2)).foldlM (init := es) (fun (es : List (List AV)) p => do
      let cs ← cellsOf p.2
      bif Nat.beq cs.length esz && Nat.blt p.1 len then some (es.set p.1 cs) else none) = some es' → es.length = len → CellsRel E ⟨b, 0, esz, n⟩ es arr →
    ∃ arr', Instr.fill (fun i => some (i * esz, esz)) arr (ps.map fun p => (p.1, ρc p.2)) = some arr' ∧ es'.length = len ∧ CellsRel E ⟨b, 0, esz, n⟩ es' arr'
  | [], _, es, es', arr, h, hl, hc => by simp at h; subst h; exact ⟨arr, rfl, hl, hc⟩
  | p :: ps, hp, es, es', arr, h, hl, hc => by
    simp only [List.map_cons, List.foldlM_cons, Option.bind_eq_bind, Option.bind_eq_some_iff] at h
    obtain ⟨es1, ⟨cs, hcs, hif⟩, hrest⟩ := h
    cases hb : (Nat.beq cs.length esz && Nat.blt p.1 len) with
    | false => rw [hb] at hif; simp at hif
    | true =>
      rw [hb] at hif
      simp only [cond_true, Option.some.injEq] at hif
      rw [Bool.and_eq_true] at hb
      have h1 := Nat.eq_of_beq_eq_true hb.1
      have h2 : p.1 < len := by have := hb.2; simp [Nat.blt_eq] at this; exact this
      subst hif
      obtain ⟨hrl, _, _⟩ := cellsOf_rel hcs (hp p (by simp))
      have hej : es[p.1]? = some (es[p.1]'(by omega)) := List.getElem?_eq_getElem _
      have hel := hc.len _ _ hej
      simp only at hel
      have hov := cells_over hc hej (off := 0) (xs := cs) (vs := (ρc p.2).cells.toList) (by omega) hrl
      rw [over_full (by omega)] at hov
      simp only [Nat.add_zero, Nat.zero_add] at hov
      have hfit := hc.fit
      have hsz := hc.size
      simp only at hfit hsz
      have hsp : (p.1 + 1) * esz ≤ es.length * esz := Nat.mul_le_mul_right _ (by omega)
      rw [Nat.succ_mul] at hsp
      have hcl : (ρc p.2).cells.size = esz := by have := hrl.len; simp at this; omega
      have hfo := fold_over (p.1 * esz) (ρc p.2).cells.toList 0 arr (by simp; omega)
      simp only [Nat.add_zero] at hfo
      have hfold : ((ρc p.2).cells.zipIdx.foldl (fun cs (c, j) => cs.setIfInBounds (p.1 * esz + j) c) arr) =
          (arr.toList.take (p.1 * esz) ++ (ρc p.2).cells.toList ++ arr.toList.drop (p.1 * esz + (ρc p.2).cells.toList.length)).toArray := by
        apply Array.ext'
        rw [← Array.foldl_toList, Array.toList_zipIdx]
        rw [show (List.foldl (fun (cs : Array Value) (x : Value × Nat) => cs.setIfInBounds (p.1 * esz + x.2) x.1) arr (ρc p.2).cells.toList.zipIdx).toList = _ from hfo]
        rfl
      rw [← hfold] at hov
      obtain ⟨arr', g1, g2, g3⟩ := fillS_rel hpos ρc ρ len ps (fun q hq => hp q (by simp [hq])) _ es' _ hrest (by simp [hl]) hov
      refine ⟨arr', ?_, g2, g3⟩
      simp only [List.map_cons, Instr.fill]
      rw [if_neg (by simp; omega)]
      exact g1

theorem y_buildSlice {t elem len : Nat} {ie : TI} (ht : P.underlying t = some (.slice elem)) (he : TyOK P elem ie) (hw : WOK E g w) (ρc : Operand → Value) (ρ : Operand → AV) (parts : Array (Nat × Operand))
    (hp : ∀ p ∈ parts.toList, RelV E (ρ p.2) (ρc p.2)) (hpos : 0 < ie.size) (hlim : len * ie.size ≤ 2 ^ 20) (hlen0 : 0 < len) {es : List (List AV)}
    (h : (parts.toList.map fun p => (p.1, ρ p.2)).foldlM (init := List.replicate len (ie.zero.map fun c => AV.i (.lit c))) (fun (es : List (List AV)) p => do
      let cs ← cellsOf p.2
      bif Nat.beq cs.length ie.size && Nat.blt p.1 len then some (es.set p.1 cs) else none) = some es) {id : Nat} (hn : E.own id = none) :
    Yld P E g w (do pure (Next.value (← Instr.buildSlice t len (parts.map fun (i, x) => (i, ρc x))))) (.rs id 0 len len) [(id, .cells ie.size es)]  [id] := by
  have hzl := he.len
  have hc0 := cells_zero (E := E) (b := w.heap.size) (len := len) (cap := len) (zs := ie.zero) (Nat.le_refl _)
  rw [hzl] at hc0
  obtain ⟨arr', g1, g2, g3⟩ := fillS_rel (E := E) hpos ρc ρ len parts.toList hp _ es _ h (by simp) hc0
  have hz := he.run_zero w
  have hne : ¬ (len * ie.size = 0) := by have := Nat.mul_pos hlen0 hpos; omega
  have hlim' : ¬ (len * ie.size > 2 ^ 24) := by omega
  have hpl : (parts.map fun (i, x) => (i, ρc x)).toList = parts.toList.map fun p => (p.1, ρc p.2) := by simp
  have hrun : (Instr.buildSlice t len (parts.map fun (i, x) => (i, ρc x))).run P w = .ok (.slice (some ⟨w.heap.size, 0, none⟩) len len) { w with heap := w.heap.push (.cells arr' elem) } := by
    simp only [Instr.buildSlice, Sem.run_bind, run_und ht, Result.andThen_ok, run_size he.sz, hlim', if_false, hne, hz, zv_cells he, hpl, Sem.run_pure]
    rw [g1]
    simp [newRow]
  have hsz := g3.size
  simp only at hsz
  refine ⟨_, _, _, .inl (run_v hrun), stp_new hw hn rfl rfl rfl rfl rfl (rowNew (t := elem) hn hpos rfl (by rw [← hsz] at g3; exact g3)), ?_, Env.put_ext (by simp)⟩
  refine rs_mk Env.put_own (by simp) ?_ (Nat.le_refl _) (Nat.le_refl _)
  have := g3.fit
  simp only [g2] at this
  simp only [Nat.zero_add]; omega

theorem run_fields : ∀ (fs : List Field) (qs : List (Nat × Nat × Bool)), fs.length = qs.length → (∀ (j : Nat) (q : Nat × Nat × Bool), qs[j]? = some q → ∃ f, fs[j]? = some f ∧ f.offset = q.1 ∧ SzOK P f.type q.2.1) →
    (fs.mapM fun f => (do pure (f.offset, ← Go.sizeOf f.type) : Sem (Nat × Nat))).run P w = .ok (qs.map fun q => (q.1, q.2.1)) w
  | [], [], _, _ => by simp
  | [], _ :: _, h, _ => by simp at h
  | _ :: _, [], h, _ => by simp at h
  | f :: fs, q :: qs, hl, h => by
    obtain ⟨f', hf', ho, hs⟩ := h 0 q (by simp)
    simp at hf'; subst hf'
    have ih := run_fields fs qs (by simpa using hl) (fun j p hp => by simpa using h (j + 1) p (by simpa using hp))
    simp only [List.mapM_cons, Sem.run_bind, run_size hs, Result.andThen_ok, Sem.run_pure, ih, ho, List.map_cons]

theorem y_build {t : Nat} {i : TI} (hi : TyOK P t i) (ρc : Operand → Value) (ρ : Operand → AV) (parts : Array (Nat × Operand)) (hp : ∀ p ∈ parts.toList, RelV E (ρ p.2) (ρc p.2)) {cs : List AV}
    (h : (∃ fs, i.kd = .struct fs ∧ fillA (fun k => (fs[k]?).map fun f => (f.1, f.2.1)) (i.zero.map fun c => AV.i (.lit c)) (parts.toList.map fun p => (p.1, ρ p.2)) = some cs) ∨
      (∃ m e esz, i.kd = .array m e esz ∧ fillA (fun k => some (k * esz, esz)) (i.zero.map fun c => AV.i (.lit c)) (parts.toList.map fun p => (p.1, ρ p.2)) = some cs)) :
    ∃ cv, (Instr.build t (parts.map fun (i, x) => (i, ρc x))).run P w = .ok cv w ∧ RelV E (.agg cs) cv := by
  obtain ⟨d, hd, _, hkd⟩ := hi.und
  have hz := hi.run_zero w
  have hzr : RelL E (i.zero.map fun c => AV.i (.lit c)) (i.zero.toArray).toList := by simpa using lits_rel E i.zero
  have hpl : (parts.map fun (i, x) => (i, ρc x)).toList = parts.toList.map fun p => (p.1, ρc p.2) := by simp
  rcases h with ⟨fs, hk, hf⟩ | ⟨m, e, esz, hk, hf⟩
  · rw [hk] at hkd
    obtain ⟨fields, rfl, hsz, hfs⟩ := hkd
    obtain ⟨arr', g1, g2⟩ := fill_rel _ ρc ρ parts.toList hp _ cs _ hf hzr
    have hfr := run_fields (P := P) (w := w) fields.toList fs (by simpa using hsz) (fun j q hq => by
      obtain ⟨f, a, b, c, _⟩ := hfs j q hq
      exact ⟨f, by simpa using a, b, c⟩)
    have hpl2 : (fun (k : Nat) => ((fs.map fun q => (q.1, q.2.1)).toArray)[k]?) = (fun (k : Nat) => (fs[k]?).map fun (f : Nat × Nat × Bool) => (f.1, f.2.1)) := by
      funext k; simp
    refine ⟨.agg arr', ?_, by simpa using RelV.agg_mk g2⟩
    simp only [Instr.build, Sem.run_bind, hz, Result.andThen_ok, run_und hd, Array.mapM_eq_mapM_toList, Sem.run_map, hfr, hpl, zv_cells hi, hpl2, g1, Sem.run_pure]
  · rw [hk] at hkd
    obtain ⟨rfl, hes, _⟩ := hkd
    obtain ⟨arr', g1, g2⟩ := fill_rel _ ρc ρ parts.toList hp _ cs _ hf hzr
    refine ⟨.agg arr', ?_, by simpa using RelV.agg_mk g2⟩
    simp only [Instr.build, Sem.run_bind, hz, Result.andThen_ok, run_und hd, run_size hes, hpl, zv_cells hi, g1, Sem.run_pure]

/-- Several elements laid anew. -/
theorem cells_rows {l : Loc} {es ds : List (List AV)} {arr : Array Value} (h : CellsRel E l es arr) {vs : List Value} (hf : FlatRel E l.sz ds vs) {off : Nat} (hol : off + ds.length ≤ es.length) :
    CellsRel E l (over es off ds) (arr.toList.take (l.base + off * l.sz) ++ vs ++ arr.toList.drop (l.base + off * l.sz + vs.length)).toArray := by
  have hm : (off + ds.length) * l.sz ≤ es.length * l.sz := Nat.mul_le_mul_right _ hol
  rw [Nat.add_mul] at hm
  have hfit := h.fit
  have hsize := h.size
  have hvl := hf.size
  have hin : l.base + off * l.sz + vs.length ≤ arr.toList.length := by simp; omega
  have hov : ∀ j, (arr.toList.take (l.base + off * l.sz) ++ vs ++ arr.toList.drop (l.base + off * l.sz + vs.length)).toArray[j]? =
      if j < l.base + off * l.sz then arr[j]? else if j < l.base + off * l.sz + vs.length then vs[j - (l.base + off * l.sz)]? else arr[j]? := fun j => by
    have := over_get (e := arr.toList) (vs := vs) (off := l.base + off * l.sz) (j := j) hin
    unfold over at this
    simpa using this
  refine ⟨?_, by rw [over_len hol]; exact hfit, fun i e he => ?_, fun i j e x he hx => ?_⟩
  · simp only [List.size_toArray, List.length_append, List.length_take, List.length_drop]; simp at hin ⊢; omega
  · rw [over_get hol] at he
    split at he
    · exact h.len i e he
    · split at he
      · exact hf.len _ e he
      · exact h.len i e he
  · rw [over_get hol] at he
    have hel : e.length = l.sz := by
      split at he
      · exact h.len i e he
      · split at he
        · exact hf.len _ e he
        · exact h.len i e he
    have hj : j < l.sz := by rw [← hel]; exact (List.getElem?_eq_some_iff.1 hx).1
    by_cases h1 : i < off
    · simp only [h1, if_true] at he
      obtain ⟨u, hu, hr⟩ := h.cell i j e x he hx
      have : (i + 1) * l.sz ≤ off * l.sz := Nat.mul_le_mul_right _ h1
      rw [Nat.succ_mul] at this
      exact ⟨u, by rw [hov, if_pos (by omega)]; exact hu, hr⟩
    · by_cases h2 : i < off + ds.length
      · simp only [h1, h2, if_true, if_false] at he
        obtain ⟨u, hu, hr⟩ := hf.cell _ j e x he hx
        have hik : i * l.sz = off * l.sz + (i - off) * l.sz := by rw [← Nat.add_mul]; congr 1; omega
        have hlt := (List.getElem?_eq_some_iff.1 hu).1
        refine ⟨u, ?_, hr⟩
        rw [hov, if_neg (by omega), if_pos (by omega), ← hu]
        congr 1; omega
      · simp only [h1, h2, if_false] at he
        obtain ⟨u, hu, hr⟩ := h.cell i j e x he hx
        have : (off + ds.length) * l.sz ≤ i * l.sz := Nat.mul_le_mul_right _ (by omega)
        rw [Nat.add_mul] at this
        exact ⟨u, by rw [hov, if_neg (by omega), if_neg (by omega)]; exact hu, hr⟩

theorem flat_zero (zs : List Value) (n : Nat) : FlatRel E zs.length (List.replicate n (zs.map fun c => AV.i (.lit c))) (Builtin.zeroCells zs.toArray n).toList := by
  refine ⟨by simp [Builtin.zeroCells], fun i e he => ?_, fun i j e x he hx => ?_⟩
  · rw [List.getElem?_replicate] at he
    split at he
    · injection he with he; subst he; simp
    · cases he
  · rw [List.getElem?_replicate] at he
    by_cases hi : i < n
    · simp only [hi, if_true] at he
      injection he with he; subst he
      simp only [List.getElem?_map, Option.map_eq_some_iff] at hx
      obtain ⟨c, hc, rfl⟩ := hx
      have hj : j < zs.length := (List.getElem?_eq_some_iff.1 hc).1
      have hsp : (i + 1) * zs.length ≤ n * zs.length := Nat.mul_le_mul_right _ (by omega)
      rw [Nat.succ_mul] at hsp
      refine ⟨c, ?_, .lit_mk E c⟩
      have hmod : (i * zs.length + j) % zs.toArray.size = j := by
        simp only [List.size_toArray]
        rw [Nat.add_comm, Nat.mul_comm, Nat.add_mul_mod_self_left, Nat.mod_eq_of_lt hj]
      have := mod_cell zs.toArray (n * zs.toArray.size) (i * zs.length + j) (by simp; omega)
      unfold Builtin.zeroCells
      rw [Array.getElem?_toList, this, hmod]
      have := (List.getElem?_eq_some_iff.1 hc).2
      simp [hj, this]
    · simp [hi] at he

theorem y_clear {argTypes : Array TypeId} {t elem ty : Nat} {ie : TI} (h0 : argTypes[0]? = some t) (ht : P.underlying t = some (.slice elem)) (he : TyOK P elem ie) (hw : WOK E g w) {id off len cmin sz : Nat} {cs : Value}
    (hs : RelV E (.rs id off len cmin) cs) {rs : List (List AV)} (hgr : g id = .cells sz rs) (hsz : sz = ie.size) (hol : off + len ≤ rs.length) {ids : List Nat} :
    Yld P E g w (do pure (Next.value (← Builtin.clear_ argTypes ty #[cs]))) (.tup []) [(id, .cells sz (over rs off (List.replicate len (ie.zero.map fun c => .i (.lit c)))))]  ids := by
  subst hsz
  have hd : g id ≠ .dead := by rw [hgr]; simp
  cases hs with
  | rs ho ha hnn hl hc =>
    rename_i cap l a
    obtain ⟨l', hl', hrow, himm⟩ := hw.rows id hd
    rw [ho] at hl'; injection hl' with hl'; subst hl'
    rw [hgr] at hrow
    obtain ⟨hsz, hpos, arr, et, hh, hcr⟩ := hrow
    have hu : RelV E (.tup []) (.tuple #[]) := by simpa using RelV.tup_mk (.nil E)
    by_cases hz : len = 0
    · subst hz
      have hsame : over rs off (List.replicate 0 (ie.zero.map fun c => AV.i (.lit c))) = rs := by simp [over]
      rw [hsame]
      refine ⟨.tuple #[], w, E, .inl (run_v ?_), ?_, hu, .refl E _⟩
      · simp [Builtin.clear_, h0, run_und ht]
      · exact stp_set hw hd ho rfl (fun _ _ => rfl) rfl rfl rfl ⟨hsz, hpos, arr, et, hh, hcr⟩
    · have ha' := ha (by omega)
      subst ha'
      have hfl := flat_zero (E := E) ie.zero len
      have hzl := he.len
      rw [hzl, ← hsz] at hfl
      have hm : (off + cap) * l.sz ≤ l.n := by omega
      have hm2 : (off + len) * l.sz ≤ (off + cap) * l.sz := Nat.mul_le_mul_right _ (by omega)
      rw [Nat.add_mul, Nat.add_mul] at hm2
      have hvl := hfl.size
      simp only [List.length_replicate] at hvl
      have hsize := hcr.size
      rw [Nat.add_mul] at hnn
      have hones : ∀ v ∈ (Builtin.zeroCells ie.zero.toArray len).toList, v.oneCell' = true := by
        refine FlatRel.ones (E := E) (sz := l.sz) hfl ?_ (by omega)
        intro e hee
        rw [List.mem_replicate] at hee
        rw [hee.2, List.all_map]
        have := he.ones
        rw [List.all_eq_true] at this ⊢
        intro c hcc
        have := this c hcc
        simpa [one] using this
      have hrun := run_storeCells_at P l.b (l.base + off * l.sz) et (Builtin.zeroCells ie.zero.toArray len).toList 0 arr w hh (by omega) hones
      refine ⟨.tuple #[], _, E, .inl (run_v ?_), stp_set hw hd ho setRow_size (fun b hb => setRow_other hb) rfl rfl rfl
        ⟨hsz, hpos, _, et, setRow_heap w l.b arr _ et (0, 0) hh, cells_rows hcr hfl (by simpa using hol)⟩, hu, .refl E _⟩
      obtain ⟨k, rfl⟩ : ∃ k, len = k + 1 := ⟨len - 1, by omega⟩
      simp only [Nat.add_zero] at hrun
      simp [Builtin.clear_, h0, run_und ht, he.run_zero w, zv_cells he, hrun]

end
end Go.Ai
