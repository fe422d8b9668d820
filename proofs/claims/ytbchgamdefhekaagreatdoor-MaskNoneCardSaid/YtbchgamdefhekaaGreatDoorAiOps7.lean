/- Slicing, fields, elements, maps. -/
import Derived.Test.YtbchgamdefhekaaGreatDoorAiOps6
namespace Go.Ai
open Go

section
variable {P : Program} {E : Env} {g : Nat → Row} {w : World}

theorem run_bound {k : IntKind} {n y : Nat} {code : BoundsCode} (h : n ≤ y) : (Instr.sliceBound (.int k (n : Int)) y code).run P w = .ok n w := by
  have h2 : (0 : Int) ≤ (n : Int) ∧ (n : Int) ≤ (y : Int) := by omega
  simp [Instr.sliceBound, asIntOf, h]

theorem hi_rel {o : Option AV} {c : Option Value} {d n : Nat} (h : sliceHi o d = some n) (hr : ∀ x, o = some x → ∃ v, c = some v ∧ RelV E x v) (hn : o = none → c = none) :
    (o = none ∧ c = none ∧ n = d) ∨ ∃ k, o.isSome ∧ c = some (.int k (n : Int)) := by
  cases o with
  | none => simp [sliceHi] at h; exact .inl ⟨rfl, hn rfl, h.symm⟩
  | some x =>
    obtain ⟨v, hv, hx⟩ := hr x rfl
    obtain ⟨k, rfl⟩ := natOf_rel (by simpa [sliceHi] using h) hx
    exact .inr ⟨k, rfl, hv⟩

/-- A bound that may be left out. -/
inductive Bd (c : Option Value) (d n : Nat) : Prop
  | none (h : c = none) (e : n = d)
  | some (k : IntKind) (h : c = some (.int k (n : Int)))

theorem hi_bd {lo : Option Operand} {ρ : Operand → AV} {ρc : Operand → Value} (hr : ∀ x, lo = some x → RelV E (ρ x) (ρc x)) {d n : Nat} (h : sliceHi (lo.map ρ) d = some n) : Bd (lo.map ρc) d n := by
  cases lo with
  | none => simp [sliceHi] at h; exact .none rfl h.symm
  | some x =>
    obtain ⟨k, hk⟩ := natOf_rel (by simpa [sliceHi] using h) (hr x rfl)
    exact .some k (by simp [hk])

theorem run_bounds {b : Bool} {len cap l h m : Nat} {lo hi mx : Option Value} (hl : Bd lo 0 l) (hh : Bd hi len h) (hm : Bd mx cap m) (hmx : mx ≠ none → hi ≠ none) (h1 : l ≤ h) (h2 : h ≤ m) (h3 : m ≤ cap) :
    (Instr.sliceBounds b len cap lo hi mx).run P w = .ok (l, h, m) w := by
  cases hm with
  | none e em =>
    subst e; subst em
    cases hh with
    | none e eh =>
      subst e; subst eh
      cases hl with
      | none e el => subst e; subst el; simp [Instr.sliceBounds]
      | some k e => subst e; simp [Instr.sliceBounds, run_bound h1]
    | some k e =>
      subst e
      cases hl with
      | none e el => subst e; subst el; simp [Instr.sliceBounds, run_bound h2]
      | some k e => subst e; simp [Instr.sliceBounds, run_bound h1, run_bound h2]
  | some k e =>
    subst e
    cases hh with
    | none e eh => exact absurd e (hmx (by simp))
    | some k e =>
      subst e
      cases hl with
      | none e el => subst e; subst el; simp [Instr.sliceBounds, run_bound h2, run_bound h3]
      | some k e => subst e; simp [Instr.sliceBounds, run_bound h1, run_bound h2, run_bound h3]

theorem run_slice_sl {t elem esz : Nat} (ht : P.underlying t = some (.slice elem)) (hs : SzOK P elem esz) {a : Option Addr} {len cap l h m : Nat} {lo hi mx : Option Value}
    (hb : (Instr.sliceBounds true len cap lo hi mx).run P w = .ok (l, h, m) w) :
    (Instr.sliceAt t (.slice a len cap) lo hi mx).run P w = .ok (.slice (if m = l then a else a.map (·.add (l * esz))) (h - l) (m - l)) w := by
  simp [Instr.sliceAt, Instr.slice, run_und ht, hb, run_size hs]

theorem y_slice_sl {t elem esz : Nat} (ht : P.underlying t = some (.slice elem)) (hs : SzOK P elem esz) {es : List (List IV)} {cx : Value} (hx : RelV E (.i (.sl es)) cx) {lo hi mx : Option Value} {l h m : Nat}
    (hl : Bd lo 0 l) (hh : Bd hi es.length h) (hm : Bd mx l m) (hmx : mx ≠ none → hi ≠ none) (h1 : l ≤ h) (h2 : h ≤ es.length) (hhd : headLen esz es = true) :
    (mx = none → ∃ cv, (Instr.sliceAt t cx lo hi mx).run P w = .ok cv w ∧ RelV E (.i (.sl ((es.drop l).take (h - l)))) cv) ∧
    (mx ≠ none → m = l → h = l → ∃ cv, (Instr.sliceAt t cx lo hi mx).run P w = .ok cv w ∧ RelV E .e0 cv) := by
  have key : ∃ a cap, cx = .slice a es.length cap ∧ es.length ≤ cap ∧ (a = none → cap = 0) := by
    cases hx with
    | i hx => cases hx with
      | nil a cap hn => exact ⟨a, cap, rfl, Nat.zero_le _, hn⟩
      | sl us hne hb hsz hsl hc hr hcap => exact ⟨_, _, rfl, hcap, fun e => by cases e⟩
  obtain ⟨a, cap, rfl, hle, hna⟩ := key
  refine ⟨fun hmn => ?_, fun hmn hml hhl => ?_⟩
  · subst hmn
    refine ⟨_, run_slice_sl ht hs (run_bounds hl hh (.none rfl rfl) (by simp) h1 (by omega) (Nat.le_refl cap)), ?_⟩
    by_cases he : h = l
    · subst he
      have : (es.drop h).take (h - h) = [] := by simp
      rw [this]
      simp only [Nat.sub_self]
      refine .i (.nil _ _ ?_)
      intro hn
      split at hn
      · omega
      · cases a with
        | none => have := hna rfl; omega
        | some a => simp at hn
    · cases hx with
      | i hx => cases hx with
        | nil => simp at h2; omega
        | sl us hne hb hsz hsl hc hr hcap =>
          rename_i b off sz arr ty fz
          have hsz' : sz = esz := by
            match hq : es with
            | [] => exact absurd rfl hne
            | e :: r => have q1 := hsl 0 e (by simp); simp only [headLen] at hhd; have q2 := Nat.eq_of_beq_eq_true hhd; omega
          subst hsz'
          rw [if_neg (by omega)]
          have hlen : ((es.drop l).take (h - l)).length = h - l := by simp; omega
          have hadd : ((some (⟨b, off, none⟩ : Addr)).map (·.add (l * sz))) = some ⟨b, off + l * sz, none⟩ := by simp [add_none]
          rw [hadd]
          have hget : ∀ (i : Nat) (e : List IV), ((es.drop l).take (h - l))[i]? = some e → es[l + i]? = some e := by
            intro i e hie
            rw [List.getElem?_take] at hie
            split at hie
            · rwa [List.getElem?_drop] at hie
            · cases hie
          have := RelI.sl (imm := E.imm) (es := (es.drop l).take (h - l)) (b := b) (off := off + l * sz) (cap := cap - l) (sz := sz) (fun i j => us (l + i) j) (by intro e; rw [e] at hlen; simp at hlen; omega) hb hsz
            (fun i e hie => hsl _ e (hget i e hie))
            (fun i j e x hie hx => by rw [← hc _ j e x (hget i e hie) hx]; congr 1; rw [Nat.add_mul]; omega)
            (fun i j e x hie hx => hr _ j e x (hget i e hie) hx) (by omega)
          rw [hlen] at this
          exact .i this
  · obtain rfl : h = m := by omega
    obtain rfl : h = l := by omega
    have hm' : Bd mx cap h := by
      cases hm with
      | none e _ => exact absurd e hmn
      | some k e => exact .some k e
    refine ⟨_, run_slice_sl ht hs (run_bounds hl hh hm' hmx h1 (Nat.le_refl _) (by omega)), ?_⟩
    simp only [Nat.sub_self, if_true]
    exact .e0 _

theorem y_slice_rs (hw : WOK E g w) {t elem esz : Nat} (ht : P.underlying t = some (.slice elem)) (hs : SzOK P elem esz) {id off len cmin : Nat} {cx : Value} (hx : RelV E (.rs id off len cmin) cx) {rs : List (List AV)}
    (hgr : g id = .cells esz rs) {lo hi mx : Option Value} {l h m : Nat} (hl : Bd lo 0 l) (hh : Bd hi len h) (hm : Bd mx cmin m) (hmx : mx ≠ none → hi ≠ none) (h1 : l ≤ h) (_h2 : h ≤ len) (h3 : h ≤ m) (h4 : m ≤ cmin) :
    ∃ cv, (Instr.sliceAt t cx lo hi mx).run P w = .ok cv w ∧ RelV E (.rs id (off + l) (h - l) (m - l)) cv ∧ (mx ≠ none → m = l → RelV E .e0 cv) := by
  cases hx with
  | rs ho ha hnn hlc hc =>
    rename_i cap lc a
    obtain ⟨l', hl', hrow, _⟩ := hw.rows id (by rw [hgr]; simp)
    rw [ho] at hl'; injection hl' with hl'; subst hl'
    rw [hgr] at hrow
    obtain ⟨hsz, hpos, _⟩ := hrow
    have key : ∀ m', (mx = none → m' = cap) → (mx ≠ none → m' = m) → Bd mx cap m' → l ≤ m' → m' ≤ cap → h ≤ m' → m ≤ m' →
        ∃ cv, (Instr.sliceAt t (.slice (some a) len cap) lo hi mx).run P w = .ok cv w ∧ RelV E (.rs id (off + l) (h - l) (m - l)) cv ∧ (mx ≠ none → m = l → RelV E .e0 cv) := by
      intro m' e1 e2 hbd q1 q2 q3 q4
      refine ⟨_, run_slice_sl ht hs (run_bounds hl hh hbd hmx h1 q3 q2), ?_, ?_⟩
      · have hm1 : (off + m') * lc.sz ≤ (off + cap) * lc.sz := Nat.mul_le_mul_right _ (by omega)
        by_cases e : m' = l
        · rw [if_pos e]
          refine .rs ho (by omega) ?_ (by omega) (by omega)
          rw [show off + l + (m' - l) = off + m' by omega]; omega
        · rw [if_neg e]
          have ha' := ha (by omega)
          subst ha'
          simp only [Option.map_some, add_none]
          refine .rs ho (fun _ => ?_) ?_ (by omega) (by omega)
          · congr 1; rw [Nat.add_mul, hsz]; omega
          · rw [show off + l + (m' - l) = off + m' by omega]; omega
      · intro hmn hml
        have := e2 hmn
        subst this
        subst hml
        have : h - m' = 0 := by omega
        rw [if_pos rfl, this, Nat.sub_self]
        exact .e0 _
    cases hm with
    | none e em => exact key cap (fun _ => rfl) (fun hn => absurd e hn) (.none e rfl) (by omega) (Nat.le_refl _) (by omega) (by omega)
    | some k e => exact key m (fun hn => by rw [hn] at e; cases e) (fun _ => rfl) (.some k e) (by omega) (by omega) h3 (Nat.le_refl _)

theorem y_slice_str {t : Nat} (ht : P.underlying t = some .string) {s : ByteArray} {lo hi : Option Value} {l h : Nat} (hl : Bd lo 0 l) (hh : Bd hi s.size h) (h1 : l ≤ h) (h2 : h ≤ s.size) :
    (Instr.sliceAt t (.string s) lo hi none).run P w = .ok (.string (s.extract l h)) w := by
  have := run_bounds (P := P) (w := w) (b := false) (len := s.size) (cap := s.size) (mx := none) hl hh (.none rfl rfl) (by simp) h1 h2 (Nat.le_refl _)
  simp [Instr.sliceAt, Instr.slice, run_und ht, this]

/-! ### fields and elements -/
theorem run_fieldAt {t : Nat} {i : TI} (hi : TyOK P t i) {fs : List (Nat × Nat × Bool)} (hk : i.kd = .struct fs) {f fo fz : Nat} {fa : Bool} (hf : fs[f]? = some (fo, fz, fa)) (hz : fz ≠ 0) {b o : Nat} :
    (Instr.fieldAt t (.pointer (some ⟨b, o, none⟩)) f).run P w = .ok (.pointer (some ⟨b, o + fo, none⟩)) w := by
  obtain ⟨d, hd, _, hkd⟩ := hi.und
  rw [hk] at hkd
  obtain ⟨fields, rfl, _, hfs⟩ := hkd
  obtain ⟨q, hq, ho, hs, _⟩ := hfs f _ hf
  simp only at ho hs
  simp [Instr.fieldAt, run_und hd, hq, Instr.sureAddr, fieldPlace, run_size hs, hz, add_none, ho]

theorem y_field {t : Nat} {i : TI} (hi : TyOK P t i) {fs : List (Nat × Nat × Bool)} (hk : i.kd = .struct fs) {f fo fz : Nat} {fa : Bool} (hf : fs[f]? = some (fo, fz, fa)) {cs : List AV} {cx : Value} (hx : RelV E (.agg cs) cx) {v : AV}
    (h : readCells fa fz fo cs = some v) : ∃ cv, (Instr.field t cx f).run P w = .ok cv w ∧ RelV E v cv := by
  obtain ⟨d, hd, _, hkd⟩ := hi.und
  rw [hk] at hkd
  obtain ⟨fields, rfl, _, hfs⟩ := hkd
  obtain ⟨q, hq, ho, hs, d', hd', hag⟩ := hfs f _ hf
  simp only at ho hs hag
  obtain ⟨vs, rfl, hr⟩ := hx.agg_inv
  have hl := hr.len
  unfold readCells at h
  cases hfa : fa with
  | true =>
    rw [hfa] at h hag
    simp only [cond_true] at h
    cases hb : Nat.ble (fo + fz) cs.length with
    | false => rw [hb] at h; simp at h
    | true =>
      rw [hb] at h
      simp only [cond_true, Option.some.injEq] at h
      subst h
      have hle := Nat.le_of_ble_eq_true hb
      refine ⟨.agg ((vs.drop fo).take fz).toArray, ?_, RelV.agg_mk ((hr.drop fo).take fz)⟩
      have he : vs.toArray.extract fo (fo + fz) = ((vs.drop fo).take fz).toArray := by
        apply Array.ext'; simp
      simp [Instr.field, run_und hd, hq, part, asAgg, Ai.run_agg hd', hag, run_size hs, ho]
  | false =>
    rw [hfa] at h hag
    simp only [cond_false] at h
    obtain ⟨u, hu, hru⟩ := hr.get h
    exact ⟨u, by simp [Instr.field, run_und hd, hq, part, asAgg, Ai.run_agg hd', hag, ho, hu], hru⟩

theorem run_indexAt_slice {t elem esz : Nat} (ht : P.underlying t = some (.slice elem)) (hs : SzOK P elem esz) {k : IntKind} {n len cap : Nat} {b o : Nat} (h : n < len) :
    (Instr.indexAt t (.slice (some ⟨b, o, none⟩) len cap) (.int k (n : Int))).run P w = .ok (.pointer (some ⟨b, o + n * esz, none⟩)) w := by
  have h2 : (0 : Int) ≤ (n : Int) ∧ (n : Int) < (len : Int) := by omega
  simp [Instr.indexAt, asIntOf, run_und ht, h2, run_size hs, add_none, h]

theorem run_indexAt_array {t elem esz m : Nat} (ht : P.underlying t = some (.array m elem)) (hs : SzOK P elem esz) {k : IntKind} {n : Nat} {b o : Nat} (h : n < m) :
    (Instr.indexAt t (.pointer (some ⟨b, o, none⟩)) (.int k (n : Int))).run P w = .ok (.pointer (some ⟨b, o + n * esz, none⟩)) w := by
  have h2 : (0 : Int) ≤ (n : Int) ∧ (n : Int) < (m : Int) := by omega
  simp [Instr.indexAt, asIntOf, run_und ht, Instr.sureAddr, h2, run_size hs, add_none, h]

theorem y_indexAt_sl {t elem esz : Nat} (ht : P.underlying t = some (.slice elem)) (hs : SzOK P elem esz) {es : List (List IV)} {cx : Value} (hx : RelV E (.i (.sl es)) cx) {k : IntKind} {n : Nat} {e : List IV}
    (he : es[n]? = some e) (hl : e.length = esz) : ∃ cv, (Instr.indexAt t cx (.int k (n : Int))).run P w = .ok cv w ∧ RelV E (.ipt e 0) cv := by
  have hlt := (List.getElem?_eq_some_iff.1 he).1
  cases hx with
  | i hx => cases hx with
    | nil => simp at he
    | sl us hne hb hsz hsl hc hr hcap =>
      rename_i b off cap sz arr ty fz
      have hsz' : sz = esz := by rw [← hl]; exact (hsl n e he).symm
      subst hsz'
      refine ⟨_, run_indexAt_slice ht hs hlt, ?_⟩
      exact .ipt (off := 0) (fun j => us n j) hb (fun j x hx => hc n j e x he hx) (fun j x hx => hr n j e x he hx)

theorem y_indexAt_rs (hw : WOK E g w) {t elem esz : Nat} (ht : P.underlying t = some (.slice elem)) (hs : SzOK P elem esz) {id off len cmin : Nat} {cx : Value} (hx : RelV E (.rs id off len cmin) cx) {rs : List (List AV)}
    (hgr : g id = .cells esz rs) {k : IntKind} {n : Nat} (h : n < len) : ∃ cv, (Instr.indexAt t cx (.int k (n : Int))).run P w = .ok cv w ∧ RelV E (.ptr id (off + n) 0) cv := by
  cases hx with
  | rs ho ha hnn hlc hc =>
    rename_i cap lc a
    obtain ⟨l', hl', hrow, _⟩ := hw.rows id (by rw [hgr]; simp)
    rw [ho] at hl'; injection hl' with hl'; subst hl'
    rw [hgr] at hrow
    obtain ⟨hsz, hpos, _⟩ := hrow
    have ha' := ha (by omega)
    subst ha'
    refine ⟨_, run_indexAt_slice ht hs h, ?_⟩
    have := RelV.ptr (E := E) (id := id) (ei := off + n) (off := 0) ho
    rw [Nat.add_mul, hsz] at this
    rw [hsz]
    simpa [Nat.add_assoc] using this

theorem run_index_str {t : Nat} (ht : P.underlying t = some .string) {s : ByteArray} {k : IntKind} {n : Nat} {b : UInt8} (h : s.data.toList[n]? = some b) :
    (Instr.index t (.string s) (.int k (n : Int))).run P w = .ok (.int .u8 b.toNat) w := by
  have hlt : n < s.size := by have := (List.getElem?_eq_some_iff.1 h).1; simpa using this
  have hb : s[n]? = some b := by
    rw [Array.getElem?_toList] at h
    have : s[n]? = s.data[n]? := by
      rw [getElem?_pos s n hlt, getElem?_pos s.data n (by exact hlt)]; rfl
    rw [this]; exact h
  simp [Instr.index, asIntOf, run_und ht, hb]

theorem y_index_arr {t elem esz m : Nat} {ie : TI} (ht : P.underlying t = some (.array m elem)) (hs : SzOK P elem esz) (he : TyOK P elem ie) {cs : List AV} {cx : Value} (hx : RelV E (.agg cs) cx) {k : IntKind} {n : Nat} (hn : n < m) {v : AV}
    (h : readCells ie.agg esz (n * esz) cs = some v) : ∃ cv, (Instr.index t cx (.int k (n : Int))).run P w = .ok cv w ∧ RelV E v cv := by
  obtain ⟨vs, rfl, hr⟩ := hx.agg_inv
  have h2 : (0 : Int) ≤ (n : Int) ∧ (n : Int) < (m : Int) := by omega
  unfold readCells at h
  cases hfa : ie.agg with
  | true =>
    rw [hfa] at h
    simp only [cond_true] at h
    cases hb : Nat.ble (n * esz + esz) cs.length with
    | false => rw [hb] at h; simp at h
    | true =>
      rw [hb] at h
      simp only [cond_true, Option.some.injEq] at h
      subst h
      refine ⟨.agg ((vs.drop (n * esz)).take esz).toArray, ?_, RelV.agg_mk ((hr.drop _).take _)⟩
      have he2 : vs.toArray.extract (n * esz) (n * esz + esz) = ((vs.drop (n * esz)).take esz).toArray := by
        apply Array.ext'; simp
      simp [Instr.index, asIntOf, run_und ht, hn, part, he.run_agg, hfa, run_size hs]
  | false =>
    rw [hfa] at h
    simp only [cond_false] at h
    obtain ⟨u, hu, hru⟩ := hr.get h
    exact ⟨u, by simp [Instr.index, asIntOf, run_und ht, hn, part, he.run_agg, hfa, run_size hs, hu], hru⟩

end
end Go.Ai
