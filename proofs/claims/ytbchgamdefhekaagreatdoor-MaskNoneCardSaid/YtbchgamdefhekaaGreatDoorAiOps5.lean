/- append, make, literals, clear: what they yield. -/
import Derived.Test.YtbchgamdefhekaaGreatDoorAiOps4
namespace Go.Ai
open Go

section
variable {P : Program} {E : Env} {g : Nat → Row} {w : World}

theorem isNilSl_rel {x : AV} {v : Value} (h : isNilSl x = true) (r : RelV E x v) : ∃ a, v = .slice a 0 0 := by
  cases x with
  | i y =>
    cases r with
    | i r => cases r with
      | lit =>
        cases v <;> try (simp [isNilSl] at h; done)
        rename_i a l c
        cases a <;> cases l <;> cases c <;> simp [isNilSl] at h
        exact ⟨none, rfl⟩
      | nil => simp [isNilSl] at h
      | sl => simp [isNilSl] at h
  | e0 => cases r with | e0 a => exact ⟨a, rfl⟩
  | _ => simp [isNilSl] at h

theorem isSl_rel {x : AV} {v : Value} (h : isSl x = true) (r : RelV E x v) : ∃ a l c, v = .slice a l c ∧ l ≤ c := by
  cases x with
  | i y =>
    cases r with
    | i r => cases r with
      | lit =>
        cases v <;> try (simp [isSl] at h; done)
        rename_i a l c
        cases a <;> cases l <;> cases c <;> simp [isSl] at h
        exact ⟨none, 0, 0, rfl, Nat.le_refl _⟩
      | nil a c => exact ⟨a, 0, c, rfl, Nat.zero_le _⟩
      | sl us hne hb hsz hs hc hr hcap => exact ⟨_, _, _, rfl, hcap⟩
  | e0 => cases r with | e0 a => exact ⟨a, 0, 0, rfl, Nat.le_refl _⟩
  | rs => cases r with | rs ho ha hn hl hc => exact ⟨_, _, _, rfl, Nat.le_trans hl hc⟩
  | _ => simp [isSl] at h

theorem rs_mk {id off len cmin cap : Nat} {l : Loc} {a : Addr} (h : E.own id = some l) (ha : a = ⟨l.b, l.base + off * l.sz, none⟩)
    (hn : l.base + (off + cap) * l.sz ≤ l.n) (hl : len ≤ cmin) (hc : cmin ≤ cap) : RelV E (.rs id off len cmin) (.slice (some a) len cap) :=
  .rs h (fun _ => ha) hn hl hc

structure AppH (P : Program) (argTypes : Array TypeId) (t u elem : Nat) (iu ie : TI) : Prop where
  h0 : argTypes[0]? = some t
  h1 : argTypes[1]? = some u
  ht : P.underlying t = some (.slice elem)
  hu : TyOK P u iu
  hk : sliceLike iu.kd = true
  he : TyOK P elem ie

/-- A new row out of an append that grows. -/
theorem grown_row (hw : WOK E g w) {id elem sz need cap d : Nat} {es : List (List AV)} {vs rest : List Value} (hn : E.own id = none) (hsz : 0 < sz) (hf : FlatRel E sz es vs) (hlen : es.length = need)
    (hcap : need ≤ cap) (hrest : rest.length = (cap - need) * sz) :
    ∃ E', Stp E g w E' (upd g [(id, .cells sz es)]) { w with heap := w.heap.push (.cells (vs ++ rest).toArray elem), drawn := d } ∧
      RelV E' (.rs id 0 need need) (.slice (some ⟨w.heap.size, 0, none⟩) need cap) ∧ E' = E.put id ⟨w.heap.size, 0, sz, (vs ++ rest).toArray.size⟩ := by
  refine ⟨_, stp_new hw hn rfl rfl rfl rfl rfl (rowNew (t := elem) hn hsz rfl hf.cells), ?_, rfl⟩
  refine rs_mk Env.put_own (by simp) ?_ (Nat.le_refl _) hcap
  have hvl := hf.size
  simp only [Nat.zero_add, List.size_toArray, List.length_append, hvl, hrest, hlen]
  have : cap * sz = need * sz + (cap - need) * sz := by rw [← Nat.add_mul]; congr 1; omega
  omega

theorem y_append_nil {argTypes : Array TypeId} {t u elem ty : Nat} {iu ie : TI} (H : AppH P argTypes t u elem iu ie) (hw : WOK E g w) {s x : AV} {cs cx : Value} (hs : RelV E s cs) (hx : RelV E x cx)
    (hnil : isNilSl s = true) {es : List (List AV)} (hel : elems g x = some es) (hne : es ≠ []) (hall : ∀ e ∈ es, e.length = ie.size) (hpos : 0 < ie.size) (hroom : roomOk es.length ie.bytes = true)
    {id : Nat} (hn : E.own id = none) :
    Yld P E g w (do pure (Next.value (← Builtin.append_ argTypes ty #[cs, cx]))) (.rs id 0 es.length es.length) [(id, .cells ie.size es)]  [id] := by
  obtain ⟨a, rfl⟩ := isNilSl_rel hnil hs
  obtain ⟨hlen, vs, hfc, hflat⟩ := elems_rel (P := P) hw hx hel hne hall
  have hp : 0 < es.length := List.length_pos_iff.2 hne
  have hold : ∀ w2 : World, w2.heap = w.heap → (Builtin.firstCells ie.size 0 (.slice a 0 0)).run P w2 = .ok ([] : List Value).toArray w2 := by
    intro w2 _; cases a <;> simp [Builtin.firstCells, loadCells, loadCellsFrom]
  obtain ⟨cap, d, rest, h1, h2, h3⟩ := run_append_grow (ty := ty) (need := es.length) (sLen := 0) (sCap := 0) H.h0 H.h1 H.ht H.hu H.hk H.he (by omega) (by omega) hroom hlen hold hfc
  rw [H.he.len] at h2
  obtain ⟨E', g1, g2, rfl⟩ := grown_row (elem := elem) (d := d) hw hn hpos hflat rfl h1 h2
  exact ⟨_, _, _, .inl (run_v h3), by simpa using g1, g2, Env.put_ext (by simp)⟩

theorem y_append_none {argTypes : Array TypeId} {t u elem ty : Nat} {iu ie : TI} (H : AppH P argTypes t u elem iu ie) (hw : WOK E g w) {s x : AV} {cs cx : Value} (hs : RelV E s cs) (hx : RelV E x cx)
    (hsl : isSl s = true) (hel : elems g x = some []) {ids : List Nat} : Yld P E g w (do pure (Next.value (← Builtin.append_ argTypes ty #[cs, cx]))) s []  ids := by
  obtain ⟨a, l, c, rfl, hle⟩ := isSl_rel hsl hs
  obtain ⟨hlen, hfc⟩ := elems_nil (P := P) (w := w) hx hel ie.size
  exact .of_same hw (run_v (run_append_none H.h0 H.h1 H.ht H.hu H.hk H.he hle hlen hfc)) hs

theorem y_append_rs {argTypes : Array TypeId} {t u elem ty : Nat} {iu ie : TI} (H : AppH P argTypes t u elem iu ie) (hw : WOK E g w) {id off len cmin : Nat} {x : AV} {cs cx : Value}
    (hs : RelV E (.rs id off len cmin) cs) (hx : RelV E x cx) {es rs : List (List AV)} (hgr : g id = .cells ie.size rs) (hol : off + len ≤ rs.length) (hel : elems g x = some es) (hne : es ≠ [])
    (hall : ∀ e ∈ es, e.length = ie.size) (hones : ∀ e ∈ es, e.all one = true) (hpos : 0 < ie.size) (hroom : roomOk (len + es.length) ie.bytes = true) {new : Nat} (hn : E.own new = none) :
    Yld P E g w (do pure (Next.value (← Builtin.append_ argTypes ty #[cs, cx]))) (.rs new 0 (len + es.length) (len + es.length)) [(id, .dead), (new, .cells ie.size ((rs.drop off).take len ++ es))]  [new] := by
  obtain ⟨hlen, vs, hfc, hflat⟩ := elems_rel (P := P) hw hx hel hne hall
  have hp : 0 < es.length := List.length_pos_iff.2 hne
  cases hs with
  | rs ho ha hnn hl hc =>
    rename_i cap l a
    have hd : g id ≠ .dead := by rw [hgr]; simp
    obtain ⟨l', hl', hrow, himm⟩ := hw.rows id hd
    rw [ho] at hl'; injection hl' with hl'; subst hl'
    rw [hgr] at hrow
    obtain ⟨hsz, _, arr, et, hh, hcr⟩ := hrow
    have hpart := hcr.part off len hol
    rw [hsz] at hpart
    have hsize := hcr.size
    have hm : (off + len) * l.sz ≤ (off + cap) * l.sz := Nat.mul_le_mul_right _ (by omega)
    rw [Nat.add_mul, hsz] at hm
    rw [hsz] at hnn
    have hlen1 : ((rs.drop off).take len).length = len := by simp; omega
    by_cases hfit : len + es.length ≤ cap
    · have ha' := ha (by omega)
      rw [hsz] at ha'
      subst ha'
      have hm2 : (off + (len + es.length)) * ie.size ≤ (off + cap) * ie.size := Nat.mul_le_mul_right _ (by omega)
      rw [Nat.add_mul, Nat.add_mul] at hm2
      have hvl := hflat.size
      have hrun := run_append_fit (ty := ty) (sCap := cap) (b := l.b) (o := l.base + off * ie.size) H.h0 H.h1 H.ht H.hu H.hk H.he hfit hlen (hfc w rfl) hh (by omega) (hflat.ones hones hpos)
      refine ⟨_, _, E.put new ⟨l.b, l.base + off * ie.size, ie.size, l.n⟩, .inl (run_v hrun), ?_, ?_, Env.put_ext (by simp)⟩
      · refine stp_over hw hd ho hn rfl setRow_size (fun b hb => setRow_other hb) rfl rfl rfl ⟨rfl, hpos, _, et, setRow_heap w l.b arr _ et (0, 0) hh, ?_⟩
        have hin : l.base + off * ie.size + len * ie.size + vs.length ≤ arr.toList.length := by simp; omega
        have hov : ∀ j, (arr.toList.take (l.base + off * ie.size + len * ie.size) ++ vs ++ arr.toList.drop (l.base + off * ie.size + len * ie.size + vs.length)).toArray[j]? =
            if j < l.base + off * ie.size + len * ie.size then arr[j]? else if j < l.base + off * ie.size + len * ie.size + vs.length then vs[j - (l.base + off * ie.size + len * ie.size)]? else arr[j]? := fun j => by
          have := over_get (e := arr.toList) (vs := vs) (off := l.base + off * ie.size + len * ie.size) (j := j) hin
          unfold over at this
          simpa using this
        refine ⟨?_, ?_, fun i e he => ?_, fun i j e x he hx => ?_⟩
        · simp only [List.size_toArray, List.length_append, List.length_take, List.length_drop]; simp at hin ⊢; omega
        · simp only [List.length_append, hlen1, Nat.add_mul]; omega
        · rw [List.getElem?_append] at he
          split at he
          · exact hpart.len i e he
          · exact hflat.len _ e he
        · rw [List.getElem?_append] at he
          split at he
          · rename_i hi
            obtain ⟨v, hv, hr⟩ := hpart.cell i j e x he hx
            have hlt := (List.getElem?_eq_some_iff.1 hv).1
            have hps := hpart.size
            rw [hlen1] at hps hi
            refine ⟨v, ?_, hr.mono (Env.put_le hn)⟩
            rw [hov, if_pos (by simp only; omega)]
            rw [List.getElem?_take] at hv
            split at hv
            · rw [List.getElem?_drop, Array.getElem?_toList] at hv; rw [← hv]; congr 1; simp only; omega
            · cases hv
          · rename_i hi
            rw [hlen1] at he hi
            obtain ⟨v, hv, hr⟩ := hflat.cell _ j e x he hx
            have hlt := (List.getElem?_eq_some_iff.1 hv).1
            have hik : i * ie.size = len * ie.size + (i - len) * ie.size := by rw [← Nat.add_mul]; congr 1; omega
            refine ⟨v, ?_, hr.mono (Env.put_le hn)⟩
            rw [hov, if_neg (by simp only; omega), if_pos (by simp only; omega), ← hv]
            congr 1; simp only; omega
      · exact rs_mk Env.put_own (by simp) (by simp only [Nat.zero_add]; rw [Nat.add_mul] at hnn; omega) (Nat.le_refl _) hfit
    · have hold : ∀ w2 : World, w2.heap = w.heap → (Builtin.firstCells ie.size len (.slice (some a) len cap)).run P w2 = .ok ((arr.toList.drop (l.base + off * ie.size)).take (len * ie.size)).toArray w2 := by
        intro w2 hw2
        simp only [Builtin.firstCells]
        by_cases h0 : len = 0
        · subst h0; simp [loadCells, loadCellsFrom]
        · have ha' := ha (by omega)
          rw [hsz] at ha'
          subst ha'
          exact block_load (by rw [hw2]; exact hh) (by omega)
      obtain ⟨cap2, d, rest, h1, h2, h3⟩ := run_append_grow (ty := ty) (need := len + es.length) (sLen := len) (sCap := cap) H.h0 H.h1 H.ht H.hu H.hk H.he rfl (by omega) hroom hlen hold hfc
      rw [H.he.len] at h2
      have hkill := stp_kill (id := id) hw
      obtain ⟨E', g1, g2, rfl⟩ := grown_row (elem := elem) (d := d) (es := (rs.drop off).take len ++ es) hkill.ok hn hpos (hpart.append hflat) (by simp; omega) h1 h2
      refine ⟨_, _, _, .inl (run_v h3), ?_, g2, Env.put_ext (by simp)⟩
      have := hkill.trans g1
      rw [upd_one, upd_one] at this
      rw [upd_two]
      exact this

end
end Go.Ai
