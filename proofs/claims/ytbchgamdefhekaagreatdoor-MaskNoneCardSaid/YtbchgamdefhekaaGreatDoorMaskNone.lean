/- MaskNone answers true at every input, and its arguments read behind the call as before; the listed tables are tied to the program's text. -/
import Derived.Test.YtbchgamdefhekaaGreatDoorCtx
import Derived.Test.YtbchgamdefhekaaGreatDoorRun
import Derived.Test.YtbchgamdefhekaaGreatDoorAiRow
import Derived.Test.YtbchgamdefhekaaGreatDoorCards
import Derived.Test.YtbchgamdefhekaaGreatDoorTie
import Derived.ProofKit
import Derived.LaidMore
import Derived.OpenShut
import Derived.Stop.Joined
import Derived.Stop.LaidErr
namespace Go.Proofs.YtbchgamdefhekaaGreatDoor.A
open Go Go.Ai Go.ChangeShapes Go.WideShapes Go.ChangeAt Go.RowKit

theorem tied : Tied Tryz.prog tyTab fnTab := ⟨by kernel_rfl, by kernel_rfl, by kernel_rfl⟩
theorem cok : COK cx := tied.cok _ _

theorem own : ownKnob Tryz.prog.godebug = none := by kernel_rfl
theorem laidOut : laidOutB Tryz.prog = true := by kernel_rfl

theorem gBits : Tryz.prog.globalNamed "math/bits.deBruijn32tab" = some 0 := by kernel_rfl
theorem gBitsT : (Tryz.prog.globals[0]?).map (·.type) = some 141 := by kernel_rfl
theorem gSpace : Tryz.prog.globalNamed "strings.asciiSpace" = some 1 := by kernel_rfl
theorem gSpaceT : (Tryz.prog.globals[1]?).map (·.type) = some 197 := by kernel_rfl
theorem cells5 : Tryz.prog.cellsOf 5 = 1 := by kernel_rfl
theorem cells141 : Tryz.prog.cellsOf 141 = 32 := by kernel_rfl
theorem cells197 : Tryz.prog.cellsOf 197 = 256 := by kernel_rfl

def intOfIV : IV → Int
  | .lit (.int _ n) => n
  | _ => 0
def bitsZ : List Int := ((globTab.get 0).getD []).map intOfIV
def spaceZ : List Int := ((globTab.get 1).getD []).map intOfIV

set_option maxRecDepth 100000 in
theorem bits_of_laid {W : World} (h : laidMetH Tryz.prog Rows.maskNoneRow.laid W) : Lib.TabIs Tryz.prog W "math/bits.deBruijn32tab" .u8 bitsZ :=
  Lib.tabIs_of_head (rest := [("unicode.White_Space", Rows.laid_unicode_White_Space), ("strings.asciiSpace", Rows.laid_strings_asciiSpace)]) gBits gBitsT Tryz.underlying141 Tryz.underlying5 cells5 cells141 h
set_option maxRecDepth 100000 in
theorem space_of_laid {W : World} (h : laidMetH Tryz.prog Rows.maskNoneRow.laid W) : Lib.TabIs Tryz.prog W "strings.asciiSpace" .u8 spaceZ := by
  have h0 : laidMet Tryz.prog [("math/bits.deBruijn32tab", Rows.laid_math_bits_deBruijn32tab), ("unicode.White_Space", Rows.laid_unicode_White_Space), ("strings.asciiSpace", Rows.laid_strings_asciiSpace)] W := h
  exact Lib.tabIs_of_head (rest := []) gSpace gSpaceT Tryz.underlying197 Tryz.underlying5 cells5 cells197 h0.tail.tail

theorem bits_tab : globTab.get 0 = some (bitsZ.map fun z => .lit (.int .u8 z)) := by kernel_rfl
theorem space_tab : globTab.get 1 = some (spaceZ.map fun z => .lit (.int .u8 z)) := by kernel_rfl
theorem glob_keys : globTab.list.map (·.1) = [0, 1] := by kernel_rfl

theorem glob_ok {W : World} (h : laidMetH Tryz.prog Rows.maskNoneRow.laid W) : GlobOK cx (Env.start W) := by
  intro g c hg
  have hg' : globTab.get g = some c := hg
  have hm : g ∈ globTab.list.map (·.1) := List.mem_map.2 ⟨_, Tr.get_mem globTab hg', rfl⟩
  rw [glob_keys] at hm
  simp only [List.mem_cons, List.not_mem_nil, or_false] at hm
  rcases hm with rfl | rfl
  · rw [bits_tab] at hg'
    injection hg' with hg'
    subst hg'
    exact glob_tab (bits_of_laid h) gBits
  · rw [space_tab] at hg'
    injection hg' with hg'
    subst hg'
    exact glob_tab (space_of_laid h) gSpace

theorem run_all (n : Int) : F cx 300 3 [.i (.lit (.int .i64 n)), .junk] [] = some (.ret (.i (.lit (.bool true))), []) := by
  cases n with
  | ofNat k => cases k with
    | zero => exact run_zero
    | succ k => exact run_pos k
  | negSucc k => exact run_neg k

/-- A world that meets the condition: what the door's own run leaves. -/
theorem door_met (os : Os) (args : Array Value) : laidMetH Tryz.prog Rows.maskNoneRow.laid ((World.doorLaid Tryz.prog 400 os).forCall (fun _ _ => 0) ⟨#[], args, []⟩).memory :=
  laidMetH_of_parts3 (fuel := 8) (laidMet_of_run' 8 (by kernel_rfl) (by kernel_rfl)) (by kernel_rfl) (by kernel_rfl)

set_option maxRecDepth 100000 in
theorem lifted (os : Os) (started : os.Started) (H : Type) (enc : TypeId × Value → H) :
    ReturnsInHanded {} Tryz.checked os 3 .any (fun w args => (Rows.maskNoneSpec.pre enc Tryz.prog Tryz.f3 [] false w args ∧ laidMetH Tryz.prog Rows.maskNoneRow.laid w) ∧ sizedMet enc Tryz.prog Tryz.f3 (OpenSpec.ofChange Rows.maskNoneSpec) false w args)
      (Rows.maskNoneSpec.post enc Tryz.prog Tryz.f3 false true false false) := by
  refine returnsInHanded_of_change_and (C := Tryz.checked) (X := fun w _ => laidMetH Tryz.prog Rows.maskNoneRow.laid w) (fun _ _ _ hh h => h.of_heap hh) own started (by kernel_rfl) Tryz.func3
    (ChangeSpec.witness_shaped (enc := enc) (C := Tryz.checked) (os := os) (X := fun w _ => laidMetH Tryz.prog Rows.maskNoneRow.laid w) false (World.doorLaid Tryz.prog 400 os) #[.int .i64 0, .slice none 0 0] 8 rfl (World.shaped_of_RefB (by kernel_rfl) (by kernel_rfl)) (by kernel_rfl) (by kernel_rfl) (by kernel_rfl) (door_met os _)) ?_
  intro W base args ds gs before hval0 hW _ _ hL _
  have hval : ∀ (j : Nat) t v, Tryz.f3.params[j]? = some t → args[j]? = some v → Value.okWide Tryz.prog W .any base t v := hval0
  have hW' := hW
  obtain ⟨p, q, hA0, hV, rfl, hfz, hnd⟩ := hW
  have hA : DataW.TrodAll enc Tryz.prog W 0 (fun _ => true) true Tryz.f3.params.toList args.toList ds p := hA0
  have hA1 := hA
  rw [Tryz.params3] at hA hval
  obtain ⟨v0, v1, d0, d1, p0, p1, rfl, rfl, rfl, h0, h1⟩ := trodAll_two hA
  obtain ⟨rfl, rfl⟩ := trodVars_none hV
  obtain ⟨n, rfl, rfl, rfl, wn⟩ := open_int Tryz.underlying3 (hval 0 3 v0 rfl rfl) h0
  have hlt : ∀ x ∈ ([] ++ p1), x.block < W.heap.size := fun x hx => hW'.lt x (by simpa using hx)
  refine (law_calls cok (run_all n) (glob_ok hL) (.cons (.lit_mk _ _) (.cons (.junk _) (.nil _)))).mono fun e W' ⟨he, hb⟩ => ?_
  subst he
  refine ⟨_, rfl, post_below (pa := [] ++ p1) (pv := []) hW' (fun _ _ _ => trodAll_mk1 (shut_bool Tryz.underlying4 true)) (fun sp hsp => ?_) (fun _ _ => rfl) rfl hb (ok_one (by kernel_rfl) rfl (okWide_bool_mk Tryz.underlying4 _))⟩
  refine args_stay laidOut hb _ _ _ _ ?_ hA1 hlt sp (fun x hx => hsp x (by simpa using hx))
  intro t ht
  rw [Tryz.params3] at ht
  simp only [List.mem_cons, List.not_mem_nil, or_false] at ht
  rcases ht with rfl | rfl
  · exact ⟨by kernel_rfl, of_decide_eq_true (by kernel_rfl)⟩
  · exact ⟨by kernel_rfl, of_decide_eq_true (by kernel_rfl)⟩

theorem maskNone_said : Rows.MaskNoneSaid :=
  OpenClaim.holds_of_wide 3 Tryz.f3 rfl rfl rfl rfl rfl rfl rfl ⟨rfl, rfl, rfl, rfl, rfl⟩ rfl rfl rfl rfl rfl (by kernel_rfl) Tryz.func3 (by kernel_rfl)
    (of_decide_eq_true (by kernel_rfl)) (by unfold Func.isWrapper; first | (rw [if_pos (by decide +kernel)]; kernel_rfl) | (rw [if_neg (by decide +kernel)]; exact ⟨rfl, rfl⟩))
    (fun os started H enc _ => lifted os started H enc)

theorem plain (f : FuncId) (fn : Func) (hf : Tryz.pinned.checked.prog.funcNamed "drawloom/drawloomlaw15.MaskNone" = some f) (hfn : Tryz.pinned.checked.prog.funcs[f]? = some fn) :
    false = Tryz.pinned.checked.prog.looks [] ∧ ∀ (j : Nat) t, fn.params[j]? = some t → Tryz.pinned.checked.prog.wantsStandIn t = false := by
  obtain rfl : f = 3 := Option.some.inj ((show Tryz.prog.funcNamed "drawloom/drawloomlaw15.MaskNone" = some 3 by kernel_rfl).symm.trans hf) |>.symm
  obtain rfl : fn = Tryz.f3 := (Option.some.inj (Tryz.func3.symm.trans hfn)).symm
  refine ⟨by kernel_rfl, fun j t ht => ?_⟩
  rw [Tryz.params3] at ht
  have hm := Array.mem_of_getElem? ht
  simp only [List.mem_toArray, List.mem_cons, List.not_mem_nil, or_false] at hm
  rcases hm with rfl | rfl
  · exact (show Tryz.prog.wantsStandIn 3 = false by kernel_rfl)
  · exact (show Tryz.prog.wantsStandIn 22 = false by kernel_rfl)

theorem maskNone_card : Rows.MaskNoneCardSaid :=
  Claim7.holds_tied_plain_at .later [] _ _ _ _ maskNone_said (fun _ h => by cases h) (by kernel_rfl) (fun _ h => by cases h) maskNone_row_tie rfl ⟨rfl, rfl⟩ (by kernel_rfl) rfl plain (by kernel_rfl)
#print axioms maskNone_card
end Go.Proofs.YtbchgamdefhekaaGreatDoor.A
