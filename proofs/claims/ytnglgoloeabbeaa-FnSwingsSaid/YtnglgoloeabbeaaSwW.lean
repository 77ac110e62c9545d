/-
  The law FnSwings: for every input it returns true, and what it read reads behind the call as it read before; no further condition.
-/
import Derived.Test.YtnglgoloeabbeaaRows
import Derived.Test.YtnglgoloeabbeaaNA
import Derived.Test.YtnglgoloeabbeaaSwS
namespace Go.Proofs.Ytnglgoloeabbeaa
open Go Go.Sx Go.ChangeShapes Go.WideShapes Go.ChangeAt Go.RowKit
set_option linter.unusedSimpArgs false
set_option linter.unusedVariables false

theorem Try.own : ownKnob Try.prog.godebug = none := by kernel_rfl
theorem Try.laidOut : laidOutB Try.prog = true := by kernel_rfl
theorem Try.mixed : Try.prog.follows .mixedOrders = true := by kernel_rfl

set_option maxRecDepth 100000 in
theorem fnSwings_lifted (os : Os) (started : os.Started) (H : Type) (enc : TypeId × Value → H) :
    ReturnsInHanded {} Try.checked os 7 .any (Rows.fnSwingsSpec.pre6 enc Try.prog Try.f7 Rows.fnSwingsRow.domain false) (Rows.fnSwingsSpec.post enc Try.prog Try.f7 false true false false) := by
  refine returnsInHanded_of_change (C := Try.checked) Try.own started (by kernel_rfl) Try.func7
    (ChangeSpec.witness6 (enc := enc) (C := Try.checked) false ⟨#[], #[.slice none 0 0], []⟩ 8 (by kernel_rfl) (by kernel_rfl) (by kernel_rfl) (by kernel_rfl)) ?_
  intro W base args ds gs before hval0 hW _ _
  have hval : ∀ (j : Nat) t v, Try.f7.params.toList[j]? = some t → args.toList[j]? = some v → Value.okWide Try.prog W .any base t v := fun j t v a b => hval0 j t v (by simpa using a) (by simpa using b)
  have hW' := hW
  obtain ⟨p, q, hA0, hV, e, hfz, hnd⟩ := hW
  have hA : DataW.TrodAll enc Try.prog W 0 (fun _ => true) true Try.f7.params.toList args.toList ds p := hA0
  obtain ⟨rfl, rfl⟩ := trodVars_none hV
  obtain ⟨dd, ro, hin⟩ := args_in (n := 20) (pks := [.val [(.sl [.int .u8], .ro)] false]) _ _ _ _ (by kernel_rfl) hA hval
  have hd := args_one hin
  obtain ⟨cd, rfl⟩ := hd
  have hL := @L_w_FnSwings cd
  have hc := law_calls Try.mixed tb_ok (f := 7) (sg := d_w_FnSwings.sg) (by kernel_rfl) rfl hin hL.1 hL.2
  rw [Array.toArray_toList] at hc
  refine hc.mono ?_
  rintro e' W' ⟨rfl, hB⟩
  have hds : ∃ d, ds = [d] := by
    rw [Try.params7] at hA
    obtain ⟨_, _, d, _, _, _, _, rfl, _, _, h2⟩ := trodAll_cons hA
    obtain ⟨_, rfl, _⟩ := trodAll_nil h2
    exact ⟨d, rfl⟩
  obtain ⟨d, rfl⟩ := hds
  exact ⟨_, rfl, law_post (tb := 4) Try.laidOut (by kernel_rfl) rfl (by kernel_rfl) (by kernel_rfl) rfl rfl rfl hW' hB⟩

theorem fnSwings_holds : Rows.FnSwingsSaid :=
  OpenClaim.holds_of_wide 7 Try.f7 rfl rfl rfl rfl rfl rfl rfl ⟨rfl, rfl, rfl, rfl, rfl⟩ rfl rfl rfl rfl rfl (by kernel_rfl) Try.func7 (by kernel_rfl)
    (of_decide_eq_true (by kernel_rfl)) (by unfold Func.isWrapper; first | (rw [if_pos (by decide +kernel)]; kernel_rfl) | (rw [if_neg (by decide +kernel)]; exact ⟨rfl, rfl⟩))
    (fun os started H enc _ => fnSwings_lifted os started H enc)

end Go.Proofs.Ytnglgoloeabbeaa
