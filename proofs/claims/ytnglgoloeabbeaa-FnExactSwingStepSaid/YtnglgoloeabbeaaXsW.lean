/-
  The law FnExactSwingStep: for every input it returns true, and what it read reads behind the call as it read before; no further condition.
-/
import Derived.Test.YtnglgoloeabbeaaRows
import Derived.Test.YtnglgoloeabbeaaNB
import Derived.Test.YtnglgoloeabbeaaXsV
namespace Go.Proofs.Ytnglgoloeabbeaa
open Go Go.Sx Go.ChangeShapes Go.WideShapes Go.ChangeAt Go.RowKit
set_option linter.unusedSimpArgs false
set_option linter.unusedVariables false

theorem Try.own : ownKnob Try.prog.godebug = none := by kernel_rfl
theorem Try.laidOut : laidOutB Try.prog = true := by kernel_rfl
theorem Try.mixed : Try.prog.follows .mixedOrders = true := by kernel_rfl

theorem fnExactSwingStep_data {w : World} {vs : List Value} {dd : List D} {ro M A : List Nat}
    (h : ArgsIn w [.val [(.sl [.int .i64, .int .i64, .int .i64, .sl [.int .i64]], .ro)] true, .val [(.sl [.sl [.int .i64]], .ro), (.int .i64, .ro)] true, .val [(.sl [.sl [.int .i64]], .ro), (.int .i64, .ro), (.bool, .ro)] true, .val [(.int .i64, .ro)] false, .val [(.int .i64, .ro)] false] vs dd ro M A) :
    ∃ (l : List OpS) (v r : List (List Int)) (k x rate mom : Int) (s : Bool), dd = [vO l, vR v, .int k, vR r, .int x, .bool s, .int rate, .int mom] ∧ (Lo l ∧ ∀ o ∈ l, Lo o.p) ∧ (Lo v ∧ ∀ y ∈ v, Lo y) ∧ (Lo r ∧ ∀ y ∈ r, Lo y) := by
  obtain ⟨_, _, _, _, _, _, _, _, _, _, rfl, c10, h1⟩ := h.step
  obtain ⟨_, _, _, _, _, _, _, rfl, a1, c11⟩ := c10.step
  have t1 := c11.done
  subst t1
  obtain ⟨_, _, _, _, _, _, _, _, _, _, rfl, c20, h2⟩ := h1.step
  obtain ⟨_, _, _, _, _, _, _, rfl, a2, c21⟩ := c20.step
  obtain ⟨_, _, _, _, _, _, _, rfl, a3, c22⟩ := c21.step
  have t2 := c22.done
  subst t2
  obtain ⟨_, _, _, _, _, _, _, _, _, _, rfl, c30, h3⟩ := h2.step
  obtain ⟨_, _, _, _, _, _, _, rfl, a4, c31⟩ := c30.step
  obtain ⟨_, _, _, _, _, _, _, rfl, a5, c32⟩ := c31.step
  obtain ⟨_, _, _, _, _, _, _, rfl, a6, c33⟩ := c32.step
  have t3 := c33.done
  subst t3
  obtain ⟨_, _, _, _, _, _, _, _, _, _, rfl, c40, h4⟩ := h3.step
  obtain ⟨_, _, _, _, _, _, _, rfl, a7, c41⟩ := c40.step
  have t4 := c41.done
  subst t4
  obtain ⟨_, _, _, _, _, _, _, _, _, _, rfl, c50, h5⟩ := h4.step
  obtain ⟨_, _, _, _, _, _, _, rfl, a8, c51⟩ := c50.step
  have t5 := c51.done
  subst t5
  have t6 := h5.done
  subst t6
  obtain ⟨l, rfl, hl⟩ := a1.asOps
  obtain ⟨v, rfl, hv⟩ := a2.asRows
  obtain ⟨k, rfl, _⟩ := a3.asInt
  obtain ⟨r, rfl, hr⟩ := a4.asRows
  obtain ⟨x, rfl, _⟩ := a5.asInt
  obtain ⟨s, rfl⟩ := a6.asBool
  obtain ⟨rate, rfl, _⟩ := a7.asInt
  obtain ⟨mom, rfl, _⟩ := a8.asInt
  exact ⟨l, v, r, k, x, rate, mom, s, rfl, hl, hv, hr⟩

set_option maxRecDepth 100000 in
theorem fnExactSwingStep_lifted (os : Os) (started : os.Started) (H : Type) (enc : TypeId × Value → H) :
    ReturnsInHanded {} Try.checked os 5 .any (Rows.fnExactSwingStepSpec.pre6 enc Try.prog Try.f5 Rows.fnExactSwingStepRow.domain false) (Rows.fnExactSwingStepSpec.post enc Try.prog Try.f5 false true false false) := by
  refine returnsInHanded_of_change (C := Try.checked) Try.own started (by kernel_rfl) Try.func5
    (ChangeSpec.witness6 (enc := enc) (C := Try.checked) false ⟨#[], #[.agg #[.slice none 0 0], .agg #[.slice none 0 0, .int .i64 0], .agg #[.slice none 0 0, .int .i64 0, .bool false], .int .i64 0, .int .i64 0], []⟩ 8 (by kernel_rfl) (by kernel_rfl) (by kernel_rfl) (by kernel_rfl)) ?_
  intro W base args ds gs before hval0 hW _ _
  have hval : ∀ (j : Nat) t v, Try.f5.params.toList[j]? = some t → args.toList[j]? = some v → Value.okWide Try.prog W .any base t v := fun j t v a b => hval0 j t v (by simpa using a) (by simpa using b)
  have hW' := hW
  obtain ⟨p, q, hA0, hV, e, hfz, hnd⟩ := hW
  have hA : DataW.TrodAll enc Try.prog W 0 (fun _ => true) true Try.f5.params.toList args.toList ds p := hA0
  obtain ⟨rfl, rfl⟩ := trodVars_none hV
  obtain ⟨dd, ro, hin⟩ := args_in (n := 20) (pks := [.val [(.sl [.int .i64, .int .i64, .int .i64, .sl [.int .i64]], .ro)] true, .val [(.sl [.sl [.int .i64]], .ro), (.int .i64, .ro)] true, .val [(.sl [.sl [.int .i64]], .ro), (.int .i64, .ro), (.bool, .ro)] true, .val [(.int .i64, .ro)] false, .val [(.int .i64, .ro)] false]) _ _ _ _ (by kernel_rfl) hA hval
  obtain ⟨l, v, r, k, x, rate, mom, s, rfl, hl, hv, hr⟩ := fnExactSwingStep_data hin
  have hL := L_w_FnExactSwingStep (k := k) (x := x) (rate := rate) (mom := mom) (s := s) hl.1 hl.2 hv.1 hv.2 hr.1 hr.2
  have hc := law_calls Try.mixed tb_ok (f := 5) (sg := d_w_FnExactSwingStep.sg) (by kernel_rfl) rfl hin hL.1 hL.2
  rw [Array.toArray_toList] at hc
  refine hc.mono ?_
  rintro e' W' ⟨rfl, hB⟩
  have hds : ∃ d1 d2 d3 d4 d5, ds = [d1, d2, d3, d4, d5] := by
    rw [Try.params5] at hA
    obtain ⟨_, _, d1, _, _, _, _, rfl, _, _, h2⟩ := trodAll_cons hA
    obtain ⟨_, _, d2, _, _, _, _, rfl, _, _, h2⟩ := trodAll_cons h2
    obtain ⟨_, _, d3, _, _, _, _, rfl, _, _, h2⟩ := trodAll_cons h2
    obtain ⟨_, _, d4, _, _, _, _, rfl, _, _, h2⟩ := trodAll_cons h2
    obtain ⟨_, _, d5, _, _, _, _, rfl, _, _, h2⟩ := trodAll_cons h2
    obtain ⟨_, rfl, _⟩ := trodAll_nil h2
    exact ⟨d1, d2, d3, d4, d5, rfl⟩
  obtain ⟨d1, d2, d3, d4, d5, rfl⟩ := hds
  exact ⟨_, rfl, law_post (tb := 4) Try.laidOut (by kernel_rfl) rfl (by kernel_rfl) (by kernel_rfl) rfl rfl rfl hW' hB⟩

theorem fnExactSwingStep_holds : Rows.FnExactSwingStepSaid :=
  OpenClaim.holds_of_wide 5 Try.f5 rfl rfl rfl rfl rfl rfl rfl ⟨rfl, rfl, rfl, rfl, rfl⟩ rfl rfl rfl rfl rfl (by kernel_rfl) Try.func5 (by kernel_rfl)
    (of_decide_eq_true (by kernel_rfl)) (by unfold Func.isWrapper; first | (rw [if_pos (by decide +kernel)]; kernel_rfl) | (rw [if_neg (by decide +kernel)]; exact ⟨rfl, rfl⟩))
    (fun os started H enc _ => fnExactSwingStep_lifted os started H enc)

end Go.Proofs.Ytnglgoloeabbeaa
