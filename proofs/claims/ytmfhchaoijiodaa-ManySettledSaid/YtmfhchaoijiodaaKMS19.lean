/- For every input ManyLimits, ManyAnew, ManySettled return true, and their arguments read as they did. No conditions. -/
import Derived.Test.YtmfhchaoijiodaaRows
import Derived.Test.YtmfhchaoijiodaaKMS18
section
namespace Go.Proofs.Ytmfhchaoijiodaa
open Go.ChangeShapes Go.WideShapes Go.ChangeAt Go.RowKit Go.Ab
set_option linter.unusedVariables false
set_option maxRecDepth 100000
theorem manyLimits_lifted (os : Os) (started : os.Started) (H : Type) (enc : TypeId × Value → H) :
    ReturnsInHanded {} Try.checked os F_ladelaw7_ManyLimits .any (Rows.manyLimitsSpec.pre6 enc Try.prog Try.f6 Rows.manyLimitsRow.domain false) (Rows.manyLimitsSpec.post enc Try.prog Try.f6 false true false false) := by
  refine lift_true ([.int .u8, .int .u8].map Sh.goodV) (C := Try.checked) (r := 4) (by kernel_rfl) started (by kernel_rfl) Try.func6
    (ChangeSpec.witness6 (enc := enc) (C := Try.checked) false ⟨#[], #[.int .u8 0, .int .u8 0], []⟩ 8 (by kernel_rfl) (by kernel_rfl) (by kernel_rfl) (by kernel_rfl))
    rfl (fun ds h => ?_) rfl (by kernel_rfl) (by kernel_rfl) (of_decide_eq_true (by kernel_rfl)) (rd_of_ok (by kernel_rfl)) ?_
  · match ds, h with
    | [_, _], _ => rfl
  · rintro _ ⟨_, _, rfl, ⟨n, h2, h3⟩, _, _, rfl, ⟨m, h4, h5⟩, rfl⟩
    simp only [List.cons.injEq, and_true] at h2 h4
    subst h2 h4
    exact ct_ladelaw7_ManyLimits (u8_wf h3) (u8_wf h5)
theorem manyLimits_holds : Rows.ManyLimitsSaid :=
  OpenClaim.holds_of_wide F_ladelaw7_ManyLimits Try.f6 rfl rfl rfl rfl rfl rfl rfl ⟨rfl, rfl, rfl, rfl, rfl⟩ rfl rfl rfl rfl rfl (by kernel_rfl) Try.func6 (by kernel_rfl)
    (of_decide_eq_true (by kernel_rfl)) (by unfold Func.isWrapper; rw [if_neg (by decide +kernel)]; exact ⟨rfl, rfl⟩)
    (fun os started H enc _ => manyLimits_lifted os started H enc)
#print axioms manyLimits_holds
theorem manyAnew_lifted (os : Os) (started : os.Started) (H : Type) (enc : TypeId × Value → H) :
    ReturnsInHanded {} Try.checked os F_ladelaw7_ManyAnew .any (Rows.manyAnewSpec.pre6 enc Try.prog Try.f4 Rows.manyAnewRow.domain false) (Rows.manyAnewSpec.post enc Try.prog Try.f4 false true false false) := by
  refine lift_true ([.int .u8, .int .u8].map Sh.goodV) (C := Try.checked) (r := 4) (by kernel_rfl) started (by kernel_rfl) Try.func4
    (ChangeSpec.witness6 (enc := enc) (C := Try.checked) false ⟨#[], #[.int .u8 0, .int .u8 0], []⟩ 8 (by kernel_rfl) (by kernel_rfl) (by kernel_rfl) (by kernel_rfl))
    rfl (fun ds h => ?_) rfl (by kernel_rfl) (by kernel_rfl) (of_decide_eq_true (by kernel_rfl)) (rd_of_ok (by kernel_rfl)) ?_
  · match ds, h with
    | [_, _], _ => rfl
  · rintro _ ⟨_, _, rfl, ⟨n, h2, h3⟩, _, _, rfl, ⟨m, h4, h5⟩, rfl⟩
    simp only [List.cons.injEq, and_true] at h2 h4
    subst h2 h4
    exact ct_ladelaw7_ManyAnew (u8_wf h3) (u8_wf h5)
theorem manyAnew_holds : Rows.ManyAnewSaid :=
  OpenClaim.holds_of_wide F_ladelaw7_ManyAnew Try.f4 rfl rfl rfl rfl rfl rfl rfl ⟨rfl, rfl, rfl, rfl, rfl⟩ rfl rfl rfl rfl rfl (by kernel_rfl) Try.func4 (by kernel_rfl)
    (of_decide_eq_true (by kernel_rfl)) (by unfold Func.isWrapper; rw [if_neg (by decide +kernel)]; exact ⟨rfl, rfl⟩)
    (fun os started H enc _ => manyAnew_lifted os started H enc)
#print axioms manyAnew_holds
theorem manySettled_lifted (os : Os) (started : os.Started) (H : Type) (enc : TypeId × Value → H) :
    ReturnsInHanded {} Try.checked os F_ladelaw7_ManySettled .any (Rows.manySettledSpec.pre6 enc Try.prog Try.f5 Rows.manySettledRow.domain false) (Rows.manySettledSpec.post enc Try.prog Try.f5 false true false false) := by
  refine lift_true ([.int .u8, .int .u16, .bool].map Sh.goodV) (C := Try.checked) (r := 4) (by kernel_rfl) started (by kernel_rfl) Try.func5
    (ChangeSpec.witness6 (enc := enc) (C := Try.checked) false ⟨#[], #[.int .u8 0, .int .u16 0, .bool false], []⟩ 8 (by kernel_rfl) (by kernel_rfl) (by kernel_rfl) (by kernel_rfl))
    rfl (fun ds h => ?_) rfl (by kernel_rfl) (by kernel_rfl) (of_decide_eq_true (by kernel_rfl)) (rd_of_ok (by kernel_rfl)) ?_
  · match ds, h with
    | [_, _, _], _ => rfl
  · rintro _ ⟨_, _, rfl, ⟨n, h2, h3⟩, _, _, rfl, ⟨m, h4, h5⟩, _, _, rfl, ⟨q, h6⟩, rfl⟩
    simp only [List.cons.injEq, and_true] at h2 h4 h6
    subst h2 h4 h6
    exact ct_ladelaw7_ManySettled (u8_wf h3) (u16_wf h5)
theorem manySettled_holds : Rows.ManySettledSaid :=
  OpenClaim.holds_of_wide F_ladelaw7_ManySettled Try.f5 rfl rfl rfl rfl rfl rfl rfl ⟨rfl, rfl, rfl, rfl, rfl⟩ rfl rfl rfl rfl rfl (by kernel_rfl) Try.func5 (by kernel_rfl)
    (of_decide_eq_true (by kernel_rfl)) (by unfold Func.isWrapper; rw [if_neg (by decide +kernel)]; exact ⟨rfl, rfl⟩)
    (fun os started H enc _ => manySettled_lifted os started H enc)
#print axioms manySettled_holds
end Go.Proofs.Ytmfhchaoijiodaa
end
