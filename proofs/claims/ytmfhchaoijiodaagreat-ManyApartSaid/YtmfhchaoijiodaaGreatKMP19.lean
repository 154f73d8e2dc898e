/- For every input ManyWhole, ManyApart return true, and their arguments read as they did. No conditions. -/
import Derived.Test.YtmfhchaoijiodaaGreatRows
import Derived.Test.YtmfhchaoijiodaaGreatKMP18
section
namespace Go.Proofs.YtmfhchaoijiodaaGreat
open Go.ChangeShapes Go.WideShapes Go.ChangeAt Go.RowKit Go.Ab
set_option linter.unusedVariables false
set_option maxRecDepth 100000
theorem manyWhole_lifted (os : Os) (started : os.Started) (H : Type) (enc : TypeId × Value → H) :
    ReturnsInHanded {} Tryz.checked os F_ladelaw7_ManyWhole .any (Rows.manyWholeSpec.pre6 enc Tryz.prog Tryz.f4 Rows.manyWholeRow.domain false) (Rows.manyWholeSpec.post enc Tryz.prog Tryz.f4 false true false false) := by
  refine lift_true ([.slice shGrp, .slice shPrt].map Sh.goodV) (C := Tryz.checked) (r := 4) (by kernel_rfl) started (by kernel_rfl) Tryz.func4
    (ChangeSpec.witness6 (enc := enc) (C := Tryz.checked) false ⟨#[], #[.slice none 0 0, .slice none 0 0], []⟩ 8 (by kernel_rfl) (by kernel_rfl) (by kernel_rfl) (by kernel_rfl))
    rfl (fun ds h => ?_) rfl (by kernel_rfl) (by kernel_rfl) (of_decide_eq_true (by kernel_rfl)) (rd_of_ok (by kernel_rfl)) ?_
  · match ds, h with
    | [_, _], _ => rfl
  · rintro _ ⟨_, _, rfl, h1, _, _, rfl, h2, rfl⟩
    obtain ⟨l, k1, k2, k3⟩ := slice_dec (av := Grp.av) grp_dec (fun _ => rfl) h1
    obtain ⟨m, m1, m2, m3⟩ := slice_dec (av := Prt.av) prt_dec (fun _ => rfl) h2
    skip
    simp only [List.cons.injEq, and_true] at k3 m3
    subst k3 m3
    have e : maxLen = 9223372036854775807 := rfl
    exact ct_ladelaw7_ManyWhole (by omega) (fun g hg => by have := (k2 g hg).el; omega) (by omega) (fun p hp => by have := (m2 p hp).el; omega)
theorem manyWhole_holds : Rows.ManyWholeSaid :=
  OpenClaim.holds_of_wide F_ladelaw7_ManyWhole Tryz.f4 rfl rfl rfl rfl rfl rfl rfl ⟨rfl, rfl, rfl, rfl, rfl⟩ rfl rfl rfl rfl rfl (by kernel_rfl) Tryz.func4 (by kernel_rfl)
    (of_decide_eq_true (by kernel_rfl)) (by unfold Func.isWrapper; rw [if_neg (by decide +kernel)]; exact ⟨rfl, rfl⟩)
    (fun os started H enc _ => manyWhole_lifted os started H enc)
#print axioms manyWhole_holds
theorem manyApart_lifted (os : Os) (started : os.Started) (H : Type) (enc : TypeId × Value → H) :
    ReturnsInHanded {} Tryz.checked os F_ladelaw7_ManyApart .any (Rows.manyApartSpec.pre6 enc Tryz.prog Tryz.f5 Rows.manyApartRow.domain false) (Rows.manyApartSpec.post enc Tryz.prog Tryz.f5 false true false false) := by
  refine lift_true ([.slice shGrp, .slice shPrt, .slice shPrt].map Sh.goodV) (C := Tryz.checked) (r := 4) (by kernel_rfl) started (by kernel_rfl) Tryz.func5
    (ChangeSpec.witness6 (enc := enc) (C := Tryz.checked) false ⟨#[], #[.slice none 0 0, .slice none 0 0, .slice none 0 0], []⟩ 8 (by kernel_rfl) (by kernel_rfl) (by kernel_rfl) (by kernel_rfl))
    rfl (fun ds h => ?_) rfl (by kernel_rfl) (by kernel_rfl) (of_decide_eq_true (by kernel_rfl)) (rd_of_ok (by kernel_rfl)) ?_
  · match ds, h with
    | [_, _, _], _ => rfl
  · rintro _ ⟨_, _, rfl, h1, _, _, rfl, h2, _, _, rfl, h3, rfl⟩
    obtain ⟨l, k1, k2, k3⟩ := slice_dec (av := Grp.av) grp_dec (fun _ => rfl) h1
    obtain ⟨m, m1, m2, m3⟩ := slice_dec (av := Prt.av) prt_dec (fun _ => rfl) h2
    obtain ⟨b, b1, b2, b3⟩ := slice_dec (av := Prt.av) prt_dec (fun _ => rfl) h3
    simp only [List.cons.injEq, and_true] at k3 m3 b3
    subst k3 m3 b3
    have e : maxLen = 9223372036854775807 := rfl
    exact ct_ladelaw7_ManyApart (by omega) (fun g hg => by have := (k2 g hg).el; omega) (by omega) (fun p hp => by have := (m2 p hp).el; omega) (by omega) (fun p hp => by have := (b2 p hp).el; omega)
theorem manyApart_holds : Rows.ManyApartSaid :=
  OpenClaim.holds_of_wide F_ladelaw7_ManyApart Tryz.f5 rfl rfl rfl rfl rfl rfl rfl ⟨rfl, rfl, rfl, rfl, rfl⟩ rfl rfl rfl rfl rfl (by kernel_rfl) Tryz.func5 (by kernel_rfl)
    (of_decide_eq_true (by kernel_rfl)) (by unfold Func.isWrapper; rw [if_neg (by decide +kernel)]; exact ⟨rfl, rfl⟩)
    (fun os started H enc _ => manyApart_lifted os started H enc)
#print axioms manyApart_holds
end Go.Proofs.YtmfhchaoijiodaaGreat
end
