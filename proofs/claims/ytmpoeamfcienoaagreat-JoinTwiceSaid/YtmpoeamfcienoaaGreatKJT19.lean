/- For every input JoinTwice returns true, and its arguments read as they did. No conditions. -/
import Derived.Test.YtmpoeamfcienoaaGreatRows
import Derived.Test.YtmpoeamfcienoaaGreatKJT18
section
namespace Go.Proofs.YtmpoeamfcienoaaGreat
open Go.ChangeShapes Go.WideShapes Go.ChangeAt Go.RowKit Go.Ab
set_option linter.unusedVariables false
set_option maxRecDepth 100000
theorem joinTwice_lifted (os : Os) (started : os.Started) (H : Type) (enc : TypeId × Value → H) :
    ReturnsInHanded {} Tryz.checked os F_ladelaw20_JoinTwice .any (Rows.joinTwiceSpec.pre6 enc Tryz.prog Tryz.f3 Rows.joinTwiceRow.domain false) (Rows.joinTwiceSpec.post enc Tryz.prog Tryz.f3 false true false false) := by
  refine lift_true ([.slice shPrt, .slice shPrt, shPlc, shPlc].map Sh.goodV) (C := Tryz.checked) (r := 4) (by kernel_rfl) started (by kernel_rfl) Tryz.func3
    (ChangeSpec.witness6 (enc := enc) (C := Tryz.checked) false ⟨#[], #[.slice none 0 0, .slice none 0 0, .agg #[.int .i64 0, .int .i64 0], .agg #[.int .i64 0, .int .i64 0]], []⟩ 8 (by kernel_rfl) (by kernel_rfl) (by kernel_rfl) (by kernel_rfl))
    rfl (fun ds h => ?_) rfl (by kernel_rfl) (by kernel_rfl) (of_decide_eq_true (by kernel_rfl)) (rd_of_ok (by kernel_rfl)) ?_
  · match ds, h with
    | [_, _, _, _], _ => rfl
  · rintro _ ⟨_, _, rfl, h1, _, _, rfl, h2, _, _, rfl, ⟨x3, h3, rfl⟩, _, _, rfl, ⟨x4, h4, rfl⟩, rfl⟩
    obtain ⟨l, k1, k2, k3⟩ := slice_dec (av := Prt.av) prt_dec (fun _ => rfl) h1
    obtain ⟨m, m1, m2, m3⟩ := slice_dec (av := Prt.av) prt_dec (fun _ => rfl) h2
    obtain ⟨p, w3, rfl⟩ := plc_dec _ h3
    obtain ⟨q, w4, rfl⟩ := plc_dec _ h4
    simp only [List.cons.injEq, and_true] at k3 m3
    subst k3 m3
    have e : maxLen = 9223372036854775807 := rfl
    exact ct_ladelaw20_JoinTwice (by omega) (by omega) (fun p hp => by have := (k2 p hp).el; omega) (fun p hp => by have := (m2 p hp).el; omega)
theorem joinTwice_holds : Rows.JoinTwiceSaid :=
  OpenClaim.holds_of_wide F_ladelaw20_JoinTwice Tryz.f3 rfl rfl rfl rfl rfl rfl rfl ⟨rfl, rfl, rfl, rfl, rfl⟩ rfl rfl rfl rfl rfl (by kernel_rfl) Tryz.func3 (by kernel_rfl)
    (of_decide_eq_true (by kernel_rfl)) (by unfold Func.isWrapper; rw [if_neg (by decide +kernel)]; exact ⟨rfl, rfl⟩)
    (fun os started H enc _ => joinTwice_lifted os started H enc)
#print axioms joinTwice_holds
end Go.Proofs.YtmpoeamfcienoaaGreat
end
