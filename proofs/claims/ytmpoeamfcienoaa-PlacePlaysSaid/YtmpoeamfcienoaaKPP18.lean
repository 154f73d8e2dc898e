/- For every input PlacePlays returns true, and its arguments read as they did. No conditions. -/
import Derived.Test.YtmpoeamfcienoaaRows
import Derived.Test.YtmpoeamfcienoaaKPP17
section
namespace Go.Proofs.Ytmpoeamfcienoaa
open Go.ChangeShapes Go.WideShapes Go.ChangeAt Go.RowKit Go.Ab
set_option linter.unusedVariables false
set_option maxRecDepth 100000
def shStP : Sh := .st (.fcons shPrt (.fcons shPlc (.fcons .bool .fnil)))
theorem stP_dec (r : List AV) (h : shStP.good r) : ∃ a : StP, a.p.Wf ∧ r = a.cells := by
  obtain ⟨_, _, h1, ⟨_, _, h2, ⟨_, _, ⟨b, rfl⟩, rfl, rfl⟩, rfl⟩, rfl⟩ := h
  obtain ⟨p, k1, rfl⟩ := prt_dec _ h1
  obtain ⟨q, k2, rfl⟩ := plc_dec _ h2
  exact ⟨⟨p, q, b⟩, k1, rfl⟩
theorem placePlays_lifted (os : Os) (started : os.Started) (H : Type) (enc : TypeId × Value → H) :
    ReturnsInHanded {} Try.checked os F_ladelaw13_PlacePlays .any (Rows.placePlaysSpec.pre6 enc Try.prog Try.f3 Rows.placePlaysRow.domain false) (Rows.placePlaysSpec.post enc Try.prog Try.f3 false true false false) := by
  refine lift_true ([shI, .slice shStP, shI].map Sh.goodV) (C := Try.checked) (r := 4) (by kernel_rfl) started (by kernel_rfl) Try.func3
    (ChangeSpec.witness6 (enc := enc) (C := Try.checked) false ⟨#[], #[.int .i64 0, .slice none 0 0, .int .i64 0], []⟩ 8 (by kernel_rfl) (by kernel_rfl) (by kernel_rfl) (by kernel_rfl))
    rfl (fun ds h => ?_) rfl (by kernel_rfl) (by kernel_rfl) (of_decide_eq_true (by kernel_rfl)) (rd_of_ok (by kernel_rfl)) ?_
  · match ds, h with
    | [_, _, _], _ => rfl
  · rintro _ ⟨_, _, rfl, ⟨n, h2, _⟩, _, _, rfl, h1, _, _, rfl, ⟨m, h3, _⟩, rfl⟩
    obtain ⟨l, k1, k2, k3⟩ := slice_dec (av := StP.av) stP_dec (fun _ => rfl) h1
    simp only [List.cons.injEq, and_true] at k3 h2 h3
    subst k3 h2 h3
    exact ct_ladelaw13_PlacePlays (by have e : maxLen = 9223372036854775807 := rfl; omega) (fun f hf => by have e : maxLen = 9223372036854775807 := rfl; have := (k2 f hf).el; omega)
theorem placePlays_holds : Rows.PlacePlaysSaid :=
  OpenClaim.holds_of_wide F_ladelaw13_PlacePlays Try.f3 rfl rfl rfl rfl rfl rfl rfl ⟨rfl, rfl, rfl, rfl, rfl⟩ rfl rfl rfl rfl rfl (by kernel_rfl) Try.func3 (by kernel_rfl)
    (of_decide_eq_true (by kernel_rfl)) (by unfold Func.isWrapper; rw [if_neg (by decide +kernel)]; exact ⟨rfl, rfl⟩)
    (fun os started H enc _ => placePlays_lifted os started H enc)
#print axioms placePlays_holds
end Go.Proofs.Ytmpoeamfcienoaa
end
