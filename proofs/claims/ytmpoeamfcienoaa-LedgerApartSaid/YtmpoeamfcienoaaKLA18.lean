/- For every input LedgerApart returns true, and its arguments read as they did. No conditions. -/
import Derived.Test.YtmpoeamfcienoaaRows
import Derived.Test.YtmpoeamfcienoaaKLA17
section
namespace Go.Proofs.Ytmpoeamfcienoaa
open Go.ChangeShapes Go.WideShapes Go.ChangeAt Go.RowKit Go.Ab
set_option linter.unusedVariables false
set_option maxRecDepth 100000
def shStp : Sh := .st (.fcons (.slice shPrt) (.fcons shPlc .fnil))
structure StpWf (x : Stp) : Prop where
  ps : ∀ p ∈ x.l, p.Wf
  pl : x.l.length ≤ maxLen
theorem stp_dec (r : List AV) (h : shStp.good r) : ∃ a : Stp, StpWf a ∧ r = a.cells := by
  obtain ⟨_, _, h1, ⟨_, _, h2, rfl, rfl⟩, rfl⟩ := h
  obtain ⟨ps, k1, k2, rfl⟩ := slice_dec (av := Prt.av) prt_dec (fun _ => rfl) h1
  obtain ⟨b, k3, rfl⟩ := plc_dec _ h2
  exact ⟨⟨ps, b.sg, b.at_⟩, ⟨k2, k1⟩, rfl⟩
theorem ledgerApart_lifted (os : Os) (started : os.Started) (H : Type) (enc : TypeId × Value → H) :
    ReturnsInHanded {} Try.checked os F_ladelaw14_LedgerApart .any (Rows.ledgerApartSpec.pre6 enc Try.prog Try.f7 Rows.ledgerApartRow.domain false) (Rows.ledgerApartSpec.post enc Try.prog Try.f7 false true false false) := by
  refine lift_true ([.slice shStp, .int .u8].map Sh.goodV) (C := Try.checked) (r := 4) (by kernel_rfl) started (by kernel_rfl) Try.func7
    (ChangeSpec.witness6 (enc := enc) (C := Try.checked) false ⟨#[], #[.slice none 0 0, .int .u8 0], []⟩ 8 (by kernel_rfl) (by kernel_rfl) (by kernel_rfl) (by kernel_rfl))
    rfl (fun ds h => ?_) rfl (by kernel_rfl) (by kernel_rfl) (of_decide_eq_true (by kernel_rfl)) (rd_of_ok (by kernel_rfl)) ?_
  · match ds, h with
    | [_, _], _ => rfl
  · rintro _ ⟨_, _, rfl, h1, _, _, rfl, ⟨n, h2, h3⟩, rfl⟩
    obtain ⟨l, k1, k2, k3⟩ := slice_dec (av := Stp.av) stp_dec (fun _ => rfl) h1
    simp only [List.cons.injEq, and_true] at k3 h2
    subst k3 h2
    have e : maxLen = 9223372036854775807 := rfl
    exact ct_ladelaw14_LedgerApart (u8_wf h3) (by omega) (fun f hf => by have := (k2 f hf).pl; omega) (fun f hf p hp => by have := ((k2 f hf).ps p hp).el; omega)
theorem ledgerApart_holds : Rows.LedgerApartSaid :=
  OpenClaim.holds_of_wide F_ladelaw14_LedgerApart Try.f7 rfl rfl rfl rfl rfl rfl rfl ⟨rfl, rfl, rfl, rfl, rfl⟩ rfl rfl rfl rfl rfl (by kernel_rfl) Try.func7 (by kernel_rfl)
    (of_decide_eq_true (by kernel_rfl)) (by unfold Func.isWrapper; rw [if_neg (by decide +kernel)]; exact ⟨rfl, rfl⟩)
    (fun os started H enc _ => ledgerApart_lifted os started H enc)
#print axioms ledgerApart_holds
end Go.Proofs.Ytmpoeamfcienoaa
end
