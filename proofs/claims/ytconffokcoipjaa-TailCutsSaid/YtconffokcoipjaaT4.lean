/- The row of TailCuts: for every input the law returns true; the input reads as it did. -/
import Derived.Test.YtconffokcoipjaaRows
import Derived.Test.YtconffokcoipjaaT3
import Derived.ProofKit
namespace Go.Proofs.Ytconffokcoipjaa
open Go.ChangeShapes Go.WideShapes Go.ChangeAt Go.RowKit Go.Ab
set_option linter.unusedVariables false

theorem Try.own : ownKnob Try.prog.godebug = none := by kernel_rfl
theorem Try.laidOut : laidOutB Try.prog = true := by kernel_rfl

/-- where nothing is known yet -/
def Cx.none' : Cx := { n := 0, mu := fun _ => 0, tend := fun _ => 0, csz := fun _ => 0, arr := fun _ => [] }
theorem rel_empty (w : World) : Rel (compCode Try.prog) Cx.none' AState.empty w :=
  ⟨rfl, fun b hb => absurd hb (Nat.not_lt_zero _), fun a b ha => absurd ha (Nat.not_lt_zero _), fun B hB => absurd rfl hB⟩

/-- a contract that holds of whatever it is called on, read of the model's world -/
theorem Runs.calls {f : FuncId} {args : List AV} {r : Value} (h : Runs (compCode Try.prog) Try.prog f args AState.empty (fun x s' => x = .v r ∧ s' = AState.empty)) {c : Cx} {vs : List Value} {w : World}
    (hr : Rel (compCode Try.prog) c AState.empty w) (ha : RL c args vs) : Calls Try.prog f vs.toArray w (fun e w' => e = .returned r ∧ Below w.heap.size w w') := by
  refine (h.2 c w vs hr ha).mono ?_
  rintro e w' ⟨v, c', x, s', rfl, h1, h2, h3, rfl, rfl⟩
  exact ⟨by rw [h3.v_inv], h1.below rfl⟩

set_option maxRecDepth 100000 in
theorem tailCuts_lifted (os : Os) (started : os.Started) (H : Type) (enc : TypeId × Value → H) :
    ReturnsInHanded {} Try.checked os 4 .any (Rows.tailCutsSpec.pre6 enc Try.prog Try.f4 Rows.tailCutsRow.domain false) (Rows.tailCutsSpec.post enc Try.prog Try.f4 false true false false) := by
  refine returnsInHanded_of_change (C := Try.checked) Try.own started (by kernel_rfl) Try.func4
    (ChangeSpec.witness6 (enc := enc) (C := Try.checked) false ⟨#[], #[.int .u16 0, .int .u8 0], []⟩ 8 (by kernel_rfl) (by kernel_rfl) (by kernel_rfl) (by kernel_rfl)) ?_
  intro W base args ds gs before hval0 hW hcnd _
  have hval : ∀ (j : Nat) t v, Try.f4.params[j]? = some t → args[j]? = some v → Value.okWide Try.prog W .any base t v := hval0
  have hW' := hW
  obtain ⟨p, q, hA0, hV, rfl, hfz, hnd⟩ := hW
  have hA : DataW.TrodAll enc Try.prog W 0 (fun _ => true) true Try.f4.params.toList args.toList ds p := hA0
  rw [Try.params4] at hA hval
  obtain ⟨v0, v1, d0, d1, p0, p1, rfl, rfl, rfl, h0, h1⟩ := trodAll_two hA
  obtain ⟨rfl, rfl⟩ := trodVars_none hV
  obtain ⟨a, rfl, rfl, rfl, wa⟩ := open_int Try.underlying22 (hval 0 22 v0 rfl rfl) h0
  obtain ⟨b, rfl, rfl, rfl, wb⟩ := open_int Try.underlying5 (hval 1 5 v1 rfl rfl) h1
  clear hA0 hval0
  simp only [List.append_nil] at hW'
  have ra : 0 ≤ a ∧ a < 65536 := by
    have h : IntKind.u16.min ≤ a ∧ a ≤ IntKind.u16.max := by simpa [Lit.wf] using wa
    have e1 : IntKind.u16.min = 0 := by decide
    have e2 : IntKind.u16.max = 65535 := by decide
    omega
  have rb : 0 ≤ b ∧ b < 256 := by
    have h : IntKind.u8.min ≤ b ∧ b ≤ IntKind.u8.max := by simpa [Lit.wf] using wb
    have e1 : IntKind.u8.min = 0 := by decide
    have e2 : IntKind.u8.max = 255 := by decide
    omega
  have hrun := Runs.calls (run4 a b AState.empty ra.1 ra.2 rb.1 rb.2) (rel_empty W) (RL.cons (.v (.int .u16 a)) (RL.cons (.v (.int .u8 b)) (RL.nil _)))
  refine hrun.mono fun e W' ⟨he, hw⟩ => ?_
  subst he
  exact ⟨_, rfl, _, _, _, [], [], [], hW', trodAll_mk1 (shut_bool Try.underlying4 true), trodAll_mk2 (shut_int Try.underlying22 wa) (shut_int Try.underlying5 wb), rfl, hw.frame _, fun h => by cases h⟩

theorem tailCuts_holds : Rows.TailCutsSaid :=
  OpenClaim.holds_of_wide 4 Try.f4 rfl rfl rfl rfl rfl rfl rfl ⟨rfl, rfl, rfl, rfl, rfl⟩ rfl rfl rfl rfl rfl (by kernel_rfl) Try.func4 (by kernel_rfl)
    (of_decide_eq_true (by kernel_rfl)) (by unfold Func.isWrapper; rw [if_neg (by decide +kernel)]; exact ⟨rfl, rfl⟩)
    (fun os started H enc _ => tailCuts_lifted os started H enc)
#print axioms tailCuts_holds

end Go.Proofs.Ytconffokcoipjaa
