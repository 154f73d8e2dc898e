/- Going on. -/
import Derived.Test.YtmpoeamfcienoaaGreatKJT17
section
namespace Go.Ab
set_option linter.unusedVariables false
set_option linter.unusedSimpArgs false
def jA : List Prt := [⟨4, 2, [], 1, 0, 0, 0, 0, false, false⟩]
def jB : List Prt := [⟨2, 2, [], 0, 0, 0, 0, 0, false, false⟩]
def jM : List (Int × LogV) := doL [] jA ⟨1, 0⟩
def jN : List (Int × LogV) := doL [] jB ⟨2, 0⟩
theorem jM_ok : MOk jM := MOk.nil'.doL _ _
theorem jN_ok : MOk jN := MOk.nil'.doL _ _
theorem jJ_sp : spotsM (joinL [jM, jN]) = [⟨2, -1, 2, 0⟩, ⟨4, -1, 1, 0⟩] := by kernel_rfl
theorem jJ_g : (grpsL (joinL [jM, jN])).length = 2 := by kernel_rfl
theorem jM_sp : (spotsM jM).length = 1 := by kernel_rfl
theorem jN_sp : (spotsM jN).length = 1 := by kernel_rfl
theorem jAp : decide (idsA [jM, jN]).Nodup = true := by kernel_rfl
theorem jAq : decide (idsA [jM, jM]).Nodup = false := by kernel_rfl
theorem LedsAll.of2 {s : AState} {a b : Nat} {M N : List (Int × LogV)} {F G : List Nat} (h : LedAt s a M F) (k : LedAt s b N G) : LedsAll s [a, b] [M, N] := by
  refine ⟨rfl, fun i h1 h2 => ?_⟩
  match i, h1 with
  | 0, _ => exact ⟨F, h, h.lt⟩
  | 1, _ => exact ⟨G, k, k.lt⟩
end Go.Ab
namespace Go.Proofs.YtmpoeamfcienoaaGreat
open Go.Ab
set_option linter.unusedVariables false
set_option linter.unusedSimpArgs false
set_option maxRecDepth 100000
set_option maxHeartbeats 1000000
theorem ct_ladelaw20_known {s : AState} : Gives prog F_ladelaw20_known [] s (.v (.bool true)) s := by
  refine Runs.gives (runs_e h_ladelaw20_known (Nat.le_of_ble_eq_true rfl) ?_) (.v _)
  repeat (first | simp -dsimp -implicitDefEqProofs (disch := first | omega | (simp <;> omega) | fail) | ((with_reducible first | apply m_1 | apply m_0); (focus ((conv => lhs; simp -dsimp -implicitDefEqProofs (disch := first | omega | (simp <;> omega) | fail)); done))) | ((with_reducible first | apply i_T | apply g_T); (focus (simp -dsimp -implicitDefEqProofs (disch := first | omega | (simp <;> omega) | fail); done))) | ((with_reducible first | apply i_F | apply g_F); (focus (simp -dsimp -implicitDefEqProofs (disch := first | omega | (simp <;> omega) | fail); done))))
  refine run (rn_ledger_New) (by first | (simp; done) | rfl | (simp; rfl)) ?_
  rintro _ s1 ⟨a, F, rfl, h1, h2, h3⟩
  repeat (first | simp -dsimp -implicitDefEqProofs (disch := first | omega | (simp <;> omega) | fail) | ((with_reducible first | apply m_1 | apply m_0); (focus ((conv => lhs; simp -dsimp -implicitDefEqProofs (disch := first | omega | (simp <;> omega) | fail)); done))) | ((with_reducible first | apply i_T | apply g_T); (focus (simp -dsimp -implicitDefEqProofs (disch := first | omega | (simp <;> omega) | fail); done))) | ((with_reducible first | apply i_F | apply g_F); (focus (simp -dsimp -implicitDefEqProofs (disch := first | omega | (simp <;> omega) | fail); done))))
  refine run (rn_ledger_New) (by first | (simp; done) | rfl | (simp; rfl)) ?_
  rintro _ s2 ⟨b, G, rfl, k1, k2, k3⟩
  have hGF : ∀ x ∈ G, x ∉ F := fun x hx hm => by have := k3 x hx; have := h1.lt x hm; omega
  have h1' := h1.keep fun x hx => k2.get (h1.lt x hx)
  repeat (first | simp -dsimp -implicitDefEqProofs (disch := first | omega | (simp <;> omega) | fail) | ((with_reducible first | apply m_1 | apply m_0); (focus ((conv => lhs; simp -dsimp -implicitDefEqProofs (disch := first | omega | (simp <;> omega) | fail)); done))) | ((with_reducible first | apply i_T | apply g_T); (focus (simp -dsimp -implicitDefEqProofs (disch := first | omega | (simp <;> omega) | fail); done))) | ((with_reducible first | apply i_F | apply g_F); (focus (simp -dsimp -implicitDefEqProofs (disch := first | omega | (simp <;> omega) | fail); done))))
  refine runS (rn_ledger_Ledger_Do (l := jA) (at_ := ⟨1, 0⟩) h1' MOk.nil'.gok (by decide) (by decide)) ?_
  rintro _ s3 ⟨F3, h4, m3⟩
  have k1' := k1.keep (m3.get hGF k1.lt)
  have hGF3 := m3.apart hGF k1.lt
  repeat (first | simp -dsimp -implicitDefEqProofs (disch := first | omega | (simp <;> omega) | fail) | ((with_reducible first | apply m_1 | apply m_0); (focus ((conv => lhs; simp -dsimp -implicitDefEqProofs (disch := first | omega | (simp <;> omega) | fail)); done))) | ((with_reducible first | apply i_T | apply g_T); (focus (simp -dsimp -implicitDefEqProofs (disch := first | omega | (simp <;> omega) | fail); done))) | ((with_reducible first | apply i_F | apply g_F); (focus (simp -dsimp -implicitDefEqProofs (disch := first | omega | (simp <;> omega) | fail); done))))
  refine runS (rn_ledger_Ledger_Do (l := jB) (at_ := ⟨2, 0⟩) k1' MOk.nil'.gok (by decide) (by decide)) ?_
  rintro _ s4 ⟨G4, k4, m4⟩
  have h4' := h4.keep (m4.get (fun x hx hm => hGF3 x hm hx) h4.lt)
  have all4 : LedsAll s4 [a, b] [jM, jN] := .of2 h4' k4
  repeat (first | simp -dsimp -implicitDefEqProofs (disch := first | omega | (simp <;> omega) | fail) | ((with_reducible first | apply m_1 | apply m_0); (focus ((conv => lhs; simp -dsimp -implicitDefEqProofs (disch := first | omega | (simp <;> omega) | fail)); done))) | ((with_reducible first | apply i_T | apply g_T); (focus (simp -dsimp -implicitDefEqProofs (disch := first | omega | (simp <;> omega) | fail); done))) | ((with_reducible first | apply i_F | apply g_F); (focus (simp -dsimp -implicitDefEqProofs (disch := first | omega | (simp <;> omega) | fail); done))))
  refine runS (rn_join_Of all4 (by intro M hM; simp at hM; rcases hM with rfl | rfl; exact jM_ok; exact jN_ok) (by simp)) ?_
  rintro _ s5 ⟨c, H, rfl, j1, m5⟩
  have oJ : MOk (joinL [jM, jN]) := MOk.joinL (by intro M hM; simp at hM; rcases hM with rfl | rfl; exact jM_ok; exact jN_ok)
  have smJ : Small (joinL [jM, jN]) := oJ.small (by rw [jJ_sp]; simp)
  repeat (first | simp -dsimp -implicitDefEqProofs (disch := first | omega | (simp <;> omega) | fail) | ((with_reducible first | apply m_1 | apply m_0); (focus ((conv => lhs; simp -dsimp -implicitDefEqProofs (disch := first | omega | (simp <;> omega) | fail)); done))) | ((with_reducible first | apply i_T | apply g_T); (focus (simp -dsimp -implicitDefEqProofs (disch := first | omega | (simp <;> omega) | fail); done))) | ((with_reducible first | apply i_F | apply g_F); (focus (simp -dsimp -implicitDefEqProofs (disch := first | omega | (simp <;> omega) | fail); done))))
  refine giv (ct_ledger_Ledger_Spots j1 oJ smJ) (by first | (simp; done) | rfl | (simp; rfl)) ?_
  rw [jJ_sp]
  repeat (first | simp -dsimp -implicitDefEqProofs (disch := first | omega | (simp <;> omega) | fail) | ((with_reducible first | apply m_1 | apply m_0); (focus ((conv => lhs; simp -dsimp -implicitDefEqProofs (disch := first | omega | (simp <;> omega) | fail)); done))) | ((with_reducible first | apply i_T | apply g_T); (focus (simp -dsimp -implicitDefEqProofs (disch := first | omega | (simp <;> omega) | fail); done))) | ((with_reducible first | apply i_F | apply g_F); (focus (simp -dsimp -implicitDefEqProofs (disch := first | omega | (simp <;> omega) | fail); done))))
  refine runS (rn_join_Of (bs := []) (Ms := []) ⟨rfl, fun i h => absurd h (Nat.not_lt_zero _)⟩ (by simp) (by simp)) ?_
  rintro _ s6 ⟨d, I, rfl, i1, m6⟩
  have j1' := j1.keep (m6.get (by simp) j1.lt)
  repeat (first | simp -dsimp -implicitDefEqProofs (disch := first | omega | (simp <;> omega) | fail) | ((with_reducible first | apply m_1 | apply m_0); (focus ((conv => lhs; simp -dsimp -implicitDefEqProofs (disch := first | omega | (simp <;> omega) | fail)); done))) | ((with_reducible first | apply i_T | apply g_T); (focus (simp -dsimp -implicitDefEqProofs (disch := first | omega | (simp <;> omega) | fail); done))) | ((with_reducible first | apply i_F | apply g_F); (focus (simp -dsimp -implicitDefEqProofs (disch := first | omega | (simp <;> omega) | fail); done))))
  refine giv (ct_ledger_Ledger_Groups j1' oJ smJ) (by first | (simp; done) | rfl | (simp; rfl)) ?_
  repeat (first | simp -dsimp -implicitDefEqProofs (disch := first | omega | (simp <;> omega) | fail) [jJ_g] | ((with_reducible first | apply m_1 | apply m_0); (focus ((conv => lhs; simp -dsimp -implicitDefEqProofs (disch := first | omega | (simp <;> omega) | fail) [jJ_g]); done))) | ((with_reducible first | apply i_T | apply g_T); (focus (simp -dsimp -implicitDefEqProofs (disch := first | omega | (simp <;> omega) | fail) [jJ_g]; done))) | ((with_reducible first | apply i_F | apply g_F); (focus (simp -dsimp -implicitDefEqProofs (disch := first | omega | (simp <;> omega) | fail) [jJ_g]; done))))
  have oE : MOk (joinL []) := MOk.nil'
  have smE : Small (joinL []) := oE.small (by simp [joinL, spotsM])
  refine giv (ct_ledger_Ledger_Groups i1 oE smE) (by first | (simp; done) | rfl | (simp; rfl)) ?_
  have all5 : LedsAll s6 [a, b] [jM, jN] := (all4.keep m5.n fun x hx => m5.keep x hx (by simp)).keep m6.n fun x hx => m6.keep x hx (by simp)
  have all6 : LedsAll s6 [a, a] [jM, jM] := by
    obtain ⟨Fa, ha, -⟩ := all5.2 0 (by simp) (by simp)
    exact .of2 ha ha
  have sM : Small jM := jM_ok.small (by rw [jM_sp]; omega)
  have sN : Small jN := jN_ok.small (by rw [jN_sp]; omega)
  have hE : (grpsL (joinL [])).length = 0 := rfl
  repeat (first | simp -dsimp -implicitDefEqProofs (disch := first | omega | (simp <;> omega) | fail) [hE] | ((with_reducible first | apply m_1 | apply m_0); (focus ((conv => lhs; simp -dsimp -implicitDefEqProofs (disch := first | omega | (simp <;> omega) | fail) [hE]); done))) | ((with_reducible first | apply i_T | apply g_T); (focus (simp -dsimp -implicitDefEqProofs (disch := first | omega | (simp <;> omega) | fail) [hE]; done))) | ((with_reducible first | apply i_F | apply g_F); (focus (simp -dsimp -implicitDefEqProofs (disch := first | omega | (simp <;> omega) | fail) [hE]; done))))
  refine gv (ct_join_Apart all5 (by intro M hM; simp at hM; rcases hM with rfl | rfl; exact jM_ok; exact jN_ok) (by intro M hM; simp at hM; rcases hM with rfl | rfl; exact sM; exact sN) (by simp)) ?_
  rw [jAp]
  refine st0 ?_
  refine gv (ct_join_Apart all6 (by intro M hM; simp at hM; subst hM; exact jM_ok) (by intro M hM; simp at hM; subst hM; exact sM) (by simp)) ?_
  rw [jAq]
  refine st0 ?_
  have mt : Mut [] [] s s6 := by
    have e1 := (Mut.new h2 h3).trans (by simpa using (Mut.new k2 k3).more F : Mut F (G ++ F) s1 s2)
    have e2 := (e1.trans (m3.moreL G)).trans (m4.more F3)
    exact ((e2.sub (by simp)).trans (m5.sub (by simp))).trans (m6.sub (by simp))
  exact ret_ok rfl ⟨⟨mt.n, fun x hx => .inl (mt.keep x hx (by simp)).symm⟩, .refl _⟩
end Go.Proofs.YtmpoeamfcienoaaGreat
end
section
namespace Go.Ab
set_option linter.unusedVariables false
structure JtH (s0 s : AState) (bx by_ bp bq : Nat) (M N : Led) (A B : List Grp × List Spt) (F G : List Nat) (at_ to_ : Plc) : Prop where
  lx : LedAt s bx M F
  ly : LedAt s by_ N G
  rp : RefAt s bp A.1 A.2
  rq : RefAt s bq B.1 B.2
  c6 : s.get s0.n = .cells at_.cells
  c7 : s.get (s0.n + 1) = .cells to_.cells
  fg : ∀ x ∈ F, x ∉ G
  fk : ∀ x ∈ [bp, bq, s0.n, s0.n + 1], x ∉ F
  gk : ∀ x ∈ [bp, bq, s0.n, s0.n + 1], x ∉ G
  pq : bp ≠ bq ∧ s0.n + 1 < bp ∧ s0.n + 1 < bq
  nF : ∀ x ∈ F, s0.n ≤ x
  nG : ∀ x ∈ G, s0.n ≤ x
  n : s0.n + 1 < s.n
  old : ∀ x, x < s0.n → s.get x = s0.get x
theorem RefAt.lt {s : AState} {b : Nat} {L : List Grp} {S : List Spt} (h : RefAt s b L S) : b < s.n := by obtain ⟨t1, t2, e⟩ := h; exact AState.lt_of_get e (by simp)
theorem RefAt.keep {s s' : AState} {b : Nat} {L : List Grp} {S : List Spt} (h : RefAt s b L S) (e : s'.get b = s.get b) : RefAt s' b L S := by obtain ⟨t1, t2, e2⟩ := h; exact ⟨t1, t2, e.trans e2⟩
section
variable {s0 s s' : AState} {bx by_ bp bq : Nat} {M N M' : Led} {A B A' : List Grp × List Spt} {F G F' : List Nat} {at_ to_ : Plc}
theorem JtH.ltk (h : JtH s0 s bx by_ bp bq M N A B F G at_ to_) : ∀ x ∈ [bp, bq, s0.n, s0.n + 1], x < s.n := by
  intro x hx
  have := h.rp.lt
  have := h.rq.lt
  have := h.n
  simp only [List.mem_cons, List.not_mem_nil, or_false] at hx
  rcases hx with rfl | rfl | rfl | rfl <;> omega
theorem JtH.stepX (h : JtH s0 s bx by_ bp bq M N A B F G at_ to_) (a1 : LedAt s' bx M' F') (a2 : Mut F F' s s') : JtH s0 s' bx by_ bp bq M' N A B F' G at_ to_ := by
  have k := h.ltk
  have g := a2.get h.fk k
  have gG : ∀ x ∈ G, x ∉ F := fun x hx hm => h.fg x hm hx
  have ap := a2.apart gG h.ly.lt
  exact ⟨a1, h.ly.keep (a2.get gG h.ly.lt), h.rp.keep (g _ (by simp)), h.rq.keep (g _ (by simp)), (g _ (by simp)).trans h.c6, (g _ (by simp)).trans h.c7, fun x hx hm => ap x hm hx, a2.apart h.fk k, h.gk, h.pq, fun x hx => by
    rcases a2.own x hx with h1 | h1
    · exact h.nF x h1
    · have := h.n; omega, h.nG, by have := a2.n; have := h.n; omega, fun x hx => (a2.keep x (by have := h.n; omega) fun hm => by have := h.nF x hm; omega).trans (h.old x hx)⟩
theorem JtH.stepY (h : JtH s0 s bx by_ bp bq M N A B F G at_ to_) (a1 : LedAt s' by_ M' F') (a2 : Mut G F' s s') : JtH s0 s' bx by_ bp bq M M' A B F F' at_ to_ := by
  have k := h.ltk
  have g := a2.get h.gk k
  exact ⟨h.lx.keep (a2.get h.fg h.lx.lt), a1, h.rp.keep (g _ (by simp)), h.rq.keep (g _ (by simp)), (g _ (by simp)).trans h.c6, (g _ (by simp)).trans h.c7, a2.apart h.fg h.lx.lt, h.fk, a2.apart h.gk k, h.pq, h.nF, fun x hx => by
    rcases a2.own x hx with h1 | h1
    · exact h.nG x h1
    · have := h.n; omega, by have := a2.n; have := h.n; omega, fun x hx => (a2.keep x (by have := h.n; omega) fun hm => by have := h.nG x hm; omega).trans (h.old x hx)⟩
theorem JtH.stepP (h : JtH s0 s bx by_ bp bq M N A B F G at_ to_) (a1 : RefAt s' bp A'.1 A'.2) (a2 : Mut [bp] [bp] s s') : JtH s0 s' bx by_ bp bq M N A' B F G at_ to_ := by
  have q := h.pq
  have n := h.n
  have hF : ∀ x ∈ F, x ∉ [bp] := fun x hx hm => by obtain rfl := List.mem_singleton.1 hm; exact h.fk _ (by simp) hx
  have hG : ∀ x ∈ G, x ∉ [bp] := fun x hx hm => by obtain rfl := List.mem_singleton.1 hm; exact h.gk _ (by simp) hx
  exact ⟨h.lx.keep (a2.get hF h.lx.lt), h.ly.keep (a2.get hG h.ly.lt), a1, h.rq.keep (a2.keep _ h.rq.lt (by simp; omega)), (a2.keep _ (by omega) (by simp; omega)).trans h.c6, (a2.keep _ (by omega) (by simp; omega)).trans h.c7, h.fg, h.fk, h.gk, h.pq, h.nF, h.nG, by have := a2.n; omega, fun x hx => (a2.keep x (by omega) (by simp; omega)).trans (h.old x hx)⟩
theorem JtH.stepQ (h : JtH s0 s bx by_ bp bq M N A B F G at_ to_) (a1 : RefAt s' bq A'.1 A'.2) (a2 : Mut [bq] [bq] s s') : JtH s0 s' bx by_ bp bq M N A A' F G at_ to_ := by
  have q := h.pq
  have n := h.n
  have hF : ∀ x ∈ F, x ∉ [bq] := fun x hx hm => by obtain rfl := List.mem_singleton.1 hm; exact h.fk _ (by simp) hx
  have hG : ∀ x ∈ G, x ∉ [bq] := fun x hx hm => by obtain rfl := List.mem_singleton.1 hm; exact h.gk _ (by simp) hx
  exact ⟨h.lx.keep (a2.get hF h.lx.lt), h.ly.keep (a2.get hG h.ly.lt), h.rp.keep (a2.keep _ h.rp.lt (by simp; omega)), a1, (a2.keep _ (by omega) (by simp; omega)).trans h.c6, (a2.keep _ (by omega) (by simp; omega)).trans h.c7, h.fg, h.fk, h.gk, h.pq, h.nF, h.nG, by have := a2.n; omega, fun x hx => (a2.keep x (by omega) (by simp; omega)).trans (h.old x hx)⟩
end
end Go.Ab
namespace Go.Proofs.YtmpoeamfcienoaaGreat
open Go.Ab
set_option linter.unusedVariables false
set_option linter.unusedSimpArgs false
set_option maxRecDepth 100000
set_option maxHeartbeats 1000000
theorem ct_ladelaw20_JoinTwice {a b : List Prt} {at_ to_ : Plc} {s : AState} (ha : (a.length : Int) < 9223372036854775808) (hb : (b.length : Int) < 9223372036854775808) (hae : ∀ p ∈ a, (p.es.length : Int) < 9223372036854775808) (hbe : ∀ p ∈ b, (p.es.length : Int) < 9223372036854775808) :
    Gives prog F_ladelaw20_JoinTwice [.sl (a.map Prt.av) .no, .sl (b.map Prt.av) .no, at_.av, to_.av] s (.v (.bool true)) s := by
  refine Runs.gives (runs_e h_ladelaw20_JoinTwice (Nat.le_of_ble_eq_true rfl) ?_) (.v _)
  obtain ⟨T, hT⟩ : ∃ T, T = jtB := ⟨_, rfl⟩
  have hT2 := hT
  simp only [jtB, A_ladelaw20_JoinTwice, ACode.tl] at hT2
  rw [← hT2]
  clear hT2
  repeat (first | simp -dsimp -implicitDefEqProofs (disch := first | omega | (simp <;> omega) | fail) | ((with_reducible first | apply m_1 | apply m_0); (focus ((conv => lhs; simp -dsimp -implicitDefEqProofs (disch := first | omega | (simp <;> omega) | fail)); done))) | ((with_reducible first | apply i_T | apply g_T); (focus (simp -dsimp -implicitDefEqProofs (disch := first | omega | (simp <;> omega) | fail); done))) | ((with_reducible first | apply i_F | apply g_F); (focus (simp -dsimp -implicitDefEqProofs (disch := first | omega | (simp <;> omega) | fail); done))))
  refine giv (ct_ladelaw20_known) (by first | (simp; done) | rfl | (simp; rfl)) ?_
  repeat (first | simp -dsimp -implicitDefEqProofs (disch := first | omega | (simp <;> omega) | fail) | ((with_reducible first | apply m_1 | apply m_0); (focus ((conv => lhs; simp -dsimp -implicitDefEqProofs (disch := first | omega | (simp <;> omega) | fail)); done))) | ((with_reducible first | apply i_T | apply g_T); (focus (simp -dsimp -implicitDefEqProofs (disch := first | omega | (simp <;> omega) | fail); done))) | ((with_reducible first | apply i_F | apply g_F); (focus (simp -dsimp -implicitDefEqProofs (disch := first | omega | (simp <;> omega) | fail); done))))
  refine giv (ct_ladelaw20_fewParts ha hae) (by first | (simp; done) | rfl | (simp; rfl)) ?_
  have early : ∀ (e : List (Nat × AV)), Ab.get e 8 = .v (.bool true) → jtQ s .ret { t := den 285 e, d := [] } ((s.alloc (.cells at_.cells)).alloc (.cells to_.cells)) := fun e h =>
    ret_ok (xs := [.v (.bool true)]) (by simp [evRess, evRes, den, h]) ⟨⟨by simp; omega, fun x hx => .inl (dz0)⟩, .refl _⟩
  cases hfa : fewParts a with
  | false =>
    repeat (first | simp -dsimp -implicitDefEqProofs (disch := first | omega | (simp <;> omega) | fail) | ((with_reducible first | apply m_1 | apply m_0); (focus ((conv => lhs; simp -dsimp -implicitDefEqProofs (disch := first | omega | (simp <;> omega) | fail)); done))) | ((with_reducible first | apply i_T | apply g_T); (focus (simp -dsimp -implicitDefEqProofs (disch := first | omega | (simp <;> omega) | fail); done))) | ((with_reducible first | apply i_F | apply g_F); (focus (simp -dsimp -implicitDefEqProofs (disch := first | omega | (simp <;> omega) | fail); done))))
    exact early _ (by simp)
  | true =>
  repeat (first | simp -dsimp -implicitDefEqProofs (disch := first | omega | (simp <;> omega) | fail) | ((with_reducible first | apply m_1 | apply m_0); (focus ((conv => lhs; simp -dsimp -implicitDefEqProofs (disch := first | omega | (simp <;> omega) | fail)); done))) | ((with_reducible first | apply i_T | apply g_T); (focus (simp -dsimp -implicitDefEqProofs (disch := first | omega | (simp <;> omega) | fail); done))) | ((with_reducible first | apply i_F | apply g_F); (focus (simp -dsimp -implicitDefEqProofs (disch := first | omega | (simp <;> omega) | fail); done))))
  refine giv (ct_ladelaw20_fewParts hb hbe) (by first | (simp; done) | rfl | (simp; rfl)) ?_
  cases hfb : fewParts b with
  | false =>
    repeat (first | simp -dsimp -implicitDefEqProofs (disch := first | omega | (simp <;> omega) | fail) | ((with_reducible first | apply m_1 | apply m_0); (focus ((conv => lhs; simp -dsimp -implicitDefEqProofs (disch := first | omega | (simp <;> omega) | fail)); done))) | ((with_reducible first | apply i_T | apply g_T); (focus (simp -dsimp -implicitDefEqProofs (disch := first | omega | (simp <;> omega) | fail); done))) | ((with_reducible first | apply i_F | apply g_F); (focus (simp -dsimp -implicitDefEqProofs (disch := first | omega | (simp <;> omega) | fail); done))))
    exact early _ (by simp)
  | true =>
  obtain ⟨la, lae⟩ := fewParts_len hfa
  obtain ⟨lb, lbe⟩ := fewParts_len hfb
  have wa := wt_few la lae
  have wb := wt_few lb lbe
  clear ha hb hae hbe
  repeat (first | simp -dsimp -implicitDefEqProofs (disch := first | omega | (simp <;> omega) | fail) | ((with_reducible first | apply m_1 | apply m_0); (focus ((conv => lhs; simp -dsimp -implicitDefEqProofs (disch := first | omega | (simp <;> omega) | fail)); done))) | ((with_reducible first | apply i_T | apply g_T); (focus (simp -dsimp -implicitDefEqProofs (disch := first | omega | (simp <;> omega) | fail); done))) | ((with_reducible first | apply i_F | apply g_F); (focus (simp -dsimp -implicitDefEqProofs (disch := first | omega | (simp <;> omega) | fail); done))))
  refine run (rn_ledger_New) (by first | (simp; done) | rfl | (simp; rfl)) ?_
  rintro _ s1 ⟨bx, F, rfl, h1, h2, h3⟩
  repeat (first | simp -dsimp -implicitDefEqProofs (disch := first | omega | (simp <;> omega) | fail) | ((with_reducible first | apply m_1 | apply m_0); (focus ((conv => lhs; simp -dsimp -implicitDefEqProofs (disch := first | omega | (simp <;> omega) | fail)); done))) | ((with_reducible first | apply i_T | apply g_T); (focus (simp -dsimp -implicitDefEqProofs (disch := first | omega | (simp <;> omega) | fail); done))) | ((with_reducible first | apply i_F | apply g_F); (focus (simp -dsimp -implicitDefEqProofs (disch := first | omega | (simp <;> omega) | fail); done))))
  refine run (rn_ledger_New) (by first | (simp; done) | rfl | (simp; rfl)) ?_
  rintro _ s2 ⟨by_, G, rfl, h4, h5, h6⟩
  have n1 := h2.n
  have n2 := h5.n
  simp at n1
  have hlF := h1.lt
  have hlG := h4.lt
  simp at h3
  have c6 : s2.get s.n = .cells at_.cells := by
    rw [h5.get (by omega), h2.get (by simp <;> omega)]; simp (disch := first | omega | (simp <;> omega) | fail)
  have hH : JtH s ((s2.alloc (.cells [.sl [] .zero, .sl [] .zero])).alloc (.cells [.sl [] .zero, .sl [] .zero])) bx by_ s2.n (s2.n + 1) [] [] ([], []) ([], []) F G at_ to_ := by
    refine ⟨h1.keep fun x hx => ?_, h4.keep fun x hx => ?_, ⟨.zero, .zero, by simp (disch := first | omega | (simp <;> omega) | fail)⟩, ⟨.zero, .zero, by simp (disch := first | omega | (simp <;> omega) | fail)⟩, ?_, ?_, ?_, ?_, ?_, by omega, fun x hx => by have := h3 x hx; omega, fun x hx => by have := h6 x hx; omega, by simp; omega, fun x hx => ?_⟩
    · have := hlF x hx; simp (disch := first | omega | (simp <;> omega) | fail); exact h5.get this
    · have := hlG x hx; simp (disch := first | omega | (simp <;> omega) | fail)
    · simp (disch := first | omega | (simp <;> omega) | fail)
      rw [h5.get (by omega), h2.get (by simp <;> omega)]; simp (disch := first | omega | (simp <;> omega) | fail)
    · simp (disch := first | omega | (simp <;> omega) | fail)
      rw [h5.get (by omega), h2.get (by simp <;> omega)]; simp (disch := first | omega | (simp <;> omega) | fail)
    · intro x hx hm; have := hlF x hx; have := h6 x hm; omega
    · intro x hx hm
      have := hlF x hm
      have := h3 x hm
      simp only [List.mem_cons, List.not_mem_nil, or_false] at hx
      rcases hx with rfl | rfl | rfl | rfl <;> omega
    · intro x hx hm
      have := hlG x hm
      have := h6 x hm
      simp only [List.mem_cons, List.not_mem_nil, or_false] at hx
      rcases hx with rfl | rfl | rfl | rfl <;> omega
    · simp (disch := first | omega | (simp <;> omega) | fail)
      rw [h5.get (by omega), h2.get (by simp <;> omega)]; simp (disch := first | omega | (simp <;> omega) | fail)
  repeat (first | simp -dsimp -implicitDefEqProofs (disch := first | omega | (simp <;> omega) | fail) [c6] | ((with_reducible first | apply m_1 | apply m_0); (focus ((conv => lhs; simp -dsimp -implicitDefEqProofs (disch := first | omega | (simp <;> omega) | fail) [c6]); done))) | ((with_reducible first | apply i_T | apply g_T); (focus (simp -dsimp -implicitDefEqProofs (disch := first | omega | (simp <;> omega) | fail) [c6]; done))) | ((with_reducible first | apply i_F | apply g_F); (focus (simp -dsimp -implicitDefEqProofs (disch := first | omega | (simp <;> omega) | fail) [c6]; done))))
  generalize s2.n = bp at hH ⊢
  generalize (s2.alloc (.cells [.sl [] .zero, .sl [] .zero])).alloc (.cells [.sl [] .zero, .sl [] .zero]) = s3 at hH ⊢
  clear h1 h2 h3 h4 h5 h6 n1 n2 hlF hlG c6
  refine run (rn_ledger_Ledger_Do (l := a) (at_ := at_) hH.lx MOk.nil.gok (by omega) (fun p hp => by have := lae p hp; omega)) (by first | (simp; done) | rfl | (simp; rfl)) ?_
  rintro _ s4 ⟨F4, a1, a2⟩
  have hH := hH.stepX a1 a2
  repeat (first | simp -dsimp -implicitDefEqProofs (disch := first | omega | (simp <;> omega) | fail) [hH.c6] | ((with_reducible first | apply m_1 | apply m_0); (focus ((conv => lhs; simp -dsimp -implicitDefEqProofs (disch := first | omega | (simp <;> omega) | fail) [hH.c6]); done))) | ((with_reducible first | apply i_T | apply g_T); (focus (simp -dsimp -implicitDefEqProofs (disch := first | omega | (simp <;> omega) | fail) [hH.c6]; done))) | ((with_reducible first | apply i_F | apply g_F); (focus (simp -dsimp -implicitDefEqProofs (disch := first | omega | (simp <;> omega) | fail) [hH.c6]; done))))
  refine run (rn_laderef13_Ledger_Do (l := a) (at_ := at_) hH.rp (by simp) (by simp; omega) (by show (((0 : Nat) : Int) + wtL a) * 32 ≤ _; omega)) (by first | (simp; done) | rfl | (simp; rfl)) ?_
  rintro _ s5 ⟨r1, r2⟩
  have e1 := ref_doL (M := []) MOk.nil a at_
  rw [show (grpsL [], spotsM []) = (([], []) : List Grp × List Spt) from rfl] at e1
  rw [e1] at r1
  have hH := hH.stepP (A' := (grpsL (doL [] a at_), spotsM (doL [] a at_))) r1 r2
  refine st1 hH.c7 ?_
  refine rn0 (rn_ledger_Ledger_Do (l := b) (at_ := to_) hH.ly MOk.nil.gok (by omega) (fun p hp => by have := lbe p hp; omega)) ?_
  rintro _ s6 ⟨G6, b1, b2⟩
  have hH := hH.stepY b1 b2
  refine st1 hH.c7 ?_
  refine rn0 (rn_laderef13_Ledger_Do (l := b) (at_ := to_) hH.rq (by simp) (by simp; omega) (by show (((0 : Nat) : Int) + wtL b) * 32 ≤ _; omega)) ?_
  rintro _ s7 ⟨q1, q2⟩
  have e2 := ref_doL (M := []) MOk.nil b to_
  rw [show (grpsL [], spotsM []) = (([], []) : List Grp × List Spt) from rfl] at e2
  rw [e2] at q1
  have hH := hH.stepQ (A' := (grpsL (doL [] b to_), spotsM (doL [] b to_))) q1 q2
  have z1 := spots_doL MOk.nil a at_
  have z2 := spots_doL MOk.nil b to_
  have k := hH.ltk
  refine st0 ?_
  rw [hT]
  refine jt_B (s0 := s) (bx := bx) (by_ := by_) (bp := bp) (bq := bp + 1) (b6 := s.n) (P := doL [] a at_) (Q := doL [] b to_) (F := F4) (G := G6) (at_ := at_) (by simp) (by simp) (by simp) (by simp) (by simp)
    ⟨hH.lx, hH.ly, hH.rp, hH.rq, hH.c6, ⟨by have := hH.n; omega, Nat.le_refl _⟩, hH.lx.lt, hH.ly.lt, ⟨k _ (by simp), k _ (by simp), k _ (by simp)⟩, hH.old⟩ (MOk.nil.doL _ _) (MOk.nil.doL _ _) ?_ ?_
  · have : (spotsM []).length = 0 := rfl
    omega
  · have : (spotsM []).length = 0 := rfl
    omega
end Go.Proofs.YtmpoeamfcienoaaGreat
end
