/- Going on. -/
import Derived.Maps.Range
import Derived.Lib.SlKeysI
import Derived.Test.YtmfhchaoijiodaaKCL14
section
namespace Go.Ab
open Go.RowKit Go.Proofs Go.Maps
set_option linter.unusedVariables false
set_option linter.unusedSimpArgs false
set_option linter.unusedSectionVars false
variable {cmp : Code → Option ACode} {P : Program}
theorem Rel.later {c : Cx} {s : AState} {w w' : World} (h : Rel cmp c s w) (hb : Below w.heap.size w w') : Rel cmp c s w' ∧ Ext c s w c s w' := by
  refine ⟨⟨h.n, fun b hbn => ?_, h.inj, fun B hB => ?_⟩, ⟨.refl c, hb.os, hb.tape, hb.output, hb.size, fun B hB => .inr hB, fun B hB _ => hb.block B hB⟩⟩
  · by_cases hd : s.get b = .dead
    · rw [hd]; trivial
    · exact (h.obj b hbn).kept (h.n ▸ hbn) (.refl c) (hb.block _ (h.lt hbn hd)) rfl
  · obtain ⟨vs, e, fz, h1, h2⟩ := h.arr B hB
    exact ⟨vs, e, fz, (hb.block B (lt_of_heap h1)).trans h1, h2⟩
theorem Rel.laid {c : Cx} {s : AState} {w w' : World} (h : Rel cmp c s w) (hb : Below w.heap.size w w') {g : Nat} {cur : Array Value} {e : TypeId} {fz : Nat × Nat} {l : List Value} (hg : w.heap.size ≤ g) (hc : w'.heap[g]? = some (.cells cur e fz)) (hl : l <+: cur.toList) :
    Rel cmp (c.lay g l) s w' ∧ Ext c s w (c.lay g l) s w' := by
  have harr : c.arr g = [] := by
    by_cases h' : c.arr g = []
    · exact h'
    · have := h.arr_lt h'; omega
  have hle := c.le_lay g l (by rw [harr]; exact List.nil_prefix)
  refine ⟨⟨h.n, fun b hbn => ?_, h.inj, fun B hB => ?_⟩, ⟨hle, hb.os, hb.tape, hb.output, hb.size, fun B hB => .inr hB, fun B hB _ => hb.block B hB⟩⟩
  · by_cases hd : s.get b = .dead
    · rw [hd]; trivial
    · exact (h.obj b hbn).kept (h.n ▸ hbn) hle (hb.block _ (h.lt hbn hd)) (c.lay_ne l (by have := h.lt hbn hd; omega))
  · by_cases e1 : B = g
    · subst e1; exact ⟨cur, e, fz, hc, by simpa using hl⟩
    · rw [c.lay_ne l e1] at hB ⊢
      obtain ⟨vs', e', fz', h1, h2⟩ := h.arr B hB
      exact ⟨vs', e', fz', (hb.block B (lt_of_heap h1)).trans h1, h2⟩
theorem Rel.row {c : Cx} {s : AState} {w w' : World} (h : Rel cmp c s w) (hb : Below w.heap.size w w') {t : TypeId} {v : Value} {xs : List Value} (hrow : w'.ownsRow w.heap.size t 1 v xs.length xs) :
    ∃ c', Ext c s w c' s w' ∧ Rel cmp c' s w' ∧ R c' (.sl (xs.map .v) .no) v := by
  obtain ⟨_, ⟨rfl, h0⟩ | ⟨g, cap, cur, rfl, h1, h2, h3, h4, h5, h6⟩⟩ := hrow
  · have : xs = [] := List.eq_nil_of_length_eq_zero h0
    subst this
    obtain ⟨k1, k2⟩ := h.later hb
    exact ⟨c, k2, k1, .sl0 .no none (fun k => by simp)⟩
  · obtain ⟨k1, k2⟩ := h.laid hb h1 h2 (List.prefix_refl _)
    refine ⟨_, k2, k1, ?_⟩
    have hget : ∀ j, j < xs.length → cur.toList[j]? = some (xs.getD j undef) := fun j hj => by
      rw [Nat.mul_one] at h6
      have h7 : (cur.toList.take xs.length)[j]? = xs[j]? := by rw [h6]
      rw [List.getElem?_take, if_pos hj] at h7
      rw [h7, List.getD_eq_getElem?_getD, List.getElem?_eq_getElem hj]; rfl
    have := R.sl (c := c.lay g cur.toList) (xs.map .v) .no 1 g 0 cap (fun j => xs.getD j undef) (fun i hi => by simp) (fun j hj => by rw [Cx.lay_same, Nat.zero_add]; exact hget j (by simpa using hj)) (fun i hi j hj => by
      have hi' : i < xs.length := by simpa using hi
      have hj0 : j = 0 := by simp at hj; exact hj
      subst hj0
      simp only [List.getElem_map, cells_v, List.getElem_cons_zero, Nat.mul_one, Nat.add_zero, List.getD_eq_getElem?_getD, List.getElem?_eq_getElem hi', Option.getD_some]
      exact .v _) (by simpa using h3) trivial
    rwa [List.length_map] at this
theorem own_map {β : Type} {c : Cx} {s : AState} {w : World} {b : Nat} {enc : β → AV} {A : List (Int × β)} {kt : TypeId} (hr : Rel cmp c s w) (hs : s.get b = .map (encM enc A)) (hn : (A.map (·.1)).Nodup) (hw : ∀ x ∈ A, (Lit.int .i64 x.1).wf = true)
    (hk : P.underlying kt = some (.int .i64)) (hlen : A.length ≤ maxLen) :
    ∃ D0 : DataW Unit, w.ownsMap P kt (fun _ => some (.nil, [])) (c.mu b) A.length D0 ∧ (intKeys D0).Perm (A.map (·.1)) ∧ Maps.size D0 = A.length := by
  have hbn := AState.lt_of_get hs (by simp)
  have ho := hr.obj b hbn
  rw [hs] at ho
  obtain ⟨ms, clk, h1, h2, h3, h4, h5⟩ := ho
  rw [encM_length] at h2
  have hkey : ∀ i (h : i < A.length), (ms.toList[i]'(by omega)).key = .int .i64 A[i].1 := fun i h => by
    have := (h3 i (by simpa using h) (by omega)).1
    simp only [encM, List.getElem_map] at this
    exact this.v_inv
  have hkeys : ms.toList.map (·.key) = A.map fun x => Value.int .i64 x.1 := by
    apply List.ext_getElem (by simpa using h2)
    intro i i1 i2
    have : i < A.length := by simpa using i2
    rw [List.getElem_map, List.getElem_map]; exact hkey i this
  have hof : ∀ n : Int, (Lit.int .i64 n).wf = true → keyOf P kt (.int .i64 n) = some (.int .i64 n) := fun n hw => by simp [keyOf, hk, mapKey, hw]
  have hrd : ∀ i (h : i < A.length), WideElems.rd P kt (fun _ => some (.nil, [])) (ms.toList[i]'(by omega)) = some (Lit.int .i64 A[i].1, (DataW.nil : DataW Unit)) := fun i h => by
    unfold WideElems.rd
    rw [hkey i h, hof _ (hw _ (List.getElem_mem h))]; rfl
  have hsz : ms.size = A.length := by rw [← Array.length_toList]; exact h2
  have hrg : ms.toList.map (WideElems.rg P kt (fun _ => some (.nil, []))) = A.map fun x => (Lit.int .i64 x.1, (DataW.nil : DataW Unit)) := by
    apply List.ext_getElem (by simp; simpa using hsz)
    intro i i1 i2
    have : i < A.length := by simpa using i2
    rw [List.getElem_map, List.getElem_map]; exact WideElems.rg_of (hrd i this)
  refine ⟨_, ⟨ms, clk, h1, ⟨by omega, ⟨h4, h5, ?_⟩, fun x hx => ?_⟩, by omega, rfl⟩, ?_, ?_⟩
  · rw [hkeys]
    have : (A.map fun x => Value.int .i64 x.1) = (A.map (·.1)).map (Value.int .i64) := by simp
    rw [this]
    unfold List.Nodup
    rw [List.pairwise_map]
    exact hn.imp fun h e => h (by injection e)
  · obtain ⟨i, hi, rfl⟩ := List.getElem_of_mem hx
    exact ⟨_, hrd i (by omega)⟩
  · rw [hrg]
    show ((A.map fun x => (Lit.int .i64 x.1, (DataW.nil : DataW Unit))).foldr DataW.insert [] |>.map fun p => intOf p.1).Perm _
    refine ((WideShapes.sorted_perm _).map _).trans ?_
    rw [List.map_map]
    exact .of_eq (List.map_congr_left fun x _ => rfl)
  · rw [hrg]
    show ((A.map fun x => (Lit.int .i64 x.1, (DataW.nil : DataW Unit))).foldr DataW.insert []).length = _
    rw [(WideShapes.sorted_perm _).length_eq, List.length_map]
theorem Runs.sorted {β : Type} {f g : FuncId} {s : AState} {cb b : Nat} {enc : β → AV} {A B : List (Int × β)} {kt T : TypeId} (he : Enters P f) (hcb : s.get cb = .cells [.m b]) (hb : s.get b = .map (encM enc A)) (hAB : Rep A B)
    (hw : ∀ x ∈ B, -9223372036854775808 ≤ x.1 ∧ x.1 < 9223372036854775808) (hk : P.underlying kt = some (.int .i64)) (hlen : B.length * 8 ≤ 140737488355328)
    (h : ∀ (w : World) (Bm r : Nat) (D0 : DataW Unit), w.cell? ⟨Bm, 0, none⟩ = some (.map (some r)) → Bm < w.heap.size → w.ownsMap P kt (fun _ => some (.nil, [])) r B.length D0 → Maps.size D0 = B.length →
      Calls P f #[.func (.func g) #[] #[.pointer (some ⟨Bm, 0, none⟩)]] w fun e w' => ∃ (v : Value) (ss : List Int), e = .returned v ∧ ss.Perm (intKeys D0) ∧ w'.ownsRow w.heap.size T 1 v ss.length ((ss.mergeSort (fun x y => decide (x ≤ y))).map encZ) ∧ (v = .slice none 0 0 ↔ ss = []) ∧ Below w.heap.size w w') :
    Gives P f [.f (.func g) [] [.p cb 0]] s (.sl ((B.map (·.1)).map fun n => .v (.int .i64 n)) .no) s := by
  refine ⟨he, fun c w vs hr ha => ?_⟩
  obtain ⟨fv, vs', rfl, hf, hnil⟩ := ha.cons_inv
  have hvs' := hnil.nil_inv
  subst hvs'
  have hcbn := AState.lt_of_get hcb (by simp)
  have ho := hr.obj cb hcbn
  rw [hcb] at ho
  obtain ⟨cv, ct, h1, h2, _⟩ := ho
  obtain ⟨u, us, e1, hu, e2⟩ := h2.cons_inv
  have e2 := e2.nil_inv
  subst e2
  have hu' : u = .map (some (c.mu b)) := by cases hu; rfl
  subst hu'
  have hfv : fv = .func (.func g) #[] #[.pointer (some ⟨c.mu cb, 0, none⟩)] := by
    cases hf with
    | f _ _ _ us vs h0 g1 g2 g3 =>
      have e3 : us = [] := List.eq_nil_of_length_eq_zero h0
      subst e3
      have hv := RL.cons_inv (c := c) (x := .p cb 0) (xs := []) (ys := vs) ⟨g2, g3⟩
      obtain ⟨p, ps, rfl, hp, hps⟩ := hv
      have hps := hps.nil_inv
      subst hps
      cases hp; rfl
  subst hfv
  have hcv : cv = #[.map (some (c.mu b))] := by rw [← Array.toList_inj]; exact e1
  subst hcv
  have hlA := hAB.perm.length_eq
  obtain ⟨D0, k1, k2, k3⟩ := own_map (P := P) hr hb hAB.nodup (fun x hx => by
    have := hw x (hAB.perm.mem_iff.1 hx)
    have e1 : IntKind.i64.min = -9223372036854775808 := by decide
    have e2 : IntKind.i64.max = 9223372036854775807 := by decide
    simp only [Lit.wf, Bool.and_eq_true, decide_eq_true_eq]; omega) hk (by have e : maxLen = 9223372036854775807 := rfl; omega)
  rw [hlA] at k1 k3
  refine (h w (c.mu cb) (c.mu b) D0 (by simp [World.cell?, h1]) (lt_of_heap h1) k1 k3).mono ?_
  rintro e w' ⟨v, ss, rfl, q1, q2, _, q4⟩
  have hsort : ss.mergeSort (fun x y => decide (x ≤ y)) = B.map (·.1) := by
    rw [← hAB.keys]
    exact mergeSort_of_perm_i (q1.trans k2)
  have hl : ss.length = ((B.map (·.1)).map encZ).length := by rw [← hsort]; simp
  rw [hsort, hl] at q2
  obtain ⟨c', x1, x2, x3⟩ := hr.row q4 q2
  refine ⟨v, c', _, s, rfl, x1, x2, x3, ?_, rfl⟩
  rw [List.map_map]; rfl
theorem Runs.clone {κ β : Type} [DecidableEq κ] [KE κ] {f : FuncId} {s : AState} {b : Nat} {enc : β → AV} {A : List (κ × β)} (he : Enters P f) (hb : s.get b = .map (encM enc A))
    (h : ∀ (w : World) (r : Nat) (es : Array MapEntry) (clock : Nat), w.heap[r]? = some (.map es clock) → Calls P f #[.map (some r)] w fun e w' => e = .returned (.map (some w.heap.size)) ∧ w' = w.alloc (.map es clock)) :
    Gives P f [.m b] s (.m s.n) (s.alloc (.map (encM enc A))) := by
  refine ⟨he, fun c w vs hr ha => ?_⟩
  obtain ⟨mv, vs', rfl, hm, hnil⟩ := ha.cons_inv
  have hvs' := hnil.nil_inv
  subst hvs'
  have hmv : mv = .map (some (c.mu b)) := by cases hm; rfl
  subst hmv
  have hbn := AState.lt_of_get hb (by simp)
  have ho := hr.obj b hbn
  rw [hb] at ho
  obtain ⟨ms, clk, h1, h2⟩ := ho
  refine (h w (c.mu b) ms clk h1).mono ?_
  rintro e w' ⟨rfl, rfl⟩
  have hle := c.le_bind w.heap.size 0 0
  obtain ⟨r1, x1⟩ := hr.alloc (.map ms clk) (.map (encM enc A)) 0 0 ⟨ms, clk, by rw [Cx.bind_mu]; exact heap_push_new w _, h2.mono hle⟩ (by simp)
  refine ⟨_, _, .m s.n, _, rfl, x1, r1, ?_, rfl, rfl⟩
  have : R (c.bind w.heap.size 0 0) (.m c.n) (.map (some ((c.bind w.heap.size 0 0).mu c.n))) := .m _ (by simp)
  rw [Cx.bind_mu] at this
  rw [hr.n]; exact this
end Go.Ab
end
section
namespace Go.Ab
open Go.RowKit Go.Proofs
set_option linter.unusedVariables false
set_option linter.unusedSimpArgs false
set_option linter.unusedSectionVars false
variable {cmp : Code → Option ACode} {P : Program}
theorem m_mdel0 {κ β : Type} [DecidableEq κ] [KE κ] {n : Nat} {e : List (Nat × AV)} {s : AState} {b : Nat} {k : κ} {enc : β → AV} {A : List (κ × β)} {m kx : Arg} {kk : KK} {r : List AOper} {K : List AV → AState → Prop} (hm : m.ev (den n e) = .m b) (hs : s.get b = .map (encM enc A)) (hk : kx.ev (den n e) = KE.kenc k)
    (h : AOps cmp P r K (den n e) (s.set b (.map (encM enc (delM A k))))) (hkk : kk = KE.kk κ := by rfl) : Lops cmp P ⟨none, .mapdel kk m kx, none⟩ r K n e s .a := o_0 rfl (exec_mapdel hm hs hk hkk) h
theorem app_coreS {n : Nat} {e : List (Nat × AV)} {s : AState} {k bytes N : Nat} {sx sy : Arg} {xs ys : List AV} {tk t2 : Tok} (hx : sx.ev (den n e) = .sl xs tk) (hy : sy.ev (den n e) = .sl ys t2)
    (hN2 : N ≤ s.n) (hm : May N s xs tk) (h1 : headK k xs = true) (h2 : ys.all (okRow k) = true) (h3 : (xs.length + ys.length) * bytes ≤ 140737488355328) (h4 : xs.length + ys.length ≤ 4611686018427387904) :
    ∃ s' tk2, (AOp.append k bytes sx sy).exec (den n e) s = some (.sl (xs ++ ys.map AV.strip) tk2, s') ∧ May N s' (xs ++ ys.map AV.strip) tk2 ∧ (∀ x, x < N → s'.get x = s.get x) ∧ s.ext s' := by
  cases hne : ys.isEmpty with
  | true =>
    obtain rfl := List.isEmpty_iff.1 hne
    exact ⟨s, tk, by simp only [AOp.exec, hx, hy]; simp, by simpa using hm, fun _ _ => rfl, .refl s⟩
  | false =>
    have he := exec_append (a := den n e) hx hy hm hne h1 h2 h3 h4
    have hm2 := hm.new (ys := ys.map AV.strip) (by cases ys <;> simp_all) hN2
    have hlow : ∀ x, x < N → ((eat s tk).alloc .tok).get x = s.get x := fun x hx => by
      rw [get_alloc_ne (by simp; omega), get_eat hm hx]
    refine ⟨_, _, he, hm2, hlow, ?_⟩
    cases tk with
    | own t => exact AState.ext_tok hm.1 _
    | _ => exact AState.ext_alloc _ _
section
variable {n : Nat} {e : List (Nat × AV)} {s : AState} {d k bytes N : Nat} {sx sy : Arg} {xs ys : List AV} {tk t2 : Tok} {r : List AOper} {rd : List DOper} {am : Bool} {opens : List AOper} {K : List AV → AState → Prop}
theorem m_appS (hx : sx.ev (den n e) = .sl xs tk) (hy : sy.ev (den n e) = .sl ys t2) (hN2 : N ≤ s.n) (hm : May N s xs tk) (h1 : headK k xs = true) (h2 : ys.all (okRow k) = true) (h3 : (xs.length + ys.length) * bytes ≤ 140737488355328) (h4 : xs.length + ys.length ≤ 4611686018427387904)
    (hk : ∀ s' tk2, May N s' (xs ++ ys.map AV.strip) tk2 → (∀ x, x < N → s'.get x = s.get x) → s.ext s' → AOps cmp P r K (den n ((d, .sl (xs ++ ys.map AV.strip) tk2) :: e)) s') : Lops cmp P ⟨some d, .append k bytes sx sy, none⟩ r K n e s .a := by
  obtain ⟨s', tk2, he, g2, g3, g4⟩ := app_coreS hx hy hN2 hm h1 h2 h3 h4
  exact m_1 he (hk s' tk2 g2 g3 g4)
theorem q_appS (hx : sx.ev (den n e) = .sl xs tk) (hy : sy.ev (den n e) = .sl ys t2) (hN2 : N ≤ s.n) (hm : May N s xs tk) (h1 : headK k xs = true) (h2 : ys.all (okRow k) = true) (h3 : (xs.length + ys.length) * bytes ≤ 140737488355328) (h4 : xs.length + ys.length ≤ 4611686018427387904)
    (hk : ∀ s' tk2, May N s' (xs ++ ys.map AV.strip) tk2 → (∀ x, x < N → s'.get x = s.get x) → s.ext s' → DWalk cmp P rd K (den n ((d, .sl (xs ++ ys.map AV.strip) tk2) :: e)) s') : Ldw cmp P ⟨⟨some d, .append k bytes sx sy, none⟩, true, am, opens⟩ rd K n e s .a := by
  obtain ⟨s', tk2, he, g2, g3, g4⟩ := app_coreS hx hy hN2 hm h1 h2 h3 h4
  exact m_dE he (m_ext g4) (hk s' tk2 g2 g3 g4)
end
def FinS (D : Option Nat) (L : Nat) (LR : AObj) (LJ : AJump → AObj) (I : AState → Prop) (J : AJump → AState → Prop) : Option AJump → AState → Prop
  | none, s => (∀ d, D = some d → s.get d = .defd) ∧ s.get L = LR ∧ I s
  | some j, s => (∀ d, D = some d → s.get d = .defd) ∧ s.get L = LJ j ∧ J j s
section
variable {f : Arg} {ps : List Nat} {asg body : ACode} {Q : Exit → AAct → AState → Prop} {d : List Nat} {s : AState} {g : FuncId} {fs caps : List AV} {xs : List (List AV)} {Pre : AState → Prop} {n : Nat} {e : List (Nat × AV)}
theorem w_rangeS (hf : f.ev (den n e) = .f (.func g) fs caps) (hit : Iter P g fs caps xs Pre) (hps : ∀ x ∈ xs, x.length = ps.length) {m : Nat} (hm : xs.length = m) (I : Nat → AState → Prop) (J : AJump → AState → Prop)
    (h0 : ∀ LR, I 0 ((s.alloc .defd).alloc LR))
    (hp : ∀ k s', I k s' → Pre s') (hA : ∀ k s' o, s.n + 2 ≤ s'.n → I k s' → I k (s'.alloc o)) (hJ : ∀ j s' o, s.n + 2 ≤ s'.n → J j s' → J j (s'.alloc o))
    (hr : ∀ LR LB LJ, IsLoop LB s.n → LR ≠ .dead → ∀ k (hk : k < xs.length) s', s'.get s.n = .defd → s'.get (s.n + 1) = LR → s.n + 1 < s'.n → I k s' →
      wp P (some (s.n + 1)) asg (roundA P (s.n + 1) LR LB LJ body (FinS (some s.n) (s.n + 1) LR LJ (I (k + 1)) J)) { t := den n ((ps.zip xs[k]).reverse ++ e), d := [] } s')
    (hn : ∀ s', s'.get s.n = .defd → s.n + 1 < s'.n → I m s' → Q .normal { t := den n e, d := s.n :: d } (s'.set (s.n + 1) .dead))
    (hq : ∀ j s', s'.get s.n = .defd → s.n + 1 < s'.n → J j s' → Q j.exitOf { t := den n e, d := s.n :: d } (s'.set (s.n + 1) .dead)) :
    Lwp P none (.range f ps asg body) Q { t := den n e, d := d } s .a := by
  subst hm
  have lt : ∀ {s' : AState} {o : AObj}, s'.get (s.n + 1) = o → o ≠ .dead → s.n + 1 < s'.n := fun h1 h2 => AState.lt_of_get h1 h2
  refine w_range hf hit hps (fun k s' => s'.get s.n = .defd ∧ s'.get (s.n + 1) = .loop .ready none (den n e) ps asg body s.n ∧ I k s')
    (fun j s' => s'.get s.n = .defd ∧ s'.get (s.n + 1) = .loop .done (some j) (den n e) ps asg body s.n ∧ J j s') ?_ ?_ ?_ ?_ ?_ ?_ ?_ ?_ ?_
  · exact ⟨by rw [get_alloc_ne (by simp)]; simp, get_alloc_eq (by simp), h0 _⟩
  · rintro k s' ⟨h1, h2, h3⟩; exact hp k s' h3
  · rintro k s' o ⟨h1, h2, h3⟩
    have := lt h2 (by simp)
    exact ⟨by rw [get_alloc_ne (by omega)]; exact h1, by rw [get_alloc_ne (by omega)]; exact h2, hA k s' o (by omega) h3⟩
  · rintro j s' o ⟨h1, h2, h3⟩
    have := lt h2 (by simp)
    exact ⟨by rw [get_alloc_ne (by omega)]; exact h1, by rw [get_alloc_ne (by omega)]; exact h2, hJ j s' o (by omega) h3⟩
  · rintro k s' ⟨h1, h2, h3⟩; exact h2
  · rintro k s' ⟨h1, h2, h3⟩; exact h2
  · rintro k hk s' ⟨h1, h2, h3⟩
    unfold Round
    rw [fillT_den]
    refine wp_mono ?_ (hr _ (.loop .busy none (den n e) ps asg body s.n) (fun j => .loop .done (some j) (den n e) ps asg body s.n) ⟨_, _, _, _, _, _, rfl⟩ (by simp) k hk s' h1 h2 (lt h2 (by simp)) h3)
    rintro e' a1 s1 ⟨rfl, k2, k3⟩
    refine ⟨rfl, k2, wp_mono ?_ k3⟩
    rintro e' a2 s2 ⟨m1, m2⟩
    refine ⟨m1, ?_⟩
    cases e' with
    | normal => exact ⟨m2.1 _ rfl, m2.2⟩
    | ret => exact ⟨m2.1 _ rfl, m2.2⟩
    | exit i => exact ⟨m2.1 _ rfl, m2.2⟩
    | goto i => exact ⟨m2.1 _ rfl, m2.2⟩
    | panic _ => exact m2
    | outgrown => exact m2
  · rintro s' ⟨h1, h2, h3⟩; exact hn s' h1 (lt h2 (by simp)) h3
  · rintro j s' ⟨h1, h2, h3⟩; exact hq j s' h1 (lt h2 (by simp)) h3
end
theorem fins_n {D : Option Nat} {L : Nat} {LR : AObj} {LJ : AJump → AObj} {I : AState → Prop} {J : AJump → AState → Prop} {s : AState} (h1 : ∀ d, D = some d → s.get d = .defd) (h2 : s.get L = LR) (h3 : I s) : Lfi (FinS D L LR LJ I J) none s .a := ⟨h1, h2, h3⟩
theorem fins_j {D : Option Nat} {L : Nat} {LR : AObj} {LJ : AJump → AObj} {I : AState → Prop} {J : AJump → AState → Prop} {s : AState} {j : AJump} (h1 : ∀ d, D = some d → s.get d = .defd) (h2 : s.get L = LJ j) (h3 : J j s) : Lfi (FinS D L LR LJ I J) (some j) s .a := ⟨h1, h2, h3⟩
end Go.Ab
end
section
namespace Go.Ab
open Go.RowKit Go.Proofs
set_option linter.unusedVariables false
theorem st0 {P Q : Prop} (k : Q) (t : Q → P := by
  intro k
  repeat (first | simp -dsimp -implicitDefEqProofs (disch := first | omega | (simp <;> omega) | fail) | ((with_reducible first | apply m_1 | apply m_0); (focus ((conv => lhs; simp -dsimp -implicitDefEqProofs (disch := first | omega | (simp <;> omega) | fail)); done))) | ((with_reducible first | apply i_T | apply g_T); (focus (simp -dsimp -implicitDefEqProofs (disch := first | omega | (simp <;> omega) | fail); done))) | ((with_reducible first | apply i_F | apply g_F); (focus (simp -dsimp -implicitDefEqProofs (disch := first | omega | (simp <;> omega) | fail); done))))
  exact k) : P := t k
theorem st1 {P Q : Prop} {a : Prop} (f0 : a) (k : Q) (t : a → Q → P := by
  intro f0 k
  repeat (first | simp -dsimp -implicitDefEqProofs (disch := first | omega | (simp <;> omega) | fail) [f0] | ((with_reducible first | apply m_1 | apply m_0); (focus ((conv => lhs; simp -dsimp -implicitDefEqProofs (disch := first | omega | (simp <;> omega) | fail) [f0]); done))) | ((with_reducible first | apply i_T | apply g_T); (focus (simp -dsimp -implicitDefEqProofs (disch := first | omega | (simp <;> omega) | fail) [f0]; done))) | ((with_reducible first | apply i_F | apply g_F); (focus (simp -dsimp -implicitDefEqProofs (disch := first | omega | (simp <;> omega) | fail) [f0]; done))))
  exact k) : P := t f0 k
theorem sd1 {P Q : Prop} {a : Prop} (f0 : a) (k : Q) (t : a → Q → P := by
  intro f0 k
  repeat (first | simp -dsimp -implicitDefEqProofs (disch := first | omega | (simp <;> omega) | fail) [f0] | (with_reducible apply m_draw) | ((with_reducible refine ⟨m_op ?_, ?_⟩); (focus (simp -dsimp -implicitDefEqProofs (disch := first | omega | (simp <;> omega) | fail) [f0]; done))) | ((with_reducible first | apply m_d1 rfl | apply m_dE | apply m_dE0); (focus ((conv => lhs; simp -dsimp -implicitDefEqProofs (disch := first | omega | (simp <;> omega) | fail) [f0]); done))) | ((with_reducible first | apply m_1 | apply m_0); (focus ((conv => lhs; simp -dsimp -implicitDefEqProofs (disch := first | omega | (simp <;> omega) | fail) [f0]); done))) | ((with_reducible first | apply i_T | apply g_T | apply h_T); (focus (simp -dsimp -implicitDefEqProofs (disch := first | omega | (simp <;> omega) | fail) [f0]; done))) | ((with_reducible first | apply i_F | apply g_F | apply h_F); (focus (simp -dsimp -implicitDefEqProofs (disch := first | omega | (simp <;> omega) | fail) [f0]; done))))
  exact k) : P := t f0 k
theorem st2 {P Q : Prop} {a b : Prop} (f0 : a) (f1 : b) (k : Q) (t : a → b → Q → P := by
  intro f0 f1 k
  repeat (first | simp -dsimp -implicitDefEqProofs (disch := first | omega | (simp <;> omega) | fail) [f0, f1] | ((with_reducible first | apply m_1 | apply m_0); (focus ((conv => lhs; simp -dsimp -implicitDefEqProofs (disch := first | omega | (simp <;> omega) | fail) [f0, f1]); done))) | ((with_reducible first | apply i_T | apply g_T); (focus (simp -dsimp -implicitDefEqProofs (disch := first | omega | (simp <;> omega) | fail) [f0, f1]; done))) | ((with_reducible first | apply i_F | apply g_F); (focus (simp -dsimp -implicitDefEqProofs (disch := first | omega | (simp <;> omega) | fail) [f0, f1]; done))))
  exact k) : P := t f0 f1 k
theorem sd2 {P Q : Prop} {a b : Prop} (f0 : a) (f1 : b) (k : Q) (t : a → b → Q → P := by
  intro f0 f1 k
  repeat (first | simp -dsimp -implicitDefEqProofs (disch := first | omega | (simp <;> omega) | fail) [f0, f1] | (with_reducible apply m_draw) | ((with_reducible refine ⟨m_op ?_, ?_⟩); (focus (simp -dsimp -implicitDefEqProofs (disch := first | omega | (simp <;> omega) | fail) [f0, f1]; done))) | ((with_reducible first | apply m_d1 rfl | apply m_dE | apply m_dE0); (focus ((conv => lhs; simp -dsimp -implicitDefEqProofs (disch := first | omega | (simp <;> omega) | fail) [f0, f1]); done))) | ((with_reducible first | apply m_1 | apply m_0); (focus ((conv => lhs; simp -dsimp -implicitDefEqProofs (disch := first | omega | (simp <;> omega) | fail) [f0, f1]); done))) | ((with_reducible first | apply i_T | apply g_T | apply h_T); (focus (simp -dsimp -implicitDefEqProofs (disch := first | omega | (simp <;> omega) | fail) [f0, f1]; done))) | ((with_reducible first | apply i_F | apply g_F | apply h_F); (focus (simp -dsimp -implicitDefEqProofs (disch := first | omega | (simp <;> omega) | fail) [f0, f1]; done))))
  exact k) : P := t f0 f1 k
theorem st3 {P Q : Prop} {a b c : Prop} (f0 : a) (f1 : b) (f2 : c) (k : Q) (t : a → b → c → Q → P := by
  intro f0 f1 f2 k
  repeat (first | simp -dsimp -implicitDefEqProofs (disch := first | omega | (simp <;> omega) | fail) [f0, f1, f2] | ((with_reducible first | apply m_1 | apply m_0); (focus ((conv => lhs; simp -dsimp -implicitDefEqProofs (disch := first | omega | (simp <;> omega) | fail) [f0, f1, f2]); done))) | ((with_reducible first | apply i_T | apply g_T); (focus (simp -dsimp -implicitDefEqProofs (disch := first | omega | (simp <;> omega) | fail) [f0, f1, f2]; done))) | ((with_reducible first | apply i_F | apply g_F); (focus (simp -dsimp -implicitDefEqProofs (disch := first | omega | (simp <;> omega) | fail) [f0, f1, f2]; done))))
  exact k) : P := t f0 f1 f2 k
theorem st4 {P Q : Prop} {a b c d : Prop} (f0 : a) (f1 : b) (f2 : c) (f3 : d) (k : Q) (t : a → b → c → d → Q → P := by
  intro f0 f1 f2 f3 k
  repeat (first | simp -dsimp -implicitDefEqProofs (disch := first | omega | (simp <;> omega) | fail) [f0, f1, f2, f3] | ((with_reducible first | apply m_1 | apply m_0); (focus ((conv => lhs; simp -dsimp -implicitDefEqProofs (disch := first | omega | (simp <;> omega) | fail) [f0, f1, f2, f3]); done))) | ((with_reducible first | apply i_T | apply g_T); (focus (simp -dsimp -implicitDefEqProofs (disch := first | omega | (simp <;> omega) | fail) [f0, f1, f2, f3]; done))) | ((with_reducible first | apply i_F | apply g_F); (focus (simp -dsimp -implicitDefEqProofs (disch := first | omega | (simp <;> omega) | fail) [f0, f1, f2, f3]; done))))
  exact k) : P := t f0 f1 f2 f3 k
theorem sd4 {P Q : Prop} {a b c d : Prop} (f0 : a) (f1 : b) (f2 : c) (f3 : d) (k : Q) (t : a → b → c → d → Q → P := by
  intro f0 f1 f2 f3 k
  repeat (first | simp -dsimp -implicitDefEqProofs (disch := first | omega | (simp <;> omega) | fail) [f0, f1, f2, f3] | (with_reducible apply m_draw) | ((with_reducible refine ⟨m_op ?_, ?_⟩); (focus (simp -dsimp -implicitDefEqProofs (disch := first | omega | (simp <;> omega) | fail) [f0, f1, f2, f3]; done))) | ((with_reducible first | apply m_d1 rfl | apply m_dE | apply m_dE0); (focus ((conv => lhs; simp -dsimp -implicitDefEqProofs (disch := first | omega | (simp <;> omega) | fail) [f0, f1, f2, f3]); done))) | ((with_reducible first | apply m_1 | apply m_0); (focus ((conv => lhs; simp -dsimp -implicitDefEqProofs (disch := first | omega | (simp <;> omega) | fail) [f0, f1, f2, f3]); done))) | ((with_reducible first | apply i_T | apply g_T | apply h_T); (focus (simp -dsimp -implicitDefEqProofs (disch := first | omega | (simp <;> omega) | fail) [f0, f1, f2, f3]; done))) | ((with_reducible first | apply i_F | apply g_F | apply h_F); (focus (simp -dsimp -implicitDefEqProofs (disch := first | omega | (simp <;> omega) | fail) [f0, f1, f2, f3]; done))))
  exact k) : P := t f0 f1 f2 f3 k
theorem st5 {P Q : Prop} {a b c d e : Prop} (f0 : a) (f1 : b) (f2 : c) (f3 : d) (f4 : e) (k : Q) (t : a → b → c → d → e → Q → P := by
  intro f0 f1 f2 f3 f4 k
  repeat (first | simp -dsimp -implicitDefEqProofs (disch := first | omega | (simp <;> omega) | fail) [f0, f1, f2, f3, f4] | ((with_reducible first | apply m_1 | apply m_0); (focus ((conv => lhs; simp -dsimp -implicitDefEqProofs (disch := first | omega | (simp <;> omega) | fail) [f0, f1, f2, f3, f4]); done))) | ((with_reducible first | apply i_T | apply g_T); (focus (simp -dsimp -implicitDefEqProofs (disch := first | omega | (simp <;> omega) | fail) [f0, f1, f2, f3, f4]; done))) | ((with_reducible first | apply i_F | apply g_F); (focus (simp -dsimp -implicitDefEqProofs (disch := first | omega | (simp <;> omega) | fail) [f0, f1, f2, f3, f4]; done))))
  exact k) : P := t f0 f1 f2 f3 f4 k
theorem sd5 {P Q : Prop} {a b c d e : Prop} (f0 : a) (f1 : b) (f2 : c) (f3 : d) (f4 : e) (k : Q) (t : a → b → c → d → e → Q → P := by
  intro f0 f1 f2 f3 f4 k
  repeat (first | simp -dsimp -implicitDefEqProofs (disch := first | omega | (simp <;> omega) | fail) [f0, f1, f2, f3, f4] | (with_reducible apply m_draw) | ((with_reducible refine ⟨m_op ?_, ?_⟩); (focus (simp -dsimp -implicitDefEqProofs (disch := first | omega | (simp <;> omega) | fail) [f0, f1, f2, f3, f4]; done))) | ((with_reducible first | apply m_d1 rfl | apply m_dE | apply m_dE0); (focus ((conv => lhs; simp -dsimp -implicitDefEqProofs (disch := first | omega | (simp <;> omega) | fail) [f0, f1, f2, f3, f4]); done))) | ((with_reducible first | apply m_1 | apply m_0); (focus ((conv => lhs; simp -dsimp -implicitDefEqProofs (disch := first | omega | (simp <;> omega) | fail) [f0, f1, f2, f3, f4]); done))) | ((with_reducible first | apply i_T | apply g_T | apply h_T); (focus (simp -dsimp -implicitDefEqProofs (disch := first | omega | (simp <;> omega) | fail) [f0, f1, f2, f3, f4]; done))) | ((with_reducible first | apply i_F | apply g_F | apply h_F); (focus (simp -dsimp -implicitDefEqProofs (disch := first | omega | (simp <;> omega) | fail) [f0, f1, f2, f3, f4]; done))))
  exact k) : P := t f0 f1 f2 f3 f4 k
theorem st6 {P Q : Prop} {a b c d e f : Prop} (f0 : a) (f1 : b) (f2 : c) (f3 : d) (f4 : e) (f5 : f) (k : Q) (t : a → b → c → d → e → f → Q → P := by
  intro f0 f1 f2 f3 f4 f5 k
  repeat (first | simp -dsimp -implicitDefEqProofs (disch := first | omega | (simp <;> omega) | fail) [f0, f1, f2, f3, f4, f5] | ((with_reducible first | apply m_1 | apply m_0); (focus ((conv => lhs; simp -dsimp -implicitDefEqProofs (disch := first | omega | (simp <;> omega) | fail) [f0, f1, f2, f3, f4, f5]); done))) | ((with_reducible first | apply i_T | apply g_T); (focus (simp -dsimp -implicitDefEqProofs (disch := first | omega | (simp <;> omega) | fail) [f0, f1, f2, f3, f4, f5]; done))) | ((with_reducible first | apply i_F | apply g_F); (focus (simp -dsimp -implicitDefEqProofs (disch := first | omega | (simp <;> omega) | fail) [f0, f1, f2, f3, f4, f5]; done))))
  exact k) : P := t f0 f1 f2 f3 f4 f5 k
theorem st7 {P Q : Prop} {a b c d e f g : Prop} (f0 : a) (f1 : b) (f2 : c) (f3 : d) (f4 : e) (f5 : f) (f6 : g) (k : Q) (t : a → b → c → d → e → f → g → Q → P := by
  intro f0 f1 f2 f3 f4 f5 f6 k
  repeat (first | simp -dsimp -implicitDefEqProofs (disch := first | omega | (simp <;> omega) | fail) [f0, f1, f2, f3, f4, f5, f6] | ((with_reducible first | apply m_1 | apply m_0); (focus ((conv => lhs; simp -dsimp -implicitDefEqProofs (disch := first | omega | (simp <;> omega) | fail) [f0, f1, f2, f3, f4, f5, f6]); done))) | ((with_reducible first | apply i_T | apply g_T); (focus (simp -dsimp -implicitDefEqProofs (disch := first | omega | (simp <;> omega) | fail) [f0, f1, f2, f3, f4, f5, f6]; done))) | ((with_reducible first | apply i_F | apply g_F); (focus (simp -dsimp -implicitDefEqProofs (disch := first | omega | (simp <;> omega) | fail) [f0, f1, f2, f3, f4, f5, f6]; done))))
  exact k) : P := t f0 f1 f2 f3 f4 f5 f6 k
theorem sd7 {P Q : Prop} {a b c d e f g : Prop} (f0 : a) (f1 : b) (f2 : c) (f3 : d) (f4 : e) (f5 : f) (f6 : g) (k : Q) (t : a → b → c → d → e → f → g → Q → P := by
  intro f0 f1 f2 f3 f4 f5 f6 k
  repeat (first | simp -dsimp -implicitDefEqProofs (disch := first | omega | (simp <;> omega) | fail) [f0, f1, f2, f3, f4, f5, f6] | (with_reducible apply m_draw) | ((with_reducible refine ⟨m_op ?_, ?_⟩); (focus (simp -dsimp -implicitDefEqProofs (disch := first | omega | (simp <;> omega) | fail) [f0, f1, f2, f3, f4, f5, f6]; done))) | ((with_reducible first | apply m_d1 rfl | apply m_dE | apply m_dE0); (focus ((conv => lhs; simp -dsimp -implicitDefEqProofs (disch := first | omega | (simp <;> omega) | fail) [f0, f1, f2, f3, f4, f5, f6]); done))) | ((with_reducible first | apply m_1 | apply m_0); (focus ((conv => lhs; simp -dsimp -implicitDefEqProofs (disch := first | omega | (simp <;> omega) | fail) [f0, f1, f2, f3, f4, f5, f6]); done))) | ((with_reducible first | apply i_T | apply g_T | apply h_T); (focus (simp -dsimp -implicitDefEqProofs (disch := first | omega | (simp <;> omega) | fail) [f0, f1, f2, f3, f4, f5, f6]; done))) | ((with_reducible first | apply i_F | apply g_F | apply h_F); (focus (simp -dsimp -implicitDefEqProofs (disch := first | omega | (simp <;> omega) | fail) [f0, f1, f2, f3, f4, f5, f6]; done))))
  exact k) : P := t f0 f1 f2 f3 f4 f5 f6 k
theorem sa0 {P Q : Prop} (k : Q) (t : Q → P := by
  intro k
  (first | simp -dsimp -implicitDefEqProofs (disch := first | omega | (simp <;> omega) | fail) [*, -k] | ((with_reducible first | apply m_1 | apply m_0); (focus ((conv => lhs; simp -dsimp -implicitDefEqProofs (disch := first | omega | (simp <;> omega) | fail) [*, -k]); done))) | ((with_reducible first | apply i_T | apply g_T); (focus (simp -dsimp -implicitDefEqProofs (disch := first | omega | (simp <;> omega) | fail) [*, -k]; done))) | ((with_reducible first | apply i_F | apply g_F); (focus (simp -dsimp -implicitDefEqProofs (disch := first | omega | (simp <;> omega) | fail) [*, -k]; done))))
  repeat (first | simp -dsimp -implicitDefEqProofs (disch := first | omega | (simp <;> omega) | fail) [*, -k] | ((with_reducible first | apply m_1 | apply m_0); (focus ((conv => lhs; simp -dsimp -implicitDefEqProofs (disch := first | omega | (simp <;> omega) | fail) [*, -k]); done))) | ((with_reducible first | apply i_T | apply g_T); (focus (simp -dsimp -implicitDefEqProofs (disch := first | omega | (simp <;> omega) | fail) [*, -k]; done))) | ((with_reducible first | apply i_F | apply g_F); (focus (simp -dsimp -implicitDefEqProofs (disch := first | omega | (simp <;> omega) | fail) [*, -k]; done))))
  exact k) : P := t k
theorem sa0c1 {P Q : Prop} {a : Prop} (c0 : a) (k : Q) (t : a → Q → P := by
  intro c0 k
  (first | simp -dsimp -implicitDefEqProofs (disch := first | omega | (simp <;> omega) | fail) [*, -k, -c0] | ((with_reducible first | apply m_1 | apply m_0); (focus ((conv => lhs; simp -dsimp -implicitDefEqProofs (disch := first | omega | (simp <;> omega) | fail) [*, -k, -c0]); done))) | ((with_reducible apply giv); (case hAR => ((conv => lhs; simp -dsimp -implicitDefEqProofs (disch := first | omega | (simp <;> omega) | fail) [*, -k, -c0]); done)); (case hCT => (first | (apply c0 <;> first | assumption | omega | decide)))) | ((with_reducible first | apply i_T | apply g_T); (focus (simp -dsimp -implicitDefEqProofs (disch := first | omega | (simp <;> omega) | fail) [*, -k, -c0]; done))) | ((with_reducible first | apply i_F | apply g_F); (focus (simp -dsimp -implicitDefEqProofs (disch := first | omega | (simp <;> omega) | fail) [*, -k, -c0]; done))))
  repeat (first | simp -dsimp -implicitDefEqProofs (disch := first | omega | (simp <;> omega) | fail) [*, -k, -c0] | ((with_reducible first | apply m_1 | apply m_0); (focus ((conv => lhs; simp -dsimp -implicitDefEqProofs (disch := first | omega | (simp <;> omega) | fail) [*, -k, -c0]); done))) | ((with_reducible apply giv); (case hAR => ((conv => lhs; simp -dsimp -implicitDefEqProofs (disch := first | omega | (simp <;> omega) | fail) [*, -k, -c0]); done)); (case hCT => (first | (apply c0 <;> first | assumption | omega | decide)))) | ((with_reducible first | apply i_T | apply g_T); (focus (simp -dsimp -implicitDefEqProofs (disch := first | omega | (simp <;> omega) | fail) [*, -k, -c0]; done))) | ((with_reducible first | apply i_F | apply g_F); (focus (simp -dsimp -implicitDefEqProofs (disch := first | omega | (simp <;> omega) | fail) [*, -k, -c0]; done))))
  exact k) : P := t c0 k
theorem se0 {P Q : Prop} (k : Q) (t : Q → P := by
  intro k
  (first | simp -dsimp -implicitDefEqProofs (disch := first | omega | (simp <;> omega) | fail) [*, -k] | (with_reducible apply m_draw) | ((with_reducible refine ⟨m_op ?_, ?_⟩); (focus (simp -dsimp -implicitDefEqProofs (disch := first | omega | (simp <;> omega) | fail) [*, -k]; done))) | ((with_reducible first | apply m_d1 rfl | apply m_dE | apply m_dE0); (focus ((conv => lhs; simp -dsimp -implicitDefEqProofs (disch := first | omega | (simp <;> omega) | fail) [*, -k]); done))) | ((with_reducible first | apply m_1 | apply m_0); (focus ((conv => lhs; simp -dsimp -implicitDefEqProofs (disch := first | omega | (simp <;> omega) | fail) [*, -k]); done))) | ((with_reducible first | apply i_T | apply g_T | apply h_T); (focus (simp -dsimp -implicitDefEqProofs (disch := first | omega | (simp <;> omega) | fail) [*, -k]; done))) | ((with_reducible first | apply i_F | apply g_F | apply h_F); (focus (simp -dsimp -implicitDefEqProofs (disch := first | omega | (simp <;> omega) | fail) [*, -k]; done))))
  repeat (first | simp -dsimp -implicitDefEqProofs (disch := first | omega | (simp <;> omega) | fail) [*, -k] | (with_reducible apply m_draw) | ((with_reducible refine ⟨m_op ?_, ?_⟩); (focus (simp -dsimp -implicitDefEqProofs (disch := first | omega | (simp <;> omega) | fail) [*, -k]; done))) | ((with_reducible first | apply m_d1 rfl | apply m_dE | apply m_dE0); (focus ((conv => lhs; simp -dsimp -implicitDefEqProofs (disch := first | omega | (simp <;> omega) | fail) [*, -k]); done))) | ((with_reducible first | apply m_1 | apply m_0); (focus ((conv => lhs; simp -dsimp -implicitDefEqProofs (disch := first | omega | (simp <;> omega) | fail) [*, -k]); done))) | ((with_reducible first | apply i_T | apply g_T | apply h_T); (focus (simp -dsimp -implicitDefEqProofs (disch := first | omega | (simp <;> omega) | fail) [*, -k]; done))) | ((with_reducible first | apply i_F | apply g_F | apply h_F); (focus (simp -dsimp -implicitDefEqProofs (disch := first | omega | (simp <;> omega) | fail) [*, -k]; done))))
  exact k) : P := t k
theorem dz0 {P : Prop} (t : P := by simp (disch := first | omega | (simp <;> omega) | fail)) : P := t
theorem dz1 {P : Prop} {a : Prop} (f0 : a) (t : a → P := by intro f0; simp (disch := first | omega | (simp <;> omega) | fail) [f0]) : P := t f0
theorem dz2 {P : Prop} {a b : Prop} (f0 : a) (f1 : b) (t : a → b → P := by intro f0 f1; simp (disch := first | omega | (simp <;> omega) | fail) [f0, f1]) : P := t f0 f1
variable {P : Program}
theorem gv {g : FuncId} {args args' : List AV} {s s' : AState} {y : AV} {R : AV → AState → Prop} (c : Gives P g args' s y s') (k : R y s') (h : args.map AV.strip = args' := by first | (simp; done) | rfl) : Lruns (compCode P) P g args s R .a := giv c h k
theorem rn0 {g : FuncId} {args args' : List AV} {s : AState} {R R' : AV → AState → Prop} (c : Runs (compCode P) P g args' s R') (k : ∀ x s', R' x s' → R x s') (h : args = args' := by first | (simp; done) | rfl) : Lruns (compCode P) P g args s R .a := run c h k
theorem yr0 {l : Nat} {args args' : List AV} {s : AState} {Q Q' : AV → AState → Prop} (c : YRuns (compCode P) P l args' s Q') (k : ∀ x s', Q' x s' → Q x s') (h : args = args' := by first | rfl | (simp; done)) : Lyruns (compCode P) P l args s Q .a := yru c h k
end Go.Ab
end
