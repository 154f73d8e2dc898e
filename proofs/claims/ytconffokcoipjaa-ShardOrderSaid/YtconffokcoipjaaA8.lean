/- The model does what 'exec' says: variables, fields, elements. -/
import Derived.Test.YtconffokcoipjaaA7
namespace Go.Ab
open Go.RowKit
set_option linter.unusedVariables false
set_option linter.unusedSimpArgs false

variable {cmp : Code → Option ACode} {P : Program}

theorem run_typeInfo {t : TypeId} {i : TypeInfo} (h : P.info? t = some i) (w : World) : (typeInfo t).run P w = .ok i w := by simp [typeInfo, h]
theorem run_sizeOf {t : TypeId} {k : Nat} (h : kOf P t = some k) (w : World) : (sizeOf t).run P w = .ok k w := by
  unfold kOf at h
  cases hi : P.info? t with
  | none => rw [hi] at h; cases h
  | some i => rw [hi] at h; simp at h; simp [sizeOf, run_typeInfo hi, h]
theorem run_zeroValue {t : TypeId} {z : Value} (h : zeroOf P t = some z) (w : World) : (zeroValue t).run P w = .ok z w := by
  unfold zeroOf at h
  cases hi : P.info? t with
  | none => rw [hi] at h; cases h
  | some i => rw [hi] at h; simp at h; simp [zeroValue, run_typeInfo hi, h]
theorem run_isAgg {t : TypeId} {b : Bool} (h : aggOf P t = some b) (w : World) : (isAgg t).run P w = .ok b w := by
  unfold aggOf at h
  cases hi : P.underlying t with
  | none => rw [hi] at h; cases h
  | some d =>
    rw [hi] at h
    simp only [Option.map_some, Option.some.injEq] at h
    subst h
    simp only [isAgg, Sem.run_bind, run_underlying hi, Result.andThen_ok]
    cases d <;> rfl

theorem one_ok {x : AV} {c : Cx} {y : Value} (h : R c x y) (ha : x.one = true) : y.oneCell' = true ∧ y.cells = #[y] := by
  have key : ∀ y : Value, y.oneCell' = true → y.oneCell' = true ∧ y.cells = #[y] := by
    intro y hy
    cases y <;> simp_all [Value.oneCell', Value.cells]
  cases h <;> first | (simp [AV.one] at ha; done) | exact key _ (by simpa [AV.one] using ha) | exact key _ rfl

theorem cells_ok {x : AV} {c : Cx} {y : Value} (h : R c x y) (ha : x.shape = true) : RL c x.cells y.cells.toList := by
  by_cases hx : ∃ cs, x = .agg cs
  · obtain ⟨cs, rfl⟩ := hx
    obtain ⟨vs, rfl, h'⟩ := h.agg_inv
    simpa [Value.cells, AV.cells] using h'
  · have h1 : x.one = true := by cases x <;> first | exact ha | exact absurd ⟨_, rfl⟩ hx
    have h2 : x.cells = [x] := by cases x <;> first | rfl | exact absurd ⟨_, rfl⟩ hx
    rw [h2, (one_ok h h1).2]
    exact RL.cons h (RL.nil c)

theorem okRow_spec {k : Nat} {x : AV} (h : okRow k x = true) : x.cells.length = k ∧ x.shape = true ∧ ∀ y ∈ x.cells, y.one = true := by
  simp only [okRow, Bool.and_eq_true, beq_iff_eq, List.all_eq_true] at h
  refine ⟨h.1, ?_, h.2⟩
  cases x <;> first | rfl | exact h.2 _ (List.mem_singleton.2 rfl)

theorem okRow_one {k : Nat} {x : AV} (h : okRow k x = true) {c : Cx} {y : Value} (hr : R c x y) : RL c x.cells y.cells.toList ∧ y.cells.size = k ∧ ∀ u ∈ y.cells.toList, u.oneCell' = true := by
  obtain ⟨h1, h2, h3⟩ := okRow_spec h
  have hc := cells_ok hr h2
  refine ⟨hc, by rw [← Array.length_toList, hc.1, h1], fun u hu => ?_⟩
  obtain ⟨j, hj, rfl⟩ := List.mem_iff_getElem.1 hu
  have hj' : j < x.cells.length := by rw [← hc.1]; exact hj
  have := hc.2 j hj'
  rw [List.getD_eq_getElem?_getD, List.getElem?_eq_getElem hj] at this
  exact (one_ok this (h3 _ (List.getElem_mem hj'))).1

/-- the cells that an address leads to -/
theorem cellsAt_ok {c : Cx} {s : AState} {w : World} (hr : Rel cmp c s w) {x : AV} {y : Value} (hx : R c x y) {cs : List AV} (h : cellsAt s x = some cs) :
    ∃ B o us, y = .pointer (some ⟨B, o, none⟩) ∧ RL c cs us ∧ ∀ j v, us[j]? = some v → w.cell? ⟨B, o + j, none⟩ = some v := by
  cases hx with
  | p b off hb =>
    simp only [cellsAt] at h
    have hob := hr.obj b (hr.n ▸ hb)
    split at h
    · rename_i cs0 hg
      rw [hg] at hob
      obtain ⟨vs, e, h1, h2, h3⟩ := hob
      injection h with h
      subst h
      refine ⟨c.mu b, off, vs.toList.drop off, rfl, h2.drop off, fun j v hj => ?_⟩
      rw [cell_of_row w _ _ vs e _ h1]
      rw [List.getElem?_drop] at hj
      simpa using hj
    · cases h
  | q cs0 off B o g h1 h2 =>
    simp only [cellsAt, Option.some.injEq] at h
    subst h
    refine ⟨B, o + off, (((List.range cs0.length).map g).drop off), rfl, ?_, fun j v hj => ?_⟩
    · refine RL.drop ⟨by simp, fun j hj => ?_⟩ off
      rw [List.getD_eq_getElem?_getD, List.getElem?_map, List.getElem?_range hj]
      exact h2 j hj
    · rw [List.getElem?_drop, List.getElem?_map] at hj
      have hlt : off + j < cs0.length := by
        by_cases h' : off + j < cs0.length
        · exact h'
        · rw [List.getElem?_eq_none (by simpa using h')] at hj; simp at hj
      rw [List.getElem?_range hlt] at hj
      simp only [Option.map_some, Option.some.injEq] at hj
      have ha := h1 _ hlt
      have hne : c.arr B ≠ [] := by intro e; rw [e] at ha; simp at ha
      obtain ⟨vs, e, fz, k1, k2⟩ := hr.arr B hne
      obtain ⟨t, ht⟩ := k2
      rw [cell_of_row w _ _ vs e _ k1, ← hj, ← ha]
      have := (List.getElem?_eq_some_iff.1 ha).1
      rw [show o + off + j = o + (off + j) by omega, ← Array.getElem?_toList, ← ht, List.getElem?_append_left this]
  | _ => simp [cellsAt] at h

theorem shadow_take {c : Cx} {cs : List AV} {us : List Value} (h : RL c cs us) {k : Nat} (hk : k ≤ cs.length) : (us.take k).length = k := by
  rw [List.length_take, h.1]; omega

section
variable {o : Oper} {t : List AV} {s : AState}

theorem run_load_agg {B off : Nat} {us : List Value} {w : World} {ty : TypeId} (h : ∀ j v, us[j]? = some v → w.cell? ⟨B, off + j, none⟩ = some v) {k : Nat} (hk : us.length = k) (ha : aggOf P ty = some true) (hs : kOf P ty = some k) :
    (loadVar ty ⟨B, off, none⟩).run P w = .ok (.agg us.toArray) w := by
  subst hk
  have := run_loadCells_list (P := P) (w := w) ⟨B, off, none⟩ us (fun j v hj => by rw [Addr.add_lit]; exact h j v hj)
  simp [loadVar, run_isAgg ha, run_sizeOf hs, this]

theorem run_load_one {B off : Nat} {u : Value} {w : World} {ty : TypeId} (h : w.cell? ⟨B, off, none⟩ = some u) (ha : aggOf P ty = some false) :
    (loadVar ty ⟨B, off, none⟩).run P w = .ok u w := by
  simp [loadVar, run_isAgg ha, h]

theorem ok_load {ty : TypeId} {x : Operand} {x' : Arg} {ag : Bool} {k : Nat} (ho : o.op = .load ty x) (h1 : cArg x = some x') (ha : aggOf P ty = some ag) (hk : kOf P ty = some k) (hak : ag = true ∨ k = 1)
    {cs : List AV} (hc : cellsAt s (x'.ev t) = some cs) (hl : k ≤ cs.length) : OpOk cmp P o t s (if ag then .agg (cs.take k) else cs.getD 0 .any) s :=
  .pure fun c w ρ hr ht => by
    obtain ⟨B, off, us, hy, hu, hcell⟩ := cellsAt_ok hr (ht _ _ h1) hc
    cases ag with
    | true =>
      refine ⟨.agg (us.take k).toArray, ?_, by simpa using R.agg' (hu.take k)⟩
      have := run_load_agg (P := P) (w := w) (B := B) (off := off) (us := us.take k) (ty := ty) (fun j v hj => hcell j v (by
        rw [List.getElem?_take] at hj; split at hj
        · exact hj
        · cases hj)) (shadow_take hu hl) ha hk
      simp [execOp, ho, hy, Instr.loadAt, Instr.sureAddr, this]
    | false =>
      have hk1 : k = 1 := by simpa using hak
      subst hk1
      have h0 : 0 < us.length := by rw [hu.1]; omega
      have hu0 : us[0]? = some (us.getD 0 undef) := by rw [List.getD_eq_getElem?_getD, List.getElem?_eq_getElem h0]; rfl
      refine ⟨us.getD 0 undef, ?_, by simpa using hu.get 0⟩
      have := run_load_one (P := P) (w := w) (hcell 0 _ hu0) ha
      simp only [Nat.add_zero] at this
      simp [execOp, ho, hy, Instr.loadAt, Instr.sureAddr, this]

/-- cells written into an object -/
theorem Rel.write {c : Cx} {w : World} (hr : Rel cmp c s w) {b off : Nat} {cs vs : List AV} {us : List Value} (hg : s.get b = .cells cs) (hv : RL c vs us) (h1 : ∀ u ∈ us, u.oneCell' = true) (hl : off + vs.length ≤ cs.length) :
    ∃ w', (storeCells ⟨c.mu b, off, none⟩ us).run P w = .ok () w' ∧ Ext c s w c (s.set b (.cells (cs.take off ++ vs ++ cs.drop (off + vs.length)))) w' ∧
      Rel cmp c (s.set b (.cells (cs.take off ++ vs ++ cs.drop (off + vs.length)))) w' := by
  have hb : b < s.n := AState.lt_of_get hg (by simp)
  have hob := hr.obj b hb
  rw [hg] at hob
  obtain ⟨cur, e, k1, k2, k3⟩ := hob
  have hsz : cur.size = cs.length := by rw [← Array.length_toList]; exact k2.1
  have hrun := run_storeCells_at P (c.mu b) off e us 0 cur w k1 (by rw [hv.1, hsz]; exact hl) h1
  simp only [Nat.add_zero] at hrun
  refine ⟨_, hrun, ?_⟩
  have := hr.upd (w' := w.setRow (c.mu b) (cur.toList.take off ++ us ++ cur.toList.drop (off + us.length)).toArray) hb (by rw [hg]; simp) ⟨rfl, rfl, rfl⟩ (by simp) (fun B hB => setRow_other w _ _ _ hB)
    (.cells (cs.take off ++ vs ++ cs.drop (off + vs.length))) ⟨_, e, setRow_heap w _ cur _ e _ k1, ?_, k3⟩ k3
  · exact ⟨this.2, this.1⟩
  · show RL c _ (cur.toList.take off ++ us ++ cur.toList.drop (off + us.length))
    rw [hv.1]
    exact ((k2.take off).append hv).append (k2.drop _)

theorem ok_store {ty : TypeId} {x y : Operand} {x' y' : Arg} {k : Nat} (ho : o.op = .store ty x y) (h1 : cArg x = some x') (h2 : cArg y = some y') (hk : kOf P ty = some k)
    {b off : Nat} (hx : x'.ev t = .p b off) {cs : List AV} (hg : s.get b = .cells cs) (hy : okRow k (y'.ev t) = true) (hl : off + k ≤ cs.length) :
    OpOk cmp P o t s .any (s.set b (.cells (cs.take off ++ (y'.ev t).cells ++ cs.drop (off + k)))) := by
  intro c w ρ hr ht
  have e1 := ht _ _ h1
  rw [hx] at e1
  have hp : ρ x = .pointer (some ⟨c.mu b, off, none⟩) := by generalize ρ x = v at e1; cases e1; rfl
  obtain ⟨hc, hsz, hone⟩ := okRow_one hy (ht _ _ h2)
  have hlen : (y'.ev t).cells.length = k := (okRow_spec hy).1
  obtain ⟨w', hrun, hext, hrel⟩ := hr.write (P := P) hg hc hone (by rw [hlen]; exact hl)
  rw [hlen] at hext hrel
  refine ⟨undef, w', c, .inr ⟨?_, rfl⟩, hext, hrel, .any _⟩
  simp [execOp, ho, hp, Instr.storeAt, Instr.sureAddr, storeVar, run_sizeOf hk, hsz, hrun]

theorem ok_alloc {ty : TypeId} {z : Value} (ho : o.op = .alloc ty) (hz : zeroOf P ty = some z) : OpOk cmp P o t s (.p s.n 0) (s.alloc (.cells (z.cells.toList.map ofCell))) := by
  intro c w ρ hr ht
  have := hr.alloc (.cells z.cells ty (0, 0)) (.cells (z.cells.toList.map ofCell)) 0 0 ⟨z.cells, ty, by rw [Cx.bind_mu]; exact heap_push_new w _, (RL_ofCell _ _), by rw [Cx.bind_mu, Cx.bind_arr]; exact hr.arr_new⟩ (by simp)
  refine ⟨.pointer (some ⟨w.heap.size, 0, none⟩), _, _, .inl ?_, this.2, this.1, ?_⟩
  · simp [execOp, ho, Instr.alloc, run_zeroValue hz, newVar, newRow]
  · have := R.p (c := c.bind w.heap.size 0 0) c.n 0 (by simp)
    rwa [Cx.bind_mu, ← hr.n] at this

theorem ok_box {ty : TypeId} {x : Operand} {x' : Arg} (ho : o.op = .box ty x) (h1 : cArg x = some x') (hx : (x'.ev t).shape = true) : OpOk cmp P o t s (.p s.n 0) (s.alloc (.cells (x'.ev t).cells)) := by
  intro c w ρ hr ht
  have e1 := cells_ok (ht _ _ h1) hx
  have := hr.alloc (.cells (ρ x).cells ty (0, 0)) (.cells (x'.ev t).cells) 0 0 ⟨(ρ x).cells, ty, by rw [Cx.bind_mu]; exact heap_push_new w _, e1.mono (c.le_bind _ _ _), by rw [Cx.bind_mu, Cx.bind_arr]; exact hr.arr_new⟩ (by simp)
  refine ⟨.pointer (some ⟨w.heap.size, 0, none⟩), _, _, .inl ?_, this.2, this.1, ?_⟩
  · simp [execOp, ho, Instr.box, newVar, newRow]
  · have := R.p (c := c.bind w.heap.size 0 0) c.n 0 (by simp)
    rwa [Cx.bind_mu, ← hr.n] at this

theorem run_fieldPlace {f : Field} {k : Nat} (hk : kOf P f.type = some k) (h0 : k ≠ 0) (a : Addr) (w : World) : (fieldPlace a f).run P w = .ok (a.add f.offset) w := by
  simp [fieldPlace, run_sizeOf hk, h0]

theorem ok_fld {ty : TypeId} {x : Operand} {x' : Arg} {i : Nat} {fs : Array Field} {f : Field} {k : Nat} (ho : o.op = .fieldAddr ty x i) (h1 : cArg x = some x') (hu : P.underlying ty = some (.struct fs)) (hf : fs[i]? = some f)
    (hk : kOf P f.type = some k) (h0 : k ≠ 0) {y : AV} (hy : (∃ b off, x'.ev t = .p b off ∧ y = .p b (off + f.offset)) ∨ (∃ cs off, x'.ev t = .q cs off ∧ y = .q cs (off + f.offset))) : OpOk cmp P o t s y s :=
  .pure fun c w ρ hr ht => by
    have e1 := ht _ _ h1
    rcases hy with ⟨b, off, hx, rfl⟩ | ⟨cs, off, hx, rfl⟩
    · rw [hx] at e1
      obtain ⟨hp, hb⟩ : ρ x = .pointer (some ⟨c.mu b, off, none⟩) ∧ b < c.n := by generalize ρ x = v at e1; cases e1; exact ⟨rfl, ‹_›⟩
      exact ⟨.pointer (some ⟨c.mu b, off + f.offset, none⟩), by simp [execOp, ho, hp, Instr.fieldAt, run_underlying hu, hf, Instr.sureAddr, run_fieldPlace hk h0, Addr.add_lit], .p _ _ hb⟩
    · rw [hx] at e1
      obtain ⟨B, q, g, hp, q1, q2⟩ : ∃ (B q : Nat) (g : Nat → Value), ρ x = .pointer (some ⟨B, q + off, none⟩) ∧ (∀ j, j < cs.length → (c.arr B)[q + j]? = some (g j)) ∧ ∀ j (h : j < cs.length), R c cs[j] (g j) := by
        generalize ρ x = v at e1; cases e1; exact ⟨_, _, _, rfl, ‹_›, ‹_›⟩
      exact ⟨.pointer (some ⟨B, q + (off + f.offset), none⟩), by simp [execOp, ho, hp, Instr.fieldAt, run_underlying hu, hf, Instr.sureAddr, run_fieldPlace hk h0, Addr.add_lit, Nat.add_assoc], .q cs _ B q g q1 q2⟩

end
end Go.Ab
