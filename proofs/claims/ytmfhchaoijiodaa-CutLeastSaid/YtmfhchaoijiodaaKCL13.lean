/- Going on. -/
import Derived.Deep.Slices
import Derived.Test.YtmfhchaoijiodaaKCL12
section
namespace Go.Ab
open Go.RowKit Go.Proofs Go.Deep
set_option linter.unusedVariables false
set_option linter.unusedSimpArgs false
variable {P : Program}
def Cx.all (W : World) : Cx := { n := 0, mu := fun _ => 0, tend := fun _ => 0, csz := fun _ => 0, arr := fun B => match W.heap[B]? with | some (.cells vs _ _) => vs.toList | _ => [] }
theorem rel_all (cmp : Code → Option ACode) (W : World) : Rel cmp (Cx.all W) AState.empty W := by
  refine ⟨rfl, fun b hb => absurd hb (Nat.not_lt_zero _), fun a b ha => absurd ha (Nat.not_lt_zero _), fun B hB => ?_⟩
  simp only [Cx.all] at hB ⊢
  cases h : W.heap[B]? with
  | none => simp [h] at hB
  | some o =>
    cases o <;> simp only [h] at hB ⊢ <;> first | exact absurd rfl hB | skip
    rename_i vs e fz
    exact ⟨vs, e, fz, rfl, List.prefix_refl _⟩
def Rd (P : Program) (t : TypeId) (good : List AV → Prop) : Prop := ∀ {H : Type} (enc : TypeId × Value → H) (W : World) (fuel : Nat) (cs : List Value) (x : DataW H × List MemPlace),
  DataW.trod enc P W 0 (fun _ => true) true fuel t cs = some x → ∃ xs, good xs ∧ RL (Cx.all W) xs cs
theorem Rd.mono {t : TypeId} {g g' : List AV → Prop} (h : Rd P t g) (hg : ∀ xs, g xs → g' xs) : Rd P t g' := fun enc W fuel cs x hx => by
  obtain ⟨xs, h1, h2⟩ := h enc W fuel cs x hx; exact ⟨xs, hg _ h1, h2⟩
theorem Rd.int {t : TypeId} {k : IntKind} (ht : P.underlying t = some (.int k)) : Rd P t (fun xs => ∃ n, xs = [.v (.int k n)] ∧ (Lit.int k n).wf = true) := fun enc W fuel cs x hx => by
  obtain ⟨n, rfl, _, hw⟩ := DataW.trod_int ht hx
  exact ⟨_, ⟨n, rfl, hw⟩, RL.cons (.v _) (RL.nil _)⟩
theorem Rd.bool {t : TypeId} (ht : P.underlying t = some .bool) : Rd P t (fun xs => ∃ b, xs = [.v (.bool b)]) := fun enc W fuel cs x hx => by
  obtain ⟨n, rfl, _⟩ := DataW.trod_bool ht hx
  exact ⟨_, ⟨n, rfl⟩, RL.cons (.v _) (RL.nil _)⟩
theorem Rd.string {t : TypeId} (ht : P.underlying t = some .string) : Rd P t (fun xs => ∃ b : ByteArray, xs = [.v (.string b)] ∧ b.size ≤ maxLen) := fun enc W fuel cs x hx => by
  obtain ⟨n, rfl, _, hs⟩ := DataW.trod_string ht hx
  exact ⟨_, ⟨n, rfl, hs⟩, RL.cons (.v _) (RL.nil _)⟩
def RdF (P : Program) : List Field → List (List AV → Prop) → Nat → Nat → Prop
  | [], [], off, tot => off = tot
  | f :: fs, g :: gs, off, tot => f.offset = off ∧ Rd P f.type g ∧ RdF P fs gs (off + P.cellsOf f.type) tot
  | _, _, _, _ => False
def Cat : List (List AV → Prop) → List AV → Prop
  | [], xs => xs = []
  | g :: gs, xs => ∃ a b, g a ∧ Cat gs b ∧ xs = a ++ b
theorem Rd.struct {t : TypeId} {fs : Array Field} {gs : List (List AV → Prop)} (ht : P.underlying t = some (.struct fs)) (h : RdF P fs.toList gs 0 (P.cellsOf t)) : Rd P t (Cat gs) := fun enc W fuel cs x hx => by
  obtain ⟨xs, n, _, _, hl, hxl, hf⟩ := DataW.trod_struct ht hx
  have key : ∀ (l : List Field) (gs : List (List AV → Prop)) (off : Nat), RdF P l gs off (P.cellsOf t) → (∀ f ∈ l, ∃ x, DataW.trod enc P W 0 (fun _ => true) true n f.type ((cs.drop f.offset).take (P.cellsOf f.type)) = some x) →
      ∃ ys, Cat gs ys ∧ RL (Cx.all W) ys (cs.drop off) := by
    intro l
    induction l with
    | nil =>
      intro gs off h _
      cases gs with
      | nil =>
        have h : off = P.cellsOf t := h
        exact ⟨[], rfl, by rw [h, ← hl, List.drop_length]; exact RL.nil _⟩
      | cons g gs => exact h.elim
    | cons f l ih =>
      intro gs off h hx
      cases gs with
      | nil => exact h.elim
      | cons g gs =>
        obtain ⟨h1, h2, h3⟩ := h
        obtain ⟨y, hy⟩ := hx f (by simp)
        obtain ⟨a, ha, hr⟩ := h2 enc W n _ y hy
        obtain ⟨b, hb, hrb⟩ := ih gs _ h3 (fun f' hf' => hx f' (by simp [hf']))
        refine ⟨a ++ b, ⟨a, b, ha, hb, rfl⟩, ?_⟩
        have := hr.append hrb
        rwa [h1, ← List.drop_drop, List.take_append_drop] at this
  have := key fs.toList gs 0 h (fun f hf' => by
    obtain ⟨i, hi, rfl⟩ := List.getElem_of_mem hf'
    have hi' : i < fs.size := by simpa using hi
    have := hf i fs[i] (by simp)
    rw [List.getElem?_eq_getElem (by omega)] at this
    exact ⟨_, by simpa using this⟩)
  simpa using this
theorem Rd.slice {t e : TypeId} {good : List AV → Prop} {k : Nat} (mk : List AV → AV) (ht : P.underlying t = some (.slice e)) (hk : P.cellsOf e = k) (hk0 : 0 < k) (he : Rd P e good) (hl : ∀ r, good r → r.length = k) (hmk : ∀ r, good r → (mk r).cells = r) :
    Rd P t (fun xs => ∃ rows : List (List AV), (∀ r ∈ rows, good r) ∧ rows.length ≤ maxLen ∧ xs = [.sl (rows.map mk) .no]) := fun {H} enc W fuel cs x hx => by
  rcases open_slice ht hx with ⟨rfl, _⟩ | ⟨a, len, cap, m, n, D, Pl, rfl, hb, hlc, hcm, hm, _, hi⟩
  · exact ⟨_, ⟨[], by simp, by simp, rfl⟩, RL.cons (.sl0 .no none (fun k => by simp)) (RL.nil _)⟩
  · have hm' : m = cap := by rw [hm]; simp
    subst hm'
    by_cases hc0 : m = 0
    · have : len = 0 := by omega
      subst hc0; subst this
      exact ⟨_, ⟨[], by simp, by simp, rfl⟩, RL.cons (.sl0 .no (some a) (fun k => by simp)) (RL.nil _)⟩
    · obtain ⟨cs0, hcs0, _⟩ := hi 0 (by omega)
      have hspot : a.spot = none := by
        rw [hk] at hcs0
        obtain ⟨_, h2, h3⟩ := World.cells?_some hcs0
        have := h3 0 (by omega)
        simp only [Nat.zero_mul] at this
        have h0 : (0 : Nat) < cs0.length := by omega
        rw [List.getElem?_eq_getElem h0] at this
        have := World.cell?_spot this
        simpa [Addr.add] using this
      have hch : ∀ i, ∃ p : List AV × List Value, i < m → good p.1 ∧ RL (Cx.all W) p.1 p.2 ∧ W.cells? 0 (a.add (i * k)) k = some p.2 := by
        intro i
        by_cases h : i < m
        · obtain ⟨cs', h1, h2⟩ := hi i h
          obtain ⟨xs, g1, g2⟩ := he enc W n cs' _ h2
          exact ⟨(xs, cs'), fun _ => ⟨g1, g2, by rw [hk] at h1; exact h1⟩⟩
        · exact ⟨([], []), fun h' => absurd h' h⟩
      obtain ⟨f, hf⟩ := Classical.axiomOfChoice hch
      refine ⟨_, ⟨(List.range len).map fun i => (f i).1, ?_, by simp; omega, rfl⟩, RL.cons ?_ (RL.nil _)⟩
      · intro r hr
        obtain ⟨i, hi', rfl⟩ := List.mem_map.1 hr
        exact (hf i (by have := List.mem_range.1 hi'; omega)).1
      · have hcell : ∀ i, i < len → ∀ j, j < k → ((Cx.all W).arr a.block)[a.off + (i * k + j)]? = some ((f i).2.getD j undef) := by
          intro i hi' j hj
          obtain ⟨g1, g2, g3⟩ := hf i (by omega)
          obtain ⟨_, h2, h3⟩ := World.cells?_some g3
          have h4 := h3 j hj
          rw [List.getElem?_eq_getElem (by omega)] at h4
          have e : (a.add (i * k)).add j = ⟨a.block, a.off + (i * k + j), none⟩ := by
            obtain ⟨B, o, sp⟩ := a
            simp only at hspot
            subst hspot
            unfold Addr.add
            by_cases h0 : i * k = 0
            · by_cases h1 : j = 0
              · simp [h0, h1]
              · simp [h0, h1]
            · by_cases h1 : j = 0
              · simp [h0, h1]
              · simp [h0, h1, Nat.add_assoc]
          rw [e] at h4
          simp only [World.cell?] at h4
          simp only [Cx.all]
          cases hb' : W.heap[a.block]? with
          | none => simp [hb'] at h4
          | some o =>
            cases o <;> simp only [hb'] at h4 ⊢ <;> first | (cases h4; done) | skip
            have h5 : j < (f i).2.length := by omega
            rw [List.getD_eq_getElem?_getD, List.getElem?_eq_getElem h5]
            simpa using h4
        obtain ⟨B, o, sp⟩ := a
        simp only at hspot hcell
        subst hspot
        have hlen : (((List.range len).map fun i => (f i).1).map mk).length = len := by simp
        have hR := R.sl (c := Cx.all W) (((List.range len).map fun i => (f i).1).map mk) .no k B o m (fun q => (f (q / k)).2.getD (q % k) undef) (fun i hi' => ?_) (fun j hj => ?_) (fun i hi' j hj => ?_) (by rw [hlen]; exact hlc) trivial
        · rwa [hlen] at hR
        · have hi2 : i < len := by rwa [hlen] at hi'
          simp only [List.getElem_map, List.getElem_range]
          rw [hmk _ (hf i (by omega)).1]; exact hl _ (hf i (by omega)).1
        · rw [hlen] at hj
          have h1 : j / k < len := by rw [Nat.div_lt_iff_lt_mul hk0]; exact hj
          have := hcell (j / k) h1 (j % k) (Nat.mod_lt _ hk0)
          rwa [show j / k * k + j % k = j by rw [Nat.mul_comm]; exact Nat.div_add_mod j k] at this
        · have hi2 : i < len := by rwa [hlen] at hi'
          obtain ⟨g1, g2, _⟩ := hf i (by omega)
          simp only [List.getElem_map, List.getElem_range] at hj ⊢
          have hj' : j < (f i).1.length := by rw [hmk _ g1] at hj; exact hj
          have hjk : j < k := by rw [← hl _ g1]; exact hj'
          have e1 : (i * k + j) / k = i := by rw [Nat.mul_comm, Nat.mul_add_div hk0, Nat.div_eq_of_lt hjk]; rfl
          have e2 : (i * k + j) % k = j := by rw [Nat.mul_comm, Nat.mul_add_mod, Nat.mod_eq_of_lt hjk]
          rw [e1, e2]
          have := g2.2 j hj'
          simpa only [hmk _ g1] using this
theorem Rd.arg {t : TypeId} {good : List AV → Prop} (h : Rd P t good) {H : Type} {enc : TypeId × Value → H} {W : World} {v : Value} {d : DataW H} {ps : List MemPlace} (hv : DataW.Trod enc P W 0 (fun _ => true) true t v d ps) :
    ∃ xs, good xs ∧ RL (Cx.all W) xs v.cells.toList := by
  obtain ⟨fuel, hx⟩ := hv
  exact h enc W fuel _ _ hx
end Go.Ab
end
