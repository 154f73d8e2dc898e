/- Going on. -/
import Derived.Laws.Tables
import Derived.Test.YtmfhchaoijiodaaKCL5
section
namespace Go.Ab
open Go.RowKit
set_option linter.unusedVariables false
set_option linter.unusedSimpArgs false
variable {cmp : Code → Option ACode} {P : Program}
section
variable {o : Oper} {t : List AV} {s : AState}
theorem run_bounds {c : Cx} {ρ : Operand → Value} (ht : Ev c t ρ) {lo hi : Option Operand} {lo' hi' : Option Arg} (h2 : cOpt lo = some lo') (h3 : cOpt hi = some hi')
    {l h : Option Int} (hl : optInt t lo' = some l) (hh : optInt t hi' = some h) (b : Bool) (len cap : Nat) (hlc : len ≤ cap) (hb : 0 ≤ l.getD 0 ∧ l.getD 0 ≤ h.getD len ∧ h.getD len ≤ len) (w : World) :
    (Instr.sliceBounds b len cap (lo.map ρ) (hi.map ρ) none).run P w = .ok ((l.getD 0).toNat, (h.getD len).toNat, cap) w := by
  rcases optInt_ok ht h2 hl with ⟨e2, rfl⟩ | ⟨kl, nl, e2, rfl⟩ <;> rcases optInt_ok ht h3 hh with ⟨e3, rfl⟩ | ⟨kh, nh, e3, rfl⟩ <;>
    simp only [Option.getD_some, Option.getD_none] at hb ⊢ <;> rw [e2, e3]
  · simp [Instr.sliceBounds]
  · have h1 : 0 ≤ nh := by omega
    have h2 : nh ≤ (cap : Int) := by omega
    simp [Instr.sliceBounds, Instr.sliceBound, asIntOf, h1, h2]
  · simp [Instr.sliceBounds, Instr.sliceBound, asIntOf, hb]
  · have e : (nh.toNat : Int) = nh := by omega
    have h0 : 0 ≤ nh := by omega
    have h2 : nh ≤ (cap : Int) := by omega
    simp [Instr.sliceBounds, Instr.sliceBound, asIntOf, hb, e, h0, h2]
theorem run_bounds3 {c : Cx} {ρ : Operand → Value} (ht : Ev c t ρ) {lo hi mx : Option Operand} {lo' hi' mx' : Option Arg} (h2 : cOpt lo = some lo') (h3 : cOpt hi = some hi') (h4 : cOpt mx = some mx')
    {l h : Option Int} {m : Int} (hl : optInt t lo' = some l) (hh : optInt t hi' = some h) (hm : optInt t mx' = some (some m)) (len cap : Nat) (hlc : len ≤ cap) (hb : 0 ≤ l.getD 0 ∧ l.getD 0 ≤ h.getD len ∧ h.getD len ≤ len) (hmh : m = h.getD len)
    (hsome : h.isSome = true) (w : World) :
    (Instr.sliceBounds true len cap (lo.map ρ) (hi.map ρ) (mx.map ρ)).run P w = .ok ((l.getD 0).toNat, (h.getD len).toNat, m.toNat) w := by
  rcases optInt_ok ht h3 hh with ⟨e3, rfl⟩ | ⟨kh, nh, e3, rfl⟩
  · simp at hsome
  rcases optInt_ok ht h4 hm with ⟨_, h⟩ | ⟨km, nm, e4, h⟩
  · cases h
  injection h with h
  subst h
  simp only [Option.getD_some] at hb hmh ⊢
  subst hmh
  have e : (m.toNat : Int) = m := by omega
  have h0 : 0 ≤ m := by omega
  have h2' : m ≤ (cap : Int) := by omega
  rcases optInt_ok ht h2 hl with ⟨e2, rfl⟩ | ⟨kl, nl, e2, rfl⟩ <;> simp only [Option.getD_some, Option.getD_none] at hb ⊢ <;> rw [e2, e3, e4]
  · simp [Instr.sliceBounds, Instr.sliceBound, asIntOf, hb, e, h0, h2']
  · simp [Instr.sliceBounds, Instr.sliceBound, asIntOf, hb, e, h0, h2']
theorem R.part {c : Cx} {xs : List AV} {k B q : Nat} {g : Nat → Value} (q1 : ∀ i (h : i < xs.length), (xs[i]).cells.length = k) (q2 : ∀ j, j < xs.length * k → (c.arr B)[q + j]? = some (g j))
    (q3 : ∀ i (h : i < xs.length) j (h' : j < (xs[i]).cells.length), R c (xs[i]).cells[j] (g (i * k + j))) {l h m : Nat} (hl : l ≤ h) (hh : h ≤ xs.length) (hm : h ≤ m) (tk : Tok) (htk : tk = .no ∨ (tk = .zero ∧ m = h)) :
    R c (.sl ((xs.take h).drop l) tk) (.slice (some ⟨B, if m = l then q else q + l * k, none⟩) (h - l) (m - l)) := by
  have hlen : ((xs.take h).drop l).length = h - l := by simp; omega
  have hget : ∀ i (hi : i < ((xs.take h).drop l).length), ∃ h', ((xs.take h).drop l)[i] = xs[l + i]'h' := by
    intro i hi
    rw [hlen] at hi
    exact ⟨by omega, by rw [List.getElem_drop, List.getElem_take]⟩
  have hmul : ∀ i j, i < h - l → j < k → (l + i) * k + j < xs.length * k := fun i j hi hj => by
    calc (l + i) * k + j < (l + i) * k + k := by omega
      _ = (l + i + 1) * k := by rw [Nat.add_mul (l + i), Nat.one_mul]
      _ ≤ xs.length * k := Nat.mul_le_mul_right _ (by omega)
  by_cases hml : m = l
  · have h0 : ((xs.take h).drop l) = [] := List.eq_nil_of_length_eq_zero (by rw [hlen]; omega)
    rw [h0, if_pos hml]
    have := R.sl (c := c) [] tk k B q (m - l) g (fun i hi => by simp at hi) (fun j hj => by simp at hj) (fun i hi => by simp at hi) (by simp)
      (by rcases htk with rfl | ⟨rfl, rfl⟩
          · trivial
          · show m - l = 0; omega)
    simp only [List.length_nil] at this
    rwa [show h - l = 0 by omega]
  · rw [if_neg hml]
    have := R.sl (c := c) ((xs.take h).drop l) tk k B (q + l * k) (m - l) (fun j => g (l * k + j))
      (fun i hi => by obtain ⟨h', e⟩ := hget i hi; rw [e]; exact q1 _ h')
      (fun j hj => by
        rw [Nat.add_assoc]
        rw [hlen] at hj
        refine q2 _ ?_
        calc l * k + j < l * k + (h - l) * k := by omega
          _ = (l + (h - l)) * k := by rw [Nat.add_mul]
          _ ≤ xs.length * k := Nat.mul_le_mul_right _ (by omega))
      (fun i hi j hj => by
        obtain ⟨h', e⟩ := hget i hi
        have hj' : j < (xs[l + i]'h').cells.length := by rw [← e]; exact hj
        have := q3 (l + i) h' j hj'
        rw [show (l + i) * k + j = l * k + (i * k + j) by rw [Nat.add_mul]; omega] at this
        have e2 : ((xs.take h).drop l)[i].cells[j] = (xs[l + i]'h').cells[j] := by simp only [e]
        rw [e2]; exact this)
      (by rw [hlen]; omega)
      (by rcases htk with rfl | ⟨rfl, rfl⟩
          · trivial
          · show m - l = _; rw [hlen])
    rwa [hlen] at this
theorem ok_slice_sl {ty e : TypeId} {k : Nat} {x : Operand} {x' : Arg} {lo hi mx : Option Operand} {lo' hi' mx' : Option Arg} (ho : o.op = .slice ty x lo hi mx) (h1 : cArg x = some x') (h2 : cOpt lo = some lo') (h3 : cOpt hi = some hi') (h4 : cOpt mx = some mx')
    (hu : P.underlying ty = some (.slice e)) (hk : kOf P e = some k) {xs : List AV} {tk : Tok} (hx : x'.ev t = .sl xs tk) {l h m : Option Int} (hl : optInt t lo' = some l) (hh : optInt t hi' = some h) (hm : optInt t mx' = some m)
    (hb : 0 ≤ l.getD 0 ∧ l.getD 0 ≤ h.getD xs.length ∧ h.getD xs.length ≤ xs.length) (hhk : headK k xs = true) (hmh : ∀ n, m = some n → n = h.getD xs.length ∧ h.isSome = true) :
    OpOk cmp P o t s (.sl ((xs.take (h.getD xs.length).toNat).drop (l.getD 0).toNat) (if m.isSome then .zero else .no)) s :=
  .pure fun c w ρ hr ht => by
    have e1 := ht _ _ h1
    rw [hx] at e1
    have main : ∀ (base : Option Addr) (len cap : Nat), ρ x = .slice base len cap → len = xs.length → len ≤ cap → (execOp ρ o).run P w = .ok (.value (.slice
        (if ((m.map Int.toNat).getD cap) = (l.getD 0).toNat then base else base.map (·.add ((l.getD 0).toNat * k))) ((h.getD xs.length).toNat - (l.getD 0).toNat) (((m.map Int.toNat).getD cap) - (l.getD 0).toNat))) w := by
      intro base len cap hy hlen hlc
      subst hlen
      cases m with
      | none =>
        have hm' : mx.map ρ = none := by
          rcases optInt_ok ht h4 hm with ⟨h, _⟩ | ⟨_, _, _, h⟩
          · exact h
          · cases h
        have := run_bounds (P := P) ht h2 h3 hl hh true xs.length cap hlc hb w
        simp [execOp, ho, hy, Instr.sliceAt, Instr.slice, run_underlying hu, hm', this, run_sizeOf hk]
      | some n =>
        obtain ⟨hn, hs⟩ := hmh n rfl
        have := run_bounds3 (P := P) ht h2 h3 h4 hl hh hm xs.length cap hlc hb hn hs w
        simp [execOp, ho, hy, Instr.sliceAt, Instr.slice, run_underlying hu, this, run_sizeOf hk]
    rcases e1.sl_inv with ⟨rfl, p0, hy, _⟩ | ⟨k', B, q, cap, g, hy, q1, q2, q3, q4, q5⟩
    · refine ⟨_, main p0 0 0 hy rfl (Nat.le_refl _), ?_⟩
      have hl0 : l.getD 0 = 0 := by simp only [List.length_nil] at hb; omega
      have hh0 : h.getD (([] : List AV).length : Int) = 0 := by simp only [List.length_nil] at hb ⊢; omega
      rw [hl0, hh0]
      cases m with
      | none => simpa using R.sl0 (c := c) .no p0 (fun k => by simp)
      | some n =>
        have hn : n = 0 := by rw [(hmh n rfl).1, hh0]
        subst hn
        simpa using R.sl0 (c := c) .zero p0 (fun k => by simp)
    · refine ⟨_, main _ _ _ hy rfl q4, ?_⟩
      have hkk : xs ≠ [] → k' = k := by
        intro hne
        cases xs with
        | nil => exact absurd rfl hne
        | cons a as =>
          have := q1 0 (by simp)
          simp only [headK, beq_iff_eq] at hhk
          rw [← this, ← hhk]; rfl
      have hk0 : xs = [] → (l.getD 0).toNat = 0 := by rintro rfl; simp only [List.length_nil] at hb; omega
      have hmul : (l.getD 0).toNat * k = (l.getD 0).toNat * k' := by
        by_cases hne : xs = []
        · rw [hk0 hne]; simp
        · rw [hkk hne]
      have hA : ∀ z : Nat, (if z = (l.getD 0).toNat then (some ⟨B, q, none⟩ : Option Addr) else some ⟨B, q + (l.getD 0).toNat * k', none⟩) = some ⟨B, if z = (l.getD 0).toNat then q else q + (l.getD 0).toNat * k', none⟩ := by
        intro z; split <;> rfl
      cases m with
      | none =>
        have := R.part (c := c) (B := B) q1 q2 q3 (l := (l.getD 0).toNat) (h := (h.getD xs.length).toNat) (m := cap) (by omega) (by omega) (by omega) .no (.inl rfl)
        simp only [Option.map_some, hmul, Addr.add_lit, hA]
        exact this
      | some n =>
        obtain ⟨hn, _⟩ := hmh n rfl
        subst hn
        have := R.part (c := c) (B := B) q1 q2 q3 (l := (l.getD 0).toNat) (h := (h.getD xs.length).toNat) (m := (h.getD xs.length).toNat) (by omega) (by omega) (Nat.le_refl _) .zero (.inr ⟨rfl, rfl⟩)
        simp only [Option.map_some, hmul, Addr.add_lit, hA]
        exact this
theorem R.sl_nil {c : Cx} (B q cap : Nat) : R c (.sl [] .no) (.slice (some ⟨B, q, none⟩) 0 cap) :=
  R.sl (c := c) [] .no 0 B q cap (fun _ => undef) (fun i hi => by simp at hi) (fun j hj => by simp at hj) (fun i hi => by simp at hi) (Nat.zero_le _) trivial
theorem ok_slice_ms {ty e : TypeId} {k : Nat} {x : Operand} {x' : Arg} {lo hi mx : Option Operand} {lo' hi' mx' : Option Arg} (ho : o.op = .slice ty x lo hi mx) (h1 : cArg x = some x') (h2 : cOpt lo = some lo') (h3 : cOpt hi = some hi') (h4 : cOpt mx = some mx')
    (hu : P.underlying ty = some (.slice e)) (hk : kOf P e = some k) {b off ln : Nat} (hx : x'.ev t = .ms b off ln) {l h : Option Int} (hl : optInt t lo' = some l) (hh : optInt t hi' = some h) (hm : optInt t mx' = some none)
    (hb : 0 ≤ l.getD 0 ∧ l.getD 0 ≤ h.getD ln ∧ h.getD ln ≤ ln) :
    OpOk cmp P o t s (if l.getD 0 < h.getD ln then .ms b (off + (l.getD 0).toNat * k) ((h.getD ln).toNat - (l.getD 0).toNat) else .sl [] .no) s :=
  .pure fun c w ρ hr ht => by
    have e1 := ht _ _ h1
    rw [hx] at e1
    obtain ⟨cap, hy, hbn, hlc⟩ := e1.ms_inv
    have hm' : mx.map ρ = none := by
      rcases optInt_ok ht h4 hm with ⟨h, _⟩ | ⟨_, _, _, h⟩
      · exact h
      · cases h
    have := run_bounds (P := P) ht h2 h3 hl hh true ln cap hlc hb w
    have hrun : (execOp ρ o).run P w = .ok (.value (.slice (some ⟨c.mu b, if cap = (l.getD 0).toNat then off else off + (l.getD 0).toNat * k, none⟩) ((h.getD ln).toNat - (l.getD 0).toNat) (cap - (l.getD 0).toNat))) w := by
      simp [execOp, ho, hy, Instr.sliceAt, Instr.slice, run_underlying hu, hm', this, run_sizeOf hk, Addr.add_lit]
      split <;> rfl
    refine ⟨_, hrun, ?_⟩
    by_cases hlt : l.getD 0 < h.getD ln
    · rw [if_pos hlt, if_neg (by omega)]
      exact .ms _ _ _ _ hbn (by omega)
    · rw [if_neg hlt, show (h.getD (ln : Int)).toNat - (l.getD 0).toNat = 0 by omega]
      exact R.sl_nil _ _ _
theorem ok_slice_arr {ty e : TypeId} {n k : Nat} {x : Operand} {x' : Arg} {lo hi mx : Option Operand} {lo' hi' mx' : Option Arg} (ho : o.op = .slice ty x lo hi mx) (h1 : cArg x = some x') (h2 : cOpt lo = some lo') (h3 : cOpt hi = some hi') (h4 : cOpt mx = some mx')
    (hu : P.underlying ty = some (.array n e)) (hk : kOf P e = some k) {b off : Nat} (hx : x'.ev t = .p b off) {l h : Option Int} (hl : optInt t lo' = some l) (hh : optInt t hi' = some h) (hm : optInt t mx' = some none)
    (hb : 0 ≤ l.getD 0 ∧ l.getD 0 < h.getD n ∧ h.getD n ≤ n) :
    OpOk cmp P o t s (.ms b (off + (l.getD 0).toNat * k) ((h.getD n).toNat - (l.getD 0).toNat)) s :=
  .pure fun c w ρ hr ht => by
    have e1 := ht _ _ h1
    rw [hx] at e1
    obtain ⟨hy, hbn⟩ := e1.p_inv
    have hm' : mx.map ρ = none := by
      rcases optInt_ok ht h4 hm with ⟨h, _⟩ | ⟨_, _, _, h⟩
      · exact h
      · cases h
    have := run_bounds (P := P) ht h2 h3 hl hh false n n (Nat.le_refl _) ⟨hb.1, by omega, hb.2.2⟩ w
    have hne : n ≠ (l.getD 0).toNat := by omega
    refine ⟨_, ?_, .ms _ _ _ (n - (l.getD 0).toNat) hbn (by omega)⟩
    simp [execOp, ho, hy, Instr.sliceAt, run_underlying hu, hm', this, run_sizeOf hk, Addr.add_lit, hne, Instr.sureAddr]
theorem set_fold (off : Nat) : ∀ (vs : List Value) (j : Nat) (cells : Array Value), off + j + vs.length ≤ cells.size →
    ((vs.zipIdx j).foldl (fun cs (x : Value × Nat) => cs.setIfInBounds (off + x.2) x.1) cells).toList = cells.toList.take (off + j) ++ vs ++ cells.toList.drop (off + j + vs.length) := by
  intro vs
  induction vs with
  | nil => intro j cells h; simp
  | cons v vs ih =>
    intro j cells h
    simp only [List.length_cons] at h
    rw [List.zipIdx_cons, List.foldl_cons, ih (j + 1) _ (by simp; omega)]
    have hlt : off + j < cells.toList.length := by simp; omega
    simp only [Array.toList_setIfInBounds, List.length_cons]
    rw [show off + (j + 1) = off + j + 1 by omega, show off + j + (vs.length + 1) = off + j + 1 + vs.length by omega]
    rw [List.take_succ_eq_append_getElem (by simpa using hlt), List.getElem_set_self, List.take_set_of_le (Nat.le_refl _), List.drop_set_of_lt (by omega)]
    simp
theorem fill_ok {c : Cx} (place : Nat → Option (Nat × Nat)) : ∀ (parts : List (Nat × Value)) (ps : List (Nat × Nat × AV)) (cells : Array Value) (cs cs' : List AV), RL c cs cells.toList → parts.length = ps.length →
    (∀ j (h : j < parts.length) (h' : j < ps.length), place parts[j].1 = some (ps[j].1, ps[j].2.1) ∧ R c ps[j].2.2 parts[j].2) → fillA cs ps = some cs' →
    ∃ cells', Instr.fill place cells parts = some cells' ∧ RL c cs' cells'.toList := by
  intro parts
  induction parts with
  | nil =>
    intro ps cells cs cs' hR hl hp hf
    have : ps = [] := List.eq_nil_of_length_eq_zero hl.symm
    subst this
    simp [fillA] at hf
    subst hf
    exact ⟨cells, rfl, hR⟩
  | cons x parts ih =>
    intro ps cells cs cs' hR hl hp hf
    cases ps with
    | nil => simp at hl
    | cons p ps =>
      obtain ⟨i, v⟩ := x
      obtain ⟨off, k, y⟩ := p
      obtain ⟨h1, h2⟩ := hp 0 (by simp) (by simp)
      simp only [List.getElem_cons_zero] at h1 h2
      simp only [fillA] at hf
      split at hf
      · rename_i hc
        obtain ⟨h3, hc1, hc2⟩ := hc
        have hcell := cells_ok h2 h3
        have hsz : v.cells.size = k := by rw [← Array.length_toList, hcell.1, hc1]
        have hcs : cells.size = cs.length := by rw [← Array.length_toList]; exact hR.1
        have hset := set_fold off v.cells.toList 0 cells (by simp only [Array.length_toList, Nat.add_zero]; rw [hsz, hcs]; exact hc2)
        simp only [Nat.add_zero, Array.length_toList, hsz] at hset
        obtain ⟨cells', e1, e2⟩ := ih ps (v.cells.toList.zipIdx.foldl (fun cs (x : Value × Nat) => cs.setIfInBounds (off + x.2) x.1) cells) (cs.take off ++ y.cells ++ cs.drop (off + k)) cs'
          (by rw [hset]; exact ((hR.take off).append hcell).append (hR.drop _)) (by simpa using hl)
          (fun j hj hj' => hp (j + 1) (by simpa using hj) (by simpa using hj')) hf
        refine ⟨cells', ?_, e2⟩
        simp only [Instr.fill, h1]
        rw [if_neg (by simp [hsz, hcs]; omega)]
        rw [← e1]
        congr 1
        rw [← Array.foldl_toList, Array.toList_zipIdx]
      · cases hf
theorem mapM_get {α β : Type} {f : α → Option β} : ∀ {l : List α} {r : List β}, l.mapM f = some r → r.length = l.length ∧ ∀ j (h : j < l.length) (h' : j < r.length), f l[j] = some r[j] := by
  intro l
  induction l with
  | nil => intro r h; simp at h; subst h; exact ⟨rfl, fun j h => by simp at h⟩
  | cons x l ih =>
    intro r h
    simp only [List.mapM_cons, bind, Option.bind_eq_some_iff] at h
    obtain ⟨y, hy, r', hr, h⟩ := h
    cases h
    obtain ⟨h1, h2⟩ := ih hr
    refine ⟨by simp [h1], fun j hj hj' => ?_⟩
    cases j with
    | zero => exact hy
    | succ j => exact h2 j (by simpa using hj) (by simpa using hj')
theorem mapM_some {α β : Type} {f : α → Option β} : ∀ {l : List α}, (∀ x ∈ l, (f x).isSome = true) → ∃ r, l.mapM f = some r := by
  intro l
  induction l with
  | nil => intro _; exact ⟨[], rfl⟩
  | cons x l ih =>
    intro h
    obtain ⟨y, hy⟩ := Option.isSome_iff_exists.1 (h x (by simp))
    obtain ⟨r, hr⟩ := ih fun x hx => h x (by simp [hx])
    exact ⟨y :: r, by simp [List.mapM_cons, hy, hr]⟩
theorem zeroOf_info {t : TypeId} {z : Value} (h : zeroOf P t = some z) : ∃ i, P.info? t = some i ∧ i.zero = some z := by
  unfold zeroOf at h
  cases hi : P.info? t with
  | none => rw [hi] at h; cases h
  | some i => rw [hi] at h; exact ⟨i, rfl, h⟩
theorem kOf_info {t : TypeId} {k : Nat} (h : kOf P t = some k) : ∃ i, P.info? t = some i ∧ i.size = k := by
  unfold kOf at h
  cases hi : P.info? t with
  | none => rw [hi] at h; cases h
  | some i => rw [hi] at h; exact ⟨i, rfl, by simpa using h⟩
theorem ok_build {ty : TypeId} {parts : Array (Nat × Operand)} {ps : List (Nat × Nat × Arg)} {place : Nat → Option (Nat × Nat)} {z : Value} (ho : o.op = .build ty parts) (hb : ∀ l, P.built ty l = Instr.fill place z.cells l)
    (hl : ps.length = parts.toList.length) (hg : ∀ j (h : j < parts.toList.length) (h' : j < ps.length), place (parts.toList[j]).1 = some (ps[j].1, ps[j].2.1) ∧ cArg (parts.toList[j]).2 = some ps[j].2.2)
    {cs : List AV} (hf : fillA (z.cells.toList.map ofCell) (ps.map fun (off, k, x) => (off, k, x.ev t)) = some cs) : OpOk cmp P o t s (.agg cs) s :=
  .pure fun c w ρ hr ht => by
    obtain ⟨cells', e1, e2⟩ := fill_ok (c := c) place ((parts.toList.map fun (i, x) => (i, ρ x))) (ps.map fun (off, k, x) => (off, k, x.ev t)) z.cells (z.cells.toList.map ofCell) cs (RL_ofCell c _) (by simp [hl])
      (fun j hj hj' => by
        simp only [List.length_map] at hj hj'
        obtain ⟨h1, h2⟩ := hg j hj hj'
        refine ⟨by simpa using h1, ?_⟩
        simp only [List.getElem_map]
        exact ht _ _ h2) hf
    refine ⟨.agg cells', ?_, by simpa using R.agg' e2⟩
    have := run_build (P := P) w ty (parts.map fun (i, x) => (i, ρ x)) cells' (by rw [hb, Array.toList_map]; exact e1)
    simp only [execOp, ho, Sem.run_bind, this, Result.andThen_ok, Sem.run_pure]
theorem ok_build_struct {ty : TypeId} {parts : Array (Nat × Operand)} {z : Value} {fs : Array Field} {ps : List (Nat × Nat × Arg)} (ho : o.op = .build ty parts) (hz : zeroOf P ty = some z) (hu : P.underlying ty = some (.struct fs))
    (hall : (fs.toList.all fun f => (kOf P f.type).isSome) = true) (hps : parts.toList.mapM (fun (i, x) => do let f ← fs[i]?; some (f.offset, ← kOf P f.type, ← cArg x)) = some ps)
    {cs : List AV} (hf : fillA (z.cells.toList.map ofCell) (ps.map fun (off, k, x) => (off, k, x.ev t)) = some cs) : OpOk cmp P o t s (.agg cs) s := by
  obtain ⟨i, hi, hiz⟩ := zeroOf_info hz
  obtain ⟨hl, hg⟩ := mapM_get hps
  obtain ⟨places, hp⟩ := mapM_some (f := fun f : Field => (P.info? f.type).map fun i => (f.offset, i.size)) (l := fs.toList) (fun f hf => by
    have := List.all_eq_true.1 hall f hf
    simp only [kOf, Option.isSome_map] at this ⊢
    exact this)
  obtain ⟨hpl, hpg⟩ := mapM_get hp
  refine ok_build ho (place := (places.toArray[·]?)) (z := z) (fun l => by unfold Program.built; simp [hi, hu, hiz, hp]) hl (fun j hj hj' => ?_) hf
  have := hg j hj hj'
  simp only [bind, Option.bind_eq_some_iff] at this
  obtain ⟨f, hf, k, hk, x, hx, h⟩ := this
  injection h with h
  rw [← h]
  refine ⟨?_, hx⟩
  obtain ⟨i', hi', hk'⟩ := kOf_info hk
  have hlt : (parts.toList[j]).1 < fs.toList.length := by
    rw [Array.length_toList]; exact (Array.getElem?_eq_some_iff.1 hf).1
  have := hpg _ hlt (by rw [hpl]; exact hlt)
  have hf' : fs.toList[(parts.toList[j]).1] = f := by
    have := (Array.getElem?_eq_some_iff.1 hf).2
    simpa using this
  rw [hf', hi'] at this
  simp only [Option.map_some] at this
  simp only [List.getElem?_toArray]
  rw [List.getElem?_eq_getElem (by rw [hpl]; exact hlt), ← this, hk']
theorem ok_build_array {ty e : TypeId} {n k : Nat} {parts : Array (Nat × Operand)} {z : Value} {ps : List (Nat × Nat × Arg)} (ho : o.op = .build ty parts) (hz : zeroOf P ty = some z) (hu : P.underlying ty = some (.array n e)) (hk : kOf P e = some k)
    (hps : parts.toList.mapM (fun (i, x) => do some (i * k, k, ← cArg x)) = some ps)
    {cs : List AV} (hf : fillA (z.cells.toList.map ofCell) (ps.map fun (off, k, x) => (off, k, x.ev t)) = some cs) : OpOk cmp P o t s (.agg cs) s := by
  obtain ⟨i, hi, hiz⟩ := zeroOf_info hz
  obtain ⟨ie, hie, hik⟩ := kOf_info hk
  obtain ⟨hl, hg⟩ := mapM_get hps
  refine ok_build ho (place := fun i => some (i * k, k)) (z := z) (fun l => by unfold Program.built; simp [hi, hu, hiz, hie, hik]) hl (fun j hj hj' => ?_) hf
  have := hg j hj hj'
  simp only [bind, Option.bind_eq_some_iff] at this
  obtain ⟨x, hx, h⟩ := this
  injection h with h
  rw [← h]
  exact ⟨rfl, hx⟩
end
end Go.Ab
end
section
namespace Go.Ab
open Go.RowKit
set_option linter.unusedVariables false
set_option linter.unusedSimpArgs false
variable {cmp : Code → Option ACode} {P : Program}
def rowCells (xs : List AV) : List AV := xs.flatMap AV.cells
theorem rowCells_length {xs : List AV} {k : Nat} (h : ∀ x ∈ xs, x.cells.length = k) : (rowCells xs).length = xs.length * k := by
  induction xs with
  | nil => simp [rowCells]
  | cons x xs ih =>
    have := ih fun y hy => h y (by simp [hy])
    simp only [rowCells, List.flatMap_cons, List.length_append, List.length_cons] at this ⊢
    rw [this, h x (by simp), Nat.add_mul, Nat.one_mul, Nat.add_comm]
theorem rowCells_get {xs : List AV} {k : Nat} (h : ∀ x ∈ xs, x.cells.length = k) : ∀ (i : Nat) (hi : i < xs.length) (j : Nat) (hj : j < (xs[i]).cells.length), (rowCells xs)[i * k + j]? = some (xs[i]).cells[j] := by
  induction xs with
  | nil => intro i hi; simp at hi
  | cons x xs ih =>
    intro i hi j hj
    have hx := h x (by simp)
    simp only [rowCells, List.flatMap_cons]
    cases i with
    | zero =>
      simp only [List.getElem_cons_zero] at hj ⊢
      rw [Nat.zero_mul, Nat.zero_add, List.getElem?_append_left hj, List.getElem?_eq_getElem hj]
    | succ i =>
      have := ih (fun y hy => h y (by simp [hy])) i (by simpa using hi) j (by simpa using hj)
      rw [List.getElem?_append_right (by rw [hx, Nat.add_mul]; omega), hx, Nat.add_mul, Nat.one_mul, show i * k + k + j - k = i * k + j by omega]
      exact this
theorem R.sl_of {c : Cx} {xs : List AV} {k : Nat} {us : List Value} (h1 : ∀ x ∈ xs, x.cells.length = k) (hR : RL c (rowCells xs) us) {B o cap : Nat} (ha : ∀ j v, us[j]? = some v → (c.arr B)[o + j]? = some v)
    (hcap : xs.length ≤ cap) {t : Tok} (ht : TokOk c t B (o + xs.length * k) (o + cap * k) xs.length cap) : R c (.sl xs t) (.slice (some ⟨B, o, none⟩) xs.length cap) := by
  have hl := rowCells_length h1
  refine .sl xs t k B o cap (fun j => us.getD j undef) (fun i hi => h1 _ (List.getElem_mem hi)) (fun j hj => ?_) (fun i hi j hj => ?_) hcap ht
  · refine ha j _ ?_
    rw [List.getD_eq_getElem?_getD, List.getElem?_eq_getElem (by rw [hR.1, hl]; exact hj)]; rfl
  · have hg := rowCells_get h1 i hi j hj
    have hlt : i * k + j < (rowCells xs).length := (List.getElem?_eq_some_iff.1 hg).1
    have := hR.2 _ hlt
    rw [(List.getElem?_eq_some_iff.1 hg).2] at this
    exact this
theorem R.sl_cells {c : Cx} {xs : List AV} {t : Tok} {y : Value} (h : R c (.sl xs t) y) :
    (xs = [] ∧ ∃ p, y = .slice p 0 0 ∧ ∀ k, t ≠ .own k) ∨ ∃ (k B o cap : Nat) (us : List Value), y = .slice (some ⟨B, o, none⟩) xs.length cap ∧ (∀ x ∈ xs, x.cells.length = k) ∧ RL c (rowCells xs) us ∧ us.length = xs.length * k ∧
      (∀ j v, us[j]? = some v → (c.arr B)[o + j]? = some v) ∧ xs.length ≤ cap ∧ TokOk c t B (o + xs.length * k) (o + cap * k) xs.length cap := by
  rcases h.sl_inv with h | ⟨k, B, o, cap, g, hy, q1, q2, q3, q4, q5⟩
  · exact .inl h
  · have h1 : ∀ x ∈ xs, x.cells.length = k := fun x hx => by
      obtain ⟨i, hi, rfl⟩ := List.mem_iff_getElem.1 hx
      exact q1 i hi
    have hl := rowCells_length h1
    refine .inr ⟨k, B, o, cap, (List.range (xs.length * k)).map g, hy, h1, ⟨by simp [hl], fun j hj => ?_⟩, by simp, fun j v hj => ?_, q4, q5⟩
    · rw [hl] at hj
      rw [List.getD_eq_getElem?_getD, List.getElem?_map, List.getElem?_range hj]
      have hk : 0 < k := by
        rcases Nat.eq_zero_or_pos k with h0 | h0
        · subst h0; simp at hj
        · exact h0
      have hi : j / k < xs.length := by rw [Nat.div_lt_iff_lt_mul hk]; exact hj
      have hm : j % k < (xs[j / k]).cells.length := by rw [q1 _ hi]; exact Nat.mod_lt _ hk
      have hg := rowCells_get h1 (j / k) hi (j % k) hm
      have e : j / k * k + j % k = j := by rw [Nat.mul_comm]; exact Nat.div_add_mod j k
      have := q3 _ hi _ hm
      rw [e] at this hg
      have hx := (List.getElem?_eq_some_iff.1 hg).2
      rw [hx]
      exact this
    · have hlt : j < xs.length * k := by
        by_cases h' : j < xs.length * k
        · exact h'
        · rw [List.getElem?_eq_none (by simpa using h')] at hj; cases hj
      rw [List.getElem?_map, List.getElem?_range hlt] at hj
      simp only [Option.map_some, Option.some.injEq] at hj
      rw [← hj]
      exact q2 j hlt
theorem R.strip1 {c : Cx} {x : AV} {y : Value} (h : R c x y) : R c x.strip1 y := by
  cases h with
  | sl xs t k B o cap g h1 h2 h3 h4 h5 => exact .sl xs .no k B o cap g h1 h2 h3 h4 trivial
  | sl0 t p ht => exact .sl0 .no p (fun k => by simp)
  | v x => exact .v _
  | p b off h => exact .p b off h
  | q cs off B o g h1 h2 => exact .q cs off B o g h1 h2
  | ms b off len cap h h1 => exact .ms b off len cap h h1
  | m b h => exact .m b h
  | f fn fs caps us vs h0 h1 h2 h3 => exact .f fn fs caps us vs h0 h1 h2 h3
  | y l h => exact .y l h
  | agg cs vs h0 h => exact .agg cs vs h0 h
  | tup cs vs h0 h => exact .tup cs vs h0 h
  | any x => exact .any _
theorem RL.strip1 {c : Cx} {xs : List AV} {us : List Value} (h : RL c xs us) : RL c (xs.map AV.strip1) us :=
  ⟨by simp [h.1], fun j hj => by rw [List.getElem_map]; exact (h.2 j (by simpa using hj)).strip1⟩
theorem strip_cells (x : AV) : x.strip.cells = x.cells.map AV.strip1 := by cases x <;> rfl
theorem rowCells_strip (xs : List AV) : rowCells (xs.map AV.strip) = (rowCells xs).map AV.strip1 := by
  induction xs with
  | nil => rfl
  | cons x xs ih =>
    simp only [rowCells, List.map_cons, List.flatMap_cons, List.map_append, strip_cells] at ih ⊢
    rw [ih]
theorem fillA_rows {k : Nat} : ∀ (xs : List AV) (i : Nat) (pre : List AV), pre.length = i * k → (∀ x ∈ xs, x.shape = true ∧ x.cells.length = k) →
    fillA (pre ++ List.replicate (xs.length * k) .any) ((xs.zipIdx i).map fun (x, j) => (j * k, k, x)) = some (pre ++ rowCells xs) := by
  intro xs
  induction xs with
  | nil => intro i pre _ _; simp [fillA, rowCells]
  | cons x xs ih =>
    intro i pre hp hx
    obtain ⟨h1, h2⟩ := hx x (by simp)
    simp only [List.zipIdx_cons, List.map_cons, fillA]
    have hlen : (pre ++ List.replicate ((x :: xs).length * k) AV.any).length = i * k + (xs.length * k + k) := by
      simp only [List.length_append, hp, List.length_replicate, List.length_cons, Nat.add_mul, Nat.one_mul]
    rw [if_pos ⟨h1, h2, by rw [hlen]; omega⟩]
    have ht : (pre ++ List.replicate ((x :: xs).length * k) AV.any).take (i * k) = pre := by rw [← hp]; exact List.take_left
    have hd : (pre ++ List.replicate ((x :: xs).length * k) AV.any).drop (i * k + k) = List.replicate (xs.length * k) .any := by
      rw [← hp, ← List.drop_drop, List.drop_left, List.drop_replicate]
      congr 1
      simp only [List.length_cons, Nat.add_mul, Nat.one_mul]; omega
    rw [ht, hd]
    have := ih (i + 1) (pre ++ x.cells) (by simp [hp, h2, Nat.add_mul]) (fun y hy => hx y (by simp [hy]))
    rw [this]
    simp [rowCells]
section
variable {o : Oper} {t : List AV} {s : AState}
theorem ok_bsl {ty e : TypeId} {len k : Nat} {parts : Array (Nat × Operand)} {ps : List Arg} (ho : o.op = .buildSlice ty len parts) (hu : P.underlying ty = some (.slice e)) (hk : kOf P e = some k) {z : Value} (hz : zeroOf P e = some z)
    (hidx : parts.toList.map (·.1) = List.range len) (hlen : len * k ≤ 16777216) (hps : parts.toList.mapM (fun (_, x) => cArg x) = some ps) (hok : (ps.map (Arg.ev t)).all (okRow k) = true) :
    OpOk cmp P o t s (.sl ((ps.map (Arg.ev t)).map AV.strip) .zero) s := by
  intro c w ρ hr ht
  obtain ⟨hl, hg⟩ := mapM_get hps
  have hpl : parts.toList.length = len := by have := congrArg List.length hidx; simpa using this
  have hrow : ∀ x ∈ ps.map (Arg.ev t), x.shape = true ∧ x.cells.length = k := fun x hx => by
    have := okRow_spec (List.all_eq_true.1 hok x hx)
    exact ⟨this.2.1, this.1⟩
  have hfa := fillA_rows (k := k) (ps.map (Arg.ev t)) 0 [] (by simp) hrow
  simp only [List.nil_append] at hfa
  let cells0 : Array Value := (Array.range (len * k)).map fun j => (if len * k = 0 then #[] else z.cells)[j % (if len * k = 0 then #[] else z.cells).size]!
  obtain ⟨cells', e1, e2⟩ := fill_ok (c := c) (fun i => some (i * k, k)) ((parts.toList.map fun (i, x) => (i, ρ x))) (((ps.map (Arg.ev t)).zipIdx 0).map fun (x, j) => (j * k, k, x)) cells0
    (List.replicate ((ps.map (Arg.ev t)).length * k) .any) (rowCells (ps.map (Arg.ev t))) (RL.any c _ _ (by simp [cells0, hl, hpl])) (by simp [hl])
    (fun j hj hj' => by
      simp only [List.length_map] at hj hj'
      have h1 := hg j hj (by rw [hl]; exact hj)
      have h2 : (parts.toList[j]).1 = j := by
        have : (parts.toList.map (·.1))[j]? = some j := by rw [hidx, List.getElem?_range (by omega)]
        rw [List.getElem?_map, List.getElem?_eq_getElem hj] at this
        simpa using this
      refine ⟨?_, ?_⟩
      · simp only [List.getElem_map, List.getElem_zipIdx, Nat.zero_add]
        rw [h2]
      · simp only [List.getElem_map, List.getElem_zipIdx]
        exact ht _ _ h1) hfa
  have hrun : (execOp ρ o).run P w = .ok (.value (.slice (some ⟨w.heap.size, 0, none⟩) len len)) (w.alloc (.cells cells' e)) := by
    have e1' : Instr.fill (fun i => some (i * k, k)) cells0 ((parts.map fun (i, x) => (i, ρ x)).toList) = some cells' := by rw [Array.toList_map]; exact e1
    have hnl : ¬ (len * k > 2 ^ 24) := by omega
    simp only [execOp, ho, Instr.buildSlice, Sem.run_bind, run_underlying hu, run_sizeOf hk, Result.andThen_ok, hnl, if_false]
    by_cases h0 : len * k = 0
    · have hc0 : cells0 = (Array.range (len * k)).map fun j => (#[] : Array Value)[j % (#[] : Array Value).size]! := by simp only [cells0, h0, if_true]
      rw [hc0] at e1'
      simp only [h0, if_true, Sem.run_pure, Result.andThen_ok]
      simp only [h0] at e1'
      simp only [e1', newRow, Sem.run_bind, run_newObj, Result.andThen_ok, Sem.run_pure, World.alloc_eq]
    · have hc0 : cells0 = (Array.range (len * k)).map fun j => z.cells[j % z.cells.size]! := by simp only [cells0, h0, if_false]
      rw [hc0] at e1'
      simp only [h0, if_false, Sem.run_pure, Result.andThen_ok, Sem.run_bind, run_zeroValue hz]
      simp only [e1', newRow, Sem.run_bind, run_newObj, Result.andThen_ok, Sem.run_pure, World.alloc_eq]
  have hlay := hr.lay cells' e (0, 0) cells'.toList (List.prefix_refl _)
  refine ⟨_, _, _, .inl hrun, hlay.2, hlay.1, ?_⟩
  have := R.sl_of (c := c.lay w.heap.size cells'.toList) (xs := (ps.map (Arg.ev t)).map AV.strip) (k := k) (us := cells'.toList) (B := w.heap.size) (o := 0) (cap := len) (t := .zero)
    (fun x hx => by
      obtain ⟨y, hy, rfl⟩ := List.mem_map.1 hx
      rw [strip_cells, List.length_map]; exact (hrow y hy).2)
    (by rw [rowCells_strip]; exact (e2.mono hlay.2.le).strip1) (fun j v hj => by simpa using hj) (by simp [hl, hpl]) (by show len = _; simp [hl, hpl])
  simpa [hl, hpl] using this
end
end Go.Ab
end
