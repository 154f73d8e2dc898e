/- The model does what 'exec' says: maps; '==' on structs. -/
import Derived.Test.YtconffokcoipjaaB2
namespace Go.Ab
open Go.RowKit
set_option linter.unusedVariables false
set_option linter.unusedSimpArgs false

variable {cmp : Code → Option ACode} {P : Program}

/-- what a key's value is, by its kind -/
inductive KeyVal : KK → AV → Value → Prop
  | int (k : IntKind) (a : Int) : KeyVal .int (.v (.int k a)) (.int k a)
  | str (a : ByteArray) : KeyVal .str (.v (.string a)) (.string a)
  | agg2 (k l : IntKind) (a b : Int) : KeyVal .agg2 (.agg [.v (.int k a), .v (.int l b)]) (.agg #[.int k a, .int l b])

theorem keyOk_cases {kk : KK} {x : AV} (hk : keyOk kk x = true) : (∃ k a, kk = .int ∧ x = .v (.int k a)) ∨ (∃ a, kk = .str ∧ x = .v (.string a)) ∨ ∃ k l a b, kk = .agg2 ∧ x = .agg [.v (.int k a), .v (.int l b)] := by
  unfold keyOk at hk
  split at hk
  · exact .inl ⟨_, _, rfl, rfl⟩
  · exact .inr (.inl ⟨_, rfl, rfl⟩)
  · exact .inr (.inr ⟨_, _, _, _, rfl, rfl⟩)
  · cases hk

theorem keyVal_of {c : Cx} {kk : KK} {x : AV} {y : Value} (h : R c x y) (hk : keyOk kk x = true) : KeyVal kk x y := by
  rcases keyOk_cases hk with ⟨k, a, rfl, rfl⟩ | ⟨a, rfl, rfl⟩ | ⟨k, l, a, b, rfl, rfl⟩
  · rw [h.v_inv]; exact .int _ _
  · rw [h.v_inv]; exact .str _
  · obtain ⟨vs, rfl, h'⟩ := h.agg_inv
    obtain ⟨u, us, rfl, h1, h'⟩ := h'.cons_inv
    obtain ⟨v, us, rfl, h2, h'⟩ := h'.cons_inv
    obtain rfl := h'.nil_inv
    rw [h1.v_inv, h2.v_inv]
    exact .agg2 _ _ _ _

/-- the key's type is of the kind -/
def KindOk (P : Program) (t : TypeId) (kk : KK) : Prop := keyKind P t = some kk

theorem kind_int {t : TypeId} (h : keyKind P t = some .int) : ∃ k, P.underlying t = some (.int k) := by
  unfold keyKind at h
  split at h
  · exact ⟨_, ‹_›⟩
  · cases h
  · split at h <;> cases h
  · cases h
theorem kind_str {t : TypeId} (h : keyKind P t = some .str) : P.underlying t = some .string := by
  unfold keyKind at h
  split at h
  · cases h
  · assumption
  · split at h <;> cases h
  · cases h
theorem kind_agg2 {t : TypeId} (h : keyKind P t = some .agg2) : ∃ e k, P.underlying t = some (.array 2 e) ∧ P.underlying e = some (.int k) ∧ kOf P e = some 1 := by
  unfold keyKind at h
  split at h
  · cases h
  · cases h
  · split at h
    · exact ⟨_, _, ‹_›, ‹_›, ‹_›⟩
    · cases h
  · cases h

theorem run_part1 {t : TypeId} {k : IntKind} (hu : P.underlying t = some (.int k)) {cs : Array Value} {off : Nat} {v : Value} (h : cs[off]? = some v) (w : World) : (part t cs off).run P w = .ok v w := by
  simp [part, isAgg, run_underlying hu, h]

theorem run_checkKey' {kk : KK} {t : TypeId} (hk : keyKind P t = some kk) {x : AV} {y : Value} (hv : KeyVal kk x y) (b : Bool) (n : Nat) (w : World) : (Instr.checkKey b (n + 2) t y).run P w = .ok () w := by
  cases hv with
  | int k a => obtain ⟨k', hu⟩ := kind_int hk; simp [Instr.checkKey, run_underlying hu]
  | str a => have hu := kind_str hk; simp [Instr.checkKey, run_underlying hu]
  | agg2 k l a b' =>
    obtain ⟨e, k', hu, he, hs⟩ := kind_agg2 hk
    have h0 := fun w => run_part1 (P := P) he (cs := #[.int k a, .int l b']) (off := 0) (v := .int k a) rfl w
    have h1 := fun w => run_part1 (P := P) he (cs := #[.int k a, .int l b']) (off := 1) (v := .int l b') rfl w
    simp [Instr.checkKey, run_underlying hu, run_sizeOf hs, run_underlying he, Std.Legacy.Range.forIn_eq_forIn_range', Std.Legacy.Range.size, List.range', h0, h1]

theorem run_checkKey {kk : KK} {t : TypeId} (hk : keyKind P t = some kk) {x : AV} {y : Value} (hv : KeyVal kk x y) (b : Bool) (w : World) : (Instr.checkKey b 10000 t y).run P w = .ok () w :=
  run_checkKey' hk hv b 9998 w

theorem run_equalIn2 {t e : TypeId} {k0 : IntKind} (hu : P.underlying t = some (.array 2 e)) (he : P.underlying e = some (.int k0)) (hs : kOf P e = some 1) (k l : IntKind) (a b a' b' : Int) (n : Nat) (w : World) :
    (Op.equalIn (n + 2) t (.agg #[.int k a, .int l b]) (.agg #[.int k a', .int l b'])).run P w = .ok (a == a' && b == b') w := by
  have h0 := fun w => run_part1 (P := P) he (cs := #[.int k a, .int l b]) (off := 0) (v := .int k a) rfl w
  have h1 := fun w => run_part1 (P := P) he (cs := #[.int k a, .int l b]) (off := 1) (v := .int l b) rfl w
  have h2 := fun w => run_part1 (P := P) he (cs := #[.int k a', .int l b']) (off := 0) (v := .int k a') rfl w
  have h3 := fun w => run_part1 (P := P) he (cs := #[.int k a', .int l b']) (off := 1) (v := .int l b') rfl w
  simp [Op.equalIn, run_underlying hu, run_sizeOf hs, run_underlying he, Std.Legacy.Range.forIn_eq_forIn_range', Std.Legacy.Range.size, List.range', h0, h1, h2, h3]
  by_cases e1 : a = a' <;> by_cases e2 : b = b' <;> simp [e1, e2, Result.andThen]

theorem keyEq_cases {kk : KK} {x k' : AV} {b : Bool} (h : keyEq kk x k' = some b) :
    (∃ k a a', kk = .int ∧ x = .v (.int k a) ∧ k' = .v (.int k a') ∧ b = (a == a')) ∨ (∃ a a', kk = .str ∧ x = .v (.string a) ∧ k' = .v (.string a') ∧ b = strEq a a') ∨
      ∃ k l a c a' c', kk = .agg2 ∧ x = .agg [.v (.int k a), .v (.int l c)] ∧ k' = .agg [.v (.int k a'), .v (.int l c')] ∧ b = (a == a' && c == c') := by
  unfold keyEq at h
  split at h
  · split at h
    · rename_i e
      injection h with h
      subst e
      exact .inl ⟨_, _, _, rfl, rfl, rfl, h.symm⟩
    · cases h
  · injection h with h
    exact .inr (.inl ⟨_, _, rfl, rfl, rfl, h.symm⟩)
  · split at h
    · rename_i e
      injection h with h
      obtain ⟨e1, e2⟩ := e
      subst e1 e2
      exact .inr (.inr ⟨_, _, _, _, _, _, rfl, rfl, rfl, h.symm⟩)
    · cases h
  · cases h

/-- one key against another -/
theorem keyEq_val {c : Cx} {kk : KK} {x k' : AV} {y z : Value} (hv : KeyVal kk x y) (hz : R c k' z) {b : Bool} (h : keyEq kk x k' = some b) : KeyVal kk k' z ∧ (b = true ↔ z = y) := by
  rcases keyEq_cases h with ⟨k, a, a', rfl, rfl, rfl, rfl⟩ | ⟨a, a', rfl, rfl, rfl, rfl⟩ | ⟨k, l, a, e, a', e', rfl, rfl, rfl, rfl⟩
  · cases hv
    rw [hz.v_inv]
    exact ⟨.int _ _, by simp only [beq_iff_eq, Value.int.injEq, true_and]; exact eq_comm⟩
  · cases hv
    rw [hz.v_inv]
    exact ⟨.str _, by simp only [strEq_iff, Value.string.injEq]; exact eq_comm⟩
  · cases hv
    obtain ⟨vs, rfl, h'⟩ := hz.agg_inv
    obtain ⟨u, us, rfl, h1, h'⟩ := h'.cons_inv
    obtain ⟨v, us, rfl, h2, h'⟩ := h'.cons_inv
    obtain rfl := h'.nil_inv
    rw [h1.v_inv, h2.v_inv]
    refine ⟨.agg2 _ _ _ _, ?_⟩
    constructor
    · intro h
      simp only [Bool.and_eq_true, beq_iff_eq] at h
      rw [h.1, h.2]
    · intro h
      simp only [Value.agg.injEq, List.toArray_eq_toArray_eq, List.cons.injEq, Value.int.injEq, true_and, and_true] at h
      simp [h.1, h.2]

theorem keyEq_kinds {c : Cx} {kk : KK} {x k' : AV} {y z : Value} (hv : KeyVal kk x y) (hz : R c k' z) {b : Bool} (h : keyEq kk x k' = some b) {t : TypeId} (hk : keyKind P t = some kk) :
    (kk ≠ .agg2 → ∃ d, P.underlying t = some d ∧ Instr.sameNow d y z = some b) ∧ (kk = .agg2 → ∀ w : World, (Op.equal t y z).run P w = .ok b w) := by
  rcases keyEq_cases h with ⟨k, a, a', rfl, rfl, rfl, rfl⟩ | ⟨a, a', rfl, rfl, rfl, rfl⟩ | ⟨k, l, a, e, a', e', rfl, rfl, rfl, rfl⟩
  · refine ⟨fun _ => ?_, fun h => by cases h⟩
    obtain ⟨k0, hu⟩ := kind_int hk
    refine ⟨_, hu, ?_⟩
    cases hv
    rw [hz.v_inv]
    simp [Instr.sameNow]
  · refine ⟨fun _ => ?_, fun h => by cases h⟩
    refine ⟨_, kind_str hk, ?_⟩
    cases hv
    rw [hz.v_inv]
    simp only [Instr.sameNow, Option.some.injEq]
    rw [beq_toListBytes, ByteArray.toList_eq, ByteArray.toList_eq]; rfl
  · refine ⟨fun h => absurd rfl h, fun _ w => ?_⟩
    obtain ⟨t2, k0, hu, he, hs⟩ := kind_agg2 hk
    cases hv
    obtain ⟨vs, rfl, h'⟩ := hz.agg_inv
    obtain ⟨u, us, rfl, h1, h'⟩ := h'.cons_inv
    obtain ⟨v, us, rfl, h2, h'⟩ := h'.cons_inv
    obtain rfl := h'.nil_inv
    rw [h1.v_inv, h2.v_inv]
    exact run_equalIn2 hu he hs _ _ _ _ _ _ 9998 w

theorem findK_step {kk : KK} {x : AV} {e : AV × AV} {es : List (AV × AV)} {i : Nat} {r : Option Nat} (h : findK kk x (e :: es) i = some r) :
    (keyEq kk x e.1 = some true ∧ r = some i) ∨ (keyEq kk x e.1 = some false ∧ findK kk x es (i + 1) = some r) := by
  simp only [findK] at h
  split at h
  · injection h with h; exact .inl ⟨‹_›, h.symm⟩
  · exact .inr ⟨‹_›, h⟩
  · cases h

/-- where the found one lies -/
def FoundAt (ms : List MapEntry) (y : Value) (i : Nat) (r : Option Nat) (v : Option (Nat × Value)) : Prop :=
  v.map (·.1) = r ∧ ∀ j z, v = some (j, z) → i ≤ j ∧ ∃ h : j - i < ms.length, z = ms[j - i].val ∧ ms[j - i].key = y

theorem FoundAt.cons {m : MapEntry} {ms : List MapEntry} {y : Value} {i : Nat} {r : Option Nat} {v : Option (Nat × Value)} (h : FoundAt ms y (i + 1) r v) : FoundAt (m :: ms) y i r v := by
  refine ⟨h.1, fun j z hz => ?_⟩
  obtain ⟨h1, h2, h3, h4⟩ := h.2 j z hz
  refine ⟨by omega, by simp; omega, ?_⟩
  have e : j - i = (j - (i + 1)) + 1 := by omega
  simp only [e, List.getElem_cons_succ]
  exact ⟨h3, h4⟩

theorem findNow_ok {c : Cx} {kk : KK} {t : TypeId} (hk : keyKind P t = some kk) (hka : kk ≠ .agg2) {x : AV} {y : Value} (hv : KeyVal kk x y) {d : TypeDesc} (hd : P.underlying t = some d) :
    ∀ (ms : List MapEntry) (es : List (AV × AV)) (i : Nat) (r : Option Nat), ms.length = es.length → (∀ i (h : i < es.length) (h' : i < ms.length), R c es[i].1 ms[i].key) → findK kk x es i = some r →
      ∃ v, Instr.findNow d y ms i = some v ∧ FoundAt ms y i r v := by
  intro ms
  induction ms with
  | nil =>
    intro es i r hl _ hf
    have : es = [] := List.eq_nil_of_length_eq_zero hl.symm
    subst this
    simp only [findK, Option.some.injEq] at hf
    exact ⟨none, rfl, by simpa using hf, fun j z h => by cases h⟩
  | cons m ms ih =>
    intro es i r hl hr hf
    cases es with
    | nil => simp at hl
    | cons e es =>
      have hz := hr 0 (by simp) (by simp)
      simp only [List.getElem_cons_zero] at hz
      rcases findK_step hf with ⟨h1, rfl⟩ | ⟨h1, h2⟩
      · obtain ⟨d', hd', hs⟩ := (keyEq_kinds (P := P) hv hz h1 hk).1 hka
        rw [hd] at hd'; cases hd'
        refine ⟨some (i, m.val), by simp [Instr.findNow, hs], rfl, fun j z h => ?_⟩
        cases h
        refine ⟨Nat.le_refl _, by simp, ?_⟩
        simp only [Nat.sub_self, List.getElem_cons_zero, true_and]
        exact (keyEq_val hv hz h1).2.1 rfl
      · obtain ⟨d', hd', hs⟩ := (keyEq_kinds (P := P) hv hz h1 hk).1 hka
        rw [hd] at hd'; cases hd'
        obtain ⟨v, g1, g2⟩ := ih es (i + 1) r (by simpa using hl) (fun j h h' => hr (j + 1) (by simpa using h) (by simpa using h')) h2
        exact ⟨v, by simp [Instr.findNow, hs, g1], g2.cons⟩

theorem findAsking_ok {c : Cx} {t : TypeId} (hk : keyKind P t = some .agg2) {x : AV} {y : Value} (hv : KeyVal .agg2 x y) (w : World) :
    ∀ (ms : List MapEntry) (es : List (AV × AV)) (i : Nat) (r : Option Nat), ms.length = es.length → (∀ i (h : i < es.length) (h' : i < ms.length), R c es[i].1 ms[i].key) → findK .agg2 x es i = some r →
      ∃ v, (Instr.findAsking t y ms i).run P w = .ok v w ∧ FoundAt ms y i r v := by
  intro ms
  induction ms with
  | nil =>
    intro es i r hl _ hf
    have : es = [] := List.eq_nil_of_length_eq_zero hl.symm
    subst this
    simp only [findK, Option.some.injEq] at hf
    exact ⟨none, rfl, by simpa using hf, fun j z h => by cases h⟩
  | cons m ms ih =>
    intro es i r hl hr hf
    cases es with
    | nil => simp at hl
    | cons e es =>
      have hz := hr 0 (by simp) (by simp)
      simp only [List.getElem_cons_zero] at hz
      rcases findK_step hf with ⟨h1, rfl⟩ | ⟨h1, h2⟩
      · have hs := (keyEq_kinds (P := P) hv hz h1 hk).2 rfl w
        refine ⟨some (i, m.val), by simp [Instr.findAsking, hs], rfl, fun j z h => ?_⟩
        cases h
        refine ⟨Nat.le_refl _, by simp, ?_⟩
        simp only [Nat.sub_self, List.getElem_cons_zero, true_and]
        exact (keyEq_val hv hz h1).2.1 rfl
      · have hs := (keyEq_kinds (P := P) hv hz h1 hk).2 rfl w
        obtain ⟨v, g1, g2⟩ := ih es (i + 1) r (by simpa using hl) (fun j h h' => hr (j + 1) (by simpa using h) (by simpa using h')) h2
        exact ⟨v, by simp [Instr.findAsking, hs, g1], g2.cons⟩

/-- finding a key: as the abstract entries are -/
theorem run_findKey {c : Cx} {kk : KK} {t : TypeId} (hk : keyKind P t = some kk) {x : AV} {y : Value} (hv : KeyVal kk x y) {es : List (AV × AV)} {ms : List MapEntry}
    (hl : ms.length = es.length) (hr : ∀ i (h : i < es.length) (h' : i < ms.length), R c es[i].1 ms[i].key) {r : Option Nat} (hf : findK kk x es 0 = some r) (w : World) :
    ∃ v, (Instr.findKey t y ms).run P w = .ok v w ∧ FoundAt ms y 0 r v := by
  by_cases hka : kk = .agg2
  · subst hka
    obtain ⟨e, k0, hu, _⟩ := kind_agg2 hk
    cases ms with
    | nil =>
      have : es = [] := List.eq_nil_of_length_eq_zero hl.symm
      subst this
      simp only [findK, Option.some.injEq] at hf
      exact ⟨none, by simp [Instr.findKey, run_underlying hu, Instr.findNow], by simpa using hf, fun j z h => by cases h⟩
    | cons m ms =>
      obtain ⟨v, h1, h2⟩ := findAsking_ok hk hv w (m :: ms) es 0 r hl hr hf
      refine ⟨v, ?_, h2⟩
      have : Instr.findNow (.array 2 e) y (m :: ms) 0 = none := by simp [Instr.findNow, Instr.sameNow]
      simp [Instr.findKey, run_underlying hu, this, h1]
  · obtain ⟨d, hd⟩ : ∃ d, P.underlying t = some d := by
      cases kk with
      | int => obtain ⟨k, h⟩ := kind_int hk; exact ⟨_, h⟩
      | str => exact ⟨_, kind_str hk⟩
      | agg2 => exact absurd rfl hka
    obtain ⟨v, h1, h2⟩ := findNow_ok hk hka hv hd ms es 0 r hl hr hf
    exact ⟨v, by simp [Instr.findKey, run_underlying hd, h1], h2⟩

theorem sameBits_key {kk : KK} {x : AV} {y : Value} (hv : KeyVal kk x y) : Instr.sameBits 10000 y y = true := by
  have : ∀ n, Instr.sameBits (n + 2) y y = true := by
    intro n
    cases hv <;> simp [Instr.sameBits, beq_toListBytes]
  exact this 9998

section
variable {o : Oper} {t : List AV} {s : AState}

theorem R.m_inv {c : Cx} {b : Nat} {y : Value} (h : R c (.m b) y) : y = .map (some (c.mu b)) ∧ b < c.n := by cases h; exact ⟨rfl, ‹_›⟩

theorem run_getObj_map {w : World} {r : Nat} {ms : Array MapEntry} {clk : Nat} (h : w.heap[r]? = some (.map ms clk)) : (getObj r).run P w = .ok (.map ms clk) w := by simp [getObj, Sem.run, h]
theorem run_setObj_map {w : World} {r : Nat} {ms : Array MapEntry} {clk : Nat} (o : Obj) (h : w.heap[r]? = some (.map ms clk)) : (setObj r o).run P w = .ok () (w.putObj r o) := by simp [setObj, Sem.run, h, World.putObj]

theorem found_get {es : List (AV × AV)} {ms : List MapEntry} {y : Value} {r : Option Nat} {v : Option (Nat × Value)} (h : FoundAt ms y 0 r v) : (r = none ∧ v = none) ∨ ∃ i, ∃ h : i < ms.length, r = some i ∧ v = some (i, ms[i].val) ∧ ms[i].key = y := by
  cases v with
  | none => exact .inl ⟨by simpa using h.1.symm, rfl⟩
  | some p =>
    obtain ⟨i, z⟩ := p
    obtain ⟨_, h2, h3, h4⟩ := h.2 i z rfl
    simp only [Nat.sub_zero] at h2 h3 h4
    exact .inr ⟨i, h2, by simpa using h.1.symm, by rw [h3], h4⟩

theorem ok_lookup {ty key e : TypeId} {m k : Operand} {m' k' : Arg} {ok : Bool} {kk : KK} {z : Value} (ho : o.op = .lookup ty m k ok) (h1 : cArg m = some m') (h2 : cArg k = some k') (hu : P.underlying ty = some (.map key e)) (hk : keyKind P key = some kk) (hz : zeroOf P e = some z)
    {b : Nat} (hm : m'.ev t = .m b) {es : List (AV × AV)} (hg : s.get b = .map es) (hko : keyOk kk (k'.ev t) = true) {r : Option Nat} (hf : findK kk (k'.ev t) es 0 = some r) :
    OpOk cmp P o t s (match r with | some i => (if ok then .tup [(es.getD i (.any, .any)).2, .v (.bool true)] else (es.getD i (.any, .any)).2) | none => if ok then .tup [ofConst z, .v (.bool false)] else ofConst z) s :=
  .pure fun c w ρ hr ht => by
    have e1 := ht _ _ h1
    rw [hm] at e1
    obtain ⟨hy, hb⟩ := e1.m_inv
    have hob := hr.obj b (hr.n ▸ hb)
    rw [hg] at hob
    obtain ⟨ms, clk, k1, k2⟩ := hob
    have hv := keyVal_of (ht _ _ h2) hko
    obtain ⟨v, g1, g2⟩ := run_findKey hk hv k2.1 (fun i h h' => (k2.2.1 i h h').1) hf w
    have hrun : (Instr.lookup ty (ρ m) (ρ k) ok).run P w = .ok (if ok then .tuple #[((v.map (·.2)).getD z), .bool v.isSome] else (v.map (·.2)).getD z) w := by
      cases v with
      | none => simp [Instr.lookup, run_underlying hu, hy, run_getObj_map k1, run_checkKey hk hv, g1, run_zeroValue hz]
      | some p => simp [Instr.lookup, run_underlying hu, hy, run_getObj_map k1, run_checkKey hk hv, g1]
    refine ⟨_, by simp only [execOp, ho, Sem.run_bind, hrun, Result.andThen_ok, Sem.run_pure]; rfl, ?_⟩
    rcases found_get (es := es) g2 with ⟨rfl, rfl⟩ | ⟨i, hi, rfl, rfl, _⟩
    · cases ok
      · exact R_ofConst c z
      · exact R.tup' (RL.cons (R_ofConst c z) (RL.cons (.v _) (RL.nil c)))
    · have hi' : i < es.length := by rw [← k2.1]; exact hi
      have hR := (k2.2.1 i hi' hi).2
      have hge : es.getD i (AV.any, AV.any) = es[i] := by rw [List.getD_eq_getElem?_getD, List.getElem?_eq_getElem hi']; rfl
      cases ok
      · simp only [Bool.false_eq_true, if_false, hge]; exact hR
      · simp only [if_true, hge]; exact R.tup' (RL.cons hR (RL.cons (.v _) (RL.nil c)))

theorem Rel.updMap {c : Cx} {w : World} (hr : Rel cmp c s w) {b : Nat} {es es' : List (AV × AV)} (hg : s.get b = .map es) {ms ms' : Array MapEntry} {clk clk' : Nat} (k1 : w.heap[c.mu b]? = some (.map ms clk)) (h : EntryOk c ms'.toList es' clk') :
    Ext c s w c (s.set b (.map es')) (w.putObj (c.mu b) (.map ms' clk')) ∧ Rel cmp c (s.set b (.map es')) (w.putObj (c.mu b) (.map ms' clk')) := by
  have hb : b < s.n := AState.lt_of_get hg (by simp)
  have harr : c.arr (c.mu b) = [] := by
    by_cases h0 : c.arr (c.mu b) = []
    · exact h0
    · obtain ⟨vs, e, fz, m1, _⟩ := hr.arr _ h0
      rw [k1] at m1; cases m1
  have := hr.upd (w' := w.putObj (c.mu b) (.map ms' clk')) hb (by rw [hg]; simp) ⟨rfl, rfl, rfl⟩ (by simp) (fun B hB => World.putObj_heap_other hB) (.map es') ⟨ms', clk', World.putObj_heap_same (lt_of_heap k1), h⟩ harr
  exact ⟨this.2, this.1⟩

theorem EntryOk.nodup_modify {ms : List MapEntry} {i : Nat} {f : MapEntry → MapEntry} (hf : ∀ m, (f m).born = m.born) : (ms.modify i f).map (·.born) = ms.map (·.born) := by
  apply List.ext_getElem
  · simp
  · intro j h1 h2
    simp only [List.getElem_map, List.getElem_modify]
    split
    · rw [hf]
    · rfl

theorem ok_mapset {ty key e : TypeId} {m k x : Operand} {m' k' x' : Arg} {kk : KK} (ho : o.op = .mapUpdate ty m k x ∨ o.op = .insert ty m k x) (h1 : cArg m = some m') (h2 : cArg k = some k') (h3 : cArg x = some x') (hu : P.underlying ty = some (.map key e)) (hk : keyKind P key = some kk)
    {b : Nat} (hm : m'.ev t = .m b) {es : List (AV × AV)} (hg : s.get b = .map es) (hko : keyOk kk (k'.ev t) = true) {r : Option Nat} (hf : findK kk (k'.ev t) es 0 = some r) :
    OpOk cmp P o t s .any (s.set b (.map (match r with | some i => es.set i (k'.ev t, x'.ev t) | none => es ++ [(k'.ev t, x'.ev t)]))) := by
  intro c w ρ hr ht
  have e1 := ht _ _ h1
  rw [hm] at e1
  obtain ⟨hy, hb⟩ := e1.m_inv
  have hob := hr.obj b (hr.n ▸ hb)
  rw [hg] at hob
  obtain ⟨ms, clk, k1, k2⟩ := hob
  have hv := keyVal_of (ht _ _ h2) hko
  have hRk := ht _ _ h2
  have hRx := ht _ _ h3
  obtain ⟨v, g1, g2⟩ := run_findKey hk hv k2.1 (fun i h h' => (k2.2.1 i h h').1) hf w
  have key' : ∀ ms' clk', (Instr.mapUpdate ty (ρ m) (ρ k) (ρ x)).run P w = .ok () (w.putObj (c.mu b) (.map ms' clk')) → (execOp ρ o).run P w = .ok .skip (w.putObj (c.mu b) (.map ms' clk')) := by
    intro ms' clk' h
    rcases ho with ho | ho <;> simp only [execOp, ho, Sem.run_bind, h, Result.andThen_ok, Sem.run_pure]
  rcases found_get (es := es) g2 with ⟨rfl, rfl⟩ | ⟨i, hi, rfl, rfl, hkey⟩
  · have hE : EntryOk c (ms.push { key := ρ k, val := ρ x, born := clk }).toList (es ++ [(k'.ev t, x'.ev t)]) (clk + 1) := by
      obtain ⟨q1, q2, q3, q4⟩ := k2
      refine ⟨by simp at q1 ⊢; omega, fun j hj hj' => ?_, fun m hm => ?_, ?_⟩
      · simp only [Array.toList_push] at hj' ⊢
        by_cases h : j < es.length
        · rw [List.getElem_append_left h, List.getElem_append_left (by omega)]; exact q2 j h (by omega)
        · have : j = es.length := by simp at hj; omega
          subst this
          rw [List.getElem_append_right (by omega), List.getElem_append_right (by omega)]
          simp only [q1, Nat.sub_self, List.getElem_cons_zero]
          exact ⟨hRk, hRx⟩
      · simp only [Array.toList_push, List.mem_append, List.mem_singleton] at hm
        rcases hm with hm | rfl
        · exact Nat.lt_succ_of_lt (q3 m hm)
        · exact Nat.lt_succ_self _
      · simp only [Array.toList_push, List.map_append, List.map_cons, List.map_nil]
        rw [List.nodup_append]
        refine ⟨q4, by simp, fun a ha b hb => ?_⟩
        obtain ⟨m, hm, rfl⟩ := List.mem_map.1 ha
        simp only [List.mem_singleton] at hb
        subst hb
        exact Nat.ne_of_lt (q3 m hm)
    obtain ⟨g3, g4⟩ := hr.updMap hg k1 hE
    refine ⟨undef, _, c, .inr ⟨key' _ _ ?_, rfl⟩, g3, g4, .any _⟩
    simp [Instr.mapUpdate, run_underlying hu, hy, run_getObj_map k1, run_checkKey hk hv, g1, run_setObj_map _ k1]
  · have hi' : i < ms.size := by rw [← Array.length_toList]; exact hi
    have hE : EntryOk c (ms.modify i fun e => { e with key := ρ k, val := ρ x }).toList (es.set i (k'.ev t, x'.ev t)) clk := by
      obtain ⟨q1, q2, q3, q4⟩ := k2
      rw [Array.toList_modify]
      refine ⟨by simpa using q1, fun j hj hj' => ?_, fun m hm => ?_, ?_⟩
      · simp only [List.length_modify, List.length_set] at hj hj'
        rw [List.getElem_set, List.getElem_modify]
        by_cases h : i = j
        · simp only [h, if_true]; exact ⟨hRk, hRx⟩
        · simp only [h, if_false]; exact q2 j hj hj'
      · obtain ⟨j, hj, rfl⟩ := List.mem_iff_getElem.1 hm
        rw [List.getElem_modify]
        simp only [List.length_modify] at hj
        split
        · exact q3 ms.toList[j] (List.getElem_mem hj)
        · exact q3 ms.toList[j] (List.getElem_mem hj)
      · rw [EntryOk.nodup_modify (f := fun e => { e with key := ρ k, val := ρ x }) (fun _ => rfl)]; exact q4
    obtain ⟨g3, g4⟩ := hr.updMap hg k1 hE
    refine ⟨undef, _, c, .inr ⟨key' _ _ ?_, rfl⟩, g3, g4, .any _⟩
    have hkey' : (ms[i]'hi').key = ρ k := by simpa using hkey
    simp [Instr.mapUpdate, run_underlying hu, hy, run_getObj_map k1, run_checkKey hk hv, g1, hi', hkey', Instr.keyThatStays, sameBits_key hv, run_setObj_map _ k1]

theorem ok_mapdel {cl : Call} {ty t2 key e : TypeId} {m k : Operand} {m' k' : Arg} {kk : KK} (ho : o.op = .call cl) (hc : cl.callee = .builtin .delete) (hxs : cl.args = #[m, k]) (hts : cl.argTypes = #[ty, t2]) (h1 : cArg m = some m') (h2 : cArg k = some k')
    (hu : P.underlying ty = some (.map key e)) (hk : keyKind P key = some kk) {b : Nat} (hm : m'.ev t = .m b) {es : List (AV × AV)} (hg : s.get b = .map es) (hko : keyOk kk (k'.ev t) = true) {r : Option Nat} (hf : findK kk (k'.ev t) es 0 = some r) :
    OpOk cmp P o t s (.tup []) (match r with | some i => s.set b (.map (es.eraseIdx i)) | none => s) := by
  intro c w ρ hr ht
  have e1 := ht _ _ h1
  rw [hm] at e1
  obtain ⟨hy, hb⟩ := e1.m_inv
  have hob := hr.obj b (hr.n ▸ hb)
  rw [hg] at hob
  obtain ⟨ms, clk, k1, k2⟩ := hob
  have hv := keyVal_of (ht _ _ h2) hko
  obtain ⟨v, g1, g2⟩ := run_findKey hk hv k2.1 (fun i h h' => (k2.2.1 i h h').1) hf w
  have key' : ∀ w', (Builtin.delete_ #[ty, t2] o.type #[ρ m, ρ k]).run P w = .ok (.tuple #[]) w' → (execOp ρ o).run P w = .ok (.value (.tuple #[])) w' := by
    intro w' h
    simp [execOp, ho, resolve, hc, hxs, hts, invoke, builtin, h]
  rcases found_get (es := es) g2 with ⟨rfl, rfl⟩ | ⟨i, hi, rfl, rfl, hkey⟩
  · have hE : EntryOk c ms.toList es clk := k2
    have hsame : (w.putObj (c.mu b) (.map ms clk)).heap = w.heap := by
      apply Array.ext_getElem?
      intro j
      by_cases h : j = c.mu b
      · subst h; rw [World.putObj_heap_same (lt_of_heap k1), k1]
      · rw [World.putObj_heap_other h]
    obtain ⟨g3, g4⟩ := hr.heap_eq hsame ⟨rfl, rfl, rfl⟩
    refine ⟨.tuple #[], _, c, .inl (key' _ ?_), g4, g3, R.tup' (RL.nil c)⟩
    simp [Builtin.delete_, run_underlying hu, hy, run_getObj_map k1, run_checkKey hk hv, g1, run_setObj_map _ k1]
  · have hE : EntryOk c (ms.eraseIdxIfInBounds i).toList (es.eraseIdx i) clk := by
      obtain ⟨q1, q2, q3, q4⟩ := k2
      have e0 : (ms.eraseIdxIfInBounds i).toList = ms.toList.eraseIdx i := by
        have hi' : i < ms.size := by rw [← Array.length_toList]; exact hi
        simp [Array.eraseIdxIfInBounds, hi']
      rw [e0]
      refine ⟨by rw [List.length_eraseIdx, List.length_eraseIdx, q1], fun j hj hj' => ?_, fun m hm => q3 m (List.mem_of_mem_eraseIdx hm), ?_⟩
      · rw [List.getElem_eraseIdx, List.getElem_eraseIdx]
        have hl1 : es.length ≤ (es.eraseIdx i).length + 1 := by rw [List.length_eraseIdx]; split <;> omega
        rw [List.length_eraseIdx] at hj hj'
        split
        · exact q2 j (by split at hj <;> omega) (by split at hj' <;> omega)
        · exact q2 (j + 1) (by split at hj <;> omega) (by split at hj' <;> omega)
      · exact q4.sublist ((List.eraseIdx_sublist _ _).map _)
    obtain ⟨g3, g4⟩ := hr.updMap hg k1 hE
    refine ⟨.tuple #[], _, c, .inl (key' _ ?_), g3, g4, R.tup' (RL.nil c)⟩
    simp [Builtin.delete_, run_underlying hu, hy, run_getObj_map k1, run_checkKey hk hv, g1, run_setObj_map _ k1]

theorem ok_mkmap {ty : TypeId} (ho : o.op = .makeMap ty none) : OpOk cmp P o t s (.m s.n) (s.alloc (.map [])) := by
  intro c w ρ hr ht
  have := hr.alloc (.map #[] 0) (.map []) 0 0 ⟨#[], 0, by rw [Cx.bind_mu]; exact heap_push_new w _, rfl, fun i h => by simp at h, fun m hm => by simp at hm, by simp⟩ (by simp)
  refine ⟨.map (some w.heap.size), _, _, .inl ?_, this.2, this.1, ?_⟩
  · simp [execOp, ho, Instr.makeMap]
  · have := R.m (c := c.bind w.heap.size 0 0) c.n (by simp)
    rwa [Cx.bind_mu, ← hr.n] at this

end
end Go.Ab
