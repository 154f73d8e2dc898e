/- SHAPES of types: what a row of a type reads as, found by evaluation; the program's structs out of rows. -/
import Derived.Test.YtconffokcoipjaaD6
import Derived.Test.YtconffokcoipjaaD3
namespace Go.Ab
open Go.RowKit Go.Proofs Go.Deep Go.ChangeShapes
set_option linter.unusedVariables false
set_option linter.unusedSimpArgs false

inductive Sh where
  | int (k : IntKind) | bool | str | slice (e : Sh) | st (fs : Sh) | fnil | fcons (a b : Sh)

def Sh.len : Sh → Nat
  | .st fs => fs.len
  | .fnil => 0
  | .fcons a b => a.len + b.len
  | _ => 1
def Sh.ok (P : Program) : Sh → TypeId → List Field → Nat → Nat → Bool
  | .int k, t, _, _, _ => match P.underlying t with | some (.int k') => k' == k | _ => false
  | .bool, t, _, _, _ => match P.underlying t with | some .bool => true | _ => false
  | .str, t, _, _, _ => match P.underlying t with | some .string => true | _ => false
  | .slice e, t, _, _, _ => match P.underlying t with | some (.slice u) => (Nat.blt 0 e.len && P.cellsOf u == e.len && e.ok P u [] 0 0) | _ => false
  | .st fs, t, _, _, _ => match P.underlying t with | some (.struct l) => fs.ok P 0 l.toList 0 (P.cellsOf t) | _ => false
  | .fnil, _, l, off, tot => l.isEmpty && off == tot
  | .fcons a b, _, l, off, tot => match l with | f :: fs => f.offset == off && a.ok P f.type [] 0 0 && b.ok P 0 fs (off + P.cellsOf f.type) tot | [] => false

def Sh.mk : Sh → List AV → AV
  | .st _, r => .agg r
  | _, r => r.headD .any
def Sh.good : Sh → List AV → Prop
  | .int k, xs => ∃ n, xs = [.v (.int k n)] ∧ (Lit.int k n).wf = true
  | .bool, xs => ∃ b, xs = [.v (.bool b)]
  | .str, xs => ∃ b : ByteArray, xs = [.v (.string b)] ∧ b.size ≤ maxLen
  | .slice e, xs => ∃ rows : List (List AV), (∀ r ∈ rows, e.good r) ∧ rows.length ≤ maxLen ∧ xs = [.sl (rows.map e.mk) .no]
  | .st fs, xs => fs.good xs
  | .fnil, xs => xs = []
  | .fcons a b, xs => ∃ x y, a.good x ∧ b.good y ∧ xs = x ++ y
def Sh.isF : Sh → Bool
  | .fnil => true
  | .fcons _ _ => true
  | _ => false
/-- a struct's list is a list, a field or an element is none -/
def Sh.wf : Sh → Bool
  | .slice e => !e.isF && e.wf
  | .st fs => fs.isF && fs.wf
  | .fcons a b => !a.isF && b.isF && a.wf && b.wf
  | _ => true

theorem Sh.good_len : ∀ (s : Sh) (xs : List AV), s.good xs → xs.length = s.len
  | .int _, _, ⟨_, h, _⟩ => by simp [h, Sh.len]
  | .bool, _, ⟨_, h⟩ => by simp [h, Sh.len]
  | .str, _, ⟨_, h, _⟩ => by simp [h, Sh.len]
  | .slice _, _, ⟨_, _, _, h⟩ => by simp [h, Sh.len]
  | .st fs, _, h => Sh.good_len fs _ h
  | .fnil, _, h => by simp [Sh.good] at h; simp [h, Sh.len]
  | .fcons a b, _, ⟨x, y, h1, h2, h⟩ => by simp [h, Sh.len, Sh.good_len a _ h1, Sh.good_len b _ h2]
theorem Sh.good_one (s : Sh) (hs : s.wf = true) (hf : s.isF = false) (hn : ∀ fs, s ≠ .st fs) (xs : List AV) (h : s.good xs) : ∃ x, xs = [x] ∧ x.cells = [x] := by
  cases s with
  | int k => obtain ⟨n, h, _⟩ := h; exact ⟨_, h, rfl⟩
  | bool => obtain ⟨n, h⟩ := h; exact ⟨_, h, rfl⟩
  | str => obtain ⟨n, h, _⟩ := h; exact ⟨_, h, rfl⟩
  | slice e => obtain ⟨_, _, _, h⟩ := h; exact ⟨_, h, rfl⟩
  | st fs => exact absurd rfl (hn fs)
  | fnil => simp [Sh.isF] at hf
  | fcons a b => simp [Sh.isF] at hf
theorem Sh.mk_cells (s : Sh) (hs : s.wf = true) (hf : s.isF = false) (xs : List AV) (h : s.good xs) : (s.mk xs).cells = xs := by
  by_cases hn : ∃ fs, s = .st fs
  · obtain ⟨fs, rfl⟩ := hn; rfl
  · obtain ⟨x, rfl, hx⟩ := s.good_one hs hf (fun fs e => hn ⟨fs, e⟩) xs h
    have : s.mk [x] = x := by cases s <;> first | rfl | (exact absurd ⟨_, rfl⟩ hn)
    rw [this, hx]

theorem Sh.rd {P : Program} : ∀ (s : Sh), s.wf = true → (s.isF = false → ∀ t, s.ok P t [] 0 0 = true → Rd P t s.good) ∧
    (s.isF = true → ∀ t l off tot, s.ok P t l off tot = true → ∃ gs, RdF P l gs off tot ∧ ∀ xs, Cat gs xs → s.good xs)
  | .int k, _ => ⟨fun _ t h => by
      simp only [Sh.ok] at h
      cases hu : P.underlying t with
      | none => simp [hu] at h
      | some d => cases d <;> simp [hu] at h; subst h; exact Rd.int hu, fun h => by simp [Sh.isF] at h⟩
  | .bool, _ => ⟨fun _ t h => by
      simp only [Sh.ok] at h
      cases hu : P.underlying t with
      | none => simp [hu] at h
      | some d => cases d <;> simp [hu] at h; exact Rd.bool hu, fun h => by simp [Sh.isF] at h⟩
  | .str, _ => ⟨fun _ t h => by
      simp only [Sh.ok] at h
      cases hu : P.underlying t with
      | none => simp [hu] at h
      | some d => cases d <;> simp [hu] at h; exact Rd.string hu, fun h => by simp [Sh.isF] at h⟩
  | .slice e, hw => ⟨fun _ t h => by
      simp only [Sh.wf, Bool.and_eq_true, Bool.not_eq_true'] at hw
      simp only [Sh.ok] at h
      cases hu : P.underlying t with
      | none => simp [hu] at h
      | some d =>
        cases d <;> simp [hu, Bool.and_eq_true] at h
        obtain ⟨⟨h1, h2⟩, h3⟩ := h
        exact Rd.slice (k := e.len) e.mk hu h2 h1 ((Sh.rd e hw.2).1 hw.1 _ h3) (fun r hr => Sh.good_len e r hr) (fun r hr => Sh.mk_cells e hw.2 hw.1 r hr), fun h => by simp [Sh.isF] at h⟩
  | .st fs, hw => ⟨fun _ t h => by
      simp only [Sh.wf, Bool.and_eq_true] at hw
      simp only [Sh.ok] at h
      cases hu : P.underlying t with
      | none => simp [hu] at h
      | some d =>
        cases d <;> simp [hu] at h
        obtain ⟨gs, h1, h2⟩ := (Sh.rd fs hw.2).2 hw.1 _ _ _ _ h
        exact Rd.mono (Rd.struct hu h1) h2, fun h => by simp [Sh.isF] at h⟩
  | .fnil, _ => ⟨fun h => by simp [Sh.isF] at h, fun _ t l off tot h => by
      simp only [Sh.ok, Bool.and_eq_true, List.isEmpty_iff, beq_iff_eq] at h
      obtain ⟨rfl, rfl⟩ := h
      exact ⟨[], rfl, fun xs h => h⟩⟩
  | .fcons a b, hw => ⟨fun h => by simp [Sh.isF] at h, fun _ t l off tot h => by
      simp only [Sh.wf, Bool.and_eq_true, Bool.not_eq_true'] at hw
      cases l with
      | nil => simp [Sh.ok] at h
      | cons f fs =>
        simp only [Sh.ok, Bool.and_eq_true, beq_iff_eq] at h
        obtain ⟨⟨h1, h2⟩, h3⟩ := h
        obtain ⟨gs, k1, k2⟩ := (Sh.rd b hw.2).2 hw.1.1.2 _ _ _ _ h3
        exact ⟨a.good :: gs, ⟨h1, (Sh.rd a hw.1.2).1 hw.1.1.1 _ h2, k1⟩, fun xs ⟨x, y, q1, q2, q3⟩ => ⟨x, y, q1, k2 y q2, q3⟩⟩⟩

/-- a parameter of a shape -/
def Sh.goodV : Sh → AV → Prop
  | .st fs, x => ∃ xs, fs.good xs ∧ x = .agg xs
  | s, x => s.good [x]
theorem Sh.rdv {P : Program} (s : Sh) (hw : s.wf = true) (hf : s.isF = false) {t : TypeId} (h : s.ok P t [] 0 0 = true) : RdV P t s.goodV := by
  have hr : Rd P t s.good := (Sh.rd s hw).1 hf t h
  show RdV P t s.goodV
  rcases Classical.em (∃ fs, s = .st fs) with hn | hn
  · obtain ⟨fs, rfl⟩ := hn
    refine RdV.agg ?_ hr
    simp only [Sh.ok] at h
    cases hu : P.underlying t with
    | none => simp [hu] at h
    | some d => cases d <;> simp [hu] at h; simp [aggOf, hu]
  · refine RdV.one ?_ (Rd.mono hr fun xs hx => ?_)
    · cases s with
      | st fs => exact absurd ⟨_, rfl⟩ hn
      | fnil => simp [Sh.isF] at hf
      | fcons a b => simp [Sh.isF] at hf
      | _ =>
        simp only [Sh.ok] at h
        cases hu : P.underlying t with
        | none => simp [hu] at h
        | some d => cases d <;> simp [hu] at h <;> simp [aggOf, hu]
    · obtain ⟨x, rfl, _⟩ := s.good_one hw hf (fun fs e => hn ⟨fs, e⟩) xs hx
      refine ⟨x, rfl, ?_⟩
      cases s <;> first | exact hx | exact absurd ⟨_, rfl⟩ hn

def allOk (P : Program) : List TypeId → List Sh → Bool
  | [], [] => true
  | t :: ts, s :: ss => s.wf && !s.isF && s.ok P t [] 0 0 && allOk P ts ss
  | _, _ => false
theorem rd_of_ok {P : Program} : ∀ {ts : List TypeId} {ss : List Sh}, allOk P ts ss = true → RdAll P ts (ss.map Sh.goodV)
  | [], [], _ => trivial
  | t :: ts, s :: ss, h => by
    simp only [allOk, Bool.and_eq_true, Bool.not_eq_true'] at h
    exact ⟨s.rdv h.1.1.1 h.1.1.2 h.1.2, rd_of_ok h.2⟩
  | [], _ :: _, h => by simp [allOk] at h
  | _ :: _, [], h => by simp [allOk] at h

/-! ### rows as structs -/
theorem rows_dec {α : Type} {good : List AV → Prop} {W : α → Prop} {cells : α → List AV} (h : ∀ r, good r → ∃ a, W a ∧ r = cells a) : ∀ {rows : List (List AV)}, (∀ r ∈ rows, good r) →
    ∃ l : List α, l.length = rows.length ∧ (∀ a ∈ l, W a) ∧ rows = l.map cells
  | [], _ => ⟨[], rfl, by simp, rfl⟩
  | r :: rows, hr => by
    obtain ⟨a, h1, h2⟩ := h r (hr r (by simp))
    obtain ⟨l, h3, h4, h5⟩ := rows_dec h (fun r' h' => hr r' (List.mem_cons_of_mem _ h'))
    refine ⟨a :: l, by rw [List.length_cons, List.length_cons, h3], ?_, by rw [h2, h5, List.map_cons]⟩
    intro x hx
    rcases List.mem_cons.1 hx with e | hx
    · rw [e]; exact h1
    · exact h4 x hx
theorem slice_dec {α : Type} {e : Sh} {W : α → Prop} {cells : α → List AV} {av : α → AV} (h : ∀ r, e.good r → ∃ a, W a ∧ r = cells a) (hmk : ∀ a, e.mk (cells a) = av a) {xs : List AV} (hx : (Sh.slice e).good xs) :
    ∃ l : List α, l.length ≤ maxLen ∧ (∀ a ∈ l, W a) ∧ xs = [.sl (l.map av) .no] := by
  obtain ⟨rows, h1, h2, rfl⟩ := hx
  obtain ⟨l, k1, k2, rfl⟩ := rows_dec h h1
  refine ⟨l, by omega, k2, ?_⟩
  simp [List.map_map, Function.comp_def, hmk]

def I64 (n : Int) : Prop := -9223372036854775808 ≤ n ∧ n < 9223372036854775808
theorem i64_wf {n : Int} (h : (Lit.int .i64 n).wf = true) : I64 n := by
  have h' : IntKind.i64.min ≤ n ∧ n ≤ IntKind.i64.max := by simpa [Lit.wf] using h
  have e1 : IntKind.i64.min = -9223372036854775808 := by decide
  have e2 : IntKind.i64.max = 9223372036854775807 := by decide
  constructor <;> omega
theorem u8_wf {n : Int} (h : (Lit.int .u8 n).wf = true) : 0 ≤ n ∧ n < 256 := by
  have h' : IntKind.u8.min ≤ n ∧ n ≤ IntKind.u8.max := by simpa [Lit.wf] using h
  have e1 : IntKind.u8.min = 0 := by decide
  have e2 : IntKind.u8.max = 255 := by decide
  constructor <;> omega
theorem u16_wf {n : Int} (h : (Lit.int .u16 n).wf = true) : 0 ≤ n ∧ n < 65536 := by
  have h' : IntKind.u16.min ≤ n ∧ n ≤ IntKind.u16.max := by simpa [Lit.wf] using h
  have e1 : IntKind.u16.min = 0 := by decide
  have e2 : IntKind.u16.max = 65535 := by decide
  constructor <;> omega
theorem u32_wf {n : Int} (h : (Lit.int .u32 n).wf = true) : 0 ≤ n ∧ n < 4294967296 := by
  have h' : IntKind.u32.min ≤ n ∧ n ≤ IntKind.u32.max := by simpa [Lit.wf] using h
  have e1 : IntKind.u32.min = 0 := by decide
  have e2 : IntKind.u32.max = 4294967295 := by decide
  constructor <;> omega
theorem i8_wf {n : Int} (h : (Lit.int .i8 n).wf = true) : -128 ≤ n ∧ n < 128 := by
  have h' : IntKind.i8.min ≤ n ∧ n ≤ IntKind.i8.max := by simpa [Lit.wf] using h
  have e1 : IntKind.i8.min = -128 := by decide
  have e2 : IntKind.i8.max = 127 := by decide
  constructor <;> omega

def Sh.fs : List Sh → Sh := fun l => l.foldr .fcons .fnil
abbrev shI : Sh := .int .i64
def shEnt : Sh := .st (.fcons shI (.fcons shI (.fcons .str .fnil)))
def shHrd : Sh := .st (.fcons shI (.fcons shI (.fcons shI .fnil)))
def shPlc : Sh := .st (.fcons shI (.fcons shI .fnil))
def shPrt : Sh := .st (.fcons shI (.fcons shI (.fcons (.slice shEnt) (.fcons shHrd (.fcons shI (.fcons shI (.fcons .bool (.fcons .bool .fnil))))))))
def shRec : Sh := .st (.fcons shI (.fcons (.slice shPrt) .fnil))
def shFnd : Sh := .st (.fcons shRec (.fcons shPlc .fnil))
def shGrp : Sh := .st (.fcons shI (.fcons shI (.fcons shI (.fcons shHrd (.fcons (.slice shEnt) .fnil)))))

structure Ent.Wf (e : Ent) : Prop where
  ix : I64 e.ix
  tm : I64 e.tm
  da : e.da.size ≤ maxLen
structure Prt.Wf (p : Prt) : Prop where
  gr : I64 p.gr
  kd : I64 p.kd
  es : ∀ e ∈ p.es, e.Wf
  el : p.es.length ≤ maxLen
  ht : I64 p.ht
  hv : I64 p.hv
  hc : I64 p.hc
  ix : I64 p.ix
  tm : I64 p.tm
structure Plc.Wf (p : Plc) : Prop where
  sg : I64 p.sg
  at_ : I64 p.at_
structure Rec.Wf (r : Rec) : Prop where
  sq : I64 r.sq
  ps : ∀ p ∈ r.ps, p.Wf
  pl : r.ps.length ≤ maxLen
structure Fnd.Wf (r : Fnd) : Prop where
  sq : I64 r.sq
  ps : ∀ p ∈ r.ps, p.Wf
  pl : r.ps.length ≤ maxLen
  sg : I64 r.sg
  at_ : I64 r.at_
structure Grp.Wf (g : Grp) : Prop where
  id : I64 g.id
  fi : I64 g.fi
  tm : I64 g.tm
  ht : I64 g.ht
  hv : I64 g.hv
  hc : I64 g.hc
  es : ∀ e ∈ g.es, e.Wf
  el : g.es.length ≤ maxLen

theorem ent_dec (r : List AV) (h : shEnt.good r) : ∃ a : Ent, a.Wf ∧ r = a.cells := by
  obtain ⟨_, _, ⟨n, rfl, h1⟩, ⟨_, _, ⟨m, rfl, h2⟩, ⟨_, _, ⟨b, rfl, h3⟩, rfl, rfl⟩, rfl⟩, rfl⟩ := h
  exact ⟨⟨n, m, b⟩, ⟨i64_wf h1, i64_wf h2, h3⟩, rfl⟩
theorem plc_dec (r : List AV) (h : shPlc.good r) : ∃ a : Plc, a.Wf ∧ r = a.cells := by
  obtain ⟨_, _, ⟨n, rfl, h1⟩, ⟨_, _, ⟨m, rfl, h2⟩, rfl, rfl⟩, rfl⟩ := h
  exact ⟨⟨n, m⟩, ⟨i64_wf h1, i64_wf h2⟩, rfl⟩
theorem prt_dec (r : List AV) (h : shPrt.good r) : ∃ a : Prt, a.Wf ∧ r = a.cells := by
  obtain ⟨_, _, ⟨n, rfl, h1⟩, ⟨_, _, ⟨m, rfl, h2⟩, ⟨_, _, h3, ⟨_, _, ⟨_, _, ⟨ht, rfl, h4⟩, ⟨_, _, ⟨hv, rfl, h5⟩, ⟨_, _, ⟨hc, rfl, h6⟩, rfl, rfl⟩, rfl⟩, rfl⟩, ⟨_, _, ⟨ix, rfl, h7⟩, ⟨_, _, ⟨tm, rfl, h8⟩, ⟨_, _, ⟨b, rfl⟩, ⟨_, _, ⟨b', rfl⟩, rfl, rfl⟩, rfl⟩, rfl⟩, rfl⟩, rfl⟩, rfl⟩, rfl⟩, rfl⟩ := h
  obtain ⟨es, k1, k2, rfl⟩ := slice_dec (av := Ent.av) ent_dec (fun _ => rfl) h3
  exact ⟨⟨n, m, es, ht, hv, hc, ix, tm, b, b'⟩, ⟨i64_wf h1, i64_wf h2, k2, k1, i64_wf h4, i64_wf h5, i64_wf h6, i64_wf h7, i64_wf h8⟩, rfl⟩
theorem rec_dec (r : List AV) (h : shRec.good r) : ∃ a : Rec, a.Wf ∧ r = a.cells := by
  obtain ⟨_, _, ⟨n, rfl, h1⟩, ⟨_, _, h3, rfl, rfl⟩, rfl⟩ := h
  obtain ⟨es, k1, k2, rfl⟩ := slice_dec (av := Prt.av) prt_dec (fun _ => rfl) h3
  exact ⟨⟨n, es⟩, ⟨i64_wf h1, k2, k1⟩, rfl⟩
theorem fnd_dec (r : List AV) (h : shFnd.good r) : ∃ a : Fnd, a.Wf ∧ r = a.cells := by
  obtain ⟨_, _, h1, ⟨_, _, h2, rfl, rfl⟩, rfl⟩ := h
  obtain ⟨a, k1, rfl⟩ := rec_dec _ h1
  obtain ⟨b, k2, rfl⟩ := plc_dec _ h2
  exact ⟨⟨a.sq, a.ps, b.sg, b.at_⟩, ⟨k1.sq, k1.ps, k1.pl, k2.sg, k2.at_⟩, rfl⟩
theorem grp_dec (r : List AV) (h : shGrp.good r) : ∃ a : Grp, a.Wf ∧ r = a.cells := by
  obtain ⟨_, _, ⟨n, rfl, h1⟩, ⟨_, _, ⟨m, rfl, h2⟩, ⟨_, _, ⟨tm, rfl, h3⟩, ⟨_, _, ⟨_, _, ⟨ht, rfl, h4⟩, ⟨_, _, ⟨hv, rfl, h5⟩, ⟨_, _, ⟨hc, rfl, h6⟩, rfl, rfl⟩, rfl⟩, rfl⟩, ⟨_, _, h7, rfl, rfl⟩, rfl⟩, rfl⟩, rfl⟩, rfl⟩ := h
  obtain ⟨es, k1, k2, rfl⟩ := slice_dec (av := Ent.av) ent_dec (fun _ => rfl) h7
  exact ⟨⟨n, m, tm, ht, hv, hc, es⟩, ⟨i64_wf h1, i64_wf h2, i64_wf h3, i64_wf h4, i64_wf h5, i64_wf h6, k2, k1⟩, rfl⟩
end Go.Ab
