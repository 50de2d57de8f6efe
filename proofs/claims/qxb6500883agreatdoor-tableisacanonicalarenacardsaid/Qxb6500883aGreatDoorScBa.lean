/- What Parse makes is well formed: children before parents, inside their declaration's ranges. No Go here. -/
import Derived.Test.Qxb6500883aGreatDoorScAj
namespace Go.Proofs.Qxb6500883aGreatDoor
open Go.RowKit
set_option linter.unusedSimpArgs false
set_option linter.unusedVariables false
/-- An expression node at place i, its declaration's expressions from be on. -/
structure EWf (n be i : Nat) (x : EN) : Prop where
  pos : x.pos ≤ n
  val : x.val < 18446744073709551616
  form : x.form ≤ 6
  nm : x.name.size ≤ n
  op : 2 ≤ x.form → ∃ a b : Nat, x.lhs = (a : Int) ∧ x.rhs = (b : Int) ∧ be ≤ a ∧ a < i ∧ be ≤ b ∧ b < i
/-- A type node at place i, its declaration's types from bt on, its expressions in [be, el). -/
structure TWf (n bt be el i : Nat) (opts : List Nat) (x : TN) : Prop where
  pos : x.pos ≤ n
  form : x.form ≤ 7
  nm : x.name.size ≤ n
  basic : x.form = 0 → 1 ≤ x.basic ∧ x.basic ≤ 7
  elem : x.form = 3 ∨ x.form = 4 → ∃ a : Nat, x.elem = (a : Int) ∧ bt ≤ a ∧ a < i
  count : 3 ≤ x.form → x.form ≤ 6 → ∃ a : Nat, x.count = (a : Int) ∧ be ≤ a ∧ a < el
  uni : x.form = 7 → x.lo ≤ x.hi ∧ x.hi ≤ opts.length ∧ ∀ j r, x.lo ≤ j → j < x.hi → opts[j]? = some r → bt ≤ r ∧ r < i
theorem TWf.mono {n bt be el i el' : Nat} {opts l : List Nat} {x : TN} (h : TWf n bt be el i opts x) (he : el ≤ el') : TWf n bt be el' i (opts ++ l) x := by
  refine ⟨h.pos, h.form, h.nm, h.basic, h.elem, fun h1 h2 => ?_, fun h1 => ?_⟩
  · obtain ⟨a, b, c, d⟩ := h.count h1 h2
    exact ⟨a, b, c, by omega⟩
  · obtain ⟨a, b, c⟩ := h.uni h1
    refine ⟨a, by rw [List.length_append]; omega, fun j r h2 h3 h4 => c j r h2 h3 ?_⟩
    rw [List.getElem?_append_left (by omega)] at h4
    exact h4
/-- What was added to the rows is well formed. -/
structure ExtF (n bt be : Nat) (F F' : FS) : Prop where
  t : ∃ l, F'.types = F.types ++ l
  e : ∃ l, F'.exprs = F.exprs ++ l
  o : ∃ l, F'.opts = F.opts ++ l
  tw : ∀ i x, F.types.length ≤ i → F'.types[i]? = some x → TWf n bt be F'.exprs.length i F'.opts x
  ew : ∀ i x, F.exprs.length ≤ i → F'.exprs[i]? = some x → EWf n be i x
  fd : F'.fields = F.fields
  dc : F'.decls = F.decls
theorem ExtF.refl (n bt be : Nat) (F : FS) : ExtF n bt be F F := ⟨⟨[], by simp⟩, ⟨[], by simp⟩, ⟨[], by simp⟩, fun i x h hx => by have := (List.getElem?_eq_some_iff.1 hx).1; omega, fun i x h hx => by have := (List.getElem?_eq_some_iff.1 hx).1; omega, rfl, rfl⟩
theorem ExtF.lenT {n bt be : Nat} {F F' : FS} (h : ExtF n bt be F F') : F.types.length ≤ F'.types.length ∧ F.exprs.length ≤ F'.exprs.length ∧ F.opts.length ≤ F'.opts.length := by
  obtain ⟨l1, e1⟩ := h.t
  obtain ⟨l2, e2⟩ := h.e
  obtain ⟨l3, e3⟩ := h.o
  rw [e1, e2, e3, List.length_append, List.length_append, List.length_append]
  omega
theorem ExtF.trans {n bt be : Nat} {F F' F'' : FS} (h : ExtF n bt be F F') (k : ExtF n bt be F' F'') : ExtF n bt be F F'' := by
  obtain ⟨l1, e1⟩ := h.t
  obtain ⟨l2, e2⟩ := h.e
  obtain ⟨l3, e3⟩ := h.o
  obtain ⟨m1, f1⟩ := k.t
  obtain ⟨m2, f2⟩ := k.e
  obtain ⟨m3, f3⟩ := k.o
  refine ⟨⟨l1 ++ m1, by rw [f1, e1, List.append_assoc]⟩, ⟨l2 ++ m2, by rw [f2, e2, List.append_assoc]⟩, ⟨l3 ++ m3, by rw [f3, e3, List.append_assoc]⟩, fun i x hi hx => ?_, fun i x hi hx => ?_, k.fd.trans h.fd, k.dc.trans h.dc⟩
  · by_cases hl : F'.types.length ≤ i
    · exact k.tw i x hl hx
    · rw [f1, List.getElem?_append_left (by omega)] at hx
      have := (h.tw i x hi hx).mono (l := m3) k.lenT.2.1
      rw [f3]
      exact this
  · by_cases hl : F'.exprs.length ≤ i
    · exact k.ew i x hl hx
    · rw [f2, List.getElem?_append_left (by omega)] at hx
      exact h.ew i x hi hx
theorem ExtF.addE {n bt be : Nat} {F F' : FS} {x : EN} (h : ExtF n bt be F F') (hx : EWf n be F'.exprs.length x) : ExtF n bt be F (F'.addE x) := by
  refine h.trans ⟨⟨[], by simp [FS.addE]⟩, ⟨[x], rfl⟩, ⟨[], by simp [FS.addE]⟩, fun i y hi hy => ?_, fun i y hi hy => ?_, rfl, rfl⟩
  · have := (List.getElem?_eq_some_iff.1 hy).1
    have e : (F'.addE x).types = F'.types := rfl
    rw [e] at this
    omega
  · have hy' : (F'.exprs ++ [x])[i]? = some y := hy
    rw [List.getElem?_append_right hi] at hy'
    by_cases e : i - F'.exprs.length = 0
    · rw [e] at hy'
      simp at hy'
      subst hy'
      have : i = F'.exprs.length := by omega
      subst this
      exact hx
    · rw [List.getElem?_eq_none (by simp; omega)] at hy'
      cases hy'
theorem ExtF.addT {n bt be : Nat} {F F' : FS} {x : TN} (h : ExtF n bt be F F') (hx : TWf n bt be F'.exprs.length F'.types.length F'.opts x) : ExtF n bt be F (F'.addT x) := by
  refine h.trans ⟨⟨[x], rfl⟩, ⟨[], by simp [FS.addT]⟩, ⟨[], by simp [FS.addT]⟩, fun i y hi hy => ?_, fun i y hi hy => ?_, rfl, rfl⟩
  · have hy' : (F'.types ++ [x])[i]? = some y := hy
    rw [List.getElem?_append_right hi] at hy'
    by_cases e : i - F'.types.length = 0
    · rw [e] at hy'
      simp at hy'
      subst hy'
      have : i = F'.types.length := by omega
      subst this
      exact hx
    · rw [List.getElem?_eq_none (by simp; omega)] at hy'
      cases hy'
  · have := (List.getElem?_eq_some_iff.1 hy).1
    have e : (F'.addT x).exprs = F'.exprs := rfl
    rw [e] at this
    omega
theorem ExtF.addO {n bt be : Nat} {F F' : FS} {rs : List Nat} (h : ExtF n bt be F F') : ExtF n bt be F (F'.addO rs) := by
  refine h.trans ⟨⟨[], by simp [FS.addO]⟩, ⟨[], by simp [FS.addO]⟩, ⟨rs, rfl⟩, fun i y hi hy => ?_, fun i y hi hy => ?_, rfl, rfl⟩
  · have := (List.getElem?_eq_some_iff.1 hy).1
    have e : (F'.addO rs).types = F'.types := rfl
    rw [e] at this
    omega
  · have := (List.getElem?_eq_some_iff.1 hy).1
    have e : (F'.addO rs).exprs = F'.exprs := rfl
    rw [e] at this
    omega
/-- The lookahead is a token of the text. -/
structure TOk (n : Nat) (S : PS) : Prop where
  tk : TkOk n S.tok
  hp : S.pos ≤ n
theorem TkOk.pn {n : Nat} {t : Tk} (h : TkOk n t) : t.pos ≤ n := Nat.le_trans h.pe h.en
section
variable {bs : List UInt8} {n : Nat}
theorem TOk.adv (hl : bs.length = n) {S : PS} (h : TOk n S) : TOk n (S.adv bs n) := by
  have h1 := nextT_ok hl h.hp (k := S.cnt)
  exact ⟨h1, h1.en⟩
theorem TOk.opn (hl : bs.length = n) {S : PS} (h : TOk n S) : TOk n (S.opn bs n) := TOk.adv hl (S := { S with depth := S.depth + 1 }) ⟨h.tk, h.hp⟩
theorem TOk.sht (hl : bs.length = n) {S : PS} (h : TOk n S) : TOk n (S.sht bs n) := ⟨(TOk.adv hl h).tk, (TOk.adv hl h).hp⟩
/-- What a nonterminal's result keeps. -/
def OutW (n : Nat) (nt : Nt) (S : PS) (o : Out) : Prop := ∀ bt be, TOk n S → bt ≤ S.fs.types.length → be ≤ S.fs.exprs.length →
  (match nt with | .termT r => be ≤ r ∧ r < S.fs.exprs.length | .exprT r => be ≤ r ∧ r < S.fs.exprs.length | .opts acc => ∀ x ∈ acc, bt ≤ x ∧ x < S.fs.types.length | _ => True) →
  match nt, o with
  | .typ, .ok S' r => ExtF n bt be S.fs S'.fs ∧ TOk n S' ∧ bt ≤ r ∧ r < S'.fs.types.length
  | _, .ok S' r => ExtF n bt be S.fs S'.fs ∧ TOk n S' ∧ be ≤ r ∧ r < S'.fs.exprs.length
  | _, .oks S' rs => ExtF n bt be S.fs S'.fs ∧ TOk n S' ∧ ∀ x ∈ rs, bt ≤ x ∧ x < S'.fs.types.length
  | _, .bad k => k.2 ≤ n
theorem enB_wf {be i fo ps a b : Nat} (h1 : fo ≤ 6) (hp : ps ≤ n) (ha : be ≤ a ∧ a < i) (hb : be ≤ b ∧ b < i) : EWf n be i (enB fo ps (a : Int) (b : Int)) :=
  ⟨hp, show 0 < _ by decide, h1, Nat.zero_le _, fun _ => ⟨a, b, rfl, rfl, ha.1, ha.2, hb.1, hb.2⟩⟩
theorem word_le (hl : bs.length = n) {S : PS} (h : TOk n S) : (S.word bs).size ≤ n := by
  unfold PS.word
  have h1 := h.tk.en
  rw [sub_size bs (by omega)]
  omega
theorem unx_le {S : PS} (h : TOk n S) : S.unx.2 ≤ n := h.tk.pn
theorem tnL_wf {bt be el i fo ba ps : Nat} {nm : ByteArray} {opts : List Nat} (hp : ps ≤ n) (hf : fo ≤ 2) (hn : nm.size ≤ n) (hb : fo = 0 → 1 ≤ ba ∧ ba ≤ 7) : TWf n bt be el i opts (tnL fo ba ps nm) :=
  ⟨hp, Nat.le_trans hf (by decide), hn, hb, fun h => by exfalso; have h : fo = 3 ∨ fo = 4 := h; omega, fun h => by exfalso; have h : 3 ≤ fo := h; omega, fun h => by exfalso; have h : fo = 7 := h; omega⟩
theorem basicK_rng {k id : Nat} (h : basicK k = some id) : 1 ≤ id ∧ id ≤ 7 := by
  unfold basicK at h
  split at h
  · cases h; decide
  · split at h
    · cases h; decide
    · split at h
      · cases h; omega
      · cases h
end
end Go.Proofs.Qxb6500883aGreatDoor
