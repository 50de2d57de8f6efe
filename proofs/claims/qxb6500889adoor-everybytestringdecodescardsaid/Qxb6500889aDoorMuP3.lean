/- Plain: the graph model, and how the machine refines it. -/
import Derived.Test.Qxb6500889aDoorMuOp
namespace Go.Proofs.Qxb6500889aDoor
open Go.RowKit
set_option linter.unusedSimpArgs false
set_option linter.unusedVariables false
structure MO where
  refs : List Nat
  data : List Nat
structure MS where
  objs : List MO
  roots : Nat → List Nat
  held : Nat → List Nat
  gen : Nat → Nat
  iss : List Nat
  alt : Nat
  st : Nat
  rf : Nat
  sf : Nat
def M0 : MS := ⟨[], fun _ => [], fun _ => [], fun _ => 0, [], 0, 0, 0, 0⟩
def wrdM (size : Nat) : Nat := (1 + size) + (1 + size) % 2
def mFull (M : MS) (m : Nat) : Bool := decide ((M.held m).length = 128) || decide (1099511627775 ≤ M.gen m)
def mOp (M : MS) (v : Nat) : Nat := if 1 ≤ v ∧ v ≤ 255 ∧ v ≤ M.iss.length then M.iss.getD (M.iss.length - v) 0 else v
def mLook (M : MS) (m h : Nat) : Option Nat := if h / 72057594037927936 = 165 ∧ h / 256 % 256 = m ∧ h / 65536 % 1099511627776 = M.gen m then (M.held m)[h % 256]? else none
def mGive (M : MS) (m id : Nat) : MS := { M with held := fup M.held m (M.held m ++ [id]), iss := M.iss ++ [hN (M.gen m) m (M.held m).length] }
def mSetR (M : MS) (id i v : Nat) : MS := match M.objs[id - 1]? with
  | none => M
  | some q => { M with objs := M.objs.set (id - 1) { q with refs := q.refs.set i v } }
def mSetD (M : MS) (id i v : Nat) : MS := match M.objs[id - 1]? with
  | none => M
  | some q => { M with objs := M.objs.set (id - 1) { q with data := q.data.set i v } }
def mAlloc (M : MS) (m size refs : Nat) (room : Bool) : MS × Rz :=
  if size < 1 ∨ 8192 < size then (M, rzR 6)
  else if size < refs then (M, rzR 7)
  else if mFull M m = true then (M, rzR 11)
  else if room = false then (M, rzR 8)
  else (mGive { M with objs := M.objs ++ [⟨List.replicate refs 0, List.replicate (size - refs) 0⟩], alt := M.alt + wrdM size } m (M.objs.length + 1), rzA (hN (M.gen m) m (M.held m).length) 0)
def mPop (M : MS) (m : Nat) : MS × Rz := match (M.roots m).getLast? with
  | none => (M, rzR 10)
  | some id => if mFull M m = true then (M, rzR 11) else (mGive { M with roots := fup M.roots m (M.roots m).dropLast } m id, rzA (hN (M.gen m) m (M.held m).length) 0)
def mSafe (M : MS) (m : Nat) : MS := { M with held := fup M.held m [], gen := fup M.gen m (M.gen m + 1), sf := M.sf + 1 }
def mStat (M : MS) : Rz := ⟨0, 0, M.st, M.rf, M.objs.length, M.sf, sumT (fun m => (M.held m).length) 4, sumT (fun m => (M.roots m).length) 4⟩
/-- The operations on the object behind a handle. -/
def mObj (M : MS) (m : Nat) (o : OpP) (id : Nat) (q : MO) : MS × Rz :=
  if o.k = 5 then (if (M.roots m).length = 64 then (M, rzR 9) else ({ M with roots := fup M.roots m (M.roots m ++ [id]) }, rzR 0))
  else if o.k = 3 then (if q.data.length ≤ o.b then (M, rzR 5) else (M, rzA (q.data.getD o.b 0) 0))
  else if o.k = 4 then (if q.data.length ≤ o.b then (M, rzR 5) else (mSetD M id o.b o.c, rzR 0))
  else if o.k = 1 then (if q.refs.length ≤ o.b then (M, rzR 5) else if q.refs.getD o.b 0 = 0 then (M, rzR 0) else if mFull M m = true then (M, rzR 11) else (mGive M m (q.refs.getD o.b 0), rzA (hN (M.gen m) m (M.held m).length) 0))
  else (if q.refs.length ≤ o.b then (M, rzR 5) else if mOp M o.c = 0 then (mSetR M id o.b 0, rzR 0) else match mLook M m (mOp M o.c) with
    | none => (M, rzR 3)
    | some v => (mSetR M id o.b v, rzR 0))
def mDo (M : MS) (o : OpP) (room : Bool) : MS × Rz :=
  if 7 ≤ o.ac then (M, rzR 1)
  else if 4 ≤ o.ac then (M, rzR 0)
  else if o.k = 0 then mAlloc M o.ac o.a o.b room
  else if o.k = 6 then mPop M o.ac
  else if o.k = 7 then (mSafe M o.ac, rzR 0)
  else if o.k = 8 then (M, mStat M)
  else if 9 ≤ o.k then (M, rzR 2)
  else if mOp M o.a = 0 then (M, rzR 4)
  else match mLook M o.ac (mOp M o.a) with
    | none => (M, rzR 3)
    | some id => match M.objs[id - 1]? with
      | none => (M, rzR 0)
      | some q => mObj M o.ac o id q
def mCnt (M : MS) (z : Rz) : MS := { M with st := M.st + 1, rf := if z.c = 0 then M.rf else M.rf + 1 }
/-- The ring holds the handles given last. -/
structure RgI (X : XS) (G : List Nat) : Prop where
  ct : X.ct = min G.length 255
  nx : X.nx = G.length % 255
  at_ : ∀ j, 1 ≤ j → j ≤ X.ct → X.ring ((X.nx + 255 - j) % 255) = G.getD (G.length - j) 0
section
variable {H H' : HS} {X X' : XS} {n m : Nat} {o : OpP} {z : Rz} {G : List Nat} {M M' : MS} {φ : Nat → Nat}
theorem RgI.zero : RgI X0 [] := ⟨rfl, rfl, fun j h1 h2 => by have : X0.ct = 0 := rfl; omega⟩
theorem RgI.note (h : RgI X G) (v : Nat) : RgI (noteX X v) (G ++ [v]) := by
  have hc := h.ct
  have hx := h.nx
  refine ⟨?_, ?_, fun j h1 h2 => ?_⟩
  · show (if X.ct < 255 then X.ct + 1 else X.ct) = min (G ++ [v]).length 255
    rw [List.length_append, List.length_singleton]
    split <;> omega
  · show (X.nx + 1) % 255 = (G ++ [v]).length % 255
    rw [List.length_append, List.length_singleton]
    omega
  · have h2' : j ≤ (if X.ct < 255 then X.ct + 1 else X.ct) := h2
    have h3 : j ≤ 255 ∧ j ≤ X.ct + 1 := by split at h2' <;> omega
    show fup X.ring X.nx v (((X.nx + 1) % 255 + 255 - j) % 255) = (G ++ [v]).getD ((G ++ [v]).length - j) 0
    rw [List.length_append, List.length_singleton]
    by_cases hj : j = 1
    · subst hj
      rw [show ((X.nx + 1) % 255 + 255 - 1) % 255 = X.nx by omega, fup_self]
      simp
    · have e1 : ((X.nx + 1) % 255 + 255 - j) % 255 = (X.nx + 255 - (j - 1)) % 255 := by omega
      rw [e1, fup_ne _ _ (by omega), h.at_ (j - 1) (by omega) (by omega)]
      rw [show G.length + 1 - j = G.length - (j - 1) by omega]
      rw [List.getD_eq_getElem?_getD, List.getD_eq_getElem?_getD, List.getElem?_append_left (by omega)]
theorem RgI.op (h : RgI X G) (v : Nat) : opX X v = (if 1 ≤ v ∧ v ≤ 255 ∧ v ≤ G.length then G.getD (G.length - v) 0 else v) := by
  unfold opX
  have hc := h.ct
  by_cases hv : 1 ≤ v ∧ v ≤ 255 ∧ v ≤ X.ct
  · rw [if_pos hv, if_pos ⟨hv.1, hv.2.1, by omega⟩, h.at_ v hv.1 hv.2.2]
  · rw [if_neg hv, if_neg (fun k => hv ⟨k.1, k.2.1, by omega⟩)]
theorem RgI.same (h : RgI X G) (h1 : X'.ring = X.ring) (h2 : X'.nx = X.nx) (h3 : X'.ct = X.ct) : RgI X' G := ⟨by rw [h3]; exact h.ct, by rw [h2]; exact h.nx, fun j k1 k2 => by rw [h1, h2]; exact h.at_ j k1 (by rw [← h3]; exact k2)⟩
/-- All that can be named has its node. -/
structure Mt (H : HS) (X : XS) (objs : List MO) (φ : Nat → Nat) : Prop where
  z : φ 0 = 0
  ob : ∀ a, Nm H X a → ∃ x q, H.objs a = some x ∧ 1 ≤ φ a ∧ objs[φ a - 1]? = some q ∧ q.refs = x.refs.map φ ∧ q.data = x.data
  inj : ∀ a b, Nm H X a → Nm H X b → φ a = φ b → a = b
structure RM (H : HS) (X : XS) (G : List Nat) (M : MS) (φ : Nat → Nat) : Prop where
  mt : Mt H X M.objs φ
  roots : ∀ m, m < 4 → M.roots m = (H.roots m).map φ
  held : ∀ m, m < 4 → M.held m = ((X.tb m).ad).map φ
  gen : ∀ m, m < 4 → M.gen m = (X.tb m).gen
  iss : M.iss = G
  rg : RgI X G
  al : M.objs.length = X.al
  st : M.st = X.st
  rf : M.rf = X.rf
  sf : M.sf = X.sf
theorem RM.zero : RM H0 X0 [] M0 id := by
  refine ⟨⟨rfl, fun a h => ?_, fun a b h => ?_⟩, fun m _ => rfl, fun m _ => rfl, fun m _ => rfl, rfl, RgI.zero, rfl, rfl, rfl, rfl⟩
  · obtain ⟨⟨x, hx⟩, _⟩ := HI.zero.nm a h
    cases hx
  · obtain ⟨⟨x, hx⟩, _⟩ := HI.zero.nm a h
    cases hx
/-- Less is named, its objects stand. -/
theorem Mt.less {objs : List MO} (h : Mt H X objs φ) (hn : ∀ a, Nm H' X' a → Nm H X a) (ho : ∀ a, Nm H' X' a → H'.objs a = H.objs a) : Mt H' X' objs φ := by
  refine ⟨h.z, fun a ha => ?_, fun a b ha hb he => h.inj a b (hn a ha) (hn b hb) he⟩
  obtain ⟨x, q, k1, k2⟩ := h.ob a (hn a ha)
  exact ⟨x, q, by rw [ho a ha]; exact k1, k2⟩
theorem RM.op (h : RM H X G M φ) (v : Nat) : mOp M v = opX X v := by
  rw [h.rg.op]
  unfold mOp
  rw [h.iss]
theorem RM.look (h : RM H X G M φ) (hm : m < 4) (v : Nat) : mLook M m v = (lookX X m v).map φ := by
  unfold mLook lookX
  rw [h.gen m hm, h.held m hm]
  split
  · rw [List.getElem?_map]
  · rfl
theorem RM.full (h : RM H X G M φ) (hn : XN X n) (hb : n ≤ 100000000000) (hm : m < 4) : mFull M m = fullB (X.tb m) := by
  unfold mFull fullB
  rw [h.held m hm, h.gen m hm, List.length_map]
  have := hn.gen m
  have e1 : decide (1099511627775 ≤ (X.tb m).gen) = false := decide_eq_false (by omega)
  have e2 : decide ((X.tb m).gen = 1099511627775) = false := decide_eq_false (by omega)
  rw [e1, e2]
/-- A handle is given out in both. -/
theorem RM.give {x : Nat} (h : RM H X G M φ) (hm : m < 4) (hx : Nm H X x) (hr : H'.roots = H.roots) (hob : H'.objs = H.objs) : RM H' (givX X m x) (G ++ [hN (X.tb m).gen m (X.tb m).ad.length]) (mGive M m (φ x)) φ := by
  have hn : ∀ a, Nm H' (givX X m x) a → Nm H X a := by
    refine Nm.into (P := Nm H X) (fun i a h1 h2 h3 => .root i a h1 (by rw [← hr]; exact h2) h3) (fun i a h1 h2 h3 => ?_) (fun b y h1 h2 a h3 h4 => .ref b a y h1 (by rw [← hob]; exact h2) h3 h4)
    rw [givX_tb] at h2
    split at h2
    · rcases List.mem_append.1 h2 with h4 | h4
      · exact .hand m a hm h4 h3
      · rw [List.mem_singleton.1 h4]; exact hx
    · exact .hand i a h1 h2 h3
  refine ⟨h.mt.less hn (fun a _ => by rw [hob]), fun i hi => by rw [hr]; exact h.roots i hi, fun i hi => ?_, fun i hi => ?_, ?_, (h.rg.same (X' := issX X m x) rfl rfl rfl).note _, h.al, h.st, h.rf, h.sf⟩
  · show fup M.held m _ i = _
    rw [givX_tb]
    by_cases e : i = m
    · subst e
      rw [fup_self, if_pos rfl, h.held i hi]
      simp
    · rw [fup_ne _ _ e, if_neg e]; exact h.held i hi
  · rw [givX_tb]
    by_cases e : i = m
    · subst e
      rw [if_pos rfl]; exact h.gen i hi
    · rw [if_neg e]; exact h.gen i hi
  · show M.iss ++ [hN (M.gen m) m (M.held m).length] = _
    rw [h.iss, h.gen m hm, h.held m hm, List.length_map]
theorem RM.cnt (h : RM H X G M φ) (z : Rz) : RM H (doX X z) G (mCnt M z) φ := by
  refine ⟨h.mt.less (fun a ha => ?_) (fun _ _ => rfl), h.roots, h.held, h.gen, h.iss, h.rg.same rfl rfl rfl, h.al, ?_, ?_, h.sf⟩
  · exact Nm.into (X := doX X z) (P := Nm H X) (fun m a h1 h2 h3 => .root m a h1 h2 h3) (fun m a h1 h2 h3 => .hand m a h1 h2 h3) (fun b x h1 h2 a h3 h4 => .ref b a x h1 h2 h3 h4) a ha
  · show M.st + 1 = X.st + 1
    rw [h.st]
  · show (if z.c = 0 then M.rf else M.rf + 1) = (if z.c = 0 then X.rf else X.rf + 1)
    rw [h.rf]
/-- One object's fields are others, in both. -/
theorem RM.setOb (h : RM H X G M φ) (hi : HI H X) {a : Nat} {x y : Ob} {q p : MO} (ha : Nm H X a) (hx : H.objs a = some x) (hq : M.objs[φ a - 1]? = some q) (hp1 : p.refs = y.refs.map φ) (hp2 : p.data = y.data) (hy : ∀ b ∈ y.refs, b ≠ 0 → Nm H X b) :
    RM { H with objs := fup H.objs a (some y) } X G { M with objs := M.objs.set (φ a - 1) p } φ := by
  have hn : ∀ b, Nm { H with objs := fup H.objs a (some y) } X b → Nm H X b := by
    refine Nm.into (H := { H with objs := fup H.objs a (some y) }) (P := Nm H X) (fun m a h1 h2 h3 => .root m a h1 h2 h3) (fun m a h1 h2 h3 => .hand m a h1 h2 h3) (fun b z h1 h2 c h3 h4 => ?_)
    have h2' : fup H.objs a (some y) b = some z := h2
    by_cases hb : b = a
    · subst hb
      rw [fup_self] at h2'
      cases h2'
      exact hy c h3 h4
    · rw [fup_ne _ _ hb] at h2'
      exact .ref b c z h1 h2' h3 h4
  have hlt := (List.getElem?_eq_some_iff.1 hq).1
  refine ⟨⟨h.mt.z, fun b hb => ?_, fun b c hb hc he => h.mt.inj b c (hn b hb) (hn c hc) he⟩, h.roots, h.held, h.gen, h.iss, h.rg, by rw [← h.al]; simp, h.st, h.rf, h.sf⟩
  obtain ⟨x0, q0, k1, k2, k3, k4, k5⟩ := h.mt.ob b (hn b hb)
  by_cases e : b = a
  · subst e
    exact ⟨y, p, fup_self _ _ _, k2, by show (M.objs.set _ p)[_]? = _; rw [List.getElem?_set_self hlt], hp1, hp2⟩
  · refine ⟨x0, q0, by show fup H.objs a (some y) b = _; rw [fup_ne _ _ e]; exact k1, k2, ?_, k4, k5⟩
    show (M.objs.set _ p)[_]? = _
    have : φ b - 1 ≠ φ a - 1 := fun e2 => e (h.mt.inj b a (hn b hb) ha (by obtain ⟨_, _, _, k, _⟩ := h.mt.ob a ha; omega))
    rw [List.getElem?_set_ne (fun e2 => this e2.symm)]
    exact k3
end
end Go.Proofs.Qxb6500889aDoor
