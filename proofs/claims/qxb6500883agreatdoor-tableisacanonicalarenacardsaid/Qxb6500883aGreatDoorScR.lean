/- The parser's memory: nodes, the file's rows, the parser's block. -/
import Derived.Test.Qxb6500883aGreatDoorScQ
namespace Go.Proofs.Qxb6500883aGreatDoor
open Go.RowKit
set_option linter.unusedSimpArgs false
set_option linter.unusedVariables false
/-- A type node. -/
structure TN where
  form : Nat
  basic : Nat
  pos : Nat
  name : ByteArray
  elem : Int
  count : Int
  lo : Nat
  hi : Nat
/-- An expression node. -/
structure EN where
  form : Nat
  pos : Nat
  val : Nat
  name : ByteArray
  lhs : Int
  rhs : Int
/-- A field node. -/
structure FN where
  name : ByteArray
  pos : Nat
  typ : Nat
/-- A declaration node. -/
structure DN where
  sort : Nat
  name : ByteArray
  pos : Nat
  typ : Int
  expr : Int
  fLo : Nat
  fHi : Nat
  tLo : Nat
  tHi : Nat
  eLo : Nat
  eHi : Nat
def tnC (x : TN) : List Value := [.int .u8 (x.form : Int), .int .i32 (x.basic : Int), .int .i64 (x.pos : Int), .string x.name, .int .i32 x.elem, .int .i32 x.count, .int .i32 (x.lo : Int), .int .i32 (x.hi : Int)]
def enC (x : EN) : List Value := [.int .u8 (x.form : Int), .int .i64 (x.pos : Int), .int .u64 (x.val : Int), .string x.name, .int .i32 x.lhs, .int .i32 x.rhs]
def fnCl (x : FN) : List Value := [.string x.name, .int .i64 (x.pos : Int), .int .i32 (x.typ : Int)]
def dnC (x : DN) : List Value := [.int .u8 (x.sort : Int), .string x.name, .int .i64 (x.pos : Int), .int .i32 x.typ, .int .i32 x.expr, .int .i32 (x.fLo : Int), .int .i32 (x.fHi : Int), .int .i32 (x.tLo : Int), .int .i32 (x.tHi : Int), .int .i32 (x.eLo : Int), .int .i32 (x.eHi : Int)]
def rtT : RK TN := ⟨157, 104, 8, 48, tnC⟩
def rtE : RK EN := ⟨161, 105, 6, 48, enC⟩
def rtF : RK FN := ⟨201, 106, 3, 32, fnCl⟩
def rtD : RK DN := ⟨147, 103, 11, 64, dnC⟩
def rtO : RK Nat := ⟨144, 107, 1, 4, fun x => [.int .i32 (x : Int)]⟩
theorem okT : RKok Tryz.prog rtT := ⟨Tryz.underlying104, info_of' (z := .agg #[.int .u8 0, .int .i32 0, .int .i64 0, .string ⟨#[]⟩, .int .i32 0, .int .i32 0, .int .i32 0, .int .i32 0]) (by kernel_rfl) rfl, by decide, by decide, fun _ => rfl, fun x u hu => by
  simp only [rtT, tnC, List.mem_cons, List.not_mem_nil, or_false] at hu
  rcases hu with rfl | rfl | rfl | rfl | rfl | rfl | rfl | rfl <;> rfl⟩
theorem okE : RKok Tryz.prog rtE := ⟨Tryz.underlying105, info_of' (z := .agg #[.int .u8 0, .int .i64 0, .int .u64 0, .string ⟨#[]⟩, .int .i32 0, .int .i32 0]) (by kernel_rfl) rfl, by decide, by decide, fun _ => rfl, fun x u hu => by
  simp only [rtE, enC, List.mem_cons, List.not_mem_nil, or_false] at hu
  rcases hu with rfl | rfl | rfl | rfl | rfl | rfl <;> rfl⟩
theorem okF : RKok Tryz.prog rtF := ⟨Tryz.underlying106, info_of' (z := .agg #[.string ⟨#[]⟩, .int .i64 0, .int .i32 0]) (by kernel_rfl) rfl, by decide, by decide, fun _ => rfl, fun x u hu => by
  simp only [rtF, fnCl, List.mem_cons, List.not_mem_nil, or_false] at hu
  rcases hu with rfl | rfl | rfl <;> rfl⟩
theorem okD : RKok Tryz.prog rtD := ⟨Tryz.underlying103, info_of' (z := .agg #[.int .u8 0, .string ⟨#[]⟩, .int .i64 0, .int .i32 0, .int .i32 0, .int .i32 0, .int .i32 0, .int .i32 0, .int .i32 0, .int .i32 0, .int .i32 0]) (by kernel_rfl) rfl, by decide, by decide, fun _ => rfl, fun x u hu => by
  simp only [rtD, dnC, List.mem_cons, List.not_mem_nil, or_false] at hu
  rcases hu with rfl | rfl | rfl | rfl | rfl | rfl | rfl | rfl | rfl | rfl | rfl <;> rfl⟩
theorem okO : RKok Tryz.prog rtO := ⟨Tryz.underlying107, info_of' (z := .int .i32 0) (by kernel_rfl) rfl, by decide, by decide, fun _ => rfl, fun x u hu => by
  simp only [rtO, List.mem_cons, List.not_mem_nil, or_false] at hu
  subst hu; rfl⟩
/-- The nodes of a file. -/
structure FS where
  types : List TN
  exprs : List EN
  fields : List FN
  opts : List Nat
  decls : List DN
/-- Where parser, file and text lie. -/
structure PL where
  p : Nat
  f : Nat
  a : Option Addr
  n : Nat
  c : Nat
/-- The rows' slices. -/
structure FV where
  d : Value
  t : Value
  e : Value
  f : Value
  o : Value
def flC (l : PL) (V : FV) : List Value := [.slice l.a l.n l.c, V.d, V.t, V.e, V.f, V.o]
/-- The file in memory (roles: 2 declarations, 3 types, 4 expressions, 5 fields, 6 options, 7 the parser, 8 the file). -/
structure FRw (ρ : Rl) (w : World) (V : FV) (F : FS) : Prop where
  d : RowX rtD w ρ 2 V.d F.decls
  t : RowX rtT w ρ 3 V.t F.types
  e : RowX rtE w ρ 4 V.e F.exprs
  f : RowX rtF w ρ 5 V.f F.fields
  o : RowX rtO w ρ 6 V.o F.opts
structure PR (N mg : Nat) (ρ : Rl) (w : World) (l : PL) (bs : List UInt8) (F : FS) : Prop where
  src : Src w l.a l.n l.c bs
  gl : Gl N mg w
  rows : ∃ V, Blk w l.f 109 (flC l V) ∧ FRw ρ w V F
  rp : ρ l.p = 7
  rf : ρ l.f = 8
  rs : ∀ ad, l.a = some ad → ρ ad.block = 0
  rN : ∀ g, g < N → ρ g = 0
  dom : ∀ g, ρ g ≠ 0 → g < w.heap.size
/-- The parser's plain state. -/
structure PS where
  pos : Nat
  cnt : Nat
  depth : Nat
  used : Nat
  tok : Tk
  fs : FS
def psC (l : PL) (S : PS) (e : Value) : List Value := [.slice l.a l.n l.c, .int .i64 (S.pos : Int), .int .i64 (S.cnt : Int), .int .u8 (S.tok.kind : Int), .int .i64 (S.tok.pos : Int), .int .i64 (S.tok.en : Int), .int .i64 (S.tok.bad : Int), .int .u64 (S.tok.val : Int), .pointer (some ⟨l.f, 0, none⟩), .int .i64 (S.depth : Int), e]
/-- What the plain state keeps. -/
structure POk (n : Nat) (S : PS) : Prop where
  tk : TkOk n S.tok
  hp : S.pos ≤ n
  hc : S.cnt ≤ 65536
  hu : S.used ≤ S.cnt
  hk : 2 ≤ S.tok.kind → S.used + 1 ≤ S.cnt
  hd : S.depth ≤ 32
/-- The parser in memory. -/
structure PM (N mg : Nat) (ρ : Rl) (w : World) (l : PL) (bs : List UInt8) (S : PS) : Prop where
  pb : Blk w l.p 114 (psC l S (.pointer none))
  r : PR N mg ρ w l bs S.fs
  ok : POk l.n S
/-- The parser has refused: the error lies in a block made since w0. -/
structure PF (w0 : World) (w : World) (l : PL) (bs : List UInt8) (k : Nat × Nat) : Prop where
  e : ∃ q cs, Blk w l.p 114 cs ∧ cs[10]? = some (.pointer (some ⟨q, 0, none⟩)) ∧ ErM w q bs k.1 k.2 ∧ w0.heap.size ≤ q
  b : k.2 ≤ l.n
/-- Roles that the parser writes. -/
def X7 (r : Nat) : Bool := decide (2 ≤ r) && decide (r ≤ 8)
def X1 (r : Nat) : Bool := r == 7
theorem X1_X7 : ∀ c, X1 c = true → X7 c = true := fun c h => by unfold X1 at h; simp at h; subst h; rfl
section
variable {N mg : Nat} {ρ ρ' : Rl} {w w' : World} {l : PL} {bs : List UInt8} {F : FS} {S S' : PS}
theorem FRw.fr {X : Nat → Bool} {V : FV} (h : FRw ρ w V F) (hf : Fr X ρ w ρ' w') (hX : ∀ c, 2 ≤ c → c ≤ 6 → X c = false) : FRw ρ' w' V F :=
  ⟨h.d.fr hf (hX 2 (by decide) (by decide)), h.t.fr hf (hX 3 (by decide) (by decide)), h.e.fr hf (hX 4 (by decide) (by decide)), h.f.fr hf (hX 5 (by decide) (by decide)), h.o.fr hf (hX 6 (by decide) (by decide))⟩
theorem PR.base (h : PR N mg ρ w l bs F) {X : Nat → Bool} (hf : Fr X ρ w ρ' w') (h0 : X 0 = false) : Src w' l.a l.n l.c bs ∧ Gl N mg w' ∧ ρ' l.p = 7 ∧ ρ' l.f = 8 ∧ (∀ ad, l.a = some ad → ρ' ad.block = 0) ∧ (∀ g, g < N → ρ' g = 0) ∧ (∀ g, ρ' g ≠ 0 → g < w'.heap.size) := by
  have hp : l.p < w.heap.size := h.dom _ (by rw [h.rp]; decide)
  have hf' : l.f < w.heap.size := h.dom _ (by rw [h.rf]; decide)
  have hN := h.gl.sz
  refine ⟨h.src.of hf.size (fun ad ha hl => hf.blk _ hl (by rw [h.rs ad ha]; exact h0)), h.gl.below (hf.toBelow hN h.rN h0), by rw [hf.old _ hp]; exact h.rp, by rw [hf.old _ hf']; exact h.rf, fun ad ha => by rw [hf.old _ (h.src.lt ad ha)]; exact h.rs ad ha, fun g hg => by rw [hf.old _ (by omega)]; exact h.rN g hg, hf.dom h.dom⟩
theorem PR.fr (h : PR N mg ρ w l bs F) {X : Nat → Bool} (hf : Fr X ρ w ρ' w') (hX : ∀ c, c ≤ 6 → X c = false) (h8 : X 8 = false) : PR N mg ρ' w' l bs F := by
  obtain ⟨h1, h2, h3, h4, h5, h6, h7⟩ := h.base hf (hX 0 (by decide))
  obtain ⟨V, hV, hR⟩ := h.rows
  exact ⟨h1, h2, ⟨V, hf.keep hV h.rf h8, hR.fr hf (fun c _ hc => hX c hc)⟩, h3, h4, h5, h6, h7⟩
theorem PR.updP (h : PR N mg ρ w l bs F) (hu : Upd l.p w w') : PR N mg ρ w' l bs F ∧ Fr X7 ρ w ρ w' := by
  have hf : Fr X1 ρ w ρ w' := Fr.upd hu (by rw [h.rp]; rfl)
  exact ⟨h.fr hf (fun c hc => by unfold X1; rw [beq_eq_false_iff_ne]; omega) rfl, hf.mono X1_X7⟩
theorem PR.below (h : PR N mg ρ w l bs F) (hb : Below w.heap.size w w') : PR N mg ρ w' l bs F := h.fr (X := fun _ => false) (Fr.below hb) (fun _ _ => rfl) rfl
theorem PM.below (h : PM N mg ρ w l bs S) (hb : Below w.heap.size w w') : PM N mg ρ w' l bs S := ⟨h.pb.below hb, h.r.below hb, h.ok⟩
theorem PM.N_le (h : PM N mg ρ w l bs S) : N ≤ l.p := by
  rcases Nat.lt_or_ge l.p N with h1 | h1
  · have := h.r.rN _ h1; rw [h.r.rp] at this; cases this
  · exact h1
theorem PM.lx (h : PM N mg ρ w l bs S) : LxM w l.p 114 (psC l S (.pointer none)) l.a l.n l.c bs S.pos S.cnt :=
  ⟨h.pb, h.r.src, rfl, rfl, rfl, (fun ad ha e => by have := h.r.rs ad ha; rw [e, h.r.rp] at this; cases this), h.ok.hp⟩
theorem PM.len (h : PM N mg ρ w l bs S) : bs.length = l.n := h.r.src.len
/-- The lookahead moves on. -/
def PS.nxt (S : PS) (bs : List UInt8) (n u : Nat) : PS := ⟨(nextT bs n S.pos S.cnt).1.en, (nextT bs n S.pos S.cnt).2, S.depth, u, (nextT bs n S.pos S.cnt).1, S.fs⟩
def PS.adv (S : PS) (bs : List UInt8) (n : Nat) : PS := S.nxt bs n (S.used + 1)
theorem POk.nxt (h : POk l.n S) (hl : bs.length = l.n) {u : Nat} (hu : u ≤ S.cnt) : POk l.n (S.nxt bs l.n u) := by
  have h1 := nextT_ok hl h.hp (k := S.cnt)
  have h2 := nextT_cnt (bs := bs) (n := l.n) S.pos S.cnt h.hc
  exact ⟨h1, h1.en, h2.1, Nat.le_trans hu h2.2.2, fun hk => by
    have e := h2.2.1 hk
    show u + 1 ≤ (nextT bs l.n S.pos S.cnt).2
    omega, h.hd⟩
theorem PM.cells (h : PM N mg ρ w l bs S) : w.cell? ⟨l.p, 0, none⟩ = some (.slice l.a l.n l.c) ∧ w.cell? ⟨l.p, 3, none⟩ = some (.int .u8 (S.tok.kind : Int)) ∧ w.cell? ⟨l.p, 4, none⟩ = some (.int .i64 (S.tok.pos : Int)) ∧ w.cell? ⟨l.p, 8, none⟩ = some (.pointer (some ⟨l.f, 0, none⟩)) ∧ w.cell? ⟨l.p, 9, none⟩ = some (.int .i64 (S.depth : Int)) ∧ w.cell? ⟨l.p, 10, none⟩ = some (.pointer none) :=
  ⟨h.pb.cell 0, h.pb.cell 3, h.pb.cell 4, h.pb.cell 8, h.pb.cell 9, h.pb.cell 10⟩
theorem PM.fz (h : PM N mg ρ w l bs S) (j : Nat) : w.frozen? ⟨l.p, j, none⟩ = false := h.pb.frozen j
end
end Go.Proofs.Qxb6500883aGreatDoor
