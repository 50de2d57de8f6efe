/- name, binary. -/
import Derived.Test.Qxb6500883aGreatDoorScX
namespace Go.Proofs.Qxb6500883aGreatDoor
open Go.RowKit
set_option linter.unusedSimpArgs false
set_option linter.unusedVariables false
def PS.addE (S : PS) (x : EN) : PS := { S with fs := S.fs.addE x }
def PS.addT (S : PS) (x : TN) : PS := { S with fs := S.fs.addT x }
/-- The name that the lookahead spells. -/
def PS.word (S : PS) (bs : List UInt8) : ByteArray := sub bs S.tok.pos S.tok.en
section
variable {N mg : Nat} {ρ ρ' : Rl} {w w' w1 w2 : World} {l : PL} {bs : List UInt8} {S S' : PS}
theorem PM.setF {F : FS} (h : PM N mg ρ w l bs S) (hr : PR N mg ρ' w' l bs F) (hf : Fr X8 ρ w ρ' w') : PM N mg ρ' w' l bs { S with fs := F } ∧ Fr X7 ρ w ρ' w' :=
  ⟨⟨hf.keep h.pb h.r.rp rfl, hr, ⟨h.ok.tk, h.ok.hp, h.ok.hc, h.ok.hu, h.ok.hk, h.ok.hd⟩⟩, hf.mono X8_X7⟩
set_option maxRecDepth 100000 in
theorem binaryW (h : PM N mg ρ w l bs S) (fo ps : Nat) (x y : Int) (hl : S.fs.exprs.length ≤ 65536) : Calls Tryz.prog 134 #[.pointer (some ⟨l.p, 0, none⟩), .int .u8 (fo : Int), .int .i64 (ps : Int), .int .i32 x, .int .i32 y] w fun e w' => e = .returned (.int .i32 (S.fs.exprs.length : Int)) ∧ Hid (PGo N mg ρ w l bs (S.addE ⟨fo, ps, 0, ⟨#[]⟩, x, y⟩) w') := by
  have HA := hid (addEW h.r ⟨fo, ps, 0, ⟨#[]⟩, x, y⟩ hl)
  obtain ⟨_, _, _, c8, _⟩ := h.cells
  have HM := hid h
  obtain ⟨m, hm⟩ : ∃ m, S.fs.exprs.length = m := ⟨_, rfl⟩
  rw [hm] at HA ⊢
  dsimp only [enC] at HA
  clear h hm hl
  go_enter Tryz.func134, Tryz.ntmps134
  go_wp2_with fail
  refine HA.out.mono ?_
  rintro e w2 ⟨rfl, H2⟩
  have HF : Hid (PGo N mg ρ w l bs (S.addE ⟨fo, ps, 0, ⟨#[]⟩, x, y⟩) w2) := hid (by
    obtain ⟨ρ2, h1, h2⟩ := H2.out
    obtain ⟨h3, h4⟩ := HM.out.setF h1 h2
    exact ⟨ρ2, h3, h4⟩)
  clear H2 HA HM
  go_wp2
  go_ret
  exact ⟨rfl, HF⟩
theorem PGo.below (h : PGo N mg ρ w l bs S w1) (hb : Below w1.heap.size w1 w2) : PGo N mg ρ w l bs S w2 := by
  obtain ⟨ρ', h1, h2⟩ := h.m
  exact ⟨ρ', h1.below hb, h2.trans (Fr.below hb)⟩
theorem PM.new {p : Nat} (h : PM N mg ρ w l bs S) (hp : w.heap.size ≤ p) : ρ p = 0 := by
  cases hz : ρ p with
  | zero => rfl
  | succ z => have := h.r.dom p (by rw [hz]; exact Nat.succ_ne_zero z); omega
/-- The token kept in a block of one's own, made since w0. -/
structure TkB (N mg : Nat) (ρ : Rl) (w : World) (l : PL) (bs : List UInt8) (S : PS) (p : Nat) (t : Tk) (ρ' : Rl) (w' : World) : Prop where
  m : PM N mg ρ' w' l bs S
  f : Fr X7 ρ w ρ' w'
  b : Blk w' p 112 (tkC t)
  z : ρ' p = 0
  lo : w.heap.size ≤ p
theorem TkB.start (h : PM N mg ρ w l bs S) {p : Nat} {t : Tk} (hb : Below w.heap.size w w1) (hp : w.heap.size ≤ p) (hk : Blk w1 p 112 (tkC t)) : TkB N mg ρ w l bs S p t ρ w1 := ⟨h.below hb, Fr.below hb, hk, h.new hp, hp⟩
theorem TkB.go {p : Nat} {t : Tk} (h : TkB N mg ρ w l bs S p t ρ' w1) (hg : PGo N mg ρ' w1 l bs S' w2) : ∃ ρ2, TkB N mg ρ w l bs S' p t ρ2 w2 := by
  obtain ⟨ρ2, h1, h2⟩ := hg.m
  exact ⟨ρ2, h1, h.f.trans h2, h2.keep h.b h.z rfl, by rw [h2.old _ h.b.lt]; exact h.z, h.lo⟩
theorem TkB.below {p : Nat} {t : Tk} (h : TkB N mg ρ w l bs S p t ρ' w1) (hb : Below w1.heap.size w1 w2) : TkB N mg ρ w l bs S p t ρ' w2 := ⟨h.m.below hb, h.f.trans (Fr.below hb), h.b.below hb, h.z, h.lo⟩
theorem TkB.cells {p : Nat} {t : Tk} (h : TkB N mg ρ w l bs S p t ρ' w1) : w1.cell? ⟨p, 0, none⟩ = some (.int .u8 (t.kind : Int)) ∧ w1.cell? ⟨p, 1, none⟩ = some (.int .i64 (t.pos : Int)) ∧ w1.cell? ⟨p, 2, none⟩ = some (.int .i64 (t.en : Int)) ∧ w1.cell? ⟨p, 3, none⟩ = some (.int .i64 (t.bad : Int)) ∧ w1.cell? ⟨p, 4, none⟩ = some (.int .u64 (t.val : Int)) :=
  ⟨h.b.cell 0, h.b.cell 1, h.b.cell 2, h.b.cell 3, h.b.cell 4⟩
theorem TkB.gone {p : Nat} {t : Tk} (h : TkB N mg ρ w l bs S p t ρ' w1) : PGo N mg ρ w l bs S w1 := ⟨ρ', h.m, h.f⟩
theorem TkB.no {p : Nat} {t : Tk} {k : Nat × Nat} (h : TkB N mg ρ w l bs S p t ρ' w1) (hn : PNo N mg ρ' w1 l bs k w2) : PNo N mg ρ w l bs k w2 := PNo.pre' h.f hn
set_option maxRecDepth 100000 in
set_option maxHeartbeats 1000000 in
theorem nameY (h : PM N mg ρ w l bs S) (hk : S.tok.kind = 4) (s : ByteArray) : Calls Tryz.prog 110 #[.pointer (some ⟨l.p, 0, none⟩), .string s] w fun e w' => e = .returned (.tuple #[.string (S.word bs), .int .i64 (S.tok.pos : Int), .bool true]) ∧ Hid (PGo N mg ρ w l bs (S.adv bs l.n) w') := by
  have I0 := hid info_tk
  have HM := hid h
  have htk := h.ok.tk
  have hpe := htk.f (by omega)
  have hen := htk.en
  obtain ⟨_, c3, c4, _⟩ := h.cells
  obtain ⟨c5, c6, c7⟩ := h.cells'
  have hkd : (S.tok.kind : Int) = 4 := by omega
  rw [hkd] at c3
  obtain ⟨hcap, _, hcm⟩ := h.r.src.cap
  obtain ⟨b, off, ha, _, _⟩ := h.r.src.cell (k := S.tok.pos) (by omega)
  obtain ⟨wd, hwd⟩ : ∃ wd, S.word bs = wd := ⟨_, rfl⟩
  have Hwd : Hid (sub bs S.tok.pos S.tok.en = wd) := hid hwd
  rw [hwd]
  have Htk : Hid (tkC S.tok = [.int .u8 4, .int .i64 (S.tok.pos : Int), .int .i64 (S.tok.en : Int), .int .i64 (S.tok.bad : Int), .int .u64 (S.tok.val : Int)]) := hid (by unfold tkC; rw [hkd])
  have HO := hid (tkC_one S.tok)
  have Hk2 : Hid (2 ≤ S.tok.kind) := hid (by omega)
  have HN1 : Hid (Below w.heap.size w (w.alloc (.cells #[.int .u8 0, .int .i64 0, .int .i64 0, .int .i64 0, .int .u64 0] 112)) ∧ Blk (w.alloc (.cells #[.int .u8 0, .int .i64 0, .int .i64 0, .int .i64 0, .int .u64 0] 112)) w.heap.size 112 [.int .u8 0, .int .i64 0, .int .i64 0, .int .i64 0, .int .u64 0]) := hid ⟨nbel w _, Blk.new w [.int .u8 0, .int .i64 0, .int .i64 0, .int .i64 0, .int .u64 0] 112⟩
  obtain ⟨tk, htkk⟩ : ∃ tk, S.tok = tk := ⟨_, rfl⟩
  rw [htkk] at c4 c5 c6 c7 Htk HO hpe hen Hwd
  rw [htkk]
  rw [Htk.out] at HO
  clear h hk htk hkd hwd htkk
  go_enter Tryz.func110, Tryz.ntmps110
  go_upto_region 4 with (refine wpList_store_blk rfl 112 _ _ rfl w.heap.size rfl [.int .u8 4, .int .i64 (tk.pos : Int), .int .i64 (tk.en : Int), .int .i64 (tk.bad : Int), .int .u64 (tk.val : Int)] rfl HN1.out.2 rfl I0.out HO.out ?_; intro w1 HB1 HU1)
  have H1 : Hid (TkB N mg ρ w l bs S w.heap.size tk ρ w1) := hid (TkB.start HM.out (HN1.out.1.trans (HU1.out.below (Nat.le_refl _) HN1.out.1.size)) (Nat.le_refl _) (by rw [Htk.out]; exact HB1.out))
  generalize w.heap.size = p at H1 ⊢
  clear HB1 HU1 HN1 HO HM
  have HA := hid (advW H1.out.m Hk2.out)
  go_wp2_with fail
  refine HA.out.mono ?_
  rintro e w2 ⟨rfl, hg2⟩
  obtain ⟨ρ2, h2⟩ := H1.out.go hg2.out
  have H2 := hid h2
  clear h2 hg2 HA H1
  obtain ⟨k0, _⟩ := H2.out.m.cells
  rw [ha] at k0
  obtain ⟨_, k1, k2, _⟩ := H2.out.cells
  have hsl := slice_in (b := b) (off := off) (n := l.n) (c := l.c) hpe hen hcap hcm
  have hsr := H2.out.m.r.src
  rw [ha] at hsr
  have hst : ∀ m : Nat, (convert 28 9 (.slice (some ⟨b, off + tk.pos, none⟩) (tk.en - tk.pos) (l.c - tk.pos))).run Tryz.prog (w2.drewN m) = .ok (.string wd) (w2.drewN m) := fun m => by rw [← Hwd.out]; exact (hsr.below ((Drew.refl _).next m |>.below _)).str hpe hen rfl _
  have HF : Hid (PGo N mg ρ w l bs (S.adv bs l.n) w2) := hid H2.out.gone
  clear hsr c3 c4 c5 c6 c7 H2
  go_upto_region 5 with fail
  go_quiet (fail)
  have HF2 := hid (PGo.below HF.out ((Drew.refl w2).next nq |>.below _))
  generalize w2.drewN nq = w3 at HF2 ⊢
  clear hst hsl k0 k1 k2 HF
  go_wp2
  exact bodyPost_ret (v := .tuple #[.string wd, .int .i64 (tk.pos : Int), .bool true]) (by simp [results, Tryz.results110, go_sem]) rfl ⟨rfl, HF2⟩
set_option maxRecDepth 100000 in
theorem nameN (h : PM N mg ρ w l bs S) (hk : S.tok.kind ≠ 4) (s : ByteArray) (hs : s.size ≤ 100) : Calls Tryz.prog 110 #[.pointer (some ⟨l.p, 0, none⟩), .string s] w fun e w' => e = .returned (.tuple #[.string ⟨#[]⟩, .int .i64 0, .bool false]) ∧ Hid (PNo N mg ρ w l bs S.unx w') := by
  have HU := hid (unexpectedW h s (by omega))
  obtain ⟨_, c3, _⟩ := h.cells
  have d1 : ((S.tok.kind : Int) != 4) = true := by simp; omega
  generalize S.tok.kind = kd at c3 d1
  clear hk h
  go_enter Tryz.func110, Tryz.ntmps110
  go_wp2_with fail
  refine HU.out.mono ?_
  rintro e w1 ⟨rfl, H1⟩
  go_wp2
  exact bodyPost_ret (v := .tuple #[.string ⟨#[]⟩, .int .i64 0, .bool false]) (by simp [results, Tryz.results110, go_sem]) rfl ⟨rfl, H1⟩
end
end Go.Proofs.Qxb6500883aGreatDoor
