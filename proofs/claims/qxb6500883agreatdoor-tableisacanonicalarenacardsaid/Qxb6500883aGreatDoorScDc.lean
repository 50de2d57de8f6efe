/- The finder of components in memory; enter, closeComponent. -/
import Derived.Test.Qxb6500883aGreatDoorScDb
namespace Go.Proofs.Qxb6500883aGreatDoor
open Go.RowKit
set_option linter.unusedSimpArgs false
set_option linter.unusedVariables false
/-- Where the finder's blocks lie. -/
structure FL where
  gB : Nat
  gS : Nat
  sB : Nat
  gI : Nat
  gL : Nat
  gO : Nat
  gC : Nat
def sl (g n : Nat) : Value := .slice (some ⟨g, 0, none⟩) n n
def fiC (L : FL) (n nx : Nat) (vs vz vo : Value) : List Value := [.pointer (some ⟨L.gB, 0, none⟩), .slice (some ⟨L.gI, 0, none⟩) n n, .slice (some ⟨L.gL, 0, none⟩) n n, .slice (some ⟨L.gO, 0, none⟩) n n, vs, .slice (some ⟨L.gC, 0, none⟩) n n, vz, vo, .int .i32 (nx : Int)]
abbrev RwB (g n : Nat) (f : Nat → Bool) (r : Nat) (ρ : Rl) (w : World) : Prop := RwK 4 (fun x : Bool => Value.bool x) g n f r ρ w
/-- The finder in memory (roles 29 .. 39). -/
structure FM (σ : Rl) (w : World) (L : FL) (A : Gr) (va : Value) (T : TJ) (on : Nat → Bool) (vs vz vo : Value) : Prop where
  gb : Blk w L.gB 210 [.slice (some ⟨L.gS, 0, none⟩) (A.length + 1) (A.length + 1), va]
  rg : σ L.gB = 29
  gs : RwN L.gS (A.length + 1) (stA A) 31 σ w
  ga : RowX rtJ w σ 32 va A.flatten
  b : Blk w L.sB 170 (fiC L A.length T.nx vs vz vo)
  rb : σ L.sB = 30
  i : RwN L.gI A.length T.ix 33 σ w
  l : RwN L.gL A.length T.lw 34 σ w
  o : RwB L.gO A.length on 35 σ w
  c : RwN L.gC A.length T.cp 36 σ w
  s : RowX rtJ w σ 37 vs T.st
  z : RowX rtJ w σ 38 vz T.sz
  d : RowX rtJ w σ 39 vo T.od
def XF (r : Nat) : Bool := r == 30 || (decide (33 ≤ r) && decide (r ≤ 39))
/-- What a call of the finder's leaves. -/
def FQ (σ : Rl) (w : World) (L : FL) (A : Gr) (va : Value) (T : TJ) (on : Nat → Bool) (w' : World) : Prop := ∃ σ' vs vz vo, FM σ' w' L A va T on vs vz vo ∧ Fr XF σ w σ' w'
section
variable {σ σ' : Rl} {w w' w1 w2 : World} {L : FL} {A : Gr} {va : Value} {T T' : TJ} {on on' : Nat → Bool} {vs vz vo vs' vz' vo' : Value}
theorem FM.fr {X : Nat → Bool} (h : FM σ w L A va T on vs vz vo) (hf : Fr X σ w σ' w') (hX : ∀ r, 29 ≤ r → r ≤ 39 → X r = false) : FM σ' w' L A va T on vs vz vo :=
  ⟨hf.keep h.gb h.rg (hX 29 (by decide) (by decide)), by rw [hf.old _ h.gb.lt]; exact h.rg, h.gs.fr hf (hX 31 (by decide) (by decide)), h.ga.fr hf (hX 32 (by decide) (by decide)), hf.keep h.b h.rb (hX 30 (by decide) (by decide)), by rw [hf.old _ h.b.lt]; exact h.rb, h.i.fr hf (hX 33 (by decide) (by decide)), h.l.fr hf (hX 34 (by decide) (by decide)), h.o.fr hf (hX 35 (by decide) (by decide)), h.c.fr hf (hX 36 (by decide) (by decide)), h.s.fr hf (hX 37 (by decide) (by decide)), h.z.fr hf (hX 38 (by decide) (by decide)), h.d.fr hf (hX 39 (by decide) (by decide))⟩
theorem FM.below (h : FM σ w L A va T on vs vz vo) (hb : Below w.heap.size w w') : FM σ w' L A va T on vs vz vo := h.fr (X := fun _ => false) (Fr.below hb) (fun _ _ _ => rfl)
theorem FM.congr (h : FM σ w L A va T on vs vz vo) (he : ∀ v, v < A.length → on v = on' v) : FM σ w L A va T on' vs vz vo := ⟨h.gb, h.rg, h.gs, h.ga, h.b, h.rb, h.i, h.l, h.o.congr he, h.c, h.s, h.z, h.d⟩
/-- Other values of the same rows. -/
theorem FM.to (h : FM σ w L A va T on vs vz vo) (h1 : ∀ v, v < A.length → T.ix v = T'.ix v) (h2 : ∀ v, v < A.length → T.lw v = T'.lw v) (h3 : ∀ v, v < A.length → T.cp v = T'.cp v) (h4 : T.st = T'.st) (h5 : T.sz = T'.sz) (h6 : T.od = T'.od) (h7 : T.nx = T'.nx) : FM σ w L A va T' on vs vz vo :=
  ⟨h.gb, h.rg, h.gs, h.ga, by rw [← h7]; exact h.b, h.rb, h.i.congr h1, h.l.congr h2, h.o, h.c.congr h3, by rw [← h4]; exact h.s, by rw [← h5]; exact h.z, by rw [← h6]; exact h.d⟩
theorem Fr.one {X : Nat → Bool} {r : Nat} (h : Fr (fun c => c == r) σ w σ' w') (hr : X r = true) : Fr X σ w σ' w' := h.mono (fun c hc => by simp at hc; subst hc; exact hr)
theorem FM.setNx (h : FM σ w L A va T on vs vz vo) (k : Nat) : FM σ (w.setCell ⟨L.sB, 8, none⟩ (.int .i32 (k : Int))) L A va { T with nx := k } on vs vz vo ∧ Fr XF σ w σ (w.setCell ⟨L.sB, 8, none⟩ (.int .i32 (k : Int))) := by
  have hf : Fr (fun c => c == 30) σ w σ (w.setCell ⟨L.sB, 8, none⟩ (.int .i32 (k : Int))) := Fr.set _ (by show (σ L.sB == 30) = true; rw [h.rb]; rfl)
  exact ⟨⟨hf.keep h.gb h.rg rfl, h.rg, h.gs.fr hf rfl, h.ga.fr hf rfl, h.b.set 8 _, h.rb, h.i.fr hf rfl, h.l.fr hf rfl, h.o.fr hf rfl, h.c.fr hf rfl, h.s.fr hf rfl, h.z.fr hf rfl, h.d.fr hf rfl⟩, hf.one rfl⟩
theorem FM.setIx (h : FM σ w L A va T on vs vz vo) {v : Nat} (hv : v < A.length) (k : Nat) : FM σ (w.setCell ⟨L.gI, v, none⟩ (.int .i32 (k : Int))) L A va { T with ix := fup T.ix v k } on vs vz vo ∧ Fr XF σ w σ (w.setCell ⟨L.gI, v, none⟩ (.int .i32 (k : Int))) := by
  have hf : Fr (fun c => c == 33) σ w σ (w.setCell ⟨L.gI, v, none⟩ (.int .i32 (k : Int))) := Fr.set _ (by show (σ L.gI == 33) = true; rw [h.i.2]; rfl)
  exact ⟨⟨hf.keep h.gb h.rg rfl, h.rg, h.gs.fr hf rfl, h.ga.fr hf rfl, hf.keep h.b h.rb rfl, h.rb, h.i.set hv k, h.l.fr hf rfl, h.o.fr hf rfl, h.c.fr hf rfl, h.s.fr hf rfl, h.z.fr hf rfl, h.d.fr hf rfl⟩, hf.one rfl⟩
theorem FM.setLw (h : FM σ w L A va T on vs vz vo) {v : Nat} (hv : v < A.length) (k : Nat) : FM σ (w.setCell ⟨L.gL, v, none⟩ (.int .i32 (k : Int))) L A va { T with lw := fup T.lw v k } on vs vz vo ∧ Fr XF σ w σ (w.setCell ⟨L.gL, v, none⟩ (.int .i32 (k : Int))) := by
  have hf : Fr (fun c => c == 34) σ w σ (w.setCell ⟨L.gL, v, none⟩ (.int .i32 (k : Int))) := Fr.set _ (by show (σ L.gL == 34) = true; rw [h.l.2]; rfl)
  exact ⟨⟨hf.keep h.gb h.rg rfl, h.rg, h.gs.fr hf rfl, h.ga.fr hf rfl, hf.keep h.b h.rb rfl, h.rb, h.i.fr hf rfl, h.l.set hv k, h.o.fr hf rfl, h.c.fr hf rfl, h.s.fr hf rfl, h.z.fr hf rfl, h.d.fr hf rfl⟩, hf.one rfl⟩
theorem FM.setOn (h : FM σ w L A va T on vs vz vo) {v : Nat} (hv : v < A.length) (k : Bool) : FM σ (w.setCell ⟨L.gO, v, none⟩ (.bool k)) L A va T (fup on v k) vs vz vo ∧ Fr XF σ w σ (w.setCell ⟨L.gO, v, none⟩ (.bool k)) := by
  have hf : Fr (fun c => c == 35) σ w σ (w.setCell ⟨L.gO, v, none⟩ (.bool k)) := Fr.set _ (by show (σ L.gO == 35) = true; rw [h.o.2]; rfl)
  exact ⟨⟨hf.keep h.gb h.rg rfl, h.rg, h.gs.fr hf rfl, h.ga.fr hf rfl, hf.keep h.b h.rb rfl, h.rb, h.i.fr hf rfl, h.l.fr hf rfl, h.o.set hv k, h.c.fr hf rfl, h.s.fr hf rfl, h.z.fr hf rfl, h.d.fr hf rfl⟩, hf.one rfl⟩
theorem FM.setCp (h : FM σ w L A va T on vs vz vo) {v : Nat} (hv : v < A.length) (k : Nat) : FM σ (w.setCell ⟨L.gC, v, none⟩ (.int .i32 (k : Int))) L A va { T with cp := fup T.cp v k } on vs vz vo ∧ Fr XF σ w σ (w.setCell ⟨L.gC, v, none⟩ (.int .i32 (k : Int))) := by
  have hf : Fr (fun c => c == 36) σ w σ (w.setCell ⟨L.gC, v, none⟩ (.int .i32 (k : Int))) := Fr.set _ (by show (σ L.gC == 36) = true; rw [h.c.2]; rfl)
  exact ⟨⟨hf.keep h.gb h.rg rfl, h.rg, h.gs.fr hf rfl, h.ga.fr hf rfl, hf.keep h.b h.rb rfl, h.rb, h.i.fr hf rfl, h.l.fr hf rfl, h.o.fr hf rfl, h.c.set hv k, h.s.fr hf rfl, h.z.fr hf rfl, h.d.fr hf rfl⟩, hf.one rfl⟩
/-- A row has grown; its slice is stored. -/
theorem FM.appS {ys : List Nat} (h : FM σ w L A va T on vs vz vo) (hr : RowX rtJ w1 σ' 37 vs' (T.st ++ ys)) (hf : Fr (fun c => c == 37) σ w σ' w1) : FM σ' (w1.setCell ⟨L.sB, 4, none⟩ vs') L A va { T with st := T.st ++ ys } on vs' vz vo ∧ Fr XF σ w σ' (w1.setCell ⟨L.sB, 4, none⟩ vs') := by
  have b1 := hf.keep h.b h.rb rfl
  have r1 : σ' L.sB = 30 := by rw [hf.old _ h.b.lt]; exact h.rb
  have rg1 : σ' L.gB = 29 := by rw [hf.old _ h.gb.lt]; exact h.rg
  have hf2 : Fr (fun c => c == 30) σ' w1 σ' (w1.setCell ⟨L.sB, 4, none⟩ vs') := Fr.set _ (by show (σ' L.sB == 30) = true; rw [r1]; rfl)
  exact ⟨⟨hf2.keep (hf.keep h.gb h.rg rfl) rg1 rfl, rg1, (h.gs.fr hf rfl).fr hf2 rfl, (h.ga.fr hf rfl).fr hf2 rfl, b1.set 4 vs', r1, (h.i.fr hf rfl).fr hf2 rfl, (h.l.fr hf rfl).fr hf2 rfl, (h.o.fr hf rfl).fr hf2 rfl, (h.c.fr hf rfl).fr hf2 rfl, hr.fr hf2 rfl, (h.z.fr hf rfl).fr hf2 rfl, (h.d.fr hf rfl).fr hf2 rfl⟩, (hf.one rfl).trans (hf2.one rfl)⟩
theorem FM.appZ {ys : List Nat} (h : FM σ w L A va T on vs vz vo) (hr : RowX rtJ w1 σ' 38 vz' (T.sz ++ ys)) (hf : Fr (fun c => c == 38) σ w σ' w1) : FM σ' (w1.setCell ⟨L.sB, 6, none⟩ vz') L A va { T with sz := T.sz ++ ys } on vs vz' vo ∧ Fr XF σ w σ' (w1.setCell ⟨L.sB, 6, none⟩ vz') := by
  have b1 := hf.keep h.b h.rb rfl
  have r1 : σ' L.sB = 30 := by rw [hf.old _ h.b.lt]; exact h.rb
  have rg1 : σ' L.gB = 29 := by rw [hf.old _ h.gb.lt]; exact h.rg
  have hf2 : Fr (fun c => c == 30) σ' w1 σ' (w1.setCell ⟨L.sB, 6, none⟩ vz') := Fr.set _ (by show (σ' L.sB == 30) = true; rw [r1]; rfl)
  exact ⟨⟨hf2.keep (hf.keep h.gb h.rg rfl) rg1 rfl, rg1, (h.gs.fr hf rfl).fr hf2 rfl, (h.ga.fr hf rfl).fr hf2 rfl, b1.set 6 vz', r1, (h.i.fr hf rfl).fr hf2 rfl, (h.l.fr hf rfl).fr hf2 rfl, (h.o.fr hf rfl).fr hf2 rfl, (h.c.fr hf rfl).fr hf2 rfl, (h.s.fr hf rfl).fr hf2 rfl, hr.fr hf2 rfl, (h.d.fr hf rfl).fr hf2 rfl⟩, (hf.one rfl).trans (hf2.one rfl)⟩
theorem FM.appO {ys : List Nat} (h : FM σ w L A va T on vs vz vo) (hr : RowX rtJ w1 σ' 39 vo' (T.od ++ ys)) (hf : Fr (fun c => c == 39) σ w σ' w1) : FM σ' (w1.setCell ⟨L.sB, 7, none⟩ vo') L A va { T with od := T.od ++ ys } on vs vz vo' ∧ Fr XF σ w σ' (w1.setCell ⟨L.sB, 7, none⟩ vo') := by
  have b1 := hf.keep h.b h.rb rfl
  have r1 : σ' L.sB = 30 := by rw [hf.old _ h.b.lt]; exact h.rb
  have rg1 : σ' L.gB = 29 := by rw [hf.old _ h.gb.lt]; exact h.rg
  have hf2 : Fr (fun c => c == 30) σ' w1 σ' (w1.setCell ⟨L.sB, 7, none⟩ vo') := Fr.set _ (by show (σ' L.sB == 30) = true; rw [r1]; rfl)
  exact ⟨⟨hf2.keep (hf.keep h.gb h.rg rfl) rg1 rfl, rg1, (h.gs.fr hf rfl).fr hf2 rfl, (h.ga.fr hf rfl).fr hf2 rfl, b1.set 7 vo', r1, (h.i.fr hf rfl).fr hf2 rfl, (h.l.fr hf rfl).fr hf2 rfl, (h.o.fr hf rfl).fr hf2 rfl, (h.c.fr hf rfl).fr hf2 rfl, (h.s.fr hf rfl).fr hf2 rfl, (h.z.fr hf rfl).fr hf2 rfl, hr.fr hf2 rfl⟩, (hf.one rfl).trans (hf2.one rfl)⟩
/-- The stack is cut. -/
theorem FM.cutS {aS : Option Addr} {n q k : Nat} (h : FM σ w L A va T on (.slice aS n q) vz vo) (hk : k ≤ T.st.length) : FM σ (w.setCell ⟨L.sB, 4, none⟩ (.slice aS k q)) L A va { T with st := T.st.take k } on (.slice aS k q) vz vo ∧ Fr XF σ w σ (w.setCell ⟨L.sB, 4, none⟩ (.slice aS k q)) := by
  have hf : Fr (fun c => c == 30) σ w σ (w.setCell ⟨L.sB, 4, none⟩ (.slice aS k q)) := Fr.set _ (by show (σ L.sB == 30) = true; rw [h.rb]; rfl)
  exact ⟨⟨hf.keep h.gb h.rg rfl, h.rg, h.gs.fr hf rfl, h.ga.fr hf rfl, h.b.set 4 _, h.rb, h.i.fr hf rfl, h.l.fr hf rfl, h.o.fr hf rfl, h.c.fr hf rfl, (h.s.fr hf rfl).cut (fun _ => rfl) hk, h.z.fr hf rfl, h.d.fr hf rfl⟩, hf.one rfl⟩
/-- A new cell of one number. -/
theorem one_new (w : World) (d : Nat) {q : Nat} (hq : w.heap.size = q) : (∀ ad, some (⟨q, 0, none⟩ : Addr) = some ad → ∀ j u, ([d].flatMap rtJ.f)[j]? = some u → (w.alloc (.cells #[.int .i32 (d : Int)] 21)).cell? (ad.add j) = some u) ∧ Below w.heap.size w (w.alloc (.cells #[.int .i32 (d : Int)] 21)) :=
  ⟨newX rtJ w d q hq.symm, nbel w _⟩
set_option maxRecDepth 100000 in
set_option maxHeartbeats 1000000 in
theorem enterW (h : FM σ w L A va T on vs vz vo) {v : Nat} (hv : v < A.length) (hn : T.nx < 100000) (hs : T.st.length < 100000) : Calls Tryz.prog 142 #[.pointer (some ⟨L.sB, 0, none⟩), .int .i32 (v : Int)] w fun e w' => e = .returned (.tuple #[]) ∧ Hid (FQ σ w L A va (T.enter v) (fup on v true) w') := by
  obtain ⟨n, hn'⟩ : ∃ n, A.length = n := ⟨_, rfl⟩
  obtain ⟨k, hk⟩ : ∃ k, T.nx = k := ⟨_, rfl⟩
  have Hn := hid hn'
  have Hk := hid hk
  have HV := hid hv
  have hv2 : (v : Int) < (n : Int) := by omega
  obtain ⟨H1, F1⟩ := h.setNx (k + 1)
  have hcb := h.b
  rw [hn', hk] at hcb
  have y8 : w.cell? ⟨L.sB, 8, none⟩ = some (.int .i32 (k : Int)) := hcb.cell 8
  have y8f : w.frozen? ⟨L.sB, 8, none⟩ = false := hcb.frozen 8
  have hk1 : (((k + 1 : Nat)) : Int) = (k : Int) + 1 := by omega
  rw [hk1] at H1 F1
  have HH1 := hid (And.intro H1 F1)
  have hkb : k < 100000 := by omega
  clear h hcb H1 F1 hk hv
  go_enter Tryz.func142, Tryz.ntmps142
  go_upto_region 1 with fail
  generalize w.setCell ⟨L.sB, 8, none⟩ (.int .i32 ((k : Int) + 1)) = wa at HH1 ⊢
  clear y8 y8f
  have hba := HH1.out.1.b
  rw [Hn.out] at hba
  have y1 : wa.cell? ⟨L.sB, 1, none⟩ = some (.slice (some ⟨L.gI, 0, none⟩) n n) := hba.cell 1
  have y8 : wa.cell? ⟨L.sB, 8, none⟩ = some (.int .i32 ((k : Int) + 1)) := by have := hba.cell 8; rw [this]; show some (Value.int .i32 (((k + 1 : Nat)) : Int)) = _; rw [hk1]
  have yv : wa.cell? ⟨L.gI, v, none⟩ = some (.int .i32 ((T.ix v : Nat) : Int)) := HH1.out.1.i.get HV.out
  have yf : wa.frozen? ⟨L.gI, v, none⟩ = false := HH1.out.1.i.frozen v
  clear hba
  obtain ⟨X0, W, hT, hI⟩ := class_mk (fun w' => Drew wa w')
  have H0 : Hid (∃ y, wa.drew = W y) := hid (hI _ ⟨1, rfl⟩)
  have hne : Nonempty X0 := ⟨H0.out.choose⟩
  have HTT := hid hT
  have a1 : ∀ z, (W z).cell? ⟨L.sB, 1, none⟩ = some (.slice (some ⟨L.gI, 0, none⟩) n n) := fun y => by obtain ⟨m, e⟩ := hT y; rw [e]; exact y1
  have a8 : ∀ z, (W z).cell? ⟨L.sB, 8, none⟩ = some (.int .i32 ((k : Int) + 1)) := fun y => by obtain ⟨m, e⟩ := hT y; rw [e]; exact y8
  have av : ∀ z, (W z).cell? ⟨L.gI, v, none⟩ = some (.int .i32 ((T.ix v : Nat) : Int)) := fun y => by obtain ⟨m, e⟩ := hT y; rw [e]; exact yv
  have af : ∀ z, (W z).frozen? ⟨L.gI, v, none⟩ = false := fun y => by obtain ⟨m, e⟩ := hT y; rw [e]; exact yf
  clear hT hI
  refine wp_region_class_tailT W 10 (by kernel_rfl) (by kernel_rfl) (by kernel_rfl) H0.out ?_
  dsimp only [List.take, List.drop]
  repeat (go_big_quiet_step (fail))
  refine wpQuiet_nil ?_
  intro z
  have HD := hid (HTT.out z)
  have HB := hid ((HTT.out z).below wa.heap.size)
  have a1z := a1 z
  have a8z := a8 z
  have avz := av z
  have afz := af z
  generalize W z = wb at HD HB a1z a8z avz afz ⊢
  clear H0 HTT a1 a8 av af
  have HH2 : Hid (FM σ (wb.setCell ⟨L.gI, v, none⟩ (.int .i32 ((k : Int) + 1))) L A va { T with nx := k + 1, ix := fup T.ix v (k + 1) } on vs vz vo ∧ Fr XF σ w σ (wb.setCell ⟨L.gI, v, none⟩ (.int .i32 ((k : Int) + 1)))) := hid (by
    obtain ⟨h1, h2⟩ := (HH1.out.1.below HB.out).setIx HV.out (k + 1)
    rw [hk1] at h1 h2
    exact ⟨h1, (HH1.out.2.trans (Fr.below HB.out)).trans h2⟩)
  clear y1 y8 yv yf
  go_upto_region 2 with fail
  generalize wb.setCell ⟨L.gI, v, none⟩ (.int .i32 ((k : Int) + 1)) = wc at HH2 ⊢
  clear a1z a8z avz afz HD HB HH1
  have hba := HH2.out.1.b
  rw [Hn.out] at hba
  have y1 : wc.cell? ⟨L.sB, 2, none⟩ = some (.slice (some ⟨L.gL, 0, none⟩) n n) := hba.cell 2
  have y8 : wc.cell? ⟨L.sB, 8, none⟩ = some (.int .i32 ((k : Int) + 1)) := by have := hba.cell 8; rw [this]; show some (Value.int .i32 (((k + 1 : Nat)) : Int)) = _; rw [hk1]
  have yv : wc.cell? ⟨L.gL, v, none⟩ = some (.int .i32 ((T.lw v : Nat) : Int)) := HH2.out.1.l.get HV.out
  have yf : wc.frozen? ⟨L.gL, v, none⟩ = false := HH2.out.1.l.frozen v
  clear hba
  obtain ⟨X0, W, hT, hI⟩ := class_mk (fun w' => Drew wc w')
  have H0 : Hid (∃ y, wc.drew = W y) := hid (hI _ ⟨1, rfl⟩)
  have hne : Nonempty X0 := ⟨H0.out.choose⟩
  have HTT := hid hT
  have a1 : ∀ z, (W z).cell? ⟨L.sB, 2, none⟩ = some (.slice (some ⟨L.gL, 0, none⟩) n n) := fun y => by obtain ⟨m, e⟩ := hT y; rw [e]; exact y1
  have a8 : ∀ z, (W z).cell? ⟨L.sB, 8, none⟩ = some (.int .i32 ((k : Int) + 1)) := fun y => by obtain ⟨m, e⟩ := hT y; rw [e]; exact y8
  have av : ∀ z, (W z).cell? ⟨L.gL, v, none⟩ = some (.int .i32 ((T.lw v : Nat) : Int)) := fun y => by obtain ⟨m, e⟩ := hT y; rw [e]; exact yv
  have af : ∀ z, (W z).frozen? ⟨L.gL, v, none⟩ = false := fun y => by obtain ⟨m, e⟩ := hT y; rw [e]; exact yf
  clear hT hI
  refine wp_region_class_tailT W 10 (by kernel_rfl) (by kernel_rfl) (by kernel_rfl) H0.out ?_
  dsimp only [List.take, List.drop]
  repeat (go_big_quiet_step (fail))
  refine wpQuiet_nil ?_
  intro z
  have HD := hid (HTT.out z)
  have HB := hid ((HTT.out z).below wc.heap.size)
  have a1z := a1 z
  have a8z := a8 z
  have avz := av z
  have afz := af z
  generalize W z = wd at HD HB a1z a8z avz afz ⊢
  clear H0 HTT a1 a8 av af
  have HH3 : Hid (FM σ (wd.setCell ⟨L.gL, v, none⟩ (.int .i32 ((k : Int) + 1))) L A va { T with nx := k + 1, ix := fup T.ix v (k + 1), lw := fup T.lw v (k + 1) } on vs vz vo ∧ Fr XF σ w σ (wd.setCell ⟨L.gL, v, none⟩ (.int .i32 ((k : Int) + 1)))) := hid (by
    obtain ⟨h1, h2⟩ := (HH2.out.1.below HB.out).setLw HV.out (k + 1)
    rw [hk1] at h1 h2
    exact ⟨h1, (HH2.out.2.trans (Fr.below HB.out)).trans h2⟩)
  clear y1 y8 yv yf
  go_upto_region 3 with fail
  generalize wd.setCell ⟨L.gL, v, none⟩ (.int .i32 ((k : Int) + 1)) = we at HH3 ⊢
  clear a1z a8z avz afz HD HB HH2
  obtain ⟨aS, qs, hvs⟩ := HH3.out.1.s.shape
  subst hvs
  obtain ⟨ns, hns⟩ : ∃ k, T.st.length = k := ⟨_, rfl⟩
  have Hns := hid hns
  have hba := HH3.out.1.b
  have y4 : we.cell? ⟨L.sB, 4, none⟩ = some (.slice aS ns qs) := by rw [← hns]; exact hba.cell 4
  clear hba
  have hns2 : ns < 100000 := by omega
  obtain ⟨qq, hqq⟩ : ∃ q, we.heap.size = q := ⟨_, rfl⟩
  obtain ⟨wf, hwf⟩ : ∃ x, we.alloc (.cells #[.int .i32 (v : Int)] 21) = x := ⟨_, rfl⟩
  have HN := hid (one_new we v hqq)
  rw [hwf] at HN
  clear hns hs
  go_wp2_with (at_builtin; refine stopHere ?_)
  intro _
  (try simp only [hqq, hwf])
  clear hqq hwf
  have HHf := hid (HH3.out.1.below HN.out.2)
  have hrc : RowX rtJ wf σ 37 (.slice aS ns qs) T.st := by rw [← Hns.out]; exact HHf.out.s
  refine wpList_app_x okJ rfl _ _ hrc rfl [v] rfl (some ⟨qq, 0, none⟩) 1 1 rfl rfl (fun h => by cases h) HN.out.1 (by rw [Hns.out]; show (ns + 1) * 4 ≤ _; omega) ?_
  intro v8 w8 σ8 hr8 hf8 _ _
  obtain ⟨a8, q8, h8⟩ := hr8.out.shape
  rw [List.length_append, List.length_singleton, Hns.out] at h8
  subst h8
  have hb8 := hf8.out.keep HHf.out.b HHf.out.rb rfl
  rw [Hns.out] at hb8
  have x4 : w8.cell? ⟨L.sB, 4, none⟩ = some (.slice aS ns qs) := hb8.cell 4
  have x4f : w8.frozen? ⟨L.sB, 4, none⟩ = false := hb8.frozen 4
  have HH4 : Hid (FM σ8 (w8.setCell ⟨L.sB, 4, none⟩ (.slice a8 (ns + 1) q8)) L A va { T with nx := k + 1, ix := fup T.ix v (k + 1), lw := fup T.lw v (k + 1), st := T.st ++ [v] } on (.slice a8 (ns + 1) q8) vz vo ∧ Fr XF σ w σ8 (w8.setCell ⟨L.sB, 4, none⟩ (.slice a8 (ns + 1) q8))) := hid (by
    obtain ⟨h1, h2⟩ := HHf.out.appS (vs' := .slice a8 (ns + 1) q8) hr8.out hf8.out
    exact ⟨h1, (HH3.out.2.trans (Fr.below HN.out.2)).trans h2⟩)
  clear hr8 hf8 hrc HHf HN hb8 y4
  go_upto_region 4 with fail
  generalize w8.setCell ⟨L.sB, 4, none⟩ (.slice a8 (ns + 1) q8) = w9 at HH4 ⊢
  have hba := HH4.out.1.b
  rw [Hn.out] at hba
  have z3 : w9.cell? ⟨L.sB, 3, none⟩ = some (.slice (some ⟨L.gO, 0, none⟩) n n) := hba.cell 3
  have zv : w9.cell? ⟨L.gO, v, none⟩ = some (.bool (on v)) := HH4.out.1.o.get HV.out
  have zf : w9.frozen? ⟨L.gO, v, none⟩ = false := HH4.out.1.o.frozen v
  have HF : Hid (FQ σ w L A va (T.enter v) (fup on v true) (w9.setCell ⟨L.gO, v, none⟩ (.bool true))) := hid (by
    obtain ⟨h1, h2⟩ := HH4.out.1.setOn HV.out true
    refine ⟨σ8, .slice a8 (ns + 1) q8, vz, vo, ?_, HH4.out.2.trans h2⟩
    unfold TJ.enter
    rw [Hk.out]
    exact h1)
  clear hba x4 x4f HH4 HH3
  go_wp2
  exact bodyPost_end (v := .tuple #[]) (by simp [results, Tryz.results142, go_sem]) rfl ⟨rfl, HF⟩
end
end Go.Proofs.Qxb6500883aGreatDoor
