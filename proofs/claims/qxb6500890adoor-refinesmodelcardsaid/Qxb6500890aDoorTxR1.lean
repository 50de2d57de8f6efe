/- The player and the model's state in memory: show, write. -/
import Derived.Test.Qxb6500890aDoorTxM5
namespace Go.Proofs.Qxb6500890aDoor
open Go.RowKit
set_option linter.unusedSimpArgs false
set_option linter.unusedVariables false

/-- What a script can change. -/
structure TS where
  bs : List UInt8
  lim : Nat
  er : Er
/-- What a step shows. -/
structure OutP where
  c : Int
  f : Bool
  i : Int
  j : Int
  s : ByteArray
  list : List ByteArray
  recs : List Rec
def bsA (bs : List UInt8) : ByteArray := ⟨bs.toArray⟩
theorem bsA_size (bs : List UInt8) : (bsA bs).size = bs.length := rfl
def plC (bB : Nat) (e : Er) : List Value := [.pointer (some ⟨bB, 0, none⟩), .int .i64 e.c, .int .i64 e.l, .int .i64 e.k]
def stC (S : TS) : List Value := [.string (bsA S.bs), .int .i64 (S.lim : Int), .int .i64 S.er.c, .int .i64 S.er.l, .int .i64 S.er.k]
structure PlM (w : World) (ρ : Rl) (pB bB : Nat) (a : Option Addr) (q : Nat) (S : TS) : Prop where
  pb : Blk w pB 45 (plC bB S.er)
  rp : ρ pB = 1
  bu : Bu w ρ bB S.lim S.bs a q
  dm : ∀ g, ρ g ≠ 0 → g < w.heap.size
def plX (c : Nat) : Bool := c == 1 || c == 2 || c == 3
theorem buX_pl {c : Nat} (h : buX c = true) : plX c = true := by
  simp [buX] at h
  simp [plX]
  omega
def shO (S : TS) (c : Int) : OutP := ⟨c, false, (S.bs.length : Int), (S.lim : Int), bsA S.bs, [], []⟩
def ouV (O : OutP) (lv rv : Value) : Value := .agg (ouC O.c O.f O.i O.j O.s lv rv).toArray
theorem ou_one (c : Int) (f : Bool) (i j : Int) (s : ByteArray) (a b : Option Addr) (n q m r : Nat) : ∀ v ∈ ouC c f i j s (.slice a n q) (.slice b m r), v.oneCell' = true := by
  intro v hv
  simp [ouC] at hv
  rcases hv with rfl | rfl | rfl | rfl | rfl | rfl | rfl <;> rfl
def nilV : Value := .slice none 0 0
section
variable {w w' : World} {ρ ρ' : Rl} {pB bB mB : Nat} {a : Option Addr} {q : Nat} {S : TS} {X : Nat → Bool}
theorem PlM.fr (h : PlM w ρ pB bB a q S) (hf : Fr X ρ w ρ' w') (h1 : X 1 = false) (h2 : X 2 = false) (h3 : X 3 = false) : PlM w' ρ' pB bB a q S := ⟨hf.keep h.pb h.rp h1, by rw [hf.old _ h.pb.lt]; exact h.rp, h.bu.fr hf h2 h3, hf.dom h.dm⟩
theorem PlM.below (h : PlM w ρ pB bB a q S) (hb : Below w.heap.size w w') : PlM w' ρ pB bB a q S := h.fr (X := fun _ => false) (Fr.below hb) rfl rfl rfl
theorem PlM.cells (h : PlM w ρ pB bB a q S) : w.cell? ⟨pB, 0, none⟩ = some (.pointer (some ⟨bB, 0, none⟩)) ∧ w.cell? ⟨pB, 1, none⟩ = some (.int .i64 S.er.c) ∧ w.cell? ⟨pB, 2, none⟩ = some (.int .i64 S.er.l) ∧ w.cell? ⟨pB, 3, none⟩ = some (.int .i64 S.er.k) := ⟨h.pb.cell 0, h.pb.cell 1, h.pb.cell 2, h.pb.cell 3⟩
/-- A buffer changed by its own functions. -/
theorem PlM.buf {bs : List UInt8} {a' : Option Addr} {q' : Nat} (h : PlM w ρ pB bB a q S) (hb : Bu w' ρ' bB S.lim bs a' q') (hf : Fr buX ρ w ρ' w') : PlM w' ρ' pB bB a' q' { S with bs := bs } := ⟨hf.keep h.pb h.rp rfl, by rw [hf.old _ h.pb.lt]; exact h.rp, hb, hf.dom h.dm⟩
def ShP (w : World) (O : OutP) (e : Ending) (w' : World) : Prop := e = .returned (ouV O nilV nilV) ∧ Below w.heap.size w w'
set_option maxRecDepth 100000
set_option maxHeartbeats 2000000
theorem show_walk (h : PlM w ρ pB bB a q S) (ok : Bool) (bad : Int) : Calls Tryd.prog 27 #[.pointer (some ⟨pB, 0, none⟩), .bool ok, .int .i64 bad] w fun e w' => ShP w (shO S (if ok then 0 else bad)) e w' := by
  obtain ⟨p, hp⟩ : ∃ p, w.heap.size = p := ⟨_, rfl⟩
  have hb0 := Blk.new w (ouC 0 false 0 0 ByteArray.empty nilV nilV) 39
  rw [hp] at hb0
  have HC0 : Hid (PlM (w.alloc (.cells (ouC 0 false 0 0 ByteArray.empty nilV nilV).toArray 39)) ρ pB bB a q S ∧ Blk (w.alloc (.cells (ouC 0 false 0 0 ByteArray.empty nilV nilV).toArray 39)) p 39 (ouC 0 false 0 0 ByteArray.empty nilV nilV) ∧ Below w.heap.size w (w.alloc (.cells (ouC 0 false 0 0 ByteArray.empty nilV nilV).toArray 39))) := hid ⟨h.below (nbel _ _), hb0, nbel _ _⟩
  have e0 : (ouC 0 false 0 0 ByteArray.empty nilV nilV).toArray = #[.int .i64 0, .bool false, .int .i64 0, .int .i64 0, .string ⟨#[]⟩, .slice none 0 0, .slice none 0 0] := rfl
  rw [e0] at HC0
  clear hb0 h e0
  obtain ⟨bs, lim, er⟩ := S
  have Hp := hid hp
  go_enter Tryd.func27, Tryd.ntmps27
  go_upto_region 1 with fail
  generalize hw1 : w.alloc (Obj.cells #[.int .i64 0, .bool false, .int .i64 0, .int .i64 0, .string ⟨#[]⟩, .slice none 0 0, .slice none 0 0] 39) = w1 at HC0 ⊢
  clear hw1 hp
  obtain ⟨n, hn⟩ : ∃ n, bs.length = n := ⟨_, rfl⟩
  obtain ⟨st, hst⟩ : ∃ s, bsA bs = s := ⟨_, rfl⟩
  have HCd : Hid (PlM w1.drew ρ pB bB a q ⟨bs, lim, er⟩ ∧ Blk w1.drew p 39 (ouC 0 false 0 0 ByteArray.empty nilV nilV) ∧ Below w.heap.size w w1.drew) := hid (by
    have hd : Below w1.heap.size w1 w1.drew := Drew.below ⟨1, rfl⟩ _
    exact ⟨HC0.out.1.below hd, HC0.out.2.1.below hd, HC0.out.2.2.trans (hd.mono HC0.out.2.2.size)⟩)
  have HL1 : Hid (∀ wx, PlM wx ρ pB bB a q ⟨bs, lim, er⟩ → Calls Tryd.prog 14 #[.pointer (some ⟨bB, 0, none⟩)] wx fun e w' => e = .returned (.int .i64 (n : Int)) ∧ w' = wx) := hid (fun wx h => by
    rw [← hn]; exact len_walk h.bu)
  have HL2 : Hid (∀ wx, PlM wx ρ pB bB a q ⟨bs, lim, er⟩ → Calls Tryd.prog 13 #[.pointer (some ⟨bB, 0, none⟩)] wx fun e w' => e = .returned (.int .i64 (lim : Int)) ∧ w' = wx) := hid (fun wx h => limit_walk h.bu)
  have HL3 : Hid (∀ wx, PlM wx ρ pB bB a q ⟨bs, lim, er⟩ → Calls Tryd.prog 12 #[.pointer (some ⟨bB, 0, none⟩)] wx fun e w' => e = .returned (.string st) ∧ w' = wx) := hid (fun wx h => by
    rw [← hst]; exact string_walk h.bu)
  have Hn := hid hn
  have Hst := hid hst
  clear hn hst
  refine wp_region_alloc (C := fun wx => PlM wx ρ pB bB a q ⟨bs, lim, er⟩ ∧ Blk wx p 39 (ouC 0 false 0 0 ByteArray.empty nilV nilV) ∧ Below w.heap.size w wx) (n := 16) (B := p + 1) (t := 39) (zs := ouC 0 false 0 0 ByteArray.empty nilV nilV) rfl rfl rfl (by kernel_rfl) (by kernel_rfl) (by kernel_rfl) ?hr2 (fun _ _ h hb => ⟨h.1.below hb, h.2.1.below hb, h.2.2.trans (hb.mono h.2.2.size)⟩) (fun _ h => h.2.1.lt) HC0.out ?hx2
  case hr2 =>
    intro a w
    simp [go_sem]
    rfl
  apply Exists.intro
  refine ⟨?_, ?_⟩
  · intro X W hne hX hI
    have k0 : ∀ x, (W x).cell? ⟨pB, 0, none⟩ = some (.pointer (some ⟨bB, 0, none⟩)) := fun x => (hX x).1.cells.1
    have HX := hid hX
    clear hI hX
    dsimp only [List.take]
    repeat (go_big_quiet_step (first | (go_at_call 14; exact Calls.class_same (HL1.out _ (HX.out _).1)) | (go_at_call 13; exact Calls.class_same (HL2.out _ (HX.out _).1)) | (go_at_call 12; exact Calls.class_same (HL3.out _ (HX.out _).1))))
    exact wpQuiet_nil rfl
  · intro g wx hg hC hbl
    dsimp only [List.drop]
    have I0 := hid info_ou
    have HC1 := hid hC
    clear hC HC0 HCd
    refine wpList_store_blk rfl 39 _ _ rfl g rfl (ouC 0 false (n : Int) (lim : Int) st nilV nilV) rfl hbl rfl I0.out (ou_one _ _ _ _ _ _ _ _ _ _ _) ?_
    intro wy HBy HUy
    have HP : Hid (Blk wy p 39 (ouC 0 false 0 0 ByteArray.empty nilV nilV) ∧ Below w.heap.size w wy) := hid ⟨HC1.out.2.1.of (HUy.out.block _ HC1.out.2.1.lt (by omega)), HC1.out.2.2.trans (HUy.out.below (by have := Hp.out; omega) HC1.out.2.2.size)⟩
    clear HC1 HUy hbl
    cases ok with
    | true =>
      have k0 : wy.cell? ⟨g, 0, none⟩ = some (.int .i64 0) := HBy.out.cell 0
      have k1 : wy.cell? ⟨g, 1, none⟩ = some (.bool false) := HBy.out.cell 1
      have k2 : wy.cell? ⟨g, 2, none⟩ = some (.int .i64 (n : Int)) := HBy.out.cell 2
      have k3 : wy.cell? ⟨g, 3, none⟩ = some (.int .i64 (lim : Int)) := HBy.out.cell 3
      have k4 : wy.cell? ⟨g, 4, none⟩ = some (.string st) := HBy.out.cell 4
      have k5 : wy.cell? ⟨g, 5, none⟩ = some (.slice none 0 0) := HBy.out.cell 5
      have k6 : wy.cell? ⟨g, 6, none⟩ = some (.slice none 0 0) := HBy.out.cell 6
      go_wp2_with (refine wpList_store_blk rfl 39 _ _ rfl p rfl (ouC 0 false (n : Int) (lim : Int) st nilV nilV) rfl HP.out.1 rfl I0.out (ou_one _ _ _ _ _ _ _ _ _ _ _) ?_; intro w9 HB9 HU9)
      exact bodyPost_ret (results_blk (cs := ouC 0 false (n : Int) (lim : Int) st nilV nilV) Tryd.results27 rfl aggOu HB9.out) rfl ⟨by rw [← Hn.out, ← Hst.out]; rfl, HP.out.2.trans (HU9.out.below (by have := Hp.out; omega) HP.out.2.size)⟩
    | false =>
      have HB2 := hid (HBy.out.set 0 (.int .i64 bad))
      have HP2 : Hid (Blk (wy.setCell ⟨g, 0, none⟩ (.int .i64 bad)) p 39 (ouC 0 false 0 0 ByteArray.empty nilV nilV) ∧ Below w.heap.size w (wy.setCell ⟨g, 0, none⟩ (.int .i64 bad))) := hid (by
        have hu : Upd g wy (wy.setCell ⟨g, 0, none⟩ (.int .i64 bad)) := (Upd.refl g wy).setCell rfl _
        exact ⟨HP.out.1.of (hu.block _ HP.out.1.lt (by omega)), HP.out.2.trans (hu.below (by have := Hp.out; omega) HP.out.2.size)⟩)
      have z0 : wy.cell? ⟨g, 0, none⟩ = some (.int .i64 0) := HBy.out.cell 0
      have zf : wy.frozen? ⟨g, 0, none⟩ = false := HBy.out.frozen _
      have HNm : Hid (∀ wz, wy.setCell ⟨g, 0, none⟩ (.int .i64 bad) = wz → Blk wz g 39 (ouC bad false (n : Int) (lim : Int) st nilV nilV) ∧ Blk wz p 39 (ouC 0 false 0 0 ByteArray.empty nilV nilV) ∧ Below w.heap.size w wz) := hid (fun wz e => by subst e; exact ⟨HB2.out, HP2.out⟩)
      clear HB2 HP2 HP HBy
      go_upto_region 4 with fail
      obtain ⟨wz, hwz⟩ : ∃ wz, wy.setCell ⟨g, 0, none⟩ (.int .i64 bad) = wz := ⟨_, rfl⟩
      have HZ := hid (HNm.out wz hwz)
      simp only [hwz]
      clear hwz HNm z0 zf
      have k0 : wz.cell? ⟨g, 0, none⟩ = some (.int .i64 bad) := HZ.out.1.cell 0
      have k1 : wz.cell? ⟨g, 1, none⟩ = some (.bool false) := HZ.out.1.cell 1
      have k2 : wz.cell? ⟨g, 2, none⟩ = some (.int .i64 (n : Int)) := HZ.out.1.cell 2
      have k3 : wz.cell? ⟨g, 3, none⟩ = some (.int .i64 (lim : Int)) := HZ.out.1.cell 3
      have k4 : wz.cell? ⟨g, 4, none⟩ = some (.string st) := HZ.out.1.cell 4
      have k5 : wz.cell? ⟨g, 5, none⟩ = some (.slice none 0 0) := HZ.out.1.cell 5
      have k6 : wz.cell? ⟨g, 6, none⟩ = some (.slice none 0 0) := HZ.out.1.cell 6
      go_wp2_with (refine wpList_store_blk rfl 39 _ _ rfl p rfl (ouC bad false (n : Int) (lim : Int) st nilV nilV) rfl HZ.out.2.1 rfl I0.out (ou_one _ _ _ _ _ _ _ _ _ _ _) ?_; intro w9 HB9 HU9)
      exact bodyPost_ret (results_blk (cs := ouC bad false (n : Int) (lim : Int) st nilV nilV) Tryd.results27 rfl aggOu HB9.out) rfl ⟨by rw [← Hn.out, ← Hst.out]; rfl, HZ.out.2.2.trans (HU9.out.below (by have := Hp.out; omega) HZ.out.2.2.size)⟩
end
end Go.Proofs.Qxb6500890aDoor
