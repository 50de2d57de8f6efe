/- seal, walked. -/
import Derived.Test.Qxb6500883aGreatDoorScNb
namespace Go.Proofs.Qxb6500883aGreatDoor
open Go.RowKit
set_option linter.unusedSimpArgs false
set_option linter.unusedVariables false
section
variable {w w' w1 : World} {τ : Rl} {tB : Nat} {V : TV} {T : TS} {f : FK → Option Value}
set_option maxRecDepth 100000 in
set_option maxHeartbeats 8000000 in
theorem sealW (h : TbM τ w tB V T) (hd : ∀ g, τ g ≠ 0 → g < w.heap.size) (h8 : 8 ≤ T.types.length) (hk : ∀ (i : Nat) (x : TR), T.types[i]? = some x → x.kind = 7 → x.lo < x.hi ∧ x.hi ≤ T.flds.length) (hlt : T.types.length ≤ 200000) (hl1 : T.flds.length ≤ 200000) :
    Calls Tryz.prog 63 #[.pointer (some ⟨tB, 0, none⟩)] w fun e w' => e = .returned (.tuple #[]) ∧ Hid (∃ mf, SlS w τ tB V T mf (sealT T T.types.length) w') := by
  obtain ⟨nt, hnt⟩ : ∃ n, T.types.length = n := ⟨_, rfl⟩
  obtain ⟨mf, hmf⟩ : ∃ n, w.heap.size = n := ⟨_, rfl⟩
  obtain ⟨gt, qt, hvt⟩ : ∃ gt qt, V.t = .slice (some ⟨gt, 0, none⟩) nt qt := by
    obtain ⟨x, hx⟩ : ∃ x, T.types[0]? = some x := ⟨_, List.getElem?_eq_getElem (by omega)⟩
    obtain ⟨gt, q, hv, _⟩ := h.ty hx
    exact ⟨gt, q, by rw [hv, hnt]⟩
  obtain ⟨aF, qF, hUF⟩ := h.f.shape
  obtain ⟨nf, hnf⟩ : ∃ n, T.flds.length = n := ⟨_, rfl⟩
  rw [hnf] at hUF
  have HS := hid (SlS.start h hmf hd)
  have b1 := h.b.set 7 (.map none)
  have b2 := b1.set 8 (.map none)
  have b3 := b2.below (nbel _ (.map #[] 0))
  have c7 : w.cell? ⟨tB, 7, none⟩ = some V.sh := h.b.cell 7
  have z7 : w.frozen? ⟨tB, 7, none⟩ = false := h.b.frozen 7
  have c8 : (w.setCell ⟨tB, 7, none⟩ (.map none)).cell? ⟨tB, 8, none⟩ = some V.un := b1.cell 8
  have z8 : (w.setCell ⟨tB, 7, none⟩ (.map none)).frozen? ⟨tB, 8, none⟩ = false := b1.frozen 8
  have hs : ((w.setCell ⟨tB, 7, none⟩ (.map none)).setCell ⟨tB, 8, none⟩ (.map none)).heap.size = mf := by rw [← hmf]; simp
  have c1 : ((w.setCell ⟨tB, 7, none⟩ (.map none)).setCell ⟨tB, 8, none⟩ (.map none)).cell? ⟨tB, 1, none⟩ = some (.slice aF nf qF) := by rw [← hUF]; exact b2.cell 1
  have hmk := run_makeMapN (t := 90) Tryz.underlying90 nf ((w.setCell ⟨tB, 7, none⟩ (.map none)).setCell ⟨tB, 8, none⟩ (.map none))
  rw [hs] at hmk
  have c5 : (((w.setCell ⟨tB, 7, none⟩ (.map none)).setCell ⟨tB, 8, none⟩ (.map none)).alloc (.map #[] 0)).cell? ⟨tB, 5, none⟩ = some V.byF := b3.cell 5
  have z5 : (((w.setCell ⟨tB, 7, none⟩ (.map none)).setCell ⟨tB, 8, none⟩ (.map none)).alloc (.map #[] 0)).frozen? ⟨tB, 5, none⟩ = false := b3.frozen 5
  have H0 : Hid (∀ (f : FK → Option Value) wz, SlS w τ tB V T mf f wz → wz.cell? ⟨tB, 0, none⟩ = some (.slice (some ⟨gt, 0, none⟩) nt qt) ∧ wz.cell? ⟨tB, 1, none⟩ = some (.slice aF nf qF) ∧ wz.cell? ⟨tB, 5, none⟩ = some (.map (some mf))) := hid (fun f wz hz => ⟨by rw [← hvt]; exact hz.tb.b.cell 0, by rw [← hUF]; exact hz.tb.b.cell 1, hz.tb.b.cell 5⟩)
  have H := hid h
  have Hk := hid hk
  have Hnt := hid hnt
  have Hnf := hid hnf
  have Hvt := hid hvt
  have HUF := hid hUF
  rw [hnt] at hlt
  rw [hnf] at hl1
  clear h hd hk h8 hnt hmf hvt hUF hnf b1 b2 b3
  go_enter Tryz.func63, Tryz.ntmps63
  go_upto_region 1 with fail
  clear c7 z7 c8 z8
  generalize ((w.setCell ⟨tB, 7, none⟩ (.map none)).setCell ⟨tB, 8, none⟩ (.map none)) = wA at HS hs c1 hmk c5 z5 ⊢
  go_upto_region 2 with fail
  clear c1 hmk c5 z5 hs
  generalize ((wA.alloc (.map #[] 0)).setCell ⟨tB, 5, none⟩ (.map (some mf))) = wB at HS ⊢
  obtain ⟨c0, _, _⟩ := H0.out _ wB HS.out
  go_upto_region 3 with fail
  clear c0
  go_loopw [26] (fun t wr => ∃ (i : Nat), t = .int .i64 (i : Int) ∧ i ≤ nt ∧ Hid (SlS w τ tB V T mf (sealT T i) wr)) (fun t _ => nt - (intOf t).toNat)
  case atStart => exact ⟨0, rfl, Nat.zero_le _, HS⟩
  case round =>
  obtain ⟨i, rfl, hi0, HI⟩ := hrel
  clear HS
  by_cases hin : i < nt
  rotate_left
  · have d1 : decide ((i : Int) < (nt : Int)) = false := decide_eq_false (by omega)
    have HQ : Hid (∃ mf, SlS w τ tB V T mf (sealT T T.types.length) wr) := hid ⟨mf, by
      have : T.types.length = i := by rw [Hnt.out]; omega
      rw [this]; exact HI.out⟩
    clear HI
    go_wp2
    exact bodyPost_end (v := .tuple #[]) (by simp [results, Tryz.results63, go_sem]) rfl ⟨rfl, HQ⟩
  have d1 : decide ((i : Int) < (nt : Int)) = true := decide_eq_true (by omega)
  have i1 : (i : Int) < (nt : Int) := by omega
  have ew : IntKind.i32.wrap (i : Int) = (i : Int) := by rw [IntKind.wrap_i32]; omega
  obtain ⟨x, hx⟩ : ∃ x, T.types[i]? = some x := ⟨_, List.getElem?_eq_getElem (by rw [Hnt.out]; exact hin)⟩
  obtain ⟨c0, c1, _⟩ := H0.out _ wr HI.out
  obtain ⟨gt2, qt2, hv2, _, _, hc⟩ := HI.out.tb.ty hx
  obtain rfl : gt2 = gt := by
    have : V.t = .slice (some ⟨gt2, 0, none⟩) T.types.length qt2 := hv2
    rw [Hvt.out] at this
    injection this with e1
    injection e1 with e1
    injection e1 with e1
    exact e1.symm
  have k0 : wr.cell? ⟨gt2, i * 12, none⟩ = some (.int .u8 (x.kind : Int)) := hc 0 (by decide)
  have k4 : wr.cell? ⟨gt2, i * 12 + 4, none⟩ = some (.int .i32 (x.lo : Int)) := hc 4 (by decide)
  have k5 : wr.cell? ⟨gt2, i * 12 + 5, none⟩ = some (.int .i32 (x.hi : Int)) := hc 5 (by decide)
  have Hx := hid hx
  clear hc hv2 hx
  by_cases hk7 : x.kind = 7
  rotate_left
  · have t1 : ((x.kind : Int) != 7) = true := by simp; omega
    have HE : Hid (SlS w τ tB V T mf (sealT T (i + 1)) wr) := hid (by rw [sealT_skip Hx.out hk7]; exact HI.out)
    clear HI k4 k5 c1 hk7
    go_wp2
    exact ⟨⟨i + 1, by go_num, by omega, HE⟩, by simp [intOf]; omega⟩
  have t1 : ((x.kind : Int) != 7) = false := by simp; omega
  obtain ⟨hlo, hhi⟩ := Hk.out i x Hx.out hk7
  obtain ⟨gf, nF, qF2, qx, fo, hUF2, hgf, hsl, hcl⟩ := H.out.fldR hlo hhi
  have hrole : τ gf = 52 := H.out.f.role gf (by rw [hUF2]; rfl)
  have esl : Value.slice aF nf qF = .slice (some ⟨gf, 0, none⟩) nF qF2 := by rw [← HUF.out, hUF2]
  rw [← esl] at hsl
  have hcl0 := hcl w (Below.refl _ _)
  have Hcl : Hid (∀ (f : FK → Option Value) wz, SlS w τ tB V T mf f wz → ∀ (j : Nat) (fd : FD), (flT T x)[j]? = some fd → wz.cell? ⟨gf, fo + j * 2, none⟩ = some (.string fd.name) ∧ wz.cell? ⟨gf, fo + j * 2 + 1, none⟩ = some (.int .i32 (fd.typ : Int))) := hid (fun f wz hz j fd hj => by
    have hb := hz.fr.blk gf hgf (by show (τ gf == 50) = false; rw [hrole]; rfl)
    have hc := hcl0 j fd hj
    rw [keepCell _ hb, keepCell _ hb]
    exact hc)
  obtain ⟨lo, hlo1⟩ : ∃ a, x.lo = a := ⟨_, rfl⟩
  obtain ⟨hi, hhi1⟩ : ∃ a, x.hi = a := ⟨_, rfl⟩
  obtain ⟨m, hm⟩ : ∃ m, hi - lo = m := ⟨_, rfl⟩
  rw [hlo1, hhi1, hm] at hsl
  rw [hlo1] at k4
  rw [hhi1] at k5
  have hol : (flT T x).length = m := by unfold flT; rw [List.length_take, List.length_drop]; omega
  have Hcon := hid (sealT_con Hx.out hk7)
  obtain ⟨fs, hfs⟩ : ∃ l, flT T x = l := ⟨_, rfl⟩
  rw [hfs] at hol Hcl Hcon
  have Hol := hid hol
  have hmb : m ≤ 200000 := by have := Hnf.out; omega
  clear hol hfs hcl hcl0 hrole esl hUF2 hlo hhi hlo1 hhi1 hm hgf hk7
  go_upto_region 7 with fail
  obtain ⟨X0, W, hT, hI⟩ := class_mk (fun w' => Drew wr w')
  have H0 : Hid (∃ y, wr.drew = W y) := hid (hI _ ⟨1, rfl⟩)
  have hne : Nonempty X0 := ⟨H0.out.choose⟩
  have HTT := hid hT
  have a1 : ∀ z, (W z).cell? ⟨tB, 1, none⟩ = some (.slice aF nf qF) := fun y => by obtain ⟨m, e⟩ := hT y; rw [e]; exact c1
  have a4 : ∀ z, (W z).cell? ⟨gt2, i * 12 + 4, none⟩ = some (.int .i32 (lo : Int)) := fun y => by obtain ⟨m, e⟩ := hT y; rw [e]; exact k4
  have a5 : ∀ z, (W z).cell? ⟨gt2, i * 12 + 5, none⟩ = some (.int .i32 (hi : Int)) := fun y => by obtain ⟨m, e⟩ := hT y; rw [e]; exact k5
  clear hT hI
  refine wp_region_class W (by kernel_rfl) (by kernel_rfl) H0.out ?_
  repeat (go_big_quiet_step (fail))
  refine wpQuiet_nil ?_
  intro z
  have HD := hid (HTT.out z)
  have HB := hid ((HTT.out z).below wr.heap.size)
  have a1z := a1 z
  have a4z := a4 z
  have a5z := a5 z
  generalize W z = wd at HD HB a1z a4z a5z ⊢
  clear H0 HTT a1 a4 a5
  have HS1 : Hid (SlS w τ tB V T mf (sealF i 0 (fs.take 0) (sealT T i)) wd) := hid (by rw [List.take_zero]; exact HI.out.below HB.out)
  clear HD HB HI a1z a4z a5z k0 k4 k5 c0 c1 hsl t1
  go_upto_region 8 with fail
  go_loopw [54] (fun t wr => ∃ (j : Nat), t = .int .i64 (j : Int) ∧ j ≤ m ∧ Hid (SlS w τ tB V T mf (sealF i 0 (fs.take j) (sealT T i)) wr)) (fun t _ => m - (intOf t).toNat)
  case atStart => exact ⟨0, rfl, Nat.zero_le _, HS1⟩
  case round =>
  obtain ⟨j, rfl, hj, HJ⟩ := hrel
  clear HS1
  by_cases hjn : j < m
  rotate_left
  · have d2 : decide ((j : Int) < (m : Int)) = false := decide_eq_false (by omega)
    have HE : Hid (SlS w τ tB V T mf (sealT T (i + 1)) wr) := hid (by
      have := HJ.out
      rw [List.take_of_length_le (by rw [Hol.out]; omega)] at this
      rw [Hcon.out]; exact this)
    clear HJ
    go_wp2
    exact ⟨⟨i + 1, by go_num, by omega, HE⟩, by simp [intOf]; omega⟩
  have d2 : decide ((j : Int) < (m : Int)) = true := decide_eq_true (by omega)
  have i2 : (j : Int) < (m : Int) := by omega
  have ew2 : IntKind.i32.wrap (j : Int) = (j : Int) := by rw [IntKind.wrap_i32]; omega
  obtain ⟨fd, hf⟩ : ∃ f, fs[j]? = some f := ⟨_, List.getElem?_eq_getElem (by rw [Hol.out]; exact hjn)⟩
  obtain ⟨f0, f1⟩ := Hcl.out _ wr HJ.out j fd hf
  have htk : fs.take (j + 1) = fs.take j ++ [fd] := by rw [List.take_add_one, hf]; rfl
  have Hst : Hid (sealF i 0 (fs.take (j + 1)) (sealT T i) = gup (sealF i 0 (fs.take j) (sealT T i)) ⟨i, fd.name⟩ (some (.int .i32 (j : Int)))) := hid (by
    rw [htk, sealF_snoc, List.length_take, Hol.out, Nat.zero_add, Nat.min_eq_left (by omega)])
  obtain ⟨nm, hnm⟩ : ∃ a, fd.name = a := ⟨_, rfl⟩
  obtain ⟨o, ho⟩ : ∃ a, fd.typ = a := ⟨_, rfl⟩
  rw [hnm] at f0 Hst
  rw [ho] at f1
  obtain ⟨q9, hq9⟩ : ∃ q, wr.heap.size = q := ⟨_, rfl⟩
  have hbn := Blk.new wr [.string ⟨#[]⟩, .int .i32 0] 63
  rw [hq9] at hbn
  have HBn := hid hbn
  have Hone : Hid (∀ u ∈ fdC ⟨nm, o⟩, u.oneCell' = true) := hid (okFd.one ⟨nm, o⟩)
  have Hinf : Hid ((Tryz.prog.info? 63).map (·.size) = some 2) := hid (by kernel_rfl)
  clear hbn htk hf hnm ho
  go_upto_region 10 with (refine wpList_store_blk rfl 63 _ _ rfl q9 (by simp [Act.eval, hq9]) (fdC ⟨nm, o⟩) rfl HBn.out rfl Hinf.out Hone.out ?_; intro w6 HB6 HU6)
  (try simp only [Act.put])
  have HS6 := hid (HJ.out.below (Below.updN (nbel wr (.cells #[.string ⟨#[]⟩, .int .i32 0] 63)) HU6.out (by omega) (nbel wr (.cells #[.string ⟨#[]⟩, .int .i32 0] 63)).size))
  have g0 : w6.cell? ⟨q9, 0, none⟩ = some (.string nm) := HB6.out.cell 0
  have g5 : w6.cell? ⟨tB, 5, none⟩ = some (.map (some mf)) := (H0.out _ w6 HS6.out).2.2
  clear HJ HBn HU6 HB6 f0 f1 Hone Hinf hq9
  obtain ⟨X0, W, hT, hI⟩ := class_mk (fun w' => Drew w6 w')
  have H0 : Hid (∃ y, w6.drew = W y) := hid (hI _ ⟨1, rfl⟩)
  have hne : Nonempty X0 := ⟨H0.out.choose⟩
  have HTT := hid hT
  have a0 : ∀ z, (W z).cell? ⟨q9, 0, none⟩ = some (.string nm) := fun y => by obtain ⟨m, e⟩ := hT y; rw [e]; exact g0
  have a5 : ∀ z, (W z).cell? ⟨tB, 5, none⟩ = some (.map (some mf)) := fun y => by obtain ⟨m, e⟩ := hT y; rw [e]; exact g5
  clear hT hI
  refine wp_region_class_tailT W 11 (by kernel_rfl) (by kernel_rfl) (by kernel_rfl) H0.out ?_
  dsimp only [List.take, List.drop]
  repeat (go_big_quiet_step (fail))
  refine wpQuiet_nil ?_
  intro z
  have HD := hid (HTT.out z)
  have HB := hid ((HTT.out z).below w6.heap.size)
  have a0z := a0 z
  have a5z := a5 z
  generalize W z = w7 at HD HB a0z a5z ⊢
  clear H0 HTT a0 a5
  obtain ⟨w8, hput, hS8⟩ := (HS6.out.below HB.out).put ⟨i, nm⟩ (.int .i32 (j : Int))
  have hput : (Instr.mapUpdate 90 (.map (some mf)) (.agg #[.int .i32 (i : Int), .string nm]) (.int .i32 (j : Int))).run Tryz.prog w7 = .ok () w8 := hput
  have HE : Hid (SlS w τ tB V T mf (sealF i 0 (fs.take (j + 1)) (sealT T i)) w8) := hid (by rw [Hst.out]; exact hS8)
  clear HS6 hS8 Hst HB HD a0z a5z g0 g5
  go_wp2
  exact ⟨⟨j + 1, by go_num, by omega, HE⟩, by simp [intOf]; omega⟩
end
end Go.Proofs.Qxb6500883aGreatDoor
