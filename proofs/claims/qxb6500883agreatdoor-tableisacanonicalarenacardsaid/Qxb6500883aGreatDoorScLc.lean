/- appendFull (written by tools/mk_sclc.py). -/
import Derived.Test.Qxb6500883aGreatDoorScLb
namespace Go.Proofs.Qxb6500883aGreatDoor
open Go.RowKit
set_option linter.unusedSimpArgs false
set_option linter.unusedVariables false
section
variable {τ τ' : Rl} {w w' w0 w1 w2 : World} {tB ga : Nat} {V V' : TV} {T T' : TS} {al : Nat → Int}
set_option maxRecDepth 100000 in
set_option maxHeartbeats 4000000 in
theorem fullSer3 (h : TRd w0 τ tB V T ga al) {id e : Nat} {x : TR} (hx : T.types[id]? = some x) (hk : x.kind = 3) (he : x.elem = (e : Int)) (hrf : RfC w0 tB T al e) : FuC w0 tB T al id x := by
  intro w ax m q bs hr hb hl
  obtain ⟨gt, qt, hC⟩ := h.ty hx
  have hlt := (List.getElem?_eq_some_iff.1 hx).1
  have hb32 : T.types.length ≤ 200000 := h.lt
  have hlen := h.ln x (List.mem_of_getElem? hx)
  obtain ⟨nt, hnt⟩ : ∃ n, T.types.length = n := ⟨_, rfl⟩
  rw [hnt] at hC hlt
  have i1 : (id : Int) < (nt : Int) := by omega
  have HC : Hid (∀ wz, Below w0.heap.size w0 wz → ∀ j, j < 12 → wz.cell? ⟨gt, id * 12 + j, none⟩ = (trC x)[j]?) := hid (fun wz hz => (hC wz hz).2)
  have c0 := (hC w hb).1
  have k0 : w.cell? ⟨gt, id * 12, none⟩ = some (.int .u8 (x.kind : Int)) := HC.out w hb 0 (by decide)
  rw [hk] at k0
  have hfl : fl T al x = [86, 101, 99, 116, 111, 114, 91] ++ rf T al e ++ [44, 32] ++ dgL x.length ++ [93] := by
    unfold fl flW
    rw [if_pos (by omega), if_neg (by omega), he, Int.toNat_natCast]
  rw [hfl] at hl ⊢
  obtain ⟨re, hre⟩ : ∃ r, rf T al e = r := ⟨_, rfl⟩
  have hrf' : ∀ (w : World) (ax : Option Addr) (m q : Nat) (bs : List UInt8), OwR rtB w0.heap.size w (.slice ax m q) bs → Below w0.heap.size w0 w → bs.length + re.length ≤ 70368744177664 → Calls Tryz.prog 52 #[.pointer (some ⟨tB, 0, none⟩), .slice ax m q, .int .i32 (e : Int)] w fun e w' => ∃ v, e = .returned v ∧ Hid (OwR rtB w0.heap.size w' v (bs ++ re) ∧ Below w0.heap.size w0 w') := by rw [← hre]; exact hrf
  have Hrf := hid hrf'
  obtain ⟨ln, hln⟩ : ∃ n, x.length = n := ⟨_, rfl⟩
  obtain ⟨dg, hdg⟩ : ∃ r, dgL ln = r := ⟨_, rfl⟩
  rw [hln] at hl hlen ⊢
  rw [hre, hdg] at hl ⊢
  have Hdg := hid hdg
  have H3 : Hid (∀ wz, Below w0.heap.size w0 wz → wz.cell? ⟨gt, id * 12 + 3, none⟩ = some (.int .i32 (e : Int)) ∧ wz.cell? ⟨gt, id * 12 + 6, none⟩ = some (.int .u64 (ln : Int))) := hid (fun wz hz => ⟨by rw [← he]; exact HC.out wz hz 3 (by decide), by rw [← hln]; exact HC.out wz hz 6 (by decide)⟩)
  have Hl := hid hl
  have HR0 := hid hr
  have HB0 := hid hb
  have HL0 : Hid (bs.length = bs.length) := hid rfl
  have hl0 : bs.length ≤ 70368744177664 := by omega
  clear h hx hk he hrf hrf' hr hb hl hC HC hnt hre hln hdg hfl hlt
  go_enter Tryz.func51, Tryz.ntmps51
  go_wp2_with (at_builtin; refine stopHere ?_)
  intro _
  refine wpList_app_s rfl _ _ HR0.out rfl rfl ⟨#[86, 101, 99, 116, 111, 114, 91]⟩ rfl (by have := Hl.out; simp only [List.length_append, List.length_cons, List.length_nil] at this; show _ + 7 ≤ _; omega) HB0.out.size ?_
  intro v1 w1 hr hkk
  have HB1 := hid (HB0.out.trans (hkk.out.below HR0.out.hi HB0.out.size))
  have HR1 : Hid (OwR rtB w0.heap.size w1 v1 (bs ++ [86, 101, 99, 116, 111, 114, 91])) := hid (by have := hr.out; simpa only [List.append_assoc, List.cons_append, List.nil_append] using this)
  obtain ⟨a1, q1, h1⟩ := HR1.out.shape
  obtain ⟨n1, hn1⟩ : ∃ k, (bs ++ [86, 101, 99, 116, 111, 114, 91]).length = k := ⟨_, rfl⟩
  have HL1 := hid hn1
  have hl1 : n1 ≤ 70368744177664 := by rw [← hn1]; have := Hl.out; simp only [List.length_append, List.length_cons, List.length_nil] at this ⊢; omega
  rw [hn1] at h1
  subst h1
  clear hn1
  clear hr hkk HR0 HB0 k0
  have k3 := (H3.out w1 HB1.out).1
  have HA := hid (Hrf.out w1 a1 n1 q1 _ HR1.out HB1.out (by have := Hl.out; simp only [List.length_append, List.length_cons, List.length_nil] at this ⊢; omega))
  go_wp2_with fail
  refine HA.out.mono ?_
  rintro e2 w2 ⟨v2, rfl, h22⟩
  have HB2 := hid h22.out.2
  have HR2 : Hid (OwR rtB w0.heap.size w2 v2 (bs ++ [86, 101, 99, 116, 111, 114, 91] ++ re)) := hid h22.out.1
  clear HA h22 HR1 HB1 k3 Hrf
  obtain ⟨a2, q2, h2⟩ := HR2.out.shape
  obtain ⟨n2, hn2⟩ : ∃ k, (bs ++ [86, 101, 99, 116, 111, 114, 91] ++ re).length = k := ⟨_, rfl⟩
  have HL2 := hid hn2
  have hl2 : n2 ≤ 70368744177664 := by rw [← hn2]; have := Hl.out; simp only [List.length_append, List.length_cons, List.length_nil] at this ⊢; omega
  rw [hn2] at h2
  subst h2
  clear hn2
  go_wp2_with (at_builtin; refine stopHere ?_)
  intro _
  refine wpList_app_s rfl _ _ HR2.out rfl rfl ⟨#[44, 32]⟩ rfl (by rw [HL2.out]; show _ + 2 ≤ _; omega) HB2.out.size ?_
  intro v3 w3 hr hkk
  have HB3 := hid (HB2.out.trans (hkk.out.below HR2.out.hi HB2.out.size))
  have HR3 : Hid (OwR rtB w0.heap.size w3 v3 (bs ++ [86, 101, 99, 116, 111, 114, 91] ++ re ++ [44, 32])) := hid (by have := hr.out; exact this)
  obtain ⟨a3, q3, h3⟩ := HR3.out.shape
  obtain ⟨n3, hn3⟩ : ∃ k, (bs ++ [86, 101, 99, 116, 111, 114, 91] ++ re ++ [44, 32]).length = k := ⟨_, rfl⟩
  have HL3 := hid hn3
  have hl3 : n3 ≤ 70368744177664 := by rw [← hn3]; have := Hl.out; simp only [List.length_append, List.length_cons, List.length_nil] at this ⊢; omega
  rw [hn3] at h3
  subst h3
  clear hn3
  clear hr hkk HR2 HB2
  have k6 := (H3.out w3 HB3.out).2
  have HA := hid (appendUintX (n0 := w0.heap.size) HR3.out HB3.out.size ln hlen (by rw [HL3.out]; omega))
  rw [Hdg.out] at HA
  go_wp2_with fail
  refine HA.out.mono ?_
  rintro e4 w4 ⟨v4, rfl, h44⟩
  have HB4 := hid (HB3.out.trans h44.out.bel)
  have HR4 : Hid (OwR rtB w0.heap.size w4 v4 (bs ++ [86, 101, 99, 116, 111, 114, 91] ++ re ++ [44, 32] ++ dg)) := hid h44.out.row
  clear HA h44 HR3 HB3 k6
  obtain ⟨a4, q4, h4⟩ := HR4.out.shape
  obtain ⟨n4, hn4⟩ : ∃ k, (bs ++ [86, 101, 99, 116, 111, 114, 91] ++ re ++ [44, 32] ++ dg).length = k := ⟨_, rfl⟩
  have HL4 := hid hn4
  have hl4 : n4 ≤ 70368744177664 := by rw [← hn4]; have := Hl.out; simp only [List.length_append, List.length_cons, List.length_nil] at this ⊢; omega
  rw [hn4] at h4
  subst h4
  clear hn4
  go_wp2_with (at_builtin; refine stopHere ?_)
  intro _
  obtain ⟨k8, hk8⟩ : ∃ k, w4.heap.size = k := ⟨_, rfl⟩
  obtain ⟨wf, hwf⟩ : ∃ wf, w4.alloc (.cells #[.int .u8 93] 5) = wf := ⟨_, rfl⟩
  have HBf : Hid (Below w4.heap.size w4 wf) := hid (by rw [← hwf]; exact nbel w4 _)
  have HNw : Hid (∀ ad, some (⟨k8, 0, none⟩ : Addr) = some ad → ∀ j u, ([(93 : UInt8)].flatMap rtB.f)[j]? = some u → wf.cell? (ad.add j) = some u) := hid (by rw [← hwf]; exact newX rtB w4 93 _ hk8.symm)
  (try simp only [hwf, hk8])
  clear hwf hk8
  have HBw := hid (HB4.out.trans (HBf.out.mono HB4.out.size))
  have HKf := hid (HR4.out.below HBf.out)
  refine wpList_app_l okB rfl _ _ HKf.out rfl [93] rfl (some ⟨k8, 0, none⟩) 1 1 rfl rfl (fun h => by cases h) HNw.out (by rw [HL4.out]; show (n4 + 1) * 1 ≤ _; omega) HBw.out.size ?_
  intro v9 w9 hr9 hk9 hg9
  obtain ⟨a9, q9, h9⟩ := hr9.out.shape
  obtain ⟨n9, hn9⟩ : ∃ k, (bs ++ [86, 101, 99, 116, 111, 114, 91] ++ re ++ [44, 32] ++ dg ++ [93]).length = k := ⟨_, rfl⟩
  rw [hn9] at h9
  subst h9
  clear hn9
  have HF : Hid (OwR rtB w0.heap.size w9 (.slice a9 n9 q9) (bs ++ ([86, 101, 99, 116, 111, 114, 91] ++ re ++ [44, 32] ++ dg ++ [93])) ∧ Below w0.heap.size w0 w9) := hid ⟨by have := hr9.out; simpa only [List.append_assoc, List.cons_append, List.nil_append] using this, HBw.out.trans (hk9.out.below HKf.out.hi HBw.out.size)⟩
  clear hr9 hk9 hg9 HKf HBw HNw HR4 HB4 HBf
  go_wp2
  go_ret
  exact ⟨_, rfl, HF⟩
set_option maxRecDepth 100000 in
set_option maxHeartbeats 4000000 in
theorem fullSer4 (h : TRd w0 τ tB V T ga al) {id e : Nat} {x : TR} (hx : T.types[id]? = some x) (hk : x.kind = 4) (he : x.elem = (e : Int)) (hrf : RfC w0 tB T al e) : FuC w0 tB T al id x := by
  intro w ax m q bs hr hb hl
  obtain ⟨gt, qt, hC⟩ := h.ty hx
  have hlt := (List.getElem?_eq_some_iff.1 hx).1
  have hb32 : T.types.length ≤ 200000 := h.lt
  have hlen := h.ln x (List.mem_of_getElem? hx)
  obtain ⟨nt, hnt⟩ : ∃ n, T.types.length = n := ⟨_, rfl⟩
  rw [hnt] at hC hlt
  have i1 : (id : Int) < (nt : Int) := by omega
  have HC : Hid (∀ wz, Below w0.heap.size w0 wz → ∀ j, j < 12 → wz.cell? ⟨gt, id * 12 + j, none⟩ = (trC x)[j]?) := hid (fun wz hz => (hC wz hz).2)
  have c0 := (hC w hb).1
  have k0 : w.cell? ⟨gt, id * 12, none⟩ = some (.int .u8 (x.kind : Int)) := HC.out w hb 0 (by decide)
  rw [hk] at k0
  have hfl : fl T al x = [76, 105, 115, 116, 91] ++ rf T al e ++ [44, 32] ++ dgL x.length ++ [93] := by
    unfold fl flW
    rw [if_pos (by omega), if_pos hk, he, Int.toNat_natCast]
  rw [hfl] at hl ⊢
  obtain ⟨re, hre⟩ : ∃ r, rf T al e = r := ⟨_, rfl⟩
  have hrf' : ∀ (w : World) (ax : Option Addr) (m q : Nat) (bs : List UInt8), OwR rtB w0.heap.size w (.slice ax m q) bs → Below w0.heap.size w0 w → bs.length + re.length ≤ 70368744177664 → Calls Tryz.prog 52 #[.pointer (some ⟨tB, 0, none⟩), .slice ax m q, .int .i32 (e : Int)] w fun e w' => ∃ v, e = .returned v ∧ Hid (OwR rtB w0.heap.size w' v (bs ++ re) ∧ Below w0.heap.size w0 w') := by rw [← hre]; exact hrf
  have Hrf := hid hrf'
  obtain ⟨ln, hln⟩ : ∃ n, x.length = n := ⟨_, rfl⟩
  obtain ⟨dg, hdg⟩ : ∃ r, dgL ln = r := ⟨_, rfl⟩
  rw [hln] at hl hlen ⊢
  rw [hre, hdg] at hl ⊢
  have Hdg := hid hdg
  have H3 : Hid (∀ wz, Below w0.heap.size w0 wz → wz.cell? ⟨gt, id * 12 + 3, none⟩ = some (.int .i32 (e : Int)) ∧ wz.cell? ⟨gt, id * 12 + 6, none⟩ = some (.int .u64 (ln : Int))) := hid (fun wz hz => ⟨by rw [← he]; exact HC.out wz hz 3 (by decide), by rw [← hln]; exact HC.out wz hz 6 (by decide)⟩)
  have Hl := hid hl
  have HR0 := hid hr
  have HB0 := hid hb
  have HL0 : Hid (bs.length = bs.length) := hid rfl
  have hl0 : bs.length ≤ 70368744177664 := by omega
  clear h hx hk he hrf hrf' hr hb hl hC HC hnt hre hln hdg hfl hlt
  go_enter Tryz.func51, Tryz.ntmps51
  go_wp2_with (at_builtin; refine stopHere ?_)
  intro _
  refine wpList_app_s rfl _ _ HR0.out rfl rfl ⟨#[76, 105, 115, 116, 91]⟩ rfl (by have := Hl.out; simp only [List.length_append, List.length_cons, List.length_nil] at this; show _ + 5 ≤ _; omega) HB0.out.size ?_
  intro v1 w1 hr hkk
  have HB1 := hid (HB0.out.trans (hkk.out.below HR0.out.hi HB0.out.size))
  have HR1 : Hid (OwR rtB w0.heap.size w1 v1 (bs ++ [76, 105, 115, 116, 91])) := hid (by have := hr.out; simpa only [List.append_assoc, List.cons_append, List.nil_append] using this)
  obtain ⟨a1, q1, h1⟩ := HR1.out.shape
  obtain ⟨n1, hn1⟩ : ∃ k, (bs ++ [76, 105, 115, 116, 91]).length = k := ⟨_, rfl⟩
  have HL1 := hid hn1
  have hl1 : n1 ≤ 70368744177664 := by rw [← hn1]; have := Hl.out; simp only [List.length_append, List.length_cons, List.length_nil] at this ⊢; omega
  rw [hn1] at h1
  subst h1
  clear hn1
  clear hr hkk HR0 HB0 k0
  have k3 := (H3.out w1 HB1.out).1
  have HA := hid (Hrf.out w1 a1 n1 q1 _ HR1.out HB1.out (by have := Hl.out; simp only [List.length_append, List.length_cons, List.length_nil] at this ⊢; omega))
  go_wp2_with fail
  refine HA.out.mono ?_
  rintro e2 w2 ⟨v2, rfl, h22⟩
  have HB2 := hid h22.out.2
  have HR2 : Hid (OwR rtB w0.heap.size w2 v2 (bs ++ [76, 105, 115, 116, 91] ++ re)) := hid h22.out.1
  clear HA h22 HR1 HB1 k3 Hrf
  obtain ⟨a2, q2, h2⟩ := HR2.out.shape
  obtain ⟨n2, hn2⟩ : ∃ k, (bs ++ [76, 105, 115, 116, 91] ++ re).length = k := ⟨_, rfl⟩
  have HL2 := hid hn2
  have hl2 : n2 ≤ 70368744177664 := by rw [← hn2]; have := Hl.out; simp only [List.length_append, List.length_cons, List.length_nil] at this ⊢; omega
  rw [hn2] at h2
  subst h2
  clear hn2
  go_wp2_with (at_builtin; refine stopHere ?_)
  intro _
  refine wpList_app_s rfl _ _ HR2.out rfl rfl ⟨#[44, 32]⟩ rfl (by rw [HL2.out]; show _ + 2 ≤ _; omega) HB2.out.size ?_
  intro v3 w3 hr hkk
  have HB3 := hid (HB2.out.trans (hkk.out.below HR2.out.hi HB2.out.size))
  have HR3 : Hid (OwR rtB w0.heap.size w3 v3 (bs ++ [76, 105, 115, 116, 91] ++ re ++ [44, 32])) := hid (by have := hr.out; exact this)
  obtain ⟨a3, q3, h3⟩ := HR3.out.shape
  obtain ⟨n3, hn3⟩ : ∃ k, (bs ++ [76, 105, 115, 116, 91] ++ re ++ [44, 32]).length = k := ⟨_, rfl⟩
  have HL3 := hid hn3
  have hl3 : n3 ≤ 70368744177664 := by rw [← hn3]; have := Hl.out; simp only [List.length_append, List.length_cons, List.length_nil] at this ⊢; omega
  rw [hn3] at h3
  subst h3
  clear hn3
  clear hr hkk HR2 HB2
  have k6 := (H3.out w3 HB3.out).2
  have HA := hid (appendUintX (n0 := w0.heap.size) HR3.out HB3.out.size ln hlen (by rw [HL3.out]; omega))
  rw [Hdg.out] at HA
  go_wp2_with fail
  refine HA.out.mono ?_
  rintro e4 w4 ⟨v4, rfl, h44⟩
  have HB4 := hid (HB3.out.trans h44.out.bel)
  have HR4 : Hid (OwR rtB w0.heap.size w4 v4 (bs ++ [76, 105, 115, 116, 91] ++ re ++ [44, 32] ++ dg)) := hid h44.out.row
  clear HA h44 HR3 HB3 k6
  obtain ⟨a4, q4, h4⟩ := HR4.out.shape
  obtain ⟨n4, hn4⟩ : ∃ k, (bs ++ [76, 105, 115, 116, 91] ++ re ++ [44, 32] ++ dg).length = k := ⟨_, rfl⟩
  have HL4 := hid hn4
  have hl4 : n4 ≤ 70368744177664 := by rw [← hn4]; have := Hl.out; simp only [List.length_append, List.length_cons, List.length_nil] at this ⊢; omega
  rw [hn4] at h4
  subst h4
  clear hn4
  go_wp2_with (at_builtin; refine stopHere ?_)
  intro _
  obtain ⟨k8, hk8⟩ : ∃ k, w4.heap.size = k := ⟨_, rfl⟩
  obtain ⟨wf, hwf⟩ : ∃ wf, w4.alloc (.cells #[.int .u8 93] 5) = wf := ⟨_, rfl⟩
  have HBf : Hid (Below w4.heap.size w4 wf) := hid (by rw [← hwf]; exact nbel w4 _)
  have HNw : Hid (∀ ad, some (⟨k8, 0, none⟩ : Addr) = some ad → ∀ j u, ([(93 : UInt8)].flatMap rtB.f)[j]? = some u → wf.cell? (ad.add j) = some u) := hid (by rw [← hwf]; exact newX rtB w4 93 _ hk8.symm)
  (try simp only [hwf, hk8])
  clear hwf hk8
  have HBw := hid (HB4.out.trans (HBf.out.mono HB4.out.size))
  have HKf := hid (HR4.out.below HBf.out)
  refine wpList_app_l okB rfl _ _ HKf.out rfl [93] rfl (some ⟨k8, 0, none⟩) 1 1 rfl rfl (fun h => by cases h) HNw.out (by rw [HL4.out]; show (n4 + 1) * 1 ≤ _; omega) HBw.out.size ?_
  intro v9 w9 hr9 hk9 hg9
  obtain ⟨a9, q9, h9⟩ := hr9.out.shape
  obtain ⟨n9, hn9⟩ : ∃ k, (bs ++ [76, 105, 115, 116, 91] ++ re ++ [44, 32] ++ dg ++ [93]).length = k := ⟨_, rfl⟩
  rw [hn9] at h9
  subst h9
  clear hn9
  have HF : Hid (OwR rtB w0.heap.size w9 (.slice a9 n9 q9) (bs ++ ([76, 105, 115, 116, 91] ++ re ++ [44, 32] ++ dg ++ [93])) ∧ Below w0.heap.size w0 w9) := hid ⟨by have := hr9.out; simpa only [List.append_assoc, List.cons_append, List.nil_append] using this, HBw.out.trans (hk9.out.below HKf.out.hi HBw.out.size)⟩
  clear hr9 hk9 hg9 HKf HBw HNw HR4 HB4 HBf
  go_wp2
  go_ret
  exact ⟨_, rfl, HF⟩
set_option maxRecDepth 100000 in
set_option maxHeartbeats 4000000 in
theorem fullBit5 (h : TRd w0 τ tB V T ga al) {id : Nat} {x : TR} (hx : T.types[id]? = some x) (hk : x.kind = 5) : FuC w0 tB T al id x := by
  intro w ax m q bs hr hb hl
  obtain ⟨gt, qt, hC⟩ := h.ty hx
  have hlt := (List.getElem?_eq_some_iff.1 hx).1
  have hb32 : T.types.length ≤ 200000 := h.lt
  have hlen := h.ln x (List.mem_of_getElem? hx)
  obtain ⟨nt, hnt⟩ : ∃ n, T.types.length = n := ⟨_, rfl⟩
  rw [hnt] at hC hlt
  have i1 : (id : Int) < (nt : Int) := by omega
  have HC : Hid (∀ wz, Below w0.heap.size w0 wz → ∀ j, j < 12 → wz.cell? ⟨gt, id * 12 + j, none⟩ = (trC x)[j]?) := hid (fun wz hz => (hC wz hz).2)
  have c0 := (hC w hb).1
  have k0 : w.cell? ⟨gt, id * 12, none⟩ = some (.int .u8 (x.kind : Int)) := HC.out w hb 0 (by decide)
  rw [hk] at k0
  have hfl : fl T al x = [66, 105, 116, 118, 101, 99, 116, 111, 114, 91] ++ dgL x.length ++ [93] := by
    unfold fl flW
    rw [if_neg (by omega), if_pos (by omega), if_neg (by omega)]
  rw [hfl] at hl ⊢
  obtain ⟨ln, hln⟩ : ∃ n, x.length = n := ⟨_, rfl⟩
  obtain ⟨dg, hdg⟩ : ∃ r, dgL ln = r := ⟨_, rfl⟩
  rw [hln] at hl hlen ⊢
  rw [hdg] at hl ⊢
  have Hdg := hid hdg
  have H3 : Hid (∀ wz, Below w0.heap.size w0 wz → wz.cell? ⟨gt, id * 12 + 6, none⟩ = some (.int .u64 (ln : Int))) := hid (fun wz hz => by rw [← hln]; exact HC.out wz hz 6 (by decide))
  have Hl := hid hl
  have HR0 := hid hr
  have HB0 := hid hb
  have HL0 : Hid (bs.length = bs.length) := hid rfl
  clear h hx hk hr hb hl hC HC hnt hln hdg hfl hlt
  go_enter Tryz.func51, Tryz.ntmps51
  go_wp2_with (at_builtin; refine stopHere ?_)
  intro _
  refine wpList_app_s rfl _ _ HR0.out rfl rfl ⟨#[66, 105, 116, 118, 101, 99, 116, 111, 114, 91]⟩ rfl (by have := Hl.out; simp only [List.length_append, List.length_cons, List.length_nil] at this; show _ + 10 ≤ _; omega) HB0.out.size ?_
  intro v1 w1 hr hkk
  have HB1 := hid (HB0.out.trans (hkk.out.below HR0.out.hi HB0.out.size))
  have HR1 : Hid (OwR rtB w0.heap.size w1 v1 (bs ++ [66, 105, 116, 118, 101, 99, 116, 111, 114, 91])) := hid (by have := hr.out; simpa only [List.append_assoc, List.cons_append, List.nil_append] using this)
  obtain ⟨a1, q1, h1⟩ := HR1.out.shape
  obtain ⟨n1, hn1⟩ : ∃ k, (bs ++ [66, 105, 116, 118, 101, 99, 116, 111, 114, 91]).length = k := ⟨_, rfl⟩
  have HL1 := hid hn1
  have hl1 : n1 ≤ 70368744177664 := by rw [← hn1]; have := Hl.out; simp only [List.length_append, List.length_cons, List.length_nil] at this ⊢; omega
  rw [hn1] at h1
  subst h1
  clear hn1
  clear hr hkk HR0 HB0 k0
  have k6 := H3.out w1 HB1.out
  have HA := hid (appendUintX (n0 := w0.heap.size) HR1.out HB1.out.size ln hlen (by rw [HL1.out]; omega))
  rw [Hdg.out] at HA
  go_wp2_with fail
  refine HA.out.mono ?_
  rintro e4 w4 ⟨v4, rfl, h44⟩
  have HB4 := hid (HB1.out.trans h44.out.bel)
  have HR4 : Hid (OwR rtB w0.heap.size w4 v4 (bs ++ [66, 105, 116, 118, 101, 99, 116, 111, 114, 91] ++ dg)) := hid h44.out.row
  clear HA h44 HR1 HB1 k6
  obtain ⟨a4, q4, h4⟩ := HR4.out.shape
  obtain ⟨n4, hn4⟩ : ∃ k, (bs ++ [66, 105, 116, 118, 101, 99, 116, 111, 114, 91] ++ dg).length = k := ⟨_, rfl⟩
  have HL4 := hid hn4
  have hl4 : n4 ≤ 70368744177664 := by rw [← hn4]; have := Hl.out; simp only [List.length_append, List.length_cons, List.length_nil] at this ⊢; omega
  rw [hn4] at h4
  subst h4
  clear hn4
  go_wp2_with (at_builtin; refine stopHere ?_)
  intro _
  obtain ⟨k8, hk8⟩ : ∃ k, w4.heap.size = k := ⟨_, rfl⟩
  obtain ⟨wf, hwf⟩ : ∃ wf, w4.alloc (.cells #[.int .u8 93] 5) = wf := ⟨_, rfl⟩
  have HBf : Hid (Below w4.heap.size w4 wf) := hid (by rw [← hwf]; exact nbel w4 _)
  have HNw : Hid (∀ ad, some (⟨k8, 0, none⟩ : Addr) = some ad → ∀ j u, ([(93 : UInt8)].flatMap rtB.f)[j]? = some u → wf.cell? (ad.add j) = some u) := hid (by rw [← hwf]; exact newX rtB w4 93 _ hk8.symm)
  (try simp only [hwf, hk8])
  clear hwf hk8
  have HBw := hid (HB4.out.trans (HBf.out.mono HB4.out.size))
  have HKf := hid (HR4.out.below HBf.out)
  refine wpList_app_l okB rfl _ _ HKf.out rfl [93] rfl (some ⟨k8, 0, none⟩) 1 1 rfl rfl (fun h => by cases h) HNw.out (by rw [HL4.out]; show (n4 + 1) * 1 ≤ _; omega) HBw.out.size ?_
  intro v9 w9 hr9 hk9 hg9
  obtain ⟨a9, q9, h9⟩ := hr9.out.shape
  obtain ⟨n9, hn9⟩ : ∃ k, (bs ++ [66, 105, 116, 118, 101, 99, 116, 111, 114, 91] ++ dg ++ [93]).length = k := ⟨_, rfl⟩
  rw [hn9] at h9
  subst h9
  clear hn9
  have HF : Hid (OwR rtB w0.heap.size w9 (.slice a9 n9 q9) (bs ++ ([66, 105, 116, 118, 101, 99, 116, 111, 114, 91] ++ dg ++ [93])) ∧ Below w0.heap.size w0 w9) := hid ⟨by have := hr9.out; simpa only [List.append_assoc, List.cons_append, List.nil_append] using this, HBw.out.trans (hk9.out.below HKf.out.hi HBw.out.size)⟩
  clear hr9 hk9 hg9 HKf HBw HNw HR4 HB4 HBf
  go_wp2
  go_ret
  exact ⟨_, rfl, HF⟩
set_option maxRecDepth 100000 in
set_option maxHeartbeats 4000000 in
theorem fullBit6 (h : TRd w0 τ tB V T ga al) {id : Nat} {x : TR} (hx : T.types[id]? = some x) (hk : x.kind = 6) : FuC w0 tB T al id x := by
  intro w ax m q bs hr hb hl
  obtain ⟨gt, qt, hC⟩ := h.ty hx
  have hlt := (List.getElem?_eq_some_iff.1 hx).1
  have hb32 : T.types.length ≤ 200000 := h.lt
  have hlen := h.ln x (List.mem_of_getElem? hx)
  obtain ⟨nt, hnt⟩ : ∃ n, T.types.length = n := ⟨_, rfl⟩
  rw [hnt] at hC hlt
  have i1 : (id : Int) < (nt : Int) := by omega
  have HC : Hid (∀ wz, Below w0.heap.size w0 wz → ∀ j, j < 12 → wz.cell? ⟨gt, id * 12 + j, none⟩ = (trC x)[j]?) := hid (fun wz hz => (hC wz hz).2)
  have c0 := (hC w hb).1
  have k0 : w.cell? ⟨gt, id * 12, none⟩ = some (.int .u8 (x.kind : Int)) := HC.out w hb 0 (by decide)
  rw [hk] at k0
  have hfl : fl T al x = [66, 105, 116, 108, 105, 115, 116, 91] ++ dgL x.length ++ [93] := by
    unfold fl flW
    rw [if_neg (by omega), if_pos (by omega), if_pos hk]
  rw [hfl] at hl ⊢
  obtain ⟨ln, hln⟩ : ∃ n, x.length = n := ⟨_, rfl⟩
  obtain ⟨dg, hdg⟩ : ∃ r, dgL ln = r := ⟨_, rfl⟩
  rw [hln] at hl hlen ⊢
  rw [hdg] at hl ⊢
  have Hdg := hid hdg
  have H3 : Hid (∀ wz, Below w0.heap.size w0 wz → wz.cell? ⟨gt, id * 12 + 6, none⟩ = some (.int .u64 (ln : Int))) := hid (fun wz hz => by rw [← hln]; exact HC.out wz hz 6 (by decide))
  have Hl := hid hl
  have HR0 := hid hr
  have HB0 := hid hb
  have HL0 : Hid (bs.length = bs.length) := hid rfl
  clear h hx hk hr hb hl hC HC hnt hln hdg hfl hlt
  go_enter Tryz.func51, Tryz.ntmps51
  go_wp2_with (at_builtin; refine stopHere ?_)
  intro _
  refine wpList_app_s rfl _ _ HR0.out rfl rfl ⟨#[66, 105, 116, 108, 105, 115, 116, 91]⟩ rfl (by have := Hl.out; simp only [List.length_append, List.length_cons, List.length_nil] at this; show _ + 8 ≤ _; omega) HB0.out.size ?_
  intro v1 w1 hr hkk
  have HB1 := hid (HB0.out.trans (hkk.out.below HR0.out.hi HB0.out.size))
  have HR1 : Hid (OwR rtB w0.heap.size w1 v1 (bs ++ [66, 105, 116, 108, 105, 115, 116, 91])) := hid (by have := hr.out; simpa only [List.append_assoc, List.cons_append, List.nil_append] using this)
  obtain ⟨a1, q1, h1⟩ := HR1.out.shape
  obtain ⟨n1, hn1⟩ : ∃ k, (bs ++ [66, 105, 116, 108, 105, 115, 116, 91]).length = k := ⟨_, rfl⟩
  have HL1 := hid hn1
  have hl1 : n1 ≤ 70368744177664 := by rw [← hn1]; have := Hl.out; simp only [List.length_append, List.length_cons, List.length_nil] at this ⊢; omega
  rw [hn1] at h1
  subst h1
  clear hn1
  clear hr hkk HR0 HB0 k0
  have k6 := H3.out w1 HB1.out
  have HA := hid (appendUintX (n0 := w0.heap.size) HR1.out HB1.out.size ln hlen (by rw [HL1.out]; omega))
  rw [Hdg.out] at HA
  go_wp2_with fail
  refine HA.out.mono ?_
  rintro e4 w4 ⟨v4, rfl, h44⟩
  have HB4 := hid (HB1.out.trans h44.out.bel)
  have HR4 : Hid (OwR rtB w0.heap.size w4 v4 (bs ++ [66, 105, 116, 108, 105, 115, 116, 91] ++ dg)) := hid h44.out.row
  clear HA h44 HR1 HB1 k6
  obtain ⟨a4, q4, h4⟩ := HR4.out.shape
  obtain ⟨n4, hn4⟩ : ∃ k, (bs ++ [66, 105, 116, 108, 105, 115, 116, 91] ++ dg).length = k := ⟨_, rfl⟩
  have HL4 := hid hn4
  have hl4 : n4 ≤ 70368744177664 := by rw [← hn4]; have := Hl.out; simp only [List.length_append, List.length_cons, List.length_nil] at this ⊢; omega
  rw [hn4] at h4
  subst h4
  clear hn4
  go_wp2_with (at_builtin; refine stopHere ?_)
  intro _
  obtain ⟨k8, hk8⟩ : ∃ k, w4.heap.size = k := ⟨_, rfl⟩
  obtain ⟨wf, hwf⟩ : ∃ wf, w4.alloc (.cells #[.int .u8 93] 5) = wf := ⟨_, rfl⟩
  have HBf : Hid (Below w4.heap.size w4 wf) := hid (by rw [← hwf]; exact nbel w4 _)
  have HNw : Hid (∀ ad, some (⟨k8, 0, none⟩ : Addr) = some ad → ∀ j u, ([(93 : UInt8)].flatMap rtB.f)[j]? = some u → wf.cell? (ad.add j) = some u) := hid (by rw [← hwf]; exact newX rtB w4 93 _ hk8.symm)
  (try simp only [hwf, hk8])
  clear hwf hk8
  have HBw := hid (HB4.out.trans (HBf.out.mono HB4.out.size))
  have HKf := hid (HR4.out.below HBf.out)
  refine wpList_app_l okB rfl _ _ HKf.out rfl [93] rfl (some ⟨k8, 0, none⟩) 1 1 rfl rfl (fun h => by cases h) HNw.out (by rw [HL4.out]; show (n4 + 1) * 1 ≤ _; omega) HBw.out.size ?_
  intro v9 w9 hr9 hk9 hg9
  obtain ⟨a9, q9, h9⟩ := hr9.out.shape
  obtain ⟨n9, hn9⟩ : ∃ k, (bs ++ [66, 105, 116, 108, 105, 115, 116, 91] ++ dg ++ [93]).length = k := ⟨_, rfl⟩
  rw [hn9] at h9
  subst h9
  clear hn9
  have HF : Hid (OwR rtB w0.heap.size w9 (.slice a9 n9 q9) (bs ++ ([66, 105, 116, 108, 105, 115, 116, 91] ++ dg ++ [93])) ∧ Below w0.heap.size w0 w9) := hid ⟨by have := hr9.out; simpa only [List.append_assoc, List.cons_append, List.nil_append] using this, HBw.out.trans (hk9.out.below HKf.out.hi HBw.out.size)⟩
  clear hr9 hk9 hg9 HKf HBw HNw HR4 HB4 HBf
  go_wp2
  go_ret
  exact ⟨_, rfl, HF⟩
end
end Go.Proofs.Qxb6500883aGreatDoor
