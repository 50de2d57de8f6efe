/- appendFull of a union; all types; TypeString (written by tools/mk_scld.py). -/
import Derived.Test.Qxb6500883aGreatDoorScLc
namespace Go.Proofs.Qxb6500883aGreatDoor
open Go.RowKit
set_option linter.unusedSimpArgs false
set_option linter.unusedVariables false
theorem jn_step {r : Nat → List UInt8} {os : List Nat} {k o : Nat} (h : os[k]? = some o) : jnL r (os.take (k + 1)) = jnL r (os.take k) ++ ((if k = 0 then [] else [44, 32]) ++ r o) := by
  have hlt := (List.getElem?_eq_some_iff.1 h).1
  rw [List.take_add_one, h]
  show jnL r (os.take k ++ [o]) = _
  rw [jnL_snoc, List.length_take, Nat.min_eq_left (by omega)]
theorem jn_mono {r : Nat → List UInt8} {os : List Nat} : ∀ d k, k + d ≤ os.length → (jnL r (os.take k)).length ≤ (jnL r (os.take (k + d))).length
  | 0, k, _ => Nat.le_refl _
  | d + 1, k, h => by
    have h1 := jn_mono (r := r) (os := os) d k (by omega)
    obtain ⟨o, ho⟩ : ∃ o, os[k + d]? = some o := ⟨_, List.getElem?_eq_getElem (by omega)⟩
    have h2 := jn_step (r := r) ho
    have e : k + (d + 1) = k + d + 1 := by omega
    rw [e, h2, List.length_append]
    omega
theorem jn_le {r : Nat → List UInt8} {os : List Nat} {k : Nat} (h : k ≤ os.length) : (jnL r (os.take k)).length ≤ (jnL r os).length := by
  have h1 := jn_mono (r := r) (os := os) (os.length - k) k (by omega)
  have e : k + (os.length - k) = os.length := by omega
  rw [e, List.take_length] at h1
  exact h1
section
variable {τ τ' : Rl} {w w' w0 w1 w2 : World} {tB ga : Nat} {V V' : TV} {T T' : TS} {al : Nat → Int}
set_option maxRecDepth 100000 in
set_option maxHeartbeats 4000000 in
theorem fullUni (h : TRd w0 τ tB V T ga al) {id : Nat} {x : TR} (hx : T.types[id]? = some x) (hk : x.kind = 8) (h2 : x.lo < x.hi) (h3 : x.hi ≤ T.opts.length) (hrf : ∀ o ∈ opT T x, RfC w0 tB T al o) : FuC w0 tB T al id x := by
  intro w ax m q bs hr hb hl
  obtain ⟨gt, qt, hC⟩ := h.ty hx
  have hlt := (List.getElem?_eq_some_iff.1 hx).1
  have hb32 : T.types.length ≤ 200000 := h.lt
  have hlen := h.ln x (List.mem_of_getElem? hx)
  obtain ⟨nt, hnt⟩ : ∃ n, T.types.length = n := ⟨_, rfl⟩
  rw [hnt] at hC hlt
  have i1 : (id : Int) < (nt : Int) := by omega
  have HC : Hid (∀ wz, Below w0.heap.size w0 wz → ∀ j, j < 12 → wz.cell? ⟨gt, id * 12 + j, none⟩ = (trC x)[j]?) := hid (fun wz hz => (hC wz hz).2)
  have c0 := (hC w hb).1
  have k0 : w.cell? ⟨gt, id * 12, none⟩ = some (.int .u8 (x.kind : Int)) := HC.out w hb 0 (by decide)
  rw [hk] at k0
  have hfl : fl T al x = [85, 110, 105, 111, 110, 91] ++ jnL (rf T al) (opT T x) ++ [93] := by
    unfold fl flW
    rw [if_neg (by omega), if_neg (by omega), if_pos hk]
  rw [hfl] at hl ⊢
  obtain ⟨gf, nF, qF, qx, hUF, hgf, hsl, hcl⟩ := h.tb.optR h2 h3
  have hlo2 := h.lo
  have HTb : Hid (∀ wz, Below w0.heap.size w0 wz → wz.cell? ⟨tB, 2, none⟩ = some (.slice (some ⟨gf, 0, none⟩) nF qF)) := hid (fun wz hz => by rw [← hUF]; exact (h.tb.below hz).b.cell 2)
  obtain ⟨lo, hlo1⟩ : ∃ a, x.lo = a := ⟨_, rfl⟩
  obtain ⟨hi, hhi1⟩ : ∃ a, x.hi = a := ⟨_, rfl⟩
  obtain ⟨mm, hm⟩ : ∃ m, hi - lo = m := ⟨_, rfl⟩
  rw [hlo1, hhi1, hm] at hsl
  rw [hlo1] at hcl
  have hol : (opT T x).length = mm := by unfold opT; rw [List.length_take, List.length_drop]; omega
  have HK4 : Hid (∀ wz, Below w0.heap.size w0 wz → wz.cell? ⟨gt, id * 12 + 4, none⟩ = some (.int .i32 (lo : Int)) ∧ wz.cell? ⟨gt, id * 12 + 5, none⟩ = some (.int .i32 (hi : Int))) := hid (fun wz hz => ⟨by rw [← hlo1]; exact HC.out wz hz 4 (by decide), by rw [← hhi1]; exact HC.out wz hz 5 (by decide)⟩)
  obtain ⟨os, hos⟩ : ∃ l, opT T x = l := ⟨_, rfl⟩
  rw [hos] at hcl hol hl hrf ⊢
  have hmb : mm ≤ 200000 := by omega
  have Hcl := hid hcl
  have Hol := hid hol
  have Hrf := hid hrf
  have Hl := hid hl
  have HR0 := hid hr
  have HB0 := hid hb
  have HL0 : Hid (bs.length = bs.length) := hid rfl
  clear h hx hk h2 h3 hrf hr hb hl hC HC hnt hfl hlt hUF hcl hol hos hlo1 hhi1 hm hlo2 hgf
  go_enter Tryz.func51, Tryz.ntmps51
  go_wp2_with (at_builtin; refine stopHere ?_)
  intro _
  refine wpList_app_s rfl _ _ HR0.out rfl rfl ⟨#[85, 110, 105, 111, 110, 91]⟩ rfl (by have := Hl.out; simp only [List.length_append, List.length_cons, List.length_nil] at this; show _ + 6 ≤ _; omega) HB0.out.size ?_
  intro v1 w1 hr hkk
  have HB1 := hid (HB0.out.trans (hkk.out.below HR0.out.hi HB0.out.size))
  have HR1 : Hid (OwR rtB w0.heap.size w1 v1 (bs ++ [85, 110, 105, 111, 110, 91])) := hid (by have := hr.out; simpa only [List.append_assoc, List.cons_append, List.nil_append] using this)
  obtain ⟨a1, q1, h1⟩ := HR1.out.shape
  obtain ⟨n1, hn1⟩ : ∃ k, (bs ++ [85, 110, 105, 111, 110, 91]).length = k := ⟨_, rfl⟩
  have HL1 := hid hn1
  have hl1 : n1 ≤ 70368744177664 := by rw [← hn1]; have := Hl.out; simp only [List.length_append, List.length_cons, List.length_nil] at this ⊢; omega
  rw [hn1] at h1
  subst h1
  clear hn1
  clear hr hkk HR0 HB0 k0
  have k4 := (HK4.out w1 HB1.out).1
  have k5 := (HK4.out w1 HB1.out).2
  have t2 := HTb.out w1 HB1.out
  go_upto_region 22 with fail
  obtain ⟨X0, W, hT, hI⟩ := class_mk (fun w' => Drew w1 w')
  have H0 : Hid (∃ y, w1.drew = W y) := hid (hI _ ⟨1, rfl⟩)
  have hne : Nonempty X0 := ⟨H0.out.choose⟩
  have HTT := hid hT
  have a2 : ∀ z, (W z).cell? ⟨tB, 2, none⟩ = some (.slice (some ⟨gf, 0, none⟩) nF qF) := fun y => by obtain ⟨m, e⟩ := hT y; rw [e]; exact t2
  have a4 : ∀ z, (W z).cell? ⟨gt, id * 12 + 4, none⟩ = some (.int .i32 (lo : Int)) := fun y => by obtain ⟨m, e⟩ := hT y; rw [e]; exact k4
  have a5 : ∀ z, (W z).cell? ⟨gt, id * 12 + 5, none⟩ = some (.int .i32 (hi : Int)) := fun y => by obtain ⟨m, e⟩ := hT y; rw [e]; exact k5
  clear hT hI
  refine wp_region_class W (by kernel_rfl) (by kernel_rfl) H0.out ?_
  repeat (go_big_quiet_step (fail))
  refine wpQuiet_nil ?_
  intro z
  have HD := hid (HTT.out z)
  have HB := hid ((HTT.out z).below w1.heap.size)
  have a2z := a2 z
  have a4z := a4 z
  have a5z := a5 z
  generalize W z = w2 at HD HB a2z a4z a5z ⊢
  clear H0 HTT a2 a4 a5
  have HR2 := hid (HR1.out.below HB.out)
  have HB2 := hid (HB1.out.trans (HB.out.mono HB1.out.size))
  clear HD HB a2z a4z a5z t2 k4 k5 hsl HR1 HB1
  go_upto_region 23 with fail
  go_loopw [87, 1] (fun t q wr => ∃ (j : Nat) (ax : Option Addr) (nx qx : Nat), t = .int .i64 (j : Int) ∧ q = .slice ax nx qx ∧ j ≤ mm ∧ Hid (OwR rtB w0.heap.size wr (.slice ax nx qx) (bs ++ [85, 110, 105, 111, 110, 91] ++ jnL (rf T al) (os.take j)) ∧ Below w0.heap.size w0 wr)) (fun t _ _ => mm - (intOf t).toNat)
  case atStart => exact ⟨0, _, _, _, rfl, rfl, Nat.zero_le _, hid ⟨by rw [List.take_zero]; show OwR rtB _ _ _ (_ ++ []); rw [List.append_nil]; exact HR2.out, HB2.out⟩⟩
  case round =>
  obtain ⟨j, ax, nx, qx, rfl, rfl, hj, HI⟩ := hrel
  clear HR2 HB2
  by_cases hin : j < mm
  rotate_left
  · have d1 : decide ((j : Int) < (mm : Int)) = false := decide_eq_false (by omega)
    have htk : os.take j = os := List.take_of_length_le (by rw [Hol.out]; omega)
    rw [htk] at HI
    obtain ⟨jl, hjl⟩ : ∃ a, jnL (rf T al) os = a := ⟨_, rfl⟩
    have HJ := hid hjl
    rw [hjl] at HI
    have hl2 := Hl.out
    rw [hjl] at hl2
    have Hl := hid hl2
    clear hjl hl2 htk
    obtain ⟨w4, hw4⟩ : ∃ z, wr = z := ⟨_, rfl⟩
    subst hw4
    have HR4 := hid HI.out.1
    have HB4 := hid HI.out.2
    have hnx : (bs ++ [85, 110, 105, 111, 110, 91] ++ jl).length = nx := by
      obtain ⟨a, b, hh⟩ := HI.out.1.shape
      injection hh with e1 e2 e3
      exact e2.symm
    have HL4 := hid hnx
    have hl4 : nx ≤ 70368744177664 := by rw [← hnx]; have := Hl.out; simp only [List.length_append, List.length_cons, List.length_nil] at this ⊢; omega
    clear HI hnx
    go_wp2_with (at_builtin; refine stopHere ?_)
    intro _
    obtain ⟨k8, hk8⟩ : ∃ k, wr.heap.size = k := ⟨_, rfl⟩
    obtain ⟨wf, hwf⟩ : ∃ wf, wr.alloc (.cells #[.int .u8 93] 5) = wf := ⟨_, rfl⟩
    have HBf : Hid (Below wr.heap.size wr wf) := hid (by rw [← hwf]; exact nbel wr _)
    have HNw : Hid (∀ ad, some (⟨k8, 0, none⟩ : Addr) = some ad → ∀ j u, ([(93 : UInt8)].flatMap rtB.f)[j]? = some u → wf.cell? (ad.add j) = some u) := hid (by rw [← hwf]; exact newX rtB wr 93 _ hk8.symm)
    (try simp only [hwf, hk8])
    clear hwf hk8
    have HBw := hid (HB4.out.trans (HBf.out.mono HB4.out.size))
    have HKf := hid (HR4.out.below HBf.out)
    refine wpList_app_l okB rfl _ _ HKf.out rfl [93] rfl (some ⟨k8, 0, none⟩) 1 1 rfl rfl (fun h => by cases h) HNw.out (by rw [HL4.out]; show (nx + 1) * 1 ≤ _; omega) HBw.out.size ?_
    intro v9 w9 hr9 hk9 hg9
    obtain ⟨a9, q9, h9⟩ := hr9.out.shape
    obtain ⟨n9, hn9⟩ : ∃ k, (bs ++ [85, 110, 105, 111, 110, 91] ++ jl ++ [93]).length = k := ⟨_, rfl⟩
    rw [hn9] at h9
    subst h9
    clear hn9
    have HF : Hid (OwR rtB w0.heap.size w9 (.slice a9 n9 q9) (bs ++ ([85, 110, 105, 111, 110, 91] ++ jl ++ [93])) ∧ Below w0.heap.size w0 w9) := hid ⟨by have := hr9.out; simpa only [List.append_assoc, List.cons_append, List.nil_append] using this, HBw.out.trans (hk9.out.below HKf.out.hi HBw.out.size)⟩
    clear hr9 hk9 hg9 HKf HBw HNw HR4 HB4 HBf
    go_wp2
    go_ret
    exact ⟨_, rfl, hid (by rw [HJ.out]; exact HF.out)⟩
  have d1 : decide ((j : Int) < (mm : Int)) = true := decide_eq_true (by omega)
  have i2 : (j : Int) < (mm : Int) := by omega
  obtain ⟨o, ho⟩ : ∃ o, os[j]? = some o := ⟨_, List.getElem?_eq_getElem (by rw [Hol.out]; exact hin)⟩
  have co := Hcl.out wr HI.out.2 j o ho
  have hst := jn_step (r := rf T al) ho
  have hjl := jn_le (r := rf T al) (os := os) (k := j + 1) (by rw [Hol.out]; omega)
  have HRo := hid (Hrf.out o (List.mem_of_getElem? ho))
  obtain ⟨J0, hJ0⟩ : ∃ a, jnL (rf T al) (os.take j) = a := ⟨_, rfl⟩
  obtain ⟨J1, hJ1⟩ : ∃ a, jnL (rf T al) (os.take (j + 1)) = a := ⟨_, rfl⟩
  obtain ⟨ro, hro⟩ : ∃ a, rf T al o = a := ⟨_, rfl⟩
  have hrf' : ∀ (w : World) (ax : Option Addr) (m q : Nat) (bs : List UInt8), OwR rtB w0.heap.size w (.slice ax m q) bs → Below w0.heap.size w0 w → bs.length + ro.length ≤ 70368744177664 → Calls Tryz.prog 52 #[.pointer (some ⟨tB, 0, none⟩), .slice ax m q, .int .i32 (o : Int)] w fun e w' => ∃ v, e = .returned v ∧ Hid (OwR rtB w0.heap.size w' v (bs ++ ro) ∧ Below w0.heap.size w0 w') := by rw [← hro]; exact HRo.out
  have Hro := hid hrf'
  rw [hJ0] at HI hst
  rw [hJ1, hro] at hst
  rw [hJ1] at hjl
  have Hst := hid hst
  have HJ1 := hid hJ1
  have hl2 := Hl.out
  simp only [List.length_append, List.length_cons, List.length_nil] at hl2
  have hbd : bs.length + 6 + J1.length ≤ 70368744177664 := by omega
  have hnx : (bs ++ [85, 110, 105, 111, 110, 91] ++ J0).length = nx := by
    obtain ⟨a, b, hh⟩ := HI.out.1.shape
    injection hh with e1 e2 e3
    exact e2.symm
  have hnx2 : bs.length + 6 + J0.length = nx := by rw [← hnx]; simp only [List.length_append, List.length_cons, List.length_nil]
  have HNx := hid hnx
  clear ho hst hjl HRo hJ0 hJ1 hro hrf' hl2 hnx
  by_cases h0 : j = 0
  · have d2 : decide ((j : Int) > 0) = false := decide_eq_false (by omega)
    have d2n : decide (0 < j) = false := decide_eq_false (by omega)
    have hst : J1 = J0 ++ ro := by rw [Hst.out, if_pos h0]; rfl
    have HA := hid (Hro.out wr ax nx qx _ HI.out.1 HI.out.2 (by rw [HNx.out]; rw [hst, List.length_append] at hbd; omega))
    have HE0 := hid hst
    clear hst h0 Hst
    go_wp2_with fail
    refine HA.out.mono ?_
    rintro e5 w5 ⟨v5, rfl, h5⟩
    clear HA
    have HR5 : Hid (OwR rtB w0.heap.size w5 v5 (bs ++ [85, 110, 105, 111, 110, 91] ++ jnL (rf T al) (os.take (j + 1))) ∧ Below w0.heap.size w0 w5) := hid ⟨by rw [HJ1.out, HE0.out, ← List.append_assoc]; exact h5.out.1, h5.out.2⟩
    obtain ⟨a5, q5, hv5⟩ := HR5.out.1.shape
    obtain ⟨n5, hn5⟩ : ∃ k, (bs ++ [85, 110, 105, 111, 110, 91] ++ jnL (rf T al) (os.take (j + 1))).length = k := ⟨_, rfl⟩
    rw [hn5] at hv5
    subst hv5
    clear hn5 h5 HI
    go_wp2
    exact ⟨⟨j + 1, _, _, _, by go_num, rfl, by omega, HR5⟩, by simp [intOf]; omega⟩
  have d2 : decide ((j : Int) > 0) = true := decide_eq_true (by omega)
  have d2n : decide (0 < j) = true := decide_eq_true (by omega)
  have hst : J1 = J0 ++ [44, 32] ++ ro := by rw [Hst.out, if_neg h0]; simp
  have hbd2 : nx + 2 + ro.length ≤ 70368744177664 := by rw [hst] at hbd; simp only [List.length_append, List.length_cons, List.length_nil] at hbd; omega
  have HE0 := hid hst
  clear hst h0 Hst hbd
  go_wp2_with (at_builtin; refine stopHere ?_)
  intro _
  refine wpList_app_s rfl _ _ HI.out.1 rfl rfl ⟨#[44, 32]⟩ rfl (by rw [HNx.out]; show _ + 2 ≤ _; omega) HI.out.2.size ?_
  intro v3 w3 hr hkk
  have HB3 := hid (HI.out.2.trans (hkk.out.below HI.out.1.hi HI.out.2.size))
  have HR3 : Hid (OwR rtB w0.heap.size w3 v3 (bs ++ [85, 110, 105, 111, 110, 91] ++ J0 ++ [44, 32])) := hid hr.out
  obtain ⟨a3, q3, hv3⟩ := HR3.out.shape
  obtain ⟨n3, hn3⟩ : ∃ k, (bs ++ [85, 110, 105, 111, 110, 91] ++ J0 ++ [44, 32]).length = k := ⟨_, rfl⟩
  have hn3b : Hid (n3 = nx + 2) := hid (by rw [← hn3, List.length_append, HNx.out]; rfl)
  have HL3 := hid hn3
  rw [hn3] at hv3
  subst hv3
  clear hn3 hr hkk co HI
  have HA := hid (Hro.out w3 a3 n3 q3 _ HR3.out HB3.out (by rw [HL3.out]; have := hn3b.out; omega))
  go_wp2_with fail
  refine HA.out.mono ?_
  rintro e5 w5 ⟨v5, rfl, h5⟩
  clear HA
  have HR5 : Hid (OwR rtB w0.heap.size w5 v5 (bs ++ [85, 110, 105, 111, 110, 91] ++ jnL (rf T al) (os.take (j + 1))) ∧ Below w0.heap.size w0 w5) := hid ⟨by rw [HJ1.out, HE0.out]; have := h5.out.1; simpa only [List.append_assoc, List.cons_append, List.nil_append] using this, h5.out.2⟩
  obtain ⟨a5, q5, hv5⟩ := HR5.out.1.shape
  obtain ⟨n5, hn5⟩ : ∃ k, (bs ++ [85, 110, 105, 111, 110, 91] ++ jnL (rf T al) (os.take (j + 1))).length = k := ⟨_, rfl⟩
  rw [hn5] at hv5
  subst hv5
  clear hn5 h5 HR3 HB3 HL3 hn3b
  go_wp2
  exact ⟨⟨j + 1, _, _, _, by go_num, rfl, by omega, HR5⟩, by simp [intOf]; omega⟩
/-- Every type's reference is written as rf says. -/
theorem refAll (h : TRd w0 τ tB V T ga al) : ∀ (n id : Nat), id ≤ n → id < T.types.length → RfC w0 tB T al id := by
  intro n
  induction n with
  | zero => intro id h1 _; exact refBasic (by omega)
  | succ n ih =>
    intro id h1 h2
    by_cases h8 : id < 8
    · exact refBasic h8
    · obtain ⟨x, hx⟩ : ∃ x, T.types[id]? = some x := ⟨_, List.getElem?_eq_getElem h2⟩
      refine refOther h h8 hx (fun hk => ?_)
      cases h.st id x (by omega) hx with
      | @ser e g1 g2 g3 =>
        rcases g1 with g1 | g1
        · exact fullSer3 h hx g1 g2 (ih e (by omega) (by omega))
        · exact fullSer4 h hx g1 g2 (ih e (by omega) (by omega))
      | bit g1 g2 =>
        rcases g1 with g1 | g1
        · exact fullBit5 h hx g1
        · exact fullBit6 h hx g1
      | con g1 g2 g3 g4 => exact absurd g1 hk
      | uni g1 g2 g3 g4 => exact fullUni h hx g1 g2 g3 (fun o ho => ih o (by have := g4 o ho; omega) (by have := g4 o ho; omega))
set_option maxRecDepth 100000 in
theorem typeStringW (h : TRd w0 τ tB V T ga al) {id : Nat} (hid1 : id < T.types.length) (hl : (rf T al id).length ≤ 70368744177664) : Calls Tryz.prog 38 #[.pointer (some ⟨tB, 0, none⟩), .int .i32 (id : Int)] w0 fun e w' => e = .returned (.string ⟨(rf T al id).toArray⟩) ∧ Below w0.heap.size w0 w' := by
  have HA := hid (refAll h id id (Nat.le_refl _) hid1 w0 none 0 0 [] (OwR.nil _ _ _) (Below.refl _ _) (by simpa using hl))
  obtain ⟨rr, hrr⟩ : ∃ a, rf T al id = a := ⟨_, rfl⟩
  rw [hrr] at HA ⊢
  clear h hl hrr
  go_enter Tryz.func38, Tryz.ntmps38
  go_wp2_with fail
  refine HA.out.mono ?_
  rintro e w1 ⟨v, rfl, h1⟩
  have hr1 := h1.out.1
  rw [List.nil_append] at hr1
  obtain ⟨a1, q1, hv1⟩ := hr1.shape
  obtain ⟨n1, hn1⟩ : ∃ k, rr.length = k := ⟨_, rfl⟩
  rw [hn1] at hv1
  subst hv1
  have hst := hr1.str
  have HB := hid h1.out.2
  clear HA h1 hr1 hn1
  go_wp2
  go_ret
  exact ⟨rfl, HB.out⟩
end
end Go.Proofs.Qxb6500883aGreatDoor
