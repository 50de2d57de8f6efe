/- word. -/
import Derived.Test.Qxb6500883aGreatDoorScGl
namespace Go.Proofs.Qxb6500883aGreatDoor
open Go.RowKit
set_option linter.unusedSimpArgs false
set_option linter.unusedVariables false
def wordL (l : List UInt8) : Nat := (l.takeWhile (fun b => wdB b.toNat)).length
/-- How far the letters and digits go from a place on. -/
def wdP (bs : List UInt8) (i : Nat) : Nat := i + wordL (bs.drop i)
section
variable (bs : List UInt8) {i : Nat}
theorem wd_end (h : bs.length ≤ i) : wdP bs i = i := by unfold wdP; rw [drop_end bs h]; rfl
theorem wd_on (h : i < bs.length) (hs : wdB (cN bs i) = true) : wdP bs i = wdP bs (i + 1) := by
  obtain ⟨b, h1, h2⟩ := drop_cons bs h
  unfold wdP wordL
  rw [h1, List.takeWhile_cons, ← h2, hs, if_pos rfl, List.length_cons]
  omega
theorem wd_no (h : i < bs.length) (hs : wdB (cN bs i) = false) : wdP bs i = i := by
  obtain ⟨b, h1, h2⟩ := drop_cons bs h
  unfold wdP wordL
  rw [h1, List.takeWhile_cons, ← h2, hs, if_neg (by decide)]
  rfl
theorem wdP_le (h : i ≤ bs.length) : wdP bs i ≤ bs.length := by
  have h1 : wordL (bs.drop i) ≤ (bs.drop i).length := by unfold wordL; exact (List.takeWhile_sublist _).length_le
  rw [List.length_drop] at h1
  unfold wdP; omega
theorem wdP_ge : i ≤ wdP bs i := Nat.le_add_right _ _
end
/-- The word that begins at a place. -/
def wordT (bs : List UInt8) (st : Nat) : Tk := ⟨if kwOf (sub bs st (wdP bs (st + 1))) != 0 then kwOf (sub bs st (wdP bs (st + 1))) else 4, st, wdP bs (st + 1), 0, 0⟩
section
variable {w w' : World} {g : Nat} {t : TypeId} {cs : List Value} {a : Option Addr} {n c : Nat} {bs : List UInt8} {i k N mg : Nat}
theorem slice_in {b off : Nat} {lo hi : Nat} (h1 : lo < hi) (h2 : hi ≤ n) (h3 : n ≤ c) (h4 : c ≤ maxLen) (w : World) : (Instr.sliceAt 28 (.slice (some ⟨b, off, none⟩) n c) (some (.int .i64 (lo : Int))) (some (.int .i64 (hi : Int))) none).run Tryz.prog w = .ok (.slice (some ⟨b, off + lo, none⟩) (hi - lo) (c - lo)) w := by
  have e1 : ¬ (c = lo) := by omega
  have e2 : lo ≤ hi := by omega
  have e3 : ¬ (hi < lo) := by omega
  have e4 : (lo : Int) ≤ (hi : Int) := by omega
  have e5 : (hi : Int) ≤ (c : Int) := by omega
  have e6 : hi ≤ c := by omega
  have e7 : ¬ (c < hi) := by omega
  have e8 : ¬ (c - lo = 0) := by omega
  simp [Instr.sliceAt, go_sem, Instr.sliceBounds, e1, e2, e3, e4, e5, e6, e7, e8, Addr.add]
set_option maxRecDepth 100000 in
set_option maxHeartbeats 1000000 in
theorem wordW (hG : Gl N mg w) (hN : N ≤ g) (h : LxM w g t cs a n c bs i k) (st : Nat) (hs : st < n) : Calls Tryz.prog 107 #[.pointer (some ⟨g, 0, none⟩), .int .i64 (st : Int)] w fun e w' => e = .returned (.agg (tkC (wordT bs st)).toArray) ∧ Hid (LxP w g t cs a n c bs (wordT bs st).en k w') := by
  have I0 := hid info_tk
  obtain ⟨hcap, hn, hcm⟩ := h.src.cap
  have hnl := h.src.len
  have hg := h.blk.lt
  obtain ⟨b, off, ha, _, _⟩ := h.src.cell hs
  subst ha
  obtain ⟨p, hp⟩ : ∃ p, w.heap.size = p := ⟨_, rfl⟩
  have H1 := hid (TkU.start h [.int .u8 0, .int .i64 0, .int .i64 0, .int .i64 0, .int .u64 0] rfl)
  have HG1 := hid (hG.below' (nbel w (.cells #[.int .u8 0, .int .i64 0, .int .i64 0, .int .i64 0, .int .u64 0] 112)))
  rw [hp] at H1
  have HT : Hid (tkC (wordT bs st) = [.int .u8 ((if kwOf (sub bs st (wdP bs (st + 1))) != 0 then kwOf (sub bs st (wdP bs (st + 1))) else 4 : Nat) : Int), .int .i64 (st : Int), .int .i64 (wdP bs (st + 1) : Int), .int .i64 0, .int .u64 0] ∧ (wordT bs st).en = wdP bs (st + 1)) := hid ⟨rfl, rfl⟩
  have HO := hid (tkC_one (wordT bs st))
  obtain ⟨T, hT⟩ : ∃ T, tkC (wordT bs st) = T := ⟨_, rfl⟩
  obtain ⟨E, hE⟩ : ∃ E, (wordT bs st).en = E := ⟨_, rfl⟩
  rw [hT, hE] at HT
  rw [hT] at HO
  rw [hT, hE]
  clear hT hE
  obtain ⟨en, hen⟩ : ∃ en, wdP bs (st + 1) = en := ⟨_, rfl⟩
  have He1 : Hid (st + 1 ≤ en ∧ en ≤ n) := hid (by rw [← hen]; exact ⟨wdP_ge _, by rw [← hnl]; exact wdP_le _ (by omega)⟩)
  rw [hen] at HT
  have Hen := hid hen
  have Hn := hid hnl
  clear h hen hnl hG
  go_enter Tryz.func107, Tryz.ntmps107
  go_upto_region 1 with fail
  (try simp only [hp])
  generalize hw1 : w.alloc _ = w1 at H1 HG1 ⊢
  clear hw1 hp
  obtain ⟨c0, _, _⟩ := H1.out.lx.cells
  have f1 := H1.out.lx.fz 1
  have HC := hid (fun x (hx : x < 256) (wz : World) => isWordW x hx wz)
  go_upto_region 3 with fail
  go_loopw [6] (fun v wr => wr = w1 ∧ ∃ j : Nat, v = .int .i64 (j : Int) ∧ j ≤ n ∧ Hid (wdP bs j = en)) (fun v _ => n - (intOf v).toNat)
  case atStart => exact ⟨rfl, st + 1, by go_num, by omega, Hen⟩
  case round =>
  clear Hen
  obtain ⟨rfl, j, rfl, hj, HR⟩ := hrel
  obtain ⟨q, hq⟩ : ∃ q, (decide (j < n) && wdB (cN bs j)) = q := ⟨_, rfl⟩
  have Hq := hid hq
  clear hq
  go_upto_region 3 with fail
  go_cut [25] from 15 to 25 (fun v wc => v = .bool q ∧ wc = wr)
  case first =>
    as_aux_lemma =>
    by_cases hjn : j < n
    · have d1 : decide ((j : Int) < (n : Int)) = true := decide_eq_true (by omega)
      obtain ⟨b', off', e', _, hc⟩ := H1.out.lx.src.cell hjn
      cases e'
      have HE : Hid (wdB (cN bs j) = q) := hid (by rw [← Hq.out, decide_eq_true hjn]; rfl)
      have hx2 := cN_lt bs j
      have HK := hid (HC.out (cN bs j) (cN_lt _ _) wr)
      rw [HE.out] at HK
      generalize cN bs j = x at hc HK hx2
      clear HC HT HO HE Hq
      go_wp2_with fail
      refine HK.out.mono ?_
      rintro e w2 ⟨rfl, rfl⟩
      go_wp2
      go_meet
      exact ⟨rfl, rfl⟩
    · have d1 : decide ((j : Int) < (n : Int)) = false := decide_eq_false (by omega)
      have HE : Hid (false = q) := hid (by rw [← Hq.out, decide_eq_false hjn]; rfl)
      go_wp2
      go_meet
      exact ⟨by rw [HE.out], rfl⟩
  case rest =>
  obtain ⟨rfl, rfl⟩ := hcut
  cases q with
  | true =>
    as_aux_lemma =>
    have hjw : j < n ∧ wdB (cN bs j) = true := by have := Hq.out; simpa using this
    have HE : Hid (wdP bs (j + 1) = en) := hid (by rw [← wd_on bs (by rw [Hn.out]; exact hjw.1) hjw.2]; exact HR.out)
    have hjn := hjw.1
    clear HR hjw
    go_wp2
    exact ⟨⟨trivial, j + 1, by go_num, by omega, HE⟩, by simp [intOf]; omega⟩
  | false =>
    as_aux_lemma =>
    have HJ : Hid (j = en) := hid (by
      rw [← HR.out]
      by_cases hjn : j < n
      · exact (wd_no bs (by rw [Hn.out]; exact hjn) (by have := Hq.out; rw [decide_eq_true hjn] at this; simpa using this)).symm
      · exact (wd_end bs (by rw [Hn.out]; omega)).symm)
    obtain rfl : j = en := HJ.out
    clear HR HJ Hq hj
    obtain ⟨he1, he2⟩ := He1.out
    have H2 := hid (H1.out.pos (j := j) he2)
    have HG2 := hid (HG1.out.upd hN ((Upd.refl g wc).setCell (p := ⟨g, 1, none⟩) rfl (.int .i64 (j : Int))))
    go_upto_region 6 with fail
    generalize hw2 : wc.setCell _ _ = w2 at H2 HG2 ⊢
    clear hw2 f1 c0 HC
    have hsl := slice_in (b := b) (off := off) (n := n) (c := c) (show st < j by omega) he2 hcap hcm
    have hst : ∀ m : Nat, (convert 28 9 (.slice (some ⟨b, off + st, none⟩) (j - st) (c - st))).run Tryz.prog (w2.drewN m) = .ok (.string (sub bs st j)) (w2.drewN m) := fun m => (H2.out.lx.src.below ((Drew.refl _).next m |>.below _)).str (show st < j by omega) he2 rfl _
    have hlk : ∀ m : Nat, (Instr.lookup 225 (.map (some mg)) (.string (sub bs st j)) true).run Tryz.prog (w2.drewN m) = .ok (.tuple #[.int .u8 (kwOf (sub bs st j) : Int), .bool (kwOf (sub bs st j) != 0)]) (w2.drewN m) := fun m => HG2.out.lk (w2.drewN m) rfl (sub bs st j)
    have hkw := HG2.out.kw
    generalize sub bs st j = s at hst hlk HT
    obtain ⟨q, hq⟩ : ∃ q, kwOf s = q := ⟨_, rfl⟩
    rw [hq] at hlk HT
    clear hq
    obtain ⟨q0, hq0⟩ : ∃ q0, (q != 0) = q0 := ⟨_, rfl⟩
    rw [hq0] at hlk HT
    clear hq0
    go_quiet (fail)
    have H3 := hid (H2.out.below ((Drew.refl w2).next nq |>.below _))
    generalize w2.drewN nq = w3 at H3 ⊢
    obtain ⟨ds, hd1, hd2⟩ := H3.out.b
    clear hlk hst hsl hkw H2 HG2
    cases q0 with
    | true =>
      as_aux_lemma =>
      obtain ⟨hT1, rfl⟩ := HT.out
      obtain rfl := hT1
      go_wp2_with (refine wpList_store_blk rfl 112 _ _ rfl p rfl [.int .u8 (q : Int), .int .i64 (st : Int), .int .i64 (E : Int), .int .i64 0, .int .u64 0] rfl hd2 hd1 I0.out HO.out ?_; intro w9 HB9 HU9)
      refine bodyPost_ret (results_blk (cs := [.int .u8 (q : Int), .int .i64 (st : Int), .int .i64 (E : Int), .int .i64 0, .int .u64 0]) Tryz.results107 rfl agg_tk HB9.out) rfl ?_
      exact ⟨rfl, hid (H3.out.done HU9.out)⟩
    | false =>
      as_aux_lemma =>
      obtain ⟨hT1, rfl⟩ := HT.out
      obtain rfl := hT1
      go_wp2_with (refine wpList_store_blk rfl 112 _ _ rfl p rfl [.int .u8 4, .int .i64 (st : Int), .int .i64 (E : Int), .int .i64 0, .int .u64 0] rfl hd2 hd1 I0.out HO.out ?_; intro w9 HB9 HU9)
      refine bodyPost_ret (results_blk (cs := [.int .u8 4, .int .i64 (st : Int), .int .i64 (E : Int), .int .i64 0, .int .u64 0]) Tryz.results107 rfl agg_tk HB9.out) rfl ?_
      exact ⟨rfl, hid (H3.out.done HU9.out)⟩
end
end Go.Proofs.Qxb6500883aGreatDoor
