/- piece, pieces, names; Class and AppendTo of a name. -/
import Derived.Test.Qxb6500891aPtNm
import Derived.Test.Qxb6500891aPtWkA
namespace Go.Proofs.Qxb6500891a
open Go.RowKit
set_option linter.unusedSimpArgs false
set_option linter.unusedVariables false

theorem field_comp0 {nm : List Nat} (h : nm.length ≤ 32) (cls hh : Int) (nd la : Bool) (w : World) : (Instr.field 40 (.agg (compC nm cls hh nd la).toArray) 0).run Try.prog w = .ok (.agg (nameC nm).toArray) w := by
  have hl := nameC_len h
  unfold compC
  generalize nameC nm = C at *
  have ht : List.take 33 (C ++ [Value.int .u8 cls, .int .u32 hh, .bool nd, .bool la]) = C := by rw [List.take_append_of_le_length (by omega), List.take_of_length_le (by omega)]
  simp [Instr.field, go_sem, part, asAgg, ht]
/-- Bytes appended; what is kept. -/
def Kept (v : Value) (w w' : World) : Prop := ∀ k, k < w.heap.size → (∀ g, v.ownBlock = some g → k ≠ g) → w'.heap[k]? = w.heap[k]?
theorem Kept.blk {v : Value} {w w' : World} (h : Kept v w w') {g : Nat} {t : TypeId} {cs : List Value} (hb : Blk w g t cs) (hne : ∀ g', v.ownBlock = some g' → g ≠ g') : Blk w' g t cs := by
  have h1 := h g hb.lt hne
  unfold Blk at hb ⊢
  rw [h1]
  exact hb
theorem wpList_app_as {ops : Array Oper} {rest : List Oper} {o : Oper} {a : Act} {Q : Exit → Act → World → Prop} (hgd : o.guard = none) (s x : Operand)
    (ho : o.op = .call { callee := .builtin .append, args := #[s, x], argTypes := #[26, 26] })
    (w0 w : World) (v : Value) (bs m : List Nat) (hs : a.eval s = v) (hA : As w0 v bs w) (ax : Option Addr) (n c : Nat) (hx : a.eval x = .slice ax n c) (hm : m.length = n) (hm0 : ax = none → n = 0 ∧ c = 0)
    (hnews : ∀ ad, ax = some ad → ∀ j u, (bC m)[j]? = some u → w.cell? (ad.add j) = some u) (hb : bs.length + n ≤ 140737488355328)
    (h : ∀ v' w', Hid (As w0 v' (bs ++ m) w') → Hid (Kept v w w') → wpList Try.prog ops Q rest (a.put o.dst v') w') : wpList Try.prog ops Q (o :: rest) a w := by
  obtain ⟨i0, hi, hz0, hz1, hz2⟩ := info_u8
  subst hm
  refine wpList_append_row w hgd s x 26 ho w0.heap.size 5 i0 (.int .u8 0) 1 1 Try.underlying26 hi hz0 hz1 hz2 rfl (by decide) v bs.length (bC bs) hs hA.own ax m.length c (bC m) hx (by simp [bC]) hm0 hnews (bC_one m) (by omega) (by decide) hA.bel.size ?_
  intro v' w' h1 h2 h3 h4
  exact h v' w' (hid (hA.app h2 h1)) (hid h3)
theorem new47 (w : World) (x : Nat) (g : Nat) (hg : g = w.heap.size) : ∀ ad, some (⟨g, 0, none⟩ : Addr) = some ad → ∀ j u, (bC [x])[j]? = some u → (w.alloc (.cells #[.int .u8 (x : Int)] 5)).cell? (ad.add j) = some u := newRow w (bC [x]) 5 g hg
theorem As.row {w0 w : World} {v : Value} {bs : List Nat} (h : As w0 v bs w) (hb : bs.length ≤ 140737488351232) (h256 : ∀ x ∈ bs, x < 256) : ∃ a n c, v = .slice a n c ∧ n = bs.length ∧ ByteRow w a n c bs := by
  have ho := h.own
  have e : bC bs = bs.flatMap byteCell := by
    unfold bC byteCell
    clear h hb h256 ho
    induction bs with
    | nil => rfl
    | cons x l ih => simp [ih]
  rw [e] at ho
  obtain ⟨a, n, c, hv, hr⟩ := ownsRow_row (f := byteCell) (l := bs) (sz := 1) (by decide) (fun _ => rfl) hb ho
  exact ⟨a, n, c, hv, hr.1.symm, hr, h256⟩
set_option maxRecDepth 100000 in
theorem nmClass_walk (l : List Nat) (h : NmOk l) (w : World) :
    Calls Try.prog 54 #[nameV l] w fun e w' => e = .returned (.int .u8 (clsL l)) ∧ Below w.heap.size w w' := by
  have hle := h.le
  have HB := hid (Blk.new w (nameC l) 36)
  have HH := hid (classOf_walk _ _ _ l _ (nameRow h HB.out))
  have hsl := fun w' => slice_h ⟨w.heap.size, 1, none⟩ l.length hle w'
  have c0 : (w.alloc (.cells (nameC l).toArray 36)).cell? ⟨w.heap.size, 0, none⟩ = some (.int .u8 (l.length : Int)) := HB.out.cell 0
  generalize clsL l = H at *
  unfold nameV
  generalize nameC l = C at *
  clear h
  go_enter Try.func54, Try.ntmps54
  go_wp2_with fail
  refine (HH.out).mono ?_
  rintro e w1 ⟨rfl, rfl⟩
  go_wp2
  go_ret
  exact ⟨rfl, nbel _ _⟩
set_option maxRecDepth 100000 in
theorem appendTo_walk (l : List Nat) (h : NmOk l) (w0 w : World) (v : Value) (bs : List Nat) (hA : As w0 v bs w) (hbl : bs.length ≤ 1000000) :
    Calls Try.prog 60 #[nameV l, v] w fun e w' => ∃ v', e = .returned v' ∧ As w0 v' (bs ++ l) w' := by
  have hle := h.le
  have HB := hid (Blk.new w (nameC l) 36)
  have HR := hid (nameRow h HB.out)
  have hsl := fun w' => slice_h ⟨w.heap.size, 1, none⟩ l.length hle w'
  have c0 : (w.alloc (.cells (nameC l).toArray 36)).cell? ⟨w.heap.size, 0, none⟩ = some (.int .u8 (l.length : Int)) := HB.out.cell 0
  have HA1 := hid (hA.below (nbel w (.cells (nameC l).toArray 36)))
  unfold nameV
  generalize nameC l = C at *
  have HNew : Hid (∀ ad, some (⟨w.heap.size, 1, none⟩ : Addr) = some ad → ∀ j u, (bC l)[j]? = some u → (w.alloc (.cells C.toArray 36)).cell? (ad.add j) = some u) := hid (by
    intro ad had j u hu
    cases had
    unfold bC at hu
    rw [List.getElem?_map, Option.map_eq_some_iff] at hu
    obtain ⟨x, hx, rfl⟩ := hu
    have hj := (List.getElem?_eq_some_iff.1 hx).1
    obtain ⟨y, hy, _, b, off, e, _, cy⟩ := HR.out.get hj
    cases e
    rw [hx] at hy
    cases hy
    rw [show (⟨w.heap.size, 1, none⟩ : Addr).add j = ⟨w.heap.size, 1 + j, none⟩ by unfold Addr.add; split <;> simp_all]
    exact cy)
  obtain ⟨k, hk⟩ : ∃ k, l.length = k := ⟨_, rfl⟩
  rw [hk] at c0 hsl hle
  have Hk := hid hk
  have hbk : bs.length + k ≤ 140737488355328 := by omega
  clear h hA HR hk
  go_enter Try.func60, Try.ntmps60
  go_wp2_with (at_builtin; refine wpList_app_as rfl (.tmp 5) (.tmp 9) rfl w0 _ v bs l rfl HA1.out (some ⟨w.heap.size, 1, none⟩) k 32 rfl Hk.out (fun h => by cases h) HNew.out hbk ?_; intro v8 w8 HA8 HK8)
  go_ret
  exact ⟨_, rfl, HA8.out⟩
/-- A component in block q: its name, its class, its flags. -/
structure PcB (w0 : World) (q r : Nat) (C R : List Value) (w : World) : Prop where
  bel : Below w0.heap.size w0 w
  bq : Blk w q 40 C
  br : Blk w r 109 R
theorem PcB.below {w0 w w' : World} {q r : Nat} {C R : List Value} (h : PcB w0 q r C R w) (hb : Below w.heap.size w w') : PcB w0 q r C R w' := ⟨h.bel.trans (hb.mono h.bel.size), h.bq.below hb, h.br.below hb⟩
def pieceC (nm : List Nat) (cls : Int) (nd la : Bool) : List Value := [.string (strL nm), .int .u8 cls, .bool nd, .bool la]
theorem info_piece : (Try.prog.info? 109).map (·.size) = some 4 := by kernel_rfl
theorem aggPiece : AggOf Try.prog 109 4 := AggOf.struct Try.underlying109 (by kernel_rfl)
theorem comp_33 {nm : List Nat} (h : nm.length ≤ 32) (c hh : Int) (a b : Bool) : (compC nm c hh a b)[33]? = some (.int .u8 c) := by
  unfold compC
  rw [List.getElem?_append_right (by rw [nameC_len h]; omega), nameC_len h]
  rfl
set_option maxRecDepth 1000000 in
set_option maxHeartbeats 2000000 in
theorem piece_walk (nm : List Nat) (h : NmOk nm) (cls hh : Int) (nd la : Bool) (w : World) :
    Calls Try.prog 58 #[.agg (compC nm cls hh nd la).toArray] w fun e w' => e = .returned (.agg (pieceC nm cls nd la).toArray) ∧ Below w.heap.size w w' := by
  have hle := h.le
  obtain ⟨q, hq⟩ : ∃ q, w.heap.size = q := ⟨_, rfl⟩
  obtain ⟨b1, b2, hb⟩ := blk2 w (compC nm cls hh nd la) [.string ⟨#[]⟩, .int .u8 0, .bool false, .bool false] 40 109
  rw [hq] at b1 b2
  have HB := hid (PcB.mk hb b1 b2)
  have HNm := hid (comp_name nm cls hh nd la)
  have h33 := comp_33 hle cls hh nd la
  have h35 := comp_35 hle cls hh nd la
  have h36 := comp_36 hle cls hh nd la
  have HStr := hid (fun w => nmString_walk nm h w)
  unfold nameV at HStr
  have hl33 : (nameC nm).length = 33 := nameC_len hle
  have I1 : Hid ((Try.prog.info? 36).map (·.size) = some (nameC nm).length) := hid (by rw [hl33]; exact info_name)
  clear b1 b2 hb
  obtain ⟨Nc, hNc⟩ : ∃ Nc, nameC nm = Nc := ⟨_, rfl⟩
  obtain ⟨C, hC⟩ : ∃ C, compC nm cls hh nd la = C := ⟨_, rfl⟩
  obtain ⟨st, hst⟩ : ∃ st, strL nm = st := ⟨_, rfl⟩
  rw [hNc] at HStr HNm I1
  rw [hC] at HNm HB h33 h35 h36
  rw [hst] at HStr
  rw [hC]
  have Hst := hid hst
  clear hNc hC hst hl33
  go_enter Try.func58, Try.ntmps58
  go_upto_region 1 with fail
  generalize (w.alloc (.cells C.toArray 40)).alloc (.cells #[.string ⟨#[]⟩, .int .u8 0, .bool false, .bool false] 109) = w1 at HB ⊢
  obtain ⟨X, W, hT, hI⟩ := class_mk (PcB w q (q + 1) C [.string ⟨#[]⟩, .int .u8 0, .bool false, .bool false])
  have HCl : Hid (∀ x w', Below (W x).heap.size (W x) w' → ∃ y, w' = W y) := hid (fun x w' hb => hI _ ((hT x).below hb))
  have H0 : Hid (∃ x, w1.drew = W x) := hid (hI _ (HB.out.below (Drew.below ⟨1, rfl⟩ _)))
  have hne : Nonempty X := ⟨H0.out.choose⟩
  have c33 : ∀ x, (W x).cell? ⟨q, 33, none⟩ = some (.int .u8 cls) := fun x => by rw [(hT x).bq.cell]; exact h33
  have c35 : ∀ x, (W x).cell? ⟨q, 35, none⟩ = some (.bool nd) := fun x => by rw [(hT x).bq.cell]; exact h35
  have c36 : ∀ x, (W x).cell? ⟨q, 36, none⟩ = some (.bool la) := fun x => by rw [(hT x).bq.cell]; exact h36
  have Hld : Hid (∀ x, (Instr.loadAt 36 (.pointer (some ⟨q, 0, none⟩))).run Try.prog (W x) = .ok (.agg Nc.toArray) (W x)) := hid (fun x => run_loadAt_mid (W x) q 0 36 Nc _ (fun j v hv => by rw [(hT x).bq.cell]; exact HNm.out j v hv) Try.underlying36 rfl I1.out)
  have HTT := hid hT
  clear hT hI h33 h35 h36
  refine wp_region_class_last W rfl (by kernel_rfl) (by kernel_rfl) (by kernel_rfl) H0.out ?_
  dsimp only [List.dropLast, List.getLast]
  repeat (first
    | (go_big_quiet_want; refine quiet_loadO 36 _ rfl ⟨q, 0, none⟩ rfl _ (fun w hx => by obtain ⟨x, rfl⟩ := hx; exact Hld.out x) ?_; simp only [Act.put, List.setIfInBounds_toArray, List.set_cons_succ, List.set_cons_zero]; go_big_quiet_on)
    | (go_big_quiet_step ((go_at_call 21; with_reducible exact Calls.class_of HCl.out (HStr.out _)))))
  refine wpQuiet_nil ?_
  intro z
  have HZ := hid (HTT.out z)
  generalize W z = wz at HZ ⊢
  clear c33 c35 c36 Hld HTT H0 HCl
  have I2 : Hid ((Try.prog.info? 109).map (·.size) = some [Value.string st, .int .u8 cls, .bool nd, .bool la].length) := hid info_piece
  go_wp2_with (refine wpList_store_blk rfl 109 _ _ rfl (q + 1) rfl [.string st, .int .u8 cls, .bool nd, .bool la] rfl HZ.out.br rfl I2.out (fun v hv => by simp at hv; rcases hv with rfl | rfl | rfl | rfl <;> rfl) ?_; intro w3 HB3 HU3)
  exact bodyPost_ret (results_blk Try.results58 rfl (by exact aggPiece) HB3.out) rfl ⟨by unfold pieceC; rw [Hst.out], by
    have h1 := HZ.out.bel
    exact h1.trans (HU3.out.below (by omega) h1.size)⟩
end Go.Proofs.Qxb6500891a
