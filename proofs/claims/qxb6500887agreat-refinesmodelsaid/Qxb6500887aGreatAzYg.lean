/- appendLabel, appendAddr, FormatAddr, tallyMark, BlockMap, HeapMap (written by tools/mk_azyg.py). -/
import Derived.Test.Qxb6500887aGreatAzYf
namespace Go.Proofs.Qxb6500887aGreat
open Go.RowKit
set_option linter.unusedSimpArgs false
set_option linter.unusedVariables false

theorem info_u8Z : (Tryz.prog.info? 5).map (fun i => (i.zero, i.size, i.bytes)) = some (some (.int .u8 0), 1, 1) := by kernel_rfl
section
variable {w w' w0 w1 : World} {n0 : Nat} {v v' : Value} {bs : List UInt8} {l : AL} {S : AS}
theorem ApB.uint {ax : Option Addr} {m q k : Nat} (h : ApB n0 w bs k w1 (.slice ax m q)) (h0 : n0 ≤ w.heap.size) (n : Nat) (hn : n < 18446744073709551616) (hl : bs.length + k ≤ 1000000) : Calls Tryz.prog 276 #[.slice ax m q, .int .u64 (n : Int)] w1 fun e w' => ∃ (a' : Option Addr) (m' q' : Nat), e = .returned (.slice a' m' q') ∧ Hid (ApB n0 w bs (k + 20) w' (.slice a' m' q')) := by
  obtain ⟨ds, h1, h2⟩ := h.row
  refine (appendUintZ h2 (Nat.le_trans h0 h.bel.size) n hn (by rw [List.length_append]; omega)).mono ?_
  rintro e w2 ⟨v, rfl, H⟩
  obtain ⟨es, _, h3⟩ := H.out.row
  obtain ⟨a', q', rfl⟩ := h3.shape
  exact ⟨a', _, q', rfl, hid (h.trans h1 H.out)⟩
set_option maxRecDepth 100000 in
set_option maxHeartbeats 2000000 in
theorem ApB.label {ax : Option Addr} {m q k : Nat} (h : ApB n0 w bs k w1 (.slice ax m q)) (h0 : n0 ≤ w.heap.size) (s : ByteArray) (hs : s.size ≤ 16) (n : Nat) (hn : n ≤ 9223372036854775807) (hl : bs.length + k ≤ 900000) : Calls Tryz.prog 270 #[.slice ax m q, .string s, .int .i64 (n : Int)] w1 fun e w' => ∃ (a' : Option Addr) (m' q' : Nat), e = .returned (.slice a' m' q') ∧ Hid (ApB n0 w bs (k + 36) w' (.slice a' m' q')) := by
  have HA := hid h
  have H0 := hid h0
  obtain ⟨ds, h1, h2⟩ := h.row
  have HR := hid h2
  have Hd := hid h1
  have hwr : IntKind.u64.wrap (n : Int) = (n : Int) := by rw [IntKind.wrap_u64]; omega
  have Hl := hid hl
  clear h h1 h2 h0 hl
  go_enter Tryz.func270, Tryz.ntmps270
  go_wp2_with (at_builtin; refine stopHere ?_)
  intro _
  refine wpList_app_s rfl _ _ HR.out rfl rfl s rfl (by have := Hl.out; have := Hd.out; rw [List.length_append]; omega) (Nat.le_trans H0.out HA.out.bel.size) ?_
  intro v2 w2 hr2 hk2
  obtain ⟨a2, q2, rfl⟩ := hr2.out.shape
  have HA2 := hid (HA.out.kep H0.out HR.out Hd.out hk2.out hr2.out)
  generalize hmm : (bs ++ ds ++ s.data.toList).length = m2 at HA2 ⊢
  clear hmm
  have HA3 := hid (HA2.out.mono (show k + s.data.toList.length ≤ k + 16 by
    have : s.data.toList.length = s.size := by rw [Array.length_toList]; rfl
    omega))
  clear HR hr2 hk2 HA HA2
  have HU := hid (HA3.out.uint H0.out n (by omega) (by have := Hl.out; omega))
  clear HA3
  go_wp2_with fail
  refine HU.out.mono ?_
  rintro e w3 ⟨a3, m3, q3, rfl, H3⟩
  clear HU
  go_wp2
  go_ret
  exact ⟨a3, m3, q3, rfl, H3⟩
theorem ApB.labelK {ax : Option Addr} {m q k g : Nat} {t : TypeId} {cs : List Value} (h : ApB n0 w bs k w1 (.slice ax m q)) (h0 : n0 ≤ w.heap.size) (hb : Blk w1 g t cs) (ht : t ≠ 5) (s : ByteArray) (hs : s.size ≤ 16) (n : Nat) (hn : n ≤ 9223372036854775807) (hl : bs.length + k ≤ 900000) : Calls Tryz.prog 270 #[.slice ax m q, .string s, .int .i64 (n : Int)] w1 fun e w' => ∃ (a' : Option Addr) (m' q' : Nat), e = .returned (.slice a' m' q') ∧ Hid (ApB n0 w bs (k + 36) w' (.slice a' m' q') ∧ Blk w' g t cs) := by
  obtain ⟨ds, h1, h2⟩ := h.row
  have h3 := (ApB.start h2).label (Nat.le_trans h0 h.bel.size) s hs n hn (by rw [List.length_append]; omega)
  refine h3.mono ?_
  rintro e w9 ⟨a9, m9, q9, rfl, H9⟩
  refine ⟨a9, m9, q9, rfl, hid ⟨?_, H9.out.kt _ _ _ hb ht⟩⟩
  have := h.trans h1 H9.out
  rw [Nat.zero_add] at this
  exact this
theorem info_pl : (Tryz.prog.info? 236).map (·.size) = some 5 := by kernel_rfl
set_option maxRecDepth 100000 in
set_option maxHeartbeats 4000000 in
theorem appendAddrZ (hr : OwR rtB n0 w (.slice none 0 0) bs) (h0 : n0 ≤ w.heap.size) (x : Int) (hx : U64 x) (hb : bs.length ≤ 1000) : Calls Tryz.prog 269 #[.slice none 0 0, .int .u64 x] w fun e w' => ∃ (a' : Option Addr) (m' q' : Nat), e = .returned (.slice a' m' q') ∧ Hid (ApB n0 w bs 120 w' (.slice a' m' q')) := by
  have H0 := hid h0
  have HA := hid (ApB.start hr)
  have Hl : Hid (bs.length ≤ 1000) := hid hb
  clear hr h0 hb
  by_cases hz : x = 0
  · as_aux_lemma =>
    subst hz
    go_enter Tryz.func269, Tryz.ntmps269
    go_wp2_with (at_builtin; refine stopHere ?_)
    intro _
    obtain ⟨ds, hd1, hd2⟩ := HA.out.row
    refine wpList_app_s rfl _ _ hd2 rfl rfl { data := #[110, 105, 108] } rfl (by have := Hl.out; rw [List.length_append]; show _ + 3 ≤ _; omega) (Nat.le_trans H0.out HA.out.bel.size) ?_
    intro v2_ w2_ hr2_ hk2_
    obtain ⟨a2_, q2_, rfl⟩ := hr2_.out.shape
    have HAs_ : Hid (ApB n0 w bs (0 + 3) w2_ (.slice a2_ (bs ++ ds ++ ({ data := #[110, 105, 108] } : ByteArray).data.toList).length q2_)) := hid (HA.out.kep H0.out hd2 hd1 hk2_.out hr2_.out)
    generalize hmm : (bs ++ ds ++ ({ data := #[110, 105, 108] } : ByteArray).data.toList).length = m2_ at HAs_ ⊢
    clear hmm hr2_ hk2_ hd2 hd1
    go_wp2
    go_ret
    exact ⟨a2_, m2_, q2_, rfl, hid (HAs_.out.mono (by decide))⟩
  have dz : (x == 0) = false := by simpa using hz
  clear hz
  by_cases hi : InH x
  rotate_left
  · as_aux_lemma =>
    have HD := hid (decode_no x hi w)
    obtain ⟨n, hn⟩ : ∃ n : Nat, x = (n : Int) := ⟨x.toNat, by have := hx.1; omega⟩
    have hn2 : n < 18446744073709551616 := by have := hx.2; omega
    subst hn
    clear hi hx
    go_enter Tryz.func269, Tryz.ntmps269
    go_wp2_with fail
    refine HD.out.mono ?_
    rintro e w2 ⟨rfl, hb2⟩
    have HA2 := hid (HA.out.below H0.out hb2)
    clear hb2 HA HD
    go_upto_region 4 with fail
    have HA3 := hid (HA2.out.below H0.out (nbel w2 (.cells #[.int .i64 0, .int .i64 0, .int .i64 0, .int .i64 0, .int .i64 0] 236)))
    generalize hw3 : w2.alloc _ = w3 at HA3 ⊢
    clear hw3 HA2
    go_wp2_with (at_builtin; refine stopHere ?_)
    intro _
    obtain ⟨ds, hd1, hd2⟩ := HA3.out.row
    refine wpList_app_s rfl _ _ hd2 rfl rfl { data := #[119, 105, 108, 100, 58] } rfl (by have := Hl.out; rw [List.length_append]; show _ + 5 ≤ _; omega) (Nat.le_trans H0.out HA3.out.bel.size) ?_
    intro v2_ w2_ hr2_ hk2_
    obtain ⟨a2_, q2_, rfl⟩ := hr2_.out.shape
    have HAs_ : Hid (ApB n0 w bs (0 + 5) w2_ (.slice a2_ (bs ++ ds ++ ({ data := #[119, 105, 108, 100, 58] } : ByteArray).data.toList).length q2_)) := hid (HA3.out.kep H0.out hd2 hd1 hk2_.out hr2_.out)
    generalize hmm : (bs ++ ds ++ ({ data := #[119, 105, 108, 100, 58] } : ByteArray).data.toList).length = m2_ at HAs_ ⊢
    clear hmm hr2_ hk2_ hd2 hd1
    have HU := hid (HAs_.out.uint H0.out n hn2 (by have := Hl.out; omega))
    clear HAs_
    go_wp2_with fail
    refine HU.out.mono ?_
    rintro e w5 ⟨a5, m5, q5, rfl, H5⟩
    go_wp2
    go_ret
    exact ⟨a5, m5, q5, rfl, hid (H5.out.mono (by decide))⟩
  as_aux_lemma =>
  have HD := hid (decode_ok x hi w)
  have hi1 := hi.1
  have hi2 := hi.2
  obtain ⟨b1, hb1⟩ : ∃ b1 : Nat, (x - 65536) / 512 = (b1 : Int) := ⟨((x - 65536) / 512).toNat, by omega⟩
  obtain ⟨b3, hb3⟩ : ∃ b3 : Nat, (x - 65536) / 16 % 32 = (b3 : Int) := ⟨((x - 65536) / 16 % 32).toNat, by omega⟩
  obtain ⟨b4, hb4⟩ : ∃ b4 : Nat, (x - 65536) % 16 = (b4 : Int) := ⟨((x - 65536) % 16).toNat, by omega⟩
  have l1 : b1 < 64 := by omega
  have l3 : b3 < 32 := by omega
  have l4 : b4 < 16 := by omega
  rw [hb1, hb3, hb4] at HD
  generalize x - 65536 = p0 at HD
  generalize p0 / 16 = p2 at HD
  clear hi hi1 hi2 hx hb1 hb3 hb4
  go_enter Tryz.func269, Tryz.ntmps269
  go_wp2_with fail
  refine HD.out.mono ?_
  rintro e w2 ⟨rfl, hb2⟩
  have HA2 := hid (HA.out.below H0.out hb2)
  clear hb2 HA HD
  obtain ⟨g, hg⟩ : ∃ g, w2.heap.size = g := ⟨_, rfl⟩
  have HA3 : Hid (ApB n0 w bs 0 (w2.alloc (.cells #[.int .i64 p0, .int .i64 (b1 : Int), .int .i64 p2, .int .i64 (b3 : Int), .int .i64 (b4 : Int)] 236)) (.slice none 0 0) ∧ Blk (w2.alloc (.cells #[.int .i64 p0, .int .i64 (b1 : Int), .int .i64 p2, .int .i64 (b3 : Int), .int .i64 (b4 : Int)] 236)) g 236 [.int .i64 p0, .int .i64 (b1 : Int), .int .i64 p2, .int .i64 (b3 : Int), .int .i64 (b4 : Int)]) := hid (by
    have kk := Blk.new w2 [.int .i64 p0, .int .i64 (b1 : Int), .int .i64 p2, .int .i64 (b3 : Int), .int .i64 (b4 : Int)] 236
    rw [hg] at kk
    exact ⟨HA2.out.below H0.out (nbel w2 _), kk⟩)
  go_upto_region 4 with fail
  (try simp only [hg])
  generalize hw3 : w2.alloc _ = w3 at HA3 ⊢
  clear hw3 HA2 hg
  have c1 := HA3.out.2.cell 1
  simp only [List.getElem?_cons_zero, List.getElem?_cons_succ] at c1
  have HL1 : Hid (Calls Tryz.prog 270 #[.slice none 0 0, .string { data := #[98] }, .int .i64 (b1 : Int)] w3 fun e w' => ∃ (a' : Option Addr) (m' q' : Nat), e = .returned (.slice a' m' q') ∧ Hid (ApB n0 w bs (0 + 36) w' (.slice a' m' q') ∧ Blk w' g 236 [.int .i64 p0, .int .i64 (b1 : Int), .int .i64 p2, .int .i64 (b3 : Int), .int .i64 (b4 : Int)])) := hid (HA3.out.1.labelK H0.out HA3.out.2 (by decide) { data := #[98] } (by decide) b1 (by omega) (by have := Hl.out; omega))
  go_wp2_with fail
  refine HL1.out.mono ?_
  rintro e w4 ⟨a4, m4, q4, rfl, HA4⟩
  clear HL1 HA3 c1
  have c3 := HA4.out.2.cell 3
  simp only [List.getElem?_cons_zero, List.getElem?_cons_succ] at c3
  have HL2 : Hid (Calls Tryz.prog 270 #[.slice a4 m4 q4, .string { data := #[46, 108] }, .int .i64 (b3 : Int)] w4 fun e w' => ∃ (a' : Option Addr) (m' q' : Nat), e = .returned (.slice a' m' q') ∧ Hid (ApB n0 w bs (0 + 36 + 36) w' (.slice a' m' q') ∧ Blk w' g 236 [.int .i64 p0, .int .i64 (b1 : Int), .int .i64 p2, .int .i64 (b3 : Int), .int .i64 (b4 : Int)])) := hid (HA4.out.1.labelK H0.out HA4.out.2 (by decide) { data := #[46, 108] } (by decide) b3 (by omega) (by have := Hl.out; omega))
  go_wp2_with fail
  refine HL2.out.mono ?_
  rintro e w5 ⟨a5, m5, q5, rfl, HA5⟩
  clear HL2 HA4 c3
  have c4 := HA5.out.2.cell 4
  simp only [List.getElem?_cons_zero, List.getElem?_cons_succ] at c4
  have HL3 := hid (HA5.out.1.label H0.out { data := #[46, 119] } (by decide) b4 (by omega) (by have := Hl.out; omega))
  go_wp2_with fail
  refine HL3.out.mono ?_
  rintro e w6 ⟨a6, m6, q6, rfl, HA6⟩
  clear HL3 HA5 c4
  go_wp2
  go_ret
  exact ⟨a6, m6, q6, rfl, hid (HA6.out.mono (by decide))⟩
set_option maxRecDepth 100000 in
theorem formatAddrZ (x : Int) (hx : U64 x) (w : World) : Calls Tryz.prog 244 #[.int .u64 x] w fun e w' => ∃ s : ByteArray, e = .returned (.string s) ∧ Hid (Below w.heap.size w w') := by
  have HA := hid (appendAddrZ (OwR.nil rtB w.heap.size w) (Nat.le_refl _) x hx (by decide))
  go_enter Tryz.func244, Tryz.ntmps244
  go_wp2_with fail
  refine HA.out.mono ?_
  rintro e w2 ⟨a2, m2, q2, rfl, H2⟩
  obtain ⟨ds, _, h2⟩ := H2.out.row
  have hcv := h2.str
  generalize hss : (⟨([] ++ ds).toArray⟩ : ByteArray) = ss at hcv
  have HB := hid H2.out.bel
  clear h2 H2 HA hss
  go_wp2
  go_ret
  exact ⟨ss, rfl, HB⟩
set_option maxRecDepth 100000 in
theorem tallyMarkZ (n : Nat) (hn : n < 16) (w : World) : Calls Tryz.prog 268 #[.int .u64 (n : Int)] w fun e w' => e = .returned (.int .u8 ((if n = 0 then 46 else if n < 10 then 48 + n else 87 + n : Nat) : Int)) ∧ w' = w := by
  by_cases h0 : n = 0
  · rw [if_pos h0]
    subst h0
    go_enter Tryz.func268, Tryz.ntmps268
    go_wp2
    go_ret
    exact ⟨rfl, rfl⟩
  · rw [if_neg h0]
    have d0 : ((n : Int) == 0) = false := by simp; omega
    by_cases h1 : n < 10
    · rw [if_pos h1]
      have d1 : decide ((n : Int) < 10) = true := decide_eq_true (by omega)
      have d1' : decide (n < 10) = true := decide_eq_true h1
      go_enter Tryz.func268, Tryz.ntmps268
      go_wp2
      go_ret
      exact ⟨by simp, rfl⟩
    · rw [if_neg h1]
      have d1 : decide ((n : Int) < 10) = false := decide_eq_false (by omega)
      have d1' : decide (n < 10) = false := decide_eq_false h1
      have e1 : 97 + (n : Int) - 10 = ((87 + n : Nat) : Int) := by omega
      go_enter Tryz.func268, Tryz.ntmps268
      go_wp2
      go_ret
      exact ⟨by first | rfl | rw [e1] | simp, rfl⟩
/-- A block of bytes. -/
def BB (n g : Nat) (w : World) : Prop := ∃ ds : List UInt8, ds.length = n ∧ Blk w g 5 (ds.map byV)
theorem BB.below {n g : Nat} (h : BB n g w) (hb : Below w.heap.size w w') : BB n g w' := by
  obtain ⟨ds, h1, h2⟩ := h
  exact ⟨ds, h1, h2.below hb⟩
theorem BB.put {n g : Nat} (h : BB n g w) (i : Nat) (x : Nat) (hx : x < 256) : BB n g (w.setCell ⟨g, i, none⟩ (.int .u8 (x : Int))) := by
  obtain ⟨ds, h1, h2⟩ := h
  refine ⟨ds.set i (UInt8.ofNat x), by simpa using h1, ?_⟩
  have := h2.set i (.int .u8 (x : Int))
  rw [List.map_set]
  have e : byV (UInt8.ofNat x) = .int .u8 (x : Int) := by
    unfold byV
    congr 1
    rw [UInt8.toNat_ofNat']
    omega
  rw [e]
  exact this
theorem BB.cell {n g : Nat} (h : BB n g w) {i : Nat} (hi : i < n) : (∃ v : Value, w.cell? ⟨g, i, none⟩ = some v) ∧ w.frozen? ⟨g, i, none⟩ = false := by
  obtain ⟨ds, h1, h2⟩ := h
  exact ⟨⟨(ds.map byV)[i]'(by rw [List.length_map]; omega), by rw [h2.cell i, List.getElem?_eq_getElem]⟩, h2.frozen i⟩
theorem BB.str {n g : Nat} (h : BB n g w) : ∃ s : ByteArray, (convert 252 9 (.slice (some ⟨g, 0, none⟩) n n)).run Tryz.prog w = .ok (.string s) w := by
  obtain ⟨ds, h1, h2⟩ := h
  subst h1
  refine ⟨⟨ds.toArray⟩, run_convert_bytes_back w 252 9 5 ⟨g, 0, none⟩ ds.length ds Tryz.underlying252 Tryz.underlying5 Tryz.underlying9 (fun j hj => ?_)⟩
  have ea : (⟨g, 0, none⟩ : Addr).add j = ⟨g, 0 + j, none⟩ := by unfold Addr.add; split <;> simp_all
  rw [ea, h2.cell, Nat.zero_add, List.getElem?_map, List.getElem?_eq_getElem hj]
  rfl
theorem BB.new {n g : Nat} (hg : w.heap.size = g) : BB n g (w.alloc (.cells (madeCells #[.int .u8 0] n) 5)) := by
  have e : madeCells #[.int .u8 0] n = ((List.replicate n (0 : UInt8)).map byV).toArray := by
    apply Array.ext'
    rw [toList_madeCells_one, List.map_replicate]
    rfl
  rw [e]
  have kk := Blk.new w ((List.replicate n (0 : UInt8)).map byV) 5
  rw [hg] at kk
  exact ⟨_, by simp, kk⟩
/-- A map under way. -/
structure MB (l : AL) (S : AS) (w0 : World) (n g : Nat) (w : World) : Prop where
  am0 : AM l S w0
  bel : Below w0.heap.size w0 w
  b : BB n g w
  lo : w0.heap.size ≤ g
theorem MB.am {n g : Nat} (h : MB l S w0 n g w) : AM l S w := h.am0.below h.bel
theorem MB.below {n g : Nat} (h : MB l S w0 n g w) (hb : Below w.heap.size w w') : MB l S w0 n g w' := ⟨h.am0, h.bel.trans (hb.mono h.bel.size), h.b.below hb, h.lo⟩
theorem MB.put {n g : Nat} (h : MB l S w0 n g w) (i x : Nat) (hx : x < 256) : MB l S w0 n g (w.setCell ⟨g, i, none⟩ (.int .u8 (x : Int))) :=
  ⟨h.am0, h.bel.trans (((Upd.refl g w).setCell (p := ⟨g, i, none⟩) rfl _).below h.lo h.bel.size), h.b.put i x hx, h.lo⟩
set_option maxRecDepth 100000 in
set_option maxHeartbeats 4000000 in
theorem heapMapZ (h : AM l S w) : Calls Tryz.prog 243 #[.pointer (some ⟨l.a, 0, none⟩)] w fun e w' => ∃ s : ByteArray, e = .returned (.string s) ∧ Hid (Below w.heap.size w w') := by
  have hmk : ∀ w : World, (Instr.makeSlice 252 (.int .i64 64) (.int .i64 64)).run Tryz.prog w = .ok (.slice (some ⟨w.heap.size, 0, none⟩) 64 64) (w.alloc (.cells (madeCells #[.int .u8 0] 64) 5)) := run_make_row' (P := Tryz.prog) 252 5 (.int .u8 0) 1 (by kernel_rfl) info_u8Z rfl .i64 .i64 64 (by omega) (by omega)
  obtain ⟨g, hg⟩ : ∃ g, w.heap.size = g := ⟨_, rfl⟩
  have H0 : Hid (MB l S w 64 g (w.alloc (.cells (madeCells #[.int .u8 0] 64) 5))) := hid ⟨h, nbel w _, BB.new hg, by omega⟩
  clear h
  go_enter Tryz.func243, Tryz.ntmps243
  go_upto_region 2 with fail
  (try simp only [hg])
  generalize hw1 : w.alloc _ = w1 at H0 ⊢
  clear hw1 hg hmk
  go_upto_region 3 with fail
  go_loopw [10] (fun u wr => ∃ b : Nat, u = .int .i64 (b : Int) ∧ b ≤ 64 ∧ Hid (MB l S w 64 g wr)) (fun u _ => 64 - (intOf u).toNat)
  case atStart => exact ⟨0, rfl, by omega, H0⟩
  case round =>
  clear H0
  obtain ⟨b, rfl, hb, HK⟩ := hrel
  by_cases hbn : b < 64
  rotate_left
  · as_aux_lemma =>
    have dq : decide ((b : Int) < 64) = false := decide_eq_false (by omega)
    have dq' : decide (b < 64) = false := decide_eq_false (by omega)
    obtain ⟨s, hcv⟩ := HK.out.b.str
    go_wp2
    go_ret
    exact ⟨s, rfl, hid HK.out.bel⟩
  as_aux_lemma =>
  have dq : decide ((b : Int) < 64) = true := decide_eq_true (by omega)
  have dq' : decide (b < 64) = true := decide_eq_true (by omega)
  have HC := hid (blockClassZ HK.out.am (b : Int))
  rw [if_pos (show BkI (b : Int) from ⟨by omega, by omega⟩)] at HC
  have hcl := clV_cases (flV S (b : Int))
  generalize clV (flV S (b : Int)) = k at *
  generalize blC (b : Int) = cc at *
  go_wp2_with fail
  refine HC.out.mono ?_
  rintro e w3 ⟨rfl, HB⟩
  have H3 := hid (HK.out.below HB.out)
  clear HC HB HK
  obtain ⟨⟨cv, ccv⟩, cz⟩ := H3.out.b.cell (i := b) (by omega)
  rcases hcl with rfl | rfl | rfl
  · as_aux_lemma =>
    go_upto_region 13 with fail
    have HP_ := hid (H3.out.put b 46 (by decide))
    have HP2 : Hid (MB l S w 64 g (w3.setCell ⟨g, b, none⟩ (.int .u8 46))) := HP_
    generalize hz_ : World.setCell _ (⟨g, b, none⟩ : Addr) _ = w4 at HP2 ⊢
    clear hz_ H3 HP_ ccv cz
    go_wp2
    exact ⟨⟨b + 1, by go_num, by omega, HP2⟩, by simp [intOf]; omega⟩
  · as_aux_lemma =>
    go_upto_region 13 with fail
    have HP_ := hid (H3.out.put b 43 (by decide))
    have HP2 : Hid (MB l S w 64 g (w3.setCell ⟨g, b, none⟩ (.int .u8 43))) := HP_
    generalize hz_ : World.setCell _ (⟨g, b, none⟩ : Addr) _ = w4 at HP2 ⊢
    clear hz_ H3 HP_ ccv cz
    go_wp2
    exact ⟨⟨b + 1, by go_num, by omega, HP2⟩, by simp [intOf]; omega⟩
  · as_aux_lemma =>
    go_upto_region 13 with fail
    have HP_ := hid (H3.out.put b 35 (by decide))
    have HP2 : Hid (MB l S w 64 g (w3.setCell ⟨g, b, none⟩ (.int .u8 35))) := HP_
    generalize hz_ : World.setCell _ (⟨g, b, none⟩ : Addr) _ = w4 at HP2 ⊢
    clear hz_ H3 HP_ ccv cz
    go_wp2
    exact ⟨⟨b + 1, by go_num, by omega, HP2⟩, by simp [intOf]; omega⟩
set_option maxRecDepth 100000 in
set_option maxHeartbeats 4000000 in
theorem blockMapZ (h : AM l S w) (x : Int) : Calls Tryz.prog 242 #[.pointer (some ⟨l.a, 0, none⟩), .int .i64 x] w fun e w' => ∃ (s : ByteArray) (c : Int), e = .returned (.tuple #[.string s, .int .u8 c]) ∧ Hid (Below w.heap.size w w') := by
  by_cases hx : BkI x
  rotate_left
  · as_aux_lemma =>
    have HF := hid (firstLn_b hx w)
    clear h hx
    go_enter Tryz.func242, Tryz.ntmps242
    (go_wp2_with fail; refine (HF.out).mono ?_; rintro e_ w_ ⟨he_, hw_⟩; subst he_; have hs_ := hw_.symm; clear hw_; subst hs_)
    go_wp2
    go_ret2
    exact ⟨_, _, rfl, hid (Below.refl _ _)⟩
  as_aux_lemma =>
  obtain ⟨bk, rfl, hbk⟩ := hx.nat
  have HF := hid (firstLn_g hbk w)
  have hmk : ∀ w : World, (Instr.makeSlice 252 (.int .i64 32) (.int .i64 32)).run Tryz.prog w = .ok (.slice (some ⟨w.heap.size, 0, none⟩) 32 32) (w.alloc (.cells (madeCells #[.int .u8 0] 32) 5)) := run_make_row' (P := Tryz.prog) 252 5 (.int .u8 0) 1 (by kernel_rfl) info_u8Z rfl .i64 .i64 32 (by omega) (by omega)
  obtain ⟨g, hg⟩ : ∃ g, w.heap.size = g := ⟨_, rfl⟩
  have H0 : Hid (MB l S w 32 g (w.alloc (.cells (madeCells #[.int .u8 0] 32) 5))) := hid ⟨h, nbel w _, BB.new hg, by omega⟩
  have hm : 32 * bk + 32 ≤ 2048 := by omega
  generalize 32 * bk = m at *
  clear h hx hbk
  go_enter Tryz.func242, Tryz.ntmps242
  (go_wp2_with fail; refine (HF.out).mono ?_; rintro e_ w_ ⟨he_, hw_⟩; subst he_; have hs_ := hw_.symm; clear hw_; subst hs_)
  go_upto_region 5 with fail
  (try simp only [hg])
  generalize hw1 : w.alloc _ = w1 at H0 ⊢
  clear hw1 hg hmk
  go_upto_region 6 with fail
  go_loopw [23] (fun u wr => ∃ b : Nat, u = .int .i64 (b : Int) ∧ b ≤ 32 ∧ Hid (MB l S w 32 g wr)) (fun u _ => 32 - (intOf u).toNat)
  case atStart => exact ⟨0, rfl, by omega, H0⟩
  case round =>
  clear H0
  obtain ⟨b, rfl, hb, HK⟩ := hrel
  by_cases hbn : b < 32
  rotate_left
  · as_aux_lemma =>
    have dq : decide ((b : Int) < 32) = false := decide_eq_false (by omega)
    have dq' : decide (b < 32) = false := decide_eq_false (by omega)
    obtain ⟨s, hcv⟩ := HK.out.b.str
    go_wp2
    go_ret2
    exact ⟨s, 0, rfl, hid HK.out.bel⟩
  as_aux_lemma =>
  have dq : decide ((b : Int) < 32) = true := decide_eq_true (by omega)
  have dq' : decide (b < 32) = true := decide_eq_true (by omega)
  have HG : Hid (Calls Tryz.prog 153 #[.pointer (some ⟨l.tt, 0, none⟩), .int .i64 ((m : Int) + (b : Int))] wr fun e w' => e = .returned (.tuple #[.int .u64 ((eN 4 16 S.T (m + b) : Nat) : Int), .bool true]) ∧ Drew wr w') := hid (by
    have := HK.out.am.tt.get (m + b) (by omega)
    rw [show ((m + b : Nat) : Int) = (m : Int) + (b : Int) by omega] at this
    exact this)
  have k4 := HK.out.am.cells.2.2.2.2.1
  have hlt := eN_lt 4 16 S.T (m + b)
  generalize eN 4 16 S.T (m + b) = v at *
  have hv : v < 16 := hlt
  have HT := hid (fun wz => tallyMarkZ v hv wz)
  obtain ⟨d, hd⟩ : ∃ d : Nat, (if v = 0 then 46 else if v < 10 then 48 + v else 87 + v : Nat) = d := ⟨_, rfl⟩
  have hd2 : d < 256 := by
    rw [← hd]
    split
    · omega
    · split <;> omega
  rw [hd] at HT
  clear hd hlt
  go_wp2_with fail
  refine HG.out.mono ?_
  rintro e w3 ⟨rfl, hd3⟩
  have H3 := hid (HK.out.below (hd3.below _))
  clear hd3 HG HK k4
  obtain ⟨⟨cv, ccv⟩, cz⟩ := H3.out.b.cell (i := b) (by omega)
  (go_wp2_with fail; refine (HT.out w3).mono ?_; rintro e_ w_ ⟨he_, hw_⟩; subst he_; have hs_ := hw_.symm; clear hw_; subst hs_)
  go_upto_region 10 with fail
  have HP2 : Hid (MB l S w 32 g (w3.setCell ⟨g, b, none⟩ (.int .u8 (d : Int)))) := hid (H3.out.put b d hd2)
  generalize hz_ : World.setCell _ (⟨g, b, none⟩ : Addr) _ = w4 at HP2 ⊢
  clear hz_ H3 ccv cz
  go_wp2
  exact ⟨⟨b + 1, by go_num, by omega, HP2⟩, by simp [intOf]; omega⟩
end
end Go.Proofs.Qxb6500887aGreat
