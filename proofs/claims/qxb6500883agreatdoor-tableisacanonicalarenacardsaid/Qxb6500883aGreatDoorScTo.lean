/- Texts of scripts: Text (written by tools/mk_to.py). -/
import Derived.Test.Qxb6500883aGreatDoorScTn
import Derived.Laws.IdiomStrings
namespace Go.Proofs.Qxb6500883aGreatDoor
open Go.RowKit
set_option linter.unusedSimpArgs false
set_option linter.unusedVariables false
/-- A step of a script. -/
structure OpT where
  k : Nat
  a : Nat
  b : Nat
  c : Nat
  raw : ByteArray
def otC (o : OpT) : List Value := [.int .u8 (o.k : Int), .int .u64 (o.a : Int), .int .u64 (o.b : Int), .int .u64 (o.c : Int), .string o.raw]
structure OtB (o : OpT) : Prop where
  k : o.k < 256
  a : o.a < 18446744073709551616
  b : o.b < 18446744073709551616
  c : o.c < 18446744073709551616
  raw : o.raw.size ≤ 140737488351232
def ScrT (w : World) (a : Option Addr) (n c : Nat) (l : List OpT) : Prop := RowOf w 5 otC a n c l ∧ ∀ o ∈ l, OtB o
theorem ScrT.below {w w' : World} {a : Option Addr} {n c : Nat} {l : List OpT} (h : ScrT w a n c l) (hb : Below w.heap.size w w') : ScrT w' a n c l := ⟨h.1.below hb, h.2⟩
def rwS (l : List OpT) : Nat := (l.map (·.raw.size)).sum
theorem rwS_succ {l : List OpT} {i : Nat} {o : OpT} (h : l[i]? = some o) : rwS (l.take (i + 1)) = rwS (l.take i) + o.raw.size := by
  have hi := (List.getElem?_eq_some_iff.1 h).1
  have e : l.take (i + 1) = l.take i ++ [o] := by
    rw [List.take_add_one, h]
    rfl
  unfold rwS
  rw [e, List.map_append, List.sum_append]
  simp
theorem rwS_le (l : List OpT) (i : Nat) : rwS (l.take i) ≤ rwS l := by
  have e := List.take_append_drop i l
  have : rwS l = rwS (l.take i) + rwS (l.drop i) := by
    unfold rwS
    rw [← List.sum_append, ← List.map_append, e]
  omega
/-- The text so far. -/
structure TtI (w : World) (C L : Nat) (wr : World) (b : Value) : Prop where
  row : ∃ ds : List UInt8, OwR rtB w.heap.size wr b ds ∧ Gd C ds ∧ ds.length ≤ L
  bel : Below w.heap.size w wr
def txC (l : List OpT) (i : Nat) : Nat := 6500 * i + rwS (l.take i)
def txL (l : List OpT) (i : Nat) : Nat := 600000 * i + rwS (l.take i)
section
variable {N mg : Nat} {w w' : World} {a : Option Addr} {n c : Nat} {l : List OpT} {ds es : List UInt8} {i : Nat} {op : OpT} {wr w1 : World} {v : Value}
theorem txC_s (h : l[i]? = some op) : txC l (i + 1) = txC l i + 6500 + op.raw.size ∧ txL l (i + 1) = txL l i + 600000 + op.raw.size := by
  unfold txC txL
  rw [rwS_succ h]
  omega
theorem TtI.app (hb : Below w.heap.size w w1) (hG : Gd (txC l i) ds) (hL : ds.length ≤ txL l i) (h : l[i]? = some op) (hr : OwR rtB w.heap.size w1 v (ds ++ es)) (he : es.length ≤ 6500 ∨ es.length = op.raw.size) : TtI w (txC l (i + 1)) (txL l (i + 1)) w1 v := by
  obtain ⟨e1, e2⟩ := txC_s h
  exact ⟨⟨_, hr, hG.app.mono (by omega), by rw [List.length_append]; omega⟩, hb⟩
theorem TtI.any (hb : Below w.heap.size w w1) {C : Nat} (hG : Gd C ds) (hC : C ≤ txC l i + 6500 + op.raw.size) (hL : ds.length ≤ txL l i + 600000 + op.raw.size) (h : l[i]? = some op) (hr : OwR rtB w.heap.size w1 v ds) : TtI w (txC l (i + 1)) (txL l (i + 1)) w1 v := by
  obtain ⟨e1, e2⟩ := txC_s h
  exact ⟨⟨_, hr, hG.mono (by omega), by omega⟩, hb⟩
theorem set_split {ds : List UInt8} {k : Nat} (hk : k < ds.length) (y : UInt8) : ds.set k y = ds.take k ++ [y] ++ ds.drop (k + 1) ∧ ds = ds.take k ++ [ds[k]] ++ ds.drop (k + 1) := by
  constructor
  · rw [List.set_eq_take_append_cons_drop, if_pos hk, List.append_assoc]; rfl
  · rw [List.append_assoc]
    show ds = ds.take k ++ (ds[k] :: ds.drop (k + 1))
    rw [← List.drop_eq_getElem_cons hk, List.take_append_drop]
theorem OwR.cap {a : Option Addr} {n c n0 : Nat} (h : OwR rtB n0 w (.slice a n c) ds) : n ≤ c ∧ (∀ ad, a = some ad → ad.spot = none) ∧ ((a = none ∧ n = 0 ∧ c = 0) ∨ ∃ g, a = some ⟨g, 0, none⟩) := by
  have hn : ds.length = n := h.rx.src.2.2
  rcases h.2 with ⟨h1, h2⟩ | ⟨g, cap, cur, h1, h2, h3, h4, h5, h6, h7⟩
  · injection h1 with e1 e2 e3
    subst e1 e2 e3
    exact ⟨Nat.le_refl _, (fun ad h => (by cases h)), .inl ⟨rfl, rfl, rfl⟩⟩
  · injection h1 with e1 e2 e3
    subst e1 e3
    exact ⟨by omega, (fun ad h => (by cases h; rfl)), .inr ⟨g, rfl⟩⟩
/-- The rest of a row as a source. -/
theorem OwR.rest {a : Option Addr} {n c n0 k : Nat} (h : OwR rtB n0 w (.slice a n c) ds) (hk : k ≤ n) : ∃ ax kk, (∀ wz : World, (Instr.sliceAt 28 (.slice a n c) (some (.int .u64 (k : Int))) none none).run Tryz.prog wz = .ok (.slice ax (n - k) kk) wz) ∧ (ax = none → n - k = 0 ∧ kk = 0) ∧ ∀ wz : World, (∀ g, Value.ownBlock (.slice a n c) = some g → wz.heap[g]? = w.heap[g]?) → ∀ ad, ax = some ad → ∀ j u, ((ds.drop k).map byV)[j]? = some u → wz.cell? (ad.add j) = some u := by
  obtain ⟨h1, h2, h3⟩ := h.cap
  have hn : ds.length = n := h.rx.src.2.2
  refine ⟨_, _, fun wz => slice_lo a n c k hk wz, ?_, ?_⟩
  · intro e
    rcases h3 with ⟨e1, e2, e3⟩ | ⟨g, e1⟩
    · omega
    · subst e1
      split at e <;> cases e
  · intro wz hw ad e j u hu
    have hj := (List.getElem?_eq_some_iff.1 hu).1
    rw [List.length_map, List.length_drop] at hj
    rcases h3 with ⟨e1, e2, e3⟩ | ⟨g, e1⟩
    · omega
    · subst e1
      rw [if_neg (by omega)] at e
      simp only [Option.map_some, Option.some.injEq] at e
      rw [← e, add_lit, add_lit, Nat.zero_add, keepCell _ (hw g rfl)]
      exact h.cells hu
set_option maxRecDepth 100000 in
set_option maxHeartbeats 16000000 in
theorem textW (hs : ScrT w a n c l) (hg : Gl N mg w) (hsm : n + rwS l ≤ 65536) : Calls Tryz.prog 9 #[.slice a n c] w fun e w' => ∃ v, e = .returned v ∧ Hid (TtI w 450000000 60000000000 w' v) := by
  have HS := hid hs
  have HG := hid hg
  have hn0 : n ≤ 65536 := by omega
  have hN := hg.sz
  have HN : Hid (N ≤ w.heap.size) := hid hN
  have hln : l.length = n := hs.1.1
  have H0 : Hid (TtI w (txC l 0) (txL l 0) w (.slice none 0 0)) := hid ⟨⟨[], OwR.nil _ _ _, Gd.nil _, Nat.zero_le _⟩, Below.refl _ _⟩
  have Hsm := hid hsm
  have Hln := hid hln
  clear hs hg hN hsm hln
  go_enter Tryz.func9, Tryz.ntmps9
  go_upto_region 3 with fail
  go_loopw [3, 13] (fun s t wr => ∃ (i : Nat) (b : Value), s = b ∧ t = .int .i64 (i : Int) ∧ i ≤ n ∧ Hid (TtI w (txC l i) (txL l i) wr b)) (fun _ t _ => n - (intOf t).toNat)
  case atStart => exact ⟨0, _, rfl, rfl, Nat.zero_le _, H0⟩
  case round =>
  obtain ⟨i, b, rfl, rfl, hi, HL⟩ := hrel
  clear H0
  by_cases hin : i < n
  rotate_left
  · have d1 : decide ((i : Int) < (n : Int)) = false := decide_eq_false (by omega)
    have HQ : Hid (TtI w 450000000 60000000000 wr u3) := hid (by
      obtain ⟨ds, h1, h2, h3⟩ := HL.out.row
      have hr := rwS_le l i
      have hs := Hsm.out
      unfold txC at h2
      unfold txL at h3
      exact ⟨⟨ds, h1, h2.mono (by omega), by omega⟩, HL.out.bel⟩)
    clear HL
    go_wp2
    go_ret
    exact ⟨_, rfl, HQ⟩
  have d1 : decide ((i : Int) < (n : Int)) = true := decide_eq_true (by omega)
  have i1 : (i : Int) < (n : Int) := by omega
  obtain ⟨op, hop, bb, off, rfl, hbb, hc⟩ := HS.out.1.cell hin
  have hob := HS.out.2 op (List.mem_of_getElem? hop)
  have Hop := hid hop
  obtain ⟨kd, oa, ob, oc, raw⟩ := op
  obtain ⟨hk256, hoa, hob, hoc, hrw⟩ := hob
  dsimp only at hk256 hoa hob hoc
  clear hrw
  have kc : ∀ j, wr.cell? ⟨bb, off + i * 5 + j, none⟩ = w.cell? ⟨bb, off + i * 5 + j, none⟩ := fun j => keepCell _ (HL.out.bel.block bb hbb)
  have c0 : wr.cell? ⟨bb, off + i * 5, none⟩ = some (.int .u8 (kd : Int)) := (kc 0).trans (hc 0 (by decide))
  have c1 : wr.cell? ⟨bb, off + i * 5 + 1, none⟩ = some (.int .u64 (oa : Int)) := (kc 1).trans (hc 1 (by decide))
  have c2 : wr.cell? ⟨bb, off + i * 5 + 2, none⟩ = some (.int .u64 (ob : Int)) := (kc 2).trans (hc 2 (by decide))
  have c3 : wr.cell? ⟨bb, off + i * 5 + 3, none⟩ = some (.int .u64 (oc : Int)) := (kc 3).trans (hc 3 (by decide))
  have c4 : wr.cell? ⟨bb, off + i * 5 + 4, none⟩ = some (.string raw) := (kc 4).trans (hc 4 (by decide))
  clear hc kc hop
  obtain ⟨ds, hd1, hd2, hd3⟩ := HL.out.row
  obtain ⟨ax, q, rfl⟩ := hd1.shape
  have hdl : ds.length ≤ 60000000000 := by
    have hr := rwS_le l i
    have hs := Hsm.out
    unfold txL at hd3
    omega
  have hraw : raw.size ≤ 65536 := by
    have h1 := rwS_succ Hop.out
    have h2 := rwS_le l (i + 1)
    have h3 := Hsm.out
    dsimp only at h1
    omega
  have HR0 := hid hd1
  have HGd := hid hd2
  have HLn := hid hd3
  have HBw := hid HL.out.bel
  clear hd1 hd2 hd3 HL
  obtain ⟨p, hp⟩ : ∃ p, wr.heap.size = p := ⟨_, rfl⟩
  have k0 := Blk.new wr [.int .u8 (kd : Int), .int .u64 (oa : Int), .int .u64 (ob : Int), .int .u64 (oc : Int), .string raw] 85
  rw [hp] at k0
  have hb1 : Below wr.heap.size wr (wr.alloc (.cells [.int .u8 (kd : Int), .int .u64 (oa : Int), .int .u64 (ob : Int), .int .u64 (oc : Int), .string raw].toArray 85)) := nbel wr _
  go_upto_region 5 with fail
  (try simp only [hp])
  generalize hw1 : wr.alloc _ = w1 at k0 hb1 ⊢
  clear hw1 hp c0 c1 c2 c3 c4
  have HP := hid k0
  have cK : w1.cell? ⟨p, 0, none⟩ = some (.int .u8 (kd : Int)) := k0.cell 0
  have cA : w1.cell? ⟨p, 1, none⟩ = some (.int .u64 (oa : Int)) := k0.cell 1
  have cB : w1.cell? ⟨p, 2, none⟩ = some (.int .u64 (ob : Int)) := k0.cell 2
  have cC : w1.cell? ⟨p, 3, none⟩ = some (.int .u64 (oc : Int)) := k0.cell 3
  have cR : w1.cell? ⟨p, 4, none⟩ = some (.string raw) := k0.cell 4
  have HR := hid (HR0.out.below hb1)
  have HB := hid (HBw.out.trans (hb1.mono HBw.out.size))
  have hz : w.heap.size ≤ w1.heap.size := HB.out.size
  have HG1 := hid (HG.out.below (HB.out.mono HN.out))
  clear k0 hb1 HR0 HBw
  obtain ⟨m, hm⟩ : ∃ m, ds.length = m := ⟨_, rfl⟩
  have Hm := hid hm
  rw [hm] at HR hdl
  (try simp only [hm])
  clear hm
  obtain ⟨k12, e12, h12⟩ : ∃ q : Nat, (kd : Int) % 12 = (q : Int) ∧ q < 12 := ⟨kd % 12, by omega, by omega⟩
  have ewm : IntKind.u64.wrap (m : Int) = (m : Int) := by rw [IntKind.wrap_u64]; omega
  go_upto_region 7 with fail
  obtain rfl | rfl | rfl | rfl | rfl | rfl | rfl | rfl | rfl | rfl | rfl | rfl : k12 = 0 ∨ k12 = 1 ∨ k12 = 2 ∨ k12 = 3 ∨ k12 = 4 ∨ k12 = 5 ∨ k12 = 6 ∨ k12 = 7 ∨ k12 = 8 ∨ k12 = 9 ∨ k12 = 10 ∨ k12 = 11 := by omega
  · go_wp2_with (at_builtin; refine stopHere ?_)
    intro _
    refine wpList_app_s rfl _ _ HR.out rfl rfl _ rfl (by rw [Hm.out]; omega) hz ?_
    intro v3 w3 HR3 HK3
    have HQ : Hid (TtI w (txC l (i + 1)) (txL l (i + 1)) w3 v3) := hid (TtI.app (HB.out.trans (HK3.out.below HR.out.hi hz)) HGd.out HLn.out Hop.out HR3.out (.inr rfl))
    clear HR3 HK3
    go_wp2
    exact ⟨⟨i + 1, _, rfl, by go_num, by omega, HQ⟩, by simp [intOf]; omega⟩
  · go_wp2_with fail
    refine (appendConstW HN.out HG1.out hoa hob hoc HR.out hz (by rw [Hm.out]; omega)).mono ?_
    rintro e w3 ⟨v3, rfl, HT⟩
    have HQ : Hid (TtI w (txC l (i + 1)) (txL l (i + 1)) w3 v3) := hid (by obtain ⟨es, he, hr⟩ := HT.out.row; exact TtI.app (HB.out.trans HT.out.bel) HGd.out HLn.out Hop.out hr (.inl he))
    clear HT
    go_wp2
    exact ⟨⟨i + 1, _, rfl, by go_num, by omega, HQ⟩, by simp [intOf]; omega⟩
  · go_wp2_with fail
    refine (appendAliasW HN.out HG1.out hoa hob hoc HR.out hz (by rw [Hm.out]; omega)).mono ?_
    rintro e w3 ⟨v3, rfl, HT⟩
    have HQ : Hid (TtI w (txC l (i + 1)) (txL l (i + 1)) w3 v3) := hid (by obtain ⟨es, he, hr⟩ := HT.out.row; exact TtI.app (HB.out.trans HT.out.bel) HGd.out HLn.out Hop.out hr (.inl he))
    clear HT
    go_wp2
    exact ⟨⟨i + 1, _, rfl, by go_num, by omega, HQ⟩, by simp [intOf]; omega⟩
  · go_wp2_with fail
    refine (appendContainerW HN.out HG1.out hoa hob hoc HR.out hz (by rw [Hm.out]; omega)).mono ?_
    rintro e w3 ⟨v3, rfl, HT⟩
    have HQ : Hid (TtI w (txC l (i + 1)) (txL l (i + 1)) w3 v3) := hid (by obtain ⟨es, he, hr⟩ := HT.out.row; exact TtI.app (HB.out.trans HT.out.bel) HGd.out HLn.out Hop.out hr (.inl he))
    clear HT
    go_wp2
    exact ⟨⟨i + 1, _, rfl, by go_num, by omega, HQ⟩, by simp [intOf]; omega⟩
  · go_wp2_with fail
    refine (appendUnionW HN.out HG1.out hoa hob hoc HR.out hz (by rw [Hm.out]; omega)).mono ?_
    rintro e w3 ⟨v3, rfl, HT⟩
    have HQ : Hid (TtI w (txC l (i + 1)) (txL l (i + 1)) w3 v3) := hid (by obtain ⟨es, he, hr⟩ := HT.out.row; exact TtI.app (HB.out.trans HT.out.bel) HGd.out HLn.out Hop.out hr (.inl he))
    clear HT
    go_wp2
    exact ⟨⟨i + 1, _, rfl, by go_num, by omega, HQ⟩, by simp [intOf]; omega⟩
  · go_wp2_with fail
    refine (appendChainW hoa hob hoc HR.out hz (by rw [Hm.out]; omega)).mono ?_
    rintro e w3 ⟨v3, rfl, HT⟩
    have HQ : Hid (TtI w (txC l (i + 1)) (txL l (i + 1)) w3 v3) := hid (by obtain ⟨es, he, hr⟩ := HT.out.row; exact TtI.app (HB.out.trans HT.out.bel) HGd.out HLn.out Hop.out hr (.inl he))
    clear HT
    go_wp2
    exact ⟨⟨i + 1, _, rfl, by go_num, by omega, HQ⟩, by simp [intOf]; omega⟩
  · go_wp2_with fail
    refine (appendNestW hoa hob hoc HR.out hz (by rw [Hm.out]; omega)).mono ?_
    rintro e w3 ⟨v3, rfl, HT⟩
    have HQ : Hid (TtI w (txC l (i + 1)) (txL l (i + 1)) w3 v3) := hid (by obtain ⟨es, he, hr⟩ := HT.out.row; exact TtI.app (HB.out.trans HT.out.bel) HGd.out HLn.out Hop.out hr (.inl he))
    clear HT
    go_wp2
    exact ⟨⟨i + 1, _, rfl, by go_num, by omega, HQ⟩, by simp [intOf]; omega⟩
  · go_wp2_with fail
    refine (appendFloodW hoa hob hoc HR.out hz (by rw [Hm.out]; omega)).mono ?_
    rintro e w3 ⟨v3, rfl, HT⟩
    have HQ : Hid (TtI w (txC l (i + 1)) (txL l (i + 1)) w3 v3) := hid (by obtain ⟨es, he, hf, hr⟩ := HT.out.row; exact TtI.any (HB.out.trans HT.out.bel) (HGd.out.fld hf) (by omega) (by rw [List.length_append]; have := HLn.out; omega) Hop.out hr)
    clear HT
    go_wp2
    exact ⟨⟨i + 1, _, rfl, by go_num, by omega, HQ⟩, by simp [intOf]; omega⟩
  · obtain ⟨m1, em1, hm1⟩ : ∃ q : Nat, IntKind.u64.wrap ((m : Int) + 1) = (q : Int) ∧ q = m + 1 := ⟨m + 1, by rw [IntKind.wrap_u64]; omega, rfl⟩
    obtain ⟨at_, eat, hat⟩ : ∃ q : Nat, (oa : Int).tmod (m1 : Int) = (q : Int) ∧ q ≤ m := ⟨oa % m1, by rw [Int.tmod_eq_emod_of_nonneg (by omega)]; exact (Int.natCast_emod oa m1).symm, by have := Nat.mod_lt oa (show 0 < m1 by omega); omega⟩
    have hm1p : ¬ (m1 : Int) = 0 := by omega
    have hm1q : ¬ m1 = 0 := by omega
    clear hm1
    obtain ⟨hcp, hsp, hax⟩ := HR.out.cap
    have hsl : ∀ wz : World, (Instr.sliceAt 28 (.slice ax m q) none (some (.int .u64 (at_ : Int))) none).run Tryz.prog wz = .ok (.slice ax at_ q) wz := fun wz => slice_hi ax m q at_ (by omega) hsp wz
    have HQ : Hid (TtI w (txC l (i + 1)) (txL l (i + 1)) w1 (.slice ax at_ q)) := hid (TtI.any HB.out (show Gd (txC l i) (ds.take at_) from Gd.pre (x := ds.drop at_) (by rw [List.take_append_drop]; exact HGd.out)) (by omega) (by rw [List.length_take]; have := HLn.out; omega) Hop.out (HR.out.cut hat))
    clear hsp hax
    go_wp2
    exact ⟨⟨i + 1, _, rfl, by go_num, by omega, HQ⟩, by simp [intOf]; omega⟩
  · by_cases hm0 : m = 0
    · subst hm0
      have HQ : Hid (TtI w (txC l (i + 1)) (txL l (i + 1)) w1 (.slice ax 0 q)) := hid (TtI.any HB.out HGd.out (by omega) (by have := HLn.out; omega) Hop.out HR.out)
      go_wp2
      exact ⟨⟨i + 1, _, rfl, by go_num, by omega, HQ⟩, by simp [intOf]; omega⟩
    · have dm0 : decide ((0 : Int) < (m : Int)) = true := decide_eq_true (by omega)
      have dm1 : 0 < m := by omega
      have dm2 : ¬ (m : Int) = 0 := by omega
      obtain ⟨g, rfl⟩ : ∃ g, ax = some ⟨g, 0, none⟩ := by
        rcases HR.out.cap.2.2 with ⟨_, h, _⟩ | h
        · omega
        · exact h
      obtain ⟨at_, eat, hat⟩ : ∃ q : Nat, (oa : Int).tmod (m : Int) = (q : Int) ∧ q < m := ⟨oa % m, by rw [Int.tmod_eq_emod_of_nonneg (by omega)]; exact (Int.natCast_emod oa m).symm, Nat.mod_lt oa dm1⟩
      have hat2 : (at_ : Int) < (m : Int) := by omega
      obtain ⟨y8, ey8⟩ : ∃ y : UInt8, IntKind.u8.wrap (ob : Int) = (y.toNat : Int) := ⟨UInt8.ofNat ob, by rw [IntKind.wrap_u8, UInt8.toNat_ofNat']; omega⟩
      have hgn : w.heap.size ≤ g := HR.out.hi g rfl
      have hne : g ≠ p := HR.out.ne HP.out (by decide) g rfl
      have zc : w1.cell? ⟨g, at_, none⟩ = some (byV (ds[at_]'(by rw [Hm.out]; exact hat))) := by
        have := HR.out.cells (lo := 0) (j := at_) (u := byV (ds[at_]'(by rw [Hm.out]; exact hat))) (by rw [List.drop_zero, List.getElem?_map, List.getElem?_eq_getElem (by rw [Hm.out]; exact hat)]; rfl)
        rw [Nat.zero_add] at this
        exact this
      have zf : w1.frozen? ⟨g, at_, none⟩ = false := HR.out.unf
      have HQ : Hid (TtI w (txC l (i + 1)) (txL l (i + 1)) (w1.drew.setCell ⟨g, at_, none⟩ (byV y8)) (.slice (some ⟨g, 0, none⟩) m q)) := hid (by
        have hlt : at_ < ds.length := by rw [Hm.out]; exact hat
        obtain ⟨s1, s2⟩ := set_split hlt y8
        have hr := (HR.out.below (Drew.below ⟨1, rfl⟩ _)).poke (y := y8) hat
        have hG : Gd (txC l i + 41) (ds.set at_ y8) := by rw [s1]; exact Gd.poke (y := ds[at_]) (by rw [← s2]; exact HGd.out)
        exact TtI.any (HB.out.trans ((Drew.below ⟨1, rfl⟩ _).trans (setCell_frame hgn hz))) hG (by omega) (by rw [List.length_set]; have := HLn.out; omega) Hop.out hr)
      have HSS : Hid (Blk (w1.drew) p 85 [.int .u8 (kd : Int), .int .u64 (oa : Int), .int .u64 (ob : Int), .int .u64 (oc : Int), .string raw]) := hid HP.out
      have HS2 : Hid (Blk (w1.drew.setCell ⟨g, at_, none⟩ (byV y8)) p 85 [.int .u8 (kd : Int), .int .u64 (oa : Int), .int .u64 (ob : Int), .int .u64 (oc : Int), .string raw]) := hid (HSS.out.setOther hne _)
      have zc2 : w1.drew.cell? ⟨g, at_, none⟩ = some (byV (ds[at_]'(by rw [Hm.out]; exact hat))) := zc
      have zf2 : w1.drew.frozen? ⟨g, at_, none⟩ = false := zf
      clear zc zf cK cA cB cC cR
      go_upto_region 27 with fail
      refine wp_region_heavy (fun wz => Blk wz p 85 [.int .u8 (kd : Int), .int .u64 (oa : Int), .int .u64 (ob : Int), .int .u64 (oc : Int), .string raw]) 10 [0, 1, 2, 3, 4, 5, 6, 7, 8] [9] rfl (by kernel_rfl) (by kernel_rfl) (fun d _ _ _ _ h => by cases d <;> exact h) HSS.out ?_
      apply Exists.intro
      refine ⟨?_, ?_⟩
      · intro W hW
        have q1 : ∀ z, (W z).cell? ⟨p, 1, none⟩ = some (.int .u64 (oa : Int)) := fun z => (hW z).cell 1
        have q2 : ∀ z, (W z).cell? ⟨p, 2, none⟩ = some (.int .u64 (ob : Int)) := fun z => (hW z).cell 2
        clear hW
        simp only [List.take, opsAt, List.drop, List.cons_append, List.nil_append]
        repeat (go_big_quiet_step (fail))
        exact rfl
      simp only [List.take, List.drop, opsAt, List.cons_append, List.nil_append, wpHv]
      unfold byV at zc2 HQ HS2
      generalize w1.drew = w2 at HQ HSS HS2 zc2 zf2 ⊢
      go_wp2_with fail
      refine ⟨HS2.out, ?_⟩
      simp only [QN]
      go_wp2
      exact ⟨⟨i + 1, _, rfl, by go_num, by omega, HQ⟩, by simp [intOf]; omega⟩
  · skip --TEN
    obtain ⟨m1, em1, hm1⟩ : ∃ q : Nat, IntKind.u64.wrap ((m : Int) + 1) = (q : Int) ∧ q = m + 1 := ⟨m + 1, by rw [IntKind.wrap_u64]; omega, rfl⟩
    obtain ⟨at_, eat, hat⟩ : ∃ q : Nat, (oa : Int).tmod (m1 : Int) = (q : Int) ∧ q ≤ m := ⟨oa % m1, by rw [Int.tmod_eq_emod_of_nonneg (by omega)]; exact (Int.natCast_emod oa m1).symm, by have := Nat.mod_lt oa (show 0 < m1 by omega); omega⟩
    have hm1p : ¬ (m1 : Int) = 0 := by omega
    have hm1q : ¬ m1 = 0 := by omega
    clear hm1
    obtain ⟨hcp, hsp, hax⟩ := HR.out.cap
    have hsl : ∀ wz : World, (Instr.sliceAt 28 (.slice ax m q) none (some (.int .u64 (at_ : Int))) none).run Tryz.prog wz = .ok (.slice ax at_ q) wz := fun wz => slice_hi ax m q at_ (by omega) hsp wz
    obtain ⟨ar, kr, hrest, hr0, hrc⟩ := HR.out.rest hat
    have HRc := hid hrc
    have HSS : Hid (Blk (w1.drew) p 85 [.int .u8 (kd : Int), .int .u64 (oa : Int), .int .u64 (ob : Int), .int .u64 (oc : Int), .string raw]) := hid HP.out
    have hpl := HP.out.lt
    clear hrc hsp hax cK cB cC cR
    go_upto_region 30 with fail
    (try simp only [eat])
    have HB2 : Hid (Below w1.heap.size w1 w1.drew) := hid (Drew.below ⟨1, rfl⟩ _)
    refine wp_region_heavy (fun wz => Blk wz p 85 [.int .u8 (kd : Int), .int .u64 (oa : Int), .int .u64 (ob : Int), .int .u64 (oc : Int), .string raw]) 7 [0, 1, 3, 4, 5] [2, 6] rfl (by kernel_rfl) (by kernel_rfl) (fun d _ _ _ _ h => by cases d <;> exact h) HSS.out ?_
    apply Exists.intro
    refine ⟨?_, ?_⟩
    · intro W hW
      have q1 : ∀ z, (W z).cell? ⟨p, 4, none⟩ = some (.string raw) := fun z => (hW z).cell 4
      clear hW
      simp only [List.take, opsAt, List.drop, List.cons_append, List.nil_append]
      repeat (go_big_quiet_step (fail))
      exact rfl
    simp only [List.take, List.drop, opsAt, List.cons_append, List.nil_append, wpHv]
    generalize w1.drew = w2 at HSS HB2 ⊢
    have hcv := run_bytes_of_string (P := Tryz.prog) w2 9 28 5 raw Tryz.underlying9 Tryz.underlying28 Tryz.underlying5
    obtain ⟨g3, hg3⟩ : ∃ g, w2.heap.size = g := ⟨_, rfl⟩
    have hge := grownCap_ge w2 raw.size 0 5
    have hgm := grownCap_le_maxLen w2 raw.size 0 5 (by unfold maxLen; omega)
    obtain ⟨c3, hc3⟩ : ∃ c, grownCap w2 raw.size 0 5 = c := ⟨_, rfl⟩
    have HM : Hid (Mk (w2.drew.alloc (.cells (bytesRow raw c3) 5 ((bytesRow raw c3).size, (bytesRow raw c3).size + 1))) g3 raw.size c3 raw.data.toList) := hid (by
      have hsz : (bytesRow raw c3).size = c3 := by
        unfold bytesRow
        rw [Array.size_append, Array.size_map, Array.size_replicate]
        show raw.size + (c3 - raw.size) = c3
        omega
      refine ⟨⟨_, _, by rw [← hg3]; exact heap_alloc_new w2.drew _, Nat.le_refl _, hsz, ?_⟩, rfl, by omega, by omega⟩
      unfold bytesRow
      rw [Array.toList_append]
      have e : raw.size = (raw.data.map (fun b => Value.int .u8 (b.toNat : Int))).toList.length := by simp
      rw [e, List.take_left, Array.toList_map]
      rfl)
    have HB3 : Hid (Below g3 w2 (w2.drew.alloc (.cells (bytesRow raw c3) 5 ((bytesRow raw c3).size, (bytesRow raw c3).size + 1)))) := hid ⟨rfl, rfl, rfl, by simp, fun x hx => heap_alloc_old w2.drew _ (show x < w2.drew.heap.size by rw [show w2.drew.heap.size = w2.heap.size from rfl]; omega)⟩
    rw [hg3, hc3] at hcv
    generalize hw3 : w2.drew.alloc _ = w3 at HM HB3 hcv
    clear hw3 hc3 hge hgm
    have HS3 : Hid (Blk w3 p 85 [.int .u8 (kd : Int), .int .u64 (oa : Int), .int .u64 (ob : Int), .int .u64 (oc : Int), .string raw]) := hid (HSS.out.of (HB3.out.block p (by rw [← hg3]; exact HSS.out.lt)))
    go_wp2_with fail
    refine ⟨HS3.out, ?_⟩
    clear hcv
    refine wpList_app_mk rfl _ _ HM.out rfl rfl ar (m - at_) kr rfl (ds.drop at_) (by rw [List.length_drop, Hm.out]) hr0 (fun ad had j u hu => HRc.out w3 (fun x hx => ?_) ad had j u hu) (by omega) ?_
    · have hxl := HR.out.lt x hx
      rw [HB3.out.block x (by have := HB2.out.size; omega), HB2.out.block x hxl]
    intro g4 c4 w4 hc4 hc4m HC4 HB4
    have hgw : w1.heap.size ≤ g3 := by have := HB2.out.size; omega
    have HBz : Hid (Below w1.heap.size w1 w4) := hid (HB2.out.trans ((HB3.out.mono hgw).trans (HB4.out.1.mono hgw)))
    have HS4 : Hid (Blk w4 p 85 [.int .u8 (kd : Int), .int .u64 (oa : Int), .int .u64 (ob : Int), .int .u64 (oc : Int), .string raw]) := hid (HP.out.below HBz.out)
    have HRz := hid (HR.out.below HBz.out)
    have hzz := Nat.le_trans hz HBz.out.size
    have Hc4 := hid hc4m
    clear HM HB3 HB4 HS3 HSS HB2 hc4m hrest hr0 HRc hg3 hgw
    refine ⟨HS4.out, ?_⟩
    simp only [QN]
    clear HS4
    go_wp2_with (at_builtin; refine stopHere ?_)
    intro _
    have HCu := hid (HRz.out.cut hat)
    refine wpList_app_l okB rfl _ _ HCu.out rfl (raw.data.toList ++ ds.drop at_) rfl (some ⟨g4, 0, none⟩) (raw.size + (m - at_)) c4 rfl (by rw [List.length_append, List.length_drop, Hm.out]; rfl) (fun h => by cases h) (fun ad had j u hu => ?_) (by rw [List.length_take, Hm.out]; show (_ + _) * 1 ≤ _; omega) hzz ?_
    · cases had
      rw [rtB_flat] at hu
      rw [add_lit, Nat.zero_add]
      exact HC4.out j u hu
    intro v5 w5 HR5 HK5 _
    have HQ : Hid (TtI w (txC l (i + 1)) (txL l (i + 1)) w5 v5) := hid (by
      have hG : Gd (txC l i + raw.data.toList.length) (ds.take at_ ++ raw.data.toList ++ ds.drop at_) := Gd.ins (by rw [List.take_append_drop]; exact HGd.out)
      have e : raw.data.toList.length = raw.size := rfl
      have hr5 := HR5.out
      rw [← List.append_assoc] at hr5
      exact TtI.any ((HB.out.trans (HBz.out.mono hz)).trans (HK5.out.below HCu.out.hi hzz)) hG (by rw [e]; show _ ≤ _ + _ + raw.size; omega) (by rw [List.length_append, List.length_append, List.length_take, List.length_drop, e]; have := HLn.out; have := Hm.out; show _ ≤ _ + _ + raw.size; omega) Hop.out hr5)
    clear HR5 HK5 HC4 HCu HRz HBz
    go_wp2
    exact ⟨⟨i + 1, _, rfl, by go_num, by omega, HQ⟩, by simp [intOf]; omega⟩
  · skip --ELEVEN
    obtain ⟨m1, em1, hm1⟩ : ∃ q : Nat, IntKind.u64.wrap ((m : Int) + 1) = (q : Int) ∧ q = m + 1 := ⟨m + 1, by rw [IntKind.wrap_u64]; omega, rfl⟩
    obtain ⟨at_, eat, hat⟩ : ∃ q : Nat, (oa : Int).tmod (m1 : Int) = (q : Int) ∧ q ≤ m := ⟨oa % m1, by rw [Int.tmod_eq_emod_of_nonneg (by omega)]; exact (Int.natCast_emod oa m1).symm, by have := Nat.mod_lt oa (show 0 < m1 by omega); omega⟩
    have hm1p : ¬ (m1 : Int) = 0 := by omega
    have hm1q : ¬ m1 = 0 := by omega
    clear hm1
    obtain ⟨hcp, hsp, hax⟩ := HR.out.cap
    have hsl : ∀ wz : World, (Instr.sliceAt 28 (.slice ax m q) none (some (.int .u64 (at_ : Int))) none).run Tryz.prog wz = .ok (.slice ax at_ q) wz := fun wz => slice_hi ax m q at_ (by omega) hsp wz
    obtain ⟨b8, eb8, hb8⟩ : ∃ q : Nat, (ob : Int) % 8 = (q : Int) ∧ q ≤ 7 := ⟨ob % 8, by omega, by omega⟩
    have ew8 : IntKind.u64.wrap ((at_ : Int) + (b8 : Int)) = (at_ : Int) + (b8 : Int) := by rw [IntKind.wrap_u64]; omega
    obtain ⟨en, een, hen1, hen2, hen3⟩ : ∃ en : Nat, (if (m : Int) < (at_ : Int) + (b8 : Int) then (m : Int) else (at_ : Int) + (b8 : Int)) = (en : Int) ∧ at_ ≤ en ∧ en ≤ m ∧ en ≤ at_ + 7 := by
      by_cases h : (m : Int) < (at_ : Int) + (b8 : Int)
      · exact ⟨m, by rw [if_pos h], by omega, by omega, by omega⟩
      · exact ⟨at_ + b8, by rw [if_neg h]; omega, by omega, by omega, by omega⟩
    obtain ⟨ar, kr, hrest, hr0, hrc⟩ := HR.out.rest hen2
    have HRc := hid hrc
    clear hrc hsp hax cK cC cR
    go_upto_region 35 with fail
    (try simp only [een])
    have HB2 : Hid (Below w1.heap.size w1 w1.drew) := hid (Drew.below ⟨1, rfl⟩ _)
    have HR2 := hid (HR.out.below HB2.out)
    refine wp_region_heavy (fun wz => True) 7 [0, 1, 2, 3, 4, 5] [6] rfl (by kernel_rfl) (by kernel_rfl) (fun d _ _ _ _ h => by cases d <;> exact h) trivial ?_
    apply Exists.intro
    refine ⟨?_, ?_⟩
    · intro W hW
      clear hW
      simp only [List.take, opsAt, List.drop, List.cons_append, List.nil_append]
      repeat (go_big_quiet_step (fail))
      exact rfl
    simp only [List.take, List.drop, opsAt, List.cons_append, List.nil_append, wpHv]
    generalize w1.drew = w2 at HR2 HB2 ⊢
    have hz2 := Nat.le_trans hz HB2.out.size
    have HCu := hid (HR2.out.cut hat)
    refine wpList_app_l okB rfl _ _ HCu.out rfl (ds.drop en) rfl ar (m - en) kr rfl (by rw [List.length_drop, Hm.out]) hr0 (fun ad had j u hu => ?_) (by rw [List.length_take, Hm.out]; show (_ + _) * 1 ≤ _; omega) hz2 ?_
    · rw [rtB_flat] at hu
      exact HRc.out w2 (fun x hx => HB2.out.block x (HR.out.lt x hx)) ad had j u hu
    intro v5 w5 HR5 HK5 _
    have HQ : Hid (TtI w (txC l (i + 1)) (txL l (i + 1)) w5 v5) := hid (by
      have hs3 : ds = ds.take at_ ++ (ds.drop at_).take (en - at_) ++ ds.drop en := by
        have e1 : ds.drop en = (ds.drop at_).drop (en - at_) := by rw [List.drop_drop]; congr 1; omega
        rw [e1, List.append_assoc, List.take_append_drop, List.take_append_drop]
      have hG : Gd (txC l i + 40 * ((ds.drop at_).take (en - at_)).length) (ds.take at_ ++ ds.drop en) := Gd.del (by rw [← hs3]; exact HGd.out)
      have hlt : ((ds.drop at_).take (en - at_)).length ≤ 7 := by rw [List.length_take]; omega
      exact TtI.any ((HB.out.trans (HB2.out.mono hz)).trans (HK5.out.below HCu.out.hi hz2)) hG (by omega) (by rw [List.length_append, List.length_take, List.length_drop]; have := HLn.out; have := Hm.out; omega) Hop.out HR5.out)
    clear HR5 HK5 HCu HR2 HB2 HRc
    refine ⟨trivial, ?_⟩
    simp only [QN]
    go_wp2
    exact ⟨⟨i + 1, _, rfl, by go_num, by omega, HQ⟩, by simp [intOf]; omega⟩
end
end Go.Proofs.Qxb6500883aGreatDoor
