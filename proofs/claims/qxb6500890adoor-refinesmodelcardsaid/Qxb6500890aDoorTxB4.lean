/- The bounded buffer: AddByte, AddString, AddBytes, AddInt. -/
import Derived.Test.Qxb6500890aDoorTxB3
namespace Go.Proofs.Qxb6500890aDoor
open Go.RowKit
set_option linter.unusedSimpArgs false
set_option linter.unusedVariables false

section
variable {P : Program} (w : World)
/-- copy(dst, s) from a string that just fits. -/
theorem run_copy_str (dT sT ty elem : TypeId) (i : TypeInfo) (hu : P.underlying dT = some (.slice elem)) (hi : P.info? elem = some i) (hsz : i.size = 1) (dp : Option Addr) (dCap : Nat) (s : ByteArray) (g o : Nat) (t : TypeId) (cs : List Value) (hb : Blk w g t cs) (hp : dp = some ⟨g, o, none⟩) (hfit : o + s.size ≤ cs.length) :
    ∃ w', (Builtin.copy_ #[dT, sT] ty #[.slice dp s.size dCap, .string s]).run P w = .ok (goInt s.size) w' ∧ Blk w' g t (splice cs o (byteVals s.data.toList)) ∧ Upd g w w' := by
  subst hp
  have hl : (byteVals s.data.toList).length = s.size := by rw [byteVals_len]; rfl
  have hst := run_storeCells_at P g o t (byteVals s.data.toList) 0 cs.toArray w hb (by rw [hl]; simpa using hfit) (fun v hv => by
    obtain ⟨b, _, rfl⟩ := List.mem_map.1 hv
    rfl)
  have htk : List.take s.size (List.map (fun b : UInt8 => Value.int IntKind.u8 (b.toNat : Int)) s.data.toList) = byteVals s.data.toList := by
    rw [List.take_of_length_le (by rw [List.length_map]; exact Nat.le_refl _)]
    rfl
  refine ⟨_, ?_, setRow_heap w g _ _ t _ hb, Upd.setRow _⟩
  simp [Builtin.copy_, run_underlying hu, Builtin.lenOf, Builtin.firstCells, sizeOf, typeInfo, hi, hsz, splice]
  rw [htk, hst]
  simp [Result.andThen]
theorem run_copy_str0 (dT sT ty elem : TypeId) (i : TypeInfo) (hu : P.underlying dT = some (.slice elem)) (hi : P.info? elem = some i) (dp : Option Addr) (dLen dCap : Nat) (s : ByteArray) (h0 : s.size = 0) :
    (Builtin.copy_ #[dT, sT] ty #[.slice dp dLen dCap, .string s]).run P w = .ok (goInt 0) w := by
  cases dp <;> simp [Builtin.copy_, run_underlying hu, Builtin.lenOf, Builtin.firstCells, sizeOf, typeInfo, hi, h0, storeCells]
end
section
variable {w w' : World} {ρ ρ' : Rl} {a ta : Option Addr} {q k bB lim : Nat} {bs cs : List UInt8} {X : Nat → Bool}
/-- What a write leaves. -/
def AdP (w : World) (ρ : Rl) (bB lim : Nat) (bs cs : List UInt8) (e : Ending) (w' : World) : Prop := ∃ a' q' ρ', e = .returned (.bool (roomP lim bs.length cs.length)) ∧ Bu w' ρ' bB lim (if roomP lim bs.length cs.length then bs ++ cs else bs) a' q' ∧ Fr buX ρ w ρ' w'
theorem splice_end {A R C : List Value} {n : Nat} (hn : A.length = n) (hl : C.length ≤ R.length) : splice (A ++ R) n C = A ++ (C ++ R.drop C.length) := by
  unfold splice
  rw [← hn, List.take_left', List.append_assoc]
  · congr 2
    rw [List.drop_append]
    simp
  · rfl
theorem Gr.fill (h : Gr w ρ bB lim bs k ta a q) (hk : cs.length = k) (hk0 : 0 < k) {g : Nat} {ds : List Value} (ha : a = some ⟨g, 0, none⟩) (hg : Blk w g 5 ds) (h6 : Blk w' g 5 (splice ds bs.length (byteVals cs))) (hu : Upd g w w') : Bu w' ρ bB lim (bs ++ cs) a q ∧ Fr buX ρ w ρ w' := by
  rcases h.dt with ⟨h0, _⟩ | ⟨_, g', rest, e1, e2, e3, e4, e5, e6⟩
  · omega
  · rw [ha] at e1
    injection e1 with e1
    injection e1 with e1
    subst e1
    have hds := Blk.inj hg e3
    subst hds
    have hne : bB ≠ g := fun e => by have h1 := h.rb; rw [e, e6] at h1; omega
    rw [splice_end (byteVals_len _) (by rw [byteVals_len]; omega)] at h6
    refine ⟨⟨?_, h.rb, .inr ⟨g, rest.drop cs.length, ha, ?_, ?_, e6⟩, h.lq, h.ll⟩, Fr.upd hu (by rw [e6]; rfl)⟩
    · rw [List.length_append, hk]
      exact h.bb.of (hu.block _ h.bb.lt hne)
    · rw [byteVals_append, List.append_assoc]
      rw [byteVals_len] at h6
      exact h6
    · rw [List.length_append, List.length_drop]
      omega
theorem Gr.zero (h : Gr w ρ bB lim bs k ta a q) (hk : k = 0) : Bu w ρ bB lim bs a q := by
  subst hk
  rcases h.dt with ⟨_, h0⟩ | ⟨h0, _⟩
  · exact ⟨h.bb, h.rb, h0, h.lq, h.ll⟩
  · omega
theorem AdP.no {e : Ending} (hr : roomP lim bs.length cs.length = false) (h : Bu w ρ bB lim bs a q) (hb : Below w.heap.size w w') (he : e = .returned (.bool false)) : AdP w ρ bB lim bs cs e w' := by
  unfold AdP
  rw [hr]
  exact ⟨a, q, ρ, he, h.below hb, Fr.below hb⟩
theorem AdP.yes {w2 : World} {e : Ending} (hr : roomP lim bs.length cs.length = true) (h : Bu w2 ρ' bB lim (bs ++ cs) a q) (hf : Fr buX ρ w ρ' w2) (he : e = .returned (.bool true)) : AdP w ρ bB lim bs cs e w2 := by
  unfold AdP
  rw [hr]
  exact ⟨a, q, ρ', he, h, hf⟩
set_option maxRecDepth 100000
set_option maxHeartbeats 1000000
theorem addByte_walk (h : Bu w ρ bB lim bs a q) (c : UInt8) (hb : bs.length + 1 ≤ 68719476736) : Calls Tryd.prog 28 #[.pointer (some ⟨bB, 0, none⟩), .int .u8 (c.toNat : Int)] w fun e w' => AdP w ρ bB lim bs [c] e w' := by
  have HH := hid h
  have HE := hid (extend_walk h 1 (by omega) hb)
  obtain ⟨r, hr⟩ : ∃ r, roomP lim bs.length 1 = r := ⟨_, rfl⟩
  rw [hr] at HE
  have Hr : Hid (roomP lim bs.length [c].length = r) := hid hr
  clear hr h
  have ic : (0 : Int) < 1 := by omega
  go_enter Tryd.func28, Tryd.ntmps28
  go_wp2_with fail
  refine HE.out.mono ?_
  intro e1 w1 he
  cases r with
  | false =>
    obtain ⟨rfl, hb1⟩ := he
    have HR : Hid (AdP w ρ bB lim bs [c] (.returned (.bool false)) w1) := hid (AdP.no Hr.out HH.out hb1 rfl)
    clear HH HE hb1
    go_wp2
    go_ret
    exact HR.out
  | true =>
    obtain ⟨ta, tc, a', q', ρ', rfl, hg, hf⟩ := he
    have HG := hid hg
    have HF := hid hf
    clear hg hf HE HH
    rcases HG.out.dt with ⟨h0, _⟩ | ⟨_, g, rest, ha, rfl, hbk, hl, hk, hrg⟩
    · omega
    · obtain ⟨n, hn⟩ : ∃ n, bs.length = n := ⟨_, rfl⟩
      have c1 : ∃ v, w1.cell? ⟨g, n, none⟩ = some v := by
        rw [hbk.cell, List.getElem?_append_right (by rw [byteVals_len]; omega), byteVals_len, hn, Nat.sub_self]
        exact ⟨rest[0]'(by omega), List.getElem?_eq_getElem _⟩
      obtain ⟨v1, c1⟩ := c1
      have f1 : w1.frozen? ⟨g, n, none⟩ = false := hbk.frozen _
      have HR : Hid (AdP w ρ bB lim bs [c] (.returned (.bool true)) (w1.setCell ⟨g, n, none⟩ (.int .u8 (c.toNat : Int)))) := hid (by
        have h6 := hbk.set n (.int .u8 (c.toNat : Int))
        have e7 : (byteVals bs ++ rest).set n (.int .u8 (c.toNat : Int)) = splice (byteVals bs ++ rest) bs.length (byteVals [c]) := by
          rw [splice_end (byteVals_len _) (by rw [byteVals_len]; exact hk), byteVals_len, ← hn, ← byteVals_len bs, List.set_append_right _ _ (Nat.le_refl _), Nat.sub_self]
          cases rest with
          | nil => simp at hk
          | cons x xs => rfl
        rw [e7] at h6
        obtain ⟨k1, k2⟩ := HG.out.fill (cs := [c]) rfl (by omega) ha hbk h6 ((Upd.refl g w1).setCell rfl _)
        exact AdP.yes Hr.out k1 (HF.out.trans k2) rfl)
      rw [hn]
      clear HG HF hbk hl hk hrg ha hn
      go_wp2
      go_ret
      exact HR.out
theorem addString_walk (h : Bu w ρ bB lim bs a q) (s : ByteArray) (hs : s.size ≤ 1000000000) (hb : bs.length + s.size ≤ 68719476736) : Calls Tryd.prog 29 #[.pointer (some ⟨bB, 0, none⟩), .string s] w fun e w' => AdP w ρ bB lim bs s.data.toList e w' := by
  have HH := hid h
  have HE := hid (extend_walk h s.size hs hb)
  obtain ⟨r, hr⟩ : ∃ r, roomP lim bs.length s.size = r := ⟨_, rfl⟩
  rw [hr] at HE
  have Hr : Hid (roomP lim bs.length s.data.toList.length = r) := hid hr
  clear hr h
  obtain ⟨i0, hi, hz0, hz1, hz2⟩ := info_parts info_u8
  go_enter Tryd.func29, Tryd.ntmps29
  go_wp2_with fail
  refine HE.out.mono ?_
  intro e1 w1 he
  cases r with
  | false =>
    obtain ⟨rfl, hb1⟩ := he
    have HR : Hid (AdP w ρ bB lim bs s.data.toList (.returned (.bool false)) w1) := hid (AdP.no Hr.out HH.out hb1 rfl)
    clear HH HE hb1
    go_wp2
    go_ret
    exact HR.out
  | true =>
    obtain ⟨ta, tc, a', q', ρ', rfl, hg, hf⟩ := he
    have HG := hid hg
    have HF := hid hf
    clear hg hf HE HH
    rcases HG.out.dt with ⟨h0, _⟩ | ⟨h0, g, rest, ha, rfl, hbk, hl, hk, hrg⟩
    · have hrun := run_copy_str0 (P := Tryd.prog) w1 82 9 3 5 i0 Tryd.underlying82 hi ta s.size tc s h0
      have HR : Hid (AdP w ρ bB lim bs s.data.toList (.returned (.bool true)) w1) := hid (by
        have e0 : s.data.toList = [] := List.eq_nil_of_length_eq_zero h0
        refine AdP.yes (a := a') (q := q') Hr.out ?_ HF.out rfl
        rw [e0, List.append_nil]
        exact HG.out.zero h0)
      clear HG HF h0
      go_wp2
      go_ret
      exact HR.out
    · obtain ⟨w6, hrun, hb6, hu6⟩ := run_copy_str (P := Tryd.prog) w1 82 9 3 5 i0 Tryd.underlying82 hi hz1 (some ⟨g, bs.length, none⟩) tc s g bs.length 5 _ hbk rfl (by rw [List.length_append, byteVals_len]; omega)
      have HR : Hid (AdP w ρ bB lim bs s.data.toList (.returned (.bool true)) w6) := hid (by
        obtain ⟨k1, k2⟩ := HG.out.fill (cs := s.data.toList) rfl h0 ha hbk hb6 hu6
        exact AdP.yes Hr.out k1 (HF.out.trans k2) rfl)
      clear HG HF hbk hl hk hrg ha hb6 hu6 h0
      go_wp2
      go_ret
      exact HR.out
theorem addBytes_walk (h : Bu w ρ bB lim bs a q) {b cap n : Nat} (hn : cs.length = n) (h0 : 0 < n) (hm : n ≤ 1000000000) (hb : bs.length + n ≤ 68719476736) (hsrc : ∀ j v, (byteVals cs)[j]? = some v → w.cell? ⟨b, j, none⟩ = some v) (hlt : b < w.heap.size) (hr0 : ρ b = 0) : Calls Tryd.prog 65 #[.pointer (some ⟨bB, 0, none⟩), .slice (some ⟨b, 0, none⟩) n cap] w fun e w' => AdP w ρ bB lim bs cs e w' := by
  have HH := hid h
  have HE := hid (extend_walk h n hm hb)
  obtain ⟨r, hr⟩ : ∃ r, roomP lim bs.length n = r := ⟨_, rfl⟩
  rw [hr] at HE
  have Hr : Hid (roomP lim bs.length cs.length = r) := hid (by rw [hn]; exact hr)
  have HS := hid hsrc
  have Hn := hid hn
  clear hr h hsrc hn
  obtain ⟨i0, hi, hz0, hz1, hz2⟩ := info_parts info_u8
  go_enter Tryd.func65, Tryd.ntmps65
  go_wp2_with fail
  refine HE.out.mono ?_
  intro e1 w1 he
  cases r with
  | false =>
    obtain ⟨rfl, hb1⟩ := he
    have HR : Hid (AdP w ρ bB lim bs cs (.returned (.bool false)) w1) := hid (AdP.no Hr.out HH.out hb1 rfl)
    clear HH HE hb1
    go_wp2
    go_ret
    exact HR.out
  | true =>
    obtain ⟨ta, tc, a', q', ρ', rfl, hg, hf⟩ := he
    have HG := hid hg
    have HF := hid hf
    clear hg hf HE HH
    rcases HG.out.dt with ⟨h0', _⟩ | ⟨_, g, rest, ha, rfl, hbk, hl, hk, hrg⟩
    · omega
    · obtain ⟨w6, hrun, hb6, hu6⟩ := run_copy_blk (P := Tryd.prog) w1 82 82 3 5 i0 1 Tryd.underlying82 hi hz1 (some ⟨g, bs.length, none⟩) (some ⟨b, 0, none⟩) n tc n cap g bs.length 5 _ (byteVals cs) hbk (by rw [byteVals_len, Hn.out]; simp) (fun _ => ⟨rfl, _, rfl, fun j v hv => by
        have ea : (⟨b, 0, none⟩ : Addr).add j = ⟨b, 0 + j, none⟩ := by unfold Addr.add; split <;> simp_all
        rw [ea, Nat.zero_add, keepCell j (HF.out.blk b hlt (by rw [hr0]; rfl))]
        exact HS.out j v hv⟩) (by rw [List.length_append, byteVals_len, byteVals_len, Hn.out]; omega) (fun v hv => by
        obtain ⟨b, _, rfl⟩ := List.mem_map.1 hv
        rfl)
      have em : Nat.min n n = n := Nat.min_self n
      rw [em] at hrun
      clear em
      have HR : Hid (AdP w ρ bB lim bs cs (.returned (.bool true)) w6) := hid (by
        obtain ⟨k1, k2⟩ := HG.out.fill (cs := cs) Hn.out h0 ha hbk hb6 hu6
        exact AdP.yes Hr.out k1 (HF.out.trans k2) rfl)
      clear HG HF hbk hl hk hrg ha hb6 hu6
      go_wp2
      go_ret
      exact HR.out
theorem fmt_pos (v : Int) (h1 : -9223372036854775808 ≤ v) (h2 : v ≤ 9223372036854775807) : 0 < (fmtL v).length := by
  unfold fmtL
  split
  · simp
  · have := digs_pos v.natAbs (by omega)
    exact List.length_pos_iff.2 this
theorem addInt_walk (h : Bu w ρ bB lim bs a q) (hd : ∀ g, ρ g ≠ 0 → g < w.heap.size) (v : Int) (h1 : -9223372036854775808 ≤ v) (h2 : v ≤ 9223372036854775807) (hb : bs.length + 20 ≤ 68719476736) : Calls Tryd.prog 30 #[.pointer (some ⟨bB, 0, none⟩), .int .i64 v] w fun e w' => AdP w ρ bB lim bs (fmtL v) e w' := by
  have hl := fmt_len v h1 h2
  have hp := fmt_pos v h1 h2
  have HH := hid h
  have HD := hid hd
  clear h hd
  go_enter Tryd.func30, Tryd.ntmps30
  go_wp2_with fail
  refine (appendInt_walk v h1 h2 _ w.heap.size (by simp) (fun j hj => ?_) (fun j hj => ?_)).mono ?_
  · rw [World.cell?_alloc_at _ _ _ _ rfl]
    exact twenty_some j hj
  · exact frozen_new _ _ _ _
  rintro e w1 ⟨rfl, arr, hw1⟩
  have hb1 : Below w.heap.size w w1 := by
    rw [hw1]
    exact (((Below.refl _ _).alloc (Nat.le_refl _) _).alloc (by simp) _).trans (setCells_below _ _ 0 (Nat.le_refl _) _ _ _)
  have hsrc : ∀ j u, (byteVals (fmtL v))[j]? = some u → w1.cell? ⟨w.heap.size, j, none⟩ = some u := fun j u hu => by
    have hj := (List.getElem?_eq_some_iff.1 hu).1
    have ej : (⟨w.heap.size, j, none⟩ : Addr) = ⟨w.heap.size, 0 + j, none⟩ := by rw [Nat.zero_add]
    rw [hw1, ej, World.cell?_setCells_in w.heap.size (byteVals (fmtL v)) 0 _ (fun k hk => ?_) j hj]
    · rw [← hu, List.getElem?_eq_getElem hj]
    · rw [byteVals_len] at hk
      simp only [Nat.zero_add]
      rw [World.cell?_alloc_past _ _ _ (by simp), World.cell?_alloc_at _ _ _ _ rfl]
      exact twenty_some k (by omega)
  have hlt : w.heap.size < w1.heap.size := by
    rcases Nat.lt_or_ge w.heap.size w1.heap.size with h | h
    · exact h
    · have h3 := hsrc 0 _ (List.getElem?_eq_getElem (by rw [byteVals_len]; exact hp))
      have := block_lt_of_cell h3
      omega
  have hr0 : ρ w.heap.size = 0 := Classical.byContradiction fun hc => by
    have := HD.out _ hc
    omega
  have HA := hid (addBytes_walk (cap := 20) (HH.out.below hb1) (cs := fmtL v) rfl hp (by omega) (by omega) hsrc hlt hr0)
  have HB := hid hb1
  obtain ⟨n, hn⟩ : ∃ n, (fmtL v).length = n := ⟨_, rfl⟩
  obtain ⟨g, hg⟩ : ∃ n, w.heap.size = n := ⟨_, rfl⟩
  rw [hn, hg] at HA
  rw [hn]
  simp only [hg]
  clear hb1 hsrc hlt hr0 HH HD hw1 hn hl hp
  go_wp2_with fail
  refine HA.out.mono ?_
  rintro e2 w2 ⟨a', q', ρ', rfl, k1, k2⟩
  have HR : Hid (AdP w ρ bB lim bs (fmtL v) (.returned (.bool (roomP lim bs.length (fmtL v).length))) w2) := hid ⟨a', q', ρ', rfl, k1, (Fr.below HB.out).trans k2⟩
  clear k1 k2 HA HB
  go_wp2
  go_ret
  exact HR.out
end
end Go.Proofs.Qxb6500890aDoor
