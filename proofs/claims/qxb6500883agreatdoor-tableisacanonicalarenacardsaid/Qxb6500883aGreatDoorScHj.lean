/- newTable. -/
import Derived.Test.Qxb6500883aGreatDoorScHi
namespace Go.Proofs.Qxb6500883aGreatDoor
open Go.RowKit
set_option linter.unusedSimpArgs false
set_option linter.unusedVariables false
/-- A new table under way: its first i built-in types. -/
def nmV (o : Option Nat) : Option Value := o.map fun x => .int .i32 (x : Int)
def T0 (i : Nat) : TS := ⟨(List.range i).map biR, [], [], []⟩
structure NwT (w0 : World) (i : Nat) (tB ms mu mn : Nat) (v : Value) (w : World) : Prop where
  m : ∃ τ, TbX τ w tB ⟨v, .slice none 0 0, .slice none 0 0, .slice none 0 0, .map (some mn), .map none, .slice none 0 0, .map (some ms), .map (some mu)⟩ (T0 i) ⟨ms, mu, fun _ => none, fun _ => none⟩ ∧ MG (fun s : ByteArray => Value.string s) w mn (fun _ => none) ∧ τ mn = 60 ∧ ∀ g, τ g ≠ 0 → w0.heap.size ≤ g
  b : Below w0.heap.size w0 w
set_option maxRecDepth 100000 in
set_option maxHeartbeats 4000000 in
theorem newTableW {N mg : Nat} {w : World} (hG : Gl N mg w) : Calls Tryz.prog 98 #[] w fun e w' => ∃ tB ms mu mn v, e = .returned (.pointer (some ⟨tB, 0, none⟩)) ∧ Hid (NwT w 8 tB ms mu mn v w') := by
  obtain ⟨p, hp⟩ : ∃ p, w.heap.size = p := ⟨_, rfl⟩
  obtain ⟨w1, hw1⟩ : ∃ x, w.alloc (.map #[] 0) = x := ⟨_, rfl⟩
  obtain ⟨w2, hw2⟩ : ∃ x, w1.alloc (.map #[] 0) = x := ⟨_, rfl⟩
  obtain ⟨w3, hw3⟩ : ∃ x, w2.alloc (.map #[] 0) = x := ⟨_, rfl⟩
  have s1 : w1.heap.size = p + 1 := by rw [← hw1, ← hp]; simp
  have s2 : w2.heap.size = p + 2 := by rw [← hw2]; simp [s1]
  have s3 : w3.heap.size = p + 3 := by rw [← hw3]; simp [s2]
  have k1 : ∀ (t kt vt : TypeId) (ht : Tryz.prog.underlying t = some (.map kt vt)) (wz : World), (Instr.makeMap t none).run Tryz.prog wz = .ok (.map (some wz.heap.size)) (wz.alloc (.map #[] 0)) := fun t kt vt ht wz => by
    simp [Instr.makeMap, go_sem, ht]
  have m1 := k1 89 _ _ Tryz.underlying89 w
  have m2 := k1 92 _ _ Tryz.underlying92 w1
  have m3 := k1 93 _ _ Tryz.underlying93 w2
  rw [hp, hw1] at m1
  rw [s1, hw2] at m2
  rw [s2, hw3] at m3
  have HG := hid hG
  clear k1 hG
  go_enter Tryz.func98, Tryz.ntmps98
  go_upto_region 2 with fail
  obtain ⟨w4, hw4⟩ : ∃ x, w3.alloc (.cells #[.slice none 0 0, .slice none 0 0, .slice none 0 0, .slice none 0 0, .map (some p), .map none, .slice none 0 0, .map (some (p + 1)), .map (some (p + 2))] 95) = x := ⟨_, rfl⟩
  have b1 : Below w.heap.size w w1 := by rw [← hw1]; exact nbel w _
  have b2 : Below w1.heap.size w1 w2 := by rw [← hw2]; exact nbel w1 _
  have b3 : Below w2.heap.size w2 w3 := by rw [← hw3]; exact nbel w2 _
  have b4 : Below w3.heap.size w3 w4 := by rw [← hw4]; exact nbel w3 _
  have HSt : Hid (NwT w 0 (p + 3) (p + 1) (p + 2) p (.slice none 0 0) w4) := hid (by
    have b34 := b3.trans (b4.mono b3.size)
    have b24 := b2.trans (b34.mono b2.size)
    have b14 := b1.trans (b24.mono b1.size)
    refine ⟨⟨fun g => if g = p + 3 then 50 else if g = p + 1 then 55 else if g = p + 2 then 56 else if g = p then 60 else 0, ?_, ?_, ?_, ?_⟩, b14⟩
    · refine ⟨⟨?_, ?_, RowX.nil _ _ _ _, RowX.nil _ _ _ _, RowX.nil _ _ _ _, RowX.nil _ _ _ _⟩, ?_, rfl, rfl, ?_, ?_, ?_, ?_⟩
      · rw [← hw4]
        have := Blk.new w3 [.slice none 0 0, .slice none 0 0, .slice none 0 0, .slice none 0 0, .map (some p), .map none, .slice none 0 0, .map (some (p + 1)), .map (some (p + 2))] 95
        rw [s3] at this
        exact this
      · simp
      · intro g hg
        have hs4 : w4.heap.size = p + 4 := by rw [← hw4]; simp [s3]
        rw [hs4]
        by_cases h1 : g = p + 3
        · omega
        · by_cases h2 : g = p + 1
          · omega
          · by_cases h3 : g = p + 2
            · omega
            · by_cases h5 : g = p
              · omega
              · simp [h1, h2, h3, h5] at hg
      · simp
      · simp
      · have := MG.new skV w1 s1
        rw [hw2] at this
        exact this.below b34
      · have := MG.new (fun s : ByteArray => Value.string s) w2 s2
        rw [hw3] at this
        exact this.below b4
    · have := MG.new (fun s : ByteArray => Value.string s) w hp
      rw [hw1] at this
      exact this.below b24
    · simp
    · intro g hg
      rw [hp]
      by_cases h1 : g = p + 3
      · omega
      · by_cases h2 : g = p + 1
        · omega
        · by_cases h3 : g = p + 2
          · omega
          · by_cases h5 : g = p
            · omega
            · simp [h1, h2, h3, h5] at hg)
  (try simp only [hw4])
  clear hw1 hw2 hw3 hw4 s1 s2 s3 m1 m2 m3 b1 b2 b3 b4 w1 w2 w3
  obtain ⟨bA, hbA⟩ : ∃ bA : Array Value, ((List.range 8).flatMap buC).toArray = bA := ⟨_, rfl⟩
  have hld : w4.rangeAt 3 0 ((List.range 8).flatMap buC) := by
    intro j v hv
    have hg := (HG.out.below (HSt.out.b.mono HG.out.sz)).bu
    rw [getElem?_flatMap_const (sz := 12) (by decide) _ (fun _ _ => rfl)] at hv
    by_cases hj : j / 12 < 8
    · rw [List.getElem?_range hj] at hv
      have h2 := hg (j / 12) hj (j % 12) (Nat.mod_lt _ (by decide))
      have e : 0 + j = j / 12 * 12 + j % 12 := by omega
      rw [e, h2]
      exact hv
    · rw [List.getElem?_eq_none (by simp; omega)] at hv
      cases hv
  have hlen : ((List.range 8).flatMap buC).length = 96 := by rw [length_flatMap_const (sz := 12) _ (fun _ _ => rfl)]; rfl
  have hix : ∀ (i : Nat), i < 8 → ∀ wz : World, (Instr.index 217 (.agg bA) (.int .i64 (i : Int))).run Tryz.prog wz = .ok (.agg (buC i).toArray) wz := fun i hi wz => by
    rw [← hbA]
    rcases (by omega : i = 0 ∨ i = 1 ∨ i = 2 ∨ i = 3 ∨ i = 4 ∨ i = 5 ∨ i = 6 ∨ i = 7) with rfl | rfl | rfl | rfl | rfl | rfl | rfl | rfl <;> rfl
  have Hix := hid hix
  clear hix
  go_wp2_with fail
  refine wp_load_mid 217 _ rfl 3 0 rfl ((List.range 8).flatMap buC) _ hld Tryz.underlying217 rfl (by rw [hlen]; kernel_rfl) ?_
  rw [hbA]
  clear hld hlen hbA
  (try simp only [Act.put, List.setIfInBounds_toArray, List.set_cons_succ, List.set_cons_zero])
  go_upto_region 3 with fail
  obtain ⟨tB, htB⟩ : ∃ q, p + 3 = q := ⟨_, rfl⟩
  obtain ⟨ms, hms⟩ : ∃ q, p + 1 = q := ⟨_, rfl⟩
  obtain ⟨mu, hmu⟩ : ∃ q, p + 2 = q := ⟨_, rfl⟩
  (try simp only [htB, hms, hmu])
  (try rw [htB, hms, hmu] at HSt)
  clear htB hms hmu
  go_loopw [10] (fun t wr => ∃ (i : Nat), t = .int .i64 (i : Int) ∧ i ≤ 8 ∧ Hid (∃ v, NwT w i tB ms mu p v wr)) (fun t _ => 8 - (intOf t).toNat)
  case atStart => exact ⟨0, rfl, Nat.zero_le _, hid ⟨_, HSt.out⟩⟩
  case round =>
  obtain ⟨i, rfl, hi2, HI⟩ := hrel
  by_cases hin : i < 8
  rotate_left
  · as_aux_lemma =>
    have d1 : decide ((i : Int) < 8) = false := decide_eq_false (by omega)
    have d2 : decide (i < 8) = false := decide_eq_false hin
    have hie : i = 8 := by omega
    have HF : Hid (∃ v, NwT w 8 tB ms mu p v wr) := hid (by rw [← hie]; exact HI.out)
    clear HI hie
    go_wp2
    go_ret
    obtain ⟨v, hv⟩ := HF.out
    exact ⟨tB, ms, mu, p, v, rfl, hid hv⟩
  have d1 : decide ((i : Int) < 8) = true := decide_eq_true (by omega)
  have d2 : decide (i < 8) = true := decide_eq_true hin
  have hxi := Hix.out i hin
  obtain ⟨v, hv⟩ := HI.out
  obtain ⟨τ, hT, hMn, hrn, hlo⟩ := hv.m
  have HT := hid hT
  have HL := hid (And.intro hMn (And.intro hrn (And.intro hlo hv.b)))
  clear hv hT hMn hrn hlo HI
  obtain ⟨q, hq⟩ : ∃ q, wr.heap.size = q := ⟨_, rfl⟩
  have hbn := Blk.new wr [.int .u8 0, .bool false, .int .u8 0, .int .i32 0, .int .i32 0, .int .i32 0, .int .u64 0, .string ⟨#[]⟩, .int .u32 0, .int .u32 0, .int .u32 0, .int .u32 0] 99
  rw [hq] at hbn
  have HBn := hid hbn
  have HBa := hid (nbel wr (.cells #[.int .u8 0, .bool false, .int .u8 0, .int .i32 0, .int .i32 0, .int .i32 0, .int .u64 0, .string ⟨#[]⟩, .int .u32 0, .int .u32 0, .int .u32 0, .int .u32 0] 99))
  have Hone : Hid (∀ u ∈ buC i, u.oneCell' = true) := hid (fun u hu => by
    unfold buC at hu
    simp only [List.mem_cons, List.not_mem_nil, or_false] at hu
    rcases hu with rfl | rfl | rfl | rfl | rfl | rfl | rfl | rfl | rfl | rfl | rfl | rfl <;> rfl)
  have HbR : Hid ((buC i).set 3 (.int .i32 (-1)) = trC (biR i)) := hid (by
    rcases (by omega : i = 0 ∨ i = 1 ∨ i = 2 ∨ i = 3 ∨ i = 4 ∨ i = 5 ∨ i = 6 ∨ i = 7) with rfl | rfl | rfl | rfl | rfl | rfl | rfl | rfl <;> rfl)
  clear hbn
  go_upto_region 5 with (refine wpList_store_blk rfl 99 _ _ rfl q (by simp [Act.eval, hq]) (buC i) rfl HBn.out rfl info_tr Hone.out ?_; intro w6 HB6 HU6)
  (try simp only [hq])
  have c3 : w6.cell? ⟨q, 3, none⟩ = some (.int .i32 0) := HB6.out.cell 3
  have z3 : w6.frozen? ⟨q, 3, none⟩ = false := HB6.out.frozen _
  have H7 : Hid (Blk (w6.setCell ⟨q, 3, none⟩ (.int .i32 (-1))) q 99 (trC (biR i)) ∧ Below wr.heap.size wr (w6.setCell ⟨q, 3, none⟩ (.int .i32 (-1)))) := hid ⟨by rw [← HbR.out]; exact HB6.out.set 3 _, Below.updN (Below.updN HBa.out HU6.out (by omega) HBa.out.size) ((Upd.refl q w6).setCell rfl _) (by omega) (Nat.le_trans HBa.out.size HU6.out.size)⟩
  clear HB6 HU6 HBn HBa Hone HbR
  go_upto_region 6 with fail
  generalize hw7 : w6.setCell _ _ = w7 at H7 ⊢
  clear hw7 c3 z3 hxi Hix
  have hqs : wr.heap.size ≤ q := by omega
  clear hq
  obtain ⟨x, hx⟩ : ∃ x, biR i = x := ⟨_, rfl⟩
  have Hx := hid hx
  rw [hx] at H7
  clear hx
  have HR1 := hid (HT.out.below H7.out.2)
  obtain ⟨ax, qx, hvx⟩ := HR1.out.tb.t.shape
  have hvx : v = .slice ax (T0 i).types.length qx := hvx
  have hm : (T0 i).types.length = i := by unfold T0; simp
  rw [hm] at hvx
  have Hm := hid hm
  have Hvx := hid hvx
  clear hvx hm
  refine wp_region_heavy (fun wz => Blk wz q 99 (trC x) ∧ wz.cell? ⟨tB, 0, none⟩ = some (.slice ax i qx)) 8 [0, 1, 2, 3, 4, 5] [6, 7] rfl (by kernel_rfl) (by kernel_rfl) (fun d _ _ _ _ h => by cases d <;> exact h) ⟨H7.out.1.drew ⟨1, rfl⟩, by have := HR1.out.tb.b.cell 0; rw [← Hvx.out]; exact this⟩ ?_
  apply Exists.intro
  refine ⟨?_, ?_⟩
  · intro W hW
    have k2 : ∀ u, (W u).cell? ⟨tB, 0, none⟩ = some (.slice ax i qx) := fun u => (hW u).2
    have rl : ∀ u, (Instr.loadAt 99 (.pointer (some ⟨q, 0, none⟩))).run Tryz.prog (W u) = .ok (.agg (trC x).toArray) (W u) := fun u => load_info_tr (hW u).1
    dsimp only [trC] at rl
    have Hrl := hid rl
    clear hW rl
    simp only [List.take, opsAt, List.drop, List.cons_append, List.nil_append]
    repeat (first | (go_big_quiet_want; refine quiet_loadO 99 _ rfl ⟨q, 0, none⟩ rfl _ (fun w hx => by obtain ⟨x, rfl⟩ := hx; exact Hrl.out x) ?_; simp only [Act.put, List.setIfInBounds_toArray, List.set_cons_succ, List.set_cons_zero]; go_big_quiet_on) | go_big_quiet_step (fail))
    exact rfl
  simp only [List.take, List.drop, opsAt, List.cons_append, List.nil_append, wpHv]
  have HBd : Hid (Below w7.heap.size w7 w7.drew) := hid (Drew.below ⟨1, rfl⟩ _)
  generalize w7.drew = wd at HBd ⊢
  go_wp2_with fail
  obtain ⟨k8, hk8⟩ : ∃ k, wd.heap.size = k := ⟨_, rfl⟩
  obtain ⟨wf, hwf⟩ : ∃ wf, wd.alloc (.cells (trC x).toArray 99) = wf := ⟨_, rfl⟩
  have HBf : Hid (Below w7.heap.size w7 wf) := hid (by rw [← hwf]; exact HBd.out.trans ((nbel wd _).mono HBd.out.size))
  have HNw : Hid (∀ ad, some (⟨k8, 0, none⟩ : Addr) = some ad → ∀ j u, ([x].flatMap rtR.f)[j]? = some u → wf.cell? (ad.add j) = some u) := hid (by rw [← hwf]; exact newX rtR wd x _ hk8.symm)
  dsimp only [trC] at hwf
  (try simp only [hwf, hk8])
  have HS : ∀ wx : World, Below w7.heap.size w7 wx → Blk wx q 99 (trC x) ∧ wx.cell? ⟨tB, 0, none⟩ = some (.slice ax i qx) := fun wx hx => ⟨H7.out.1.below hx, by have := (HR1.out.tb.b.below hx).cell 0; rw [← Hvx.out]; exact this⟩
  refine ⟨HS _ HBf.out, ?_⟩
  clear hwf hk8
  have HRf := hid (HR1.out.below HBf.out)
  have hrf := HRf.out.tb.t
  have hrf : RowX rtR wf τ 51 v (T0 i).types := hrf
  rw [Hvx.out] at hrf
  refine wpList_app_x okR rfl (.tmp 18) (.tmp 20) hrf rfl [x] (by simp [Act.eval, Act.put]; done) (some ⟨k8, 0, none⟩) 1 1 (by simp [Act.eval, Act.put]; done) rfl (fun h => by cases h) HNw.out (by have := Hm.out; show ((T0 i).types.length + 1) * 56 ≤ _; omega) ?_
  intro v8 w8 τ8 hr8 hf8 _ _
  obtain ⟨a8, q8, h8⟩ := hr8.out.shape
  rw [List.length_append, List.length_singleton, Hm.out] at h8
  subst h8
  have HP8 := hid (HRf.out.tb.appT hr8.out hf8.out)
  have hk8 : Blk w8 tB 95 (tbC ⟨v, .slice none 0 0, .slice none 0 0, .slice none 0 0, .map (some p), .map none, .slice none 0 0, .map (some ms), .map (some mu)⟩) := hf8.out.keep HRf.out.tb.b HRf.out.tb.rb rfl
  have hqz : τ q = 0 := by
    cases hz : τ q with
    | zero => rfl
    | succ z => have := HT.out.dom q (by rw [hz]; exact Nat.succ_ne_zero z); omega
  have s1 : Blk w8 q 99 (trC x) := hf8.out.keep (c := 0) (H7.out.1.below HBf.out) hqz rfl
  have s2 : w8.cell? ⟨tB, 0, none⟩ = some (.slice ax i qx) := by rw [← Hvx.out]; exact hk8.cell 0
  have f2 : w8.frozen? ⟨tB, 0, none⟩ = false := hk8.frozen _
  have HF : Hid (∃ v, NwT w (i + 1) tB ms mu p v (w8.setCell ⟨tB, 0, none⟩ (.slice a8 (i + 1) q8))) := hid (by
    have hX := HRf.out.fr' HP8.out.2 rfl rfl HP8.out.1 rfl rfl
    have e : ({ types := (T0 i).types ++ [x], flds := (T0 i).flds, opts := (T0 i).opts, decls := (T0 i).decls } : TS) = T0 (i + 1) := by
      unfold T0
      rw [List.range_succ, List.map_append, ← Hx.out]
      rfl
    have hX : TbX τ8 (w8.setCell ⟨tB, 0, none⟩ (.slice a8 (i + 1) q8)) tB _ ({ types := (T0 i).types ++ [x], flds := (T0 i).flds, opts := (T0 i).opts, decls := (T0 i).decls } : TS) _ := hX
    rw [e] at hX
    have hfa := HP8.out.2
    have hb7 := HL.out.2.2.2.trans (H7.out.2.mono HL.out.2.2.2.size)
    have hbf := hb7.trans (HBf.out.mono hb7.size)
    have hMf := (HL.out.1.below H7.out.2).below HBf.out
    refine ⟨_, ⟨τ8, hX, hMf.of (hfa.blk p hMf.lt (by rw [HL.out.2.1]; rfl)), by rw [hfa.old p hMf.lt]; exact HL.out.2.1, fun g hg => ?_⟩, ?_⟩
    · by_cases hlt : g < wf.heap.size
      · rw [hfa.old g hlt] at hg; exact HL.out.2.2.1 g hg
      · have := hbf.size; omega
    · exact hbf.trans ⟨hfa.os, hfa.tape, hfa.output, hfa.size, fun g hg => hfa.blk g (Nat.lt_of_lt_of_le hg hbf.size) (by
        have : τ g = 0 := by
          cases e : τ g with
          | zero => rfl
          | succ z => have := HL.out.2.2.1 g (by rw [e]; exact Nat.succ_ne_zero z); omega
        rw [this]; rfl)⟩)
  clear hrf hr8 hf8 HRf HNw HBf HBd HP8 hk8 HR1 HS hqz HL HT H7
  go_wp2_with fail
  refine ⟨⟨s1, s2⟩, ?_⟩
  simp only [QN]
  go_wp2
  exact ⟨⟨i + 1, by go_num, by omega, HF⟩, by simp [intOf]; omega⟩
end Go.Proofs.Qxb6500883aGreatDoor
