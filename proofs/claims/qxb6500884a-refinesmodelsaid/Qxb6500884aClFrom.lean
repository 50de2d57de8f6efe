/- FromIntervals. -/
import Derived.Test.Qxb6500884aClMrg
import Derived.Test.Qxb6500884aClSort
namespace Go.Proofs.Qxb6500884a
open Go.RowKit
set_option linter.unusedSimpArgs false
set_option linter.unusedVariables false

def keptL (raw : List (Int × Int)) : List (Int × Int) := (raw.filter clipB).map clipP
theorem memB_append (a b : List (Int × Int)) (x : Int) : memB (a ++ b) x = (memB a x || memB b x) := by unfold memB; rw [List.any_append]
theorem memB_one (p : Int × Int) (x : Int) : memB [p] x = (decide (p.1 ≤ x) && decide (x ≤ p.2)) := by simp [memB]
theorem clip_mem (p : Int × Int) {x : Int} (h0 : 0 ≤ x) (h1 : x ≤ 196607) : ((clipP p).1 ≤ x ∧ x ≤ (clipP p).2) ↔ (p.1 ≤ x ∧ x ≤ p.2) := by
  unfold clipP
  dsimp only
  split <;> split <;> omega
theorem memB_kept (raw : List (Int × Int)) {x : Int} (h0 : 0 ≤ x) (h1 : x ≤ 196607) : memB (keptL raw) x = memB raw x := by
  rw [Bool.eq_iff_iff, memB_iff, memB_iff]
  unfold keptL
  constructor
  · rintro ⟨q, hq, hx⟩
    obtain ⟨p, hp, rfl⟩ := List.mem_map.1 hq
    exact ⟨p, (List.mem_filter.1 hp).1, (clip_mem p h0 h1).1 hx⟩
  · rintro ⟨p, hp, hx⟩
    have hc := (clip_mem p h0 h1).2 hx
    refine ⟨clipP p, List.mem_map.2 ⟨p, List.mem_filter.2 ⟨hp, ?_⟩, rfl⟩, hc⟩
    unfold clipB
    rw [decide_eq_true_iff]
    omega
theorem kept_rng (raw : List (Int × Int)) : ∀ p ∈ keptL raw, 0 ≤ p.1 ∧ p.1 ≤ p.2 ∧ p.2 ≤ 196607 := by
  intro q hq
  obtain ⟨p, hp, rfl⟩ := List.mem_map.1 hq
  have hb := (List.mem_filter.1 hp).2
  unfold clipB at hb
  rw [decide_eq_true_iff] at hb
  refine ⟨?_, hb, ?_⟩
  · unfold clipP; dsimp only; split <;> omega
  · unfold clipP; dsimp only; split <;> omega
theorem kept_take (raw : List (Int × Int)) {k : Nat} {p : Int × Int} (h : raw[k]? = some p) : keptL (raw.take (k + 1)) = keptL (raw.take k) ++ if clipB p then [clipP p] else [] := by
  unfold keptL
  rw [List.take_add_one, h, List.filter_append, List.map_append]
  congr 1
  simp only [Option.toList_some, List.filter_cons, List.filter_nil]
  split <;> rfl
theorem kept_len (raw : List (Int × Int)) (k : Nat) : (keptL (raw.take k)).length ≤ k := by
  unfold keptL
  rw [List.length_map]
  exact Nat.le_trans (List.length_filter_le _ _) (by rw [List.length_take]; omega)
/-- The merged list of what was seen. -/
structure MInv (seen mg : List (Int × Int)) : Prop where
  nrm : Nrm mg
  mem : ∀ x, memB mg x = memB seen x
  lst : ∀ ms ab, mg = ms ++ [ab] → ∃ p ∈ seen, p.1 = ab.1
  len : mg.length ≤ seen.length
  ne : mg ≠ []
theorem MInv.one {r : Int × Int} (h : 0 ≤ r.1 ∧ r.1 ≤ r.2 ∧ r.2 ≤ 196607) : MInv [r] [r] :=
  ⟨⟨fun p hp => by simp at hp; subst hp; exact h, fun i p q hp hq => by simp at hq⟩, fun _ => rfl, fun ms ab e => ⟨r, by simp, by
    have : ms = [] := by
      cases ms with
      | nil => rfl
      | cons a t => simp at e
    subst this
    simp at e
    rw [e]⟩, Nat.le_refl _, by simp⟩
theorem MInv.step {seen ms : List (Int × Int)} {ab r : Int × Int} (h : MInv seen (ms ++ [ab])) (hr : 0 ≤ r.1 ∧ r.1 ≤ r.2 ∧ r.2 ≤ 196607) (hs : ∀ p ∈ seen, p.1 ≤ r.1) : MInv (seen ++ [r]) (mstep ms ab r) := by
  have hab := h.nrm.rng ab (by simp)
  have hle : ab.1 ≤ r.1 := by obtain ⟨p, hp, he⟩ := h.lst ms ab rfl; rw [← he]; exact hs p hp
  have hlen := h.len
  rw [List.length_append] at hlen
  simp at hlen
  by_cases hc : r.1 ≤ ab.2 + 1
  · have e : mstep ms ab r = ms ++ [(ab.1, if ab.2 < r.2 then r.2 else ab.2)] := by unfold mstep; rw [if_pos hc]
    rw [e]
    refine ⟨⟨fun p hp => ?_, fun i p q hp hq => ?_⟩, fun x => ?_, fun ms' ab' e' => ?_, by simp; omega, by simp⟩
    · rcases List.mem_append.1 hp with h1 | h1
      · exact h.nrm.rng p (by simp [h1])
      · simp at h1
        subst h1
        dsimp only
        split <;> omega
    · by_cases hi : i + 1 < ms.length
      · rw [List.getElem?_append_left (by omega)] at hp hq
        exact h.nrm.gap i p q (by rw [List.getElem?_append_left (by omega)]; exact hp) (by rw [List.getElem?_append_left (by omega)]; exact hq)
      · have hlt := (List.getElem?_eq_some_iff.1 hq).1
        simp at hlt
        have hi2 : i + 1 = ms.length := by omega
        rw [List.getElem?_append_left (by omega)] at hp
        rw [hi2, List.getElem?_append_right (by omega)] at hq
        simp at hq
        have := h.nrm.gap i p ab (by rw [List.getElem?_append_left (by omega)]; exact hp) (by rw [hi2, List.getElem?_append_right (by omega)]; simp)
        rw [← hq]
        exact this
    · rw [memB_append, memB_append, ← h.mem x, memB_append, memB_one, memB_one, memB_one, Bool.or_assoc]
      congr 1
      rw [Bool.eq_iff_iff]
      simp
      split <;> omega
    · obtain ⟨p, hp, he⟩ := h.lst ms ab rfl
      have := (List.append_inj_right' e' (by simp))
      simp at this
      exact ⟨p, by simp [hp], by rw [he, ← this]⟩
  · have e : mstep ms ab r = (ms ++ [ab]) ++ [r] := by unfold mstep; rw [if_neg hc]; simp
    rw [e]
    refine ⟨⟨fun p hp => ?_, fun i p q hp hq => ?_⟩, fun x => ?_, fun ms' ab' e' => ?_, by simp; omega, by simp⟩
    · rcases List.mem_append.1 hp with h1 | h1
      · exact h.nrm.rng p h1
      · simp at h1
        subst h1
        exact hr
    · by_cases hi : i + 1 < (ms ++ [ab]).length
      · rw [List.getElem?_append_left (by omega)] at hp
        rw [List.getElem?_append_left hi] at hq
        exact h.nrm.gap i p q hp hq
      · have hlt := (List.getElem?_eq_some_iff.1 hq).1
        simp at hlt hi
        have hi2 : i = ms.length := by omega
        subst hi2
        rw [List.getElem?_append_right (by simp)] at hq
        simp at hq
        rw [List.getElem?_append_left (by simp), List.getElem?_append_right (by omega)] at hp
        simp at hp
        subst hp hq
        omega
    · rw [memB_append (ms ++ [ab]) [r], memB_append seen [r], h.mem x]
    · have := (List.append_inj_right' e' (by simp))
      simp at this
      exact ⟨r, by simp, by rw [this]⟩
theorem make_iv (n : Nat) (hn : n ≤ 100000000000) (w : World) : (Instr.makeSlice 25 (.int .i64 0) (.int .i64 (n : Int))).run Try.prog w = .ok (.slice (some ⟨w.heap.size, 0, none⟩) 0 n) (w.alloc (.cells (madeCells #[.int .i64 0, .int .i64 0] (n * 2)) 67)) := by
  obtain ⟨i0, hi, hz0, hz1, hz2⟩ := info_ivz
  have := run_make (P := Try.prog) w 25 67 i0 _ Try.underlying25 hi hz0 .i64 .i64 0 (n : Int) (by omega) (by omega) (by rw [hz2]; omega) (by omega)
  rw [hz1, show (Value.agg #[Value.int .i64 0, .int .i64 0]).cells = #[.int .i64 0, .int .i64 0] from rfl] at this
  simpa using this
/-- What was kept so far. -/
structure Kp (w0 : World) (g p r n : Nat) (Z : List Value) (kp : List (Int × Int)) (w : World) : Prop where
  bel : Below w0.heap.size w0 w
  blk : ∃ cs, Blk w g 67 cs ∧ Pre cs kp Z
  box : Blk w p 25 [.slice (some ⟨g, 0, none⟩) kp.length n]
  res : Blk w r 30 [.slice none 0 0]
theorem Kp.below {w0 w w' : World} {g p r n : Nat} {Z : List Value} {kp : List (Int × Int)} (h : Kp w0 g p r n Z kp w) (hb : Below w.heap.size w w') : Kp w0 g p r n Z kp w' :=
  ⟨h.bel.trans (hb.mono h.bel.size), by obtain ⟨cs, h1, h2⟩ := h.blk; exact ⟨cs, h1.below hb, h2⟩, h.box.below hb, h.res.below hb⟩
theorem take_two {sp : List (Int × Int)} {k : Nat} {s : Int × Int} (h : sp[k]? = some s) : sp.take k ++ [s] = sp.take (k + 1) := by rw [List.take_add_one, h]; rfl
theorem memB_perm {a b : List (Int × Int)} (h : a.Perm b) (x : Int) : memB a x = memB b x := by
  rw [Bool.eq_iff_iff, memB_iff, memB_iff]
  exact ⟨fun ⟨p, hp, hx⟩ => ⟨p, h.subset hp, hx⟩, fun ⟨p, hp, hx⟩ => ⟨p, h.symm.subset hp, hx⟩⟩
theorem slice_self (g m n : Nat) (h : m ≤ n) (hn : n ≤ 100000000000) (w : World) : (Instr.sliceAt 25 (.slice (some ⟨g, 0, none⟩) m n) none (some (.int .i64 (m : Int))) (some (.int .i64 (m : Int)))).run Try.prog w = .ok (.slice (some ⟨g, 0, none⟩) m m) w := by
  have h1 : (m : Int) ≤ (n : Int) := by omega
  simp [go_sem, h1]
/-- The merge under way: mg lies ahead of what is still to be read. -/
structure Mw (w0 : World) (g p r m n : Nat) (Z : List Value) (sp : List (Int × Int)) (k : Nat) (mg : List (Int × Int)) (w : World) : Prop where
  bel : Below w0.heap.size w0 w
  blk : ∃ ds, Blk w g 67 ds ∧ (∀ i, i < mg.length * 2 → ds[i]? = (mg.flatMap ivC)[i]?) ∧ (∀ i, (k + 1) * 2 ≤ i ∧ i < sp.length * 2 → ds[i]? = (sp.flatMap ivC)[i]?)
  box : Blk w p 25 [.slice (some ⟨g, 0, none⟩) m n]
  res : Blk w r 30 [.slice none 0 0]
  inv : MInv (sp.take (k + 1)) mg
  dl : ∀ ds, Blk w g 67 ds → ds.length = n * 2
theorem Mw.below {w0 w w' : World} {g p r m n k : Nat} {Z : List Value} {sp mg : List (Int × Int)} (h : Mw w0 g p r m n Z sp k mg w) (hb : Below w.heap.size w w') : Mw w0 g p r m n Z sp k mg w' := by
  obtain ⟨ds, h1, h2, h3⟩ := h.blk
  exact ⟨h.bel.trans (hb.mono h.bel.size), ⟨ds, h1.below hb, h2, h3⟩, h.box.below hb, h.res.below hb, h.inv, fun ds' h' => by rw [← Blk.inj (h1.below hb) h']; exact h.dl ds h1⟩
theorem Mw.step {w0 w w' : World} {g p r m n k : Nat} {Z : List Value} {sp mg mg' : List (Int × Int)} {ds ds' : List Value} (h : Mw w0 g p r m n Z sp k mg w) (hu : Upd g w w') (hd : Blk w' g 67 ds') (hp : Pre ds' mg' ds) (hi : MInv (sp.take (k + 1 + 1)) mg')
    (ho : ∀ i, (k + 1) * 2 ≤ i ∧ i < sp.length * 2 → ds[i]? = (sp.flatMap ivC)[i]?) (hl : ds.length = n * 2) (hg : w0.heap.size ≤ g) (hne : r < g ∧ g < p) (hk : mg.length ≤ k + 1) : Mw w0 g p r m n Z sp (k + 1) mg' w' := by
  have hm : mg'.length ≤ k + 1 + 1 := by have := hi.len; rw [List.length_take] at this; omega
  exact ⟨h.bel.trans (hu.below hg h.bel.size), ⟨ds', hd, hp.pre, fun i hi => by rw [hp.oth i (by omega)]; exact ho i (by omega)⟩, h.box.upd hu (by omega), h.res.upd hu (by omega), hi, fun ds2 h2 => by rw [← Blk.inj hd h2, hp.len, hl]⟩
/-- What FromIntervals answers. -/
structure FromP (raw : List (Int × Int)) (w : World) (e : Ending) (w' : World) : Prop where
  out : ∃ a n c l, e = .returned (.agg #[.slice a n c]) ∧ IvRow w' a n c l ∧ Nrm l ∧ (∀ x, 0 ≤ x → x ≤ 196607 → memB l x = memB raw x) ∧ n ≤ raw.length ∧ (∀ b off, a = some ⟨b, off, none⟩ → w.heap.size ≤ b) ∧ Ty67 w' a n
  bel : Below w.heap.size w w'
set_option maxRecDepth 100000 in
set_option maxHeartbeats 4000000 in
theorem from_walk (a : Option Addr) (n c : Nat) (raw : List (Int × Int)) (w : World) (hr : IvRow w a n c raw) (hn : n ≤ 10000000000) :
    Calls Try.prog 12 #[.slice a n c] w fun e w' => FromP raw w e w' := by
  have HR := hid hr
  have hl := hr.len
  have hmk := make_iv n (by omega)
  clear hr
  obtain ⟨i0, hi, hz0, hz1, hz2⟩ := info_ivz
  have HI := hid (And.intro hi (And.intro hz0 (And.intro hz1 hz2)))
  clear hi hz0 hz1 hz2
  obtain ⟨r, hr0⟩ : ∃ r, w.heap.size = r := ⟨_, rfl⟩
  obtain ⟨Z, hZ⟩ : ∃ Z : List Value, madeCells #[Value.int .i64 0, .int .i64 0] (n * 2) = Z.toArray := ⟨(madeCells #[Value.int .i64 0, .int .i64 0] (n * 2)).toList, by simp⟩
  have hZl : Z.length = n * 2 := by have h := size_madeCells #[Value.int .i64 0, .int .i64 0] (n * 2); rw [hZ] at h; simpa using h
  rw [hZ] at hmk
  clear hZ
  have HK0 : Hid (Kp w (r + 1) (r + 1 + 1) r n Z [] (((w.alloc (.cells [Value.slice none 0 0].toArray 30)).alloc (.cells Z.toArray 67)).alloc (.cells [Value.slice (some ⟨r + 1, 0, none⟩) 0 n].toArray 25))) := hid (by
    have s1 : ∀ (x : World) (o : Obj), (x.alloc o).heap.size = x.heap.size + 1 := fun x o => by simp
    have b0 := Blk.new w [Value.slice none 0 0] 30
    have b1 := Blk.new (w.alloc (.cells [Value.slice none 0 0].toArray 30)) Z 67
    have b2 := Blk.new ((w.alloc (.cells [Value.slice none 0 0].toArray 30)).alloc (.cells Z.toArray 67)) [Value.slice (some ⟨r + 1, 0, none⟩) 0 n] 25
    rw [hr0] at b0
    rw [s1, hr0] at b1
    rw [s1, s1, hr0] at b2
    exact ⟨((nbel w _).alloc (by rw [s1]; omega) _).alloc (by rw [s1, s1]; omega) _, ⟨Z, b1.alloc _, ⟨rfl, fun i hi => by simp at hi, fun _ _ => rfl⟩⟩, b2, (b0.alloc _).alloc _⟩)
  obtain ⟨g, hg⟩ : ∃ g, r + 1 = g := ⟨_, rfl⟩
  obtain ⟨p, hp⟩ : ∃ p, g + 1 = p := ⟨_, rfl⟩
  rw [hg, hp] at HK0
  have hrw : w.heap.size ≤ r := by omega
  have Hg := hid hg
  have Hp := hid hp
  go_enter Try.func12, Try.ntmps12
  go_upto_region 2 with fail
  have HK1 : Hid (Kp w g p r n Z [] (((w.alloc (.cells #[Value.slice none 0 0] 30)).alloc (.cells Z.toArray 67)).alloc (.cells #[Value.slice (some ⟨g, 0, none⟩) 0 n] 25))) := HK0
  generalize ((w.alloc (.cells #[Value.slice none 0 0] 30)).alloc (.cells Z.toArray 67)).alloc (.cells #[Value.slice (some ⟨g, 0, none⟩) 0 n] 25) = w1 at HK1 ⊢
  clear HK0 hmk hg hp
  have hgr : r < g := by rw [← Hg.out]; omega
  have hpg : g < p := by rw [← Hp.out]; omega
  go_wp2_with fail
  go_loopw [16] (fun i wr => ∃ k : Nat, k ≤ n ∧ i = .int .i64 k ∧ Hid (Kp w g p r n Z (keptL (raw.take k)) wr)) (fun i _ => n - (intOf i).toNat)
  case atStart => exact ⟨0, Nat.zero_le _, rfl, by simpa [keptL] using HK1⟩
  case round =>
    clear HK1
    obtain ⟨k, hk, rfl, HK⟩ := hrel
    by_cases hlt : k < n
    · as_aux_lemma =>
      obtain ⟨pr, hpr, f1, f2, b, off, rfl, hb, e1, e2⟩ := (HR.out.below HK.out.bel).get hlt
      have HKt := hid (kept_take raw hpr)
      have hkl := kept_len raw k
      obtain ⟨x, y⟩ := pr
      dsimp only at e1 e2
      have dk : decide ((k : Int) < (n : Int)) = true := decide_eq_true (by omega)
      have i1 : (k : Int) < (n : Int) := by omega
      clear hpr
      obtain ⟨kp, hkp⟩ : ∃ kp, keptL (raw.take k) = kp := ⟨_, rfl⟩
      rw [hkp] at HK HKt hkl
      have HCl := hid (fun w => clip_walk x y w)
      obtain ⟨⟨u, v⟩, huv⟩ : ∃ uv, clipP (x, y) = uv := ⟨_, rfl⟩
      obtain ⟨bb, hbb⟩ : ∃ bb, clipB (x, y) = bb := ⟨_, rfl⟩
      rw [huv, hbb] at HCl HKt
      have HCl2 : Hid (∀ w, Calls Try.prog 35 #[.agg #[.int .i64 x, .int .i64 y]] w fun e w' => e = .returned (.tuple #[.agg #[.int .i64 u, .int .i64 v], .bool bb]) ∧ Below w.heap.size w w') := HCl
      have HK2 := hid (HK.out.below (nbel wr (.cells #[.int .i64 x, .int .i64 y] 67)))
      clear HCl hkp huv hbb
      go_wp2_with fail
      refine (HCl2.out _).mono ?_
      rintro e w3 ⟨rfl, hb3⟩
      have HK3 := hid (HK2.out.below hb3)
      have HK4 := hid (HK3.out.below (nbel w3 (.cells #[.int .i64 u, .int .i64 v] 67)))
      clear hb3 HK2 HCl2
      cases bb with
      | false =>
        go_wp2
        exact ⟨⟨k + 1, by omega, by go_num, hid (by rw [HKt.out]; simpa using HK4.out)⟩, by simp [intOf]; omega⟩
      | true =>
        go_upto_region 7 with fail
        obtain ⟨w4, hw4⟩ : ∃ w4, w3.alloc (.cells #[.int .i64 u, .int .i64 v] 67) = w4 := ⟨_, rfl⟩
        have hbq := Blk.new w3 [.int .i64 u, .int .i64 v] 67
        have hw4' : w3.alloc (.cells [Value.int .i64 u, .int .i64 v].toArray 67) = w4 := hw4
        rw [hw4'] at hbq
        rw [hw4] at HK4
        try simp only [hw4]
        obtain ⟨q, hq⟩ : ∃ q, w3.heap.size = q := ⟨_, rfl⟩
        rw [hq] at hbq
        have c1 : w4.cell? ⟨q, 0, none⟩ = some (.int .i64 u) := hbq.cell 0
        have c2 : w4.cell? ⟨q, 1, none⟩ = some (.int .i64 v) := hbq.cell 1
        have c3 : w4.cell? ⟨p, 0, none⟩ = some (.slice (some ⟨g, 0, none⟩) kp.length n) := HK4.out.box.cell 0
        obtain ⟨cs, hcs, hpre⟩ := HK4.out.blk
        have hgw := hcs.lt
        have HBg := hid (hcs.alloc (.cells #[.int .i64 u, .int .i64 v] 67))
        have HNew := hid (newRow w4 [.int .i64 u, .int .i64 v] 67 w4.heap.size rfl)
        have HPre := hid hpre
        obtain ⟨m, hm⟩ : ∃ m, kp.length = m := ⟨_, rfl⟩
        have hroom : m + 1 ≤ n := by omega
        have hfit : m * 2 + 2 ≤ cs.length := by rw [hpre.len, hZl]; omega
        rw [hm] at c3
        have Hm := hid hm
        have HB5 := hid ((HK4.out.box.alloc (.cells #[.int .i64 u, .int .i64 v] 67)))
        have HR5 := hid ((HK4.out.res.alloc (.cells #[.int .i64 u, .int .i64 v] 67)))
        have HBe5 := hid (HK4.out.bel.alloc HK4.out.bel.size (.cells #[.int .i64 u, .int .i64 v] 67))
        clear hcs hpre hbq hw4 hw4' hm
        go_wp2_with (at_builtin; refine wpList_append_blk rfl (.tmp 26) (.tmp 28) 25 rfl 67 i0 2 Try.underlying25 HI.out.1 HI.out.2.2.1 g m n cs rfl HBg.out ⟨w4.heap.size, 0, none⟩ 1 1 [.int .i64 u, .int .i64 v] rfl rfl (fun j u hu => HNew.out _ rfl j u hu) (fun u hu => by simp at hu; rcases hu with rfl | rfl <;> rfl) hroom hfit ?_; intro w8 hb8 hu8; have HB8 := hid hb8; have HU8 := hid hu8; have c8 : w8.cell? ⟨p, 0, none⟩ = some (.slice (some ⟨g, 0, none⟩) kp.length n) := (HB5.out.upd hu8 (by omega)).cell 0; have f8 := (HB5.out.upd hu8 (by omega)).frozen 0; clear hb8 hu8)
        have HKn : Hid (Kp w g p r n Z (kp ++ [(u, v)]) (w8.setCell ⟨p, 0, none⟩ (.slice (some ⟨g, 0, none⟩) (m + 1) n))) := hid (by
          have hp' := HPre.out.app (x := u) (y := v) (by rw [Hm.out, hZl]; omega)
          rw [Hm.out] at hp'
          have hbel : Below w.heap.size w w8 := HBe5.out.trans (HU8.out.below (by omega) HBe5.out.size)
          refine ⟨hbel.trans (((Upd.refl p w8).setCell rfl _).below (by omega) hbel.size), ⟨_, HB8.out.setOther (p := ⟨p, 0, none⟩) (by show p ≠ g; omega) _, hp'⟩, ?_, (HR5.out.upd HU8.out (by omega)).setOther (p := ⟨p, 0, none⟩) (by show p ≠ r; omega) _⟩
          have := (HB5.out.upd HU8.out (by omega)).set 0 (.slice (some ⟨g, 0, none⟩) (m + 1) n)
          rw [List.length_append, Hm.out]
          exact this)
        exact ⟨⟨k + 1, by omega, by go_num, hid (by rw [HKt.out]; exact HKn.out)⟩, by simp [intOf]; omega⟩
    · as_aux_lemma =>
      have dk : decide ((k : Int) < (n : Int)) = false := decide_eq_false (by omega)
      rw [List.take_of_length_le (by omega)] at HK
      have hkl : (keptL raw).length ≤ n := by have := kept_len raw n; rw [List.take_of_length_le (by omega)] at this; exact this
      have HRn := hid (kept_rng raw)
      have HMm := hid (fun x h0 h1 => memB_kept raw (x := x) h0 h1)
      obtain ⟨kp, hkp⟩ : ∃ kp, keptL raw = kp := ⟨_, rfl⟩
      rw [hkp] at HK hkl HRn HMm
      clear hkp
      have c3 : wr.cell? ⟨p, 0, none⟩ = some (.slice (some ⟨g, 0, none⟩) kp.length n) := HK.out.box.cell 0
      obtain ⟨m, hm⟩ : ∃ m, kp.length = m := ⟨_, rfl⟩
      rw [hm] at c3 hkl
      by_cases hm0 : m = 0
      · subst hm0
        have hk0 : kp = [] := List.eq_nil_of_length_eq_zero hm
        have I0 : Hid ((Try.prog.info? 30).map (·.size) = some [Value.slice none 0 0].length) := hid info_reg
        go_wp2_with (refine wpList_store_blk rfl 30 _ _ rfl r rfl [.slice none 0 0] rfl HK.out.res rfl I0.out (fun v hv => by simp at hv; subst hv; rfl) ?_; intro w9 HB9 HU9)
        exact bodyPost_ret (results_blk Try.results12 rfl (show AggOf Try.prog 30 (List.length [_]) from AggOf.struct Try.underlying30 info_reg) HB9.out) rfl ⟨⟨none, 0, 0, [], rfl, ⟨⟨rfl, Nat.le_refl _, ⟨by omega, by omega, fun _ => rfl⟩, fun i hi => absurd hi (by simp)⟩, fun q hq => (by cases hq)⟩, ⟨fun q hq => (by cases hq), fun i q1 q2 h1 h2 => (by cases h1)⟩, fun x h0 h1 => by rw [← HMm.out x h0 h1, hk0], Nat.zero_le _, fun b off e => (by cases e), Ty67.nil _ _⟩,
          HK.out.bel.trans (HU9.out.below (by omega) HK.out.bel.size)⟩
      have hm1 : 1 ≤ m := by omega
      obtain ⟨cs, hcs, hpre⟩ := HK.out.blk
      have HSo := hid (sortAny g p n kp cs Z wr hcs hpre HK.out.box (by omega) (by omega) (by omega) (by omega))
      rw [hm] at HSo
      have dz : ((m : Int) == 0) = false := by simp; omega
      have dz' : (m == 0) = false := by simp; omega
      have Hkm := hid hm
      clear hcs hpre hm
      go_wp2_with fail
      refine (HSo.out).mono ?_
      rintro e w2 ⟨rfl, sp, hperm, hasc, ⟨ds, hds, hpre2⟩, hu2⟩
      have HBx := hid (HK.out.box.upd hu2 (by omega))
      rw [Hkm.out] at HBx
      have HRs := hid (HK.out.res.upd hu2 (by omega))
      have HBe : Hid (Below w.heap.size w w2) := hid (HK.out.bel.trans (hu2.below (by omega) HK.out.bel.size))
      have hspl : sp.length = m := by rw [hperm.length_eq]; exact Hkm.out
      have HPm := hid hperm
      have HAs := hid hasc
      have HDs := hid hds
      have HP2 := hid hpre2
      have c4 : w2.cell? ⟨p, 0, none⟩ = some (.slice (some ⟨g, 0, none⟩) m n) := HBx.out.cell 0
      have n1 : (1 : Int) ≤ (n : Int) := by omega
      have n2 : (1 : Int) ≤ (m : Int) := by omega
      clear HSo hperm hasc hds hpre2 hu2 c3
      obtain ⟨m', hm'⟩ : ∃ m', m - 1 = m' := ⟨_, rfl⟩
      obtain ⟨n', hn'⟩ : ∃ n', n - 1 = n' := ⟨_, rfl⟩
      obtain ⟨s0, hs0⟩ : ∃ s0, sp[0]? = some s0 := ⟨_, List.getElem?_eq_getElem (by omega)⟩
      have HM0 : Hid (Mw w g p r m n Z sp 0 [s0] w2) := hid (by
        have h0r := HRn.out s0 (HPm.out.subset (List.mem_of_getElem? hs0))
        have ht : sp.take 1 = [s0] := by rw [List.take_add_one, hs0]; rfl
        refine ⟨HBe.out, ⟨ds, HDs.out, fun i hi => ?_, fun i hi => ?_⟩, HBx.out, HRs.out, by rw [ht]; exact MInv.one h0r, fun ds' h' => by rw [← Blk.inj HDs.out h', HP2.out.len, hZl]⟩
        · rw [HP2.out.pre i (by rw [hspl]; simp at hi; omega)]
          simp at hi
          rw [show i = 0 * 2 + i by omega, flat_get hs0 (by omega), flat_get (mg := [s0]) (p := s0) rfl (by omega)]
        · exact HP2.out.pre i hi.2)
      clear hs0
      by_cases hn1 : n = 1
      · as_aux_lemma =>
        subst hn1
        have hm0 : m' = 0 := by omega
        have hm1' : m = 1 := by omega
        go_wp2_with fail
        go_loopw [8, 44] (fun v i wr => ∃ (k : Nat) (mg : List (Int × Int)), k ≤ m' ∧ i = .int .i64 k ∧ v = .slice (some ⟨g, 0, none⟩) mg.length 1 ∧ Hid (Mw w g p r m 1 Z sp k mg wr)) (fun _ i _ => m' - (intOf i).toNat)
        case atStart => exact ⟨0, [s0], by omega, rfl, rfl, HM0⟩
        case round =>
          clear HM0 c4
          obtain ⟨k2, mg, hk2, rfl, rfl, HM⟩ := hrel
          by_cases hlt2 : k2 < m'
          rotate_left
          · have dk2 : decide ((k2 : Int) < (m' : Int)) = false := decide_eq_false (by omega)
            obtain ⟨ds2, hd2, hp2, hoth2⟩ := HM.out.blk
            have hmi := HM.out.inv
            have hmgl : mg.length ≤ 1 := by have := hmi.len; rw [List.length_take] at this; omega
            have HD2 := hid hd2
            have HPp2 := hid hp2
            have HMi := hid hmi
            have HRs2 := hid HM.out.res
            have HBe2 := hid HM.out.bel
            have hsl : ∀ w : World, (Instr.sliceAt 25 (.slice (some ⟨g, 0, none⟩) mg.length 1) none (some (.int .i64 (mg.length : Int))) (some (.int .i64 (mg.length : Int)))).run Try.prog w = .ok (.slice (some ⟨g, 0, none⟩) mg.length mg.length) w := fun w => slice_self g mg.length 1 hmgl (by omega) w
            have I1 : Hid ((Try.prog.info? 30).map (·.size) = some [Value.slice (some ⟨g, 0, none⟩) mg.length mg.length].length) := hid info_reg
            have HTk : Hid (sp.take (k2 + 1) = sp) := hid (List.take_of_length_le (by omega))
            have i5 : (mg.length : Int) ≤ (1 : Int) := by omega
            clear hd2 hp2 hoth2 hmi HM
            go_wp2_with (refine wpList_store_blk rfl 30 _ _ rfl r rfl [.slice (some ⟨g, 0, none⟩) mg.length mg.length] rfl HRs2.out rfl I1.out (fun v hv => by simp at hv; subst hv; rfl) ?_; intro w9 HB9 HU9)
            have hrow : IvRow w9 (some ⟨g, 0, none⟩) mg.length mg.length mg := by
              have hdg := HD2.out.upd HU9.out (show g ≠ r by omega)
              refine ⟨⟨rfl, Nat.le_refl _, ⟨by omega, by unfold maxLen; omega, fun e => by cases e⟩, fun i hi => ⟨g, 0, rfl, hdg.lt, fun j hj => ?_⟩⟩, fun q hq => ?_⟩
              · rw [hdg.cell, Nat.zero_add, HPp2.out (i * 2 + j) (by omega), flat_get (List.getElem?_eq_getElem hi) hj]
              · have := HMi.out.nrm.rng q hq
                unfold Fit
                omega
            exact bodyPost_ret (results_blk Try.results12 rfl (show AggOf Try.prog 30 (List.length [_]) from AggOf.struct Try.underlying30 info_reg) HB9.out) rfl ⟨⟨_, _, _, mg, rfl, hrow, HMi.out.nrm, fun x h0 h1 => by rw [HMi.out.mem x, HTk.out, memB_perm HPm.out x, HMm.out x h0 h1], by omega, fun b off e => (by cases e; omega), Ty67.blk (HD2.out.upd HU9.out (show g ≠ r by omega))⟩,
              HBe2.out.trans (HU9.out.below (by omega) HBe2.out.size)⟩
          · exact absurd hlt2 (by omega)
      · as_aux_lemma =>
        have hn2 : (n = 1) = False := by simp; omega
        have hn3 : (n' = 0) = False := by simp; omega
        go_wp2_with fail
        go_loopw [8, 44] (fun v i wr => ∃ (k : Nat) (mg : List (Int × Int)), k ≤ m' ∧ i = .int .i64 k ∧ v = .slice (some ⟨g, 0, none⟩) mg.length n ∧ Hid (Mw w g p r m n Z sp k mg wr)) (fun _ i _ => m' - (intOf i).toNat)
        case atStart => exact ⟨0, [s0], by omega, rfl, rfl, HM0⟩
        case round =>
          clear HM0 c4
          obtain ⟨k2, mg, hk2, rfl, rfl, HM⟩ := hrel
          by_cases hlt2 : k2 < m'
          rotate_left
          · have dk2 : decide ((k2 : Int) < (m' : Int)) = false := decide_eq_false (by omega)
            obtain ⟨ds2, hd2, hp2, hoth2⟩ := HM.out.blk
            have hmi := HM.out.inv
            have hmgl : mg.length ≤ n := by have := hmi.len; rw [List.length_take] at this; omega
            have HD2 := hid hd2
            have HPp2 := hid hp2
            have HMi := hid hmi
            have HRs2 := hid HM.out.res
            have HBe2 := hid HM.out.bel
            have hsl : ∀ w : World, (Instr.sliceAt 25 (.slice (some ⟨g, 0, none⟩) mg.length n) none (some (.int .i64 (mg.length : Int))) (some (.int .i64 (mg.length : Int)))).run Try.prog w = .ok (.slice (some ⟨g, 0, none⟩) mg.length mg.length) w := fun w => slice_self g mg.length n hmgl (by omega) w
            have I1 : Hid ((Try.prog.info? 30).map (·.size) = some [Value.slice (some ⟨g, 0, none⟩) mg.length mg.length].length) := hid info_reg
            have HTk : Hid (sp.take (k2 + 1) = sp) := hid (List.take_of_length_le (by omega))
            have i5 : (mg.length : Int) ≤ (n : Int) := by omega
            clear hd2 hp2 hoth2 hmi HM
            go_wp2_with (refine wpList_store_blk rfl 30 _ _ rfl r rfl [.slice (some ⟨g, 0, none⟩) mg.length mg.length] rfl HRs2.out rfl I1.out (fun v hv => by simp at hv; subst hv; rfl) ?_; intro w9 HB9 HU9)
            have hrow : IvRow w9 (some ⟨g, 0, none⟩) mg.length mg.length mg := by
              have hdg := HD2.out.upd HU9.out (show g ≠ r by omega)
              refine ⟨⟨rfl, Nat.le_refl _, ⟨by omega, by unfold maxLen; omega, fun e => by cases e⟩, fun i hi => ⟨g, 0, rfl, hdg.lt, fun j hj => ?_⟩⟩, fun q hq => ?_⟩
              · rw [hdg.cell, Nat.zero_add, HPp2.out (i * 2 + j) (by omega), flat_get (List.getElem?_eq_getElem hi) hj]
              · have := HMi.out.nrm.rng q hq
                unfold Fit
                omega
            exact bodyPost_ret (results_blk Try.results12 rfl (show AggOf Try.prog 30 (List.length [_]) from AggOf.struct Try.underlying30 info_reg) HB9.out) rfl ⟨⟨_, _, _, mg, rfl, hrow, HMi.out.nrm, fun x h0 h1 => by rw [HMi.out.mem x, HTk.out, memB_perm HPm.out x, HMm.out x h0 h1], by omega, fun b off e => (by cases e; omega), Ty67.blk (HD2.out.upd HU9.out (show g ≠ r by omega))⟩,
              HBe2.out.trans (HU9.out.below (by omega) HBe2.out.size)⟩
          · have dk2 : decide ((k2 : Int) < (m' : Int)) = true := decide_eq_true (by omega)
            have i6 : (k2 : Int) < (m' : Int) := by omega
            obtain ⟨s1, hs1⟩ : ∃ s1, sp[k2 + 1]? = some s1 := ⟨_, List.getElem?_eq_getElem (by omega)⟩
            have hs1r := HRn.out s1 (HPm.out.subset (List.mem_of_getElem? hs1))
            obtain ⟨ds2, hd2, hp2, hoth2⟩ := HM.out.blk
            obtain ⟨ms, ab, hab⟩ : ∃ ms ab, mg = ms ++ [ab] := by
              rcases List.eq_nil_or_concat mg with h | ⟨ms, ab, h⟩
              · exact absurd h HM.out.inv.ne
              · exact ⟨ms, ab, by rw [h, List.concat_eq_append]⟩
            subst hab
            obtain ⟨ax, bx⟩ := ab
            obtain ⟨x, y⟩ := s1
            have hmi := HM.out.inv
            have hlen2 : ms.length + 1 ≤ k2 + 1 := by have := hmi.len; rw [List.length_take, List.length_append] at this; simp at this; omega
            have hbx := hmi.nrm.rng (ax, bx) (by simp)
            have hst : ∀ q ∈ sp.take (k2 + 1), q.1 ≤ x := fun q hq => by
              obtain ⟨i, hi⟩ := List.mem_iff_getElem?.1 hq
              have hi1 := (List.getElem?_eq_some_iff.1 hi).1
              rw [List.length_take] at hi1
              rw [List.getElem?_take, if_pos (by omega)] at hi
              exact HAs.out i (k2 + 1) q (x, y) (by omega) hi hs1
            have HStep := hid (hmi.step hs1r hst)
            have HTk : Hid (sp.take (k2 + 1) ++ [(x, y)] = sp.take (k2 + 1 + 1)) := hid (take_two hs1)
            have hd2l : ds2.length = n * 2 := HM.out.dl ds2 hd2
            have e3 : wr.cell? ⟨g, 2 + k2 * 2, none⟩ = some (.int .i64 x) := by rw [hd2.cell, hoth2 _ (by omega), show 2 + k2 * 2 = (k2 + 1) * 2 + 0 by omega, flat_get hs1 (by omega)]; rfl
            have e4 : wr.cell? ⟨g, 2 + k2 * 2 + 1, none⟩ = some (.int .i64 y) := by rw [hd2.cell, hoth2 _ (by omega), show 2 + k2 * 2 + 1 = (k2 + 1) * 2 + 1 by omega, flat_get hs1 (by omega)]; rfl
            have HPr : Hid (Pre ds2 (ms ++ [(ax, bx)]) ds2) := hid ⟨rfl, hp2, fun _ _ => rfl⟩
            have HMg := hid (merged_walk g n ds2 ds2 ms ax bx x y (wr.alloc (.cells #[.int .i64 x, .int .i64 y] 67)) (hd2.alloc _) HPr.out (by omega) (by omega) (by omega) hbx.2.2 (by omega))
            have HM2 := hid (HM.out.below (nbel wr (.cells #[.int .i64 x, .int .i64 y] 67)))
            have hml : (ms ++ [(ax, bx)]).length = ms.length + 1 := by simp
            rw [hml]
            have Hs1 := hid hs1
            have Hoth := hid hoth2
            clear hs1 hd2 hp2 hoth2 hmi HM hst hml
            go_wp2_with fail
            refine (HMg.out).mono ?_
            rintro e w5 ⟨rfl, hu5, ds5, hd5, hp5⟩
            have HMn : Hid (Mw w g p r m n Z sp (k2 + 1) (mstep ms (ax, bx) (x, y)) w5) := hid (HM2.out.step hu5 hd5 hp5 (by have := HStep.out; rw [HTk.out] at this; exact this) Hoth.out hd2l (by omega) (by omega) (by simp; omega))
            obtain ⟨mg', hmg'⟩ : ∃ mg', mstep ms (ax, bx) (x, y) = mg' := ⟨_, rfl⟩
            rw [hmg'] at HMn
            rw [hmg']
            clear hu5 hd5 hp5 HMg HM2 hmg'
            go_wp2
            exact ⟨⟨k2 + 1, mg', by omega, by go_num, rfl, HMn⟩, by simp [intOf]; omega⟩
end Go.Proofs.Qxb6500884a
