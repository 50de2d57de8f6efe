/- The law SortStableOnKeyed. -/
import Derived.Test.Qxb6500890aTextKStab
import Derived.Test.Qxb6500890aTextSortLaw
namespace Go.Proofs.Qxb6500890a
open Go.RowKit
set_option linter.unusedSimpArgs false
set_option linter.unusedVariables false

/-- The records, each with its own place for a value. -/
def tag (X : List Rec) : List Rec := X.zipIdx.map (fun p => (p.1.1, ((p.2 : Nat) : Int)))
theorem tag_get (X : List Rec) (k : Nat) : (tag X)[k]? = (X[k]?).map (fun r => (r.1, (k : Int))) := by
  simp [tag, List.getElem?_zipIdx]
  cases X[k]? <;> simp
theorem tag_len (X : List Rec) : (tag X).length = X.length := by simp [tag]
theorem tag_mem {X : List Rec} {r : Rec} (h : r ∈ tag X) : ∃ (m : Nat) (r0 : Rec), X[m]? = some r0 ∧ r0.1 = r.1 ∧ r.2 = (m : Int) ∧ m < X.length := by
  obtain ⟨m, hm, rfl⟩ := List.getElem_of_mem h
  have e := List.getElem?_eq_getElem hm
  rw [tag_get] at e
  obtain ⟨r0, h0, h1⟩ := Option.map_eq_some_iff.1 e
  refine ⟨m, r0, h0, ?_, ?_, by rw [tag_len] at hm; exact hm⟩
  · rw [← h1]
  · rw [← h1]

/-- a stands before b: its key is no greater, and of equal keys the value rises. -/
def Bef (a b : Rec) : Prop := ltK b a = false ∧ (ltK a b = false → a.2 < b.2)

theorem ins_bef (x : Rec) : ∀ l : List Rec, l.Pairwise Bef → (∀ y ∈ l, y.2 < x.2) → (ins ltK x l).Pairwise Bef
  | [], _, _ => by simp [ins]
  | y :: l, hp, hl => by
    obtain ⟨h1, h2⟩ := List.pairwise_cons.1 hp
    cases hxy : ltK x y with
    | true =>
      have e : ins ltK x (y :: l) = x :: y :: l := by simp [ins, hxy]
      rw [e]
      have hyx := ltK_ord.asym x y hxy
      refine List.pairwise_cons.2 ⟨fun z hz => ?_, hp⟩
      rcases List.mem_cons.1 hz with rfl | hz
      · exact ⟨hyx, fun h => by rw [hxy] at h; cases h⟩
      · have hb := h1 z hz
        refine ⟨ltK_ord.trans z y x hb.1 hyx, fun h => ?_⟩
        have := ltK_ord.trans x z y h hb.1
        rw [hxy] at this; cases this
    | false =>
      have e : ins ltK x (y :: l) = y :: ins ltK x l := by simp [ins, hxy]
      rw [e]
      refine List.pairwise_cons.2 ⟨fun z hz => ?_, ins_bef x l h2 (fun z hz => hl z (List.mem_cons_of_mem _ hz))⟩
      rcases ins_mem.1 hz with rfl | hz
      · exact ⟨hxy, fun _ => hl y List.mem_cons_self⟩
      · exact h1 z hz

theorem foldl_bef : ∀ (l acc : List Rec), acc.Pairwise Bef → l.Pairwise (fun a b => a.2 < b.2) → (∀ a ∈ acc, ∀ b ∈ l, a.2 < b.2) → (l.foldl (fun acc x => ins ltK x acc) acc).Pairwise Bef
  | [], acc, h, _, _ => h
  | x :: l, acc, h, hl, hal => by
    obtain ⟨h1, h2⟩ := List.pairwise_cons.1 hl
    refine foldl_bef l _ (ins_bef x acc h (fun y hy => hal y hy x List.mem_cons_self)) h2 (fun a ha b hb => ?_)
    rcases ins_mem.1 ha with rfl | ha
    · exact h1 b hb
    · exact hal a ha b (List.mem_cons_of_mem _ hb)

theorem tag_rising (X : List Rec) : (tag X).Pairwise (fun a b => a.2 < b.2) := by
  rw [List.pairwise_iff_getElem]
  intro i j hi hj hij
  have e1 := List.getElem?_eq_getElem hi
  have e2 := List.getElem?_eq_getElem hj
  rw [tag_get] at e1 e2
  obtain ⟨r1, _, h1⟩ := Option.map_eq_some_iff.1 e1
  obtain ⟨r2, _, h2⟩ := Option.map_eq_some_iff.1 e2
  rw [← h1, ← h2]
  simp; omega

theorem sorted_bef (X : List Rec) {i : Nat} {a b : Rec} (ha : (ssort ltK (tag X))[i]? = some a) (hb : (ssort ltK (tag X))[i + 1]? = some b) : Bef a b := by
  have := foldl_bef (tag X) [] List.Pairwise.nil (tag_rising X) (fun a h => by cases h)
  obtain ⟨h1, rfl⟩ := List.getElem?_eq_some_iff.1 ha
  obtain ⟨h2, rfl⟩ := List.getElem?_eq_some_iff.1 hb
  exact (List.pairwise_iff_getElem.1 this) i (i + 1) h1 h2 (by omega)

theorem fill_next {T : List Rec} {n k : Nat} {t z : Rec} (hT : T.length = n) (hk : k < n) (ht : T[k]? = some t) : (T.take k ++ List.replicate (n - k) z).set k t = T.take (k + 1) ++ List.replicate (n - (k + 1)) z := by
  have hl : (T.take k).length = k := by rw [List.length_take]; omega
  rw [show n - k = (n - (k + 1)) + 1 by omega, List.replicate_succ, List.take_add_one, ht]
  have e := seg_set (T.take k) (z :: List.replicate (n - (k + 1)) z) 0 t
  rw [hl] at e
  refine e.trans ?_
  simp

theorem Upd.cell {g k i : Nat} {w w' : World} (h : Upd g w w') (hk : k < w.heap.size) (hne : k ≠ g) : w'.cell? ⟨k, i, none⟩ = w.cell? ⟨k, i, none⟩ := by
  simp only [World.cell?, h.block k hk hne]

set_option maxRecDepth 100000 in
set_option maxHeartbeats 1000000 in
theorem sortKeyed_walk (g n : Nat) (X : List Rec) (hX : X.length = n) (hn : n ≤ 65536) (hok : ∀ s ∈ X, s.1.size ≤ 140737488351232) (w : World) (hb : BlkK w g X) :
    Calls Try.prog 28 #[.slice (some ⟨g, 0, none⟩) n n] w fun e w' => e = .returned (.tuple #[]) ∧ Upd g w w' ∧ BlkK w' g (ssort ltK X) := by
  have HB0 := hid hb
  have HOk := hid hok
  clear hb hok
  go_enter Try.func28, Try.ntmps28
  go_wp2_with fail
  refine (stableK_walk g n X hX hn HOk.out _ HB0.out).mono ?_
  rintro e w1 ⟨rfl, hu1, hb1⟩
  have HU1 := hid hu1
  have HB1 := hid hb1
  clear hu1 hb1
  go_wp2
  go_end0
  exact ⟨rfl, HU1.out, HB1.out⟩

set_option maxRecDepth 100000 in
set_option maxHeartbeats 2000000 in
theorem keyedLaw_walk (a : Option Addr) (n c : Nat) (l : List TOp) (w : World) (hs : Script w a n c l) :
    Calls Try.prog 7 #[.slice a n c] w fun e w' => e = .returned (.bool true) ∧ Below w.heap.size w w' := by
  have HS := hid hs
  clear hs
  go_enter Try.func7, Try.ntmps7
  go_wp2_with fail
  refine (small_walk a n c l _ HS.out).mono ?_
  rintro e w' ⟨r, rfl, rfl, hr⟩
  cases r with
  | false =>
    go_wp2
    go_ret
    exact ⟨rfl, Below.refl _ _⟩
  | true =>
    have hsm := hr rfl
    have hn : n ≤ 65536 := by omega
    have HSm := hid hsm
    clear hr hsm
    go_wp2
    go_loopw [16] (fun i wr => ∃ k : Nat, k ≤ n ∧ i = .int .i64 k ∧ Hid (Below w'.heap.size w' wr)) (fun i _ => n - (intOf i).toNat)
    case atStart => exact ⟨0, Nat.zero_le _, rfl, hid (Below.refl _ _)⟩
    case round =>
      obtain ⟨k, hk, rfl, HB⟩ := hrel
      by_cases hlt : k < n
      · obtain ⟨o, ho, hok, b, off, rfl, hb, c0, c1, c2, c3, c4, c5, c6, c7⟩ := (HS.out.below HB.out).at hlt
        have HOk : Hid (OpOk wr o) := hok
        have HRn : Hid (o.rn ≤ 65536) := hid (by have h1 := (op_ln ho).2; have h2 := HSm.out; omega)
        clear ho hok
        obtain ⟨kind, oa, ob, oc, s, t, la, ln, lc, list, ra, rn, rc, recs⟩ := o
        obtain ⟨wa, hwa⟩ : ∃ wa, wr.alloc (Obj.cells #[Value.int IntKind.i64 kind, Value.int IntKind.i64 oa, Value.int IntKind.i64 ob, Value.int IntKind.i64 oc, Value.string s, Value.string t, Value.slice la ln lc, Value.slice ra rn rc] 37) = wa := ⟨_, rfl⟩
        obtain ⟨p, hp⟩ : ∃ p, wr.heap.size = p := ⟨_, rfl⟩
        have HBa : Hid (Below wr.heap.size wr wa) := by subst hwa; exact hid (Below.alloc (Below.refl _ _) (Nat.le_refl _) _)
        have HC7 : Hid (wa.cell? ⟨p, 7, none⟩ = some (.slice ra rn rc) ∧ p < wa.heap.size) := by subst hwa hp; exact hid ⟨(Blk.new wr [_, _, _, _, _, _, _, _] 37).cell 7, (Blk.new wr [_, _, _, _, _, _, _, _] 37).lt⟩
        have HRr : Hid (RowOf wa 2 recCells ra rn rc recs) := hid (HOk.out.recs.below HBa.out)
        have HRl : Hid (recs.length = rn) := hid HOk.out.recs.len
        have HFr : Hid (∀ r ∈ recs, r.1.size ≤ 140737488351232) := hid (fun r hr => (HOk.out.fr r hr).1)
        have hrn : rn ≤ 65536 := HRn.out
        have hmk := make_keyed rn (by omega)
        obtain ⟨g, hg⟩ : ∃ g, wa.heap.size = g := ⟨_, rfl⟩
        obtain ⟨wm, hwm⟩ : ∃ wm, wa.alloc (.cells (madeCells #[Value.string ByteArray.empty, Value.int .i64 0] (rn * 2)) 50) = wm := ⟨_, rfl⟩
        have HBm : Hid (Below g wa wm ∧ BlkK wm g (List.replicate rn (ByteArray.empty, 0)) ∧ p < g ∧ g < wm.heap.size) := by
          subst hwm hg
          rw [made_keyed]
          exact hid ⟨Below.alloc (Below.refl _ _) (Nat.le_refl _) _, Blk.new wa _ _, HC7.out.2, (Blk.new wa _ _).lt⟩
        have k7m : wm.cell? ⟨p, 7, none⟩ = some (.slice ra rn rc) := by rw [HBm.out.1.cell HBm.out.2.2.1]; exact HC7.out.1
        have k7a := HC7.out.1
        have HTl : Hid ((tag recs).length = rn) := hid (by rw [tag_len, HRl.out])
        clear HOk HRn
        go_wp2_with fail
        clear hwa hwm hmk c0 c1 c2 c3 c4 c5 c6 c7 k7a
        go_loopw [27] (fun i wq => ∃ k : Nat, k ≤ rn ∧ i = .int .i64 k ∧ Hid (Upd g wm wq) ∧ Hid (BlkK wq g ((tag recs).take k ++ List.replicate (rn - k) (ByteArray.empty, 0)))) (fun i _ => rn - (intOf i).toNat)
        case atStart => exact ⟨0, Nat.zero_le _, rfl, hid (Upd.refl _ _), hid (by simpa using HBm.out.2.1)⟩
        case round =>
          obtain ⟨m, hm, rfl, HU, HBk⟩ := hrel
          by_cases hltm : m < rn
          · have HRow := hid (HRr.out.below (show Below wa.heap.size wa wr by rw [hg]; exact HBm.out.1.trans (HU.out.below (Nat.le_refl _) (Nat.le_of_lt HBm.out.2.2.2))))
            obtain ⟨r, hr, b2, off2, rfl, hb2, hcr⟩ := HRow.out.cell hltm
            have cr0 : wr.cell? ⟨b2, off2 + m * 2, none⟩ = some (.string r.1) := by simpa [recCells] using hcr 0 (by omega)
            have cr1 : wr.cell? ⟨b2, off2 + m * 2 + 1, none⟩ = some (.int .i64 r.2) := by simpa [recCells] using hcr 1 (by omega)
            obtain ⟨cg0, cg1⟩ := HBk.out.get (k := m) (o := m * 2) (r := (ByteArray.empty, 0)) (by rw [List.getElem?_append_right (by rw [List.length_take]; omega), List.getElem?_replicate, if_pos (by rw [List.length_take, HTl.out]; omega)]) rfl
            have fg0 : wr.frozen? ⟨g, m * 2, none⟩ = false := HBk.out.frozen _
            have fg1 : wr.frozen? ⟨g, m * 2 + 1, none⟩ = false := HBk.out.frozen _
            have hgl := HBk.out.lt
            have HT : Hid ((tag recs)[m]? = some (r.1, (m : Int))) := hid (by rw [tag_get, hr]; rfl)
            clear hcr hr
            go_wp2
            refine ⟨⟨m + 1, by omega, by go_num, hid (((HU.out.setCell rfl _).setCell rfl _).alloc _), hid ?_⟩, by simp [intOf]; omega⟩
            have h1 := HBk.out.set (k := m) (o := m * 2) (r.1, (m : Int)) rfl
            rw [fill_next HTl.out hltm HT.out] at h1
            exact Blk.alloc h1 _
          · have hme : m = rn := by omega
            have hb1 := HBk.out
            rw [hme, Nat.sub_self, List.replicate_zero, List.append_nil, List.take_of_length_le (by rw [HTl.out]; omega)] at hb1
            have HBk1 := hid hb1
            have HOk1 : Hid (∀ s ∈ tag recs, s.1.size ≤ 140737488351232) := hid (fun s hs => by
              obtain ⟨m0, r0, h0, h1, _, _⟩ := tag_mem hs
              rw [← h1]; exact HFr.out r0 (List.mem_of_getElem? h0))
            clear hb1 hme HBk
            go_wp2_with fail
            refine (sortKeyed_walk g rn (tag recs) HTl.out hrn HOk1.out _ HBk1.out).mono ?_
            rintro e w2 ⟨rfl, hu2, hk2⟩
            have HB2 : Hid (Below g wa w2) := hid (HBm.out.1.trans ((HU.out.trans hu2).below (Nat.le_refl _) (Nat.le_of_lt HBm.out.2.2.2)))
            have HK2 := hid hk2
            have HRow := hid (HRr.out.below (show Below wa.heap.size wa w2 by rw [hg]; exact HB2.out))
            have HK7 : Hid (w2.cell? ⟨p, 7, none⟩ = some (.slice ra rn rc)) := hid (by rw [HB2.out.cell (by have := HBm.out.2.2.1; exact this)]; exact HC7.out.1)
            have HP2 : Hid (p < w2.heap.size) := hid (by have h1 := HB2.out.size; have h2 := HC7.out.2; omega)
            have HW2 : Hid (Below w'.heap.size w' w2) := hid ((HB.out.trans (HBa.out.mono HB.out.size)).trans (HB2.out.mono (by have h1 := HB.out.size; have h2 := HBa.out.size; omega)))
            have hrlen : (ssort ltK (tag recs)).length = rn := by rw [ssort_length, HTl.out]
            have HOl := hid hrlen
            clear hu2 hk2 hg hp k7m hrlen
            go_wp2
            go_loopw [44] (fun i wq => ∃ k : Nat, k ≤ rn ∧ i = .int .i64 k ∧ Hid (Below w2.heap.size w2 wq)) (fun i _ => rn - (intOf i).toNat)
            case atStart => exact ⟨0, Nat.zero_le _, rfl, hid (Below.refl _ _)⟩
            case round =>
              obtain ⟨m, hm, rfl, HBq⟩ := hrel
              by_cases hltq : m < rn
              · obtain ⟨r, hr⟩ : ∃ r, (ssort ltK (tag recs))[m]? = some r := ⟨_, List.getElem?_eq_getElem (by rw [HOl.out]; exact hltq)⟩
                obtain ⟨q, r0, hq0, hq1, hq2, hq3⟩ := tag_mem ((ssort_perm (lt := ltK) _).mem_iff.1 (List.mem_of_getElem? hr))
                rw [HRl.out] at hq3
                obtain ⟨rk, rv⟩ := r
                simp only at hq1 hq2
                subst hq2
                obtain ⟨r1, hr1, b2, off2, rfl, hb2, hcr⟩ := (HRow.out.below HBq.out).cell hq3
                rw [hq0] at hr1
                obtain rfl := Option.some.inj hr1
                have cq : wr.cell? ⟨b2, off2 + q * 2, none⟩ = some (.string rk) := by rw [← hq1]; simpa [recCells] using hcr 0 (by omega)
                obtain ⟨cg0, cg1⟩ := (HK2.out.below HBq.out).get (k := m) (o := m * 2) hr rfl
                have hgl := (HK2.out.below HBq.out).lt
                have hpl : p < wr.heap.size := Nat.lt_of_lt_of_le HP2.out HBq.out.size
                have k7 : wr.cell? ⟨p, 7, none⟩ = some (.slice (some ⟨b2, off2, none⟩) rn rc) := by rw [HBq.out.cell HP2.out]; exact HK7.out
                have HR := hid hr
                have d1 : decide ((q : Int) < 0) = false := decide_eq_false (by omega)
                have d2 : decide ((rn : Int) ≤ (q : Int)) = false := decide_eq_false (by omega)
                have i1 : (q : Int) < (rn : Int) := by omega
                have i2 : 0 ≤ (q : Int) := by omega
                have d3 : (rk.toList != rk.toList) = false := by simp
                clear hcr hq0 hr hq1
                obtain ⟨q9, hq9⟩ : ∃ q9, wr.heap.size = q9 := ⟨_, rfl⟩
                obtain ⟨wb, hwb⟩ : ∃ wb, wr.alloc (Obj.cells #[.string rk, .int .i64 (q : Int)] 50) = wb := ⟨_, rfl⟩
                have HBb : Hid (Below wr.heap.size wr wb) := by subst hwb; exact hid (Below.alloc (Below.refl _ _) (Nat.le_refl _) _)
                have c90 : wb.cell? ⟨q9, 0, none⟩ = some (.string rk) := by subst hwb hq9; exact (Blk.new wr [_, _] 50).cell 0
                have c91 : wb.cell? ⟨q9, 1, none⟩ = some (.int .i64 (q : Int)) := by subst hwb hq9; exact (Blk.new wr [_, _] 50).cell 1
                have k7b : wb.cell? ⟨p, 7, none⟩ = some (.slice (some ⟨b2, off2, none⟩) rn rc) := by rw [HBb.out.cell hpl]; exact k7
                have cqb : wb.cell? ⟨b2, off2 + q * 2, none⟩ = some (.string rk) := by rw [HBb.out.cell hb2]; exact cq
                cases hm0 : m with
                | zero =>
                  subst hm0
                  go_wp2_with fail
                  go_quiet (fail)
                  go_wp2
                  exact ⟨⟨1, by omega, rfl, hid ((HBq.out.trans (HBb.out.mono HBq.out.size)).trans (Drew.below ⟨nq, rfl⟩ _))⟩, by simp [intOf]; omega⟩
                | succ m' =>
                  subst hm0
                  obtain ⟨pr, hpr⟩ : ∃ pr, (ssort ltK (tag recs))[m']? = some pr := ⟨_, List.getElem?_eq_getElem (by rw [HOl.out]; omega)⟩
                  obtain ⟨cp0', cp1'⟩ := (HK2.out.below HBq.out).get (k := m') (o := m' * 2) hpr rfl
                  have hbef := sorted_bef recs hpr HR.out
                  obtain ⟨pk, pv⟩ := pr
                  have cp0 : wb.cell? ⟨g, m' * 2, none⟩ = some (.string pk) := by rw [HBb.out.cell hgl]; exact cp0'
                  have cp1 : wb.cell? ⟨g, m' * 2 + 1, none⟩ = some (.int .i64 pv) := by rw [HBb.out.cell hgl]; exact cp1'
                  have t1 : (!(Op.bytesLess pk.toList rk.toList || pk.toList == rk.toList)) = false := str_le hbef.1
                  have HBef := hid hbef
                  have hgb : g < wb.heap.size := Nat.lt_of_lt_of_le hgl HBb.out.size
                  have hq9b : q9 < wb.heap.size := by subst hwb hq9; exact (Blk.new wr [_, _] 50).lt
                  clear hpr hbef cp0' cp1'
                  by_cases heq : pk = rk
                  · have t2 : (pk.toList == rk.toList) = true := by rw [heq]; simp
                    have t3 : decide ((q : Int) ≤ pv) = false := decide_eq_false (by
                      have h1 := HBef.out.2 (by subst heq; exact ltK_ord.irr (pk, pv))
                      simp only at h1
                      omega)
                    have t4 : ¬ ((q : Int) ≤ pv) := by simpa using t3
                    clear heq
                    go_wp2_with fail
                    go_quiet (fail)
                    obtain ⟨wd, hwd⟩ : ∃ wd, wb.drewN nq = wd := ⟨_, rfl⟩
                    have e90 : wd.cell? ⟨q9, 0, none⟩ = some (.string rk) := by subst hwd; exact c90
                    have e91 : wd.cell? ⟨q9, 1, none⟩ = some (.int .i64 (q : Int)) := by subst hwd; exact c91
                    have ep0 : wd.cell? ⟨g, m' * 2, none⟩ = some (.string pk) := by subst hwd; exact cp0
                    have ep1 : wd.cell? ⟨g, m' * 2 + 1, none⟩ = some (.int .i64 pv) := by subst hwd; exact cp1
                    have egb : g < wd.heap.size := by subst hwd; exact hgb
                    have eqb : q9 < wd.heap.size := by subst hwd; exact hq9b
                    have HBd : Hid (Below w2.heap.size w2 wd) := by subst hwd; exact hid ((HBq.out.trans (HBb.out.mono HBq.out.size)).trans (Drew.below ⟨nq, rfl⟩ _))
                    rw [hwd]
                    clear hwd c90 c91 cp0 cp1 k7b cqb cg0 cg1 cq k7 hwb hq9
                    go_wp2
                    exact ⟨⟨m' + 2, by omega, by go_num, hid (HBd.out.alloc HBd.out.size _)⟩, by simp [intOf]; omega⟩
                  · have t2 : (pk.toList == rk.toList) = false := str_ne heq
                    have t3 : Op.bytesLess pk.toList rk.toList = true := by rw [t2] at t1; simpa using t1
                    clear heq
                    go_wp2_with fail
                    go_quiet (fail)
                    obtain ⟨wd, hwd⟩ : ∃ wd, wb.drewN nq = wd := ⟨_, rfl⟩
                    have e90 : wd.cell? ⟨q9, 0, none⟩ = some (.string rk) := by subst hwd; exact c90
                    have e91 : wd.cell? ⟨q9, 1, none⟩ = some (.int .i64 (q : Int)) := by subst hwd; exact c91
                    have ep0 : wd.cell? ⟨g, m' * 2, none⟩ = some (.string pk) := by subst hwd; exact cp0
                    have ep1 : wd.cell? ⟨g, m' * 2 + 1, none⟩ = some (.int .i64 pv) := by subst hwd; exact cp1
                    have egb : g < wd.heap.size := by subst hwd; exact hgb
                    have eqb : q9 < wd.heap.size := by subst hwd; exact hq9b
                    have HBd : Hid (Below w2.heap.size w2 wd) := by subst hwd; exact hid ((HBq.out.trans (HBb.out.mono HBq.out.size)).trans (Drew.below ⟨nq, rfl⟩ _))
                    rw [hwd]
                    clear hwd c90 c91 cp0 cp1 k7b cqb cg0 cg1 cq k7 hwb hq9
                    go_wp2
                    exact ⟨⟨m' + 2, by omega, by go_num, hid (HBd.out.alloc HBd.out.size _)⟩, by simp [intOf]; omega⟩
              · go_wp2
                exact ⟨⟨k + 1, by omega, by go_num, hid (HW2.out.trans (HBq.out.mono HW2.out.size))⟩, by simp [intOf]; omega⟩
      · go_wp2
        go_ret
        exact ⟨rfl, HB.out⟩
end Go.Proofs.Qxb6500890a
