/- Error(), rowsOf (out of tools/src/ScSc.src). -/
import Derived.Test.Qxb6500883aGreatDoorScSb
import Derived.Test.Qxb6500883aGreatDoorScT
import Derived.Test.Qxb6500883aGreatDoorScEa
namespace Go.Proofs.Qxb6500883aGreatDoor
open Go.RowKit
set_option linter.unusedSimpArgs false
set_option linter.unusedVariables false
theorem place_le (l : List UInt8) : (placeP l).1 ≤ 1 + l.length ∧ (placeP l).2 ≤ 1 + l.length := by
  have key : ∀ (l : List UInt8) (p : Nat × Nat) (m : Nat), p.1 ≤ m → p.2 ≤ m → 1 ≤ m → (l.foldl curS p).1 ≤ m + l.length ∧ (l.foldl curS p).2 ≤ m + l.length := by
    intro l
    induction l with
    | nil => intro p m h1 h2 h3; exact ⟨h1, h2⟩
    | cons a l ih =>
      intro p m h1 h2 h3
      rw [List.foldl_cons]
      have := ih (curS p a) (m + 1) (by unfold curS; split <;> (dsimp only; omega)) (by unfold curS; split <;> (dsimp only; omega)) (by omega)
      rw [List.length_cons]
      omega
  exact key l (1, 1) 1 (Nat.le_refl _) (Nat.le_refl _) (Nat.le_refl _)
section
variable {w w' wr : World} {n0 : Nat} {bs : List UInt8}
set_option maxRecDepth 100000 in
set_option maxHeartbeats 4000000 in
theorem errorW {q k pos : Nat} (hE : ErM w q bs k pos) (hb : bs.length ≤ 17592186044000) : Calls Tryz.prog 15 #[.pointer (some ⟨q, 0, none⟩)] w fun e w' => ∃ s : ByteArray, e = .returned (.string s) ∧ 0 < s.size ∧ Hid (Below w.heap.size w w') := by
  obtain ⟨m, hm1, hm2, hB⟩ := hE.e
  have hpl := place_le (bs.take pos)
  have htl : (bs.take pos).length ≤ 17592186044000 := by rw [List.length_take]; omega
  obtain ⟨pl, hpl2⟩ : ∃ p, placeP (bs.take pos) = p := ⟨_, rfl⟩
  rw [hpl2] at hB hpl
  obtain ⟨ln, cl⟩ := pl
  dsimp only at hpl
  have HB0 := hid hB
  have hql := hB.lt
  have Hia := hid (fun wy => itoaX ln (by omega) wy)
  have Hib := hid (fun wy => itoaX cl (by omega) wy)
  have hsa := uS_size ln (by omega)
  have hsb := uS_size cl (by omega)
  generalize uS ln = sa at Hia hsa
  generalize uS cl = sb at Hib hsb
  have z1 : (sa ++ ({ data := #[58] } : ByteArray)).size = sa.size + 1 := by rw [ba_size]; rfl
  have z2 : (sa ++ ({ data := #[58] } : ByteArray) ++ sb).size = sa.size + 1 + sb.size := by rw [ba_size, z1]
  have z3 : (sa ++ ({ data := #[58] } : ByteArray) ++ sb ++ { data := #[58, 32] }).size = sa.size + 1 + sb.size + 2 := by rw [ba_size, z2]; rfl
  have z4 : (sa ++ ({ data := #[58] } : ByteArray) ++ sb ++ { data := #[58, 32] } ++ m).size = sa.size + 1 + sb.size + 2 + m.size := by rw [ba_size, z3]
  have HCw : Hid (∀ wy, Below w.heap.size w wy → wy.cell? ⟨q, 2, none⟩ = some (.int .i64 (ln : Int)) ∧ wy.cell? ⟨q, 3, none⟩ = some (.int .i64 (cl : Int)) ∧ wy.cell? ⟨q, 4, none⟩ = some (.string m)) := hid (fun wy hy => ⟨(HB0.out.below hy).cell 2, (HB0.out.below hy).cell 3, (HB0.out.below hy).cell 4⟩)
  clear hE hB hpl hpl2 htl hb HB0
  go_enter Tryz.func15, Tryz.ntmps15
  go_upto_region 1 with fail
  obtain ⟨X0, W, hT, hI⟩ := class_mk (fun w' => Below w.heap.size w w')
  have H0 : Hid (∃ y, w.drew = W y) := hid (hI _ (Drew.below ⟨1, rfl⟩ _))
  have HW0 : Hid (∀ x w', Below (W x).heap.size (W x) w' → ∃ y, w' = W y) := hid (fun x w' hb => hI _ ((hT x).trans (hb.mono (hT x).size)))
  have hne : Nonempty X0 := ⟨H0.out.choose⟩
  have HTT := hid hT
  have a0 : ∀ z, (W z).cell? ⟨q, 2, none⟩ = some (.int .i64 (ln : Int)) := fun y => (fun wy hy => (HCw.out wy hy).1) (W y) (hT y)
  have a1 : ∀ z, (W z).cell? ⟨q, 3, none⟩ = some (.int .i64 (cl : Int)) := fun y => (fun wy hy => (HCw.out wy hy).2.1) (W y) (hT y)
  have a2 : ∀ z, (W z).cell? ⟨q, 4, none⟩ = some (.string m) := fun y => (fun wy hy => (HCw.out wy hy).2.2) (W y) (hT y)
  clear hT hI
  refine wp_region_class_tailT W 18 (by kernel_rfl) (by kernel_rfl) (by kernel_rfl) H0.out ?_
  dsimp only [List.take, List.drop]
  repeat (go_big_quiet_step ((go_at_call 64; first | with_reducible exact Calls.class_of HW0.out (Hia.out _) | with_reducible exact Calls.class_of HW0.out (Hib.out _))))
  refine wpQuiet_nil ?_
  intro z
  have HB := hid (HTT.out z)
  have a0z := a0 z
  have a1z := a1 z
  have a2z := a2 z
  generalize W z = wz at HB a0z a1z a2z ⊢
  clear H0 HTT HW0 a0 a1 a2
  clear a0z a1z a2z
  go_wp2
  go_ret
  exact ⟨_, rfl, by rw [z4]; omega, HB⟩
/-- Rows of strings. -/
def rtS : RK ByteArray := ⟨9, 43, 1, 16, fun s => [.string s]⟩
theorem okS : RKok Tryz.prog rtS := ⟨Tryz.underlying43, info_of' (z := .string ⟨#[]⟩) (by kernel_rfl) rfl, by decide, by decide, fun _ => rfl, fun x u hu => by simp [rtS] at hu; subst hu; rfl⟩
theorem rtS_flat (l : List ByteArray) : l.flatMap rtS.f = l.map Value.string := by
  induction l with
  | nil => rfl
  | cons b bs ih => rw [List.flatMap_cons, ih]; rfl
def mkB (l : List UInt8) : ByteArray := ⟨l.toArray⟩
/-- A text cut at its line ends. -/
def rwStep (r : List (List UInt8)) (b : UInt8) : List (List UInt8) := if b.toNat = 10 then r ++ [[]] else r.dropLast ++ [(r.getLast?.getD []) ++ [b]]
def rwF (t : List UInt8) : List (List UInt8) := t.foldl rwStep [[]]
theorem rwF_ne (t : List UInt8) : rwF t ≠ [] := by
  have : ∀ (t : List UInt8) (r : List (List UInt8)), r ≠ [] → t.foldl rwStep r ≠ [] := by
    intro t
    induction t with
    | nil => intro r h; exact h
    | cons a t ih => intro r h; rw [List.foldl_cons]; exact ih _ (by unfold rwStep; split <;> simp)
  exact this t [[]] (by simp)
theorem rwF_snoc (t : List UInt8) (b : UInt8) : rwF (t ++ [b]) = rwStep (rwF t) b := by unfold rwF; rw [List.foldl_append]; rfl
theorem rwF_line (r : List (List UInt8)) (l x : List UInt8) (h : ∀ b ∈ x, b ≠ 10) : x.foldl rwStep (r ++ [l]) = r ++ [l ++ x] := by
  induction x generalizing l with
  | nil => simp
  | cons a x ih =>
    rw [List.foldl_cons]
    have ha : ¬ a.toNat = 10 := fun e => h a (by simp) (UInt8.toNat_inj.1 (by rw [e]; rfl))
    have : rwStep (r ++ [l]) a = r ++ [l ++ [a]] := by
      unfold rwStep
      rw [if_neg ha]
      simp
    rw [this, ih (l ++ [a]) (fun b hb => h b (by simp [hb]))]
    simp
theorem rwF_excerpt (r0 : List UInt8) (k : Nat) (h : ∀ b ∈ r0, b ≠ 10) : rwF (r0 ++ [10] ++ List.replicate k 32 ++ [94, 10]) = [r0, List.replicate k 32 ++ [94], []] := by
  unfold rwF
  rw [List.foldl_append, List.foldl_append, List.foldl_append]
  have e1 : r0.foldl rwStep [[]] = [r0] := by have := rwF_line [] [] r0 h; simpa using this
  have e2 : ([10] : List UInt8).foldl rwStep [r0] = [r0] ++ [[]] := by simp [rwStep]
  rw [e1, e2, rwF_line [r0] [] (List.replicate k 32) (fun b hb => by rw [(List.mem_replicate.1 hb).2]; decide)]
  have e3 : ([94, 10] : List UInt8) = [94] ++ [10] := rfl
  rw [e3, List.foldl_append, rwF_line [r0] ([] ++ List.replicate k 32) [94] (fun b hb => by simp at hb; rw [hb]; decide)]
  simp [rwStep]
/-- rowsOf under way. -/
structure RwI (n0 : Nat) (w : World) (rs : List (List UInt8)) (v : Value) (wr : World) : Prop where
  r : OwR rtS n0 wr v (rs.map mkB)
  b : Below n0 w wr
theorem OwR.pokeS {g n c i : Nat} {y : ByteArray} {ds : List ByteArray} (h : OwR rtS n0 w (.slice (some ⟨g, 0, none⟩) n c) ds) (hi : i < n) : OwR rtS n0 (w.setCell ⟨g, i, none⟩ (.string y)) (.slice (some ⟨g, 0, none⟩) n c) (ds.set i y) := by
  have hn : ds.length = n := h.rx.src.2.2
  refine ⟨by rw [rtS_flat, List.length_map]; show _ = _ * 1; omega, ?_⟩
  rcases h.2 with ⟨h1, h2⟩ | ⟨g', cap, cur, h1, h2, h3, h4, h5, h6, h7⟩
  · cases h1
  · injection h1 with e1 e2 e3
    injection e1 with e1
    injection e1 with e4
    subst e4 e3
    refine .inr ⟨g, _, cur.setIfInBounds i (.string y), by rw [List.length_set, hn], h2, ?_, by rw [List.length_set]; exact h4, h5, by rw [Array.size_setIfInBounds]; exact h6, ?_⟩
    · rw [setCell_eq_setRow w g i cur _ _ (.string y) h3]
      exact setRow_heap w g cur _ _ _ h3
    · rw [rtS_flat] at h7 ⊢
      have h7 : cur.toList.take (ds.length * 1) = ds.map Value.string := h7
      show (cur.setIfInBounds i (.string y)).toList.take ((ds.set i y).length * 1) = _
      rw [List.length_set, List.map_set, ← h7, Array.toList_setIfInBounds, List.take_set]
theorem OwR.cellS {g n c i : Nat} {y : ByteArray} {ds : List ByteArray} (h : OwR rtS n0 w (.slice (some ⟨g, 0, none⟩) n c) ds) (hy : ds[i]? = some y) : w.cell? ⟨g, i, none⟩ = some (.string y) := by
  have := h.rx.src.1 ⟨g, 0, none⟩ rfl i (.string y) (by rw [rtS_flat, List.getElem?_map, hy]; rfl)
  rw [add_lit, Nat.zero_add] at this
  exact this
theorem OwR.blkS {v : Value} {ds : List ByteArray} (h : OwR rtS n0 w v ds) (hne : ds ≠ []) : ∃ g c, v = .slice (some ⟨g, 0, none⟩) ds.length c := by
  rcases h.2 with ⟨h1, h2⟩ | ⟨g, cap, cur, h1, _⟩
  · exact absurd (List.eq_nil_of_length_eq_zero h2) hne
  · exact ⟨g, cap, h1⟩
theorem OwR.unfS {g n c i : Nat} {ds : List ByteArray} (h : OwR rtS n0 w (.slice (some ⟨g, 0, none⟩) n c) ds) : w.frozen? ⟨g, i, none⟩ = false := by
  rcases h.2 with ⟨h1, h2⟩ | ⟨g', cap, cur, h1, h2, h3, h4, h5, h6, h7⟩
  · cases h1
  · injection h1 with e1 e2 e3
    injection e1 with e1
    injection e1 with e4
    subst e4
    simp [World.frozen?, h3]
set_option maxRecDepth 100000 in
set_option maxHeartbeats 4000000 in
theorem rowsOfW (s : ByteArray) (hs : s.size ≤ 1000) : Calls Tryz.prog 16 #[.string s] w fun e w' => ∃ v, e = .returned v ∧ Hid (RwI w.heap.size w (rwF s.data.toList) v w') := by
  obtain ⟨m, hm⟩ : ∃ m, s.size = m := ⟨_, rfl⟩
  have Hm := hid hm
  rw [hm] at hs
  have H0 : Hid (RwI w.heap.size w (rwF (s.data.toList.take 0)) (.slice (some ⟨w.heap.size, 0, none⟩) 1 1) (w.alloc (.cells #[.string ⟨#[]⟩] 9))) := hid (by
    have k1 := Blk.new w [Value.string ⟨#[]⟩] 9
    refine ⟨?_, nbel w _⟩
    refine ⟨by rw [rtS_flat, List.length_map]; show _ = _ * 1; omega, .inr ⟨w.heap.size, 1, #[.string ⟨#[]⟩], rfl, Nat.le_refl _, k1, Nat.le_refl _, by unfold maxLen; omega, rfl, ?_⟩⟩
    rw [rtS_flat]
    rfl)
  clear hm
  go_enter Tryz.func16, Tryz.ntmps16
  go_upto_region 3 with fail
  generalize hw1 : w.alloc _ = w1 at H0 ⊢
  clear hw1
  have ez : s.size = m := Hm.out
  (try simp only [ez])
  go_loopw [3, 4] (fun v t wr => ∃ (i : Nat) (b : Value), v = b ∧ t = .int .i64 (i : Int) ∧ i ≤ m ∧ Hid (RwI w.heap.size w (rwF (s.data.toList.take i)) b wr)) (fun _ t _ => m - (intOf t).toNat)
  case atStart => exact ⟨0, _, rfl, rfl, Nat.zero_le _, H0⟩
  case round =>
  obtain ⟨i, b, rfl, rfl, hi, HL⟩ := hrel
  clear H0
  have hlt : s.data.toList.length = m := Hm.out
  by_cases hin : i < m
  rotate_left
  · have d1 : decide ((i : Int) < (m : Int)) = false := decide_eq_false (by omega)
    have HQ : Hid (RwI w.heap.size w (rwF s.data.toList) u3 wr) := hid (by
      have := HL.out
      rw [List.take_of_length_le (by omega)] at this
      exact this)
    clear HL hlt
    go_wp2
    go_ret
    exact ⟨_, rfl, HQ⟩
  have d1 : decide ((i : Int) < (m : Int)) = true := decide_eq_true (by omega)
  have i1 : (i : Int) < (m : Int) := by omega
  have hi2 : i < s.size := by rw [ez]; exact hin
  obtain ⟨y, hy⟩ : ∃ y, s[i] = y := ⟨_, rfl⟩
  have Hy : Hid (s.data.toList[i]? = some y) := hid (by
    have : s.data.toList[i]? = some (s.data.toList[i]'(by omega)) := List.getElem?_eq_getElem _
    rw [this, ← hy]
    rfl)
  have Ht : Hid (s.data.toList.take (i + 1) = s.data.toList.take i ++ [y]) := hid (by rw [List.take_add_one, Hy.out]; rfl)
  have hrl : (rwF (s.data.toList.take i)).length ≤ i + 1 := by
    have : ∀ (t : List UInt8) (r : List (List UInt8)), (t.foldl rwStep r).length ≤ r.length + t.length + (if r = [] then 1 else 0) := by
      intro t
      induction t with
      | nil => intro r; rw [List.foldl_nil]; omega
      | cons a t ih =>
        intro r
        rw [List.foldl_cons]
        have h1 := ih (rwStep r a)
        have h2 : rwStep r a ≠ [] := by unfold rwStep; split <;> simp
        have h3 : (rwStep r a).length ≤ r.length + 1 := by unfold rwStep; split <;> (simp; try omega)
        rw [if_neg h2] at h1
        rw [List.length_cons]
        omega
    have h1 := this (s.data.toList.take i) [[]]
    rw [if_neg (by simp), List.length_take] at h1
    show (List.foldl rwStep [[]] (s.data.toList.take i)).length ≤ _
    simp only [List.length_cons, List.length_nil] at h1
    omega
  have hne := rwF_ne (s.data.toList.take i)
  go_upto_if 15 with fail
  (try simp only [hy])
  clear hy
  have hzw := HL.out.b.size
  by_cases h10 : y.toNat = 10
  · have d2 : ((y.toNat : Int) == 10) = true := by simp; omega
    have HQr : Hid (rwF (s.data.toList.take (i + 1)) = rwF (s.data.toList.take i) ++ [[]]) := hid (by rw [Ht.out, rwF_snoc]; unfold rwStep; rw [if_pos h10])
    clear h10
    go_wp2_with (at_builtin; refine stopHere ?_)
    intro _
    have k1 := Blk.new wr [Value.string ⟨#[]⟩] 9
    have HO := hid (HL.out.r.below (nbel wr (.cells #[.string ⟨#[]⟩] 9)))
    refine wpList_app_l okS rfl _ _ HO.out rfl [mkB []] rfl (some ⟨wr.heap.size, 0, none⟩) 1 1 rfl rfl (fun h => by cases h) (fun ad had q u hu => ?_) (by rw [List.length_map]; show (_ + _) * 16 ≤ _; omega) (Nat.le_trans hzw (nbel wr _).size) ?_
    · cases had
      rw [add_lit, Nat.zero_add]
      exact (k1.cell q).trans hu
    intro v9 w9 HR HK hat
    have HQ : Hid (RwI w.heap.size w (rwF (s.data.toList.take (i + 1))) v9 w9) := hid ⟨by rw [HQr.out, List.map_append]; exact HR.out, (HL.out.b.trans ((nbel wr _).mono hzw)).trans (HK.out.below HO.out.hi (Nat.le_trans hzw (nbel wr _).size))⟩
    clear HR HK HO HL hat k1
    go_wp2
    exact ⟨⟨i + 1, _, rfl, by go_num, by omega, HQ⟩, by simp [intOf]; omega⟩
  have d2 : ((y.toNat : Int) == 10) = false := by simp; omega
  obtain ⟨rs, la, hrs⟩ : ∃ rs la, rwF (s.data.toList.take i) = rs ++ [la] := by
    rcases List.eq_nil_or_concat (rwF (s.data.toList.take i)) with h | ⟨rs, la, h⟩
    · exact absurd h hne
    · exact ⟨rs, la, by simpa using h⟩
  have HQr : Hid (rwF (s.data.toList.take (i + 1)) = rs ++ [la ++ [y]]) := hid (by rw [Ht.out, rwF_snoc, hrs]; unfold rwStep; rw [if_neg h10]; simp)
  have hla : la.length ≤ 1000 := by
    have : ∀ (t : List UInt8) (r : List (List UInt8)), ((t.foldl rwStep r).map List.length).sum ≤ (r.map List.length).sum + t.length := by
      intro t
      induction t with
      | nil => intro r; exact Nat.le_refl _
      | cons a t ih =>
        intro r
        rw [List.foldl_cons]
        have h1 := ih (rwStep r a)
        have h3 : ((rwStep r a).map List.length).sum ≤ (r.map List.length).sum + 1 := by
          unfold rwStep
          split
          · simp
          · rcases List.eq_nil_or_concat r with h | ⟨r', x, h⟩
            · subst h; simp
            · have h : r = r' ++ [x] := by simpa using h
              subst h
              simp
              omega
        rw [List.length_cons]
        omega
    have h1 := this (s.data.toList.take i) [[]]
    have h2 : (s.data.toList.take i).foldl rwStep [[]] = rs ++ [la] := hrs
    rw [h2, List.length_take] at h1
    simp at h1
    omega
  rw [hrs] at HL hrl
  clear hrs hne h10
  obtain ⟨g, cp, rfl⟩ := HL.out.r.blkS (by simp)
  obtain ⟨kk, hkk⟩ : ∃ x, rs.length = x := ⟨_, rfl⟩
  have hlen : ((rs ++ [la]).map mkB).length = kk + 1 := by simp [hkk]
  rw [hlen] at HL
  (try simp only [hlen])
  have hkb : kk ≤ 2000 := by rw [List.length_append] at hrl; simp at hrl; omega
  obtain ⟨one, hone, ho1, ho2⟩ : ∃ o : ByteArray, (∀ wz : World, (Instr.sliceAt 9 (.string s) (some (.int .i64 (i : Int))) (some (.int .i64 ((i : Int) + 1))) none).run Tryz.prog wz = .ok (.string o) wz) ∧ o.size = 1 ∧ o.data.toList = [y] := by
    refine ⟨s.extract i (i + 1), fun wz => ?_, ?_, ?_⟩
    · have e1 : (i : Int) ≤ (i : Int) + 1 := by omega
      have e2 : (i : Int) + 1 ≤ (s.size : Int) := by omega
      have e3 : ((i : Int) + 1).toNat = i + 1 := by omega
      simp [Instr.sliceAt, go_sem, Instr.sliceBounds, e1, e2, e3]
    · rw [ByteArray.size_extract]; omega
    · rw [ByteArray.data_extract, Array.toList_extract, List.extract_eq_take_drop, Nat.add_sub_cancel_left, List.drop_eq_getElem_cons (show i < s.data.toList.length by omega)]
      have := Hy.out
      rw [List.getElem?_eq_getElem (show i < s.data.toList.length by omega)] at this
      simp at this
      simp [this]
  have hsl2 : (mkB la).size ≤ 1000 := by show la.toArray.size ≤ 1000; simpa using hla
  have zc : wr.cell? ⟨g, kk, none⟩ = some (.string (mkB la)) := HL.out.r.cellS (by rw [List.map_append, List.getElem?_append_right (by rw [List.length_map]; omega), List.length_map, hkk, Nat.sub_self]; rfl)
  have zf : wr.frozen? ⟨g, kk, none⟩ = false := HL.out.r.unfS
  have hgn := HL.out.r.hi g rfl
  have HQ : Hid (∀ wz, Drew wr wz → RwI w.heap.size w (rwF (s.data.toList.take (i + 1))) (.slice (some ⟨g, 0, none⟩) (kk + 1) cp) (wz.setCell ⟨g, kk, none⟩ (.string (mkB la ++ one)))) := hid (fun wz hd => by
    have hr := (HL.out.r.below (hd.below _)).pokeS (y := mkB la ++ one) (show kk < kk + 1 by omega)
    refine ⟨?_, HL.out.b.trans ((hd.below _).trans (setCell_frame hgn (Nat.le_trans hzw (hd.below wr.heap.size).size)))⟩
    rw [HQr.out]
    have e : ((rs ++ [la]).map mkB).set kk (mkB la ++ one) = (rs ++ [la ++ [y]]).map mkB := by
      have e1 : mkB la ++ one = mkB (la ++ [y]) := by
        apply ByteArray.ext
        rw [ByteArray.data_append]
        apply Array.ext'
        rw [Array.toList_append, ho2]
        simp [mkB]
      rw [List.map_append, List.set_append_right _ _ (by rw [List.length_map]; omega), List.length_map, hkk, Nat.sub_self, e1, List.map_append]
      rfl
    rw [← e]
    exact hr)
  have ek : ((kk + 1 : Nat) : Int) - 1 = (kk : Int) := by omega
  have ik : (kk : Int) < ((kk + 1 : Nat) : Int) := by omega
  generalize mkB la = lb at hsl2 zc HQ
  clear HL hlen hkk hlt hrl Hy Ht HQr ho2
  go_upto_region 7 with fail
  obtain ⟨X0, W, hT, hI⟩ := class_mk (fun w' => Drew wr w')
  have H0 : Hid (∃ y, wr.drew = W y) := hid (hI _ ⟨1, rfl⟩)
  have hne : Nonempty X0 := ⟨H0.out.choose⟩
  have HTT := hid hT
  have a0 : ∀ z, (W z).cell? ⟨g, kk, none⟩ = some (.string lb) := fun y => by obtain ⟨m, e⟩ := hT y; rw [e]; exact zc
  have a1 : ∀ z, (W z).frozen? ⟨g, kk, none⟩ = false := fun y => by obtain ⟨m, e⟩ := hT y; rw [e]; exact zf
  clear hT hI
  refine wp_region_class_last W rfl (by kernel_rfl) (by kernel_rfl) (by kernel_rfl) H0.out ?_
  (try dsimp only [List.take, List.drop, List.dropLast])
  repeat (go_big_quiet_step (fail))
  refine wpQuiet_nil ?_
  intro z
  have HD := hid (HTT.out z)
  have HB := hid ((HTT.out z).below wr.heap.size)
  have a0z := a0 z
  have a1z := a1 z
  generalize W z = wz at HD HB a0z a1z ⊢
  clear H0 HTT a0 a1
  have HQ2 := hid (HQ.out wz HD.out)
  clear HQ HD HB zc zf
  go_wp2
  exact ⟨⟨i + 1, _, rfl, by go_num, by omega, HQ2⟩, by simp [intOf]; omega⟩
end
end Go.Proofs.Qxb6500883aGreatDoor
