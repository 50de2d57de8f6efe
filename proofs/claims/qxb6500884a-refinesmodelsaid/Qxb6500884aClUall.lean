/- UnionAll. -/
import Derived.Test.Qxb6500884aClCls
import Derived.Test.Qxb6500884aClRel
import Derived.Test.Qxb6500884aClOf
namespace Go.Proofs.Qxb6500884a
open Go.RowKit
set_option linter.unusedSimpArgs false
set_option linter.unusedVariables false

def lensum (Ls : List (List (Int × Int))) : Nat := (Ls.map List.length).sum
theorem lensum_take {Ls : List (List (Int × Int))} {k : Nat} {l : List (Int × Int)} (h : Ls[k]? = some l) : lensum (Ls.take (k + 1)) = lensum (Ls.take k) + l.length := by
  unfold lensum
  rw [List.take_add_one, h]
  simp
theorem lensum_le {Ls : List (List (Int × Int))} (h : ∀ l ∈ Ls, l.length ≤ 196608) : lensum Ls ≤ Ls.length * 196608 := by
  unfold lensum
  induction Ls with
  | nil => simp
  | cons l Ls ih =>
    have h1 := h l (by simp)
    have h2 := ih (fun m hm => h m (by simp [hm]))
    simp
    omega
theorem flat_take {Ls : List (List (Int × Int))} {k : Nat} {l : List (Int × Int)} (h : Ls[k]? = some l) : (Ls.take (k + 1)).flatten = (Ls.take k).flatten ++ l := by
  rw [List.take_add_one, h]
  simp
theorem flat_lensum (Ls : List (List (Int × Int))) : Ls.flatten.length = lensum Ls := by unfold lensum; exact List.length_flatten
theorem memB_flat (Ls : List (List (Int × Int))) (x : Int) : memB Ls.flatten x = Ls.any fun l => memB l x := by
  induction Ls with
  | nil => rfl
  | cons l Ls ih => rw [List.flatten_cons, memB_append, ih, List.any_cons]
theorem Ow.appL {w0 w w' : World} {K : List (Nat × List Value)} {v v' : Value} {ol l : List (Int × Int)} (h : Ow w0 K v ol w) (ho : w'.ownsRow w0.heap.size 67 2 v' (ol.length + l.length) (ol.flatMap ivC ++ l.flatMap ivC)) (hb : Below w0.heap.size w w')
    (hk : ∀ k, k < w.heap.size → (∀ g, v.ownBlock = some g → k ≠ g) → w'.heap[k]? = w.heap[k]?) : Ow w0 K v' (ol ++ l) w' :=
  ⟨h.bel.trans hb, by rw [List.length_append, List.flatMap_append]; exact ho, fun x hx => by
    have hx' := h.keep x hx
    unfold Blk
    rw [hk x.1 hx'.lt (own_ne h.own hx' (by decide))]
    exact hx'⟩
theorem IvRow.iff_nil {w : World} {a : Option Addr} {n c : Nat} {l : List (Int × Int)} (h : IvRow w a n c l) : a = none → n = 0 ∧ c = 0 := fun e => h.1.nil e
set_option maxRecDepth 100000 in
set_option maxHeartbeats 2000000 in
theorem unionAll_walk (fa : Option Addr) (fn fc : Nat) (T : List (Option Addr × Nat × Nat)) (Ls : List (List (Int × Int))) (w : World) (hF : Fl w 30 fa fn fc (T.map clV)) (hC : ClsOk w T Ls) (hn : fn ≤ 65536) :
    Calls Try.prog 50 #[.slice fa fn fc] w fun e w' => CP (fun x => Ls.any fun l => memB l x) w e w' := by
  have HF := hid hF
  have HC := hid hC
  have hTl : T.length = fn := by have := hF.len; simpa using this
  have hLl : Ls.length = fn := by rw [← hC.len]; exact hTl
  have HSh : Hid (∀ l ∈ Ls, l.length ≤ 98304) := hid (fun l hl => by
    obtain ⟨i, hi⟩ := List.mem_iff_getElem?.1 hl
    have hlt := (List.getElem?_eq_some_iff.1 hi).1
    obtain ⟨t, l', _, h2, _, h4, _⟩ := hC.at hlt
    rw [hi] at h2
    cases h2
    exact h4.short)
  have HTot : Hid (∀ k, lensum (Ls.take k) ≤ 10000000000) := hid (fun k => by
    have h1 : lensum (Ls.take k) ≤ (Ls.take k).length * 98304 := by
      have : ∀ (M : List (List (Int × Int))), (∀ l ∈ M, l.length ≤ 98304) → lensum M ≤ M.length * 98304 := fun M => by
        unfold lensum
        induction M with
        | nil => simp
        | cons l M ih =>
          intro h
          have h1 := h l (by simp)
          have h2 := ih (fun m hm => h m (by simp [hm]))
          simp
          omega
      exact this _ (fun l hl => HSh.out l (List.mem_of_mem_take hl))
    have h2 : (Ls.take k).length ≤ 65536 := by rw [List.length_take]; omega
    omega)
  obtain ⟨i0, hi, hz0, hz1, hz2⟩ := info_ivz
  have HI := hid (And.intro hi (And.intro hz0 (And.intro hz1 hz2)))
  obtain ⟨r, hr⟩ : ∃ r, w.heap.size = r := ⟨_, rfl⟩
  have HB0 : Hid (Bb w [(r, [.slice none 0 0])] (w.alloc (.cells #[Value.slice none 0 0] 30))) := hid ⟨nbel w _, fun x hx => by
    simp at hx
    subst hx
    have := Blk.new w [Value.slice none 0 0] 30
    rw [hr] at this
    exact this⟩
  obtain ⟨K, hK⟩ : ∃ K, [(r, [Value.slice none 0 0])] = K := ⟨_, rfl⟩
  rw [hK] at HB0
  have Hk : Hid ((r, [Value.slice none 0 0]) ∈ K) := hid (by rw [← hK]; simp)
  clear hF hC hi hz0 hz1 hz2 hK
  go_enter Try.func50, Try.ntmps50
  go_upto_region 3 with fail
  generalize w.alloc (.cells #[Value.slice none 0 0] 30) = w1 at HB0 ⊢
  go_loopw [3, 11] (fun tt i wr => ∃ (k : Nat), k ≤ fn ∧ tt = .int .i64 (lensum (Ls.take k) : Nat) ∧ i = .int .i64 k ∧ Hid (Bb w K wr)) (fun _ i _ => fn - (intOf i).toNat)
  case atStart => exact ⟨0, Nat.zero_le _, rfl, rfl, HB0⟩
  case round =>
    clear HB0
    obtain ⟨k, hk, rfl, rfl, HB⟩ := hrel
    by_cases hlt : k < fn
    · as_aux_lemma =>
      obtain ⟨t, l, ht, hl, hrow, hN, hty⟩ := HC.out.at (i := k) (by omega)
      obtain ⟨ta, tn, tc⟩ := t
      obtain ⟨b, off, rfl, e1⟩ := (HF.out.below HB.out.bel).cell hlt
      rw [List.getElem?_map, ht] at e1
      have e1' : wr.cell? ⟨b, off + k, none⟩ = some (.slice ta tn tc) := e1
      have hln : l.length = tn := hrow.len
      have Hst : Hid (lensum (Ls.take (k + 1)) = lensum (Ls.take k) + tn) := hid (by rw [lensum_take hl, hln])
      have hb1 := HTot.out k
      have hb2 := HTot.out (k + 1)
      rw [Hst.out] at hb2
      obtain ⟨tot, htot⟩ : ∃ tot, lensum (Ls.take k) = tot := ⟨_, rfl⟩
      rw [htot] at Hst hb1 hb2
      rw [htot]
      have HB2 := hid (HB.out.below (nbel wr (.cells #[.slice ta tn tc] 30)))
      have dk : decide ((k : Int) < (fn : Int)) = true := decide_eq_true (by omega)
      have i1 : (k : Int) < (fn : Int) := by omega
      clear e1 ht hl htot
      go_wp2
      exact ⟨⟨k + 1, by omega, by rw [Hst.out]; go_num, by go_num, HB2⟩, by simp [intOf]; omega⟩
    · as_aux_lemma =>
      have dk : decide ((k : Int) < (fn : Int)) = false := decide_eq_false (by omega)
      have hb1 := HTot.out k
      obtain ⟨tot, htot⟩ : ∃ tot, lensum (Ls.take k) = tot := ⟨_, rfl⟩
      rw [htot] at hb1
      rw [htot]
      have hmk0 := make_iv tot (by omega)
      obtain ⟨Z, hZ⟩ : ∃ Z : List Value, madeCells #[Value.int .i64 0, .int .i64 0] (tot * 2) = Z.toArray := ⟨(madeCells #[Value.int .i64 0, .int .i64 0] (tot * 2)).toList, by simp⟩
      have hZl : Z.length = tot * 2 := by have h := size_madeCells #[Value.int .i64 0, .int .i64 0] (tot * 2); rw [hZ] at h; simpa using h
      rw [hZ] at hmk0
      obtain ⟨g, hg⟩ : ∃ g, wr.heap.size = g := ⟨_, rfl⟩
      have HO0 : Hid (Ow w K (.slice (some ⟨g, 0, none⟩) 0 tot) [] (wr.alloc (.cells Z.toArray 67))) := hid (by
        have ho := own_made w wr Z tot (by omega) hZl HB.out.bel.size
        rw [hg] at ho
        exact ⟨(HB.out.below (nbel wr _)).bel, ho, (HB.out.below (nbel wr _)).keep⟩)
      clear hZ htot HTot
      go_upto_region 9 with fail
      generalize wr.alloc (.cells Z.toArray 67) = w3 at HO0 ⊢
      clear hmk0 dk
      have HTot : Hid (∀ k, lensum (Ls.take k) ≤ 10000000000) := hid (fun k => by
        have h1 : lensum (Ls.take k) ≤ (Ls.take k).length * 98304 := by
          have : ∀ (M : List (List (Int × Int))), (∀ l ∈ M, l.length ≤ 98304) → lensum M ≤ M.length * 98304 := fun M => by
            unfold lensum
            induction M with
            | nil => simp
            | cons l M ih =>
              intro h
              have h1 := h l (by simp)
              have h2 := ih (fun m hm => h m (by simp [hm]))
              simp
              omega
          exact this _ (fun l hl => HSh.out l (List.mem_of_mem_take hl))
        have h2 : (Ls.take k).length ≤ 65536 := by rw [List.length_take]; omega
        omega)
      go_loopw [6, 25] (fun v i wr => ∃ (k : Nat), k ≤ fn ∧ i = .int .i64 k ∧ Hid (Ow w K v (Ls.take k).flatten wr)) (fun _ i _ => fn - (intOf i).toNat)
      case atStart => exact ⟨0, Nat.zero_le _, rfl, HO0⟩
      case round =>
        clear HO0 HB
        obtain ⟨k, hk, rfl, HO⟩ := hrel
        by_cases hlt : k < fn
        · as_aux_lemma =>
          obtain ⟨t, l, ht, hl, hrow, hN, hty⟩ := (HC.out.below HO.out.bel).at (i := k) (by omega)
          obtain ⟨ta, tn, tc⟩ := t
          obtain ⟨b, off, rfl, e1⟩ := (HF.out.below HO.out.bel).cell hlt
          rw [List.getElem?_map, ht] at e1
          have e1' : wr.cell? ⟨b, off + k, none⟩ = some (.slice ta tn tc) := e1
          have hln : l.length = tn := hrow.len
          have Hft := hid (flat_take hl)
          have hb1 := HTot.out k
          have hb2 := hid (HTot.out (k + 1))
          rw [lensum_take hl, ← flat_lensum] at hb2
          obtain ⟨ol, hol⟩ : ∃ ol, (Ls.take k).flatten = ol := ⟨_, rfl⟩
          rw [hol] at Hft HO hb2
          have HO3 := hid (HO.out.below (nbel wr (.cells #[.slice ta tn tc] 30)))
          have HRw := hid (hrow.below (nbel wr (.cells #[.slice ta tn tc] 30)))
          have HCe := hid (HRw.out.1.cells (by omega) (fun _ => rfl))
          have HNil := hid (fun (h : ta = none) => HRw.out.1.nil h)
          have hfl : (l.flatMap ivC).length = tn * 2 := by rw [flat_len, hln]
          have hbb : (ol.length + tn) * 16 ≤ 140737488355328 := by have := hb2.out; omega
          have hsz := HO3.out.bel.size
          have dk : decide ((k : Int) < (fn : Int)) = true := decide_eq_true (by omega)
          have i1 : (k : Int) < (fn : Int) := by omega
          clear e1 ht hl hol hrow hty hb1
          go_wp2_with (at_builtin; refine wpList_append_row _ rfl (.tmp 29) (.tmp 31) 25 rfl w.heap.size 67 i0 (.agg #[.int .i64 0, .int .i64 0]) 2 16 Try.underlying25 HI.out.1 HI.out.2.1 HI.out.2.2.1 HI.out.2.2.2 rfl (by decide) _ _ _ rfl HO3.out.own ta tn tc (l.flatMap ivC) rfl hfl HNil.out HCe.out (iv_one l) hbb (by decide) hsz ?_; intro v8 w8 hown8 hb8 hk8 hg8; have HOw8 := hid hown8; have HB8 := hid hb8; have HK8 := hid hk8; clear hown8 hb8 hk8 hg8)
          have HO8 : Hid (Ow w K v8 (Ls.take (k + 1)).flatten w8) := hid (by
            rw [Hft.out]
            exact HO3.out.appL (by rw [hln]; exact HOw8.out) HB8.out HK8.out)
          exact ⟨⟨k + 1, by omega, by go_num, HO8⟩, by simp [intOf]; omega⟩
        · as_aux_lemma =>
          have dk : decide ((k : Int) < (fn : Int)) = false := decide_eq_false (by omega)
          have HO2 : Hid (Ow w K u6 Ls.flatten wr) := hid (by have h := HO.out; rw [List.take_of_length_le (by omega)] at h; exact h)
          have hb1 := HTot.out Ls.length
          rw [List.take_length, ← flat_lensum] at hb1
          obtain ⟨a5, n5, c5, rfl, hrow5⟩ := ownsRow_row (f := ivC) (l := Ls.flatten) (sz := 2) (by decide) (fun _ => rfl) (by omega) HO2.out.own
          have hn5 : Ls.flatten.length = n5 := hrow5.1
          have HFit : Hid (∀ p ∈ Ls.flatten, Fit p.1 ∧ Fit p.2) := hid (fun p hp => by
            obtain ⟨l, hl, hpl⟩ := List.mem_flatten.1 hp
            obtain ⟨i, hi⟩ := List.mem_iff_getElem?.1 hl
            obtain ⟨t, l', _, h2, h3, _⟩ := HC.out.at (List.getElem?_eq_some_iff.1 hi).1
            rw [hi] at h2
            cases h2
            exact h3.2 p hpl)
          have HFr := hid (from_walk a5 n5 c5 Ls.flatten wr ⟨hrow5, HFit.out⟩ (by omega))
          have HKr := hid (HO2.out.keep _ Hk.out)
          have HBe := hid HO2.out.bel
          clear hrow5 HO HO2
          go_wp2_with fail
          refine HFr.out.mono ?_
          rintro e w5 hf
          obtain ⟨⟨a6, n6, c6, l6, rfl, hrow6, hN6, hm6, hty6⟩, hb6⟩ := hf.cp
          have HRow6 := hid hrow6
          have HTy6 := hid hty6
          have Hm6 := hid hm6
          have HRs6 := hid (HKr.out.below hb6)
          have HBe6 := hid (HBe.out.trans (hb6.mono HBe.out.size))
          have I0 : Hid ((Try.prog.info? 30).map (·.size) = some [Value.slice a6 n6 c6].length) := hid info_reg
          clear hrow6 hty6 hb6 hm6 HFr HKr HBe
          go_wp2_with (refine wpList_store_blk rfl 30 _ _ rfl r rfl [.slice a6 n6 c6] rfl HRs6.out rfl I0.out (fun v hv => by simp at hv; subst hv; rfl) ?_; intro w9 HB9 HU9)
          exact bodyPost_ret (results_blk Try.results50 rfl (show AggOf Try.prog 30 (List.length [_]) from AggOf.struct Try.underlying30 info_reg) HB9.out) rfl
            ⟨⟨_, _, _, _, rfl, HRow6.out.upd HU9.out (HTy6.out.ne HRs6.out (by decide)), hN6, fun x h0 h1 => (by rw [Hm6.out x h0 h1, memB_flat]), HTy6.out.upd HRs6.out (by decide) HU9.out⟩, HBe6.out.trans (HU9.out.below (by omega) HBe6.out.size)⟩
end Go.Proofs.Qxb6500884a
