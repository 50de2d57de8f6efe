/- pieces, names. -/
import Derived.Test.Qxb6500891aPtPc
namespace Go.Proofs.Qxb6500891a
open Go.RowKit
set_option linter.unusedSimpArgs false
set_option linter.unusedVariables false

theorem info_pc : ∃ i, Try.prog.info? 109 = some i ∧ i.zero = some (.agg #[.string ⟨#[]⟩, .int .u8 0, .bool false, .bool false]) ∧ i.size = 4 ∧ i.bytes = 24 := by
  have h : (Try.prog.info? 109).map (fun i => (i.zero, i.size, i.bytes)) = some (some (.agg #[.string ⟨#[]⟩, .int .u8 0, .bool false, .bool false]), 4, 24) := by kernel_rfl
  obtain ⟨i, hi, he⟩ := Option.map_eq_some_iff.1 h
  simp only [Prod.mk.injEq] at he
  exact ⟨i, hi, he.1, he.2.1, he.2.2⟩
/-- A path in block g, and what lies below. -/
structure Pg (w0 : World) (g : Nat) (ds : List Value) (w : World) : Prop where
  bel : Below w0.heap.size w0 w
  blk : Blk w g 63 ds
theorem Pg.below {w0 w w' : World} {g : Nat} {ds : List Value} (h : Pg w0 g ds w) (hb : Below w.heap.size w w') : Pg w0 g ds w' := ⟨h.bel.trans (hb.mono h.bel.size), h.blk.below hb⟩
theorem sp_nm {ds : List Value} {l : List Nat} {sp : List Sp} (hp : PathOk ds 0 l sp) {s : Sp} (hs : s ∈ sp) : GoodN (sub l s.a s.b) := by
  have hso := hp.cp.ok s hs
  have hl := sub_len (l := l) (a := s.a) hso.le
  have := hso.sh
  have := hso.lt
  exact ⟨⟨by omega, fun x hx => hp.bytes x (List.mem_of_mem_drop (List.mem_of_mem_take hx))⟩, by omega⟩
structure Pcs (w0 : World) (v : Value) (n : Nat) (w : World) : Prop where
  bel : Below w0.heap.size w0 w
  own : ∃ xs, w.ownsRow w0.heap.size 109 4 v n xs
theorem Pcs.below {w0 w w' : World} {v : Value} {n : Nat} (h : Pcs w0 v n w) (hb : Below w.heap.size w w') : Pcs w0 v n w' := ⟨h.bel.trans (hb.mono h.bel.size), by obtain ⟨xs, hx⟩ := h.own; exact ⟨xs, ownsRow_bel hx hb⟩⟩
set_option maxRecDepth 1000000 in
set_option maxHeartbeats 2000000 in
theorem pieces_walk (g : Nat) (ds : List Value) (l : List Nat) (sp : List Sp) (w : World) (hb : Blk w g 63 ds) (hp : PathOk ds 0 l sp) :
    Calls Try.prog 52 #[.pointer (some ⟨g, 0, none⟩)] w fun e w' => ∃ a n c, e = .returned (.slice a n c) ∧ Below w.heap.size w w' := by
  have HB := hid hb
  have HP := hid hp
  have h128 := hp.n128
  obtain ⟨m, hm⟩ : ∃ m, sp.length = m := ⟨_, rfl⟩
  obtain ⟨i0, hi, hz0, hz1, hz2⟩ := info_pc
  have HI := hid (And.intro hi (And.intro hz0 (And.intro hz1 hz2)))
  have Hm := hid hm
  rw [hm] at h128
  clear hb hp hi hz0 hz1 hz2 hm
  go_enter Try.func52, Try.ntmps52
  go_wp2_with fail
  go_loopw [3, 4] (fun v i wr => ∃ k : Nat, k ≤ m ∧ i = .int .i64 k ∧ Hid (Pcs w v k wr)) (fun _ i _ => m - (intOf i).toNat)
  case atStart => exact ⟨0, by omega, rfl, hid ⟨Below.refl _ _, [], World.ownsRow_nil _ _ _ _⟩⟩
  case round =>
    obtain ⟨k, hk, rfl, HO⟩ := hrel
    have HBr := hid (HB.out.below HO.out.bel)
    have HLn := hid (pathLen_walk g 0 63 ds l sp wr HBr.out HP.out)
    rw [Hm.out] at HLn
    by_cases hlt : k < m
    rotate_left
    · as_aux_lemma =>
      obtain ⟨xs, hx⟩ := HO.out.own
      obtain ⟨a, c, hv⟩ := owns_shape hx
      subst hv
      clear hx
      have dk : decide ((k : Int) < (m : Int)) = false := decide_eq_false (by omega)
      go_wp2_with fail
      refine (HLn.out).mono ?_
      rintro e w1 ⟨rfl, rfl⟩
      go_wp2
      go_ret
      exact ⟨a, k, c, rfl, HO.out.bel⟩
    · as_aux_lemma =>
      have dk : decide ((k : Int) < (m : Int)) = true := decide_eq_true (by omega)
      obtain ⟨s, hs⟩ : ∃ s, sp[k]? = some s := ⟨_, List.getElem?_eq_getElem (show k < sp.length by rw [Hm.out]; omega)⟩
      have hnm := sp_nm HP.out (List.mem_of_getElem? hs)
      have HAt := hid (at_walk g 0 63 ds l sp wr HBr.out HP.out k s hs)
      have HPc := hid (fun w => piece_walk (sub l s.a s.b) hnm.nm s.cls (hashL 2166136261 (sub l s.a s.b)) s.sl (decide (k + 1 = sp.length)) w)
      unfold compV at HAt
      generalize hla : decide (k + 1 = sp.length) = la at *
      generalize hhh : hashL 2166136261 (sub l s.a s.b) = hh at *
      generalize hnn : sub l s.a s.b = nm at *
      obtain ⟨C, hC⟩ : ∃ C, compC nm s.cls hh s.sl la = C := ⟨_, rfl⟩
      rw [hC] at HAt HPc
      obtain ⟨xs, hx⟩ := HO.out.own
      have HX := hid hx
      unfold pieceC at HPc
      clear hx hs hC hla hhh hnn hnm
      go_wp2_with fail
      refine (HLn.out).mono ?_
      rintro e w1 ⟨rfl, rfl⟩
      clear HLn
      go_wp2_with fail
      refine (HAt.out).mono ?_
      rintro e w2 ⟨rfl, hb2⟩
      have HB2 := hid hb2
      clear hb2 HAt
      go_wp2_with fail
      refine (HPc.out _).mono ?_
      rintro e w3 ⟨rfl, hb3⟩
      have HB3 := hid (HB2.out.trans (hb3.mono HB2.out.size))
      clear hb3 HPc HB2
      have HO3 := hid ((ownsRow_bel HX.out HB3.out).alloc (.cells #[.string (strL nm), .int .u8 s.cls, .bool s.sl, .bool la] 109))
      have hbs : w.heap.size ≤ (w3.alloc (.cells #[.string (strL nm), .int .u8 s.cls, .bool s.sl, .bool la] 109)).heap.size := by have := HO.out.bel.size; have := HB3.out.size; simp; omega
      have hbb : (k + 1) * 24 ≤ 140737488355328 := by omega
      have HOb := hid HO.out.bel
      go_wp2_with (at_builtin; refine wpList_append_row _ rfl (.tmp 11) (.tmp 16) 79 rfl w.heap.size 109 i0 (.agg #[.string ⟨#[]⟩, .int .u8 0, .bool false, .bool false]) 4 24 Try.underlying79 HI.out.1 HI.out.2.1 HI.out.2.2.1 HI.out.2.2.2 rfl (by decide) _ _ _ rfl HO3.out (some ⟨w3.heap.size, 0, none⟩) 1 1 [.string (strL nm), .int .u8 s.cls, .bool s.sl, .bool la] rfl rfl (fun h => by cases h) (newRow _ [.string (strL nm), .int .u8 s.cls, .bool s.sl, .bool la] _ _ rfl) (fun u hu => by simp at hu; rcases hu with rfl | rfl | rfl | rfl <;> rfl) hbb (by decide) hbs ?_; intro v8 w8 hown8 hb8 hk8 hg8; have HOw8 := hid hown8; have HB8 := hid hb8; clear hown8 hb8 hk8 hg8)
      exact ⟨⟨k + 1, by omega, by go_num, hid ⟨HOb.out.trans (((HB3.out.mono HOb.out.size).alloc (by have := HOb.out.size; have := HB3.out.size; omega) _).trans HB8.out), _, HOw8.out⟩⟩, by simp [intOf]; omega⟩
/-- A row of names that the call made. -/
structure Nr (w0 : World) (v : Value) (ns : List (List Nat)) (w : World) : Prop where
  bel : Below w0.heap.size w0 w
  own : w.ownsRow w0.heap.size 36 33 v ns.length (ns.flatMap nameC)
  ok : ∀ x ∈ ns, GoodN x
theorem Nr.below {w0 w w' : World} {v : Value} {ns : List (List Nat)} (h : Nr w0 v ns w) (hb : Below w.heap.size w w') : Nr w0 v ns w' := ⟨h.bel.trans (hb.mono h.bel.size), ownsRow_bel h.own hb, h.ok⟩
set_option maxRecDepth 1000000 in
set_option maxHeartbeats 2000000 in
theorem names_walk (g : Nat) (ds : List Value) (l : List Nat) (sp : List Sp) (w : World) (hb : Blk w g 63 ds) (hp : PathOk ds 0 l sp) :
    Calls Try.prog 56 #[.pointer (some ⟨g, 0, none⟩)] w fun e w' => ∃ v ns, e = .returned v ∧ ns.length ≤ 128 ∧ Nr w v ns w' := by
  have HB := hid hb
  have HP := hid hp
  have h128 := hp.n128
  obtain ⟨m, hm⟩ : ∃ m, sp.length = m := ⟨_, rfl⟩
  obtain ⟨i0, hi, hz0, hz1, hz2⟩ := info_nm
  have HI := hid (And.intro hi (And.intro hz0 (And.intro hz1 hz2)))
  have Hm := hid hm
  rw [hm] at h128
  clear hb hp hi hz0 hz1 hz2 hm
  go_enter Try.func56, Try.ntmps56
  go_wp2_with fail
  go_loopw [3, 4] (fun v i wr => ∃ (k : Nat) (ns : List (List Nat)), k ≤ m ∧ ns.length = k ∧ i = .int .i64 k ∧ Hid (Nr w v ns wr)) (fun _ i _ => m - (intOf i).toNat)
  case atStart => exact ⟨0, [], by omega, rfl, rfl, hid ⟨Below.refl _ _, World.ownsRow_nil _ _ _ _, fun x hx => by cases hx⟩⟩
  case round =>
    obtain ⟨k, ns, hk, hns, rfl, HO⟩ := hrel
    have HBr := hid (HB.out.below HO.out.bel)
    have HLn := hid (pathLen_walk g 0 63 ds l sp wr HBr.out HP.out)
    rw [Hm.out] at HLn
    by_cases hlt : k < m
    rotate_left
    · as_aux_lemma =>
      have dk : decide ((k : Int) < (m : Int)) = false := decide_eq_false (by omega)
      go_wp2_with fail
      refine (HLn.out).mono ?_
      rintro e w1 ⟨rfl, rfl⟩
      go_wp2
      go_ret
      exact ⟨_, ns, rfl, by omega, HO.out⟩
    · as_aux_lemma =>
      have dk : decide ((k : Int) < (m : Int)) = true := decide_eq_true (by omega)
      obtain ⟨s, hs⟩ : ∃ s, sp[k]? = some s := ⟨_, List.getElem?_eq_getElem (show k < sp.length by rw [Hm.out]; omega)⟩
      have hnm := sp_nm HP.out (List.mem_of_getElem? hs)
      have HAt := hid (at_walk g 0 63 ds l sp wr HBr.out HP.out k s hs)
      unfold compV at HAt
      generalize hla : decide (k + 1 = sp.length) = la at *
      generalize hhh : hashL 2166136261 (sub l s.a s.b) = hh at *
      generalize hnn : sub l s.a s.b = nm at *
      have hfd := fun w => field_comp0 hnm.nm.le s.cls hh s.sl la w
      obtain ⟨C, hC⟩ : ∃ C, compC nm s.cls hh s.sl la = C := ⟨_, rfl⟩
      rw [hC] at HAt hfd
      have hnm32 := hnm.nm.le
      have hnm33 : (nameC nm).length = 33 := nameC_len hnm32
      have hfold := fold_name hnm32
      have HG := hid hnm
      have Hns := hid hns
      have hbb : (ns.length + 1) * 33 ≤ 140737488355328 := by omega
      clear hs hC hla hhh hnn hnm hns
      go_wp2_with fail
      refine (HLn.out).mono ?_
      rintro e w1 ⟨rfl, rfl⟩
      clear HLn
      go_wp2_with fail
      refine (HAt.out).mono ?_
      rintro e w2 ⟨rfl, hb2⟩
      have HN2 := hid (HO.out.below hb2)
      clear hb2 HAt HO
      have HO7 := hid (HN2.out.own.alloc (.cells (nameC nm).toArray 36))
      have hbs7 : w.heap.size ≤ (w2.alloc (.cells (nameC nm).toArray 36)).heap.size := by have := HN2.out.bel.size; simp; omega
      go_wp2_with (at_builtin; refine wpList_append_row _ rfl (.tmp 11) (.tmp 16) 49 rfl w.heap.size 36 i0 (.agg (nameC []).toArray) 33 33 Try.underlying49 HI.out.1 HI.out.2.1 HI.out.2.2.1 HI.out.2.2.2 rfl (by decide) _ _ _ rfl HO7.out (some ⟨w2.heap.size, 0, none⟩) 1 1 (nameC nm) rfl (by rw [hnm33]) (fun h => by cases h) (newRow _ (nameC nm) _ _ rfl) (one_name nm) hbb (by decide) hbs7 ?_; intro v8 w8 hown8 hb8 hk8 hg8; have HOw8 := hid hown8; have HB8 := hid hb8; clear hown8 hb8 hk8 hg8)
      refine ⟨⟨k + 1, ns ++ [nm], by omega, by simp [Hns.out], by go_num, hid ⟨(HN2.out.bel.alloc HN2.out.bel.size _).trans HB8.out, ?_, fun x hx => ?_⟩⟩, by simp [intOf]; omega⟩
      · rw [List.length_append, List.flatMap_append]
        simpa using HOw8.out
      · rcases List.mem_append.1 hx with h | h
        · exact HN2.out.ok x h
        · simp at h
          subst h
          exact HG.out
end Go.Proofs.Qxb6500891a
