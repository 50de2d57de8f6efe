/- SortNames. -/
import Derived.Test.Qxb6500891aPtBd
namespace Go.Proofs.Qxb6500891a
open Go.RowKit
set_option linter.unusedSimpArgs false
set_option linter.unusedVariables false

/-- n names in the cells of a block. -/
structure NB (cs : List Value) (n : Nat) : Prop where
  len : n * 33 ≤ cs.length
  nm : ∀ k, k < n → ∃ x, GoodN x ∧ ∀ j v, (nameC x)[j]? = some v → cs[k * 33 + j]? = some v
theorem NB.set {cs : List Value} {n : Nat} (h : NB cs n) {k : Nat} (hk : k < n) {x : List Nat} (hx : GoodN x) : NB (splice cs (k * 33) (nameC x)) n := by
  have h1 := h.len
  have h2 := nameC_len hx.nm.le
  have hfit : k * 33 + (nameC x).length ≤ cs.length := by rw [h2]; omega
  refine ⟨by rw [splice_len hfit]; exact h1, fun q hq => ?_⟩
  by_cases he : q = k
  · subst he
    exact ⟨x, hx, fun j v hv => splice_get hv (by omega)⟩
  · obtain ⟨y, hy, hc⟩ := h.nm q hq
    refine ⟨y, hy, fun j v hv => ?_⟩
    have hj := (List.getElem?_eq_some_iff.1 hv).1
    rw [nameC_len hy.nm.le] at hj
    rw [splice_out (by rw [h2]; omega) hfit]
    exact hc j v hv
structure Sn (w : World) (g n : Nat) (wr : World) : Prop where
  upd : Upd g w wr
  blk : ∃ cs, Blk wr g 36 cs ∧ NB cs n
theorem Sn.below {w wr w' : World} {g n : Nat} (h : Sn w g n wr) (hb : Below wr.heap.size wr w') : Sn w g n w' := ⟨h.upd.ofBelow hb, by obtain ⟨cs, h1, h2⟩ := h.blk; exact ⟨cs, h1.below hb, h2⟩⟩
structure Sn1 (w : World) (g n p : Nat) (C : List Value) (wr : World) : Prop where
  sn : Sn w g n wr
  bp : Blk wr p 36 C
theorem Sn1.below {w wr w' : World} {g n p : Nat} {C : List Value} (h : Sn1 w g n p C wr) (hb : Below wr.heap.size wr w') : Sn1 w g n p C w' := ⟨h.sn.below hb, h.bp.below hb⟩
theorem Sn1.store {w wr : World} {g n p : Nat} {C : List Value} (h : Sn1 w g n p C wr) (hne : p ≠ g) {k : Nat} (hk : k < n) {x : List Nat} (hx : GoodN x) : Sn1 w g n p C (wr.setCells g (k * 33) (nameC x)) := by
  obtain ⟨cs, h1, h2⟩ := h.sn.blk
  have hl := h2.len
  have h3 := nameC_len hx.nm.le
  have hu := Upd.setCells g (nameC x) (k * 33) (Upd.refl g wr)
  exact ⟨⟨Upd.setCells g (nameC x) (k * 33) h.sn.upd, _, Blk.setCells _ _ h1 (by rw [h3]; omega), h2.set hk hx⟩, h.bp.upd hu hne⟩
theorem Sn.there {w wr : World} {g n : Nat} (h : Sn w g n wr) {k : Nat} (hk : k < n) : wr.there g (k * 33) 33 := by
  obtain ⟨cs, h1, h2⟩ := h.blk
  have := h2.len
  exact h1.thereAt (by omega)
theorem Sn.get {w wr : World} {g n : Nat} (h : Sn w g n wr) {k : Nat} (hk : k < n) : ∃ x, GoodN x ∧ wr.rangeAt g (k * 33) (nameC x) := by
  obtain ⟨cs, h1, h2⟩ := h.blk
  obtain ⟨x, hx, hc⟩ := h2.nm k hk
  exact ⟨x, hx, fun j v hv => by rw [h1.cell]; exact hc j v hv⟩
set_option maxRecDepth 1000000 in
set_option maxHeartbeats 4000000 in
theorem sortNames_walk (g n c : Nat) (cs : List Value) (w : World) (hb : Blk w g 36 cs) (hn : NB cs n) (h256 : n ≤ 256) :
    Calls Try.prog 59 #[.slice (some ⟨g, 0, none⟩) n c] w fun e w' => e = .returned (.tuple #[]) ∧ Sn w g n w' := by
  have HS0 : Hid (Sn w g n w) := hid ⟨Upd.refl _ _, cs, hb, hn⟩
  have hg0 := hb.lt
  clear hb hn
  go_enter Try.func59, Try.ntmps59
  go_wp2_with fail
  go_loopw [2] (fun i wr => ∃ k : Nat, 1 ≤ k ∧ k ≤ n + 1 ∧ i = .int .i64 (k : Int) ∧ Hid (Sn w g n wr)) (fun i _ => n + 1 - (intOf i).toNat)
  case atStart => exact ⟨1, by omega, by omega, rfl, HS0⟩
  case round =>
    clear HS0
    obtain ⟨k, hk1, hk2, rfl, HS⟩ := hrel
    by_cases hlt : k < n
    rotate_left
    · as_aux_lemma =>
      have dk : decide ((k : Int) < (n : Int)) = false := decide_eq_false (by omega)
      go_wp2
      exact bodyPost_end (v := .tuple #[]) (by simp [results, Try.results59, go_sem]) rfl ⟨rfl, HS.out⟩
    as_aux_lemma =>
    have dk : decide ((k : Int) < (n : Int)) = true := decide_eq_true (by omega)
    have i1 : (k : Int) < (n : Int) := by omega
    obtain ⟨x, hgx, hrg⟩ := HS.out.get hlt
    obtain ⟨CA, hCA⟩ : ∃ CA, nameC x = CA := ⟨_, rfl⟩
    have hC33 : CA.length = 33 := by rw [← hCA]; exact nameC_len hgx.nm.le
    have HOn : Hid (∀ v ∈ CA, v.oneCell' = true) := hid (by rw [← hCA]; exact one_name x)
    have I1 : Hid ((Try.prog.info? 36).map (·.size) = some CA.length) := hid (by rw [hC33]; exact info_name)
    have L1 : Hid ((nameC []).length = CA.length) := hid (by rw [hC33]; rfl)
    have Hgx := hid hgx
    have HCA := hid hCA
    rw [hCA] at hrg
    have HRg := hid hrg
    clear hrg hgx hCA
    obtain ⟨p, hp⟩ : ∃ p, wr.heap.size = p := ⟨_, rfl⟩
    have hpw : w.heap.size ≤ p := by have := HS.out.upd.size; omega
    have hpg : p ≠ g := by omega
    have hbn := Blk.new wr (nameC []) 36
    rw [hp] at hbn
    have HBn := hid hbn
    clear hbn
    go_upto_region 4 with (first
      | (refine wpList_load_mid rfl 36 _ rfl g (k * 33) rfl CA _ HRg.out Try.underlying36 rfl I1.out ?_)
      | (refine wpList_store_blk rfl 36 _ _ rfl p rfl CA rfl HBn.out L1.out I1.out HOn.out ?_; intro w3 HB3 HU3))
    have HS3 : Hid (Sn1 w g n p CA w3) := hid ⟨HS.out.below ((nbel wr _).trans (HU3.out.below (by omega) (by simp))), HB3.out⟩
    clear HBn HRg HU3 HB3 HS
    go_wp2_with fail
    go_loopw [4] (fun i wr => ∃ j : Nat, j ≤ k ∧ i = .int .i64 (j : Int) ∧ Hid (Sn1 w g n p CA wr)) (fun i _ => (intOf i).toNat)
    case atStart => exact ⟨k, by omega, rfl, HS3⟩
    case round =>
      clear HS3
      obtain ⟨j, hj, rfl, HS⟩ := hrel
      go_upto_region 5 with fail
      go_cut [27] from 16 to 27 (fun v wc => (∃ b : Bool, v = .bool b ∧ (b = true → 1 ≤ j)) ∧ Hid (Sn1 w g n p CA wc))
      case first =>
        as_aux_lemma =>
        obtain ⟨X, W, hT, hI⟩ := class_mk (fun w' => Below wr.heap.size wr w')
        have HCl : Hid (∀ x w', Below (W x).heap.size (W x) w' → ∃ y, w' = W y) := hid (fun x w' hb => hI _ ((hT x).trans (hb.mono (hT x).size)))
        have H0 : Hid (∃ x, wr.drew = W x) := hid (hI _ (Drew.below ⟨1, rfl⟩ _))
        have hne : Nonempty X := ⟨H0.out.choose⟩
        cases j with
        | zero =>
          have HTT := hid hT
          clear hT hI
          refine wp_region_class W (by kernel_rfl) (by kernel_rfl) H0.out ?_
          repeat (go_big_quiet_step (fail))
          refine wpQuiet_nil ?_
          intro x0
          have HZ := hid (HS.out.below (HTT.out x0))
          generalize W x0 = wz at HZ ⊢
          clear HTT H0
          go_wp2_with fail
          go_meet
          case rel => exact ⟨⟨false, rfl, fun h => by cases h⟩, HZ⟩
        | succ j =>
          obtain ⟨y, hgy, hrg⟩ := HS.out.sn.get (show j < n by omega)
          obtain ⟨CB, hCB⟩ : ∃ CB, nameC y = CB := ⟨_, rfl⟩
          have hD33 : CB.length = 33 := by rw [← hCB]; exact nameC_len hgy.nm.le
          have I4 : Hid ((Try.prog.info? 36).map (·.size) = some CB.length) := hid (by rw [hD33]; exact info_name)
          have HCmp := hid (fun w => nmCompare_walk y x hgy.nm Hgx.out.nm w)
          unfold nameV at HCmp
          rw [hCB, HCA.out] at HCmp
          rw [hCB] at hrg
          have Hlda : Hid (∀ x, (Instr.loadAt 36 (.pointer (some ⟨p, 0, none⟩))).run Try.prog (W x) = .ok (.agg CA.toArray) (W x)) := hid (fun x => run_loadAt_mid (W x) p 0 36 CA _ (HS.out.bp.below (hT x)).rangeAt Try.underlying36 rfl I1.out)
          have Hldb : Hid (∀ x, (Instr.loadAt 36 (.pointer (some ⟨g, j * 33, none⟩))).run Try.prog (W x) = .ok (.agg CB.toArray) (W x)) := hid (fun x => run_loadAt_mid (W x) g (j * 33) 36 CB _ (fun q v hv => by
            have h1 := hrg q v hv
            obtain ⟨cs, h2, _⟩ := HS.out.sn.blk
            rw [(h2.below (hT x)).cell]
            rw [h2.cell] at h1
            exact h1) Try.underlying36 rfl I4.out)
          have HTT := hid hT
          have i2 : (j : Int) < (n : Int) := by omega
          have dj : decide ((0 : Int) < ((j + 1 : Nat) : Int)) = true := decide_eq_true (by omega)
          have dj' : decide ((0 : Int) < (j : Int) + 1) = true := decide_eq_true (by omega)
          obtain ⟨cm, hcm⟩ : ∃ cm, cmpL y x = cm := ⟨_, rfl⟩
          rw [hcm] at HCmp
          clear hT hI hrg hgy hCB hcm
          refine wp_region_class W (by kernel_rfl) (by kernel_rfl) H0.out ?_
          try simp only [Act.put]
          repeat (first
            | (go_big_quiet_want; refine quiet_loadO 36 _ rfl ⟨p, 0, none⟩ rfl _ (fun w hx => by obtain ⟨x, rfl⟩ := hx; exact Hlda.out x) ?_; simp only [Act.put, List.setIfInBounds_toArray, List.set_cons_succ, List.set_cons_zero]; go_big_quiet_on)
            | (go_big_quiet_want; refine quiet_loadO 36 _ rfl ⟨g, j * 33, none⟩ rfl _ (fun w hx => by obtain ⟨x, rfl⟩ := hx; exact Hldb.out x) ?_; simp only [Act.put, List.setIfInBounds_toArray, List.set_cons_succ, List.set_cons_zero]; go_big_quiet_on)
            | (go_big_quiet_step ((go_at_call 28; with_reducible exact Calls.class_of HCl.out (HCmp.out _)))))
          refine wpQuiet_nil ?_
          intro x0
          have HZ := hid (HS.out.below (HTT.out x0))
          generalize W x0 = wz at HZ ⊢
          clear HTT H0 Hlda Hldb HCl HCmp
          go_wp2_with fail
          go_meet
          case rel => exact ⟨⟨_, rfl, fun _ => by omega⟩, HZ⟩
      case rest =>
      obtain ⟨⟨b, rfl, hb⟩, HS5⟩ := hcut
      rename World => wr5
      clear HS
      cases b with
      | false =>
        as_aux_lemma =>
        have i2 : (j : Int) < (n : Int) := by omega
        have HTh := hid (HS5.out.sn.there (show j < n by omega))
        have HS6 := hid (HS5.out.store hpg (show j < n by omega) Hgx.out)
        rw [HCA.out] at HS6
        go_wp2_with (first
          | (refine wpList_load_blk rfl 36 _ rfl p rfl CA HS5.out.bp _ Try.underlying36 rfl I1.out ?_)
          | (refine wpList_store_mid rfl 36 _ _ rfl g (j * 33) CA.toArray rfl rfl (by simpa [hC33] using HTh.out) (by simpa using I1.out) (all_oneCell_toArray HOn.out) ?_; simp only [List.toList_toArray]; generalize World.setCells _ g (j * 33) CA = w7 at HS6 ⊢))
        exact ⟨⟨k + 1, by omega, by omega, by go_num, hid HS6.out.sn⟩, by simp [intOf]; omega⟩
      | true =>
        as_aux_lemma =>
        have hj1 := hb rfl
        obtain ⟨j, rfl⟩ : ∃ q, j = q + 1 := ⟨j - 1, by omega⟩
        have i2 : (j : Int) < (n : Int) := by omega
        have i3 : ((j : Int) + 1) < (n : Int) := by omega
        have i3' : ((j + 1 : Nat) : Int) < (n : Int) := by omega
        obtain ⟨y, hgy, hrg⟩ := HS5.out.sn.get (show j < n by omega)
        have HTh := hid (HS5.out.sn.there (show j + 1 < n by omega))
        have HS6 := hid (HS5.out.store hpg (show j + 1 < n by omega) hgy)
        obtain ⟨CB, hCB⟩ : ∃ CB, nameC y = CB := ⟨_, rfl⟩
        have hD33 : CB.length = 33 := by rw [← hCB]; exact nameC_len hgy.nm.le
        have HOn4 : Hid (∀ v ∈ CB, v.oneCell' = true) := hid (by rw [← hCB]; exact one_name y)
        have I4 : Hid ((Try.prog.info? 36).map (·.size) = some CB.length) := hid (by rw [hD33]; exact info_name)
        rw [hCB] at hrg HS6
        have HRg := hid hrg
        clear hrg hgy hCB hb
        go_wp2_with (first
          | (refine wpList_load_mid rfl 36 _ rfl g (j * 33) rfl CB _ HRg.out Try.underlying36 rfl I4.out ?_)
          | (refine wpList_store_mid rfl 36 _ _ rfl g ((j + 1) * 33) CB.toArray rfl rfl (by simpa [hD33] using HTh.out) (by simpa using I4.out) (all_oneCell_toArray HOn4.out) ?_; simp only [List.toList_toArray]; generalize World.setCells _ g ((j + 1) * 33) CB = w7 at HS6 ⊢))
        exact ⟨⟨j, by omega, by go_num, HS6⟩, by simp [intOf]⟩
end Go.Proofs.Qxb6500891a
