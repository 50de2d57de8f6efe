/- (*Path).Set. -/
import Derived.Test.Qxb6500891aPtSetP
import Derived.Test.Qxb6500891aLastT
namespace Go.Proofs.Qxb6500891a
open Go.RowKit
set_option linter.unusedSimpArgs false
set_option linter.unusedVariables false

/-- The state at the head of the outer loop. -/
structure SetS (w : World) (g o : Nat) (t : TypeId) (cs : List Value) (l : List Nat) (i : Nat) (lg : Bool) (sp : List Sp) (wr : World) : Prop where
  upd : Upd g w wr
  blk : ∃ ds, Blk wr g t ds ∧ Same cs ds o ∧ Comps ds o l sp ∧ ds[o + 255]? = some (.int .i64 0) ∧ ds[o + 256]? = some (.int .i64 0)
  a1 : 2 * sp.length ≤ i + 1
  b1 : ∀ x, l[i]? = some x → x ≠ 47 → 2 * sp.length ≤ i
  sl : ∀ s ∈ sp, s.sl = true ∨ i = l.length
  lgt : lg = true → ∃ c ∈ splitV l, 32 < c.1.length
  vw : lg = false → sp.map (vwS l) ++ splitV (l.drop i) = splitV l
  sl1 : ∀ k s, sp[k]? = some s → k + 1 < sp.length → s.sl = true
def SetP (w : World) (g o : Nat) (t : TypeId) (cs : List Value) (l : List Nat) (e : Ending) (w' : World) : Prop :=
  ∃ code : Int, e = .returned (.int .u8 code) ∧ Upd g w w' ∧ (∃ ds, Blk w' g t ds ∧ Same cs ds o ∧ (code = 0 → ∃ sp, PathOk ds o l sp) ∧ (code ≠ 0 → ds[o + 255]? = some (.int .i64 0) ∧ ds[o + 256]? = some (.int .i64 0))) ∧ (GoodP l → code = 0) ∧ code ≠ 9

theorem slice_all255 (ad : Addr) (w : World) : (Instr.sliceAt 58 (.pointer (some ad)) none none none).run Try.prog w = .ok (.slice (some ad) 255 255) w := by
  have hal : Try.prog.arrayLen 58 = 255 := by kernel_rfl
  rw [run_sliceAt_array_all w 58 ad (by kernel_rfl)]
  simp [slicedAt, hal, go_sem, Addr.add]
theorem ByteRow.upd {w w' : World} {a : Option Addr} {n c g : Nat} {l : List Nat} (h : ByteRow w a n c l) (hu : Upd g w w') (hag : 0 < n → ∀ b off, a = some ⟨b, off, none⟩ → b ≠ g) : ByteRow w' a n c l := by
  refine ⟨⟨h.1.1, h.1.2.1, h.1.2.2.1, fun i hi => ?_⟩, h.2⟩
  obtain ⟨b, off, ha, hlt, hc⟩ := h.1.2.2.2 i hi
  refine ⟨b, off, ha, Nat.lt_of_lt_of_le hlt hu.size, fun j hj => ?_⟩
  rw [← hc j hj]
  simp only [World.cell?, hu.block b hlt (hag (by have := h.len; omega) b off ha)]
theorem SetS.bad {w wr : World} {g o : Nat} {t : TypeId} {cs : List Value} {l : List Nat} {i : Nat} {lg : Bool} {sp : List Sp} (h : SetS w g o t cs l i lg sp wr) {code : Int} (hc : code ≠ 0) (hx : ¬ GoodP l) (h9 : code ≠ 9) :
    SetP w g o t cs l (.returned (.int .u8 code)) wr := by
  obtain ⟨ds, h1, h2, h3, h4, h5⟩ := h.blk
  exact ⟨code, rfl, h.upd, ⟨ds, h1, h2, fun e => absurd e hc, fun _ => ⟨h4, h5⟩⟩, fun a => absurd a hx, h9⟩

set_option maxRecDepth 1000000 in
set_option maxHeartbeats 4000000 in
theorem pathSet_walk (g o : Nat) (t : TypeId) (cs : List Value) (a : Option Addr) (n c : Nat) (l : List Nat) (w : World) (hb : Blk w g t cs) (ho : o + 897 ≤ cs.length) (hr : ByteRow w a n c l) (hag : 0 < n → ∀ b off, a = some ⟨b, off, none⟩ → b ≠ g) :
    Calls Try.prog 42 #[.pointer (some ⟨g, o, none⟩), .slice a n c] w fun e w' => SetP w g o t cs l e w' := by
  have hn := hr.1.2.2.1.1
  have hl := hr.len
  obtain ⟨v1, c255⟩ : ∃ v1, w.cell? ⟨g, o + 255, none⟩ = some v1 := ⟨_, by rw [hb.cell]; exact List.getElem?_eq_getElem (by omega)⟩
  obtain ⟨v2, c256⟩ : ∃ v2, w.cell? ⟨g, o + 256, none⟩ = some v2 := ⟨_, by rw [hb.cell]; exact List.getElem?_eq_getElem (by omega)⟩
  have f255 : w.frozen? ⟨g, o + 255, none⟩ = false := hb.frozen _
  have f256 : w.frozen? ⟨g, o + 256, none⟩ = false := hb.frozen _
  have hb1 := (hb.set (o + 255) (.int .i64 0)).set (o + 256) (.int .i64 0)
  have hu1 : Upd g w ((w.setCell ⟨g, o + 255, none⟩ (.int .i64 0)).setCell ⟨g, o + 256, none⟩ (.int .i64 0)) := ((Upd.refl g w).setCell rfl _).setCell rfl _
  have HR := hid hr
  have HAG := hid hag
  clear hb hr hag
  go_enter Try.func42, Try.ntmps42
  go_upto_region 2 with fail
  obtain ⟨w1, hw1⟩ : ∃ w1, (w.setCell ⟨g, o + 255, none⟩ (.int .i64 0)).setCell ⟨g, o + 256, none⟩ (.int .i64 0) = w1 := ⟨_, rfl⟩
  rw [hw1] at hb1 hu1
  rw [hw1]
  have HS0 : Hid (SetS w g o t cs l 0 false [] w1) := hid ⟨hu1, ⟨_, hb1, ((Same.refl cs o).set (by omega) (by omega) (by rfl)).set (by omega) (by omega) (by rfl), Comps.nil _ _ _, by rw [List.getElem?_set_ne (by omega), List.getElem?_set_self (by omega)], by rw [List.getElem?_set_self (by simp; omega)]⟩, by simp, fun _ _ _ => (by simp), fun s hs => (by cases hs), fun h => (by cases h), fun _ => (by simp), fun k s h => (by simp at h)⟩
  clear hw1 hb1 hu1 c255 c256 f255 f256
  by_cases h0 : n = 0
  · subst h0
    have hl0 : l = [] := List.eq_nil_of_length_eq_zero hl
    go_wp2
    go_ret
    exact HS0.out.bad (by omega) (fun h => h.1 hl0) (by omega)
  have d0 : ((n : Int) == 0) = false := by simp; omega
  by_cases h255 : 255 < n
  · have d1 : decide (255 < (n : Int)) = true := decide_eq_true (by omega)
    go_wp2
    go_ret
    exact HS0.out.bad (by omega) (fun h => by have := h.2.1; omega) (by omega)
  have d1 : decide (255 < (n : Int)) = false := decide_eq_false (by omega)
  have n255 : n ≤ 255 := by omega
  go_wp2_with fail
  go_loopw [5, 6, 7] (fun v5 v6 v7 wr => ∃ (i : Nat) (lg : Bool) (sp : List Sp), i ≤ n ∧ v5 = .int .i64 (sp.length : Int) ∧ v6 = .bool lg ∧ v7 = .int .i64 (i : Int) ∧ Hid (SetS w g o t cs l i lg sp wr)) (fun _ _ v7 _ => n - (intOf v7).toNat)
  case atStart => exact ⟨0, false, [], by omega, rfl, rfl, rfl, HS0⟩
  case round =>
    clear HS0
    obtain ⟨i, lg, sp, hi, rfl, rfl, rfl, HS⟩ := hrel
    obtain ⟨m, hm⟩ : ∃ m, sp.length = m := ⟨_, rfl⟩
    simp only [hm]
    by_cases hlt : i < n
    rotate_left
    · as_aux_lemma =>
      have hin : i = n := by omega
      subst hin
      have di : decide ((i : Int) < (i : Int)) = false := decide_eq_false (by omega)
      cases lg with
      | true =>
        go_wp2
        go_ret
        exact HS.out.bad (by omega) (fun h => by obtain ⟨c, h1, h2⟩ := HS.out.lgt rfl; have := h.2.2.2 c h1; omega) (by omega)
      | false =>
        obtain ⟨ds, hds, hsame, hcomps, z1, z2⟩ := HS.out.blk
        have hlen : ds.length = cs.length := hsame.1.symm
        have hm2 : 2 * m ≤ i + 1 := by rw [← hm]; exact HS.out.a1
        have HRw := hid (HR.out.upd HS.out.upd HAG.out)
        obtain ⟨i0, hi0, hz1⟩ : ∃ i0, Try.prog.info? 5 = some i0 ∧ i0.size = 1 := by
          have : (Try.prog.info? 5).map (·.size) = some 1 := by kernel_rfl
          cases hq : Try.prog.info? 5 with
          | none => rw [hq] at this; simp at this
          | some i => rw [hq] at this; exact ⟨i, rfl, by simpa using this⟩
        obtain ⟨ns, hns⟩ : ∃ ns, ns = l.map fun (x : Nat) => Value.int .u8 (x : Int) := ⟨_, rfl⟩
        have hnl : ns.length = i := by rw [hns, List.length_map, hl]
        obtain ⟨w6, hrun, hb6, hu6⟩ := run_copy_blk (P := Try.prog) wr 26 26 3 5 i0 1 Try.underlying26 hi0 hz1 (some ⟨g, o, none⟩) a 255 255 i c g o t ds ns hds
          (by rw [hnl, show Nat.min i 255 = i from Nat.min_eq_left (by omega), Nat.mul_one])
          (fun _ => ⟨rfl, by
            obtain ⟨x, hx, _, b, off, e, _, _⟩ := HRw.out.get (show 0 < i by omega)
            refine ⟨⟨b, off, none⟩, e, fun j v hv => ?_⟩
            rw [hns, List.getElem?_map] at hv
            obtain ⟨y, hy, rfl⟩ := Option.map_eq_some_iff.1 hv
            have hj : j < i := by have := (List.getElem?_eq_some_iff.1 hy).1; omega
            obtain ⟨y', hy', _, b', off', e', _, cy⟩ := HRw.out.get hj
            rw [e] at e'
            cases e'
            rw [hy] at hy'
            cases hy'
            rw [show (⟨b, off, none⟩ : Addr).add j = ⟨b, off + j, none⟩ by unfold Addr.add; split <;> simp_all]
            exact cy⟩)
          (by rw [hnl]; omega) (fun v hv => by rw [hns] at hv; obtain ⟨x, _, rfl⟩ := List.mem_map.1 hv; rfl)
        rw [show Nat.min i 255 = i from Nat.min_eq_left (by omega)] at hrun
        have hsl := fun w' => slice_all255 ⟨g, o, none⟩ w'
        have hsl6 : (splice ds o ns).length = ds.length := splice_len (by omega)
        obtain ⟨u1, c255⟩ : ∃ u1, w6.cell? ⟨g, o + 255, none⟩ = some u1 := ⟨_, by rw [hb6.cell]; exact List.getElem?_eq_getElem (by omega)⟩
        obtain ⟨u2, c256⟩ : ∃ u2, w6.cell? ⟨g, o + 256, none⟩ = some u2 := ⟨_, by rw [hb6.cell]; exact List.getElem?_eq_getElem (by omega)⟩
        have f255 : w6.frozen? ⟨g, o + 255, none⟩ = false := hb6.frozen _
        have f256 : w6.frozen? ⟨g, o + 256, none⟩ = false := hb6.frozen _
        have HP : Hid (SetP w g o t cs l (.returned (.int .u8 0)) ((w6.setCell ⟨g, o + 255, none⟩ (.int .i64 (i : Int))).setCell ⟨g, o + 256, none⟩ (.int .i64 (m : Int)))) := hid ⟨0, rfl, ((HS.out.upd.trans hu6).setCell rfl _).setCell rfl _, ⟨_, (hb6.set (o + 255) (.int .i64 (i : Int))).set (o + 256) (.int .i64 (m : Int)),
          ((hsame.splice (by omega) (by omega) (by omega) (fun v hv => by rw [hns] at hv; obtain ⟨x, _, rfl⟩ := List.mem_map.1 hv; rfl)).set (by omega) (by omega) (by rfl)).set (by omega) (by omega) (by rfl),
          fun _ => ⟨sp, ⟨by rw [List.getElem?_set_ne (by omega), List.getElem?_set_self (by omega), hl], by rw [List.getElem?_set_self (by simp; omega), hm], fun k x hk => by
            have hki : k < i := by have := (List.getElem?_eq_some_iff.1 hk).1; omega
            rw [List.getElem?_set_ne (by omega), List.getElem?_set_ne (by omega)]
            exact splice_get (by rw [hns, List.getElem?_map, hk]; rfl) (by omega),
            ((hcomps.splice (by omega) (by omega)).set (by omega)).set (by omega), by omega, by omega, HR.out.2, HS.out.sl1, by have := HS.out.vw rfl; rw [List.drop_of_length_le (by omega), splitV_nil, List.append_nil] at this; exact this⟩⟩, fun h => absurd rfl h⟩, fun _ => rfl, by omega⟩
        clear hb6 hu6 hds hsame hcomps z1 z2 hi0 hz1 hns hnl hsl6
        go_wp2
        go_ret
        exact HP.out
    obtain ⟨x, hx, hx256, b, off, rfl, hbk, cx⟩ := (HR.out.upd HS.out.upd HAG.out).get hlt
    have i1 : (i : Int) < (n : Int) := by omega
    by_cases e47 : x = 47
    · as_aux_lemma =>
      subst e47
      have HS2 : Hid (SetS w g o t cs l (i + 1) lg sp wr) := hid ⟨HS.out.upd, HS.out.blk, by have := HS.out.a1; omega, fun _ _ _ => by have := HS.out.a1; omega, fun s hs => by
        rcases HS.out.sl s hs with h | h
        · exact .inl h
        · omega, HS.out.lgt, fun h => by rw [← split_slash hx]; exact HS.out.vw h, HS.out.sl1⟩
      clear hx
      go_wp2
      exact ⟨⟨i + 1, lg, sp, by omega, by rw [hm], rfl, by go_num, HS2⟩, by simp [intOf]; omega⟩
    have q47 : ((x : Int) == 47) = false := by simp; omega
    go_wp2_with fail
    go_loopw [7, 9] (fun v7 v9 wq => wq = wr ∧ ∃ j : Nat, i ≤ j ∧ j ≤ n ∧ v7 = .int .i64 (j : Int) ∧ v9 = .int .u32 (hashL 2166136261 (sub l i j)) ∧ Hid (cleanB (sub l i j))) (fun v7 _ _ => n - (intOf v7).toNat)
    case atStart => exact ⟨rfl, i, by omega, by omega, rfl, by rw [sub_nil]; rfl, hid (by rw [sub_nil]; intro x hx; cases hx)⟩
    case round =>
      obtain ⟨rfl, j, hj, hjn, rfl, rfl, HCl⟩ := hrel
      obtain ⟨H, hH⟩ : ∃ H, hashL 2166136261 (sub l i j) = H := ⟨_, rfl⟩
      rw [hH]
      have HH := hid hH
      have Hx := hid hx
      clear cx hx hH
      obtain ⟨go, hgo⟩ : ∃ go : Bool, go = decide (j < n ∧ l[j]? ≠ some 47) := ⟨_, rfl⟩
      go_upto_region 12 with fail
      go_cut [44] from 34 to 57 (fun v wc => v = .bool go ∧ wc = wr)
      case first =>
        as_aux_lemma =>
        by_cases hjl : j < n
        · obtain ⟨y, hy, hy256, b', off', e', hbk', cy⟩ := (HR.out.upd HS.out.upd HAG.out).get hjl
          cases e'
          have i2 : (j : Int) < (n : Int) := by omega
          have dj : decide ((j : Int) < (n : Int)) = true := decide_eq_true i2
          by_cases e1 : y = 47
          · have hgo' : go = false := by rw [hgo]; exact decide_eq_false (fun h => h.2 (by rw [hy, e1]))
            subst e1 hgo'
            clear hy hgo
            go_wp2_with fail
            go_meet
            case rel => exact ⟨rfl, rfl⟩
          · have hgo' : go = true := by rw [hgo]; exact decide_eq_true ⟨hjl, by rw [hy]; intro e; cases e; exact e1 rfl⟩
            have q1 : ((y : Int) != 47) = true := by simp; omega
            have q2 : ((y : Int) == 47) = false := by simp; omega
            subst hgo'
            clear hy hgo
            go_wp2_with fail
            go_meet
            case rel => exact ⟨rfl, rfl⟩
        · have hgo' : go = false := by rw [hgo]; exact decide_eq_false (fun h => hjl h.1)
          have dj : decide ((j : Int) < (n : Int)) = false := decide_eq_false (by omega)
          subst hgo'
          clear hgo
          go_wp2_with fail
          go_meet
          case rel => exact ⟨rfl, rfl⟩
      case rest =>
      obtain ⟨rfl, rfl⟩ := hcut
      cases go with
      | true =>
        as_aux_lemma =>
        obtain ⟨hjl, hj47⟩ := of_decide_eq_true hgo.symm
        obtain ⟨y, hy, hy256, b', off', e', hbk', cy⟩ := (HR.out.upd HS.out.upd HAG.out).get hjl
        cases e'
        have i2 : (j : Int) < (n : Int) := by omega
        by_cases y0 : y = 0
        · have hbad : ¬ GoodP l := fun h => h.2.2.1 y (List.mem_of_getElem? hy) y0
          subst y0
          clear hgo hj47 hy
          go_wp2
          go_ret
          exact HS.out.bad (by omega) hbad (by omega)
        · have q0 : ((y : Int) == 0) = false := by simp; omega
          have hnx := sub_next hj hy
          have hy47 : y ≠ 47 := fun e => hj47 (by rw [hy, e])
          have HCn : Hid (cleanB (sub l i (j + 1))) := hid (by
            rw [hnx]
            intro z hz
            rcases List.mem_append.1 hz with h | h
            · exact HCl.out z h
            · simp at h; subst h; exact ⟨y0, hy47⟩)
          have HHn : Hid (hashL 2166136261 (sub l i (j + 1)) = hB H y) := hid (by rw [hnx, hash_next, HH.out])
          clear hnx hgo hj47 hy
          go_wp2_with (go_at_call 46; refine (hashByte_walk H y hy256 _).mono ?_; rintro e w9 ⟨rfl, rfl⟩)
          exact ⟨⟨by first | rfl | trivial, j + 1, by omega, by omega, by go_num, by rw [HHn.out], HCn⟩, by simp [intOf]; omega⟩
      | false =>
        as_aux_lemma =>
        have hend : j = n ∨ l[j]? = some 47 := by
          have h := of_decide_eq_false hgo.symm
          rcases Nat.lt_or_ge j n with h1 | h1
          · right
            apply Classical.byContradiction
            intro h2
            exact h ⟨h1, h2⟩
          · left; omega
        have hij : i < j := by
          rcases Nat.lt_or_ge i j with h | h
          · exact h
          · have : i = j := by omega
            subst this
            rcases hend with h2 | h2
            · omega
            · rw [Hx.out] at h2
              simp at h2
              exact absurd h2 e47
        have Hend := hid hend
        have HSpl := hid (split_word (l := l) hij (by omega) HCl.out (by rw [hl]; exact hend))
        clear hgo hend
        by_cases h32 : 32 < j - i
        · have dd : decide (32 < (j : Int) - (i : Int)) = true := decide_eq_true (by omega)
          have HS2 : Hid (SetS w g o t cs l j true sp _) := hid ⟨HS.out.upd, HS.out.blk, by have := HS.out.a1; omega, fun z hz hz47 => by
            rcases Hend.out with h | h
            · rw [List.getElem?_eq_none (by omega)] at hz; cases hz
            · rw [h] at hz; cases hz; exact absurd rfl hz47, fun s hs => by
            rcases HS.out.sl s hs with h | h
            · exact .inl h
            · omega, fun _ => (by
            cases hlg : lg with
            | true => exact HS.out.lgt hlg
            | false =>
              refine ⟨(sub l i j, decide (j < l.length)), ?_, by show 32 < (sub l i j).length; rw [sub_len (by omega)]; omega⟩
              rw [← HS.out.vw hlg, HSpl.out]
              simp), fun h => (by cases h), HS.out.sl1⟩
          go_wp2
          exact ⟨⟨j, true, sp, by omega, by rw [hm], rfl, rfl, HS2⟩, by simp [intOf]; omega⟩
        · have dd : decide (32 < (j : Int) - (i : Int)) = false := decide_eq_false (by omega)
          go_upto_region 19 with fail
          obtain ⟨ds, hds, hsame, hcomps, z1, z2⟩ := HS.out.blk
          have hlen : ds.length = cs.length := hsame.1.symm
          have hm2 : 2 * m ≤ i := by rw [← hm]; exact HS.out.b1 x Hx.out e47
          have hnc : n ≤ c := HR.out.1.2.1
          have hcm : c ≤ 9223372036854775807 := by have := HR.out.1.2.2.1.2.1; unfold maxLen at this; omega
          have HRs := hid ((HR.out.upd HS.out.upd HAG.out).sub hij hjn)
          obtain ⟨X, W, hT, hI⟩ := class_mk (fun w' => Drew wc w')
          have H0 : Hid (∃ q, wc.drew = W q) := hid (hI _ ⟨1, rfl⟩)
          have hne : Nonempty X := ⟨H0.out.choose⟩
          have HCl2 : Hid (∀ x, Calls Try.prog 49 #[.slice (some ⟨b, off + i, none⟩) (j - i) (c - i)] (W x) fun e w'' => e = .returned (.int .u8 (clsL (sub l i j))) ∧ w'' = W x) := hid (fun x => classOf_walk _ _ _ _ _ (HRs.out.below ((hT x).below _)))
          obtain ⟨cl, hcl⟩ : ∃ cl, clsL (sub l i j) = cl := ⟨_, rfl⟩
          rw [hcl] at HCl2
          have Hcl := hid hcl
          clear hcl
          have HTT := hid hT
          have HDS := hid hds
          have HSm := hid hsame
          have HCo := hid hcomps
          have Hz := hid (And.intro z1 z2)
          have j8 : (j : Int) < 256 := by omega
          have i8 : (i : Int) < 256 := by omega
          have ij : (i : Int) ≤ (j : Int) := by omega
          have jc : (j : Int) ≤ (c : Int) := by omega
          have ci : (c = i) = False := by simp; omega
          have m128 : (m : Int) < 128 := by omega
          clear hT hI hds hsame hcomps z1 z2 HRs
          refine wp_region_class_lastT W rfl (by kernel_rfl) (by kernel_rfl) (by kernel_rfl) H0.out ?_
          dsimp only [List.dropLast, List.getLast]
          repeat (go_big_quiet_step ((go_at_call 49; exact Calls.class_same (HCl2.out _))))
          refine wpQuiet_nil ?_
          intro z
          have HZ := hid (HTT.out z)
          generalize W z = wz at HZ ⊢
          obtain ⟨sn, hsn⟩ : ∃ sn : Sp, sn = ⟨i, j, cl, decide (j < n)⟩ := ⟨_, rfl⟩
          have hsp : SpOk l sn := by rw [hsn]; exact ⟨hij, by show j ≤ l.length; omega, by show j - i ≤ 32; omega, HCl.out, Hcl.out.symm⟩
          have hC : spC l sn = [.int .u8 (i : Int), .int .u8 (j : Int), .int .u8 cl, .bool (decide (j < n)), .int .u32 H] := by rw [hsn]; unfold spC; rw [HH.out]
          have hDz := HDS.out.drew HZ.out
          have hfit : o + 257 + m * 5 + (spC l sn).length ≤ ds.length := by rw [hC]; simp; omega
          have hbz := Blk.setCells (spC l sn) (o + 257 + m * 5) hDz hfit
          have HS2 : Hid (SetS w g o t cs l j lg (sp ++ [sn]) (wz.setCells g (o + 257 + m * 5) (spC l sn))) := hid ⟨Upd.setCells g _ _ (HS.out.upd.drew HZ.out), ⟨_, hbz, HSm.out.splice (by omega) (by rw [hC]; simp; omega) (by omega) (by rw [hC]; intro v hv; simp at hv; rcases hv with rfl | rfl | rfl | rfl | rfl <;> rfl), by have := HCo.out.add hsp (by rw [hm]; omega); rw [hm] at this; exact this, by rw [splice_out (.inl (by omega)) hfit]; exact Hz.out.1, by rw [splice_out (.inl (by omega)) hfit]; exact Hz.out.2⟩, by simp; omega, fun z hz hz47 => (by
            rcases Hend.out with h | h
            · rw [List.getElem?_eq_none (by omega)] at hz; cases hz
            · rw [h] at hz; cases hz; exact absurd rfl hz47), fun s hs => (by
            rcases List.mem_append.1 hs with h | h
            · rcases HS.out.sl s h with h2 | h2
              · exact .inl h2
              · omega
            · simp at h
              subst h
              rw [hsn]
              by_cases hjn2 : j < n
              · exact .inl (decide_eq_true hjn2)
              · right; omega), HS.out.lgt, fun h => (by
            have h1 := HS.out.vw h
            rw [HSpl.out] at h1
            rw [List.map_append, hsn, ← h1, hl]
            simp [vwS]), fun k s hk hk1 => (by
            simp at hk1
            rw [List.getElem?_append_left (by omega)] at hk
            rcases HS.out.sl s (List.mem_of_getElem? hk) with h2 | h2
            · exact h2
            · omega)⟩
          have HTh := hid (hDz.thereAt (o := o + 257 + m * 5) (n := 5) (by omega))
          clear hbz hDz hfit hsp HDS HSm HCo Hz
          refine wpList_store_mid rfl 60 _ _ rfl g (o + 257 + m * 5) (spC l sn).toArray rfl (by rw [hC]; rfl) (by rw [hC]; exact HTh.out) (by rw [hC]; kernel_rfl) (all_oneCell_toArray (by rw [hC]; intro v hv; simp at hv; rcases hv with rfl | rfl | rfl | rfl | rfl <;> rfl)) ?_
          obtain ⟨w7, hw7⟩ : ∃ w7, wz.setCells g (o + 257 + m * 5) (spC l sn) = w7 := ⟨_, rfl⟩
          rw [hw7] at HS2
          rw [hw7]
          clear hw7 hC hsn
          go_wp2
          exact ⟨⟨j, lg, sp ++ [sn], by omega, by simp [hm], rfl, rfl, HS2⟩, by simp [intOf]; omega⟩
end Go.Proofs.Qxb6500891a
