/- Build. -/
import Derived.Test.Qxb6500891aPtSpl
namespace Go.Proofs.Qxb6500891a
open Go.RowKit
set_option linter.unusedSimpArgs false
set_option linter.unusedVariables false

theorem nw_range {w : World} {a : Option Addr} {n c : Nat} {ns : List (List Nat)} (h : RowOf w 33 nameT a n c ns) (hok : ∀ x ∈ ns, GoodN x) {k : Nat} (hk : k < n) : ∃ x, x ∈ ns ∧ GoodN x ∧ ∃ b off, a = some ⟨b, off, none⟩ ∧ b < w.heap.size ∧ w.rangeAt b (off + k * 33) (nameC x) := by
  obtain ⟨x, hx, b, off, ha, hb, hc⟩ := h.cell hk
  have hg := hok x (List.mem_of_getElem? hx)
  refine ⟨x, List.mem_of_getElem? hx, hg, b, off, ha, hb, fun j v hv => ?_⟩
  have hj := (List.getElem?_eq_some_iff.1 hv).1
  rw [nameC_len hg.nm.le] at hj
  rw [hc j hj, nameT_eq hg.nm.le]
  exact hv
theorem Nr.row {w0 w : World} {v : Value} {ns : List (List Nat)} (h : Nr w0 v ns w) (hb : ns.length ≤ 140737488351232) : ∃ a n c, v = .slice a n c ∧ n = ns.length ∧ RowOf w 33 nameT a n c ns := by
  have ho := h.own
  rw [flat_T ns (fun x hx => (h.ok x hx).nm.le)] at ho
  obtain ⟨a, n, c, hv, hr⟩ := ownsRow_row (by omega) nameT_len hb ho
  exact ⟨a, n, c, hv, hr.1.symm, hr⟩
theorem make_u8 (n : Nat) (hn : n ≤ 100000000000) (w : World) : (Instr.makeSlice 26 (.int .i64 0) (.int .i64 (n : Int))).run Try.prog w = .ok (.slice (some ⟨w.heap.size, 0, none⟩) 0 n) (w.alloc (.cells (madeCells #[.int .u8 0] n) 5)) := by
  obtain ⟨i0, hi, hz0, hz1, hz2⟩ := info_u8
  have := run_make (P := Try.prog) w 26 5 i0 _ Try.underlying26 hi hz0 .i64 .i64 0 (n : Int) (by omega) (by omega) (by rw [hz2]; omega) (by omega)
  rw [hz1, show (Value.int .u8 0).cells = #[.int .u8 0] from rfl] at this
  simpa using this
theorem Ab.made {w0 w : World} (hb : Below w0.heap.size w0 w) (n : Nat) (hn : n ≤ 100000000000) : Ab w0 (.slice (some ⟨w.heap.size, 0, none⟩) 0 n) 0 (w.alloc (.cells (madeCells #[.int .u8 0] n) 5)) :=
  ⟨[], by simp, fun x hx => (by cases hx), ⟨hb.alloc hb.size _, World.ownsRow_made w _ n hb.size (by unfold maxLen; omega) (by rw [size_madeCells]; omega)⟩⟩
theorem appendTo_ab (l : List Nat) (h : NmOk l) (w0 w : World) (v : Value) (n : Nat) (hA : Ab w0 v n w) (hbl : n ≤ 1000000) :
    Calls Try.prog 60 #[.agg (nameC l).toArray, v] w fun e w' => ∃ v', e = .returned v' ∧ Ab w0 v' (n + 32) w' := by
  obtain ⟨bs, h1, h2, h3⟩ := hA.ex
  refine (appendTo_walk l h w0 w v bs h3 (by omega)).mono ?_
  rintro e w' ⟨v', rfl, h4⟩
  refine ⟨v', rfl, bs ++ l, by rw [List.length_append]; have := h.le; omega, fun x hx => ?_, h4⟩
  rcases List.mem_append.1 hx with h' | h'
  · exact h2 x h'
  · exact h.b x h'
/-- Bytes appended, and a name in block p. -/
structure Abn (w0 : World) (v : Value) (n : Nat) (p : Nat) (C : List Value) (w : World) : Prop where
  ab : Ab w0 v n w
  bp : Blk w p 36 C
theorem Abn.below {w0 w w' : World} {v : Value} {n p : Nat} {C : List Value} (h : Abn w0 v n p C w) (hb : Below w.heap.size w w') : Abn w0 v n p C w' := ⟨h.ab.below hb, h.bp.below hb⟩

set_option maxRecDepth 1000000 in
set_option maxHeartbeats 4000000 in
theorem build_walk (ab nd : Bool) (a : Option Addr) (n c : Nat) (ns : List (List Nat)) (w : World) (hr : RowOf w 33 nameT a n c ns) (hok : ∀ x ∈ ns, GoodN x) (hn : n ≤ 256) :
    Calls Try.prog 55 #[.bool ab, .slice a n c, .bool nd] w fun e w' => ∃ v code, e = .returned (.tuple #[v, .int .u8 code]) ∧ Ab w v 20000 w' := by
  have HR := hid hr
  have HO := hid hok
  clear hr hok


  go_enter Try.func55, Try.ntmps55
  go_upto_region 1 with fail
  go_cut [20] from 14 to 20 (fun v wc => v = .bool (!ab && decide (n = 0)) ∧ wc = w)
  case first =>
    as_aux_lemma =>
    cases ab with
    | true =>
      go_wp2_with fail
      go_meet
      case rel => exact ⟨rfl, rfl⟩
    | false =>
      by_cases hz : n = 0
      · subst hz
        go_wp2_with fail
        go_meet
        case rel => exact ⟨rfl, rfl⟩
      · have dz : ((n : Int) == 0) = false := by simp; omega
        go_wp2_with fail
        go_meet
        case rel => exact ⟨by rw [decide_eq_false hz]; rfl, rfl⟩
  case rest =>
  obtain ⟨rfl, rfl⟩ := hcut
  obtain ⟨zz, hzz⟩ : ∃ zz, (!ab && decide (n = 0)) = zz := ⟨_, rfl⟩
  rw [hzz]
  have Hzz := hid hzz
  clear hzz
  cases zz with
  | true =>
    as_aux_lemma =>
    go_wp2
    exact bodyPost_ret (v := .tuple #[.slice none 0 0, .int .u8 1]) (by simp [results, Try.results55, go_sem]) rfl ⟨_, _, rfl, (Ab.nil wc).mono (by omega)⟩
  | false =>
  rename World => w
  go_upto_if 24 with fail
  go_cut [8] from 24 to 26 (fun v wc => ∃ z : Int, v = .int .i64 z ∧ (n : Int) - 1 ≤ z ∧ z ≤ (n : Int) ∧ (n = 0 → z = 0) ∧ wc = w)
  case first =>
    as_aux_lemma =>
    cases ab with
    | true =>
      go_wp2_with fail
      go_meet
      case rel => exact ⟨(n : Int) - 1 + 1, by go_num, by omega, by omega, fun h => by omega, rfl⟩
    | false =>
      have hn0 : n ≠ 0 := fun h => by have := Hzz.out; rw [h] at this; simp at this
      go_wp2_with fail
      go_meet
      case rel => exact ⟨(n : Int) - 1, by go_num, by omega, by omega, fun h => absurd h hn0, rfl⟩
  case rest =>
  obtain ⟨z, rfl, z1, z2, z3, rfl⟩ := hcut
  rename World => w
  go_upto_region 6 with fail
  go_cut [32] from 27 to 32 (fun v wc => v = .bool (nd && decide (0 < n)) ∧ wc = w)
  case first =>
    as_aux_lemma =>
    cases nd with
    | false =>
      go_wp2_with fail
      go_meet
      case rel => exact ⟨rfl, rfl⟩
    | true =>
      by_cases hz : n = 0
      · have dz : decide ((0 : Int) < (n : Int)) = false := decide_eq_false (by omega)
        go_wp2_with fail
        go_meet
        case rel => exact ⟨by rw [decide_eq_false (show ¬ 0 < n by omega)]; rfl, rfl⟩
      · have dz : decide ((0 : Int) < (n : Int)) = true := decide_eq_true (by omega)
        go_wp2_with fail
        go_meet
        case rel => exact ⟨by rw [decide_eq_true (show 0 < n by omega)]; rfl, rfl⟩
  case rest =>
  obtain ⟨rfl, rfl⟩ := hcut
  rename World => w
  obtain ⟨nb, hnb⟩ : ∃ nb, (nd && decide (0 < n)) = nb := ⟨_, rfl⟩
  rw [hnb]
  clear hnb
  go_upto_if 32 with fail
  go_cut [8] from 33 to 34 (fun v wc => ∃ z : Int, v = .int .i64 z ∧ (n : Int) - 1 ≤ z ∧ 0 ≤ z ∧ z ≤ (n : Int) + 1 ∧ wc = w)
  case first =>
    as_aux_lemma =>
    cases nb with
    | false =>
      go_wp2_with fail
      go_meet
      case rel => exact ⟨z, rfl, by omega, (by by_cases h : n = 0; (have := z3 h; omega); omega), by omega, rfl⟩
    | true =>
      go_wp2_with fail
      go_meet
      case rel => exact ⟨z + 1, by go_num, by omega, (by by_cases h : n = 0; (have := z3 h; omega); omega), by omega, rfl⟩
  case rest =>
  clear z1 z2 z3
  obtain ⟨y, rfl, y1, y0, y2, rfl⟩ := hcut
  rename World => w
  have I0 : Hid ((Try.prog.info? 36).map (·.size) = some 33) := hid info_name
  go_wp2_with fail
  go_loopw [8, 37] (fun v i wr => ∃ (k : Nat) (q : Int), k ≤ n ∧ i = .int .i64 k ∧ v = .int .i64 q ∧ 0 ≤ q ∧ q ≤ (n : Int) + 1 + 32 * k ∧ Hid (Below w.heap.size w wr)) (fun _ i _ => n - (intOf i).toNat)
  case atStart => exact ⟨0, y, by omega, rfl, rfl, y0, by omega, hid (Below.refl _ _)⟩
  case round =>
    obtain ⟨k, q, hk, rfl, rfl, q0, q1, HB⟩ := hrel
    by_cases hlt : k < n
    · as_aux_lemma =>
      obtain ⟨x, hxm, hgx, b3, off3, rfl, hb3, hrg⟩ := nw_range (HR.out.below HB.out) HO.out hlt
      obtain ⟨CA, hCA⟩ : ∃ CA, nameC x = CA := ⟨_, rfl⟩
      have hC33 : CA.length = 33 := by rw [← hCA]; exact nameC_len hgx.nm.le
      have HOn : Hid (∀ v ∈ CA, v.oneCell' = true) := hid (by rw [← hCA]; exact one_name x)
      have I1 : Hid ((Try.prog.info? 36).map (·.size) = some CA.length) := hid (by rw [hC33]; exact info_name)
      have L1 : Hid ((nameC []).length = CA.length) := hid (by rw [hC33]; rfl)
      have HEm := hid (fun w => nmEmpty_walk x hgx.nm hgx.ne w)
      have HLn := hid (fun w => nmLen_walk x hgx.nm w)
      have hx32 := hgx.nm.le
      unfold nameV at HEm HLn
      rw [hCA] at hrg HEm HLn
      have HRg := hid hrg
      obtain ⟨xl, hxl⟩ : ∃ xl, x.length = xl := ⟨_, rfl⟩
      rw [hxl] at HLn hx32
      clear hrg hgx hCA hxm hxl
      have dk : decide ((k : Int) < (n : Int)) = true := decide_eq_true (by omega)
      have i3 : (k : Int) < (n : Int) := by omega
      obtain ⟨p, hp⟩ : ∃ p, wr.heap.size = p := ⟨_, rfl⟩
      have hbn := Blk.new wr (nameC []) 36
      rw [hp] at hbn
      have HBn := hid hbn
      clear hbn
      go_upto_region 11 with (first
        | (refine wpList_load_mid rfl 36 _ rfl b3 (off3 + k * 33) rfl CA _ HRg.out Try.underlying36 rfl I1.out ?_)
        | (refine wpList_store_blk rfl 36 _ _ rfl p rfl CA rfl HBn.out L1.out I1.out HOn.out ?_; intro w3 HB3 HU3))
      have HBe3 : Hid (Below w.heap.size w w3) := hid ((HB.out.alloc HB.out.size _).trans (HU3.out.below (by have := HB.out.size; omega) (by have := HB.out.size; simp; omega)))
      clear HBn HRg HU3 HB
      go_wp2_with (refine wpList_load_blk rfl 36 _ rfl p rfl CA HB3.out _ Try.underlying36 rfl I1.out ?_)
      refine (HEm.out _).mono ?_
      rintro e w4 ⟨rfl, hb4⟩
      have HB4 := hid (HB3.out.below hb4)
      have HBe4 := hid (HBe3.out.trans (hb4.mono HBe3.out.size))
      clear hb4 HEm HB3 HBe3
      go_wp2_with (refine wpList_load_blk rfl 36 _ rfl p rfl CA HB4.out _ Try.underlying36 rfl I1.out ?_)
      refine (HLn.out _).mono ?_
      rintro e w5 ⟨rfl, hb5⟩
      have HBe5 := hid (HBe4.out.trans (hb5.mono HBe4.out.size))
      clear hb5 HLn HBe4
      go_wp2
      exact ⟨⟨k + 1, q + (xl : Int), by omega, by go_num, by go_num, by omega, by omega, HBe5⟩, by simp [intOf]; omega⟩
    have dk : decide ((k : Int) < (n : Int)) = false := decide_eq_false (by omega)
    go_upto_if 50 with fail
    go_cut [8] from 48 to 50 (fun v wc => ∃ z : Nat, v = .int .i64 (z : Int) ∧ z ≤ 20000 ∧ wc = wr)
    case first =>
      as_aux_lemma =>
      by_cases hz : n = 0
      · subst hz
        go_wp2_with fail
        go_meet
        case rel => exact ⟨1, rfl, by omega, rfl⟩
      · have dz : ((n : Int) == 0) = false := by simp; omega
        go_wp2_with fail
        go_meet
        case rel => exact ⟨q.toNat, by rw [Int.toNat_of_nonneg q0], by omega, rfl⟩
    case rest =>
    clear q0 q1
    obtain ⟨sz, rfl, hsz, rfl⟩ := hcut
    rename World => wr
    by_cases hbig : 255 < sz
    · as_aux_lemma =>
      have d1 : decide (255 < (sz : Int)) = true := decide_eq_true (by omega)
      go_wp2
      exact bodyPost_ret (v := .tuple #[.slice none 0 0, .int .u8 10]) (by simp [results, Try.results55, go_sem]) rfl ⟨_, _, rfl, ⟨[], by simp, fun x hx => (by cases hx), ⟨HB.out, World.ownsRow_nil _ _ _ _⟩⟩⟩
    have d1 : decide (255 < (sz : Int)) = false := decide_eq_false (by omega)
    have hmk := fun w => make_u8 sz (by omega) w
    have HA0 := hid (Ab.made HB.out sz (by omega))
    go_upto_region 20 with fail
    generalize wr.alloc (.cells (madeCells #[.int .u8 0] sz) 5) = w1 at HA0 ⊢
    clear hmk HB
    go_upto_if 55 with fail
    go_cut [11] from 55 to 58 (fun v wc => Hid (Ab w v 1 wc))
    case first =>
      as_aux_lemma =>
      cases ab with
      | true =>
        have HA1 := hid (HA0.out.below (nbel w1 (.cells #[.int .u8 47] 5)))
        go_wp2_with (at_builtin; refine wpList_app_ab rfl (.tmp 56) (.tmp 57) rfl w _ _ 0 [47] rfl HA1.out (some ⟨w1.heap.size, 0, none⟩) 1 1 rfl rfl (fun h => by cases h) (by simp) (new47 w1 47 _ rfl) (by decide) ?_; intro v8 w8 HA8 HK8)
        go_meet
        case rel => exact HA8
      | false =>
        go_wp2_with fail
        go_meet
        case rel => exact hid (HA0.out.mono (by omega))
    case rest =>
    have HA := hcut
    clear hcut HA0
    rename World => w2
    go_wp2_with fail
    go_loopw [11, 61] (fun v i wr => ∃ (k : Nat), k ≤ n ∧ i = .int .i64 k ∧ Hid (Ab w v (1 + 40 * k) wr)) (fun _ i _ => n - (intOf i).toNat)
    case atStart => exact ⟨0, by omega, rfl, HA⟩
    case round =>
      clear HA
      obtain ⟨k, hk, rfl, HA⟩ := hrel
      by_cases hlt : k < n
      rotate_left
      · as_aux_lemma =>
        have dk : decide ((k : Int) < (n : Int)) = false := decide_eq_false (by omega)
        go_upto_region 29 with fail
        go_cut [80] from 75 to 80 (fun v wc => (∃ b, v = .bool b) ∧ wc = wr)
        case first =>
          as_aux_lemma =>
          cases nd with
          | false =>
            go_wp2_with fail
            go_meet
            case rel => exact ⟨⟨_, rfl⟩, rfl⟩
          | true =>
            by_cases hz : n = 0
            · subst hz
              go_wp2_with fail
              go_meet
              case rel => exact ⟨⟨_, rfl⟩, rfl⟩
            · have dz : decide ((0 : Int) < (n : Int)) = true := decide_eq_true (by omega)
              go_wp2_with fail
              go_meet
              case rel => exact ⟨⟨_, rfl⟩, rfl⟩
        case rest =>
        obtain ⟨⟨b, rfl⟩, rfl⟩ := hcut
        rename World => wr
        cases b with
        | false =>
          go_wp2
          exact bodyPost_ret (by simp [results, Try.results55, go_sem]) rfl ⟨_, 0, rfl, HA.out.mono (by omega)⟩
        | true =>
          have HA4 := hid (HA.out.below (nbel wr (.cells #[.int .u8 47] 5)))
          have hbb : (1 + 40 * k) + 1 ≤ 140737488355328 := by omega
          go_wp2_with (at_builtin; refine wpList_app_ab rfl (.tmp 81) (.tmp 82) rfl w _ _ (1 + 40 * k) [47] rfl HA4.out (some ⟨wr.heap.size, 0, none⟩) 1 1 rfl rfl (fun h => by cases h) (by simp) (new47 wr 47 _ rfl) hbb ?_; intro v8 w8 HA8 HK8)
          exact bodyPost_ret (v := .tuple #[v8, .int .u8 0]) (by simp [results, Try.results55, go_sem]) rfl ⟨_, 0, rfl, HA8.out.mono (by omega)⟩
      as_aux_lemma =>
      obtain ⟨x, hxm, hgx, b3, off3, rfl, hb3, hrg⟩ := nw_range (HR.out.below HA.out.bel) HO.out hlt
      have HAp : Hid (∀ w' v N, Ab w v N w' → N ≤ 1000000 → Calls Try.prog 60 #[.agg (nameC x).toArray, v] w' fun e w'' => ∃ v', e = .returned v' ∧ Ab w v' (N + 32) w'') := hid (fun w' v N h hN => appendTo_ab x hgx.nm w w' v N h hN)
      obtain ⟨CA, hCA⟩ : ∃ CA, nameC x = CA := ⟨_, rfl⟩
      have hC33 : CA.length = 33 := by rw [← hCA]; exact nameC_len hgx.nm.le
      have HOn : Hid (∀ v ∈ CA, v.oneCell' = true) := hid (by rw [← hCA]; exact one_name x)
      have I1 : Hid ((Try.prog.info? 36).map (·.size) = some CA.length) := hid (by rw [hC33]; exact info_name)
      have L1 : Hid ((nameC []).length = CA.length) := hid (by rw [hC33]; rfl)
      rw [hCA] at hrg HAp
      have HRg := hid hrg
      clear hrg hgx hCA hxm
      have dk : decide ((k : Int) < (n : Int)) = true := decide_eq_true (by omega)
      have i3 : (k : Int) < (n : Int) := by omega
      obtain ⟨p, hp⟩ : ∃ p, wr.heap.size = p := ⟨_, rfl⟩
      have hbn := Blk.new wr (nameC []) 36
      rw [hp] at hbn
      have HBn := hid hbn
      clear hbn
      go_upto_region 25 with (first
        | (refine wpList_load_mid rfl 36 _ rfl b3 (off3 + k * 33) rfl CA _ HRg.out Try.underlying36 rfl I1.out ?_)
        | (refine wpList_store_blk rfl 36 _ _ rfl p rfl CA rfl HBn.out L1.out I1.out HOn.out ?_; intro w3 HB3 HU3))
      have HS1 : Hid (Abn w _ (1 + 40 * k) p CA w3) := hid ⟨HA.out.below ((nbel wr _).trans (HU3.out.below (by omega) (by simp))), HB3.out⟩
      clear HBn HRg HU3 HB3 HA
      go_upto_if 67 with fail
      go_cut [11] from 66 to 70 (fun v wc => Hid (Abn w v (1 + 40 * k + 1) p CA wc))
      case first =>
        as_aux_lemma =>
        by_cases hk0 : k = 0
        · subst hk0
          go_wp2_with fail
          go_meet
          case rel => exact hid ⟨HS1.out.ab.mono (by omega), HS1.out.bp⟩
        · have d0 : decide ((0 : Int) < (k : Int)) = true := decide_eq_true (by omega)
          have HS2 := hid (HS1.out.below (nbel w3 (.cells #[.int .u8 47] 5)))
          have hbb : (1 + 40 * k) + 1 ≤ 140737488355328 := by omega
          have Hne := hid (HS2.out.ab.ne HS2.out.bp (by decide))
          go_wp2_with (at_builtin; refine wpList_app_ab rfl (.tmp 68) (.tmp 69) rfl w _ _ (1 + 40 * k) [47] rfl HS2.out.ab (some ⟨w3.heap.size, 0, none⟩) 1 1 rfl rfl (fun h => by cases h) (by simp) (new47 w3 47 _ rfl) hbb ?_; intro v8 w8 HA8 HK8)
          go_meet
          case rel => exact hid ⟨HA8.out, HK8.out.blk HS2.out.bp Hne.out⟩
      case rest =>
      have HS3 := hcut
      clear hcut HS1
      go_wp2_with (refine wpList_load_blk rfl 36 _ rfl p rfl CA HS3.out.bp _ Try.underlying36 rfl I1.out ?_)
      refine (HAp.out _ _ _ HS3.out.ab (by omega)).mono ?_
      rintro e w5 ⟨v5, rfl, ha5⟩
      have HA5 := hid ha5
      clear ha5 HS3
      go_wp2
      exact ⟨⟨k + 1, by omega, by go_num, hid (HA5.out.mono (by omega))⟩, by simp [intOf]; omega⟩
end Go.Proofs.Qxb6500891a
