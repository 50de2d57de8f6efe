/- Walk: Absolute, Start, Expand. -/
import Derived.Test.Qxb6500891aPtWkP
namespace Go.Proofs.Qxb6500891a
open Go.RowKit
set_option linter.unusedSimpArgs false
set_option linter.unusedVariables false

set_option maxRecDepth 1000000 in
set_option maxHeartbeats 2000000 in
theorem abs_walk (g o : Nat) (t : TypeId) (cs : List Value) (l : List Nat) (sp : List Sp) (w : World) (hb : Blk w g t cs) (hp : PathOk cs o l sp) :
    Calls Try.prog 13 #[.pointer (some ⟨g, o, none⟩)] w fun e w' => (∃ b, e = .returned (.bool b) ∧ (l.head? == some 47) = b) ∧ w' = w := by
  have c1 : w.cell? ⟨g, o + 255, none⟩ = some (.int .i64 (l.length : Int)) := by rw [hb.cell]; exact hp.sz
  have hn := hp.n255
  cases l with
  | nil =>
    clear hb hp
    go_enter Try.func13, Try.ntmps13
    go_wp2
    go_ret
    exact ⟨⟨false, rfl, rfl⟩, rfl⟩
  | cons x r =>
    have c2 : w.cell? ⟨g, o, none⟩ = some (.int .u8 (x : Int)) := by rw [hb.cell]; exact hp.raw 0 x rfl
    have dz : decide (0 < ((r.length + 1 : Nat) : Int)) = true := decide_eq_true (by omega)
    obtain ⟨m, hm⟩ : ∃ m, r.length + 1 = m := ⟨_, rfl⟩
    rw [List.length_cons, hm] at c1
    rw [hm] at dz
    obtain ⟨bb, hbb⟩ : ∃ bb, ((x : Int) == 47) = bb := ⟨_, rfl⟩
    have Hbb : Hid (((x :: r).head? == some 47) = bb) := hid (by
      rw [← hbb, Bool.eq_iff_iff]
      simp
      omega)
    have m0 : (0 : Int) < (m : Int) := by omega
    clear hb hp hn hm
    go_enter Try.func13, Try.ntmps13
    go_wp2
    go_ret
    exact ⟨⟨bb, rfl, Hbb.out⟩, rfl⟩
theorem wok_same {cs ds : List Value} {S : WS} (h : WOk cs S) {d : Nat} (hd : S.lv.length ≤ d) (hd8 : d ≤ 8) (hs : Same cs ds (d * 899)) : WOk ds S := by
  have hl := h.len
  refine ⟨⟨by rw [← hs.1]; exact hl, hs.2.2 h.one⟩, fun k L hL => ?_, ?_, ?_, ?_, ?_, ?_⟩
  · have hlt := (List.getElem?_eq_some_iff.1 hL).1
    exact (h.lv k L hL).keep (fun i h1 h2 => hs.2.1 i (by omega))
  · rw [hs.2.1 _ (by omega)]; exact h.dp
  · rw [hs.2.1 _ (by omega)]; exact h.lk
  · rw [hs.2.1 _ (by omega)]; exact h.st
  · rw [hs.2.1 _ (by omega)]; exact h.tk
  · rw [hs.2.1 _ (by omega)]; exact h.tn
/-- The level above the top is laid. -/
theorem wok_lay {ds : List Value} {S : WS} (h : WOk ds S) {d : Nat} (hd : S.lv.length = d) (hd8 : d ≤ 8) {l : List Nat} {sp : List Sp} (hp : PathOk ds (d * 899) l sp) (x : Bool) :
    WOk ((ds.set (d * 899 + 897) (.int .i64 0)).set (d * 899 + 898) (.bool x)) S ∧ PathOk ((ds.set (d * 899 + 897) (.int .i64 0)).set (d * 899 + 898) (.bool x)) (d * 899) l sp ∧
    ((ds.set (d * 899 + 897) (.int .i64 0)).set (d * 899 + 898) (.bool x))[d * 899 + 897]? = some (.int .i64 0) ∧ ((ds.set (d * 899 + 897) (.int .i64 0)).set (d * 899 + 898) (.bool x))[d * 899 + 898]? = some (.bool x) := by
  have hl := h.len
  have hk : ∀ i, i ≠ d * 899 + 897 → i ≠ d * 899 + 898 → ((ds.set (d * 899 + 897) (.int .i64 0)).set (d * 899 + 898) (.bool x))[i]? = ds[i]? := fun i h1 h2 => by rw [List.getElem?_set_ne (by omega), List.getElem?_set_ne (by omega)]
  refine ⟨⟨⟨by simp [hl], by repeat (first | exact h.one | refine one_set ?_ rfl)⟩, fun k L hL => ?_, ?_, ?_, ?_, ?_, ?_⟩, hp.keep (fun i h1 h2 => hk i (by omega) (by omega)), ?_, ?_⟩
  · have hlt := (List.getElem?_eq_some_iff.1 hL).1
    exact (h.lv k L hL).keep (fun i h1 h2 => hk i (by omega) (by omega))
  · rw [hk _ (by omega) (by omega)]; exact h.dp
  · rw [hk _ (by omega) (by omega)]; exact h.lk
  · rw [hk _ (by omega) (by omega)]; exact h.st
  · rw [hk _ (by omega) (by omega)]; exact h.tk
  · rw [hk _ (by omega) (by omega)]; exact h.tn
  · rw [List.getElem?_set_ne (by omega), get_set (by omega)]
  · rw [get_set (by simp; omega)]
theorem wok_push {ds : List Value} {S : WS} (h : WOk ds S) {d : Nat} (hd : S.lv.length = d) (hd8 : d ≤ 8) {L : Lvl} (hL : LvOk ds (d * 899) L) :
    WOk (ds.set 8091 (.int .i64 ((d : Int) + 1))) { S with lv := S.lv ++ [L] } := by
  have hl := h.len
  have hk : ∀ i, i ≠ 8091 → (ds.set 8091 (.int .i64 ((d : Int) + 1)))[i]? = ds[i]? := fun i h1 => List.getElem?_set_ne (by omega)
  refine ⟨⟨by simp [hl], by repeat (first | exact h.one | refine one_set ?_ rfl)⟩, fun k M hM => ?_, ?_, ?_, ?_, ?_, ?_⟩
  · have hM' : (S.lv ++ [L])[k]? = some M := hM
    by_cases hkd : k < d
    · rw [List.getElem?_append_left (by omega)] at hM'
      exact (h.lv k M hM').keep (fun i h1 h2 => hk i (by omega))
    · have hlt := (List.getElem?_eq_some_iff.1 hM').1
      simp at hlt
      have hkd : k = d := by omega
      subst hkd
      rw [List.getElem?_append_right (by omega), hd] at hM'
      simp at hM'
      subst hM'
      exact hL.keep (fun i h1 h2 => hk i (by omega))
  · rw [get_set (by omega)]; simp [hd]
  · rw [hk _ (by omega)]; exact h.lk
  · rw [hk _ (by omega)]; exact h.st
  · rw [hk _ (by omega)]; exact h.tk
  · rw [hk _ (by omega)]; exact h.tn
theorem wok_link {ds : List Value} {S : WS} (h : WOk ds S) (h9 : S.lv.length ≤ 9) : WOk ((ds.set 8092 (.int .i64 ((S.links : Int) + 1))).set 8094 (.bool false)) { S with links := S.links + 1, tk := false } := by
  have hl := h.len
  have hk : ∀ i, i ≠ 8092 → i ≠ 8094 → ((ds.set 8092 (.int .i64 ((S.links : Int) + 1))).set 8094 (.bool false))[i]? = ds[i]? := fun i h1 h2 => by rw [List.getElem?_set_ne (by omega), List.getElem?_set_ne (by omega)]
  refine ⟨⟨by simp [hl], by repeat (first | exact h.one | refine one_set ?_ rfl)⟩, fun k M hM => ?_, ?_, ?_, ?_, ?_, ?_⟩
  · have hM' : S.lv[k]? = some M := hM
    have hlt := (List.getElem?_eq_some_iff.1 hM').1
    exact (h.lv k M hM').keep (fun i h1 h2 => hk i (by omega) (by omega))
  · rw [hk _ (by omega) (by omega)]; exact h.dp
  · rw [List.getElem?_set_ne (by omega), get_set (by omega)]; simp
  · rw [hk _ (by omega) (by omega)]; exact h.st
  · rw [get_set (by simp; omega)]
  · rw [hk _ (by omega) (by omega)]; exact h.tn
theorem wok_zero {cs : List Value} {S : WS} (h : WOk cs S) : WOk (((((cs.set 8091 (.int .i64 0)).set 8092 (.int .i64 0)).set 8093 (.int .i64 0)).set 8094 (.bool false)).set 8095 (.bool false)) ⟨[], 0, 0, false, false⟩ := by
  have hl := h.len
  refine ⟨⟨by simp [hl], by repeat (first | exact h.one | refine one_set ?_ rfl)⟩, fun k M hM => ?_, ?_, ?_, ?_, ?_, ?_⟩
  · have hM' : ([] : List Lvl)[k]? = some M := hM
    simp at hM'
  · rw [List.getElem?_set_ne (by omega), List.getElem?_set_ne (by omega), List.getElem?_set_ne (by omega), List.getElem?_set_ne (by omega), get_set (by omega)]; rfl
  · rw [List.getElem?_set_ne (by omega), List.getElem?_set_ne (by omega), List.getElem?_set_ne (by omega), get_set (by simp; omega)]; rfl
  · rw [List.getElem?_set_ne (by omega), List.getElem?_set_ne (by omega), get_set (by simp; omega)]; rfl
  · rw [List.getElem?_set_ne (by omega), get_set (by simp; omega)]
  · rw [get_set (by simp; omega)]
/-- The outcome of Start. -/
structure StartP (g : Nat) (t : TypeId) (l : List Nat) (w : World) (e : Ending) (w' : World) : Prop where
  out : ∃ (ab : Bool) (code : Int) (ds : List Value) (S : WS), e = .returned (.tuple #[.bool ab, .int .u8 code]) ∧ Blk w' g t ds ∧ WOk ds S ∧ S.links = 0 ∧ S.steps = 0 ∧ S.tk = false ∧
    ((code ≠ 0 ∧ S.lv = [] ∧ ¬ GoodP l) ∨ (code = 0 ∧ (l.head? == some 47) = ab ∧ ∃ o sp, PathOk ds o l sp ∧ ((sp = [] ∧ S.lv = []) ∨ (sp ≠ [] ∧ S.lv = [⟨l, sp, 0, false⟩]))))
  upd : Upd g w w'
set_option maxRecDepth 1000000 in
set_option maxHeartbeats 4000000 in
theorem start_walk (g : Nat) (t : TypeId) (cs : List Value) (S : WS) (w : World) (hb : Blk w g t cs) (hk : WOk cs S) (a : Option Addr) (n c : Nat) (l : List Nat) (hr : ByteRow w a n c l) (hag : 0 < n → ∀ b off, a = some ⟨b, off, none⟩ → b ≠ g) :
    Calls Try.prog 32 #[.pointer (some ⟨g, 0, none⟩), .slice a n c] w fun e w' => StartP g t l w e w' := by
  obtain ⟨c1, c2, c3, c4, c5⟩ := hk.cells hb
  have f1 := hb.frozen 8091
  have f2 := hb.frozen 8092
  have f3 := hb.frozen 8093
  have f4 := hb.frozen 8094
  have f5 := hb.frozen 8095
  obtain ⟨d0, hd0⟩ : ∃ d0, (.int .i64 (S.lv.length : Int) : Value) = d0 := ⟨_, rfl⟩
  rw [hd0] at c1
  obtain ⟨w1, hw1⟩ : ∃ w1, ((((w.setCell ⟨g, 8091, none⟩ (.int .i64 0)).setCell ⟨g, 8092, none⟩ (.int .i64 0)).setCell ⟨g, 8093, none⟩ (.int .i64 0)).setCell ⟨g, 8094, none⟩ (.bool false)).setCell ⟨g, 8095, none⟩ (.bool false) = w1 := ⟨_, rfl⟩
  have hu1 : Upd g w w1 := by rw [← hw1]; exact (((((Upd.refl g w).setCell rfl _).setCell rfl _).setCell rfl _).setCell rfl _).setCell rfl _
  have hb1 := ((((hb.set 8091 (.int .i64 0)).set 8092 (.int .i64 0)).set 8093 (.int .i64 0)).set 8094 (.bool false)).set 8095 (.bool false)
  rw [hw1] at hb1
  have hk1 := wok_zero hk
  generalize ((((cs.set 8091 (Value.int .i64 0)).set 8092 (.int .i64 0)).set 8093 (.int .i64 0)).set 8094 (.bool false)).set 8095 (.bool false) = cs1 at hb1 hk1
  have hlen := hk1.len
  have HSet := hid (pathSet_walk g 0 t cs1 a n c l w1 hb1 (by omega) (hr.upd hu1 hag) hag)
  have HU1 := hid hu1
  have HK1 := hid hk1
  clear hb hk hr hag hb1 hk1 hu1 hd0
  go_enter Try.func32, Try.ntmps32
  go_upto_region 2 with fail
  try simp only [hw1]
  clear c1 c2 c3 c4 c5 f1 f2 f3 f4 f5 hw1
  go_wp2_with fail
  refine (HSet.out).mono ?_
  rintro e w2 ⟨code, rfl, hu2, ⟨ds, hds, hsame, hok, hbad⟩, hgd, _⟩
  have HGd := hid hgd
  clear hgd
  have HU2 := hid (HU1.out.trans hu2)
  have HDS := hid hds
  have HK2 := hid (wok_same (d := 0) HK1.out (by simp) (by omega) (by simpa using hsame))
  clear HSet hu2 hds hsame HU1 HK1
  by_cases hc : code = 0
  · subst hc
    obtain ⟨sp, hsp⟩ := hok rfl
    have hlay := wok_lay (d := 0) HK2.out rfl (by omega) (by simpa using hsp) false
    simp only [Nat.zero_mul, Nat.zero_add] at hlay
    have c1 : w2.cell? ⟨g, 897, none⟩ = ds[897]? := HDS.out.cell 897
    have c2 : w2.cell? ⟨g, 898, none⟩ = ds[898]? := HDS.out.cell 898
    have hl2 := HK2.out.len
    obtain ⟨v1, hv1⟩ : ∃ v1, ds[897]? = some v1 := ⟨_, List.getElem?_eq_getElem (by omega)⟩
    obtain ⟨v2, hv2⟩ : ∃ v2, ds[898]? = some v2 := ⟨_, List.getElem?_eq_getElem (by omega)⟩
    rw [hv1] at c1
    rw [hv2] at c2
    have f1 := HDS.out.frozen 897
    have f2 := HDS.out.frozen 898
    obtain ⟨w3, hw3⟩ : ∃ w3, (w2.setCell ⟨g, 897, none⟩ (.int .i64 0)).setCell ⟨g, 898, none⟩ (.bool false) = w3 := ⟨_, rfl⟩
    have HU3 : Hid (Upd g w w3) := hid (by rw [← hw3]; exact (HU2.out.setCell rfl _).setCell rfl _)
    have hb3 := (HDS.out.set 897 (.int .i64 0)).set 898 (.bool false)
    rw [hw3] at hb3
    have HB3 := hid hb3
    generalize (ds.set 897 (Value.int .i64 0)).set 898 (.bool false) = ds3 at hlay HB3
    obtain ⟨hk3, hp3, hn3, hd3⟩ := hlay
    have HK3 := hid hk3
    have HP3 := hid hp3
    have HN3 := hid hn3
    have HD3 := hid hd3
    have HLn := hid (pathLen_walk g 0 t ds3 l sp w3 HB3.out HP3.out)
    clear hok hbad hsp hb3 hk3 hp3 hn3 hd3 hv1 hv2
    go_upto_region 7 with fail
    try simp only [hw3]
    clear c1 c2 f1 f2 hw3
    go_wp2_with fail
    refine (HLn.out).mono ?_
    rintro e w4 ⟨rfl, rfl⟩
    clear HLn
    by_cases hs0 : sp = []
    · have HAb := hid (abs_walk g 0 t ds3 l sp w4 HB3.out HP3.out)
      have dz : decide ((0 : Int) < (sp.length : Int)) = false := decide_eq_false (by rw [hs0]; simp)
      go_wp2_with fail
      refine (HAb.out).mono ?_
      rintro e w5 ⟨⟨bb, rfl, hbb⟩, rfl⟩
      have Hbb := hid hbb
      clear hbb HAb
      go_wp2
      exact bodyPost_ret (v := .tuple #[.bool bb, .int .u8 0]) (by simp [results, Try.results32, go_sem]) rfl ⟨⟨bb, 0, ds3, _, rfl, HB3.out, HK3.out, rfl, rfl, rfl, .inr ⟨rfl, Hbb.out, 0, sp, HP3.out, .inl ⟨hs0, rfl⟩⟩⟩, HU3.out⟩
    · have hsl : 0 < sp.length := by cases sp with | nil => exact absurd rfl hs0 | cons _ _ => simp
      have dz : decide ((0 : Int) < (sp.length : Int)) = true := decide_eq_true (by omega)
      have c1 : w4.cell? ⟨g, 8091, none⟩ = some (.int .i64 0) := (HK3.out.cells HB3.out).1
      have f1 := HB3.out.frozen 8091
      have hpu := wok_push (d := 0) (L := ⟨l, sp, 0, false⟩) HK3.out rfl (by omega) (by
        rw [Nat.zero_mul]
        exact ⟨HP3.out, by rw [Nat.zero_add]; exact HN3.out, by rw [Nat.zero_add]; exact HD3.out, hsl⟩)
      have hpp : PathOk (ds3.set 8091 (.int .i64 (((0 : Nat) : Int) + 1))) 0 l sp := HP3.out.keep (fun i h1 h2 => List.getElem?_set_ne (by omega))
      have hb5 := HB3.out.set 8091 (.int .i64 (((0 : Nat) : Int) + 1))
      have HU5 : Hid (Upd g w (w4.setCell ⟨g, 8091, none⟩ (.int .i64 (((0 : Nat) : Int) + 1)))) := hid (HU3.out.setCell rfl _)
      have hz1 : ((0 : Nat) : Int) + 1 = 1 := rfl
      rw [hz1] at hpu hpp hb5 HU5
      obtain ⟨w5, hw5⟩ : ∃ w5, w4.setCell ⟨g, 8091, none⟩ (.int .i64 1) = w5 := ⟨_, rfl⟩
      rw [hw5] at hb5 HU5
      generalize ds3.set 8091 (Value.int .i64 1) = ds5 at hpu hpp hb5
      have HB5 := hid hb5
      have HPu := hid hpu
      have HPp := hid hpp
      have HAb := hid (abs_walk g 0 t ds5 l sp w5 hb5 hpp)
      clear hpu hpp hb5
      go_upto_region 9 with fail
      try simp only [hw5]
      clear c1 f1 hw5
      go_wp2_with fail
      refine (HAb.out).mono ?_
      rintro e w6 ⟨⟨bb, rfl, hbb⟩, rfl⟩
      have Hbb := hid hbb
      clear hbb HAb
      go_wp2
      exact bodyPost_ret (v := .tuple #[.bool bb, .int .u8 0]) (by simp [results, Try.results32, go_sem]) rfl ⟨⟨bb, 0, ds5, _, rfl, HB5.out, HPu.out, rfl, rfl, rfl, .inr ⟨rfl, Hbb.out, 0, sp, HPp.out, .inr ⟨hs0, rfl⟩⟩⟩, HU5.out⟩
  · have dc : (code != 0) = true := by simpa using hc
    go_wp2
    exact bodyPost_ret (v := .tuple #[.bool false, .int .u8 code]) (by simp [results, Try.results32, go_sem]) rfl ⟨⟨false, code, ds, _, rfl, HDS.out, HK2.out, rfl, rfl, rfl, .inl ⟨hc, rfl, fun h => hc (HGd.out h)⟩⟩, HU2.out⟩
/-- The outcome of Expand. -/
structure ExpP (g : Nat) (t : TypeId) (S : WS) (l : List Nat) (w : World) (e : Ending) (w' : World) : Prop where
  out : ∃ (ab : Bool) (code : Int) (ds : List Value) (S' : WS), e = .returned (.tuple #[.bool ab, .int .u8 code]) ∧ Blk w' g t ds ∧ WOk ds S' ∧
    ((S.tk = false ∧ code = 8 ∧ S' = S) ∨ (S.tk = true ∧ S.links = 8 ∧ code = 9 ∧ S' = S) ∨
     (S.tk = true ∧ S.links < 8 ∧ code ≠ 0 ∧ code ≠ 9 ∧ ¬ GoodP l ∧ S' = S) ∨
     (S.tk = true ∧ S.links < 8 ∧ code = 0 ∧ ∃ sp, sp.length ≤ 128 ∧ S' = { S with lv := if sp = [] then S.lv else S.lv ++ [⟨l, sp, 0, S.tn⟩], links := S.links + 1, tk := false }))
  upd : Upd g w w'
set_option maxRecDepth 1000000 in
set_option maxHeartbeats 4000000 in
theorem expand_walk (g : Nat) (t : TypeId) (cs : List Value) (S : WS) (w : World) (hb : Blk w g t cs) (hk : WOk cs S) (hi : WInv S) (a : Option Addr) (n c : Nat) (l : List Nat) (hr : ByteRow w a n c l) (hag : 0 < n → ∀ b off, a = some ⟨b, off, none⟩ → b ≠ g) :
    Calls Try.prog 38 #[.pointer (some ⟨g, 0, none⟩), .slice a n c] w fun e w' => ExpP g t S l w e w' := by
  obtain ⟨c1, c2, c3, c4, c5⟩ := hk.cells hb
  have HB := hid hb
  have HK := hid hk
  obtain ⟨tk, htk⟩ : ∃ tk, S.tk = tk := ⟨_, rfl⟩
  obtain ⟨lk, hlk⟩ : ∃ lk, S.links = lk := ⟨_, rfl⟩
  obtain ⟨d, hd⟩ : ∃ d, S.lv.length = d := ⟨_, rfl⟩
  obtain ⟨tn, htn⟩ : ∃ tn, S.tn = tn := ⟨_, rfl⟩
  have hdl := hi.dl
  have hl8 := hi.l8
  rw [hd, hlk] at hdl
  rw [hlk] at hl8
  rw [hd] at c1
  rw [hlk] at c2
  rw [htk] at c4
  rw [htn] at c5
  have Htk := hid htk
  have Hlk := hid hlk
  have Hd := hid hd
  have Htn := hid htn
  clear hb hk hi htk hlk hd htn c3
  go_enter Try.func38, Try.ntmps38
  cases tk with
  | false =>
    go_wp2
    exact bodyPost_ret (v := .tuple #[.bool false, .int .u8 8]) (by simp [results, Try.results38, go_sem]) rfl ⟨⟨false, 8, cs, S, rfl, HB.out, HK.out, .inl ⟨Htk.out, rfl, rfl⟩⟩, Upd.refl _ _⟩
  | true =>
    by_cases h8 : lk = 8
    · have dz : ((lk : Int) == 8) = true := by rw [h8]; rfl
      have H8 := hid h8
      clear h8
      go_wp2
      exact bodyPost_ret (v := .tuple #[.bool false, .int .u8 9]) (by simp [results, Try.results38, go_sem]) rfl ⟨⟨false, 9, cs, S, rfl, HB.out, HK.out, .inr (.inl ⟨Htk.out, by rw [Hlk.out, H8.out], rfl, rfl⟩)⟩, Upd.refl _ _⟩
    have dz : ((lk : Int) == 8) = false := by simp; omega
    have hd8 : d ≤ 8 := by omega
    have hlt8 : lk < 8 := by omega
    have i9 : (d : Int) < 9 := by omega
    have hlen := HK.out.len
    go_upto_region 5 with fail
    go_quiet (fail)
    have HBq := hid (HB.out.drewN nq)
    have HUq : Hid (Upd g w (w.drewN nq)) := hid ((Upd.refl g w).drewN nq)
    have HSet := hid (pathSet_walk g (d * 899) t cs a n c l (w.drewN nq) HBq.out (by omega) (hr.below (Drew.below ⟨nq, rfl⟩ _)) hag)
    generalize w.drewN nq = w1 at HBq HUq HSet ⊢
    clear c1 c2 c4 c5 hr hag HB
    go_wp2_with fail
    refine (HSet.out).mono ?_
    rintro e w2 ⟨code, rfl, hu2, ⟨ds, hds, hsame, hok, hbad⟩, hsh, hc9⟩
    have HU2 := hid (HUq.out.trans hu2)
    have HDS := hid hds
    have HK2 := hid (wok_same (d := d) HK.out (by rw [Hd.out]; omega) hd8 hsame)
    have HSh := hid hsh
    clear HSet hu2 hds hsame HUq HBq hsh
    by_cases hc : code = 0
    · subst hc
      obtain ⟨sp, hsp⟩ := hok rfl
      have h128 := hsp.n128
      have hlay := wok_lay HK2.out Hd.out hd8 hsp tn
      have c1 : w2.cell? ⟨g, d * 899 + 897, none⟩ = ds[d * 899 + 897]? := HDS.out.cell _
      have c2 : w2.cell? ⟨g, d * 899 + 898, none⟩ = ds[d * 899 + 898]? := HDS.out.cell _
      have hl2 := HK2.out.len
      obtain ⟨v1, hv1⟩ : ∃ v1, ds[d * 899 + 897]? = some v1 := ⟨_, List.getElem?_eq_getElem (by omega)⟩
      obtain ⟨v2, hv2⟩ : ∃ v2, ds[d * 899 + 898]? = some v2 := ⟨_, List.getElem?_eq_getElem (by omega)⟩
      rw [hv1] at c1
      rw [hv2] at c2
      have f1 := HDS.out.frozen (d * 899 + 897)
      have f2 := HDS.out.frozen (d * 899 + 898)
      have c5 : w2.cell? ⟨g, 8095, none⟩ = some (.bool tn) := by rw [← Htn.out]; exact (HK2.out.cells HDS.out).2.2.2.2
      obtain ⟨w3, hw3⟩ : ∃ w3, (w2.setCell ⟨g, d * 899 + 897, none⟩ (.int .i64 0)).setCell ⟨g, d * 899 + 898, none⟩ (.bool tn) = w3 := ⟨_, rfl⟩
      have HU3 : Hid (Upd g w w3) := hid (by rw [← hw3]; exact (HU2.out.setCell rfl _).setCell rfl _)
      have hb3 := (HDS.out.set (d * 899 + 897) (.int .i64 0)).set (d * 899 + 898) (.bool tn)
      rw [hw3] at hb3
      generalize (ds.set (d * 899 + 897) (Value.int .i64 0)).set (d * 899 + 898) (.bool tn) = ds3 at hlay hb3
      have HB3 := hid hb3
      obtain ⟨hk3, hp3, hn3, hd3⟩ := hlay
      have HK3 := hid hk3
      have HP3 := hid hp3
      have HN3 := hid hn3
      have HD3 := hid hd3
      have HLn := hid (pathLen_walk g (d * 899) t ds3 l sp w3 HB3.out HP3.out)
      clear hok hbad hsp hb3 hk3 hp3 hn3 hd3 hv1 hv2
      go_upto_region 10 with fail
      try simp only [hw3]
      clear c1 c2 c5 f1 f2 hw3
      obtain ⟨sl, hsl⟩ : ∃ sl, sp.length = sl := ⟨_, rfl⟩
      rw [hsl] at HLn
      have Hsl := hid hsl
      clear hsl
      go_wp2_with fail
      refine (HLn.out).mono ?_
      rintro e w4 ⟨rfl, rfl⟩
      clear HLn
      go_upto_if 47 with fail
      go_cut [52] from 46 to 54 (fun v wc => ∃ (ds5 : List Value) (lv5 : List Lvl), Hid (Blk wc g t ds5) ∧ Hid (WOk ds5 { S with lv := lv5 }) ∧ Hid (Upd g w wc) ∧ Hid (PathOk ds5 (d * 899) l sp) ∧ Hid (lv5 = if sp = [] then S.lv else S.lv ++ [⟨l, sp, 0, S.tn⟩]) ∧ Hid (lv5.length ≤ 9))
      case first =>
        as_aux_lemma =>
        by_cases hs0 : sp = []
        · have hz : sl = 0 := by rw [← Hsl.out, hs0]; rfl
          subst hz
          have Hs0 := hid hs0
          clear hs0
          go_wp2_with fail
          go_meet
          case rel => exact ⟨ds3, S.lv, HB3, HK3, HU3, HP3, hid (by rw [if_pos Hs0.out]), hid (by rw [Hd.out]; omega)⟩
        · have hsl : 0 < sl := by rw [← Hsl.out]; cases sp with | nil => exact absurd rfl hs0 | cons _ _ => simp
          have dz2 : decide (0 < sl) = true := decide_eq_true hsl
          have c1 : w4.cell? ⟨g, 8091, none⟩ = some (.int .i64 (d : Int)) := by rw [← Hd.out]; exact (HK3.out.cells HB3.out).1
          have f1 := HB3.out.frozen 8091
          have Hpu := hid (wok_push (d := d) (L := ⟨l, sp, 0, tn⟩) HK3.out Hd.out hd8 ⟨HP3.out, HN3.out, HD3.out, by show 0 < sp.length; rw [Hsl.out]; exact hsl⟩)
          have Hpp : Hid (PathOk (ds3.set 8091 (.int .i64 ((d : Int) + 1))) (d * 899) l sp) := hid (HP3.out.keep (fun i h1 h2 => List.getElem?_set_ne (by omega)))
          have Hb5 := hid (HB3.out.set 8091 (.int .i64 ((d : Int) + 1)))
          have HU5 : Hid (Upd g w (w4.setCell ⟨g, 8091, none⟩ (.int .i64 ((d : Int) + 1)))) := hid (HU3.out.setCell rfl _)
          have Hs0 := hid hs0
          clear hs0
          go_wp2_with fail
          go_meet
          case rel => exact ⟨_, _, Hb5, Hpu, HU5, Hpp, hid (by rw [if_neg Hs0.out, Htn.out]), hid (by rw [List.length_append, Hd.out]; simp; omega)⟩
      case rest =>
      as_aux_lemma =>
      obtain ⟨ds5, lv5, HB5, HK5, HU5, HP5, HL5, HL9⟩ := hcut
      generalize wc = w5 at HB5 HU5 ⊢
      have c1 : w5.cell? ⟨g, 8092, none⟩ = some (.int .i64 (lk : Int)) := by rw [← Hlk.out]; exact (HK5.out.cells HB5.out).2.1
      have c2 : w5.cell? ⟨g, 8094, none⟩ = some (.bool true) := by rw [← Htk.out]; exact (HK5.out.cells HB5.out).2.2.2.1
      have f1 := HB5.out.frozen 8092
      have f2 := HB5.out.frozen 8094
      have hk6 := wok_link HK5.out HL9.out
      have hp6 : PathOk ((ds5.set 8092 (.int .i64 ((lk : Int) + 1))).set 8094 (.bool false)) (d * 899) l sp := HP5.out.keep (fun i h1 h2 => by rw [List.getElem?_set_ne (by omega), List.getElem?_set_ne (by omega)])
      have hb6 := (HB5.out.set 8092 (.int .i64 ((lk : Int) + 1))).set 8094 (.bool false)
      have HU6 : Hid (Upd g w ((w5.setCell ⟨g, 8092, none⟩ (.int .i64 ((lk : Int) + 1))).setCell ⟨g, 8094, none⟩ (.bool false))) := hid ((HU5.out.setCell rfl _).setCell rfl _)
      rw [show ({ S with lv := lv5 } : WS).links = lk from Hlk.out] at hk6
      obtain ⟨w6, hw6⟩ : ∃ w6, (w5.setCell ⟨g, 8092, none⟩ (.int .i64 ((lk : Int) + 1))).setCell ⟨g, 8094, none⟩ (.bool false) = w6 := ⟨_, rfl⟩
      rw [hw6] at hb6 HU6
      generalize (ds5.set 8092 (Value.int .i64 ((lk : Int) + 1))).set 8094 (.bool false) = ds6 at hk6 hp6 hb6
      have HK6 := hid hk6
      have HB6 := hid hb6
      have HAb := hid (abs_walk g (d * 899) t ds6 l sp w6 hb6 hp6)
      clear hk6 hp6 hb6
      go_upto_region 14 with fail
      try simp only [hw6]
      clear c1 c2 f1 f2 hw6
      go_wp2_with fail
      refine (HAb.out).mono ?_
      rintro e w7 ⟨⟨bb, rfl, hbb⟩, rfl⟩
      clear hbb HAb
      go_wp2
      exact bodyPost_ret (v := .tuple #[.bool bb, .int .u8 0]) (by simp [results, Try.results38, go_sem]) rfl ⟨⟨bb, 0, ds6, _, rfl, HB6.out, HK6.out, .inr (.inr (.inr ⟨Htk.out, by rw [Hlk.out]; exact hlt8, rfl, sp, h128, by rw [← HL5.out, Hlk.out]⟩))⟩, HU6.out⟩
    · have dc : (code != 0) = true := by simpa using hc
      go_wp2
      exact bodyPost_ret (v := .tuple #[.bool false, .int .u8 code]) (by simp [results, Try.results38, go_sem]) rfl ⟨⟨false, code, ds, S, rfl, HDS.out, HK2.out, .inr (.inr (.inl ⟨Htk.out, by rw [Hlk.out]; exact hlt8, hc, hc9, fun h => hc (HSh.out h), rfl⟩))⟩, HU2.out⟩
end Go.Proofs.Qxb6500891a
