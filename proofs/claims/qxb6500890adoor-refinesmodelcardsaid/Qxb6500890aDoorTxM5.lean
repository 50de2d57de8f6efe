/- The text model: SortStrings. -/
import Derived.Test.Qxb6500890aDoorTxM4
namespace Go.Proofs.Qxb6500890aDoor
open Go.RowKit
set_option linter.unusedSimpArgs false
set_option linter.unusedVariables false

def kz (s : ByteArray) : Rec := (s, 0)
theorem ins_map (x : ByteArray) : ∀ l : List ByteArray, ins ltK (kz x) (l.map kz) = (ins ltS x l).map kz
  | [] => rfl
  | y :: l => by
    rw [List.map_cons, ins, ins]
    have e : ltK (kz x) (kz y) = ltS x y := rfl
    rw [e]
    cases ltS x y with
    | true => rfl
    | false => simp only [if_neg, List.map_cons, ins_map x l]; rfl
theorem ssort_map (X : List ByteArray) : ssort ltK (X.map kz) = (ssort ltS X).map kz := by
  have h : ∀ (X acc : List ByteArray), (X.map kz).foldl (fun acc x => ins ltK x acc) (acc.map kz) = (X.foldl (fun acc x => ins ltS x acc) acc).map kz := by
    intro X
    induction X with
    | nil => intro acc; rfl
    | cons x X ih =>
      intro acc
      rw [List.map_cons, List.foldl_cons, List.foldl_cons, ins_map]
      exact ih _
  exact h X []
theorem map_fst (l : List ByteArray) : (l.map kz).map (·.1) = l := by
  rw [List.map_map]
  exact List.map_id' l
section
variable {w w' : World} {n0 n1 : Nat} {v v' u : Value}
theorem OwR.neT {α β : Type} {K : RK α} {K' : RK β} {xs : List α} {ys : List β} (h : OwR K n0 w v xs) (h' : OwR K' n1 w v' ys) (ht : K.t ≠ K'.t) : ∀ g, v.ownBlock = some g → v'.ownBlock ≠ some g := fun g hg hg' => by
  rcases h.2 with ⟨h0, _⟩ | ⟨g1, cap, cur, h0, _, h2, _⟩
  · rw [h0] at hg; cases hg
  · rcases h'.2 with ⟨h3, _⟩ | ⟨g2, cap2, cur2, h3, _, h4, _⟩
    · rw [h3] at hg'; cases hg'
    · rw [h0] at hg
      rw [h3] at hg'
      cases hg
      cases hg'
      rw [h2] at h4
      injection h4 with h5
      injection h5 with h6 h7
      exact ht h7
theorem Kep.rowT {α : Type} {K : RK α} {xs : List α} (hk : Kep w u w') (h : OwR K n0 w v xs) (hne : ∀ g, v.ownBlock = some g → u.ownBlock ≠ some g) : OwR K n0 w' v xs := h.of (fun g hg hlt => hk.blk g hlt (fun g' hg' e => hne g hg (by rw [hg', e])))
def OwSP (w : World) (xs : List ByteArray) (e : Ending) (w' : World) : Prop := ∃ v, e = .returned v ∧ OwR rtS w.heap.size w' v xs ∧ Below w.heap.size w w'
structure Sq (w : World) (Y : List Rec) (u : Value) (xs : List ByteArray) (v : Value) (wr : World) : Prop where
  row : OwR rtS w.heap.size wr v xs
  src : OwR rtK w.heap.size wr u Y
  be : Below w.heap.size w wr
theorem Sq.below {w wr w' : World} {Y : List Rec} {xs : List ByteArray} {u v : Value} (h : Sq w Y u xs v wr) (hb : Below wr.heap.size wr w') : Sq w Y u xs v w' := ⟨h.row.below hb, h.src.below hb, h.be.trans (hb.mono h.be.size)⟩
set_option maxRecDepth 100000
set_option maxHeartbeats 2000000
theorem msortStrings_walk (a : Option Addr) (n c : Nat) (X : List ByteArray) (w : World) (hr : RowOf w 1 strCell a n c X) (hn : n ≤ 65536) :
    Calls Tryd.prog 44 #[.slice a n c] w fun e w' => OwSP w (ssort ltS X) e w' := by
  have HR := hid hr
  have HX := hid hr.len
  have hni : (n : Int) ≤ 65536 := by omega
  obtain ⟨p0, hp0⟩ : ∃ p, w.heap.size = p := ⟨_, rfl⟩
  have HS0 : Hid (Sk w ((X.take 0).map kz) (.slice (some ⟨p0, 0, none⟩) 0 0) (w.alloc (.cells #[] 49))) := hid ⟨by rw [← hp0]; exact OwR.made0 rtK w, nbel _ _⟩
  clear hr
  go_enter Tryd.func44, Tryd.ntmps44
  go_wp2_with fail
  generalize hw1 : w.alloc (.cells #[] 49) = w1 at HS0 ⊢
  clear hw1
  go_loopw [3, 12] (fun v t wr => ∃ (i : Nat) (a3 : Option Addr) (q3 : Nat), i ≤ n ∧ v = .slice a3 i q3 ∧ t = .int .i64 (i : Int) ∧ Hid (Sk w ((X.take i).map kz) (.slice a3 i q3) wr)) (fun _ t _ => n - (intOf t).toNat)
  case atStart => exact ⟨0, _, _, by omega, rfl, rfl, HS0⟩
  case round =>
  clear HS0
  obtain ⟨i, a3, q3, hi, rfl, rfl, HS⟩ := hrel
  by_cases hin : i < n
  · have di : decide ((i : Int) < (n : Int)) = true := decide_eq_true (by omega)
    have ii : (i : Int) < (n : Int) := by omega
    obtain ⟨x, hx⟩ := get_some (Y := X) (i := i) (by rw [HX.out]; exact hin)
    obtain ⟨g, off, rfl, c1⟩ := rowS_at (HR.out.below HS.out.be) hx
    have HNx : Hid ((X.take i).map kz ++ [kz x] = (X.take (i + 1)).map kz) := hid (by rw [List.take_add_one, hx, List.map_append]; rfl)
    have HLn : Hid (((X.take i).map kz).length = i ∧ ((X.take (i + 1)).map kz).length = i + 1) := hid ⟨by rw [List.length_map, List.length_take, HX.out]; omega, by rw [List.length_map, List.length_take, HX.out]; omega⟩
    obtain ⟨k9, hk9⟩ : ∃ k, wr.heap.size = k := ⟨_, rfl⟩
    clear hx
    go_wp2_with (at_builtin; refine stopHere ?_)
    intro _
    have HNw : Hid (∀ ad, some (⟨k9, 0, none⟩ : Addr) = some ad → ∀ j u, ([kz x].flatMap rtK.f)[j]? = some u → (wr.alloc (.cells #[.string x, .int .i64 0] 49)).cell? (ad.add j) = some u) := hid (newX rtK wr (kz x) _ hk9.symm)
    have HN2 := hid (HS.out.below (nbel wr (.cells #[.string x, .int .i64 0] 49)))
    generalize hwf : wr.alloc (.cells #[.string x, .int .i64 0] 49) = wf at HN2 HNw ⊢
    clear hwf c1 HS hk9
    have HBd : Hid ((((X.take i).map kz).length + 1) * rtK.b ≤ 140737488355328) := hid (by
      have e : rtK.b = 24 := rfl
      rw [e, HLn.out.1]
      omega)
    refine wpList_app_l okK rfl _ _ HN2.out.row rfl [kz x] rfl (some ⟨k9, 0, none⟩) 1 1 rfl rfl (fun h => by cases h) HNw.out HBd.out HN2.out.be.size ?_
    intro v10 w10 hr10 hk10 hg10
    have HN3 : Hid (Sk w ((X.take (i + 1)).map kz) v10 w10) := hid ⟨by rw [← HNx.out]; exact hr10.out, HN2.out.be.trans (hk10.out.below HN2.out.row.hi HN2.out.be.size)⟩
    clear hr10 hk10 hg10 HN2 HNw
    obtain ⟨a12, q12, hv⟩ := HN3.out.row.shape
    rw [HLn.out.2] at hv
    subst hv
    clear HLn HNx HBd
    go_wp2
    exact ⟨⟨i + 1, a12, q12, by omega, rfl, by go_num, HN3⟩, by simp [intOf]; omega⟩
  have hie : i = n := by omega
  subst hie
  have di : decide ((i : Int) < (i : Int)) = false := decide_eq_false (by omega)
  rw [List.take_of_length_le (by rw [HX.out]; omega)] at HS
  obtain ⟨p7, hp7⟩ : ∃ p, wr.heap.size = p := ⟨_, rfl⟩
  clear hin hi
  go_upto_region 8 with fail
  have HS7 : Hid (Sk w (X.map kz) (.slice a3 i q3) (wr.alloc (.cells #[] 9)) ∧ OwR rtS w.heap.size (wr.alloc (.cells #[] 9)) (.slice (some ⟨p7, 0, none⟩) 0 0) []) := hid ⟨HS.out.below (nbel _ _), (by
    have h := OwR.made0 rtS wr
    rw [hp7] at h
    exact h.mono (by rw [← hp7]; exact HS.out.be.size))⟩
  generalize hw7 : wr.alloc (.cells #[] 9) = w7 at HS7 ⊢
  clear hw7 hp7 HS
  obtain ⟨a', n', c', hv', hrw⟩ := HS7.out.1.row.rowK (by rw [List.length_map, HX.out]; omega)
  injection hv' with e1 e2 e3
  subst e1 e2 e3
  have HC := hid (msortKeyed_walk a3 i q3 (X.map kz) w7 hrw hn)
  rw [ssort_map] at HC
  have HYl : Hid (((ssort ltS X).map kz).length = i) := hid (by rw [List.length_map, ssort_length, HX.out])
  have HYe : Hid (∀ (j : Nat) (y : Rec), ((ssort ltS X).map kz)[j]? = some y → (ssort ltS X)[j]? = some y.1) := hid (fun j y h => by
    rw [List.getElem?_map] at h
    obtain ⟨s, h1, rfl⟩ := Option.map_eq_some_iff.1 h
    exact h1)
  obtain ⟨S, hS⟩ : ∃ S, ssort ltS X = S := ⟨_, rfl⟩
  rw [hS] at HC HYl HYe
  have HSS := hid hS
  clear hrw hS
  go_wp2_with fail
  refine HC.out.mono ?_
  rintro e8 w8 ⟨v8, rfl, hr8, hb8⟩
  have hbw : Below w.heap.size w w8 := HS7.out.1.be.trans (hb8.mono HS7.out.1.be.size)
  obtain ⟨a8, q8, ev8⟩ := hr8.shape
  rw [HYl.out] at ev8
  subst ev8
  have HQ0 : Hid (Sq w (S.map kz) (.slice a8 i q8) (S.take 0) (.slice (some ⟨p7, 0, none⟩) 0 0) w8) := hid ⟨HS7.out.2.below hb8, hr8.mono HS7.out.1.be.size, hbw⟩
  clear hr8 hb8 hbw HS7 HC
  go_wp2_with fail
  go_loopw [6, 26] (fun v t wr => ∃ (j : Nat) (a6 : Option Addr) (q6 : Nat), j ≤ i ∧ v = .slice a6 j q6 ∧ t = .int .i64 (j : Int) ∧ Hid (Sq w (S.map kz) (.slice a8 i q8) (S.take j) (.slice a6 j q6) wr)) (fun _ t _ => i - (intOf t).toNat)
  case atStart => exact ⟨0, _, _, by omega, rfl, rfl, HQ0⟩
  case round =>
  clear HQ0
  obtain ⟨j, a6, q6, hj, rfl, rfl, HQ⟩ := hrel
  by_cases hjn : j < i
  rotate_left
  · have hje : j = i := by omega
    subst hje
    have dj : decide ((j : Int) < (j : Int)) = false := decide_eq_false (by omega)
    have HE : Hid (OwSP w (ssort ltS X) (.returned (.slice a6 j q6)) wr) := hid (by
      have h1 := HQ.out
      have h2 : S.length ≤ j := by have := HYl.out; rw [List.length_map] at this; omega
      rw [List.take_of_length_le h2, ← HSS.out] at h1
      exact ⟨_, rfl, h1.row, h1.be⟩)
    clear HQ hjn hj
    go_wp2
    go_ret
    exact HE.out
  have dj : decide ((j : Int) < (i : Int)) = true := decide_eq_true (by omega)
  have ij : (j : Int) < (i : Int) := by omega
  obtain ⟨⟨yk, yv⟩, hy⟩ := get_some (Y := S.map kz) (i := j) (by rw [HYl.out]; exact hjn)
  obtain ⟨a', n', c', hv', hrw⟩ := HQ.out.src.rowK (by rw [HYl.out]; omega)
  injection hv' with e1 e2 e3
  subst e1 e2 e3
  obtain ⟨g, off, rfl, c1, c2⟩ := rowK_at hrw hy
  have HNx : Hid (S.take j ++ [yk] = S.take (j + 1)) := hid (by rw [List.take_add_one, HYe.out j _ hy]; rfl)
  have HLn : Hid ((S.take j).length = j ∧ (S.take (j + 1)).length = j + 1) := hid (by
    have := HYl.out
    rw [List.length_map] at this
    exact ⟨by rw [List.length_take]; omega, by rw [List.length_take]; omega⟩)
  dsimp only at c1 c2
  obtain ⟨p, hp⟩ : ∃ k, wr.heap.size = k := ⟨_, rfl⟩
  clear hy hrw
  go_wp2_with (at_builtin; refine stopHere ?_)
  intro _
  have hs1 : (wr.alloc (.cells #[.string yk, .int .i64 yv] 49)).heap.size = p + 1 := by simp [hp]
  have HNw : Hid (∀ ad, some (⟨p + 1, 0, none⟩ : Addr) = some ad → ∀ j u, ([yk].flatMap rtS.f)[j]? = some u → ((wr.alloc (.cells #[.string yk, .int .i64 yv] 49)).alloc (.cells #[.string yk] 9)).cell? (ad.add j) = some u) := hid (newX rtS (wr.alloc (.cells #[.string yk, .int .i64 yv] 49)) yk _ hs1.symm)
  have HN2 := hid ((HQ.out.below (nbel wr (.cells #[.string yk, .int .i64 yv] 49))).below (nbel _ (.cells #[.string yk] 9)))
  generalize hwf : (wr.alloc (.cells #[.string yk, .int .i64 yv] 49)).alloc (.cells #[.string yk] 9) = wf at HN2 HNw ⊢
  clear hwf c1 c2 HQ hp hs1
  have HBd : Hid (((S.take j).length + 1) * rtS.b ≤ 140737488355328) := hid (by
    have e : rtS.b = 16 := rfl
    rw [e, HLn.out.1]
    omega)
  refine wpList_app_l okS rfl _ _ HN2.out.row rfl [yk] rfl (some ⟨p + 1, 0, none⟩) 1 1 rfl rfl (fun h => by cases h) HNw.out HBd.out HN2.out.be.size ?_
  intro v10 w10 hr10 hk10 hg10
  have HN3 : Hid (Sq w (S.map kz) (.slice (some ⟨g, off, none⟩) i q8) (S.take (j + 1)) v10 w10) := hid ⟨by rw [← HNx.out]; exact hr10.out, hk10.out.rowT HN2.out.src (HN2.out.src.neT HN2.out.row (by decide)), HN2.out.be.trans (hk10.out.below HN2.out.row.hi HN2.out.be.size)⟩
  clear hr10 hk10 hg10 HN2 HNw
  obtain ⟨a12, q12, hv⟩ := HN3.out.row.shape
  rw [HLn.out.2] at hv
  subst hv
  clear HLn HNx HBd
  go_wp2
  exact ⟨⟨j + 1, a12, q12, by omega, rfl, by go_num, HN3⟩, by simp [intOf]; omega⟩
end
end Go.Proofs.Qxb6500890aDoor
