/- The law SortStableOnKeyed. -/
import Derived.Test.Qxb6500890aDoorTextKStab
import Derived.Test.Qxb6500890aDoorTextSortLaw
namespace Go.Proofs.Qxb6500890aDoor
open Go.RowKit
set_option linter.unusedSimpArgs false
set_option linter.unusedVariables false

/-- The records, each with its own place for a value. -/
def tag (X : List Rec) : List Rec := X.zipIdx.map (fun p => (p.1.1, ((p.2 : Nat) : Int)))
theorem tag_get (X : List Rec) (k : Nat) : (tag X)[k]? = (X[k]?).map (fun r => (r.1, (k : Int))) := by
  simp [tag, List.getElem?_zipIdx]
  cases X[k]? <;> simp
theorem tag_len (X : List Rec) : (tag X).length = X.length := by simp [tag]
theorem tag_mem {X : List Rec} {r : Rec} (h : r ∈ tag X) : ∃ (m : Nat) (r0 : Rec), X[m]? = some r0 ∧ r0.1 = r.1 ∧ r.2 = (m : Int) ∧ m < X.length := by
  obtain ⟨m, hm, rfl⟩ := List.getElem_of_mem h
  have e := List.getElem?_eq_getElem hm
  rw [tag_get] at e
  obtain ⟨r0, h0, h1⟩ := Option.map_eq_some_iff.1 e
  refine ⟨m, r0, h0, ?_, ?_, by rw [tag_len] at hm; exact hm⟩
  · rw [← h1]
  · rw [← h1]

/-- a stands before b: its key is no greater, and of equal keys the value rises. -/
def Bef (a b : Rec) : Prop := ltK b a = false ∧ (ltK a b = false → a.2 < b.2)

theorem ins_bef (x : Rec) : ∀ l : List Rec, l.Pairwise Bef → (∀ y ∈ l, y.2 < x.2) → (ins ltK x l).Pairwise Bef
  | [], _, _ => by simp [ins]
  | y :: l, hp, hl => by
    obtain ⟨h1, h2⟩ := List.pairwise_cons.1 hp
    cases hxy : ltK x y with
    | true =>
      have e : ins ltK x (y :: l) = x :: y :: l := by simp [ins, hxy]
      rw [e]
      have hyx := ltK_ord.asym x y hxy
      refine List.pairwise_cons.2 ⟨fun z hz => ?_, hp⟩
      rcases List.mem_cons.1 hz with rfl | hz
      · exact ⟨hyx, fun h => by rw [hxy] at h; cases h⟩
      · have hb := h1 z hz
        refine ⟨ltK_ord.trans z y x hb.1 hyx, fun h => ?_⟩
        have := ltK_ord.trans x z y h hb.1
        rw [hxy] at this; cases this
    | false =>
      have e : ins ltK x (y :: l) = y :: ins ltK x l := by simp [ins, hxy]
      rw [e]
      refine List.pairwise_cons.2 ⟨fun z hz => ?_, ins_bef x l h2 (fun z hz => hl z (List.mem_cons_of_mem _ hz))⟩
      rcases ins_mem.1 hz with rfl | hz
      · exact ⟨hxy, fun _ => hl y List.mem_cons_self⟩
      · exact h1 z hz

theorem foldl_bef : ∀ (l acc : List Rec), acc.Pairwise Bef → l.Pairwise (fun a b => a.2 < b.2) → (∀ a ∈ acc, ∀ b ∈ l, a.2 < b.2) → (l.foldl (fun acc x => ins ltK x acc) acc).Pairwise Bef
  | [], acc, h, _, _ => h
  | x :: l, acc, h, hl, hal => by
    obtain ⟨h1, h2⟩ := List.pairwise_cons.1 hl
    refine foldl_bef l _ (ins_bef x acc h (fun y hy => hal y hy x List.mem_cons_self)) h2 (fun a ha b hb => ?_)
    rcases ins_mem.1 ha with rfl | ha
    · exact h1 b hb
    · exact hal a ha b (List.mem_cons_of_mem _ hb)

theorem tag_rising (X : List Rec) : (tag X).Pairwise (fun a b => a.2 < b.2) := by
  rw [List.pairwise_iff_getElem]
  intro i j hi hj hij
  have e1 := List.getElem?_eq_getElem hi
  have e2 := List.getElem?_eq_getElem hj
  rw [tag_get] at e1 e2
  obtain ⟨r1, _, h1⟩ := Option.map_eq_some_iff.1 e1
  obtain ⟨r2, _, h2⟩ := Option.map_eq_some_iff.1 e2
  rw [← h1, ← h2]
  simp; omega

theorem sorted_bef (X : List Rec) {i : Nat} {a b : Rec} (ha : (ssort ltK (tag X))[i]? = some a) (hb : (ssort ltK (tag X))[i + 1]? = some b) : Bef a b := by
  have := foldl_bef (tag X) [] List.Pairwise.nil (tag_rising X) (fun a h => by cases h)
  obtain ⟨h1, rfl⟩ := List.getElem?_eq_some_iff.1 ha
  obtain ⟨h2, rfl⟩ := List.getElem?_eq_some_iff.1 hb
  exact (List.pairwise_iff_getElem.1 this) i (i + 1) h1 h2 (by omega)

theorem fill_next {T : List Rec} {n k : Nat} {t z : Rec} (hT : T.length = n) (hk : k < n) (ht : T[k]? = some t) : (T.take k ++ List.replicate (n - k) z).set k t = T.take (k + 1) ++ List.replicate (n - (k + 1)) z := by
  have hl : (T.take k).length = k := by rw [List.length_take]; omega
  rw [show n - k = (n - (k + 1)) + 1 by omega, List.replicate_succ, List.take_add_one, ht]
  have e := seg_set (T.take k) (z :: List.replicate (n - (k + 1)) z) 0 t
  rw [hl] at e
  refine e.trans ?_
  simp

theorem Upd.cell {g k i : Nat} {w w' : World} (h : Upd g w w') (hk : k < w.heap.size) (hne : k ≠ g) : w'.cell? ⟨k, i, none⟩ = w.cell? ⟨k, i, none⟩ := by
  simp only [World.cell?, h.block k hk hne]

set_option maxRecDepth 100000 in
set_option maxHeartbeats 1000000 in
theorem sortKeyed_walk (g n : Nat) (X : List Rec) (hX : X.length = n) (hn : n ≤ 65536) (hok : ∀ s ∈ X, s.1.size ≤ 140737488351232) (w : World) (hb : BlkK w g X) :
    Calls Tryd.prog 25 #[.slice (some ⟨g, 0, none⟩) n n] w fun e w' => e = .returned (.tuple #[]) ∧ Upd g w w' ∧ BlkK w' g (ssort ltK X) := by
  have HB0 := hid hb
  have HOk := hid hok
  clear hb hok
  go_enter Tryd.func25, Tryd.ntmps25
  go_wp2_with fail
  refine (stableK_walk g n X hX hn HOk.out _ HB0.out).mono ?_
  rintro e w1 ⟨rfl, hu1, hb1⟩
  have HU1 := hid hu1
  have HB1 := hid hb1
  clear hu1 hb1
  go_wp2
  go_end0
  exact ⟨rfl, HU1.out, HB1.out⟩

end Go.Proofs.Qxb6500890aDoor
