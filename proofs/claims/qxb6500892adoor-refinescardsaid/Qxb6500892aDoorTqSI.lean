/- The engine with its lists and chains; the four low operations. -/
import Derived.Test.Qxb6500892aDoorTqInv2
namespace Go.Proofs.Qxb6500892aDoor
open Go.RowKit
set_option linter.unusedSimpArgs false
set_option linter.unusedVariables false

/-- All that the lists' and chains' operations leave alone. -/
structure Fx (s s' : ES) : Prop where
  n : s'.n = s.n
  m : s'.m = s.m
  slots : s'.slots = s.slots
  kin : s'.kin = s.kin
  kout : s'.kout = s.kout
  kneg : s'.kneg = s.kneg
  shift : s'.shift = s.shift
  key : s'.key = s.key
  pin : s'.pin = s.pin
  neg : s'.neg = s.neg
  negs : s'.negs = s.negs
  pinned : s'.pinned = s.pinned
theorem Fx.refl (s : ES) : Fx s s := ⟨rfl, rfl, rfl, rfl, rfl, rfl, rfl, rfl, rfl, rfl, rfl, rfl⟩
theorem Fx.trans {a b c : ES} (h : Fx a b) (k : Fx b c) : Fx a c := ⟨k.n.trans h.n, k.m.trans h.m, k.slots.trans h.slots, k.kin.trans h.kin, k.kout.trans h.kout, k.kneg.trans h.kneg, k.shift.trans h.shift, k.key.trans h.key, k.pin.trans h.pin, k.neg.trans h.neg, k.negs.trans h.negs, k.pinned.trans h.pinned⟩
theorem QI.of {s s' : ES} {L : Nat → List Nat} (h : QI s L) (h1 : s'.n = s.n) (h2 : s'.hd = s.hd) (h3 : s'.tl = s.tl) (h4 : s'.sz = s.sz) (h5 : s'.whr = s.whr) (h6 : s'.prv = s.prv) (h7 : s'.nxt = s.nxt) : QI s' L :=
  ⟨by rw [h1]; exact h.nb, fun q hq => (h.dl q hq).keep (by rw [h2]) (by rw [h3]) (by rw [h4]) h1 (fun i _ => by rw [h5, h6, h7]; exact ⟨rfl, rfl, rfl⟩), h.l0, fun i hi => by rw [h5]; exact h.w5 i (by rw [← h1]; exact hi), fun i hi => by rw [h5]; exact h.mem i (by rw [← h1]; exact hi), fun i hi => by rw [h5, h6, h7]; exact h.z i (by rw [← h1]; exact hi)⟩
structure SI (e gn gb : Nat) (w0 : World) (s : ES) (L C : Nat → List Nat) (P : Nat → Prop) (w : World) : Prop where
  em : EM e gn gb s w
  u3 : U3 e gn gb w0 w
  q : QI s L
  c : CI s C P
theorem SI.below {e gn gb : Nat} {w0 : World} {s : ES} {L C : Nat → List Nat} {P : Nat → Prop} {w w' : World} (h : SI e gn gb w0 s L C P w) (hb : Below w.heap.size w w') : SI e gn gb w0 s L C P w' := ⟨h.em.below hb, h.u3.trans (U3.ofBelow hb), h.q, h.c⟩
theorem ph_fx (s : ES) (q i : Nat) : Fx s (pushHeadS s q i) ∧ (pushHeadS s q i).bk = s.bk ∧ (pushHeadS s q i).chn = s.chn := by unfold pushHeadS ph2; split <;> exact ⟨⟨rfl, rfl, rfl, rfl, rfl, rfl, rfl, rfl, rfl, rfl, rfl, rfl⟩, rfl, rfl⟩
theorem ul_fx (s : ES) (i : Nat) : Fx s (unlinkS s i) ∧ (unlinkS s i).bk = s.bk ∧ (unlinkS s i).chn = s.chn := by
  unfold unlinkS ul3
  have h1 : Fx s (ul1 s i) ∧ (ul1 s i).bk = s.bk ∧ (ul1 s i).chn = s.chn := by unfold ul1; split <;> exact ⟨⟨rfl, rfl, rfl, rfl, rfl, rfl, rfl, rfl, rfl, rfl, rfl, rfl⟩, rfl, rfl⟩
  generalize ul1 s i = s1 at h1 ⊢
  have h2 : Fx s1 (ul2 s1 (s.whr i) i) ∧ (ul2 s1 (s.whr i) i).bk = s1.bk ∧ (ul2 s1 (s.whr i) i).chn = s1.chn := by unfold ul2; split <;> exact ⟨⟨rfl, rfl, rfl, rfl, rfl, rfl, rfl, rfl, rfl, rfl, rfl, rfl⟩, rfl, rfl⟩
  generalize ul2 s1 (s.whr i) i = s2 at h2 ⊢
  have h3 := h1.1.trans h2.1
  exact ⟨⟨h3.n, h3.m, h3.slots, h3.kin, h3.kout, h3.kneg, h3.shift, h3.key, h3.pin, h3.neg, h3.negs, h3.pinned⟩, h2.2.1.trans h1.2.1, h2.2.2.trans h1.2.2⟩
theorem ho_fx (s : ES) (i : Nat) (C1 : List Nat) : Fx s (hashOutS s i C1) ∧ (hashOutS s i C1).hd = s.hd ∧ (hashOutS s i C1).tl = s.tl ∧ (hashOutS s i C1).sz = s.sz ∧ (hashOutS s i C1).whr = s.whr ∧ (hashOutS s i C1).prv = s.prv ∧ (hashOutS s i C1).nxt = s.nxt := by
  unfold hashOutS hoS
  cases C1.getLast? <;> exact ⟨⟨rfl, rfl, rfl, rfl, rfl, rfl, rfl, rfl, rfl, rfl, rfl, rfl⟩, rfl, rfl, rfl, rfl, rfl, rfl⟩
theorem mem_split {i : Nat} {L : List Nat} (h : i ∈ L) : ∃ A B, L = A ++ i :: B ∧ L.erase i = A ++ B := by
  obtain ⟨A, B, h1, h2, h3⟩ := List.exists_erase_eq h
  exact ⟨A, B, h2, h3⟩
section
variable {e gn gb : Nat} {w0 : World} {s : ES} {L C : Nat → List Nat} {P : Nat → Prop} {w : World}
theorem pushHead_si (h : SI e gn gb w0 s L C P w) {q i : Nat} (hq : q < 5) (hq0 : q ≠ 0) (hi : i < s.n) (hw : s.whr i = 0) :
    Calls Tryd.prog 40 #[.pointer (some ⟨e, 0, none⟩), .int .u8 (q : Int), .int .i32 (i : Int)] w fun x w' => x = .returned (.tuple #[]) ∧ ∃ s', SI e gn gb w0 s' (upd L q (i :: L q)) C P w' ∧ Fx s s' ∧ s'.whr = upd s.whr i q := by
  refine (pushHead_walk e gn gb s q i w h.em hq hi (h.q.hdIx hq) (h.q.szb hq)).mono ?_
  rintro x w' ⟨rfl, hE, hU⟩
  obtain ⟨f, fb, fc⟩ := ph_fx s q i
  exact ⟨rfl, _, ⟨hE, h.u3.trans hU, h.q.push hq hq0 hi hw, h.c.of f.n f.m f.shift fb fc (fun j _ => by rw [f.key])⟩, f, ph_whr s q i⟩
theorem unlink_si (h : SI e gn gb w0 s L C P w) {q i : Nat} (hq : q < 5) (hq0 : q ≠ 0) (hi : i < s.n) (hw : s.whr i = q) :
    Calls Tryd.prog 45 #[.pointer (some ⟨e, 0, none⟩), .int .i32 (i : Int)] w fun x w' => x = .returned (.tuple #[]) ∧ ∃ s', SI e gn gb w0 s' (upd L q ((L q).erase i)) C P w' ∧ Fx s s' ∧ s'.whr = upd s.whr i 0 := by
  have hm := h.q.mem i hi (by rw [hw]; exact hq0)
  rw [hw] at hm
  obtain ⟨A, B, hL, hEr⟩ := mem_split hm
  have hD := h.q.dl q hq
  rw [hL] at hD
  have hlt := hD.lt
  refine (unlink_walk e gn gb s i w h.em hi (by rw [hw]; exact hq) (by rw [hD.pr A i B rfl]; exact lastI_ix (fun j hj => hlt j (by simp [hj]))) (by rw [hD.ul1nxt hw]; exact headI_ix (fun j hj => hlt j (by simp [hj]))) (by rw [hw]; exact h.q.szb hq)).mono ?_
  rintro x w' ⟨rfl, hE, hU⟩
  obtain ⟨f, fb, fc⟩ := ul_fx s i
  exact ⟨rfl, _, ⟨hE, h.u3.trans hU, by rw [hEr]; exact h.q.unlink hq hi hw hL, h.c.of f.n f.m f.shift fb fc (fun j _ => by rw [f.key])⟩, f, (hD.ul hw).whr⟩
theorem hashIn_si (h : SI e gn gb w0 s L C P w) {i : Nat} (hi : i < s.n) (hp : ¬ P i) :
    Calls Tryd.prog 62 #[.pointer (some ⟨e, 0, none⟩), .int .i32 (i : Int)] w fun x w' => x = .returned (.tuple #[]) ∧ ∃ s' C', SI e gn gb w0 s' L C' (fun j => P j ∨ j = i) w' ∧ Fx s s' ∧ s'.whr = s.whr := by
  refine (hashIn_walk e gn gb s i w h.em h.c.bw hi).mono ?_
  rintro x w' ⟨rfl, hE, hU⟩
  exact ⟨rfl, _, _, ⟨hE, h.u3.trans hU, h.q.of rfl rfl rfl rfl rfl rfl rfl, h.c.ins hi hp⟩, ⟨rfl, rfl, rfl, rfl, rfl, rfl, rfl, rfl, rfl, rfl, rfl, rfl⟩, rfl⟩
theorem hashOut_si (h : SI e gn gb w0 s L C P w) {i : Nat} (hi : i < s.n) (hp : P i) :
    Calls Tryd.prog 61 #[.pointer (some ⟨e, 0, none⟩), .int .i32 (i : Int)] w fun x w' => x = .returned (.tuple #[]) ∧ ∃ s' C', SI e gn gb w0 s' L C' (fun j => P j ∧ j ≠ i) w' ∧ Fx s s' ∧ s'.whr = s.whr := by
  have hm := h.c.mem i hi hp
  obtain ⟨C1, C2, hC⟩ := List.append_of_mem hm
  have hb := h.c.bw.lt (s.key i)
  have h1 := h.c.ch _ hb
  have h2 := h.c.nd _ hb
  rw [hC] at h1 h2
  refine (hashOut_walk e gn gb s i C1 C2 w h.em h.c.bw hi h1 h2).mono ?_
  rintro x w' ⟨rfl, hE, hU⟩
  obtain ⟨f, f1, f2, f3, f4, f5, f6⟩ := ho_fx s i C1
  exact ⟨rfl, _, _, ⟨hE, h.u3.trans hU, h.q.of f.n f1 f2 f3 f4 f5 f6, h.c.del hC⟩, f, f4⟩
theorem fnd_spec (s : ES) (k : Nat) : ∀ (L : List Nat), (fnd s k L = -1 ∧ ∀ i ∈ L, s.key i ≠ k) ∨ ∃ i ∈ L, fnd s k L = (i : Int) ∧ s.key i = k
  | [] => .inl ⟨rfl, fun i hi => by cases hi⟩
  | i :: L => by
    unfold fnd
    by_cases e : s.key i = k
    · rw [if_pos e]
      exact .inr ⟨i, by simp, rfl, e⟩
    · rw [if_neg e]
      rcases fnd_spec s k L with ⟨h1, h2⟩ | ⟨j, h1, h2, h3⟩
      · exact .inl ⟨h1, fun j hj => by
          rcases List.mem_cons.1 hj with rfl | hj
          · exact e
          · exact h2 j hj⟩
      · exact .inr ⟨j, by simp [h1], h2, h3⟩
/-- find: the hashed node that holds the key, or none. -/
theorem find_si (h : SI e gn gb w0 s L C P w) (k : Nat) :
    Calls Tryd.prog 41 #[.pointer (some ⟨e, 0, none⟩), .int .u64 (k : Int)] w fun x w' => (∃ v : Int, x = .returned (.int .i32 v) ∧ ((v = -1 ∧ ∀ i, i < s.n → P i → s.key i ≠ k) ∨ ∃ i : Nat, i < s.n ∧ P i ∧ v = (i : Int) ∧ s.key i = k)) ∧ SI e gn gb w0 s L C P w' ∧ Below w.heap.size w w' := by
  have hb := h.c.bw.lt k
  refine (find_walk e gn gb s k _ w h.em h.c.bw (h.c.ch _ hb) (h.c.nd _ hb)).mono ?_
  rintro x w' ⟨rfl, n, rfl⟩
  refine ⟨⟨_, rfl, ?_⟩, h.below (Drew.below ⟨n, rfl⟩ _), Drew.below ⟨n, rfl⟩ _⟩
  rcases fnd_spec s k (C (hsh s k)) with ⟨h1, h2⟩ | ⟨i, h1, h2, h3⟩
  · refine .inl ⟨h1, fun i hi hp e1 => ?_⟩
    have := h.c.mem i hi hp
    rw [e1] at this
    exact h2 i this e1
  · exact .inr ⟨i, (h.c.ch _ hb).lt i h1, (h.c.hs _ i hb h1).2, h2, h3⟩
end
end Go.Proofs.Qxb6500892aDoor
