/- Address; the live handles' addresses; own rows beside maps. -/
import Derived.Test.Qxb6500889aDoorMuL1
namespace Go.Proofs.Qxb6500889aDoor
open Go.RowKit
set_option linter.unusedSimpArgs false
set_option linter.unusedVariables false
section
variable {w w' : World} {ρ : Rl} {L : HL} {T : XL} {V : WL} {H : HS} {X : XS} {m n : Nat} {G : List Nat}
set_option maxRecDepth 1000000 in
theorem address_walk (h : MM w ρ L T H X) (hm : m < 4) (hb : XB X) (v : Nat) (hv : v < 18446744073709551616) :
    Calls Tryd.prog 11 #[.pointer (some ⟨T.xB, 0, none⟩), .int .i64 (m : Int), .int .u64 (v : Int)] w fun e w' => e = .returned (.tuple #[.int .u64 ((tgtX X m v).1 : Int), .int .u8 ((tgtX X m v).2 : Int)]) ∧ w' = w := by
  have HTb := hid (fun w => table_walk T.xB m hm w)
  have HTg := hid (target_walk h hm hb v hv)
  generalize T.xB = xB at *
  generalize (tgtX X m v).1 = ta at *
  generalize (tgtX X m v).2 = tc at *
  clear h hb hv
  go_enter Tryd.func11, Tryd.ntmps11
  go_wp2_with fail
  refine (HTb.out _).mono ?_
  rintro e w1 ⟨rfl, rfl⟩
  go_wp2_with fail
  refine HTg.out.mono ?_
  rintro e w2 ⟨rfl, rfl⟩
  go_wp2
  exact bodyPost_ret (v := .tuple #[.int .u64 (ta : Int), .int .u8 (tc : Int)]) (by simp [results, Tryd.results11, go_sem]) rfl ⟨rfl, rfl⟩
theorem look_live (hm : m < 4) {s : Nat} (hs : s < 128) (hg : (X.tb m).gen ≤ 100000000000) : lookX X m (hN (X.tb m).gen m s) = (X.tb m).ad[s]? := by
  unfold lookX hN
  rw [if_pos (by omega)]
  congr 1
  omega
theorem tgt_live (hn : XN X n) (hb : n ≤ 100000000000) (hm : m < 4) {h : Nat} (hh : h ∈ lvK X m) : ∃ a, a ∈ (X.tb m).ad ∧ tgtX X m h = (a, 0) ∧ h < 18446744073709551616 := by
  unfold lvK at hh
  obtain ⟨s, hs, rfl⟩ := List.mem_map.1 hh
  have hs' := List.mem_range.1 hs
  have h1 := hn.gen m
  have h2 := hn.len m
  have hl := look_live (X := X) hm (s := s) (by omega) (by omega)
  have hx : (X.tb m).ad[s]? = some (X.tb m).ad[s] := List.getElem?_eq_getElem hs'
  rw [hx] at hl
  refine ⟨(X.tb m).ad[s], List.getElem_mem hs', ?_, hN_lt (by omega) hm (by omega)⟩
  unfold tgtX
  rw [if_neg (hN_ne _ _ _), hl]
theorem lvK_len : (lvK X m).length = (X.tb m).ad.length := by simp [lvK]
/-- An own row stands while another block is written. -/
theorem own_upd2 {base r : Nat} {v : Value} {n : Nat} {xs : List Value} (h : w.ownsRow base 50 1 v n xs) (hu : Upd r w w') (hr : ∀ g, v.ownBlock = some g → g ≠ r) : w'.ownsRow base 50 1 v n xs := by
  refine ⟨h.1, ?_⟩
  rcases h.2 with h2 | ⟨g, cap, cur, h1, h2, hg, h3⟩
  · exact .inl h2
  · refine .inr ⟨g, cap, cur, h1, h2, ?_, h3⟩
    rw [hu.block g (Array.getElem?_eq_some_iff.1 hg).1 (hr g (by rw [h1]; rfl))]
    exact hg
theorem own_map {base r : Nat} {v : Value} {n : Nat} {xs : List Value} {E : List Ent} (h : w.ownsRow base 50 1 v n xs) (hp : PN w r E) : ∀ g, v.ownBlock = some g → g ≠ r := by
  intro g hg e
  subst e
  rcases h.2 with ⟨h1, _⟩ | ⟨g', cap, cur, h1, h2, hg', h3⟩
  · rw [h1] at hg; cases hg
  · rw [h1] at hg
    cases hg
    obtain ⟨ck, k1, _⟩ := hp
    rw [k1] at hg'
    cases hg'
theorem own_iter {base r q : Nat} {v : Value} {n : Nat} {xs : List Value} {E : List Ent} {T : List Nat} (h : w.ownsRow base 50 1 v n xs) (hp : IT w r q E T) : ∀ g, v.ownBlock = some g → g ≠ r := by
  intro g hg e
  subst e
  rcases h.2 with ⟨h1, _⟩ | ⟨g', cap, cur, h1, h2, hg', h3⟩
  · rw [h1] at hg; cases hg
  · rw [h1] at hg
    cases hg
    obtain ⟨_, _, _, k1, _⟩ := hp
    rw [k1] at hg'
    cases hg'
theorem own_below {base : Nat} {v : Value} {n : Nat} {xs : List Value} (h : w.ownsRow base 50 1 v n xs) (hb : Below w.heap.size w w') : w'.ownsRow base 50 1 v n xs := by
  refine ⟨h.1, ?_⟩
  rcases h.2 with h2 | ⟨g, cap, cur, h1, h2, hg, h3⟩
  · exact .inl h2
  · exact .inr ⟨g, cap, cur, h1, h2, by rw [hb.block g (Array.getElem?_eq_some_iff.1 hg).1]; exact hg, h3⟩
theorem HM.lookT (h : HM w ρ L H) {a : Nat} {x : Ob} (hx : H.objs a = some x) : (Instr.lookup 78 (.map (some L.mO)) (.int .u64 (a : Int)) true).run Tryd.prog w = .ok (.tuple #[.pointer (some ⟨L.ob a, 0, none⟩), .bool true]) w := by
  obtain ⟨E, h1, h2, h3⟩ := h.mo
  obtain ⟨e, he, rfl⟩ := (h3 a).2 (by rw [hx]; rfl)
  have := h1.lookT Tryd.underlying78 und_addr he
  rw [h2 e he] at this
  exact this
theorem HM.lookC (h : HM w ρ L H) (a : Nat) : (Instr.lookup 83 (.map (some L.mC)) (.int .u64 (a : Int)) false).run Tryd.prog w = .ok (.bool (H.cond a)) w := by
  obtain ⟨E, h1, h2, h3⟩ := h.mc
  cases hc : H.cond a with
  | true =>
    obtain ⟨e, he, rfl⟩ := (h3 a).2 hc
    have := h1.look Tryd.underlying83 und_addr he
    rw [h2 e he] at this
    exact this
  | false => exact h1.lookZ Tryd.underlying83 und_addr (fun e he hek => by have := (h3 a).1 ⟨e, he, hek⟩; rw [hc] at this; cases this) zero_bool
end
end Go.Proofs.Qxb6500889aDoor
