/- Names in rows: helpers. -/
import Derived.Test.Qxb6500891aPtAt
import Derived.Test.Qxb6500891aOwn
namespace Go.Proofs.Qxb6500891a
open Go.RowKit
set_option linter.unusedSimpArgs false
set_option linter.unusedVariables false

theorem info_nm : ∃ i, Try.prog.info? 36 = some i ∧ i.zero = some (.agg (nameC []).toArray) ∧ i.size = 33 ∧ i.bytes = 33 := by
  have h : (Try.prog.info? 36).map (fun i => (i.zero, i.size, i.bytes)) = some (some (.agg (nameC []).toArray), 33, 33) := by kernel_rfl
  obtain ⟨i, hi, he⟩ := Option.map_eq_some_iff.1 h
  simp only [Prod.mk.injEq] at he
  exact ⟨i, hi, he.1, he.2.1, he.2.2⟩
theorem fold_set : ∀ (cs Z D : List Value), Z.length = cs.length → (cs.zipIdx D.length).foldl (fun (cs : Array Value) (x : Value × Nat) => cs.setIfInBounds x.snd x.fst) (D ++ Z).toArray = (D ++ cs).toArray
  | [], Z, D, h => by
    have : Z = [] := List.eq_nil_of_length_eq_zero (by simpa using h)
    subst this
    rfl
  | v :: cs, [], D, h => by simp at h
  | v :: cs, z :: Z, D, h => by
    rw [List.zipIdx_cons, List.foldl_cons]
    have e : (D ++ z :: Z).toArray.setIfInBounds D.length v = ((D ++ [v]) ++ Z).toArray := by
      rw [List.setIfInBounds_toArray, List.set_append_right _ _ (Nat.le_refl _), Nat.sub_self, List.set_cons_zero]
      simp
    rw [e]
    have := fold_set cs Z (D ++ [v]) (by simpa using h)
    rw [List.length_append, List.length_singleton] at this
    rw [this]
    simp
theorem fold_name {nm : List Nat} (h : nm.length ≤ 32) : List.foldl (fun (cs : Array Value) (x : Value × Nat) => cs.setIfInBounds x.snd x.fst) #[Value.int .u8 0, Value.int .u8 0, Value.int .u8 0, Value.int .u8 0, Value.int .u8 0, Value.int .u8 0, Value.int .u8 0, Value.int .u8 0, Value.int .u8 0, Value.int .u8 0, Value.int .u8 0, Value.int .u8 0, Value.int .u8 0, Value.int .u8 0, Value.int .u8 0, Value.int .u8 0, Value.int .u8 0, Value.int .u8 0, Value.int .u8 0, Value.int .u8 0, Value.int .u8 0, Value.int .u8 0, Value.int .u8 0, Value.int .u8 0, Value.int .u8 0, Value.int .u8 0, Value.int .u8 0, Value.int .u8 0, Value.int .u8 0, Value.int .u8 0, Value.int .u8 0, Value.int .u8 0, Value.int .u8 0] (nameC nm).zipIdx = (nameC nm).toArray := by
  have := fold_set (nameC nm) (nameC []) [] (by rw [nameC_len h]; rfl)
  exact this
/-- A name that NewName gave. -/
structure GoodN (l : List Nat) : Prop where
  nm : NmOk l
  ne : 1 ≤ l.length
theorem nn_good {l : List Nat} (h : nnCode l = 0) (hb : ∀ x ∈ l, x < 256) : GoodN l := by
  unfold nnCode at h
  split at h
  · simp at h
  · rename_i h1
    split at h
    · simp at h
    · refine ⟨⟨by omega, hb⟩, ?_⟩
      cases l with
      | nil => exact absurd rfl h1
      | cons x t => simp
theorem nn_sub {l : List Nat} {s : Sp} (h : SpOk l s) : nnCode (sub l s.a s.b) = 0 := by
  have hl := sub_len (l := l) (a := s.a) h.le
  unfold nnCode
  rw [if_neg (by intro e; rw [e] at hl; simp at hl; have := h.lt; omega), if_neg (by have := h.sh; omega), if_neg]
  intro hb
  unfold badB at hb
  rw [List.any_eq_true] at hb
  obtain ⟨x, hx, hx2⟩ := hb
  have := h.cl x hx
  simp at hx2
  omega
theorem ownsRow_bel {w w' : World} {base : Nat} {e : TypeId} {sz : Nat} {v : Value} {n : Nat} {xs : List Value} (h : w.ownsRow base e sz v n xs) (hb : Below w.heap.size w w') : w'.ownsRow base e sz v n xs := by
  refine ⟨h.1, ?_⟩
  rcases h.2 with h2 | ⟨g, cap, cur, h1, h2, hg, h3⟩
  · exact .inl h2
  · refine .inr ⟨g, cap, cur, h1, h2, ?_, h3⟩
    rw [hb.block g (Array.getElem?_eq_some_iff.1 hg).1]
    exact hg
theorem owns_shape {w : World} {base : Nat} {e : TypeId} {sz : Nat} {v : Value} {n : Nat} {xs : List Value} (h : w.ownsRow base e sz v n xs) : ∃ a c, v = .slice a n c := by
  rcases h.2 with ⟨rfl, h0⟩ | ⟨g, cap, cur, rfl, _⟩
  · subst h0
    exact ⟨none, 0, rfl⟩
  · exact ⟨_, _, rfl⟩
theorem own_ne {w : World} {base : Nat} {e : TypeId} {sz : Nat} {v : Value} {n : Nat} {xs : List Value} {g : Nat} {t : TypeId} {ds : List Value} (h : w.ownsRow base e sz v n xs) (hb : Blk w g t ds) (hne : e ≠ t) : ∀ g', v.ownBlock = some g' → g ≠ g' := by
  intro g' hg' he
  subst he
  rcases h.2 with ⟨rfl, _⟩ | ⟨g2, cap, cur, rfl, _, hg, _⟩
  · cases hg'
  · cases hg'
    unfold Blk at hb
    rw [hb] at hg
    injection hg with hg
    injection hg with _ h2
    exact hne h2.symm
theorem comp_name (nm : List Nat) (cls h : Int) (nd last : Bool) : ∀ j v, (nameC nm)[j]? = some v → (compC nm cls h nd last)[0 + j]? = some v := by
  intro j v hv
  unfold compC
  rw [Nat.zero_add, List.getElem?_append_left (List.getElem?_eq_some_iff.1 hv).1]
  exact hv
theorem comp_hash {nm : List Nat} (hl : nm.length ≤ 32) (cls h : Int) (nd last : Bool) : (compC nm cls h nd last)[34]? = some (.int .u32 h) := by
  unfold compC
  rw [List.getElem?_append_right (by rw [nameC_len hl]; omega), nameC_len hl]
  rfl

/-- A whole struct's load in a quiet walk, behind 'go_big_quiet_want'. -/
theorem quiet_loadO {P : Program} {C : World → Prop} {K : Act → Prop} {a : Act} {o : Oper} (ty : TypeId) (x : Operand) (ho : o.op = .load ty x) (ad : Addr)
    (hx : a.eval x = .pointer (some ad)) (v : Value) (hr : ∀ w, C w → (Instr.loadAt ty (.pointer (some ad))).run P w = .ok v w) (h : K (a.put o.dst v)) : o.quiet P a C K := by
  refine ⟨v, fun w hC => ?_, h⟩
  have e : (execOp a.eval o).run P w = .ok (.value v) w := by simp [execOp, ho, hx, hr w hC]
  unfold Oper.quietAt
  rw [e]
  exact ⟨rfl, rfl⟩
/-- A name's cells, 33 whatever the list. -/
def nameT (l : List Nat) : List Value := nameC (l.take 32)
theorem nameT_len (l : List Nat) : (nameT l).length = 33 := nameC_len (by simp; omega)
theorem nameT_eq {l : List Nat} (h : l.length ≤ 32) : nameT l = nameC l := by unfold nameT; rw [List.take_of_length_le h]
theorem flat_T : ∀ (ns : List (List Nat)), (∀ x ∈ ns, x.length ≤ 32) → ns.flatMap nameC = ns.flatMap nameT
  | [], _ => rfl
  | x :: t, h => by rw [List.flatMap_cons, List.flatMap_cons, nameT_eq (h x (by simp)), flat_T t (fun y hy => h y (by simp [hy]))]
end Go.Proofs.Qxb6500891a
