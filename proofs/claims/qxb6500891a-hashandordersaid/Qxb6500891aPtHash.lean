/- HashAndOrder: the law. -/
import Derived.Test.Qxb6500891aPtAt
import Derived.Test.Qxb6500891aPtSz
import Derived.Test.Qxb6500891aPtStrs
namespace Go.Proofs.Qxb6500891a
open Go.RowKit
set_option linter.unusedSimpArgs false
set_option linter.unusedVariables false

theorem info_nm : ∃ i, Try.prog.info? 36 = some i ∧ i.zero = some (.agg (nameC []).toArray) ∧ i.size = 33 ∧ i.bytes = 33 := by
  have h : (Try.prog.info? 36).map (fun i => (i.zero, i.size, i.bytes)) = some (some (.agg (nameC []).toArray), 33, 33) := by kernel_rfl
  obtain ⟨i, hi, he⟩ := Option.map_eq_some_iff.1 h
  simp only [Prod.mk.injEq] at he
  exact ⟨i, hi, he.1, he.2.1, he.2.2⟩
theorem fold_set : ∀ (cs Z D : List Value), Z.length = cs.length → (cs.zipIdx D.length).foldl (fun (cs : Array Value) (x : Value × Nat) => cs.setIfInBounds x.snd x.fst) (D ++ Z).toArray = (D ++ cs).toArray
  | [], Z, D, h => by
    have : Z = [] := List.eq_nil_of_length_eq_zero (by simpa using h)
    subst this
    rfl
  | v :: cs, [], D, h => by simp at h
  | v :: cs, z :: Z, D, h => by
    rw [List.zipIdx_cons, List.foldl_cons]
    have e : (D ++ z :: Z).toArray.setIfInBounds D.length v = ((D ++ [v]) ++ Z).toArray := by
      rw [List.setIfInBounds_toArray, List.set_append_right _ _ (Nat.le_refl _), Nat.sub_self, List.set_cons_zero]
      simp
    rw [e]
    have := fold_set cs Z (D ++ [v]) (by simpa using h)
    rw [List.length_append, List.length_singleton] at this
    rw [this]
    simp
theorem fold_name {nm : List Nat} (h : nm.length ≤ 32) : List.foldl (fun (cs : Array Value) (x : Value × Nat) => cs.setIfInBounds x.snd x.fst) #[Value.int .u8 0, Value.int .u8 0, Value.int .u8 0, Value.int .u8 0, Value.int .u8 0, Value.int .u8 0, Value.int .u8 0, Value.int .u8 0, Value.int .u8 0, Value.int .u8 0, Value.int .u8 0, Value.int .u8 0, Value.int .u8 0, Value.int .u8 0, Value.int .u8 0, Value.int .u8 0, Value.int .u8 0, Value.int .u8 0, Value.int .u8 0, Value.int .u8 0, Value.int .u8 0, Value.int .u8 0, Value.int .u8 0, Value.int .u8 0, Value.int .u8 0, Value.int .u8 0, Value.int .u8 0, Value.int .u8 0, Value.int .u8 0, Value.int .u8 0, Value.int .u8 0, Value.int .u8 0, Value.int .u8 0] (nameC nm).zipIdx = (nameC nm).toArray := by
  have := fold_set (nameC nm) (nameC []) [] (by rw [nameC_len h]; rfl)
  exact this
/-- A name that NewName gave. -/
structure GoodN (l : List Nat) : Prop where
  nm : NmOk l
  ne : 1 ≤ l.length
theorem nn_good {l : List Nat} (h : nnCode l = 0) (hb : ∀ x ∈ l, x < 256) : GoodN l := by
  unfold nnCode at h
  split at h
  · simp at h
  · rename_i h1
    split at h
    · simp at h
    · refine ⟨⟨by omega, hb⟩, ?_⟩
      cases l with
      | nil => exact absurd rfl h1
      | cons x t => simp
theorem nn_sub {l : List Nat} {s : Sp} (h : SpOk l s) : nnCode (sub l s.a s.b) = 0 := by
  have hl := sub_len (l := l) (a := s.a) h.le
  unfold nnCode
  rw [if_neg (by intro e; rw [e] at hl; simp at hl; have := h.lt; omega), if_neg (by have := h.sh; omega), if_neg]
  intro hb
  unfold badB at hb
  rw [List.any_eq_true] at hb
  obtain ⟨x, hx, hx2⟩ := hb
  have := h.cl x hx
  simp at hx2
  omega
theorem ownsRow_bel {w w' : World} {base : Nat} {e : TypeId} {sz : Nat} {v : Value} {n : Nat} {xs : List Value} (h : w.ownsRow base e sz v n xs) (hb : Below w.heap.size w w') : w'.ownsRow base e sz v n xs := by
  refine ⟨h.1, ?_⟩
  rcases h.2 with h2 | ⟨g, cap, cur, h1, h2, hg, h3⟩
  · exact .inl h2
  · refine .inr ⟨g, cap, cur, h1, h2, ?_, h3⟩
    rw [hb.block g (Array.getElem?_eq_some_iff.1 hg).1]
    exact hg
theorem owns_shape {w : World} {base : Nat} {e : TypeId} {sz : Nat} {v : Value} {n : Nat} {xs : List Value} (h : w.ownsRow base e sz v n xs) : ∃ a c, v = .slice a n c := by
  rcases h.2 with ⟨rfl, h0⟩ | ⟨g, cap, cur, rfl, _⟩
  · subst h0
    exact ⟨none, 0, rfl⟩
  · exact ⟨_, _, rfl⟩
theorem own_ne {w : World} {base : Nat} {e : TypeId} {sz : Nat} {v : Value} {n : Nat} {xs : List Value} {g : Nat} {t : TypeId} {ds : List Value} (h : w.ownsRow base e sz v n xs) (hb : Blk w g t ds) (hne : e ≠ t) : ∀ g', v.ownBlock = some g' → g ≠ g' := by
  intro g' hg' he
  subst he
  rcases h.2 with ⟨rfl, _⟩ | ⟨g2, cap, cur, rfl, _, hg, _⟩
  · cases hg'
  · cases hg'
    unfold Blk at hb
    rw [hb] at hg
    injection hg with hg
    injection hg with _ h2
    exact hne h2.symm
/-- The state of the first loop: the rows, the names gathered. -/
structure Hs (w0 : World) (L : List BRow) (ra : Option Addr) (rn rc : Nat) (v : Value) (ns : List (List Nat)) (w : World) : Prop where
  bel : Below w0.heap.size w0 w
  own : w.ownsRow w0.heap.size 36 33 v ns.length (ns.flatMap nameC)
  row : RowOf w 1 browCell ra rn rc L
  ok : ∀ x ∈ ns, GoodN x

theorem Hs.below {w0 w w' : World} {L : List BRow} {ra : Option Addr} {rn rc : Nat} {v : Value} {ns : List (List Nat)} (h : Hs w0 L ra rn rc v ns w) (hb : Below w.heap.size w w') : Hs w0 L ra rn rc v ns w' :=
  ⟨h.bel.trans (hb.mono h.bel.size), ownsRow_bel h.own hb, h.row.below hb, h.ok⟩
/-- .. and a name in block p. -/
structure Hn (w0 : World) (L : List BRow) (ra : Option Addr) (rn rc : Nat) (v : Value) (ns : List (List Nat)) (p : Nat) (nm : List Nat) (w : World) : Prop where
  hs : Hs w0 L ra rn rc v ns w
  bp : Blk w p 36 (nameC nm)
theorem Hn.below {w0 w w' : World} {L : List BRow} {ra : Option Addr} {rn rc : Nat} {v : Value} {ns : List (List Nat)} {p : Nat} {nm : List Nat} (h : Hn w0 L ra rn rc v ns p nm w) (hb : Below w.heap.size w w') : Hn w0 L ra rn rc v ns p nm w' := ⟨h.hs.below hb, h.bp.below hb⟩

/-- .. and the path that Parse gave. -/
structure Hp (w0 : World) (L : List BRow) (ra : Option Addr) (rn rc : Nat) (v : Value) (ns : List (List Nat)) (g : Nat) (ds : List Value) (w : World) : Prop where
  hs : Hs w0 L ra rn rc v ns w
  bp : Blk w g 63 ds
theorem Hp.below {w0 w w' : World} {L : List BRow} {ra : Option Addr} {rn rc : Nat} {v : Value} {ns : List (List Nat)} {g : Nat} {ds : List Value} (h : Hp w0 L ra rn rc v ns g ds w) (hb : Below w.heap.size w w') : Hp w0 L ra rn rc v ns g ds w' := ⟨h.hs.below hb, h.bp.below hb⟩

/-- .. and the component in block q. -/
structure Hc (w0 : World) (L : List BRow) (ra : Option Addr) (rn rc : Nat) (v : Value) (ns : List (List Nat)) (g : Nat) (ds : List Value) (q : Nat) (C : List Value) (w : World) : Prop where
  hp : Hp w0 L ra rn rc v ns g ds w
  bq : Blk w q 40 C
theorem Hc.below {w0 w w' : World} {L : List BRow} {ra : Option Addr} {rn rc : Nat} {v : Value} {ns : List (List Nat)} {g : Nat} {ds : List Value} {q : Nat} {C : List Value} (h : Hc w0 L ra rn rc v ns g ds q C w) (hb : Below w.heap.size w w') : Hc w0 L ra rn rc v ns g ds q C w' := ⟨h.hp.below hb, h.bq.below hb⟩
theorem comp_name (nm : List Nat) (cls h : Int) (nd last : Bool) : ∀ j v, (nameC nm)[j]? = some v → (compC nm cls h nd last)[0 + j]? = some v := by
  intro j v hv
  unfold compC
  rw [Nat.zero_add, List.getElem?_append_left (List.getElem?_eq_some_iff.1 hv).1]
  exact hv
theorem comp_hash {nm : List Nat} (hl : nm.length ≤ 32) (cls h : Int) (nd last : Bool) : (compC nm cls h nd last)[34]? = some (.int .u32 h) := by
  unfold compC
  rw [List.getElem?_append_right (by rw [nameC_len hl]; omega), nameC_len hl]
  rfl

/-- A whole struct's load in a quiet walk, behind 'go_big_quiet_want'. -/
theorem quiet_loadO {P : Program} {C : World → Prop} {K : Act → Prop} {a : Act} {o : Oper} (ty : TypeId) (x : Operand) (ho : o.op = .load ty x) (ad : Addr)
    (hx : a.eval x = .pointer (some ad)) (v : Value) (hr : ∀ w, C w → (Instr.loadAt ty (.pointer (some ad))).run P w = .ok v w) (h : K (a.put o.dst v)) : o.quiet P a C K := by
  refine ⟨v, fun w hC => ?_, h⟩
  have e : (execOp a.eval o).run P w = .ok (.value v) w := by simp [execOp, ho, hx, hr w hC]
  unfold Oper.quietAt
  rw [e]
  exact ⟨rfl, rfl⟩
/-- A name's cells, 33 whatever the list. -/
def nameT (l : List Nat) : List Value := nameC (l.take 32)
theorem nameT_len (l : List Nat) : (nameT l).length = 33 := nameC_len (by simp; omega)
theorem nameT_eq {l : List Nat} (h : l.length ≤ 32) : nameT l = nameC l := by unfold nameT; rw [List.take_of_length_le h]
theorem flat_T : ∀ (ns : List (List Nat)), (∀ x ∈ ns, x.length ≤ 32) → ns.flatMap nameC = ns.flatMap nameT
  | [], _ => rfl
  | x :: t, h => by rw [List.flatMap_cons, List.flatMap_cons, nameT_eq (h x (by simp)), flat_T t (fun y hy => h y (by simp [hy]))]
/-- The state of the loops over 'all'. -/
structure Ha (w0 : World) (va : Option Addr) (an ac : Nat) (ns : List (List Nat)) (w : World) : Prop where
  bel : Below w0.heap.size w0 w
  row : RowOf w 33 nameT va an ac ns
  ok : ∀ x ∈ ns, GoodN x
theorem Ha.below {w0 w w' : World} {va : Option Addr} {an ac : Nat} {ns : List (List Nat)} (h : Ha w0 va an ac ns w) (hb : Below w.heap.size w w') : Ha w0 va an ac ns w' :=
  ⟨h.bel.trans (hb.mono h.bel.size), h.row.below hb, h.ok⟩
theorem Ha.range {w0 w : World} {va : Option Addr} {an ac : Nat} {ns : List (List Nat)} (h : Ha w0 va an ac ns w) {k : Nat} (hk : k < an) : ∃ x, GoodN x ∧ ∃ b off, va = some ⟨b, off, none⟩ ∧ w.rangeAt b (off + k * 33) (nameC x) := by
  obtain ⟨x, hx, b, off, ha, _, hc⟩ := h.row.cell hk
  have hg := h.ok x (List.mem_of_getElem? hx)
  refine ⟨x, hg, b, off, ha, fun j v hv => ?_⟩
  have hj := (List.getElem?_eq_some_iff.1 hv).1
  rw [nameC_len hg.nm.le] at hj
  rw [hc j hj, nameT_eq hg.nm.le]
  exact hv
structure Ha1 (w0 : World) (va : Option Addr) (an ac : Nat) (ns : List (List Nat)) (p : Nat) (C : List Value) (w : World) : Prop where
  ha : Ha w0 va an ac ns w
  bp : Blk w p 36 C
theorem Ha1.below {w0 w w' : World} {va : Option Addr} {an ac : Nat} {ns : List (List Nat)} {p : Nat} {C : List Value} (h : Ha1 w0 va an ac ns p C w) (hb : Below w.heap.size w w') : Ha1 w0 va an ac ns p C w' := ⟨h.ha.below hb, h.bp.below hb⟩
structure Ha2 (w0 : World) (va : Option Addr) (an ac : Nat) (ns : List (List Nat)) (p : Nat) (C : List Value) (q : Nat) (D : List Value) (w : World) : Prop where
  h1 : Ha1 w0 va an ac ns p C w
  bq : Blk w q 36 D
theorem Ha2.below {w0 w w' : World} {va : Option Addr} {an ac : Nat} {ns : List (List Nat)} {p : Nat} {C : List Value} {q : Nat} {D : List Value} (h : Ha2 w0 va an ac ns p C q D w) (hb : Below w.heap.size w w') : Ha2 w0 va an ac ns p C q D w' := ⟨h.h1.below hb, h.bq.below hb⟩
theorem names_row {w0 w : World} {L : List BRow} {ra : Option Addr} {rn rc : Nat} {v : Value} {ns : List (List Nat)} (h : Hs w0 L ra rn rc v ns w) (hb : ns.length ≤ 140737488351232) : ∃ va an ac, v = .slice va an ac ∧ an = ns.length ∧ Ha w0 va an ac ns w := by
  have ho := h.own
  rw [flat_T ns (fun x hx => (h.ok x hx).nm.le)] at ho
  obtain ⟨a, n, c, hv, hr⟩ := ownsRow_row (by omega) nameT_len hb ho
  exact ⟨a, n, c, hv, hr.1.symm, h.bel, hr, h.ok⟩

set_option maxRecDepth 1000000 in
set_option maxHeartbeats 8000000 in
theorem hashLaw_walk (a : Option Addr) (n c : Nat) (l : List POp) (w : World) (hs : Script w a n c l) :
    Calls Try.prog 5 #[.slice a n c] w fun e w' => e = .returned (.bool true) ∧ Below w.heap.size w w' := by
  have HS := hid hs
  have hl := hs.1.1
  clear hs
  go_enter Try.func5, Try.ntmps5
  go_wp2_with fail
  refine (small_walk a n c l _ HS.out).mono ?_
  rintro e w' ⟨r, rfl, rfl, hr⟩
  cases r with
  | false =>
    go_wp2
    go_ret
    exact ⟨rfl, Below.refl _ _⟩
  | true =>
    have hsm := hr rfl
    clear hr
    go_wp2_with fail
    refine (byteStrings_walk a n c l _ HS.out hsm).mono ?_
    rintro e w1 ⟨ra, rn, rc, rfl, hb1, hrow⟩
    have hrn : rn = 2 * n := by rw [← hrow.1, rows_len, hl]
    have HB1 := hid hb1
    have HRow := hid hrow
    clear hb1 hrow
    go_wp2_with fail
    have HRB : Hid (∀ r ∈ rowsOf l, ByteRow w1 r.a r.n r.c r.l) := hid (fun r hr => (rows_ok HS.out.2 r hr).below HB1.out)
    have hw0 : w'.heap.size ≤ w1.heap.size := HB1.out.size
    go_loopw [3, 29] (fun v i wr => ∃ (k : Nat) (ns : List (List Nat)), k ≤ rn ∧ ns.length ≤ k + 24 ∧ i = .int .i64 k ∧ Hid (Hs w1 (rowsOf l) ra rn rc v ns wr)) (fun _ i _ => rn - (intOf i).toNat)
    case atStart => exact ⟨0, [], by omega, by simp, rfl, hid ⟨Below.refl _ _, World.ownsRow_nil _ _ _ _, HRow.out, fun x hx => by cases hx⟩⟩
    case round =>
      obtain ⟨k, ns, hk, hns, rfl, HH⟩ := hrel
      obtain ⟨v3, hv3⟩ : ∃ v3, v3 = u3 := ⟨_, rfl⟩
      by_cases hlt : k < rn
      rotate_left
      · as_aux_lemma =>
        clear hv3 v3
        have dk : decide ((k : Int) < (rn : Int)) = false := decide_eq_false (by omega)
        have hnn : ns.length ≤ 140737488351232 := by have := HRow.out.2.2.1.1; omega
        obtain ⟨va, an, ac, rfl, han, ha⟩ := names_row HH.out hnn
        have hanb : an ≤ 140737488351232 := by omega
        clear han
        have HA0 := hid ha
        clear ha HH
        go_wp2_with fail
        go_loopw [125] (fun i wr => ∃ k : Nat, k ≤ an ∧ i = .int .i64 k ∧ Hid (Ha w1 va an ac ns wr)) (fun i _ => an - (intOf i).toNat)
        case atStart => exact ⟨0, by omega, rfl, HA0⟩
        case round =>
          obtain ⟨k3, hk3, rfl, HA⟩ := hrel
          by_cases hlt3 : k3 < an
          rotate_left
          · as_aux_lemma =>
            have d3 : decide ((k3 : Int) < (an : Int)) = false := decide_eq_false (by omega)
            go_wp2
            go_ret
            exact ⟨rfl, HB1.out.trans (HA.out.bel.mono hw0)⟩
          obtain ⟨x, hgx, b3, off3, rfl, hrg⟩ := HA.out.range hlt3
          obtain ⟨CA, hCA⟩ : ∃ CA, nameC x = CA := ⟨_, rfl⟩
          have hC33 : CA.length = 33 := by rw [← hCA]; exact nameC_len hgx.nm.le
          have HOn : Hid (∀ v ∈ CA, v.oneCell' = true) := hid (by rw [← hCA]; exact one_name x)
          have I1 : Hid ((Try.prog.info? 36).map (·.size) = some CA.length) := hid (by rw [hC33]; exact info_name)
          have L1 : Hid ((nameC []).length = CA.length) := hid (by rw [hC33]; rfl)
          have Hgx := hid hgx
          rw [hCA] at hrg
          have HRg := hid hrg
          have HCA := hid hCA
          clear hrg hgx hCA
          have d3 : decide ((k3 : Int) < (an : Int)) = true := decide_eq_true (by omega)
          have i3 : (k3 : Int) < (an : Int) := by omega
          obtain ⟨p, hp⟩ : ∃ p, wr.heap.size = p := ⟨_, rfl⟩
          have hbn := Blk.new wr (nameC []) 36
          rw [hp] at hbn
          have HBn := hid hbn
          clear hbn
          go_upto_region 30 with (first
            | (refine wpList_load_mid_w rfl 36 _ rfl b3 (off3 + k3 * 33) rfl CA HRg.out _ Try.underlying36 rfl I1.out ?_)
            | (refine wpList_store_blk rfl 36 _ _ rfl p rfl CA rfl HBn.out L1.out I1.out HOn.out ?_; intro w3 HB3 HU3))
          have HA3 : Hid (Ha1 w1 (some ⟨b3, off3, none⟩) an ac ns p CA w3) := hid ⟨HA.out.below ((nbel wr _).trans (HU3.out.below (by omega) (by simp))), HB3.out⟩
          clear HB3 HU3 HBn HRg
          go_wp2_with fail
          go_loopw [131] (fun i wr => ∃ k : Nat, k ≤ an ∧ i = .int .i64 k ∧ Hid (Ha1 w1 (some ⟨b3, off3, none⟩) an ac ns p CA wr)) (fun i _ => an - (intOf i).toNat)
          case atStart => exact ⟨0, by omega, rfl, HA3⟩
          case round =>
            obtain ⟨k4, hk4, rfl, HA4⟩ := hrel
            by_cases hlt4 : k4 < an
            rotate_left
            · as_aux_lemma =>
              have d4 : decide ((k4 : Int) < (an : Int)) = false := decide_eq_false (by omega)
              have HHx := hid (fun w => nmHash_walk x Hgx.out.nm w)
              unfold nameV at HHx
              rw [HCA.out] at HHx
              obtain ⟨H, hH⟩ : ∃ H, hashL 2166136261 x = H := ⟨_, rfl⟩
              rw [hH] at HHx
              go_wp2_with fail
              go_loopw [21] (fun i wr => ∃ m : Nat, 1 ≤ m ∧ m ≤ 128 ∧ i = .int .i64 m ∧ Hid (Ha1 w1 (some ⟨b3, off3, none⟩) an ac ns p CA wr)) (fun i _ => 128 - (intOf i).toNat)
              case atStart => exact ⟨1, by omega, by omega, rfl, HA4⟩
              case round =>
                obtain ⟨m, hm1, hm2, rfl, HA5⟩ := hrel
                by_cases hm : m ≤ 64
                rotate_left
                · as_aux_lemma =>
                  have d5 : decide ((m : Int) ≤ 64) = false := decide_eq_false (by omega)
                  go_wp2
                  exact ⟨⟨k3 + 1, by omega, by go_num, hid HA5.out.ha⟩, by simp [intOf]; omega⟩
                · as_aux_lemma =>
                  have d5 : decide ((m : Int) ≤ 64) = true := decide_eq_true (by omega)
                  have wm : IntKind.u32.wrap (m : Int) = m := by rw [IntKind.wrap_u32]; omega
                  have HIn := hid (fun w => hashIn_walk (m : Int) H ⟨by omega, by omega⟩ w)
                  have hrg5 := hashIn_rng (m : Int) H
                  obtain ⟨Z, hZ⟩ : ∃ Z, hashIn (m : Int) H = Z := ⟨_, rfl⟩
                  rw [hZ] at HIn hrg5
                  have HBk := hid (fun w => bucket_walk Z m hrg5 hm1 hm w)
                  clear hrg5
                  go_wp2_with (refine wpList_load_blk rfl 36 _ rfl p rfl CA HA5.out.bp _ Try.underlying36 rfl I1.out ?_)
                  refine (HHx.out _).mono ?_
                  rintro e w6 ⟨rfl, hb6⟩
                  have HA6 := hid (HA5.out.below hb6)
                  clear hb6
                  go_wp2_with fail
                  refine (HIn.out _).mono ?_
                  rintro e w7 ⟨rfl, rfl⟩
                  go_wp2_with fail
                  refine (HBk.out _).mono ?_
                  rintro e w8 ⟨⟨kk, hkk, rfl⟩, rfl⟩
                  have e1 : decide ((kk : Int) < 0) = false := decide_eq_false (by omega)
                  have e2 : decide ((m : Int) ≤ (kk : Int)) = false := decide_eq_false (by omega)
                  have e3 : decide ((kk : Int) ≥ (m : Int)) = false := decide_eq_false (by omega)
                  go_wp2
                  exact ⟨⟨m * 2, by omega, by omega, by go_num, HA6⟩, by simp [intOf]; omega⟩
            obtain ⟨y, hgy, b4, off4, he4, hrg⟩ := HA4.out.ha.range hlt4
            cases he4
            obtain ⟨CB, hCB⟩ : ∃ CB, nameC y = CB := ⟨_, rfl⟩
            have hD33 : CB.length = 33 := by rw [← hCB]; exact nameC_len hgy.nm.le
            have HOn4 : Hid (∀ v ∈ CB, v.oneCell' = true) := hid (by rw [← hCB]; exact one_name y)
            have I4 : Hid ((Try.prog.info? 36).map (·.size) = some CB.length) := hid (by rw [hD33]; exact info_name)
            have L4 : Hid ((nameC []).length = CB.length) := hid (by rw [hD33]; rfl)
            have Hgy := hid hgy
            rw [hCB] at hrg
            have HRg := hid hrg
            have HCB := hid hCB
            clear hrg hgy hCB
            have d4 : decide ((k4 : Int) < (an : Int)) = true := decide_eq_true (by omega)
            have i4 : (k4 : Int) < (an : Int) := by omega
            obtain ⟨q, hq⟩ : ∃ q, wr.heap.size = q := ⟨_, rfl⟩
            have hbn := Blk.new wr (nameC []) 36
            rw [hq] at hbn
            have HBn := hid hbn
            clear hbn
            go_upto_region 33 with (first
              | (refine wpList_load_mid_w rfl 36 _ rfl b3 (off3 + k4 * 33) rfl CB HRg.out _ Try.underlying36 rfl I4.out ?_)
              | (refine wpList_store_blk rfl 36 _ _ rfl q rfl CB rfl HBn.out L4.out I4.out HOn4.out ?_; intro w5 HB5 HU5))
            have HA5 : Hid (Ha2 w1 (some ⟨b3, off3, none⟩) an ac ns p CA q CB w5) := hid ⟨HA4.out.below ((nbel wr _).trans (HU5.out.below (by omega) (by simp))), HB5.out⟩
            clear HB5 HU5 HBn HRg
            obtain ⟨X, W, hT, hI⟩ := class_mk (Ha2 w1 (some ⟨b3, off3, none⟩) an ac ns p CA q CB)
            have HCl : Hid (∀ x w', Below (W x).heap.size (W x) w' → ∃ y, w' = W y) := hid (fun x w' hb => hI _ ((hT x).below hb))
            have HD : Hid (∀ x, ∃ y, (W x).drew = W y) := hid (fun x => HCl.out x _ (Drew.below ⟨1, rfl⟩ _))
            have H0 : Hid (∃ x, w5.drew = W x) := hid (hI _ (HA5.out.below (Drew.below ⟨1, rfl⟩ _)))
            have hne : Nonempty X := ⟨H0.out.choose⟩
            have hlda : ∀ x, (Instr.loadAt 36 (.pointer (some ⟨p, 0, none⟩))).run Try.prog (W x) = .ok (.agg CA.toArray) (W x) := fun x => run_loadAt_mid (W x) p 0 36 CA _ (hT x).h1.bp.rangeAt Try.underlying36 rfl I1.out
            have hldb : ∀ x, (Instr.loadAt 36 (.pointer (some ⟨q, 0, none⟩))).run Try.prog (W x) = .ok (.agg CB.toArray) (W x) := fun x => run_loadAt_mid (W x) q 0 36 CB _ (hT x).bq.rangeAt Try.underlying36 rfl I4.out
            have Hlda := hid hlda
            have Hldb := hid hldb
            clear hlda hldb
            have HSa := hid (fun w => nmString_walk x Hgx.out.nm w)
            have HSb := hid (fun w => nmString_walk y Hgy.out.nm w)
            have HEq := hid (fun w => nmEqual_walk x y Hgx.out.nm Hgy.out.nm w)
            have HC1 := hid (fun w => nmCompare_walk x y Hgx.out.nm Hgy.out.nm w)
            have HC2 := hid (fun w => nmCompare_walk y x Hgy.out.nm Hgx.out.nm w)
            have HH1 := hid (fun w => nmHash_walk x Hgx.out.nm w)
            have HH2 := hid (fun w => nmHash_walk y Hgy.out.nm w)
            have hsq := nums_eq Hgx.out.nm.b Hgy.out.nm.b
            unfold nameV at HSa HSb HEq HC1 HC2 HH1 HH2
            rw [HCA.out] at HSa HEq HC1 HC2 HH1
            rw [HCB.out] at HSb HEq HC1 HC2 HH2
            obtain ⟨sa, hsa⟩ : ∃ sa, strL x = sa := ⟨_, rfl⟩
            obtain ⟨sb, hsb⟩ : ∃ sb, strL y = sb := ⟨_, rfl⟩
            change ((strL x).toList == (strL y).toList) = _ at hsq
            rw [hsa, hsb] at hsq
            rw [hsa] at HSa
            rw [hsb] at HSb
            clear hsa hsb
            rw [cmpL_neg y x] at HC2
            have hxy : (x = y ∧ cmpL x y = 0) ∨ (x ≠ y ∧ (cmpL x y = -1 ∨ cmpL x y = 1)) := by
              rcases cmpL_rng x y with h | h | h
              · exact .inr ⟨fun e => by rw [e, cmpL_refl] at h; omega, .inl h⟩
              · exact .inl ⟨cmpL_eq h, h⟩
              · exact .inr ⟨fun e => by rw [e, cmpL_refl] at h; omega, .inr h⟩
            have HIn := hid (fun h w => hashIn_walk 7 h ⟨by omega, by omega⟩ w)
            obtain ⟨H1, hH1⟩ : ∃ H, hashL 2166136261 x = H := ⟨_, rfl⟩
            obtain ⟨H2, hH2⟩ : ∃ H, hashL 2166136261 y = H := ⟨_, rfl⟩
            rw [hH1] at HH1
            rw [hH2] at HH2
            refine wp_region_class W (by kernel_rfl) (by kernel_rfl) H0.out ?_
            try simp only [Act.put]
            repeat (first
              | (go_big_quiet_want; refine quiet_loadO 36 _ rfl ⟨p, 0, none⟩ rfl _ (fun w hx => by obtain ⟨x, rfl⟩ := hx; exact Hlda.out x) ?_; simp only [Act.put, List.setIfInBounds_toArray, List.set_cons_succ, List.set_cons_zero]; go_big_quiet_on)
              | (go_big_quiet_want; refine quiet_loadO 36 _ rfl ⟨q, 0, none⟩ rfl _ (fun w hx => by obtain ⟨x, rfl⟩ := hx; exact Hldb.out x) ?_; simp only [Act.put, List.setIfInBounds_toArray, List.set_cons_succ, List.set_cons_zero]; go_big_quiet_on)
              | (go_big_quiet_step (first
                | (go_at_call 21; first | with_reducible exact Calls.class_of HCl.out (HSa.out _) | with_reducible exact Calls.class_of HCl.out (HSb.out _))
                | (go_at_call 27; with_reducible exact Calls.class_of HCl.out (HEq.out _))
                | (go_at_call 28; first | with_reducible exact Calls.class_of HCl.out (HC1.out _) | with_reducible exact Calls.class_of HCl.out (HC2.out _))
                | (go_at_call 23; first | with_reducible exact Calls.class_of HCl.out (HH1.out _) | with_reducible exact Calls.class_of HCl.out (HH2.out _))
                | (go_at_call 29; with_reducible exact Calls.class_same (HIn.out _)))))
            refine wpQuiet_nil ?_
            intro x0
            obtain ⟨S, hS⟩ : ∃ S, decide (x = y) = S := ⟨_, rfl⟩
            obtain ⟨c0, hc0⟩ : ∃ c0, cmpL x y = c0 := ⟨_, rfl⟩
            rw [hS] at HEq
            simp only [hS]
            rw [hc0] at HC1 HC2
            obtain ⟨c2, hc2⟩ : ∃ c2, -c0 = c2 := ⟨_, rfl⟩
            rw [hc2] at HC2
            have hxy3 : (S = true ∧ c0 = 0 ∧ c2 = 0 ∧ H1 = H2) ∨ (S = false ∧ c0 = -1 ∧ c2 = 1) ∨ (S = false ∧ c0 = 1 ∧ c2 = -1) := by
              rcases hxy with ⟨h1, h2⟩ | ⟨h1, h2 | h2⟩
              · refine .inl ⟨by rw [← hS]; simpa using h1, by omega, by omega, ?_⟩
                rw [← hH1, ← hH2, h1]
              · exact .inr (.inl ⟨by rw [← hS]; simpa using h1, by omega, by omega⟩)
              · exact .inr (.inr ⟨by rw [← hS]; simpa using h1, by omega, by omega⟩)
            clear hxy hS hc0 hc2 hH1 hH2 hsq
            have hTT := hid hT
            clear hT hI
            rcases hxy3 with ⟨rfl, rfl, rfl, rfl⟩ | ⟨rfl, rfl, rfl⟩ | ⟨rfl, rfl, rfl⟩
            · as_aux_lemma =>
              go_upto_region 34 with fail
              refine wp_region_class W (by kernel_rfl) (by kernel_rfl) (HD.out x0) ?_
              try simp only [Act.put]
              repeat (first
                | (go_big_quiet_want; refine quiet_loadO 36 _ rfl ⟨p, 0, none⟩ rfl _ (fun w hx => by obtain ⟨x, rfl⟩ := hx; exact Hlda.out x) ?_; simp only [Act.put, List.setIfInBounds_toArray, List.set_cons_succ, List.set_cons_zero]; go_big_quiet_on)
                | (go_big_quiet_want; refine quiet_loadO 36 _ rfl ⟨q, 0, none⟩ rfl _ (fun w hx => by obtain ⟨x, rfl⟩ := hx; exact Hldb.out x) ?_; simp only [Act.put, List.setIfInBounds_toArray, List.set_cons_succ, List.set_cons_zero]; go_big_quiet_on)
                | (go_big_quiet_step (first
                  | (go_at_call 27; with_reducible exact Calls.class_of HCl.out (HEq.out _))
                  | (go_at_call 28; first | with_reducible exact Calls.class_of HCl.out (HC1.out _) | with_reducible exact Calls.class_of HCl.out (HC2.out _))
                  | (go_at_call 23; first | with_reducible exact Calls.class_of HCl.out (HH1.out _) | with_reducible exact Calls.class_of HCl.out (HH2.out _))
                  | (go_at_call 29; with_reducible exact Calls.class_same (HIn.out _ _)))))
              refine wpQuiet_nil ?_
              intro x1
              go_upto_region 36 with fail
              refine wp_region_class W (by kernel_rfl) (by kernel_rfl) (HD.out x1) ?_
              try simp only [Act.put]
              repeat (first
                | (go_big_quiet_want; refine quiet_loadO 36 _ rfl ⟨p, 0, none⟩ rfl _ (fun w hx => by obtain ⟨x, rfl⟩ := hx; exact Hlda.out x) ?_; simp only [Act.put, List.setIfInBounds_toArray, List.set_cons_succ, List.set_cons_zero]; go_big_quiet_on)
                | (go_big_quiet_want; refine quiet_loadO 36 _ rfl ⟨q, 0, none⟩ rfl _ (fun w hx => by obtain ⟨x, rfl⟩ := hx; exact Hldb.out x) ?_; simp only [Act.put, List.setIfInBounds_toArray, List.set_cons_succ, List.set_cons_zero]; go_big_quiet_on)
                | (go_big_quiet_step (first
                  | (go_at_call 27; with_reducible exact Calls.class_of HCl.out (HEq.out _))
                  | (go_at_call 28; first | with_reducible exact Calls.class_of HCl.out (HC1.out _) | with_reducible exact Calls.class_of HCl.out (HC2.out _))
                  | (go_at_call 23; first | with_reducible exact Calls.class_of HCl.out (HH1.out _) | with_reducible exact Calls.class_of HCl.out (HH2.out _))
                  | (go_at_call 29; with_reducible exact Calls.class_same (HIn.out _ _)))))
              refine wpQuiet_nil ?_
              intro x2
              go_upto_region 38 with fail
              refine wp_region_class W (by kernel_rfl) (by kernel_rfl) (HD.out x2) ?_
              try simp only [Act.put]
              repeat (first
                | (go_big_quiet_want; refine quiet_loadO 36 _ rfl ⟨p, 0, none⟩ rfl _ (fun w hx => by obtain ⟨x, rfl⟩ := hx; exact Hlda.out x) ?_; simp only [Act.put, List.setIfInBounds_toArray, List.set_cons_succ, List.set_cons_zero]; go_big_quiet_on)
                | (go_big_quiet_want; refine quiet_loadO 36 _ rfl ⟨q, 0, none⟩ rfl _ (fun w hx => by obtain ⟨x, rfl⟩ := hx; exact Hldb.out x) ?_; simp only [Act.put, List.setIfInBounds_toArray, List.set_cons_succ, List.set_cons_zero]; go_big_quiet_on)
                | (go_big_quiet_step (first
                  | (go_at_call 27; with_reducible exact Calls.class_of HCl.out (HEq.out _))
                  | (go_at_call 28; first | with_reducible exact Calls.class_of HCl.out (HC1.out _) | with_reducible exact Calls.class_of HCl.out (HC2.out _))
                  | (go_at_call 23; first | with_reducible exact Calls.class_of HCl.out (HH1.out _) | with_reducible exact Calls.class_of HCl.out (HH2.out _))
                  | (go_at_call 29; with_reducible exact Calls.class_same (HIn.out _ _)))))
              refine wpQuiet_nil ?_
              intro x3
              have HAe := hid (hTT.out x3).h1
              go_wp2_with fail
              exact ⟨⟨k4 + 1, by omega, by go_num, HAe⟩, by simp [intOf]; omega⟩
            · as_aux_lemma =>
              go_upto_region 34 with fail
              refine wp_region_class W (by kernel_rfl) (by kernel_rfl) (HD.out x0) ?_
              try simp only [Act.put]
              repeat (first
                | (go_big_quiet_want; refine quiet_loadO 36 _ rfl ⟨p, 0, none⟩ rfl _ (fun w hx => by obtain ⟨x, rfl⟩ := hx; exact Hlda.out x) ?_; simp only [Act.put, List.setIfInBounds_toArray, List.set_cons_succ, List.set_cons_zero]; go_big_quiet_on)
                | (go_big_quiet_want; refine quiet_loadO 36 _ rfl ⟨q, 0, none⟩ rfl _ (fun w hx => by obtain ⟨x, rfl⟩ := hx; exact Hldb.out x) ?_; simp only [Act.put, List.setIfInBounds_toArray, List.set_cons_succ, List.set_cons_zero]; go_big_quiet_on)
                | (go_big_quiet_step (first
                  | (go_at_call 27; with_reducible exact Calls.class_of HCl.out (HEq.out _))
                  | (go_at_call 28; first | with_reducible exact Calls.class_of HCl.out (HC1.out _) | with_reducible exact Calls.class_of HCl.out (HC2.out _))
                  | (go_at_call 23; first | with_reducible exact Calls.class_of HCl.out (HH1.out _) | with_reducible exact Calls.class_of HCl.out (HH2.out _))
                  | (go_at_call 29; with_reducible exact Calls.class_same (HIn.out _ _)))))
              refine wpQuiet_nil ?_
              intro x1
              go_upto_region 36 with fail
              refine wp_region_class W (by kernel_rfl) (by kernel_rfl) (HD.out x1) ?_
              try simp only [Act.put]
              repeat (first
                | (go_big_quiet_want; refine quiet_loadO 36 _ rfl ⟨p, 0, none⟩ rfl _ (fun w hx => by obtain ⟨x, rfl⟩ := hx; exact Hlda.out x) ?_; simp only [Act.put, List.setIfInBounds_toArray, List.set_cons_succ, List.set_cons_zero]; go_big_quiet_on)
                | (go_big_quiet_want; refine quiet_loadO 36 _ rfl ⟨q, 0, none⟩ rfl _ (fun w hx => by obtain ⟨x, rfl⟩ := hx; exact Hldb.out x) ?_; simp only [Act.put, List.setIfInBounds_toArray, List.set_cons_succ, List.set_cons_zero]; go_big_quiet_on)
                | (go_big_quiet_step (first
                  | (go_at_call 27; with_reducible exact Calls.class_of HCl.out (HEq.out _))
                  | (go_at_call 28; first | with_reducible exact Calls.class_of HCl.out (HC1.out _) | with_reducible exact Calls.class_of HCl.out (HC2.out _))
                  | (go_at_call 23; first | with_reducible exact Calls.class_of HCl.out (HH1.out _) | with_reducible exact Calls.class_of HCl.out (HH2.out _))
                  | (go_at_call 29; with_reducible exact Calls.class_same (HIn.out _ _)))))
              refine wpQuiet_nil ?_
              intro x2
              go_upto_region 38 with fail
              refine wp_region_class W (by kernel_rfl) (by kernel_rfl) (HD.out x2) ?_
              try simp only [Act.put]
              repeat (first
                | (go_big_quiet_want; refine quiet_loadO 36 _ rfl ⟨p, 0, none⟩ rfl _ (fun w hx => by obtain ⟨x, rfl⟩ := hx; exact Hlda.out x) ?_; simp only [Act.put, List.setIfInBounds_toArray, List.set_cons_succ, List.set_cons_zero]; go_big_quiet_on)
                | (go_big_quiet_want; refine quiet_loadO 36 _ rfl ⟨q, 0, none⟩ rfl _ (fun w hx => by obtain ⟨x, rfl⟩ := hx; exact Hldb.out x) ?_; simp only [Act.put, List.setIfInBounds_toArray, List.set_cons_succ, List.set_cons_zero]; go_big_quiet_on)
                | (go_big_quiet_step (first
                  | (go_at_call 27; with_reducible exact Calls.class_of HCl.out (HEq.out _))
                  | (go_at_call 28; first | with_reducible exact Calls.class_of HCl.out (HC1.out _) | with_reducible exact Calls.class_of HCl.out (HC2.out _))
                  | (go_at_call 23; first | with_reducible exact Calls.class_of HCl.out (HH1.out _) | with_reducible exact Calls.class_of HCl.out (HH2.out _))
                  | (go_at_call 29; with_reducible exact Calls.class_same (HIn.out _ _)))))
              refine wpQuiet_nil ?_
              intro x3
              have HAe := hid (hTT.out x3).h1
              go_wp2_with fail
              exact ⟨⟨k4 + 1, by omega, by go_num, HAe⟩, by simp [intOf]; omega⟩
            · as_aux_lemma =>
              go_upto_region 34 with fail
              refine wp_region_class W (by kernel_rfl) (by kernel_rfl) (HD.out x0) ?_
              try simp only [Act.put]
              repeat (first
                | (go_big_quiet_want; refine quiet_loadO 36 _ rfl ⟨p, 0, none⟩ rfl _ (fun w hx => by obtain ⟨x, rfl⟩ := hx; exact Hlda.out x) ?_; simp only [Act.put, List.setIfInBounds_toArray, List.set_cons_succ, List.set_cons_zero]; go_big_quiet_on)
                | (go_big_quiet_want; refine quiet_loadO 36 _ rfl ⟨q, 0, none⟩ rfl _ (fun w hx => by obtain ⟨x, rfl⟩ := hx; exact Hldb.out x) ?_; simp only [Act.put, List.setIfInBounds_toArray, List.set_cons_succ, List.set_cons_zero]; go_big_quiet_on)
                | (go_big_quiet_step (first
                  | (go_at_call 27; with_reducible exact Calls.class_of HCl.out (HEq.out _))
                  | (go_at_call 28; first | with_reducible exact Calls.class_of HCl.out (HC1.out _) | with_reducible exact Calls.class_of HCl.out (HC2.out _))
                  | (go_at_call 23; first | with_reducible exact Calls.class_of HCl.out (HH1.out _) | with_reducible exact Calls.class_of HCl.out (HH2.out _))
                  | (go_at_call 29; with_reducible exact Calls.class_same (HIn.out _ _)))))
              refine wpQuiet_nil ?_
              intro x1
              go_upto_region 36 with fail
              refine wp_region_class W (by kernel_rfl) (by kernel_rfl) (HD.out x1) ?_
              try simp only [Act.put]
              repeat (first
                | (go_big_quiet_want; refine quiet_loadO 36 _ rfl ⟨p, 0, none⟩ rfl _ (fun w hx => by obtain ⟨x, rfl⟩ := hx; exact Hlda.out x) ?_; simp only [Act.put, List.setIfInBounds_toArray, List.set_cons_succ, List.set_cons_zero]; go_big_quiet_on)
                | (go_big_quiet_want; refine quiet_loadO 36 _ rfl ⟨q, 0, none⟩ rfl _ (fun w hx => by obtain ⟨x, rfl⟩ := hx; exact Hldb.out x) ?_; simp only [Act.put, List.setIfInBounds_toArray, List.set_cons_succ, List.set_cons_zero]; go_big_quiet_on)
                | (go_big_quiet_step (first
                  | (go_at_call 27; with_reducible exact Calls.class_of HCl.out (HEq.out _))
                  | (go_at_call 28; first | with_reducible exact Calls.class_of HCl.out (HC1.out _) | with_reducible exact Calls.class_of HCl.out (HC2.out _))
                  | (go_at_call 23; first | with_reducible exact Calls.class_of HCl.out (HH1.out _) | with_reducible exact Calls.class_of HCl.out (HH2.out _))
                  | (go_at_call 29; with_reducible exact Calls.class_same (HIn.out _ _)))))
              refine wpQuiet_nil ?_
              intro x2
              go_upto_region 38 with fail
              refine wp_region_class W (by kernel_rfl) (by kernel_rfl) (HD.out x2) ?_
              try simp only [Act.put]
              repeat (first
                | (go_big_quiet_want; refine quiet_loadO 36 _ rfl ⟨p, 0, none⟩ rfl _ (fun w hx => by obtain ⟨x, rfl⟩ := hx; exact Hlda.out x) ?_; simp only [Act.put, List.setIfInBounds_toArray, List.set_cons_succ, List.set_cons_zero]; go_big_quiet_on)
                | (go_big_quiet_want; refine quiet_loadO 36 _ rfl ⟨q, 0, none⟩ rfl _ (fun w hx => by obtain ⟨x, rfl⟩ := hx; exact Hldb.out x) ?_; simp only [Act.put, List.setIfInBounds_toArray, List.set_cons_succ, List.set_cons_zero]; go_big_quiet_on)
                | (go_big_quiet_step (first
                  | (go_at_call 27; with_reducible exact Calls.class_of HCl.out (HEq.out _))
                  | (go_at_call 28; first | with_reducible exact Calls.class_of HCl.out (HC1.out _) | with_reducible exact Calls.class_of HCl.out (HC2.out _))
                  | (go_at_call 23; first | with_reducible exact Calls.class_of HCl.out (HH1.out _) | with_reducible exact Calls.class_of HCl.out (HH2.out _))
                  | (go_at_call 29; with_reducible exact Calls.class_same (HIn.out _ _)))))
              refine wpQuiet_nil ?_
              intro x3
              have HAe := hid (hTT.out x3).h1
              go_wp2_with fail
              exact ⟨⟨k4 + 1, by omega, by go_num, HAe⟩, by simp [intOf]; omega⟩
      obtain ⟨r, hr, b, off, rfl, hbk, cr⟩ := HH.out.row.cell1 hlt
      obtain ⟨qa, qn, qc, ql⟩ := r
      have HQ : Hid (ByteRow w1 qa qn qc ql) := hid (HRB.out _ (List.mem_of_getElem? hr))
      have cr' : wr.cell? ⟨b, off + k, none⟩ = some (.slice qa qn qc) := cr
      have HQ1 : Hid (ByteRow wr qa qn qc ql) := hid (HQ.out.below HH.out.bel)
      have i1 : (k : Int) < (rn : Int) := by omega
      clear hr cr hv3
      go_wp2_with fail
      refine (newName_walk qa qn qc ql _ HQ1.out).mono ?_
      rintro e w2 ⟨rfl, hb2⟩
      obtain ⟨nm, hnm⟩ : ∃ nm, nnRes ql = nm := ⟨_, rfl⟩
      obtain ⟨cd, hcd⟩ : ∃ cd, nnCode ql = cd := ⟨_, rfl⟩
      rw [hnm, hcd]
      have hnm32 : nm.length ≤ 32 := by
        rw [← hnm]
        unfold nnRes
        split
        · rename_i h0; exact (nn_good h0 HQ.out.2).nm.le
        · simp
      have HH2 := hid (HH.out.below hb2)
      have HQ2 := hid (HQ1.out.below hb2)
      obtain ⟨p, hp⟩ : ∃ p, w2.heap.size = p := ⟨_, rfl⟩
      have I1 : Hid ((Try.prog.info? 36).map (·.size) = some (nameC nm).length) := hid (by rw [nameC_len hnm32]; exact info_name)
      have L1 : Hid ((nameC []).length = (nameC nm).length) := hid (by rw [nameC_len hnm32]; rfl)
      have hbn := Blk.new w2 (nameC []) 36
      rw [hp] at hbn
      have HBn := hid hbn
      clear hb2 hbn cr'
      unfold nameV
      go_upto_region 8 with (refine wpList_store_blk rfl 36 _ _ rfl p rfl (nameC nm) rfl HBn.out L1.out I1.out (one_name nm) ?_; intro w3 HB3 HU3)
      have HN3 : Hid (Hn w1 (rowsOf l) (some ⟨b, off, none⟩) rn rc u3 ns p nm w3) := hid ⟨HH2.out.below ((nbel w2 _).trans (HU3.out.below (by omega) (by simp))), HB3.out⟩
      clear HB3 HU3 HBn
      go_upto_if 39 with fail
      go_cut [3] from 38 to 59 (fun v wc => ∃ ns', ns'.length ≤ k + 25 ∧ Hid (Hs w1 (rowsOf l) (some ⟨b, off, none⟩) rn rc v ns' wc))
      case first =>
        as_aux_lemma =>
        by_cases hc0 : cd = 0
        · subst hc0
          have hnq : nm = ql := by rw [← hnm]; exact nnRes_ok hcd
          subst hnq
          have hg := nn_good hcd HQ.out.2
          have Hg := hid hg
          have HHash := hid (fun w => nmHash_walk nm hg.nm w)
          have HLen := hid (fun w => nmLen_walk nm hg.nm w)
          have HEmp := hid (fun w => nmEmpty_walk nm hg.nm hg.ne w)
          have hln : nm.length = qn := HQ.out.len
          rw [hln] at HLen
          unfold nameV at HHash HLen HEmp
          clear hg
          have HQ3 := hid (HQ.out.below HN3.out.hs.bel)
          go_wp2_with (refine wpList_load_blk rfl 36 _ rfl p rfl (nameC nm) HN3.out.bp _ Try.underlying36 rfl I1.out ?_)
          refine (HHash.out _).mono ?_
          rintro e w4 ⟨rfl, hb4⟩
          have HN4 := hid (HN3.out.below hb4)
          have HQ4 := hid (HQ3.out.below hb4)
          clear hb4
          go_wp2_with (first
            | (go_at_call 24; refine (hashBytes_walk qa qn qc nm _ HQ4.out).mono ?_; rintro e w5 ⟨rfl, rfl⟩)
            | (refine wpList_load_blk_w rfl 36 _ rfl p rfl (nameC nm) HN4.out.bp _ Try.underlying36 rfl I1.out ?_))
          refine (HLen.out _).mono ?_
          rintro e w6 ⟨rfl, hb6⟩
          have HN6 := hid (HN4.out.below hb6)
          clear hb6
          go_wp2_with (refine wpList_load_blk_w rfl 36 _ rfl p rfl (nameC nm) HN6.out.bp _ Try.underlying36 rfl I1.out ?_)
          refine (HEmp.out _).mono ?_
          rintro e w7 ⟨rfl, hb7⟩
          have HN7 := hid (HN6.out.below hb7)
          clear hb7
          obtain ⟨i0, hi, hz0, hz1, hz2⟩ := info_nm
          have HI := hid (And.intro hi (And.intro hz0 (And.intro hz1 hz2)))
          clear hi hz0 hz1 hz2
          have hnm33 : (nameC nm).length = 33 := nameC_len hnm32
          have hfold := fold_name hnm32
          have hbb : (ns.length + 1) * 33 ≤ 140737488355328 := by omega
          have HO7 := hid (HN7.out.hs.own.alloc (.cells (nameC nm).toArray 36))
          have hbs7 : w1.heap.size ≤ (w7.alloc (.cells (nameC nm).toArray 36)).heap.size := by have := HN7.out.hs.bel.size; simp; omega
          go_upto_region 11 with fail
          go_wp2_with (first
            | (refine wpList_load_blk rfl 36 _ rfl p rfl (nameC nm) HN7.out.bp _ Try.underlying36 rfl I1.out ?_)
            | (at_builtin; refine wpList_append_row _ rfl (.tmp 56) (.tmp 58) 49 rfl w1.heap.size 36 i0 (.agg (nameC []).toArray) 33 33 Try.underlying49 HI.out.1 HI.out.2.1 HI.out.2.2.1 HI.out.2.2.2 rfl (by decide) _ _ _ rfl HO7.out (some ⟨w7.heap.size, 0, none⟩) 1 1 (nameC nm) rfl (by rw [hnm33]) (fun h => by cases h) (newRow _ (nameC nm) _ _ rfl) (one_name nm) hbb (by decide) hbs7 ?_; intro v8 w8 hown8 hb8 hk8 hg8))
          have HS8 : Hid (Hs w1 (rowsOf l) (some ⟨b, off, none⟩) rn rc v8 (ns ++ [nm]) w8) := hid (by
            have hbel : Below w1.heap.size w1 w8 := (HN7.out.hs.bel.alloc HN7.out.hs.bel.size _).trans hb8
            refine ⟨hbel, ?_, HRow.out.below hbel, fun x hx => ?_⟩
            · rw [List.length_append, List.flatMap_append]
              simpa using hown8
            · rcases List.mem_append.1 hx with h | h
              · exact HN7.out.hs.ok x h
              · simp at h
                subst h
                exact Hg.out)
          clear hown8 hb8 hk8 hg8
          go_meet
          case rel => exact ⟨ns ++ [nm], by simp; omega, HS8⟩
        · have dc : (cd == 0) = false := by simpa using hc0
          go_wp2_with fail
          go_meet
          case rel => exact ⟨ns, by omega, hid HN3.out.hs⟩
      case rest =>
      as_aux_lemma =>
      obtain ⟨ns', hns', HHc⟩ := hcut
      have HQc := hid (HQ.out.below HHc.out.bel)
      go_wp2_with fail
      refine (parse_walk qa qn qc ql _ HQc.out).mono ?_
      rintro e w4 ⟨hb4, hpe⟩
      have HH4 := hid (HHc.out.below hb4)
      clear hb4
      rcases hpe with ⟨code, hc0, rfl⟩ | ⟨g, ds, sp, hg, rfl, hds, hpo⟩
      · as_aux_lemma =>
        have dc : (code != 0) = true := by simpa using hc0
        go_wp2
        exact ⟨⟨k + 1, ns', by omega, by omega, by go_num, HH4⟩, by simp [intOf]; omega⟩
      have HP4 : Hid (Hp w1 (rowsOf l) (some ⟨b, off, none⟩) rn rc u3 ns' g ds w4) := hid ⟨HH4.out, hds⟩
      have HPo := hid hpo
      have hn128 := hpo.n128
      clear hds hpo hg
      go_wp2_with fail
      go_loopw [3, 10] (fun v i wr => ∃ (j : Nat) (ns2 : List (List Nat)), j ≤ sp.length ∧ ns2.length ≤ k + 25 ∧ i = .int .i64 j ∧ Hid (Hp w1 (rowsOf l) (some ⟨b, off, none⟩) rn rc v ns2 g ds wr)) (fun _ i _ => sp.length - (intOf i).toNat)
      case atStart => exact ⟨0, ns', by omega, by omega, rfl, HP4⟩
      case round =>
        obtain ⟨j, ns2, hj, hns2, rfl, HP⟩ := hrel
        by_cases hjl : j < sp.length
        rotate_left
        · as_aux_lemma =>
          have hje : j = sp.length := by omega
          subst hje
          have HLn := hid (pathLen_walk g 0 _ ds ql sp _ HP.out.bp HPo.out)
          have dj : decide ((sp.length : Int) < (sp.length : Int)) = false := decide_eq_false (by omega)
          go_wp2_with fail
          refine (HLn.out).mono ?_
          rintro e w5 ⟨rfl, rfl⟩
          go_wp2
          exact ⟨⟨k + 1, ns2, by omega, by omega, by go_num, hid HP.out.hs⟩, by simp [intOf]; omega⟩
        obtain ⟨sg, hsg⟩ : ∃ sg, sp[j]? = some sg := ⟨sp[j], List.getElem?_eq_getElem hjl⟩
        have HLn := hid (pathLen_walk g 0 _ ds ql sp _ HP.out.bp HPo.out)
        have dj : decide ((j : Int) < (sp.length : Int)) = true := decide_eq_true (by omega)
        go_wp2_with fail
        refine (HLn.out).mono ?_
        rintro e w5 ⟨rfl, rfl⟩
        clear HLn
        have hso := HPo.out.cp.ok sg (List.mem_of_getElem? hsg)
        have HSo := hid hso
        have hGn : GoodN (sub ql sg.a sg.b) := nn_good (nn_sub hso) (fun x hx => HPo.out.bytes x (List.mem_of_mem_drop (List.mem_of_mem_take hx)))
        have hN0 := nn_sub hso
        have HAt := hid (at_walk g 0 _ ds ql sp _ HP.out.bp HPo.out j sg hsg)
        have HSp := hid (fun (w : World) (hb : Blk w g 63 ds) => span_walk g 0 _ ds ql sp w hb HPo.out j sg hsg)
        obtain ⟨nj, hnj⟩ : ∃ nj, sub ql sg.a sg.b = nj := ⟨_, rfl⟩
        rw [hnj] at HAt hGn hN0
        have HGn := hid hGn
        have HN0 := hid hN0
        have Hnj := hid hnj
        obtain ⟨H, hH⟩ : ∃ H, hashL 2166136261 nj = H := ⟨_, rfl⟩
        rw [hH] at HAt
        obtain ⟨cl, hcl⟩ : ∃ cl, sg.cls = cl := ⟨_, rfl⟩
        rw [hcl] at HAt
        obtain ⟨ld, hld⟩ : ∃ ld, decide (j + 1 = sp.length) = ld := ⟨_, rfl⟩
        rw [hld] at HAt
        have hnj32 : nj.length ≤ 32 := hGn.nm.le
        unfold compV at HAt
        obtain ⟨C, hC⟩ : ∃ C, compC nj cl H sg.sl ld = C := ⟨_, rfl⟩
        rw [hC] at HAt
        have hC37 : C.length = 37 := by rw [← hC]; exact compC_len hnj32 _ _ _ _
        have HOn : Hid (∀ v ∈ C, v.oneCell' = true) := hid (by rw [← hC]; exact one_comp _ _ _ _ _)
        have HCn : Hid (∀ j v, (nameC nj)[j]? = some v → C[0 + j]? = some v) := hid (by rw [← hC]; exact comp_name _ _ _ _ _)
        have HCh : Hid (C[34]? = some (.int .u32 H)) := hid (by rw [← hC]; exact comp_hash hnj32 _ _ _ _)
        have I2 : Hid ((Try.prog.info? 40).map (·.size) = some C.length) := hid (by rw [hC37]; exact info_comp)
        have L2 : Hid ((compC [] 0 0 false false).length = C.length) := hid (by rw [hC37]; rfl)
        clear hso hGn hN0 hnj hcl hld hC hsg
        go_wp2_with fail
        refine (HAt.out).mono ?_
        rintro e w6 ⟨rfl, hb6⟩
        have HP6 := hid (HP.out.below hb6)
        obtain ⟨q, hq⟩ : ∃ q, w6.heap.size = q := ⟨_, rfl⟩
        have hbn := Blk.new w6 (compC [] 0 0 false false) 40
        rw [hq] at hbn
        have HBn := hid hbn
        clear hb6 hbn HAt
        go_upto_region 18 with (refine wpList_store_blk rfl 40 _ _ rfl q rfl C rfl HBn.out L2.out I2.out HOn.out ?_; intro w7 HB7 HU7)
        have HC7 : Hid (Hc w1 (rowsOf l) (some ⟨b, off, none⟩) rn rc u3 ns2 g ds q C w7) := hid ⟨HP6.out.below ((nbel w6 _).trans (HU7.out.below (by omega) (by simp))), HB7.out⟩
        clear HB7 HU7 HBn
        go_wp2_with fail
        refine (HSp.out _ HC7.out.hp.bp).mono ?_
        rintro e w8 ⟨rfl, hb8⟩
        have HC8 := hid (HC7.out.below hb8)
        clear hb8 HSp
        go_upto_region 19 with fail
        have hlen : ql.length = qn := HQ.out.len
        have hab := HSo.out.lt
        have hbl := HSo.out.le
        obtain ⟨x0, _, _, qb, qoff, rfl, _, _⟩ := HQ.out.get (show 0 < qn by omega)
        have hcc := HQ.out.1.2.1
        have hcm : qc ≤ 9223372036854775807 := by have := HQ.out.1.2.2.1.2.1; unfold maxLen at this; omega
        have HRs : Hid (ByteRow w1 (some ⟨qb, qoff + sg.a, none⟩) (sg.b - sg.a) (qc - sg.a) nj) := hid (by have := HQ.out.sub hab (show sg.b ≤ qn by omega); rw [Hnj.out] at this; exact this)
        obtain ⟨X, W, hT, hI⟩ := class_mk (Hc w1 (rowsOf l) (some ⟨b, off, none⟩) rn rc u3 ns2 g ds q C)
        have HCl : Hid (∀ x w', Below (W x).heap.size (W x) w' → ∃ y, w' = W y) := hid (fun x w' hb => hI _ ((hT x).below hb))
        have H0 : Hid (∃ x, w8.drew = W x) := hid (hI _ (HC8.out.below (Drew.below ⟨1, rfl⟩ _)))
        have hne : Nonempty X := ⟨H0.out.choose⟩
        have c34 : ∀ x, (W x).cell? ⟨q, 34, none⟩ = some (.int .u32 H) := fun x => by rw [(hT x).bq.cell]; exact HCh.out
        have hldn : ∀ x, (Instr.loadAt 36 (.pointer (some ⟨q, 0, none⟩))).run Try.prog (W x) = .ok (.agg (nameC nj).toArray) (W x) := fun x => run_loadAt_mid (W x) q 0 36 (nameC nj) _ ((hT x).bq.rangeMid (o := 0) (n := 0) (nameC nj) HCn.out) Try.underlying36 rfl (by rw [nameC_len hnj32]; exact info_name)
        have HHb : Hid (∀ x, Calls Try.prog 24 #[.slice (some ⟨qb, qoff + sg.a, none⟩) (sg.b - sg.a) (qc - sg.a)] (W x) fun e w'' => e = .returned (.int .u32 H) ∧ w'' = W x) := hid (fun x => by have := hashBytes_walk _ _ _ nj (W x) (HRs.out.below (hT x).hp.hs.bel); rw [hH] at this; exact this)
        have HHn : Hid (∀ w, Calls Try.prog 23 #[.agg (nameC nj).toArray] w fun e w' => e = .returned (.int .u32 H) ∧ Below w.heap.size w w') := hid (fun w => by have := nmHash_walk nj HGn.out.nm w; rw [hH] at this; exact this)
        have HTT := hid hT
        have ab1 : (sg.a : Int) ≤ (sg.b : Int) := by omega
        have ab2 : (sg.b : Int) ≤ (qc : Int) := by omega
        have ab3 : (qc = sg.a) = False := by simp; omega
        clear hT hI
        refine wp_region_class W (by kernel_rfl) (by kernel_rfl) H0.out ?_
        repeat (go_big_quiet_step (first
          | (go_at_call 24; exact Calls.class_same (HHb.out _))
          | (go_at_call 23; exact Calls.class_of HCl.out (HHn.out _))))
        refine quiet_load rfl 36 _ rfl ⟨q, 0, none⟩ rfl _ (fun w hx => by obtain ⟨x, rfl⟩ := hx; exact hldn x) ?_
        simp only [Act.put, List.setIfInBounds_toArray, List.set_cons_succ, List.set_cons_zero]
        repeat (go_big_quiet_step (first
          | (go_at_call 24; exact Calls.class_same (HHb.out _))
          | (go_at_call 23; exact Calls.class_of HCl.out (HHn.out _))))
        refine wpQuiet_nil ?_
        intro x
        have HC9 := hid (HTT.out x)
        generalize W x = w9 at HC9 ⊢
        clear c34 hldn HHb HHn HTT HCl H0
        have HNn := hid (newName_walk _ _ _ nj w9 (HRs.out.below HC9.out.hp.hs.bel))
        rw [nnRes_ok HN0.out, HN0.out] at HNn
        unfold nameV at HNn
        go_wp2_with fail
        refine (HNn.out).mono ?_
        rintro e w10 ⟨rfl, hb10⟩
        have HC10 := hid (HC9.out.below hb10)
        clear hb10 HNn
        obtain ⟨q3, hq3⟩ : ∃ q3, w10.heap.size = q3 := ⟨_, rfl⟩
        have hbn := Blk.new w10 (nameC []) 36
        rw [hq3] at hbn
        have HBn := hid hbn
        have I3 : Hid ((Try.prog.info? 36).map (·.size) = some (nameC nj).length) := hid (by rw [nameC_len hnj32]; exact info_name)
        have L3 : Hid ((nameC []).length = (nameC nj).length) := hid (by rw [nameC_len hnj32]; rfl)
        clear hbn
        go_upto_region 22 with (refine wpList_store_blk rfl 36 _ _ rfl q3 rfl (nameC nj) rfl HBn.out L3.out I3.out (one_name nj) ?_; intro w11 HB11 HU11)
        have HC11 : Hid (Hc w1 (rowsOf l) (some ⟨b, off, none⟩) rn rc u3 ns2 g ds q C w11) := hid (HC10.out.below ((nbel w10 _).trans (HU11.out.below (by omega) (by simp))))
        have hneq : ∀ w, (binOp .neq 36 (.agg (nameC nj).toArray) (.agg (nameC nj).toArray)).run Try.prog w = .ok (.bool false) w := fun w => by rw [neq_name nj nj hnj32 hnj32 w]; simp
        have HRg := hid (HC11.out.bq.rangeMid (o := 0) (n := 0) (nameC nj) HCn.out)
        clear HBn HU11
        obtain ⟨va, vc, rfl⟩ := owns_shape HC11.out.hp.hs.own
        obtain ⟨CN, hCN⟩ : ∃ CN, nameC nj = CN := ⟨_, rfl⟩
        rw [hCN] at HB11 I3 hneq HRg
        simp only [hCN]
        go_upto_region 24 with (first
          | (refine wpList_load_blk_w rfl 36 _ rfl q3 rfl CN HB11.out _ Try.underlying36 rfl I3.out ?_)
          | (refine wpList_load_mid_w rfl 36 _ rfl q 0 rfl CN HRg.out _ Try.underlying36 rfl I3.out ?_))
        clear HB11 HRg hneq I3 L3 HN0 HSo
        by_cases h24 : ns2.length < 24
        rotate_left
        · as_aux_lemma =>
          have d24 : decide ((ns2.length : Int) < 24) = false := decide_eq_false (by omega)
          go_wp2_with fail
          exact ⟨⟨j + 1, ns2, by omega, by omega, by go_num, hid HC11.out.hp⟩, by simp [intOf]; omega⟩
        · as_aux_lemma =>
          have d24 : decide ((ns2.length : Int) < 24) = true := decide_eq_true (by omega)
          obtain ⟨i0, hi, hz0, hz1, hz2⟩ := info_nm
          have HI := hid (And.intro hi (And.intro hz0 (And.intro hz1 hz2)))
          clear hi hz0 hz1 hz2
          have hnm33 : CN.length = 33 := by rw [← hCN]; exact nameC_len hnj32
          have hfold := fold_name hnj32
          rw [hCN] at hfold
          have HOnN : Hid (∀ v ∈ CN, v.oneCell' = true) := hid (by rw [← hCN]; exact one_name nj)
          have I3 : Hid ((Try.prog.info? 36).map (·.size) = some CN.length) := hid (by rw [hnm33]; exact info_name)
          have HRg : Hid (w11.rangeAt q 0 CN) := hid (by rw [← hCN]; exact HC11.out.bq.rangeMid (o := 0) (n := 0) (nameC nj) HCn.out)
          have hbb : (ns2.length + 1) * 33 ≤ 140737488355328 := by omega
          have HO7 := hid (HC11.out.hp.hs.own.alloc (.cells CN.toArray 36))
          have hbs7 : w1.heap.size ≤ (w11.alloc (.cells CN.toArray 36)).heap.size := by have := HC11.out.hp.hs.bel.size; simp; omega
          have HCN := hid hCN
          clear hCN
          go_upto_region 25 with fail
          go_wp2_with (first
            | (refine wpList_load_mid_w rfl 36 _ rfl q 0 rfl CN HRg.out _ Try.underlying36 rfl I3.out ?_)
            | (at_builtin; refine wpList_append_row _ rfl (.tmp 117) (.tmp 120) 49 rfl w1.heap.size 36 i0 (.agg (nameC []).toArray) 33 33 Try.underlying49 HI.out.1 HI.out.2.1 HI.out.2.2.1 HI.out.2.2.2 rfl (by decide) _ _ _ rfl HO7.out (some ⟨w11.heap.size, 0, none⟩) 1 1 CN rfl (by rw [hnm33]) (fun h => by cases h) (newRow _ CN _ _ rfl) HOnN.out hbb (by decide) hbs7 ?_; intro v8 w12 hown8 hb8 hk8 hg8; have HK8 := hid hk8; have HOw8 := hid hown8; have HB8 := hid hb8; clear hk8 hg8 hown8 hb8))
          have hbel : Below w1.heap.size w1 w12 := (HC11.out.hp.hs.bel.alloc HC11.out.hp.hs.bel.size _).trans HB8.out
          have HP12 : Hid (Hp w1 (rowsOf l) (some ⟨b, off, none⟩) rn rc v8 (ns2 ++ [nj]) g ds w12) := hid (by
            refine ⟨⟨hbel, ?_, HRow.out.below hbel, fun x hx => ?_⟩, ?_⟩
            · rw [List.length_append, List.flatMap_append]
              have := HOw8.out
              rw [← HCN.out] at this
              simpa using this
            · rcases List.mem_append.1 hx with h | h
              · exact HC11.out.hp.hs.ok x h
              · simp at h
                subst h
                exact HGn.out
            · have hbg := HC11.out.hp.bp.alloc (.cells CN.toArray 36)
              have hlt := hbg.lt
              unfold Blk
              rw [HK8.out g hlt (own_ne HO7.out hbg (by decide))]
              exact hbg)
          exact ⟨⟨j + 1, ns2 ++ [nj], by omega, by simp; omega, by go_num, HP12⟩, by simp [intOf]; omega⟩
end Go.Proofs.Qxb6500891a
