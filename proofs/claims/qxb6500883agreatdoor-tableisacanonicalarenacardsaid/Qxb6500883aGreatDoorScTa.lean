/- Texts of scripts: numbers, draws, names. -/
import Derived.Test.Qxb6500883aGreatDoorScGl
namespace Go.Proofs.Qxb6500883aGreatDoor
open Go.RowKit
set_option linter.unusedSimpArgs false
set_option linter.unusedVariables false
section
variable {w w' w0 w1 w2 : World} {n0 : Nat} {v v' : Value} {bs : List UInt8}
/-- A built row of bytes appended. -/
theorem wpList_app_n {ops : Array Oper} {rest : List Oper} {o : Oper} {a : Act} {Q : Exit → Act → World → Prop} (hgd : o.guard = none) (sl x : Operand) (ys : List UInt8) (hA : OwR rtB n0 w v bs)
    (ho : o.op = .call { callee := .builtin .append, args := #[sl, x], argTypes := #[28, 28] })
    (hs : a.eval sl = v) (cs : Array Value) (hcs : cs = (ys.map byV).toArray) (n : Nat) (hx : a.eval x = .slice (some ⟨w.heap.size, 0, none⟩) n n) (hn : ys.length = n) (hb : bs.length + n ≤ 140000000000000) (h0 : n0 ≤ w.heap.size)
    (h : ∀ v' w', Hid (ApB n0 w bs n w' v') → wpList Tryz.prog ops Q rest (a.put o.dst v') w') : wpList Tryz.prog ops Q (o :: rest) a (w.alloc (.cells cs 5)) := by
  subst hcs
  have k := Blk.new w (ys.map byV) 5
  have hA1 := hA.below (nbel w (.cells (ys.map byV).toArray 5))
  have hs1 := (nbel w (.cells (ys.map byV).toArray 5)).size
  refine wpList_app_l okB hgd sl x hA1 ho ys hs (some ⟨w.heap.size, 0, none⟩) n n hx hn (fun e => by cases e) (fun ad had j u hu => ?_) (by show (bs.length + n) * 1 ≤ _; omega) (Nat.le_trans h0 hs1) ?_
  · cases had
    rw [rtB_flat] at hu
    have ea : (⟨w.heap.size, 0, none⟩ : Addr).add j = ⟨w.heap.size, j, none⟩ := by unfold Addr.add; split <;> simp_all
    rw [ea, k.cell]
    exact hu
  · intro v' w' hr hk _
    refine h v' w' (hid ?_)
    have := ((ApB.start hA).below h0 (nbel w (.cells (ys.map byV).toArray 5))).kep (ds := []) (es := ys) h0 (by rw [List.append_nil]; exact hA1) (Nat.le_refl _) hk.out (by rw [List.append_nil]; exact hr.out)
    exact this.mono (by omega)
/-- A string appended. -/
theorem wpList_app_t {ops : Array Oper} {rest : List Oper} {o : Oper} {a : Act} {Q : Exit → Act → World → Prop} (hgd : o.guard = none) (sl x : Operand) (hA : OwR rtB n0 w v bs)
    (ho : o.op = .call { callee := .builtin .append, args := #[sl, x], argTypes := #[28, 9] })
    (hs : a.eval sl = v) (s : ByteArray) (hx : a.eval x = .string s) (n : Nat) (hn : s.size ≤ n) (hb : bs.length + n ≤ 140000000000000) (h0 : n0 ≤ w.heap.size)
    (h : ∀ v' w', Hid (ApB n0 w bs n w' v') → wpList Tryz.prog ops Q rest (a.put o.dst v') w') : wpList Tryz.prog ops Q (o :: rest) a w := by
  refine wpList_app_s hgd sl x hA ho hs s hx (by omega) h0 ?_
  intro v' w' hr hk
  refine h v' w' (hid ?_)
  have := (ApB.start hA).kep (ds := []) (es := s.data.toList) h0 (by rw [List.append_nil]; exact hA) (Nat.le_refl _) hk.out (by rw [List.append_nil]; exact hr.out)
  refine this.mono ?_
  have : s.data.toList.length = s.size := rfl
  omega
set_option maxRecDepth 100000 in
set_option maxHeartbeats 2000000 in
theorem appendNumberW (base : Nat) (hb : base = 10 ∨ base = 16) : ∀ (k : Nat) {w : World} {v : Value} {bs : List UInt8} (n : Nat), n < base ^ (k + 1) → n < 18446744073709551616 → OwR rtB n0 w v bs → n0 ≤ w.heap.size → bs.length + k ≤ 100000000000000 →
    Calls Tryz.prog 76 #[v, .int .u64 (n : Int), .int .u64 (base : Int)] w fun e w' => ∃ v', e = .returned v' ∧ Hid (ApB n0 w bs (k + 1) w' v') := by
  intro k
  induction k with
  | zero =>
    intro w v bs n hn hn2 hr h0 hl
    have hlt : n < base := by simpa using hn
    have d1 : decide ((base : Int) ≤ (n : Int)) = false := decide_eq_false (by omega)
    have d2 : ¬ base ≤ n := by omega
    have HR := hid hr
    obtain ⟨d, hd, hd16⟩ : ∃ d : Nat, (n : Int) % (base : Int) = (d : Int) ∧ d < 16 := ⟨n % base, by omega, by have := Nat.mod_lt n (show 0 < base by omega); omega⟩
    have hd17 : (d : Int) < 16 := by omega
    clear hr hn
    go_enter Tryz.func76, Tryz.ntmps76
    go_wp2_with (at_builtin; refine stopHere ?_)
    intro _
    refine wpList_app_n rfl _ _ [_] HR.out rfl rfl _ rfl 1 rfl rfl (by omega) h0 ?_
    intro v9 w9 HF
    go_wp2
    go_ret
    exact ⟨_, rfl, HF⟩
  | succ k ih =>
    intro w v bs n hn hn2 hr h0 hl
    have HR := hid hr
    obtain ⟨d, hd, hd16⟩ : ∃ d : Nat, (n : Int) % (base : Int) = (d : Int) ∧ d < 16 := ⟨n % base, by omega, by have := Nat.mod_lt n (show 0 < base by omega); omega⟩
    have hd17 : (d : Int) < 16 := by omega
    by_cases hlt : n < base
    · have d1 : decide ((base : Int) ≤ (n : Int)) = false := decide_eq_false (by omega)
      have d2 : ¬ base ≤ n := by omega
      clear hr hn ih
      go_enter Tryz.func76, Tryz.ntmps76
      go_wp2_with (at_builtin; refine stopHere ?_)
      intro _
      refine wpList_app_n rfl _ _ [_] HR.out rfl rfl _ rfl 1 rfl rfl (by omega) h0 ?_
      intro v9 w9 HF
      have HF2 : Hid (ApB n0 w bs (k + 1 + 1) w9 v9) := hid (HF.out.mono (by omega))
      clear HF
      go_wp2
      go_ret
      exact ⟨_, rfl, HF2⟩
    · have d1 : decide ((base : Int) ≤ (n : Int)) = true := decide_eq_true (by omega)
      have d2 : base ≤ n := by omega
      obtain ⟨q, hq⟩ : ∃ q, n / base = q := ⟨_, rfl⟩
      have hqi : (n : Int) / (base : Int) = (q : Int) := by rw [← hq]; exact (Int.natCast_ediv n base).symm
      have hqk : q < base ^ (k + 1) := by
        rw [← hq]
        rw [Nat.pow_succ] at hn
        exact Nat.div_lt_of_lt_mul (by rw [Nat.mul_comm]; exact hn)
      have hql : q < 18446744073709551616 := by rw [← hq]; exact Nat.lt_of_le_of_lt (Nat.div_le_self _ _) hn2
      have HI := hid (ih (w := w) (v := v) (bs := bs) q hqk hql hr h0 (by omega))
      clear hr hn ih hq hqk
      go_enter Tryz.func76, Tryz.ntmps76
      go_wp2_with fail
      refine HI.out.mono ?_
      rintro e w3 ⟨v3, rfl, H3⟩
      clear HI
      go_wp2_with (at_builtin; refine stopHere ?_)
      intro _
      obtain ⟨ds, hds, hr3⟩ := H3.out.row
      have HR3 := hid hr3
      have h03 := Nat.le_trans h0 H3.out.bel.size
      clear hr3
      refine wpList_app_n rfl _ _ [_] HR3.out rfl rfl _ rfl 1 rfl rfl (by rw [List.length_append]; omega) h03 ?_
      intro v9 w9 HF
      have HF2 : Hid (ApB n0 w bs (k + 1 + 1) w9 v9) := hid (H3.out.trans hds HF.out)
      clear HF H3 HR3
      go_wp2
      go_ret
      exact ⟨_, rfl, HF2⟩
set_option maxRecDepth 100000 in
theorem numTxW (k n : Nat) (hn : n < 10 ^ (k + 1)) (hn2 : n < 18446744073709551616) (hk : k ≤ 30) (w : World) : Calls Tryz.prog 74 #[.int .u64 (n : Int)] w fun e w' => ∃ s : ByteArray, e = .returned (.string s) ∧ s.size ≤ k + 1 ∧ Hid (Below w.heap.size w w') := by
  have HA := hid (appendNumberW (n0 := w.heap.size) 10 (.inl rfl) k (w := w) (bs := []) n hn hn2 (OwR.nil rtB w.heap.size w) (Nat.le_refl _) (by rw [List.length_nil]; omega))
  clear hn
  go_enter Tryz.func74, Tryz.ntmps74
  go_wp2_with fail
  refine HA.out.mono ?_
  rintro e w2 ⟨v2, rfl, H2⟩
  obtain ⟨ds, hd, h2⟩ := H2.out.row
  obtain ⟨a2, q2, rfl⟩ := h2.shape
  have hcv := h2.str
  have hsz : (⟨([] ++ ds).toArray⟩ : ByteArray).size ≤ k + 1 := by show ([] ++ ds).toArray.size ≤ k + 1; simpa using hd
  generalize (⟨([] ++ ds).toArray⟩ : ByteArray) = ss at hcv hsz
  generalize ([] ++ ds).length = m2 at hcv ⊢
  have HB := hid H2.out.bel
  clear h2 H2 HA hd
  go_wp2
  go_ret
  exact ⟨ss, rfl, hsz, HB⟩
set_option maxRecDepth 100000 in
theorem typeNameW (n : Nat) (hn : n < 18446744073709551616) (w : World) : Calls Tryz.prog 71 #[.int .u64 (n : Int)] w fun e w' => ∃ s : ByteArray, e = .returned (.string s) ∧ s.size ≤ 3 ∧ Hid (Below w.heap.size w w') := by
  obtain ⟨m, e1, hm⟩ : ∃ m : Nat, (n : Int) % 16 = (m : Int) ∧ m < 16 := ⟨n % 16, by omega, by omega⟩
  have HA := hid (numTxW 1 m (by omega) (by omega) (by omega) w)
  go_enter Tryz.func71, Tryz.ntmps71
  go_wp2_with fail
  (try rw [e1])
  refine HA.out.mono ?_
  rintro e w2 ⟨s, rfl, hs, HB⟩
  go_wp2
  go_ret
  exact ⟨_, rfl, by rw [ByteArray.size_append]; have : (⟨#[84]⟩ : ByteArray).size = 1 := rfl; omega, HB⟩
set_option maxRecDepth 100000 in
theorem constNameW (n : Nat) (hn : n < 18446744073709551616) (w : World) : Calls Tryz.prog 68 #[.int .u64 (n : Int)] w fun e w' => ∃ s : ByteArray, e = .returned (.string s) ∧ s.size ≤ 2 ∧ Hid (Below w.heap.size w w') := by
  obtain ⟨m, e1, hm⟩ : ∃ m : Nat, (n : Int) % 8 = (m : Int) ∧ m < 8 := ⟨n % 8, by omega, by omega⟩
  have HA := hid (numTxW 0 m (by omega) (by omega) (by omega) w)
  go_enter Tryz.func68, Tryz.ntmps68
  go_wp2_with fail
  (try rw [e1])
  refine HA.out.mono ?_
  rintro e w2 ⟨s, rfl, hs, HB⟩
  go_wp2
  go_ret
  exact ⟨_, rfl, by rw [ByteArray.size_append]; have : (⟨#[75]⟩ : ByteArray).size = 1 := rfl; omega, HB⟩
/-- A draw in block g: its state, and how many names it may mention. -/
def Dw (w : World) (g ty co : Nat) : Prop := ∃ s : Nat, Blk w g 188 [.int .u64 (s : Int), .int .u64 (ty : Int), .int .u64 (co : Int)] ∧ s < 18446744073709551616 ∧ ty < 17 ∧ co < 9
set_option maxRecDepth 100000 in
theorem newDrawW (a b : Nat) (ha : a < 18446744073709551616) (hb : b < 18446744073709551616) (w : World) : Calls Tryz.prog 67 #[.int .u64 (a : Int), .int .u64 (b : Int)] w fun e w' => e = .returned (.pointer (some ⟨w.heap.size, 0, none⟩)) ∧ Hid (Below w.heap.size w w' ∧ ∃ ty co, Dw w' w.heap.size ty co) := by
  obtain ⟨ty, e1, hty⟩ : ∃ m : Nat, (b : Int) % 17 = (m : Int) ∧ m < 17 := ⟨b % 17, by omega, by omega⟩
  obtain ⟨q, e2⟩ : ∃ m : Nat, (b : Int) / 17 = (m : Int) := ⟨b / 17, by omega⟩
  obtain ⟨co, e3, hco⟩ : ∃ m : Nat, (q : Int) % 9 = (m : Int) ∧ m < 9 := ⟨q % 9, by omega, by omega⟩
  have H1 : Hid (Below w.heap.size w (w.alloc (.cells #[.int .u64 (a : Int), .int .u64 (ty : Int), .int .u64 (co : Int)] 188)) ∧ ∃ ty2 co2, Dw (w.alloc (.cells #[.int .u64 (a : Int), .int .u64 (ty : Int), .int .u64 (co : Int)] 188)) w.heap.size ty2 co2) := hid ⟨nbel w _, ty, co, a, Blk.new w [.int .u64 (a : Int), .int .u64 (ty : Int), .int .u64 (co : Int)] 188, ha, hty, hco⟩
  go_enter Tryz.func67, Tryz.ntmps67
  go_wp2
  go_ret
  exact ⟨rfl, H1⟩
set_option maxRecDepth 100000 in
set_option maxHeartbeats 1000000 in
theorem belowW {g ty co : Nat} (hd : Dw w g ty co) (n : Nat) (h1 : 0 < n) (hn : n < 18446744073709551616) : Calls Tryz.prog 73 #[.pointer (some ⟨g, 0, none⟩), .int .u64 (n : Int)] w fun e w' => ∃ r : Nat, e = .returned (.int .u64 (r : Int)) ∧ r < n ∧ Hid (Upd g w w' ∧ ∀ ty co, Dw w g ty co → Dw w' g ty co) := by
  obtain ⟨s, hB, hs, ht, hc⟩ := hd
  have c0 := hB.cell 0
  have z0 := hB.frozen 0
  have HB := hid hB
  obtain ⟨x, hx, hxl⟩ : ∃ x : Nat, IntKind.u64.wrap (IntKind.u64.wrap ((s : Int) * 6364136223846793005) + 1442695040888963407) = (x : Int) ∧ x < 18446744073709551616 := ⟨(IntKind.u64.wrap (IntKind.u64.wrap ((s : Int) * 6364136223846793005) + 1442695040888963407)).toNat, by rw [IntKind.wrap_u64]; omega, by rw [IntKind.wrap_u64]; omega⟩
  obtain ⟨y, hy⟩ : ∃ y : Nat, (x : Int) / 8589934592 = (y : Int) := ⟨x / 8589934592, by omega⟩
  have hr : (y : Int).tmod (n : Int) = ((y % n : Nat) : Int) := by rw [Int.tmod_eq_emod_of_nonneg (by omega)]; exact (Int.natCast_emod y n).symm
  have hrn := Nat.mod_lt y h1
  generalize y % n = r at hr hrn
  have HF : Hid (Upd g w (w.setCell ⟨g, 0, none⟩ (.int .u64 (x : Int))) ∧ ∀ ty co, Dw w g ty co → Dw (w.setCell ⟨g, 0, none⟩ (.int .u64 (x : Int))) g ty co) := hid ⟨(Upd.refl g w).setCell rfl _, fun ty' co' ⟨s', hb', _, h2, h3⟩ => ⟨x, hb'.set 0 _, hxl, h2, h3⟩⟩
  clear hB
  go_enter Tryz.func73, Tryz.ntmps73
  go_wp2
  go_ret
  exact ⟨r, rfl, hrn, HF⟩
/-- What appending some bytes gives, draws made on the way. -/
structure Tx (n0 : Nat) (w : World) (bs : List UInt8) (k : Nat) (w' : World) (v' : Value) : Prop where
  row : ∃ ds : List UInt8, ds.length ≤ k ∧ OwR rtB n0 w' v' (bs ++ ds)
  bel : Below n0 w w'
  kd : ∀ g ty co, Dw w g ty co → Dw w' g ty co
  kt : ∀ g t cs, Blk w g t cs → t ≠ 5 → t ≠ 188 → Blk w' g t cs
theorem ApB.tx {k : Nat} (h : ApB n0 w bs k w' v') : Tx n0 w bs k w' v' := ⟨h.row, h.bel, fun g ty co ⟨s, h1, h2⟩ => ⟨s, h.kt _ _ _ h1 (by decide), h2⟩, fun g t cs h1 h2 _ => h.kt g t cs h1 h2⟩
theorem Tx.start (h : OwR rtB n0 w v bs) : Tx n0 w bs 0 w v := (ApB.start h).tx
theorem Tx.trans {k k' : Nat} {w'' : World} {v'' : Value} {ds : List UInt8} (h : Tx n0 w bs k w' v') (hd : ds.length ≤ k) (h2 : Tx n0 w' (bs ++ ds) k' w'' v'') : Tx n0 w bs (k + k') w'' v'' := by
  obtain ⟨es, h3, h4⟩ := h2.row
  exact ⟨⟨ds ++ es, by rw [List.length_append]; omega, by rw [← List.append_assoc]; exact h4⟩, h.bel.trans h2.bel, fun g ty co hg => h2.kd g ty co (h.kd g ty co hg), fun g t cs hg ht hu => h2.kt g t cs (h.kt g t cs hg ht hu) ht hu⟩
theorem Tx.mono {k k' : Nat} (h : Tx n0 w bs k w' v') (hk : k ≤ k') : Tx n0 w bs k' w' v' := by
  obtain ⟨ds, h1, h2⟩ := h.row
  exact ⟨⟨ds, Nat.le_trans h1 hk, h2⟩, h.bel, h.kd, h.kt⟩
theorem Tx.below {k : Nat} (h : Tx n0 w bs k w' v') {w'' : World} (h0 : n0 ≤ w.heap.size) (hb : Below w'.heap.size w' w'') : Tx n0 w bs k w'' v' := by
  obtain ⟨ds, h1, h2⟩ := h.row
  exact ⟨⟨ds, h1, h2.below hb⟩, h.bel.trans (hb.mono (Nat.le_trans h0 h.bel.size)), fun g ty co hg => by obtain ⟨s, a1, a2⟩ := h.kd g ty co hg; exact ⟨s, a1.below hb, a2⟩, fun g t cs hg ht hu => (h.kt g t cs hg ht hu).below hb⟩
/-- A number drawn. -/
theorem Tx.drawn {k g ty co : Nat} (h : Tx n0 w bs k w' v') (h0 : n0 ≤ w.heap.size) (hg : n0 ≤ g) (hd : Dw w' g ty co) {w'' : World} (hu : Upd g w' w'' ∧ ∀ ty co, Dw w' g ty co → Dw w'' g ty co) : Tx n0 w bs k w'' v' := by
  obtain ⟨ds, h1, h2⟩ := h.row
  obtain ⟨s, hb, _⟩ := hd
  refine ⟨⟨ds, h1, h2.upd hu.1 (h2.ne hb (by decide))⟩, h.bel.trans (hu.1.below hg (Nat.le_trans h0 h.bel.size)), fun g' ty' co' hg' => ?_, fun g' t' cs' hg' ht' hu' => (h.kt g' t' cs' hg' ht' hu').upd hu.1 ?_⟩
  · by_cases e : g' = g
    · subst e; exact hu.2 _ _ (h.kd _ _ _ hg')
    · obtain ⟨s', a1, a2⟩ := h.kd g' ty' co' hg'
      exact ⟨s', a1.upd hu.1 e, a2⟩
  · intro e
    subst e
    have h3 := h.kt _ t' cs' hg' ht' hu'
    have e := Option.some.inj (Eq.trans (Eq.symm h3) hb)
    injection e with e1 e2 e3
    exact hu' e2
theorem Tx.row0 (h : Tx n0 w bs 0 w' v') : OwR rtB n0 w' v' bs := by
  obtain ⟨ds, h1, h2⟩ := h.row
  obtain rfl : ds = [] := List.eq_nil_of_length_eq_zero (by omega)
  rw [List.append_nil] at h2
  exact h2
end
end Go.Proofs.Qxb6500883aGreatDoor
