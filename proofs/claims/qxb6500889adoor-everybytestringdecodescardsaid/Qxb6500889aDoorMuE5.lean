/- Scripts as bytes: appendArgument. -/
import Derived.Test.Qxb6500889aDoorMuE4
namespace Go.Proofs.Qxb6500889aDoor
open Go.RowKit
set_option linter.unusedSimpArgs false
set_option linter.unusedVariables false
theorem info_byt : (Tryd.prog.info? 5).map (fun i => (i.zero, i.size, i.bytes)) = some (some (.int .u8 0), 1, 1) := by kernel_rfl
/-- A row of bytes being written. -/
structure EO (w0 w : World) (v : Value) (l : List Nat) : Prop where
  bel : Below w0.heap.size w0 w
  own : w.ownsRow w0.heap.size 5 1 v l.length (aK .u8 l)
/-- What an append leaves alone. -/
structure FA (w : World) (v : Value) (w' : World) (v' : Value) : Prop where
  size : w.heap.size ≤ w'.heap.size
  blk : ∀ k, k < w.heap.size → v.ownBlock ≠ some k → w'.heap[k]? = w.heap[k]?
  ob : ∀ g, v'.ownBlock = some g → v.ownBlock = some g ∨ w.heap.size ≤ g
section
variable {w0 w w' w1 w2 : World} {v v1 v2 : Value} {l : List Nat} {t : TypeId} {cs : List Value} {g : Nat}
theorem FA.refl (w : World) (v : Value) : FA w v w v := ⟨Nat.le_refl _, fun _ _ _ => rfl, fun _ h => .inl h⟩
theorem FA.trans (h : FA w v w1 v1) (k : FA w1 v1 w2 v2) : FA w v w2 v2 := by
  refine ⟨Nat.le_trans h.size k.size, fun j hj hv => ?_, fun g hg => ?_⟩
  · rw [k.blk j (Nat.lt_of_lt_of_le hj h.size) (fun e => ?_), h.blk j hj hv]
    rcases h.ob j e with e | e
    · exact hv e
    · omega
  · rcases k.ob g hg with e | e
    · exact h.ob g e
    · exact .inr (Nat.le_trans h.size e)
theorem FA.below (hb : Below w.heap.size w w') (v : Value) : FA w v w' v := ⟨hb.size, fun k hk _ => hb.block k hk, fun _ h => .inl h⟩
theorem FA.keep (h : FA w v w1 v1) (hb : Blk w g t cs) (hv : v.ownBlock ≠ some g) : Blk w1 g t cs ∧ v1.ownBlock ≠ some g := by
  refine ⟨hb.of (h.blk g hb.lt hv), fun e => ?_⟩
  rcases h.ob g e with e | e
  · exact hv e
  · have := hb.lt; omega
theorem EO.below (h : EO w0 w v l) (hb : Below w.heap.size w w') : EO w0 w' v l := ⟨h.bel.trans (hb.mono h.bel.size), own_belowS h.own hb⟩
theorem EO.new (h : EO w0 w v l) : ∀ g, w.heap.size ≤ g → v.ownBlock ≠ some g := fun g hg e => by have := (own_lt h.own e).2; omega
theorem wpList_app_eo {ops : Array Oper} {rest : List Oper} {ow : Oper} {ac : Act} {Q : Exit → Act → World → Prop} (hgd : ow.guard = none) (s x : Operand)
    (ho : ow.op = .call { callee := .builtin .append, args := #[s, x], argTypes := #[57, 57] }) (hs : ac.eval s = v) (hp : EO w0 w v l) (ys : List Nat) (hl : l.length + ys.length ≤ 1000000000000) (g m : Nat) (hm : ys.length = m) (hx : ac.eval x = .slice (some ⟨g, 0, none⟩) m m) (hg : Blk w g 5 (aK .u8 ys))
    (h : ∀ v' w', EO w0 w' v' (l ++ ys) → FA w v w' v' → wpList Tryd.prog ops Q rest (ac.put ow.dst v') w') : wpList Tryd.prog ops Q (ow :: rest) ac w := by
  obtain ⟨i0, hi, he⟩ := Option.map_eq_some_iff.1 info_byt
  simp only [Prod.mk.injEq] at he
  subst hm
  refine wpList_append_row w hgd s x 57 ho w0.heap.size 5 i0 (.int .u8 0) 1 1 Tryd.underlying57 hi he.1 he.2.1 he.2.2 rfl (by decide) v l.length (aK .u8 l) hs hp.own (some ⟨g, 0, none⟩) ys.length ys.length (aK .u8 ys) hx (by simp [aK]) (fun h => by cases h) (fun ad had j u hu => ?_) (aK_one .u8 ys) (by omega) (by decide) hp.bel.size (fun v' w' h1 h2 h3 h4 => ?_)
  · obtain rfl := Option.some.inj had
    have e : (⟨g, 0, none⟩ : Addr).add j = ⟨g, j, none⟩ := by unfold Addr.add; split <;> simp_all
    rw [e, hg.cell j]
    exact hu
  · refine h v' w' ⟨hp.bel.trans h2, ?_⟩ ⟨h2.size, fun k hk hv => h3 k hk (fun g hg e => hv (by rw [e]; exact hg)), fun g hg => ?_⟩
    · have e : aK .u8 (l ++ ys) = aK .u8 l ++ aK .u8 ys := by unfold aK; rw [List.map_append]
      rw [e, List.length_append]
      exact h1
    · rcases h4 g hg with e | e
      · exact .inl e
      · exact .inr (Nat.le_of_eq e.symm)
theorem le_snoc (i x : Nat) : le (i + 1) x = le i x ++ [x / 256 ^ i % 256] := by
  unfold le
  rw [List.range_succ, List.map_append]
  rfl
set_option maxRecDepth 1000000 in
set_option maxHeartbeats 4000000 in
theorem argW0 (h : EO w0 w v l) (x : Nat) (hc : x < 254) (hl : l.length ≤ 900000000000) :
    Calls Tryd.prog 32 #[v, .int .u64 (x : Int)] w fun e w' => ∃ v', e = .returned v' ∧ EO w0 w' v' (l ++ enA x) ∧ FA w v w' v' := by
  have HE := hid h
  have he : enA x = [x] := by unfold enA; rw [if_pos hc]
  rw [he]
  clear h he
  have d1 : decide ((x : Int) < 254) = true := decide_eq_true (by omega)
  have w8 : IntKind.u8.wrap (x : Int) = (x : Int) := by rw [IntKind.wrap_u8]; omega
  obtain ⟨sg, hsg⟩ : ∃ y, w.heap.size = y := ⟨_, rfl⟩
  obtain ⟨w1, hw1⟩ : ∃ y, w.alloc (.cells #[.int .u8 (x : Int)] 5) = y := ⟨_, rfl⟩
  have hB1 : Below w.heap.size w w1 := by rw [← hw1]; exact nbel _ _
  have HE1 := hid (HE.out.below hB1)
  have HBk : Hid (Blk w1 sg 5 (aK .u8 [x])) := hid (by rw [← hw1, ← hsg]; exact Blk.new w _ _)
  have HF1 : Hid (FA w v w1 v) := hid (FA.below hB1 v)
  clear hB1 HE
  go_enter Tryd.func32, Tryd.ntmps32
  go_wp2_with (at_builtin; refine wpList_app_eo rfl (.tmp 13) (.tmp 16) rfl rfl HE1.out [x] (by simp; omega) sg 1 rfl rfl HBk.out ?_; intro v2 w2 hE2 hF2; have HE2 := hid hE2; have HF2 := hid (HF1.out.trans hF2); clear hE2 hF2)
  go_wp2
  go_ret
  exact ⟨_, rfl, HE2.out, HF2.out⟩
theorem shr_byte (x i : Nat) : IntKind.u8.wrap ((x : Int) / 2 ^ (8 * i)) = ((x / 256 ^ i % 256 : Nat) : Int) := by
  have hp : (256 : Nat) ^ i = 2 ^ (8 * i) := by rw [Nat.pow_mul]
  have e : (x : Int) / 2 ^ (8 * i) = ((x / 256 ^ i : Nat) : Int) := by rw [hp, Int.natCast_ediv, Int.natCast_pow]; rfl
  rw [e, IntKind.wrap_u8]
  omega
set_option maxRecDepth 1000000 in
set_option maxHeartbeats 4000000 in
theorem argW2 (h : EO w0 w v l) (x : Nat) (hx : x < 18446744073709551616) (hc : ¬ x < 254 ∧ x < 65536) (hl : l.length ≤ 900000000000) :
    Calls Tryd.prog 32 #[v, .int .u64 (x : Int)] w fun e w' => ∃ v', e = .returned v' ∧ EO w0 w' v' (l ++ enA x) ∧ FA w v w' v' := by
  have HE := hid h
  have he : enA x = 254 :: le 2 x := by unfold enA; rw [if_neg hc.1, if_pos hc.2]
  rw [he]
  clear h he
  have d1 : decide ((x : Int) < 254) = false := decide_eq_false (by omega)
  have d2 : decide ((x : Int) < 65536) = true := decide_eq_true (by omega)
  obtain ⟨sg, hsg⟩ : ∃ y, w.heap.size = y := ⟨_, rfl⟩
  obtain ⟨w1, hw1⟩ : ∃ y, w.alloc (.cells #[.int .u8 254] 5) = y := ⟨_, rfl⟩
  have hB1 : Below w.heap.size w w1 := by rw [← hw1]; exact nbel _ _
  have HE1 := hid (HE.out.below hB1)
  have HBk : Hid (Blk w1 sg 5 (aK .u8 [254])) := hid (by rw [← hw1, ← hsg]; exact Blk.new w _ _)
  have HF1 : Hid (FA w v w1 v) := hid (FA.below hB1 v)
  clear hB1 HE
  go_enter Tryd.func32, Tryd.ntmps32
  go_wp2_with (at_builtin; refine wpList_app_eo rfl (.tmp 21) (.tmp 22) rfl rfl HE1.out [254] (by simp; omega) sg 1 rfl rfl HBk.out ?_; intro v2 w2 hE2 hF2; have HE2 := hid hE2; have HF2 := hid (HF1.out.trans hF2); clear hE2 hF2)
  clear hw1 hsg HE1 HBk HF1
  go_wp2_with fail
  go_loopw [0, 6] (fun v0 v6 wr => ∃ i : Nat, i ≤ 2 ∧ v6 = .int .i64 (i : Int) ∧ Hid (EO w0 wr v0 (l ++ 254 :: le i x) ∧ FA w v wr v0)) (fun _ v6 _ => 2 - (intOf v6).toNat)
  case atStart => exact ⟨0, by omega, rfl, hid ⟨HE2.out, HF2.out⟩⟩
  case round =>
  clear HE2 HF2
  obtain ⟨i, hi, rfl, HI⟩ := hrel
  by_cases him : i < 2
  rotate_left
  · have di : decide ((i : Int) < 2) = false := decide_eq_false (by omega)
    have e : i = 2 := by omega
    subst e
    go_wp2
    go_ret
    exact ⟨_, rfl, HI.out.1, HI.out.2⟩
  have di : decide ((i : Int) < 2) = true := decide_eq_true (by omega)
  obtain ⟨y, hy⟩ : ∃ y, x / 256 ^ i % 256 = y := ⟨_, rfl⟩
  obtain ⟨sg, hsg⟩ : ∃ y, wr.heap.size = y := ⟨_, rfl⟩
  obtain ⟨w3, hw3⟩ : ∃ z, wr.alloc (.cells #[.int .u8 (y : Int)] 5) = z := ⟨_, rfl⟩
  have hB3 : Below wr.heap.size wr w3 := by rw [← hw3]; exact nbel _ _
  have HE3 := hid (HI.out.1.below hB3)
  have HBk : Hid (Blk w3 sg 5 (aK .u8 [y])) := hid (by rw [← hw3, ← hsg]; exact Blk.new wr _ _)
  have HF3 := hid (HI.out.2.trans (FA.below hB3 _))
  have Hlen : Hid ((l ++ 254 :: le i x).length ≤ 900000000100) := hid (by rw [List.length_append, List.length_cons]; unfold le; simp; omega)
  have hsh := shr_byte x i
  rw [hy] at hsh
  clear hB3
  go_wp2_with (at_builtin; refine wpList_app_eo rfl (.tmp 29) (.tmp 35) rfl rfl HE3.out [y] (by have := Hlen.out; simp only [List.length_cons, List.length_nil]; omega) sg 1 rfl rfl HBk.out ?_; intro v4 w4 hE4 hF4; have HE4 := hid hE4; have HF4 := hid (HF3.out.trans hF4); clear hE4 hF4)
  have HQ : Hid (EO w0 w4 v4 (l ++ 254 :: le (i + 1) x) ∧ FA w v w4 v4) := hid ⟨by have := HE4.out; rw [le_snoc, hy]; simpa using this, HF4.out⟩
  clear hw3 hsg HE3 HBk HF3 HE4 HF4 HI hsh
  go_wp2
  exact ⟨⟨i + 1, by omega, by go_num, HQ⟩, by simp [intOf]; omega⟩
set_option maxRecDepth 1000000 in
set_option maxHeartbeats 4000000 in
theorem argW8 (h : EO w0 w v l) (x : Nat) (hx : x < 18446744073709551616) (hc : ¬ x < 254 ∧ ¬ x < 65536) (hl : l.length ≤ 900000000000) :
    Calls Tryd.prog 32 #[v, .int .u64 (x : Int)] w fun e w' => ∃ v', e = .returned v' ∧ EO w0 w' v' (l ++ enA x) ∧ FA w v w' v' := by
  have HE := hid h
  have he : enA x = 255 :: le 8 x := by unfold enA; rw [if_neg hc.1, if_neg hc.2]
  rw [he]
  clear h he
  have d1 : decide ((x : Int) < 254) = false := decide_eq_false (by omega)
  have d2 : decide ((x : Int) < 65536) = false := decide_eq_false (by omega)
  obtain ⟨sg, hsg⟩ : ∃ y, w.heap.size = y := ⟨_, rfl⟩
  obtain ⟨w1, hw1⟩ : ∃ y, w.alloc (.cells #[.int .u8 255] 5) = y := ⟨_, rfl⟩
  have hB1 : Below w.heap.size w w1 := by rw [← hw1]; exact nbel _ _
  have HE1 := hid (HE.out.below hB1)
  have HBk : Hid (Blk w1 sg 5 (aK .u8 [255])) := hid (by rw [← hw1, ← hsg]; exact Blk.new w _ _)
  have HF1 : Hid (FA w v w1 v) := hid (FA.below hB1 v)
  clear hB1 HE
  go_enter Tryd.func32, Tryd.ntmps32
  go_wp2_with (at_builtin; refine wpList_app_eo rfl (.tmp 7) (.tmp 8) rfl rfl HE1.out [255] (by simp; omega) sg 1 rfl rfl HBk.out ?_; intro v2 w2 hE2 hF2; have HE2 := hid hE2; have HF2 := hid (HF1.out.trans hF2); clear hE2 hF2)
  clear hw1 hsg HE1 HBk HF1
  go_wp2_with fail
  go_loopw [0, 6] (fun v0 v6 wr => ∃ i : Nat, i ≤ 8 ∧ v6 = .int .i64 (i : Int) ∧ Hid (EO w0 wr v0 (l ++ 255 :: le i x) ∧ FA w v wr v0)) (fun _ v6 _ => 8 - (intOf v6).toNat)
  case atStart => exact ⟨0, by omega, rfl, hid ⟨HE2.out, HF2.out⟩⟩
  case round =>
  clear HE2 HF2
  obtain ⟨i, hi, rfl, HI⟩ := hrel
  by_cases him : i < 8
  rotate_left
  · have di : decide ((i : Int) < 8) = false := decide_eq_false (by omega)
    have e : i = 8 := by omega
    subst e
    go_wp2
    go_ret
    exact ⟨_, rfl, HI.out.1, HI.out.2⟩
  have di : decide ((i : Int) < 8) = true := decide_eq_true (by omega)
  obtain ⟨y, hy⟩ : ∃ y, x / 256 ^ i % 256 = y := ⟨_, rfl⟩
  obtain ⟨sg, hsg⟩ : ∃ y, wr.heap.size = y := ⟨_, rfl⟩
  obtain ⟨w3, hw3⟩ : ∃ z, wr.alloc (.cells #[.int .u8 (y : Int)] 5) = z := ⟨_, rfl⟩
  have hB3 : Below wr.heap.size wr w3 := by rw [← hw3]; exact nbel _ _
  have HE3 := hid (HI.out.1.below hB3)
  have HBk : Hid (Blk w3 sg 5 (aK .u8 [y])) := hid (by rw [← hw3, ← hsg]; exact Blk.new wr _ _)
  have HF3 := hid (HI.out.2.trans (FA.below hB3 _))
  have Hlen : Hid ((l ++ 255 :: le i x).length ≤ 900000000100) := hid (by rw [List.length_append, List.length_cons]; unfold le; simp; omega)
  have hsh := shr_byte x i
  rw [hy] at hsh
  clear hB3
  go_wp2_with (at_builtin; refine wpList_app_eo rfl (.tmp 29) (.tmp 35) rfl rfl HE3.out [y] (by have := Hlen.out; simp only [List.length_cons, List.length_nil]; omega) sg 1 rfl rfl HBk.out ?_; intro v4 w4 hE4 hF4; have HE4 := hid hE4; have HF4 := hid (HF3.out.trans hF4); clear hE4 hF4)
  have HQ : Hid (EO w0 w4 v4 (l ++ 255 :: le (i + 1) x) ∧ FA w v w4 v4) := hid ⟨by have := HE4.out; rw [le_snoc, hy]; simpa using this, HF4.out⟩
  clear hw3 hsg HE3 HBk HF3 HE4 HF4 HI hsh
  go_wp2
  exact ⟨⟨i + 1, by omega, by go_num, HQ⟩, by simp [intOf]; omega⟩
theorem appendArgument_walk (h : EO w0 w v l) (x : Nat) (hx : x < 18446744073709551616) (hl : l.length ≤ 900000000000) :
    Calls Tryd.prog 32 #[v, .int .u64 (x : Int)] w fun e w' => ∃ v', e = .returned v' ∧ EO w0 w' v' (l ++ enA x) ∧ FA w v w' v' := by
  by_cases h1 : x < 254
  · exact argW0 h x h1 hl
  · by_cases h2 : x < 65536
    · exact argW2 h x hx ⟨h1, h2⟩ hl
    · exact argW8 h x hx ⟨h1, h2⟩ hl
end
end Go.Proofs.Qxb6500889aDoor
