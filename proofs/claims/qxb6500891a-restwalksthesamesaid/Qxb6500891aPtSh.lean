/- AppendShortest. -/
import Derived.Test.Qxb6500891aPtPcs
import Derived.Test.Qxb6500891aLastT
import Derived.Deep.DeepCutAuto
namespace Go.Proofs.Qxb6500891a
open Go.RowKit
set_option linter.unusedSimpArgs false
set_option linter.unusedVariables false

/-- Bytes appended so far: at most n. -/
structure Ab (w0 : World) (v : Value) (n : Nat) (w : World) : Prop where
  ex : ∃ bs, bs.length ≤ n ∧ (∀ x ∈ bs, x < 256) ∧ As w0 v bs w
theorem Ab.below {w0 w w' : World} {v : Value} {n : Nat} (h : Ab w0 v n w) (hb : Below w.heap.size w w') : Ab w0 v n w' := by
  obtain ⟨bs, h1, h2, h3⟩ := h.ex
  exact ⟨bs, h1, h2, h3.below hb⟩
theorem Ab.mono {w0 w : World} {v : Value} {n m : Nat} (h : Ab w0 v n w) (hm : n ≤ m) : Ab w0 v m w := by
  obtain ⟨bs, h1, h2, h3⟩ := h.ex
  exact ⟨bs, by omega, h2, h3⟩
theorem Ab.bel {w0 w : World} {v : Value} {n : Nat} (h : Ab w0 v n w) : Below w0.heap.size w0 w := by
  obtain ⟨bs, h1, h2, h3⟩ := h.ex
  exact h3.bel
theorem Ab.nil (w : World) : Ab w (.slice none 0 0) 0 w := ⟨[], by simp, fun x hx => (by cases hx), ⟨Below.refl _ _, World.ownsRow_nil _ _ _ _⟩⟩
theorem Ab.ne {w0 w : World} {v : Value} {n : Nat} (h : Ab w0 v n w) {g : Nat} {t : TypeId} {ds : List Value} (hb : Blk w g t ds) (hne : 5 ≠ t) : ∀ g', v.ownBlock = some g' → g ≠ g' := by
  obtain ⟨bs, h1, h2, h3⟩ := h.ex
  exact own_ne h3.own hb hne
theorem Ab.row {w0 w : World} {v : Value} {n : Nat} (h : Ab w0 v n w) (hn : n ≤ 140737488351232) : ∃ a k c bs, v = .slice a k c ∧ ByteRow w a k c bs := by
  obtain ⟨bs, h1, h2, h3⟩ := h.ex
  obtain ⟨a, k, c, hv, _, hr⟩ := h3.row (by omega) h2
  exact ⟨a, k, c, bs, hv, hr⟩
theorem Ab.str {w0 w : World} {v : Value} {n : Nat} (h : Ab w0 v n w) (hn : n ≤ 140737488351232) : ∃ s, (convert 26 9 v).run Try.prog w = .ok (.string s) w := by
  obtain ⟨a, k, c, bs, rfl, hr⟩ := h.row hn
  exact ⟨_, hr.str⟩
theorem wpList_app_ab {ops : Array Oper} {rest : List Oper} {o : Oper} {a : Act} {Q : Exit → Act → World → Prop} (hgd : o.guard = none) (s x : Operand)
    (ho : o.op = .call { callee := .builtin .append, args := #[s, x], argTypes := #[26, 26] })
    (w0 w : World) (v : Value) (k : Nat) (m : List Nat) (hs : a.eval s = v) (hA : Ab w0 v k w) (ax : Option Addr) (n c : Nat) (hx : a.eval x = .slice ax n c) (hm : m.length = n) (hm0 : ax = none → n = 0 ∧ c = 0) (hmb : ∀ x ∈ m, x < 256)
    (hnews : ∀ ad, ax = some ad → ∀ j u, (bC m)[j]? = some u → w.cell? (ad.add j) = some u) (hb : k + n ≤ 140737488355328)
    (h : ∀ v' w', Hid (Ab w0 v' (k + n) w') → Hid (Kept v w w') → wpList Try.prog ops Q rest (a.put o.dst v') w') : wpList Try.prog ops Q (o :: rest) a w := by
  obtain ⟨bs, h1, h2, h3⟩ := hA.ex
  refine wpList_app_as hgd s x ho w0 w v bs m hs h3 ax n c hx hm hm0 hnews (by omega) ?_
  intro v' w' ha hk
  refine h v' w' (hid ⟨bs ++ m, by rw [List.length_append]; omega, fun x hx => ?_, ha.out⟩) hk
  rcases List.mem_append.1 hx with h | h
  · exact h2 x h
  · exact hmb x h
/-- The bytes of a component, where they lie. -/
theorem raw_news {ds : List Value} {o : Nat} {l : List Nat} {sp : List Sp} (hp : PathOk ds o l sp) {w : World} {g : Nat} {t : TypeId} (hb : Blk w g t ds) (a b : Nat) : ∀ ad, some (⟨g, o + a, none⟩ : Addr) = some ad → ∀ i u, (bC (sub l a b))[i]? = some u → w.cell? (ad.add i) = some u := by
  intro ad had i u hu
  cases had
  have e : (⟨g, o + a, none⟩ : Addr).add i = ⟨g, o + a + i, none⟩ := by unfold Addr.add; split <;> simp_all
  rw [e, hb.cell]
  unfold bC at hu
  rw [List.getElem?_map, Option.map_eq_some_iff] at hu
  obtain ⟨x, hx, rfl⟩ := hu
  have hx2 : l[a + i]? = some x := by
    unfold sub at hx
    rw [List.getElem?_take] at hx
    split at hx
    · rw [List.getElem?_drop] at hx; exact hx
    · cases hx
  have := hp.raw _ _ hx2
  rw [show o + a + i = o + (a + i) by omega]
  exact this
theorem sp_nm' {ds : List Value} {o : Nat} {l : List Nat} {sp : List Sp} (hp : PathOk ds o l sp) {s : Sp} (hs : s ∈ sp) : ∀ x ∈ sub l s.a s.b, x < 256 := fun x hx => hp.bytes x (List.mem_of_mem_drop (List.mem_of_mem_take hx))
/-- Bytes appended, and a component in block p. -/
structure Abs (w0 : World) (v : Value) (n : Nat) (p : Nat) (C : List Value) (w : World) : Prop where
  ab : Ab w0 v n w
  bp : Blk w p 60 C
theorem Abs.below {w0 w w' : World} {v : Value} {n p : Nat} {C : List Value} (h : Abs w0 v n p C w) (hb : Below w.heap.size w w') : Abs w0 v n p C w' := ⟨h.ab.below hb, h.bp.below hb⟩

set_option maxRecDepth 1000000 in
set_option maxHeartbeats 4000000 in
theorem shortest_walk (g o : Nat) (t : TypeId) (ds : List Value) (l : List Nat) (sp : List Sp) (w : World) (hb : Blk w g t ds) (hp : PathOk ds o l sp) :
    Calls Try.prog 53 #[.pointer (some ⟨g, o, none⟩), .slice none 0 0] w fun e w' => ∃ v, e = .returned v ∧ Ab w v 10000 w' := by
  have HB := hid hb
  have HP := hid hp
  have h128 := hp.n128
  have h255 := hp.n255
  obtain ⟨m, hm⟩ : ∃ m, sp.length = m := ⟨_, rfl⟩
  have Hm := hid hm
  rw [hm] at h128
  have HA0 := hid (Ab.nil w)
  have HAbs := hid (abs_walk g o t ds l sp w hb hp)
  clear hb hp hm
  go_enter Try.func53, Try.ntmps53
  go_wp2_with fail
  refine (HAbs.out).mono ?_
  rintro e w1 ⟨⟨ab, rfl, _⟩, rfl⟩
  clear HAbs
  go_upto_if 8 with fail
  go_cut [1] from 9 to 11 (fun v wc => Hid (Ab w1 v 1 wc))
  case first =>
    as_aux_lemma =>
    cases ab with
    | true =>
      have HA1 := hid (HA0.out.below (nbel w1 (.cells #[.int .u8 47] 5)))
      go_wp2_with (at_builtin; refine wpList_app_ab rfl (.tmp 9) (.tmp 10) rfl w1 _ _ 0 [47] rfl HA1.out (some ⟨w1.heap.size, 0, none⟩) 1 1 rfl rfl (fun h => by cases h) (by simp) (new47 w1 47 _ rfl) (by decide) ?_; intro v8 w8 HA8 HK8)
      go_meet
      case rel => exact HA8
    | false =>
      go_wp2_with fail
      go_meet
      case rel => exact hid (HA0.out.mono (by omega))
  case rest =>
  have HA := hcut
  clear hcut HA0
  have HBc := hid (HB.out.below HA.out.bel)
  have hsl := fun w' => slice_comp ⟨g, o + 257, none⟩ m h128 w'
  have c256 : ∀ nn, (wc.drewN nn).cell? ⟨g, o + 256, none⟩ = some (.int .i64 (m : Int)) := fun nn => by rw [(HBc.out.drewN nn).cell, ← Hm.out]; exact HP.out.ct
  go_upto_region 3 with fail
  go_quiet (fail)
  have HA1 := hid (HA.out.below (Drew.below ⟨nq, rfl⟩ _))
  generalize wc.drewN nq = w2 at HA1 ⊢
  clear c256 HA HBc
  go_wp2_with fail
  go_loopw [1, 21] (fun v i wr => ∃ k : Nat, k ≤ m ∧ i = .int .i64 k ∧ Hid (Ab w1 v (1 + k * 40) wr)) (fun _ i _ => m - (intOf i).toNat)
  case atStart => exact ⟨0, by omega, rfl, hid (HA1.out.mono (by omega))⟩
  case round =>
    clear HA1
    obtain ⟨k, hk, rfl, HA⟩ := hrel
    have HBr := hid (HB.out.below HA.out.bel)
    by_cases hlt : k < m
    rotate_left
    · as_aux_lemma =>
      have dk : decide ((k : Int) < (m : Int)) = false := decide_eq_false (by omega)
      have c256 : wr.cell? ⟨g, o + 256, none⟩ = some (.int .i64 (m : Int)) := by rw [HBr.out.cell, ← Hm.out]; exact HP.out.ct
      by_cases hm0 : m = 0
      · subst hm0
        go_wp2
        go_ret
        exact ⟨_, rfl, HA.out.mono (by omega)⟩
      · have dm : decide ((0 : Int) < (m : Int)) = true := decide_eq_true (by omega)
        have HNd := hid (pndir_walk g o t ds l sp wr HBr.out HP.out)
        go_wp2_with fail
        refine (HNd.out).mono ?_
        rintro e w3 ⟨⟨nd, rfl, _⟩, hb3⟩
        have HA3 := hid (HA.out.below hb3)
        clear hb3 HNd c256
        cases nd with
        | false =>
          go_wp2
          go_ret
          exact ⟨_, rfl, HA3.out.mono (by omega)⟩
        | true =>
          have HA4 := hid (HA3.out.below (nbel w3 (.cells #[.int .u8 47] 5)))
          have hbb : (1 + k * 40) + 1 ≤ 140737488355328 := by omega
          go_wp2_with (at_builtin; refine wpList_app_ab rfl (.tmp 51) (.tmp 52) rfl w1 _ _ (1 + k * 40) [47] rfl HA4.out (some ⟨w3.heap.size, 0, none⟩) 1 1 rfl rfl (fun h => by cases h) (by simp) (new47 w3 47 _ rfl) hbb ?_; intro v8 w8 HA8 HK8)
          go_ret
          exact ⟨_, rfl, HA8.out.mono (by omega)⟩
    as_aux_lemma =>
    have dk : decide ((k : Int) < (m : Int)) = true := decide_eq_true (by omega)
    obtain ⟨s, hs⟩ : ∃ s, sp[k]? = some s := ⟨_, List.getElem?_eq_getElem (show k < sp.length by rw [Hm.out]; omega)⟩
    have hso := HP.out.cp.ok s (List.mem_of_getElem? hs)
    have hab := hso.lt
    have hbl := hso.le
    have hsh := hso.sh
    have hsub : (sub l s.a s.b).length = s.b - s.a := sub_len hso.le
    obtain ⟨e0, e1, e2, e3, e4⟩ := spC_cells HP.out.cp hs HBr.out
    obtain ⟨H, hH⟩ : ∃ H, hashL 2166136261 (sub l s.a s.b) = H := ⟨_, rfl⟩
    rw [hH] at e4
    have i1 : (k : Int) < (m : Int) := by omega
    obtain ⟨p, hp⟩ : ∃ p, wr.heap.size = p := ⟨_, rfl⟩
    have hbn := Blk.new wr [.int .u8 (s.a : Int), .int .u8 (s.b : Int), .int .u8 s.cls, .bool s.sl, .int .u32 H] 60
    rw [hp] at hbn
    have HS1 : Hid (Abs w1 _ (1 + k * 40) p _ _) := hid ⟨HA.out.below (nbel wr (.cells #[.int .u8 (s.a : Int), .int .u8 (s.b : Int), .int .u8 s.cls, .bool s.sl, .int .u32 H] 60)), hbn⟩
    have HMem := hid (List.mem_of_getElem? hs)
    clear hbn hs hso HA HBr
    go_upto_region 6 with fail
    generalize wr.alloc (.cells #[.int .u8 (s.a : Int), .int .u8 (s.b : Int), .int .u8 s.cls, .bool s.sl, .int .u32 H] 60) = w3 at HS1 ⊢
    obtain ⟨C, hC⟩ : ∃ C, [Value.int .u8 (s.a : Int), .int .u8 (s.b : Int), .int .u8 s.cls, .bool s.sl, .int .u32 H] = C := ⟨_, rfl⟩
    have HC := hid hC
    rw [hC] at HS1
    clear e0 e1 e2 e3 e4 hC
    go_upto_if 27 with fail
    go_cut [1] from 26 to 30 (fun v wc => Hid (Abs w1 v (1 + k * 40 + 1) p C wc))
    case first =>
      as_aux_lemma =>
      by_cases hk0 : k = 0
      · subst hk0
        go_wp2_with fail
        go_meet
        case rel => exact hid ⟨HS1.out.ab.mono (by omega), HS1.out.bp⟩
      · have d0 : decide ((0 : Int) < (k : Int)) = true := decide_eq_true (by omega)
        have HS2 := hid (HS1.out.below (nbel w3 (.cells #[.int .u8 47] 5)))
        have hbb : (1 + k * 40) + 1 ≤ 140737488355328 := by omega
        have Hne := hid (HS2.out.ab.ne HS2.out.bp (by decide))
        go_wp2_with (at_builtin; refine wpList_app_ab rfl (.tmp 28) (.tmp 29) rfl w1 _ _ (1 + k * 40) [47] rfl HS2.out.ab (some ⟨w3.heap.size, 0, none⟩) 1 1 rfl rfl (fun h => by cases h) (by simp) (new47 w3 47 _ rfl) hbb ?_; intro v8 w8 HA8 HK8)
        go_meet
        case rel => exact hid ⟨HA8.out, HK8.out.blk HS2.out.bp Hne.out⟩
    case rest =>
    have HS3 := hcut
    clear hcut HS1
    go_upto_region 8 with fail
    obtain ⟨X, W, hT, hI⟩ := class_mk (fun w' => Drew wc w')
    have H0 : Hid (∃ x, wc.drew = W x) := hid (hI _ ⟨1, rfl⟩)
    have hne : Nonempty X := ⟨H0.out.choose⟩
    have e0 : ∀ x, (W x).cell? ⟨p, 0, none⟩ = some (.int .u8 (s.a : Int)) := fun x => by rw [(HS3.out.bp.drew (hT x)).cell, ← HC.out]; rfl
    have e1 : ∀ x, (W x).cell? ⟨p, 1, none⟩ = some (.int .u8 (s.b : Int)) := fun x => by rw [(HS3.out.bp.drew (hT x)).cell, ← HC.out]; rfl
    have hs2 : ∀ w', (Instr.sliceAt 58 (.pointer (some ⟨g, o, none⟩)) (some (.int .u8 (s.a : Int))) (some (.int .u8 (s.b : Int))) none).run Try.prog w' = .ok (.slice (some ⟨g, o + s.a, none⟩) (s.b - s.a) (255 - s.a)) w' := fun w' => by
      have := slice_raw ⟨g, o, none⟩ s.a s.b (by omega) (by omega) (by omega) w'
      rw [show (⟨g, o, none⟩ : Addr).add s.a = ⟨g, o + s.a, none⟩ by unfold Addr.add; split <;> simp_all] at this
      exact this
    have HTT := hid hT
    clear hT hI
    refine wp_region_class_tailT W 9 (by kernel_rfl) (by kernel_rfl) (by kernel_rfl) H0.out ?_
    dsimp only [List.take, List.drop]
    repeat (go_big_quiet_step (fail))
    refine wpQuiet_nil ?_
    intro z
    have HZ := hid (HTT.out z)
    generalize W z = wz at HZ ⊢
    clear e0 e1 hs2 H0 HTT
    have HAz := hid (HS3.out.ab.below (Drew.below HZ.out _))
    have HBz := hid (HB.out.below HAz.out.bel)
    have HNew := hid (raw_news HP.out HBz.out s.a s.b)
    have hbb : (1 + k * 40 + 1) + (s.b - s.a) ≤ 140737488355328 := by omega
    have Hmb : Hid (∀ x ∈ sub l s.a s.b, x < 256) := hid (sp_nm' HP.out HMem.out)
    go_wp2_with (at_builtin; refine wpList_app_ab rfl (.tmp 31) (.tmp 39) rfl w1 _ _ (1 + k * 40 + 1) (sub l s.a s.b) rfl HAz.out (some ⟨g, o + s.a, none⟩) (s.b - s.a) (255 - s.a) rfl hsub (fun h => by cases h) Hmb.out HNew.out hbb ?_; intro v8 w8 HA8 HK8)
    exact ⟨⟨k + 1, by omega, by go_num, hid (HA8.out.mono (by omega))⟩, by simp [intOf]; omega⟩
end Go.Proofs.Qxb6500891a
