/- Table.internUnion. -/
import Derived.Test.Qxb6500883aGreatDoorScGf
namespace Go.Proofs.Qxb6500883aGreatDoor
open Go.RowKit
set_option linter.unusedSimpArgs false
set_option linter.unusedVariables false
def unR (lo hi : Nat) : TR := ⟨8, false, 0, -1, lo, hi, 0, ⟨#[]⟩, 0, 0, 0, 0⟩
def X53 : Nat → Bool := fun c => c == 50 || c == 51 || c == 53 || c == 56
/-- A union's key. -/
def uk1 (o : Nat) : List UInt8 := [UInt8.ofNat o, UInt8.ofNat (o / 256), UInt8.ofNat (o / 65536), UInt8.ofNat (o / 16777216)]
def ukL (ids : List Nat) : List UInt8 := ids.flatMap uk1
def ukB (ids : List Nat) : ByteArray := ⟨(ukL ids).toArray⟩
theorem ukL_len (ids : List Nat) : (ukL ids).length = 4 * ids.length := by
  unfold ukL
  rw [length_flatMap_const (sz := 4) _ (fun _ _ => rfl)]
  omega
theorem ukL_snoc {ids : List Nat} {i o : Nat} (h : ids[i]? = some o) : ukL (ids.take (i + 1)) = ukL (ids.take i) ++ uk1 o := by
  have hlt := (List.getElem?_eq_some_iff.1 h).1
  rw [List.take_add_one, h]
  unfold ukL
  rw [List.flatMap_append]
  simp
theorem OwR.made {α : Type} {K : RK α} {w : World} {n0 g n : Nat} {cs : List Value} (hb : Blk w g K.t cs) (hn : cs.length = n * K.n) (hm : n ≤ maxLen) (hg : n0 ≤ g) : OwR K n0 w (.slice (some ⟨g, 0, none⟩) 0 n) [] :=
  ⟨by simp, .inr ⟨g, n, cs.toArray, rfl, hg, hb, Nat.zero_le _, hm, by simp [hn], by simp⟩⟩
/-- What internUnion comes to. -/
def IuP (τ : Rl) (w : World) (tB : Nat) (V : TV) (T : TS) (M : TMp) (ids : List Nat) (e : Ending) (w' : World) : Prop :=
  (∃ i : Nat, M.un (ukB ids) = some i ∧ e = .returned (.tuple #[.int .i32 (i : Int), .bool false]) ∧ Below w.heap.size w w') ∨
  (M.un (ukB ids) = none ∧ e = .returned (.tuple #[.int .i32 (T.types.length : Int), .bool true]) ∧ ∃ τ' V', TbX τ' w' tB V' { T with types := T.types ++ [unR T.opts.length (T.opts.length + ids.length)], opts := T.opts ++ ids } { M with un := gup M.un (ukB ids) (some T.types.length) } ∧ Fr X53 τ w τ' w' ∧ V'.byN = V.byN)
section
variable {τ τ' : Rl} {w w' w1 w2 : World} {tB : Nat} {V V' : TV} {T T' : TS} {M : TMp}
def idC (ids : List Nat) : List Value := ids.map fun (x : Nat) => .int .i32 (x : Int)
theorem idC_flat (ids : List Nat) : ids.flatMap rtId.f = idC ids := by
  induction ids with
  | nil => rfl
  | cons a b ih => show _ :: b.flatMap rtId.f = _; rw [ih]; rfl
set_option maxRecDepth 100000 in
set_option maxHeartbeats 1000000 in
theorem internUnionW (h : TbX τ w tB V T M) {g : Nat} {ids : List Nat} (hg : Blk w g 47 (idC ids)) (hg0 : τ g = 0) (hb : ∀ x ∈ ids, x < 2147483648) (hl : T.types.length ≤ 1000000000) (hl2 : T.opts.length + ids.length ≤ 1000000000) :
    Calls Tryz.prog 148 #[.pointer (some ⟨tB, 0, none⟩), .slice (some ⟨g, 0, none⟩) ids.length ids.length] w fun e w' => Hid (IuP τ w tB V T M ids e w') := by
  obtain ⟨n, hn⟩ : ∃ n, ids.length = n := ⟨_, rfl⟩
  have Hn := hid hn
  rw [hn] at hl2
  have hmk : ∀ wz : World, (Instr.makeSlice 28 (.int .i64 0) (.int .i64 ((4 * n : Nat) : Int))).run Tryz.prog wz = .ok (.slice (some ⟨wz.heap.size, 0, none⟩) 0 (4 * n)) (wz.alloc (.cells (madeCells #[.int .u8 0] (4 * n)) 5)) := fun wz =>
    run_make_lc 28 5 (.int .u8 0) 1 Tryz.underlying28 (by kernel_rfl) rfl .i64 .i64 0 (4 * n) (Nat.zero_le _) (by omega) (by omega) wz
  have HR := hid h
  have HG := hid (And.intro hg (And.intro hg0 hb))
  rw [hn]
  clear h hg hg0 hb hn
  obtain ⟨p, hp⟩ : ∃ p, w.heap.size = p := ⟨_, rfl⟩
  obtain ⟨wa, hwa⟩ : ∃ wa, w.alloc (.cells (madeCells #[.int .u8 0] (4 * n)) 5) = wa := ⟨_, rfl⟩
  have H1 : Hid (OwR rtB w.heap.size wa (.slice (some ⟨p, 0, none⟩) 0 (4 * n)) [] ∧ Below w.heap.size w wa) := hid (by
    rw [← hwa]
    refine ⟨OwR.made (cs := (madeCells #[.int .u8 0] (4 * n)).toList) ?_ ?_ (by show 4 * n ≤ 9223372036854775807; omega) (by omega), nbel w _⟩
    · have k := Blk.new w (madeCells #[.int .u8 0] (4 * n)).toList 5
      rw [hp] at k
      exact k
    · show (madeCells #[.int .u8 0] (4 * n)).toList.length = 4 * n * 1
      simp [madeCells])
  have hmw := hmk w
  rw [hp, hwa] at hmw
  have e4 : ((4 * n : Nat) : Int) = 4 * (n : Int) := by omega
  rw [e4] at hmw
  have e5 : IntKind.i64.wrap (4 * (n : Int)) = 4 * (n : Int) := by rw [IntKind.wrap_i64]; omega
  clear hmk hwa hp e4
  go_enter Tryz.func148, Tryz.ntmps148
  go_upto_region 3 with fail
  clear hmw e5
  go_loopw [18, 6] (fun t q wr => ∃ (i : Nat) (ax : Option Addr) (nx qx : Nat), t = .int .i64 (i : Int) ∧ q = .slice ax nx qx ∧ i ≤ n ∧ Hid (OwR rtB w.heap.size wr (.slice ax nx qx) (ukL (ids.take i)) ∧ Below w.heap.size w wr)) (fun t _ _ => n - (intOf t).toNat)
  case atStart => exact ⟨0, _, _, _, rfl, rfl, Nat.zero_le _, hid ⟨H1.out.1, H1.out.2⟩⟩
  case round =>
  obtain ⟨i, ax, nx, qx, rfl, rfl, hi, HI⟩ := hrel
  by_cases hin : i < n
  rotate_left
  · have d1 : decide ((i : Int) < (n : Int)) = false := decide_eq_false (by omega)
    have hst := HI.out.1
    have hie : ids.take i = ids := List.take_of_length_le (by rw [Hn.out]; omega)
    rw [hie] at hst
    have HK := hid hst
    have HB := hid HI.out.2
    have HR1 := hid (HR.out.below HI.out.2)
    clear HI hie hst
    obtain ⟨ks, hks⟩ : ∃ ks, ukB ids = ks := ⟨_, rfl⟩
    have hconv : ∀ wz : World, Below wr.heap.size wr wz → (convert 28 9 (.slice ax nx qx)).run Tryz.prog wz = .ok (.string ks) wz := fun wz hz => by
      have := (HK.out.below hz).str
      rw [show (⟨(ukL ids).toArray⟩ : ByteArray) = ks from hks] at this
      exact this
    have Hcv := hid hconv
    have Hks := hid hks
    clear hconv hks
    have b8 : wr.cell? ⟨tB, 8, none⟩ = some (.map (some M.mu)) := by rw [← HR1.out.vu]; exact HR1.out.tb.b.cell 8
    go_upto_region 7 with fail
    obtain ⟨X0, W, hT, hI⟩ := class_mk (fun w' => Drew wr w')
    have H0 : Hid (∃ y, wr.drew = W y) := hid (hI _ ⟨1, rfl⟩)
    have hne : Nonempty X0 := ⟨H0.out.choose⟩
    have HTT := hid hT
    have j8 : ∀ z, (W z).cell? ⟨tB, 8, none⟩ = some (.map (some M.mu)) := fun y => by obtain ⟨m, e⟩ := hT y; rw [e]; exact b8
    have jc : ∀ z, (convert 28 9 (.slice ax nx qx)).run Tryz.prog (W z) = .ok (.string ks) (W z) := fun z => Hcv.out _ ((hT z).below _)
    have HJl : Hid (∀ z, (Instr.lookup 93 (.map (some M.mu)) (.string ks) true).run Tryz.prog (W z) = .ok (.tuple #[((idV (M.un ks)).getD (.int .i32 0)), .bool (idV (M.un ks)).isSome]) (W z)) := hid (fun z => (HR1.out.u.below ((hT z).below _)).lookT (P := Tryz.prog) Tryz.underlying93 (keyStr Tryz.underlying9) ks (z := .int .i32 0) (fun w => by kernel_rfl))
    clear hT hI
    cases hun : M.un ks with
    | some i0 =>
      as_aux_lemma =>
      have jl : ∀ z, (Instr.lookup 93 (.map (some M.mu)) (.string ks) true).run Tryz.prog (W z) = .ok (.tuple #[.int .i32 (i0 : Int), .bool true]) (W z) := fun z => by
        have := HJl.out z
        rw [hun] at this
        exact this
      have HUn := hid hun
      clear hun HJl
      refine wp_region_class W (by kernel_rfl) (by kernel_rfl) H0.out ?_
      repeat (go_big_quiet_step (fail))
      refine wpQuiet_nil ?_
      intro z
      have HBz := hid (HB.out.trans (((HTT.out z).below wr.heap.size).mono HB.out.size))
      generalize W z = w2 at HBz ⊢
      clear j8 jl jc H0 HTT hne b8
      go_wp2
      go_ret2
      exact hid (.inl ⟨i0, by rw [Hks.out]; exact HUn.out, rfl, HBz.out⟩)
    | none =>
      as_aux_lemma =>
      have jl : ∀ z, (Instr.lookup 93 (.map (some M.mu)) (.string ks) true).run Tryz.prog (W z) = .ok (.tuple #[.int .i32 0, .bool false]) (W z) := fun z => by
        have := HJl.out z
        rw [hun] at this
        exact this
      have HUn := hid hun
      clear hun HJl
      refine wp_region_class W (by kernel_rfl) (by kernel_rfl) H0.out ?_
      repeat (go_big_quiet_step (fail))
      refine wpQuiet_nil ?_
      intro z
      have HD2 := hid ((HTT.out z).below wr.heap.size)
      have HBz := hid (HB.out.trans (((HTT.out z).below wr.heap.size).mono HB.out.size))
      generalize W z = w2 at HBz HD2 ⊢
      clear j8 jl jc H0 HTT hne b8
      have HR2 := hid (HR1.out.below HD2.out)
      have HK2 := hid (HK.out.below HD2.out)
      have HG2 := hid (HG.out.1.below HBz.out)
      clear HR1 HK HB HD2
      obtain ⟨a, ha⟩ : ∃ m, T.opts.length = m := ⟨_, rfl⟩
      have Ha := hid ha
      obtain ⟨m, hm⟩ : ∃ m, T.types.length = m := ⟨_, rfl⟩
      have Hm := hid hm
      rw [ha] at hl2
      rw [hm] at hl
      clear ha hm
      obtain ⟨af, qf, hvf⟩ := HR2.out.tb.o.shape
      rw [Ha.out] at hvf
      have Hvf := hid hvf
      have b2 : w2.cell? ⟨tB, 2, none⟩ = some (.slice af a qf) := by rw [← hvf]; exact HR2.out.tb.b.cell 2
      clear hvf
      have e2 : IntKind.i32.wrap (a : Int) = (a : Int) := by rw [IntKind.wrap_i32]; omega
      go_wp2_with (at_builtin; refine stopHere ?_)
      intro _
      have hrf := HR2.out.tb.o
      rw [Hvf.out] at hrf
      refine wpList_app_x okId rfl _ _ hrf rfl ids rfl (some ⟨g, 0, none⟩) n n rfl Hn.out (fun h => by cases h) (OwR.mk (K := rtId) (xs := ids) (n0 := 0) (by rw [idC_flat]; exact HG2.out) (fun _ => rfl) (by rw [Hn.out]; show n ≤ 9223372036854775807; omega) (Nat.zero_le _)).rx.src.1 (by have := Ha.out; show (T.opts.length + n) * 4 ≤ _; omega) ?_
      intro v8 w8 τ8 hr8 hf8 _ _
      obtain ⟨a8, q8, h8⟩ := hr8.out.shape
      rw [List.length_append, Hn.out, Ha.out] at h8
      subst h8
      have HP8 := hid (HR2.out.tb.appO hr8.out hf8.out)
      have hk8 : Blk w8 tB 95 (tbC V) := hf8.out.keep HR2.out.tb.b HR2.out.tb.rb rfl
      have f2 : w8.frozen? ⟨tB, 2, none⟩ = false := hk8.frozen _
      have s2 : w8.cell? ⟨tB, 2, none⟩ = some (.slice af a qf) := by rw [← Hvf.out]; exact hk8.cell 2
      have HX := hid (HR2.out.fr' HP8.out.2 rfl rfl HP8.out.1 rfl rfl)
      have HFr := hid HP8.out.2
      have c9 := HP8.out.1.b.cell 2
      have c9' : (w8.setCell ⟨tB, 2, none⟩ (.slice a8 (a + n) q8)).cell? ⟨tB, 2, none⟩ = some (.slice a8 (a + n) q8) := c9
      clear hrf hr8 hf8 HP8 hk8 c9 b2
      go_upto_region 12 with fail
      generalize hw9 : w8.setCell _ _ = w9 at c9' HX HFr ⊢
      clear hw9 f2 s2
      have e3 : IntKind.i32.wrap ((a : Int) + (n : Int)) = (a : Int) + (n : Int) := by rw [IntKind.wrap_i32]; omega
      have e4 : IntKind.i32.wrap ((a + n : Nat) : Int) = ((a + n : Nat) : Int) := by rw [IntKind.wrap_i32]; omega
      have HA := hid (addXW HX.out (unR a (a + n)) (by show T.types.length ≤ _; rw [Hm.out]; exact hl))
      dsimp only [unR, trC] at HA
      have em : T.types.length = m := Hm.out
      rw [em] at HA
      clear em
      go_wp2_with fail
      refine HA.out.mono ?_
      rintro e w4 ⟨rfl, h4⟩
      have HF4 : Hid (∃ τ4 V4, TbX τ4 w4 tB V4 { T with types := T.types ++ [unR a (a + n)], opts := T.opts ++ ids } M ∧ Fr X53 τ w2 τ4 w4 ∧ V4.byN = V.byN) := hid (by
        obtain ⟨τ4, v4, k1, k2⟩ := h4.out
        refine ⟨τ4, _, k1, (HFr.out.mono ?_).trans (k2.mono ?_), rfl⟩
        · intro c hc
          unfold X53
          revert hc
          simp
          omega
        · intro c hc
          unfold X53
          unfold X50 at hc
          revert hc
          simp
          omega)
      clear h4 HA HX HFr c9' e2 e3 e4
      obtain ⟨τ4, V4, h4a, h4b, h4c⟩ := HF4.out
      have HT4 := hid h4a
      have HFr4 := hid h4b
      have HV4 := hid h4c
      clear h4a h4b h4c HF4
      have HK4 : Hid (OwR rtB w.heap.size w4 (.slice ax nx qx) (ukL ids)) := hid (HK2.out.of (fun q hq hq2 => HFr4.out.blk q hq2 (by
        have hq3 := HK2.out.hi q hq
        have : τ q = 0 := by
          cases e : τ q with
          | zero => rfl
          | succ z => have := HR.out.dom q (by rw [e]; exact Nat.succ_ne_zero z); omega
        rw [this]; rfl)))
      have b8 : w4.cell? ⟨tB, 8, none⟩ = some (.map (some M.mu)) := by rw [← HT4.out.vu]; exact HT4.out.tb.b.cell 8
      have HG4 : Hid (∀ wz : World, Below w4.heap.size w4 wz → (convert 28 9 (.slice ax nx qx)).run Tryz.prog wz = .ok (.string ks) wz) := hid (fun wz hz => by
        have := (HK4.out.below hz).str
        rw [show (⟨(ukL ids).toArray⟩ : ByteArray) = ks from Hks.out] at this
        exact this)
      go_upto_region 13 with fail
      obtain ⟨X0, W, hT, hI⟩ := class_mk (fun w' => Drew w4 w')
      have H0 : Hid (∃ y, w4.drew = W y) := hid (hI _ ⟨1, rfl⟩)
      have hne : Nonempty X0 := ⟨H0.out.choose⟩
      have HTT := hid hT
      have j8 : ∀ z, (W z).cell? ⟨tB, 8, none⟩ = some (.map (some M.mu)) := fun y => by obtain ⟨m, e⟩ := hT y; rw [e]; exact b8
      have jc : ∀ z, (convert 28 9 (.slice ax nx qx)).run Tryz.prog (W z) = .ok (.string ks) (W z) := fun z => HG4.out _ ((hT z).below _)
      clear hT hI
      refine wp_region_class_tailT W 7 (by kernel_rfl) (by kernel_rfl) (by kernel_rfl) H0.out ?_
      dsimp only [List.take, List.drop]
      repeat (go_big_quiet_step (fail))
      refine wpQuiet_nil ?_
      intro z
      have HD := hid ((HTT.out z).below w4.heap.size)
      generalize W z = w5 at HD ⊢
      clear j8 jc H0 HTT hne b8
      have H5 := hid (HT4.out.below HD.out)
      obtain ⟨w6, hput, hg6, hu6⟩ := H5.out.u.put (P := Tryz.prog) Tryz.underlying93 (keyStr Tryz.underlying9) ks (.int .i32 (m : Int))
      have HF : Hid (IuP τ w tB V T M ids (.returned (.tuple #[.int .i32 (m : Int), .bool true])) w6) := hid (by
        have hf6 : Fr (fun c => c == 56) τ4 w5 τ4 w6 := Fr.upd hu6 (by show (τ4 M.mu == 56) = true; rw [H5.out.ru]; rfl)
        refine .inr ⟨by rw [Hks.out]; exact HUn.out, by rw [Hm.out], τ4, V4, ?_, ?_, HV4.out⟩
        · rw [Ha.out, Hn.out, Hm.out, Hks.out]
          refine ⟨H5.out.tb.fr hf6 (fun r h1 h2 => by simp; omega), hf6.dom H5.out.dom, H5.out.vs, H5.out.vu, H5.out.rs, H5.out.ru, H5.out.s.of (hf6.blk _ H5.out.s.lt (by rw [H5.out.rs]; rfl)), ?_⟩
          have e : (fun q => idV (gup M.un ks (some m) q)) = gup (fun q => idV (M.un q)) ks (some (.int .i32 (m : Int))) := by
            funext q
            by_cases hq : q = ks
            · subst hq; simp only [gup_self]; rfl
            · simp only [gup_ne _ _ hq]
          show MG (fun s : ByteArray => Value.string s) w6 M.mu (fun q => idV (gup M.un ks (some m) q))
          rw [e]
          exact hg6
        · exact ((Fr.below HBz.out).trans HFr4.out).trans ((Fr.below HD.out).trans (hf6.one rfl)))
      clear hg6 hu6
      go_wp2
      go_ret2
      exact HF
  have d1 : decide ((i : Int) < (n : Int)) = true := decide_eq_true (by omega)
  have i1 : (i : Int) < (n : Int) := by omega
  obtain ⟨o, ho⟩ : ∃ o, ids[i]? = some o := ⟨_, List.getElem?_eq_getElem (by rw [Hn.out]; exact hin)⟩
  have hob := HG.out.2.2 o (List.mem_of_getElem? ho)
  have co : wr.cell? ⟨g, i, none⟩ = some (.int .i32 (o : Int)) := by
    rw [keepCell i (HI.out.2.block g HG.out.1.lt)]
    have := HG.out.1.cell i
    rw [this]
    unfold idC
    rw [List.getElem?_map, ho]
    rfl
  have Ho := hid ho
  clear ho
  obtain ⟨o1, ho1⟩ : ∃ q, o / 256 = q := ⟨_, rfl⟩
  obtain ⟨o2, ho2⟩ : ∃ q, o / 65536 = q := ⟨_, rfl⟩
  obtain ⟨o3, ho3⟩ : ∃ q, o / 16777216 = q := ⟨_, rfl⟩
  have z1 : (o : Int) / 256 = (o1 : Int) := by omega
  have z2 : (o : Int) / 65536 = (o2 : Int) := by omega
  have z3 : (o : Int) / 16777216 = (o3 : Int) := by omega
  have y : ∀ q : Nat, IntKind.u8.wrap (q : Int) = ((UInt8.ofNat q).toNat : Int) := fun q => by rw [IntKind.wrap_u8]; simp
  have y0 := y o
  have y1 := y o1
  have y2 := y o2
  have y3 := y o3
  have Hcut : Hid (ukL (ids.take (i + 1)) = ukL (ids.take i) ++ [UInt8.ofNat o, UInt8.ofNat o1, UInt8.ofNat o2, UInt8.ofNat o3]) := hid (by rw [ukL_snoc Ho.out, ← ho1, ← ho2, ← ho3]; rfl)
  have Hlen : Hid ((ukL (ids.take i)).length = 4 * i) := hid (by rw [ukL_len, List.length_take, Hn.out]; omega)
  generalize UInt8.ofNat o = v0 at y0 Hcut
  generalize UInt8.ofNat o1 = v1 at y1 Hcut
  generalize UInt8.ofNat o2 = v2 at y2 Hcut
  generalize UInt8.ofNat o3 = v3 at y3 Hcut
  clear ho1 ho2 ho3 y
  go_wp2_with (at_builtin; refine stopHere ?_)
  intro _
  obtain ⟨k8, hk8⟩ : ∃ k, wr.heap.size = k := ⟨_, rfl⟩
  obtain ⟨wf, hwf⟩ : ∃ wf, wr.alloc (.cells #[.int .u8 (v0.toNat : Int), .int .u8 (v1.toNat : Int), .int .u8 (v2.toNat : Int), .int .u8 (v3.toNat : Int)] 5) = wf := ⟨_, rfl⟩
  have HBf : Hid (Below wr.heap.size wr wf) := hid (by rw [← hwf]; exact nbel wr _)
  have HNw : Hid (∀ ad, some (⟨k8, 0, none⟩ : Addr) = some ad → ∀ j u, ([v0, v1, v2, v3].flatMap rtB.f)[j]? = some u → wf.cell? (ad.add j) = some u) := hid (by
    have kk := Blk.new wr [.int .u8 (v0.toNat : Int), .int .u8 (v1.toNat : Int), .int .u8 (v2.toNat : Int), .int .u8 (v3.toNat : Int)] 5
    rw [hk8] at kk
    rw [← hwf]
    exact (OwR.mk (K := rtB) (xs := [v0, v1, v2, v3]) (n0 := 0) kk (fun _ => rfl) (show 4 ≤ maxLen by decide) (Nat.zero_le _)).rx.src.1)
  (try simp only [hwf, hk8])
  clear hwf hk8
  have HBw := hid (HI.out.2.trans (HBf.out.mono HI.out.2.size))
  have HKf := hid (HI.out.1.below HBf.out)
  clear HI HBf co
  refine wpList_app_l okB rfl _ _ HKf.out rfl [v0, v1, v2, v3] rfl (some ⟨k8, 0, none⟩) 4 4 rfl rfl (fun h => by cases h) HNw.out (by
    rw [Hlen.out]
    show (4 * i + 4) * 1 ≤ _
    omega) HBw.out.size ?_
  intro v9 w9 hr9 hk9 hg9
  obtain ⟨a9, q9, h9⟩ := hr9.out.shape
  obtain ⟨n9, hn9⟩ : ∃ k, (ukL (ids.take i) ++ [v0, v1, v2, v3]).length = k := ⟨_, rfl⟩
  rw [hn9] at h9
  subst h9
  clear hn9
  have HE : Hid (OwR rtB w.heap.size w9 (.slice a9 n9 q9) (ukL (ids.take (i + 1))) ∧ Below w.heap.size w w9) := hid ⟨by rw [Hcut.out]; exact hr9.out, HBw.out.trans (hk9.out.below HKf.out.hi HBw.out.size)⟩
  clear hr9 hk9 hg9 HKf HBw HNw Hcut
  go_wp2
  exact ⟨⟨i + 1, _, _, _, by go_num, rfl, by omega, HE⟩, by simp [intOf]; omega⟩
end
end Go.Proofs.Qxb6500883aGreatDoor
