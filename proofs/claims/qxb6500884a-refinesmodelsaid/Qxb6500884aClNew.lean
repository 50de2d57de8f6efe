/- NewPartition. -/
import Derived.Test.Qxb6500884aClEdg
import Derived.Laws.BitsAllLaws
namespace Go.Proofs.Qxb6500884a
open Go.RowKit Go.Maps
set_option linter.unusedSimpArgs false
set_option linter.unusedVariables false

/-- The partition of a family. -/
structure PartP (Ls : List (List (Int × Int))) (w : World) (e : Ending) (w' : World) : Prop where
  out : ∃ pb g T P pt sa sc oa oc, e = .returned (.pointer (some ⟨pb, 0, none⟩)) ∧ Blk w' pb 117 [.slice (some ⟨g, 0, none⟩) P.lists.length P.lists.length, .slice sa P.starts.length sc, .slice oa P.owner.length oc] ∧ Blk w' g 30 (T.map clV) ∧ ClsOk w' T P.lists ∧
    Fl w' 3 sa P.starts.length sc (P.starts.map iv64) ∧ Fl w' 3 oa P.owner.length oc (P.owner.map iv64) ∧ PI pt P 196608 ∧ (∀ x y, 0 ≤ x → x ≤ 196607 → 0 ≤ y → y ≤ 196607 → (pt x = pt y ↔ ∀ l ∈ Ls, memB l x = memB l y)) ∧ w.heap.size ≤ pb ∧ w.heap.size ≤ g
  bel : Below w.heap.size w w'
theorem info_edg : ∃ i, Try.prog.info? 115 = some i ∧ i.zero = some (.agg #[.int .i64 0, .int .i64 0]) ∧ i.size = 2 ∧ i.bytes = 16 := by
  have h : (Try.prog.info? 115).map (fun i => (i.zero, i.size, i.bytes)) = some (some (.agg #[.int .i64 0, .int .i64 0]), 2, 16) := by kernel_rfl
  obtain ⟨i, hi, he⟩ := Option.map_eq_some_iff.1 h
  simp only [Prod.mk.injEq] at he
  exact ⟨i, hi, he.1, he.2.1, he.2.2⟩
/-- The blocks being laid. -/
structure PF (w0 : World) (pb b8 b9 g : Nat) (lists : List (List (Int × Int))) (starts owner : List Int) (sa : Option Addr) (sc : Nat) (oa : Option Addr) (oc : Nat) (la : Option Addr) (lc : Nat) (LV : List Value) (k : Nat) (w : World) : Prop where
  p8 : Blk w b8 88 [.pointer (some ⟨pb, 0, none⟩)]
  pbk : Blk w pb 117 [.slice (some ⟨g, 0, none⟩) lists.length lists.length, .slice sa starts.length sc, .slice oa owner.length oc]
  fs : Fl w 3 sa starts.length sc (starts.map iv64)
  fo : Fl w 3 oa owner.length oc (owner.map iv64)
  b9k : Blk w b9 118 [.slice la lists.length lc]
  fl : Fl w 25 la lists.length lc LV
  rw : Rws w w0.heap.size LV lists
  fill : Fill w0 g 30 LV k w
theorem PF.step {w0 : World} {pb b8 b9 g : Nat} {lists : List (List (Int × Int))} {starts owner : List Int} {sa : Option Addr} {sc : Nat} {oa : Option Addr} {oc : Nat} {la : Option Addr} {lc : Nat} {LV : List Value} {k : Nat} {w : World} {v : Value}
    (h : PF w0 pb b8 b9 g lists starts owner sa sc oa oc la lc LV k w) (hg : w0.heap.size ≤ g) (hv : LV[k]? = some v) : PF w0 pb b8 b9 g lists starts owner sa sc oa oc la lc LV (k + 1) (w.setCell ⟨g, k, none⟩ v) := by
  obtain ⟨cs, hb, _⟩ := h.fill.blk
  have hu : UT (ofT 30) w (w.setCell ⟨g, k, none⟩ v) := UT.upd ((Upd.refl g w).setCell rfl v) hb
  exact ⟨h.p8.ut hu (notT (by decide)), h.pbk.ut hu (notT (by decide)), h.fs.ut hu (fun _ => notT (by decide)), h.fo.ut hu (fun _ => notT (by decide)), h.b9k.ut hu (notT (by decide)), h.fl.ut hu (fun _ => notT (by decide)), h.rw.ut hu (fun _ => notT (by decide)), h.fill.step hg hv⟩
theorem PF.start {w0 : World} {A : PA} {s : List UInt8} {st : Int} {pats : List (List UInt8)} {lists : List (List (Int × Int))} {starts owner : List Int} {sa : Option Addr} {sc : Nat} {oa : Option Addr} {oc : Nat} {la : Option Addr} {lc : Nat} {LV Z : List Value} {D : DataW Unit} {w : World} {g : Nat}
    (h : PMv w0 A s st pats lists starts owner sa sc oa oc la lc LV D w) (hz : Z.length = lists.length) (hg : w.heap.size = g) : PF w0 A.pb A.b8 A.b9 g lists starts owner sa sc oa oc la lc LV 0 ((w.alloc (.cells Z.toArray 30)).setCell ⟨A.pb, 0, none⟩ (.slice (some ⟨g, 0, none⟩) lists.length lists.length)) := by
  have h1 := h.below (nbel w (.cells Z.toArray 30))
  have hb := Blk.new w Z 30
  rw [hg] at hb
  generalize w.alloc (.cells Z.toArray 30) = w1 at h1 hb ⊢
  have hu2 : Upd A.pb w1 (w1.setCell ⟨A.pb, 0, none⟩ (.slice (some ⟨g, 0, none⟩) lists.length lists.length)) := (Upd.refl A.pb w1).setCell rfl _
  have hu : UT (ofT 117) w1 (w1.setCell ⟨A.pb, 0, none⟩ (.slice (some ⟨g, 0, none⟩) lists.length lists.length)) := UT.upd hu2 h1.pb
  exact ⟨h1.p8.ut hu (notT (by decide)), h1.pb.set 0 _, h1.fs.ut hu (fun _ => notT (by decide)), h1.fo.ut hu (fun _ => notT (by decide)), h1.b9.ut hu (notT (by decide)), h1.fl.ut hu (fun _ => notT (by decide)), h1.rw.ut hu (fun _ => notT (by decide)), h1.bel.trans (hu2.below h1.own.1 h1.bel.size), Z, hb.ut hu (notT (by decide)), by rw [hz, h1.rw.len], fun i hi => by omega⟩
theorem Rws.cls {w : World} {base : Nat} {LV : List Value} {lists : List (List (Int × Int))} (h : Rws w base LV lists) (hN : ∀ (b : Nat) (l : List (Int × Int)), lists[b]? = some l → Nrm l) : ∃ T : List (Option Addr × Nat × Nat), T.map clV = LV ∧ ClsOk w T lists := by
  have key : ∀ (LV : List Value) (lists : List (List (Int × Int))), LV.length = lists.length → (∀ (i : Nat) (v : Value) (l : List (Int × Int)), LV[i]? = some v → lists[i]? = some l → w.ownsRow base 67 2 v l.length (l.flatMap ivC)) → (∀ (b : Nat) (l : List (Int × Int)), lists[b]? = some l → Nrm l) →
      ∃ T : List (Option Addr × Nat × Nat), T.map clV = LV ∧ ClsOk w T lists := by
    intro LV
    induction LV with
    | nil =>
      intro lists hl _ _
      cases lists with
      | nil => exact ⟨[], rfl, rfl, fun i t l h => by simp at h⟩
      | cons a t => simp at hl
    | cons v LV ih =>
      intro lists hl hr hn
      cases lists with
      | nil => simp at hl
      | cons l lists =>
        obtain ⟨T, h1, h2⟩ := ih lists (by simpa using hl) (fun i v' l' h3 h4 => hr (i + 1) v' l' (by simpa using h3) (by simpa using h4)) (fun b l' h3 => hn (b + 1) l' (by simpa using h3))
        have ho := hr 0 v l rfl rfl
        have hNl := hn 0 l rfl
        obtain ⟨a, n, c, hv, hrow⟩ := ownsRow_row (f := ivC) (l := l) (sz := 2) (by decide) (fun _ => rfl) (by have := hNl.short; omega) ho
        subst hv
        refine ⟨(a, n, c) :: T, by rw [List.map_cons, h1]; rfl, by simp [h2.len], fun i t l' h3 h4 => ?_⟩
        cases i with
        | zero =>
          simp at h3 h4
          subst h3
          subst h4
          refine ⟨⟨hrow, fun p hp => by have := hNl.rng p hp; unfold Fit; omega⟩, hNl, fun _ b off e => ?_⟩
          dsimp only at e
          rcases ho.2 with ⟨h5, _⟩ | ⟨g, cap, cur, h5, _, hg, _⟩
          · rw [e] at h5; cases h5
          · rw [e] at h5; cases h5; exact ⟨_, _, hg⟩
        | succ i => exact h2.all i t l' (by simpa using h3) (by simpa using h4)
  exact key LV lists h.len h.row hN
theorem tog_val (bb : UInt8) {mr : Nat} (h : mr < 8) : bits .xor .u8 (bb.toNat : Int) ((2 : Int) ^ mr % 256) = ((bb ^^^ UInt8.ofNat (2 ^ mr)).toNat : Int) := by
  have h1 : ∀ k, k < 8 → (2 : Int) ^ k % 256 = ((2 ^ k : Nat) : Int) := by decide
  have h2 : ∀ k, k < 8 → 2 ^ k < 256 := by decide
  rw [h1 mr h, u8_xor_nat _ _ bb.toNat_lt (h2 mr h), UInt8.toNat_xor, UInt8.toNat_ofNat', Nat.mod_eq_of_lt (show 2 ^ mr < 2 ^ 8 from h2 mr h)]
set_option maxRecDepth 100000 in
set_option maxHeartbeats 8000000 in
theorem newPart_walk (fa : Option Addr) (fn fc : Nat) (T : List (Option Addr × Nat × Nat)) (Ls : List (List (Int × Int))) (w : World) (hF : Fl w 30 fa fn fc (T.map clV)) (hC : ClsOk w T Ls) (hn : fn ≤ 65536) :
    Calls Try.prog 55 #[.slice fa fn fc] w fun e w' => PartP Ls w e w' := by
  have HF := hid hF
  have HC := hid hC
  have hTl : T.length = fn := by have := hF.len; simpa using this
  have hLl : Ls.length = fn := by rw [← hC.len]; exact hTl
  have HNr : Hid (∀ l ∈ Ls, Nrm l) := hid (fun l hl => by
    obtain ⟨i, hi⟩ := List.mem_iff_getElem?.1 hl
    obtain ⟨t, l', _, h2, _, h4, _⟩ := hC.at (List.getElem?_eq_some_iff.1 hi).1
    rw [hi] at h2
    cases h2
    exact h4)
  have HLen : Hid (∀ k, (edgesFrom 0 (Ls.take k)).length ≤ 12884901888) := hid (fun k => by
    have h1 := edgesFrom_len (Ls.take k) 0 (fun l hl => (HNr.out l (List.mem_of_mem_take hl)).short)
    have h2 : (Ls.take k).length ≤ 65536 := by rw [List.length_take]; omega
    omega)
  obtain ⟨i0, hi, hz0, hz1, hz2⟩ := info_edg
  have HI := hid (And.intro hi (And.intro hz0 (And.intro hz1 hz2)))
  obtain ⟨b3, hb3⟩ : ∃ b3, w.heap.size = b3 := ⟨_, rfl⟩
  have HE0 : Hid (EdW w b3 [] (.slice none 0 0) (w.alloc (.cells #[Value.slice none 0 0] 113))) := hid (by
    have hb := Blk.new w [Value.slice none 0 0] 113
    rw [hb3] at hb
    exact ⟨nbel w _, hb, World.ownsRow_nil _ _ _ _, by omega⟩)
  clear hF hC hi hz0 hz1 hz2
  go_enter Try.func55, Try.ntmps55
  go_upto_region 3 with fail
  generalize w.alloc (.cells #[Value.slice none 0 0] 113) = w1 at HE0 ⊢
  go_loopw [21] (fun i wr => ∃ (k : Nat) (v : Value), k ≤ fn ∧ i = .int .i64 k ∧ Hid (EdW w b3 (edgesFrom 0 (Ls.take k)) v wr)) (fun i _ => fn - (intOf i).toNat)
  case atStart => exact ⟨0, _, Nat.zero_le _, rfl, HE0⟩
  case round =>
    clear HE0
    obtain ⟨k, v, hk, rfl, HE⟩ := hrel
    by_cases hlt : k < fn
    · as_aux_lemma =>
      obtain ⟨t, l, ht, hl, hrow, hN, hty⟩ := (HC.out.below HE.out.bel).at (i := k) (by omega)
      obtain ⟨ta, tn, tc⟩ := t
      obtain ⟨b, off, rfl, e1⟩ := (HF.out.below HE.out.bel).cell hlt
      rw [List.getElem?_map, ht] at e1
      have e1' : wr.cell? ⟨b, off + k, none⟩ = some (.slice ta tn tc) := e1
      have hln : l.length = tn := hrow.len
      have hsh := hN.short
      have Hl := hid hl
      have HEk := hid (HLen.out (k + 1))
      have hlt2 : (Ls.take k).length = k := by rw [List.length_take]; omega
      have HSn : Hid (edgesFrom 0 (Ls.take (k + 1)) = edgesFrom 0 (Ls.take k) ++ edgesOf k l) := hid (by rw [List.take_add_one, hl, Option.toList_some, edgesFrom_snoc, hlt2, Nat.zero_add])
      rw [HSn.out] at HEk
      have hEk1 : (edgesFrom 0 (Ls.take k)).length + (edgesOf k l).length ≤ 12884901888 := by have := HEk.out; simpa using this
      obtain ⟨E, hE⟩ : ∃ E, edgesFrom 0 (Ls.take k) = E := ⟨_, rfl⟩
      rw [hE] at HE HSn hEk1
      obtain ⟨q, hq⟩ : ∃ q, wr.heap.size = q := ⟨_, rfl⟩
      have HE2 : Hid (EdW w b3 E v (wr.alloc (.cells #[.slice ta tn tc] 30)) ∧ Blk (wr.alloc (.cells #[.slice ta tn tc] 30)) q 30 [.slice ta tn tc]) := hid ⟨HE.out.below (nbel wr _), by
        have := Blk.new wr [.slice ta tn tc] 30
        rw [hq] at this
        exact this⟩
      have dk : decide ((k : Int) < (fn : Int)) = true := decide_eq_true (by omega)
      have i1 : (k : Int) < (fn : Int) := by omega
      have HRw := hid (HC.out.below HE.out.bel)
      have HTk := hid ht
      clear e1 ht hl hE hty hrow
      go_upto_region 5 with fail
      generalize wr.alloc (.cells #[.slice ta tn tc] 30) = w2 at HE2 ⊢
      have c2 : w2.cell? ⟨q, 0, none⟩ = some (.slice ta tn tc) := HE2.out.2.cell 0
      clear e1'
      go_upto_region 6 with fail
      go_loopw [29] (fun i wr => ∃ (j : Nat) (v : Value), j ≤ tn ∧ i = .int .i64 j ∧ Hid (EdW w b3 (E ++ edgesOf k (l.take j)) v wr)) (fun i _ => tn - (intOf i).toNat)
      case atStart => exact ⟨0, v, Nat.zero_le _, rfl, by simpa [edgesOf] using hid HE2.out.1⟩
      case round =>
        clear HE2 c2
        obtain ⟨j, v2, hj, rfl, HEj⟩ := hrel
        by_cases hjl : j < tn
        rotate_left
        · as_aux_lemma =>
          have dj : decide ((j : Int) < (tn : Int)) = false := decide_eq_false (by omega)
          have HEe : Hid (EdW w b3 (edgesFrom 0 (Ls.take (k + 1))) v2 wr) := hid (by have h := HEj.out; rw [List.take_of_length_le (by omega), ← HSn.out] at h; exact h)
          go_wp2
          exact ⟨⟨k + 1, v2, by omega, by go_num, HEe⟩, by simp [intOf]; omega⟩
        have hrow := ((HC.out.below HEj.out.bel).all k _ l HTk.out Hl.out).1
        obtain ⟨p, hp, f1, f2, bA, offA, hta, hbA, e3, e4⟩ := hrow.get hjl
        obtain ⟨x, y⟩ := p
        dsimp only at e3 e4 hta
        have hrg := hN.rng _ (List.mem_of_getElem? hp)
        dsimp only at hrg
        have HSj : Hid (edgesOf k (l.take (j + 1)) = edgesOf k (l.take j) ++ ((x, (k : Int)) :: (if y < 196607 then [(y + 1, (k : Int))] else []))) := hid (by rw [List.take_add_one, hp, Option.toList_some, edgesOf_snoc])
        have hEj1 : (E ++ edgesOf k (l.take j)).length + 2 ≤ 12884901890 := by
          have h1 : (edgesOf k (l.take j)).length ≤ (edgesOf k l).length := by
            have h2 : edgesOf k l = edgesOf k (l.take j) ++ edgesOf k (l.drop j) := by
              unfold edgesOf
              rw [← List.flatMap_append, List.take_append_drop]
            rw [h2, List.length_append]
            omega
          rw [List.length_append]
          omega
        obtain ⟨F, hF⟩ : ∃ F, E ++ edgesOf k (l.take j) = F := ⟨_, rfl⟩
        have HFn : Hid (E ++ edgesOf k (l.take (j + 1)) = F ++ [(x, (k : Int))] ++ (if y < 196607 then [(y + 1, (k : Int))] else [])) := hid (by rw [HSj.out, ← hF]; simp)
        rw [hF] at HEj hEj1
        subst hta
        clear hp hrow hF HSj
        have dj : decide ((j : Int) < (tn : Int)) = true := decide_eq_true (by omega)
        have i2 : (j : Int) < (tn : Int) := by omega
        obtain ⟨p0, hp0⟩ : ∃ p0, wr.heap.size = p0 := ⟨_, rfl⟩
        have HE4 : Hid (EdW w b3 F v2 (wr.alloc (.cells #[.int .i64 x, .int .i64 y] 67)) ∧ Blk (wr.alloc (.cells #[.int .i64 x, .int .i64 y] 67)) p0 67 [.int .i64 x, .int .i64 y] ∧ b3 ≠ p0) := hid ⟨HEj.out.below (nbel wr _), by
          have := Blk.new wr [.int .i64 x, .int .i64 y] 67
          rw [hp0] at this
          exact this, by have := HEj.out.box.lt; omega⟩
        go_upto_region 8 with fail
        generalize wr.alloc (.cells #[.int .i64 x, .int .i64 y] 67) = w4 at HE4 ⊢
        clear e3 e4 HEj
        have b3c : w4.cell? ⟨b3, 0, none⟩ = some v2 := HE4.out.1.box.cell 0
        have p0a : w4.cell? ⟨p0, 0, none⟩ = some (.int .i64 x) := HE4.out.2.1.cell 0
        obtain ⟨sa, sc, hv2⟩ := owns_shape HE4.out.1.own
        subst hv2
        obtain ⟨fl, hfl⟩ : ∃ fl, F.length = fl := ⟨_, rfl⟩
        rw [hfl] at b3c hEj1 HE4
        have Hfl := hid hfl
        clear hfl
        have HE5 : Hid (EdW w b3 F (.slice sa fl sc) (w4.alloc (.cells #[.int .i64 x, .int .i64 (k : Int)] 115))) := hid (HE4.out.1.below (nbel w4 _))
        have HOn : Hid ((w4.alloc (.cells #[.int .i64 x, .int .i64 (k : Int)] 115)).ownsRow w.heap.size 115 2 (.slice sa fl sc) fl (F.flatMap ivC)) := hid (by rw [← Hfl.out]; have h := HE5.out.own; rw [Hfl.out] at h ⊢; exact h)
        have hsz := HE5.out.bel.size
        have hbb : (fl + 1) * 16 ≤ 140737488355328 := by omega
        have HP5 : Hid (Blk (w4.alloc (.cells #[.int .i64 x, .int .i64 (k : Int)] 115)) p0 67 [.int .i64 x, .int .i64 y]) := hid (HE4.out.2.1.below (nbel w4 _))
        have Hne : Hid (b3 ≠ p0) := hid HE4.out.2.2
        go_upto_region 9 with (at_builtin; refine wpList_append_row _ rfl (.tmp 33) (.tmp 38) 113 rfl w.heap.size 115 i0 (.agg #[.int .i64 0, .int .i64 0]) 2 16 Try.underlying113 HI.out.1 HI.out.2.1 HI.out.2.2.1 HI.out.2.2.2 rfl (by decide) _ _ _ rfl HOn.out (some ⟨w4.heap.size, 0, none⟩) 1 1 [.int .i64 x, .int .i64 (k : Int)] rfl rfl (fun h => by cases h) (newRow _ [.int .i64 x, .int .i64 (k : Int)] _ _ rfl) (fun u hu => by simp at hu; rcases hu with rfl | rfl <;> rfl) hbb (by decide) hsz ?_; intro v8 w8 hown8 hb8 hk8 hg8; obtain ⟨sa8, sc8, rfl⟩ := owns_shape hown8; have hbx := HE5.out.appB hk8; have c8 := hbx.cell 0; have f8 := hbx.frozen 0; simp only [List.getElem?_cons_zero] at c8; have HE8 := hid (HE5.out.app (p := (x, (k : Int))) (by rw [Hfl.out]; exact hown8) hb8 hk8); have HP8 := hid (HE5.out.appK (v' := .slice sa8 (fl + 1) sc8) hk8 HP5.out (by decide) Hne.out); clear hown8 hb8 hk8 hg8 hbx)
        generalize w8.setCell ⟨b3, 0, none⟩ (.slice sa8 (fl + 1) sc8) = w9 at HE8 HP8 ⊢
        clear c8 f8 b3c p0a HE5 HE4 HOn HP5 hsz hbb
        have p9 : w9.cell? ⟨p0, 1, none⟩ = some (.int .i64 y) := HP8.out.cell 1
        by_cases hy : y < 196607
        · as_aux_lemma =>
          have dy : decide (y < 196607) = true := decide_eq_true hy
          have b3c : w9.cell? ⟨b3, 0, none⟩ = some (.slice sa8 (fl + 1) sc8) := HE8.out.box.cell 0
          have hfl8 : (F ++ [(x, (k : Int))]).length = fl + 1 := by rw [List.length_append, Hfl.out]; rfl
          have HE10 : Hid (EdW w b3 (F ++ [(x, (k : Int))]) (.slice sa8 (fl + 1) sc8) (w9.alloc (.cells #[.int .i64 (y + 1), .int .i64 (k : Int)] 115))) := hid (HE8.out.below (nbel w9 _))
          have HOn : Hid ((w9.alloc (.cells #[.int .i64 (y + 1), .int .i64 (k : Int)] 115)).ownsRow w.heap.size 115 2 (.slice sa8 (fl + 1) sc8) (fl + 1) ((F ++ [(x, (k : Int))]).flatMap ivC)) := hid (by have h := HE10.out.own; rw [hfl8] at h; exact h)
          have hsz := HE10.out.bel.size
          have hbb : (fl + 1 + 1) * 16 ≤ 140737488355328 := by omega
          have Hfl8 := hid hfl8
          clear hfl8
          go_wp2_with (at_builtin; refine wpList_append_row _ rfl (.tmp 43) (.tmp 49) 113 rfl w.heap.size 115 i0 (.agg #[.int .i64 0, .int .i64 0]) 2 16 Try.underlying113 HI.out.1 HI.out.2.1 HI.out.2.2.1 HI.out.2.2.2 rfl (by decide) _ _ _ rfl HOn.out (some ⟨w9.heap.size, 0, none⟩) 1 1 [.int .i64 (y + 1), .int .i64 (k : Int)] rfl rfl (fun h => by cases h) (newRow _ [.int .i64 (y + 1), .int .i64 (k : Int)] _ _ rfl) (fun u hu => by simp at hu; rcases hu with rfl | rfl <;> rfl) hbb (by decide) hsz ?_; intro v11 w11 hown8 hb8 hk8 hg8; obtain ⟨sa11, sc11, rfl⟩ := owns_shape hown8; have hbx := HE10.out.appB hk8; have c8 := hbx.cell 0; have f8 := hbx.frozen 0; simp only [List.getElem?_cons_zero] at c8; have HE11 := hid (HE10.out.app (p := (y + 1, (k : Int))) (by rw [Hfl8.out]; exact hown8) hb8 hk8); clear hown8 hb8 hk8 hg8 hbx)
          have HE12 : Hid (EdW w b3 (E ++ edgesOf k (l.take (j + 1))) (.slice sa11 (fl + 1 + 1) sc11) (w11.setCell ⟨b3, 0, none⟩ (.slice sa11 (fl + 1 + 1) sc11))) := hid (by rw [HFn.out, if_pos hy]; exact HE11.out)
          exact ⟨⟨j + 1, _, by omega, by go_num, HE12⟩, by simp [intOf]; omega⟩
        · as_aux_lemma =>
          have dy : decide (y < 196607) = false := decide_eq_false hy
          have HE12 : Hid (EdW w b3 (E ++ edgesOf k (l.take (j + 1))) (.slice sa8 (fl + 1) sc8) w9) := hid (by rw [HFn.out, if_neg hy, List.append_nil]; exact HE8.out)
          go_wp2
          exact ⟨⟨j + 1, _, by omega, by go_num, HE12⟩, by simp [intOf]; omega⟩
    · as_aux_lemma =>
      have dk : decide ((k : Int) < (fn : Int)) = false := decide_eq_false (by omega)
      have HE2 : Hid (EdW w b3 (edgesFrom 0 Ls) v wr) := hid (by have h := HE.out; rw [List.take_of_length_le (by omega)] at h; exact h)
      have hEl : (edgesFrom 0 Ls).length ≤ 12884901888 := by have := HLen.out Ls.length; rw [List.take_length] at this; exact this
      obtain ⟨ea, ec, rfl⟩ := owns_shape HE2.out.own
      obtain ⟨el, hel⟩ : ∃ el, (edgesFrom 0 Ls).length = el := ⟨_, rfl⟩
      rw [hel] at HE2
      have Hel := hid hel
      have c3 : wr.cell? ⟨b3, 0, none⟩ = some (.slice ea el ec) := HE2.out.box.cell 0
      have HSo := hid (sort_ed w b3 _ _ _ _ wr HE2.out (by omega))
      clear HE hel HE2
      go_upto_region 13 with fail
      go_wp2_with fail
      refine HSo.out.mono ?_
      rintro e ws ⟨rfl, sp, hperm, hasc, hes, hbe⟩
      have hspl : sp.length = el := by rw [hperm.length_eq, Hel.out]
      rw [Hel.out] at hEl
      have Hperm := hid hperm
      have Hasc := hid hasc
      have HES := hid hes
      have HBe := hid hbe
      have Hspl := hid hspl
      clear hperm hasc hes hbe c3 HSo Hel hspl dk
      obtain ⟨pb, hpb⟩ : ∃ pb, ws.heap.size = pb := ⟨_, rfl⟩
      obtain ⟨nb, hnb⟩ : ∃ nb, (fn + 7) / 8 = nb := ⟨_, rfl⟩
      have hq8 : ((fn : Int) + 7).tdiv 8 = (nb : Int) := by rw [← hnb, Int.tdiv_eq_ediv_of_nonneg (by omega)]; omega
      have hnb1 : nb ≤ 10000 := by omega
      have hmk := make_u8 nb (by omega)
      obtain ⟨Z, hZ⟩ : ∃ Z, (List.replicate nb (0 : UInt8)).map byV = Z := ⟨_, rfl⟩
      rw [hZ] at hmk
      have hmm := @run_makeMap Try.prog
      have HZ := hid hZ
      have Hnb := hid hnb
      clear hZ hnb
      go_upto_region 20 with fail
      have HP0 := hid (PM.init w ws pb nb Z HZ.out HBe.out hpb)
      have HES0 := hid (HES.out.keep HP0.out.2)
      generalize ((((((((ws.alloc (Obj.cells #[Value.slice none 0 0, Value.slice none 0 0, Value.slice none 0 0] 117)).alloc (Obj.cells #[Value.pointer (some ⟨pb, 0, none⟩)] 88)).alloc (Obj.cells #[Value.slice none 0 0] 118)).alloc (Obj.cells Z.toArray 5)).alloc (Obj.cells #[Value.slice (some ⟨pb + 1 + 1 + 1, 0, none⟩) nb nb] 119)).alloc (Obj.map #[] 0)).alloc (Obj.cells #[Value.map (some (pb + 1 + 1 + 1 + 1 + 1))] 120)).alloc (Obj.cells #[Value.int IntKind.i64 0] 3)) = wi at HP0 HES0 ⊢
      have HP1 : Hid (PM w ⟨pb + 1, pb, pb + 1 + 1, pb + 1 + 1 + 1 + 1, pb + 1 + 1 + 1, pb + 1 + 1 + 1 + 1 + 1 + 1, pb + 1 + 1 + 1 + 1 + 1, pb + 1 + 1 + 1 + 1 + 1 + 1 + 1⟩ (List.replicate nb 0) 0 ⟨[], [], [], []⟩ wi) := hid HP0.out.1
      clear HP0 hmk hmm HZ
      generalize pb + 1 + 1 + 1 + 1 + 1 + 1 + 1 = b12 at HP1 ⊢
      generalize pb + 1 + 1 + 1 + 1 + 1 + 1 = b11 at HP1 ⊢
      generalize pb + 1 + 1 + 1 + 1 + 1 = km at HP1 ⊢
      generalize pb + 1 + 1 + 1 + 1 = b10 at HP1 ⊢
      generalize pb + 1 + 1 + 1 = gi at HP1 ⊢
      generalize pb + 1 + 1 = b9 at HP1 ⊢
      generalize pb + 1 = b8 at HP1 ⊢
      clear hpb hq8 HBe HES
      go_wp2_with fail
      have Hrng : Hid (∀ e ∈ sp, (0 ≤ e.1 ∧ e.1 ≤ 196607) ∧ 0 ≤ e.2 ∧ e.2 < (fn : Int)) := hid (fun e he => by
        have h1 := edgesFrom_mem Ls 0 HNr.out e (Hperm.out.subset he)
        rw [hLl] at h1
        simp at h1
        omega)
      go_loopw [14] (fun i wr => ∃ (k : Nat) (st : Int) (P : PSt), k ≤ el ∧ i = .int .i64 k ∧ Hid (SW sp k st) ∧ Hid (PI (ptO sp nb) P st) ∧ Hid (PM w ⟨b8, pb, b9, b10, gi, b11, km, b12⟩ (togs (List.replicate nb 0) (sp.take k)) st P wr) ∧ Hid (EdS b3 sp ea ec wr)) (fun i _ => el - (intOf i).toNat)
      case atStart => exact ⟨0, 0, ⟨[], [], [], []⟩, Nat.zero_le _, rfl, hid (SW.zero (fun e he => (Hrng.out e he).1.1)), hid (PI.zero _), HP1, HES0⟩
      case round =>
        clear HP1 HES0
        obtain ⟨k2, st, P, hk2, rfl, HSW, HPI, HPM, HES⟩ := hrel
        have cE : wr.cell? ⟨b3, 0, none⟩ = some (.slice ea el ec) := by have h := HES.out.box.cell 0; rw [Hspl.out] at h; exact h
        obtain ⟨hbd1, hbd2, hbd3⟩ := HPI.out.bounds (by have := HSW.out.st1; omega)
        have hpl := HPI.out.len
        have hol := HPI.out.olen
        have hst0 := HSW.out.st0
        have hst1 := HSW.out.st1
        have hslen : (togs (List.replicate nb 0) (sp.take k2)).length ≤ 100000 := by rw [togs_len]; simp; omega
        by_cases hlt2 : k2 < el
        · have d2 : decide ((k2 : Int) < (el : Int)) = true := decide_eq_true (by omega)
          have i2 : (k2 : Int) < (el : Int) := by omega
          obtain ⟨e, g, he, rfl, e1, e2⟩ := HES.out.get (i := k2) (by rw [Hspl.out]; exact hlt2)
          obtain ⟨at_, mm⟩ := e
          dsimp only at e1 e2
          have He := hid he
          have hnx := HSW.out.next k2 _ (Nat.le_refl _) he
          have hr2 := Hrng.out _ (List.mem_of_getElem? he)
          dsimp only at hnx hr2
          clear he
          have cS : wr.cell? ⟨b12, 0, none⟩ = some (.int .i64 st) := by obtain ⟨_, _, _, _, _, _, _, _, h⟩ := HPM.out; exact h.stB.cell 0
          go_upto_region 23 with fail
          go_upto_if 77 with fail
          go_cut [] (fun wc => Hid (∃ P2, PI (ptO sp nb) P2 at_ ∧ PM w ⟨b8, pb, b9, b10, gi, b11, km, b12⟩ (togs (List.replicate nb 0) (sp.take k2)) at_ P2 wc) ∧ Hid (EdS b3 sp (some ⟨g, 0, none⟩) ec wc))
          case first =>
            as_aux_lemma =>
            by_cases hsa : st < at_
            · have dsa : decide (st < at_) = true := decide_eq_true hsa
              have HCl := hid (close_walk w ⟨b8, pb, b9, b10, gi, b11, km, b12⟩ _ st (at_ - 1) P wr HPM.out hslen hpl hbd1 hol hbd2 hbd3)
              have HPI2 : Hid (PI (ptO sp nb) (closeS P (togs (List.replicate nb 0) (sp.take k2)) st (at_ - 1)) at_) := hid (by
                have h := HPI.out.close (s := togs (List.replicate nb 0) (sp.take k2)) (en := at_ - 1) hst0 (by omega) (by omega) (fun x h1 h2 => HSW.out.pat Hasc.out nb h1 (fun e he => by rw [He.out] at he; cases he; show x < at_; omega))
                rw [show at_ - 1 + 1 = at_ by omega] at h
                exact h)
              simp only [dsa]
              go_wp2_with fail
              refine HCl.out.mono ?_
              rintro e w5 ⟨rfl, hke, hpm⟩
              obtain ⟨sa, sc, oa, oc, la, lc, LV, D, hv⟩ := hpm
              have HV := hid hv
              have HES5 := hid (HES.out.keep hke)
              have cS5 : w5.cell? ⟨b12, 0, none⟩ = some (.int .i64 st) := hv.stB.cell 0
              have fS5 : w5.frozen? ⟨b12, 0, none⟩ = false := hv.stB.frozen 0
              clear hv hke
              go_wp2_with fail
              go_meet
              case rel => exact ⟨hid ⟨_, HPI2.out, _, _, _, _, _, _, _, _, HV.out.setSt at_⟩, hid (HES5.out.keep (KeepE.st HV.out.stB _))⟩
            · have dsa : decide (st < at_) = false := decide_eq_false hsa
              have hse : st = at_ := by omega
              subst hse
              simp only [dsa]
              go_wp2_with fail
              go_meet
              case rel => exact ⟨hid ⟨P, HPI.out, HPM.out⟩, HES⟩
          case rest =>
          obtain ⟨HPP, HESc⟩ := hcut
          obtain ⟨P2, hPI2, hPM2⟩ := HPP.out
          have HPI2 := hid hPI2
          have HPM2 := hid hPM2
          have HSI := hid (HSW.out.enter Hasc.out He.out)
          clear hPI2 hPM2 HPP HPI HPM HES cE cS e1 e2 hbd1 hbd2 hbd3 hpl hol hslen
          go_upto_region 26 with fail
          go_loopw [14] (fun i wr => ∃ (k3 : Nat), k3 ≤ el ∧ i = .int .i64 k3 ∧ Hid (SI sp k3 at_) ∧ Hid (PM w ⟨b8, pb, b9, b10, gi, b11, km, b12⟩ (togs (List.replicate nb 0) (sp.take k3)) at_ P2 wr) ∧ Hid (EdS b3 sp (some ⟨g, 0, none⟩) ec wr) ∧ k2 ≤ k3) (fun i _ => el - (intOf i).toNat)
          case atStart => exact ⟨k2, by omega, rfl, HSI, HPM2, HESc, Nat.le_refl _⟩
          case round =>
            clear HPM2 HESc HSI
            obtain ⟨k3, hk3, rfl, HSI, HPM, HES, hk23⟩ := hrel
            have cE : wr.cell? ⟨b3, 0, none⟩ = some (.slice (some ⟨g, 0, none⟩) el ec) := by have h := HES.out.box.cell 0; rw [Hspl.out] at h; exact h
            by_cases hlt3 : k3 < el
            · have d3 : decide ((k3 : Int) < (el : Int)) = true := decide_eq_true (by omega)
              have i3 : (k3 : Int) < (el : Int) := by omega
              obtain ⟨e, g', he, hg', e1, e2⟩ := HES.out.get (i := k3) (by rw [Hspl.out]; exact hlt3)
              cases hg'
              obtain ⟨a3, m3⟩ := e
              dsimp only at e1 e2
              have hr3 := Hrng.out _ (List.mem_of_getElem? he)
              dsimp only at hr3
              have He3 := hid he
              clear he
              by_cases haa : a3 = at_
              · have q3 : (a3 == at_) = true := by simp [haa]
                have q3' : decide (a3 = at_) = true := decide_eq_true haa
                obtain ⟨m, hm⟩ : ∃ m : Nat, m3 = (m : Int) := ⟨m3.toNat, by omega⟩
                subst hm
                have HSI2 := hid (HSI.out.step He3.out haa)
                have HTk : Hid (togs (List.replicate nb 0) (sp.take (k3 + 1)) = tog (togs (List.replicate nb 0) (sp.take k3)) m) := hid (by rw [List.take_add_one, He3.out, Option.toList_some, togs_snoc]; rfl)
                have hsl : (togs (List.replicate nb 0) (sp.take k3)).length = nb := by rw [togs_len]; simp
                have hm8 : m / 8 < nb := by rw [← Hnb.out]; omega
                generalize togs (List.replicate nb 0) (sp.take k3) = s at HPM HTk hsl
                obtain ⟨sa, sc, oa, oc, la, lc, LV, D, hv⟩ := HPM.out
                have HV := hid hv
                have cI : wr.cell? ⟨b10, 0, none⟩ = some (.slice (some ⟨gi, 0, none⟩) nb nb) := by have h := hv.b10.cell 0; simp only [List.getElem?_cons_zero, hsl] at h; exact h
                obtain ⟨bb, hbb⟩ : ∃ bb, s.getD (m / 8) 0 = bb := ⟨_, rfl⟩
                have cB : wr.cell? ⟨gi, m / 8, none⟩ = some (.int .u8 (bb.toNat : Int)) := by
                  have h := hv.gi.cell (m / 8)
                  simp only at h
                  rw [h, List.getElem?_map, ← hbb, List.getD_eq_getElem?_getD, List.getElem?_eq_getElem (by omega)]
                  rfl
                have fB : wr.frozen? ⟨gi, m / 8, none⟩ = false := hv.gi.frozen _
                clear hv HPM
                have hq8 : (m : Int).tdiv 8 = ((m / 8 : Nat) : Int) := by rw [Int.tdiv_eq_ediv_of_nonneg (by omega)]; omega
                have hr8 : (m : Int).tmod 8 = ((m % 8 : Nat) : Int) := by rw [Int.tmod_eq_emod_of_nonneg (by omega)]; omega
                obtain ⟨mq, hmq⟩ : ∃ mq, m / 8 = mq := ⟨_, rfl⟩
                obtain ⟨mr, hmr⟩ : ∃ mr, m % 8 = mr := ⟨_, rfl⟩
                have hmr8 : mr < 8 := by omega
                rw [hmq] at hq8 cB fB hm8
                rw [hmr] at hr8
                have i4 : (mq : Int) < (nb : Int) := by omega
                have Hmq := hid hmq
                have Hmr := hid hmr
                clear hmq hmr
                go_upto_region 29 with fail
                refine wp_region_heavy (fun w' => w'.cell? ⟨b10, 0, none⟩ = some (.slice (some ⟨gi, 0, none⟩) nb nb) ∧ w'.cell? ⟨gi, mq, none⟩ = some (.int .u8 (bb.toNat : Int))) 9 [0, 1, 2, 3, 4, 5, 6, 7, 8] [] rfl (by kernel_rfl) (by kernel_rfl) (fun d _ _ _ _ h => by cases d <;> exact h) ⟨cI, cB⟩ ?_
                apply Exists.intro
                refine ⟨?_, ?_⟩
                · intro W hW
                  have d0 : ∀ x, (W x).cell? ⟨b10, 0, none⟩ = some (.slice (some ⟨gi, 0, none⟩) nb nb) := fun x => (hW x).1
                  have d1 : ∀ x, (W x).cell? ⟨gi, mq, none⟩ = some (.int .u8 (bb.toNat : Int)) := fun x => (hW x).2
                  clear hW
                  simp only [List.take, opsAt, List.drop, List.cons_append, List.nil_append]
                  repeat (go_big_quiet_step (fail))
                  exact rfl
                simp only [List.take, List.drop, opsAt, List.cons_append, List.nil_append, wpHv, QN]
                have cI' : wr.drew.cell? ⟨b10, 0, none⟩ = some (.slice (some ⟨gi, 0, none⟩) nb nb) := cI
                have cB' : wr.drew.cell? ⟨gi, mq, none⟩ = some (.int .u8 (bb.toNat : Int)) := cB
                have fB' : wr.drew.frozen? ⟨gi, mq, none⟩ = false := fB
                have HVd : Hid (PMv w ⟨b8, pb, b9, b10, gi, b11, km, b12⟩ s at_ P2.pats P2.lists P2.starts P2.owner sa sc oa oc la lc LV D wr.drew) := hid (HV.out.below (Drew.below ⟨1, rfl⟩ _))
                have HESd : Hid (EdS b3 sp (some ⟨g, 0, none⟩) ec wr.drew) := hid (HES.out.keep (KeepE.below (Drew.below ⟨1, rfl⟩ _)))
                generalize wr.drew = wd at cI' cB' fB' HVd HESd ⊢
                clear cI cB fB cE e1 e2 HV HES
                go_wp2
                have HV9 : Hid (PM w ⟨b8, pb, b9, b10, gi, b11, km, b12⟩ (togs (List.replicate nb 0) (sp.take (k3 + 1))) at_ P2 (wd.setCell ⟨gi, mq, none⟩ (.int .u8 (bits BinOp.xor IntKind.u8 (bb.toNat : Int) (2 ^ mr % 256))))) := hid (by
                  have h := HVd.out.tog m
                  rw [HTk.out, tog_val bb hmr8]
                  have hbb2 := hbb
                  rw [Hmq.out] at hbb2
                  simp only [byV, Hmq.out, Hmr.out, hbb2] at h
                  exact ⟨_, _, _, _, _, _, _, _, h⟩)
                have HES9 : Hid (EdS b3 sp (some ⟨g, 0, none⟩) ec (wd.setCell ⟨gi, mq, none⟩ (.int .u8 (bits BinOp.xor IntKind.u8 (bb.toNat : Int) (2 ^ mr % 256))))) := hid (HESd.out.keep (KeepE.gi HVd.out.gi _ _))
                exact ⟨⟨k3 + 1, by omega, by go_num, HSI2, HV9, HES9, by omega⟩, by simp [intOf]; omega⟩
              · as_aux_lemma =>
                have q3 : (a3 == at_) = false := by simp [haa]
                have q3' : decide (a3 = at_) = false := decide_eq_false haa
                have hk32 : k2 < k3 := by
                  rcases Nat.lt_or_ge k2 k3 with h | h
                  · exact h
                  · exfalso
                    have : k3 = k2 := by omega
                    subst this
                    rw [He.out] at He3
                    have := He3.out
                    cases this
                    exact haa rfl
                have HSW2 := hid (HSI.out.leave Hasc.out hr2.1.1 hr2.1.2 (fun e he => by rw [He3.out] at he; cases he; exact haa))
                go_wp2
                exact ⟨⟨k3, at_, P2, by omega, rfl, HSW2, HPI2, HPM, HES⟩, by simp [intOf]; omega⟩
            · as_aux_lemma =>
              have d3 : decide ((k3 : Int) < (el : Int)) = false := decide_eq_false (by omega)
              have HSW2 := hid (HSI.out.leave Hasc.out hr2.1.1 hr2.1.2 (fun e he => by have := (List.getElem?_eq_some_iff.1 he).1; rw [Hspl.out] at this; omega))
              go_wp2
              exact ⟨⟨k3, at_, P2, by omega, rfl, HSW2, HPI2, HPM, HES⟩, by simp [intOf]; omega⟩
        · as_aux_lemma =>
          have d2 : decide ((k2 : Int) < (el : Int)) = false := decide_eq_false (by omega)
          have HCl := hid (close_walk w ⟨b8, pb, b9, b10, gi, b11, km, b12⟩ _ st 196607 P wr HPM.out hslen hpl hbd1 hol hbd2 hbd3)
          have HPI2 : Hid (PI (ptO sp nb) (closeS P (togs (List.replicate nb 0) (sp.take k2)) st 196607) 196608) := hid (HPI.out.close (s := togs (List.replicate nb 0) (sp.take k2)) (en := 196607) hst0 (by omega) (by omega) (fun x h1 h2 => HSW.out.pat Hasc.out nb h1 (fun e he => by have := (List.getElem?_eq_some_iff.1 he).1; rw [Hspl.out] at this; omega)))
          generalize closeS P (togs (List.replicate nb 0) (sp.take k2)) st 196607 = P2 at HCl HPI2
          go_upto_region 30 with fail
          go_wp2_with fail
          refine HCl.out.mono ?_
          rintro e w5 ⟨rfl, hke, hpm⟩
          obtain ⟨sa, sc, oa, oc, la, lc, LV, D, hv⟩ := hpm
          have HV := hid hv
          clear hv hke HCl HPM HES cE HSW HPI hbd1 hbd2 hbd3 hpl hol hst0 hst1 hslen hlt2
          have HVd : Hid (PMv w ⟨b8, pb, b9, b10, gi, b11, km, b12⟩ (togs (List.replicate nb 0) (sp.take k2)) st P2.pats P2.lists P2.starts P2.owner sa sc oa oc la lc LV D w5.drew) := hid (HV.out.below (Drew.below ⟨1, rfl⟩ _))
          obtain ⟨N, hN⟩ : ∃ N, P2.lists.length = N := ⟨_, rfl⟩
          have HN := hid hN
          have hN2 : N ≤ 196608 := by rw [← hN]; exact (HPI2.out.bounds (by omega)).1
          clear hN HV
          have HS : Hid (w5.drew.cell? ⟨b8, 0, none⟩ = some (.pointer (some ⟨pb, 0, none⟩)) ∧ w5.drew.cell? ⟨b9, 0, none⟩ = some (.slice la N lc)) := hid ⟨HVd.out.p8.cell 0, by have := HVd.out.b9.cell 0; simp only [List.getElem?_cons_zero, HN.out] at this; exact this⟩
          go_upto_region 31 with fail
          refine wp_region_heavy (fun w' => w'.cell? ⟨b8, 0, none⟩ = some (.pointer (some ⟨pb, 0, none⟩)) ∧ w'.cell? ⟨b9, 0, none⟩ = some (.slice la N lc)) 4 [0, 1, 2] [3] rfl (by kernel_rfl) (by kernel_rfl) (fun d _ _ _ _ h => by cases d <;> exact h) HS.out ?_
          apply Exists.intro
          refine ⟨?_, ?_⟩
          · intro W hW
            have d0 : ∀ x, (W x).cell? ⟨b8, 0, none⟩ = some (.pointer (some ⟨pb, 0, none⟩)) := fun x => (hW x).1
            have d1 : ∀ x, (W x).cell? ⟨b9, 0, none⟩ = some (.slice la N lc) := fun x => (hW x).2
            clear hW
            simp only [List.take, opsAt, List.drop, List.cons_append, List.nil_append]
            repeat (go_big_quiet_step (fail))
            exact rfl
          simp only [List.take, List.drop, opsAt, List.cons_append, List.nil_append, wpHv]
          generalize w5.drew = w6 at HVd HS ⊢
          obtain ⟨Z, hZl, hmk⟩ := make_cls N (by omega) w6
          obtain ⟨gb, hgb⟩ : ∃ gb, w6.heap.size = gb := ⟨_, rfl⟩
          have HPF : Hid (PF w pb b8 b9 gb P2.lists P2.starts P2.owner sa sc oa oc la lc LV 0 ((w6.alloc (.cells Z.toArray 30)).setCell ⟨pb, 0, none⟩ (.slice (some ⟨gb, 0, none⟩) N N))) := hid (by
            have h := PF.start HVd.out (Z := Z) (by rw [HN.out]; exact hZl) hgb
            rw [HN.out] at h
            exact h)
          have HV7 := hid (HVd.out.below (nbel w6 (.cells Z.toArray 30)))
          have hgw : w.heap.size ≤ gb := by have := HVd.out.bel.size; omega
          go_wp2_with fail
          have HS7 : Hid ((w6.alloc (.cells Z.toArray 30)).cell? ⟨b8, 0, none⟩ = some (.pointer (some ⟨pb, 0, none⟩)) ∧ (w6.alloc (.cells Z.toArray 30)).cell? ⟨b9, 0, none⟩ = some (.slice la N lc)) := hid ⟨HV7.out.p8.cell 0, by have := HV7.out.b9.cell 0; simp only [List.getElem?_cons_zero, HN.out] at this; exact this⟩
          refine ⟨HS7.out, ?_⟩
          simp only [QN]
          clear hmk hZl HS
          generalize w6.alloc (.cells Z.toArray 30) = w7 at HPF HV7 HS7 ⊢
          have c7 : w7.cell? ⟨pb, 0, none⟩ = some (.slice none 0 0) := HV7.out.pb.cell 0
          have f7 : w7.frozen? ⟨pb, 0, none⟩ = false := HV7.out.pb.frozen 0
          have hpbw : w.heap.size ≤ pb := HV7.out.own.1
          clear HVd HV7 HS7
          go_upto_region 32 with fail
          generalize w7.setCell ⟨pb, 0, none⟩ (.slice (some ⟨gb, 0, none⟩) N N) = w8 at HPF ⊢
          clear c7 f7
          have c9 : w8.cell? ⟨b9, 0, none⟩ = some (.slice la N lc) := by have := HPF.out.b9k.cell 0; simp only [List.getElem?_cons_zero, HN.out] at this; exact this
          go_upto_region 33 with fail
          go_loopw [123] (fun i wr => ∃ (k4 : Nat), k4 ≤ N ∧ i = .int .i64 k4 ∧ Hid (PF w pb b8 b9 gb P2.lists P2.starts P2.owner sa sc oa oc la lc LV k4 wr)) (fun i _ => N - (intOf i).toNat)
          case atStart => exact ⟨0, Nat.zero_le _, rfl, HPF⟩
          case round =>
            clear HPF c9
            obtain ⟨k4, hk4, rfl, HPF⟩ := hrel
            have hLV : LV.length = N := by rw [HPF.out.rw.len, HN.out]
            by_cases hlt4 : k4 < N
            · as_aux_lemma =>
              have d4 : decide ((k4 : Int) < (N : Int)) = true := decide_eq_true (by omega)
              have i4 : (k4 : Int) < (N : Int) := by omega
              obtain ⟨v, hv⟩ : ∃ v, LV[k4]? = some v := ⟨_, List.getElem?_eq_getElem (by omega)⟩
              obtain ⟨l, hl⟩ : ∃ l, P2.lists[k4]? = some l := ⟨_, List.getElem?_eq_getElem (by rw [HN.out]; exact hlt4)⟩
              obtain ⟨va, vc, hvs⟩ := owns_shape (HPF.out.rw.row k4 v l hv hl)
              obtain ⟨vl, hvl⟩ : ∃ vl, l.length = vl := ⟨_, rfl⟩
              rw [hvl] at hvs
              subst hvs
              obtain ⟨g9, off9, rfl, e9⟩ := HPF.out.fl.cell (i := k4) (by rw [HN.out]; exact hlt4)
              rw [hv] at e9
              have HPF2 := hid (HPF.out.step hgw hv)
              have c8 : wr.cell? ⟨b8, 0, none⟩ = some (.pointer (some ⟨pb, 0, none⟩)) := HPF.out.p8.cell 0
              have cp : wr.cell? ⟨pb, 0, none⟩ = some (.slice (some ⟨gb, 0, none⟩) N N) := by have := HPF.out.pbk.cell 0; simp only [List.getElem?_cons_zero, HN.out] at this; exact this
              obtain ⟨v0, cg, fg⟩ := HPF.out.fill.cell (i := k4) (by omega)
              clear hv hl hvl
              go_wp2
              exact ⟨⟨k4 + 1, by omega, by go_num, HPF2⟩, by simp [intOf]; omega⟩
            · as_aux_lemma =>
              have d4 : decide ((k4 : Int) < (N : Int)) = false := decide_eq_false (by omega)
              have c8 : wr.cell? ⟨b8, 0, none⟩ = some (.pointer (some ⟨pb, 0, none⟩)) := HPF.out.p8.cell 0
              go_wp2
              go_ret
              obtain ⟨T9, hT9, hC9⟩ := HPF.out.rw.cls (fun b l hl => (HPI2.out.cls b _ l (List.getElem?_eq_getElem (by rw [HPI2.out.len]; exact (List.getElem?_eq_some_iff.1 hl).1)) hl).1)
              refine ⟨⟨pb, gb, T9, P2, ptO sp nb, sa, sc, oa, oc, rfl, HPF.out.pbk, by rw [hT9]; exact HPF.out.fill.fin (by omega), hC9, HPF.out.fs, HPF.out.fo, HPI2.out, fun x y _ h2 _ h4 => ?_, hpbw, hgw⟩, HPF.out.fill.bel⟩
              rw [← Hnb.out, ← hLl]
              exact ptO_iff HNr.out Hperm.out h2 h4
end Go.Proofs.Qxb6500884a
