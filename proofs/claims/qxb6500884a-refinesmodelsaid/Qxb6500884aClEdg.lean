/- The edges in memory; the pattern toggled, the start moved. -/
import Derived.Test.Qxb6500884aClCls2
import Derived.Test.Qxb6500884aClSrtE
import Derived.Test.Qxb6500884aClSwp
import Derived.Test.Qxb6500884aClCls
namespace Go.Proofs.Qxb6500884a
open Go.RowKit Go.Maps
set_option linter.unusedSimpArgs false
set_option linter.unusedVariables false

/-- The edges being collected. -/
structure EdW (w0 : World) (b3 : Nat) (E : List (Int × Int)) (v : Value) (w : World) : Prop where
  bel : Below w0.heap.size w0 w
  box : Blk w b3 113 [v]
  own : w.ownsRow w0.heap.size 115 2 v E.length (E.flatMap ivC)
  b3w : w0.heap.size ≤ b3
theorem EdW.below {w0 w w' : World} {b3 : Nat} {E : List (Int × Int)} {v : Value} (h : EdW w0 b3 E v w) (hb : Below w.heap.size w w') : EdW w0 b3 E v w' := ⟨h.bel.trans (hb.mono h.bel.size), h.box.below hb, ownsRow_bel h.own hb, h.b3w⟩
theorem EdW.app {w0 w w' : World} {b3 : Nat} {E : List (Int × Int)} {v v' : Value} {p : Int × Int} (h : EdW w0 b3 E v w) (ho : w'.ownsRow w0.heap.size 115 2 v' (E.length + 1) (E.flatMap ivC ++ ivC p)) (hb : Below w0.heap.size w w')
    (hk : ∀ k, k < w.heap.size → (∀ g, v.ownBlock = some g → k ≠ g) → w'.heap[k]? = w.heap[k]?) : EdW w0 b3 (E ++ [p]) v' (w'.setCell ⟨b3, 0, none⟩ v') := by
  have hbx : Blk w' b3 113 [v] := by
    unfold Blk
    rw [hk b3 h.box.lt (own_ne h.own h.box (by decide))]
    exact h.box
  have hu : Upd b3 w' (w'.setCell ⟨b3, 0, none⟩ v') := (Upd.refl b3 w').setCell rfl v'
  refine ⟨(h.bel.trans hb).trans (hu.below h.b3w (h.bel.trans hb).size), hbx.set 0 v', ?_, h.b3w⟩
  rw [List.length_append, List.flatMap_append]
  have := ownsRow_upd ho hbx (by decide) hu
  simpa using this
theorem EdW.appK {w0 w w' : World} {b3 : Nat} {E : List (Int × Int)} {v v' : Value} (h : EdW w0 b3 E v w)
    (hk : ∀ k, k < w.heap.size → (∀ g, v.ownBlock = some g → k ≠ g) → w'.heap[k]? = w.heap[k]?) {q : Nat} {t : TypeId} {cs : List Value} (hb : Blk w q t cs) (h1 : 115 ≠ t) (h2 : b3 ≠ q) : Blk (w'.setCell ⟨b3, 0, none⟩ v') q t cs := by
  have : Blk w' q t cs := by
    unfold Blk
    rw [hk q hb.lt (own_ne h.own hb h1)]
    exact hb
  exact this.setOther (by exact h2) v'
theorem EdW.appB {w0 w w' : World} {b3 : Nat} {E : List (Int × Int)} {v : Value} (h : EdW w0 b3 E v w)
    (hk : ∀ k, k < w.heap.size → (∀ g, v.ownBlock = some g → k ≠ g) → w'.heap[k]? = w.heap[k]?) : Blk w' b3 113 [v] := by
  unfold Blk
  rw [hk b3 h.box.lt (own_ne h.own h.box (by decide))]
  exact h.box
/-- The edges in order. -/
structure EdS (b3 : Nat) (sp : List (Int × Int)) (a : Option Addr) (c : Nat) (w : World) : Prop where
  box : Blk w b3 113 [.slice a sp.length c]
  row : sp = [] ∨ ∃ g ds, a = some ⟨g, 0, none⟩ ∧ Blk w g 115 ds ∧ ∀ i, i < sp.length * 2 → ds[i]? = (sp.flatMap ivC)[i]?
theorem EdS.keep {b3 : Nat} {sp : List (Int × Int)} {a : Option Addr} {c : Nat} {w w' : World} (h : EdS b3 sp a c w) (hk : KeepE w w') : EdS b3 sp a c w' := by
  refine ⟨h.box.keepE hk (.inl rfl), ?_⟩
  rcases h.row with h1 | ⟨g, ds, h1, h2, h3⟩
  · exact .inl h1
  · exact .inr ⟨g, ds, h1, h2.keepE hk (.inr rfl), h3⟩
theorem EdS.get {b3 : Nat} {sp : List (Int × Int)} {a : Option Addr} {c : Nat} {w : World} (h : EdS b3 sp a c w) {i : Nat} (hi : i < sp.length) : ∃ e g, sp[i]? = some e ∧ a = some ⟨g, 0, none⟩ ∧ w.cell? ⟨g, i * 2, none⟩ = some (.int .i64 e.1) ∧ w.cell? ⟨g, i * 2 + 1, none⟩ = some (.int .i64 e.2) := by
  have he : sp[i]? = some sp[i] := List.getElem?_eq_getElem hi
  rcases h.row with h1 | ⟨g, ds, h1, h2, h3⟩
  · rw [h1] at hi
    simp at hi
  · refine ⟨sp[i], g, he, h1, ?_, ?_⟩
    · rw [h2.cell, h3 (i * 2) (by omega)]
      have := flat_get he (show 0 < 2 by omega)
      simpa [ivC] using this
    · rw [h2.cell, h3 (i * 2 + 1) (by omega)]
      have := flat_get he (show 1 < 2 by omega)
      simpa [ivC] using this
theorem sort_ed (w0 : World) (b3 : Nat) (E : List (Int × Int)) (a : Option Addr) (n c : Nat) (w : World) (h : EdW w0 b3 E (.slice a n c) w) (hm : E.length ≤ 100000000000) :
    Calls Try.prog 36 #[.iface 113 (.slice a n c), .func (.func 86) #[] #[.pointer (some ⟨b3, 0, none⟩)]] w fun e w' => e = .returned (.tuple #[]) ∧ ∃ sp, sp.Perm E ∧ Asc sp ∧ EdS b3 sp a c w' ∧ Below w0.heap.size w0 w' := by
  rcases h.own.2 with ⟨h1, h2⟩ | ⟨g, cap, cur, h1, h2, h3, h4, h5, h6, h7⟩
  · cases h1
    have hE : E = [] := List.eq_nil_of_length_eq_zero h2
    subst hE
    refine (sortNilE none 0 b3 w).mono ?_
    rintro e w' ⟨rfl, hb⟩
    exact ⟨rfl, [], List.Perm.refl _, fun i j p q _ hp => by simp at hp, ⟨h.box.below hb, .inl rfl⟩, h.bel.trans (hb.mono h.bel.size)⟩
  · cases h1
    have hbg : Blk w g 115 cur.toList := by unfold Blk; simpa using h3
    have hpre : Pre cur.toList E cur.toList := ⟨rfl, fun i hi => by
      have := congrArg (fun t => t[i]?) h7
      simp only [List.getElem?_take, if_pos hi] at this
      exact this, fun _ _ => rfl⟩
    rcases Nat.eq_zero_or_pos E.length with h0 | h0
    · have hE : E = [] := List.eq_nil_of_length_eq_zero h0
      subst hE
      refine (sortNilE (some ⟨g, 0, none⟩) c b3 w).mono ?_
      rintro e w' ⟨rfl, hb⟩
      exact ⟨rfl, [], List.Perm.refl _, fun i j p q _ hp => by simp at hp, ⟨h.box.below hb, .inl rfl⟩, h.bel.trans (hb.mono h.bel.size)⟩
    · have hne : b3 ≠ g := fun e => by
        have := own_ne h.own h.box (by decide) g rfl
        exact this e
      refine (sortAnyE g b3 c E cur.toList cur.toList w hbg hpre h.box hne h0 hm (by simp [h6]; omega)).mono ?_
      rintro e w' ⟨rfl, sp, hp, ha, ⟨ds, hd, hpr⟩, hu⟩
      have hlen : sp.length = E.length := hp.length_eq
      exact ⟨rfl, sp, hp, ha, ⟨by rw [hlen]; exact h.box.upd hu hne, .inr ⟨g, ds, rfl, hd, hpr.pre⟩⟩, h.bel.trans (hu.below h2 h.bel.size)⟩
section
variable {w0 : World} {A : PA} {s : List UInt8} {st : Int} {pats : List (List UInt8)} {lists : List (List (Int × Int))} {starts owner : List Int} {sa : Option Addr} {sc : Nat} {oa : Option Addr} {oc : Nat} {la : Option Addr} {lc : Nat} {LV : List Value} {D : DataW Unit} {w w' : World}
theorem PMv.tog (h : PMv w0 A s st pats lists starts owner sa sc oa oc la lc LV D w) (m : Nat) : PMv w0 A (tog s m) st pats lists starts owner sa sc oa oc la lc LV D (w.setCell ⟨A.gi, m / 8, none⟩ (byV (s.getD (m / 8) 0 ^^^ UInt8.ofNat (2 ^ (m % 8))))) := by
  have hu2 : Upd A.gi w (w.setCell ⟨A.gi, m / 8, none⟩ (byV (s.getD (m / 8) 0 ^^^ UInt8.ofNat (2 ^ (m % 8))))) := (Upd.refl A.gi w).setCell rfl _
  have hv : UT (ofT 5) w (w.setCell ⟨A.gi, m / 8, none⟩ (byV (s.getD (m / 8) 0 ^^^ UInt8.ofNat (2 ^ (m % 8))))) := UT.upd hu2 h.gi
  exact { bel := h.bel.trans (hu2.below h.own.2.2.2.2 h.bel.size)
          p8 := h.p8.ut hv (notT (by decide)), pb := h.pb.ut hv (notT (by decide)), fs := h.fs.ut hv (fun _ => notT (by decide)), fo := h.fo.ut hv (fun _ => notT (by decide)), so := h.so, oo := h.oo, b9 := h.b9.ut hv (notT (by decide)), fl := h.fl.ut hv (fun _ => notT (by decide)), lo := h.lo, rw := h.rw.ut hv (fun _ => notT (by decide))
          b10 := by rw [tog_len]; exact h.b10.ut hv (notT (by decide))
          gi := by
            have := h.gi.set (m / 8) (byV (s.getD (m / 8) 0 ^^^ UInt8.ofNat (2 ^ (m % 8))))
            unfold Go.Proofs.Qxb6500884a.tog
            rw [List.map_set]
            exact this
          b11 := h.b11.ut hv (notT (by decide)), km := map_ut h.km hv notTM, mok := h.mok, stB := h.stB.ut hv (notT (by decide)), own := h.own }
theorem PMv.setSt (h : PMv w0 A s st pats lists starts owner sa sc oa oc la lc LV D w) (st' : Int) : PMv w0 A s st' pats lists starts owner sa sc oa oc la lc LV D (w.setCell ⟨A.b12, 0, none⟩ (.int .i64 st')) := by
  have hu2 : Upd A.b12 w (w.setCell ⟨A.b12, 0, none⟩ (.int .i64 st')) := (Upd.refl A.b12 w).setCell rfl _
  have hu3 : UpdO (some A.b12) w (w.setCell ⟨A.b12, 0, none⟩ (.int .i64 st')) := UpdO.ofUpd hu2
  have hv : UT (ofT 3) w (w.setCell ⟨A.b12, 0, none⟩ (.int .i64 st')) := UT.upd hu2 h.stB
  exact { bel := h.bel.trans (hu2.below h.own.2.2.2.1 h.bel.size)
          p8 := h.p8.ut hv (notT (by decide)), pb := h.pb.ut hv (notT (by decide)), fs := h.fs.updO hu3 (fun k hk e => (h.so k hk).2.1 (Option.some.inj e).symm), fo := h.fo.updO hu3 (fun k hk e => (h.oo k hk).1 (Option.some.inj e).symm), so := h.so, oo := h.oo, b9 := h.b9.ut hv (notT (by decide)), fl := h.fl.ut hv (fun _ => notT (by decide)), lo := h.lo, rw := h.rw.ut hv (fun _ => notT (by decide))
          b10 := h.b10.ut hv (notT (by decide)), gi := h.gi.ut hv (notT (by decide)), b11 := h.b11.ut hv (notT (by decide)), km := map_ut h.km hv notTM, mok := h.mok, stB := h.stB.set 0 _, own := h.own }
end
theorem PM.init (w0 ws : World) (pb nb : Nat) (Z : List Value) (hZ : (List.replicate nb (0 : UInt8)).map byV = Z) (hb : Below w0.heap.size w0 ws) (hp : ws.heap.size = pb) :
    PM w0 ⟨pb + 1, pb, pb + 1 + 1, pb + 1 + 1 + 1 + 1, pb + 1 + 1 + 1, pb + 1 + 1 + 1 + 1 + 1 + 1, pb + 1 + 1 + 1 + 1 + 1, pb + 1 + 1 + 1 + 1 + 1 + 1 + 1⟩ (List.replicate nb 0) 0 ⟨[], [], [], []⟩
      ((((((((ws.alloc (Obj.cells #[Value.slice none 0 0, Value.slice none 0 0, Value.slice none 0 0] 117)).alloc (Obj.cells #[Value.pointer (some ⟨pb, 0, none⟩)] 88)).alloc (Obj.cells #[Value.slice none 0 0] 118)).alloc (Obj.cells Z.toArray 5)).alloc (Obj.cells #[Value.slice (some ⟨pb + 1 + 1 + 1, 0, none⟩) nb nb] 119)).alloc (Obj.map #[] 0)).alloc (Obj.cells #[Value.map (some (pb + 1 + 1 + 1 + 1 + 1))] 120)).alloc (Obj.cells #[Value.int IntKind.i64 0] 3)) ∧
    KeepE ws ((((((((ws.alloc (Obj.cells #[Value.slice none 0 0, Value.slice none 0 0, Value.slice none 0 0] 117)).alloc (Obj.cells #[Value.pointer (some ⟨pb, 0, none⟩)] 88)).alloc (Obj.cells #[Value.slice none 0 0] 118)).alloc (Obj.cells Z.toArray 5)).alloc (Obj.cells #[Value.slice (some ⟨pb + 1 + 1 + 1, 0, none⟩) nb nb] 119)).alloc (Obj.map #[] 0)).alloc (Obj.cells #[Value.map (some (pb + 1 + 1 + 1 + 1 + 1))] 120)).alloc (Obj.cells #[Value.int IntKind.i64 0] 3)) := by
  have s1 : ∀ (x : World) (o : Obj), (x.alloc o).heap.size = x.heap.size + 1 := fun x o => by simp
  have step : ∀ (x y : World) (o : Obj), Below ws.heap.size ws x → x.alloc o = y → Below ws.heap.size ws y := fun x y o h e => by rw [← e]; exact h.trans ((nbel x o).mono h.size)
  have b1 := Blk.new ws [Value.slice none 0 0, Value.slice none 0 0, Value.slice none 0 0] 117
  have e1 := step ws _ (Obj.cells #[Value.slice none 0 0, Value.slice none 0 0, Value.slice none 0 0] 117) (Below.refl _ _) rfl
  have z1 := s1 ws (Obj.cells #[Value.slice none 0 0, Value.slice none 0 0, Value.slice none 0 0] 117)
  rw [hp] at b1 z1
  change Blk (ws.alloc (Obj.cells #[Value.slice none 0 0, Value.slice none 0 0, Value.slice none 0 0] 117)) pb _ _ at b1
  generalize ws.alloc (Obj.cells #[Value.slice none 0 0, Value.slice none 0 0, Value.slice none 0 0] 117) = x1 at b1 z1 e1 ⊢
  have b2 := Blk.new x1 [Value.pointer (some ⟨pb, 0, none⟩)] 88
  have e2 := step x1 _ (Obj.cells #[Value.pointer (some ⟨pb, 0, none⟩)] 88) e1 rfl
  have z2 := s1 x1 (Obj.cells #[Value.pointer (some ⟨pb, 0, none⟩)] 88)
  have b1' := b1.alloc (Obj.cells #[Value.pointer (some ⟨pb, 0, none⟩)] 88)
  rw [z1] at b2 z2
  change Blk (x1.alloc (Obj.cells #[Value.pointer (some ⟨pb, 0, none⟩)] 88)) _ _ _ at b2
  generalize x1.alloc (Obj.cells #[Value.pointer (some ⟨pb, 0, none⟩)] 88) = x2 at b1' b2 z2 e2 ⊢
  have b3 := Blk.new x2 [Value.slice none 0 0] 118
  have e3 := step x2 _ (Obj.cells #[Value.slice none 0 0] 118) e2 rfl
  have z3 := s1 x2 (Obj.cells #[Value.slice none 0 0] 118)
  have c1 := b1'.alloc (Obj.cells #[Value.slice none 0 0] 118)
  have c2 := b2.alloc (Obj.cells #[Value.slice none 0 0] 118)
  rw [z2] at b3 z3
  change Blk (x2.alloc (Obj.cells #[Value.slice none 0 0] 118)) _ _ _ at b3
  generalize x2.alloc (Obj.cells #[Value.slice none 0 0] 118) = x3 at b3 z3 e3 c1 c2 ⊢
  have b4 := Blk.new x3 Z 5
  have e4 := step x3 _ (Obj.cells Z.toArray 5) e3 rfl
  have z4 := s1 x3 (Obj.cells Z.toArray 5)
  have d1 := c1.alloc (Obj.cells Z.toArray 5)
  have d2 := c2.alloc (Obj.cells Z.toArray 5)
  have d3 := b3.alloc (Obj.cells Z.toArray 5)
  rw [z3] at b4 z4
  generalize x3.alloc (Obj.cells Z.toArray 5) = x4 at b4 z4 e4 d1 d2 d3 ⊢
  have b5 := Blk.new x4 [Value.slice (some ⟨pb + 1 + 1 + 1, 0, none⟩) nb nb] 119
  have e5 := step x4 _ (Obj.cells #[Value.slice (some ⟨pb + 1 + 1 + 1, 0, none⟩) nb nb] 119) e4 rfl
  have z5 := s1 x4 (Obj.cells #[Value.slice (some ⟨pb + 1 + 1 + 1, 0, none⟩) nb nb] 119)
  have f1 := d1.alloc (Obj.cells #[Value.slice (some ⟨pb + 1 + 1 + 1, 0, none⟩) nb nb] 119)
  have f2 := d2.alloc (Obj.cells #[Value.slice (some ⟨pb + 1 + 1 + 1, 0, none⟩) nb nb] 119)
  have f3 := d3.alloc (Obj.cells #[Value.slice (some ⟨pb + 1 + 1 + 1, 0, none⟩) nb nb] 119)
  have f4 := b4.alloc (Obj.cells #[Value.slice (some ⟨pb + 1 + 1 + 1, 0, none⟩) nb nb] 119)
  rw [z4] at b5 z5
  change Blk (x4.alloc (Obj.cells #[Value.slice (some ⟨pb + 1 + 1 + 1, 0, none⟩) nb nb] 119)) _ _ _ at b5
  generalize x4.alloc (Obj.cells #[Value.slice (some ⟨pb + 1 + 1 + 1, 0, none⟩) nb nb] 119) = x5 at b5 z5 e5 f1 f2 f3 f4 ⊢
  have m6 := World.ownsMap_made x5 Try.prog 9 (plainElem (H := Unit) Try.prog 3)
  have e6 := step x5 _ (Obj.map #[] 0) e5 rfl
  have z6 := s1 x5 (Obj.map #[] 0)
  have g1 := f1.alloc (Obj.map #[] 0)
  have g2 := f2.alloc (Obj.map #[] 0)
  have g3 := f3.alloc (Obj.map #[] 0)
  have g4 := f4.alloc (Obj.map #[] 0)
  have g5 := b5.alloc (Obj.map #[] 0)
  rw [z5] at m6 z6
  generalize x5.alloc (Obj.map #[] 0) = x6 at m6 z6 e6 g1 g2 g3 g4 g5 ⊢
  have b7 := Blk.new x6 [Value.map (some (pb + 1 + 1 + 1 + 1 + 1))] 120
  have e7 := step x6 _ (Obj.cells #[Value.map (some (pb + 1 + 1 + 1 + 1 + 1))] 120) e6 rfl
  have z7 := s1 x6 (Obj.cells #[Value.map (some (pb + 1 + 1 + 1 + 1 + 1))] 120)
  have h1 := g1.alloc (Obj.cells #[Value.map (some (pb + 1 + 1 + 1 + 1 + 1))] 120)
  have h2 := g2.alloc (Obj.cells #[Value.map (some (pb + 1 + 1 + 1 + 1 + 1))] 120)
  have h3 := g3.alloc (Obj.cells #[Value.map (some (pb + 1 + 1 + 1 + 1 + 1))] 120)
  have h4 := g4.alloc (Obj.cells #[Value.map (some (pb + 1 + 1 + 1 + 1 + 1))] 120)
  have h5 := g5.alloc (Obj.cells #[Value.map (some (pb + 1 + 1 + 1 + 1 + 1))] 120)
  have m7 := m6.alloc (Obj.cells #[Value.map (some (pb + 1 + 1 + 1 + 1 + 1))] 120)
  rw [z6] at b7 z7
  change Blk (x6.alloc (Obj.cells #[Value.map (some (pb + 1 + 1 + 1 + 1 + 1))] 120)) _ _ _ at b7
  generalize x6.alloc (Obj.cells #[Value.map (some (pb + 1 + 1 + 1 + 1 + 1))] 120) = x7 at b7 z7 e7 h1 h2 h3 h4 h5 m7 ⊢
  have b8 := Blk.new x7 [Value.int IntKind.i64 0] 3
  have e8 := step x7 _ (Obj.cells #[Value.int IntKind.i64 0] 3) e7 rfl
  rw [z7] at b8
  have hsz := hb.size
  refine ⟨⟨none, 0, none, 0, none, 0, [], .map [], ?_⟩, KeepE.below e8⟩
  exact { bel := hb.trans (e8.mono hb.size)
          p8 := h2.alloc _, pb := h1.alloc _, fs := Fl.nil _ _, fo := Fl.nil _ _, so := fun k hk => by cases hk
          oo := fun k hk => by cases hk
          b9 := h3.alloc _, fl := Fl.nil _ _, lo := fun k hk => by cases hk
          rw := ⟨rfl, fun i v l h => by simp at h, fun i j v v' g _ h => by simp at h⟩
          b10 := by rw [List.length_replicate]; exact h5.alloc _
          gi := by rw [hZ]; exact h4.alloc _
          b11 := b7.alloc _, km := m7.alloc _, mok := MapOk.nil, stB := b8, own := by dsimp only; omega }
theorem KeepE.gi {w : World} {g : Nat} {cs : List Value} (h : Blk w g 5 cs) (i : Nat) (v : Value) : KeepE w (w.setCell ⟨g, i, none⟩ v) := KeepE.ut (UT.upd ((Upd.refl g w).setCell rfl v) h) (fun _ _ => notT (by decide)) (fun _ _ => notT (by decide))
theorem KeepE.st {w : World} {g : Nat} {cs : List Value} (h : Blk w g 3 cs) (v : Value) : KeepE w (w.setCell ⟨g, 0, none⟩ v) := KeepE.ut (UT.upd ((Upd.refl g w).setCell rfl v) h) (fun _ _ => notT (by decide)) (fun _ _ => notT (by decide))
theorem info_u8 : ∃ i, Try.prog.info? 5 = some i ∧ i.zero = some (.int .u8 0) ∧ i.size = 1 ∧ i.bytes = 1 := by
  have h : (Try.prog.info? 5).map (fun i => (i.zero, i.size, i.bytes)) = some (some (.int .u8 0), 1, 1) := by kernel_rfl
  obtain ⟨i, hi, he⟩ := Option.map_eq_some_iff.1 h
  simp only [Prod.mk.injEq] at he
  exact ⟨i, hi, he.1, he.2.1, he.2.2⟩
theorem make_u8 (n : Nat) (hn : n ≤ 1000000) (w : World) : (Instr.makeSlice 119 (.int .i64 (n : Int)) (.int .i64 (n : Int))).run Try.prog w = .ok (.slice (some ⟨w.heap.size, 0, none⟩) n n) (w.alloc (.cells ((List.replicate n (0 : UInt8)).map byV).toArray 5)) := by
  obtain ⟨i0, hi, hz0, hz1, hz2⟩ := info_u8
  have := run_make (P := Try.prog) w 119 5 i0 _ Try.underlying119 hi hz0 .i64 .i64 (n : Int) (n : Int) (by omega) (by omega) (by rw [hz2]; omega) (by omega)
  rw [hz1, show (Value.int .u8 0).cells = #[.int .u8 0] from rfl] at this
  have e : madeCells #[Value.int .u8 0] n = ((List.replicate n (0 : UInt8)).map byV).toArray := by
    apply Array.ext'
    apply List.ext_getElem
    · have := size_madeCells #[Value.int .u8 0] n
      simpa using this
    · intro i h1 h2
      simp [madeCells, Nat.mod_one, byV]
  simp at this
  rw [e] at this
  simpa using this
end Go.Proofs.Qxb6500884a
