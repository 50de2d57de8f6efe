/- The partition under way, in memory. -/
import Derived.Test.Qxb6500884aClPrt
import Derived.Test.Qxb6500884aClMrgO
import Derived.Test.Qxb6500884aClMch
import Derived.Test.Qxb6500884aUt
namespace Go.Proofs.Qxb6500884a
open Go.RowKit Go.Maps
set_option linter.unusedSimpArgs false
set_option linter.unusedVariables false

def iv64 (x : Int) : Value := .int .i64 x
def byV (b : UInt8) : Value := .int .u8 (b.toNat : Int)
structure PA where
  b8 : Nat
  pb : Nat
  b9 : Nat
  b10 : Nat
  gi : Nat
  b11 : Nat
  km : Nat
  b12 : Nat
/-- The map from patterns to numbers. -/
structure MapOk (D : DataW Unit) (pats : List (List UInt8)) : Prop where
  isMap : IsMap D
  yes : ∀ (s : List UInt8) (b : Nat), pats[b]? = some s → Maps.has D (.string s) = true ∧ D.atKey (.string s) (.lit (.int .i64 0)) = .lit (.int .i64 (b : Int))
  no : ∀ s, s ∉ pats → Maps.has D (.string s) = false
theorem MapOk.nil : MapOk (.map []) [] := ⟨⟨[], rfl⟩, fun s b h => by simp at h, fun s _ => rfl⟩
theorem MapOk.put {D : DataW Unit} {pats : List (List UInt8)} (h : MapOk D pats) {s : List UInt8} (hs : s ∉ pats) : MapOk (D.put (.string s) (.lit (.int .i64 (pats.length : Int)))) (pats ++ [s]) := by
  have hk : WideAt.IsKeyLit (.string s) := trivial
  obtain ⟨es, he⟩ := h.isMap
  refine ⟨⟨_, by rw [he]; rfl⟩, fun t b hb => ?_, fun t ht => ?_⟩
  · rcases Nat.lt_or_ge b pats.length with hlt | hge
    · rw [List.getElem?_append_left hlt] at hb
      have hne : (Lit.string t) ≠ .string s := fun e => by
        injection e with e
        rw [e] at hb
        exact hs (List.mem_of_getElem? hb)
      rw [has_put_other hne, atKey_put_other hne]
      exact h.yes t b hb
    · have hlt2 := (List.getElem?_eq_some_iff.1 hb).1
      simp at hlt2
      have : b = pats.length := by omega
      subst this
      simp at hb
      subst hb
      exact ⟨has_put_same h.isMap hk _, atKey_put_same h.isMap hk _ _⟩
  · simp at ht
    rw [has_put_other (fun e => by injection e with e; exact ht.2 e)]
    exact h.no t ht.1
/-- The rows of the lists, each in a block of its own. -/
structure Rws (w : World) (base : Nat) (LV : List Value) (lists : List (List (Int × Int))) : Prop where
  len : LV.length = lists.length
  row : ∀ (i : Nat) (v : Value) (l : List (Int × Int)), LV[i]? = some v → lists[i]? = some l → w.ownsRow base 67 2 v l.length (l.flatMap ivC)
  sep : ∀ (i j : Nat) (v v' : Value) (g : Nat), i ≠ j → LV[i]? = some v → LV[j]? = some v' → v.ownBlock = some g → v'.ownBlock ≠ some g
theorem Rws.ut {p : Obj → Prop} {w w' : World} {base : Nat} {LV : List Value} {lists : List (List (Int × Int))} (h : Rws w base LV lists) (hu : UT p w w') (hne : ∀ cs, ¬ p (.cells cs 67 (0, 0))) : Rws w' base LV lists :=
  ⟨h.len, fun i v l h1 h2 => owns_ut (h.row i v l h1 h2) hu hne, h.sep⟩
theorem Rws.nil {w : World} {base : Nat} {LV : List Value} {lists : List (List (Int × Int))} (h : Rws w base LV lists) : Rws w base (LV ++ [.slice none 0 0]) (lists ++ [[]]) := by
  have hl := h.len
  have get : ∀ (i : Nat) (v : Value), (LV ++ [.slice none 0 0])[i]? = some v → (i < LV.length ∧ LV[i]? = some v) ∨ (i = LV.length ∧ v = .slice none 0 0) := fun i v hi => by
    rcases Nat.lt_or_ge i LV.length with h1 | h1
    · rw [List.getElem?_append_left h1] at hi
      exact .inl ⟨h1, hi⟩
    · have := (List.getElem?_eq_some_iff.1 hi).1
      simp at this
      have : i = LV.length := by omega
      subst this
      simp at hi
      exact .inr ⟨rfl, hi.symm⟩
  refine ⟨by simp [hl], fun i v l h1 h2 => ?_, fun i j v v' g hij h1 h2 hg => ?_⟩
  · rcases get i v h1 with ⟨hi, h3⟩ | ⟨rfl, rfl⟩
    · rw [List.getElem?_append_left (by omega)] at h2
      exact h.row i v l h3 h2
    · rw [hl] at h2
      simp at h2
      subst h2
      exact World.ownsRow_nil _ _ _ _
  · rcases get i v h1 with ⟨hi, h3⟩ | ⟨rfl, rfl⟩
    · rcases get j v' h2 with ⟨hj, h4⟩ | ⟨rfl, rfl⟩
      · exact h.sep i j v v' g hij h3 h4 hg
      · intro e
        cases e
    · cases hg
theorem own_block {w : World} {base : Nat} {e : TypeId} {sz : Nat} {v : Value} {n : Nat} {xs : List Value} (h : w.ownsRow base e sz v n xs) : ∀ k, v.ownBlock = some k → (∃ cs, Blk w k e cs) ∧ base ≤ k := fun k hk => by
  rcases h.2 with ⟨rfl, _⟩ | ⟨g, cap, cur, rfl, h2, hg, _⟩
  · cases hk
  · cases hk
    exact ⟨⟨cur.toList, by unfold Blk; simpa using hg⟩, h2⟩
theorem own_lt3 {w : World} {base : Nat} {e : TypeId} {sz : Nat} {v : Value} {n : Nat} {xs : List Value} (h : w.ownsRow base e sz v n xs) : ∀ k, v.ownBlock = some k → k < w.heap.size := fun k hk => by
  obtain ⟨⟨cs, hb⟩, _⟩ := own_block h k hk
  exact hb.lt
/-- One row written anew: in its own block, or in a new one. -/
theorem Rws.put {w w' : World} {base b : Nat} {LV : List Value} {lists : List (List (Int × Int))} {v v' : Value} {l' : List (Int × Int)} (h : Rws w base LV lists) (hv : LV[b]? = some v) (hu : UpdO v.ownBlock w w') (ho : w'.ownsRow base 67 2 v' l'.length (l'.flatMap ivC)) (hn : v'.ownBlock = v.ownBlock ∨ ∃ g, v'.ownBlock = some g ∧ w.heap.size ≤ g) : Rws w' base (LV.set b v') (lists.set b l') := by
  have hl := h.len
  have hb := (List.getElem?_eq_some_iff.1 hv).1
  have get : ∀ (i : Nat) (u : Value), (LV.set b v')[i]? = some u → (i ≠ b ∧ LV[i]? = some u) ∨ (i = b ∧ u = v') := fun i u hi => by
    by_cases hib : i = b
    · subst hib
      rw [List.getElem?_set_self hb] at hi
      exact .inr ⟨rfl, (Option.some.inj hi).symm⟩
    · rw [List.getElem?_set_ne (fun e => hib e.symm)] at hi
      exact .inl ⟨hib, hi⟩
  have old : ∀ (i : Nat) (u : Value) (l : List (Int × Int)), i ≠ b → LV[i]? = some u → lists[i]? = some l → w'.ownsRow base 67 2 u l.length (l.flatMap ivC) := fun i u l hib h1 h2 => by
    have h3 := h.row i u l h1 h2
    refine ⟨h3.1, ?_⟩
    rcases h3.2 with h4 | ⟨g, cap, cur, h4, h5, hg, h6⟩
    · exact .inl h4
    · refine .inr ⟨g, cap, cur, h4, h5, ?_, h6⟩
      rw [hu.block g (Array.getElem?_eq_some_iff.1 hg).1 (h.sep i b u v g hib h1 hv (by rw [h4]; rfl))]
      exact hg
  have sep1 : ∀ (i : Nat) (u : Value) (g : Nat), i ≠ b → LV[i]? = some u → u.ownBlock = some g → v'.ownBlock ≠ some g := fun i u g hib h1 hg e => by
    rcases hn with h2 | ⟨g', h2, h3⟩
    · exact h.sep i b u v g hib h1 hv hg (by rw [← h2]; exact e)
    · rw [h2] at e
      cases e
      obtain ⟨l, hll⟩ : ∃ l, lists[i]? = some l := ⟨_, List.getElem?_eq_getElem (by have := (List.getElem?_eq_some_iff.1 h1).1; omega)⟩
      have := own_lt3 (h.row i u l h1 hll) g hg
      omega
  refine ⟨by simp [hl], fun i u l h1 h2 => ?_, fun i j u u' g hij h1 h2 hg => ?_⟩
  · rcases get i u h1 with ⟨hib, h3⟩ | ⟨rfl, rfl⟩
    · rw [List.getElem?_set_ne (fun e => hib e.symm)] at h2
      exact old i u l hib h3 h2
    · rw [List.getElem?_set_self (by omega)] at h2
      cases h2
      exact ho
  · rcases get i u h1 with ⟨hib, h3⟩ | ⟨rfl, rfl⟩
    · rcases get j u' h2 with ⟨hjb, h4⟩ | ⟨rfl, rfl⟩
      · exact h.sep i j u u' g hij h3 h4 hg
      · exact sep1 i u g hib h3 hg
    · rcases get j u' h2 with ⟨hjb, h4⟩ | ⟨rfl, rfl⟩
      · intro e
        exact sep1 j u' g hjb h4 e hg
      · exact absurd rfl hij
/-- The partition in memory; sa oa: the blocks of starts and owner; la LV: the lists. -/
structure PMv (w0 : World) (A : PA) (s : List UInt8) (st : Int) (pats : List (List UInt8)) (lists : List (List (Int × Int))) (starts owner : List Int) (sa : Option Addr) (sc : Nat) (oa : Option Addr) (oc : Nat) (la : Option Addr) (lc : Nat) (LV : List Value) (D : DataW Unit) (w : World) : Prop where
  bel : Below w0.heap.size w0 w
  p8 : Blk w A.b8 88 [.pointer (some ⟨A.pb, 0, none⟩)]
  pb : Blk w A.pb 117 [.slice none 0 0, .slice sa starts.length sc, .slice oa owner.length oc]
  fs : Fl w 3 sa starts.length sc (starts.map iv64)
  fo : Fl w 3 oa owner.length oc (owner.map iv64)
  so : ∀ k, blkO sa = some k → blkO oa ≠ some k ∧ k ≠ A.b12 ∧ w0.heap.size ≤ k
  oo : ∀ k, blkO oa = some k → k ≠ A.b12 ∧ w0.heap.size ≤ k
  b9 : Blk w A.b9 118 [.slice la lists.length lc]
  fl : Fl w 25 la lists.length lc LV
  lo : ∀ k, blkO la = some k → w0.heap.size ≤ k
  rw : Rws w w0.heap.size LV lists
  b10 : Blk w A.b10 119 [.slice (some ⟨A.gi, 0, none⟩) s.length s.length]
  gi : Blk w A.gi 5 (s.map byV)
  b11 : Blk w A.b11 120 [.map (some A.km)]
  km : w.ownsMap Try.prog 9 (plainElem Try.prog 3) A.km pats.length D
  mok : MapOk D pats
  stB : Blk w A.b12 3 [.int .i64 st]
  own : w0.heap.size ≤ A.pb ∧ w0.heap.size ≤ A.b9 ∧ w0.heap.size ≤ A.km ∧ w0.heap.size ≤ A.b12 ∧ w0.heap.size ≤ A.gi
section
variable {w0 : World} {A : PA} {s : List UInt8} {st : Int} {pats : List (List UInt8)} {lists : List (List (Int × Int))} {starts owner : List Int} {sa : Option Addr} {sc : Nat} {oa : Option Addr} {oc : Nat} {la : Option Addr} {lc : Nat} {LV : List Value} {D : DataW Unit} {w w' : World}
theorem PMv.below (h : PMv w0 A s st pats lists starts owner sa sc oa oc la lc LV D w) (hb : Below w.heap.size w w') : PMv w0 A s st pats lists starts owner sa sc oa oc la lc LV D w' :=
  have hu : UT (fun _ => False) w w' := UT.below hb
  { bel := h.bel.trans (hb.mono h.bel.size), p8 := h.p8.below hb, pb := h.pb.below hb, fs := h.fs.below hb, fo := h.fo.below hb, so := h.so, oo := h.oo, b9 := h.b9.below hb, fl := h.fl.below hb, lo := h.lo, rw := h.rw.ut hu (fun _ h => h), b10 := h.b10.below hb, gi := h.gi.below hb, b11 := h.b11.below hb, km := map_ut h.km hu (fun _ _ h => h), mok := h.mok, stB := h.stB.below hb, own := h.own }
theorem notTM {t : TypeId} (es : Array MapEntry) (c : Nat) : ¬ ofT t (.map es c) := fun ⟨_, _, e⟩ => by cases e
/-- A pattern more. -/
theorem PMv.putMap (h : PMv w0 A s st pats lists starts owner sa sc oa oc la lc LV D w) {t : List UInt8} (hs : t ∉ pats) (hg : w.grownBy w' (some A.km)) (hm : w'.ownsMap Try.prog 9 (plainElem Try.prog 3) A.km (pats.length + 1) (D.put (.string t) (.lit (.int .i64 (pats.length : Int))))) :
    PMv w0 A s st (pats ++ [t]) lists starts owner sa sc oa oc la lc LV (D.put (.string t) (.lit (.int .i64 (pats.length : Int)))) w' :=
  have hu : UT ofM w w' := UT.grown hg (map_at h.km)
  { bel := h.bel.trans ⟨hg.os, hg.tape, hg.output, hg.size, fun k hk => hg.block k (by have := h.bel.size; omega) (fun e => by cases e; have := h.own.2.2.1; omega)⟩
    p8 := h.p8.ut hu notM, pb := h.pb.ut hu notM, fs := h.fs.ut hu (fun _ => notM), fo := h.fo.ut hu (fun _ => notM), so := h.so, oo := h.oo, b9 := h.b9.ut hu notM, fl := h.fl.ut hu (fun _ => notM), lo := h.lo, rw := h.rw.ut hu (fun _ => notM), b10 := h.b10.ut hu notM, gi := h.gi.ut hu notM, b11 := h.b11.ut hu notM
    km := by rw [List.length_append]; exact hm
    mok := h.mok.put hs, stB := h.stB.ut hu notM, own := h.own }
/-- An empty list more. -/
theorem PMv.appList (h : PMv w0 A s st pats lists starts owner sa sc oa oc la lc LV D w) {la' : Option Addr} {lc' : Nat} (hf : Fl w' 25 la' (lists.length + 1) lc' (LV ++ [.slice none 0 0])) (hu0 : UpdO (blkO la) w w') (hb : blkO la' = blkO la ∨ blkO la' = some w.heap.size) :
    PMv w0 A s st pats (lists ++ [[]]) starts owner sa sc oa oc la' lc' (LV ++ [.slice none 0 0]) D (w'.setCell ⟨A.b9, 0, none⟩ (.slice la' (lists.length + 1) lc')) := by
  have hu : UT (ofT 25) w w' := UT.updO hu0 h.fl.ty
  have h9 := h.b9.ut hu (notT (by decide))
  have hu2 : Upd A.b9 w' (w'.setCell ⟨A.b9, 0, none⟩ (.slice la' (lists.length + 1) lc')) := (Upd.refl A.b9 w').setCell rfl _
  have hv : UT (ofT 118) w' (w'.setCell ⟨A.b9, 0, none⟩ (.slice la' (lists.length + 1) lc')) := UT.upd hu2 h9
  have e1 : (lists ++ [[]]).length = lists.length + 1 := by simp
  exact { bel := (h.bel.trans (hu0.below h.bel.size h.lo)).trans (hu2.below h.own.2.1 (Nat.le_trans h.bel.size hu0.size))
          p8 := (h.p8.ut hu (notT (by decide))).ut hv (notT (by decide)), pb := (h.pb.ut hu (notT (by decide))).ut hv (notT (by decide)), fs := (h.fs.ut hu (fun _ => notT (by decide))).ut hv (fun _ => notT (by decide)), fo := (h.fo.ut hu (fun _ => notT (by decide))).ut hv (fun _ => notT (by decide)), so := h.so, oo := h.oo
          b9 := by rw [e1]; exact h9.set 0 _
          fl := by rw [e1]; exact hf.ut hv (fun _ => notT (by decide))
          lo := fun k hk => by
            rcases hb with h1 | h1
            · exact h.lo k (by rw [← h1]; exact hk)
            · rw [h1] at hk
              cases hk
              exact h.bel.size
          rw := ((h.rw.ut hu (fun _ => notT (by decide))).ut hv (fun _ => notT (by decide))).nil
          b10 := (h.b10.ut hu (notT (by decide))).ut hv (notT (by decide)), gi := (h.gi.ut hu (notT (by decide))).ut hv (notT (by decide)), b11 := (h.b11.ut hu (notT (by decide))).ut hv (notT (by decide)), km := map_ut (map_ut h.km hu notTM) hv notTM, mok := h.mok, stB := (h.stB.ut hu (notT (by decide))).ut hv (notT (by decide)), own := h.own }
/-- A list written anew, and its place in the file. -/
theorem PMv.setRow (h : PMv w0 A s st pats lists starts owner sa sc oa oc la lc LV D w) {b g off : Nat} {v v' : Value} {l' : List (Int × Int)} (hla : la = some ⟨g, off, none⟩) (hv : LV[b]? = some v) (hu0 : UpdO v.ownBlock w w') (ho : w'.ownsRow w0.heap.size 67 2 v' l'.length (l'.flatMap ivC)) (hn : v'.ownBlock = v.ownBlock ∨ ∃ g, v'.ownBlock = some g ∧ w.heap.size ≤ g) :
    PMv w0 A s st pats (lists.set b l') starts owner sa sc oa oc la lc (LV.set b v') D (w'.setCell ⟨g, off + b, none⟩ v') := by
  have hb := (List.getElem?_eq_some_iff.1 hv).1
  have hlb : b < lists.length := by rw [← h.rw.len]; exact hb
  have hrow := h.rw.row b v _ hv (List.getElem?_eq_getElem hlb)
  have hu : UT (ofT 67) w w' := UT.updO hu0 (fun k hk => (own_block hrow k hk).1)
  have hfl := h.fl.ut hu (fun _ => notT (by decide))
  obtain ⟨cs, hbg⟩ : ∃ cs, Blk w' g 25 cs := hfl.ty g (by rw [hla]; rfl)
  have hu2 : Upd g w' (w'.setCell ⟨g, off + b, none⟩ v') := (Upd.refl g w').setCell rfl _
  have hv2 : UT (ofT 25) w' (w'.setCell ⟨g, off + b, none⟩ v') := UT.upd hu2 hbg
  have e1 : (lists.set b l').length = lists.length := by simp
  have hgw : w0.heap.size ≤ g := h.lo g (by rw [hla]; rfl)
  exact { bel := (h.bel.trans (hu0.below h.bel.size (fun k hk => (own_block hrow k hk).2))).trans (hu2.below hgw (Nat.le_trans h.bel.size hu0.size))
          p8 := (h.p8.ut hu (notT (by decide))).ut hv2 (notT (by decide)), pb := (h.pb.ut hu (notT (by decide))).ut hv2 (notT (by decide)), fs := (h.fs.ut hu (fun _ => notT (by decide))).ut hv2 (fun _ => notT (by decide)), fo := (h.fo.ut hu (fun _ => notT (by decide))).ut hv2 (fun _ => notT (by decide)), so := h.so, oo := h.oo
          b9 := by rw [e1]; exact (h.b9.ut hu (notT (by decide))).ut hv2 (notT (by decide))
          fl := by
            rw [e1]
            refine ⟨by rw [List.length_set]; exact hfl.len, hfl.le, hfl.mx, ?_⟩
            rcases hfl.out with ⟨h1, _⟩ | ⟨g', off', ds, h1, h2, h3, h4⟩
            · rw [hla] at h1
              cases h1
            · rw [hla] at h1
              cases h1
              have hle := hfl.le
              refine .inr ⟨g, off, ds.set (off + b) v', hla, h2.set (off + b) v', by simpa using h3, fun i hi => ?_⟩
              by_cases hib : i = b
              · subst hib
                rw [List.getElem?_set_self (by omega), List.getElem?_set_self hb]
              · rw [List.getElem?_set_ne (by omega), List.getElem?_set_ne (fun e => hib e.symm)]
                exact h4 i hi
          lo := h.lo
          rw := (h.rw.put hv hu0 ho hn).ut hv2 (fun _ => notT (by decide))
          b10 := (h.b10.ut hu (notT (by decide))).ut hv2 (notT (by decide)), gi := (h.gi.ut hu (notT (by decide))).ut hv2 (notT (by decide)), b11 := (h.b11.ut hu (notT (by decide))).ut hv2 (notT (by decide)), km := map_ut (map_ut h.km hu notTM) hv2 notTM, mok := h.mok, stB := (h.stB.ut hu (notT (by decide))).ut hv2 (notT (by decide)), own := h.own }
/-- A start more. -/
theorem PMv.appS (h : PMv w0 A s st pats lists starts owner sa sc oa oc la lc LV D w) {x : Int} {sa' : Option Addr} {sc' : Nat} (hf : Fl w' 3 sa' (starts.length + 1) sc' (starts.map iv64 ++ [.int .i64 x])) (hu0 : UpdO (blkO sa) w w') (hb : blkO sa' = blkO sa ∨ blkO sa' = some w.heap.size) :
    PMv w0 A s st pats lists (starts ++ [x]) owner sa' sc' oa oc la lc LV D (w'.setCell ⟨A.pb, 1, none⟩ (.slice sa' (starts.length + 1) sc')) := by
  have hu : UT (ofT 3) w w' := UT.updO hu0 h.fs.ty
  have hp := h.pb.ut hu (notT (by decide))
  have hu2 : Upd A.pb w' (w'.setCell ⟨A.pb, 1, none⟩ (.slice sa' (starts.length + 1) sc')) := (Upd.refl A.pb w').setCell rfl _
  have hv : UT (ofT 117) w' (w'.setCell ⟨A.pb, 1, none⟩ (.slice sa' (starts.length + 1) sc')) := UT.upd hu2 hp
  have e1 : (starts ++ [x]).length = starts.length + 1 := by simp
  exact { bel := (h.bel.trans (hu0.below h.bel.size (fun k hk => (h.so k hk).2.2))).trans (hu2.below h.own.1 (Nat.le_trans h.bel.size hu0.size))
          p8 := (h.p8.ut hu (notT (by decide))).ut hv (notT (by decide)), pb := by rw [e1]; exact hp.set 1 _
          fs := by rw [e1, List.map_append]; exact hf.ut hv (fun _ => notT (by decide))
          fo := (h.fo.updO hu0 (fun k hk e => (h.so k e).1 hk)).ut hv (fun _ => notT (by decide))
          so := fun k hk => by
            rcases hb with h1 | h1
            · exact h.so k (by rw [← h1]; exact hk)
            · rw [h1] at hk
              cases hk
              refine ⟨fun e => ?_, fun e => ?_, h.bel.size⟩
              · obtain ⟨cs, hc⟩ := h.fo.ty _ e
                have := hc.lt
                omega
              · have := h.stB.lt
                omega
          oo := h.oo, b9 := (h.b9.ut hu (notT (by decide))).ut hv (notT (by decide)), fl := (h.fl.ut hu (fun _ => notT (by decide))).ut hv (fun _ => notT (by decide)), lo := h.lo, rw := (h.rw.ut hu (fun _ => notT (by decide))).ut hv (fun _ => notT (by decide))
          b10 := (h.b10.ut hu (notT (by decide))).ut hv (notT (by decide)), gi := (h.gi.ut hu (notT (by decide))).ut hv (notT (by decide)), b11 := (h.b11.ut hu (notT (by decide))).ut hv (notT (by decide)), km := map_ut (map_ut h.km hu notTM) hv notTM, mok := h.mok
          stB := (hu0.blk h.stB (fun e => (h.so _ e).2.1 rfl)).ut hv (notT (by decide)), own := h.own }
/-- An owner more. -/
theorem PMv.appO (h : PMv w0 A s st pats lists starts owner sa sc oa oc la lc LV D w) {x : Int} {oa' : Option Addr} {oc' : Nat} (hf : Fl w' 3 oa' (owner.length + 1) oc' (owner.map iv64 ++ [.int .i64 x])) (hu0 : UpdO (blkO oa) w w') (hb : blkO oa' = blkO oa ∨ blkO oa' = some w.heap.size) :
    PMv w0 A s st pats lists starts (owner ++ [x]) sa sc oa' oc' la lc LV D (w'.setCell ⟨A.pb, 2, none⟩ (.slice oa' (owner.length + 1) oc')) := by
  have hu : UT (ofT 3) w w' := UT.updO hu0 h.fo.ty
  have hp := h.pb.ut hu (notT (by decide))
  have hu2 : Upd A.pb w' (w'.setCell ⟨A.pb, 2, none⟩ (.slice oa' (owner.length + 1) oc')) := (Upd.refl A.pb w').setCell rfl _
  have hv : UT (ofT 117) w' (w'.setCell ⟨A.pb, 2, none⟩ (.slice oa' (owner.length + 1) oc')) := UT.upd hu2 hp
  have e1 : (owner ++ [x]).length = owner.length + 1 := by simp
  have hso : ∀ k, blkO sa = some k → blkO oa ≠ some k := fun k hk => (h.so k hk).1
  exact { bel := (h.bel.trans (hu0.below h.bel.size (fun k hk => (h.oo k hk).2))).trans (hu2.below h.own.1 (Nat.le_trans h.bel.size hu0.size))
          p8 := (h.p8.ut hu (notT (by decide))).ut hv (notT (by decide)), pb := by rw [e1]; exact hp.set 2 _
          fs := (h.fs.updO hu0 (fun k hk e => hso k hk e)).ut hv (fun _ => notT (by decide))
          fo := by rw [e1, List.map_append]; exact hf.ut hv (fun _ => notT (by decide))
          so := fun k hk => by
            refine ⟨fun e => ?_, (h.so k hk).2⟩
            rcases hb with h1 | h1
            · rw [h1] at e
              exact hso k hk e
            · rw [h1] at e
              cases e
              obtain ⟨cs, hc⟩ := h.fs.ty _ hk
              have := hc.lt
              omega
          oo := fun k hk => by
            rcases hb with h1 | h1
            · exact h.oo k (by rw [← h1]; exact hk)
            · rw [h1] at hk
              cases hk
              exact ⟨fun e => by have := h.stB.lt; omega, h.bel.size⟩
          b9 := (h.b9.ut hu (notT (by decide))).ut hv (notT (by decide)), fl := (h.fl.ut hu (fun _ => notT (by decide))).ut hv (fun _ => notT (by decide)), lo := h.lo, rw := (h.rw.ut hu (fun _ => notT (by decide))).ut hv (fun _ => notT (by decide))
          b10 := (h.b10.ut hu (notT (by decide))).ut hv (notT (by decide)), gi := (h.gi.ut hu (notT (by decide))).ut hv (notT (by decide)), b11 := (h.b11.ut hu (notT (by decide))).ut hv (notT (by decide)), km := map_ut (map_ut h.km hu notTM) hv notTM, mok := h.mok
          stB := (hu0.blk h.stB (fun e => (h.oo _ e).1 rfl)).ut hv (notT (by decide)), own := h.own }
end
/-- The blocks of the edges are as they were. -/
def KeepE (w w' : World) : Prop := ∀ (k : Nat) (cs : Array Value) (t : TypeId) (fz : Nat × Nat), (t = 113 ∨ t = 115) → w.heap[k]? = some (Obj.cells cs t fz) → w'.heap[k]? = some (Obj.cells cs t fz)
theorem KeepE.refl (w : World) : KeepE w w := fun _ _ _ _ _ h => h
theorem KeepE.trans {a b c : World} (h : KeepE a b) (k : KeepE b c) : KeepE a c := fun i cs t fz ht hb => k i cs t fz ht (h i cs t fz ht hb)
theorem KeepE.ut {p : Obj → Prop} {w w' : World} (hu : UT p w w') (h1 : ∀ cs fz, ¬ p (.cells cs 113 fz)) (h2 : ∀ cs fz, ¬ p (.cells cs 115 fz)) : KeepE w w' := fun k cs t fz ht hk => hu.block k _ hk (by rcases ht with rfl | rfl; exact h1 cs fz; exact h2 cs fz)
theorem KeepE.below {w w' : World} (h : Below w.heap.size w w') : KeepE w w' := KeepE.ut (p := fun _ => False) (UT.below h) (fun _ _ h => h) (fun _ _ h => h)
theorem Blk.keepE {w w' : World} {g : Nat} {t : TypeId} {cs : List Value} (h : Blk w g t cs) (hk : KeepE w w') (ht : t = 113 ∨ t = 115) : Blk w' g t cs := hk g _ t _ ht h
end Go.Proofs.Qxb6500884a
