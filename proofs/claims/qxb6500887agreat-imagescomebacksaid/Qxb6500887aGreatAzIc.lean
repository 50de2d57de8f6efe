/- Images: AppendImage. -/
import Derived.Test.Qxb6500887aGreatAzIb
import Derived.Test.Qxb6500887aGreatAzLc
import Derived.Deep.DeepCutAuto
import Derived.Great.BuildSlice
namespace Go.Proofs.Qxb6500887aGreat
open Go.RowKit
set_option linter.unusedSimpArgs false
set_option linter.unusedVariables false
def rtU : RK Nat := ⟨29, 53, 1, 8, fun x => [.int .u64 (x : Int)]⟩
theorem okU : RKok Tryz.prog rtU := ⟨Tryz.underlying53, info_of' (z := .int .u64 0) (by kernel_rfl) rfl, by decide, by decide, fun _ => rfl, fun x u hu => by simp [rtU] at hu; subst hu; rfl⟩
theorem flat_u : ∀ (ys : List Nat), ys.flatMap rtU.f = ys.map (fun x => Value.int .u64 ((x : Nat) : Int))
  | [] => rfl
  | y :: ys => by rw [List.flatMap_cons, flat_u ys]; rfl
def fnL (n : Nat) (f : Nat → Nat) : List Nat := (List.range n).map f
theorem fnL_len (n : Nat) (f : Nat → Nat) : (fnL n f).length = n := by simp [fnL]
theorem fnL_get {n : Nat} (f : Nat → Nat) {i : Nat} (h : i < n) : (fnL n f)[i]? = some (f i) := by simp [fnL, h]
section
variable {w w' w0 : World} {t b n wd per len g off cap n0 : Nat} {X Y : Nat → Nat} {l : AL} {S : AS} {v v' : Value} {xs ys : List Nat}
theorem news_of (hw : WSl w g off n X) : ∀ ad, some (⟨g, off, none⟩ : Addr) = some ad → ∀ j u, ((fnL n X).flatMap rtU.f)[j]? = some u → w.cell? (ad.add j) = some u := by
  intro ad e j u hu
  injection e with e
  subst e
  rw [flat_u, List.getElem?_map] at hu
  by_cases c : j < n
  · rw [fnL_get _ c] at hu
    injection hu with hu
    rw [← hu, addr_add]
    exact hw j c
  · rw [List.getElem?_eq_none (by rw [fnL_len]; omega)] at hu
    cases hu
theorem TB.wsl (h : TB t b n wd per len X w) : WSl w b 0 len X := fun i hi => by
  rw [Nat.zero_add]
  exact h.word hi
theorem AM.wsl (h : AM l S w) : WSl w l.w 0 32768 S.W := fun i hi => by
  rw [Nat.zero_add]
  exact h.word hi
set_option maxRecDepth 100000 in
set_option maxHeartbeats 1000000 in
theorem TB.appendImage (h : TB t b n wd per len X w) (hr : OwR rtU n0 w v xs) (hn0 : n0 ≤ w.heap.size) (hsz : xs.length + len ≤ 100000) : Calls Tryz.prog 133 #[.pointer (some ⟨t, 0, none⟩), v] w fun e w' => ∃ v', e = .returned v' ∧ Hid (OwR rtU n0 w' v' (xs ++ fnL len X) ∧ Kep w v w') := by
  obtain ⟨a, q, rfl⟩ := hr.shape
  obtain ⟨m, hm⟩ : ∃ m, xs.length = m := ⟨_, rfl⟩
  rw [hm]
  rw [hm] at hr hsz
  have HX := hid h
  have HR := hid hr
  have Hm := hid hm
  obtain ⟨a0, _, _, _, _, _⟩ := h.cells
  clear h hr hm
  go_enter Tryz.func133, Tryz.ntmps133
  go_wp2_with (at_builtin; refine stopHere ?_)
  intro _
  apply wpList_app_l (P := Tryz.prog) (K := rtU) (n0 := n0) (w := w) (v := .slice a m q) (xs := xs) okU (s := .tmp 5) (x := .tmp 9) (ys := fnL len X) (ax := some ⟨b, 0, none⟩) (n := len) (k := len)
  · rfl
  · exact HR.out
  · rfl
  · rfl
  · rfl
  · exact fnL_len _ _
  · exact (fun h => by cases h)
  · exact news_of HX.out.wsl
  · show (xs.length + len) * 8 ≤ _
    rw [Hm.out]
    omega
  · exact hn0
  intro v9 w9 hr9 hk9 hg9
  have HF : Hid (OwR rtU n0 w9 v9 (xs ++ fnL len X) ∧ Kep w (.slice a m q) w9) := hid ⟨hr9.out, hk9.out⟩
  clear hr9 hk9 hg9 HX HR
  go_wp2
  go_ret
  exact ⟨v9, rfl, HF⟩
/-- Inside AppendImage. -/
structure AI (w0 : World) (l : AL) (S : AS) (v : Value) (xs : List Nat) (w : World) : Prop where
  am : AM l S w
  bel : Below w0.heap.size w0 w
  row : OwR rtU w0.heap.size w v xs
  lt : ∀ g ∈ l.all, g < w0.heap.size
theorem AI.below (h : AI w0 l S v xs w) (hb : Below w.heap.size w w') : AI w0 l S v xs w' := ⟨h.am.below hb, h.bel.trans (hb.mono h.bel.size), h.row.below hb, h.lt⟩
theorem AI.app (h : AI w0 l S v xs w) (hk : Kep w v w') (hr : OwR rtU w0.heap.size w' v' ys) : AI w0 l S v' ys w' :=
  ⟨h.am.of (fun g hg hlt => hk.blk g hlt (fun g' hg' e => by have h1 := h.row.hi g' hg'; have h2 := h.lt g hg; omega)), h.bel.trans (hk.below h.row.hi h.bel.size), hr, h.lt⟩
def tabsL (S : AS) : Nat → List Nat
  | 0 => []
  | j + 1 => tabsL S j ++ fnL (tLn j) (S.tX j)
def preL (S : AS) : List Nat := [5501237299694953838, 1, 32768] ++ fnL 32768 S.W
def bodyL (S : AS) (j : Nat) : List Nat := preL S ++ tabsL S j
theorem tabsL_len (S : AS) : ∀ {j : Nat}, j ≤ 4 → (tabsL S j).length = tO j
  | 0, _ => rfl
  | j + 1, h => by
    show (tabsL S j ++ fnL (tLn j) (S.tX j)).length = _
    rw [List.length_append, tabsL_len S (by omega), fnL_len, tO_step (by omega)]
theorem bodyL_len (S : AS) {j : Nat} (h : j ≤ 4) : (bodyL S j).length = 32771 + tO j := by
  unfold bodyL preL
  rw [List.length_append, List.length_append, fnL_len, tabsL_len S h]
  rfl
/-- The image: its body and the checksum. -/
def bdX (S : AS) : Nat → Nat := fun i => (bodyL S 4).getD i 0
def imX (S : AS) : Nat → Nat := fun i => if i = 34179 then ckN (bdX S) 34179 else bdX S i
theorem OwR.wsl {m : Nat} (h : OwR rtU n0 w (.slice (some ⟨g, off, none⟩) m cap) xs) (hx : xs.length = m) : off = 0 ∧ WSl w g 0 m (fun i => xs.getD i 0) := by
  obtain ⟨h1, h2⟩ := h
  rcases h2 with ⟨e, _⟩ | ⟨g', cap', cur, e, e1, e2, e3, e4, e5, e6⟩
  · cases e
  · injection e with ea eb ec
    injection ea with ea
    injection ea with eg eo
    subst eg eo
    refine ⟨rfl, fun i hi => ?_⟩
    rw [Nat.zero_add]
    have hb : Blk w g 29 cur.toList := by unfold Blk; exact e2
    rw [hb.cell i]
    have : (cur.toList.take (xs.length * rtU.n))[i]? = (xs.flatMap rtU.f)[i]? := by rw [e6]
    rw [List.getElem?_take, if_pos (show i < xs.length * rtU.n by show i < xs.length * 1; omega), flat_u, List.getElem?_map] at this
    rw [this, List.getElem?_eq_getElem (show i < xs.length by omega)]
    simp [List.getD, List.getElem?_eq_getElem (show i < xs.length by omega)]
end
end Go.Proofs.Qxb6500887aGreat
