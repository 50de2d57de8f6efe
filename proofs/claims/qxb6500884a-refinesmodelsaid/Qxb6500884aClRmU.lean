/- The model's Minterms: the walk. -/
import Derived.Test.Qxb6500884aClRmT
import Derived.Test.Qxb6500884aClEdg
import Derived.Deep.DeepCutAuto
namespace Go.Proofs.Qxb6500884a
open Go.RowKit Go.Maps Go.WideMaps
set_option linter.unusedSimpArgs false
set_option linter.unusedVariables false

def byP (pat : List UInt8) (i : Nat) : List UInt8 := pat.take i ++ List.replicate (pat.length - i) 0
theorem byP_zero (pat : List UInt8) : byP pat 0 = List.replicate pat.length 0 := by simp [byP]
theorem byP_all {pat : List UInt8} {i : Nat} (h : pat.length ≤ i) : byP pat i = pat := by unfold byP; rw [List.take_of_length_le h, show pat.length - i = 0 by omega]; simp
theorem byP_same {pat : List UInt8} {i : Nat} (h : pat[i]? = some 0) : byP pat i = byP pat (i + 1) := by
  have hl := (List.getElem?_eq_some_iff.1 h).1
  unfold byP
  obtain ⟨m, hm⟩ : ∃ m, pat.length - i = m + 1 := ⟨pat.length - i - 1, by omega⟩
  rw [hm, show pat.length - (i + 1) = m by omega, List.take_add_one, h, List.replicate_succ]
  simp
theorem byP_set {pat : List UInt8} {i : Nat} {v : UInt8} (h : pat[i]? = some v) : ((byP pat i).map byV).set i (byV v) = (byP pat (i + 1)).map byV := by
  have hl := (List.getElem?_eq_some_iff.1 h).1
  rw [← List.map_set]
  congr 1
  unfold byP
  obtain ⟨m, hm⟩ : ∃ m, pat.length - i = m + 1 := ⟨pat.length - i - 1, by omega⟩
  rw [hm, show pat.length - (i + 1) = m by omega, List.take_add_one, h, List.replicate_succ, List.set_append_right _ _ (by rw [List.length_take]; omega), List.length_take, show i - min i pat.length = 0 by omega, List.set_cons_zero]
  simp
theorem byP_len {pat : List UInt8} {i : Nat} (h : i ≤ pat.length) : (byP pat i).length = pat.length := by unfold byP; simp; omega
/-- What the model's Minterms leaves. -/
structure MMinP (G : List (Nat × (Nat → Bool))) (w : World) (e : Ending) (w' : World) : Prop where
  out : ∃ pa pc Q, e = .returned (.slice pa (Q : List Nat).length pc) ∧ Fl w' 35 pa Q.length pc (Q.map (slV 196608)) ∧ (∀ b q, Q[b]? = some q → Blk w' q 4 (tabL (FM (patM G) 196608 b))) ∧ Q.length = (mpats (patM G) 196608).length ∧ (∀ g, blkO pa = some g → w.heap.size ≤ g)
  bel : Below w.heap.size w w'
set_option maxRecDepth 100000 in
set_option maxHeartbeats 4000000 in
theorem mmint_walk (fa : Option Addr) (fn fc : Nat) (G : List (Nat × (Nat → Bool))) (w : World) (hF : Fl w 35 fa fn fc (G.map stV)) (hT : ∀ p ∈ G, Blk w p.1 4 (tabL p.2)) (hn : fn ≤ 65536) :
    Calls Try.prog 64 #[.slice fa fn fc] w fun e w' => MMinP G w e w' := by
  have HF := hid hF
  have HTb := hid hT
  have hGl : G.length = fn := by have := hF.len; simpa using this
  have HGl := hid hGl
  obtain ⟨pat, hpat⟩ : ∃ pat, patM G = pat := ⟨_, rfl⟩
  have Hpl : Hid (∀ x, (pat x).length = fn) := hid (fun x => by rw [← hpat]; unfold patM; rw [List.length_map]; exact hGl)
  have Hpa := hid hpat
  clear hF hT hGl hpat
  have hmm := @run_makeMap Try.prog
  obtain ⟨km, hkm⟩ : ∃ km, w.heap.size = km := ⟨_, rfl⟩
  have HM0 := hid (MTs.start w (FM pat 0) hkm)
  go_enter Try.func64, Try.ntmps64
  go_upto_region 4 with fail
  generalize w.alloc (.map #[] 0) = w1 at HM0 ⊢
  clear hmm hkm
  go_loopw [3, 5] (fun v i wr => ∃ (c : Nat) (pa : Option Addr) (pn pc : Nat), c ≤ 196608 ∧ i = .int .i64 c ∧ v = .slice pa pn pc ∧ Hid (∃ Q D, Q.length = pn ∧ (mpats pat c).length = pn ∧ MTs w km pa pc (mpats pat c) Q (FM pat c) D wr)) (fun _ i _ => 196608 - (intOf i).toNat)
  case atStart => exact ⟨0, none, 0, 0, Nat.zero_le _, rfl, rfl, hid ⟨[], .map [], rfl, by rw [mpats_zero]; rfl, by rw [mpats_zero]; exact HM0.out⟩⟩
  case round =>
  clear HM0
  obtain ⟨c, pa, pn, pc, hc, rfl, rfl, HX⟩ := hrel
  obtain ⟨Q, D, hQn, hpn, hms⟩ := HX.out
  have HM := hid hms
  have HQn := hid hQn
  have HPn := hid hpn
  have hpnc : pn ≤ c := by rw [← hpn]; exact mpats_len pat c
  clear hms hQn hpn HX
  by_cases hlt : c < 196608
  rotate_left
  · as_aux_lemma =>
    have dk : decide ((c : Int) ≤ 196607) = false := decide_eq_false (by omega)
    have hc2 : c = 196608 := by omega
    subst hc2
    go_wp2
    go_ret
    exact ⟨⟨pa, pc, Q, by rw [HQn.out]; rfl, HM.out.fl, fun b q hq => by rw [Hpa.out]; exact HM.out.tabs b q hq, by rw [Hpa.out, HPn.out, HQn.out], HM.out.lo⟩, HM.out.bel⟩
  as_aux_lemma =>
  have dk : decide ((c : Int) ≤ 196607) = true := decide_eq_true (by omega)
  have ic : (c : Int) < 196608 := by omega
  have hmk := make_u8 fn (by omega)
  obtain ⟨gb, hgb⟩ : ∃ gb, wr.heap.size = gb := ⟨_, rfl⟩
  obtain ⟨Z, hZ⟩ : ∃ Z, (List.replicate fn (0 : UInt8)).map byV = Z := ⟨_, rfl⟩
  rw [hZ] at hmk
  have HB0 : Hid (Below wr.heap.size wr (wr.alloc (.cells Z.toArray 5)) ∧ Blk (wr.alloc (.cells Z.toArray 5)) gb 5 ((byP (pat c) 0).map byV)) := hid ⟨nbel wr _, by
    have hb := Blk.new wr Z 5
    rw [hgb] at hb
    rw [byP_zero, Hpl.out, hZ]
    exact hb⟩
  have Hgb := hid (Nat.le_of_eq hgb)
  obtain ⟨wA, hwA⟩ : ∃ wA, wA = wr := ⟨_, rfl⟩
  go_upto_region 8 with fail
  clear hZ
  generalize wr.alloc (.cells Z.toArray 5) = w2 at HB0 ⊢
  rw [← hwA] at HB0 HM Hgb
  clear hmk dk hgb hwA
  go_loopw [21] (fun i wr2 => ∃ (k : Nat), k ≤ fn ∧ i = .int .i64 k ∧ Hid (Below wA.heap.size wA wr2 ∧ Blk wr2 gb 5 ((byP (pat c) k).map byV))) (fun i _ => fn - (intOf i).toNat)
  case atStart => exact ⟨0, Nat.zero_le _, rfl, HB0⟩
  case round =>
  clear HB0
  obtain ⟨k, hk, rfl, HB⟩ := hrel
  by_cases hltk : k < fn
  · as_aux_lemma =>
    have dk : decide ((k : Int) < (fn : Int)) = true := decide_eq_true (by omega)
    have ik : (k : Int) < (fn : Int) := by omega
    obtain ⟨p, hp⟩ : ∃ p, G[k]? = some p := ⟨G[k]'(by rw [HGl.out]; exact hltk), List.getElem?_eq_getElem _⟩
    have HBw : Hid (Below w.heap.size w wr) := hid (HM.out.bel.trans (HB.out.1.mono HM.out.bel.size))
    obtain ⟨gf, of', hfa, cf⟩ := (HF.out.below HBw.out).cell hltk
    subst hfa
    have cf' : wr.cell? ⟨gf, of' + k, none⟩ = some (.slice (some ⟨p.1, 0, none⟩) 196608 196608) := by rw [cf, List.getElem?_map, hp]; rfl
    obtain ⟨B, hB⟩ : ∃ B, p.2 c = B := ⟨_, rfl⟩
    have cp : wr.cell? ⟨p.1, c, none⟩ = some (.bool B) := by rw [((HTb.out p (List.mem_of_getElem? hp)).below HBw.out).cell, tabL_get _ hlt, hB]
    have hpk : (pat c)[k]? = some (if B = true then 1 else 0) := by rw [← Hpa.out]; unfold patM; rw [List.getElem?_map, hp, ← hB]; rfl
    have Hpk := hid hpk
    clear hp cf hB hpk
    cases B with
    | true =>
      have cb : wr.cell? ⟨gb, k, none⟩ = some (.int .u8 ((byP (pat c) k).getD k 0).toNat) := by
        rw [HB.out.2.cell, List.getElem?_map, List.getD_eq_getElem?_getD]
        have hl : k < (byP (pat c) k).length := by rw [byP_len (by rw [Hpl.out]; omega), Hpl.out]; exact hltk
        rw [List.getElem?_eq_getElem hl]
        rfl
      have fb := HB.out.2.frozen k
      have HB2 : Hid (Below wA.heap.size wA (wr.setCell ⟨gb, k, none⟩ (.int .u8 1)) ∧ Blk (wr.setCell ⟨gb, k, none⟩ (.int .u8 1)) gb 5 ((byP (pat c) (k + 1)).map byV)) := hid ⟨HB.out.1.trans (((Upd.refl gb wr).setCell rfl _).below Hgb.out HB.out.1.size), by
        have h := HB.out.2.set k (byV 1)
        rw [byP_set (by have := Hpk.out; rw [if_pos rfl] at this; exact this)] at h
        exact h⟩
      go_wp2
      exact ⟨⟨k + 1, by omega, by go_num, HB2⟩, by simp [intOf]; omega⟩
    | false =>
      have HB2 : Hid (Below wA.heap.size wA wr ∧ Blk wr gb 5 ((byP (pat c) (k + 1)).map byV)) := hid ⟨HB.out.1, by rw [← byP_same (by have := Hpk.out; rw [if_neg (by decide)] at this; exact this)]; exact HB.out.2⟩
      go_wp2
      exact ⟨⟨k + 1, by omega, by go_num, HB2⟩, by simp [intOf]; omega⟩
  as_aux_lemma =>
  have dk : decide ((k : Int) < (fn : Int)) = false := decide_eq_false (by omega)
  obtain ⟨s, hs⟩ : ∃ s, pat c = s := ⟨_, rfl⟩
  have hsl : s.length = fn := by rw [← hs]; exact Hpl.out c
  have hbs : Blk wr gb 5 (s.map byV) := by
    have h := HB.out.2
    rw [hs, byP_all (by omega)] at h
    exact h
  have HMr := hid (HM.out.below HB.out.1)
  have hcells : ∀ j (hj : j < s.length), wr.cell? ((⟨gb, 0, none⟩ : Addr).add j) = some (.int .u8 (s[j].toNat : Int)) := fun j hj => by
    rw [Addr.add_lit, Nat.zero_add, hbs.cell, List.getElem?_map, List.getElem?_eq_getElem hj]
    rfl
  have hcv := run_convert_bytes_back (P := Try.prog) wr 119 9 5 ⟨gb, 0, none⟩ s.length s Try.underlying119 Try.underlying5 Try.underlying9 hcells
  have hkey : keyOf Try.prog 9 (.string ⟨s.toArray⟩) = some (.string s) := by
    simpa using keyOf_string_mk (P := Try.prog) Try.underlying9 (s := ⟨s.toArray⟩) (by simp [ByteArray.size]; unfold maxLen; omega)
  have HKm := hid HMr.out.kmp
  obtain ⟨bx, hbx⟩ : ∃ bx : ByteArray, (⟨s.toArray⟩ : ByteArray) = bx := ⟨_, rfl⟩
  rw [hbx] at hcv hkey
  rw [hsl] at hcv
  have Hkey := hid hkey
  have Hs := hid hs
  have Hsl := hid hsl
  clear hcells hkey hbx hs hsl hbs HM
  go_upto_region 14 with (at_lookup; refine wpList_lookup_own_ok_int _ rfl _ _ 120 rfl 9 3 .i64 lawS Try.underlying120 Try.underlying3 (zeroI _) km _ D rfl HKm.out _ _ rfl Hkey.out ?_; intro cc hat hwc; have Hat := hid hat; clear hat hwc)
  obtain ⟨B, hB⟩ : ∃ B, has D (Lit.string s) = B := ⟨_, rfl⟩
  try rw [hB]
  try simp only [hB]
  have HBv := hid hB
  clear hB dk
  by_cases hseen : s ∈ mpats pat c
  · as_aux_lemma =>
    obtain ⟨b, hb⟩ := List.mem_iff_getElem?.1 hseen
    obtain ⟨h1, h2⟩ := HMr.out.mok.yes s b hb
    have hcc : cc = (b : Int) := by have h3 := Hat.out; rw [h2] at h3; injection h3 with h3; injection h3 with _ h3; exact h3.symm
    subst hcc
    have hBt : B = true := by rw [← HBv.out]; exact h1
    subst hBt
    have hbl : b < pn := by rw [← HPn.out]; exact (List.getElem?_eq_some_iff.1 hb).1
    have ib : (b : Int) < (pn : Int) := by omega
    obtain ⟨q, hq⟩ : ∃ q, Q[b]? = some q := ⟨Q[b]'(by rw [HQn.out]; exact hbl), List.getElem?_eq_getElem _⟩
    obtain ⟨gp, op, hpa2, cp⟩ := HMr.out.fl.cell (i := b) (by rw [HQn.out]; exact hbl)
    subst hpa2
    have cp' : wr.cell? ⟨gp, op + b, none⟩ = some (.slice (some ⟨q, 0, none⟩) 196608 196608) := by rw [cp, List.getElem?_map, hq]; rfl
    have hqb := HMr.out.tabs b q hq
    have cq : wr.cell? ⟨q, c, none⟩ = some (.bool (FM pat c b c)) := by rw [hqb.cell, tabL_get _ hlt]
    have fq := hqb.frozen c
    have HM2 : Hid (∃ Q D, Q.length = pn ∧ (mpats pat (c + 1)).length = pn ∧ MTs w km (some ⟨gp, op, none⟩) pc (mpats pat (c + 1)) Q (FM pat (c + 1)) D (wr.setCell ⟨q, c, none⟩ (.bool true))) := hid ⟨Q, D, HQn.out, by rw [mpats_seen (by rw [Hs.out]; exact hseen)]; exact HPn.out, by
      rw [mpats_seen (by rw [Hs.out]; exact hseen)]
      exact (HMr.out.set hq hlt).ext (fun j i _ _ => FM_seen (by rw [Hs.out]; exact hb) j i)⟩
    clear hq hqb cp h1 h2 hb
    try simp only [Bool.not_true]
    go_wp2
    exact ⟨⟨c + 1, some ⟨gp, op, none⟩, pn, pc, by omega, by go_num, rfl, HM2⟩, by simp [intOf]; omega⟩
  as_aux_lemma =>
  have h1 := HMr.out.mok.no s hseen
  have hBf : B = false := by rw [← HBv.out]; exact h1
  subst hBf
  have hwf : (Lit.int .i64 (pn : Int)).wf = true := by rw [lit_wf64]; omega
  have hmx : (mpats pat c).length < maxLen := by rw [HPn.out]; unfold maxLen; omega
  have HEl := hid (plainElem_int (H := Unit) Try.underlying3 hwf)
  clear h1
  try simp only [Bool.not_false]
  go_upto_region 17 with (at_mapUpdate; refine wpList_mapUpdate_own _ rfl _ _ _ 120 rfl 9 3 lawS Try.underlying120 _ km _ _ rfl HKm.out hmx _ _ _ rfl rfl Hkey.out _ [] HEl.out ?_; intro w3 hm3 hg3; have HM3 := hid hm3; have HG3 := hid hg3; clear hm3 hg3)
  have HMp : Hid (MTs w km pa pc (mpats pat c ++ [s]) Q (FM pat c) (D.put (.string s) (.lit (.int .i64 (pn : Int)))) w3) := hid (by
    have h := HMr.out.putMap (t := s) hseen HG3.out (by rw [HPn.out] at *; exact HM3.out)
    rw [HPn.out] at h
    exact h)
  clear HM3 HG3 hcv HKm HMr
  obtain ⟨g, hg⟩ : ∃ g, w3.heap.size = g := ⟨_, rfl⟩
  have HNn := hid (none_walk w3)
  have HM4 : Hid (MTs w km pa pc (mpats pat c ++ [s]) Q (FM pat c) (D.put (.string s) (.lit (.int .i64 (pn : Int)))) (w3.alloc (.cells (tabL fun _ => false).toArray 4)) ∧ Blk (w3.alloc (.cells (tabL fun _ => false).toArray 4)) g 4 (tabL fun _ => false) ∧ w.heap.size ≤ g ∧ g ∉ Q) := hid ⟨HMp.out.below (nbel w3 _), by have := Blk.new w3 (tabL fun _ => false) 4; rw [hg] at this; exact this, by rw [← hg]; exact HMp.out.bel.size, fun hm => by
    obtain ⟨j, hj⟩ := List.mem_iff_getElem?.1 hm
    have := (HMp.out.tabs j g hj).lt
    omega⟩
  rw [hg] at HNn
  obtain ⟨i0, hi, hz0, hz1, hz2⟩ := info_set
  have HI := hid (And.intro hi (And.intro hz0 (And.intro hz1 hz2)))
  clear hi hz0 hz1 hz2
  go_wp2_with fail
  refine (HNn.out).mono ?_
  rintro e w4 ⟨rfl, rfl⟩
  generalize w3.alloc (.cells (tabL fun _ => false).toArray 4) = w4 at HM4 ⊢
  clear HMp HNn
  obtain ⟨g5, hg5⟩ : ∃ g5, w4.heap.size = g5 := ⟨_, rfl⟩
  have HM5 : Hid (MTs w km pa pc (mpats pat c ++ [s]) Q (FM pat c) (D.put (.string s) (.lit (.int .i64 (pn : Int)))) (w4.alloc (.cells #[.slice (some ⟨g, 0, none⟩) 196608 196608] 35))) := hid (HM4.out.1.below (nbel w4 _))
  have HG5 : Hid (Blk (w4.alloc (.cells #[.slice (some ⟨g, 0, none⟩) 196608 196608] 35)) g 4 (tabL fun _ => false)) := hid (HM4.out.2.1.below (nbel w4 _))
  have HF5 : Hid (Fl (w4.alloc (.cells #[.slice (some ⟨g, 0, none⟩) 196608 196608] 35)) 35 pa pn pc (Q.map (slV 196608))) := hid (by have h := HM5.out.fl; rw [HQn.out] at h; exact h)
  have Hcg : Hid ((w4.alloc (.cells #[.slice (some ⟨g, 0, none⟩) 196608 196608] 35)).cell? ⟨g5, 0, none⟩ = some (.slice (some ⟨g, 0, none⟩) 196608 196608)) := hid (by
    have hb := Blk.new w4 [.slice (some ⟨g, 0, none⟩) 196608 196608] 35
    rw [hg5] at hb
    exact hb.cell 0)
  have hby : (pn + 1) * 24 ≤ 140737488355328 := by omega
  have HFin : Hid (∀ (a6 : Option Addr) (c6 : Nat) (w6 : World), Fl w6 35 a6 (pn + 1) c6 (Q.map (slV 196608) ++ [.slice (some ⟨g, 0, none⟩) 196608 196608]) → UpdO (blkO pa) (w4.alloc (.cells #[.slice (some ⟨g, 0, none⟩) 196608 196608] 35)) w6 → (blkO a6 = blkO pa ∨ blkO a6 = some (w4.alloc (.cells #[.slice (some ⟨g, 0, none⟩) 196608 196608] 35)).heap.size) → ∃ gp op, a6 = some ⟨gp, op, none⟩ ∧ w6.cell? ⟨gp, op + pn, none⟩ = some (.slice (some ⟨g, 0, none⟩) 196608 196608) ∧ w6.cell? ⟨g, c, none⟩ = some (.bool false) ∧ w6.frozen? ⟨g, c, none⟩ = false ∧ Hid (∃ Q D, Q.length = pn + 1 ∧ (mpats pat (c + 1)).length = pn + 1 ∧ MTs w km a6 c6 (mpats pat (c + 1)) Q (FM pat (c + 1)) D (w6.setCell ⟨g, c, none⟩ (.bool true)))) := hid (fun a6 c6 w6 hf hu hb => by
    have hm6 := HM5.out.app HG5.out HM4.out.2.2.1 HM4.out.2.2.2 (by rw [HQn.out]; exact hf) hu hb
    obtain ⟨gp, op, h1, h2⟩ := hf.cell (i := pn) (by omega)
    have hql : (Q ++ [g])[pn]? = some g := by rw [← HQn.out]; simp
    have hgb := hm6.tabs pn g hql
    have hnew : mpats pat (c + 1) = mpats pat c ++ [s] := by rw [mpats_new (by rw [Hs.out]; exact hseen), Hs.out]
    refine ⟨gp, op, h1, by rw [h2, List.getElem?_append_right (by rw [List.length_map, HQn.out]; exact Nat.le_refl _), List.length_map, HQn.out, Nat.sub_self]; rfl, by rw [hgb.cell, tabL_get _ hlt, if_neg (by rw [HQn.out]; omega)], hgb.frozen c, hid ⟨Q ++ [g], D.put (.string s) (.lit (.int .i64 (pn : Int))), by rw [List.length_append, HQn.out]; rfl, by rw [hnew, List.length_append, HPn.out]; rfl, ?_⟩⟩
    rw [hnew]
    refine (hm6.set hql hlt).ext (fun j i hj hi => ?_)
    have h5 := FM_new (pat := pat) (c := c) (by rw [Hs.out]; exact hseen) (j := j) (by rw [HPn.out]; rw [List.length_append, HQn.out] at hj; simp at hj; omega) i
    rw [HPn.out] at h5
    rw [HQn.out]
    exact h5)
  have ipn : (pn : Int) < (pn : Int) + 1 := by omega
  clear HM4 HM5 HG5
  go_upto_region 18 with (at_builtin; refine wpList_append_file rfl (.tmp 49) (.tmp 51) 57 rfl 35 i0 (.slice none 0 0) 24 Try.underlying57 HI.out.1 HI.out.2.1 HI.out.2.2.1 HI.out.2.2.2 rfl pa pn pc _ rfl HF5.out g5 1 (.slice (some ⟨g, 0, none⟩) 196608 196608) rfl Hcg.out rfl hby (by decide) ?_; intro a6 c6 w6 hf6 hu6 hb6 hn6; obtain ⟨gp, op, ha6, ce6, cg6, fg6, HM6⟩ := HFin.out a6 c6 w6 hf6 hu6 hb6; clear hf6 hu6 hb6 hn6; subst ha6)
  clear HFin HF5 Hcg
  go_wp2
  exact ⟨⟨c + 1, _, pn + 1, c6, by omega, by go_num, rfl, HM6⟩, by simp [intOf]; omega⟩
end Go.Proofs.Qxb6500884a
