/- The barrier: harvestLogs. -/
import Derived.Test.Qxb6500888aBaP1
namespace Go.Proofs.Qxb6500888a
open Go.RowKit
set_option linter.unusedSimpArgs false
set_option linter.unusedVariables false

theorem ent_hlog (args : Array Value) (w : World) : (callFunc 91 args).run Try.prog w = .ok (.enter 91 args) w := by
  simp [callFunc, Try.func91, Try.f91]
def hlogs (G : GS) (hv : Nat → List Nat) (l : List (Nat × Nat)) : Nat → List Nat := l.foldl (hlog G) hv
def hvK (G : GS) (B : BS) (hv : Nat → List Nat) (k : Nat) : Nat → List Nat := (List.range k).foldl (fun h m => hlogs G h (B.logs m)) hv
theorem hvK_s (G : GS) (B : BS) (hv : Nat → List Nat) (k : Nat) : hvK G B hv (k + 1) = hlogs G (hvK G B hv k) (B.logs k) := by
  unfold hvK
  rw [List.range_succ, List.foldl_append]
  rfl
def drK (B : BS) (k : Nat) : BS := { B with logs := fun m => if m < k then [] else B.logs m }
theorem drK_0 (B : BS) : drK B 0 = B := by
  unfold drK
  simp
theorem drK_s (B : BS) (k : Nat) : drB (drK B k) k = drK B (k + 1) := by
  unfold drB drK
  dsimp only
  congr 1
  funext i
  by_cases h : i = k
  · subst h
    rw [fup_self, if_pos (by omega)]
  · rw [fup_ne _ _ h]
    by_cases h2 : i < k
    · rw [if_pos h2, if_pos (by omega)]
    · rw [if_neg h2, if_neg (by omega)]
theorem hlog_len (G : GS) (hv : Nat → List Nat) (p : Nat × Nat) (i : Nat) : (hlog G hv p i).length ≤ (hv i).length + 1 := by
  unfold hlog hlog2 hlog1 hput
  have h1 : ∀ (h : Nat → List Nat) (j x i : Nat), (fup h j (h j ++ [x]) i).length ≤ (h i).length + (if i = j then 1 else 0) := fun h j x i => by
    by_cases e : i = j
    · subst e; rw [fup_self, if_pos rfl]; simp
    · rw [fup_ne _ _ e, if_neg e]; omega
  by_cases a : p.2 = 0
  · rw [if_pos a]
    by_cases b : G.word (offA p.1) = 0
    · rw [if_pos b]; omega
    · rw [if_neg b]
      have := h1 hv 0 (G.word (offA p.1)) i
      split at this <;> omega
  · rw [if_neg a]
    by_cases b : G.word (offA p.1) = 0
    · rw [if_pos b]
      have := h1 hv 1 p.2 i
      split at this <;> omega
    · rw [if_neg b]
      have h2 := h1 hv 1 p.2 i
      have h3 := h1 (fup hv 1 (hv 1 ++ [p.2])) 0 (G.word (offA p.1)) i
      by_cases e0 : i = 0
      · subst e0
        rw [if_pos rfl] at h3
        rw [if_neg (by decide)] at h2
        omega
      · rw [if_neg e0] at h3
        split at h2 <;> omega
theorem hlogs_len (G : GS) : ∀ (l : List (Nat × Nat)) (hv : Nat → List Nat) (i : Nat), (hlogs G hv l i).length ≤ (hv i).length + l.length
  | [], hv, i => by simp [hlogs]
  | p :: l, hv, i => by
    have h1 := hlogs_len G l (hlog G hv p) i
    have h2 := hlog_len G hv p i
    show (hlogs G (hlog G hv p) l i).length ≤ _
    rw [List.length_cons]
    omega
theorem hvK_len (G : GS) (B : BS) (hv : Nat → List Nat) {N : Nat} (hN : ∀ m, (B.logs m).length ≤ N) (i : Nat) : ∀ k, (hvK G B hv k i).length ≤ (hv i).length + k * N
  | 0 => by simp [hvK]
  | k + 1 => by
    rw [hvK_s]
    have h1 := hlogs_len G (B.logs k) (hvK G B hv k) i
    have h2 := hvK_len G B hv hN i k
    have h3 := hN k
    rw [Nat.add_mul, Nat.one_mul]
    omega
section
variable {w w' : World} {ρ ρ' : Rl} {L : GL} {T : BL} {hB : Nat} {V : Nat → Value} {G : GS} {B : BS} {hv : Nat → List Nat}
/-- The harvest of the logs under way. -/
structure HaS (w : World) (ρ : Rl) (L : GL) (bB hB : Nat) (G : GS) (B : BS) (hv : Nat → List Nat) (ph pb : Nat) (pt1 pt2 : TypeId) (T' : BL) (V' : Nat → Value) (ρ' : Rl) (wr : World) : Prop where
  pm : PM wr ρ' L T' hB V' G B hv
  tb : T'.bB = bB
  fr : Fr pX ρ w ρ' wr
  x1 : Box wr ρ' ph pt1 (.pointer (some ⟨hB, 0, none⟩))
  x2 : Box wr ρ' pb pt2 (.pointer (some ⟨bB, 0, none⟩))
theorem HaS.below {bB ph pb : Nat} {pt1 pt2 : TypeId} {T' : BL} {V' : Nat → Value} {wr : World} (h : HaS w ρ L bB hB G B hv ph pb pt1 pt2 T' V' ρ' wr) (hb : Below wr.heap.size wr w') : HaS w ρ L bB hB G B hv ph pb pt1 pt2 T' V' ρ' w' :=
  ⟨h.pm.below hb, h.tb, h.fr.trans (Fr.below hb), h.x1.fr (Fr.below hb : Fr pX ρ' wr ρ' w') rfl, h.x2.fr (Fr.below hb : Fr pX ρ' wr ρ' w') rfl⟩
theorem each_hlog {bB ph pb : Nat} {pt1 pt2 : TypeId} {T' : BL} {V' : Nat → Value} {wr : World} (h : HaS w ρ L bB hB G B hv ph pb pt1 pt2 T' V' ρ' wr) {m : Nat} (hm : m < 4) (hin : ∀ p ∈ B.logs m, 65536 ≤ p.1 ∧ p.1 < 98304) (hl : ∀ i, (hv i).length ≤ 100000000000) (hn : (B.logs m).length ≤ 1000000000) :
    Calls Try.prog 71 #[.pointer (some ⟨bB, 3 + m * 69, none⟩), .func (.func 91) #[] #[.pointer (some ⟨ph, 0, none⟩), .pointer (some ⟨pb, 0, none⟩)]] wr fun e w' => e = .returned (.tuple #[]) ∧ ∃ V2 ρ2, HaS w ρ L bB hB G B (hlogs G hv (B.logs m)) ph pb pt1 pt2 T' V2 ρ2 w' := by
  have hlc := (h.pm.bm.lcells hm).1
  rw [h.tb] at hlc
  have := each_walk (ids := T'.sg m) (lg := B.logs m) 91 #[.pointer (some ⟨ph, 0, none⟩), .pointer (some ⟨pb, 0, none⟩)] bB (3 + m * 69) wr (fun k wk => ∃ V2 ρ2, HaS w ρ L bB hB G B (hlogs G hv ((B.logs m).take k)) ph pb pt1 pt2 T' V2 ρ2 wk) hlc ⟨V', ρ', h⟩ (fun k w1 h1 => by
      obtain ⟨V2, ρ2, h2⟩ := h1
      exact h2.pm.bm.sg m hm (by omega)) (fun k w1 w2 h1 hb => by
      obtain ⟨V2, ρ2, h2⟩ := h1
      exact ⟨V2, ρ2, h2.below hb⟩) (fun k p w1 hp h1 => by
      obtain ⟨V2, ρ2, h2⟩ := h1
      have hpm := List.mem_of_getElem? hp
      have hr := hin p hpm
      have hk := (List.getElem?_eq_some_iff.1 hp).1
      have e1 : (#[.agg #[.int .u64 (p.1 : Int), .int .u64 (p.2 : Int)]] ++ #[.pointer (some ⟨ph, 0, none⟩), .pointer (some ⟨pb, 0, none⟩)] : Array Value) = #[.agg #[.int .u64 (p.1 : Int), .int .u64 (p.2 : Int)], .pointer (some ⟨ph, 0, none⟩), .pointer (some ⟨pb, 0, none⟩)] := rfl
      rw [e1]
      have hx2 := h2.x2
      rw [← h2.tb] at hx2
      refine (hlog_walk h2.pm h2.x1 hx2 p.1 p.2 (offA p.1) (offA_in hr.1) (by have := offA_in hr.1; omega) (fun i _ => ?_)).mono ?_
      · have h3 := hlogs_len G ((B.logs m).take k) hv i
        have h4 := hl i
        have h5 := List.length_take_le k (B.logs m)
        have h6 : ((B.logs m).take k).length ≤ (B.logs m).length := by rw [List.length_take]; omega
        omega
      · rintro e w2 ⟨rfl, V3, ρ3, h3, h4⟩
        refine ⟨rfl, V3, ρ3, ?_, h2.tb, h2.fr.trans h4, h2.x1.fr h4 rfl, h2.x2.fr h4 rfl⟩
        have e2 : (B.logs m).take (k + 1) = (B.logs m).take k ++ [p] := by rw [List.take_add_one, hp]; rfl
        unfold hlogs at h3 ⊢
        rw [e2, List.foldl_append]
        exact h3) (sg_nodup h.pm.bm.nd hm) ent_hlog
  refine this.mono ?_
  rintro e w2 ⟨he, V2, ρ2, h2⟩
  rw [List.take_length] at h2
  exact ⟨he, V2, ρ2, h2⟩
set_option maxRecDepth 1000000 in
set_option maxHeartbeats 8000000 in
theorem harvestLogs_walk (h : PM w ρ L T hB V G B hv) (hin : ∀ m, m < 4 → ∀ p ∈ B.logs m, 65536 ≤ p.1 ∧ p.1 < 98304) (hl : ∀ i, (hv i).length ≤ 1000000000) (hn : ∀ m, (B.logs m).length ≤ 1000000000) :
    Calls Try.prog 73 #[.pointer (some ⟨T.bB, 0, none⟩), .pointer (some ⟨hB, 0, none⟩)] w fun e w' => e = .returned (.tuple #[]) ∧ ∃ T' V' ρ', T'.bB = T.bB ∧ PM w' ρ' L T' hB V' G (drK B 4) (hvK G B hv 4) ∧ Fr pX ρ w ρ' w' := by
  have HH := hid h
  have HIn := hid hin
  have Hl := hid (And.intro hl hn)
  obtain ⟨pb, hpb⟩ : ∃ g, w.heap.size = g := ⟨_, rfl⟩
  obtain ⟨bB, hbB⟩ : ∃ b, T.bB = b := ⟨_, rfl⟩
  have HbB := hid hbB
  rw [hbB]
  clear h hin hl hn hbB
  go_enter Try.func73, Try.ntmps73
  go_upto_region 1 with fail
  obtain ⟨wa, hwa⟩ : ∃ wa, (w.alloc (.cells #[.pointer (some ⟨bB, 0, none⟩)] 50)).alloc (.cells #[.pointer (some ⟨hB, 0, none⟩)] 139) = wa := ⟨_, rfl⟩
  have HS0 : Hid (HaS w ρ L bB hB G (drK B 0) (hvK G B hv 0) (pb + 1) pb 139 50 T V ρ wa) := hid (by
    have hb1 : Below w.heap.size w wa := by rw [← hwa]; exact (nbel w _).trans ((nbel _ _).mono (by simp))
    have hd := HH.out.bm.gm.dom
    have hz : ∀ g, w.heap.size ≤ g → ρ g = 0 := fun g hg => by
      by_cases e : ρ g = 0
      · exact e
      · have := hd g e; omega
    have hs1 : (w.alloc (.cells #[.pointer (some ⟨bB, 0, none⟩)] 50)).heap.size = pb + 1 := by simp [hpb]
    rw [drK_0]
    refine ⟨HH.out.below hb1, HbB.out, Fr.below hb1, ⟨?_, hz _ (by omega)⟩, ⟨?_, hz _ (by omega)⟩⟩
    · rw [← hwa, ← hs1]
      exact Blk.new _ [.pointer (some ⟨hB, 0, none⟩)] _
    · rw [← hwa]
      refine Blk.alloc ?_ _
      rw [← hpb]
      exact Blk.new _ [.pointer (some ⟨bB, 0, none⟩)] _)
  have hsz : (w.alloc (.cells #[.pointer (some ⟨bB, 0, none⟩)] 50)).heap.size = pb + 1 := by simp [hpb]
  (try simp only [hwa, hsz])
  clear hwa hsz HH
  go_wp2_with fail
  go_loopw [6] (fun v wr => ∃ k : Nat, k ≤ 4 ∧ v = .int .i64 (k : Int) ∧ Hid (∃ T' V' ρ', HaS w ρ L bB hB G (drK B k) (hvK G B hv k) (pb + 1) pb 139 50 T' V' ρ' wr)) (fun v _ => 4 - (intOf v).toNat)
  case atStart => exact ⟨0, by omega, rfl, hid ⟨T, V, ρ, HS0.out⟩⟩
  case round =>
    obtain ⟨k, hk, rfl, HS⟩ := hrel
    clear HS0
    obtain ⟨T1, V1, ρ1, hs1⟩ := HS.out
    have HS1 := hid hs1
    clear HS hs1
    by_cases hk4 : k < 4
    · have dk : decide ((k : Int) < 4) = true := decide_eq_true (by omega)
      have ik : (k : Int) < 4 := by omega
      have c1 := HS1.out.x2.cell
      have hlogk : (drK B k).logs k = B.logs k := by show (if k < k then _ else _) = _; rw [if_neg (by omega)]
      have HE := hid (each_hlog HS1.out hk4 (fun p hp => by rw [hlogk] at hp; exact HIn.out k hk4 p hp) (fun i => by
        have h1 := hvK_len G B hv (N := 1000000000) Hl.out.2 i k
        have h2 := Hl.out.1 i
        omega) (by rw [hlogk]; exact Hl.out.2 k))
      rw [hlogk, ← hvK_s] at HE
      have Hk := hid (And.intro hk4 hlogk)
      clear hlogk
      go_wp2_with fail
      refine HE.out.mono ?_
      rintro e2 w2 ⟨rfl, V2, ρ2, hs2⟩
      have HS2 := hid hs2
      clear HE hs2 c1 dk HS1
      obtain ⟨X, W, HTT, H0, hne0, HC⟩ := class_below w2
      have e1 : ∀ y, (W y).cell? ⟨pb, 0, none⟩ = some (.pointer (some ⟨bB, 0, none⟩)) := fun y => (HS2.out.below (HTT.out y)).x2.cell
      go_upto_region 6 with fail
      refine wp_region_class_lastT W rfl (by kernel_rfl) (by kernel_rfl) (by kernel_rfl) H0.out ?_
      dsimp only [List.dropLast]
      repeat (go_big_quiet_step (fail))
      refine wpQuiet_nil ?_
      intro z
      have HS3 := hid (HS2.out.below (HTT.out z))
      generalize W z = wz at HS3 ⊢
      clear e1 H0 HTT HC hne0 HS2
      have HDr := hid (drain_walk HS3.out.pm.bm Hk.out.1)
      rw [HS3.out.tb] at HDr
      go_wp2_with fail
      refine HDr.out.mono ?_
      rintro e4 w4 ⟨rfl, hb4, hf4⟩
      have HS4 : Hid (∃ T' V' ρ', HaS w ρ L bB hB G (drK B (k + 1)) (hvK G B hv (k + 1)) (pb + 1) pb 139 50 T' V' ρ' w4) := hid ⟨drT T1 k, V2, ρ2, by
        rw [drK_s] at hb4
        exact HS3.out.pm.mach hb4 hf4, HS3.out.tb, HS3.out.fr.trans (hf4.mono (fun c => pX_b)), HS3.out.x1.fr hf4 rfl, HS3.out.x2.fr hf4 rfl⟩
      clear hb4 hf4 HDr HS3
      go_wp2
      exact ⟨⟨k + 1, by omega, by go_num, HS4⟩, by simp [intOf]; omega⟩
    · as_aux_lemma =>
      have dk : decide ((k : Int) < 4) = false := decide_eq_false (by omega)
      obtain rfl : k = 4 := by omega
      have HR : Hid (∃ T' V' ρ', T'.bB = bB ∧ PM wr ρ' L T' hB V' G (drK B 4) (hvK G B hv 4) ∧ Fr pX ρ w ρ' wr) := hid ⟨T1, V1, ρ1, HS1.out.tb, HS1.out.pm, HS1.out.fr⟩
      clear HS1
      go_wp2
      exact bodyPost_end (v := .tuple #[]) (by simp [results, Try.results73, go_sem]) rfl ⟨rfl, HR.out⟩
end
end Go.Proofs.Qxb6500888a
