/- sort.Slice(edges, func(i, j int) bool { return edges[i].at < edges[j].at }): made from ClSort, at the edges' types. -/
import Derived.Test.Qxb6500884aClSort
namespace Go.Proofs.Qxb6500884a
open Go.Shelf Go.RowKit Go.Lib Go.Sort
set_option linter.unusedSimpArgs false
set_option linter.unusedVariables false
noncomputable def svTE : TypeInfo := (Try.prog.info? 113).get (by kernel_rfl)
noncomputable def svEE : TypeInfo := (Try.prog.info? 115).get (by kernel_rfl)
theorem svKE (n : Nat) (h2 : 2 ≤ n) : Lib.swapperK n svEE 25 = 9 := by
  have a : svEE.hasPointers = false := by kernel_rfl
  have b : svEE.bytes = 16 := by kernel_rfl
  have c : (n == 0) = false := by simp; omega
  have d : (n == 1) = false := by simp; omega
  simp [Lib.swapperK, a, b, c, d]
set_option maxHeartbeats 2000000 in
theorem less_walkE (blk off c Bs size : Nat) (W : World) (G : Nat → Int) (hs : W.cell? ⟨Bs, 0, none⟩ = some (.slice (some ⟨blk, off, none⟩) size c))
    (hc : ∀ t, t < size → W.cell? ⟨blk, off + t * 2, none⟩ = some (.int .i64 (G t))) (i j : Nat) (hi : i < size) (hj : j < size) (_hsz : size < 4611686018427387904) :
    Calls Try.prog 86 #[.int .i64 i, .int .i64 j, .pointer (some ⟨Bs, 0, none⟩)] W fun e w' => e = .returned (.bool (decide (G i < G j))) ∧ ∃ q, w' = W.drewN q := by
  have ci := hc i hi
  have cj := hc j hj
  go_enter Try.func86, Try.ntmps86
  go_wp2
  go_quiet (fail)
  go_wp2
  go_ret
  exact ⟨rfl, nq, rfl⟩
theorem sort_walkE (blk off c Bs : Nat) (d : Array (Int × Int)) (h2 : 2 ≤ d.size) (hsz : d.size < 4611686018427387904) (w : World) (hH : HoldsK ivC 2 w blk off d) (hblk : blk < w.heap.size)
    (hBs : w.cell? ⟨Bs, 0, none⟩ = some (.slice (some ⟨blk, off, none⟩) d.size c)) (hB1 : Bs < w.heap.size) (hB2 : Bs ≠ blk) :
    Calls Try.prog 36 #[.iface 113 (.slice (some ⟨blk, off, none⟩) d.size c), .func (.func 86) #[] #[.pointer (some ⟨Bs, 0, none⟩)]] w fun e w' =>
      e = .returned (.tuple #[]) ∧ ∃ d' n os, PermIn 0 d.size d d' ∧ SortedIn ltLo 0 d.size d' ∧ w' = grow (putRowK ivC 2 (Sort.ahead w n) blk off d') os := by
  have hless : LessReadsK Try.prog 86 #[.pointer (some ⟨Bs, 0, none⟩)] ivC 2 ltLo blk off d.size w := by
    intro m os dk hs i j hi hj
    have e : sortWorldK ivC 2 w blk off m dk os = putRowK ivC 2 (grow (Sort.ahead w m) os) blk off dk := by
      unfold sortWorldK; rw [putRowK_grow _ _ (Sort.ahead w m) _ blk off _ hblk]
    have hHg : HoldsK ivC 2 (grow (Sort.ahead w m) os) blk off d := holdsK_grow _ _ _ _ blk off d hblk (holdsK_ahead _ _ _ _ _ _ _ hH)
    refine less_walkE blk off c Bs d.size _ (fun t => dk[t]!.1) ?_ (fun t ht => ?_) i j hi hj (by omega)
    · rw [e, cell?_putRowK_other _ _ _ blk off dk _ (by exact hB2), cell?_grow _ _ _ (by exact hB1)]; exact hBs
    · rw [e]; exact ((holdsK_putRowK _ _ _ blk off d dk hHg hs).cell (i := t) (c := 0) (by omega) (by omega)).1
  exact Any.sort_Slice_cells_sorted Try.cl6 113 115 svTE svEE (by kernel_rfl) (by kernel_rfl) (by kernel_rfl) (by kernel_rfl) 25 (fun _ => by kernel_rfl) ivC 2 (fun _ => rfl) (by kernel_rfl) (fun _ => by kernel_rfl)
    (fun x v hv => by simp [ivC] at hv; rcases hv with rfl | rfl <;> rfl) ltLo swo_ltLo 86 _
    (enters_of Try.func86 (by kernel_rfl) rfl) blk off c d h2 hsz 98 (by rw [svKE _ h2]; kernel_rfl) false
    (fun args W => run_callFunc_extern Try.func98 (by kernel_rfl) (by kernel_rfl) (by kernel_rfl) (e := Extern.ReflectliteSwapper.swap false) (by kernel_rfl) args W) w hless hH hblk
theorem sortAnyE (g p n : Nat) (kp : List (Int × Int)) (cs Z : List Value) (w : World) (hb : Blk w g 115 cs) (hp : Pre cs kp Z) (hx : Blk w p 113 [.slice (some ⟨g, 0, none⟩) kp.length n]) (hpg : p ≠ g) (h1 : 1 ≤ kp.length) (hm : kp.length ≤ 100000000000) (hZ : kp.length * 2 ≤ Z.length) :
    Calls Try.prog 36 #[.iface 113 (.slice (some ⟨g, 0, none⟩) kp.length n), .func (.func 86) #[] #[.pointer (some ⟨p, 0, none⟩)]] w fun e w' =>
      e = .returned (.tuple #[]) ∧ ∃ sp, sp.Perm kp ∧ Asc sp ∧ (∃ ds, Blk w' g 115 ds ∧ Pre ds sp Z) ∧ Upd g w w' := by
  by_cases h2 : 2 ≤ kp.length
  · have hd : kp.toArray.size = kp.length := by simp
    have hH : HoldsK ivC 2 w g 0 kp.toArray := by
      intro j hj
      rw [size_flatK, hd] at hj
      rw [Nat.zero_add]
      refine ⟨?_, hb.frozen j⟩
      rw [hb.cell, hp.pre j hj]
      have := flatK_list kp.toArray
      rw [show kp.toArray.toList = kp by simp] at this
      rw [← this, Array.getElem?_toList, Array.getElem?_eq_getElem (by rw [size_flatK, hd]; exact hj)]
      rw [getElem!_pos _ j (by rw [size_flatK, hd]; exact hj)]
      rfl
    have := sort_walkE g 0 n p kp.toArray (by omega) (by omega) w hH hb.lt (by rw [hd]; exact hx.cell 0) hx.lt hpg
    rw [hd] at this
    refine this.mono ?_
    rintro e w' ⟨rfl, d', q, os, hperm, hsort, rfl⟩
    have hds : d'.size = kp.length := by rw [hperm.1, hd]
    have e1 : putRowK ivC 2 (Sort.ahead w q) g 0 d' = (w.drewN q).setCells g 0 (d'.toList.flatMap ivC) := by
      have := Lib.putRow_eq_setCells (id : Value → Value) w g 0 (flatK ivC 2 kp.toArray) (flatK ivC 2 d').toList q hH (by rw [Array.length_toList, size_flatK, size_flatK, hds, hd])
      rw [List.map_id, Array.toArray_toList, flatK_list] at this
      exact this
    have hlen : (d'.toList.flatMap ivC).length = kp.length * 2 := by rw [flat_len, Array.length_toList, hds]
    have hfit : 0 + (d'.toList.flatMap ivC).length ≤ cs.length := by rw [hlen, hp.len]; omega
    refine ⟨rfl, d'.toList, ?_, ?_, ⟨_, (by rw [e1]; exact (Blk.setCells _ 0 (hb.drewN q) hfit).grow os), ?_⟩, ?_⟩
    · have h3 := hperm.2.2
      rw [← hd] at h3
      rw [show kp.toArray.extract 0 kp.toArray.size = kp.toArray by simp, show d'.extract 0 kp.toArray.size = d' by rw [hd, ← hds]; simp] at h3
      simpa using h3
    · intro i j p' q' hij hp' hq'
      have hj := (List.getElem?_eq_some_iff.1 hq').1
      rw [Array.length_toList] at hj
      have h3 := hsort i j (Nat.zero_le _) hij (by omega)
      rw [Array.getElem?_toList] at hp' hq'
      rw [getElem!_pos d' j hj, getElem!_pos d' i (by omega), (Array.getElem?_eq_some_iff.1 hp').2, (Array.getElem?_eq_some_iff.1 hq').2] at h3
      simp [ltLo] at h3
      exact h3
    · unfold splice
      rw [List.take_zero, List.nil_append, Nat.zero_add]
      refine ⟨by rw [List.length_append, List.length_drop, hp.len, hlen]; have := hp.len; omega, fun i hi => ?_, fun i hi => ?_⟩
      · rw [List.getElem?_append_left (by rw [flat_len]; exact hi)]
      · rw [Array.length_toList, hds] at hi
        rw [List.getElem?_append_right (by omega), List.getElem?_drop, hlen, show kp.length * 2 + (i - kp.length * 2) = i by omega, hp.oth i hi]
    · rw [e1]
      exact (Upd.setCells g _ 0 ((Upd.refl g w).drewN q)).trans (Upd.grow g _ os)
  · have h3 : kp.length = 1 := by omega
    have := Any.sort_Slice_tiny Try.cl6 113 115 svTE svEE (by kernel_rfl) (by kernel_rfl) (by kernel_rfl) (by kernel_rfl) 25 (fun _ => by kernel_rfl) (some ⟨g, 0, none⟩) 1 n (by omega) 91 (by kernel_rfl) (.func 86) #[] #[.pointer (some ⟨p, 0, none⟩)] w
    rw [h3]
    refine Calls.mono this ?_
    rintro e w' ⟨rfl, os, rfl⟩
    refine ⟨rfl, kp, List.Perm.refl _, fun i j p' q' hij hp' hq' => ?_, ⟨cs, hb.grow os, hp⟩, Upd.grow g w os⟩
    have := (List.getElem?_eq_some_iff.1 hq').1
    omega
theorem sortNilE (a : Option Addr) (c p : Nat) (w : World) :
    Calls Try.prog 36 #[.iface 113 (.slice a 0 c), .func (.func 86) #[] #[.pointer (some ⟨p, 0, none⟩)]] w fun e w' => e = .returned (.tuple #[]) ∧ Below w.heap.size w w' := by
  have := Any.sort_Slice_tiny Try.cl6 113 115 svTE svEE (by kernel_rfl) (by kernel_rfl) (by kernel_rfl) (by kernel_rfl) 25 (fun _ => by kernel_rfl) a 0 c (by omega) 90 (by kernel_rfl) (.func 86) #[] #[.pointer (some ⟨p, 0, none⟩)] w
  refine Calls.mono this ?_
  rintro e w' ⟨rfl, os, rfl⟩
  exact ⟨rfl, ⟨rfl, rfl, rfl, by simp, fun k hk => heap_grow_old w os hk⟩⟩
end Go.Proofs.Qxb6500884a
