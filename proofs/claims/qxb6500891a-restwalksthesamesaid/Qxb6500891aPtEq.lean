/- Equal and Compare of names. -/
import Derived.Test.Qxb6500891aPtName
import Derived.Test.Qxb6500891aEqA
import Derived.Laws.StructEq
import Derived.Deep.MidRow
namespace Go.Proofs.Qxb6500891a
open Go.RowKit
set_option linter.unusedSimpArgs false
set_option linter.unusedVariables false

def padL (l : List Nat) : List Int := (l ++ List.replicate (32 - l.length) 0).map fun (x : Nat) => (x : Int)
theorem padL_len {l : List Nat} (h : l.length ≤ 32) : (padL l).length = 32 := by simp [padL]; omega
theorem nameC_pad (l : List Nat) : nameC l = .int .u8 (l.length : Int) :: (padL l).map (Value.int .u8) := by
  unfold nameC padL
  rw [List.map_map]
  rfl
theorem name_ext {l : List Nat} (h : l.length ≤ 32) : (nameC l).toArray.extract 1 33 = ((padL l).map (Value.int .u8)).toArray := by
  apply Array.ext'
  have := padL_len h
  simp only [nameC_pad, Array.toList_extract, List.extract_eq_take_drop, List.drop_succ_cons, List.drop_zero]
  rw [List.take_of_length_le (by simp [this])]
theorem pad_eq {l1 l2 : List Nat} (hl : l1.length = l2.length) : (padL l1 = padL l2) ↔ l1 = l2 := by
  constructor
  · intro h
    unfold padL at h
    have h2 : l1 ++ List.replicate (32 - l1.length) 0 = l2 ++ List.replicate (32 - l2.length) 0 := by
      have h3 := congrArg (List.map Int.toNat) h
      rw [List.map_map, List.map_map] at h3
      have e : (Int.toNat ∘ fun (x : Nat) => (x : Int)) = id := by funext x; simp
      rw [e, List.map_id, List.map_id] at h3
      exact h3
    exact (List.append_inj h2 hl).1
  · rintro rfl; rfl
theorem name_tail {l : List Nat} (h : l.length ≤ 32) : (List.take 32 (nameC l).tail).toArray = ((padL l).map (Value.int .u8)).toArray := by
  rw [nameC_pad, List.tail_cons, List.take_of_length_le (by rw [List.length_map, padL_len h]; omega)]
theorem buf_eq (l1 l2 : List Nat) (h1 : l1.length ≤ 32) (h2 : l2.length ≤ 32) (w : World) :
    (Op.equalIn 9999 34 (.agg (List.take 32 (nameC l1).tail).toArray) (.agg (List.take 32 (nameC l2).tail).toArray)).run Try.prog w = .ok (decide (padL l1 = padL l2)) w := by
  rw [name_tail h1, name_tail h2]
  exact run_equalIn_ints (P := Try.prog) w 9997 34 5 .u8 (padL l1) (padL l2) (by rw [padL_len h1, padL_len h2]) (by rw [padL_len h1]; exact Try.underlying34) Try.underlying5 (fun w => by simp [go_sem])
/-- '==' of two names. -/
theorem name_eq (l1 l2 : List Nat) (h1 : l1.length ≤ 32) (h2 : l2.length ≤ 32) (w : World) :
    (Op.equalIn 10000 36 (.agg (nameC l1).toArray) (.agg (nameC l2).toArray)).run Try.prog w = .ok (decide (l1 = l2)) w := by
  have hb := buf_eq l1 l2 h1 h2
  have c1 : (nameC l1).toArray[0]? = some (.int .u8 (l1.length : Int)) := rfl
  have c2 : (nameC l2).toArray[0]? = some (.int .u8 (l2.length : Int)) := rfl
  generalize nameC l1 = C1 at *
  generalize nameC l2 = C2 at *
  simp [go_sem, part, hb, c1, c2]
  by_cases hl : l1.length = l2.length
  · rw [if_pos (by omega)]
    by_cases e : l1 = l2
    · rw [decide_eq_true e, if_pos ((pad_eq hl).2 e)]
    · rw [decide_eq_false e, if_neg (fun h => e ((pad_eq hl).1 h))]
  · rw [if_neg (by omega), decide_eq_false (fun e => hl (by rw [e]))]
theorem eql_name (l1 l2 : List Nat) (h1 : l1.length ≤ 32) (h2 : l2.length ≤ 32) (w : World) :
    (binOp .eql 36 (.agg (nameC l1).toArray) (.agg (nameC l2).toArray)).run Try.prog w = .ok (.bool (decide (l1 = l2))) w := by
  rw [run_eql_struct, name_eq l1 l2 h1 h2]
  rfl
theorem neq_name (l1 l2 : List Nat) (h1 : l1.length ≤ 32) (h2 : l2.length ≤ 32) (w : World) :
    (binOp .neq 36 (.agg (nameC l1).toArray) (.agg (nameC l2).toArray)).run Try.prog w = .ok (.bool (!decide (l1 = l2))) w := by
  rw [run_neq_struct, name_eq l1 l2 h1 h2]
  rfl
theorem aggName : AggOf Try.prog 36 33 := AggOf.struct Try.underlying36 (by kernel_rfl)

theorem load_blk {P : Program} {w : World} {g : Nat} {t ty : TypeId} {cs : List Value} (hb : Blk w g t cs) (ha : AggOf P ty cs.length) : (Instr.loadAt ty (.pointer (some ⟨g, 0, none⟩))).run P w = .ok (.agg cs.toArray) w := by
  simp only [Instr.loadAt, Instr.sureAddr, Sem.run_bind, Sem.run_pure, Result.andThen_ok, run_loadVar_blk ha hb]
theorem blk2 (x : World) (l1 l2 : List Value) (t1 t2 : TypeId) :
    Blk ((x.alloc (.cells l1.toArray t1)).alloc (.cells l2.toArray t2)) x.heap.size t1 l1 ∧ Blk ((x.alloc (.cells l1.toArray t1)).alloc (.cells l2.toArray t2)) (x.heap.size + 1) t2 l2 ∧
    Below x.heap.size x ((x.alloc (.cells l1.toArray t1)).alloc (.cells l2.toArray t2)) := by
  have s1 : ∀ (x : World) (o : Obj), (x.alloc o).heap.size = x.heap.size + 1 := fun x o => by simp
  have b2 := Blk.new (x.alloc (.cells l1.toArray t1)) l2 t2
  rw [s1] at b2
  exact ⟨(Blk.new x l1 t1).alloc _, b2, (nbel x _).alloc (by rw [s1]; omega) _⟩

theorem Blk.range {w : World} {g : Nat} {t : TypeId} {cs : List Value} (hb : Blk w g t cs) : w.rangeAt g 0 cs := fun j v hv => by rw [Nat.zero_add, hb.cell]; exact hv
theorem info_name : (Try.prog.info? 36).map (·.size) = some 33 := by kernel_rfl
set_option maxRecDepth 100000 in
set_option maxHeartbeats 1000000 in
theorem nmEqual_walk (l1 l2 : List Nat) (h1 : NmOk l1) (h2 : NmOk l2) (w : World) :
    Calls Try.prog 27 #[nameV l1, nameV l2] w fun e w' => e = .returned (.bool (decide (l1 = l2))) ∧ Below w.heap.size w w' := by
  have he := eql_name l1 l2 h1.le h2.le
  obtain ⟨b1, b2, hb⟩ := blk2 w (nameC l1) (nameC l2) 36 36
  have R1 := hid b1.range
  have R2 := hid b2.range
  have I1 : Hid ((Try.prog.info? 36).map (·.size) = some (nameC l1).length) := hid (by rw [nameC_len h1.le]; exact info_name)
  have I2 : Hid ((Try.prog.info? 36).map (·.size) = some (nameC l2).length) := hid (by rw [nameC_len h2.le]; exact info_name)
  generalize decide (l1 = l2) = d at *
  unfold nameV
  generalize nameC l1 = C1 at *
  generalize nameC l2 = C2 at *
  clear h1 h2 b1 b2
  have HB := hid hb
  clear hb
  go_enter Try.func27, Try.ntmps27
  go_wp2_with (first
    | (refine wpList_load_mid rfl 36 _ rfl w.heap.size 0 rfl C1 _ R1.out Try.underlying36 rfl I1.out ?_)
    | (refine wpList_load_mid rfl 36 _ rfl (w.heap.size + 1) 0 rfl C2 _ R2.out Try.underlying36 rfl I2.out ?_))
  go_ret
  exact ⟨rfl, HB.out⟩

set_option maxRecDepth 100000 in
set_option maxHeartbeats 1000000 in
theorem nmCompare_walk (l1 l2 : List Nat) (h1 : NmOk l1) (h2 : NmOk l2) (w : World) :
    Calls Try.prog 28 #[nameV l1, nameV l2] w fun e w' => e = .returned (.int .i64 (cmpL l1 l2)) ∧ Below w.heap.size w w' := by
  obtain ⟨b1, b2, hb⟩ := blk2 w (nameC l1) (nameC l2) 36 36
  obtain ⟨wr, hwr⟩ : ∃ wr, ((w.alloc (.cells (nameC l1).toArray 36)).alloc (.cells (nameC l2).toArray 36)) = wr := ⟨_, rfl⟩
  rw [hwr] at b1 b2 hb
  obtain ⟨p, hp⟩ : ∃ p, w.heap.size = p := ⟨_, rfl⟩
  rw [hp] at b1 b2
  have hs1 := fun w' => slice_h ⟨p, 1, none⟩ l1.length h1.le w'
  have hs2 := fun w' => slice_h ⟨p + 1, 1, none⟩ l2.length h2.le w'
  have HC : Hid (∀ w', Drew wr w' → Calls Try.prog 47 #[.slice (some ⟨p, 1, none⟩) l1.length 32, .slice (some ⟨p + 1, 1, none⟩) l2.length 32] w' fun e w'' => e = .returned (.int .i64 (cmpL l1 l2)) ∧ Drew w' w'') :=
    hid (fun w' hd => compareBytes_walk _ _ _ _ _ _ l1 l2 w' (nameRow h1 (b1.drew hd)) (nameRow h2 (b2.drew hd)))
  obtain ⟨X, W, hT, hI⟩ := class_mk (fun w' => Drew wr w')
  have H0 : Hid (∃ q, wr.drew = W q) := hid (hI _ ⟨1, rfl⟩)
  have hne : Nonempty X := ⟨H0.out.choose⟩
  have c1 : ∀ x, (W x).cell? ⟨p, 0, none⟩ = some (.int .u8 (l1.length : Int)) := fun x => (b1.drew (hT x)).cell 0
  have c2 : ∀ x, (W x).cell? ⟨p + 1, 0, none⟩ = some (.int .u8 (l2.length : Int)) := fun x => (b2.drew (hT x)).cell 0
  have HCC : Hid (∀ x, Calls Try.prog 47 #[.slice (some ⟨p, 1, none⟩) l1.length 32, .slice (some ⟨p + 1, 1, none⟩) l2.length 32] (W x) fun e w'' => e = .returned (.int .i64 (cmpL l1 l2)) ∧ ∃ y, w'' = W y) :=
    hid (fun x => (HC.out _ (hT x)).mono fun e w'' h => ⟨h.1, hI _ ((hT x).trans h.2)⟩)
  have HB := hid hb
  have HTT := hid hT
  generalize cmpL l1 l2 = d at *
  unfold nameV
  generalize nameC l1 = C1 at *
  generalize nameC l2 = C2 at *
  clear h1 h2 b1 b2 hb hT hI HC
  go_enter Try.func28, Try.ntmps28
  go_upto_region 1 with fail
  clear hwr hp
  refine wp_region_class W (by kernel_rfl) (by kernel_rfl) H0.out ?_
  repeat (go_big_quiet_step ((go_at_call 47; exact HCC.out _)))
  refine wpQuiet_nil ?_
  intro q
  have HQ := hid (HTT.out q)
  generalize W q = wx at HQ ⊢
  go_wp2
  go_ret
  exact ⟨rfl, HB.out.trans (HQ.out.below _)⟩
end Go.Proofs.Qxb6500891a
