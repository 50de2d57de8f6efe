/- A step whole, exactly (written by tools/mk_aue.py). -/
import Derived.Test.Qxb6500887aGreatAuE
import Derived.Test.Qxb6500887aGreatAzZz
import Derived.Test.Qxb6500887aGreatAu1
import Derived.Test.Qxb6500887aGreatAu2
import Derived.Test.Qxb6500887aGreatAu3
import Derived.Test.Qxb6500887aGreatAu4
import Derived.Test.Qxb6500887aGreatAu5
import Derived.Test.Qxb6500887aGreatAu6
import Derived.Test.Qxb6500887aGreatAu7
import Derived.Test.Qxb6500887aGreatAu8
import Derived.Test.Qxb6500887aGreatAu9
import Derived.Test.Qxb6500887aGreatAuA
import Derived.Test.Qxb6500887aGreatAuB
import Derived.Test.Qxb6500887aGreatAuC
import Derived.Test.Qxb6500887aGreatAuD
namespace Go.Proofs.Qxb6500887aGreat
open Go.RowKit
set_option linter.unusedSimpArgs false
set_option linter.unusedVariables false
section
variable {l : AL} {S S' : AS} {w w' w0 : World}
theorem playLinesE (h : AM l S w) (k : Nat) (a b c : Int) (ha : U64 a) (hb : U64 b) (hc : U64 c) (hO : k ∉ [15, 44, 45, 46, 47, 36, 37, 38, 39, 64, 65, 66, 51, 52]) (hP : k ∉ [0, 1, 2, 3, 42, 43, 4, 5, 6, 7, 8, 9, 10, 11, 12, 13, 14, 16, 17, 23, 24, 25, 26, 27, 18, 19, 20, 21, 22, 53, 54]) : Calls Tryz.prog 189 #[.pointer (some ⟨l.a, 0, none⟩), .agg #[.int .u8 (k : Int), .int .u64 a, .int .u64 b, .int .u64 c]] w (PlE l S w k a b c) := by
  by_cases hk : k ∈ [28, 29, 30, 31, 32, 33, 48, 49, 34, 35, 50, 40, 41, 59, 61, 60, 55, 56, 58, 57, 62, 63]
  · simp only [List.mem_cons, List.not_mem_nil, or_false] at hk
    rcases hk with rfl | rfl | rfl | rfl | rfl | rfl | rfl | rfl | rfl | rfl | rfl | rfl | rfl | rfl | rfl | rfl | rfl | rfl | rfl | rfl | rfl | rfl
    · exact (px28 h a b c ha hb hc).mono (fun e w' q => q.pe rfl)
    · exact (pl29 h a b c ha hb hc).mono (fun e w' q => q.pe h.sok hb rfl)
    · exact (pl30 h a b c ha hb hc).mono (fun e w' q => q.pe h.sok hb rfl)
    · exact (px31 h a b c ha hb hc).mono (fun e w' q => q.pe rfl)
    · exact (px32 h a b c ha hb hc).mono (fun e w' q => q.pe rfl)
    · exact (px33 h a b c ha hb hc).mono (fun e w' q => q.pe rfl)
    · exact (px48 h a b c ha hb hc).mono (fun e w' q => q.pe rfl)
    · exact (px49 h a b c ha hb hc).mono (fun e w' q => q.pe rfl)
    · exact (px34 h a b c ha hb hc).mono (fun e w' q => q.pe rfl)
    · exact (pl35 h a b c ha hb hc).mono (fun e w' q => q.pe h.sok hb rfl)
    · exact (px50 h a b c ha hb hc).mono (fun e w' q => q.pe rfl)
    · exact (px40 h a b c ha hb hc).mono (fun e w' q => q.pe rfl)
    · exact (px41 h a b c ha hb hc).mono (fun e w' q => q.pe rfl)
    · exact (px59 h a b c ha hb hc).mono (fun e w' q => q.pe rfl)
    · exact (px61 h a b c ha hb hc).mono (fun e w' q => q.pe rfl)
    · exact (px60 h a b c ha hb hc).mono (fun e w' q => q.pe rfl)
    · exact (px55 h a b c ha hb hc).mono (fun e w' q => q.pe rfl)
    · exact (px56 h a b c ha hb hc).mono (fun e w' q => q.pe rfl)
    · exact (px58 h a b c ha hb hc).mono (fun e w' q => q.pe rfl)
    · exact (px57 h a b c ha hb hc).mono (fun e w' q => q.pe rfl)
    · exact (px62 h a b c ha hb hc).mono (fun e w' q => q.pe rfl)
    · exact (px63 h a b c ha hb hc).mono (fun e w' q => q.pe rfl)
  · refine pxRestL h k hk a b c (stR_else ?_ ?_)
    · simp only [List.mem_cons, List.not_mem_nil, or_false, not_or] at hk hO hP ⊢
      omega
    · simp only [List.mem_cons, List.not_mem_nil, or_false, not_or] at hk hO hP ⊢
      omega
theorem playObjectsE (h : AM l S w) (k : Nat) (a b c : Int) (ha : U64 a) (hb : U64 b) (hc : U64 c) (hP : k ∉ [0, 1, 2, 3, 42, 43, 4, 5, 6, 7, 8, 9, 10, 11, 12, 13, 14, 16, 17, 23, 24, 25, 26, 27, 18, 19, 20, 21, 22, 53, 54]) : Calls Tryz.prog 86 #[.pointer (some ⟨l.a, 0, none⟩), .agg #[.int .u8 (k : Int), .int .u64 a, .int .u64 b, .int .u64 c]] w (PlE l S w k a b c) := by
  by_cases hk : k ∈ [15, 44, 45, 46, 47, 36, 37, 38, 39, 64, 65, 66, 51, 52]
  · simp only [List.mem_cons, List.not_mem_nil, or_false] at hk
    rcases hk with rfl | rfl | rfl | rfl | rfl | rfl | rfl | rfl | rfl | rfl | rfl | rfl | rfl | rfl
    · exact (px15 h a b c ha hb hc).mono (fun e w' q => q.pe rfl)
    · exact (px44 h a b c ha hb hc).mono (fun e w' q => q.pe rfl)
    · exact (px45 h a b c ha hb hc).mono (fun e w' q => q.pe rfl)
    · exact (px46 h a b c ha hb hc).mono (fun e w' q => q.pe rfl)
    · exact (px47 h a b c ha hb hc).mono (fun e w' q => q.pe rfl)
    · exact (px36 h a b c ha hb hc).mono (fun e w' q => q.pe rfl)
    · exact (px37 h a b c ha hb hc).mono (fun e w' q => q.pe rfl)
    · exact (px38 h a b c ha hb hc).mono (fun e w' q => q.pe rfl)
    · exact (px39 h a b c ha hb hc).mono (fun e w' q => q.pe rfl)
    · exact (px64 h a b c ha hb hc).mono (fun e w' q => q.pe rfl)
    · exact (px65 h a b c ha hb hc).mono (fun e w' q => q.pe rfl)
    · exact (px66 h a b c ha hb hc).mono (fun e w' q => q.pe rfl)
    · exact (px51 h a b c ha hb hc).mono (fun e w' q => q.pe rfl)
    · exact (px52 h a b c ha hb hc).mono (fun e w' q => q.pe rfl)
  · exact pxRestO h k hk a b c (fun wz hz => playLinesE hz k a b c ha hb hc hk hP)
theorem playE (h : AM l S w) (k : Nat) (a b c : Int) (ha : U64 a) (hb : U64 b) (hc : U64 c) : Calls Tryz.prog 13 #[.pointer (some ⟨l.a, 0, none⟩), .agg #[.int .u8 (k : Int), .int .u64 a, .int .u64 b, .int .u64 c]] w (PlE l S w k a b c) := by
  by_cases hk : k ∈ [0, 1, 2, 3, 42, 43, 4, 5, 6, 7, 8, 9, 10, 11, 12, 13, 14, 16, 17, 23, 24, 25, 26, 27, 18, 19, 20, 21, 22, 53, 54]
  · simp only [List.mem_cons, List.not_mem_nil, or_false] at hk
    rcases hk with rfl | rfl | rfl | rfl | rfl | rfl | rfl | rfl | rfl | rfl | rfl | rfl | rfl | rfl | rfl | rfl | rfl | rfl | rfl | rfl | rfl | rfl | rfl | rfl | rfl | rfl | rfl | rfl | rfl | rfl | rfl
    · exact (px0 h a b c ha hb hc).mono (fun e w' q => q.pe rfl)
    · exact (pl1 h a b c ha hb hc).mono (fun e w' q => q.pe h.sok hb rfl)
    · exact (pl2 h a b c ha hb hc).mono (fun e w' q => q.pe h.sok hb rfl)
    · exact (px3 h a b c ha hb hc).mono (fun e w' q => q.pe rfl)
    · exact (px42 h a b c ha hb hc).mono (fun e w' q => q.pe rfl)
    · exact (pl43 h a b c ha hb hc).mono (fun e w' q => q.pe h.sok hb rfl)
    · exact (px4 h a b c ha hb hc).mono (fun e w' q => q.pe rfl)
    · exact (px5 h a b c ha hb hc).mono (fun e w' q => q.pe rfl)
    · exact (pl6 h a b c ha hb hc).mono (fun e w' q => q.pe h.sok hb rfl)
    · exact (px7 h a b c ha hb hc).mono (fun e w' q => q.pe rfl)
    · exact (pl8 h a b c ha hb hc).mono (fun e w' q => q.pe h.sok hb rfl)
    · exact (px9 h a b c ha hb hc).mono (fun e w' q => q.pe rfl)
    · exact (px10 h a b c ha hb hc).mono (fun e w' q => q.pe rfl)
    · exact (px11 h a b c ha hb hc).mono (fun e w' q => q.pe rfl)
    · exact (pl12 h a b c ha hb hc).mono (fun e w' q => q.pe h.sok hb rfl)
    · exact (px13 h a b c ha hb hc).mono (fun e w' q => q.pe rfl)
    · exact (pl14 h a b c ha hb hc).mono (fun e w' q => q.pe h.sok hb rfl)
    · exact (px16 h a b c ha hb hc).mono (fun e w' q => q.pe rfl)
    · exact (pl17 h a b c ha hb hc).mono (fun e w' q => q.pe h.sok hb rfl)
    · exact (px23 h a b c ha hb hc).mono (fun e w' q => q.pe rfl)
    · exact (pl24 h a b c ha hb hc).mono (fun e w' q => q.pe h.sok hb rfl)
    · exact (pl25 h a b c ha hb hc).mono (fun e w' q => q.pe h.sok hb rfl)
    · exact (pl26 h a b c ha hb hc).mono (fun e w' q => q.pe h.sok hb rfl)
    · exact (pl27 h a b c ha hb hc).mono (fun e w' q => q.pe h.sok hb rfl)
    · exact (px18 h a b c ha hb hc).mono (fun e w' q => q.pe rfl)
    · exact (pl19 h a b c ha hb hc).mono (fun e w' q => q.pe h.sok hb rfl)
    · exact (pl20 h a b c ha hb hc).mono (fun e w' q => q.pe h.sok hb rfl)
    · exact (pl21 h a b c ha hb hc).mono (fun e w' q => q.pe h.sok hb rfl)
    · exact (pl22 h a b c ha hb hc).mono (fun e w' q => q.pe h.sok hb rfl)
    · exact (px53 h a b c ha hb hc).mono (fun e w' q => q.pe rfl)
    · exact (pl54 h a b c ha hb hc).mono (fun e w' q => q.pe h.sok hb rfl)
  · exact pxRest h k hk a b c (fun wz hz => playObjectsE hz k a b c ha hb hc hk)
end
end Go.Proofs.Qxb6500887aGreat
