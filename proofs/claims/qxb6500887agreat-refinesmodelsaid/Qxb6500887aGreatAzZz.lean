/- A step whole (written by tools/mk_azzl.py). -/
import Derived.Test.Qxb6500887aGreatAzZl
import Derived.Test.Qxb6500887aGreatAzZe
import Derived.Test.Qxb6500887aGreatAzZf
import Derived.Test.Qxb6500887aGreatAzZg
import Derived.Test.Qxb6500887aGreatAzZh
import Derived.Test.Qxb6500887aGreatAzZi
import Derived.Test.Qxb6500887aGreatAzZj
import Derived.Test.Qxb6500887aGreatAzZk
import Derived.Test.Qxb6500887aGreatAzZm
import Derived.Test.Qxb6500887aGreatAzZn
import Derived.Test.Qxb6500887aGreatAzZo
import Derived.Test.Qxb6500887aGreatAzZp
import Derived.Test.Qxb6500887aGreatAzZq
import Derived.Test.Qxb6500887aGreatAzZr
namespace Go.Proofs.Qxb6500887aGreat
open Go.RowKit
set_option linter.unusedSimpArgs false
set_option linter.unusedVariables false
section
variable {l : AL} {S S' : AS} {w w' w0 : World}
theorem playLinesW (h : AM l S w) (k : Nat) (a b c : Int) (ha : U64 a) (hb : U64 b) (hc : U64 c) (hO : k ∉ [15, 44, 45, 46, 47, 36, 37, 38, 39, 64, 65, 66, 51, 52]) (hP : k ∉ [0, 1, 2, 3, 42, 43, 4, 5, 6, 7, 8, 9, 10, 11, 12, 13, 14, 16, 17, 23, 24, 25, 26, 27, 18, 19, 20, 21, 22, 53, 54]) : Calls Tryz.prog 189 #[.pointer (some ⟨l.a, 0, none⟩), .agg #[.int .u8 (k : Int), .int .u64 a, .int .u64 b, .int .u64 c]] w (PyP l S w k a b c) := by
  by_cases hk : k ∈ [28, 29, 30, 31, 32, 33, 48, 49, 34, 35, 50, 40, 41, 59, 61, 60, 55, 56, 58, 57, 62, 63]
  · simp only [List.mem_cons, List.not_mem_nil, or_false] at hk
    rcases hk with rfl | rfl | rfl | rfl | rfl | rfl | rfl | rfl | rfl | rfl | rfl | rfl | rfl | rfl | rfl | rfl | rfl | rfl | rfl | rfl | rfl | rfl
    · exact pl28 h a b c ha hb hc
    · exact pl29 h a b c ha hb hc
    · exact pl30 h a b c ha hb hc
    · exact pl31 h a b c ha hb hc
    · exact pl32 h a b c ha hb hc
    · exact pl33 h a b c ha hb hc
    · exact pl48 h a b c ha hb hc
    · exact pl49 h a b c ha hb hc
    · exact pl34 h a b c ha hb hc
    · exact pl35 h a b c ha hb hc
    · exact pl50 h a b c ha hb hc
    · exact pl40 h a b c ha hb hc
    · exact pl41 h a b c ha hb hc
    · exact pl59 h a b c ha hb hc
    · exact pl61 h a b c ha hb hc
    · exact pl60 h a b c ha hb hc
    · exact pl55 h a b c ha hb hc
    · exact pl56 h a b c ha hb hc
    · exact pl58 h a b c ha hb hc
    · exact pl57 h a b c ha hb hc
    · exact pl62 h a b c ha hb hc
    · exact pl63 h a b c ha hb hc
  · refine plRestL h k hk a b c ?_ (fun hm => ?_) (fun hm => ?_)
    · simp only [List.mem_cons, List.not_mem_nil, or_false, not_or] at hk hO hP
      unfold plW
      split
      all_goals first | rfl | omega
    · simp only [List.mem_cons, List.not_mem_nil, or_false, not_or] at hk hO hP hm
      omega
    · simp only [List.mem_cons, List.not_mem_nil, or_false, not_or] at hk hO hP hm
      omega
theorem playObjectsW (h : AM l S w) (k : Nat) (a b c : Int) (ha : U64 a) (hb : U64 b) (hc : U64 c) (hP : k ∉ [0, 1, 2, 3, 42, 43, 4, 5, 6, 7, 8, 9, 10, 11, 12, 13, 14, 16, 17, 23, 24, 25, 26, 27, 18, 19, 20, 21, 22, 53, 54]) : Calls Tryz.prog 86 #[.pointer (some ⟨l.a, 0, none⟩), .agg #[.int .u8 (k : Int), .int .u64 a, .int .u64 b, .int .u64 c]] w (PyP l S w k a b c) := by
  by_cases hk : k ∈ [15, 44, 45, 46, 47, 36, 37, 38, 39, 64, 65, 66, 51, 52]
  · simp only [List.mem_cons, List.not_mem_nil, or_false] at hk
    rcases hk with rfl | rfl | rfl | rfl | rfl | rfl | rfl | rfl | rfl | rfl | rfl | rfl | rfl | rfl
    · exact pl15 h a b c ha hb hc
    · exact pl44 h a b c ha hb hc
    · exact pl45 h a b c ha hb hc
    · exact pl46 h a b c ha hb hc
    · exact pl47 h a b c ha hb hc
    · exact pl36 h a b c ha hb hc
    · exact pl37 h a b c ha hb hc
    · exact pl38 h a b c ha hb hc
    · exact pl39 h a b c ha hb hc
    · exact pl64 h a b c ha hb hc
    · exact pl65 h a b c ha hb hc
    · exact pl66 h a b c ha hb hc
    · exact pl51 h a b c ha hb hc
    · exact pl52 h a b c ha hb hc
  · exact plRestO h k hk a b c (fun wz hz => playLinesW hz k a b c ha hb hc hk hP)
theorem playW (h : AM l S w) (k : Nat) (a b c : Int) (ha : U64 a) (hb : U64 b) (hc : U64 c) : Calls Tryz.prog 13 #[.pointer (some ⟨l.a, 0, none⟩), .agg #[.int .u8 (k : Int), .int .u64 a, .int .u64 b, .int .u64 c]] w (PyP l S w k a b c) := by
  by_cases hk : k ∈ [0, 1, 2, 3, 42, 43, 4, 5, 6, 7, 8, 9, 10, 11, 12, 13, 14, 16, 17, 23, 24, 25, 26, 27, 18, 19, 20, 21, 22, 53, 54]
  · simp only [List.mem_cons, List.not_mem_nil, or_false] at hk
    rcases hk with rfl | rfl | rfl | rfl | rfl | rfl | rfl | rfl | rfl | rfl | rfl | rfl | rfl | rfl | rfl | rfl | rfl | rfl | rfl | rfl | rfl | rfl | rfl | rfl | rfl | rfl | rfl | rfl | rfl | rfl | rfl
    · exact pl0 h a b c ha hb hc
    · exact pl1 h a b c ha hb hc
    · exact pl2 h a b c ha hb hc
    · exact pl3 h a b c ha hb hc
    · exact pl42 h a b c ha hb hc
    · exact pl43 h a b c ha hb hc
    · exact pl4 h a b c ha hb hc
    · exact pl5 h a b c ha hb hc
    · exact pl6 h a b c ha hb hc
    · exact pl7 h a b c ha hb hc
    · exact pl8 h a b c ha hb hc
    · exact pl9 h a b c ha hb hc
    · exact pl10 h a b c ha hb hc
    · exact pl11 h a b c ha hb hc
    · exact pl12 h a b c ha hb hc
    · exact pl13 h a b c ha hb hc
    · exact pl14 h a b c ha hb hc
    · exact pl16 h a b c ha hb hc
    · exact pl17 h a b c ha hb hc
    · exact pl23 h a b c ha hb hc
    · exact pl24 h a b c ha hb hc
    · exact pl25 h a b c ha hb hc
    · exact pl26 h a b c ha hb hc
    · exact pl27 h a b c ha hb hc
    · exact pl18 h a b c ha hb hc
    · exact pl19 h a b c ha hb hc
    · exact pl20 h a b c ha hb hc
    · exact pl21 h a b c ha hb hc
    · exact pl22 h a b c ha hb hc
    · exact pl53 h a b c ha hb hc
    · exact pl54 h a b c ha hb hc
  · exact plRest h k hk a b c (fun wz hz => playObjectsW hz k a b c ha hb hc hk)
end
end Go.Proofs.Qxb6500887aGreat
