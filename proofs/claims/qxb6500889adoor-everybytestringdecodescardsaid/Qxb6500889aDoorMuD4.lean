/- do (written by tools/mk_do.py). -/
import Derived.Test.Qxb6500889aDoorMuDa
import Derived.Test.Qxb6500889aDoorMuDb
import Derived.Test.Qxb6500889aDoorMuDc
import Derived.Test.Qxb6500889aDoorMuDd
import Derived.Test.Qxb6500889aDoorMuDe
namespace Go.Proofs.Qxb6500889aDoor
open Go.RowKit
set_option linter.unusedSimpArgs false
set_option linter.unusedVariables false
section
variable {w w' w'' : World} {ρ ρ' ρ'' : Rl} {L L' : HL} {T : XL} {H H' : HS} {X X' : XS} {q : Nat} {o : OpP} {z : Rz} {wz : World}
theorem do_walk (h : MM w ρ L T H X) (hi : HI H X) {n : Nat} (hn : XN X n) (hn2 : n < 100000000000) (o : OpP) (hob : OpB o) :
    Calls Tryd.prog 36 #[.pointer (some ⟨T.xB, 0, none⟩), .agg (opC o).toArray] w fun e w' => DoP w ρ L T H X o e w' := by
  by_cases h7 : 7 ≤ o.ac
  · exact do_bad h hi hn hn2 o hob h7
  by_cases h4 : 4 ≤ o.ac
  · exact do_coll h hi hn hn2 o hob h4 (by omega)
  by_cases h9 : 9 ≤ o.k
  · exact do_kb h hi hn hn2 o hob (by omega) h9
  rcases (by omega : o.k = 0 ∨ o.k = 1 ∨ o.k = 2 ∨ o.k = 3 ∨ o.k = 4 ∨ o.k = 5 ∨ o.k = 6 ∨ o.k = 7 ∨ o.k = 8) with e | e | e | e | e | e | e | e | e
  · exact do_0 h hi hn hn2 o hob (by omega) e
  · exact do_1 h hi hn hn2 o hob (by omega) e
  · exact do_2 h hi hn hn2 o hob (by omega) e
  · exact do_3 h hi hn hn2 o hob (by omega) e
  · exact do_4 h hi hn hn2 o hob (by omega) e
  · exact do_5 h hi hn hn2 o hob (by omega) e
  · exact do_6 h hi hn hn2 o hob (by omega) e
  · exact do_7 h hi hn hn2 o hob (by omega) e
  · exact do_8 h hi hn hn2 o hob (by omega) e
end
end Go.Proofs.Qxb6500889aDoor
