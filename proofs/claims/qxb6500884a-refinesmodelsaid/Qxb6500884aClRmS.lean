/- The model's Step. -/
import Derived.Test.Qxb6500884aClRmS1
import Derived.Test.Qxb6500884aClRmS2
import Derived.Test.Qxb6500884aClRmS3
import Derived.Test.Qxb6500884aClRmS4
namespace Go.Proofs.Qxb6500884a
open Go.RowKit
set_option linter.unusedSimpArgs false
set_option linter.unusedVariables false

theorem mstep_walk (mb : Nat) (a : Option Addr) (G : List (Nat × (Nat → Bool))) (o : COp) (Ls : List (List (Int × Int))) (w : World) (h : MMach mb a G w) (ho : OpOk w o) (hR : Rel (G.map (·.2)) Ls) (hN : ∀ l ∈ Ls, Nrm l) (hrn : o.rn ≤ 65536) :
    Calls Try.prog 25 #[.pointer (some ⟨mb, 0, none⟩), .agg #[.int .i64 o.kind, .int .i64 o.a, .int .i64 o.b, .slice o.ia o.inn o.ic, .slice o.ra o.rn o.rc]] w fun e w' => MSt mb a G o Ls w e w' := by
  obtain ⟨kind, oa, ob, ia, inn, ic, iv, ra, rn, rc, rg⟩ := o
  dsimp only at hrn ⊢
  by_cases k0 : kind = 0
  · subst k0; exact ms0_walk mb a G oa ob ia inn ic iv ra rn rc rg Ls w h ho hR hN hrn
  by_cases k1 : kind = 1
  · subst k1; exact ms1_walk mb a G oa ob ia inn ic iv ra rn rc rg Ls w h ho hR hN hrn
  by_cases k2 : kind = 2
  · subst k2; exact ms2_walk mb a G oa ob ia inn ic iv ra rn rc rg Ls w h ho hR hN hrn
  by_cases k3 : kind = 3
  · subst k3; exact ms3_walk mb a G oa ob ia inn ic iv ra rn rc rg Ls w h ho hR hN hrn
  by_cases k4 : kind = 4
  · subst k4; exact ms4_walk mb a G oa ob ia inn ic iv ra rn rc rg Ls w h ho hR hN hrn
  by_cases k11 : kind = 11
  · subst k11; exact ms11_walk mb a G oa ob ia inn ic iv ra rn rc rg Ls w h ho hR hN hrn
  rcases Nat.eq_zero_or_pos G.length with h0 | h0
  · exact msN_walk mb a G kind oa ob ia inn ic iv ra rn rc rg Ls w h ho hR hN hrn (by omega) h0
  by_cases k5 : kind = 5
  · subst k5; exact ms5_walk mb a G oa ob ia inn ic iv ra rn rc rg Ls w h ho hR hN h0 hrn
  by_cases k6 : kind = 6
  · subst k6; exact ms6_walk mb a G oa ob ia inn ic iv ra rn rc rg Ls w h ho hR hN h0 hrn
  by_cases k7 : kind = 7
  · subst k7; exact ms7_walk mb a G oa ob ia inn ic iv ra rn rc rg Ls w h ho hR hN h0 hrn
  by_cases k8 : kind = 8
  · subst k8; exact ms8_walk mb a G oa ob ia inn ic iv ra rn rc rg Ls w h ho hR hN h0 hrn
  by_cases k9 : kind = 9
  · subst k9; exact ms9_walk mb a G oa ob ia inn ic iv ra rn rc rg Ls w h ho hR hN h0 hrn
  by_cases k10 : kind = 10
  · subst k10; exact ms10_walk mb a G oa ob ia inn ic iv ra rn rc rg Ls w h ho hR hN h0 hrn
  by_cases k12 : kind = 12
  · subst k12; exact ms12_walk mb a G oa ob ia inn ic iv ra rn rc rg Ls w h ho hR hN h0 hrn
  by_cases k13 : kind = 13
  · subst k13; exact ms13_walk mb a G oa ob ia inn ic iv ra rn rc rg Ls w h ho hR hN h0 hrn
  by_cases k14 : kind = 14
  · subst k14; exact ms14_walk mb a G oa ob ia inn ic iv ra rn rc rg Ls w h ho hR hN h0 hrn
  by_cases k15 : kind = 15
  · subst k15; exact ms15_walk mb a G oa ob ia inn ic iv ra rn rc rg Ls w h ho hR hN h0 hrn
  by_cases k16 : kind = 16
  · subst k16; exact ms16_walk mb a G oa ob ia inn ic iv ra rn rc rg Ls w h ho hR hN h0 hrn
  by_cases k17 : kind = 17
  · subst k17; exact ms17_walk mb a G oa ob ia inn ic iv ra rn rc rg Ls w h ho hR hN h0 hrn
  by_cases k18 : kind = 18
  · subst k18; exact ms18_walk mb a G oa ob ia inn ic iv ra rn rc rg Ls w h ho hR hN h0 hrn
  by_cases k19 : kind = 19
  · subst k19; exact ms19_walk mb a G oa ob ia inn ic iv ra rn rc rg Ls w h ho hR hN h0 hrn
  by_cases k20 : kind = 20
  · subst k20; exact ms20_walk mb a G oa ob ia inn ic iv ra rn rc rg Ls w h ho hR hN h0 hrn
  by_cases k21 : kind = 21
  · subst k21; exact ms21_walk mb a G oa ob ia inn ic iv ra rn rc rg Ls w h ho hR hN h0 hrn
  by_cases k22 : kind = 22
  · subst k22; exact ms22_walk mb a G oa ob ia inn ic iv ra rn rc rg Ls w h ho hR hN h0 hrn
  exact msX_walk mb a G kind oa ob ia inn ic iv ra rn rc rg Ls w h ho hR hN h0 hrn (by omega)
end Go.Proofs.Qxb6500884a
