/- AddressesDecodeAndEncode. -/
import Derived.Test.Qxb6500887aArAddr3
namespace Go.Proofs.Qxb6500887a
open Go.RowKit
set_option linter.unusedSimpArgs false
set_option linter.unusedVariables false

/-- The three addresses of a step, in a block of the call's own. -/
structure Tri3 (w0 : World) (g : Nat) (A B C : Int) (wr : World) : Prop where
  bel : Below w0.heap.size w0 wr
  bl : Blk wr g 32 [.int .u64 A, .int .u64 B, .int .u64 C]
theorem Tri3.below {w0 wr w' : World} {g : Nat} {A B C : Int} (f : Tri3 w0 g A B C wr) (hb : Below wr.heap.size wr w') : Tri3 w0 g A B C w' :=
  ⟨f.bel.trans (hb.mono f.bel.size), f.bl.below hb⟩
theorem Tri3.at {w0 wr : World} {g : Nat} {A B C : Int} (f : Tri3 w0 g A B C wr) (hA : U64 A) (hB : U64 B) (hC : U64 C) {j : Nat} (hj : j < 3) : ∃ x, U64 x ∧ wr.cell? ⟨g, j, none⟩ = some (.int .u64 x) := by
  rcases (by omega : j = 0 ∨ j = 1 ∨ j = 2) with rfl | rfl | rfl
  · exact ⟨A, hA, f.bl.cell 0⟩
  · exact ⟨B, hB, f.bl.cell 1⟩
  · exact ⟨C, hC, f.bl.cell 2⟩

def firstLoop : Code → Option Code
  | .loop c => some c
  | .seq a b => match firstLoop a with
    | some c => some c
    | none => firstLoop b
  | .block _ c => firstLoop c
  | .scope c => firstLoop c
  | .cond _ a b => match firstLoop a with
    | some c => some c
    | none => firstLoop b
  | _ => none
noncomputable def addrBody : Code := (((Try.f5.body.bind firstLoop).bind firstLoop).getD .skip)

set_option maxRecDepth 1000000 in
set_option maxHeartbeats 8000000 in
theorem addr_inner (w' : World) (g cap : Nat) (oa ob oc : Int) (hA : U64 oa) (hB : U64 ob) (hC : U64 oc) (c0 c1 c3 c4 c5 c37 c38 c39 c40 c41 c42 c43 c44 c45 c46 c47 c48 c49 c50 c51 c284 : Value) (s2 s6 s7 s8 s9 s10 s11 s12 s13 s14 s15 s16 s17 s18 s19 s20 s21 s22 s23 s24 s25 s26 s27 s28 s29 s30 s31 s32 s33 s34 s35 s36 s55 s56 s57 s58 s59 s60 s61 s62 s63 s64 s65 s66 s67 s68 s69 s70 s71 s72 s73 s74 s75 s76 s77 s78 s79 s80 s81 s82 s83 s84 s85 s86 s87 s88 s89 s90 s91 s92 s93 s94 s95 s96 s97 s98 s99 s100 s101 s102 s103 s104 s105 s106 s107 s108 s109 s110 s111 s112 s113 s114 s115 s116 s117 s118 s119 s120 s121 s122 s123 s124 s125 s126 s127 s128 s129 s130 s131 s132 s133 s134 s135 s136 s137 s138 s139 s140 s141 s142 s143 s144 s145 s146 s147 s148 s149 s150 s151 s152 s153 s154 s155 s156 s157 s158 s159 s160 s161 s162 s163 s164 s165 s166 s167 s168 s169 s170 s171 s172 s173 s174 s175 s176 s177 s178 s179 s180 s181 s182 s183 s184 s185 s186 s187 s188 s189 s190 s191 s192 s193 s194 s195 s196 s197 s198 s199 s200 s201 s202 s203 s204 s205 s206 s207 s208 s209 s210 s211 s212 s213 s214 s215 s216 s217 s218 s219 s220 s221 s222 s223 s224 s225 s226 s227 s228 s229 s230 s231 s232 s233 s234 s235 s236 s237 s238 s239 s240 s241 s242 s243 s244 s245 s246 s247 s248 s249 s250 s251 s252 s253 s254 s255 s256 s257 s258 s259 s260 s261 s262 s263 s264 s265 s266 s267 s268 s269 s270 s271 s272 s273 s274 s275 s276 s277 s278 s279 s280 s281 s282 s283 : Value) (Q0 : Exit → Act → World → Prop) (wb : World) (HT : Hid (Tri3 w' g oa ob oc wb))
    (hexit : ∀ (u2 u6 u7 u8 u9 u10 u11 u12 u13 u14 u15 u16 u17 u18 u19 u20 u21 u22 u23 u24 u25 u26 u27 u28 u29 u30 u31 u32 u33 u34 u35 u36 u54 u55 u56 u57 u58 u59 u60 u61 u62 u63 u64 u65 u66 u67 u68 u69 u70 u71 u72 u73 u74 u75 u76 u77 u78 u79 u80 u81 u82 u83 u84 u85 u86 u87 u88 u89 u90 u91 u92 u93 u94 u95 u96 u97 u98 u99 u100 u101 u102 u103 u104 u105 u106 u107 u108 u109 u110 u111 u112 u113 u114 u115 u116 u117 u118 u119 u120 u121 u122 u123 u124 u125 u126 u127 u128 u129 u130 u131 u132 u133 u134 u135 u136 u137 u138 u139 u140 u141 u142 u143 u144 u145 u146 u147 u148 u149 u150 u151 u152 u153 u154 u155 u156 u157 u158 u159 u160 u161 u162 u163 u164 u165 u166 u167 u168 u169 u170 u171 u172 u173 u174 u175 u176 u177 u178 u179 u180 u181 u182 u183 u184 u185 u186 u187 u188 u189 u190 u191 u192 u193 u194 u195 u196 u197 u198 u199 u200 u201 u202 u203 u204 u205 u206 u207 u208 u209 u210 u211 u212 u213 u214 u215 u216 u217 u218 u219 u220 u221 u222 u223 u224 u225 u226 u227 u228 u229 u230 u231 u232 u233 u234 u235 u236 u237 u238 u239 u240 u241 u242 u243 u244 u245 u246 u247 u248 u249 u250 u251 u252 u253 u254 u255 u256 u257 u258 u259 u260 u261 u262 u263 u264 u265 u266 u267 u268 u269 u270 u271 u272 u273 u274 u275 u276 u277 u278 u279 u280 u281 u282 u283 : Value) (wz : World), Hid (Tri3 w' g oa ob oc wz) → Q0 (.exit 2) ⟨List.toArray (c0 :: c1 :: u2 :: c3 :: c4 :: c5 :: u6 :: u7 :: u8 :: u9 :: u10 :: u11 :: u12 :: u13 :: u14 :: u15 :: u16 :: u17 :: u18 :: u19 :: u20 :: u21 :: u22 :: u23 :: u24 :: u25 :: u26 :: u27 :: u28 :: u29 :: u30 :: u31 :: u32 :: u33 :: u34 :: u35 :: u36 :: c37 :: c38 :: c39 :: c40 :: c41 :: c42 :: c43 :: c44 :: c45 :: c46 :: c47 :: c48 :: c49 :: c50 :: c51 :: Value.slice (some ⟨g, 0, none⟩) 3 cap :: Value.int .i64 3 :: u54 :: u55 :: u56 :: u57 :: u58 :: u59 :: u60 :: u61 :: u62 :: u63 :: u64 :: u65 :: u66 :: u67 :: u68 :: u69 :: u70 :: u71 :: u72 :: u73 :: u74 :: u75 :: u76 :: u77 :: u78 :: u79 :: u80 :: u81 :: u82 :: u83 :: u84 :: u85 :: u86 :: u87 :: u88 :: u89 :: u90 :: u91 :: u92 :: u93 :: u94 :: u95 :: u96 :: u97 :: u98 :: u99 :: u100 :: u101 :: u102 :: u103 :: u104 :: u105 :: u106 :: u107 :: u108 :: u109 :: u110 :: u111 :: u112 :: u113 :: u114 :: u115 :: u116 :: u117 :: u118 :: u119 :: u120 :: u121 :: u122 :: u123 :: u124 :: u125 :: u126 :: u127 :: u128 :: u129 :: u130 :: u131 :: u132 :: u133 :: u134 :: u135 :: u136 :: u137 :: u138 :: u139 :: u140 :: u141 :: u142 :: u143 :: u144 :: u145 :: u146 :: u147 :: u148 :: u149 :: u150 :: u151 :: u152 :: u153 :: u154 :: u155 :: u156 :: u157 :: u158 :: u159 :: u160 :: u161 :: u162 :: u163 :: u164 :: u165 :: u166 :: u167 :: u168 :: u169 :: u170 :: u171 :: u172 :: u173 :: u174 :: u175 :: u176 :: u177 :: u178 :: u179 :: u180 :: u181 :: u182 :: u183 :: u184 :: u185 :: u186 :: u187 :: u188 :: u189 :: u190 :: u191 :: u192 :: u193 :: u194 :: u195 :: u196 :: u197 :: u198 :: u199 :: u200 :: u201 :: u202 :: u203 :: u204 :: u205 :: u206 :: u207 :: u208 :: u209 :: u210 :: u211 :: u212 :: u213 :: u214 :: u215 :: u216 :: u217 :: u218 :: u219 :: u220 :: u221 :: u222 :: u223 :: u224 :: u225 :: u226 :: u227 :: u228 :: u229 :: u230 :: u231 :: u232 :: u233 :: u234 :: u235 :: u236 :: u237 :: u238 :: u239 :: u240 :: u241 :: u242 :: u243 :: u244 :: u245 :: u246 :: u247 :: u248 :: u249 :: u250 :: u251 :: u252 :: u253 :: u254 :: u255 :: u256 :: u257 :: u258 :: u259 :: u260 :: u261 :: u262 :: u263 :: u264 :: u265 :: u266 :: u267 :: u268 :: u269 :: u270 :: u271 :: u272 :: u273 :: u274 :: u275 :: u276 :: u277 :: u278 :: u279 :: u280 :: u281 :: u282 :: u283 :: c284 :: []), []⟩ wz) :
    Code.wp Try.prog (Code.loop addrBody) Q0 ⟨List.toArray (c0 :: c1 :: s2 :: c3 :: c4 :: c5 :: s6 :: s7 :: s8 :: s9 :: s10 :: s11 :: s12 :: s13 :: s14 :: s15 :: s16 :: s17 :: s18 :: s19 :: s20 :: s21 :: s22 :: s23 :: s24 :: s25 :: s26 :: s27 :: s28 :: s29 :: s30 :: s31 :: s32 :: s33 :: s34 :: s35 :: s36 :: c37 :: c38 :: c39 :: c40 :: c41 :: c42 :: c43 :: c44 :: c45 :: c46 :: c47 :: c48 :: c49 :: c50 :: c51 :: Value.slice (some ⟨g, 0, none⟩) 3 cap :: Value.int .i64 3 :: Value.int .i64 0 :: s55 :: s56 :: s57 :: s58 :: s59 :: s60 :: s61 :: s62 :: s63 :: s64 :: s65 :: s66 :: s67 :: s68 :: s69 :: s70 :: s71 :: s72 :: s73 :: s74 :: s75 :: s76 :: s77 :: s78 :: s79 :: s80 :: s81 :: s82 :: s83 :: s84 :: s85 :: s86 :: s87 :: s88 :: s89 :: s90 :: s91 :: s92 :: s93 :: s94 :: s95 :: s96 :: s97 :: s98 :: s99 :: s100 :: s101 :: s102 :: s103 :: s104 :: s105 :: s106 :: s107 :: s108 :: s109 :: s110 :: s111 :: s112 :: s113 :: s114 :: s115 :: s116 :: s117 :: s118 :: s119 :: s120 :: s121 :: s122 :: s123 :: s124 :: s125 :: s126 :: s127 :: s128 :: s129 :: s130 :: s131 :: s132 :: s133 :: s134 :: s135 :: s136 :: s137 :: s138 :: s139 :: s140 :: s141 :: s142 :: s143 :: s144 :: s145 :: s146 :: s147 :: s148 :: s149 :: s150 :: s151 :: s152 :: s153 :: s154 :: s155 :: s156 :: s157 :: s158 :: s159 :: s160 :: s161 :: s162 :: s163 :: s164 :: s165 :: s166 :: s167 :: s168 :: s169 :: s170 :: s171 :: s172 :: s173 :: s174 :: s175 :: s176 :: s177 :: s178 :: s179 :: s180 :: s181 :: s182 :: s183 :: s184 :: s185 :: s186 :: s187 :: s188 :: s189 :: s190 :: s191 :: s192 :: s193 :: s194 :: s195 :: s196 :: s197 :: s198 :: s199 :: s200 :: s201 :: s202 :: s203 :: s204 :: s205 :: s206 :: s207 :: s208 :: s209 :: s210 :: s211 :: s212 :: s213 :: s214 :: s215 :: s216 :: s217 :: s218 :: s219 :: s220 :: s221 :: s222 :: s223 :: s224 :: s225 :: s226 :: s227 :: s228 :: s229 :: s230 :: s231 :: s232 :: s233 :: s234 :: s235 :: s236 :: s237 :: s238 :: s239 :: s240 :: s241 :: s242 :: s243 :: s244 :: s245 :: s246 :: s247 :: s248 :: s249 :: s250 :: s251 :: s252 :: s253 :: s254 :: s255 :: s256 :: s257 :: s258 :: s259 :: s260 :: s261 :: s262 :: s263 :: s264 :: s265 :: s266 :: s267 :: s268 :: s269 :: s270 :: s271 :: s272 :: s273 :: s274 :: s275 :: s276 :: s277 :: s278 :: s279 :: s280 :: s281 :: s282 :: s283 :: c284 :: []), []⟩ wb := by
  have HA := hid hA
  have HBo := hid hB
  have HCo := hid hC
  clear hA hB hC
  conv => arg 2; whnf
  conv => arg 2; arg 1; whnf
  go_loopw [54] (fun i wr => ∃ j : Nat, j ≤ 3 ∧ i = .int .i64 j ∧ Hid (Tri3 w' g oa ob oc wr)) (fun i _ => 3 - (intOf i).toNat)
  case atStart => exact ⟨0, by omega, rfl, HT⟩
  case round =>
    obtain ⟨j, hj, rfl, HT⟩ := hrel
    by_cases hj3 : j < 3
    · obtain ⟨x, hx64, cx⟩ := HT.out.at HA.out HBo.out HCo.out hj3
      have i1 : (j : Int) < 3 := by omega
      obtain ⟨z, hz⟩ : ∃ z, wrap64 x = z := ⟨_, rfl⟩
      have HNu := hid (fun w => number_walk x hx64 w)
      rw [hz] at HNu
      have hz1 : -9223372036854775808 ≤ z := by rw [← hz]; unfold wrap64; omega
      have hz2 : z ≤ 9223372036854775807 := by rw [← hz]; unfold wrap64; omega
      obtain ⟨hx0, hx1⟩ := hx64
      clear hz
      have HcW := hid (cW_bool x)
      have HWW := hid (fun w => wantWord_c x w)
      have HWo := hid (fun w => wantObject_walk x w)
      have HWa := hid (fun w => word_any x w)
      have HGa := hid (fun w => granule_any x w)
      have HDa := hid (fun w => decode_any x w)
      obtain ⟨cW, hcW⟩ : ∃ q, cWof x = q := ⟨_, rfl⟩
      obtain ⟨cG, hcG⟩ : ∃ q, wantO x = q := ⟨_, rfl⟩
      rw [hcW] at HcW HWW HWa HDa
      rw [hcG] at HWo HGa
      have HcG := hid hcG
      clear hcW hcG
      go_wp2_with fail
      refine (HWa.out _).mono ?_
      rintro e w1 ⟨vW, rfl, hvW, rfl⟩
      have HvW := hid hvW
      clear hvW
      go_upto_region 11 with fail
      go_cut [78] from 55 to 283 (fun v wc => v = .bool false ∧ wc = w1)
      case first =>
        as_aux_lemma =>
        by_cases hi : InH x
        · have d1 : (cW == 0) = true := by rw [HcW.out]; exact decide_eq_true hi
          have d2 : (vW != x - 65536) = false := by rw [HvW.out hi]; simp
          obtain ⟨hi0, hi1⟩ := hi
          go_wp2_with (go_at_call 17; refine (HWW.out _).mono ?_; rintro e w2 ⟨rfl, rfl⟩)
          go_meet
          case rel => exact ⟨rfl, rfl⟩
        · have d1 : (cW == 0) = false := by rw [HcW.out]; exact decide_eq_false hi
          clear hi
          go_wp2_with (go_at_call 17; refine (HWW.out _).mono ?_; rintro e w2 ⟨rfl, rfl⟩)
          go_meet
          case rel => exact ⟨rfl, rfl⟩
      case rest =>
      as_aux_lemma =>
      obtain ⟨rfl, rfl⟩ := hcut
      go_upto_region 13 with fail
      go_cut [85] from 55 to 283 (fun v wc => v = .bool false ∧ Hid (Tri3 w' g oa ob oc wc))
      case first =>
        as_aux_lemma =>
        by_cases hi : InH x
        · have d1 : (cW == 0) = true := by rw [HcW.out]; exact decide_eq_true hi
          have HPl := hid (fun w => placed_walk x hi w)
          clear hi
          go_wp2_with fail
          refine (HPl.out _).mono ?_
          rintro e w2 ⟨rfl, hb2⟩
          have HT2 := hid (HT.out.below hb2)
          clear hb2
          go_wp2_with fail
          go_meet
          case rel => exact ⟨rfl, HT2⟩
        · have d1 : (cW == 0) = false := by rw [HcW.out]; exact decide_eq_false hi
          clear hi
          go_wp2_with fail
          go_meet
          case rel => exact ⟨rfl, HT⟩
      case rest =>
      as_aux_lemma =>
      obtain ⟨rfl, HT2⟩ := hcut
      clear HT cx
      go_wp2_with fail
      refine (HDa.out _).mono ?_
      rintro e w3 ⟨p0, p1, p2, p3, p4, rfl, hb3⟩
      have HT3 := hid (HT2.out.below hb3)
      clear hb3 HT2
      go_upto_region 16 with fail
      obtain ⟨w4, hw4⟩ : ∃ w4, w3.alloc (.cells #[.int .i64 p0, .int .i64 p1, .int .i64 p2, .int .i64 p3, .int .i64 p4] 55) = w4 := ⟨_, rfl⟩
      have HT4 : Hid (Tri3 w' g oa ob oc w4) := by subst hw4; exact hid (HT3.out.below (Below.alloc (Below.refl _ _) (Nat.le_refl _) _))
      rw [hw4]
      clear hw4 HT3
      go_wp2_with (first
        | (go_at_call 17; refine (HWW.out _).mono ?_; rintro e w1 ⟨rfl, rfl⟩)
        | (go_at_call 28; refine (HGa.out _).mono ?_; rintro e w1 ⟨vG, rfl, hvG, rfl⟩; have HvG := hid hvG; clear hvG)
        | (go_at_call 11; refine (HWo.out _).mono ?_; rintro e w1 ⟨rfl, rfl⟩))
      refine (addrOfGranule_in vG HvG.out.1 HvG.out.2.1 _).mono ?_
      rintro e w5 ⟨rfl, rfl⟩
      go_upto_region 22 with fail
      go_cut [119] from 55 to 283 (fun v wc => v = .bool false ∧ wc = w5)
      case first =>
        as_aux_lemma =>
        by_cases h0 : cG = 0
        · have d1 : (cG == 0) = true := by simp [h0]
          have d2 : (65536 + vG * 2 != x) = false := by rw [HvG.out.2.2 h0]; simp
          clear h0
          go_wp2_with fail
          go_meet
          case rel => exact ⟨rfl, rfl⟩
        · have d1 : (cG == 0) = false := by simp [h0]
          clear h0
          go_wp2_with fail
          go_meet
          case rel => exact ⟨rfl, rfl⟩
      case rest =>
      as_aux_lemma =>
      obtain ⟨rfl, rfl⟩ := hcut
      go_wp2_with fail
      refine (boundIndex_walk x _).mono ?_
      rintro e w6 ⟨vB, cB, rfl, hcB, rfl⟩
      have HcB := hid hcB
      clear hcB
      go_upto_region 25 with fail
      go_cut [133] from 55 to 283 (fun v wc => v = .bool false ∧ wc = w6)
      case first =>
        as_aux_lemma =>
        have HIn := hid (fun w => inHeap_walk x w)
        by_cases hi : InH x
        · rw [decide_eq_true hi] at HIn
          have d1 : (cB == 0) = true := by rw [HcB.out, decide_eq_true hi]; rfl
          clear hi
          go_wp2_with (go_at_call 20; refine (HIn.out _).mono ?_; rintro e w7 ⟨rfl, rfl⟩)
          go_meet
          case rel => exact ⟨rfl, rfl⟩
        · rw [decide_eq_false hi] at HIn
          obtain ⟨eB, heB⟩ : ∃ e, (x == 98304) = e := ⟨_, rfl⟩
          have d1 : (cB == 0) = eB := by rw [HcB.out, decide_eq_false hi, heB]; rfl
          clear hi
          cases eB
          · go_wp2_with (go_at_call 20; refine (HIn.out _).mono ?_; rintro e w7 ⟨rfl, rfl⟩)
            go_meet
            case rel => exact ⟨rfl, rfl⟩
          · go_wp2_with (go_at_call 20; refine (HIn.out _).mono ?_; rintro e w7 ⟨rfl, rfl⟩)
            go_meet
            case rel => exact ⟨rfl, rfl⟩
      case rest =>
      as_aux_lemma =>
      obtain ⟨rfl, rfl⟩ := hcut
      go_wp2_with fail
      refine (checkRef_walk x _).mono ?_
      rintro e w7 ⟨vR, cR, rfl, hcR, hvR, rfl⟩
      have HcR := hid hcR
      have HvR := hid hvR
      clear hcR hvR
      go_upto_region 28 with fail
      go_cut [157] from 55 to 283 (fun v wc => v = .bool false ∧ wc = w7)
      case first =>
        as_aux_lemma =>
        by_cases h0 : x = 0
        · have d0 : (x == 0) = true := by simp [h0]
          have d1 : (cR == 0) = true := by rw [HcR.out, d0]; rfl
          have d2 : (vR != x) = false := by rw [HvR.out (by simpa using d1)]; simp
          clear h0
          go_wp2_with (go_at_call 11; refine (HWo.out _).mono ?_; rintro e w8 ⟨rfl, rfl⟩)
          go_meet
          case rel => exact ⟨rfl, rfl⟩
        · have d0 : (x == 0) = false := by simp [h0]
          by_cases hg0 : cG = 0
          · have dg : (cG == 0) = true := by simp [hg0]
            have d1 : (cR == 0) = true := by rw [HcR.out, HcG.out, dg]; simp
            have d2 : (vR != x) = false := by rw [HvR.out (by simpa using d1)]; simp
            clear h0 hg0
            go_wp2_with (go_at_call 11; refine (HWo.out _).mono ?_; rintro e w8 ⟨rfl, rfl⟩)
            go_meet
            case rel => exact ⟨rfl, rfl⟩
          · have dg : (cG == 0) = false := by simp [hg0]
            have d1 : (cR == 0) = false := by rw [HcR.out, HcG.out, dg, d0]; rfl
            clear h0 hg0
            go_wp2_with (go_at_call 11; refine (HWo.out _).mono ?_; rintro e w8 ⟨rfl, rfl⟩)
            go_meet
            case rel => exact ⟨rfl, rfl⟩
      case rest =>
      as_aux_lemma =>
      obtain ⟨rfl, rfl⟩ := hcut
      go_wp2_with (go_at_call 22; refine (HNu.out _).mono ?_; rintro e w8 ⟨rfl, rfl⟩)
      refine (addrOfWord_any z _).mono ?_
      rintro e w8 ⟨v1, c1', rfl, hc1, rfl⟩
      go_wp2_with fail
      refine (addrOfGranule_any z _).mono ?_
      rintro e w8 ⟨v2, c2', rfl, hc2, rfl⟩
      go_wp2_with fail
      refine (addrOfLine_any z _).mono ?_
      rintro e w8 ⟨v3, c3', rfl, hc3, rfl⟩
      go_wp2_with fail
      refine (addrOfBlock_any z _).mono ?_
      rintro e w8 ⟨v4, c4', rfl, hc4, rfl⟩
      go_wp2_with fail
      refine (blockOfLine_any z _).mono ?_
      rintro e w8 ⟨v5, c5', rfl, hc5, rfl⟩
      go_wp2_with fail
      refine (firstLine_any z _).mono ?_
      rintro e w8 ⟨v6, c6', rfl, hc6, rfl⟩
      go_upto_region 37 with fail
      go_cut [229] from 55 to 283 (fun v wc => v = .bool false ∧ wc = w8)
      case first =>
        as_aux_lemma =>
        have HI1 := hid (fun w => within_walk z 32768 w)
        have HI2 := hid (fun w => within_walk z 16384 w)
        have HI3 := hid (fun w => within_walk z 2048 w)
        have HI4 := hid (fun w => within_walk z 64 w)
        generalize decide (0 ≤ z ∧ z < 32768) = e1 at *
        generalize decide (0 ≤ z ∧ z < 16384) = e2 at *
        generalize decide (0 ≤ z ∧ z < 2048) = e3 at *
        generalize decide (0 ≤ z ∧ z < 64) = e4 at *
        go_wp2_with (go_at_call 37; first | (with_reducible refine (HI1.out _).mono ?_; rintro e w1 ⟨rfl, rfl⟩) | (with_reducible refine (HI2.out _).mono ?_; rintro e w1 ⟨rfl, rfl⟩) | (with_reducible refine (HI3.out _).mono ?_; rintro e w1 ⟨rfl, rfl⟩) | (with_reducible refine (HI4.out _).mono ?_; rintro e w1 ⟨rfl, rfl⟩))
        go_meet
        case rel => exact ⟨rfl, rfl⟩
      case rest =>
      as_aux_lemma =>
      obtain ⟨rfl, rfl⟩ := hcut
      clear hc1 hc2 hc3 hc4 hc5 hc6
      go_wp2_with fail
      refine (linesFor_any z _).mono ?_
      rintro e w9 ⟨vL, cL, rfl, hcL, hvL, rfl⟩
      have HvL := hid hvL
      clear hvL
      go_wp2_with fail
      refine (blocksFor_any z _).mono ?_
      rintro e w10 ⟨vK, cK, rfl, hcK, hvK, rfl⟩
      have HvK := hid hvK
      clear hvK
      obtain ⟨f, hf⟩ : ∃ f, decide (1 ≤ z ∧ z ≤ 32768) = f := ⟨_, rfl⟩
      rw [hf] at hcL hcK
      have HFf := hid hf
      clear hf
      go_upto_region 41 with fail
      go_cut [36] from 55 to 283 (fun v wc => v = .bool f ∧ wc = w10)
      case first =>
        as_aux_lemma =>
        by_cases h1 : 1 ≤ z
        · have d1 : decide (1 ≤ z) = true := decide_eq_true h1
          by_cases h2 : z ≤ 32768
          · have d2 : decide (z ≤ 32768) = true := decide_eq_true h2
            have hff : f = true := by rw [← HFf.out]; exact decide_eq_true (And.intro h1 h2)
            subst hff
            clear h1 h2
            go_wp2_with fail
            go_meet
            case rel => exact ⟨rfl, rfl⟩
          · have d2 : decide (z ≤ 32768) = false := decide_eq_false h2
            have hff : f = false := by rw [← HFf.out]; exact decide_eq_false (fun h => h2 h.2)
            subst hff
            clear h1 h2
            go_wp2_with fail
            go_meet
            case rel => exact ⟨rfl, rfl⟩
        · have d1 : decide (1 ≤ z) = false := decide_eq_false h1
          have hff : f = false := by rw [← HFf.out]; exact decide_eq_false (fun h => h1 h.1)
          subst hff
          clear h1
          go_wp2_with fail
          go_meet
          case rel => exact ⟨rfl, rfl⟩
      case rest =>
      as_aux_lemma =>
      obtain ⟨rfl, rfl⟩ := hcut
      go_upto_region 44 with fail
      go_cut [282] from 55 to 283 (fun v wc => v = .bool false ∧ Hid (Tri3 w' g oa ob oc wc))
      case first =>
        as_aux_lemma =>
        cases f
        · go_wp2_with fail
          go_meet
          case rel => exact ⟨rfl, HT4⟩
        · obtain ⟨m1, m2⟩ : 1 ≤ z ∧ z ≤ 32768 := by simpa using HFf.out
          have eL := HvL.out ⟨m1, m2⟩
          have eK := HvK.out ⟨m1, m2⟩
          have l1 : 1 ≤ vL := by omega
          have l2 : vL ≤ 2048 := by omega
          have l3 : 1 ≤ vK := by omega
          have l4 : vK ≤ 64 := by omega
          have g1 : decide (z ≤ (vL - 1) * 16) = false := decide_eq_false (by omega)
          have g2 : decide (vL * 16 < z) = false := decide_eq_false (by omega)
          have g3 : decide (z ≤ (vK - 1) * 512) = false := decide_eq_false (by omega)
          have g4 : decide (vK * 512 < z) = false := decide_eq_false (by omega)
          clear eL eK
          go_wp2_with fail
          go_meet
          case rel => exact ⟨rfl, HT4⟩
      case rest =>
      as_aux_lemma =>
      obtain ⟨rfl, HT5⟩ := hcut
      go_wp2
      exact ⟨⟨j + 1, by omega, by go_num, HT5⟩, by simp [intOf]; omega⟩
    · have hj3' : j = 3 := by omega
      subst hj3'
      go_wp2
      first | exact HT | exact hexit _ _ _ _ _ _ _ _ _ _ _ _ _ _ _ _ _ _ _ _ _ _ _ _ _ _ _ _ _ _ _ _ _ _ _ _ _ _ _ _ _ _ _ _ _ _ _ _ _ _ _ _ _ _ _ _ _ _ _ _ _ _ _ _ _ _ _ _ _ _ _ _ _ _ _ _ _ _ _ _ _ _ _ _ _ _ _ _ _ _ _ _ _ _ _ _ _ _ _ _ _ _ _ _ _ _ _ _ _ _ _ _ _ _ _ _ _ _ _ _ _ _ _ _ _ _ _ _ _ _ _ _ _ _ _ _ _ _ _ _ _ _ _ _ _ _ _ _ _ _ _ _ _ _ _ _ _ _ _ _ _ _ _ _ _ _ _ _ _ _ _ _ _ _ _ _ _ _ _ _ _ _ _ _ _ _ _ _ _ _ _ _ _ _ _ _ _ _ _ _ _ _ _ _ _ _ _ _ _ _ _ _ _ _ _ _ _ _ _ _ _ _ _ _ _ _ _ _ _ _ _ _ _ _ _ _ _ _ _ _ _ _ _ _ _ _ _ _ _ _ _ _ _ _ _ _ _ _ _ _ _ _ _ HT

end Go.Proofs.Qxb6500887a
