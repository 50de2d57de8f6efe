/- RestWalksTheSame: the plain law. -/
import Derived.Test.Qxb6500891aPtWkS
import Derived.Test.Qxb6500891aPtWkA
import Derived.Test.Qxb6500891aPtInv
namespace Go.Proofs.Qxb6500891a
open Go.RowKit
set_option linter.unusedSimpArgs false
set_option linter.unusedVariables false

def flg : List (List Nat) → Bool → List (List Nat × Bool)
  | [], _ => []
  | [n], nd => [(n, nd)]
  | n :: m :: r, nd => (n, true) :: flg (m :: r) nd
theorem flg_fst : ∀ (ns : List (List Nat)) (nd : Bool), (flg ns nd).map Prod.fst = ns
  | [], _ => rfl
  | [n], nd => rfl
  | n :: m :: r, nd => by rw [flg, List.map_cons, flg_fst (m :: r) nd]
theorem flg_last : ∀ (ns : List (List Nat)) (nd : Bool), ns ≠ [] → ∃ n, (flg ns nd).getLast? = some (n, nd)
  | [], _, h => absurd rfl h
  | [n], nd, _ => ⟨n, rfl⟩
  | n :: m :: r, nd, _ => by
    obtain ⟨k, hk⟩ := flg_last (m :: r) nd (by simp)
    refine ⟨k, ?_⟩
    rw [flg]
    cases hf : flg (m :: r) nd with
    | nil => rw [hf] at hk; simp at hk
    | cons a b => rw [List.getLast?_cons_cons, ← hf]; exact hk
theorem jn_pre (r : List (List Nat)) : ∀ (a b : List Nat), r.foldl (fun acc m => acc ++ 47 :: m) (a ++ b) = a ++ r.foldl (fun acc m => acc ++ 47 :: m) b := by
  induction r with
  | nil => intro a b; rfl
  | cons x r ih => intro a b; rw [List.foldl_cons, List.foldl_cons, List.append_assoc, ih]
theorem jn_cons (n m : List Nat) (r : List (List Nat)) : jn (n :: m :: r) = n ++ 47 :: jn (m :: r) := by
  show List.foldl (fun acc m => acc ++ 47 :: m) (n ++ 47 :: m) r = _
  rw [show n ++ 47 :: m = (n ++ [47]) ++ m by simp, jn_pre]
  simp [jn]
def ndB (nd : Bool) : List Nat := if nd then [47] else []
structure NmsOk (ns : List (List Nat)) : Prop where
  ok : ∀ n ∈ ns, n ≠ [] ∧ cleanB n ∧ n.length ≤ 32
theorem split_jn : ∀ (ns : List (List Nat)) (nd : Bool), ns ≠ [] → NmsOk ns → splitV (jn ns ++ ndB nd) = flg ns nd
  | [], _, h, _ => absurd rfl h
  | [n], nd, _, h => by
    have h1 := h.ok n (by simp)
    have h2 : ∀ x ∈ n, x ≠ 47 := fun x hx => (h1.2.1 x hx).2
    cases nd with
    | false =>
      show splitV (n ++ []) = [(n, false)]
      rw [List.append_nil]
      exact splitV_last h1.1 h2
    | true =>
      show splitV (n ++ 47 :: []) = [(n, true)]
      rw [splitV_word h1.1 h2, splitV_nil]
  | n :: m :: r, nd, _, h => by
    have h1 := h.ok n (by simp)
    have h2 : ∀ x ∈ n, x ≠ 47 := fun x hx => (h1.2.1 x hx).2
    rw [jn_cons, List.append_assoc, List.cons_append, splitV_word h1.1 h2, split_jn (m :: r) nd (by simp) ⟨fun k hk => h.ok k (by simp at hk ⊢; exact .inr hk)⟩]
    rfl
theorem jn_mem : ∀ (ns : List (List Nat)) (x : Nat), x ∈ jn ns → x = 47 ∨ ∃ n ∈ ns, x ∈ n
  | [], x, h => by simp [jn] at h
  | [n], x, h => .inr ⟨n, by simp, h⟩
  | n :: m :: r, x, h => by
    rw [jn_cons] at h
    rcases List.mem_append.1 h with h | h
    · exact .inr ⟨n, by simp, h⟩
    · rcases List.mem_cons.1 h with h | h
      · exact .inl h
      · rcases jn_mem (m :: r) x h with h | ⟨k, h1, h2⟩
        · exact .inl h
        · exact .inr ⟨k, by simp at h1 ⊢; exact .inr h1, h2⟩
theorem jn_head {ns : List (List Nat)} (hne : ns ≠ []) (h : NmsOk ns) : ∃ x r, jn ns = x :: r ∧ x ≠ 47 := by
  match ns, hne with
  | [n], _ =>
    have h1 := h.ok n (by simp)
    cases n with
    | nil => exact absurd rfl h1.1
    | cons x r => exact ⟨x, r, rfl, (h1.2.1 x (by simp)).2⟩
  | n :: m :: k, _ =>
    have h1 := h.ok n (by simp)
    cases n with
    | nil => exact absurd rfl h1.1
    | cons x r => exact ⟨x, r ++ 47 :: jn (m :: k), by rw [jn_cons]; rfl, (h1.2.1 x (by simp)).2⟩
theorem good_rest {ns : List (List Nat)} {nd : Bool} (hne : ns ≠ []) (h : NmsOk ns) (hl : (jn ns ++ ndB nd).length ≤ 255) : GoodP (jn ns ++ ndB nd) := by
  obtain ⟨x, r, hx, _⟩ := jn_head hne h
  refine ⟨by rw [hx]; simp, hl, fun y hy => ?_, fun c hc => ?_⟩
  · rcases List.mem_append.1 hy with hy | hy
    · rcases jn_mem ns y hy with rfl | ⟨n, h1, h2⟩
      · decide
      · exact ((h.ok n h1).2.1 y h2).1
    · unfold ndB at hy
      split at hy
      · simp at hy; omega
      · cases hy
  · rw [split_jn ns nd hne h] at hc
    have : c.1 ∈ ns := by
      have h1 := List.mem_map_of_mem (f := Prod.fst) hc
      rw [flg_fst] at h1
      exact h1
    exact (h.ok _ this).2.2

theorem topN_snoc (ls : List Lvl) (L : Lvl) : topN (ls ++ [L]) 0 = nmsL L ++ topN ls 0 := by simp [topN]
theorem nmsL_ne {L : Lvl} (h : L.nx < L.sp.length) : nmsL L ≠ [] := by
  intro e
  have : (nmsL L).length = L.sp.length - L.nx := by simp [nmsL]
  rw [e] at this
  simp at this
  omega
theorem topN_empty {cs : List Value} {S : WS} (hk : WOk cs S) : topN S.lv 0 = [] ↔ S.lv = [] := by
  constructor
  · intro h
    rcases List.eq_nil_or_concat S.lv with hv | ⟨ls, L, hv⟩
    · exact hv
    · rw [List.concat_eq_append] at hv
      have hL : S.lv[ls.length]? = some L := by rw [hv, List.getElem?_append_right (by omega)]; simp
      rw [hv, topN_snoc] at h
      exact absurd (List.append_eq_nil_iff.1 h).1 (nmsL_ne (hk.lv _ L hL).lt)
  · intro h; rw [h]; rfl
theorem nms_ok {cs : List Value} {S : WS} (hk : WOk cs S) : NmsOk (topN S.lv 0) := by
  refine ⟨fun n hn => ?_⟩
  simp only [topN, List.drop_zero, List.mem_flatMap, List.mem_reverse] at hn
  obtain ⟨L, hL, hn⟩ := hn
  obtain ⟨k, hk'⟩ := List.mem_iff_getElem?.1 hL
  have hlo := hk.lv k L hk'
  unfold nmsL at hn
  obtain ⟨s, hs, rfl⟩ := List.mem_map.1 hn
  have hso := hlo.path.cp.ok s (List.mem_of_mem_drop hs)
  have hlen := sub_len (a := s.a) hso.le
  have := hso.lt
  have := hso.sh
  exact ⟨fun e => by rw [e] at hlen; simp at hlen; omega, hso.cl, by omega⟩
theorem nms_b {cs : List Value} {S : WS} (hk : WOk cs S) : ∀ n ∈ topN S.lv 0, ∀ x ∈ n, x < 256 := by
  intro n hn
  simp only [topN, List.drop_zero, List.mem_flatMap, List.mem_reverse] at hn
  obtain ⟨L, hL, hn⟩ := hn
  obtain ⟨k, hk'⟩ := List.mem_iff_getElem?.1 hL
  have hlo := hk.lv k L hk'
  unfold nmsL at hn
  obtain ⟨s, hs, rfl⟩ := List.mem_map.1 hn
  exact fun x hx => hlo.path.bytes x (List.mem_of_mem_drop (List.mem_of_mem_take hx))
theorem restB_ne {lv : List Lvl} (h : topN lv 0 ≠ []) : restB lv = jn (topN lv 0) ++ ndB (ndK lv 0) := by
  unfold restB ndB
  cases ht : topN lv 0 with
  | nil => exact absurd ht h
  | cons a b => simp
theorem restB_nil {lv : List Lvl} (h : topN lv 0 = []) : restB lv = [] := by
  unfold restB
  rw [h]
  simp [jn]
def compOf (n : List Nat) (nd la : Bool) : List Value := compC n (clsL n) (hashL 2166136261 n) nd la
/-- What the next component is, by what is left. -/
inductive NextV (S : WS) (C : List Value) (b : Bool) (S' : WS) : Prop
  | none : S.lv = [] → b = false → C = compC [] 0 0 false false → S'.lv = [] → NextV S C b S'
  | some (n : List Nat) : topN S.lv 0 = n :: topN S'.lv 0 → b = true → C = compOf n (if topN S'.lv 0 = [] then ndK S.lv 0 else true) (topN S'.lv 0).isEmpty → (S'.lv ≠ [] → ndK S'.lv 0 = ndK S.lv 0) → S'.steps = S.steps + 1 → NextV S C b S'
structure NextG (S : WS) (C : List Value) (b : Bool) (S' : WS) : Prop where
  len : C.length = 37
  one : ∀ v ∈ C, v.oneCell' = true
  neq : ∀ w, (binOp .neq 40 (.agg C.toArray) (.agg C.toArray)).run Try.prog w = .ok (.bool false) w
  inv : WInv S'
  v : NextV S C b S'
theorem last_sl {cs : List Value} {o : Nat} {l : List Nat} {sp : List Sp} (hp : PathOk cs o l sp) {i : Nat} {s : Sp} (hs : sp[i]? = some s) (hi : i + 1 = sp.length) : s.sl = (l.getLast? == some 47) := by
  have h1 : (splitV l).getLast? = some (vwS l s) := by
    rw [← hp.vw, List.getLast?_eq_getElem?, List.length_map, List.getElem?_map, show sp.length - 1 = i by omega, hs]
    rfl
  exact splitV_lastflag h1
theorem next_view {cs : List Value} {S : WS} (hk : WOk cs S) (hi : WInv S) : ∃ C b S', NextG S C b S' ∧ ∀ g t ds w, Blk w g t ds → WOk ds S →
    Calls Try.prog 37 #[.pointer (some ⟨g, 0, none⟩)] w (fun e w' => NextP g t C b S' w e w') ∧
    Calls Try.prog 36 #[.pointer (some ⟨g, 0, none⟩)] w (fun e w' => e = .returned (.tuple #[.agg C.toArray, .bool b]) ∧ Below w.heap.size w w') := by
  rcases List.eq_nil_or_concat S.lv with hv | ⟨ls, L, hv⟩
  · refine ⟨compC [] 0 0 false false, false, { S with tk := false }, ⟨rfl, one_comp _ _ _ _ _, fun w => neq_comp [] (by simp) 0 0 false false w, ?_, .none hv rfl rfl hv⟩, fun g t ds w hb hd => ⟨next_nil g t ds S w hb hd hv, peek_nil g t ds S w hb hd hv⟩⟩
    exact ⟨hi.dl, hi.l8, hi.sum, hi.nd, fun h => (by cases h)⟩
  · rw [List.concat_eq_append] at hv
    have hL : S.lv[ls.length]? = some L := by rw [hv, List.getElem?_append_right (by omega)]; simp
    have hlo := hk.lv _ L hL
    have hlt := hlo.lt
    obtain ⟨s, hs⟩ : ∃ s, L.sp[L.nx]? = some s := ⟨_, List.getElem?_eq_getElem hlt⟩
    have hso := hlo.path.cp.ok s (List.mem_of_getElem? hs)
    have hsub : (sub L.l s.a s.b).length ≤ 32 := by rw [sub_len hso.le]; exact hso.sh
    have hsl : L.nx + 1 < L.sp.length → s.sl = true := fun h => hlo.path.slash L.nx s hs h
    have hinv := hi.next hv hlt hsl
    have h9 := hi.d9
    have hst : S.steps ≤ 1152 := by have := hi.sum; have := hi.l8; omega
    have hnm : nmsL L = sub L.l s.a s.b :: (L.sp.drop (L.nx + 1)).map fun s => sub L.l s.a s.b := by
      unfold nmsL
      rw [List.drop_eq_getElem_cons hlt, (List.getElem?_eq_some_iff.1 hs).2]
      rfl
    refine ⟨cOf ls L s, true, nextS S ls L s, ⟨compC_len hsub _ _ _ _, one_comp _ _ _ _ _, fun w => neq_comp _ hsub _ _ _ _ w, hinv, ?_⟩, fun g t ds w hb hd => ⟨next_walk g t ds S w hb hd ls L s hv hs h9 hst, peek_walk g t ds S w hb hd ls L s hv hs h9⟩⟩
    have hcls := hso.cls
    have hlsne : ls ≠ [] → L.nd = true ∧ topN ls 0 ≠ [] := fun hne => by
      have h1 : 1 ≤ ls.length := by cases ls with | nil => exact absurd rfl hne | cons _ _ => simp
      refine ⟨hi.nd ls.length L h1 hL, fun e => ?_⟩
      rcases List.eq_nil_or_concat ls with h2 | ⟨ks, M, h2⟩
      · exact hne h2
      · rw [List.concat_eq_append] at h2
        have hM : S.lv[ks.length]? = some M := by rw [hv, h2, List.getElem?_append_left (by simp), List.getElem?_append_right (by omega)]; simp
        rw [h2, topN_snoc] at e
        exact absurd (List.append_eq_nil_iff.1 e).1 (nmsL_ne (hk.lv _ M hM).lt)
    have hnd0 : ls ≠ [] → ndK ls 0 = ndK S.lv 0 := fun hne => by
      unfold ndK
      rw [hv, List.getElem?_append_left (by cases ls with | nil => exact absurd rfl hne | cons _ _ => simp)]
    by_cases he : L.nx + 1 = L.sp.length
    · have hlv : (nextS S ls L s).lv = ls := by show lvOf ls L = ls; unfold lvOf; rw [if_pos he]
      refine .some (sub L.l s.a s.b) ?_ rfl ?_ ?_ rfl
      · rw [hlv, hv, topN_snoc, hnm, List.drop_of_length_le (by omega)]
        rfl
      · rw [hlv]
        unfold cOf compOf
        rw [← hcls]
        have hnd : ndOf L s = if topN ls 0 = [] then ndK S.lv 0 else true := by
          unfold ndOf
          rw [if_pos he]
          by_cases hls : ls = []
          · rw [hls, if_pos (by rfl), hv, hls]
            show _ = ((L.l.getLast? == some 47) || L.nd)
            rw [last_sl hlo.path hs he]
          · obtain ⟨h1, h2⟩ := hlsne hls
            rw [if_neg h2, h1, Bool.or_true]
        have hla : (decide (L.nx + 1 = L.sp.length) && ls.isEmpty) = (topN ls 0).isEmpty := by
          rw [decide_eq_true he, Bool.true_and]
          by_cases hls : ls = []
          · rw [hls]; rfl
          · obtain ⟨_, h2⟩ := hlsne hls
            rw [Bool.eq_iff_iff, List.isEmpty_iff, List.isEmpty_iff]
            exact ⟨fun h => absurd h hls, fun h => absurd h h2⟩
        rw [hnd, hla]
      · rw [hlv]
        exact hnd0
    · have hlv : (nextS S ls L s).lv = ls ++ [{ L with nx := L.nx + 1 }] := by show lvOf ls L = _; unfold lvOf; rw [if_neg he]
      have hne2 : topN (ls ++ [{ L with nx := L.nx + 1 }]) 0 ≠ [] := by
        rw [topN_snoc]
        intro e
        exact absurd (List.append_eq_nil_iff.1 e).1 (nmsL_ne (show L.nx + 1 < L.sp.length by omega))
      refine .some (sub L.l s.a s.b) ?_ rfl ?_ ?_ rfl
      · rw [hlv, hv, topN_snoc, topN_snoc, hnm]
        rfl
      · rw [hlv]
        unfold cOf compOf
        rw [← hcls, if_neg hne2]
        have hnd : ndOf L s = true := by unfold ndOf; rw [if_neg he]; exact hsl (by omega)
        have hla : (decide (L.nx + 1 = L.sp.length) && ls.isEmpty) = (topN (ls ++ [{ L with nx := L.nx + 1 }]) 0).isEmpty := by
          rw [decide_eq_false he, Bool.false_and]
          cases ht : topN (ls ++ [{ L with nx := L.nx + 1 }]) 0 with
          | nil => exact absurd ht hne2
          | cons _ _ => rfl
        rw [hnd, hla]
      · rw [hlv]
        intro _
        by_cases hls : ls = []
        · rw [hv, hls]; rfl
        · rw [← hnd0 hls]
          unfold ndK
          rw [List.getElem?_append_left (by cases ls with | nil => exact absurd rfl hls | cons _ _ => simp)]
/-- Two walks that have the same components left. -/
structure Sim (A B : WS) : Prop where
  ns : topN A.lv 0 = topN B.lv 0
  nd : A.lv ≠ [] → ndK A.lv 0 = ndK B.lv 0
theorem Sim.next {cA cB : List Value} {A B A' B' : WS} {C D : List Value} {b d : Bool} (hA : WOk cA A) (hB : WOk cB B) (h : Sim A B) (ha : NextV A C b A') (hb : NextV B D d B') : C = D ∧ b = d ∧ (b = true → A'.steps = A.steps + 1) ∧ ((∃ ds, WOk ds A') → Sim A' B') := by
  cases ha with
  | none h1 h2 h3 h4 =>
    have hBn : B.lv = [] := (topN_empty hB).1 (by rw [← h.ns]; exact (topN_empty hA).2 h1)
    cases hb with
    | none k1 k2 k3 k4 => exact ⟨by rw [h3, k3], by rw [h2, k2], fun e => (by rw [h2] at e; cases e), fun _ => ⟨by rw [h4, k4], fun e => absurd h4 e⟩⟩
    | some n k1 k2 k3 k4 k5 => rw [(topN_empty hB).2 hBn] at k1; cases k1
  | some n h1 h2 h3 h4 h5 =>
    cases hb with
    | none k1 k2 k3 k4 => rw [h.ns, (topN_empty hB).2 k1] at h1; cases h1
    | some m k1 k2 k3 k4 k5 =>
      have hns := h.ns
      rw [h1, k1] at hns
      injection hns with e1 e2
      have hAne : A.lv ≠ [] := fun e => by rw [(topN_empty hA).2 e] at h1; cases h1
      have hnd := h.nd hAne
      refine ⟨by rw [h3, k3, e1, e2, hnd], by rw [h2, k2], fun _ => h5, fun ⟨ds, hds⟩ => ⟨e2, fun e => ?_⟩⟩
      rw [h4 e, hnd]
      symm
      apply k4
      intro e'
      apply e
      apply (topN_empty hds).1
      rw [e2, e']
      rfl
/-- A walk begun with what is left of another. -/
theorem Sim.fresh {cs ds : List Value} {S F : WS} {o : Nat} {sp : List Sp} (hk : WOk cs S) (hne : topN S.lv 0 ≠ []) (hp : PathOk ds o (restB S.lv) sp) (hc : (sp = [] ∧ F.lv = []) ∨ (sp ≠ [] ∧ F.lv = [⟨restB S.lv, sp, 0, false⟩])) : Sim S F := by
  have hsp := split_jn (topN S.lv 0) (ndK S.lv 0) hne (nms_ok hk)
  rw [← restB_ne hne, ← hp.vw] at hsp
  rcases hc with ⟨h1, _⟩ | ⟨_, h2⟩
  · rw [h1] at hsp
    obtain ⟨n, hn⟩ := flg_last (topN S.lv 0) (ndK S.lv 0) hne
    rw [← hsp] at hn
    simp at hn
  · refine ⟨?_, fun _ => ?_⟩
    · rw [h2, show ([⟨restB S.lv, sp, 0, false⟩] : List Lvl) = [] ++ [⟨restB S.lv, sp, 0, false⟩] from rfl, topN_snoc]
      show _ = nmsL _ ++ []
      rw [List.append_nil]
      unfold nmsL
      dsimp only
      rw [List.drop_zero, ← flg_fst (topN S.lv 0) (ndK S.lv 0), ← hsp, List.map_map]
      rfl
    · rw [h2]
      show _ = (((restB S.lv).getLast? == some 47) || false)
      rw [Bool.or_false]
      obtain ⟨n, hn⟩ := flg_last (topN S.lv 0) (ndK S.lv 0) hne
      rw [← hsp, hp.vw] at hn
      exact splitV_lastflag hn
theorem rest_good {cs : List Value} {S : WS} (hk : WOk cs S) (hne : topN S.lv 0 ≠ []) (hl : (restB S.lv).length ≤ 255) : GoodP (restB S.lv) ∧ ((restB S.lv).head? == some 47) = false := by
  rw [restB_ne hne] at hl ⊢
  refine ⟨good_rest hne (nms_ok hk) hl, ?_⟩
  obtain ⟨x, r, hx, h47⟩ := jn_head hne (nms_ok hk)
  rw [hx]
  simp [h47]
theorem rest_zero {cs : List Value} {S : WS} (hk : WOk cs S) : ((restB S.lv).length = 0) ↔ S.lv = [] := by
  constructor
  · intro h
    apply Classical.byContradiction
    intro hne
    have hne2 : topN S.lv 0 ≠ [] := fun e => hne ((topN_empty hk).1 e)
    rw [restB_ne hne2] at h
    obtain ⟨x, r, hx, _⟩ := jn_head hne2 (nms_ok hk)
    rw [hx] at h
    simp at h
  · intro h
    rw [restB_nil ((topN_empty hk).2 h)]
    rfl
end Go.Proofs.Qxb6500891a
