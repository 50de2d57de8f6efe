/- Scripts as bytes: the plain side. -/
import Derived.Test.Qxb6500889aDoorMuP1
namespace Go.Proofs.Qxb6500889aDoor
set_option linter.unusedSimpArgs false
set_option linter.unusedVariables false
def nx : List Nat → Nat × List Nat
  | [] => (0, [])
  | b :: r => (b, r)
def wd : Nat → List Nat → Nat × List Nat
  | 0, l => (0, l)
  | n + 1, l => ((nx l).1 + 256 * (wd n (nx l).2).1, (wd n (nx l).2).2)
def ar (l : List Nat) : Nat × List Nat := if (nx l).1 = 254 then wd 2 (nx l).2 else if (nx l).1 = 255 then wd 8 (nx l).2 else nx l
def ari (k : Nat) : Nat := [2, 2, 3, 2, 3, 1, 0, 0, 0].getD k 0
def ars : Nat → List Nat → List Nat × List Nat
  | 0, l => ([], l)
  | n + 1, l => ((ar l).1 :: (ars n (ar l).2).1, (ars n (ar l).2).2)
def opOf (ac k : Nat) (p : List Nat) : OpP := ⟨ac, k, p.getD 0 0, p.getD 1 0, p.getD 2 0⟩
def dst (l : List Nat) : OpP × List Nat :=
  if (nx l).1 % 7 < 4 then (opOf ((nx l).1 % 7) ((nx (nx l).2).1 % 9) (ars (ari ((nx (nx l).2).1 % 9)) (nx (nx l).2).2).1, (ars (ari ((nx (nx l).2).1 % 9)) (nx (nx l).2).2).2)
  else (⟨(nx l).1 % 7, 0, 0, 0, 0⟩, (nx l).2)
def decF : Nat → List Nat → List OpP
  | 0, _ => []
  | f + 1, l => if l = [] then [] else (dst l).1 :: decF f (dst l).2
def dec (l : List Nat) : List OpP := decF l.length l
def le (n v : Nat) : List Nat := (List.range n).map fun j => v / 256 ^ j % 256
def enA (v : Nat) : List Nat := if v < 254 then [v] else if v < 65536 then 254 :: le 2 v else 255 :: le 8 v
def en1 (o : OpP) : List Nat := (o.ac % 7) :: (if o.ac % 7 < 4 then (o.k % 9) :: ([o.a, o.b, o.c].take (ari (o.k % 9))).flatMap enA else [])
def enc (s : List OpP) : List Nat := s.flatMap en1
def tidy (o : OpP) : OpP := if o.ac % 7 < 4 then opOf (o.ac % 7) (o.k % 9) ([o.a, o.b, o.c].take (ari (o.k % 9))) else ⟨o.ac % 7, 0, 0, 0, 0⟩
def By (l : List Nat) : Prop := ∀ b ∈ l, b < 256
/- lengths -/
theorem nx_len (l : List Nat) : (nx l).2.length = l.length - 1 := by cases l <;> simp [nx]
theorem wd_len (n : Nat) : ∀ l : List Nat, (wd n l).2.length = l.length - n := by
  induction n with
  | zero => intro l; simp [wd]
  | succ n ih => intro l; simp only [wd, ih, nx_len]; omega
theorem ar_len (l : List Nat) : (ar l).2.length ≤ l.length - 1 ∧ l.length ≤ (ar l).2.length + 9 := by
  unfold ar
  split
  · rw [wd_len, nx_len]; omega
  · split
    · rw [wd_len, nx_len]; omega
    · rw [nx_len]; omega
theorem ars_len (n : Nat) : ∀ l : List Nat, (ars n l).2.length ≤ l.length ∧ l.length ≤ (ars n l).2.length + 9 * n := by
  induction n with
  | zero => intro l; simp [ars]
  | succ n ih => intro l; simp only [ars]; have := ih (ar l).2; have := ar_len l; omega
theorem ari_le (k : Nat) : ari k ≤ 3 := by
  unfold ari
  match k with
  | 0 | 1 | 2 | 3 | 4 | 5 | 6 | 7 | 8 => decide
  | k + 9 => simp
theorem dst_len (l : List Nat) (h : l ≠ []) : (dst l).2.length < l.length ∧ l.length ≤ (dst l).2.length + 29 := by
  have hl : 0 < l.length := List.length_pos_iff.2 h
  unfold dst
  split
  · have h1 := ars_len (ari ((nx (nx l).2).1 % 9)) (nx (nx l).2).2
    have h2 := ari_le ((nx (nx l).2).1 % 9)
    have h3 := nx_len l
    have h4 := nx_len (nx l).2
    dsimp only
    omega
  · rw [nx_len]; omega
theorem decF_any : ∀ (f g : Nat) (l : List Nat), l.length ≤ f → l.length ≤ g → decF f l = decF g l := by
  intro f
  induction f with
  | zero =>
    intro g l h1 h2
    have : l = [] := List.length_eq_zero_iff.1 (by omega)
    subst this
    cases g <;> simp [decF]
  | succ f ih =>
    intro g l h1 h2
    by_cases hl : l = []
    · subst hl; cases g <;> simp [decF]
    · have hp : 0 < l.length := List.length_pos_iff.2 hl
      cases g with
      | zero => omega
      | succ g =>
        simp only [decF, if_neg hl]
        have := dst_len l hl
        rw [ih g _ (by omega) (by omega)]
theorem dec_nil : dec [] = [] := rfl
theorem dec_cons {l : List Nat} (h : l ≠ []) : dec l = (dst l).1 :: dec (dst l).2 := by
  have hp : 0 < l.length := List.length_pos_iff.2 h
  have hd := dst_len l h
  unfold dec
  obtain ⟨f, hf⟩ : ∃ f, l.length = f + 1 := ⟨l.length - 1, by omega⟩
  rw [hf]
  simp only [decF, if_neg h]
  rw [decF_any f (dst l).2.length _ (by omega) (Nat.le_refl _)]
theorem dec_len : ∀ (n : Nat) (l : List Nat), l.length = n → (dec l).length ≤ l.length ∧ l.length ≤ 29 * (dec l).length := by
  intro n
  induction n using Nat.strongRecOn with
  | ind n ih =>
    intro l hl
    by_cases h : l = []
    · subst h; simp [dec_nil]
    · have hd := dst_len l h
      have := ih (dst l).2.length (by omega) _ rfl
      rw [dec_cons h, List.length_cons]
      omega
/- numbers -/
theorem nx_by {l : List Nat} (h : By l) : (nx l).1 < 256 ∧ By (nx l).2 := by
  cases l with
  | nil => exact ⟨by show 0 < 256; omega, h⟩
  | cons b r => exact ⟨h b (by simp), fun x hx => h x (List.mem_cons_of_mem _ hx)⟩
theorem wd_by (n : Nat) : ∀ {l : List Nat}, By l → (wd n l).1 < 256 ^ n ∧ By (wd n l).2 := by
  induction n with
  | zero => intro l h; exact ⟨by simp [wd], h⟩
  | succ n ih =>
    intro l h
    obtain ⟨h1, h2⟩ := nx_by h
    obtain ⟨h3, h4⟩ := ih h2
    refine ⟨?_, h4⟩
    simp only [wd]
    rw [Nat.pow_succ]
    omega
theorem ar_by {l : List Nat} (h : By l) : (ar l).1 < 18446744073709551616 ∧ By (ar l).2 := by
  obtain ⟨h1, h2⟩ := nx_by h
  unfold ar
  split
  · obtain ⟨h3, h4⟩ := wd_by 2 h2
    exact ⟨by omega, h4⟩
  · split
    · obtain ⟨h3, h4⟩ := wd_by 8 h2
      exact ⟨by omega, h4⟩
    · exact ⟨by omega, h2⟩
theorem ars_by (n : Nat) : ∀ {l : List Nat}, By l → (∀ x ∈ (ars n l).1, x < 18446744073709551616) ∧ By (ars n l).2 ∧ (ars n l).1.length = n := by
  induction n with
  | zero => intro l h; exact ⟨by simp [ars], h, rfl⟩
  | succ n ih =>
    intro l h
    obtain ⟨h1, h2⟩ := ar_by h
    obtain ⟨h3, h4, h5⟩ := ih h2
    refine ⟨fun x hx => ?_, h4, by simp only [ars, List.length_cons, h5]⟩
    rcases List.mem_cons.1 hx with rfl | hx
    · exact h1
    · exact h3 x hx
theorem getD_lt {l : List Nat} (h : ∀ x ∈ l, x < 18446744073709551616) (i : Nat) : l.getD i 0 < 18446744073709551616 := by
  rw [List.getD_eq_getElem?_getD]
  cases hx : l[i]? with
  | none => simp
  | some x => exact h x (List.mem_of_getElem? hx)
/-- A step that bytes can say. -/
structure WfO (o : OpP) : Prop where
  b : OpB o
  ac : o.ac < 7
  hi : 4 ≤ o.ac → o.k = 0 ∧ o.a = 0 ∧ o.b = 0 ∧ o.c = 0
  k : o.ac < 4 → o.k < 9 ∧ (ari o.k = 0 → o.a = 0) ∧ (ari o.k ≤ 1 → o.b = 0) ∧ (ari o.k ≤ 2 → o.c = 0)
theorem getD_past {l : List Nat} {i n : Nat} (h : l.length = n) (hi : n ≤ i) : l.getD i 0 = 0 := by
  rw [List.getD_eq_getElem?_getD, List.getElem?_eq_none (by omega)]; rfl
theorem opOf_wf {ac k : Nat} {p : List Nat} (ha : ac < 4) (hk : k < 9) (hp : ∀ x ∈ p, x < 18446744073709551616) (hl : p.length = ari k) : WfO (opOf ac k p) := by
  refine ⟨⟨by show ac < 256; omega, by show k < 256; omega, getD_lt hp 0, getD_lt hp 1, getD_lt hp 2⟩, by show ac < 7; omega, fun h => absurd (show 4 ≤ ac from h) (by omega), fun _ => ⟨hk, fun h => ?_, fun h => ?_, fun h => ?_⟩⟩
  · exact getD_past hl (Nat.le_of_eq h)
  · exact getD_past hl h
  · exact getD_past hl h
theorem dst_wf {l : List Nat} (h : By l) : WfO (dst l).1 ∧ By (dst l).2 := by
  obtain ⟨h1, h2⟩ := nx_by h
  obtain ⟨h3, h4⟩ := nx_by h2
  unfold dst
  split
  · rename_i hlt
    obtain ⟨h5, h6, h7⟩ := ars_by (ari ((nx (nx l).2).1 % 9)) h4
    exact ⟨opOf_wf hlt (Nat.mod_lt _ (by omega)) h5 h7, h6⟩
  · rename_i hlt
    have hm : (nx l).1 % 7 < 7 := Nat.mod_lt _ (by omega)
    exact ⟨⟨⟨by dsimp only; omega, by dsimp only; omega, by dsimp only; omega, by dsimp only; omega, by dsimp only; omega⟩, hm, fun _ => ⟨rfl, rfl, rfl, rfl⟩, fun h => absurd h hlt⟩, h2⟩
theorem dec_wf : ∀ (n : Nat) (l : List Nat), l.length = n → By l → ∀ o ∈ dec l, WfO o := by
  intro n
  induction n using Nat.strongRecOn with
  | ind n ih =>
    intro l hl hb o ho
    by_cases h : l = []
    · subst h; rw [dec_nil] at ho; cases ho
    · rw [dec_cons h] at ho
      rcases List.mem_cons.1 ho with rfl | ho
      · exact (dst_wf hb).1
      · exact ih _ (by have := dst_len l h; omega) _ rfl (dst_wf hb).2 o ho
/- round trip -/
theorem le_succ (n v : Nat) : le (n + 1) v = v % 256 :: le n (v / 256) := by
  unfold le
  rw [List.range_succ_eq_map, List.map_cons, List.map_map]
  simp only [Nat.pow_zero, Nat.div_one, List.cons.injEq, true_and]
  apply List.map_congr_left
  intro j _
  simp only [Function.comp]
  rw [Nat.pow_succ', Nat.div_div_eq_div_mul]
theorem wd_le (n : Nat) : ∀ (v : Nat) (r : List Nat), v < 256 ^ n → wd n (le n v ++ r) = (v, r) := by
  induction n with
  | zero => intro v r h; have : v = 0 := by simpa using h
            subst this; rfl
  | succ n ih =>
    intro v r h
    rw [le_succ, List.cons_append]
    simp only [wd, nx]
    rw [ih (v / 256) r (by rw [Nat.pow_succ] at h; exact Nat.div_lt_of_lt_mul (by omega))]
    simp only [Prod.mk.injEq, and_true]
    omega
theorem ar_lit (b : Nat) (r : List Nat) : ar (b :: r) = if b = 254 then wd 2 r else if b = 255 then wd 8 r else (b, r) := rfl
theorem ar_enA {v : Nat} (r : List Nat) (h : v < 18446744073709551616) : ar (enA v ++ r) = (v, r) := by
  unfold enA
  split
  · rw [List.cons_append, List.nil_append, ar_lit, if_neg (by omega), if_neg (by omega)]
  · split
    · rw [List.cons_append, ar_lit, if_pos rfl, wd_le 2 v r (by omega)]
    · rw [List.cons_append, ar_lit, if_neg (by decide), if_pos rfl, wd_le 8 v r (by omega)]
theorem ars_enA : ∀ (vs r : List Nat), (∀ v ∈ vs, v < 18446744073709551616) → ars vs.length (vs.flatMap enA ++ r) = (vs, r)
  | [], r, _ => rfl
  | v :: vs, r, h => by
    rw [List.flatMap_cons, List.append_assoc, List.length_cons]
    simp only [ars]
    rw [ar_enA _ (h v (by simp)), ars_enA vs r (fun x hx => h x (List.mem_cons_of_mem _ hx))]
theorem take_len {o : OpP} {n : Nat} (h : n ≤ 3) : ([o.a, o.b, o.c].take n).length = n := by rw [List.length_take]; simp; omega
theorem dst_en1 {o : OpP} (r : List Nat) (h : OpB o) : dst (en1 o ++ r) = (tidy o, r) := by
  have hm : o.ac % 7 % 7 = o.ac % 7 := Nat.mod_mod _ _
  have hk : o.k % 9 % 9 = o.k % 9 := Nat.mod_mod _ _
  unfold en1 tidy dst
  by_cases hlt : o.ac % 7 < 4
  · simp only [if_pos hlt, List.cons_append, nx, hm, hk]
    have hl := take_len (o := o) (ari_le (o.k % 9))
    have := ars_enA ([o.a, o.b, o.c].take (ari (o.k % 9))) r (fun v hv => by
      have := List.mem_of_mem_take hv
      simp only [List.mem_cons, List.not_mem_nil, or_false] at this
      rcases this with rfl | rfl | rfl
      · exact h.a
      · exact h.b
      · exact h.c)
    rw [hl] at this
    rw [this]
  · simp only [if_neg hlt, List.cons_append, List.nil_append, nx, hm]
theorem dec_enc : ∀ (s : List OpP), (∀ o ∈ s, OpB o) → dec (enc s) = s.map tidy
  | [], _ => rfl
  | o :: s, h => by
    have e : enc (o :: s) = en1 o ++ enc s := List.flatMap_cons
    have hne : en1 o ++ enc s ≠ [] := by unfold en1; simp
    rw [e, dec_cons hne, dst_en1 _ (h o (by simp)), List.map_cons, dec_enc s (fun x hx => h x (List.mem_cons_of_mem _ hx))]
theorem getD_take {l : List Nat} {i n : Nat} : (l.take n).getD i 0 = if i < n then l.getD i 0 else 0 := by
  rw [List.getD_eq_getElem?_getD, List.getElem?_take]
  split
  · rw [List.getD_eq_getElem?_getD]
  · rfl
theorem tidy_wf {o : OpP} (h : WfO o) : tidy o = o := by
  obtain ⟨ac, k, a, b, c⟩ := o
  have h1 : ac % 7 = ac := Nat.mod_eq_of_lt h.ac
  unfold tidy
  dsimp only
  rw [h1]
  by_cases hlt : ac < 4
  · obtain ⟨k1, k2, k3, k4⟩ := h.k hlt
    have hk : k % 9 = k := Nat.mod_eq_of_lt k1
    rw [if_pos hlt, hk]
    unfold opOf
    rw [getD_take, getD_take, getD_take]
    dsimp only at k2 k3 k4
    simp only [OpP.mk.injEq, true_and]
    refine ⟨?_, ?_, ?_⟩
    · split
      · rfl
      · exact (k2 (by omega)).symm
    · split
      · rfl
      · exact (k3 (by omega)).symm
    · split
      · rfl
      · exact (k4 (by omega)).symm
  · obtain ⟨k1, k2, k3, k4⟩ := h.hi (Nat.le_of_not_lt hlt)
    dsimp only at k1 k2 k3 k4
    subst k1 k2 k3 k4
    rw [if_neg hlt]
theorem dec_again {l : List Nat} (h : By l) : dec (enc (dec l)) = dec l := by
  have hw := dec_wf _ l rfl h
  rw [dec_enc _ (fun o ho => (hw o ho).b)]
  have : (dec l).map tidy = (dec l).map id := List.map_congr_left (fun o ho => tidy_wf (hw o ho))
  rw [this, List.map_id]
/- beginnings -/
theorem nx_app {p : List Nat} (q : List Nat) (h : (nx p).2 ≠ []) : nx (p ++ q) = ((nx p).1, (nx p).2 ++ q) := by
  cases p with
  | nil => exact absurd rfl h
  | cons b r => rfl
theorem wd_nil (n : Nat) : wd n [] = (0, []) := by
  induction n with
  | zero => rfl
  | succ n ih => simp only [wd, nx, ih]
theorem wd_app (n : Nat) : ∀ {p : List Nat} (q : List Nat), (wd n p).2 ≠ [] → wd n (p ++ q) = ((wd n p).1, (wd n p).2 ++ q) := by
  induction n with
  | zero => intro p q h; rfl
  | succ n ih =>
    intro p q h
    have h1 : (nx p).2 ≠ [] := fun e => h (by simp only [wd, e, wd_nil])
    simp only [wd]
    rw [nx_app q h1]
    dsimp only
    rw [ih q h]
theorem ar_app {p : List Nat} (q : List Nat) (h : (ar p).2 ≠ []) : ar (p ++ q) = ((ar p).1, (ar p).2 ++ q) := by
  have h1 : (nx p).2 ≠ [] := fun e => h (by
    unfold ar
    split
    · rw [e, wd_nil]
    · split
      · rw [e, wd_nil]
      · exact e)
  unfold ar at h ⊢
  rw [nx_app q h1]
  dsimp only
  split
  · rename_i hc; rw [if_pos hc] at h; exact wd_app 2 q h
  · rename_i hc
    rw [if_neg hc] at h
    split
    · rename_i hd; rw [if_pos hd] at h; exact wd_app 8 q h
    · rfl
theorem ar_nil : ar [] = (0, []) := rfl
theorem ars_nil (n : Nat) : (ars n []).2 = [] := by
  induction n with
  | zero => rfl
  | succ n ih => simp only [ars, ar_nil, ih]
theorem ars_app (n : Nat) : ∀ {p : List Nat} (q : List Nat), (ars n p).2 ≠ [] → ars n (p ++ q) = ((ars n p).1, (ars n p).2 ++ q) := by
  induction n with
  | zero => intro p q h; rfl
  | succ n ih =>
    intro p q h
    have h1 : (ar p).2 ≠ [] := fun e => h (by simp only [ars, e, ars_nil])
    simp only [ars]
    rw [ar_app q h1]
    dsimp only
    rw [ih q h]
theorem dst_app {p : List Nat} (q : List Nat) (h : (dst p).2 ≠ []) : dst (p ++ q) = ((dst p).1, (dst p).2 ++ q) := by
  have h1 : (nx p).2 ≠ [] := fun e => h (by
    unfold dst
    split
    · rw [e]; exact ars_nil _
    · exact e)
  unfold dst at h ⊢
  rw [nx_app q h1]
  dsimp only
  by_cases hlt : (nx p).1 % 7 < 4
  · rw [if_pos hlt] at h
    rw [if_pos hlt, if_pos hlt]
    dsimp only at h
    have h2 : (nx (nx p).2).2 ≠ [] := fun e => h (by rw [e]; exact ars_nil _)
    rw [nx_app q h2]
    dsimp only
    rw [ars_app _ q h]
  · rw [if_neg hlt, if_neg hlt]
theorem dec_app : ∀ (n : Nat) (p q : List Nat), p.length = n → (dec p).length ≤ (dec (p ++ q)).length ∧ ∀ i, i + 1 < (dec p).length → (dec p)[i]? = (dec (p ++ q))[i]? := by
  intro n
  induction n using Nat.strongRecOn with
  | ind n ih =>
    intro p q hl
    by_cases h : p = []
    · subst h
      exact ⟨by simp [dec_nil], fun i hi => by simp [dec_nil] at hi⟩
    · have hne : p ++ q ≠ [] := by simp [h]
      rw [dec_cons h, dec_cons hne]
      by_cases he : (dst p).2 = []
      · rw [he, dec_nil]
        exact ⟨by simp, fun i hi => by simp at hi⟩
      · rw [dst_app q he]
        dsimp only
        obtain ⟨k1, k2⟩ := ih _ (by have := dst_len p h; omega) (dst p).2 q rfl
        refine ⟨by simp only [List.length_cons]; omega, fun i hi => ?_⟩
        cases i with
        | zero => rfl
        | succ i =>
          simp only [List.getElem?_cons_succ]
          exact k2 i (by simp only [List.length_cons] at hi; omega)
theorem dec_take (l : List Nat) (c : Nat) : (dec (l.take c)).length ≤ (dec l).length ∧ ∀ i, i + 1 < (dec (l.take c)).length → (dec (l.take c))[i]? = (dec l)[i]? := by
  have := dec_app _ (l.take c) (l.drop c) rfl
  rw [List.take_append_drop] at this
  exact this
theorem le_by (n v : Nat) : By (le n v) := by
  intro b hb
  obtain ⟨j, _, rfl⟩ := List.mem_map.1 hb
  exact Nat.mod_lt _ (by omega)
theorem enA_by (v : Nat) : By (enA v) := by
  unfold enA
  split
  · intro b hb; simp at hb; omega
  · split
    · intro b hb
      rcases List.mem_cons.1 hb with rfl | hb
      · omega
      · exact le_by _ _ b hb
    · intro b hb
      rcases List.mem_cons.1 hb with rfl | hb
      · omega
      · exact le_by _ _ b hb
theorem en1_by (o : OpP) : By (en1 o) := by
  intro b hb
  unfold en1 at hb
  rcases List.mem_cons.1 hb with rfl | hb
  · omega
  split at hb
  · rcases List.mem_cons.1 hb with rfl | hb
    · omega
    · obtain ⟨v, _, hv⟩ := List.mem_flatMap.1 hb
      exact enA_by v b hv
  · cases hb
theorem enc_by (s : List OpP) : By (enc s) := by
  intro b hb
  obtain ⟨o, _, ho⟩ := List.mem_flatMap.1 hb
  exact en1_by o b ho
theorem enA_len (v : Nat) : (enA v).length ≤ 9 := by
  unfold enA
  split
  · simp
  · split <;> simp [le]
theorem en1_len (o : OpP) : (en1 o).length ≤ 29 := by
  unfold en1
  rw [List.length_cons]
  split
  · rw [List.length_cons]
    have h1 := ari_le (o.k % 9)
    have h2 : (([o.a, o.b, o.c].take (ari (o.k % 9))).flatMap enA).length ≤ ([o.a, o.b, o.c].take (ari (o.k % 9))).length * 9 := by
      generalize [o.a, o.b, o.c].take (ari (o.k % 9)) = l
      induction l with
      | nil => simp
      | cons v l ih => rw [List.flatMap_cons, List.length_append, List.length_cons]; have := enA_len v; omega
    rw [take_len h1] at h2
    omega
  · simp
theorem enc_len (s : List OpP) : (enc s).length ≤ 29 * s.length := by
  unfold enc
  induction s with
  | nil => simp
  | cons o s ih => rw [List.flatMap_cons, List.length_append, List.length_cons]; have := en1_len o; omega
end Go.Proofs.Qxb6500889aDoor
