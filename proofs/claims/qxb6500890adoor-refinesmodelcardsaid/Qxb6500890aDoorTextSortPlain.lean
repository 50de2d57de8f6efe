/- Plain: the stable sort by a key: insertion, merging, runs. No Go in sight. 'lt' is any strict weak order. -/
import Derived.Below
namespace Go.Proofs.Qxb6500890aDoor

section
variable {α : Type} (lt : α → α → Bool)

/-- Put x behind all that are not greater. -/
def ins (x : α) : List α → List α
  | [] => [x]
  | y :: l => if lt x y then x :: y :: l else y :: ins x l
def ssort (l : List α) : List α := l.foldl (fun acc x => ins lt x acc) []
/-- No element stands before an earlier one. -/
def Srt : List α → Prop
  | [] => True
  | x :: l => (∀ y ∈ l, lt y x = false) ∧ Srt l
def mrgIn (x : α) (l : List α) (f : List α → List α) : List α → List α
  | [] => x :: l
  | y :: r => if lt y x then y :: mrgIn x l f r else x :: f (y :: r)
/-- Of two heads the left one goes first unless the right one is less. -/
def mrg : List α → List α → List α
  | [], r => r
  | x :: l, r => mrgIn lt x l (mrg l) r

structure Ord : Prop where
  irr : ∀ x, lt x x = false
  asym : ∀ x y, lt x y = true → lt y x = false
  trans : ∀ x y z, lt x y = false → lt y z = false → lt x z = false

variable {lt}

theorem ins_perm (x : α) : ∀ l, List.Perm (ins lt x l) (x :: l)
  | [] => List.Perm.refl _
  | y :: l => by
    rw [ins]
    split
    · exact List.Perm.refl _
    · exact (List.Perm.cons y (ins_perm x l)).trans (List.Perm.swap x y l)
theorem foldl_ins_perm : ∀ (l acc : List α), List.Perm (l.foldl (fun acc x => ins lt x acc) acc) (acc ++ l)
  | [], acc => by simp
  | x :: l, acc => by
    refine (foldl_ins_perm l (ins lt x acc)).trans ?_
    refine (List.Perm.append_right l (ins_perm x acc)).trans ?_
    simp only [List.cons_append]
    exact List.perm_middle.symm
theorem ssort_perm (l : List α) : List.Perm (ssort lt l) l := by
  have := foldl_ins_perm (lt := lt) l []
  simpa [ssort] using this
theorem ssort_length (l : List α) : (ssort lt l).length = l.length := (ssort_perm l).length_eq
theorem ssort_snoc (l : List α) (x : α) : ssort lt (l ++ [x]) = ins lt x (ssort lt l) := by
  simp [ssort, List.foldl_append]

theorem ins_mem {x y : α} {l : List α} : y ∈ ins lt x l ↔ y = x ∨ y ∈ l := by
  rw [(ins_perm x l).mem_iff]; simp

theorem ins_srt (h : Ord lt) (x : α) : ∀ l, Srt lt l → Srt lt (ins lt x l)
  | [], _ => ⟨by simp, trivial⟩
  | y :: l, hs => by
    rw [ins]
    split
    · rename_i hxy
      refine ⟨fun z hz => ?_, hs⟩
      rcases List.mem_cons.1 hz with rfl | hz
      · exact h.asym _ _ hxy
      · exact h.trans _ _ _ (hs.1 z hz) (h.asym _ _ hxy)
    · rename_i hxy
      refine ⟨fun z hz => ?_, ins_srt h x l hs.2⟩
      rcases ins_mem.1 hz with rfl | hz
      · simpa using hxy
      · exact hs.1 z hz
theorem foldl_srt (h : Ord lt) : ∀ (l acc : List α), Srt lt acc → Srt lt (l.foldl (fun acc x => ins lt x acc) acc)
  | [], _, hs => hs
  | x :: l, acc, hs => foldl_srt h l _ (ins_srt h x acc hs)
theorem ssort_srt (h : Ord lt) (l : List α) : Srt lt (ssort lt l) := foldl_srt h l [] trivial

theorem mrg_cons (x y : α) (l r : List α) : mrg lt (x :: l) (y :: r) = if lt y x then y :: mrg lt (x :: l) r else x :: mrg lt l (y :: r) := rfl
theorem mrg_nil (l : List α) : mrg lt l [] = l := by cases l <;> rfl
theorem mrg_length : ∀ (a b : List α), (mrg lt a b).length = a.length + b.length
  | [], b => by simp [mrg]
  | x :: a, [] => by rw [mrg_nil]; simp
  | x :: a, y :: b => by
    rw [mrg_cons]
    split
    · rw [List.length_cons, mrg_length (x :: a) b]; simp; omega
    · rw [List.length_cons, mrg_length a (y :: b)]; simp; omega

/-- Inserting into the right one of two lists that are merged. -/
theorem mrg_ins (h : Ord lt) (x : α) : ∀ (s t : List α), Srt lt s → Srt lt t → mrg lt s (ins lt x t) = ins lt x (mrg lt s t)
  | [], t, _, _ => rfl
  | a :: s, [], hs, _ => by
    have ih := mrg_ins h x s [] hs.2 trivial
    rw [mrg_nil] at ih
    rw [mrg_nil, ins, mrg_cons, ins]
    split
    · rw [mrg_nil]
    · rw [← ih]; rfl
  | a :: s, b :: t, hs, ht => by
    by_cases hba : lt b a = true
    · -- b goes first
      have e1 : mrg lt (a :: s) (b :: t) = b :: mrg lt (a :: s) t := by rw [mrg_cons, if_pos hba]
      rw [e1, ins, ins]
      by_cases hxb : lt x b = true
      · rw [if_pos hxb, if_pos hxb, mrg_cons]
        have hxa : lt x a = true := by
          cases hh : lt x a with
          | true => rfl
          | false =>
            have := h.trans a b x (h.asym _ _ hba |> fun q => q) (h.asym _ _ hxb)
            have h2 := h.trans b x a (by
              cases h3 : lt b x with
              | false => rfl
              | true => rw [h.asym _ _ h3] at hxb; exact absurd hxb (by decide)) hh
            rw [h2] at hba
            exact absurd hba (by decide)
        rw [if_pos hxa, e1]
      · rw [if_neg hxb, if_neg hxb, mrg_cons, if_pos hba, mrg_ins h x (a :: s) t hs ht.2]
    · -- a goes first
      have e1 : mrg lt (a :: s) (b :: t) = a :: mrg lt s (b :: t) := by rw [mrg_cons, if_neg hba]
      rw [e1]
      by_cases hxa : lt x a = true
      · have hxb : lt x b = true := by
          cases hh : lt x b with
          | true => rfl
          | false =>
            have := h.trans x b a hh (by simpa using hba)
            rw [this] at hxa
            exact absurd hxa (by decide)
        rw [ins, if_pos hxb, mrg_cons, if_pos hxa, ins, if_pos hxa, e1]
      · have e2 : ins lt x (a :: mrg lt s (b :: t)) = a :: ins lt x (mrg lt s (b :: t)) := by rw [ins, if_neg hxa]
        rw [e2, ← mrg_ins h x s (b :: t) hs.2 ht]
        rw [ins]
        split
        · rw [mrg_cons, if_neg hxa]
        · rw [mrg_cons, if_neg hba]

theorem mrg_foldl (h : Ord lt) (s : List α) (hs : Srt lt s) : ∀ (b acc : List α), Srt lt acc → mrg lt s (b.foldl (fun acc x => ins lt x acc) acc) = b.foldl (fun acc x => ins lt x acc) (mrg lt s acc)
  | [], _, _ => rfl
  | x :: b, acc, ha => by
    rw [List.foldl_cons, List.foldl_cons, mrg_foldl h s hs b _ (ins_srt h x acc ha), mrg_ins h x s acc hs ha]

/-- Merging two sorted runs sorts the run of both. -/
theorem mrg_ssort (h : Ord lt) (a b : List α) : mrg lt (ssort lt a) (ssort lt b) = ssort lt (a ++ b) := by
  have := mrg_foldl h (ssort lt a) (ssort_srt h a) b [] trivial
  rw [mrg_nil] at this
  rw [show ssort lt (a ++ b) = b.foldl (fun acc x => ins lt x acc) (ssort lt a) by simp [ssort, List.foldl_append]]
  exact this

/-- Each run of w is sorted by itself. -/
def Runs (lt : α → α → Bool) (w : Nat) (l x : List α) : Prop := x.length = l.length ∧ ∀ j, (x.drop (j * w)).take w = ssort lt ((l.drop (j * w)).take w)

theorem Runs.all {w : Nat} {l x : List α} (h : Runs lt w l x) (hw : l.length ≤ w) : x = ssort lt l := by
  have := h.2 0
  simpa [List.take_of_length_le, h.1, hw] using this

/-- Two neighbouring runs, merged. -/
theorem Runs.two (ho : Ord lt) {w : Nat} {l x : List α} (h : Runs lt w l x) (j : Nat) :
    mrg lt ((x.drop (j * (2 * w))).take w) ((x.drop (j * (2 * w) + w)).take w) = ssort lt ((l.drop (j * (2 * w))).take (2 * w)) := by
  have e1 : j * (2 * w) = (2 * j) * w := by rw [Nat.mul_comm 2 j, Nat.mul_assoc]
  have e2 : j * (2 * w) + w = (2 * j + 1) * w := by rw [e1, Nat.add_mul, Nat.one_mul]
  rw [e2, h.2 (2 * j + 1), e1, h.2 (2 * j), mrg_ssort ho]
  congr 1
  rw [show 2 * w = w + w by omega, List.take_add, List.drop_drop]
  congr 3
  rw [Nat.add_mul, Nat.one_mul]

theorem srt_get (h : Ord lt) : ∀ (l : List α), Srt lt l → ∀ i (hi : i + 1 < l.length), lt l[i + 1] l[i] = false
  | x :: y :: l, hs, 0, _ => hs.1 y (by simp)
  | x :: l, hs, i + 1, hi => by
    have := srt_get h l hs.2 i (by simpa using hi)
    simpa using this
  | [x], _, 0, hi => by simp at hi
  | [], _, _, hi => by simp at hi
end

theorem drop_len {α : Type} {a b : List α} {k : Nat} (h : a.length = k) : (a ++ b).drop k = b := by subst h; exact List.drop_left
theorem take_len {α : Type} {a b : List α} {k : Nat} (h : a.length = k) : (a ++ b).take k = a := by subst h; exact List.take_left

/-- The first 'lo' elements are sorted in runs of w, the others are as they were. -/
def Part {α : Type} (lt : α → α → Bool) (w lo : Nat) (x y : List α) : Prop := y.length = x.length ∧ (∀ j, j * w < lo → (y.drop (j * w)).take w = ssort lt ((x.drop (j * w)).take w)) ∧ y.drop lo = x.drop lo

theorem Part.start {α : Type} {lt : α → α → Bool} {w : Nat} {x : List α} : Part lt w 0 x x := ⟨rfl, fun j h => absurd h (by omega), rfl⟩

theorem Part.runs {α : Type} {lt : α → α → Bool} {w lo : Nat} {x y : List α} (h : Part lt w lo x y) (hlo : x.length ≤ lo) : Runs lt w x y := by
  refine ⟨h.1, fun j => ?_⟩
  by_cases hj : j * w < lo
  · exact h.2.1 j hj
  · have e1 : y.drop (j * w) = [] := List.drop_of_length_le (by rw [h.1]; omega)
    have e2 : x.drop (j * w) = [] := List.drop_of_length_le (by omega)
    rw [e1, e2]; simp [ssort]

/-- A run more. -/
theorem Part.next {α : Type} {lt : α → α → Bool} {w q : Nat} {x y z : List α} (hw : 0 < w) (h : Part lt w (q * w) x y) (hz : z = y.take (q * w) ++ (ssort lt ((x.drop (q * w)).take w) ++ x.drop (q * w + w))) (hlo : q * w ≤ x.length) : Part lt w ((q + 1) * w) x z := by
  have hl1 : (y.take (q * w)).length = q * w := by rw [List.length_take, h.1]; omega
  have hl2 : (ssort lt ((x.drop (q * w)).take w)).length = min w (x.length - q * w) := by rw [ssort_length, List.length_take, List.length_drop]
  have hzl : z.length = x.length := by rw [hz, List.length_append, List.length_append, hl1, hl2, List.length_drop]; omega
  have hd : z.drop (q * w) = ssort lt ((x.drop (q * w)).take w) ++ x.drop (q * w + w) := by
    rw [hz]; exact drop_len hl1
  refine ⟨hzl, fun j hj => ?_, ?_⟩
  · by_cases hjq : j < q
    · have hle : j * w + w ≤ q * w := by rw [← Nat.succ_mul]; exact Nat.mul_le_mul_right w hjq
      have e : (z.drop (j * w)).take w = (y.drop (j * w)).take w := by
        have e2 : z.take (q * w) = y.take (q * w) := by
          rw [hz]; exact take_len hl1
        have e3 : ∀ l : List α, (l.drop (j * w)).take w = ((l.take (q * w)).drop (j * w)).take w := fun l => by
          rw [List.drop_take, List.take_take]
          congr 1
          omega
        rw [e3 z, e2, ← e3 y]
      rw [e]
      exact h.2.1 j (by omega)
    · have hjq' : j = q := by
        have : j * w < (q + 1) * w := hj
        have := Nat.lt_of_mul_lt_mul_right this
        omega
      subst hjq'
      rw [hd]
      by_cases hfull : j * w + w ≤ x.length
      · rw [List.take_append_of_le_length (by rw [hl2]; omega), List.take_of_length_le (by rw [hl2]; omega)]
      · have e2 : x.drop (j * w + w) = [] := List.drop_of_length_le (by omega)
        rw [e2, List.append_nil, List.take_of_length_le (by rw [hl2]; omega)]
  · have e : (q + 1) * w = q * w + w := by rw [Nat.add_mul, Nat.one_mul]
    rw [e, ← List.drop_drop, hd]
    by_cases hfull : q * w + w ≤ x.length
    · have : (ssort lt ((x.drop (q * w)).take w)).length = w := by rw [hl2]; omega
      exact drop_len this
    · have e2 : x.drop (q * w + w) = [] := List.drop_of_length_le (by omega)
      rw [e2, List.append_nil]
      exact List.drop_of_length_le (by rw [hl2]; omega)

/-- The first 'lo' elements are sorted in runs of w; the others are any. -/
def Pre {α : Type} (lt : α → α → Bool) (w lo : Nat) (x y : List α) : Prop := y.length = x.length ∧ ∀ j, j * w < lo → (y.drop (j * w)).take w = ssort lt ((x.drop (j * w)).take w)

theorem Pre.start {α : Type} {lt : α → α → Bool} {w : Nat} {x y : List α} (h : y.length = x.length) : Pre lt w 0 x y := ⟨h, fun j h => absurd h (by omega)⟩

theorem Pre.runs {α : Type} {lt : α → α → Bool} {w lo : Nat} {x y : List α} (h : Pre lt w lo x y) (hlo : x.length ≤ lo) : Runs lt w x y := by
  refine ⟨h.1, fun j => ?_⟩
  by_cases hj : j * w < lo
  · exact h.2 j hj
  · have e1 : y.drop (j * w) = [] := List.drop_of_length_le (by rw [h.1]; omega)
    have e2 : x.drop (j * w) = [] := List.drop_of_length_le (by omega)
    rw [e1, e2]; simp [ssort]

theorem Pre.next {α : Type} {lt : α → α → Bool} {w q : Nat} {x y z r : List α} (hw : 0 < w) (h : Pre lt w (q * w) x y) (hz : z = y.take (q * w) ++ (ssort lt ((x.drop (q * w)).take w) ++ r)) (hr : r.length = x.length - (q * w + w)) (hlo : q * w ≤ x.length) : Pre lt w ((q + 1) * w) x z := by
  have hl1 : (y.take (q * w)).length = q * w := by rw [List.length_take, h.1]; omega
  have hl2 : (ssort lt ((x.drop (q * w)).take w)).length = min w (x.length - q * w) := by rw [ssort_length, List.length_take, List.length_drop]
  have hzl : z.length = x.length := by rw [hz, List.length_append, List.length_append, hl1, hl2, hr]; omega
  have hd : z.drop (q * w) = ssort lt ((x.drop (q * w)).take w) ++ r := by
    rw [hz]; exact drop_len hl1
  refine ⟨hzl, fun j hj => ?_⟩
  by_cases hjq : j < q
  · have hle : j * w + w ≤ q * w := by rw [← Nat.succ_mul]; exact Nat.mul_le_mul_right w hjq
    have e : (z.drop (j * w)).take w = (y.drop (j * w)).take w := by
      have e2 : z.take (q * w) = y.take (q * w) := by
        rw [hz]; exact take_len hl1
      have e3 : ∀ l : List α, (l.drop (j * w)).take w = ((l.take (q * w)).drop (j * w)).take w := fun l => by
        rw [List.drop_take, List.take_take]
        congr 1
        omega
      rw [e3 z, e2, ← e3 y]
    rw [e]
    exact h.2 j (by omega)
  · have hjq' : j = q := by
      have : j * w < (q + 1) * w := hj
      have := Nat.lt_of_mul_lt_mul_right this
      omega
    subst hjq'
    rw [hd]
    by_cases hfull : j * w + w ≤ x.length
    · rw [List.take_append_of_le_length (by rw [hl2]; omega), List.take_of_length_le (by rw [hl2]; omega)]
    · have e2 : r = [] := List.eq_nil_of_length_eq_zero (by omega)
      rw [e2, List.append_nil, List.take_of_length_le (by rw [hl2]; omega)]

theorem Runs.mem {α : Type} {lt : α → α → Bool} {w : Nat} {x y : List α} (h : Runs lt w x y) (hw : 0 < w) {s : α} (hs : s ∈ y) : s ∈ x := by
  obtain ⟨i, hi, rfl⟩ := List.getElem_of_mem hs
  have hm : i % w < w := Nat.mod_lt _ hw
  have hd : i / w * w + i % w = i := by rw [Nat.mul_comm]; exact Nat.div_add_mod i w
  have : y[i] ∈ (y.drop (i / w * w)).take w := by
    refine List.mem_iff_getElem.2 ⟨i % w, by rw [List.length_take, List.length_drop]; omega, ?_⟩
    rw [List.getElem_take, List.getElem_drop]
    simp only [hd]
  rw [h.2] at this
  have := (ssort_perm (lt := lt) _).mem_iff.1 this
  exact List.mem_of_mem_drop (List.mem_of_mem_take this)

end Go.Proofs.Qxb6500890aDoor
