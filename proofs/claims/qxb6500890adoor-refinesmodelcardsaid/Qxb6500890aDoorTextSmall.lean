/- The walk of textlaw.zzSmall1: what it says yes to has at most 65536 members in all. -/
import Derived.Test.Qxb6500890aDoorTextOps
import Derived.WalkKit
import Derived.WalkSpells
namespace Go.Proofs.Qxb6500890aDoor
open Go.RowKit

def strsW (l : List ByteArray) : Nat := (l.map ByteArray.size).sum
def recsW (l : List (ByteArray × Int)) : Nat := (l.map (fun r => r.1.size)).sum
def opW (o : TOp) : Nat := o.s.size + o.t.size + o.ln + strsW o.list + o.rn + recsW o.recs
def opsW (l : List TOp) : Nat := (l.map opW).sum

def SmallPost (n : Nat) (l : List TOp) (w : World) (e : Ending) (w' : World) : Prop := ∃ r : Bool, e = .returned (.bool r) ∧ w' = w ∧ (r = true → n + opsW l ≤ 65536)
theorem SmallPost.no {n : Nat} {l : List TOp} {w : World} : SmallPost n l w (.returned (.bool false)) w := ⟨false, rfl, rfl, by simp⟩
theorem SmallPost.yes {n : Nat} {l : List TOp} {w : World} (h : n + opsW l ≤ 65536) : SmallPost n l w (.returned (.bool true)) w := ⟨true, rfl, rfl, fun _ => h⟩

set_option maxRecDepth 100000 in
set_option maxHeartbeats 1000000 in
theorem small_walk (a : Option Addr) (n c : Nat) (l : List TOp) (w : World) (hs : Script w a n c l) :
    Calls Tryd.prog 6 #[.slice a n c] w (SmallPost n l w) := by
  have hm : n ≤ 9223372036854775807 := by have := hs.1.2.2.1.1; omega
  by_cases hbig : 65536 < n
  · go_enter Tryd.func6, Tryd.ntmps6
    go_wp2
    go_ret
    exact SmallPost.no
  have HS := (show Hid _ from hs)
  clear hs
  go_enter Tryd.func6, Tryd.ntmps6
  go_wp2
  go_loop [3, 4] (fun t i => ∃ k v : Nat, k ≤ n ∧ i = .int .i64 k ∧ t = .int .i64 v ∧ v ≤ 65536 ∧ v = n + opsW (l.take k)) (fun _ i => n - (intOf i).toNat)
  case atStart => exact ⟨0, n, Nat.zero_le _, rfl, rfl, by omega, by simp [opsW]⟩
  case round =>
    obtain ⟨k, v, hk, rfl, rfl, hv, hve⟩ := hrel
    have HV := (show Hid _ from hve)
    clear hve
    by_cases hlt : k < n
    · obtain ⟨o, ho, b, off, rfl, hb, hc⟩ := HS.out.1.cell hlt
      have hok := HS.out.2 o (List.mem_of_getElem? ho)
      have HT := (show Hid (opsW (l.take (k + 1)) = opsW (l.take k) + opW o) from by
        simp [Hid, opsW, List.take_add_one, ho])
      have HO := (show Hid _ from ho)
      clear ho
      obtain ⟨kind, oa, ob, oc, s, t, la, ln, lc, list, ra, rn, rc, recs⟩ := o
      have c4 : w.cell? ⟨b, off + k * 8 + 4, none⟩ = some (.string s) := hc 4 (by omega)
      have c5 : w.cell? ⟨b, off + k * 8 + 5, none⟩ = some (.string t) := hc 5 (by omega)
      have c6 : w.cell? ⟨b, off + k * 8 + 6, none⟩ = some (.slice la ln lc) := hc 6 (by omega)
      have c7 : w.cell? ⟨b, off + k * 8 + 7, none⟩ = some (.slice ra rn rc) := hc 7 (by omega)
      have b1 : s.size ≤ 140737488351232 := hok.fs
      have b2 : t.size ≤ 140737488351232 := hok.ft
      have b3 : ln ≤ 140737488351232 := hok.list.2.2.1.1
      have b4 : rn ≤ 140737488351232 := hok.recs.2.2.1.1
      have HL := (show Hid (RowOf w 1 strCell la ln lc list ∧ ∀ s ∈ list, s.size ≤ 140737488351232) from ⟨hok.list, hok.fl⟩)
      have HR := (show Hid (RowOf w 2 recCells ra rn rc recs ∧ ∀ r ∈ recs, r.1.size ≤ 140737488351232) from ⟨hok.recs, fun r hr => (hok.fr r hr).1⟩)
      clear hc hok
      go_wp2
      · go_ret; exact SmallPost.no
      · go_ret; exact SmallPost.no
      · go_ret; exact SmallPost.no
      go_loop [3, 5] (fun x i => ∃ m u : Nat, m ≤ ln ∧ i = .int .i64 m ∧ x = .int .i64 u ∧ u ≤ 65536 ∧ u = v + s.size + t.size + ln + strsW (list.take m)) (fun _ i => ln - (intOf i).toNat)
      case atStart => exact ⟨0, v + s.size + t.size + ln, Nat.zero_le _, rfl, by go_num, by omega, by simp [strsW]⟩
      case round =>
        obtain ⟨m, u, hm', rfl, rfl, hu, hue⟩ := hrel
        have HU := (show Hid _ from hue)
        clear hue
        by_cases hlt2 : m < ln
        · obtain ⟨x, hx, b', off', rfl, hb', hc'⟩ := HL.out.1.cell1 hlt2
          have hc1 : w.cell? ⟨b', off' + m, none⟩ = some (.string x) := hc'
          have b5 := HL.out.2 x (List.mem_of_getElem? hx)
          have HX := (show Hid (strsW (list.take (m + 1)) = strsW (list.take m) + x.size) from by
            simp [Hid, strsW, List.take_add_one, hx])
          clear hx hc'
          go_wp2
          · go_ret; exact SmallPost.no
          · exact ⟨⟨m + 1, u + x.size, by omega, by go_num, by go_num, by omega, by rw [HX.out, HU.out]; omega⟩, by simp [intOf]; omega⟩
        · have HM := (show Hid (u = v + s.size + t.size + ln + strsW list) from by
            have := HU.out
            rwa [List.take_of_length_le (by rw [HL.out.1.len]; omega)] at this)
          go_wp2
          · go_ret; exact SmallPost.no
          go_loop [3, 6] (fun x i => ∃ m y : Nat, m ≤ rn ∧ i = .int .i64 m ∧ x = .int .i64 y ∧ y ≤ 65536 ∧ y = u + rn + recsW (recs.take m)) (fun _ i => rn - (intOf i).toNat)
          case atStart => exact ⟨0, u + rn, Nat.zero_le _, rfl, by go_num, by omega, by simp [recsW]⟩
          case round =>
            obtain ⟨m, y, hm', rfl, rfl, hy, hye⟩ := hrel
            have HY := (show Hid _ from hye)
            clear hye
            by_cases hlt3 : m < rn
            · obtain ⟨x, hx, b', off', rfl, hb', hc'⟩ := HR.out.1.cell hlt3
              have hc1 : w.cell? ⟨b', off' + m * 2, none⟩ = some (.string x.1) := hc' 0 (by omega)
              have b5 := HR.out.2 x (List.mem_of_getElem? hx)
              have HX := (show Hid (recsW (recs.take (m + 1)) = recsW (recs.take m) + x.1.size) from by
                simp [Hid, recsW, List.take_add_one, hx])
              clear hx hc'
              go_wp2
              · go_ret; exact SmallPost.no
              · exact ⟨⟨m + 1, y + x.1.size, by omega, by go_num, by go_num, by omega, by rw [HX.out, HY.out]; omega⟩, by simp [intOf]; omega⟩
            · have HZ := (show Hid (y = n + opsW (l.take (k + 1))) from by
                have := HY.out
                rw [List.take_of_length_le (by rw [HR.out.1.len]; omega), HM.out, HV.out] at this
                rw [Hid, HT.out, this]
                simp [opW]
                omega)
              go_wp2
              exact ⟨⟨k + 1, y, by omega, by go_num, by go_num, by omega, HZ.out⟩, by simp [intOf]; omega⟩
    · have HZ := (show Hid (n + opsW l ≤ 65536) from by
        have := HV.out
        rw [List.take_of_length_le (by rw [HS.out.1.len]; omega)] at this
        rw [Hid, ← this]; exact hv)
      go_wp2
      go_ret
      exact SmallPost.yes HZ.out
end Go.Proofs.Qxb6500890aDoor
