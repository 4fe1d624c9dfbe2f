/- The loose calls' closures: what each does to a map of files. -/
import Derived.Test.YtmgnekaokcgmlaaDoorMem
import Derived.RegionTactic
import Derived.BigRegion
import Derived.BigQuiet
import Derived.Deep.QuietTactic
set_option linter.unusedSimpArgs false
set_option linter.unusedVariables false
namespace Go.Proofs.YtmgnekaokcgmlaaDoor
open Go Go.RowKit Go.Maps

theorem bs_extract (l : Str) (k : Nat) : (bs l).extract 0 k = bs (l.take k) := by
  simp [bs, ByteArray.extract_mk]
theorem bs_append (a b : Str) : bs a ++ bs b = bs (a ++ b) := by
  apply ByteArray.ext
  simp [bs]

theorem grown_of_drew {w w' : World} {row : Option Nat} (h : w.drew.grownBy w' row) : w.grownBy w' row := ⟨h.os, h.tape, h.output, h.size, h.block⟩

set_option maxRecDepth 100000 in
set_option maxHeartbeats 400000 in
theorem app_call (w : World) (r x y : Nat) (fs : Files) (n d : Str) (part : Int) (hm : MapIs w r fs) (hx : Box w x (.string (bs n)) 9) (hy : Box w y (.string (bs d)) 9)
    (hp : 0 ≤ part) (hp' : part ≤ 9223372036854775807) (hn : n.length ≤ 32) (hb : ((fget fs n).getD []).length + d.length ≤ 16777216) (hfs : fs.length ≤ 64) :
    Calls Tryd.prog 30 #[.map (some r), .int .i64 part, .pointer (some ⟨x, 0, none⟩), .pointer (some ⟨y, 0, none⟩)] w fun e w' =>
      e = .returned (.tuple #[]) ∧ MapIs w' r ((DC.app n (d.take part.toNat)).run fs) ∧ w.grownBy w' (some r) := by
  have hcx : w.cell? ⟨x, 0, none⟩ = some (.string (bs n)) := cell_of hx 0
  have hcy : w.cell? ⟨y, 0, none⟩ = some (.string (bs d)) := cell_of hy 0
  have hlook := MapIs.look (w := w.drew) hm (k := n) (by simp [maxLen]; omega)
  obtain ⟨w1, hst, hm1, hg1⟩ := MapIs.store (w := w.drew) hm (k := n) (v := (fget fs n).getD [] ++ d.take part.toNat) (by simp [maxLen]; omega) (by simp [maxLen]; omega) (by simp [maxLen]; omega)
  obtain ⟨m, hmle, hmd, hmin⟩ : ∃ m : Nat, m ≤ d.length ∧ d.take part.toNat = d.take m ∧ (if ((bs d).size : Int) < part then ((bs d).size : Int) else part) = (m : Int) := by
    rw [bs_size]
    by_cases h : (d.length : Int) < part
    · exact ⟨d.length, Nat.le_refl _, by rw [List.take_of_length_le (by omega), List.take_length], by rw [if_pos h]⟩
    · exact ⟨part.toNat, by omega, rfl, by rw [if_neg h]; omega⟩
  have hml : (m : Int) ≤ ((bs d).size : Int) := by rw [bs_size]; omega
  have hext : (bs d).extract 0 m = bs (d.take m) := bs_extract d m
  have hcat := bs_append ((fget fs n).getD []) (d.take m)
  have hs1 : (bs ((fget fs n).getD [])).size ≤ 16777216 := by rw [bs_size]; omega
  have hs2 : (bs (d.take m)).size ≤ 16777216 := by rw [bs_size, List.length_take]; omega
  rw [hmd] at hst hm1
  rw [hmd]
  clear hmd
  go_enter Tryd.func30, Tryd.ntmps30
  go_wp2
  go_region
  all_goals (go_end0; exact ⟨rfl, hm1, grown_of_drew hg1⟩)

set_option maxRecDepth 100000 in
set_option maxHeartbeats 400000 in
theorem cut_call (w : World) (r x y : Nat) (fs : Files) (n : Str) (k : Nat) (part : Int) (hm : MapIs w r fs) (hx : Box w x (.string (bs n)) 9) (hy : Box w y (.int .i64 k) 3)
    (hn : n.length ≤ 32) (hk : k ≤ ((fget fs n).getD []).length) (hb : ((fget fs n).getD []).length ≤ 16777216) (hfs : fs.length ≤ 64) :
    Calls Tryd.prog 31 #[.map (some r), .int .i64 part, .pointer (some ⟨x, 0, none⟩), .pointer (some ⟨y, 0, none⟩)] w fun e w' =>
      e = .returned (.tuple #[]) ∧ MapIs w' r ((DC.cut n k).run fs) ∧ w.grownBy w' (some r) := by
  have hcx : w.cell? ⟨x, 0, none⟩ = some (.string (bs n)) := cell_of hx 0
  have hcy : w.cell? ⟨y, 0, none⟩ = some (.int .i64 k) := cell_of hy 0
  have hlook := MapIs.look (w := w.drew) hm (k := n) (by simp [maxLen]; omega)
  obtain ⟨w1, hst, hm1, hg1⟩ := MapIs.store (w := w.drew) hm (k := n) (v := ((fget fs n).getD []).take k) (by simp [maxLen]; omega) (by simp [maxLen]; omega) (by simp [maxLen]; omega)
  have hml : (k : Int) ≤ ((bs ((fget fs n).getD [])).size : Int) := by rw [bs_size]; omega
  have hext : (bs ((fget fs n).getD [])).extract 0 k = bs (((fget fs n).getD []).take k) := bs_extract _ k
  go_enter Tryd.func31, Tryd.ntmps31
  go_wp2
  go_region
  all_goals (go_end0; exact ⟨rfl, hm1, grown_of_drew hg1⟩)

set_option maxRecDepth 100000 in
set_option maxHeartbeats 400000 in
theorem rem_call (w : World) (r x : Nat) (fs : Files) (n : Str) (part : Int) (hm : MapIs w r fs) (hx : Box w x (.string (bs n)) 9)
    (hn : n.length ≤ 32) :
    Calls Tryd.prog 33 #[.map (some r), .int .i64 part, .pointer (some ⟨x, 0, none⟩)] w fun e w' =>
      e = .returned (.tuple #[]) ∧ MapIs w' r ((DC.rem n).run fs) ∧ w.grownBy w' (some r) := by
  have hcx : w.cell? ⟨x, 0, none⟩ = some (.string (bs n)) := cell_of hx 0
  obtain ⟨w1, hst, hm1, hg1⟩ := MapIs.drop hm (k := n) (by simp [maxLen]; omega) 0
  go_enter Tryd.func33, Tryd.ntmps33
  go_wp2
  go_end0
  exact ⟨rfl, hm1, hg1⟩

set_option maxRecDepth 100000 in
set_option maxHeartbeats 400000 in
theorem ren_call (w : World) (r x y : Nat) (fs : Files) (a b : Str) (part : Int) (hm : MapIs w r fs) (hx : Box w x (.string (bs a)) 9) (hy : Box w y (.string (bs b)) 9)
    (ha : a.length ≤ 32) (hb : b.length ≤ 32) (hv : ((fget fs a).getD []).length ≤ 16777216) (hfs : (fdel fs a).length ≤ 64) :
    Calls Tryd.prog 32 #[.map (some r), .int .i64 part, .pointer (some ⟨x, 0, none⟩), .pointer (some ⟨y, 0, none⟩)] w fun e w' =>
      e = .returned (.tuple #[]) ∧ MapIs w' r ((DC.ren a b).run fs) ∧ w.grownBy w' (some r) := by
  obtain ⟨es, ck, hrm⟩ := hm.isMap
  have hxr : x ≠ r := fun e => by subst e; unfold Box at hx; rw [hx] at hrm; cases hrm
  have hyr : y ≠ r := fun e => by subst e; unfold Box at hy; rw [hy] at hrm; cases hrm
  have hcx : w.cell? ⟨x, 0, none⟩ = some (.string (bs a)) := cell_of hx 0
  have hlook := MapIs.look hm (k := a) (by simp [maxLen]; omega)
  obtain ⟨w1, hdel, hm1, hg1⟩ := MapIs.drop hm (k := a) (by simp [maxLen]; omega) 0
  have hy1 : Box w1 y (.string (bs b)) 9 := (hg1.block y (lt_of_heap hy) (fun e => hyr (by simpa using e))).trans hy
  have hcy : w1.cell? ⟨y, 0, none⟩ = some (.string (bs b)) := cell_of hy1 0
  obtain ⟨w2, hst, hm2, hg2⟩ := MapIs.store hm1 (k := b) (v := (fget fs a).getD []) (by simp [maxLen]; omega) (by simp [maxLen]; omega) (by simp [maxLen]; omega)
  go_enter Tryd.func32, Tryd.ntmps32
  go_wp2
  go_end0
  exact ⟨rfl, hm2, hg1.trans hg2⟩

end Go.Proofs.YtmgnekaokcgmlaaDoor
