/- The reference's files: what a loose call does to them. -/
import Derived.Test.YtmgnekaokcgmlaaDoorRef2
import Derived.Deep.RegionHeld3
set_option linter.unusedSimpArgs false
set_option linter.unusedVariables false
namespace Go.Proofs.YtmgnekaokcgmlaaDoor
open Go Go.RowKit Go.Maps Go.WideMaps

/-- The cells of a loose call, as the reference keeps it. -/
def rcells : DC → List Value
  | .app n d => [.int .i64 0, .string (bs n), .string (bs d), .int .i64 0]
  | .cut n k => [.int .i64 1, .string (bs n), .string (bs []), .int .i64 k]
  | .ren a b => [.int .i64 2, .string (bs a), .string (bs b), .int .i64 0]
  | .rem n => [.int .i64 3, .string (bs n), .string (bs []), .int .i64 0]
def rval (c : DC) : Value := .agg (rcells c).toArray

theorem FlAt.at_ {w : World} {G : Nat → Prop} {v : Value} {fs : Files} (h : FlAt w G v fs) {i : Nat} {k u : Str} (hi : fs[i]? = some (k, u)) :
    ∃ g cap, v = .slice (some ⟨g, 0, none⟩) fs.length cap ∧ i < fs.length ∧ w.cell? ⟨g, i * 2, none⟩ = some (.string (bs k)) ∧ w.cell? ⟨g, i * 2 + 1, none⟩ = some (.string (bs u)) := by
  obtain ⟨g, cap, h1, _, _, h2, h3⟩ := h.cells i _ hi
  exact ⟨g, cap, h1, (List.getElem?_eq_some_iff.1 hi).1, h2, h3⟩

theorem FRow.lower {B B' : Nat} {w : World} {v : Value} {fs : Files} (h : FRow B w v fs) (hb : B' ≤ B) : FRow B' w v fs := by
  obtain ⟨h1, h2⟩ := h
  rcases h2 with h2 | ⟨g, cap, cur, hv, hg, r⟩
  · exact ⟨h1, .inl h2⟩
  · exact ⟨h1, .inr ⟨g, cap, cur, hv, by omega, r⟩⟩
theorem FindIs.old {fs : Files} {k : Str} {r : Int} (h : FindIs fs k r) : (r = -1 ∧ (fget fs k).getD [] = []) ∨ ∃ i : Nat, r = i ∧ fs[i]? = some (k, (fget fs k).getD []) := by
  rcases h with ⟨h1, h2⟩ | ⟨i, v, h1, h2, h3⟩
  · exact .inl ⟨h1, by rw [h2]; rfl⟩
  · exact .inr ⟨i, h1, by rw [h3]; exact h2⟩

set_option maxRecDepth 100000 in
set_option maxHeartbeats 2000000 in
theorem done_app (w : World) (G : Nat → Prop) (v : Value) (fs : Files) (n d : Str) (h : FlAt w G v fs) (hn : fs.length ≤ 100000) (hd : ((fget fs n).getD []).length + d.length ≤ 16777216) :
    Calls Tryd.prog 55 #[v, rval (.app n d)] w fun e w' => ∃ r, e = .returned r ∧ FRow w.heap.size w' r ((DC.app n d).run fs) ∧ Below w.heap.size w w' := by
  obtain ⟨A, cap, hv⟩ := h.val
  subst hv
  have hB0 : Below w.heap.size w (w.alloc (.cells #[.int .i64 0, .string (bs n), .string (bs d), .int .i64 0] 81)) := Below.alloc (Below.refl _ _) (Nat.le_refl _) _
  have hf := h.below hB0
  have hfind := find_spec _ G _ fs n hf hn
  have hwith := with_spec _ G _ fs n ((fget fs n).getD [] ++ d) hf hn
  have hrun : (DC.app n d).run fs = fput fs n ((fget fs n).getD [] ++ d) := rfl
  rw [hrun]
  clear hrun
  have hold : ∀ r, FindIs fs n r → _ := fun r hr => hr.old
  generalize (fget fs n).getD [] = old at *
  show Calls _ _ #[_, .agg #[.int .i64 0, .string (bs n), .string (bs d), .int .i64 0]] _ _
  have hbox := heap_new w (.cells #[.int .i64 0, .string (bs n), .string (bs d), .int .i64 0] 81)
  have H := Lib.hid (And.intro hf (And.intro hB0 (And.intro hbox hold)))
  have hs : (bs old).size + (bs d).size ≤ 16777216 := by rw [bs_size, bs_size]; exact hd
  have hcat : bs old ++ bs d = bs (old ++ d) := bs_append old d
  clear hf hB0 h hbox hold
  go_enter Tryd.func55, Tryd.ntmps55
  go_wp2_with fail
  refine hfind.mono ?_
  clear hfind
  rintro e w1 ⟨⟨r, rfl, hr⟩, rfl⟩
  rcases H.out.2.2.2 r hr with ⟨rfl, hno⟩ | ⟨i, rfl, hi⟩
  · subst hno
    go_wp2_with fail
    refine hwith.mono ?_
    clear hwith
    rintro e w2 ⟨rr, rfl, hrow, hB⟩
    have HF := Lib.hid (And.intro (hrow.lower (B' := w.heap.size) (by simp)) (H.out.2.1.trans (hB.mono (by simp))))
    clear hrow hB
    go_wp2_with fail
    go_ret
    exact ⟨_, rfl, HF.out.1, HF.out.2⟩
  · obtain ⟨g, cap', he, hil, k0, k1⟩ := H.out.1.at_ hi
    simp only [Value.slice.injEq] at he
    obtain ⟨rfl, -, rfl⟩ := he
    have i1 : (0 : Int) ≤ (i : Int) := by omega
    have i2 : (i : Int) < (fs.length : Int) := by omega
    clear hi hr
    go_wp2_with fail
    refine hwith.mono ?_
    clear hwith
    rintro e w2 ⟨rr, rfl, hrow, hB⟩
    have HF := Lib.hid (And.intro (hrow.lower (B' := w.heap.size) (by simp)) (H.out.2.1.trans (hB.mono (by simp))))
    clear hrow hB
    go_wp2_with fail
    go_ret
    exact ⟨_, rfl, HF.out.1, HF.out.2⟩

set_option maxRecDepth 100000 in
set_option maxHeartbeats 2000000 in
theorem done_cut (w : World) (G : Nat → Prop) (v : Value) (fs : Files) (n : Str) (k : Nat) (h : FlAt w G v fs) (hn : fs.length ≤ 100000) (hfd : fhas fs n = true) (hk : k ≤ ((fget fs n).getD []).length) (hlen : ((fget fs n).getD []).length ≤ 16777216) :
    Calls Tryd.prog 55 #[v, rval (DC.cut n k)] w fun e w' => ∃ r, e = .returned r ∧ FRow w.heap.size w' r ((DC.cut n k).run fs) ∧ Below w.heap.size w w' := by
  obtain ⟨A, cap, hv⟩ := h.val
  subst hv
  have hB0 : Below w.heap.size w (w.alloc (.cells #[.int .i64 1, .string (bs n), .string (bs []), .int .i64 k] 81)) := Below.alloc (Below.refl _ _) (Nat.le_refl _) _
  have hf := h.below hB0
  have hfind := find_spec _ G _ fs n hf hn
  have hwith := fun w' (hb : Below (w.alloc (.cells #[.int .i64 1, .string (bs n), .string (bs []), .int .i64 k] 81)).heap.size (w.alloc (.cells #[.int .i64 1, .string (bs n), .string (bs []), .int .i64 k] 81)) w') => with_spec w' G _ fs n (((fget fs n).getD []).take k) (hf.below hb) hn
  have hrun : (DC.cut n k).run fs = fput fs n (((fget fs n).getD []).take k) := rfl
  rw [hrun]
  clear hrun
  have hold : ∀ r, FindIs fs n r → ∃ i : Nat, r = i ∧ fs[i]? = some (n, (fget fs n).getD []) := fun r hr => by
    rcases hr with ⟨h1, h2⟩ | ⟨i, v, h1, h2, h3⟩
    · rw [fhas_eq, h2] at hfd; cases hfd
    · exact ⟨i, h1, by rw [h3]; exact h2⟩
  clear hfd
  generalize (fget fs n).getD [] = old at *
  show Calls _ _ #[_, .agg #[.int .i64 1, .string (bs n), .string (bs []), .int .i64 k]] _ _
  have hbox := heap_new w (.cells #[.int .i64 1, .string (bs n), .string (bs []), .int .i64 k] 81)
  have H := Lib.hid (And.intro hf (And.intro hB0 (And.intro hbox hold)))
  have hs : (bs old).size = old.length := bs_size old
  have hext : (bs old).extract 0 k = bs (old.take k) := bs_extract old k
  clear hf hB0 h hbox hold
  go_enter Tryd.func55, Tryd.ntmps55
  go_wp2_with fail
  refine hfind.mono ?_
  clear hfind
  rintro e w1 ⟨⟨r, rfl, hr⟩, rfl⟩
  obtain ⟨i, rfl, hi⟩ := H.out.2.2.2 r hr
  obtain ⟨g, cap', he, hil, k0, k1⟩ := H.out.1.at_ hi
  simp only [Value.slice.injEq] at he
  obtain ⟨rfl, -, rfl⟩ := he
  have i1 : (0 : Int) ≤ (i : Int) := by omega
  have i2 : (i : Int) < (fs.length : Int) := by omega
  clear hi hr
  go_upto_region 9 with fail
  have hw2 := hwith _ (Below.refl _ _).drew
  clear hwith
  go_region_with ((go_at_call 54; refine hw2.mono ?_; rintro e w2 ⟨rr, rfl, hrow, hB⟩; have HF := Lib.hid (And.intro (hrow.lower (B' := w.heap.size) (by simp)) (H.out.2.1.trans ((Below.refl _ _).drew.trans (hB.mono (by simp))))); clear hrow hB))
  all_goals (go_wp2_with fail)
  all_goals go_ret
  all_goals exact ⟨_, rfl, HF.out.1, HF.out.2⟩

set_option maxRecDepth 100000 in
set_option maxHeartbeats 2000000 in
theorem done_rem (w : World) (G : Nat → Prop) (v : Value) (fs : Files) (n : Str) (h : FlAt w G v fs) (hn : fs.length ≤ 100000) (hfd : fhas fs n = true) :
    Calls Tryd.prog 55 #[v, rval (DC.rem n)] w fun e w' => ∃ r, e = .returned r ∧ FRow w.heap.size w' r ((DC.rem n).run fs) ∧ Below w.heap.size w w' := by
  obtain ⟨A, cap, hv⟩ := h.val
  subst hv
  have hB0 : Below w.heap.size w (w.alloc (.cells #[.int .i64 3, .string (bs n), .string (bs []), .int .i64 0] 81)) := Below.alloc (Below.refl _ _) (Nat.le_refl _) _
  have hf := h.below hB0
  have hfind := find_spec _ G _ fs n hf hn
  have hwith := without_spec _ G _ fs n hf hn
  have hrun : (DC.rem n).run fs = fdel fs n := rfl
  rw [hrun]
  clear hrun
  have hold : ∀ r, FindIs fs n r → ∃ i : Nat, r = i ∧ fs[i]? = some (n, (fget fs n).getD []) := fun r hr => by
    rcases hr with ⟨h1, h2⟩ | ⟨i, v, h1, h2, h3⟩
    · rw [fhas_eq, h2] at hfd; cases hfd
    · exact ⟨i, h1, by rw [h3]; exact h2⟩
  clear hfd
  generalize (fget fs n).getD [] = old at *
  show Calls _ _ #[_, .agg #[.int .i64 3, .string (bs n), .string (bs []), .int .i64 0]] _ _
  have hbox := heap_new w (.cells #[.int .i64 3, .string (bs n), .string (bs []), .int .i64 0] 81)
  have H := Lib.hid (And.intro hf (And.intro hB0 (And.intro hbox hold)))
  clear hf hB0 h hbox hold
  go_enter Tryd.func55, Tryd.ntmps55
  go_wp2_with fail
  refine hfind.mono ?_
  clear hfind
  rintro e w1 ⟨⟨r, rfl, hr⟩, rfl⟩
  obtain ⟨i, rfl, hi⟩ := H.out.2.2.2 r hr
  obtain ⟨g, cap', he, hil, k0, k1⟩ := H.out.1.at_ hi
  simp only [Value.slice.injEq] at he
  obtain ⟨rfl, -, rfl⟩ := he
  have i1 : (0 : Int) ≤ (i : Int) := by omega
  have i2 : (i : Int) < (fs.length : Int) := by omega
  clear hi hr
  go_wp2_with fail
  refine hwith.mono ?_
  clear hwith
  rintro e w2 ⟨rr, rfl, hrow, hB⟩
  have HF := Lib.hid (And.intro (hrow.lower (B' := w.heap.size) (by simp)) (H.out.2.1.trans (hB.mono (by simp))))
  clear hrow hB
  go_wp2_with fail
  go_ret
  exact ⟨_, rfl, HF.out.1, HF.out.2⟩

set_option maxRecDepth 100000 in
set_option maxHeartbeats 2000000 in
theorem done_ren (w : World) (G : Nat → Prop) (v : Value) (fs : Files) (n b : Str) (h : FlAt w G v fs) (hn : fs.length ≤ 100000) (hfd : fhas fs n = true) :
    Calls Tryd.prog 55 #[v, rval (.ren n b)] w fun e w' => ∃ r, e = .returned r ∧ FRow w.heap.size w' r ((DC.ren n b).run fs) ∧ Below w.heap.size w w' := by
  obtain ⟨A, cap, hv⟩ := h.val
  subst hv
  have hB0 : Below w.heap.size w (w.alloc (.cells #[.int .i64 2, .string (bs n), .string (bs b), .int .i64 0] 81)) := Below.alloc (Below.refl _ _) (Nat.le_refl _) _
  have hf := h.below hB0
  have hfind := find_spec _ G _ fs n hf hn
  have hwo := without_spec _ G _ fs n (hf.below (Below.refl _ _).drew) hn
  have hwith := fun (B : Nat) (r : Value) (w' : World) (hr : FRow B w' r (fdel fs n)) => with_spec w' _ _ (fdel fs n) b ((fget fs n).getD []) hr.flAt (Nat.le_trans (fdel_length_le fs n) hn)
  have hrun : (DC.ren n b).run fs = fput (fdel fs n) b ((fget fs n).getD []) := rfl
  rw [hrun]
  clear hrun
  have hold : ∀ r, FindIs fs n r → ∃ i : Nat, r = i ∧ fs[i]? = some (n, (fget fs n).getD []) := fun r hr => by
    rcases hr with ⟨h1, h2⟩ | ⟨i, v, h1, h2, h3⟩
    · rw [fhas_eq, h2] at hfd; cases hfd
    · exact ⟨i, h1, by rw [h3]; exact h2⟩
  clear hfd
  generalize (fget fs n).getD [] = old at *
  show Calls _ _ #[_, .agg #[.int .i64 2, .string (bs n), .string (bs b), .int .i64 0]] _ _
  have hbox := heap_new w (.cells #[.int .i64 2, .string (bs n), .string (bs b), .int .i64 0] 81)
  have H := Lib.hid (And.intro hf (And.intro hB0 (And.intro hbox hold)))
  clear hf hB0 h hbox hold
  go_enter Tryd.func55, Tryd.ntmps55
  go_wp2_with fail
  refine hfind.mono ?_
  clear hfind
  rintro e w1 ⟨⟨r, rfl, hr⟩, rfl⟩
  obtain ⟨i, rfl, hi⟩ := H.out.2.2.2 r hr
  obtain ⟨g, cap', he, hil, k0, k1⟩ := H.out.1.at_ hi
  simp only [Value.slice.injEq] at he
  obtain ⟨rfl, -, rfl⟩ := he
  have i1 : (0 : Int) ≤ (i : Int) := by omega
  have i2 : (i : Int) < (fs.length : Int) := by omega
  clear hi hr
  go_upto_region 11 with fail
  have HW := Lib.hid hwith
  clear hwith
  go_region_with (first
    | (go_at_call 66; refine hwo.mono ?_; rintro e w2 ⟨rr, rfl, hrow, hB⟩; have q2 : w2.cell? ⟨w.heap.size, 2, none⟩ = some (.string (bs b)) := cell_of ((hB.block w.heap.size (by simp)).trans H.out.2.2.1) 2; have hw2 := HW.out _ _ _ hrow; have HF := Lib.hid (H.out.2.1.trans ((Below.refl _ _).drew.trans (hB.mono (by simp)))); clear hrow hB)
    | (go_at_call 54; refine hw2.mono ?_; rintro e w3 ⟨r3, rfl, hrow, hB⟩; have HG := Lib.hid (And.intro (hrow.lower (B' := w.heap.size) HF.out.size) (HF.out.trans (hB.mono HF.out.size))); clear hrow hB))
  all_goals (go_wp2_with fail)
  all_goals go_ret
  all_goals exact ⟨_, rfl, HG.out.1, HG.out.2⟩
end Go.Proofs.YtmgnekaokcgmlaaDoor
