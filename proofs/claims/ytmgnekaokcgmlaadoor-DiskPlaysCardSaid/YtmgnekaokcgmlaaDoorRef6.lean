/- The reference's disk: New, Sync, Append, Cut, Rename, Remove. -/
import Derived.Test.YtmgnekaokcgmlaaDoorRefN
set_option linter.unusedSimpArgs false
set_option linter.unusedVariables false
namespace Go.Proofs.YtmgnekaokcgmlaaDoor
open Go Go.RowKit Go.Maps Go.WideMaps

set_option maxRecDepth 100000 in
theorem rnew_bad (w : World) (room : Int) (h : room < 0 ∨ 16777216 < room) :
    Calls Tryd.prog 21 #[.int .i64 room] w fun e w' => e = .returned (.pointer none) ∧ w = w' := by
  rcases h with h | h
  · go_enter Tryd.func21, Tryd.ntmps21
    go_wp2
    go_ret
    exact ⟨rfl, rfl⟩
  · have : ¬ room < 0 := by omega
    go_enter Tryd.func21, Tryd.ntmps21
    go_wp2
    go_ret
    exact ⟨rfl, rfl⟩

set_option maxRecDepth 100000 in
theorem rnew_good (w : World) (room : Nat) (h : room ≤ 16777216) :
    Calls Tryd.prog 21 #[.int .i64 room] w fun e w' => e = .returned (.pointer (some ⟨w.heap.size, 0, none⟩)) ∧ RThen (· < w.heap.size) w w.heap.size (freshDS room) w' := by
  have hfin : RThen (· < w.heap.size) w w.heap.size (freshDS room) (w.alloc (.cells #[.int .i64 room, .slice none 0 0, .slice none 0 0, .int .i64 (-1)] 51)) := by
    refine ⟨⟨⟨h, by show (-1 : Int) ≤ -1; omega, by show (-1 : Int) ≤ _; omega, ⟨List.Pairwise.nil, by simp [ftot, freshDS], by simp [freshDS], fun p hp => by cases hp⟩⟩, fun k hk => by simp; omega, fun b => b = w.heap.size, .slice none 0 0, .slice none 0 0, ⟨heap_new w _, ⟨⟨none, 0, rfl⟩, fun i p hp => by simp [freshDS] at hp⟩, ⟨rfl, .inl ⟨rfl, rfl⟩⟩, rfl, fun g hg => by cases hg⟩, fun k hk hk2 => ?_⟩, Keep.alloc (fun k hk => hk) _⟩
    change k = w.heap.size at hk
    change k < w.heap.size at hk2
    omega
  have H := Lib.hid hfin
  clear hfin
  have h1 : ¬ ((room : Int) < 0) := by omega
  have h2 : ¬ ((16777216 : Int) < (room : Int)) := by omega
  go_enter Tryd.func21, Tryd.ntmps21
  go_wp2
  go_ret
  exact ⟨rfl, H.out⟩

/-- What Sync leaves. -/
theorem Rk.settled {K : Nat → Prop} {w w2 : World} {rb : Nat} {s : DS} {G : Nat → Prop} {r : Value} (h : Rk K w rb s) (hf : FlAt w2 G r s.now) (hG : ∀ b, G b → ¬ K b) (hB : Below w.heap.size w w2) :
    RThen K w rb s.settle ((w2.setCell ⟨rb, 1, none⟩ r).setCell ⟨rb, 2, none⟩ (.slice none 0 0)) := by
  obtain ⟨hi, hK, F, vs, vl, hd, hF⟩ := h
  have hh : w2.heap[rb]? = _ := (hB.block rb (lt_of_heap hd.head)).trans hd.head
  have hsz : ((w2.setCell ⟨rb, 1, none⟩ r).setCell ⟨rb, 2, none⟩ (.slice none 0 0)).heap.size = w2.heap.size := by simp [World.setCell]
  have hblk : ∀ k, k ≠ rb → ((w2.setCell ⟨rb, 1, none⟩ r).setCell ⟨rb, 2, none⟩ (.slice none 0 0)).heap[k]? = w2.heap[k]? := fun k hk => (heap_set_other _ hk).trans (heap_set_other _ hk)
  have hf2 := (hf.ne_head hh).kept (w' := (w2.setCell ⟨rb, 1, none⟩ r).setCell ⟨rb, 2, none⟩ (.slice none 0 0)) (by omega) fun b hb _ => hblk b hb.2
  have hs := hB.size
  refine ⟨⟨hi.settle, fun k hk => by rw [hsz]; have := hK k hk; omega, fun b => b = rb ∨ (G b ∧ b ≠ rb), r, .slice none 0 0, ⟨heap_set (heap_set hh 1 r) 2 _, hf2.more fun b hb _ => .inr hb, ⟨rfl, .inl ⟨rfl, rfl⟩⟩, .inl rfl, fun g hg => by cases hg⟩, fun k hk hk2 => ?_⟩, ⟨hB.os, hB.tape, hB.output, by omega, fun k hk => ?_⟩⟩
  · rcases hk with rfl | hk
    · exact hF _ hd.fb hk2
    · exact hG k hk.1 hk2
  · rw [hblk k fun e => hF rb hd.fb (e ▸ hk)]
    exact hB.block k (hK k hk)

set_option maxRecDepth 100000 in
set_option maxHeartbeats 1000000 in
theorem rsync_spec {K : Nat → Prop} (w : World) (rb : Nat) (s : DS) (h : Rk K w rb s) (hl : s.loose.length ≤ 1000000) :
    Calls Tryd.prog 42 #[.pointer (some ⟨rb, 0, none⟩)] w fun e w' => e = .returned (.int .i64 (dSync s).1) ∧ RThen K w rb (dSync s).2 w' := by
  by_cases h0 : s.fuse = 0
  · have hv : dSync s = (60, s) := by unfold dSync; rw [if_pos h0]
    rw [hv]
    have hb := rburns_down w rb s h h0
    have H := Lib.hid h
    clear h hv h0
    go_enter Tryd.func42, Tryd.ntmps42
    go_wp2_with fail
    refine hb.mono ?_
    clear hb
    rintro e w1 ⟨rfl, rfl⟩
    go_wp2
    go_ret
    exact ⟨rfl, H.out, Keep.refl _ _⟩
  · have hv : dSync s = (0, s.burn.settle) := by unfold dSync; rw [if_neg h0]
    rw [hv]
    have hb := rburns_up w rb s h h0
    have hbl : s.burn.loose.length ≤ 1000000 := by rw [burn_loose]; exact hl
    generalize s.burn = s1 at *
    clear h hv h0 hl
    go_enter Tryd.func42, Tryd.ntmps42
    go_wp2_with fail
    refine hb.mono ?_
    clear hb
    rintro e w1 ⟨rfl, hR, hK1⟩
    have hnow := now_spec w1 rb s1 hR hbl
    have HR := Lib.hid (And.intro hR hK1)
    obtain ⟨-, ⟨vs, c1⟩, ⟨A, cap, c2⟩, -, f, hrb⟩ := hR.cellsAt
    clear hR hK1
    go_wp2_with fail
    refine hnow.mono ?_
    clear hnow
    rintro e w2 ⟨r, G, rfl, hfl, hG, hB⟩
    have d1 := (hB.cell (p := ⟨rb, 1, none⟩) hrb).trans c1
    have d2 := (hB.cell (p := ⟨rb, 2, none⟩) hrb).trans c2
    have g1 : w2.frozen? ⟨rb, 1, none⟩ = false := (hB.frozen (p := ⟨rb, 1, none⟩) hrb).trans (f 1)
    have g2 : w2.frozen? ⟨rb, 2, none⟩ = false := (hB.frozen (p := ⟨rb, 2, none⟩) hrb).trans (f 2)
    have HF := Lib.hid (HR.out.1.settled hfl hG hB)
    obtain ⟨A2, cap2, hv⟩ := hfl.val
    subst hv
    clear hfl hG hB f c1 c2
    go_wp2
    go_ret
    exact ⟨rfl, HF.out.1, HR.out.2.trans HF.out.2⟩

theorem cells_new (w : World) (xs : List Value) (t : TypeId) : ∀ (j : Nat) (u : Value), xs[j]? = some u → (w.alloc (.cells xs.toArray t)).cell? ((⟨w.heap.size, 0, none⟩ : Addr).add j) = some u := by
  intro j u hj
  rw [Addr.add_lit, Nat.zero_add, cell_of (heap_new w (.cells xs.toArray t)) j]
  simpa using hj
theorem infoRCall : (Tryd.prog.info? 81).map (fun i => (i.zero, i.size, i.bytes)) = some (some (.agg #[.int .i64 0, .string ⟨#[]⟩, .string ⟨#[]⟩, .int .i64 0]), 4, 48) := by kernel_rfl

/-- What a push leaves. -/
theorem rpushed {K F : Nat → Prop} {w w2 : World} {rb : Nat} {s : DS} {vs vl v2 : Value} {c : DC} {o : Obj} (hi : Inv s) (hK : ∀ k, K k → k < w.heap.size) (hd : RefIn w F rb s vs vl) (hF : ∀ k, F k → ¬ K k)
    (hok : c.ok s.now) (hfo : FOk s.room (c.run s.now)) (hl : w2.ownsRow 0 81 4 v2 (s.loose.length + 1) (lcells s.loose ++ rcells c)) (hg : (w.alloc o).grownBy w2 vl.ownBlock)
    (hloc : v2.ownBlock = vl.ownBlock ∨ v2.ownBlock = some (w.alloc o).heap.size) : RThen K w rb (s.push c) (w2.setCell ⟨rb, 2, none⟩ v2) := by
  have hrb := lt_of_heap hd.head
  have hne := row_apart_of hd.head hd.loose (by decide)
  have hsz : (w2.setCell ⟨rb, 2, none⟩ v2).heap.size = w2.heap.size := by simp [World.setCell]
  have hs : w.heap.size + 1 ≤ w2.heap.size := by have := hg.size; simpa using this
  have hblk : ∀ k, k < w.heap.size → vl.ownBlock ≠ some k → w2.heap[k]? = w.heap[k]? := fun k hk hk2 => (hg.block k (by simp; omega) fun e => hk2 e.symm).trans (Below.heap_alloc w o k hk)
  have hh : w2.heap[rb]? = _ := (hblk rb hrb fun e => hne rb e rfl).trans hd.head
  have hv2 : ∀ g, v2.ownBlock = some g → g ≠ rb := by
    intro g hgg
    rcases hloc with h | h
    · rw [h] at hgg; exact hne g hgg
    · rw [h] at hgg; cases hgg; simp; omega
  have hfl : FlAt (w2.setCell ⟨rb, 2, none⟩ v2) F vs s.sure := by
    have h1 : FlAt w (fun b => F b ∧ b ≠ rb ∧ vl.ownBlock ≠ some b) vs s.sure := (hd.sure.ne_head hd.head).apart.more fun b hb _ => ⟨hb.1.1, hb.1.2, fun e => by
      obtain ⟨_, cur, hc⟩ := hb
      exact row_apart_of hc hd.loose (by decide) b e rfl⟩
    exact (h1.kept (w' := w2) (by omega) fun b hb hl => hblk b hl hb.2.2).kept (by omega) (fun b hb _ => heap_set_other _ hb.2.1) |>.more fun b hb _ => hb.1
  have hnew : ∀ g, v2.ownBlock = some g → F g ∨ w.heap.size ≤ g := fun g hgg => by
    rcases hloc with h | h
    · rw [h] at hgg; exact .inl (hd.fl g hgg)
    · rw [h] at hgg; cases hgg; exact .inr (by simp)
  refine ⟨⟨hi.push hok hfo, fun k hk => by rw [hsz]; have := hK k hk; omega, fun b => F b ∨ w.heap.size ≤ b, vs, v2, ⟨heap_set hh 2 v2, hfl.more fun b hb _ => .inl hb, ?_, .inl hd.fb, hnew⟩, fun k hk hk2 => ?_⟩, ⟨hg.os, hg.tape, hg.output, by omega, fun k hk => ?_⟩⟩
  · have e1 : (s.push c).loose.length = s.loose.length + 1 := by simp [DS.push]
    have e2 : lcells (s.push c).loose = lcells s.loose ++ rcells c := by simp [DS.push, lcells]
    rw [e1, e2]
    exact ownsRow_of_block hl fun g hgg => heap_set_other _ (hv2 g hgg)
  · rcases hk with hk | hk
    · exact hF k hk hk2
    · have := hK k hk2; omega
  · have hkn : k ≠ rb := fun e => hF rb hd.fb (e ▸ hk)
    rw [heap_set_other _ hkn]
    exact hblk k (hK k hk) fun e => hF k (hd.fl k e) hk
end Go.Proofs.YtmgnekaokcgmlaaDoor
