/- A step on both disks, the rest: fuse, crash, alter, and nothing. -/
import Derived.Test.YtmgnekaokcgmlaaDoorPlay
set_option linter.unusedSimpArgs false
set_option linter.unusedVariables false
namespace Go.Proofs.YtmgnekaokcgmlaaDoor
open Go Go.RowKit Go.Maps Go.WideMaps

theorem both_fuse_d {K : Nat → Prop} {w : World} {db rb : Nat} {s t : DS} (n : Int) (hn : n ≤ 9223372036854775807) (h : Both K w db rb s t) :
    Calls Tryd.prog 19 #[.pointer (some ⟨db, 0, none⟩), .int .i64 n] w fun e w' => e = .returned (.int .i64 0) ∧ Both K w' db rb (dFuse s n) t ∧ Keep K w w' := by
  obtain ⟨L, hD, hC⟩ := h.disk
  exact (fuse_spec w db s n hD hn).mono fun e w' ⟨he, ht⟩ => ⟨he, hC _ _ ht⟩
theorem both_fuse_r {K : Nat → Prop} {w : World} {db rb : Nat} {s t : DS} (n : Int) (hn : n ≤ 9223372036854775807) (h : Both K w db rb s t) :
    Both K (w.setCell ⟨rb, 3, none⟩ (.int .i64 (max n (-1)))) db rb s (dFuse t n) ∧ Keep K w (w.setCell ⟨rb, 3, none⟩ (.int .i64 (max n (-1)))) := by
  obtain ⟨L, hR, hC⟩ := h.ref
  exact hC _ _ (hR.setFuse (max n (-1)) (by omega) (by omega))
theorem Both.refFuse {K : Nat → Prop} {w : World} {db rb : Nat} {s t : DS} (h : Both K w db rb s t) : w.frozen? ⟨rb, 3, none⟩ = false ∧ w.cell? ⟨rb, 3, none⟩ = some (.int .i64 t.fuse) ∧ rb < w.heap.size := by
  obtain ⟨L, hR, -⟩ := h.ref
  obtain ⟨-, -, -, c3, f, hrb⟩ := hR.cellsAt
  exact ⟨f 3, c3, hrb⟩
theorem both_crash_d {K : Nat → Prop} {w : World} {db rb : Nat} {s t : DS} (n m : Int) (hn1 : -9223372036854775808 ≤ n) (hn2 : n ≤ 9223372036854775807) (hm1 : -9223372036854775808 ≤ m) (hm2 : m ≤ 9223372036854775807) (hl : s.loose.length ≤ 100000) (h : Both K w db rb s t) :
    Calls Tryd.prog 18 #[.pointer (some ⟨db, 0, none⟩), .int .i64 n, .int .i64 m] w fun e w' => e = .returned (.int .i64 0) ∧ Both K w' db rb (dCrash s n m) t ∧ Keep K w w' := by
  obtain ⟨L, hD, hC⟩ := h.disk
  exact (crash_spec w db s n m hD (by omega) hn1 hn2 hm1 hm2).mono fun e w' ⟨he, ht⟩ => ⟨he, hC _ _ ht⟩
theorem both_crash_r {K : Nat → Prop} {w : World} {db rb : Nat} {s t : DS} (n m : Int) (hn1 : -9223372036854775808 ≤ n) (hn2 : n ≤ 9223372036854775807) (hm1 : -9223372036854775808 ≤ m) (hm2 : m ≤ 9223372036854775807) (hl : t.loose.length ≤ 100000) (h : Both K w db rb s t) :
    Calls Tryd.prog 43 #[.pointer (some ⟨rb, 0, none⟩), .int .i64 n, .int .i64 m] w fun e w' => e = .returned (.tuple #[]) ∧ Both K w' db rb s (dCrash t n m) ∧ Keep K w w' := by
  obtain ⟨L, hD, hC⟩ := h.ref
  exact (rcrash_spec w rb t n m hD hl hn1 hn2 hm1 hm2).mono fun e w' ⟨he, ht⟩ => ⟨he, hC _ _ ht⟩
theorem both_alter_d {K : Nat → Prop} {w : World} {db rb : Nat} {s t : DS} (n : Str) (at_ : Int) (x : UInt8) (hn : n.length ≤ maxLen) (h : Both K w db rb s t) :
    Calls Tryd.prog 27 #[.pointer (some ⟨db, 0, none⟩), .string (bs n), .int .i64 at_, .int .u8 x.toNat] w fun e w' => e = .returned (.int .i64 (dAlter s n at_ x).1) ∧ Both K w' db rb (dAlter s n at_ x).2 t ∧ Keep K w w' := by
  obtain ⟨L, hD, hC⟩ := h.disk
  exact (alter_spec w db s n at_ x hD hn).mono fun e w' ⟨he, ht⟩ => ⟨he, hC _ _ ht⟩
theorem both_alter_r {K : Nat → Prop} {w : World} {db rb : Nat} {s t : DS} (n : Str) (at_ : Int) (x : UInt8) (hl : t.loose.length ≤ 100000) (h : Both K w db rb s t) :
    Calls Tryd.prog 44 #[.pointer (some ⟨rb, 0, none⟩), .string (bs n), .int .i64 at_, .int .u8 x.toNat] w fun e w' => e = .returned (.int .i64 (dAlter t n at_ x).1) ∧ Both K w' db rb s (dAlter t n at_ x).2 ∧ Keep K w w' := by
  obtain ⟨L, hD, hC⟩ := h.ref
  exact (ralter_spec w rb t n at_ x hD hl).mono fun e w' ⟨he, ht⟩ => ⟨he, hC _ _ ht⟩

set_option maxRecDepth 100000 in
set_option maxHeartbeats 4000000 in
theorem play_fuse {K : Nat → Prop} (w : World) (db rb : Nat) (s : DS) (x : St) (h : Both K w db rb s s) (hx : x.Ok) (h0 : x.dO = 5) :
    Calls Tryd.prog 22 #[.pointer (some ⟨db, 0, none⟩), .pointer (some ⟨rb, 0, none⟩), .agg #[.int .i64 x.dO, .string (bs x.a), .string (bs x.b), .int .i64 x.n, .int .i64 x.m]] w fun e w' => e = .returned (.bool true) ∧ Both K w' db rb (dFuse s x.n) (dFuse s x.n) ∧ Keep K w w' := by
  obtain ⟨dO, a, b, n, m⟩ := x
  have h0' : dO = 5 := h0
  subst h0'
  have hn2 : n ≤ 9223372036854775807 := hx.n2
  obtain ⟨f3, c3, hrb⟩ := h.refFuse
  have hne : rb ≠ w.heap.size := by omega
  have hst := both_fuse_r n hn2 h
  have hB := hst.1.more (stObj ⟨5, a, b, n, m⟩)
  have hK0 : Keep K w ((w.setCell ⟨rb, 3, none⟩ (.int .i64 (max n (-1)))).alloc (stObj ⟨5, a, b, n, m⟩)) := hst.2.trans (Keep.alloc hst.1.lt _)
  have hd := both_fuse_d n hn2 hB
  have HK0 := Lib.hid hK0
  have HD := Lib.hid hd
  clear hB hK0 h hst hx hd
  go_enter Tryd.func22, Tryd.ntmps22
  go_wp2_with fail
  refine HD.out.mono ?_
  clear HD
  rintro e w2 ⟨rfl, hB2, hK2⟩
  have HF := Lib.hid (And.intro hB2 (HK0.out.trans (hK2.mono fun k hk => .inl hk)))
  clear hB2 hK2 HK0
  go_wp2_with fail
  go_ret
  exact ⟨ret_bool (by simp), HF.out.1.less (fun k hk => .inl hk), HF.out.2⟩

set_option maxRecDepth 100000 in
set_option maxHeartbeats 4000000 in
theorem play_crash {K : Nat → Prop} (w : World) (db rb : Nat) (s : DS) (x : St) (h : Both K w db rb s s) (hx : x.Ok) (hl : s.loose.length ≤ 100000) (h0 : x.dO = 6) :
    Calls Tryd.prog 22 #[.pointer (some ⟨db, 0, none⟩), .pointer (some ⟨rb, 0, none⟩), .agg #[.int .i64 x.dO, .string (bs x.a), .string (bs x.b), .int .i64 x.n, .int .i64 x.m]] w fun e w' => e = .returned (.bool true) ∧ Both K w' db rb (dCrash s x.n x.m) (dCrash s x.n x.m) ∧ Keep K w w' := by
  obtain ⟨dO, a, b, n, m⟩ := x
  have h0' : dO = 6 := h0
  subst h0'
  have hn1 : -9223372036854775808 ≤ n := hx.n1
  have hn2 : n ≤ 9223372036854775807 := hx.n2
  have hm1 : -9223372036854775808 ≤ m := hx.m1
  have hm2 : m ≤ 9223372036854775807 := hx.m2
  have hB := h.more (stObj ⟨6, a, b, n, m⟩)
  have hK0 : Keep K w (w.alloc (stObj ⟨6, a, b, n, m⟩)) := Keep.alloc h.lt _
  have hbox : (w.alloc (stObj ⟨6, a, b, n, m⟩)).heap[w.heap.size]? = some (stObj ⟨6, a, b, n, m⟩) := heap_new w _
  have hr := both_crash_r n m hn1 hn2 hm1 hm2 hl hB
  have HK0 := Lib.hid (And.intro hK0 hbox)
  clear hB hK0 h hx hbox
  go_enter Tryd.func22, Tryd.ntmps22
  go_wp2_with fail
  refine hr.mono ?_
  clear hr
  rintro e w2 ⟨rfl, hB2, hK2⟩
  have hd := both_crash_d n m hn1 hn2 hm1 hm2 hl hB2
  have hcc := stObj_cells ((hK2.block w.heap.size (.inr rfl)).trans HK0.out.2)
  obtain ⟨-, -, -, q1, q2⟩ := hcc
  have HK2 := Lib.hid (HK0.out.1.trans (hK2.mono fun k hk => .inl hk))
  clear hB2 hK2 HK0
  go_wp2_with fail
  refine hd.mono ?_
  clear hd
  rintro e w3 ⟨rfl, hB3, hK3⟩
  have HF := Lib.hid (And.intro hB3 (HK2.out.trans (hK3.mono fun k hk => .inl hk)))
  clear hB3 hK3 HK2
  go_wp2_with fail
  go_ret
  exact ⟨ret_bool (by simp), HF.out.1.less (fun k hk => .inl hk), HF.out.2⟩

def altBy (m : Int) : UInt8 := UInt8.ofNat (m % 256).toNat
theorem altBy_wrap (m : Int) : IntKind.u8.wrap m = ((altBy m).toNat : Int) := by
  have e : IntKind.u8.wrap m = m % 256 := rfl
  rw [e]
  simp [altBy]
  omega

set_option maxRecDepth 100000 in
set_option maxHeartbeats 4000000 in
theorem play_alter {K : Nat → Prop} (w : World) (db rb : Nat) (s : DS) (x : St) (h : Both K w db rb s s) (hx : x.Ok) (hl : s.loose.length ≤ 100000) (h0 : x.dO = 7) :
    Calls Tryd.prog 22 #[.pointer (some ⟨db, 0, none⟩), .pointer (some ⟨rb, 0, none⟩), .agg #[.int .i64 x.dO, .string (bs x.a), .string (bs x.b), .int .i64 x.n, .int .i64 x.m]] w fun e w' => e = .returned (.bool true) ∧ Both K w' db rb (dAlter s x.a x.n (altBy x.m)).2 (dAlter s x.a x.n (altBy x.m)).2 ∧ Keep K w w' := by
  obtain ⟨dO, a, b, n, m⟩ := x
  have h0' : dO = 7 := h0
  subst h0'
  have hxa : a.length ≤ maxLen := Nat.le_trans hx.a (by decide)
  have hB := h.more (stObj ⟨7, a, b, n, m⟩)
  have hK0 : Keep K w (w.alloc (stObj ⟨7, a, b, n, m⟩)) := Keep.alloc h.lt _
  have hbox : (w.alloc (stObj ⟨7, a, b, n, m⟩)).heap[w.heap.size]? = some (stObj ⟨7, a, b, n, m⟩) := heap_new w _
  have hB1 := Lib.hid hB.drew
  have HK0 := Lib.hid (And.intro hK0 hbox)
  have hw := altBy_wrap m
  show Calls _ _ _ _ fun e w' => e = .returned (.bool true) ∧ Both K w' db rb (dAlter s a n (altBy m)).2 (dAlter s a n (altBy m)).2 ∧ Keep K w w'
  generalize altBy m = y at *
  have hd := fun W t (hb : Both (fun k => K k ∨ k = w.heap.size) W db rb s t) => both_alter_d a n y hxa hb
  have hr := fun W u (hb : Both (fun k => K k ∨ k = w.heap.size) W db rb u s) => both_alter_r a n y hl hb
  have HD := Lib.hid hd
  have HR := Lib.hid hr
  clear hd hr hB hK0 hbox h hx hxa hl
  go_enter Tryd.func22, Tryd.ntmps22
  go_upto_region 19 with fail
  have hB0 := hB1.out
  have hcc := stObj_cells HK0.out.2
  obtain ⟨-, q1, -, q2, q3⟩ := hcc
  go_region_held3 (fun w' => w'.cell? ⟨w.heap.size, 1, none⟩ = some (.string (bs a)) ∧ w'.cell? ⟨w.heap.size, 3, none⟩ = some (.int .i64 n) ∧ w'.cell? ⟨w.heap.size, 4, none⟩ = some (.int .i64 m))
    (first
      | go_keep
      | exact ⟨q1, q2, q3⟩
      | exact ⟨k1, k2, k3⟩
      | exact ⟨j1, j2, j3⟩)
    ((first
      | (go_at_call 27; refine (HD.out _ _ (by assumption)).mono ?_; rintro e w2 ⟨rfl, hB2, hK2⟩; obtain ⟨k1, k2, k3⟩ : w2.cell? ⟨w.heap.size, 1, none⟩ = some (.string (bs a)) ∧ w2.cell? ⟨w.heap.size, 3, none⟩ = some (.int .i64 n) ∧ w2.cell? ⟨w.heap.size, 4, none⟩ = some (.int .i64 m) := by (have hb := hK2.block w.heap.size (.inr rfl); refine ⟨?_, ?_, ?_⟩ <;> (simp only [World.cell?, hb] at *; assumption)))
      | (go_at_call 44; refine (HR.out _ _ (by assumption)).mono ?_; rintro e w3 ⟨rfl, hB3, hK3⟩; obtain ⟨j1, j2, j3⟩ : w3.cell? ⟨w.heap.size, 1, none⟩ = some (.string (bs a)) ∧ w3.cell? ⟨w.heap.size, 3, none⟩ = some (.int .i64 n) ∧ w3.cell? ⟨w.heap.size, 4, none⟩ = some (.int .i64 m) := by (have hb := hK3.block w.heap.size (.inr rfl); refine ⟨?_, ?_, ?_⟩ <;> (simp only [World.cell?, hb] at *; assumption)))))
  all_goals (have HF := Lib.hid (And.intro hB3 (HK0.out.1.trans ((Keep.drew _ _).trans ((hK2.trans hK3).mono fun k hk => .inl hk)))))
  all_goals clear hB3 hK2 hK3 hB2 hB0 q1 q2 q3 k1 k2 k3 j1 j2 j3
  all_goals (go_wp2_with fail)
  all_goals go_ret
  all_goals exact ⟨ret_bool (by simp), HF.out.1.less (fun k hk => .inl hk), HF.out.2⟩

set_option maxRecDepth 100000 in
set_option maxHeartbeats 4000000 in
theorem play_none {K : Nat → Prop} (w : World) (db rb : Nat) (s : DS) (x : St) (h : Both K w db rb s s) (h0 : x.dO < 0 ∨ 7 < x.dO) :
    Calls Tryd.prog 22 #[.pointer (some ⟨db, 0, none⟩), .pointer (some ⟨rb, 0, none⟩), .agg #[.int .i64 x.dO, .string (bs x.a), .string (bs x.b), .int .i64 x.n, .int .i64 x.m]] w fun e w' => e = .returned (.bool true) ∧ Both K w' db rb s s ∧ Keep K w w' := by
  obtain ⟨dO, a, b, n, m⟩ := x
  have h0' : dO < 0 ∨ 7 < dO := h0
  have hB := h.more (stObj ⟨dO, a, b, n, m⟩)
  have hK0 : Keep K w (w.alloc (stObj ⟨dO, a, b, n, m⟩)) := Keep.alloc h.lt _
  have HF := Lib.hid (And.intro hB hK0)
  have b0 : (dO == 0) = false := by simp; omega
  have b1 : (dO == 1) = false := by simp; omega
  have b2 : (dO == 2) = false := by simp; omega
  have b3 : (dO == 3) = false := by simp; omega
  have b4 : (dO == 4) = false := by simp; omega
  have b5 : (dO == 5) = false := by simp; omega
  have b6 : (dO == 6) = false := by simp; omega
  have b7 : (dO == 7) = false := by simp; omega
  clear hB hK0 h h0 h0'
  go_enter Tryd.func22, Tryd.ntmps22
  go_wp2_with fail
  go_ret
  exact ⟨rfl, HF.out.1.less (fun k hk => .inl hk), HF.out.2⟩

/-- A step on one disk. -/
def stepP (s : DS) (x : St) : DS :=
  if x.dO = 0 then (dAppend s x.a x.b).2 else if x.dO = 1 then (dCut s x.a x.n).2 else if x.dO = 2 then (dRename s x.a x.b).2
  else if x.dO = 3 then (dRemove s x.a).2 else if x.dO = 4 then (dSync s).2 else if x.dO = 5 then dFuse s x.n
  else if x.dO = 6 then dCrash s x.n x.m else if x.dO = 7 then (dAlter s x.a x.n (altBy x.m)).2 else s
theorem play_spec {K : Nat → Prop} (w : World) (db rb : Nat) (s : DS) (x : St) (h : Both K w db rb s s) (hx : x.Ok) (hl : s.loose.length ≤ 100000) :
    Calls Tryd.prog 22 #[.pointer (some ⟨db, 0, none⟩), .pointer (some ⟨rb, 0, none⟩), .agg #[.int .i64 x.dO, .string (bs x.a), .string (bs x.b), .int .i64 x.n, .int .i64 x.m]] w fun e w' => e = .returned (.bool true) ∧ Both K w' db rb (stepP s x) (stepP s x) ∧ Keep K w w' := by
  by_cases e0 : x.dO = 0
  · have : stepP s x = (dAppend s x.a x.b).2 := by unfold stepP; rw [if_pos e0]
    rw [this]; exact play_append w db rb s x h hx hl e0
  by_cases e1 : x.dO = 1
  · have : stepP s x = (dCut s x.a x.n).2 := by unfold stepP; rw [if_neg e0, if_pos e1]
    rw [this]; exact play_cut w db rb s x h hx hl e1
  by_cases e2 : x.dO = 2
  · have : stepP s x = (dRename s x.a x.b).2 := by unfold stepP; rw [if_neg e0, if_neg e1, if_pos e2]
    rw [this]; exact play_rename w db rb s x h hx hl e2
  by_cases e3 : x.dO = 3
  · have : stepP s x = (dRemove s x.a).2 := by unfold stepP; rw [if_neg e0, if_neg e1, if_neg e2, if_pos e3]
    rw [this]; exact play_remove w db rb s x h hx hl e3
  by_cases e4 : x.dO = 4
  · have : stepP s x = (dSync s).2 := by unfold stepP; rw [if_neg e0, if_neg e1, if_neg e2, if_neg e3, if_pos e4]
    rw [this]; exact play_sync w db rb s x h hl e4
  by_cases e5 : x.dO = 5
  · have : stepP s x = dFuse s x.n := by unfold stepP; rw [if_neg e0, if_neg e1, if_neg e2, if_neg e3, if_neg e4, if_pos e5]
    rw [this]; exact play_fuse w db rb s x h hx e5
  by_cases e6 : x.dO = 6
  · have : stepP s x = dCrash s x.n x.m := by unfold stepP; rw [if_neg e0, if_neg e1, if_neg e2, if_neg e3, if_neg e4, if_neg e5, if_pos e6]
    rw [this]; exact play_crash w db rb s x h hx hl e6
  by_cases e7 : x.dO = 7
  · have : stepP s x = (dAlter s x.a x.n (altBy x.m)).2 := by unfold stepP; rw [if_neg e0, if_neg e1, if_neg e2, if_neg e3, if_neg e4, if_neg e5, if_neg e6, if_pos e7]
    rw [this]; exact play_alter w db rb s x h hx hl e7
  · have : stepP s x = s := by unfold stepP; rw [if_neg e0, if_neg e1, if_neg e2, if_neg e3, if_neg e4, if_neg e5, if_neg e6, if_neg e7]
    rw [this]; exact play_none w db rb s x h (by omega)
theorem step_loose (s : DS) (x : St) : (stepP s x).loose.length ≤ s.loose.length + 1 := by
  have hb : s.burn.loose = s.loose := by unfold DS.burn; split <;> rfl
  unfold stepP dAppend dCut dRename dRemove dSync dFuse dCrash dAlter
  repeat' split
  all_goals first
    | (simp [DS.push, DS.settle, hb]; done)
    | (simp only [hb]; omega)
    | (simp; done)
end Go.Proofs.YtmgnekaokcgmlaaDoor
