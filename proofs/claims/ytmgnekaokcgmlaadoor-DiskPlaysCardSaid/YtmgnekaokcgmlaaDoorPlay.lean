/- A step on both disks. -/
import Derived.Test.YtmgnekaokcgmlaaDoorBoth
set_option linter.unusedSimpArgs false
set_option linter.unusedVariables false
namespace Go.Proofs.YtmgnekaokcgmlaaDoor
open Go Go.RowKit Go.Maps Go.WideMaps

theorem stObj_cells {w : World} {sb : Nat} {x : St} (h : w.heap[sb]? = some (stObj x)) :
    w.cell? ⟨sb, 0, none⟩ = some (.int .i64 x.dO) ∧ w.cell? ⟨sb, 1, none⟩ = some (.string (bs x.a)) ∧ w.cell? ⟨sb, 2, none⟩ = some (.string (bs x.b)) ∧ w.cell? ⟨sb, 3, none⟩ = some (.int .i64 x.n) ∧ w.cell? ⟨sb, 4, none⟩ = some (.int .i64 x.m) :=
  ⟨cell_of h 0, cell_of h 1, cell_of h 2, cell_of h 3, cell_of h 4⟩

theorem both_append_d {K : Nat → Prop} {w : World} {db rb : Nat} {s t : DS} (n d : Str) (hn : n.length ≤ maxLen) (hl : s.loose.length ≤ 100000) (h : Both K w db rb s t) :
    Calls Tryd.prog 10 #[.pointer (some ⟨db, 0, none⟩), .string (bs n), .string (bs d)] w fun e w' => e = .returned (.int .i64 (dAppend s n d).1) ∧ Both K w' db rb (dAppend s n d).2 t ∧ Keep K w w' := by
  obtain ⟨L, hD, hC⟩ := h.disk
  exact (append_spec w db s n d hD hn (by omega)).mono fun e w' ⟨he, ht⟩ => ⟨he, hC _ _ ht⟩
theorem both_append_r {K : Nat → Prop} {w : World} {db rb : Nat} {s t : DS} (n d : Str) (hn : n.length ≤ maxLen) (hl : t.loose.length ≤ 100000) (h : Both K w db rb s t) :
    Calls Tryd.prog 38 #[.pointer (some ⟨rb, 0, none⟩), .string (bs n), .string (bs d)] w fun e w' => e = .returned (.int .i64 (dAppend t n d).1) ∧ Both K w' db rb s (dAppend t n d).2 ∧ Keep K w w' := by
  obtain ⟨L, hD, hC⟩ := h.ref
  exact (rappend_spec w rb t n d hD hn hl).mono fun e w' ⟨he, ht⟩ => ⟨he, hC _ _ ht⟩

theorem both_cut_d {K : Nat → Prop} {w : World} {db rb : Nat} {s t : DS} (n : Str) (k : Int) (hn : n.length ≤ maxLen) (hl : s.loose.length ≤ 100000) (h : Both K w db rb s t) :
    Calls Tryd.prog 11 #[.pointer (some ⟨db, 0, none⟩), .string (bs n), .int .i64 k] w fun e w' => e = .returned (.int .i64 (dCut s n k).1) ∧ Both K w' db rb (dCut s n k).2 t ∧ Keep K w w' := by
  obtain ⟨L, hD, hC⟩ := h.disk
  exact (cut_spec w db s n k hD hn (by omega)).mono fun e w' ⟨he, ht⟩ => ⟨he, hC _ _ ht⟩
theorem both_cut_r {K : Nat → Prop} {w : World} {db rb : Nat} {s t : DS} (n : Str) (k : Int) (hn : n.length ≤ maxLen) (hl : t.loose.length ≤ 100000) (h : Both K w db rb s t) :
    Calls Tryd.prog 39 #[.pointer (some ⟨rb, 0, none⟩), .string (bs n), .int .i64 k] w fun e w' => e = .returned (.int .i64 (dCut t n k).1) ∧ Both K w' db rb s (dCut t n k).2 ∧ Keep K w w' := by
  obtain ⟨L, hD, hC⟩ := h.ref
  exact (rcut_spec w rb t n k hD hl).mono fun e w' ⟨he, ht⟩ => ⟨he, hC _ _ ht⟩
theorem both_remove_d {K : Nat → Prop} {w : World} {db rb : Nat} {s t : DS} (n : Str) (hn : n.length ≤ maxLen) (hl : s.loose.length ≤ 100000) (h : Both K w db rb s t) :
    Calls Tryd.prog 13 #[.pointer (some ⟨db, 0, none⟩), .string (bs n)] w fun e w' => e = .returned (.int .i64 (dRemove s n).1) ∧ Both K w' db rb (dRemove s n).2 t ∧ Keep K w w' := by
  obtain ⟨L, hD, hC⟩ := h.disk
  exact (remove_spec w db s n hD hn (by omega)).mono fun e w' ⟨he, ht⟩ => ⟨he, hC _ _ ht⟩
theorem both_remove_r {K : Nat → Prop} {w : World} {db rb : Nat} {s t : DS} (n : Str) (hn : n.length ≤ maxLen) (hl : t.loose.length ≤ 100000) (h : Both K w db rb s t) :
    Calls Tryd.prog 41 #[.pointer (some ⟨rb, 0, none⟩), .string (bs n)] w fun e w' => e = .returned (.int .i64 (dRemove t n).1) ∧ Both K w' db rb s (dRemove t n).2 ∧ Keep K w w' := by
  obtain ⟨L, hD, hC⟩ := h.ref
  exact (rremove_spec w rb t n hD hl).mono fun e w' ⟨he, ht⟩ => ⟨he, hC _ _ ht⟩
theorem both_rename_d {K : Nat → Prop} {w : World} {db rb : Nat} {s t : DS} (n b : Str) (hn : n.length ≤ maxLen) (hb : b.length ≤ maxLen) (hl : s.loose.length ≤ 100000) (h : Both K w db rb s t) :
    Calls Tryd.prog 12 #[.pointer (some ⟨db, 0, none⟩), .string (bs n), .string (bs b)] w fun e w' => e = .returned (.int .i64 (dRename s n b).1) ∧ Both K w' db rb (dRename s n b).2 t ∧ Keep K w w' := by
  obtain ⟨L, hD, hC⟩ := h.disk
  exact (rename_spec w db s n b hD hn hb (by omega)).mono fun e w' ⟨he, ht⟩ => ⟨he, hC _ _ ht⟩
theorem both_rename_r {K : Nat → Prop} {w : World} {db rb : Nat} {s t : DS} (n b : Str) (hn : n.length ≤ maxLen) (hb : b.length ≤ maxLen) (hl : t.loose.length ≤ 100000) (h : Both K w db rb s t) :
    Calls Tryd.prog 40 #[.pointer (some ⟨rb, 0, none⟩), .string (bs n), .string (bs b)] w fun e w' => e = .returned (.int .i64 (dRename t n b).1) ∧ Both K w' db rb s (dRename t n b).2 ∧ Keep K w w' := by
  obtain ⟨L, hD, hC⟩ := h.ref
  exact (rrename_spec w rb t n b hD hb hl).mono fun e w' ⟨he, ht⟩ => ⟨he, hC _ _ ht⟩
theorem both_sync_d {K : Nat → Prop} {w : World} {db rb : Nat} {s t : DS}   (hl : s.loose.length ≤ 100000) (h : Both K w db rb s t) :
    Calls Tryd.prog 14 #[.pointer (some ⟨db, 0, none⟩)] w fun e w' => e = .returned (.int .i64 (dSync s).1) ∧ Both K w' db rb (dSync s).2 t ∧ Keep K w w' := by
  obtain ⟨L, hD, hC⟩ := h.disk
  exact (sync_spec w db s hD).mono fun e w' ⟨he, ht⟩ => ⟨he, hC _ _ ht⟩
theorem both_sync_r {K : Nat → Prop} {w : World} {db rb : Nat} {s t : DS}   (hl : t.loose.length ≤ 100000) (h : Both K w db rb s t) :
    Calls Tryd.prog 42 #[.pointer (some ⟨rb, 0, none⟩)] w fun e w' => e = .returned (.int .i64 (dSync t).1) ∧ Both K w' db rb s (dSync t).2 ∧ Keep K w w' := by
  obtain ⟨L, hD, hC⟩ := h.ref
  exact (rsync_spec w rb t hD (by omega)).mono fun e w' ⟨he, ht⟩ => ⟨he, hC _ _ ht⟩
set_option maxRecDepth 100000 in
set_option maxHeartbeats 4000000 in
theorem play_append {K : Nat → Prop} (w : World) (db rb : Nat) (s : DS) (x : St) (h : Both K w db rb s s) (hx : x.Ok) (hl : s.loose.length ≤ 100000) (h0 : x.dO = 0) :
    Calls Tryd.prog 22 #[.pointer (some ⟨db, 0, none⟩), .pointer (some ⟨rb, 0, none⟩), .agg #[.int .i64 x.dO, .string (bs x.a), .string (bs x.b), .int .i64 x.n, .int .i64 x.m]] w fun e w' => e = .returned (.bool true) ∧ Both K w' db rb (dAppend s x.a x.b).2 (dAppend s x.a x.b).2 ∧ Keep K w w' := by
  obtain ⟨dO, a, b, n, m⟩ := x
  have h0' : dO = 0 := h0
  subst h0'
  have hxa : a.length ≤ maxLen := Nat.le_trans hx.a (by decide)
  have hB := h.more (stObj ⟨0, a, b, n, m⟩)
  have hK0 : Keep K w (w.alloc (stObj ⟨0, a, b, n, m⟩)) := Keep.alloc h.lt _
  have hbox : (w.alloc (stObj ⟨0, a, b, n, m⟩)).heap[w.heap.size]? = some (stObj ⟨0, a, b, n, m⟩) := heap_new w _
  have hB1 := Lib.hid hB.drew
  have HK0 := Lib.hid (And.intro hK0 hbox)
  have hd := fun W t (hb : Both (fun k => K k ∨ k = w.heap.size) W db rb s t) => both_append_d a b hxa hl hb
  have hr := fun W u (hb : Both (fun k => K k ∨ k = w.heap.size) W db rb u s) => both_append_r a b hxa hl hb
  have HD := Lib.hid hd
  have HR := Lib.hid hr
  clear hd hr hB hK0 hbox h hx hxa hl
  go_enter Tryd.func22, Tryd.ntmps22
  go_upto_region 3 with fail
  have hB0 := hB1.out
  have hcc := stObj_cells HK0.out.2
  obtain ⟨-, q1, q2, -, -⟩ := hcc
  go_region_held3 (fun w' => w'.cell? ⟨w.heap.size, 1, none⟩ = some (.string (bs a)) ∧ w'.cell? ⟨w.heap.size, 2, none⟩ = some (.string (bs b)))
    (first
      | go_keep
      | exact ⟨q1, q2⟩
      | exact ⟨k1, k2⟩
      | exact ⟨j1, j2⟩)
    ((first
      | (go_at_call 10; refine (HD.out _ _ (by assumption)).mono ?_; rintro e w2 ⟨rfl, hB2, hK2⟩; obtain ⟨k1, k2⟩ : w2.cell? ⟨w.heap.size, 1, none⟩ = some (.string (bs a)) ∧ w2.cell? ⟨w.heap.size, 2, none⟩ = some (.string (bs b)) := by (have hb := hK2.block w.heap.size (.inr rfl); constructor <;> (simp only [World.cell?, hb] at *; assumption)))
      | (go_at_call 38; refine (HR.out _ _ (by assumption)).mono ?_; rintro e w3 ⟨rfl, hB3, hK3⟩; obtain ⟨j1, j2⟩ : w3.cell? ⟨w.heap.size, 1, none⟩ = some (.string (bs a)) ∧ w3.cell? ⟨w.heap.size, 2, none⟩ = some (.string (bs b)) := by (have hb := hK3.block w.heap.size (.inr rfl); constructor <;> (simp only [World.cell?, hb] at *; assumption)))))
  all_goals (have HF := Lib.hid (And.intro hB3 (HK0.out.1.trans ((Keep.drew _ _).trans ((hK2.trans hK3).mono fun k hk => .inl hk)))))
  all_goals clear hB3 hK2 hK3 hB2 hB0 q1 q2 k1 k2 j1 j2
  all_goals (go_wp2_with fail)
  all_goals go_ret
  all_goals exact ⟨ret_bool (by simp), HF.out.1.less (fun k hk => .inl hk), HF.out.2⟩
set_option maxRecDepth 100000 in
set_option maxHeartbeats 4000000 in
theorem play_cut {K : Nat → Prop} (w : World) (db rb : Nat) (s : DS) (x : St) (h : Both K w db rb s s) (hx : x.Ok) (hl : s.loose.length ≤ 100000) (h0 : x.dO = 1) :
    Calls Tryd.prog 22 #[.pointer (some ⟨db, 0, none⟩), .pointer (some ⟨rb, 0, none⟩), .agg #[.int .i64 x.dO, .string (bs x.a), .string (bs x.b), .int .i64 x.n, .int .i64 x.m]] w fun e w' => e = .returned (.bool true) ∧ Both K w' db rb (dCut s x.a x.n).2 (dCut s x.a x.n).2 ∧ Keep K w w' := by
  obtain ⟨dO, a, b, n, m⟩ := x
  have h0' : dO = 1 := h0
  subst h0'
  have hxa : a.length ≤ maxLen := Nat.le_trans hx.a (by decide)
  have hB := h.more (stObj ⟨1, a, b, n, m⟩)
  have hK0 : Keep K w (w.alloc (stObj ⟨1, a, b, n, m⟩)) := Keep.alloc h.lt _
  have hbox : (w.alloc (stObj ⟨1, a, b, n, m⟩)).heap[w.heap.size]? = some (stObj ⟨1, a, b, n, m⟩) := heap_new w _
  have hB1 := Lib.hid hB.drew
  have HK0 := Lib.hid (And.intro hK0 hbox)
  have hd := fun W t (hb : Both (fun k => K k ∨ k = w.heap.size) W db rb s t) => both_cut_d a n hxa hl hb
  have hr := fun W u (hb : Both (fun k => K k ∨ k = w.heap.size) W db rb u s) => both_cut_r a n hxa hl hb
  have HD := Lib.hid hd
  have HR := Lib.hid hr
  clear hd hr hB hK0 hbox h hx hxa hl
  go_enter Tryd.func22, Tryd.ntmps22
  go_upto_region 5 with fail
  have hB0 := hB1.out
  have hcc := stObj_cells HK0.out.2
  obtain ⟨-, q1, -, q2, -⟩ := hcc
  go_region_held3 (fun w' => w'.cell? ⟨w.heap.size, 1, none⟩ = some (.string (bs a)) ∧ w'.cell? ⟨w.heap.size, 3, none⟩ = some (.int .i64 n))
    (first
      | go_keep
      | exact ⟨q1, q2⟩
      | exact ⟨k1, k2⟩
      | exact ⟨j1, j2⟩)
    ((first
      | (go_at_call 11; refine (HD.out _ _ (by assumption)).mono ?_; rintro e w2 ⟨rfl, hB2, hK2⟩; obtain ⟨k1, k2⟩ : w2.cell? ⟨w.heap.size, 1, none⟩ = some (.string (bs a)) ∧ w2.cell? ⟨w.heap.size, 3, none⟩ = some (.int .i64 n) := by (have hb := hK2.block w.heap.size (.inr rfl); constructor <;> (simp only [World.cell?, hb] at *; assumption)))
      | (go_at_call 39; refine (HR.out _ _ (by assumption)).mono ?_; rintro e w3 ⟨rfl, hB3, hK3⟩; obtain ⟨j1, j2⟩ : w3.cell? ⟨w.heap.size, 1, none⟩ = some (.string (bs a)) ∧ w3.cell? ⟨w.heap.size, 3, none⟩ = some (.int .i64 n) := by (have hb := hK3.block w.heap.size (.inr rfl); constructor <;> (simp only [World.cell?, hb] at *; assumption)))))
  all_goals (have HF := Lib.hid (And.intro hB3 (HK0.out.1.trans ((Keep.drew _ _).trans ((hK2.trans hK3).mono fun k hk => .inl hk)))))
  all_goals clear hB3 hK2 hK3 hB2 hB0 q1 q2 k1 k2 j1 j2
  all_goals (go_wp2_with fail)
  all_goals go_ret
  all_goals exact ⟨ret_bool (by simp), HF.out.1.less (fun k hk => .inl hk), HF.out.2⟩
set_option maxRecDepth 100000 in
set_option maxHeartbeats 4000000 in
theorem play_rename {K : Nat → Prop} (w : World) (db rb : Nat) (s : DS) (x : St) (h : Both K w db rb s s) (hx : x.Ok) (hl : s.loose.length ≤ 100000) (h0 : x.dO = 2) :
    Calls Tryd.prog 22 #[.pointer (some ⟨db, 0, none⟩), .pointer (some ⟨rb, 0, none⟩), .agg #[.int .i64 x.dO, .string (bs x.a), .string (bs x.b), .int .i64 x.n, .int .i64 x.m]] w fun e w' => e = .returned (.bool true) ∧ Both K w' db rb (dRename s x.a x.b).2 (dRename s x.a x.b).2 ∧ Keep K w w' := by
  obtain ⟨dO, a, b, n, m⟩ := x
  have h0' : dO = 2 := h0
  subst h0'
  have hxa : a.length ≤ maxLen := Nat.le_trans hx.a (by decide)
  have hxb : b.length ≤ maxLen := Nat.le_trans hx.b (by decide)
  have hB := h.more (stObj ⟨2, a, b, n, m⟩)
  have hK0 : Keep K w (w.alloc (stObj ⟨2, a, b, n, m⟩)) := Keep.alloc h.lt _
  have hbox : (w.alloc (stObj ⟨2, a, b, n, m⟩)).heap[w.heap.size]? = some (stObj ⟨2, a, b, n, m⟩) := heap_new w _
  have hB1 := Lib.hid hB.drew
  have HK0 := Lib.hid (And.intro hK0 hbox)
  have hd := fun W t (hb : Both (fun k => K k ∨ k = w.heap.size) W db rb s t) => both_rename_d a b hxa hxb hl hb
  have hr := fun W u (hb : Both (fun k => K k ∨ k = w.heap.size) W db rb u s) => both_rename_r a b hxa hxb hl hb
  have HD := Lib.hid hd
  have HR := Lib.hid hr
  clear hd hr hB hK0 hbox h hx hxa hxb hl
  go_enter Tryd.func22, Tryd.ntmps22
  go_upto_region 7 with fail
  have hB0 := hB1.out
  have hcc := stObj_cells HK0.out.2
  obtain ⟨-, q1, q2, -, -⟩ := hcc
  go_region_held3 (fun w' => w'.cell? ⟨w.heap.size, 1, none⟩ = some (.string (bs a)) ∧ w'.cell? ⟨w.heap.size, 2, none⟩ = some (.string (bs b)))
    (first
      | go_keep
      | exact ⟨q1, q2⟩
      | exact ⟨k1, k2⟩
      | exact ⟨j1, j2⟩)
    ((first
      | (go_at_call 12; refine (HD.out _ _ (by assumption)).mono ?_; rintro e w2 ⟨rfl, hB2, hK2⟩; obtain ⟨k1, k2⟩ : w2.cell? ⟨w.heap.size, 1, none⟩ = some (.string (bs a)) ∧ w2.cell? ⟨w.heap.size, 2, none⟩ = some (.string (bs b)) := by (have hb := hK2.block w.heap.size (.inr rfl); constructor <;> (simp only [World.cell?, hb] at *; assumption)))
      | (go_at_call 40; refine (HR.out _ _ (by assumption)).mono ?_; rintro e w3 ⟨rfl, hB3, hK3⟩; obtain ⟨j1, j2⟩ : w3.cell? ⟨w.heap.size, 1, none⟩ = some (.string (bs a)) ∧ w3.cell? ⟨w.heap.size, 2, none⟩ = some (.string (bs b)) := by (have hb := hK3.block w.heap.size (.inr rfl); constructor <;> (simp only [World.cell?, hb] at *; assumption)))))
  all_goals (have HF := Lib.hid (And.intro hB3 (HK0.out.1.trans ((Keep.drew _ _).trans ((hK2.trans hK3).mono fun k hk => .inl hk)))))
  all_goals clear hB3 hK2 hK3 hB2 hB0 q1 q2 k1 k2 j1 j2
  all_goals (go_wp2_with fail)
  all_goals go_ret
  all_goals exact ⟨ret_bool (by simp), HF.out.1.less (fun k hk => .inl hk), HF.out.2⟩
set_option maxRecDepth 100000 in
set_option maxHeartbeats 4000000 in
theorem play_remove {K : Nat → Prop} (w : World) (db rb : Nat) (s : DS) (x : St) (h : Both K w db rb s s) (hx : x.Ok) (hl : s.loose.length ≤ 100000) (h0 : x.dO = 3) :
    Calls Tryd.prog 22 #[.pointer (some ⟨db, 0, none⟩), .pointer (some ⟨rb, 0, none⟩), .agg #[.int .i64 x.dO, .string (bs x.a), .string (bs x.b), .int .i64 x.n, .int .i64 x.m]] w fun e w' => e = .returned (.bool true) ∧ Both K w' db rb (dRemove s x.a).2 (dRemove s x.a).2 ∧ Keep K w w' := by
  obtain ⟨dO, a, b, n, m⟩ := x
  have h0' : dO = 3 := h0
  subst h0'
  have hxa : a.length ≤ maxLen := Nat.le_trans hx.a (by decide)
  have hB := h.more (stObj ⟨3, a, b, n, m⟩)
  have hK0 : Keep K w (w.alloc (stObj ⟨3, a, b, n, m⟩)) := Keep.alloc h.lt _
  have hbox : (w.alloc (stObj ⟨3, a, b, n, m⟩)).heap[w.heap.size]? = some (stObj ⟨3, a, b, n, m⟩) := heap_new w _
  have hB1 := Lib.hid hB.drew
  have HK0 := Lib.hid (And.intro hK0 hbox)
  have hd := fun W t (hb : Both (fun k => K k ∨ k = w.heap.size) W db rb s t) => both_remove_d a hxa hl hb
  have hr := fun W u (hb : Both (fun k => K k ∨ k = w.heap.size) W db rb u s) => both_remove_r a hxa hl hb
  have HD := Lib.hid hd
  have HR := Lib.hid hr
  clear hd hr hB hK0 hbox h hx hxa hl
  go_enter Tryd.func22, Tryd.ntmps22
  go_upto_region 9 with fail
  have hB0 := hB1.out
  have hcc := stObj_cells HK0.out.2
  obtain ⟨-, q1, q2, -, -⟩ := hcc
  go_region_held3 (fun w' => w'.cell? ⟨w.heap.size, 1, none⟩ = some (.string (bs a)) ∧ w'.cell? ⟨w.heap.size, 2, none⟩ = some (.string (bs b)))
    (first
      | go_keep
      | exact ⟨q1, q2⟩
      | exact ⟨k1, k2⟩
      | exact ⟨j1, j2⟩)
    ((first
      | (go_at_call 13; refine (HD.out _ _ (by assumption)).mono ?_; rintro e w2 ⟨rfl, hB2, hK2⟩; obtain ⟨k1, k2⟩ : w2.cell? ⟨w.heap.size, 1, none⟩ = some (.string (bs a)) ∧ w2.cell? ⟨w.heap.size, 2, none⟩ = some (.string (bs b)) := by (have hb := hK2.block w.heap.size (.inr rfl); constructor <;> (simp only [World.cell?, hb] at *; assumption)))
      | (go_at_call 41; refine (HR.out _ _ (by assumption)).mono ?_; rintro e w3 ⟨rfl, hB3, hK3⟩; obtain ⟨j1, j2⟩ : w3.cell? ⟨w.heap.size, 1, none⟩ = some (.string (bs a)) ∧ w3.cell? ⟨w.heap.size, 2, none⟩ = some (.string (bs b)) := by (have hb := hK3.block w.heap.size (.inr rfl); constructor <;> (simp only [World.cell?, hb] at *; assumption)))))
  all_goals (have HF := Lib.hid (And.intro hB3 (HK0.out.1.trans ((Keep.drew _ _).trans ((hK2.trans hK3).mono fun k hk => .inl hk)))))
  all_goals clear hB3 hK2 hK3 hB2 hB0 q1 q2 k1 k2 j1 j2
  all_goals (go_wp2_with fail)
  all_goals go_ret
  all_goals exact ⟨ret_bool (by simp), HF.out.1.less (fun k hk => .inl hk), HF.out.2⟩

set_option maxRecDepth 100000 in
set_option maxHeartbeats 4000000 in
theorem play_sync {K : Nat → Prop} (w : World) (db rb : Nat) (s : DS) (x : St) (h : Both K w db rb s s) (hl : s.loose.length ≤ 100000) (h0 : x.dO = 4) :
    Calls Tryd.prog 22 #[.pointer (some ⟨db, 0, none⟩), .pointer (some ⟨rb, 0, none⟩), .agg #[.int .i64 x.dO, .string (bs x.a), .string (bs x.b), .int .i64 x.n, .int .i64 x.m]] w fun e w' => e = .returned (.bool true) ∧ Both K w' db rb (dSync s).2 (dSync s).2 ∧ Keep K w w' := by
  obtain ⟨dO, a, b, n, m⟩ := x
  have h0' : dO = 4 := h0
  subst h0'
  have hB := h.more (stObj ⟨4, a, b, n, m⟩)
  have hK0 : Keep K w (w.alloc (stObj ⟨4, a, b, n, m⟩)) := Keep.alloc h.lt _
  have hd := both_sync_d hl hB
  have HK0 := Lib.hid hK0
  clear hB hK0 h
  go_enter Tryd.func22, Tryd.ntmps22
  go_wp2_with fail
  refine hd.mono ?_
  clear hd
  rintro e w2 ⟨rfl, hB2, hK2⟩
  have hr := both_sync_r hl hB2
  have HK2 := Lib.hid (HK0.out.trans (hK2.mono fun k hk => .inl hk))
  clear hB2 hK2 HK0
  go_wp2_with fail
  refine hr.mono ?_
  clear hr
  rintro e w3 ⟨rfl, hB3, hK3⟩
  have HF := Lib.hid (And.intro hB3 (HK2.out.trans (hK3.mono fun k hk => .inl hk)))
  clear hB3 hK3 HK2
  go_wp2_with fail
  go_ret
  exact ⟨ret_bool (by simp), HF.out.1.less (fun k hk => .inl hk), HF.out.2⟩
end Go.Proofs.YtmgnekaokcgmlaaDoor
