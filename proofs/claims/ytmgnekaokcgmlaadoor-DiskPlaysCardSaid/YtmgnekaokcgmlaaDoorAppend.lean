/- Append. -/
import Derived.Test.YtmgnekaokcgmlaaDoorName
import Derived.Deep.RegionHeld3
set_option linter.unusedSimpArgs false
set_option linter.unusedVariables false
namespace Go.Proofs.YtmgnekaokcgmlaaDoor
open Go Go.RowKit Go.Maps Go.WideMaps

theorem Dk.drew {K : Nat → Prop} {w : World} {b : Nat} {s : DS} (h : Dk K w b s) : Dk K w.drew b s := h.below ((Below.refl _ _).drew)
theorem Keep.box {K : Nat → Prop} {w w' : World} {x : Nat} {v : Value} {T : TypeId} (h : Keep K w w') (hx : Box w x v T) (hk : K x) : Box w' x v T := (h.block x hk).trans hx
theorem below_box {B : Nat} {w w' : World} {x : Nat} {v : Value} {T : TypeId} (h : Below B w w') (hx : Box w x v T) (hk : x < B) : Box w' x v T := (h.block x hk).trans hx
theorem Dk.lookAt {K : Nat → Prop} {w : World} {b : Nat} {s : DS} (h : Dk K w b s) {k : Str} (hk : k.length ≤ maxLen) :
    ∃ rn, w.cell? ⟨b, 2, none⟩ = some (.map (some rn)) ∧ (Instr.lookup 57 (.map (some rn)) (.string (bs k)) true).run Tryd.prog w = .ok (.tuple #[.string (bs ((fget s.now k).getD [])), .bool (fhas s.now k)]) w := by
  obtain ⟨_, hK, F, rs, rn, vl, vc, xs, hd, hF⟩ := h
  exact ⟨rn, hd.cells.2.2.1, hd.now.look_ok hk⟩
theorem Dk.lenAt {K : Nat → Prop} {w : World} {b : Nat} {s : DS} (h : Dk K w b s) :
    ∃ rn, w.cell? ⟨b, 2, none⟩ = some (.map (some rn)) ∧ ∀ ty, (Builtin.len_ #[57] ty #[.map (some rn)]).run Tryd.prog w = .ok (.int .i64 s.now.length) w := by
  obtain ⟨_, hK, F, rs, rn, vl, vc, xs, hd, hF⟩ := h
  exact ⟨rn, hd.cells.2.2.1, fun ty => hd.now.len ty⟩
theorem Dk.keep1 {K : Nat → Prop} {w : World} {b : Nat} {s : DS} (h : Dk K w b s) (o : Obj) : Keep K w (w.alloc o) := Keep.alloc h.lt o
theorem Dk.keep2 {K : Nat → Prop} {w : World} {b : Nat} {s : DS} (h : Dk K w b s) (o p : Obj) : Keep K w ((w.alloc o).alloc p) :=
  (Keep.alloc h.lt o).trans (Keep.alloc (fun k hk => by have := h.lt k hk; simp; omega) p)
theorem Then.of_below {K : Nat → Prop} {w w1 w' : World} {b : Nat} {s s' : DS} (h : Then K w b s w1) (hb : Below w1.heap.size w1 w') : Then K w b s w' :=
  ⟨h.1.below hb, h.2.trans (Keep.of_below hb h.1.lt)⟩

/-- Two new boxes ahead of a call of burns. -/
theorem Dk.boxed {K : Nat → Prop} {w : World} {b : Nat} {s : DS} (h : Dk K w b s) (u v : Value) (S T : TypeId) :
    Dk (fun k => (K k ∨ k = w.heap.size) ∨ k = w.heap.size + 1) ((w.alloc (.cells #[u] S)).alloc (.cells #[v] T)) b s ∧
    Box ((w.alloc (.cells #[u] S)).alloc (.cells #[v] T)) w.heap.size u S ∧ Box ((w.alloc (.cells #[u] S)).alloc (.cells #[v] T)) (w.heap.size + 1) v T := by
  refine ⟨?_, ?_, ?_⟩
  · have hD := (h.more (.cells #[u] S)).more (.cells #[v] T)
    simpa only [World.size_alloc] using hD
  · exact (Below.heap_alloc _ _ _ (by simp)).trans (heap_new w _)
  · have := heap_new (w.alloc (.cells #[u] S)) (.cells #[v] T)
    rwa [World.size_alloc] at this
theorem Dk.less2 {K : Nat → Prop} {w : World} {b x y : Nat} {s : DS} (h : Dk (fun k => (K k ∨ k = x) ∨ k = y) w b s) : Dk (fun k => K k ∨ (k = x ∨ k = y)) w b s :=
  h.less fun k hk => by rcases hk with hk | rfl | rfl <;> simp [*]
theorem Dk.less1 {K : Nat → Prop} {w : World} {b x y : Nat} {s : DS} (h : Dk (fun k => (K k ∨ k = x) ∨ k = y) w b s) : Dk K w b s := h.less fun k hk => .inl (.inl hk)

set_option maxRecDepth 100000 in
set_option maxHeartbeats 1000000 in
theorem append_down {K : Nat → Prop} (w : World) (b : Nat) (s : DS) (n d : Str) (h : Dk K w b s) (h0 : s.fuse = 0) :
    Calls Tryd.prog 10 #[.pointer (some ⟨b, 0, none⟩), .string (bs n), .string (bs d)] w fun e w' => e = .returned (.int .i64 60) ∧ Then K w b s w' := by
  obtain ⟨hD, bx, by_⟩ := h.boxed (.string (bs n)) (.string (bs d)) 9 9
  have hb := burns_down _ b s hD h0
  have H := Lib.hid (And.intro hD.less1 (h.keep2 (.cells #[.string (bs n)] 9) (.cells #[.string (bs d)] 9)))
  clear hD bx by_ h h0
  go_enter Tryd.func10, Tryd.ntmps10
  go_wp2_with fail
  refine hb.mono ?_
  clear hb
  rintro e w1 ⟨rfl, rfl⟩
  go_wp2
  go_ret
  exact ⟨rfl, H.out⟩

/-- What stands behind the call of Name, in every way of Append that comes so far. -/
structure AppMid (K : Nat → Prop) (w w2 : World) (b : Nat) (s : DS) (n d : Str) : Prop where
  dk : Dk (fun k => (K k ∨ k = w.heap.size) ∨ k = w.heap.size + 1) w2 b s
  bx : Box w2 w.heap.size (.string (bs n)) 9
  by_ : Box w2 (w.heap.size + 1) (.string (bs d)) 9
  keep : Keep K w w2
theorem AppMid.below {K : Nat → Prop} {w w2 w3 : World} {b : Nat} {s : DS} {n d : Str} (h : AppMid K w w2 b s n d) (hb : Below w2.heap.size w2 w3) : AppMid K w w3 b s n d :=
  ⟨h.dk.below hb, below_box hb h.bx (lt_of_heap h.bx), below_box hb h.by_ (lt_of_heap h.by_), h.keep.trans (Keep.of_below hb h.dk.less1.lt)⟩

theorem fuse_or (s : DS) : s.burn.loose = s.loose ∧ s.burn.room = s.room ∧ s.burn.sure = s.sure := by unfold DS.burn; split <;> exact ⟨rfl, rfl, rfl⟩

set_option maxRecDepth 100000 in
set_option maxHeartbeats 1000000 in
theorem append_bad {K : Nat → Prop} (w : World) (b : Nat) (s : DS) (n d : Str) (h : Dk K w b s) (hn : n.length ≤ maxLen) (h0 : s.fuse ≠ 0) (h1 : nameOk n = false) :
    Calls Tryd.prog 10 #[.pointer (some ⟨b, 0, none⟩), .string (bs n), .string (bs d)] w fun e w' => e = .returned (.int .i64 2) ∧ Then K w b s.burn w' := by
  obtain ⟨hD, bx, by_⟩ := h.boxed (.string (bs n)) (.string (bs d)) 9 9
  have hb := burns_up _ b s hD h0
  have HX := Lib.hid (And.intro bx (And.intro by_ (h.keep2 (.cells #[.string (bs n)] 9) (.cells #[.string (bs d)] 9))))
  clear bx by_ hD h h0
  go_enter Tryd.func10, Tryd.ntmps10
  go_wp2_with fail
  refine hb.mono ?_
  clear hb
  rintro e w1 ⟨rfl, h1', k1⟩
  have m1 : AppMid K w w1 b s.burn n d := ⟨h1', k1.box HX.out.1 (.inl (.inr rfl)), k1.box HX.out.2.1 (.inr rfl), HX.out.2.2.trans (k1.mono fun k hk => .inl (.inl hk))⟩
  obtain ⟨rn, c2, hlook⟩ := h1'.drew.lookAt hn
  have cx : w1.cell? ⟨w.heap.size, 0, none⟩ = some (.string (bs n)) := cell_of m1.bx 0
  have M1 := Lib.hid m1
  clear m1 h1' k1
  go_wp2_with fail
  go_region
  go_wp2_with fail
  have hname := name_spec n w1.drew hn
  rw [h1] at hname
  refine hname.mono ?_
  clear hname c2 hlook cx
  rintro e w2 ⟨rfl, hB2⟩
  have m2 := M1.out.below (w3 := w2) ⟨hB2.os, hB2.tape, hB2.output, hB2.size, hB2.block⟩
  have H := Lib.hid (And.intro m2.dk.less1 m2.keep)
  clear m2 hB2
  go_wp2
  go_ret
  exact ⟨rfl, H.out⟩

set_option maxRecDepth 100000 in
set_option maxHeartbeats 2000000 in
theorem append_full1 {K : Nat → Prop} (w : World) (b : Nat) (s : DS) (n d : Str) (h : Dk K w b s) (hn : n.length ≤ maxLen) (h0 : s.fuse ≠ 0) (h1 : nameOk n = true) (h2 : s.left < d.length) :
    Calls Tryd.prog 10 #[.pointer (some ⟨b, 0, none⟩), .string (bs n), .string (bs d)] w fun e w' => e = .returned (.int .i64 6) ∧ Then K w b s.burn w' := by
  obtain ⟨hD, bx, by_⟩ := h.boxed (.string (bs n)) (.string (bs d)) 9 9
  have hb := burns_up _ b s hD h0
  have HX := Lib.hid (And.intro bx (And.intro by_ (h.keep2 (.cells #[.string (bs n)] 9) (.cells #[.string (bs d)] 9))))
  have hgt : s.burn.left < ((bs d).size : Int) := by rw [bs_size, DS.left_burn]; exact h2
  clear bx by_ hD h h0 h2
  go_enter Tryd.func10, Tryd.ntmps10
  go_wp2_with fail
  refine hb.mono ?_
  clear hb
  rintro e w1 ⟨rfl, h1', k1⟩
  have m1 : AppMid K w w1 b s.burn n d := ⟨h1', k1.box HX.out.1 (.inl (.inr rfl)), k1.box HX.out.2.1 (.inr rfl), HX.out.2.2.trans (k1.mono fun k hk => .inl (.inl hk))⟩
  obtain ⟨rn, c2, hlook⟩ := h1'.drew.lookAt hn
  have cx : w1.cell? ⟨w.heap.size, 0, none⟩ = some (.string (bs n)) := cell_of m1.bx 0
  have M1 := Lib.hid m1
  clear m1 h1' k1
  go_wp2_with fail
  go_region
  go_wp2_with fail
  have hname := name_spec n w1.drew hn
  rw [h1] at hname
  refine hname.mono ?_
  clear hname c2 hlook cx
  rintro e w2 ⟨rfl, hB2⟩
  have m2 := M1.out.below (w3 := w2) ⟨hB2.os, hB2.tape, hB2.output, hB2.size, hB2.block⟩
  have cy2 : w2.cell? ⟨w.heap.size + 1, 0, none⟩ = some (.string (bs d)) := cell_of m2.by_ 0
  have hleft := left_spec w2.drew b s.burn m2.dk.drew
  have hcy3 : ∀ w3, Below w2.drew.heap.size w2.drew w3 → w3.cell? ⟨w.heap.size + 1, 0, none⟩ = some (.string (bs d)) := fun w3 hB3 =>
    cell_of (m2.below (w3 := w3) ⟨hB3.os, hB3.tape, hB3.output, hB3.size, hB3.block⟩).by_ 0
  have M2 := Lib.hid m2
  have HC := Lib.hid hcy3
  clear m2 hB2 hcy3
  go_wp2_with fail
  go_region_with ((go_at_call 20; refine hleft.mono ?_; rintro e w3 ⟨rfl, hB3⟩; have cy3 := HC.out _ hB3))
  all_goals
    have m3 := M2.out.below (w3 := w3) ⟨hB3.os, hB3.tape, hB3.output, hB3.size, hB3.block⟩
    have H := Lib.hid (And.intro m3.dk.less1 m3.keep)
    clear m3 hB3 hleft
    go_wp2
    go_ret
    exact ⟨rfl, H.out⟩

set_option maxRecDepth 100000 in
set_option maxHeartbeats 2000000 in
theorem append_full2 {K : Nat → Prop} (w : World) (b : Nat) (s : DS) (n d : Str) (h : Dk K w b s) (hn : n.length ≤ maxLen) (h0 : s.fuse ≠ 0) (h1 : nameOk n = true) (h2 : ¬ s.left < d.length) (h3 : fhas s.now n = false) (h4 : 64 ≤ s.now.length) :
    Calls Tryd.prog 10 #[.pointer (some ⟨b, 0, none⟩), .string (bs n), .string (bs d)] w fun e w' => e = .returned (.int .i64 6) ∧ Then K w b s.burn w' := by
  obtain ⟨hD, bx, by_⟩ := h.boxed (.string (bs n)) (.string (bs d)) 9 9
  have hb := burns_up _ b s hD h0
  have HX := Lib.hid (And.intro bx (And.intro by_ (h.keep2 (.cells #[.string (bs n)] 9) (.cells #[.string (bs d)] 9))))
  have hgt : ¬ s.burn.left < ((bs d).size : Int) := by rw [bs_size, DS.left_burn]; exact h2
  have h64 : 64 ≤ s.burn.now.length := by rw [DS.now_burn]; exact h4
  clear bx by_ hD h h0 h2 h4
  go_enter Tryd.func10, Tryd.ntmps10
  go_wp2_with fail
  refine hb.mono ?_
  clear hb
  rintro e w1 ⟨rfl, h1', k1⟩
  have m1 : AppMid K w w1 b s.burn n d := ⟨h1', k1.box HX.out.1 (.inl (.inr rfl)), k1.box HX.out.2.1 (.inr rfl), HX.out.2.2.trans (k1.mono fun k hk => .inl (.inl hk))⟩
  obtain ⟨rn, c2, hlook⟩ := h1'.drew.lookAt hn
  rw [show fhas s.burn.now n = false by rw [DS.now_burn]; exact h3] at hlook
  have cx : w1.cell? ⟨w.heap.size, 0, none⟩ = some (.string (bs n)) := cell_of m1.bx 0
  have M1 := Lib.hid m1
  clear m1 h1' k1
  go_wp2_with fail
  go_region
  go_wp2_with fail
  have hname := name_spec n w1.drew hn
  rw [h1] at hname
  refine hname.mono ?_
  clear hname c2 hlook cx h3
  rintro e w2 ⟨rfl, hB2⟩
  have m2 := M1.out.below (w3 := w2) ⟨hB2.os, hB2.tape, hB2.output, hB2.size, hB2.block⟩
  have cy2 : w2.cell? ⟨w.heap.size + 1, 0, none⟩ = some (.string (bs d)) := cell_of m2.by_ 0
  have hleft := left_spec w2.drew b s.burn m2.dk.drew
  have hcy3 : ∀ w3, Below w2.drew.heap.size w2.drew w3 → w3.cell? ⟨w.heap.size + 1, 0, none⟩ = some (.string (bs d)) := fun w3 hB3 =>
    cell_of (m2.below (w3 := w3) ⟨hB3.os, hB3.tape, hB3.output, hB3.size, hB3.block⟩).by_ 0
  have M2 := Lib.hid m2
  have HC := Lib.hid hcy3
  clear m2 hB2 hcy3
  go_wp2_with fail
  go_region_with ((go_at_call 20; refine hleft.mono ?_; rintro e w3 ⟨rfl, hB3⟩; have cy3 := HC.out _ hB3))
  all_goals
    have m3 := M2.out.below (w3 := w3) ⟨hB3.os, hB3.tape, hB3.output, hB3.size, hB3.block⟩
    obtain ⟨rn3, c23, hlen3⟩ := m3.dk.lenAt
    have H := Lib.hid (And.intro m3.dk.less1 m3.keep)
    clear m3 hB3 hleft
    go_wp2
    go_ret
    exact ⟨rfl, H.out⟩

set_option maxRecDepth 100000 in
set_option maxHeartbeats 2000000 in
theorem append_old {K : Nat → Prop} (w : World) (b : Nat) (s : DS) (n d : Str) (h : Dk K w b s) (hn : n.length ≤ maxLen) (h0 : s.fuse ≠ 0) (h1 : nameOk n = true) (h2 : ¬ s.left < d.length) (h3 : fhas s.now n = true) (hlen : s.loose.length < 1000000000) :
    Calls Tryd.prog 10 #[.pointer (some ⟨b, 0, none⟩), .string (bs n), .string (bs d)] w fun e w' => e = .returned (.int .i64 0) ∧ Then K w b (s.burn.push (.app n d)) w' := by
  obtain ⟨hD, bx, by_⟩ := h.boxed (.string (bs n)) (.string (bs d)) 9 9
  have hb := burns_up _ b s hD h0
  have HX := Lib.hid (And.intro bx (And.intro by_ (h.keep2 (.cells #[.string (bs n)] 9) (.cells #[.string (bs d)] 9))))
  have hgt : ¬ s.burn.left < ((bs d).size : Int) := by rw [bs_size, DS.left_burn]; exact h2
  have hbl : ∀ x, x = w.heap.size ∨ x = w.heap.size + 1 → ¬ K x := fun x hx hk => by have := h.lt x hk; omega
  have hok : (DC.app n d).ok s.burn.now := nameOk_len h1
  have hfo : FOk s.burn.room ((DC.app n d).run s.burn.now) := by
    rw [DS.now_burn, (fuse_or s).2.1]
    refine fok_app h.inv.now (nameOk_len h1) ?_ (.inl h3)
    unfold DS.left at h2; omega
  have hll : s.burn.loose.length < 1000000000 := by rw [(fuse_or s).1]; exact hlen
  have HD := Lib.hid (fun w3 v hdk hc => does_spec (K := K) (B := fun x => x = w.heap.size ∨ x = w.heap.size + 1) w3 b s.burn (.app n d) v hdk hbl hc hok hfo hll 1 rfl)
  rw [← DS.now_burn] at h3
  clear bx by_ hD h h0 h2 hbl hok hfo hll hlen
  go_enter Tryd.func10, Tryd.ntmps10
  go_wp2_with fail
  refine hb.mono ?_
  clear hb
  rintro e w1 ⟨rfl, h1', k1⟩
  have m1 : AppMid K w w1 b s.burn n d := ⟨h1', k1.box HX.out.1 (.inl (.inr rfl)), k1.box HX.out.2.1 (.inr rfl), HX.out.2.2.trans (k1.mono fun k hk => .inl (.inl hk))⟩
  obtain ⟨rn, c2, hlook⟩ := h1'.drew.lookAt hn
  rw [h3] at hlook
  have cx : w1.cell? ⟨w.heap.size, 0, none⟩ = some (.string (bs n)) := cell_of m1.bx 0
  have M1 := Lib.hid m1
  clear m1 h1' k1 h3
  go_wp2_with fail
  go_region
  go_wp2_with fail
  have hname := name_spec n w1.drew hn
  rw [h1] at hname
  refine hname.mono ?_
  clear hname c2 hlook cx
  rintro e w2 ⟨rfl, hB2⟩
  have m2 := M1.out.below (w3 := w2) ⟨hB2.os, hB2.tape, hB2.output, hB2.size, hB2.block⟩
  have cy2 : w2.cell? ⟨w.heap.size + 1, 0, none⟩ = some (.string (bs d)) := cell_of m2.by_ 0
  have hleft := left_spec w2.drew b s.burn m2.dk.drew
  have hcy3 : ∀ w3, Below w2.drew.heap.size w2.drew w3 → w3.cell? ⟨w.heap.size + 1, 0, none⟩ = some (.string (bs d)) := fun w3 hB3 =>
    cell_of (m2.below (w3 := w3) ⟨hB3.os, hB3.tape, hB3.output, hB3.size, hB3.block⟩).by_ 0
  have M2 := Lib.hid m2
  have HC := Lib.hid hcy3
  clear m2 hB2 hcy3
  go_wp2_with fail
  go_region_with ((go_at_call 20; refine hleft.mono ?_; rintro e w3 ⟨rfl, hB3⟩; have cy3 := HC.out _ hB3))
  all_goals
    have m3 := M2.out.below (w3 := w3) ⟨hB3.os, hB3.tape, hB3.output, hB3.size, hB3.block⟩
    obtain ⟨rn3, c23, hlen3⟩ := m3.dk.lenAt
    have hdo := HD.out w3 _ m3.dk.less2 ⟨_, _, rfl, m3.bx, m3.by_, .inl rfl, .inr rfl⟩
    have KK := Lib.hid m3.keep
    clear hB3 hleft m3
    go_wp2_with fail
    refine hdo.mono ?_
    clear hdo
    rintro e w4 ⟨rfl, h4, k4⟩
    have H := Lib.hid (And.intro h4 (KK.out.trans k4))
    clear h4 k4
    go_wp2
    go_ret
    exact ⟨rfl, H.out⟩

set_option maxRecDepth 100000 in
set_option maxHeartbeats 2000000 in
theorem append_new {K : Nat → Prop} (w : World) (b : Nat) (s : DS) (n d : Str) (h : Dk K w b s) (hn : n.length ≤ maxLen) (h0 : s.fuse ≠ 0) (h1 : nameOk n = true) (h2 : ¬ s.left < d.length) (h3 : fhas s.now n = false) (h4 : s.now.length < 64) (hlen : s.loose.length < 1000000000) :
    Calls Tryd.prog 10 #[.pointer (some ⟨b, 0, none⟩), .string (bs n), .string (bs d)] w fun e w' => e = .returned (.int .i64 0) ∧ Then K w b (s.burn.push (.app n d)) w' := by
  obtain ⟨hD, bx, by_⟩ := h.boxed (.string (bs n)) (.string (bs d)) 9 9
  have hb := burns_up _ b s hD h0
  have HX := Lib.hid (And.intro bx (And.intro by_ (h.keep2 (.cells #[.string (bs n)] 9) (.cells #[.string (bs d)] 9))))
  have hgt : ¬ s.burn.left < ((bs d).size : Int) := by rw [bs_size, DS.left_burn]; exact h2
  have hbl : ∀ x, x = w.heap.size ∨ x = w.heap.size + 1 → ¬ K x := fun x hx hk => by have := h.lt x hk; omega
  have hok : (DC.app n d).ok s.burn.now := nameOk_len h1
  have hfo : FOk s.burn.room ((DC.app n d).run s.burn.now) := by
    rw [DS.now_burn, (fuse_or s).2.1]
    refine fok_app h.inv.now (nameOk_len h1) ?_ (.inr h4)
    unfold DS.left at h2; omega
  have hll : s.burn.loose.length < 1000000000 := by rw [(fuse_or s).1]; exact hlen
  have HD := Lib.hid (fun w3 v hdk hc => does_spec (K := K) (B := fun x => x = w.heap.size ∨ x = w.heap.size + 1) w3 b s.burn (.app n d) v hdk hbl hc hok hfo hll 1 rfl)
  have h64 : ¬ (64 : Int) ≤ (s.burn.now.length : Int) := by rw [DS.now_burn]; omega
  rw [← DS.now_burn] at h3
  clear bx by_ hD h h0 h2 hbl hok hfo hll hlen
  go_enter Tryd.func10, Tryd.ntmps10
  go_wp2_with fail
  refine hb.mono ?_
  clear hb
  rintro e w1 ⟨rfl, h1', k1⟩
  have m1 : AppMid K w w1 b s.burn n d := ⟨h1', k1.box HX.out.1 (.inl (.inr rfl)), k1.box HX.out.2.1 (.inr rfl), HX.out.2.2.trans (k1.mono fun k hk => .inl (.inl hk))⟩
  obtain ⟨rn, c2, hlook⟩ := h1'.drew.lookAt hn
  rw [h3] at hlook
  have cx : w1.cell? ⟨w.heap.size, 0, none⟩ = some (.string (bs n)) := cell_of m1.bx 0
  have M1 := Lib.hid m1
  clear m1 h1' k1 h3
  go_wp2_with fail
  go_region
  go_wp2_with fail
  have hname := name_spec n w1.drew hn
  rw [h1] at hname
  refine hname.mono ?_
  clear hname c2 hlook cx
  rintro e w2 ⟨rfl, hB2⟩
  have m2 := M1.out.below (w3 := w2) ⟨hB2.os, hB2.tape, hB2.output, hB2.size, hB2.block⟩
  have cy2 : w2.cell? ⟨w.heap.size + 1, 0, none⟩ = some (.string (bs d)) := cell_of m2.by_ 0
  have hleft := left_spec w2.drew b s.burn m2.dk.drew
  have hcy3 : ∀ w3, Below w2.drew.heap.size w2.drew w3 → w3.cell? ⟨w.heap.size + 1, 0, none⟩ = some (.string (bs d)) := fun w3 hB3 =>
    cell_of (m2.below (w3 := w3) ⟨hB3.os, hB3.tape, hB3.output, hB3.size, hB3.block⟩).by_ 0
  have M2 := Lib.hid m2
  have HC := Lib.hid hcy3
  clear m2 hB2 hcy3
  go_wp2_with fail
  go_region_with ((go_at_call 20; refine hleft.mono ?_; rintro e w3 ⟨rfl, hB3⟩; have cy3 := HC.out _ hB3))
  all_goals
    have m3 := M2.out.below (w3 := w3) ⟨hB3.os, hB3.tape, hB3.output, hB3.size, hB3.block⟩
    obtain ⟨rn3, c23, hlen3⟩ := m3.dk.lenAt
    have hdo := HD.out w3 _ m3.dk.less2 ⟨_, _, rfl, m3.bx, m3.by_, .inl rfl, .inr rfl⟩
    have KK := Lib.hid m3.keep
    clear hB3 hleft m3
    go_wp2_with fail
    refine hdo.mono ?_
    clear hdo
    rintro e w4 ⟨rfl, h4, k4⟩
    have H := Lib.hid (And.intro h4 (KK.out.trans k4))
    clear h4 k4
    go_wp2
    go_ret
    exact ⟨rfl, H.out⟩

theorem append_spec {K : Nat → Prop} (w : World) (b : Nat) (s : DS) (n d : Str) (h : Dk K w b s) (hn : n.length ≤ maxLen) (hlen : s.loose.length < 1000000000) :
    Calls Tryd.prog 10 #[.pointer (some ⟨b, 0, none⟩), .string (bs n), .string (bs d)] w fun e w' => e = .returned (.int .i64 (dAppend s n d).1) ∧ Then K w b (dAppend s n d).2 w' := by
  by_cases h0 : s.fuse = 0
  · have : dAppend s n d = (60, s) := by unfold dAppend; rw [if_pos h0]
    rw [this]; exact append_down w b s n d h h0
  cases h1 : nameOk n with
  | false =>
    have : dAppend s n d = (2, s.burn) := by unfold dAppend; rw [if_neg h0, if_pos h1]
    rw [this]; exact append_bad w b s n d h hn h0 h1
  | true =>
    by_cases h2 : s.left < d.length
    · have : dAppend s n d = (6, s.burn) := by unfold dAppend; rw [if_neg h0, if_neg (by rw [h1]; simp), if_pos (.inl h2)]
      rw [this]; exact append_full1 w b s n d h hn h0 h1 h2
    · by_cases h3 : fhas s.now n = false ∧ 64 ≤ s.now.length
      · have : dAppend s n d = (6, s.burn) := by unfold dAppend; rw [if_neg h0, if_neg (by rw [h1]; simp), if_pos (.inr h3)]
        rw [this]; exact append_full2 w b s n d h hn h0 h1 h2 h3.1 h3.2
      · have : dAppend s n d = (0, s.burn.push (.app n d)) := by unfold dAppend; rw [if_neg h0, if_neg (by rw [h1]; simp), if_neg (fun e => e.elim h2 h3)]
        rw [this]
        cases e : fhas s.now n with
        | true => exact append_old w b s n d h hn h0 h1 h2 e hlen
        | false => exact append_new w b s n d h hn h0 h1 h2 e (by have : ¬ 64 ≤ s.now.length := fun e' => h3 ⟨e, e'⟩; omega) hlen

end Go.Proofs.YtmgnekaokcgmlaaDoor
