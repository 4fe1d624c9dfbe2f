/- Cut, Rename, Remove. (Printed by mkcut.py.) -/
import Derived.Test.YtmgnekaokcgmlaaDoorAppend
set_option linter.unusedSimpArgs false
set_option linter.unusedVariables false
namespace Go.Proofs.YtmgnekaokcgmlaaDoor
open Go Go.RowKit Go.Maps Go.WideMaps

structure Mid2 (K : Nat → Prop) (w w2 : World) (b : Nat) (s : DS) (u v : Value) (S T : TypeId) : Prop where
  dk : Dk (fun k => (K k ∨ k = w.heap.size) ∨ k = w.heap.size + 1) w2 b s
  bx : Box w2 w.heap.size u S
  by_ : Box w2 (w.heap.size + 1) v T
  keep : Keep K w w2
theorem Mid2.below {K : Nat → Prop} {w w2 w3 : World} {b : Nat} {s : DS} {u v : Value} {S T : TypeId} (h : Mid2 K w w2 b s u v S T) (hb : Below w2.heap.size w2 w3) : Mid2 K w w3 b s u v S T :=
  ⟨h.dk.below hb, below_box hb h.bx (lt_of_heap h.bx), below_box hb h.by_ (lt_of_heap h.by_), h.keep.trans (Keep.of_below hb h.dk.less1.lt)⟩
structure Mid1 (K : Nat → Prop) (w w2 : World) (b : Nat) (s : DS) (u : Value) (S : TypeId) : Prop where
  dk : Dk (fun k => K k ∨ k = w.heap.size) w2 b s
  bx : Box w2 w.heap.size u S
  keep : Keep K w w2
theorem Mid1.below {K : Nat → Prop} {w w2 w3 : World} {b : Nat} {s : DS} {u : Value} {S : TypeId} (h : Mid1 K w w2 b s u S) (hb : Below w2.heap.size w2 w3) : Mid1 K w w3 b s u S :=
  ⟨h.dk.below hb, below_box hb h.bx (lt_of_heap h.bx), h.keep.trans (Keep.of_below hb (h.dk.less (L := K) fun k hk => .inl hk).lt)⟩
theorem Dk.lookAt' {K : Nat → Prop} {w : World} {b : Nat} {s : DS} (h : Dk K w b s) (k : Str) :
    ∃ rn, w.cell? ⟨b, 2, none⟩ = some (.map (some rn)) ∧ (k.length ≤ maxLen → (Instr.lookup 57 (.map (some rn)) (.string (bs k)) true).run Tryd.prog w = .ok (.tuple #[.string (bs ((fget s.now k).getD [])), .bool (fhas s.now k)]) w) := by
  obtain ⟨_, hK, F, rs, rn, vl, vc, xs, hd, hF⟩ := h
  exact ⟨rn, hd.cells.2.2.1, fun hk => hd.now.look_ok hk⟩
set_option maxRecDepth 100000 in
set_option maxHeartbeats 2000000 in
theorem cut_down {K : Nat → Prop} (w : World) (b : Nat) (s : DS) (n : Str) (k : Int) (h : Dk K w b s) (h0 : s.fuse = 0) :
    Calls Tryd.prog 11 #[.pointer (some ⟨b, 0, none⟩), .string (bs n), .int .i64 k] w fun e w' => e = .returned (.int .i64 60) ∧ Then K w b s w' := by
  obtain ⟨hD, bx, by_⟩ := h.boxed (.string (bs n)) (.int .i64 k) 9 3
  have hb := burns_down _ b s hD h0
  have H := Lib.hid (And.intro hD.less1 (h.keep2 (.cells #[.string (bs n)] 9) (.cells #[.int .i64 k] 3)))
  clear hD bx by_ h h0
  go_enter Tryd.func11, Tryd.ntmps11
  go_wp2_with fail
  refine hb.mono ?_
  clear hb
  rintro e w1 ⟨rfl, rfl⟩
  go_wp2
  go_ret
  exact ⟨rfl, H.out⟩

set_option maxRecDepth 100000 in
set_option maxHeartbeats 2000000 in
theorem cut_none {K : Nat → Prop} (w : World) (b : Nat) (s : DS) (n : Str) (k : Int) (h : Dk K w b s) (hn : n.length ≤ maxLen) (h0 : s.fuse ≠ 0) (h3 : fhas s.now n = false) :
    Calls Tryd.prog 11 #[.pointer (some ⟨b, 0, none⟩), .string (bs n), .int .i64 k] w fun e w' => e = .returned (.int .i64 5) ∧ Then K w b s.burn w' := by
  obtain ⟨hD, bx, by_⟩ := h.boxed (.string (bs n)) (.int .i64 k) 9 3
  have hb := burns_up _ b s hD h0
  have HX := Lib.hid (And.intro bx (And.intro by_ (h.keep2 (.cells #[.string (bs n)] 9) (.cells #[.int .i64 k] 3))))
  rw [← DS.now_burn] at h3
  clear bx by_ hD h h0 
  go_enter Tryd.func11, Tryd.ntmps11
  go_wp2_with fail
  refine hb.mono ?_
  clear hb
  rintro e w1 ⟨rfl, h1', k1⟩
  have m1 : Mid2 K w w1 b s.burn (.string (bs n)) (.int .i64 k) 9 3 := ⟨h1', k1.box HX.out.1 (.inl (.inr rfl)), k1.box HX.out.2.1 (.inr rfl), HX.out.2.2.trans (k1.mono fun k hk => .inl (.inl hk))⟩
  obtain ⟨rn, c2, hlook⟩ := h1'.drew.lookAt hn
  rw [h3] at hlook
  have cx : w1.cell? ⟨w.heap.size, 0, none⟩ = some (.string (bs n)) := cell_of m1.bx 0
  have cy : w1.cell? ⟨w.heap.size + 1, 0, none⟩ = some (.int .i64 k) := cell_of m1.by_ 0
  have M1 := Lib.hid m1
  have m2 := m1.below (w3 := w1.drew) ⟨rfl, rfl, rfl, Nat.le_refl _, fun _ _ => rfl⟩
  have H := Lib.hid (And.intro m2.dk.less1 m2.keep)
  clear m1 m2 h1' k1 h3 M1
  go_wp2_with fail
  go_region
  go_wp2
  go_ret
  exact ⟨rfl, H.out⟩

set_option maxRecDepth 100000 in
set_option maxHeartbeats 2000000 in
theorem rename_down {K : Nat → Prop} (w : World) (b : Nat) (s : DS) (n m : Str) (h : Dk K w b s) (h0 : s.fuse = 0) :
    Calls Tryd.prog 12 #[.pointer (some ⟨b, 0, none⟩), .string (bs n), .string (bs m)] w fun e w' => e = .returned (.int .i64 60) ∧ Then K w b s w' := by
  obtain ⟨hD, bx, by_⟩ := h.boxed (.string (bs n)) (.string (bs m)) 9 9
  have hb := burns_down _ b s hD h0
  have H := Lib.hid (And.intro hD.less1 (h.keep2 (.cells #[.string (bs n)] 9) (.cells #[.string (bs m)] 9)))
  clear hD bx by_ h h0
  go_enter Tryd.func12, Tryd.ntmps12
  go_wp2_with fail
  refine hb.mono ?_
  clear hb
  rintro e w1 ⟨rfl, rfl⟩
  go_wp2
  go_ret
  exact ⟨rfl, H.out⟩

set_option maxRecDepth 100000 in
set_option maxHeartbeats 2000000 in
theorem rename_none {K : Nat → Prop} (w : World) (b : Nat) (s : DS) (n m : Str) (h : Dk K w b s) (hn : n.length ≤ maxLen) (h0 : s.fuse ≠ 0) (h3 : fhas s.now n = false) :
    Calls Tryd.prog 12 #[.pointer (some ⟨b, 0, none⟩), .string (bs n), .string (bs m)] w fun e w' => e = .returned (.int .i64 5) ∧ Then K w b s.burn w' := by
  obtain ⟨hD, bx, by_⟩ := h.boxed (.string (bs n)) (.string (bs m)) 9 9
  have hb := burns_up _ b s hD h0
  have HX := Lib.hid (And.intro bx (And.intro by_ (h.keep2 (.cells #[.string (bs n)] 9) (.cells #[.string (bs m)] 9))))
  rw [← DS.now_burn] at h3
  clear bx by_ hD h h0 
  go_enter Tryd.func12, Tryd.ntmps12
  go_wp2_with fail
  refine hb.mono ?_
  clear hb
  rintro e w1 ⟨rfl, h1', k1⟩
  have m1 : Mid2 K w w1 b s.burn (.string (bs n)) (.string (bs m)) 9 9 := ⟨h1', k1.box HX.out.1 (.inl (.inr rfl)), k1.box HX.out.2.1 (.inr rfl), HX.out.2.2.trans (k1.mono fun k hk => .inl (.inl hk))⟩
  obtain ⟨rn, c2, hlook⟩ := h1'.drew.lookAt hn
  rw [h3] at hlook
  have cx : w1.cell? ⟨w.heap.size, 0, none⟩ = some (.string (bs n)) := cell_of m1.bx 0
  have cy : w1.cell? ⟨w.heap.size + 1, 0, none⟩ = some (.string (bs m)) := cell_of m1.by_ 0
  have M1 := Lib.hid m1
  have m2 := m1.below (w3 := w1.drew) ⟨rfl, rfl, rfl, Nat.le_refl _, fun _ _ => rfl⟩
  have H := Lib.hid (And.intro m2.dk.less1 m2.keep)
  clear m1 m2 h1' k1 h3 M1
  go_wp2_with fail
  go_region
  go_wp2
  go_ret
  exact ⟨rfl, H.out⟩

set_option maxRecDepth 100000 in
set_option maxHeartbeats 2000000 in
theorem remove_down {K : Nat → Prop} (w : World) (b : Nat) (s : DS) (n : Str) (h : Dk K w b s) (h0 : s.fuse = 0) :
    Calls Tryd.prog 13 #[.pointer (some ⟨b, 0, none⟩), .string (bs n)] w fun e w' => e = .returned (.int .i64 60) ∧ Then K w b s w' := by
  have hD := h.more (.cells #[.string (bs n)] 9)
  have bx : Box (w.alloc (.cells #[.string (bs n)] 9)) w.heap.size (.string (bs n)) 9 := heap_new w _
  have hb := burns_down _ b s hD h0
  have H := Lib.hid (And.intro (hD.less (L := K) fun k hk => .inl hk) (h.keep1 (.cells #[.string (bs n)] 9)))
  clear hD bx h h0
  go_enter Tryd.func13, Tryd.ntmps13
  go_wp2_with fail
  refine hb.mono ?_
  clear hb
  rintro e w1 ⟨rfl, rfl⟩
  go_wp2
  go_ret
  exact ⟨rfl, H.out⟩

set_option maxRecDepth 100000 in
set_option maxHeartbeats 2000000 in
theorem remove_none {K : Nat → Prop} (w : World) (b : Nat) (s : DS) (n : Str) (h : Dk K w b s) (hn : n.length ≤ maxLen) (h0 : s.fuse ≠ 0) (h3 : fhas s.now n = false) :
    Calls Tryd.prog 13 #[.pointer (some ⟨b, 0, none⟩), .string (bs n)] w fun e w' => e = .returned (.int .i64 5) ∧ Then K w b s.burn w' := by
  have hD := h.more (.cells #[.string (bs n)] 9)
  have bx : Box (w.alloc (.cells #[.string (bs n)] 9)) w.heap.size (.string (bs n)) 9 := heap_new w _
  have hb := burns_up _ b s hD h0
  have HX := Lib.hid (And.intro bx (h.keep1 (.cells #[.string (bs n)] 9)))
  rw [← DS.now_burn] at h3
  clear bx hD h h0 
  go_enter Tryd.func13, Tryd.ntmps13
  go_wp2_with fail
  refine hb.mono ?_
  clear hb
  rintro e w1 ⟨rfl, h1', k1⟩
  have m1 : Mid1 K w w1 b s.burn (.string (bs n)) 9 := ⟨h1', k1.box HX.out.1 (.inr rfl), HX.out.2.trans (k1.mono fun k hk => .inl hk)⟩
  obtain ⟨rn, c2, hlook⟩ := h1'.drew.lookAt hn
  rw [h3] at hlook
  have cx : w1.cell? ⟨w.heap.size, 0, none⟩ = some (.string (bs n)) := cell_of m1.bx 0
  have M1 := Lib.hid m1
  have m2 := m1.below (w3 := w1.drew) ⟨rfl, rfl, rfl, Nat.le_refl _, fun _ _ => rfl⟩
  have H := Lib.hid (And.intro (m2.dk.less (L := K) fun k hk => .inl hk) m2.keep)
  clear m1 m2 h1' k1 h3 M1
  go_wp2_with fail
  go_region
  go_wp2
  go_ret
  exact ⟨rfl, H.out⟩

set_option maxRecDepth 100000 in
set_option maxHeartbeats 2000000 in
theorem remove_good {K : Nat → Prop} (w : World) (b : Nat) (s : DS) (n : Str) (h : Dk K w b s) (hn : n.length ≤ maxLen) (h0 : s.fuse ≠ 0) (h3 : fhas s.now n = true) (hlen : s.loose.length < 1000000000) :
    Calls Tryd.prog 13 #[.pointer (some ⟨b, 0, none⟩), .string (bs n)] w fun e w' => e = .returned (.int .i64 0) ∧ Then K w b (s.burn.push (.rem n)) w' := by
  have hD := h.more (.cells #[.string (bs n)] 9)
  have bx : Box (w.alloc (.cells #[.string (bs n)] 9)) w.heap.size (.string (bs n)) 9 := heap_new w _
  have hb := burns_up _ b s hD h0
  have HX := Lib.hid (And.intro bx (h.keep1 (.cells #[.string (bs n)] 9)))
  have hbl : ∀ x, x = w.heap.size → ¬ K x := fun x hx hk => by have := h.lt x hk; omega
  have hok : (DC.rem n).ok s.burn.now := by rw [DS.now_burn]; exact ⟨h3, h.inv.has_len h3⟩
  have hfo : FOk s.burn.room ((DC.rem n).run s.burn.now) := by rw [DS.now_burn, (fuse_or s).2.1]; exact h.inv.now.del n
  have hll : s.burn.loose.length < 1000000000 := by rw [(fuse_or s).1]; exact hlen
  have HD := Lib.hid (fun w3 v hdk hc => does_spec (K := K) (B := fun x => x = w.heap.size) w3 b s.burn (DC.rem n) v hdk hbl hc hok hfo hll 0 rfl)
  rw [← DS.now_burn] at h3
  clear bx hD h h0 hbl hok hfo hll hlen 
  go_enter Tryd.func13, Tryd.ntmps13
  go_wp2_with fail
  refine hb.mono ?_
  clear hb
  rintro e w1 ⟨rfl, h1', k1⟩
  have m1 : Mid1 K w w1 b s.burn (.string (bs n)) 9 := ⟨h1', k1.box HX.out.1 (.inr rfl), HX.out.2.trans (k1.mono fun k hk => .inl hk)⟩
  obtain ⟨rn, c2, hlook⟩ := h1'.drew.lookAt hn
  rw [h3] at hlook
  have cx : w1.cell? ⟨w.heap.size, 0, none⟩ = some (.string (bs n)) := cell_of m1.bx 0
  have M1 := Lib.hid m1
  have m2 := m1.below (w3 := w1.drew) ⟨rfl, rfl, rfl, Nat.le_refl _, fun _ _ => rfl⟩
  have hdo := HD.out w1.drew _ m2.dk ⟨_, rfl, m2.bx, rfl⟩
  have KK := Lib.hid m2.keep
  clear m1 m2 h1' k1 h3 M1
  go_wp2_with fail
  go_region
  go_wp2_with fail
  refine hdo.mono ?_
  clear hdo
  rintro e w4 ⟨rfl, h4', k4⟩
  have H := Lib.hid (And.intro h4' (KK.out.trans k4))
  clear h4' k4
  go_wp2
  go_ret
  exact ⟨rfl, H.out⟩

set_option maxRecDepth 100000 in
set_option maxHeartbeats 2000000 in
theorem rename_bad {K : Nat → Prop} (w : World) (b : Nat) (s : DS) (n m : Str) (h : Dk K w b s) (hn : n.length ≤ maxLen) (hm : m.length ≤ maxLen) (h0 : s.fuse ≠ 0) (h3 : fhas s.now n = true) (h4 : nameOk m = false) :
    Calls Tryd.prog 12 #[.pointer (some ⟨b, 0, none⟩), .string (bs n), .string (bs m)] w fun e w' => e = .returned (.int .i64 2) ∧ Then K w b s.burn w' := by
  obtain ⟨hD, bx, by_⟩ := h.boxed (.string (bs n)) (.string (bs m)) 9 9
  have hb := burns_up _ b s hD h0
  have HX := Lib.hid (And.intro bx (And.intro by_ (h.keep2 (.cells #[.string (bs n)] 9) (.cells #[.string (bs m)] 9))))
  rw [← DS.now_burn] at h3
  clear bx by_ hD h h0 
  go_enter Tryd.func12, Tryd.ntmps12
  go_wp2_with fail
  refine hb.mono ?_
  clear hb
  rintro e w1 ⟨rfl, h1', k1⟩
  have m1 : Mid2 K w w1 b s.burn (.string (bs n)) (.string (bs m)) 9 9 := ⟨h1', k1.box HX.out.1 (.inl (.inr rfl)), k1.box HX.out.2.1 (.inr rfl), HX.out.2.2.trans (k1.mono fun k hk => .inl (.inl hk))⟩
  obtain ⟨rn, c2, hlook⟩ := h1'.drew.lookAt hn
  rw [h3] at hlook
  have cx : w1.cell? ⟨w.heap.size, 0, none⟩ = some (.string (bs n)) := cell_of m1.bx 0
  have cy : w1.cell? ⟨w.heap.size + 1, 0, none⟩ = some (.string (bs m)) := cell_of m1.by_ 0
  have M1 := Lib.hid m1
  clear m1 h1' k1 h3
  go_wp2_with fail
  go_region
  go_wp2_with fail
  have hname := name_spec m w1.drew hm
  rw [h4] at hname
  refine hname.mono ?_
  clear hname c2 hlook cx cy
  rintro e w2 ⟨rfl, hB2⟩
  have m2 := M1.out.below (w3 := w2) ⟨hB2.os, hB2.tape, hB2.output, hB2.size, hB2.block⟩
  have H := Lib.hid (And.intro m2.dk.less1 m2.keep)
  clear m2 hB2
  go_wp2
  go_ret
  exact ⟨rfl, H.out⟩

set_option maxRecDepth 100000 in
set_option maxHeartbeats 2000000 in
theorem rename_good {K : Nat → Prop} (w : World) (b : Nat) (s : DS) (n m : Str) (h : Dk K w b s) (hn : n.length ≤ maxLen) (hm : m.length ≤ maxLen) (h0 : s.fuse ≠ 0) (h3 : fhas s.now n = true) (h4 : nameOk m = true) (hlen : s.loose.length < 1000000000) :
    Calls Tryd.prog 12 #[.pointer (some ⟨b, 0, none⟩), .string (bs n), .string (bs m)] w fun e w' => e = .returned (.int .i64 0) ∧ Then K w b (s.burn.push (.ren n m)) w' := by
  obtain ⟨hD, bx, by_⟩ := h.boxed (.string (bs n)) (.string (bs m)) 9 9
  have hb := burns_up _ b s hD h0
  have HX := Lib.hid (And.intro bx (And.intro by_ (h.keep2 (.cells #[.string (bs n)] 9) (.cells #[.string (bs m)] 9))))
  have hbl : ∀ x, x = w.heap.size ∨ x = w.heap.size + 1 → ¬ K x := fun x hx hk => by have := h.lt x hk; omega
  have hok : (DC.ren n m).ok s.burn.now := by rw [DS.now_burn]; exact ⟨h3, h.inv.has_len h3, nameOk_len h4⟩
  have hfo : FOk s.burn.room ((DC.ren n m).run s.burn.now) := by rw [DS.now_burn, (fuse_or s).2.1]; exact fok_ren h.inv.now h3 (nameOk_len h4)
  have hll : s.burn.loose.length < 1000000000 := by rw [(fuse_or s).1]; exact hlen
  have HD := Lib.hid (fun w3 v hdk hc => does_spec (K := K) (B := fun x => x = w.heap.size ∨ x = w.heap.size + 1) w3 b s.burn (DC.ren n m) v hdk hbl hc hok hfo hll 0 rfl)
  rw [← DS.now_burn] at h3
  clear bx by_ hD h h0 hbl hok hfo hll hlen 
  go_enter Tryd.func12, Tryd.ntmps12
  go_wp2_with fail
  refine hb.mono ?_
  clear hb
  rintro e w1 ⟨rfl, h1', k1⟩
  have m1 : Mid2 K w w1 b s.burn (.string (bs n)) (.string (bs m)) 9 9 := ⟨h1', k1.box HX.out.1 (.inl (.inr rfl)), k1.box HX.out.2.1 (.inr rfl), HX.out.2.2.trans (k1.mono fun k hk => .inl (.inl hk))⟩
  obtain ⟨rn, c2, hlook⟩ := h1'.drew.lookAt hn
  rw [h3] at hlook
  have cx : w1.cell? ⟨w.heap.size, 0, none⟩ = some (.string (bs n)) := cell_of m1.bx 0
  have cy : w1.cell? ⟨w.heap.size + 1, 0, none⟩ = some (.string (bs m)) := cell_of m1.by_ 0
  have M1 := Lib.hid m1
  have m2 := m1.below (w3 := w1.drew) ⟨rfl, rfl, rfl, Nat.le_refl _, fun _ _ => rfl⟩
  clear m1 h1' k1 h3 m2
  go_wp2_with fail
  go_region
  go_wp2_with fail
  have hname := name_spec m w1.drew hm
  rw [h4] at hname
  refine hname.mono ?_
  clear hname c2 hlook cx cy
  rintro e w2 ⟨rfl, hB2⟩
  have m2 := M1.out.below (w3 := w2) ⟨hB2.os, hB2.tape, hB2.output, hB2.size, hB2.block⟩
  have hdo := HD.out w2 _ m2.dk.less2 ⟨_, _, rfl, m2.bx, m2.by_, .inl rfl, .inr rfl⟩
  have KK := Lib.hid m2.keep
  clear m2 hB2
  go_wp2_with fail
  refine hdo.mono ?_
  clear hdo
  rintro e w4 ⟨rfl, h4', k4⟩
  have H := Lib.hid (And.intro h4' (KK.out.trans k4))
  clear h4' k4
  go_wp2
  go_ret
  exact ⟨rfl, H.out⟩

set_option maxRecDepth 100000 in
set_option maxHeartbeats 2000000 in
theorem cut_neg {K : Nat → Prop} (w : World) (b : Nat) (s : DS) (n : Str) (k : Int) (h : Dk K w b s) (hn : n.length ≤ maxLen) (h0 : s.fuse ≠ 0) (h3 : fhas s.now n = true) (h4 : k < 0) :
    Calls Tryd.prog 11 #[.pointer (some ⟨b, 0, none⟩), .string (bs n), .int .i64 k] w fun e w' => e = .returned (.int .i64 2) ∧ Then K w b s.burn w' := by
  obtain ⟨hD, bx, by_⟩ := h.boxed (.string (bs n)) (.int .i64 k) 9 3
  have hb := burns_up _ b s hD h0
  have HX := Lib.hid (And.intro bx (And.intro by_ (h.keep2 (.cells #[.string (bs n)] 9) (.cells #[.int .i64 k] 3))))
  rw [← DS.now_burn] at h3
  clear bx by_ hD h h0 
  go_enter Tryd.func11, Tryd.ntmps11
  go_wp2_with fail
  refine hb.mono ?_
  clear hb
  rintro e w1 ⟨rfl, h1', k1⟩
  have m1 : Mid2 K w w1 b s.burn (.string (bs n)) (.int .i64 k) 9 3 := ⟨h1', k1.box HX.out.1 (.inl (.inr rfl)), k1.box HX.out.2.1 (.inr rfl), HX.out.2.2.trans (k1.mono fun k hk => .inl (.inl hk))⟩
  obtain ⟨rn, c2, hlook⟩ := h1'.drew.lookAt hn
  rw [h3] at hlook
  have cx : w1.cell? ⟨w.heap.size, 0, none⟩ = some (.string (bs n)) := cell_of m1.bx 0
  have cy : w1.cell? ⟨w.heap.size + 1, 0, none⟩ = some (.int .i64 k) := cell_of m1.by_ 0
  have M1 := Lib.hid m1
  have m2 := m1.below (w3 := w1.drew) ⟨rfl, rfl, rfl, Nat.le_refl _, fun _ _ => rfl⟩
  have H := Lib.hid (And.intro m2.dk.less1 m2.keep)
  clear m1 m2 h1' k1 h3 M1
  go_wp2_with fail
  go_region
  go_wp2
  go_ret
  exact ⟨rfl, H.out⟩

set_option maxRecDepth 100000 in
set_option maxHeartbeats 2000000 in
theorem cut_past {K : Nat → Prop} (w : World) (b : Nat) (s : DS) (n : Str) (k : Int) (h : Dk K w b s) (hn : n.length ≤ maxLen) (h0 : s.fuse ≠ 0) (h3 : fhas s.now n = true) (h4 : ¬ k < 0) (h5 : ((fget s.now n).getD []).length < k) :
    Calls Tryd.prog 11 #[.pointer (some ⟨b, 0, none⟩), .string (bs n), .int .i64 k] w fun e w' => e = .returned (.int .i64 2) ∧ Then K w b s.burn w' := by
  obtain ⟨hD, bx, by_⟩ := h.boxed (.string (bs n)) (.int .i64 k) 9 3
  have hb := burns_up _ b s hD h0
  have HX := Lib.hid (And.intro bx (And.intro by_ (h.keep2 (.cells #[.string (bs n)] 9) (.cells #[.int .i64 k] 3))))
  have hsz : (bs ((fget s.burn.now n).getD [])).size = ((fget s.now n).getD []).length := by rw [bs_size, DS.now_burn]
  have h6 : ((bs ((fget s.burn.now n).getD [])).size : Int) < k := by rw [hsz]; exact h5
  rw [← DS.now_burn] at h3
  clear bx by_ hD h h0 hsz h5
  go_enter Tryd.func11, Tryd.ntmps11
  go_wp2_with fail
  refine hb.mono ?_
  clear hb
  rintro e w1 ⟨rfl, h1', k1⟩
  have m1 : Mid2 K w w1 b s.burn (.string (bs n)) (.int .i64 k) 9 3 := ⟨h1', k1.box HX.out.1 (.inl (.inr rfl)), k1.box HX.out.2.1 (.inr rfl), HX.out.2.2.trans (k1.mono fun k hk => .inl (.inl hk))⟩
  obtain ⟨rn, c2, hlook⟩ := h1'.drew.lookAt hn
  rw [h3] at hlook
  have cx : w1.cell? ⟨w.heap.size, 0, none⟩ = some (.string (bs n)) := cell_of m1.bx 0
  have cy : w1.cell? ⟨w.heap.size + 1, 0, none⟩ = some (.int .i64 k) := cell_of m1.by_ 0
  have M1 := Lib.hid m1
  have m2 := m1.below (w3 := w1.drew) ⟨rfl, rfl, rfl, Nat.le_refl _, fun _ _ => rfl⟩
  have H := Lib.hid (And.intro m2.dk.less1 m2.keep)
  clear m1 m2 h1' k1 h3 M1
  go_wp2_with fail
  go_region
  go_wp2
  go_ret
  exact ⟨rfl, H.out⟩

set_option maxRecDepth 100000 in
set_option maxHeartbeats 2000000 in
theorem cut_good {K : Nat → Prop} (w : World) (b : Nat) (s : DS) (n : Str) (k : Nat) (h : Dk K w b s) (hn : n.length ≤ maxLen) (h0 : s.fuse ≠ 0) (h3 : fhas s.now n = true) (h5 : k ≤ ((fget s.now n).getD []).length) (hlen : s.loose.length < 1000000000) :
    Calls Tryd.prog 11 #[.pointer (some ⟨b, 0, none⟩), .string (bs n), .int .i64 k] w fun e w' => e = .returned (.int .i64 0) ∧ Then K w b (s.burn.push (.cut n k)) w' := by
  obtain ⟨hD, bx, by_⟩ := h.boxed (.string (bs n)) (.int .i64 k) 9 3
  have hb := burns_up _ b s hD h0
  have HX := Lib.hid (And.intro bx (And.intro by_ (h.keep2 (.cells #[.string (bs n)] 9) (.cells #[.int .i64 k] 3))))
  have hsz : (bs ((fget s.burn.now n).getD [])).size = ((fget s.now n).getD []).length := by rw [bs_size, DS.now_burn]
  have h6 : ¬ ((bs ((fget s.burn.now n).getD [])).size : Int) < (k : Int) := by rw [hsz]; omega
  have h7 : ¬ (k : Int) < 0 := by omega
  have hbl : ∀ x, x = w.heap.size ∨ x = w.heap.size + 1 → ¬ K x := fun x hx hk => by have := h.lt x hk; omega
  have hok : (DC.cut n k).ok s.burn.now := by rw [DS.now_burn]; exact ⟨h3, h5⟩
  have hfo : FOk s.burn.room ((DC.cut n k).run s.burn.now) := by rw [DS.now_burn, (fuse_or s).2.1]; exact fok_cut h.inv.now h3 k
  have hll : s.burn.loose.length < 1000000000 := by rw [(fuse_or s).1]; exact hlen
  have HD := Lib.hid (fun w3 v hdk hc => does_spec (K := K) (B := fun x => x = w.heap.size ∨ x = w.heap.size + 1) w3 b s.burn (DC.cut n k) v hdk hbl hc hok hfo hll 0 rfl)
  rw [← DS.now_burn] at h3
  clear bx by_ hD h h0 hbl hok hfo hll hlen hsz h5
  go_enter Tryd.func11, Tryd.ntmps11
  go_wp2_with fail
  refine hb.mono ?_
  clear hb
  rintro e w1 ⟨rfl, h1', k1⟩
  have m1 : Mid2 K w w1 b s.burn (.string (bs n)) (.int .i64 k) 9 3 := ⟨h1', k1.box HX.out.1 (.inl (.inr rfl)), k1.box HX.out.2.1 (.inr rfl), HX.out.2.2.trans (k1.mono fun k hk => .inl (.inl hk))⟩
  obtain ⟨rn, c2, hlook⟩ := h1'.drew.lookAt hn
  rw [h3] at hlook
  have cx : w1.cell? ⟨w.heap.size, 0, none⟩ = some (.string (bs n)) := cell_of m1.bx 0
  have cy : w1.cell? ⟨w.heap.size + 1, 0, none⟩ = some (.int .i64 k) := cell_of m1.by_ 0
  have M1 := Lib.hid m1
  have m2 := m1.below (w3 := w1.drew) ⟨rfl, rfl, rfl, Nat.le_refl _, fun _ _ => rfl⟩
  have hdo := HD.out w1.drew _ m2.dk.less2 ⟨_, _, rfl, m2.bx, m2.by_, .inl rfl, .inr rfl⟩
  have KK := Lib.hid m2.keep
  clear m1 m2 h1' k1 h3 M1
  go_wp2_with fail
  go_region
  go_wp2_with fail
  refine hdo.mono ?_
  clear hdo
  rintro e w4 ⟨rfl, h4', k4⟩
  have H := Lib.hid (And.intro h4' (KK.out.trans k4))
  clear h4' k4
  go_wp2
  go_ret
  exact ⟨rfl, H.out⟩


theorem cut_spec {K : Nat → Prop} (w : World) (b : Nat) (s : DS) (n : Str) (k : Int) (h : Dk K w b s) (hn : n.length ≤ maxLen) (hlen : s.loose.length < 1000000000) :
    Calls Tryd.prog 11 #[.pointer (some ⟨b, 0, none⟩), .string (bs n), .int .i64 k] w fun e w' => e = .returned (.int .i64 (dCut s n k).1) ∧ Then K w b (dCut s n k).2 w' := by
  by_cases h0 : s.fuse = 0
  · have : dCut s n k = (60, s) := by unfold dCut; rw [if_pos h0]
    rw [this]; exact cut_down w b s n k h h0
  cases h3 : fhas s.now n with
  | false =>
    have : dCut s n k = (5, s.burn) := by unfold dCut; rw [if_neg h0, if_pos h3]
    rw [this]; exact cut_none w b s n k h hn h0 h3
  | true =>
    by_cases h4 : k < 0
    · have : dCut s n k = (2, s.burn) := by unfold dCut; rw [if_neg h0, if_neg (by rw [h3]; simp), if_pos (.inl h4)]
      rw [this]; exact cut_neg w b s n k h hn h0 h3 h4
    · by_cases h5 : ((fget s.now n).getD []).length < k
      · have : dCut s n k = (2, s.burn) := by unfold dCut; rw [if_neg h0, if_neg (by rw [h3]; simp), if_pos (.inr h5)]
        rw [this]; exact cut_past w b s n k h hn h0 h3 h4 h5
      · have : dCut s n k = (0, s.burn.push (.cut n k.toNat)) := by unfold dCut; rw [if_neg h0, if_neg (by rw [h3]; simp), if_neg (fun e => e.elim h4 h5)]
        rw [this]
        obtain ⟨j, rfl⟩ := Int.eq_ofNat_of_zero_le (by omega : 0 ≤ k)
        exact cut_good w b s n j h hn h0 h3 (by omega) hlen
theorem rename_spec {K : Nat → Prop} (w : World) (b : Nat) (s : DS) (n m : Str) (h : Dk K w b s) (hn : n.length ≤ maxLen) (hm : m.length ≤ maxLen) (hlen : s.loose.length < 1000000000) :
    Calls Tryd.prog 12 #[.pointer (some ⟨b, 0, none⟩), .string (bs n), .string (bs m)] w fun e w' => e = .returned (.int .i64 (dRename s n m).1) ∧ Then K w b (dRename s n m).2 w' := by
  by_cases h0 : s.fuse = 0
  · have : dRename s n m = (60, s) := by unfold dRename; rw [if_pos h0]
    rw [this]; exact rename_down w b s n m h h0
  cases h3 : fhas s.now n with
  | false =>
    have : dRename s n m = (5, s.burn) := by unfold dRename; rw [if_neg h0, if_pos h3]
    rw [this]; exact rename_none w b s n m h hn h0 h3
  | true =>
    cases h4 : nameOk m with
    | false =>
      have : dRename s n m = (2, s.burn) := by unfold dRename; rw [if_neg h0, if_neg (by rw [h3]; simp), if_pos h4]
      rw [this]; exact rename_bad w b s n m h hn hm h0 h3 h4
    | true =>
      have : dRename s n m = (0, s.burn.push (.ren n m)) := by unfold dRename; rw [if_neg h0, if_neg (by rw [h3]; simp), if_neg (by rw [h4]; simp)]
      rw [this]; exact rename_good w b s n m h hn hm h0 h3 h4 hlen
theorem remove_spec {K : Nat → Prop} (w : World) (b : Nat) (s : DS) (n : Str) (h : Dk K w b s) (hn : n.length ≤ maxLen) (hlen : s.loose.length < 1000000000) :
    Calls Tryd.prog 13 #[.pointer (some ⟨b, 0, none⟩), .string (bs n)] w fun e w' => e = .returned (.int .i64 (dRemove s n).1) ∧ Then K w b (dRemove s n).2 w' := by
  by_cases h0 : s.fuse = 0
  · have : dRemove s n = (60, s) := by unfold dRemove; rw [if_pos h0]
    rw [this]; exact remove_down w b s n h h0
  cases h3 : fhas s.now n with
  | false =>
    have : dRemove s n = (5, s.burn) := by unfold dRemove; rw [if_neg h0, if_pos h3]
    rw [this]; exact remove_none w b s n h hn h0 h3
  | true =>
    have : dRemove s n = (0, s.burn.push (.rem n)) := by unfold dRemove; rw [if_neg h0, if_neg (by rw [h3]; simp)]
    rw [this]; exact remove_good w b s n h hn h0 h3 hlen

end Go.Proofs.YtmgnekaokcgmlaaDoor
