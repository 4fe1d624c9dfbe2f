/- Loose, Fuse, Read, New, settle, Sync. -/
import Derived.Test.YtmgnekaokcgmlaaDoorNames
set_option linter.unusedSimpArgs false
set_option linter.unusedVariables false
namespace Go.Proofs.YtmgnekaokcgmlaaDoor
open Go Go.RowKit Go.Maps Go.WideMaps

theorem row_form {w : World} {e : TypeId} {v : Value} {n : Nat} {xs : List Value} (h : w.ownsRow 0 e 1 v n xs) : ∃ a c, v = .slice a n c := by
  rcases h.2 with ⟨rfl, rfl⟩ | ⟨g, cap, cur, rfl, _⟩
  · exact ⟨_, _, rfl⟩
  · exact ⟨_, _, rfl⟩

set_option maxRecDepth 100000 in
set_option maxHeartbeats 400000 in
theorem loose_spec {K : Nat → Prop} (w : World) (b : Nat) (s : DS) (h : Dk K w b s) :
    Calls Tryd.prog 15 #[.pointer (some ⟨b, 0, none⟩)] w fun e w' => e = .returned (.int .i64 s.loose.length) ∧ w = w' := by
  obtain ⟨_, hK, F, rs, rn, vl, vc, xs, hd, hF⟩ := h
  obtain ⟨-, -, -, c3, -, -⟩ := hd.cells
  obtain ⟨a, c, rfl⟩ := row_form hd.loose
  clear hd hF hK
  generalize s.loose.length = n at *
  go_enter Tryd.func15, Tryd.ntmps15
  go_wp2
  go_ret
  exact ⟨rfl, rfl⟩

set_option maxRecDepth 100000 in
set_option maxHeartbeats 400000 in
theorem fuse_spec {K : Nat → Prop} (w : World) (b : Nat) (s : DS) (n : Int) (h : Dk K w b s) (hn : n ≤ 9223372036854775807) :
    Calls Tryd.prog 19 #[.pointer (some ⟨b, 0, none⟩), .int .i64 n] w fun e w' => e = .returned (.int .i64 0) ∧ Then K w b (dFuse s n) w' := by
  have hfin : Then K w b (dFuse s n) (w.setCell ⟨b, 5, none⟩ (.int .i64 (max n (-1)))) := h.setFuse (max n (-1)) (by omega) (by omega)
  have H := Lib.hid hfin
  clear hfin
  obtain ⟨_, hK, F, rs, rn, vl, vc, xs, hd, hF⟩ := h
  obtain ⟨-, -, c2, -, -, c5⟩ := hd.cells
  have f5 := free_of hd.head 5
  clear hd hF hK
  have hq := eqMapNil
  go_enter Tryd.func19, Tryd.ntmps19
  go_wp2
  go_ret
  exact ⟨rfl, H.out⟩

set_option maxRecDepth 100000 in
set_option maxHeartbeats 400000 in
theorem read_spec {K : Nat → Prop} (w : World) (b : Nat) (s : DS) (k : Str) (h : Dk K w b s) (hk : k.length ≤ maxLen) :
    Calls Tryd.prog 17 #[.pointer (some ⟨b, 0, none⟩), .string (bs k)] w fun e w' => e = .returned (.tuple #[.string (bs (dRead s k).1), .int .i64 (dRead s k).2]) ∧ w = w' := by
  obtain ⟨_, hK, F, rs, rn, vl, vc, xs, hd, hF⟩ := h
  obtain ⟨-, -, c2, -, -, c5⟩ := hd.cells
  have hlook := hd.now.look_ok hk
  clear hd hF hK
  have hq := eqMapNil
  generalize hf : s.fuse = f at *
  by_cases h0 : f = 0
  · subst h0
    have hv : dRead s k = ([], 60) := by unfold dRead; rw [if_pos hf]
    rw [hv]
    clear hlook hv hf
    go_enter Tryd.func17, Tryd.ntmps17
    go_wp2
    go_ret2
    exact ⟨rfl, rfl⟩
  · have h0' : (f == 0) = false := by simpa using h0
    cases hg : fget s.now k with
    | none =>
      have hv : dRead s k = ([], 5) := by unfold dRead; rw [if_neg (by rw [hf]; exact h0), hg]
      rw [hv]
      rw [fhas_eq, hg] at hlook
      simp only [Option.isSome_none, Option.getD_none] at hlook
      clear hv hf h0 hg
      go_enter Tryd.func17, Tryd.ntmps17
      go_wp2
      go_ret2
      exact ⟨rfl, rfl⟩
    | some v =>
      have hv : dRead s k = (v, 0) := by unfold dRead; rw [if_neg (by rw [hf]; exact h0), hg]
      rw [hv]
      rw [fhas_eq, hg] at hlook
      simp only [Option.isSome_some, Option.getD_some] at hlook
      clear hv hf h0 hg
      go_enter Tryd.func17, Tryd.ntmps17
      go_wp2
      go_ret2
      exact ⟨rfl, rfl⟩

theorem Dk.settled {K : Nat → Prop} {w w' : World} {b : Nat} {s : DS} {F : Nat → Prop} {rs rn : Nat} {vl vc : Value} {xs : List Value} (hi : Inv s) (hK : ∀ k, K k → k < w.heap.size) (hd : DiskIn w F b s rs rn vl vc xs) (hF : ∀ k, F k → ¬ K k)
    {es : Array MapEntry} {ck : Nat} (he : w.heap[rn]? = some (.map es ck))
    (hw : w' = (((w.alloc (.map es ck)).setCell ⟨b, 1, none⟩ (.map (some w.heap.size))).setCell ⟨b, 3, none⟩ (.slice none 0 0)).setCell ⟨b, 4, none⟩ (.slice none 0 0)) :
    Then K w b s.settle w' := by
  have hb := lt_of_heap hd.head
  have kk : ∀ k, k ≠ b → k < w.heap.size → w'.heap[k]? = w.heap[k]? := fun k hk hlt => by
    rw [hw, heap_set_other _ hk, heap_set_other _ hk, heap_set_other _ hk]
    exact Below.heap_alloc w _ k hlt
  have hn : w'.heap[w.heap.size]? = some (.map es ck) := by
    rw [hw, heap_set_other _ (by omega), heap_set_other _ (by omega), heap_set_other _ (by omega)]
    exact heap_new w _
  have hh : w'.heap[b]? = some (.cells #[.int .i64 s.room, .map (some w.heap.size), .map (some rn), .slice none 0 0, .slice none 0 0, .int .i64 s.fuse] 61 (0, 0)) := by
    have h0 : (w.alloc (.map es ck)).heap[b]? = _ := (Below.heap_alloc w _ b hb).trans hd.head
    rw [hw]
    exact heap_set (heap_set (heap_set h0 1 _) 3 _) 4 _
  have hsz : w'.heap.size = w.heap.size + 1 := by rw [hw]; simp [World.setCell]
  refine ⟨⟨hi.settle, fun k hk => by have := hK k hk; omega, fun k => F k ∨ k = w.heap.size, w.heap.size, rn, .slice none 0 0, .slice none 0 0, [], ⟨hh, ?_, ?_, ?_, World.ownsRow_nil _ _ _ _, World.ownsRow_nil _ _ _ _, (fun i c hc => by simp [DS.settle] at hc), .inl hd.fb, .inr rfl, .inl hd.fn, (fun g hg => by cases hg), (fun g hg => by cases hg)⟩, ?_⟩, ?_⟩
  · obtain ⟨es', ck', he', h2⟩ := hd.now
    rw [he] at he'; cases he'
    exact ⟨es, ck, hn, h2⟩
  · have : s.settle.now = s.now := rfl
    rw [this]
    exact hd.now.of_block (kk rn (map_ne hd.head hd.now) hd.now.lt)
  · have := hd.now.lt; omega
  · rintro k (h | rfl) hk
    · exact hF k h hk
    · have := hK _ hk; omega
  · refine ⟨by rw [hw]; rfl, by rw [hw]; rfl, by rw [hw]; rfl, by omega, fun k hk => kk k (fun e => hF b hd.fb (e ▸ hk)) (hK k hk)⟩

set_option maxRecDepth 100000 in
set_option maxHeartbeats 400000 in
theorem settle_spec {K : Nat → Prop} (w : World) (b : Nat) (s : DS) (h : Dk K w b s) :
    Calls Tryd.prog 34 #[.pointer (some ⟨b, 0, none⟩)] w fun e w' => e = .returned (.tuple #[]) ∧ Then K w b s.settle w' := by
  obtain ⟨hi, hK, F, rs, rn, vl, vc, xs, hd, hF⟩ := h
  obtain ⟨es, ck, he⟩ := hd.now.isMap
  obtain ⟨-, c1, c2, c3, c4, -⟩ := hd.cells
  have hfin := Lib.hid (fun w' => @Dk.settled K w w' b s F rs rn vl vc xs hi hK hd hF es ck he)
  have hcl := AnyW.maps_Clone Tryd.clone37 rn es ck w he
  have hb := lt_of_heap hd.head
  have h0 : (w.alloc (.map es ck)).heap[b]? = _ := (Below.heap_alloc w _ b hb).trans hd.head
  have d1 : (w.alloc (.map es ck)).cell? ⟨b, 1, none⟩ = some (.map (some rs)) := cell_of h0 1
  have g1 : (w.alloc (.map es ck)).frozen? ⟨b, 1, none⟩ = false := free_of h0 1
  have d3 : (w.alloc (.map es ck)).cell? ⟨b, 3, none⟩ = some vl := cell_of h0 3
  have g3 : (w.alloc (.map es ck)).frozen? ⟨b, 3, none⟩ = false := free_of h0 3
  have d4 : (w.alloc (.map es ck)).cell? ⟨b, 4, none⟩ = some vc := cell_of h0 4
  have g4 : (w.alloc (.map es ck)).frozen? ⟨b, 4, none⟩ = false := free_of h0 4
  clear hd hF hK hi he h0 hb
  go_enter Tryd.func34, Tryd.ntmps34
  go_wp2_with fail
  refine hcl.mono ?_
  clear hcl
  rintro e w1 ⟨rfl, rfl⟩
  go_wp2
  go_end0
  exact ⟨rfl, hfin.out _ rfl⟩

set_option maxRecDepth 100000 in
set_option maxHeartbeats 400000 in
theorem sync_spec {K : Nat → Prop} (w : World) (b : Nat) (s : DS) (h : Dk K w b s) :
    Calls Tryd.prog 14 #[.pointer (some ⟨b, 0, none⟩)] w fun e w' => e = .returned (.int .i64 (dSync s).1) ∧ Then K w b (dSync s).2 w' := by
  by_cases h0 : s.fuse = 0
  · have hv : dSync s = (60, s) := by unfold dSync; rw [if_pos h0]
    rw [hv]
    have hb := burns_down w b s h h0
    have H := Lib.hid (And.intro h (Keep.refl K w))
    clear h h0 hv
    go_enter Tryd.func14, Tryd.ntmps14
    go_wp2_with fail
    refine hb.mono ?_
    clear hb
    rintro e w1 ⟨rfl, rfl⟩
    go_wp2
    go_ret
    exact ⟨rfl, H.out⟩
  · have hv : dSync s = (0, s.burn.settle) := by unfold dSync; rw [if_neg h0]
    rw [hv]
    have hb := burns_up w b s h h0
    clear h h0 hv
    go_enter Tryd.func14, Tryd.ntmps14
    go_wp2_with fail
    refine hb.mono ?_
    clear hb
    rintro e w1 ⟨rfl, h1, k1⟩
    have hs := settle_spec w1 b s.burn h1
    have K1 := Lib.hid k1
    clear h1 k1
    go_wp2_with fail
    refine hs.mono ?_
    clear hs
    rintro e w2 ⟨rfl, h2, k2⟩
    have H := Lib.hid (And.intro h2 (K1.out.trans k2))
    clear h2 k2
    go_wp2
    go_ret
    exact ⟨rfl, H.out⟩

set_option maxRecDepth 100000 in
set_option maxHeartbeats 400000 in
theorem new_bad (w : World) (room : Int) (h : room < 0 ∨ 16777216 < room) :
    Calls Tryd.prog 9 #[.int .i64 room] w fun e w' => e = .returned (.tuple #[.pointer none, .int .i64 2]) ∧ w = w' := by
  rcases h with h | h
  · go_enter Tryd.func9, Tryd.ntmps9
    go_wp2
    go_ret2
    exact ⟨rfl, rfl⟩
  · have h' : ¬ room < 0 := by omega
    go_enter Tryd.func9, Tryd.ntmps9
    go_wp2
    go_ret2
    exact ⟨rfl, rfl⟩

def freshDS (room : Nat) : DS := { room := room, sure := [], loose := [], fuse := -1 }
set_option maxRecDepth 100000 in
set_option maxHeartbeats 400000 in
theorem new_good (w : World) (room : Nat) (h : room ≤ 16777216) :
    Calls Tryd.prog 9 #[.int .i64 room] w fun e w' => e = .returned (.tuple #[.pointer (some ⟨w.heap.size + 2, 0, none⟩), .int .i64 0]) ∧ Then (· < w.heap.size) w (w.heap.size + 2) (freshDS room) w' := by
  have hfin : Then (· < w.heap.size) w (w.heap.size + 2) (freshDS room) (((w.alloc (.map #[] 0)).alloc (.map #[] 0)).alloc (.cells #[.int .i64 room, .map (some w.heap.size), .map (some (w.heap.size + 1)), .slice none 0 0, .slice none 0 0, .int .i64 (-1)] 61)) := by
    have hB : Below w.heap.size w (((w.alloc (.map #[] 0)).alloc (.map #[] 0)).alloc (.cells #[.int .i64 room, .map (some w.heap.size), .map (some (w.heap.size + 1)), .slice none 0 0, .slice none 0 0, .int .i64 (-1)] 61)) :=
      (((Below.refl _ w).alloc (Nat.le_refl _) _).alloc (by simp) _).alloc (by simp; omega) _
    have m1 : MapIs (((w.alloc (.map #[] 0)).alloc (.map #[] 0)).alloc (.cells #[.int .i64 room, .map (some w.heap.size), .map (some (w.heap.size + 1)), .slice none 0 0, .slice none 0 0, .int .i64 (-1)] 61)) w.heap.size [] :=
      (MapIs.made w).of_block ((Below.heap_alloc _ _ _ (by simp; omega)).trans (Below.heap_alloc _ _ _ (by simp)))
    have m2 : MapIs (((w.alloc (.map #[] 0)).alloc (.map #[] 0)).alloc (.cells #[.int .i64 room, .map (some w.heap.size), .map (some (w.heap.size + 1)), .slice none 0 0, .slice none 0 0, .int .i64 (-1)] 61)) (w.heap.size + 1) [] := by
      have := MapIs.made (w.alloc (.map #[] 0))
      simp only [World.size_alloc] at this
      exact this.of_block (Below.heap_alloc _ _ _ (by simp))
    have hh := heap_new ((w.alloc (.map #[] 0)).alloc (.map #[] 0)) (.cells #[.int .i64 room, .map (some w.heap.size), .map (some (w.heap.size + 1)), .slice none 0 0, .slice none 0 0, .int .i64 (-1)] 61)
    simp only [World.size_alloc] at hh
    refine ⟨⟨⟨h, by show (-1 : Int) ≤ -1; omega, by show (-1 : Int) ≤ _; omega, ⟨List.Pairwise.nil, Nat.zero_le _, Nat.zero_le _, (fun p hp => by cases hp)⟩⟩, fun k hk => by simp; omega, fun k => w.heap.size ≤ k, w.heap.size, w.heap.size + 1, .slice none 0 0, .slice none 0 0, [], ⟨hh, m1, m2, by omega, World.ownsRow_nil _ _ _ _, World.ownsRow_nil _ _ _ _, (fun i c hc => by simp [freshDS] at hc), by omega, Nat.le_refl _, by omega, (fun g hg => by cases hg), (fun g hg => by cases hg)⟩, fun k hk hk' => by omega⟩, ⟨hB.os, hB.tape, hB.output, hB.size, hB.block⟩⟩
  have H := Lib.hid hfin
  clear hfin
  have hmm := @run_makeMap Tryd.prog
  have h' : ¬ (16777216 : Int) < (room : Int) := by omega
  have h'' : ¬ (room : Int) < 0 := by omega
  go_enter Tryd.func9, Tryd.ntmps9
  go_wp2
  go_ret2
  exact ⟨rfl, H.out⟩

end Go.Proofs.YtmgnekaokcgmlaaDoor
