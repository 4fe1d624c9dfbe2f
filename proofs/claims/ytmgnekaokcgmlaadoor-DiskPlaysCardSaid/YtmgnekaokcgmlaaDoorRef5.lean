/- The reference's disk: Left, burns, Read, Sync, New. -/
import Derived.Test.YtmgnekaokcgmlaaDoorRef4
set_option linter.unusedSimpArgs false
set_option linter.unusedVariables false
namespace Go.Proofs.YtmgnekaokcgmlaaDoor
open Go Go.RowKit Go.Maps Go.WideMaps

theorem ftot_append (a b : Files) : ftot (a ++ b) = ftot a + ftot b := by simp [ftot]
theorem ftot_take {fs : Files} {i : Nat} {p : Str × Str} (hp : fs[i]? = some p) : ftot (fs.take (i + 1)) = ftot (fs.take i) + p.2.length := by
  have e : fs.take (i + 1) = fs.take i ++ [p] := by
    rw [List.take_succ_eq_append_getElem (List.getElem?_eq_some_iff.1 hp).1, (List.getElem?_eq_some_iff.1 hp).2]
  rw [e, ftot_append]
  simp [ftot]
theorem ftot_take_le (fs : Files) (i : Nat) : ftot (fs.take i) ≤ ftot fs := by
  have := congrArg ftot (List.take_append_drop i fs)
  rw [ftot_append] at this
  omega
theorem Rk.inv {K : Nat → Prop} {w : World} {rb : Nat} {s : DS} (h : Rk K w rb s) : Inv s := h.1
theorem Rk.lt {K : Nat → Prop} {w : World} {rb : Nat} {s : DS} (h : Rk K w rb s) : ∀ k, K k → k < w.heap.size := h.2.1
theorem Rk.cellsAt {K : Nat → Prop} {w : World} {rb : Nat} {s : DS} (h : Rk K w rb s) :
    w.cell? ⟨rb, 0, none⟩ = some (.int .i64 s.room) ∧ (∃ vs, w.cell? ⟨rb, 1, none⟩ = some vs) ∧ (∃ A cap, w.cell? ⟨rb, 2, none⟩ = some (.slice A s.loose.length cap)) ∧ w.cell? ⟨rb, 3, none⟩ = some (.int .i64 s.fuse) ∧ (∀ i, w.frozen? ⟨rb, i, none⟩ = false) ∧ rb < w.heap.size := by
  obtain ⟨hi, hK, F, vs, vl, hd, hF⟩ := h
  obtain ⟨c0, c1, c2, c3⟩ := hd.cells
  refine ⟨c0, ⟨_, c1⟩, ?_, c3, fun i => free_of hd.head i, lt_of_heap hd.head⟩
  rcases hd.loose.2 with ⟨h1, h0⟩ | ⟨g, cap, cur, h1, _⟩
  · exact ⟨none, 0, by rw [c2, h1, h0]⟩
  · exact ⟨_, cap, by rw [c2, h1]⟩

set_option maxRecDepth 100000 in
set_option maxHeartbeats 2000000 in
theorem rleft_spec {K : Nat → Prop} (w : World) (rb : Nat) (s : DS) (h : Rk K w rb s) (hl : s.loose.length ≤ 1000000) :
    Calls Tryd.prog 24 #[.pointer (some ⟨rb, 0, none⟩)] w fun e w' => e = .returned (.int .i64 s.left) ∧ Below w.heap.size w w' := by
  have hnow := now_spec w rb s h hl
  obtain ⟨c0, -, -, -, -, hrb⟩ := h.cellsAt
  have htot := h.inv.now.tot
  have hroom := h.inv.room
  have hmany := h.inv.now.many
  have hleft : s.left = s.room - ftot s.now := rfl
  rw [hleft]
  clear hleft h
  generalize s.now = fs at *
  generalize s.room = room at *
  go_enter Tryd.func24, Tryd.ntmps24
  go_wp2_with fail
  refine hnow.mono ?_
  clear hnow
  rintro e w1 ⟨r, G, rfl, hfl, -, hB⟩
  obtain ⟨A, cap, hv⟩ := hfl.val
  subst hv
  have d0 := (hB.cell hrb).trans c0
  have H := Lib.hid (And.intro hfl hB)
  clear hfl hB
  go_wp2_with fail
  go_loopw [4, 5] (fun m i wr => ∃ j : Nat, j ≤ fs.length ∧ i = .int .i64 j ∧ m = .int .i64 ((room : Int) - ftot (fs.take j)) ∧ Is w1 wr) (fun _ i _ => fs.length - (intOf i).toNat)
  case atStart => exact ⟨0, Nat.zero_le _, rfl, by simp [ftot], rfl⟩
  case round =>
    obtain ⟨j, hj, rfl, rfl, hw⟩ := hrel
    obtain rfl : w1 = wr := hw
    by_cases hjl : j < fs.length
    · obtain ⟨p, hp⟩ : ∃ p, fs[j]? = some p := ⟨_, List.getElem?_eq_getElem hjl⟩
      obtain ⟨g, cap', he, hil, k0, k1⟩ := H.out.1.at_ (i := j) (k := p.1) (u := p.2) hp
      simp only [Value.slice.injEq] at he
      obtain ⟨rfl, -, rfl⟩ := he
      have ht := ftot_take hp
      have ht2 := ftot_take_le fs (j + 1)
      have hsz : (bs p.2).size = p.2.length := bs_size _
      have HT := Lib.hid ht
      have hb : ftot (fs.take j) + p.2.length ≤ room := by omega
      clear ht ht2 hp
      have i1 : (0 : Int) ≤ (j : Int) := by omega
      have i2 : (j : Int) < (fs.length : Int) := by omega
      go_wp2_with fail
      go_roundw
      case rel => exact ⟨j + 1, by omega, by go_num, by rw [HT.out]; congr 1; omega, rfl⟩
      case measure => simp [intOf]; omega
    · have hje : fs.take j = fs := List.take_of_length_le (by omega)
      rw [hje]
      have hjn : decide ((j : Int) < (fs.length : Int)) = false := by simp; omega
      clear hje
      go_wp2_with fail
      go_ret
      exact ⟨rfl, H.out.2⟩

set_option maxRecDepth 100000 in
theorem rburns_down {K : Nat → Prop} (w : World) (rb : Nat) (s : DS) (h : Rk K w rb s) (h0 : s.fuse = 0) :
    Calls Tryd.prog 52 #[.pointer (some ⟨rb, 0, none⟩)] w fun e w' => e = .returned (.bool false) ∧ w = w' := by
  obtain ⟨-, -, -, c3, -, -⟩ := h.cellsAt
  rw [h0] at c3
  clear h
  go_enter Tryd.func52, Tryd.ntmps52
  go_wp2
  go_ret
  exact ⟨rfl, rfl⟩

theorem row_apart_of {w : World} {b : Nat} {cs : Array Value} {T e : TypeId} {size : Nat} {base n : Nat} {v : Value} {xs : List Value} (h : w.heap[b]? = some (.cells cs T (0, 0))) (hr : w.ownsRow base e size v n xs) (hne : e ≠ T) : ∀ g, v.ownBlock = some g → g ≠ b := by
  rintro g hg rfl
  rcases hr.2 with ⟨rfl, _⟩ | ⟨g', cap, cur, rfl, _, hh, _⟩
  · cases hg
  · simp only [Value.ownBlock, Option.some.injEq] at hg
    subst hg
    rw [h] at hh
    cases hh
    exact hne rfl
theorem FlAt.ne_head {w : World} {F : Nat → Prop} {rb : Nat} {cs : Array Value} {v : Value} {fs : Files} (hh : w.heap[rb]? = some (.cells cs 51 (0, 0))) (h : FlAt w F v fs) :
    FlAt w (fun b => F b ∧ b ≠ rb) v fs :=
  h.apart.more fun b hb _ => ⟨hb.1, fun e => by
    obtain ⟨_, cur, hc⟩ := hb
    rw [e, hh] at hc
    cases hc⟩

/-- Stores into the disk's own cells: what it has besides stays. -/
theorem RefIn.set {w w' : World} {F : Nat → Prop} {rb : Nat} {s : DS} {vs vl : Value} (h : RefIn w F rb s vs vl) (hs : w.heap.size ≤ w'.heap.size) (hF : ∀ k, F k → k < w.heap.size → k ≠ rb → w'.heap[k]? = w.heap[k]?) :
    FlAt w' F vs s.sure ∧ w'.ownsRow 0 81 4 vl s.loose.length (lcells s.loose) :=
  ⟨(h.sure.ne_head h.head).kept hs (fun b hb hl => hF b hb.1 hl hb.2) |>.more fun b hb _ => hb.1,
   ownsRow_of_block h.loose fun g hg => hF g (h.fl g hg) (World.ownsRow.lt h.loose g hg).2 (row_apart_of h.head h.loose (by decide) g hg)⟩

theorem Rk.setFuse {K : Nat → Prop} {w : World} {rb : Nat} {s : DS} (h : Rk K w rb s) (n : Int) (h1 : -1 ≤ n) (h2 : n ≤ 9223372036854775807) : RThen K w rb { s with fuse := n } (w.setCell ⟨rb, 3, none⟩ (.int .i64 n)) := by
  obtain ⟨hi, hK, F, vs, vl, hd, hF⟩ := h
  have hsz : (w.setCell ⟨rb, 3, none⟩ (.int .i64 n)).heap.size = w.heap.size := by simp [World.setCell]
  obtain ⟨q1, q2⟩ := hd.set (w' := w.setCell ⟨rb, 3, none⟩ (.int .i64 n)) (by omega) (fun k _ _ hk => heap_set_other _ hk)
  exact ⟨⟨⟨hi.room, h1, h2, hi.hist⟩, fun k hk => by rw [hsz]; exact hK k hk, F, vs, vl, ⟨heap_set hd.head 3 _, q1, q2, hd.fb, hd.fl⟩, hF⟩, Keep.setCell (fun hk => hF rb hd.fb hk) _⟩

set_option maxRecDepth 100000 in
theorem rburns_up {K : Nat → Prop} (w : World) (rb : Nat) (s : DS) (h : Rk K w rb s) (h0 : s.fuse ≠ 0) :
    Calls Tryd.prog 52 #[.pointer (some ⟨rb, 0, none⟩)] w fun e w' => e = .returned (.bool true) ∧ RThen K w rb s.burn w' := by
  obtain ⟨-, -, -, c3, f, -⟩ := h.cellsAt
  have f3 := f 3
  have hf1 := h.inv.fuse
  have hf2 := h.inv.fuse'
  have H := Lib.hid h
  clear h f
  by_cases hp : 0 < s.fuse
  · have hb : s.burn = { s with fuse := s.fuse - 1 } := by unfold DS.burn; rw [if_pos hp]
    have hfin := H.out.setFuse (s.fuse - 1) (by omega) (by omega)
    rw [← hb] at hfin
    have HF := Lib.hid hfin
    clear hfin hb
    go_enter Tryd.func52, Tryd.ntmps52
    go_wp2
    go_ret
    exact ⟨rfl, HF.out⟩
  · have hb : s.burn = s := by unfold DS.burn; rw [if_neg hp]
    rw [hb]
    clear hb
    have hm : s.fuse < 0 := by omega
    go_enter Tryd.func52, Tryd.ntmps52
    go_wp2
    go_ret
    exact ⟨rfl, H.out, Keep.refl _ _⟩

set_option maxRecDepth 100000 in
set_option maxHeartbeats 2000000 in
theorem rread_spec {K : Nat → Prop} (w : World) (rb : Nat) (s : DS) (k : Str) (h : Rk K w rb s) (hl : s.loose.length ≤ 1000000) :
    Calls Tryd.prog 46 #[.pointer (some ⟨rb, 0, none⟩), .string (bs k)] w fun e w' => e = .returned (.tuple #[.string (bs (dRead s k).1), .int .i64 (dRead s k).2]) ∧ Below w.heap.size w w' := by
  have hnow := now_spec w rb s h hl
  obtain ⟨-, -, -, c3, -, hrb⟩ := h.cellsAt
  have hmany := h.inv.now.many
  clear h
  by_cases h0 : s.fuse = 0
  · have hr : dRead s k = ([], 60) := by unfold dRead; rw [if_pos h0]
    rw [hr]
    rw [h0] at c3
    clear hr hnow
    go_enter Tryd.func46, Tryd.ntmps46
    go_wp2
    go_ret2
    exact ⟨rfl, Below.refl _ _⟩
  · have hr : ∀ r : Int, FindIs s.now k r → (r = -1 ∧ dRead s k = ([], 5)) ∨ ∃ (i : Nat) (v : Str), r = i ∧ s.now[i]? = some (k, v) ∧ dRead s k = (v, 0) := by
      intro r hr
      unfold dRead
      rw [if_neg h0]
      rcases hr with ⟨h1, h2⟩ | ⟨i, v, h1, h2, h3⟩
      · exact .inl ⟨h1, by rw [h2]⟩
      · exact .inr ⟨i, v, h1, h2, by rw [h3]⟩
    have hb0 : (s.fuse == 0) = false := by simp [h0]
    generalize dRead s k = dr at *
    generalize s.now = fs at *
    have HR := Lib.hid hr
    clear hr
    go_enter Tryd.func46, Tryd.ntmps46
    go_wp2_with fail
    refine hnow.mono ?_
    clear hnow
    rintro e w1 ⟨r, G, rfl, hfl, -, hB⟩
    obtain ⟨A, cap, hv⟩ := hfl.val
    subst hv
    have hfind := find_spec w1 G _ fs k hfl (by omega)
    have H := Lib.hid (And.intro hfl hB)
    clear hfl hB
    go_wp2_with fail
    refine hfind.mono ?_
    clear hfind
    rintro e w2 ⟨⟨r, rfl, hr⟩, rfl⟩
    rcases HR.out r hr with ⟨rfl, hd⟩ | ⟨i, v, rfl, hi, hd⟩
    · subst hd
      go_wp2_with fail
      go_ret2
      exact ⟨rfl, H.out.2⟩
    · subst hd
      obtain ⟨g, cap', he, hil, k0, k1⟩ := H.out.1.at_ hi
      simp only [Value.slice.injEq] at he
      obtain ⟨rfl, -, rfl⟩ := he
      have i1 : (0 : Int) ≤ (i : Int) := by omega
      have i2 : (i : Int) < (fs.length : Int) := by omega
      clear hi hr
      go_wp2_with fail
      go_ret2
      exact ⟨rfl, H.out.2⟩
end Go.Proofs.YtmgnekaokcgmlaaDoor
