/- The disk's inner methods: burns, does, settle; maps.Clone. -/
import Derived.Test.YtmgnekaokcgmlaaDoorCalls
import Derived.Laws.Externs
import Derived.Shelf.SlMaps.Clone
set_option linter.unusedSimpArgs false
set_option linter.unusedVariables false
namespace Go.Proofs.YtmgnekaokcgmlaaDoor
open Go Go.RowKit Go.Maps

theorem eqMapNil (w : World) (r : Option Nat) : (binOp .eql 57 (.map r) (.map none)).run Tryd.prog w = .ok (.bool r.isNone) w := run_eql_map_nil w _ _ _ r Tryd.underlying57

theorem row_ne {w : World} {b : Nat} {cs : Array Value} {T e : TypeId} {v : Value} {n : Nat} {xs : List Value} (h : w.heap[b]? = some (.cells cs T (0, 0))) (hr : w.ownsRow 0 e 1 v n xs) (hT : T ≠ e) : ∀ g, v.ownBlock = some g → g ≠ b := by
  rintro g hg rfl
  rcases hr.2 with ⟨rfl, _⟩ | ⟨g', cap, cur, rfl, _, hh, _⟩
  · cases hg
  · obtain rfl : g' = g := by simpa [Value.ownBlock] using hg
    rw [h] at hh; cases hh; exact hT rfl
theorem map_ne {w : World} {b r : Nat} {cs : Array Value} {T : TypeId} {fs : Files} (h : w.heap[b]? = some (.cells cs T (0, 0))) (hr : MapIs w r fs) : r ≠ b := by
  rintro rfl
  obtain ⟨es, ck, e⟩ := hr.isMap
  rw [h] at e; cases e
theorem box_ne {w : World} {b x : Nat} {cs : Array Value} {T e : TypeId} {v : Value} (h : w.heap[b]? = some (.cells cs T (0, 0))) (hx : Box w x v e) (hT : T ≠ e) : x ≠ b := by
  rintro rfl
  unfold Box at hx; rw [h] at hx; cases hx; exact hT rfl

theorem CallAt.ne {w : World} {G : Nat → Prop} {v : Value} {c : DC} {b : Nat} {cs : Array Value} {T : TypeId} (h : CallAt w G v c) (hb : w.heap[b]? = some (.cells cs T (0, 0))) (h1 : T ≠ 9) (h2 : T ≠ 3) : CallAt w (fun x => G x ∧ x ≠ b) v c := by
  cases c with
  | app n d => obtain ⟨x, y, e, hx, hy, gx, gy⟩ := h; exact ⟨x, y, e, hx, hy, ⟨gx, box_ne hb hx h1⟩, ⟨gy, box_ne hb hy h1⟩⟩
  | cut n d => obtain ⟨x, y, e, hx, hy, gx, gy⟩ := h; exact ⟨x, y, e, hx, hy, ⟨gx, box_ne hb hx h1⟩, ⟨gy, box_ne hb hy h2⟩⟩
  | ren n d => obtain ⟨x, y, e, hx, hy, gx, gy⟩ := h; exact ⟨x, y, e, hx, hy, ⟨gx, box_ne hb hx h1⟩, ⟨gy, box_ne hb hy h1⟩⟩
  | rem n => obtain ⟨x, e, hx, gx⟩ := h; exact ⟨x, e, hx, ⟨gx, box_ne hb hx h1⟩⟩

theorem DiskIn.rehead {w w' : World} {F : Nat → Prop} {b : Nat} {s s' : DS} {rs rn : Nat} {vl vc : Value} {xs : List Value} (h : DiskIn w F b s rs rn vl vc xs)
    (hb : w'.heap[b]? = some (.cells #[.int .i64 s'.room, .map (some rs), .map (some rn), vl, vc, .int .i64 s'.fuse] 61 (0, 0)))
    (hF : ∀ k, F k → k ≠ b → w'.heap[k]? = w.heap[k]?) (e1 : s'.sure = s.sure) (e2 : s'.loose = s.loose) : DiskIn w' F b s' rs rn vl vc xs := by
  refine ⟨hb, ?_, ?_, h.ne, ?_, ?_, fun i c hc => ?_, h.fb, h.fs, h.fn, h.fl, h.fc⟩
  · rw [e1]; exact h.sure.of_block (hF rs h.fs (map_ne h.head h.sure))
  · rw [DS.now, e1, e2]; exact h.now.of_block (hF rn h.fn (map_ne h.head h.now))
  · rw [e2]; exact ownsRow_of_block h.loose fun g hg => hF g (h.fl g hg) (row_ne h.head h.loose (by decide) g hg)
  · rw [e2]; exact ownsRow_of_block h.cuts fun g hg => hF g (h.fc g hg) (row_ne h.head h.cuts (by decide) g hg)
  · rw [e2] at hc
    obtain ⟨v, hv, ha⟩ := h.calls i c hc
    exact ⟨v, hv, (ha.ne h.head (by decide) (by decide)).kept (fun x hx => hF x hx.1.1 hx.2) fun x hx => hx.1⟩

/-- The cells that a walk reads. -/
theorem DiskIn.cells {w : World} {F : Nat → Prop} {b : Nat} {s : DS} {rs rn : Nat} {vl vc : Value} {xs : List Value} (h : DiskIn w F b s rs rn vl vc xs) :
    w.cell? ⟨b, 0, none⟩ = some (.int .i64 s.room) ∧ w.cell? ⟨b, 1, none⟩ = some (.map (some rs)) ∧ w.cell? ⟨b, 2, none⟩ = some (.map (some rn)) ∧ w.cell? ⟨b, 3, none⟩ = some vl ∧ w.cell? ⟨b, 4, none⟩ = some vc ∧ w.cell? ⟨b, 5, none⟩ = some (.int .i64 s.fuse) :=
  ⟨cell_of h.head 0, cell_of h.head 1, cell_of h.head 2, cell_of h.head 3, cell_of h.head 4, cell_of h.head 5⟩

theorem Dk.setFuse {K : Nat → Prop} {w : World} {b : Nat} {s : DS} (h : Dk K w b s) (n : Int) (h1 : -1 ≤ n) (h2 : n ≤ 9223372036854775807) :
    Dk K (w.setCell ⟨b, 5, none⟩ (.int .i64 n)) b { s with fuse := n } ∧ Keep K w (w.setCell ⟨b, 5, none⟩ (.int .i64 n)) := by
  obtain ⟨hi, hK, F, rs, rn, vl, vc, xs, hd, hF⟩ := h
  refine ⟨⟨⟨hi.room, h1, h2, hi.hist⟩, fun k hk => by simpa [World.setCell] using hK k hk, F, rs, rn, vl, vc, xs, ?_, hF⟩, Keep.setCell (hF b hd.fb) _⟩
  exact hd.rehead (heap_set hd.head 5 _) (fun k _ hk => heap_set_other _ hk) rfl rfl

set_option maxRecDepth 100000 in
set_option maxHeartbeats 400000 in
theorem burns_down {K : Nat → Prop} (w : World) (b : Nat) (s : DS) (h : Dk K w b s) (hf : s.fuse = 0) :
    Calls Tryd.prog 28 #[.pointer (some ⟨b, 0, none⟩)] w fun e w' => e = .returned (.int .i64 60) ∧ w = w' := by
  obtain ⟨hi, hK, F, rs, rn, vl, vc, xs, hd, hF⟩ := h
  obtain ⟨-, -, c2, -, -, c5⟩ := hd.cells
  rw [hf] at c5
  clear hd hF hi hK
  have hq := eqMapNil
  go_enter Tryd.func28, Tryd.ntmps28
  go_wp2
  go_ret
  exact ⟨rfl, rfl⟩

set_option maxRecDepth 100000 in
set_option maxHeartbeats 400000 in
theorem burns_up {K : Nat → Prop} (w : World) (b : Nat) (s : DS) (h : Dk K w b s) (hf : s.fuse ≠ 0) :
    Calls Tryd.prog 28 #[.pointer (some ⟨b, 0, none⟩)] w fun e w' => e = .returned (.int .i64 0) ∧ Then K w b s.burn w' := by
  have h0 := h
  obtain ⟨hi, hK, F, rs, rn, vl, vc, xs, hd, hF⟩ := h
  obtain ⟨-, -, c2, -, -, c5⟩ := hd.cells
  have f5 := free_of hd.head 5
  have hf1 := hi.fuse
  have hf2 := hi.fuse'
  generalize hn : s.fuse = n at *
  have hn0 : (n == 0) = false := by simpa using hf
  have hq := eqMapNil
  have hfin1 : 0 < n → Then K w b s.burn (w.setCell ⟨b, 5, none⟩ (.int .i64 (n - 1))) := fun h => by
    have := h0.setFuse (n - 1) (by omega) (by omega)
    have e : s.burn = { s with fuse := n - 1 } := by unfold DS.burn; rw [hn, if_pos h]
    rw [e]; exact this
  have hfin2 : ¬ 0 < n → Then K w b s.burn w := fun h => by
    have e : s.burn = s := by unfold DS.burn; rw [hn, if_neg h]
    rw [e]; exact ⟨h0, Keep.refl _ _⟩
  clear hd hF hi hK h0 hn
  generalize s.burn = sb at *
  by_cases hp : 0 < n
  · have H := Lib.hid (hfin1 hp)
    clear hfin1 hfin2
    go_enter Tryd.func28, Tryd.ntmps28
    go_wp2
    go_ret
    exact ⟨rfl, H.out⟩
  · have H := Lib.hid (hfin2 hp)
    clear hfin1 hfin2
    have hp' : n ≤ 0 := by omega
    go_enter Tryd.func28, Tryd.ntmps28
    go_wp2
    go_ret
    exact ⟨rfl, H.out⟩

end Go.Proofs.YtmgnekaokcgmlaaDoor
