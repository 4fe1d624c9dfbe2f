/- The disk and the reference's disk at once: neither touches the other. -/
import Derived.Test.YtmgnekaokcgmlaaDoorRef9
set_option linter.unusedSimpArgs false
set_option linter.unusedVariables false
namespace Go.Proofs.YtmgnekaokcgmlaaDoor
open Go Go.RowKit Go.Maps Go.WideMaps

structure Both (K : Nat → Prop) (w : World) (db rb : Nat) (s t : DS) : Prop where
  inv : Inv s
  inv' : Inv t
  lt : ∀ k, K k → k < w.heap.size
  two : ∃ FD rs rn vl vc xs FR vs v2, DiskIn w FD db s rs rn vl vc xs ∧ RefIn w FR rb t vs v2 ∧ (∀ k, FD k → ¬ K k) ∧ (∀ k, FR k → ¬ K k) ∧ (∀ k, FD k → ¬ FR k) ∧ (∀ k, FR k → k < w.heap.size) ∧ (∀ k, FD k → k < w.heap.size)

/-- The disk's calls. -/
theorem Both.disk {K : Nat → Prop} {w : World} {db rb : Nat} {s t : DS} (h : Both K w db rb s t) :
    ∃ L : Nat → Prop, Dk L w db s ∧ ∀ w' s', Then L w db s' w' → Both K w' db rb s' t ∧ Keep K w w' := by
  obtain ⟨FD, rs, rn, vl, vc, xs, FR, vs, v2, hd, hr, h1, h2, h3, h4, h5⟩ := h.two
  refine ⟨fun k => K k ∨ FR k, ⟨h.inv, fun k hk => hk.elim (h.lt k) (h4 k), FD, rs, rn, vl, vc, xs, hd, fun k hk hl => hl.elim (h1 k hk) (h3 k hk)⟩, fun w' s' ht => ?_⟩
  obtain ⟨⟨hi', hlt', FD', rs', rn', vl', vc', xs', hd', hF'⟩, hk⟩ := ht
  refine ⟨⟨hi', h.inv', fun k hk' => hlt' k (.inl hk'), _, rs', rn', vl', vc', xs', FR, vs, v2, hd'.ltF, hr.kept hk.size fun k hk' _ => hk.block k (.inr hk'), fun k hk' hl => hF' k hk'.1 (.inl hl), h2, fun k hk' hl => hF' k hk'.1 (.inr hl), fun k hk' => Nat.lt_of_lt_of_le (h4 k hk') hk.size, fun k hk' => hk'.2⟩, hk.mono fun k hk' => .inl hk'⟩
/-- The reference's calls. -/
theorem Both.ref {K : Nat → Prop} {w : World} {db rb : Nat} {s t : DS} (h : Both K w db rb s t) :
    ∃ L : Nat → Prop, Rk L w rb t ∧ ∀ w' t', RThen L w rb t' w' → Both K w' db rb s t' ∧ Keep K w w' := by
  obtain ⟨FD, rs, rn, vl, vc, xs, FR, vs, v2, hd, hr, h1, h2, h3, h4, h5⟩ := h.two
  refine ⟨fun k => K k ∨ FD k, ⟨h.inv', fun k hk => hk.elim (h.lt k) (h5 k), FR, vs, v2, hr, fun k hk hl => hl.elim (h2 k hk) fun h => h3 k h hk⟩, fun w' t' ht => ?_⟩
  obtain ⟨⟨hi', hlt', FR', vs', v2', hr', hF'⟩, hk⟩ := ht
  refine ⟨⟨h.inv, hi', fun k hk' => hlt' k (.inl hk'), FD, rs, rn, vl, vc, xs, _, vs', v2', hd.kept fun k hk' => hk.block k (.inr hk'), hr'.ltF, h1, fun k hk' hl => hF' k hk'.1 (.inl hl), fun k hk' hl => hF' k hl.1 (.inr hk'), fun k hk' => hk'.2, fun k hk' => Nat.lt_of_lt_of_le (h5 k hk') hk.size⟩, hk.mono fun k hk' => .inl hk'⟩
theorem Both.below {K : Nat → Prop} {w w' : World} {db rb : Nat} {s t : DS} (h : Both K w db rb s t) (hb : Below w.heap.size w w') : Both K w' db rb s t := by
  obtain ⟨FD, rs, rn, vl, vc, xs, FR, vs, v2, hd, hr, h1, h2, h3, h4, h5⟩ := h.two
  exact ⟨h.inv, h.inv', fun k hk => Nat.lt_of_lt_of_le (h.lt k hk) hb.size, FD, rs, rn, vl, vc, xs, FR, vs, v2, hd.kept fun k hk => hb.block k (h5 k hk), hr.kept hb.size fun k hk _ => hb.block k (h4 k hk), h1, h2, h3, fun k hk => Nat.lt_of_lt_of_le (h4 k hk) hb.size, fun k hk => Nat.lt_of_lt_of_le (h5 k hk) hb.size⟩
theorem Both.drew {K : Nat → Prop} {w : World} {db rb : Nat} {s t : DS} (h : Both K w db rb s t) : Both K w.drew db rb s t := h.below (Below.refl _ _).drew
theorem Both.less {K L : Nat → Prop} {w : World} {db rb : Nat} {s t : DS} (h : Both K w db rb s t) (hL : ∀ k, L k → K k) : Both L w db rb s t := by
  obtain ⟨FD, rs, rn, vl, vc, xs, FR, vs, v2, hd, hr, h1, h2, h3, h4, h5⟩ := h.two
  exact ⟨h.inv, h.inv', fun k hk => h.lt k (hL k hk), FD, rs, rn, vl, vc, xs, FR, vs, v2, hd, hr, fun k hk hl => h1 k hk (hL k hl), fun k hk hl => h2 k hk (hL k hl), h3, h4, h5⟩
theorem Both.more {K : Nat → Prop} {w : World} {db rb : Nat} {s t : DS} (h : Both K w db rb s t) (o : Obj) : Both (fun k => K k ∨ k = w.heap.size) (w.alloc o) db rb s t := by
  obtain ⟨FD, rs, rn, vl, vc, xs, FR, vs, v2, hd, hr, h1, h2, h3, h4, h5⟩ := h.two
  refine ⟨h.inv, h.inv', fun k hk => ?_, FD, rs, rn, vl, vc, xs, FR, vs, v2, hd.kept fun k hk => Below.heap_alloc w o k (h5 k hk), hr.kept (by simp) fun k hk _ => Below.heap_alloc w o k (h4 k hk), fun k hk hl => ?_, fun k hk hl => ?_, h3, fun k hk => by have := h4 k hk; simp; omega, fun k hk => by have := h5 k hk; simp; omega⟩
  · rcases hk with hk | rfl
    · have := h.lt k hk; simp; omega
    · simp
  · rcases hl with hl | rfl
    · exact h1 k hk hl
    · exact absurd (h5 _ hk) (Nat.lt_irrefl _)
  · rcases hl with hl | rfl
    · exact h2 k hk hl
    · exact absurd (h4 _ hk) (Nat.lt_irrefl _)
end Go.Proofs.YtmgnekaokcgmlaaDoor
