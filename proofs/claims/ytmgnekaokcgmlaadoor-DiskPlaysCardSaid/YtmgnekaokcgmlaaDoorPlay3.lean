/- Both disks have the same files. -/
import Derived.Test.YtmgnekaokcgmlaaDoorPlay2
import Derived.Test.YtmgnekaokcgmlaaDoorKLaw
import Derived.Deep.QuietTactic
import Derived.BigQuiet
set_option linter.unusedSimpArgs false
set_option linter.unusedVariables false
namespace Go.Proofs.YtmgnekaokcgmlaaDoor
open Go Go.RowKit Go.Maps Go.WideMaps

theorem Both.dk {K : Nat → Prop} {w : World} {db rb : Nat} {s t : DS} (h : Both K w db rb s t) : ∃ L : Nat → Prop, Dk L w db s := by
  obtain ⟨L, hD, -⟩ := h.disk
  exact ⟨L, hD⟩
theorem Both.rk {K : Nat → Prop} {w : World} {db rb : Nat} {s t : DS} (h : Both K w db rb s t) : ∃ L : Nat → Prop, Rk L w rb t := by
  obtain ⟨L, hD, -⟩ := h.ref
  exact ⟨L, hD⟩

theorem below_drewN (B : Nat) (w : World) (n : Nat) : Below B w (w.drewN n) := ⟨rfl, rfl, rfl, Nat.le_refl _, fun _ _ => rfl⟩

set_option maxRecDepth 100000 in
set_option maxHeartbeats 4000000 in
theorem files_spec {K : Nat → Prop} (w : World) (db rb : Nat) (s : DS) (h : Both K w db rb s s) (hl : s.loose.length ≤ 100000) :
    Calls Tryd.prog 23 #[.pointer (some ⟨db, 0, none⟩), .pointer (some ⟨rb, 0, none⟩)] w fun e w' => e = .returned (.bool true) ∧ Below w.heap.size w w' := by
  obtain ⟨L, hD⟩ := h.dk
  have hN := names_spec w db s hD
  have hmany := h.inv.now.many
  have HR := Lib.hid h.inv.now.rising
  have H := Lib.hid h
  clear h hD
  go_enter Tryd.func23, Tryd.ntmps23
  go_wp2_with fail
  refine hN.mono ?_
  clear hN
  rintro e w1 ⟨v, rfl, hrow, -, hB1⟩
  have hnlen : (fnames s.now).length = s.now.length := by simp [fnames]
  have hnm := NmAt.of_owns (ns := fnames s.now) (by rw [hnlen]; exact hrow)
  obtain ⟨A, cap, hv⟩ := hnm.val
  rw [hnlen] at hv
  subst hv
  obtain ⟨L2, hR⟩ := (H.out.below hB1).rk
  have hNow := now_spec w1 rb s hR (by omega)
  have HN := Lib.hid (And.intro hnm hnlen)
  have HB1 := Lib.hid hB1
  clear hrow hnm hR hnlen hB1
  go_wp2_with fail
  refine hNow.mono ?_
  clear hNow
  rintro e w2 ⟨r, G, rfl, hfl, -, hB2⟩
  obtain ⟨A2, cap2, hv2⟩ := hfl.val
  subst hv2
  have hs12 := HB1.out.size
  have HB2 := Lib.hid (HB1.out.trans (hB2.mono hs12))
  have HN2 := Lib.hid (HN.out.1.kept (w' := w2) fun b hb => hB2.block b hb.2)
  have HF := Lib.hid hfl
  have hs23 := hB2.size
  clear hfl hB2
  generalize hn : s.now.length = n at *
  have HNL := Lib.hid hn
  clear hn
  go_wp2_with fail
  go_loopw [7] (fun i wr => ∃ k : Nat, k ≤ n ∧ i = .int .i64 k ∧ Below w2.heap.size w2 wr) (fun i _ => n - (intOf i).toNat)
  case atStart => exact ⟨0, Nat.zero_le _, rfl, Below.refl _ _⟩
  case round =>
    obtain ⟨k, hk, rfl, hB⟩ := hrel
    have HB := Lib.hid hB
    clear hB
    by_cases hlt : k < n
    · obtain ⟨p, hp⟩ : ∃ p, s.now[k]? = some p := ⟨_, List.getElem?_eq_getElem (by rw [HNL.out]; exact hlt)⟩
      obtain ⟨nm, u⟩ := p
      have hpn : (fnames s.now)[k]? = some nm := by unfold fnames; rw [List.getElem?_map, hp]; rfl
      obtain ⟨g, cp, e1, e2, e3⟩ := (HN2.out.kept (w' := wr) fun b hb => HB.out.block b (by omega)).cells k nm hpn
      rw [HN.out.2] at e1
      simp only [Value.slice.injEq] at e1
      obtain ⟨rfl, -, rfl⟩ := e1
      have hnmlen : nm.length ≤ maxLen := Nat.le_trans (H.out.inv.now.names _ (List.mem_of_getElem? hp)) (by decide)
      obtain ⟨LD, hD⟩ := ((H.out.below HB2.out).below (HB.out.mono (Nat.le_refl _))).dk
      have hrd := read_spec wr db s nm hD hnmlen
      have i1 : (0 : Int) ≤ (k : Int) := by omega
      have i2 : (k : Int) < (n : Int) := by omega
      have HP := Lib.hid hp
      clear hD hpn hp hnmlen
      go_wp2_with fail
      refine hrd.mono ?_
      clear hrd
      rintro e w4 ⟨rfl, rfl⟩
      obtain ⟨LR, hR⟩ := ((H.out.below HB2.out).below (HB.out.mono (Nat.le_refl _))).rk
      have hrr := rread_spec wr rb s nm hR (by omega)
      clear hR
      go_wp2_with fail
      refine hrr.mono ?_
      clear hrr
      rintro e w5 ⟨rfl, hB5⟩
      have HB5 := Lib.hid (HB.out.trans (hB5.mono HB.out.size))
      clear hB5
      generalize hq : dRead s nm = q at *
      clear hq
      obtain ⟨q1, q2⟩ := q
      obtain ⟨g', cp', e1, -, c1, -⟩ := (HF.out.below HB5.out).at_ HP.out
      rw [HNL.out] at e1
      simp only [Value.slice.injEq] at e1
      obtain ⟨rfl, -, rfl⟩ := e1
      obtain ⟨g2, cp2, e1, -, c2⟩ := (HN2.out.kept (w' := w5) fun b hb => HB5.out.block b (by omega)).cells k nm (by unfold fnames; rw [List.getElem?_map, HP.out]; rfl)
      simp only [Value.slice.injEq, Option.some.injEq, Addr.mk.injEq] at e1
      obtain ⟨⟨rfl, -, -⟩, -, -⟩ := e1
      have b1 : (!(bs nm).toList == (bs nm).toList) = false := by simp
      clear e2 e3
      go_wp2_with fail
      go_quiet (fail)
      go_wp2_with fail
      go_roundw
      case rel => exact ⟨k + 1, by omega, by go_num, HB5.out.trans (below_drewN _ _ _)⟩
      case measure => simp [intOf]; omega
    · have hBW := (H.out.below HB2.out).below (HB.out.mono (Nat.le_refl _))
      obtain ⟨LD, hD⟩ := hBW.dk
      obtain ⟨LR, hR⟩ := hBW.rk
      have hrd := read_spec wr db s [110, 111, 110, 101] hD (by simp [maxLen])
      have hrr := rread_spec wr rb s [110, 111, 110, 101] hR (by omega)
      clear hD hR hBW
      generalize hq : dRead s [110, 111, 110, 101] = q at *
      clear hq
      obtain ⟨q1, q2⟩ := q
      go_wp2_with fail
      refine hrd.mono ?_
      clear hrd
      rintro e w4 ⟨rfl, rfl⟩
      go_wp2_with fail
      refine hrr.mono ?_
      clear hrr
      rintro e w5 ⟨rfl, hB5⟩
      have HB5 := Lib.hid (HB.out.trans (hB5.mono HB.out.size))
      clear hB5
      go_wp2_with fail
      go_ret
      exact ⟨ret_bool (by simp), HB2.out.trans (HB5.out.mono (by have := HB2.out.size; omega))⟩
end Go.Proofs.YtmgnekaokcgmlaaDoor
