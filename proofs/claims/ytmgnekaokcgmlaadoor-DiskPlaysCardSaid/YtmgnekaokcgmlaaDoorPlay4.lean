/- The walk of the law DiskPlays. -/
import Derived.Test.YtmgnekaokcgmlaaDoorPlay3
import Derived.Deep.RegionWith
import Derived.Deep.RegionHeld3
import Derived.Deep.DrawnRows
set_option linter.unusedSimpArgs false
set_option linter.unusedVariables false
namespace Go.Proofs.YtmgnekaokcgmlaaDoor
open Go Go.RowKit Go.Maps Go.WideMaps

theorem Both.new {w1 w2 w3 : World} {db rb : Nat} {s t : DS} (hD : Then (· < w1.heap.size) w1 db s w2) (hR : RThen (· < w2.heap.size) w2 rb t w3) : Both (· < w1.heap.size) w3 db rb s t := by
  obtain ⟨⟨hi, hlt, FD, rs, rn, vl, vc, xs, hd, hF⟩, hk⟩ := hD
  obtain ⟨⟨hi', hlt', FR, vs, v2, hr, hF'⟩, hk'⟩ := hR
  have hsz := hk.size
  have hsz' := hk'.size
  refine ⟨hi, hi', fun k hk0 => ?_, _, rs, rn, vl, vc, xs, _, vs, v2, hd.ltF.kept fun k hk0 => hk'.block k hk0.2, hr.ltF, fun k hk0 => hF k hk0.1, fun k hk0 hl => hF' k hk0.1 ?_, fun k hk0 hl => hF' k hl.1 hk0.2, fun k hk0 => hk0.2, fun k hk0 => Nat.lt_of_lt_of_le hk0.2 hsz'⟩
  · change k < w1.heap.size at hk0; omega
  · change k < w1.heap.size at hl
    show k < w2.heap.size
    omega

structure Pl (K : Nat → Prop) (w0 w : World) (db rb : Nat) (s : DS) : Prop where
  both : Both K w db rb s s
  keep : Keep K w0 w
theorem Pl.below {K : Nat → Prop} {w0 w w' : World} {db rb : Nat} {s : DS} (h : Pl K w0 w db rb s) (hb : Below w.heap.size w w') : Pl K w0 w' db rb s :=
  ⟨h.both.below hb, h.keep.trans (Keep.of_below hb h.both.lt)⟩
theorem Pl.looseCell {K : Nat → Prop} {w0 w : World} {db rb : Nat} {s : DS} (h : Pl K w0 w db rb s) : ∃ A cap, w.cell? ⟨rb, 2, none⟩ = some (.slice A s.loose.length cap) := by
  obtain ⟨L, hi, hK, F, vs, vl, hd, hF⟩ := h.both.rk
  have hc := cell_of hd.head 2
  rcases hd.loose.2 with ⟨h1, h0⟩ | ⟨g, cap, cur, h1, _⟩
  · exact ⟨_, _, by rw [h0]; rw [hc, ← h1]; rfl⟩
  · exact ⟨_, _, by rw [hc]; rw [← h1]; rfl⟩
theorem Pl.stCell {B : Nat} {w0 w w1 : World} {db rb : Nat} {s : DS} (h : Pl (· < w1.heap.size) w1 w db rb s) {ab o : Nat} {x : St} (hs : StAt w1 ab o x) (hab : ab < w1.heap.size) : StAt w ab o x :=
  hs.of_block (h.keep.block ab hab)

attribute [local go_sem ↓] Go.wp_at_zero Go.wp_at_succ

/-- A load under another name: the region's walk then does not try to take it first. -/
def ldw (t : TypeId) (x : Operand) : Op := Op.load t x
theorem exec_ldw (ev : Operand → Value) (d : Option Tmp) (t : TypeId) (x : Operand) (ty : TypeId) (ps : String) (af : Array Edge) (g : Option (Nat × Bool)) :
    execOp ev { dst := d, op := ldw t x, type := ty, pos := ps, after := af, guard := g } = execOp ev { dst := d, op := Op.load t x, type := ty, pos := ps, after := af, guard := g } := rfl
attribute [local go_sem ↓] exec_ldw
theorem ldw_fold (t : TypeId) (k : Nat) : Op.load t (Operand.tmp k) = ldw t (Operand.tmp k) := rfl

set_option maxRecDepth 100000 in
set_option maxHeartbeats 40000000 in
theorem diskPlays_walk (w : World) (B : Nat) (room : Int) (v : Value) (l : List St) (hBw : B ≤ w.heap.size) (hr1 : -9223372036854775808 ≤ room) (hr2 : room ≤ 9223372036854775807) (h : ScriptIn w B v l) :
    Calls Tryd.prog 5 #[.int .i64 room, v] w fun e w' => e = .returned (.bool true) ∧ Below w.heap.size w w' := by
  have hheavy := heavy_spec w B v l hBw h
  have H0 := Lib.hid h
  clear h
  cases hb : heavyB l with
  | true =>
    rw [hb] at hheavy
    go_enter Tryd.func5, Tryd.ntmps5
    go_wp2_with fail
    refine hheavy.mono ?_
    rintro e w1 ⟨rfl, hB1⟩
    have HB1 := Lib.hid hB1
    clear hB1
    go_wp2_with (go_at_call 8; refine (works_spec _).mono ?_; rintro e w' ⟨rfl, hB⟩)
    go_ret
    exact ⟨rfl, HB1.out.trans (hB.mono HB1.out.size)⟩
  | false =>
    have hlen : l.length ≤ 100 := by
      unfold heavyB at hb
      simp at hb
      omega
    rw [hb] at hheavy
    obtain ⟨A, cap, hv⟩ := H0.out.val
    subst hv
    by_cases hroom : room < 0 ∨ 16777216 < room
    · go_enter Tryd.func5, Tryd.ntmps5
      go_wp2_with fail
      refine hheavy.mono ?_
      clear hheavy
      rintro e w1 ⟨rfl, hB1⟩
      have HB1 := Lib.hid hB1
      clear hB1
      go_wp2_with fail
      refine (new_bad w1 room hroom).mono ?_
      rintro e w2 ⟨rfl, rfl⟩
      go_wp2_with fail
      refine (rnew_bad w1 room hroom).mono ?_
      rintro e w2 ⟨rfl, rfl⟩
      go_wp2_with (go_at_call 8; refine (works_spec _).mono ?_; rintro e w' ⟨rfl, hB⟩)
      go_ret
      exact ⟨rfl, HB1.out.trans (hB.mono HB1.out.size)⟩
    · obtain ⟨rm, rfl⟩ : ∃ rm : Nat, room = rm := ⟨room.toNat, by omega⟩
      go_enter Tryd.func5, Tryd.ntmps5
      go_wp2_with fail
      refine hheavy.mono ?_
      clear hheavy
      rintro e w1 ⟨rfl, hB1⟩
      have hg := new_good w1 rm (by omega)
      have H1 := Lib.hid (And.intro hB1 (H0.out.later (w' := w1) (fun k hk => hB1.block k (by omega))))
      have hs1 := hB1.size
      have hrm : rm ≤ 16777216 := by omega
      clear hB1 H0 hroom
      go_wp2_with fail
      refine hg.mono ?_
      clear hg
      rintro e w2 ⟨rfl, hT2⟩
      have hg := rnew_good w2 rm (by omega)
      have HT2 := Lib.hid hT2
      clear hT2
      go_wp2_with fail
      refine hg.mono ?_
      clear hg
      rintro e w3 ⟨rfl, hT3⟩
      have HP0 := Lib.hid (Pl.mk (Both.new HT2.out hT3) (HT2.out.2.trans (hT3.2.mono fun k (hk : k < w1.heap.size) => by have := HT2.out.2.size; show k < w2.heap.size; omega)))
      clear hT3 HT2
      generalize w1.heap.size + 2 = db at *
      generalize w2.heap.size = rb at *
      go_wp2_with fail
      go_loopw [8] (fun i wr => ∃ (k : Nat) (s : DS), k ≤ l.length ∧ i = .int .i64 k ∧ Pl (· < w1.heap.size) w1 wr db rb s ∧ s.loose.length ≤ k) (fun i _ => l.length - (intOf i).toNat)
      case atStart => exact ⟨0, _, Nat.zero_le _, rfl, HP0.out, by simp [freshDS]⟩
      case round =>
        obtain ⟨k, s, hk, rfl, hP, hll⟩ := hrel
        by_cases hlt : k < l.length
        · obtain ⟨x, hx⟩ : ∃ x, l[k]? = some x := ⟨_, List.getElem?_eq_getElem hlt⟩
          obtain ⟨ab, ao, cap', he, hab, hst0⟩ := H1.out.2.cells k x hx
          simp only [Value.slice.injEq] at he
          obtain ⟨rfl, -, rfl⟩ := he
          have hab1 : ab < w1.heap.size := by omega
          obtain ⟨c0, c1, c2, c3, c4⟩ := hst0.of_block (w' := wr) (hP.keep.block ab hab1)
          have hxo := H1.out.2.ok k x hx
          have hxa : x.a.length ≤ maxLen := Nat.le_trans hxo.a (by decide)
          have i1 : (0 : Int) ≤ (k : Int) := by omega
          have i2 : (k : Int) < (l.length : Int) := by omega
          have hsl := step_loose s x
          have hplay : ∀ W, Pl (· < w1.heap.size) w1 W db rb s → Calls Tryd.prog 22 #[.pointer (some ⟨db, 0, none⟩), .pointer (some ⟨rb, 0, none⟩), .agg #[.int .i64 x.dO, .string (bs x.a), .string (bs x.b), .int .i64 x.n, .int .i64 x.m]] W fun e w' => e = .returned (.bool true) ∧ Pl (· < w1.heap.size) w1 w' db rb (stepP s x) := fun W hW =>
            (play_spec W db rb s x hW.both hxo (by omega)).mono fun e w' ⟨he, hb, hk⟩ => ⟨he, hb, hW.keep.trans hk⟩
          have hfiles : ∀ W, Pl (· < w1.heap.size) w1 W db rb (stepP s x) → Calls Tryd.prog 23 #[.pointer (some ⟨db, 0, none⟩), .pointer (some ⟨rb, 0, none⟩)] W fun e w' => e = .returned (.bool true) ∧ Pl (· < w1.heap.size) w1 w' db rb (stepP s x) := fun W hW =>
            (files_spec W db rb _ hW.both (by omega)).mono fun e w' ⟨he, hb⟩ => ⟨he, hW.below hb⟩
          have hleft : ∀ W, Pl (· < w1.heap.size) w1 W db rb (stepP s x) → Calls Tryd.prog 20 #[.pointer (some ⟨db, 0, none⟩)] W fun e w' => e = .returned (.int .i64 (stepP s x).left) ∧ Pl (· < w1.heap.size) w1 w' db rb (stepP s x) := fun W hW => by
            obtain ⟨L, hD⟩ := hW.both.dk
            exact (left_spec W db _ hD).mono fun e w' ⟨he, hb⟩ => ⟨he, hW.below hb⟩
          have hrleft : ∀ W, Pl (· < w1.heap.size) w1 W db rb (stepP s x) → Calls Tryd.prog 24 #[.pointer (some ⟨rb, 0, none⟩)] W fun e w' => e = .returned (.int .i64 (stepP s x).left) ∧ Pl (· < w1.heap.size) w1 w' db rb (stepP s x) := fun W hW => by
            obtain ⟨L, hD⟩ := hW.both.rk
            exact (rleft_spec W rb _ hD (by omega)).mono fun e w' ⟨he, hb⟩ => ⟨he, hW.below hb⟩
          have hloose : ∀ W, Pl (· < w1.heap.size) w1 W db rb (stepP s x) → Calls Tryd.prog 15 #[.pointer (some ⟨db, 0, none⟩)] W fun e w' => e = .returned (.int .i64 (stepP s x).loose.length) ∧ Pl (· < w1.heap.size) w1 w' db rb (stepP s x) := fun W hW => by
            obtain ⟨L, hD⟩ := hW.both.dk
            exact (loose_spec W db _ hD).mono fun e w' ⟨he, hb⟩ => ⟨he, hb ▸ hW⟩
          have hname : ∀ W, Pl (· < w1.heap.size) w1 W db rb (stepP s x) → Calls Tryd.prog 25 #[.string (bs x.a)] W fun e w' => e = .returned (.bool (nameOk x.a)) ∧ Pl (· < w1.heap.size) w1 w' db rb (stepP s x) := fun W hW =>
            (name_spec x.a W hxa).mono fun e w' ⟨he, hb⟩ => ⟨he, hW.below hb⟩
          have hrname : ∀ W, Pl (· < w1.heap.size) w1 W db rb (stepP s x) → Calls Tryd.prog 26 #[.string (bs x.a)] W fun e w' => e = .returned (.bool (nameOk x.a)) ∧ Pl (· < w1.heap.size) w1 w' db rb (stepP s x) := fun W hW =>
            (rname_spec W x.a hxa).mono fun e w' ⟨he, hb⟩ => ⟨he, hW.below hb⟩
          have hcell : ∀ W s', Pl (· < w1.heap.size) w1 W db rb s' → W.cell? ⟨ab, ao + k * 5, none⟩ = some (.int .i64 x.dO) ∧ W.cell? ⟨ab, ao + k * 5 + 1, none⟩ = some (.string (bs x.a)) ∧ W.cell? ⟨ab, ao + k * 5 + 2, none⟩ = some (.string (bs x.b)) ∧ W.cell? ⟨ab, ao + k * 5 + 3, none⟩ = some (.int .i64 x.n) ∧ W.cell? ⟨ab, ao + k * 5 + 4, none⟩ = some (.int .i64 x.m) := fun W s' hW => ⟨(hst0.of_block (w' := W) (hW.keep.block ab hab1)).c0, (hst0.of_block (w' := W) (hW.keep.block ab hab1)).c1, (hst0.of_block (w' := W) (hW.keep.block ab hab1)).c2, (hst0.of_block (w' := W) (hW.keep.block ab hab1)).c3, (hst0.of_block (w' := W) (hW.keep.block ab hab1)).c4⟩
          have hP0 : Pl (· < w1.heap.size) w1 wr.drew db rb s := hP.below (Below.refl _ _).drew
          have hsl2 : (stepP s x).loose.length ≤ k + 1 := by omega
          generalize stepP s x = s' at *
          generalize nameOk x.a = nb at *
          have HPL := Lib.hid hplay
          have HFI := Lib.hid hfiles
          have HLE := Lib.hid hleft
          have HRL := Lib.hid hrleft
          have HLO := Lib.hid hloose
          have HNA := Lib.hid hname
          have HRN := Lib.hid hrname
          have HCE := Lib.hid hcell
          clear hplay hfiles hleft hrleft hloose hname hrname hcell hst0 hx hxo hxa hP hsl HP0
          go_wp2_with fail
          rw [ldw_fold 49 68]
          go_region_held3 (fun w' => w'.cell? ⟨ab, ao + k * 5, none⟩ = some (.int .i64 x.dO) ∧ w'.cell? ⟨ab, ao + k * 5 + 1, none⟩ = some (.string (bs x.a)) ∧ w'.cell? ⟨ab, ao + k * 5 + 2, none⟩ = some (.string (bs x.b)) ∧ w'.cell? ⟨ab, ao + k * 5 + 3, none⟩ = some (.int .i64 x.n) ∧ w'.cell? ⟨ab, ao + k * 5 + 4, none⟩ = some (.int .i64 x.m))
            (first
              | exact ⟨c0, c1, c2, c3, c4⟩
              | exact HCE.out _ _ hP7
              | exact HCE.out _ _ hP6
              | exact HCE.out _ _ hP5
              | exact HCE.out _ _ hP4
              | exact HCE.out _ _ hP3
              | exact HCE.out _ _ hP2
              | exact HCE.out _ _ hP1)
            ((first
            | (go_at_call 22; refine (HPL.out _ (by assumption)).mono ?_; rintro e wq ⟨rfl, hP1⟩)
            | (go_at_call 23; refine (HFI.out _ (by assumption)).mono ?_; rintro e wq ⟨rfl, hP2⟩)
            | (go_at_call 20; refine (HLE.out _ (by assumption)).mono ?_; rintro e wq ⟨rfl, hP3⟩; obtain ⟨A3, cp3, r3⟩ := hP3.looseCell)
            | (go_at_call 24; refine (HRL.out _ (by assumption)).mono ?_; rintro e wq ⟨rfl, hP4⟩; obtain ⟨A4, cp4, r4⟩ := hP4.looseCell)
            | (go_at_call 15; refine (HLO.out _ (by assumption)).mono ?_; rintro e wq ⟨rfl, hP5⟩; obtain ⟨A5, cp5, r5⟩ := hP5.looseCell)
            | (go_at_call 25; refine (HNA.out _ (by assumption)).mono ?_; rintro e wq ⟨rfl, hP6⟩)
            | (go_at_call 26; refine (HRN.out _ (by assumption)).mono ?_; rintro e wq ⟨rfl, hP7⟩)))
          all_goals (go_wp2_with fail)
          all_goals go_roundw
          all_goals first
            | exact ⟨k + 1, s', by omega, by go_num, hP7, hsl2⟩
            | exact ⟨k + 1, s', by omega, by go_num, hP6, hsl2⟩
            | (simp [intOf]; omega)
        · go_wp2_with (go_at_call 8; refine (works_spec _).mono ?_; rintro e w' ⟨rfl, hB⟩)
          go_ret
          exact ⟨rfl, H1.out.1.trans ((hP.keep.below.trans (hB.mono hP.keep.size)).mono hs1)⟩
end Go.Proofs.YtmgnekaokcgmlaaDoor
