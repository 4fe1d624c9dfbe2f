/- The reference's disk: Alter. -/
import Derived.Test.YtmgnekaokcgmlaaDoorRef8
import Derived.Test.YtmgnekaokcgmlaaDoorAlter
set_option linter.unusedSimpArgs false
set_option linter.unusedVariables false
namespace Go.Proofs.YtmgnekaokcgmlaaDoor
open Go Go.RowKit Go.Maps Go.WideMaps

/-- What a store of new sure files leaves (nothing is loose). -/
theorem Rk.setSure {K : Nat → Prop} {w w2 : World} {rb : Nat} {s : DS} {B : Nat} {r : Value} {fs : Files} (h : Rk K w rb s) (hf : FRow B w2 r fs) (hBw : w.heap.size ≤ B) (hB : Below w.heap.size w w2) (hi2 : Inv { s with sure := fs }) :
    RThen K w rb { s with sure := fs } (w2.setCell ⟨rb, 1, none⟩ r) := by
  obtain ⟨hi, hK, F, vs, vl, hd, hF⟩ := h
  have hrb := lt_of_heap hd.head
  have hh : w2.heap[rb]? = _ := (hB.block rb hrb).trans hd.head
  have hsz : (w2.setCell ⟨rb, 1, none⟩ r).heap.size = w2.heap.size := by simp [World.setCell]
  have hs := hB.size
  have hfl := ((hf.flAt.ne_head hh).kept (w' := w2.setCell ⟨rb, 1, none⟩ r) (by omega) fun b hb _ => heap_set_other _ hb.2)
  refine ⟨⟨hi2, fun k hk => by rw [hsz]; have := hK k hk; omega, fun b => F b ∨ w.heap.size ≤ b, r, vl, ⟨heap_set hh 1 r, hfl.more fun b hb _ => .inr (Nat.le_trans hBw hb.1), ?_, .inl hd.fb, fun g hg => .inl (hd.fl g hg)⟩, fun k hk hk2 => ?_⟩, ⟨hB.os, hB.tape, hB.output, by omega, fun k hk => ?_⟩⟩
  · exact ownsRow_of_block hd.loose fun g hg => (heap_set_other _ (row_apart_of hd.head hd.loose (by decide) g hg)).trans (hB.block g (World.ownsRow.lt hd.loose g hg).2)
  · rcases hk with hk | hk
    · exact hF k hk hk2
    · have := hK k hk2; omega
  · have hkn : k ≠ rb := fun e => hF rb hd.fb (e ▸ hk)
    rw [heap_set_other _ hkn]
    exact hB.block k (hK k hk)

set_option maxRecDepth 100000 in
set_option maxHeartbeats 4000000 in
theorem ralter_spec {K : Nat → Prop} (w : World) (rb : Nat) (s : DS) (n : Str) (at_ : Int) (x : UInt8) (h : Rk K w rb s) (hl : s.loose.length ≤ 100000) :
    Calls Tryd.prog 44 #[.pointer (some ⟨rb, 0, none⟩), .string (bs n), .int .i64 at_, .int .u8 x.toNat] w fun e w' => e = .returned (.int .i64 (dAlter s n at_ x).1) ∧ RThen K w rb (dAlter s n at_ x).2 w' := by
  have hnow := now_spec w rb s h (by omega)
  have hinv := h.inv.alter n at_ x
  have hmany := h.inv.now.many
  have hV1 : fget s.now n = none → dAlter s n at_ x = (5, s) := fun e => by unfold dAlter; rw [e]
  have hV2 : ∀ u, fget s.now n = some u → at_ < 0 ∨ (u.length : Int) ≤ at_ → dAlter s n at_ x = (2, s) := fun u e e2 => by unfold dAlter; rw [e]; simp only; rw [if_pos e2]
  have hV3 : ∀ u, fget s.now n = some u → ¬ (at_ < 0 ∨ (u.length : Int) ≤ at_) → s.loose ≠ [] → dAlter s n at_ x = (3, s) := fun u e e2 e3 => by unfold dAlter; rw [e]; simp only; rw [if_neg e2, if_pos e3]
  have hV4 : ∀ u, fget s.now n = some u → ¬ (at_ < 0 ∨ (u.length : Int) ≤ at_) → s.loose = [] → dAlter s n at_ x = (0, { s with sure := fput s.now n (u.set at_.toNat (u.getD at_.toNat 0 ^^^ x)) }) := fun u e e2 e3 => by
    have hn : s.now = s.sure := by unfold DS.now; rw [e3]; rfl
    unfold dAlter; rw [e]; simp only; rw [if_neg e2, if_neg (by simp [e3]), hn]
  have HV := Lib.hid (And.intro hV1 (And.intro hV2 (And.intro hV3 (And.intro hV4 hinv))))
  have H := Lib.hid h
  clear hV1 hV2 hV3 hV4 hinv h
  generalize hap : dAlter s n at_ x = ap at *
  clear hap
  go_enter Tryd.func44, Tryd.ntmps44
  go_wp2_with fail
  refine hnow.mono ?_
  clear hnow
  rintro e w1 ⟨r, G, rfl, hfl, -, hB⟩
  obtain ⟨A, cap, hvr⟩ := hfl.val
  subst hvr
  have hfind := find_spec w1 G _ s.now n hfl (by omega)
  have H1 := Lib.hid (And.intro (H.out.below hB) (And.intro hB hfl))
  have hR1 : RThen K w rb s w1 := ⟨H.out.below hB, Keep.of_below hB H.out.lt⟩
  have HR1 := Lib.hid hR1
  obtain ⟨-, ⟨vs, c1⟩, ⟨A2, cap2, c2⟩, -, ff, hrb⟩ := H1.out.1.cellsAt
  clear hfl hB hR1
  go_wp2_with fail
  refine hfind.mono ?_
  clear hfind
  rintro e w2 ⟨⟨r, rfl, hr⟩, rfl⟩
  rcases hr with ⟨rfl, hno⟩ | ⟨i, u, rfl, hi, hu⟩
  · have hv := HV.out.1 hno
    subst hv
    clear hno ff
    go_wp2_with fail
    go_ret
    exact ⟨rfl, HR1.out⟩
  · obtain ⟨g, cap', he, hil, k0, k1⟩ := H1.out.2.2.at_ hi
    simp only [Value.slice.injEq] at he
    obtain ⟨rfl, -, rfl⟩ := he
    have i1 : (0 : Int) ≤ (i : Int) := by omega
    have i2 : (i : Int) < (s.now.length : Int) := by omega
    have hsz : (bs u).size = u.length := bs_size u
    clear hi
    by_cases ha : at_ < 0
    · have hv := HV.out.2.1 u hu (.inl ha)
      subst hv
      clear hu ff
      go_wp2_with fail
      go_ret
      exact ⟨rfl, HR1.out⟩
    · by_cases hb : (u.length : Int) ≤ at_
      · have hv := HV.out.2.1 u hu (.inr hb)
        subst hv
        clear hu ff
        go_wp2_with fail
        go_ret
        exact ⟨rfl, HR1.out⟩
      · have hna : ¬ (at_ < 0 ∨ (u.length : Int) ≤ at_) := by omega
        have hbl : at_ < (u.length : Int) := by omega
        by_cases hl0 : s.loose = []
        · have hv := HV.out.2.2.2.1 u hu hna hl0
          subst hv
          obtain ⟨m, rfl⟩ : ∃ m : Nat, at_ = m := ⟨at_.toNat, by omega⟩
          rw [Int.toNat_natCast] at *
          have hml : m < u.length := by omega
          have hi2 : Inv { s with sure := fput s.now n (u.set m (u.getD m 0 ^^^ x)) } := HV.out.2.2.2.2
          have hs : (m : Int) < ((bs u).size : Int) := by rw [bs_size]; omega
          have hconv := Lib.run_convert_string_bytes (P := Tryd.prog) w1 9 76 5 (bs u) Tryd.underlying9 Tryd.underlying76 Tryd.underlying5
          have hcell := Lib.bytesWorld_cell w1 5 (bs u) m (by omega)
          rw [bs_data] at hcell
          have hnewb := Lib.bytesWorld_at_new w1 5 (bs u)
          have hcs : u.length ≤ (Lib.bytesCells w1 5 (bs u)).size := by simp [Lib.bytesCells, bs_size, bs]
          have hfz : (Lib.bytesWorld w1 5 (bs u)).frozen? ⟨w1.heap.size, m, none⟩ = false := by
            simp [World.frozen?, hnewb]; omega
          have hx := u8_xor_nat (u.getD m 0).toNat x.toNat (u.getD m 0).toNat_lt x.toNat_lt
          obtain ⟨W1, hW1⟩ : ∃ W1, W1 = Lib.bytesWorld w1 5 (bs u) := ⟨_, rfl⟩
          rw [← hW1] at hconv hcell hfz
          have hold1 : ∀ k, k < w1.heap.size → W1.heap[k]? = w1.heap[k]? := fun k hk => by rw [hW1]; exact Lib.bytesWorld_at_old w1 _ _ k hk
          have hsize1 : W1.heap.size = w1.heap.size + 1 := by rw [hW1]; exact Lib.bytesWorld_size w1 _ _
          have hcells1 : ∀ j, j < u.length → W1.cell? ⟨w1.heap.size, j, none⟩ = some (.int .u8 (u.getD j 0).toNat) := fun j hj => by
            have := Lib.bytesWorld_cell w1 5 (bs u) j (by omega)
            rw [bs_data] at this; rw [hW1]; exact this
          have htop : W1.os = w1.os ∧ W1.tape = w1.tape ∧ W1.output = w1.output := by rw [hW1]; exact ⟨rfl, rfl, rfl⟩
          obtain ⟨W2, hW2⟩ : ∃ W2, W2 = W1.setCell ⟨w1.heap.size, m, none⟩ (.int .u8 ((u.getD m 0 ^^^ x).toNat : Nat)) := ⟨_, rfl⟩
          have hold2 : ∀ k, k < w1.heap.size → W2.heap[k]? = w1.heap[k]? := fun k hk => by rw [hW2, heap_set_other _ (by omega)]; exact hold1 k hk
          have hsize2 : W2.heap.size = w1.heap.size + 1 := by rw [hW2]; simp [World.setCell]; exact hsize1
          have hB2 : Below w1.heap.size w1 W2 := ⟨by rw [hW2]; exact htop.1, by rw [hW2]; exact htop.2.1, by rw [hW2]; exact htop.2.2, by omega, hold2⟩
          have hback : (convert 76 9 (.slice (some ⟨w1.heap.size, 0, none⟩) (bs u).size (grownCap w1 (bs u).size 0 5))).run Tryd.prog W2 = .ok (.string (bs (u.set m (u.getD m 0 ^^^ x)))) W2 := by
            have := run_convert_bytes_back (P := Tryd.prog) W2 76 9 5 ⟨w1.heap.size, 0, none⟩ (grownCap w1 (bs u).size 0 5) (u.set m (u.getD m 0 ^^^ x)) Tryd.underlying76 Tryd.underlying5 Tryd.underlying9 (fun j hj => by
              rw [List.length_set] at hj
              have hadd : (⟨w1.heap.size, 0, none⟩ : Addr).add j = ⟨w1.heap.size, j, none⟩ := by unfold Addr.add; split <;> simp_all
              rw [hadd, hW2, List.getElem_set]
              split
              · rename_i e; subst e
                exact World.cell?_setCell_same' _ _ _ (by rw [hcells1 _ hj]; rfl)
              · rename_i e
                rw [World.cell?_setCell_other _ _ _ _ (by simp [e]), hcells1 j hj]
                simp [List.getD, hj])
            rw [List.length_set] at this
            rw [hsz]; rw [hsz] at this
            exact this
          have hwith := with_spec W2 G _ s.now n (u.set m (u.getD m 0 ^^^ x)) (H1.out.2.2.below hB2) (by omega)
          have hfin : ∀ rr w3, FRow W2.heap.size w3 rr (fput s.now n (u.set m (u.getD m 0 ^^^ x))) → Below W2.heap.size W2 w3 → RThen K w rb { s with sure := fput s.now n (u.set m (u.getD m 0 ^^^ x)) } (w3.setCell ⟨rb, 1, none⟩ rr) := fun rr w3 h1 h2 => by
            have := H1.out.1.setSure h1 (by omega) (hB2.trans (h2.mono (by omega))) hi2
            exact ⟨this.1, HR1.out.2.trans this.2⟩
          have hd1 : ∀ w3, Below W2.heap.size W2 w3 → w3.cell? ⟨rb, 1, none⟩ = some vs ∧ w3.frozen? ⟨rb, 1, none⟩ = false := fun w3 h2 =>
            ⟨((hB2.trans (h2.mono (by omega))).cell (p := ⟨rb, 1, none⟩) hrb).trans c1, ((hB2.trans (h2.mono (by omega))).frozen (p := ⟨rb, 1, none⟩) hrb).trans (ff 1)⟩
          have HX := Lib.hid (And.intro hfin hd1)
          have hsetv : W1.setCell ⟨w1.heap.size, m, none⟩ (.int .u8 (((u.getD m 0).toNat ^^^ x.toNat : Nat) : Int)) = W2 := by rw [hW2, UInt8.toNat_xor]
          have hlen0 : s.loose.length = 0 := by rw [hl0]; rfl
          obtain ⟨S', hS⟩ : ∃ S', S' = u.set m (u.getD m 0 ^^^ x) := ⟨_, rfl⟩
          rw [← hS] at hback hwith HX
          obtain ⟨y, hy⟩ : ∃ y, y = u.getD m 0 := ⟨_, rfl⟩
          rw [← hy] at hcell hx hsetv
          have HS := Lib.hid hS
          clear hfin hd1 hold1 hsize1 hcells1 htop hold2 hnewb hcs hW1 hW2 hl0 hu hi2 hB2 hna hb ha HV H1 ff hS hy
          rw [hlen0] at c2
          rw [hsz] at hback
          go_wp2_with fail
          refine hwith.mono ?_
          clear hwith
          rintro e w3 ⟨rr, rfl, hrow, hB3⟩
          have hfin := HX.out.1 rr w3 hrow hB3
          obtain ⟨q1, q2⟩ := HX.out.2 w3 hB3
          obtain ⟨A3, cap3, hr3⟩ := hrow.flAt.val
          subst hr3
          have hSS := HS.out
          subst hSS
          have HF := Lib.hid hfin
          clear hfin hrow hB3 HX HS hback hsetv hx hcell hconv hfz
          go_wp2_with fail
          go_ret
          have hfin2 := HF.out
          have hge : List.getD u m 0 = u[m] := by simp [List.getD, hml]
          rw [hge] at hfin2
          exact ⟨rfl, hfin2⟩
        · have hv := HV.out.2.2.1 u hu hna hl0
          subst hv
          have hpos : (0 : Int) < (s.loose.length : Int) := by
            have := List.length_pos_iff.2 hl0
            omega
          clear hu ff hna hl0
          go_wp2_with fail
          go_ret
          exact ⟨rfl, HR1.out⟩
end Go.Proofs.YtmgnekaokcgmlaaDoor
