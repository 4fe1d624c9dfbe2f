/- The walk of the law DiskKeeps. -/
import Derived.Test.YtmgnekaokcgmlaaDoorKLaw
import Derived.Deep.RegionHeld3
import Derived.Deep.CutRange
import Derived.Deep.CutBlock
import Derived.BigQuiet
set_option linter.unusedSimpArgs false
set_option linter.unusedVariables false
namespace Go.Proofs.YtmgnekaokcgmlaaDoor
open Go Go.RowKit Go.Maps Go.WideMaps

set_option maxRecDepth 100000 in
set_option maxHeartbeats 8000000 in
theorem diskKeeps_walk (w : World) (B : Nat) (v1 v2 : Value) (l1 l2 : List St) (calls bytes : Int) (hBw : B ≤ w.heap.size) (h1 : ScriptIn w B v1 l1) (h2 : ScriptIn w B v2 l2)
    (hc1 : -9223372036854775808 ≤ calls) (hc2 : calls ≤ 9223372036854775807) (hb1 : -9223372036854775808 ≤ bytes) (hb2 : bytes ≤ 9223372036854775807) :
    Calls Tryd.prog 3 #[v1, v2, .int .i64 calls, .int .i64 bytes] w fun e w' => e = .returned (.bool true) ∧ Below w.heap.size w w' := by
  have hheavy := heavy_spec w B v1 l1 hBw h1
  have H0 := Lib.hid (And.intro h1 h2)
  clear h1 h2
  cases hb : heavyB l1 with
  | true =>
    rw [hb] at hheavy
    go_enter Tryd.func3, Tryd.ntmps3
    go_wp2_with fail
    refine hheavy.mono ?_
    rintro e w1 ⟨rfl, hB1⟩
    have HB1 := Lib.hid hB1
    clear hB1
    go_wp2_with (go_at_call 8; refine (works_spec _).mono ?_; rintro e w' ⟨rfl, hB⟩)
    go_ret
    exact ⟨rfl, HB1.out.trans (hB.mono HB1.out.size)⟩
  | false =>
    have hlen1 : l1.length ≤ 100 := by
      unfold heavyB at hb
      simp at hb
      omega
    rw [hb] at hheavy
    clear hb
    go_enter Tryd.func3, Tryd.ntmps3
    go_wp2_with fail
    refine hheavy.mono ?_
    clear hheavy
    rintro e w0 ⟨rfl, hB0⟩
    have hheavy := heavy_spec w0 B v2 l2 (by have := hB0.size; omega) (H0.out.2.later (w' := w0) (fun k hk => hB0.block k (by omega)))
    have HB0 := Lib.hid hB0
    clear hB0
    cases hb : heavyB l2 with
    | true =>
      rw [hb] at hheavy
      go_wp2_with fail
      refine hheavy.mono ?_
      rintro e w1 ⟨rfl, hB1⟩
      have HB1 := Lib.hid (HB0.out.trans (hB1.mono HB0.out.size))
      clear hB1 HB0
      go_wp2_with (go_at_call 8; refine (works_spec _).mono ?_; rintro e w' ⟨rfl, hB⟩)
      go_ret
      exact ⟨rfl, HB1.out.trans (hB.mono HB1.out.size)⟩
    | false =>
      have hlen2 : l2.length ≤ 100 := by
        unfold heavyB at hb
        simp at hb
        omega
      rw [hb] at hheavy
      clear hb
      go_wp2_with fail
      refine hheavy.mono ?_
      clear hheavy
      rintro e w1 ⟨rfl, hB1'⟩
      have hB1 := HB0.out.trans (hB1'.mono HB0.out.size)
      clear hB1' HB0
      obtain ⟨A1, cap1, hv1⟩ := H0.out.1.val
      obtain ⟨A2, cap2, hv2⟩ := H0.out.2.val
      subst hv1
      subst hv2
      have hg := new_good w1 65536 (by omega)
      have H1 := Lib.hid (And.intro hB1 (And.intro (H0.out.1.later (w' := w1) (fun k hk => hB1.block k (by omega))) (H0.out.2.later (w' := w1) (fun k hk => hB1.block k (by omega)))))
      have hs1 := hB1.size
      clear hB1 H0
      go_wp2_with fail
      refine hg.mono ?_
      clear hg
      rintro e w2 ⟨rfl, hD2, hK2⟩
      have HK2 := Lib.hid hK2
      have HD2 := Lib.hid hD2
      clear hD2 hK2
      generalize w1.heap.size + 2 = db at *
      go_wp2_with fail
      go_loopw [11] (fun i wr => ∃ (k : Nat) (s : DS), k ≤ l1.length ∧ i = .int .i64 k ∧ Dk (· < w1.heap.size) wr db s ∧ Keep (· < w1.heap.size) w1 wr ∧ s.fuse = -1 ∧ s.loose.length ≤ k) (fun i _ => l1.length - (intOf i).toNat)
      case atStart => exact ⟨0, _, Nat.zero_le _, rfl, HD2.out, HK2.out, rfl, by simp [freshDS]⟩
      case round =>
        obtain ⟨k, s, hk, rfl, hD, hK, hf0, hll⟩ := hrel
        by_cases hlt : k < l1.length
        · obtain ⟨x, hx⟩ : ∃ x, l1[k]? = some x := ⟨_, List.getElem?_eq_getElem hlt⟩
          obtain ⟨ab, ao, cap', he, hab, hst0⟩ := H1.out.2.1.cells k x hx
          simp only [Value.slice.injEq] at he
          obtain ⟨rfl, -, rfl⟩ := he
          have hst := hst0.of_block (w' := wr) (hK.block ab (by omega))
          obtain ⟨c0, c1, c2, c3, c4⟩ := hst
          have hxo := H1.out.2.1.ok k x hx
          have HX := Lib.hid (And.intro hx (And.intro hxo hst0))
          clear hx hxo hst0
          have HM0 := Lib.hid (Mid.new (w0 := w1) x hD hK)
          clear hD hK
          have i1 : (0 : Int) ≤ (k : Int) := by omega
          have i2 : (k : Int) < (l1.length : Int) := by omega
          go_upto_region 10 with fail
          clear c0 c1 c2 c3 c4
          show Code.wp _ _ _ _ (wr.alloc (stObj x))
          generalize wr.heap.size = sb at *
          generalize wr.alloc (stObj x) = w4 at *
          obtain ⟨c0, c1, c2, c3, c4⟩ := HM0.out.cells
          have hkeep := stepE_keep (x := x) hf0
          have hxo := HX.out.2.1
          have hxa : x.a.length ≤ maxLen := Nat.le_trans hxo.a (by decide)
          have hxb : x.b.length ≤ maxLen := Nat.le_trans hxo.b (by decide)
          clear hxo
          by_cases e0 : x.dO = 0
          · rw [e0] at c0
            go_wp2_with fail
            refine (append_spec w4 db s x.a x.b HM0.out.dk hxa (by omega)).mono ?_
            rintro e w6 ⟨rfl, hT⟩
            have hE : stepE s x = dAppend s x.a x.b := by
              unfold stepE;  rw [if_pos e0]
            rw [hE] at hkeep
            have HM2 := Lib.hid (HM0.out.turn hT)
            clear hT hE HM0
            go_wp2_with fail
            go_roundw
            case rel => exact ⟨k + 1, _, by omega, by go_num, HM2.out.dk.less (fun _ h => .inl h), HM2.out.keep, hkeep.1, by omega⟩
            case measure => simp [intOf]; omega
          by_cases e1 : x.dO = 1
          · rw [e1] at c0
            go_wp2_with fail
            refine (cut_spec w4 db s x.a x.n HM0.out.dk hxa (by omega)).mono ?_
            rintro e w6 ⟨rfl, hT⟩
            have hE : stepE s x = dCut s x.a x.n := by
              unfold stepE; rw [if_neg (by omega)]; rw [if_pos e1]
            rw [hE] at hkeep
            have HM2 := Lib.hid (HM0.out.turn hT)
            clear hT hE HM0
            go_wp2_with fail
            go_roundw
            case rel => exact ⟨k + 1, _, by omega, by go_num, HM2.out.dk.less (fun _ h => .inl h), HM2.out.keep, hkeep.1, by omega⟩
            case measure => simp [intOf]; omega
          by_cases e2 : x.dO = 2
          · rw [e2] at c0
            go_wp2_with fail
            refine (rename_spec w4 db s x.a x.b HM0.out.dk hxa hxb (by omega)).mono ?_
            rintro e w6 ⟨rfl, hT⟩
            have hE : stepE s x = dRename s x.a x.b := by
              unfold stepE; rw [if_neg (by omega)]; rw [if_neg (by omega)]; rw [if_pos e2]
            rw [hE] at hkeep
            have HM2 := Lib.hid (HM0.out.turn hT)
            clear hT hE HM0
            go_wp2_with fail
            go_roundw
            case rel => exact ⟨k + 1, _, by omega, by go_num, HM2.out.dk.less (fun _ h => .inl h), HM2.out.keep, hkeep.1, by omega⟩
            case measure => simp [intOf]; omega
          by_cases e3 : x.dO = 3
          · rw [e3] at c0
            go_wp2_with fail
            refine (remove_spec w4 db s x.a HM0.out.dk hxa (by omega)).mono ?_
            rintro e w6 ⟨rfl, hT⟩
            have hE : stepE s x = dRemove s x.a := by
              unfold stepE; rw [if_neg (by omega)]; rw [if_neg (by omega)]; rw [if_neg (by omega)]; rw [if_pos e3]
            rw [hE] at hkeep
            have HM2 := Lib.hid (HM0.out.turn hT)
            clear hT hE HM0
            go_wp2_with fail
            go_roundw
            case rel => exact ⟨k + 1, _, by omega, by go_num, HM2.out.dk.less (fun _ h => .inl h), HM2.out.keep, hkeep.1, by omega⟩
            case measure => simp [intOf]; omega
          by_cases e4 : x.dO = 4
          · rw [e4] at c0
            go_wp2_with fail
            refine (sync_spec w4 db s HM0.out.dk).mono ?_
            rintro e w6 ⟨rfl, hT⟩
            have hE : stepE s x = dSync s := by
              unfold stepE; rw [if_neg (by omega)]; rw [if_neg (by omega)]; rw [if_neg (by omega)]; rw [if_neg (by omega)]; rw [if_pos e4]
            rw [hE] at hkeep
            have HM2 := Lib.hid (HM0.out.turn hT)
            clear hT hE HM0
            go_wp2_with fail
            go_roundw
            case rel => exact ⟨k + 1, _, by omega, by go_num, HM2.out.dk.less (fun _ h => .inl h), HM2.out.keep, hkeep.1, by omega⟩
            case measure => simp [intOf]; omega
          · go_wp2_with fail
            go_roundw
            case rel => exact ⟨k + 1, s, by omega, by go_num, HM0.out.dk.less (fun _ h => .inl h), HM0.out.keep, hf0, by omega⟩
            case measure => simp [intOf]; omega
        · have HD := Lib.hid hD
          have HK := Lib.hid hK
          clear hD hK HK2 HD2
          have hsy : dSync s = (0, s.settle) := by
            have : s.burn = s := by unfold DS.burn; rw [if_neg (by omega)]
            unfold dSync; rw [if_neg (by omega), this]
          have hS := sync_spec wr db s HD.out
          rw [hsy] at hS
          clear hsy
          go_wp2_with fail
          refine hS.mono ?_
          clear hS
          rintro e w3 ⟨rfl, hD3, hK3⟩
          have HK3 := Lib.hid (HK.out.trans hK3)
          have HD3 := Lib.hid hD3
          have hfu : s.settle.fuse = -1 := hf0
          have hlo : s.settle.loose = [] := rfl
          have hsu : s.settle.now = s.settle.sure := rfl
          clear hD3 hK3 HK HD hf0 hll
          generalize s.settle = s0 at *
          have hL := loose_spec w3 db s0 HD3.out
          rw [hlo] at hL
          go_wp2_with fail
          refine hL.mono ?_
          clear hL
          rintro e w4 ⟨rfl, rfl⟩
          have hN := names_spec w3 db s0 HD3.out
          go_wp2_with fail
          refine hN.mono ?_
          clear hN
          rintro e w4 ⟨nv, rfl, hrow, -, hB4⟩
          rw [hsu] at hrow
          have hrise : Rising s0.sure := HD3.out.inv.hist.first.rising
          have hmany : s0.sure.length ≤ 64 := HD3.out.inv.hist.first.many
          have hnlen : (fnames s0.sure).length = s0.sure.length := by simp [fnames]
          have hnm := NmAt.of_owns (ns := fnames s0.sure) (by rw [hnlen]; exact hrow)
          have hs3 := HK3.out.size
          have hs4 := hB4.size
          have hDK4 : Dk (fun k => k < w1.heap.size ∨ (w3.heap.size ≤ k ∧ k < w4.heap.size)) w4 db s0 := HD3.out.later hs4 (fun k hk _ => hB4.block k hk) fun k hk => by
            rcases hk with hk | hk
            · exact ⟨by omega, .inl hk⟩
            · exact ⟨hk.2, .inr hk.1⟩
          have HK4 := Lib.hid (HK3.out.trans (Keep.of_below hB4 (K := fun k => k < w1.heap.size) fun k hk => by omega))
          have HD4 := Lib.hid hDK4
          have HN4 := Lib.hid hnm
          have HR := Lib.hid hrise
          have HS := Lib.hid (And.intro hsu hlo)
          clear hDK4 hnm hrow hB4 HK3 HD3 hrise hsu hlo hnlen
          obtain ⟨A3, cap3, hnv⟩ := HN4.out.val
          subst hnv
          have hnl : (fnames s0.sure).length ≤ 64 := by simp [fnames]; omega
          generalize hnn : fnames s0.sure = ns at *
          have HNN := Lib.hid hnn
          clear hnn
          have hmk := make_strs ns.length (by omega) w4
          go_wp2_with fail
          have HF0 := Lib.hid (Fil.new (n := ns.length) (g1 s0.sure) HD4.out)
          have HN5 := Lib.hid (HN4.out.kept (w' := w4.alloc (.cells (madeCells #[.string (bs [])] ns.length) 9)) fun b hb => Below.heap_alloc w4 _ b hb.2)
          have HK5 := Lib.hid (HK4.out.trans (Keep.alloc (w := w4) (fun k hk => by omega) (.cells (madeCells #[.string (bs [])] ns.length) 9)))
          clear HN4 HD4 HK4
          generalize w4.alloc (.cells (madeCells #[.string (bs [])] ns.length) 9) = w5 at *
          generalize w4.heap.size = mb at *
          go_loopw [15] (fun i wr => ∃ j : Nat, j ≤ ns.length ∧ i = .int .i64 j ∧ Fil (fun k => (k < w1.heap.size ∨ (w3.heap.size ≤ k ∧ k < mb)) ∨ k = mb) w5 wr db mb ns.length s0 (g1 s0.sure) j) (fun i _ => ns.length - (intOf i).toNat)
          case atStart => exact ⟨0, Nat.zero_le _, rfl, HF0.out⟩
          case round =>
            obtain ⟨j, hj, rfl, hfil⟩ := hrel
            by_cases hjl : j < ns.length
            · obtain ⟨nk, hnk⟩ : ∃ nk, ns[j]? = some nk := ⟨_, List.getElem?_eq_getElem hjl⟩
              obtain ⟨gb, cap', he, hcell⟩ := hfil.nameAt HN5.out (fun b hb => by omega) hnk
              simp only [Value.slice.injEq] at he
              obtain ⟨rfl, -, rfl⟩ := he
              obtain ⟨fv, hfv1, hfv2⟩ := fnames_at HR.out (by rw [HNN.out]; exact hnk)
              have hread := read_has (s := s0) hfu (by rw [HS.out.1]; exact hfv2)
              have hnl32 : nk.length ≤ 32 := hfil.dk.inv.now.names _ (by rw [HS.out.1]; exact fget_mem hfv2)
              have hR := read_spec wr db s0 nk hfil.dk (by simp [maxLen]; omega)
              rw [hread] at hR
              have hput := hfil.put hjl
              rw [g1_at hfv1] at hput
              have hc := hfil.row.cell hjl
              have hfr := hfil.row.frozen j
              have HP := Lib.hid hput
              have HF := Lib.hid hfil
              clear hput hfil hread hfv1 hfv2
              have i1 : (0 : Int) ≤ (j : Int) := by omega
              have i2 : (j : Int) < (ns.length : Int) := by omega
              go_wp2_with fail
              refine hR.mono ?_
              clear hR
              rintro e w6 ⟨rfl, rfl⟩
              go_wp2_with fail
              go_roundw
              case rel => exact ⟨j + 1, by omega, by go_num, HP.out⟩
              case measure => simp [intOf]; omega
            · obtain rfl : j = ns.length := by omega
              have HF := Lib.hid hfil
              clear hfil HF0
              obtain ⟨w6, hw6⟩ : ∃ w6, w6 = wr := ⟨_, rfl⟩
              subst hw6
              have HK6 := Lib.hid (HK5.out.trans (HF.out.keep (L := fun k => k < w1.heap.size) (by omega)))
              have HN6 := Lib.hid (HN5.out.kept (w' := w6) fun b hb => HF.out.same b (by omega))
              have hs6 : w6.heap.size = w5.heap.size := HF.out.size
              have HD6 := Lib.hid HF.out.dk
              have HR6 := Lib.hid HF.out.row
              clear HK5 HN5 HF
              go_wp2_with fail
              go_loopw [18] (fun i wr => ∃ (j : Nat) (s' : DS), j ≤ l2.length ∧ i = .int .i64 j ∧ Dk (fun k => (k < w1.heap.size ∨ (w3.heap.size ≤ k ∧ k < mb)) ∨ k = mb) wr db s' ∧ Keep (fun k => (k < w1.heap.size ∨ (w3.heap.size ≤ k ∧ k < mb)) ∨ k = mb) w6 wr ∧ s'.sure = s0.sure ∧ s'.fuse = -1 ∧ (∀ c ∈ s'.loose, c.isApp = true) ∧ s'.loose.length ≤ j) (fun i _ => l2.length - (intOf i).toNat)
              case atStart => exact ⟨0, s0, Nat.zero_le _, rfl, HD6.out, Keep.refl _ _, rfl, hfu, by rw [HS.out.2]; simp, by rw [HS.out.2]; simp⟩
              case round =>
                obtain ⟨j, s', hj, rfl, hD, hK, hsu, hf', hap, hll⟩ := hrel
                by_cases hjl : j < l2.length
                · obtain ⟨x, hx⟩ : ∃ x, l2[j]? = some x := ⟨_, List.getElem?_eq_getElem hjl⟩
                  obtain ⟨ab, ao, cap', he, hab, hst0⟩ := H1.out.2.2.cells j x hx
                  simp only [Value.slice.injEq] at he
                  obtain ⟨rfl, -, rfl⟩ := he
                  have hst := hst0.of_block (w' := wr) ((hK.block ab (.inl (.inl (by omega)))).trans (HK6.out.block ab (by omega)))
                  obtain ⟨-, c1, c2, -, -⟩ := hst
                  have hxo := H1.out.2.2.ok j x hx
                  have hxa : x.a.length ≤ maxLen := Nat.le_trans hxo.a (by decide)
                  have hA := append_spec wr.drew db s' x.a x.b hD.drew hxa (by omega)
                  have HX := Lib.hid (app_keep (n := x.a) (d := x.b) hf' hap)
                  have HD := Lib.hid hD
                  have HK := Lib.hid hK
                  have HU := Lib.hid (And.intro hsu (And.intro hf' hap))
                  clear hx hxo hst0 hD hK hxa hsu hf' hap
                  have i1 : (0 : Int) ≤ (j : Int) := by omega
                  have i2 : (j : Int) < (l2.length : Int) := by omega
                  go_wp2
                  go_region_with ((go_at_call 10; refine hA.mono ?_; rintro e w7 ⟨rfl, hT⟩; have HT := Lib.hid hT; clear hT))
                  all_goals (go_wp2_with fail)
                  all_goals go_roundw
                  all_goals first
                    | (refine ⟨j + 1, _, by omega, by go_num, HT.out.1, (HK.out.trans (Keep.drew _ _)).trans HT.out.2, HX.out.1.trans HU.out.1, HX.out.2.1, HX.out.2.2.1, ?_⟩
                       have := HX.out.2.2.2
                       omega)
                    | (simp [intOf]; omega)
                · obtain rfl : j = l2.length := by omega
                  obtain ⟨w8, hw8⟩ : ∃ w8, w8 = wr := ⟨_, rfl⟩
                  subst hw8
                  have hpre : Pre s0.sure s'.now := by rw [← hsu]; exact pre_runs _ _ hap
                  have HPre := Lib.hid hpre
                  have HAp := Lib.hid (And.intro hsu hap)
                  have hs8 := hK.size
                  have HK8 := Lib.hid (HK6.out.trans (hK.mono (L := fun k => k < w1.heap.size) fun k hk => .inl (.inl hk)))
                  have HN8 := Lib.hid (HN6.out.kept (w' := w8) fun b hb => hK.block b (.inl (.inr hb)))
                  have HR8 := Lib.hid (HR6.out.of_block (hK.block mb (.inr rfl)))
                  have hmb : mb < w8.heap.size := HR8.out.lt
                  have HD8 := Lib.hid hD
                  clear hpre hsu hap hK hD HK6 HN6 HR6 HD6 hmk
                  have hmk := make_strs ns.length (by omega) w8
                  go_wp2_with fail
                  have HF0 := Lib.hid (Fil.new (n := ns.length) (g2 ns s'.now) HD8.out)
                  have HN9 := Lib.hid (HN8.out.kept (w' := w8.alloc (.cells (madeCells #[.string (bs [])] ns.length) 9)) fun b hb => Below.heap_alloc w8 _ b (by omega))
                  have HR9 := Lib.hid (HR8.out.of_block (w' := w8.alloc (.cells (madeCells #[.string (bs [])] ns.length) 9)) (Below.heap_alloc w8 _ mb hmb))
                  have HK9 := Lib.hid (HK8.out.trans (Keep.alloc (w := w8) (fun k hk => by omega) (.cells (madeCells #[.string (bs [])] ns.length) 9)))
                  clear HN8 HD8 HK8 HR8
                  generalize w8.alloc (.cells (madeCells #[.string (bs [])] ns.length) 9) = w9 at *
                  generalize w8.heap.size = mc at *
                  go_loopw [20] (fun i wr => ∃ j : Nat, j ≤ ns.length ∧ i = .int .i64 j ∧ Fil (fun k => ((k < w1.heap.size ∨ (w3.heap.size ≤ k ∧ k < mb)) ∨ k = mb) ∨ k = mc) w9 wr db mc ns.length s' (g2 ns s'.now) j) (fun i _ => ns.length - (intOf i).toNat)
                  case atStart => exact ⟨0, Nat.zero_le _, rfl, HF0.out⟩
                  case round =>
                    obtain ⟨j, hj, rfl, hfil⟩ := hrel
                    by_cases hjl : j < ns.length
                    · obtain ⟨nk, hnk⟩ : ∃ nk, ns[j]? = some nk := ⟨_, List.getElem?_eq_getElem hjl⟩
                      obtain ⟨gb, cap', he, hcell⟩ := hfil.nameAt HN9.out (fun b hb => by omega) hnk
                      simp only [Value.slice.injEq] at he
                      obtain ⟨rfl, -, rfl⟩ := he
                      obtain ⟨fv, hfv1, hfv2⟩ := fnames_at HR.out (by rw [HNN.out]; exact hnk)
                      obtain ⟨ft, hfv3⟩ := HPre.out nk fv hfv2
                      have hread := read_has (s := s') hf' hfv3
                      have hnl32 : nk.length ≤ 32 := hfil.dk.inv.now.names _ (fget_mem hfv3)
                      have hR := read_spec wr db s' nk hfil.dk (by simp [maxLen]; omega)
                      rw [hread] at hR
                      have hput := hfil.put hjl
                      rw [g2_at hnk hfv3] at hput
                      have hc := hfil.row.cell hjl
                      have hfr := hfil.row.frozen j
                      have HP := Lib.hid hput
                      have HF := Lib.hid hfil
                      clear hput hfil hread hfv1 hfv2 hfv3 hnk
                      have i1 : (0 : Int) ≤ (j : Int) := by omega
                      have i2 : (j : Int) < (ns.length : Int) := by omega
                      go_wp2_with fail
                      refine hR.mono ?_
                      clear hR
                      rintro e w10 ⟨rfl, rfl⟩
                      go_wp2_with fail
                      go_roundw
                      case rel => exact ⟨j + 1, by omega, by go_num, HP.out⟩
                      case measure => simp [intOf]; omega
                    · obtain rfl : j = ns.length := by omega
                      have HF := Lib.hid hfil
                      clear hfil HF0
                      obtain ⟨w10, hw10⟩ : ∃ w10, w10 = wr := ⟨_, rfl⟩
                      subst hw10
                      have HK10 := Lib.hid (HK9.out.trans (HF.out.keep (L := fun k => k < w1.heap.size) (by omega)))
                      have HN10 := Lib.hid (HN9.out.kept (w' := w10) fun b hb => HF.out.same b (by omega))
                      have HR10 := Lib.hid (HR9.out.of_block (HF.out.same mb (by omega)))
                      have HD10 := Lib.hid HF.out.dk
                      have HA10 := Lib.hid HF.out.row
                      clear HK9 HN9 HF HR9
                      have hC := crash_spec w10 db s' calls bytes HD10.out (by omega) hc1 hc2 hb1 hb2
                      go_wp2_with fail
                      refine hC.mono ?_
                      clear hC
                      rintro e w11 ⟨rfl, hT⟩
                      have HK11 := Lib.hid (HK10.out.trans (hT.2.mono (L := fun k => k < w1.heap.size) fun k hk => .inl (.inl (.inl hk))))
                      have HN11 := Lib.hid (HN10.out.kept (w' := w11) fun b hb => hT.2.block b (.inl (.inl (.inr hb))))
                      have HR11 := Lib.hid (HR10.out.of_block (hT.2.block mb (.inl (.inr rfl))))
                      have HA11 := Lib.hid (HA10.out.of_block (hT.2.block mc (.inr rfl)))
                      have HD11 := Lib.hid hT.1
                      clear hT HK10 HN10 HR10 HA10 HD10
                      have hL := loose_spec w11 db _ HD11.out
                      have hl0 : (dCrash s' calls bytes).loose = [] := rfl
                      rw [hl0] at hL
                      go_wp2_with fail
                      refine hL.mono ?_
                      clear hL hl0
                      rintro e w12 ⟨rfl, rfl⟩
                      go_wp2_with fail
                      have hkp := keeps HAp.out.2 calls bytes
                      rw [HAp.out.1] at hkp
                      have HKP := Lib.hid hkp
                      clear hkp
                      go_loopw [23] (fun i wr => ∃ j : Nat, j ≤ ns.length ∧ i = .int .i64 j ∧ Dk (fun k => ((k < w1.heap.size ∨ (w3.heap.size ≤ k ∧ k < mb)) ∨ k = mb) ∨ k = mc) wr db (dCrash s' calls bytes) ∧ Keep (fun k => k < w11.heap.size) w11 wr) (fun i _ => ns.length - (intOf i).toNat)
                      case atStart => exact ⟨0, Nat.zero_le _, rfl, HD11.out, Keep.refl _ _⟩
                      case round =>
                        obtain ⟨j, hj, rfl, hD, hK⟩ := hrel
                        by_cases hjl : j < ns.length
                        · obtain ⟨nk, hnk⟩ : ∃ nk, ns[j]? = some nk := ⟨_, List.getElem?_eq_getElem hjl⟩
                          obtain ⟨gb, cap', he, -, hcell⟩ := (HN11.out.kept (w' := wr) fun b hb => hK.block b (by have := HR11.out.lt; omega)).cells j nk hnk
                          simp only [Value.slice.injEq] at he
                          obtain ⟨rfl, -, rfl⟩ := he
                          obtain ⟨fv, hfv1, hfv2⟩ := fnames_at HR.out (by rw [HNN.out]; exact hnk)
                          obtain ⟨ft, hfv3⟩ := HKP.out.1 nk fv hfv2
                          obtain ⟨fu, hfv4⟩ := HKP.out.2 nk _ hfv3
                          have hread := read_has (s := dCrash s' calls bytes) rfl (by rw [crash_now]; exact hfv3)
                          have hnl32 : nk.length ≤ 32 := hD.inv.now.names _ (by rw [crash_now]; exact fget_mem hfv3)
                          have hR := read_spec wr db _ nk hD (by simp [maxLen]; omega)
                          rw [hread] at hR
                          have hc := (HR11.out.of_block (hK.block mb HR11.out.lt)).cell hjl
                          have hc2 := (HA11.out.of_block (hK.block mc HA11.out.lt)).cell hjl
                          rw [rowF, if_pos hjl, g1_at hfv1] at hc
                          rw [rowF, if_pos hjl, g2_at hnk hfv4] at hc2
                          obtain ⟨X, Y, Z, eX, eY, eZ, q1, q2, q3, q4⟩ := three_strs fv ft fu
                          simp only [eX, eY, eZ] at hc hc2 hR
                          have HD := Lib.hid hD
                          have HK := Lib.hid hK
                          clear hD hK hread hfv1 hfv2 hfv3 hfv4 hnk eX eY eZ
                          have i1 : (0 : Int) ≤ (j : Int) := by omega
                          have i2 : (j : Int) < (ns.length : Int) := by omega
                          have d1 : decide ((Y.size : Int) < (X.size : Int)) = false := by simp; omega
                          have d2 : decide ((Z.size : Int) < (Y.size : Int)) = false := by simp; omega
                          go_wp2_with fail
                          refine hR.mono ?_
                          clear hR
                          rintro e w12 ⟨rfl, rfl⟩
                          go_wp2_with fail
                          go_quiet (fail)
                          go_wp2_with fail
                          go_roundw
                          case rel => exact ⟨j + 1, by omega, by go_num, HD.out.below ⟨rfl, rfl, rfl, Nat.le_refl _, fun _ _ => rfl⟩, HK.out.trans (Keep.drewN _ _ _)⟩
                          case measure => simp [intOf]; omega
                        · obtain rfl : j = ns.length := by omega
                          have HK := Lib.hid hK
                          clear hK hD
                          go_wp2_with (go_at_call 8; refine (works_spec _).mono ?_; rintro e w' ⟨rfl, hB⟩)
                          go_ret
                          exact ⟨rfl, H1.out.1.trans (((HK11.out.trans (HK.out.mono fun k hk => Nat.lt_of_lt_of_le hk HK11.out.size)).below.trans (hB.mono (Nat.le_trans HK11.out.size HK.out.size))).mono hs1)⟩
end Go.Proofs.YtmgnekaokcgmlaaDoor
