/- The walk of the law DiskFuse. -/
import Derived.Test.YtmgnekaokcgmlaaDoorSteps
import Derived.Deep.CutRange
import Derived.Deep.CutBlock
set_option linter.unusedSimpArgs false
set_option linter.unusedVariables false
namespace Go.Proofs.YtmgnekaokcgmlaaDoor
open Go Go.RowKit Go.Maps Go.WideMaps

def stepE (s : DS) (x : St) : Int × DS :=
  if x.dO = 0 then dAppend s x.a x.b else if x.dO = 1 then dCut s x.a x.n else if x.dO = 2 then dRename s x.a x.b
  else if x.dO = 3 then dRemove s x.a else if x.dO = 4 then dSync s else (0, s)
theorem burn_fuse (s : DS) : s.burn.fuse = if 0 < s.fuse then s.fuse - 1 else s.fuse := by unfold DS.burn; split <;> rfl
theorem burn_loose (s : DS) : s.burn.loose = s.loose := by unfold DS.burn; split <;> rfl
theorem stepE_down {s : DS} {x : St} (h : s.fuse = 0) (hx : 0 ≤ x.dO ∧ x.dO ≤ 4) : stepE s x = (60, s) := by
  unfold stepE
  split
  · unfold dAppend; rw [if_pos h]
  split
  · unfold dCut; rw [if_pos h]
  split
  · unfold dRename; rw [if_pos h]
  split
  · unfold dRemove; rw [if_pos h]
  split
  · unfold dSync; rw [if_pos h]
  · omega
theorem app_up {s : DS} {n d : Str} (h : s.fuse ≠ 0) : (dAppend s n d).1 ≠ 60 ∧ (dAppend s n d).2.fuse = s.burn.fuse ∧ (dAppend s n d).2.loose.length ≤ s.loose.length + 1 := by
  unfold dAppend; rw [if_neg h]
  split
  · exact ⟨by simp, rfl, by rw [burn_loose]; omega⟩
  split
  · exact ⟨by simp, rfl, by rw [burn_loose]; omega⟩
  · exact ⟨by simp, rfl, by simp [DS.push, burn_loose]⟩
theorem cut_up {s : DS} {n : Str} {k : Int} (h : s.fuse ≠ 0) : (dCut s n k).1 ≠ 60 ∧ (dCut s n k).2.fuse = s.burn.fuse ∧ (dCut s n k).2.loose.length ≤ s.loose.length + 1 := by
  unfold dCut; rw [if_neg h]
  split
  · exact ⟨by simp, rfl, by rw [burn_loose]; omega⟩
  split
  · exact ⟨by simp, rfl, by rw [burn_loose]; omega⟩
  · exact ⟨by simp, rfl, by simp [DS.push, burn_loose]⟩
theorem ren_up {s : DS} {n d : Str} (h : s.fuse ≠ 0) : (dRename s n d).1 ≠ 60 ∧ (dRename s n d).2.fuse = s.burn.fuse ∧ (dRename s n d).2.loose.length ≤ s.loose.length + 1 := by
  unfold dRename; rw [if_neg h]
  split
  · exact ⟨by simp, rfl, by rw [burn_loose]; omega⟩
  split
  · exact ⟨by simp, rfl, by rw [burn_loose]; omega⟩
  · exact ⟨by simp, rfl, by simp [DS.push, burn_loose]⟩
theorem rem_up {s : DS} {n : Str} (h : s.fuse ≠ 0) : (dRemove s n).1 ≠ 60 ∧ (dRemove s n).2.fuse = s.burn.fuse ∧ (dRemove s n).2.loose.length ≤ s.loose.length + 1 := by
  unfold dRemove; rw [if_neg h]
  split
  · exact ⟨by simp, rfl, by rw [burn_loose]; omega⟩
  · exact ⟨by simp, rfl, by simp [DS.push, burn_loose]⟩
theorem sync_up {s : DS} (h : s.fuse ≠ 0) : (dSync s).1 ≠ 60 ∧ (dSync s).2.fuse = s.burn.fuse ∧ (dSync s).2.loose.length ≤ s.loose.length + 1 := by
  unfold dSync; rw [if_neg h]
  exact ⟨by simp, rfl, by simp [DS.settle]⟩
theorem stepE_up {s : DS} {x : St} (h : s.fuse ≠ 0) (hx : 0 ≤ x.dO ∧ x.dO ≤ 4) : (stepE s x).1 ≠ 60 ∧ (stepE s x).2.fuse = s.burn.fuse ∧ (stepE s x).2.loose.length ≤ s.loose.length + 1 := by
  unfold stepE
  split
  · exact app_up h
  split
  · exact cut_up h
  split
  · exact ren_up h
  split
  · exact rem_up h
  split
  · exact sync_up h
  · omega

/-- The local copy of a step, and the disk beside it. -/
def stObj (x : St) : Obj := .cells #[.int .i64 x.dO, .string (bs x.a), .string (bs x.b), .int .i64 x.n, .int .i64 x.m] 30 (0, 0)
structure Mid (K : Nat → Prop) (w0 wx : World) (db sb : Nat) (s : DS) (x : St) : Prop where
  dk : Dk (fun k => K k ∨ k = sb) wx db s
  keep : Keep K w0 wx
  box : wx.heap[sb]? = some (stObj x)
theorem Mid.cells {K : Nat → Prop} {w0 wx : World} {db sb : Nat} {s : DS} {x : St} (h : Mid K w0 wx db sb s x) :
    wx.cell? ⟨sb, 0, none⟩ = some (.int .i64 x.dO) ∧ wx.cell? ⟨sb, 1, none⟩ = some (.string (bs x.a)) ∧ wx.cell? ⟨sb, 2, none⟩ = some (.string (bs x.b)) ∧ wx.cell? ⟨sb, 3, none⟩ = some (.int .i64 x.n) ∧ wx.cell? ⟨sb, 4, none⟩ = some (.int .i64 x.m) :=
  ⟨cell_of h.box 0, cell_of h.box 1, cell_of h.box 2, cell_of h.box 3, cell_of h.box 4⟩
theorem Mid.new {K : Nat → Prop} {w0 wr : World} {db : Nat} {s : DS} (x : St) (hD : Dk K wr db s) (hK : Keep K w0 wr) : Mid K w0 (wr.alloc (stObj x)) db wr.heap.size s x :=
  ⟨hD.more _, hK.trans (hD.keep1 _), heap_new wr _⟩
theorem Mid.below {K : Nat → Prop} {w0 wx wy : World} {db sb : Nat} {s : DS} {x : St} (h : Mid K w0 wx db sb s x) (hb : Below wx.heap.size wx wy) : Mid K w0 wy db sb s x :=
  ⟨h.dk.below hb, h.keep.trans (Keep.of_below hb fun k hk => h.dk.lt k (.inl hk)), (hb.block sb (h.dk.lt sb (.inr rfl))).trans h.box⟩
theorem Mid.turn {K : Nat → Prop} {w0 wx wy : World} {db sb : Nat} {s s' : DS} {x : St} (h : Mid K w0 wx db sb s x) (ht : Then (fun k => K k ∨ k = sb) wx db s' wy) : Mid K w0 wy db sb s' x :=
  ⟨ht.1, h.keep.trans (ht.2.mono fun _ hk => .inl hk), (ht.2.block sb (.inr rfl)).trans h.box⟩

set_option maxRecDepth 100000 in
set_option maxHeartbeats 4000000 in
theorem diskFuse_walk (w : World) (B : Nat) (v : Value) (l : List St) (n : Nat) (hBw : B ≤ w.heap.size) (h : ScriptIn w B v l) (hn : n ≤ 255) :
    Calls Tryd.prog 4 #[v, .int .u8 n] w fun e w' => e = .returned (.bool true) ∧ Below w.heap.size w w' := by
  have hheavy := heavy_spec w B v l hBw h
  have H0 := Lib.hid h
  clear h
  cases hb : heavyB l with
  | true =>
    rw [hb] at hheavy
    go_enter Tryd.func4, Tryd.ntmps4
    go_wp2_with fail
    refine hheavy.mono ?_
    rintro e w1 ⟨rfl, hB1⟩
    have HB1 := Lib.hid hB1
    clear hB1
    go_wp2_with (go_at_call 8; refine (works_spec _).mono ?_; rintro e w' ⟨rfl, hB⟩)
    go_ret
    exact ⟨rfl, HB1.out.trans (hB.mono HB1.out.size)⟩
  | false =>
    have hlen : l.length ≤ 100 := by
      unfold heavyB at hb
      simp at hb
      omega
    rw [hb] at hheavy
    obtain ⟨A, cap, hv⟩ := H0.out.val
    subst hv
    go_enter Tryd.func4, Tryd.ntmps4
    go_wp2_with fail
    refine hheavy.mono ?_
    clear hheavy
    rintro e w1 ⟨rfl, hB1⟩
    have hg := new_good w1 65536 (by omega)
    have H1 := Lib.hid (And.intro hB1 (H0.out.later (w' := w1) (fun k hk => hB1.block k (by omega))))
    have hs1 := hB1.size
    clear hB1 H0
    go_wp2_with fail
    refine hg.mono ?_
    clear hg
    rintro e w2 ⟨rfl, hD2, hK2⟩
    have hf := fuse_spec w2 _ _ n hD2 (by omega)
    have HK2 := Lib.hid hK2
    clear hD2 hK2
    go_wp2_with fail
    refine hf.mono ?_
    clear hf
    rintro e w3 ⟨rfl, hD3, hK3⟩
    have HK3 := Lib.hid (HK2.out.trans hK3)
    have HD3 := Lib.hid hD3
    clear hD3 hK3 HK2
    generalize w1.heap.size + 2 = db at *
    go_wp2_with fail
    go_loopw [7, 8] (fun z i wr => ∃ (k : Nat) (s : DS), k ≤ l.length ∧ i = .int .i64 k ∧ z = .int .i64 s.fuse ∧ Dk (· < w1.heap.size) wr db s ∧ Keep (· < w1.heap.size) w1 wr ∧ 0 ≤ s.fuse ∧ s.fuse ≤ 255 ∧ s.loose.length ≤ k) (fun _ i _ => l.length - (intOf i).toNat)
    case atStart => exact ⟨0, _, Nat.zero_le _, rfl, by simp [dFuse]; omega, HD3.out, HK3.out, by simp [dFuse]; omega, by simp [dFuse]; omega, by simp [dFuse, freshDS]⟩
    case round =>
      obtain ⟨k, s, hk, rfl, rfl, hD, hK, hf0, hf1, hll⟩ := hrel
      by_cases hlt : k < l.length
      · obtain ⟨x, hx⟩ : ∃ x, l[k]? = some x := ⟨_, List.getElem?_eq_getElem hlt⟩
        obtain ⟨ab, ao, cap', he, hab, hst0⟩ := H1.out.2.cells k x hx
        simp only [Value.slice.injEq] at he
        obtain ⟨rfl, -, rfl⟩ := he
        have hst := hst0.of_block (w' := wr) (hK.block ab (by omega))
        obtain ⟨c0, c1, c2, c3, c4⟩ := hst
        have hxo := H1.out.2.ok k x hx
        have HX := Lib.hid (And.intro hx (And.intro hxo hst0))
        clear hx hxo hst0
        have HD := Lib.hid hD
        have HK := Lib.hid hK
        clear hD hK
        have i1 : (0 : Int) ≤ (k : Int) := by omega
        have i2 : (k : Int) < (l.length : Int) := by omega
        have HM0 := Lib.hid (Mid.new (w0 := w1) x HD.out HK.out)
        go_upto_region 12 with fail
        clear c0 c1 c2 c3 c4 HD HK
        show Code.wp _ _ _ _ (wr.alloc (stObj x))
        generalize wr.heap.size = sb at *
        generalize wr.alloc (stObj x) = w4 at *
        go_wp2_with fail
        refine (loose_spec w4 db s HM0.out.dk).mono ?_
        rintro e w5 ⟨rfl, rfl⟩
        go_wp2_with fail
        refine (left_spec w4 db s HM0.out.dk).mono ?_
        rintro e w5 ⟨rfl, hB5⟩
        have HM1 := Lib.hid (HM0.out.below hB5)
        obtain ⟨c0, c1, c2, c3, c4⟩ := HM1.out.cells
        clear hB5 HM0
        go_upto_block 2 with fail
        go_cut [10] from 35 to 108 (fun e wx => ∃ q : Int, e = .int .i64 q ∧ (0 ≤ x.dO ∧ x.dO ≤ 4) ∧ stepE s x = (q, (stepE s x).2) ∧ Mid (· < w1.heap.size) w1 wx db sb (stepE s x).2 x)
        case first =>
          have hxo := HX.out.2.1
          have hxa : x.a.length ≤ maxLen := Nat.le_trans hxo.a (by decide)
          have hxb : x.b.length ≤ maxLen := Nat.le_trans hxo.b (by decide)
          clear hxo
          by_cases e0 : x.dO = 0
          · rw [e0] at c0
            go_wp2_with fail
            refine (append_spec w5 db s x.a x.b HM1.out.dk hxa (by omega)).mono ?_
            rintro e w6 ⟨rfl, hT⟩
            have hE : stepE s x = dAppend s x.a x.b := by
              unfold stepE;  rw [if_pos e0]
            rw [← hE] at hT ⊢
            have HM2 := Lib.hid (HM1.out.turn hT)
            clear hT hE
            go_wp2_with fail
            go_meet
            case rel => exact ⟨_, rfl, by omega, rfl, HM2.out⟩
          by_cases e1 : x.dO = 1
          · rw [e1] at c0
            go_wp2_with fail
            refine (cut_spec w5 db s x.a x.n HM1.out.dk hxa (by omega)).mono ?_
            rintro e w6 ⟨rfl, hT⟩
            have hE : stepE s x = dCut s x.a x.n := by
              unfold stepE; rw [if_neg (by omega)]; rw [if_pos e1]
            rw [← hE] at hT ⊢
            have HM2 := Lib.hid (HM1.out.turn hT)
            clear hT hE
            go_wp2_with fail
            go_meet
            case rel => exact ⟨_, rfl, by omega, rfl, HM2.out⟩
          by_cases e2 : x.dO = 2
          · rw [e2] at c0
            go_wp2_with fail
            refine (rename_spec w5 db s x.a x.b HM1.out.dk hxa hxb (by omega)).mono ?_
            rintro e w6 ⟨rfl, hT⟩
            have hE : stepE s x = dRename s x.a x.b := by
              unfold stepE; rw [if_neg (by omega)]; rw [if_neg (by omega)]; rw [if_pos e2]
            rw [← hE] at hT ⊢
            have HM2 := Lib.hid (HM1.out.turn hT)
            clear hT hE
            go_wp2_with fail
            go_meet
            case rel => exact ⟨_, rfl, by omega, rfl, HM2.out⟩
          by_cases e3 : x.dO = 3
          · rw [e3] at c0
            go_wp2_with fail
            refine (remove_spec w5 db s x.a HM1.out.dk hxa (by omega)).mono ?_
            rintro e w6 ⟨rfl, hT⟩
            have hE : stepE s x = dRemove s x.a := by
              unfold stepE; rw [if_neg (by omega)]; rw [if_neg (by omega)]; rw [if_neg (by omega)]; rw [if_pos e3]
            rw [← hE] at hT ⊢
            have HM2 := Lib.hid (HM1.out.turn hT)
            clear hT hE
            go_wp2_with fail
            go_meet
            case rel => exact ⟨_, rfl, by omega, rfl, HM2.out⟩
          by_cases e4 : x.dO = 4
          · rw [e4] at c0
            go_wp2_with fail
            refine (sync_spec w5 db s HM1.out.dk).mono ?_
            rintro e w6 ⟨rfl, hT⟩
            have hE : stepE s x = dSync s := by
              unfold stepE; rw [if_neg (by omega)]; rw [if_neg (by omega)]; rw [if_neg (by omega)]; rw [if_neg (by omega)]; rw [if_pos e4]
            rw [← hE] at hT ⊢
            have HM2 := Lib.hid (HM1.out.turn hT)
            clear hT hE
            go_wp2_with fail
            go_meet
            case rel => exact ⟨_, rfl, by omega, rfl, HM2.out⟩
          · go_wp2_with fail
            go_roundw
            case rel => exact ⟨k + 1, s, by omega, by go_num, rfl, HM1.out.dk.less (fun _ h => .inl h), HM1.out.keep, hf0, hf1, by omega⟩
            case measure => simp [intOf]; omega
        case rest =>
          obtain ⟨q, rfl, hx04, hE, hM⟩ := hcut
          have HM3 := Lib.hid hM
          clear hM c0 c1 c2 c3 c4 HM1
          by_cases h0 : s.fuse = 0
          · have hd := stepE_down h0 hx04
            rw [hd] at hE HM3
            obtain rfl : 60 = q := congrArg Prod.fst hE
            clear hE hd
            rw [h0]
            go_wp2_with fail
            refine (loose_spec wc db s HM3.out.dk).mono ?_
            rintro e w6 ⟨rfl, rfl⟩
            go_wp2_with fail
            refine (left_spec wc db s HM3.out.dk).mono ?_
            rintro e w6 ⟨rfl, hB6⟩
            have HM4 := Lib.hid (HM3.out.below hB6)
            clear hB6 HM3
            go_wp2_with fail
            go_roundw
            case rel => exact ⟨k + 1, s, by omega, by go_num, by rw [h0]; rfl, HM4.out.dk.less (fun _ h => .inl h), HM4.out.keep, hf0, hf1, by omega⟩
            case measure => simp [intOf]; omega
          · obtain ⟨hq, hfu, hlo⟩ := stepE_up h0 hx04
            have hq' : q ≠ 60 := by rw [hE] at hq; exact hq
            rw [burn_fuse] at hfu
            rw [if_pos (by omega)] at hfu
            have b1 : (q == 60) = false := by simp [hq']
            have b2 : (s.fuse == 0) = false := by simp [h0]
            clear hE hq
            generalize (stepE s x).2 = s' at *
            go_wp2_with fail
            go_roundw
            case rel => exact ⟨k + 1, s', by omega, by go_num, by rw [hfu]; congr 1; omega, HM3.out.dk.less (fun _ h => .inl h), HM3.out.keep, by omega, by omega, by omega⟩
            case measure => simp [intOf]; omega
      · have HD := Lib.hid hD
        have HK := Lib.hid hK
        clear hD hK
        have hend : ∃ q : Int, (dRead s [110, 111, 110, 101]).2 = q ∧ ((q == 60) = (s.fuse == 0)) := by
          refine ⟨_, rfl, ?_⟩
          unfold dRead
          by_cases h0 : s.fuse = 0
          · rw [if_pos h0, h0]; rfl
          · rw [if_neg h0]
            have : (s.fuse == 0) = false := by simp [h0]
            rw [this]
            split <;> rfl
        obtain ⟨q, hq1, hq2⟩ := hend
        have hR := read_spec wr db s [110, 111, 110, 101] HD.out (by simp [maxLen])
        rw [hq1] at hR
        have HQ := Lib.hid hq1
        clear hq1
        go_wp2_with fail
        refine hR.mono ?_
        clear hR
        rintro e w4 ⟨rfl, rfl⟩
        have hC := crash_spec wr db s 1000 0 HD.out (by omega) (by omega) (by omega) (by omega) (by omega)
        clear HD
        by_cases h0 : s.fuse = 0
        · have b1 : (s.fuse == 0) = true := by simp [h0]
          have b2 : (q == 60) = true := hq2.trans b1
          obtain rfl : q = 60 := by simpa using b2
          rw [h0]
          clear hq2 b1 b2
          go_wp2_with fail
          refine hC.mono ?_
          clear hC
          rintro e w5 ⟨rfl, hT⟩
          have hA := append_spec w5 db (dCrash s 1000 0) [97] [] hT.1 (by simp [maxLen]) (by simp [dCrash])
          have hup := (app_up (s := dCrash s 1000 0) (n := [97]) (d := []) (by simp [dCrash])).1
          have HK5 := Lib.hid (HK.out.trans hT.2)
          clear hT HK
          generalize dAppend (dCrash s 1000 0) [97] [] = ap at *
          have hb' : (ap.1 == 60) = false := by simp [hup]
          go_wp2_with fail
          refine hA.mono ?_
          clear hA
          rintro e w6 ⟨rfl, hT⟩
          have HK6 := Lib.hid (HK5.out.trans hT.2)
          clear hT HK5
          go_wp2_with (go_at_call 8; refine (works_spec _).mono ?_; rintro e w' ⟨rfl, hB⟩)
          go_ret
          exact ⟨ret_bool (bne_iff_ne.2 hup), H1.out.1.trans ((HK6.out.below.trans (hB.mono HK6.out.size)).mono hs1)⟩
        · have b1 : (s.fuse == 0) = false := by simp [h0]
          have b2 : (q == 60) = false := hq2.trans b1
          have b3 : q ≠ 60 := by simpa using b2
          clear hq2
          go_wp2_with fail
          refine hC.mono ?_
          clear hC
          rintro e w5 ⟨rfl, hT⟩
          have hA := append_spec w5 db (dCrash s 1000 0) [97] [] hT.1 (by simp [maxLen]) (by simp [dCrash])
          have hup := (app_up (s := dCrash s 1000 0) (n := [97]) (d := []) (by simp [dCrash])).1
          have HK5 := Lib.hid (HK.out.trans hT.2)
          clear hT HK
          generalize dAppend (dCrash s 1000 0) [97] [] = ap at *
          have hb' : (ap.1 == 60) = false := by simp [hup]
          go_wp2_with fail
          refine hA.mono ?_
          clear hA
          rintro e w6 ⟨rfl, hT⟩
          have HK6 := Lib.hid (HK5.out.trans hT.2)
          clear hT HK5
          go_wp2_with (go_at_call 8; refine (works_spec _).mono ?_; rintro e w' ⟨rfl, hB⟩)
          go_ret
          exact ⟨ret_bool (bne_iff_ne.2 hup), H1.out.1.trans ((HK6.out.below.trans (hB.mono HK6.out.size)).mono hs1)⟩
end Go.Proofs.YtmgnekaokcgmlaaDoor
