/- The reference's disk: Append, Cut, Rename, Remove. -/
import Derived.Test.YtmgnekaokcgmlaaDoorRef6
set_option linter.unusedSimpArgs false
set_option linter.unusedVariables false
namespace Go.Proofs.YtmgnekaokcgmlaaDoor
open Go Go.RowKit Go.Maps Go.WideMaps

theorem ownsRow_succ4 {w : World} {base : Nat} {e : TypeId} {size : Nat} {v : Value} {n : Nat} {xs : List Value} (h : w.ownsRow base e size v (n + 1) xs) : ∃ g cap, v = .slice (some ⟨g, 0, none⟩) (n + 1) cap := by
  rcases h.2 with ⟨_, h0⟩ | ⟨g, cap, cur, rfl, _⟩
  · omega
  · exact ⟨g, cap, rfl⟩
theorem RThen.below {K : Nat → Prop} {w w1 w2 : World} {rb : Nat} {s : DS} (h : RThen K w rb s w1) (hb : Below w1.heap.size w1 w2) : RThen K w rb s w2 :=
  ⟨h.1.below hb, h.2.trans (Keep.of_below hb h.1.lt)⟩
theorem RThen.trans {K : Nat → Prop} {w w1 w2 : World} {rb : Nat} {s s2 : DS} (h : RThen K w rb s w1) (g : RThen K w1 rb s2 w2) : RThen K w rb s2 w2 := ⟨g.1, h.2.trans g.2⟩

set_option maxRecDepth 100000 in
set_option maxHeartbeats 4000000 in
theorem rappend_spec {K : Nat → Prop} (w : World) (rb : Nat) (s : DS) (n d : Str) (h : Rk K w rb s) (hn : n.length ≤ maxLen) (hl : s.loose.length ≤ 100000) :
    Calls Tryd.prog 38 #[.pointer (some ⟨rb, 0, none⟩), .string (bs n), .string (bs d)] w fun e w' => e = .returned (.int .i64 (dAppend s n d).1) ∧ RThen K w rb (dAppend s n d).2 w' := by
  by_cases h0 : s.fuse = 0
  · have hv : dAppend s n d = (60, s) := by unfold dAppend; rw [if_pos h0]
    rw [hv]
    have hb := rburns_down w rb s h h0
    have H := Lib.hid h
    clear h hv h0
    go_enter Tryd.func38, Tryd.ntmps38
    go_wp2_with fail
    refine hb.mono ?_
    clear hb
    rintro e w1 ⟨rfl, rfl⟩
    go_wp2
    go_ret
    exact ⟨rfl, H.out, Keep.refl _ _⟩
  · have hb := rburns_up w rb s h h0
    have hbl : s.burn.loose.length ≤ 100000 := by rw [burn_loose]; exact hl
    have hV1 : nameOk n = false → dAppend s n d = (2, s.burn) := fun e => by unfold dAppend; rw [if_neg h0, if_pos e]
    have hV2 : nameOk n = true → s.burn.left < d.length → dAppend s n d = (6, s.burn) := fun e e2 => by
      rw [DS.left_burn] at e2
      unfold dAppend; rw [if_neg h0, if_neg (by rw [e]; simp), if_pos (.inl e2)]
    have hV3 : nameOk n = true → fhas s.burn.now n = false → 64 ≤ s.burn.now.length → dAppend s n d = (6, s.burn) := fun e e2 e3 => by
      rw [DS.now_burn] at e2 e3
      unfold dAppend; rw [if_neg h0, if_neg (by rw [e]; simp), if_pos (.inr ⟨e2, e3⟩)]
    have hV4 : nameOk n = true → ¬ s.burn.left < d.length → ¬ (fhas s.burn.now n = false ∧ 64 ≤ s.burn.now.length) → dAppend s n d = (0, s.burn.push (.app n d)) ∧ (DC.app n d).ok s.burn.now ∧ FOk s.burn.room ((DC.app n d).run s.burn.now) := fun e e2 e3 => by
      have hi := (h.inv.append n d)
      have hval : dAppend s n d = (0, s.burn.push (.app n d)) := by
        rw [DS.left_burn] at e2
        rw [DS.now_burn] at e3
        unfold dAppend; rw [if_neg h0, if_neg (by rw [e]; simp), if_neg (by rintro (e4 | e4); exact e2 e4; exact e3 e4)]
      refine ⟨hval, nameOk_len e, ?_⟩
      rw [hval] at hi
      have := hi.now
      rwa [DS.now_push] at this
    clear h h0 hl
    generalize s.burn = s1 at *
    generalize dAppend s n d = ap at *
    have HV := Lib.hid (And.intro hV1 (And.intro hV2 (And.intro hV3 hV4)))
    clear hV1 hV2 hV3 hV4
    go_enter Tryd.func38, Tryd.ntmps38
    go_wp2_with fail
    refine hb.mono ?_
    clear hb
    rintro e w1 ⟨rfl, hR⟩
    have hname := rname_spec w1 n hn
    have HR1 := Lib.hid hR
    clear hR
    go_wp2_with fail
    refine hname.mono ?_
    clear hname
    rintro e w2 ⟨rfl, hB⟩
    have HR2 := Lib.hid (HR1.out.below hB)
    clear hB HR1
    cases hok : nameOk n with
    | false =>
      have hv := HV.out.1 hok
      subst hv
      go_wp2_with fail
      go_ret
      exact ⟨rfl, HR2.out⟩
    | true =>
      have hnow := now_spec w2 rb s1 HR2.out.1 (by omega)
      go_wp2_with fail
      refine hnow.mono ?_
      clear hnow
      rintro e w3 ⟨r, G, rfl, hfl, -, hB⟩
      obtain ⟨A, cap, hvr⟩ := hfl.val
      subst hvr
      have HR3 := Lib.hid (HR2.out.below hB)
      clear HR2 hB
      have hleft := rleft_spec w3 rb s1 HR3.out.1 (by omega)
      have HL3 := Lib.hid hfl
      have hds : (bs d).size = d.length := bs_size d
      clear hfl
      go_wp2_with fail
      refine hleft.mono ?_
      clear hleft
      rintro e w4 ⟨rfl, hB⟩
      have HR4 := Lib.hid (HR3.out.below hB)
      have hfl4 := HL3.out.below hB
      have hmany := HR4.out.1.inv.now.many
      have hfind := find_spec w4 G _ s1.now n hfl4 (by omega)
      clear hB HR3 HL3 hfl4
      by_cases hbig : s1.left < d.length
      · have hv := HV.out.2.1 hok hbig
        subst hv
        have hgt : s1.left < ((d.length : Nat) : Int) := hbig
        go_wp2_with fail
        go_ret
        exact ⟨rfl, HR4.out⟩
      · have hge : ((d.length : Nat) : Int) ≤ s1.left := by omega
        have HB := Lib.hid hbig
        clear hbig
        go_wp2_with fail
        refine hfind.mono ?_
        clear hfind
        rintro e w5 ⟨⟨r, rfl, hr⟩, rfl⟩
        have HI := HR4.out.1.inv
        rcases hr with ⟨rfl, hno⟩ | ⟨i, u, rfl, hi, hu⟩
        · have hfn : fhas s1.now n = false := by rw [fhas_eq, hno]; rfl
          by_cases hfull : 64 ≤ s1.now.length
          · have hv := HV.out.2.2.1 hok hfn hfull
            subst hv
            have hfi : (64 : Int) ≤ (s1.now.length : Int) := by omega
            clear hno hfn
            go_wp2_with fail
            go_ret
            exact ⟨rfl, HR4.out⟩
          · obtain ⟨hv, hokc⟩ := HV.out.2.2.2 hok HB.out (fun e => hfull e.2)
            subst hv
            have hfi : ¬ ((64 : Int) ≤ (s1.now.length : Int)) := by omega
            clear hno hfn HI
            obtain ⟨hi, hK, F, vs, vl, hd, hF⟩ := HR4.out.1
            obtain ⟨-, -, k2, -⟩ := hd.cells
            have kf : w4.frozen? ⟨rb, 2, none⟩ = false := free_of hd.head 2
            obtain ⟨A2, cap2, hvl⟩ : ∃ a cc, vl = .slice a s1.loose.length cc := by
              rcases hd.loose.2 with ⟨h1, h0⟩ | ⟨g, cap, cur, h1, _⟩
              · rw [h0]; exact ⟨_, _, h1⟩
              · exact ⟨_, _, h1⟩
            subst hvl
            have hrb := lt_of_heap hd.head
            have hnr : ∀ b, (Value.slice A2 s1.loose.length cap2).ownBlock = some b → b ≠ rb := row_apart_of hd.head hd.loose (by decide)
            have hown := hd.loose
            have HP := Lib.hid (fun w2 v2 o hl hg hloc => rpushed (w2 := w2) (v2 := v2) (o := o) hi hK hd hF hokc.1 hokc.2 hl hg hloc)
            have HO := Lib.hid hown
            clear hi hK hd hF hown hokc
            obtain ⟨i0, hi0, hz0, hz1, hz2⟩ := info_parts infoRCall
            go_wp2_with (at_builtin; refine hold ?_)
            refine unhold ?_
            refine wpList_append_own_at _ rfl _ _ 49 rfl 0 81 i0 (.agg #[.int .i64 0, .string ⟨#[]⟩, .string ⟨#[]⟩, .int .i64 0]) 4 48 Tryd.underlying49 hi0 hz0 hz1 hz2 rfl (by decide) _ s1.loose.length (lcells s1.loose) rfl (World.ownsRow.alloc HO.out _) ⟨w4.heap.size, 0, none⟩ 1 1 (rcells (.app n d)) rfl rfl (cells_new _ (rcells (.app n d)) _) (rcells_one _) (by simp [maxLen]; omega) (by omega) (Nat.zero_le _) ?_
            intro v5 w5 hl5 hg5 hnil5 hloc5
            have hb5 : w5.heap[rb]? = w4.heap[rb]? := (hg5.block rb (by simp; omega) (fun e => hnr rb e.symm rfl)).trans (Below.heap_alloc w4 _ rb hrb)
            have q2 : w5.cell? ⟨rb, 2, none⟩ = some (.slice A2 s1.loose.length cap2) := by rw [← k2]; simp [World.cell?, hb5]
            have qf : w5.frozen? ⟨rb, 2, none⟩ = false := by rw [← kf]; simp [World.frozen?, hb5]
            have HF := Lib.hid (HP.out w5 v5 _ hl5 hg5 hloc5)
            obtain ⟨g5, cap5, rfl⟩ := ownsRow_succ4 hl5
            clear hl5 hg5 hnil5 hloc5 hb5 k2 kf hnr HP HO
            go_wp2_with fail
            go_ret
            exact ⟨rfl, HR4.out.2.trans HF.out.2 |> fun x => ⟨HF.out.1, x⟩⟩
        · obtain ⟨hv, hokc⟩ := HV.out.2.2.2 hok HB.out (fun e => by rw [fhas_eq, hu] at e; cases e.1)
          subst hv
          clear hi hu HI
          obtain ⟨hi, hK, F, vs, vl, hd, hF⟩ := HR4.out.1
          obtain ⟨-, -, k2, -⟩ := hd.cells
          have kf : w4.frozen? ⟨rb, 2, none⟩ = false := free_of hd.head 2
          obtain ⟨A2, cap2, hvl⟩ : ∃ a cc, vl = .slice a s1.loose.length cc := by
            rcases hd.loose.2 with ⟨h1, h0⟩ | ⟨g, cap, cur, h1, _⟩
            · rw [h0]; exact ⟨_, _, h1⟩
            · exact ⟨_, _, h1⟩
          subst hvl
          have hrb := lt_of_heap hd.head
          have hnr : ∀ b, (Value.slice A2 s1.loose.length cap2).ownBlock = some b → b ≠ rb := row_apart_of hd.head hd.loose (by decide)
          have hown := hd.loose
          have HP := Lib.hid (fun w2 v2 o hl hg hloc => rpushed (w2 := w2) (v2 := v2) (o := o) hi hK hd hF hokc.1 hokc.2 hl hg hloc)
          have HO := Lib.hid hown
          clear hi hK hd hF hown hokc
          obtain ⟨i0, hi0, hz0, hz1, hz2⟩ := info_parts infoRCall
          go_wp2_with (at_builtin; refine hold ?_)
          refine unhold ?_
          refine wpList_append_own_at _ rfl _ _ 49 rfl 0 81 i0 (.agg #[.int .i64 0, .string ⟨#[]⟩, .string ⟨#[]⟩, .int .i64 0]) 4 48 Tryd.underlying49 hi0 hz0 hz1 hz2 rfl (by decide) _ s1.loose.length (lcells s1.loose) rfl (World.ownsRow.alloc HO.out _) ⟨w4.heap.size, 0, none⟩ 1 1 (rcells (.app n d)) rfl rfl (cells_new _ (rcells (.app n d)) _) (rcells_one _) (by simp [maxLen]; omega) (by omega) (Nat.zero_le _) ?_
          intro v5 w5 hl5 hg5 hnil5 hloc5
          have hb5 : w5.heap[rb]? = w4.heap[rb]? := (hg5.block rb (by simp; omega) (fun e => hnr rb e.symm rfl)).trans (Below.heap_alloc w4 _ rb hrb)
          have q2 : w5.cell? ⟨rb, 2, none⟩ = some (.slice A2 s1.loose.length cap2) := by rw [← k2]; simp [World.cell?, hb5]
          have qf : w5.frozen? ⟨rb, 2, none⟩ = false := by rw [← kf]; simp [World.frozen?, hb5]
          have HF := Lib.hid (HP.out w5 v5 _ hl5 hg5 hloc5)
          obtain ⟨g5, cap5, rfl⟩ := ownsRow_succ4 hl5
          clear hl5 hg5 hnil5 hloc5 hb5 k2 kf hnr HP HO
          go_wp2_with fail
          go_ret
          exact ⟨rfl, HR4.out.2.trans HF.out.2 |> fun x => ⟨HF.out.1, x⟩⟩

set_option maxRecDepth 100000 in
set_option maxHeartbeats 4000000 in
theorem rcut_spec {K : Nat → Prop} (w : World) (rb : Nat) (s : DS) (n : Str) (k : Int) (h : Rk K w rb s) (hl : s.loose.length ≤ 100000) :
    Calls Tryd.prog 39 #[.pointer (some ⟨rb, 0, none⟩), .string (bs n), .int .i64 k] w fun e w' => e = .returned (.int .i64 (dCut s n k).1) ∧ RThen K w rb (dCut s n k).2 w' := by
  by_cases h0 : s.fuse = 0
  · have hv : dCut s n k = (60, s) := by unfold dCut; rw [if_pos h0]
    rw [hv]
    have hb := rburns_down w rb s h h0
    have H := Lib.hid h
    clear h hv h0
    go_enter Tryd.func39, Tryd.ntmps39
    go_wp2_with fail
    refine hb.mono ?_
    clear hb
    rintro e w1 ⟨rfl, rfl⟩
    go_wp2
    go_ret
    exact ⟨rfl, H.out, Keep.refl _ _⟩
  · have hb := rburns_up w rb s h h0
    have hbl : s.burn.loose.length ≤ 100000 := by rw [burn_loose]; exact hl
    have hV1 : fhas s.burn.now n = false → dCut s n k = (5, s.burn) := fun e => by rw [DS.now_burn] at e; unfold dCut; rw [if_neg h0, if_pos e]
    have hV2 : ∀ u, fget s.burn.now n = some u → k < 0 ∨ (u.length : Int) < k → dCut s n k = (2, s.burn) := fun u e e2 => by
      rw [DS.now_burn] at e
      unfold dCut; rw [if_neg h0, if_neg (by rw [fhas_of_get e]; simp), if_pos (by rw [e]; exact e2)]
    have hV3 : ∀ u, fget s.burn.now n = some u → ¬ (k < 0 ∨ (u.length : Int) < k) → dCut s n k = (0, s.burn.push (.cut n k.toNat)) ∧ (DC.cut n k.toNat).ok s.burn.now ∧ FOk s.burn.room ((DC.cut n k.toNat).run s.burn.now) := fun u e e2 => by
      have hval : dCut s n k = (0, s.burn.push (.cut n k.toNat)) := by
        rw [DS.now_burn] at e
        unfold dCut; rw [if_neg h0, if_neg (by rw [fhas_of_get e]; simp), if_neg (by rw [e]; exact e2)]
      have hi := (h.inv.cut n k)
      refine ⟨hval, ⟨fhas_of_get e, by rw [e]; simp; omega⟩, ?_⟩
      rw [hval] at hi
      have := hi.now
      rwa [DS.now_push] at this
    clear h h0 hl
    generalize s.burn = s1 at *
    generalize dCut s n k = ap at *
    have HV := Lib.hid (And.intro hV1 (And.intro hV2 hV3))
    clear hV1 hV2 hV3
    go_enter Tryd.func39, Tryd.ntmps39
    go_wp2_with fail
    refine hb.mono ?_
    clear hb
    rintro e w1 ⟨rfl, hR⟩
    have hnow := now_spec w1 rb s1 hR.1 (by omega)
    have HR1 := Lib.hid hR
    clear hR
    go_wp2_with fail
    refine hnow.mono ?_
    clear hnow
    rintro e w3 ⟨r, G, rfl, hfl, -, hB⟩
    obtain ⟨A, cap, hvr⟩ := hfl.val
    subst hvr
    have HR3 := Lib.hid (HR1.out.below hB)
    have hmany := HR3.out.1.inv.now.many
    have hfind := find_spec w3 G _ s1.now n hfl (by omega)
    have HL3 := Lib.hid hfl
    clear HR1 hB hfl
    go_wp2_with fail
    refine hfind.mono ?_
    clear hfind
    rintro e w4 ⟨⟨r, rfl, hr⟩, rfl⟩
    rcases hr with ⟨rfl, hno⟩ | ⟨i, u, rfl, hi, hu⟩
    · have hfn : fhas s1.now n = false := by rw [fhas_eq, hno]; rfl
      have hv := HV.out.1 hfn
      subst hv
      clear hno hfn
      go_wp2_with fail
      go_ret
      exact ⟨rfl, HR3.out⟩
    · obtain ⟨g, cap', he, hil, k0, k1⟩ := HL3.out.at_ hi
      simp only [Value.slice.injEq] at he
      obtain ⟨rfl, -, rfl⟩ := he
      have i1 : (0 : Int) ≤ (i : Int) := by omega
      have i2 : (i : Int) < (s1.now.length : Int) := by omega
      have hsz : (bs u).size = u.length := bs_size u
      clear hi
      by_cases hk0 : k < 0
      · have hv := HV.out.2.1 u hu (.inl hk0)
        subst hv
        clear hu
        go_wp2_with fail
        go_ret
        exact ⟨rfl, HR3.out⟩
      · by_cases hk1 : ((u.length : Nat) : Int) < k
        · have hv := HV.out.2.1 u hu (.inr hk1)
          subst hv
          clear hu
          go_wp2_with fail
          go_ret
          exact ⟨rfl, HR3.out⟩
        · obtain ⟨hv, hokc⟩ := HV.out.2.2 u hu (by omega)
          subst hv
          obtain ⟨m, rfl⟩ : ∃ m : Nat, k = m := ⟨k.toNat, by omega⟩
          rw [Int.toNat_natCast] at hokc
          simp only [Int.toNat_natCast]
          have hk2 : ((m : Nat) : Int) ≤ (u.length : Int) := by omega
          clear hu HV
          obtain ⟨hi, hK, F, vs, vl, hd, hF⟩ := HR3.out.1
          obtain ⟨-, -, k2, -⟩ := hd.cells
          have kf : w3.frozen? ⟨rb, 2, none⟩ = false := free_of hd.head 2
          obtain ⟨A2, cap2, hvl⟩ : ∃ a cc, vl = .slice a s1.loose.length cc := by
            rcases hd.loose.2 with ⟨h1, h0⟩ | ⟨g, cap, cur, h1, _⟩
            · rw [h0]; exact ⟨_, _, h1⟩
            · exact ⟨_, _, h1⟩
          subst hvl
          have hrb := lt_of_heap hd.head
          have hnr : ∀ b, (Value.slice A2 s1.loose.length cap2).ownBlock = some b → b ≠ rb := row_apart_of hd.head hd.loose (by decide)
          have hown := hd.loose
          have HP := Lib.hid (fun w2 v2 o hl hg hloc => rpushed (w2 := w2) (v2 := v2) (o := o) hi hK hd hF hokc.1 hokc.2 hl hg hloc)
          have HO := Lib.hid hown
          clear hi hK hd hF hown hokc
          obtain ⟨i0, hi0, hz0, hz1, hz2⟩ := info_parts infoRCall
          go_wp2_with (at_builtin; refine hold ?_)
          refine unhold ?_
          refine wpList_append_own_at _ rfl _ _ 49 rfl 0 81 i0 (.agg #[.int .i64 0, .string ⟨#[]⟩, .string ⟨#[]⟩, .int .i64 0]) 4 48 Tryd.underlying49 hi0 hz0 hz1 hz2 rfl (by decide) _ s1.loose.length (lcells s1.loose) rfl (World.ownsRow.alloc HO.out _) ⟨w3.heap.size, 0, none⟩ 1 1 (rcells (.cut n m)) rfl rfl (cells_new _ (rcells (.cut n m)) _) (rcells_one _) (by simp [maxLen]; omega) (by omega) (Nat.zero_le _) ?_
          intro v5 w5 hl5 hg5 hnil5 hloc5
          have hb5 : w5.heap[rb]? = w3.heap[rb]? := (hg5.block rb (by simp; omega) (fun e => hnr rb e.symm rfl)).trans (Below.heap_alloc w3 _ rb hrb)
          have q2 : w5.cell? ⟨rb, 2, none⟩ = some (.slice A2 s1.loose.length cap2) := by rw [← k2]; simp [World.cell?, hb5]
          have qf : w5.frozen? ⟨rb, 2, none⟩ = false := by rw [← kf]; simp [World.frozen?, hb5]
          have HF := Lib.hid (HP.out w5 v5 _ hl5 hg5 hloc5)
          obtain ⟨g5, cap5, rfl⟩ := ownsRow_succ4 hl5
          clear hl5 hg5 hnil5 hloc5 hb5 k2 kf hnr HP HO
          go_wp2_with fail
          go_ret
          exact ⟨rfl, HF.out.1, HR3.out.2.trans HF.out.2⟩

set_option maxRecDepth 100000 in
set_option maxHeartbeats 4000000 in
theorem rremove_spec {K : Nat → Prop} (w : World) (rb : Nat) (s : DS) (n : Str) (h : Rk K w rb s) (hl : s.loose.length ≤ 100000) :
    Calls Tryd.prog 41 #[.pointer (some ⟨rb, 0, none⟩), .string (bs n)] w fun e w' => e = .returned (.int .i64 (dRemove s n).1) ∧ RThen K w rb (dRemove s n).2 w' := by
  by_cases h0 : s.fuse = 0
  · have hv : dRemove s n = (60, s) := by unfold dRemove; rw [if_pos h0]
    rw [hv]
    have hb := rburns_down w rb s h h0
    have H := Lib.hid h
    clear h hv h0
    go_enter Tryd.func41, Tryd.ntmps41
    go_wp2_with fail
    refine hb.mono ?_
    clear hb
    rintro e w1 ⟨rfl, rfl⟩
    go_wp2
    go_ret
    exact ⟨rfl, H.out, Keep.refl _ _⟩
  · have hb := rburns_up w rb s h h0
    have hbl : s.burn.loose.length ≤ 100000 := by rw [burn_loose]; exact hl
    have hV1 : fhas s.burn.now n = false → dRemove s n = (5, s.burn) := fun e => by rw [DS.now_burn] at e; unfold dRemove; rw [if_neg h0, if_pos e]
    have hV3 : ∀ u, fget s.burn.now n = some u → dRemove s n = (0, s.burn.push (.rem n)) ∧ (DC.rem n).ok s.burn.now ∧ FOk s.burn.room ((DC.rem n).run s.burn.now) := fun u e => by
      have hval : dRemove s n = (0, s.burn.push (.rem n)) := by
        rw [DS.now_burn] at e
        unfold dRemove; rw [if_neg h0, if_neg (by rw [fhas_of_get e]; simp)]
      have hi := (h.inv.remove n)
      refine ⟨hval, ⟨fhas_of_get e, h.inv.burn.has_len (fhas_of_get e)⟩, ?_⟩
      rw [hval] at hi
      have := hi.now
      rwa [DS.now_push] at this
    clear h h0 hl
    generalize s.burn = s1 at *
    generalize dRemove s n = ap at *
    have HV := Lib.hid (And.intro hV1 hV3)
    clear hV1 hV3
    go_enter Tryd.func41, Tryd.ntmps41
    go_wp2_with fail
    refine hb.mono ?_
    clear hb
    rintro e w1 ⟨rfl, hR⟩
    have hnow := now_spec w1 rb s1 hR.1 (by omega)
    have HR1 := Lib.hid hR
    clear hR
    go_wp2_with fail
    refine hnow.mono ?_
    clear hnow
    rintro e w3 ⟨r, G, rfl, hfl, -, hB⟩
    obtain ⟨A, cap, hvr⟩ := hfl.val
    subst hvr
    have HR3 := Lib.hid (HR1.out.below hB)
    have hmany := HR3.out.1.inv.now.many
    have hfind := find_spec w3 G _ s1.now n hfl (by omega)
    have HL3 := Lib.hid hfl
    clear HR1 hB hfl
    go_wp2_with fail
    refine hfind.mono ?_
    clear hfind
    rintro e w4 ⟨⟨r, rfl, hr⟩, rfl⟩
    rcases hr with ⟨rfl, hno⟩ | ⟨i, u, rfl, hi, hu⟩
    · have hfn : fhas s1.now n = false := by rw [fhas_eq, hno]; rfl
      have hv := HV.out.1 hfn
      subst hv
      clear hno hfn
      go_wp2_with fail
      go_ret
      exact ⟨rfl, HR3.out⟩
    · obtain ⟨hv, hokc⟩ := HV.out.2 u hu
      subst hv
      clear hi hu HV
      obtain ⟨hi, hK, F, vs, vl, hd, hF⟩ := HR3.out.1
      obtain ⟨-, -, k2, -⟩ := hd.cells
      have kf : w3.frozen? ⟨rb, 2, none⟩ = false := free_of hd.head 2
      obtain ⟨A2, cap2, hvl⟩ : ∃ a cc, vl = .slice a s1.loose.length cc := by
        rcases hd.loose.2 with ⟨h1, h0⟩ | ⟨g, cap, cur, h1, _⟩
        · rw [h0]; exact ⟨_, _, h1⟩
        · exact ⟨_, _, h1⟩
      subst hvl
      have hrb := lt_of_heap hd.head
      have hnr : ∀ b, (Value.slice A2 s1.loose.length cap2).ownBlock = some b → b ≠ rb := row_apart_of hd.head hd.loose (by decide)
      have hown := hd.loose
      have HP := Lib.hid (fun w2 v2 o hl hg hloc => rpushed (w2 := w2) (v2 := v2) (o := o) hi hK hd hF hokc.1 hokc.2 hl hg hloc)
      have HO := Lib.hid hown
      clear hi hK hd hF hown hokc
      obtain ⟨i0, hi0, hz0, hz1, hz2⟩ := info_parts infoRCall
      go_wp2_with (at_builtin; refine hold ?_)
      refine unhold ?_
      refine wpList_append_own_at _ rfl _ _ 49 rfl 0 81 i0 (.agg #[.int .i64 0, .string ⟨#[]⟩, .string ⟨#[]⟩, .int .i64 0]) 4 48 Tryd.underlying49 hi0 hz0 hz1 hz2 rfl (by decide) _ s1.loose.length (lcells s1.loose) rfl (World.ownsRow.alloc HO.out _) ⟨w3.heap.size, 0, none⟩ 1 1 (rcells (.rem n)) rfl rfl (cells_new _ (rcells (.rem n)) _) (rcells_one _) (by simp [maxLen]; omega) (by omega) (Nat.zero_le _) ?_
      intro v5 w5 hl5 hg5 hnil5 hloc5
      have hb5 : w5.heap[rb]? = w3.heap[rb]? := (hg5.block rb (by simp; omega) (fun e => hnr rb e.symm rfl)).trans (Below.heap_alloc w3 _ rb hrb)
      have q2 : w5.cell? ⟨rb, 2, none⟩ = some (.slice A2 s1.loose.length cap2) := by rw [← k2]; simp [World.cell?, hb5]
      have qf : w5.frozen? ⟨rb, 2, none⟩ = false := by rw [← kf]; simp [World.frozen?, hb5]
      have HF := Lib.hid (HP.out w5 v5 _ hl5 hg5 hloc5)
      obtain ⟨g5, cap5, rfl⟩ := ownsRow_succ4 hl5
      clear hl5 hg5 hnil5 hloc5 hb5 k2 kf hnr HP HO
      go_wp2_with fail
      go_ret
      exact ⟨rfl, HF.out.1, HR3.out.2.trans HF.out.2⟩

set_option maxRecDepth 100000 in
set_option maxHeartbeats 4000000 in
theorem rrename_spec {K : Nat → Prop} (w : World) (rb : Nat) (s : DS) (n b : Str) (h : Rk K w rb s) (hbm : b.length ≤ maxLen) (hl : s.loose.length ≤ 100000) :
    Calls Tryd.prog 40 #[.pointer (some ⟨rb, 0, none⟩), .string (bs n), .string (bs b)] w fun e w' => e = .returned (.int .i64 (dRename s n b).1) ∧ RThen K w rb (dRename s n b).2 w' := by
  by_cases h0 : s.fuse = 0
  · have hv : dRename s n b = (60, s) := by unfold dRename; rw [if_pos h0]
    rw [hv]
    have hb := rburns_down w rb s h h0
    have H := Lib.hid h
    clear h hv h0
    go_enter Tryd.func40, Tryd.ntmps40
    go_wp2_with fail
    refine hb.mono ?_
    clear hb
    rintro e w1 ⟨rfl, rfl⟩
    go_wp2
    go_ret
    exact ⟨rfl, H.out, Keep.refl _ _⟩
  · have hb := rburns_up w rb s h h0
    have hbl : s.burn.loose.length ≤ 100000 := by rw [burn_loose]; exact hl
    have hV1 : fhas s.burn.now n = false → dRename s n b = (5, s.burn) := fun e => by rw [DS.now_burn] at e; unfold dRename; rw [if_neg h0, if_pos e]
    have hV2 : ∀ u, fget s.burn.now n = some u → nameOk b = false → dRename s n b = (2, s.burn) := fun u e e2 => by
      rw [DS.now_burn] at e
      unfold dRename; rw [if_neg h0, if_neg (by rw [fhas_of_get e]; simp), if_pos e2]
    have hV3 : ∀ u, fget s.burn.now n = some u → nameOk b = true → dRename s n b = (0, s.burn.push (.ren n b)) ∧ (DC.ren n b).ok s.burn.now ∧ FOk s.burn.room ((DC.ren n b).run s.burn.now) := fun u e e2 => by
      have hval : dRename s n b = (0, s.burn.push (.ren n b)) := by
        rw [DS.now_burn] at e
        unfold dRename; rw [if_neg h0, if_neg (by rw [fhas_of_get e]; simp), if_neg (by rw [e2]; simp)]
      have hi := (h.inv.rename n b)
      refine ⟨hval, ⟨fhas_of_get e, h.inv.burn.has_len (fhas_of_get e), nameOk_len e2⟩, ?_⟩
      rw [hval] at hi
      have := hi.now
      rwa [DS.now_push] at this
    clear h h0 hl
    generalize s.burn = s1 at *
    generalize dRename s n b = ap at *
    have HV := Lib.hid (And.intro hV1 (And.intro hV2 hV3))
    clear hV1 hV2 hV3
    go_enter Tryd.func40, Tryd.ntmps40
    go_wp2_with fail
    refine hb.mono ?_
    clear hb
    rintro e w1 ⟨rfl, hR⟩
    have hnow := now_spec w1 rb s1 hR.1 (by omega)
    have HR1 := Lib.hid hR
    clear hR
    go_wp2_with fail
    refine hnow.mono ?_
    clear hnow
    rintro e w3 ⟨r, G, rfl, hfl, -, hB⟩
    obtain ⟨A, cap, hvr⟩ := hfl.val
    subst hvr
    have HR3 := Lib.hid (HR1.out.below hB)
    have hmany := HR3.out.1.inv.now.many
    have hfind := find_spec w3 G _ s1.now n hfl (by omega)
    have HL3 := Lib.hid hfl
    clear HR1 hB hfl
    go_wp2_with fail
    refine hfind.mono ?_
    clear hfind
    rintro e w4 ⟨⟨r, rfl, hr⟩, rfl⟩
    rcases hr with ⟨rfl, hno⟩ | ⟨i, u, rfl, hi, hu⟩
    · have hfn : fhas s1.now n = false := by rw [fhas_eq, hno]; rfl
      have hv := HV.out.1 hfn
      subst hv
      clear hno hfn
      go_wp2_with fail
      go_ret
      exact ⟨rfl, HR3.out⟩
    · clear hi
      have hname := rname_spec w3 b hbm
      go_wp2_with fail
      refine hname.mono ?_
      clear hname
      rintro e w4 ⟨rfl, hB⟩
      have HR4 := Lib.hid (HR3.out.below hB)
      clear hB
      cases hok : nameOk b with
      | false =>
        have hv := HV.out.2.1 u hu hok
        subst hv
        clear hu
        go_wp2_with fail
        go_ret
        exact ⟨rfl, HR4.out⟩
      | true =>
        obtain ⟨hv, hokc⟩ := HV.out.2.2 u hu hok
        subst hv
        clear hu HV
        obtain ⟨hi, hK, F, vs, vl, hd, hF⟩ := HR4.out.1
        obtain ⟨-, -, k2, -⟩ := hd.cells
        have kf : w4.frozen? ⟨rb, 2, none⟩ = false := free_of hd.head 2
        obtain ⟨A2, cap2, hvl⟩ : ∃ a cc, vl = .slice a s1.loose.length cc := by
          rcases hd.loose.2 with ⟨h1, h0⟩ | ⟨g, cap, cur, h1, _⟩
          · rw [h0]; exact ⟨_, _, h1⟩
          · exact ⟨_, _, h1⟩
        subst hvl
        have hrb := lt_of_heap hd.head
        have hnr : ∀ b, (Value.slice A2 s1.loose.length cap2).ownBlock = some b → b ≠ rb := row_apart_of hd.head hd.loose (by decide)
        have hown := hd.loose
        have HP := Lib.hid (fun w2 v2 o hl hg hloc => rpushed (w2 := w2) (v2 := v2) (o := o) hi hK hd hF hokc.1 hokc.2 hl hg hloc)
        have HO := Lib.hid hown
        clear hi hK hd hF hown hokc
        obtain ⟨i0, hi0, hz0, hz1, hz2⟩ := info_parts infoRCall
        go_wp2_with (at_builtin; refine hold ?_)
        refine unhold ?_
        refine wpList_append_own_at _ rfl _ _ 49 rfl 0 81 i0 (.agg #[.int .i64 0, .string ⟨#[]⟩, .string ⟨#[]⟩, .int .i64 0]) 4 48 Tryd.underlying49 hi0 hz0 hz1 hz2 rfl (by decide) _ s1.loose.length (lcells s1.loose) rfl (World.ownsRow.alloc HO.out _) ⟨w4.heap.size, 0, none⟩ 1 1 (rcells (.ren n b)) rfl rfl (cells_new _ (rcells (.ren n b)) _) (rcells_one _) (by simp [maxLen]; omega) (by omega) (Nat.zero_le _) ?_
        intro v5 w5 hl5 hg5 hnil5 hloc5
        have hb5 : w5.heap[rb]? = w4.heap[rb]? := (hg5.block rb (by simp; omega) (fun e => hnr rb e.symm rfl)).trans (Below.heap_alloc w4 _ rb hrb)
        have q2 : w5.cell? ⟨rb, 2, none⟩ = some (.slice A2 s1.loose.length cap2) := by rw [← k2]; simp [World.cell?, hb5]
        have qf : w5.frozen? ⟨rb, 2, none⟩ = false := by rw [← kf]; simp [World.frozen?, hb5]
        have HF := Lib.hid (HP.out w5 v5 _ hl5 hg5 hloc5)
        obtain ⟨g5, cap5, rfl⟩ := ownsRow_succ4 hl5
        clear hl5 hg5 hnil5 hloc5 hb5 k2 kf hnr HP HO
        go_wp2_with fail
        go_ret
        exact ⟨rfl, HF.out.1, HR4.out.2.trans HF.out.2⟩
end Go.Proofs.YtmgnekaokcgmlaaDoor
