/- The reference's disk: Crash. -/
import Derived.Test.YtmgnekaokcgmlaaDoorRef7
set_option linter.unusedSimpArgs false
set_option linter.unusedVariables false
namespace Go.Proofs.YtmgnekaokcgmlaaDoor
open Go Go.RowKit Go.Maps Go.WideMaps

/-- What Crash keeps of the loose calls, behind k rounds. -/
def partOf (bytes : Int) : Option DC → List DC
  | some (.app n d) => [.app n (d.take bytes.toNat)]
  | _ => []
def crL (s : DS) (calls bytes : Int) (k : Nat) : List DC :=
  if calls < 0 then [] else if (k : Int) ≤ calls then s.loose.take k else s.loose.take calls.toNat ++ partOf bytes s.loose[calls.toNat]?
theorem crL_zero (s : DS) (calls bytes : Int) : crL s calls bytes 0 = [] := by
  unfold crL
  split
  · rfl
  · rw [if_pos (by omega)]; rfl
theorem crL_low (s : DS) {calls : Int} (bytes : Int) {k : Nat} {c : DC} (h : (k : Int) < calls) (hc : s.loose[k]? = some c) : crL s calls bytes (k + 1) = crL s calls bytes k ++ [c] := by
  have h0 : ¬ calls < 0 := by omega
  have h1 : ((k + 1 : Nat) : Int) ≤ calls := by omega
  have h2 : (k : Int) ≤ calls := by omega
  unfold crL
  rw [if_neg h0, if_neg h0, if_pos h1, if_pos h2, List.take_succ_eq_append_getElem (List.getElem?_eq_some_iff.1 hc).1, (List.getElem?_eq_some_iff.1 hc).2]
theorem crL_mid (s : DS) {calls : Int} (bytes : Int) {k : Nat} {c : DC} (h : (k : Int) = calls) (hc : s.loose[k]? = some c) : crL s calls bytes (k + 1) = crL s calls bytes k ++ partOf bytes (some c) := by
  have e : calls.toNat = k := by omega
  have h0 : ¬ calls < 0 := by omega
  have h1 : ¬ ((k + 1 : Nat) : Int) ≤ calls := by omega
  have h2 : (k : Int) ≤ calls := by omega
  unfold crL
  rw [if_neg h0, if_neg h0, if_neg h1, if_pos h2, e, hc]
theorem crL_high (s : DS) {calls : Int} (bytes : Int) {k : Nat} (h : calls < (k : Int)) : crL s calls bytes (k + 1) = crL s calls bytes k := by
  unfold crL
  by_cases h0 : calls < 0
  · rw [if_pos h0, if_pos h0]
  · rw [if_neg h0, if_neg h0, if_neg (by omega), if_neg (by omega)]
theorem crL_length (s : DS) (calls bytes : Int) : ∀ k, (crL s calls bytes k).length ≤ s.loose.length + 1 := by
  intro k
  unfold crL
  split
  · simp
  split
  · rw [List.length_take]; omega
  · rw [List.length_append, List.length_take]
    have : (partOf bytes s.loose[calls.toNat]?).length ≤ 1 := by unfold partOf; split <;> simp
    omega
theorem crL_runs (s : DS) (calls bytes : Int) : DC.runs s.sure (crL s calls bytes s.loose.length) = crashFiles s calls bytes := by
  unfold crL crashFiles
  by_cases h0 : calls < 0
  · rw [if_pos h0, if_pos h0]; rfl
  · rw [if_neg h0, if_neg h0]
    by_cases h1 : (s.loose.length : Int) ≤ calls
    · rw [if_pos h1, List.take_length, List.getElem?_eq_none (by omega), List.take_of_length_le (by omega)]; rfl
    · rw [if_neg h1, runs_append]
      cases e : s.loose[calls.toNat]? with
      | none => rfl
      | some c => cases c <;> rfl
theorem Hist.takeH {room : Nat} : ∀ {fs : Files} {l : List DC} (k : Nat), Hist room fs l → Hist room fs (l.take k)
  | _, [], k, h => by rw [List.take_nil]; exact h
  | _, _ :: _, 0, h => h.1
  | fs, c :: l, k + 1, h => ⟨h.1, h.2.1, Hist.takeH (fs := c.run fs) (l := l) k h.2.2⟩
theorem crL_hist {s : DS} (h : Inv s) (calls bytes : Int) (k : Nat) : Hist s.room s.sure (crL s calls bytes k) := by
  unfold crL
  split
  · exact h.hist.first
  split
  · exact h.hist.takeH k
  · have h1 := h.hist.takeH calls.toNat
    cases e : s.loose[calls.toNat]? with
    | none => simpa [partOf] using h1
    | some c =>
      obtain ⟨h2, h3⟩ := h.hist.at e
      cases c with
      | app n d => exact h1.snoc h2 (fok_part (h.hist.take calls.toNat) h2 h3 _)
      | _ => simpa [partOf] using h1
/-- The disk in the middle of Crash. -/
def crMidS (s : DS) (calls bytes : Int) : DS := { s with loose := crL s calls bytes s.loose.length }
theorem crMidS_inv {s : DS} (h : Inv s) (calls bytes : Int) : Inv (crMidS s calls bytes) := ⟨h.room, h.fuse, h.fuse', crL_hist h calls bytes _⟩
theorem crMidS_end (s : DS) (calls bytes : Int) : { (crMidS s calls bytes).settle with fuse := -1 } = dCrash s calls bytes := by
  have : (crMidS s calls bytes).now = crashFiles s calls bytes := crL_runs s calls bytes
  simp only [DS.settle, dCrash, this]
  rfl

def LRow (B : Nat) (w : World) (v : Value) (l : List DC) : Prop := w.ownsRow B 81 4 v l.length (lcells l)
theorem LRow.empty (B : Nat) (w : World) : LRow B w (.slice none 0 0) [] := ⟨rfl, .inl ⟨rfl, rfl⟩⟩
theorem LRow.alloc {B : Nat} {w : World} {v : Value} {l : List DC} (h : LRow B w v l) (o : Obj) : (w.alloc o).ownsRow B 81 4 v l.length (lcells l) := World.ownsRow.alloc h o
theorem LRow.own {B : Nat} {w : World} {v : Value} {l : List DC} (h : LRow B w v l) : ∀ g, v.ownBlock = some g → B ≤ g ∧ g < w.heap.size := fun g hg => World.ownsRow.lt h g hg
theorem LRow.form {B : Nat} {w : World} {v : Value} {l : List DC} (h : LRow B w v l) : ∃ A c, v = .slice A l.length c := by
  rcases h.2 with ⟨h1, h0⟩ | ⟨g, cap, cur, h1, _⟩
  · exact ⟨none, 0, by rw [h1, h0]⟩
  · exact ⟨_, cap, h1⟩
theorem LRow.lower {B B' : Nat} {w : World} {v : Value} {l : List DC} (h : LRow B w v l) (hb : B' ≤ B) : LRow B' w v l := by
  obtain ⟨h1, h2⟩ := h
  rcases h2 with h2 | ⟨g, cap, cur, hv, hg, r⟩
  · exact ⟨h1, .inl h2⟩
  · exact ⟨h1, .inr ⟨g, cap, cur, hv, by omega, r⟩⟩

theorem Rk.setLoose {K : Nat → Prop} {w w2 : World} {rb : Nat} {s : DS} {v : Value} {l : List DC} (h : Rk K w rb s) (hl : LRow w.heap.size w2 v l) (hB : Below w.heap.size w w2) (hi2 : Inv { s with loose := l }) :
    RThen K w rb { s with loose := l } (w2.setCell ⟨rb, 2, none⟩ v) := by
  obtain ⟨hi, hK, F, vs, vl, hd, hF⟩ := h
  have hrb := lt_of_heap hd.head
  have hh : w2.heap[rb]? = _ := (hB.block rb hrb).trans hd.head
  have hsz : (w2.setCell ⟨rb, 2, none⟩ v).heap.size = w2.heap.size := by simp [World.setCell]
  have hs := hB.size
  have hfl : FlAt (w2.setCell ⟨rb, 2, none⟩ v) F vs s.sure :=
    (((hd.sure.ne_head hd.head).kept (w' := w2) hs fun b _ hl => hB.block b hl).kept (by omega) fun b hb _ => heap_set_other _ hb.2).more fun b hb _ => hb.1
  refine ⟨⟨hi2, fun k hk => by rw [hsz]; have := hK k hk; omega, fun b => F b ∨ w.heap.size ≤ b, vs, v, ⟨heap_set hh 2 v, hfl.more fun b hb _ => .inl hb, ?_, .inl hd.fb, fun g hg => .inr (hl.own g hg).1⟩, fun k hk hk2 => ?_⟩, ⟨hB.os, hB.tape, hB.output, by omega, fun k hk => ?_⟩⟩
  · exact ownsRow_of_block (hl.lower (Nat.zero_le _)) fun g hg => heap_set_other _ fun e => by have := (hl.own g hg).1; omega
  · rcases hk with hk | hk
    · exact hF k hk hk2
    · have := hK k hk2; omega
  · have hkn : k ≠ rb := fun e => hF rb hd.fb (e ▸ hk)
    rw [heap_set_other _ hkn]
    exact hB.block k (hK k hk)

set_option maxRecDepth 100000 in
set_option maxHeartbeats 8000000 in
theorem rcrash_spec {K : Nat → Prop} (w : World) (rb : Nat) (s : DS) (calls bytes : Int) (h : Rk K w rb s) (hl : s.loose.length ≤ 100000) (hc1 : -9223372036854775808 ≤ calls) (hc2 : calls ≤ 9223372036854775807) (hb1 : -9223372036854775808 ≤ bytes) (hb2 : bytes ≤ 9223372036854775807) :
    Calls Tryd.prog 43 #[.pointer (some ⟨rb, 0, none⟩), .int .i64 calls, .int .i64 bytes] w fun e w' => e = .returned (.tuple #[]) ∧ RThen K w rb (dCrash s calls bytes) w' := by
  have h0 := h
  obtain ⟨hi, hK, F, vs, vl, hd, hF⟩ := h
  obtain ⟨-, -, c2, -⟩ := hd.cells
  obtain ⟨av, cp, hvl⟩ : ∃ a c, vl = .slice a s.loose.length c := by
    rcases hd.loose.2 with ⟨h1, h0⟩ | ⟨g, cap, cur, h1, _⟩
    · rw [h0]; exact ⟨_, _, h1⟩
    · exact ⟨_, _, h1⟩
  subst hvl
  have hrb := lt_of_heap hd.head
  have H := Lib.hid (And.intro h0 hd)
  clear h0 hi hK hd hF
  have hcl := crL_length s calls bytes
  generalize hn : s.loose.length = n at *
  have HN := Lib.hid hn
  clear hn
  obtain ⟨i0, hi0, hz0, hz1, hz2⟩ := info_parts infoRCall
  go_enter Tryd.func43, Tryd.ntmps43
  go_wp2_with fail
  go_loopw [6, 7] (fun lv i wr => ∃ j : Nat, j ≤ n ∧ i = .int .i64 j ∧ LRow w.heap.size wr lv (crL s calls bytes j) ∧ Below w.heap.size w wr) (fun _ i _ => n - (intOf i).toNat)
  case atStart => exact ⟨0, Nat.zero_le _, rfl, by rw [crL_zero]; exact LRow.empty _ _, Below.refl _ _⟩
  case round =>
    obtain ⟨j, hj, rfl, hrow, hB⟩ := hrel
    have d2 := (hB.cell (p := ⟨rb, 2, none⟩) hrb).trans c2
    have hlen := hcl j
    by_cases hjl : j < n
    · obtain ⟨c, hc⟩ : ∃ c, s.loose[j]? = some c := ⟨_, List.getElem?_eq_getElem (by rw [HN.out]; exact hjl)⟩
      obtain ⟨g, cap', he, hgl, hcell⟩ := H.out.2.callAt hc
      rw [HN.out] at he
      simp only [Value.slice.injEq] at he
      obtain ⟨rfl, -, rfl⟩ := he
      have hcw : ∀ (k : Nat) (u : Value), (rcells c)[k]? = some u → wr.cell? ⟨g, j * 4 + k, none⟩ = some u := fun k u hk => (hB.cell (p := ⟨g, j * 4 + k, none⟩) hgl).trans (hcell k u hk)
      have HL := Lib.hid (And.intro hrow hB)
      have hsz := hB.size
      clear hrow hB hcell
      have i1 : (0 : Int) ≤ (j : Int) := by omega
      have i2 : (j : Int) < (n : Int) := by omega
      by_cases hlow : (j : Int) < calls
      · have hnext := crL_low s bytes hlow hc
        have hclose : ∀ (v5 : Value) (w5 : World), w5.ownsRow w.heap.size 81 4 v5 ((crL s calls bytes j).length + 1) (lcells (crL s calls bytes j) ++ rcells c) → LRow w.heap.size w5 v5 (crL s calls bytes (j + 1)) := fun v5 w5 h5 => by
          rw [hnext]
          show w5.ownsRow _ _ _ _ _ _
          have e : lcells [c] = rcells c := by simp [lcells]
          rw [List.length_append, lcells_append, e]
          exact h5
        have hcn := cells_new (wr.alloc (.cells (rcells c).toArray 81)) (rcells c) 81
        rw [World.size_alloc] at hcn
        have HC := Lib.hid (And.intro hcn hclose)
        clear hc hcn hclose hnext
        cases c
        all_goals
          have k0 := hcw 0 _ rfl
          have k1 := hcw 1 _ rfl
          have k2 := hcw 2 _ rfl
          have k3 := hcw 3 _ rfl
          rw [Nat.add_zero] at k0
          clear hcw
          go_wp2_with (at_builtin; refine hold ?_)
          refine unhold ?_
          refine wpList_append_own_at _ rfl _ _ 49 rfl w.heap.size 81 i0 (.agg #[.int .i64 0, .string ⟨#[]⟩, .string ⟨#[]⟩, .int .i64 0]) 4 48 Tryd.underlying49 hi0 hz0 hz1 hz2 rfl (by decide) _ (crL s calls bytes j).length (lcells (crL s calls bytes j)) rfl (World.ownsRow.alloc (World.ownsRow.alloc HL.out.1 _) _) ⟨wr.heap.size + 1, 0, none⟩ 1 1 _ rfl (rcells_length _) HC.out.1 (rcells_one _) (by simp [maxLen]; omega) (by omega) (by simp; omega) ?_
          intro v5 w5 hl5 hg5 hnil5 hloc5
          have hB5 : Below w.heap.size w w5 := ((HL.out.2.alloc hsz _).alloc (by simp; omega) _).grown hg5 (by simp; omega) (fun b hb => (HL.out.1.own b hb).1)
          have HF := Lib.hid (And.intro (HC.out.2 v5 w5 hl5) hB5)
          clear hl5 hg5 hnil5 hloc5 hB5 HC
          go_wp2_with fail
          go_roundw
          case rel => exact ⟨j + 1, by omega, by go_num, HF.out.1, HF.out.2⟩
          case measure => simp [intOf]; omega
      · by_cases hmid : (j : Int) = calls
        · subst hmid
          have hnext := crL_mid s bytes (k := j) rfl hc
          clear hc
          cases c with
          | app n' d =>
            have k0 := hcw 0 _ rfl
            have k1 := hcw 1 _ rfl
            have k2 := hcw 2 _ rfl
            have k3 := hcw 3 _ rfl
            rw [Nat.add_zero] at k0
            have hds : (bs d).size = d.length := bs_size d
            obtain ⟨m, hm, hmd, hmc⟩ : ∃ m : Nat, m ≤ d.length ∧ d.take bytes.toNat = d.take m ∧ min (max bytes 0) (d.length : Int) = (m : Int) := by
              by_cases g1 : bytes < 0
              · exact ⟨0, Nat.zero_le _, by rw [show bytes.toNat = 0 by omega], by omega⟩
              · by_cases g2 : bytes ≤ (d.length : Int)
                · exact ⟨bytes.toNat, by omega, rfl, by omega⟩
                · exact ⟨d.length, Nat.le_refl _, by rw [List.take_of_length_le (by omega), List.take_length], by omega⟩
            have hpart : partOf bytes (some (.app n' d)) = [.app n' (d.take m)] := by show [DC.app n' (d.take bytes.toNat)] = _; rw [hmd]
            rw [hpart] at hnext
            have hext : (bs d).extract 0 m = bs (d.take m) := bs_extract d m
            have hclose : ∀ (v5 : Value) (w5 : World), w5.ownsRow w.heap.size 81 4 v5 ((crL s (j : Int) bytes j).length + 1) (lcells (crL s (j : Int) bytes j) ++ rcells (.app n' (d.take m))) → LRow w.heap.size w5 v5 (crL s (j : Int) bytes (j + 1)) := fun v5 w5 h5 => by
              rw [hnext]
              show w5.ownsRow _ _ _ _ _ _
              have e : lcells [DC.app n' (d.take m)] = rcells (.app n' (d.take m)) := by simp [lcells]
              rw [List.length_append, lcells_append, e]
              exact h5
            have hcn := cells_new (wr.alloc (.cells (rcells (.app n' (d.take m))).toArray 81)) (rcells (.app n' (d.take m))) 81
            rw [World.size_alloc] at hcn
            have HC := Lib.hid (And.intro hcn hclose)
            clear hcw hcn hclose hnext hpart hmd
            go_wp2_with (at_builtin; refine hold ?_)
            refine unhold ?_
            refine wpList_append_own_at _ rfl _ _ 49 rfl w.heap.size 81 i0 (.agg #[.int .i64 0, .string ⟨#[]⟩, .string ⟨#[]⟩, .int .i64 0]) 4 48 Tryd.underlying49 hi0 hz0 hz1 hz2 rfl (by decide) _ _ _ rfl (World.ownsRow.alloc (World.ownsRow.alloc HL.out.1 _) _) ⟨wr.heap.size + 1, 0, none⟩ 1 1 _ rfl (rcells_length _) HC.out.1 (rcells_one _) (by simp [maxLen]; omega) (by omega) (by simp; omega) ?_
            intro v5 w5 hl5 hg5 hnil5 hloc5
            have hB5 : Below w.heap.size w w5 := ((HL.out.2.alloc hsz _).alloc (by simp; omega) _).grown hg5 (by simp; omega) (fun b hb => (HL.out.1.own b hb).1)
            have HF := Lib.hid (And.intro (HC.out.2 v5 w5 hl5) hB5)
            clear hl5 hg5 hnil5 hloc5 hB5 HC
            go_wp2_with fail
            go_roundw
            case rel => exact ⟨j + 1, by omega, by go_num, HF.out.1, HF.out.2⟩
            case measure => simp [intOf]; omega
          | cut n' k' =>
            have k0 := hcw 0 _ rfl
            have k1 := hcw 1 _ rfl
            have k2 := hcw 2 _ rfl
            have k3 := hcw 3 _ rfl
            rw [Nat.add_zero] at k0
            have hpart : partOf bytes (some (.cut n' k')) = [] := rfl
            rw [hpart, List.append_nil] at hnext
            have HC := Lib.hid hnext
            clear hcw hnext hpart
            have HF := Lib.hid (HL.out.2.alloc hsz)
            have HG := Lib.hid (fun o => World.ownsRow.alloc HL.out.1 o)
            go_wp2_with fail
            go_roundw
            case rel => exact ⟨j + 1, by omega, by go_num, by rw [HC.out]; exact HG.out _, HF.out _⟩
            case measure => simp [intOf]; omega
          | ren n' b' =>
            have k0 := hcw 0 _ rfl
            have k1 := hcw 1 _ rfl
            have k2 := hcw 2 _ rfl
            have k3 := hcw 3 _ rfl
            rw [Nat.add_zero] at k0
            have hpart : partOf bytes (some (.ren n' b')) = [] := rfl
            rw [hpart, List.append_nil] at hnext
            have HC := Lib.hid hnext
            clear hcw hnext hpart
            have HF := Lib.hid (HL.out.2.alloc hsz)
            have HG := Lib.hid (fun o => World.ownsRow.alloc HL.out.1 o)
            go_wp2_with fail
            go_roundw
            case rel => exact ⟨j + 1, by omega, by go_num, by rw [HC.out]; exact HG.out _, HF.out _⟩
            case measure => simp [intOf]; omega
          | rem n' =>
            have k0 := hcw 0 _ rfl
            have k1 := hcw 1 _ rfl
            have k2 := hcw 2 _ rfl
            have k3 := hcw 3 _ rfl
            rw [Nat.add_zero] at k0
            have hpart : partOf bytes (some (.rem n')) = [] := rfl
            rw [hpart, List.append_nil] at hnext
            have HC := Lib.hid hnext
            clear hcw hnext hpart
            have HF := Lib.hid (HL.out.2.alloc hsz)
            have HG := Lib.hid (fun o => World.ownsRow.alloc HL.out.1 o)
            go_wp2_with fail
            go_roundw
            case rel => exact ⟨j + 1, by omega, by go_num, by rw [HC.out]; exact HG.out _, HF.out _⟩
            case measure => simp [intOf]; omega
        · have hnext := crL_high s bytes (k := j) (by omega : calls < (j : Int))
          have HC := Lib.hid hnext
          clear hc hnext
          cases c
          all_goals
            have k0 := hcw 0 _ rfl
            have k1 := hcw 1 _ rfl
            have k2 := hcw 2 _ rfl
            have k3 := hcw 3 _ rfl
            rw [Nat.add_zero] at k0
            clear hcw
            have HF := Lib.hid (HL.out.2.alloc hsz)
            have HG := Lib.hid (fun o => World.ownsRow.alloc HL.out.1 o)
            go_wp2_with fail
            go_roundw
            case rel => exact ⟨j + 1, by omega, by go_num, by rw [HC.out]; exact HG.out _, HF.out _⟩
            case measure => simp [intOf]; omega
    · obtain rfl : j = n := by omega
      have hlo : (crMidS s calls bytes).loose.length ≤ 1000000 := by
        show (crL s calls bytes s.loose.length).length ≤ 1000000
        rw [HN.out]; omega
      have hset := H.out.1.setLoose hrow hB (by rw [← HN.out]; exact crMidS_inv H.out.1.inv calls bytes)
      rw [← HN.out] at hset
      change RThen K w rb (crMidS s calls bytes) _ at hset
      obtain ⟨A6, c6, h6⟩ := hrow.form
      subst h6
      have f2 : wr.frozen? ⟨rb, 2, none⟩ = false := (hB.frozen (p := ⟨rb, 2, none⟩) hrb).trans (free_of H.out.2.head 2)
      have hnow := now_spec _ rb _ hset.1 hlo
      obtain ⟨-, ⟨vs1, e1⟩, ⟨A7, c7, e2⟩, e3, ff, hrb3⟩ := hset.1.cellsAt
      have HS := Lib.hid hset
      have hjn : decide ((j : Int) < (j : Int)) = false := by simp
      clear hrow hB hset hlen hcl
      go_wp2_with fail
      refine hnow.mono ?_
      clear hnow
      rintro e w4 ⟨r, G, rfl, hfl, hG, hB4⟩
      have d1 := (hB4.cell (p := ⟨rb, 1, none⟩) hrb3).trans e1
      have d2' := (hB4.cell (p := ⟨rb, 2, none⟩) hrb3).trans e2
      have d3 := (hB4.cell (p := ⟨rb, 3, none⟩) hrb3).trans e3
      have g1 : w4.frozen? ⟨rb, 1, none⟩ = false := (hB4.frozen (p := ⟨rb, 1, none⟩) hrb3).trans (ff 1)
      have g2 : w4.frozen? ⟨rb, 2, none⟩ = false := (hB4.frozen (p := ⟨rb, 2, none⟩) hrb3).trans (ff 2)
      have g3 : w4.frozen? ⟨rb, 3, none⟩ = false := (hB4.frozen (p := ⟨rb, 3, none⟩) hrb3).trans (ff 3)
      have hst := HS.out.1.settled hfl hG hB4
      have hfu := hst.1.setFuse (-1) (by omega) (by omega)
      rw [crMidS_end] at hfu
      have HF := Lib.hid (And.intro hfu.1 (HS.out.2.trans (hst.2.trans hfu.2)))
      obtain ⟨A8, c8, hv8⟩ := hfl.val
      subst hv8
      clear hfl hG hB4 hst hfu ff e1 e2 e3
      go_wp2_with fail
      go_end0
      exact ⟨rfl, HF.out⟩
end Go.Proofs.YtmgnekaokcgmlaaDoor
