/- The reference's files: with. -/
import Derived.Test.YtmgnekaokcgmlaaDoorRef1
import Derived.Deep.CutRange
import Derived.Deep.CutBlock
import Derived.Test.YtmgnekaokcgmlaaDoorOpen
set_option linter.unusedSimpArgs false
set_option linter.unusedVariables false
namespace Go.Proofs.YtmgnekaokcgmlaaDoor
open Go Go.RowKit Go.Maps Go.WideMaps

/-- Where a file is put. -/
theorem fins_place (n d : Str) : ∀ (D : Files) (k : Nat), k ≤ D.length → (∀ (i : Nat) (p : Str × Str), i < k → D[i]? = some p → bytesBefore p.1 n = true) → (∀ p, D[k]? = some p → bytesBefore p.1 n = false) → (∀ p ∈ D, p.1 ≠ n) →
    fins (n, d) D = D.take k ++ (n, d) :: D.drop k
  | [], k, hk, _, _, _ => by
    obtain rfl : k = 0 := by simpa using hk
    rfl
  | q :: D, 0, _, _, h2, h3 => by
    have hq := h2 q rfl
    have hne := h3 q List.mem_cons_self
    have hb := before_total hne hq
    unfold fins
    rw [if_pos hb]
    rfl
  | q :: D, k + 1, hk, h1, h2, h3 => by
    have hq := h1 0 q (by omega) rfl
    have hnb : bytesBefore n q.1 = false := by
      cases e : bytesBefore n q.1 with
      | false => rfl
      | true => have := before_trans e hq; rw [before_irrefl] at this; cases this
    unfold fins
    rw [if_neg (by rw [hnb]; simp), fins_place n d D k (by simpa using hk) (fun i p hi hp => h1 (i + 1) p (by omega) (by simpa using hp)) (fun p hp => h2 p (by simpa using hp)) fun p hp => h3 p (List.mem_cons_of_mem _ hp)]
    rfl

theorem FRow.cellAt {B : Nat} {w : World} {g cap : Nat} {D : Files} (h : FRow B w (.slice (some ⟨g, 0, none⟩) D.length cap) D) {i : Nat} {u : Value} (hi : (fcells D)[i]? = some u) : w.cell? ⟨g, i, none⟩ = some u := by
  have hlt : i < D.length * 2 := by rw [← fcells_length]; exact (List.getElem?_eq_some_iff.1 hi).1
  rw [World.ownsRow.cellAt h i hlt, hi]
theorem FRow.front {B : Nat} {w : World} {g cap : Nat} {D : Files} (h : FRow B w (.slice (some ⟨g, 0, none⟩) D.length cap) D) (j : Nat) : ∀ (i : Nat) (u : Value), (fcells (D.take j))[i]? = some u → w.cell? ((⟨g, 0, none⟩ : Addr).add i) = some u := fun i u hi => by
  rw [Addr.add_lit, Nat.zero_add]
  refine h.cellAt ?_
  rw [← List.take_append_drop j D, fcells_append, List.getElem?_append_left (List.getElem?_eq_some_iff.1 hi).1, hi]
theorem FRow.back {B : Nat} {w : World} {g cap : Nat} {D : Files} (h : FRow B w (.slice (some ⟨g, 0, none⟩) D.length cap) D) {j : Nat} (hj : j ≤ D.length) : ∀ (i : Nat) (u : Value), (fcells (D.drop j))[i]? = some u → w.cell? ((⟨g, j * 2, none⟩ : Addr).add i) = some u := fun i u hi => by
  rw [Addr.add_lit]
  refine h.cellAt ?_
  have hl : (fcells (D.take j)).length = j * 2 := by rw [fcells_length, List.length_take, Nat.min_eq_left hj]
  rw [← List.take_append_drop j D, fcells_append, List.getElem?_append_right (by omega), hl, ← hi]
  congr 1
  omega
theorem fcells_one (D : Files) : ∀ u ∈ fcells D, u.oneCell' = true := fun u hu => by
  obtain ⟨p, _, hp⟩ := List.mem_flatMap.1 hu
  simp at hp
  rcases hp with rfl | rfl <;> rfl
theorem FRow.of_block {B : Nat} {w w' : World} {v : Value} {D : Files} (h : FRow B w v D) (hb : ∀ g, v.ownBlock = some g → w'.heap[g]? = w.heap[g]?) : FRow B w' v D := ownsRow_of_block h hb
theorem less_before_raw : ∀ a b : Str, Op.bytesLess a b = bytesBefore a b
  | [], [] => rfl
  | [], _ :: _ => rfl
  | _ :: _, [] => rfl
  | x :: a, y :: b => by
    rw [Op.bytesLess, bytesBefore, less_before_raw a b]
theorem less_before (a b : Str) : Op.bytesLess (bs a).toList (bs b).toList = bytesBefore a b := by rw [bs_toList, bs_toList, less_before_raw]

set_option maxRecDepth 100000 in
set_option maxHeartbeats 2000000 in
theorem with_spec (w : World) (G : Nat → Prop) (v : Value) (fs : Files) (n d : Str) (h : FlAt w G v fs) (hn : fs.length ≤ 100000) :
    Calls Tryd.prog 54 #[v, .agg #[.string (bs n), .string (bs d)]] w fun e w' => ∃ r, e = .returned r ∧ FRow w.heap.size w' r (fput fs n d) ∧ Below w.heap.size w w' := by
  have hwo := without_spec (w.alloc (.cells #[.string (bs n), .string (bs d)] 74)) G v fs n (h.below (Below.alloc (Below.refl _ _) (Nat.le_refl _) _)) hn
  have HL : (fdel fs n).length ≤ 100000 := Nat.le_trans (fdel_length_le fs n) hn
  have HNE : ∀ p ∈ fdel fs n, p.1 ≠ n := fun p hp => (mem_fdel.1 hp).2
  obtain ⟨i0, hi0, hz0, hz1, hz2⟩ := info_parts infoFile
  rw [show fput fs n d = fins (n, d) (fdel fs n) from rfl]
  clear h hn
  obtain ⟨D, hD⟩ : ∃ D, D = fdel fs n := ⟨_, rfl⟩
  simp only [← hD] at hwo HL HNE ⊢
  clear hD
  have HE := Lib.hid HNE
  clear HNE
  go_enter Tryd.func54, Tryd.ntmps54
  go_wp2_with fail
  refine hwo.mono ?_
  clear hwo
  rintro e w1 ⟨r, rfl, hrow, hB⟩
  have hB1 : Below (w.heap.size + 1) (w.alloc (.cells #[.string (bs n), .string (bs d)] 74)) w1 := by simpa using hB
  have hbox : w1.heap[w.heap.size]? = some (.cells #[.string (bs n), .string (bs d)] 74 (0, 0)) := (hB1.block _ (by omega)).trans (heap_new w _)
  have hrow1 : FRow (w.heap.size + 1) w1 r D := by simpa using hrow
  have HB1 := Lib.hid ((Below.alloc (Below.refl w.heap.size w) (Nat.le_refl _) (.cells #[.string (bs n), .string (bs d)] 74)).trans (hB1.mono (by omega)))
  clear hB hrow hB1
  rcases hrow1.2 with ⟨rfl, h0⟩ | ⟨g, cap, cur, rfl, hgB, hg, hcap, hcap2, hcs, hcur⟩
  · obtain rfl : D = [] := List.length_eq_zero_iff.1 h0
    clear hrow1
    have c0 : w1.cell? ⟨w.heap.size, 0, none⟩ = some (.string (bs n)) := cell_of hbox 0
    have c1 : w1.cell? ⟨w.heap.size, 1, none⟩ = some (.string (bs d)) := cell_of hbox 1
    have hs1 := HB1.out.size
    clear hbox
    go_wp2_with fail
    go_loopw [6] (fun i wr => i = .int .i64 0 ∧ Is w1 wr) (fun _ _ => 0)
    case atStart => exact ⟨rfl, rfl⟩
    case round =>
      obtain ⟨rfl, hw⟩ := hrel
      obtain rfl : w1 = wr := hw
      go_wp2_with fail
      go_quiet (fail)
      go_wp2_with (at_builtin; refine hold ?_)
      refine unhold ?_
      refine wpList_append_own_none rfl _ _ 48 rfl w.heap.size 74 i0 2 Tryd.underlying48 hi0 (.slice none 0 0) 0 [] rfl ⟨rfl, .inl ⟨rfl, rfl⟩⟩ rfl ?_
      go_wp2_with (at_builtin; refine hold ?_)
      refine unhold ?_
      refine wpList_append_own_at _ rfl _ _ 48 rfl w.heap.size 74 i0 (.agg #[.string ⟨#[]⟩, .string ⟨#[]⟩]) 2 32 Tryd.underlying48 hi0 hz0 hz1 hz2 rfl (by decide) (.slice none 0 0) 0 [] rfl ⟨rfl, .inl ⟨rfl, rfl⟩⟩ ⟨_, 0, none⟩ 1 1 [.string (bs n), .string (bs d)] rfl rfl (cell_two_new _ _ _ _) (by simp [Value.oneCell']) (by simp [maxLen]) (by omega) (by simp; omega) ?_
      intro v2 w2 hl2 hg2 hnil2 hloc2
      have hB2 : Below w.heap.size w w2 :=
        ((HB1.out.trans (⟨rfl, rfl, rfl, Nat.le_refl _, fun _ _ => rfl⟩ : Below w.heap.size w1 (w1.drewN nq))).alloc hs1 _).grown hg2 (by simp; omega) (fun g hg => by cases hg)
      have H2 := Lib.hid (And.intro hl2 hB2)
      clear hg2 hnil2 hloc2 hB2 hl2
      go_wp2_with (at_builtin; refine hold ?_)
      refine unhold ?_
      refine wpList_append_own_none rfl _ _ 48 rfl w.heap.size 74 i0 2 Tryd.underlying48 hi0 v2 1 [.string (bs n), .string (bs d)] rfl H2.out.1 rfl ?_
      go_wp2_with fail
      go_ret
      exact ⟨_, rfl, H2.out.1, H2.out.2⟩
  · have c0 : w1.cell? ⟨w.heap.size, 0, none⟩ = some (.string (bs n)) := cell_of hbox 0
    have c1 : w1.cell? ⟨w.heap.size, 1, none⟩ = some (.string (bs d)) := cell_of hbox 1
    have hs1 := HB1.out.size
    have hcells : ∀ (i : Nat) (p : Str × Str), D[i]? = some p → w1.cell? ⟨g, i * 2, none⟩ = some (.string (bs p.1)) ∧ w1.cell? ⟨g, i * 2 + 1, none⟩ = some (.string (bs p.2)) := fun i p hp => by
      obtain ⟨g', cap', he, _, _, h1, h2⟩ := hrow1.flAt.cells i p hp
      simp only [Value.slice.injEq, Option.some.injEq, Addr.mk.injEq] at he
      obtain ⟨⟨rfl, -⟩, -, -⟩ := he
      exact ⟨h1, h2⟩
    have HC := Lib.hid (And.intro hcells (And.intro hrow1 (And.intro hg (And.intro hgB hbox))))
    clear hbox hcells hrow1 hg hgB hcs hcur
    go_wp2_with fail
    go_loopw [6] (fun i wr => ∃ j : Nat, j ≤ D.length ∧ i = .int .i64 j ∧ Below w1.heap.size w1 wr ∧ ∀ (i : Nat) (p : Str × Str), i < j → D[i]? = some p → bytesBefore p.1 n = true) (fun i _ => D.length - (intOf i).toNat)
    case atStart => exact ⟨0, Nat.zero_le _, rfl, Below.refl _ _, fun i p h => by omega⟩
    case round =>
      obtain ⟨j, hj, rfl, hBw, hlow⟩ := hrel
      by_cases hjl : j < D.length
      · obtain ⟨p, hp⟩ : ∃ p, D[j]? = some p := ⟨_, List.getElem?_eq_getElem hjl⟩
        obtain ⟨e0, e1⟩ := HC.out.1 j p hp
        have hlt := lt_of_heap HC.out.2.2.1
        have d0 : wr.cell? ⟨g, j * 2, none⟩ = some (.string (bs p.1)) := (hBw.cell hlt).trans e0
        have d1 : wr.cell? ⟨w.heap.size, 0, none⟩ = some (.string (bs n)) := (hBw.cell (cell_lt c0)).trans c0
        have i1 : (0 : Int) ≤ (j : Int) := by omega
        have i2 : (j : Int) < (D.length : Int) := by omega
        have HL := Lib.hid (And.intro hlow (And.intro hBw hp))
        clear hlow hBw hp e0 e1 hlt
        cases hlb : bytesBefore p.1 n with
        | true =>
          have hls : Op.bytesLess (bs p.1).toList (bs n).toList = true := by rw [less_before]; exact hlb
          go_wp2_with fail
          go_quiet (fail)
          go_wp2_with fail
          go_roundw
          case rel =>
            refine ⟨j + 1, by omega, by go_num, HL.out.2.1.trans (⟨rfl, rfl, rfl, Nat.le_refl _, fun _ _ => rfl⟩), fun i q hi hq => ?_⟩
            by_cases hij : i = j
            · subst hij
              rw [HL.out.2.2] at hq
              cases hq
              exact hlb
            · exact HL.out.1 i q (by omega) hq
          case measure => simp [intOf]; omega
        | false =>
          have hls : Op.bytesLess (bs p.1).toList (bs n).toList = false := by rw [less_before]; exact hlb
          have hpl : ∀ q, D[j]? = some q → bytesBefore q.1 n = false := fun q hq => by
            rw [HL.out.2.2] at hq
            cases hq
            exact hlb
          have HP := Lib.hid hpl
          clear hpl hlb
          go_wp2_with fail
          go_quiet (fail)
          go_wp2_with (at_builtin; refine hold ?_)
          refine unhold ?_
          have hB2 : Below w1.heap.size w1 (wr.drewN nq) := HL.out.2.1.trans ⟨rfl, rfl, rfl, Nat.le_refl _, fun _ _ => rfl⟩
          have hr2 : FRow (w.heap.size + 1) (wr.drewN nq) (.slice (some ⟨g, 0, none⟩) D.length cap) D := HC.out.2.1.of_block fun b hb => hB2.block b (World.ownsRow.lt HC.out.2.1 b hb).2
          have hb2 : (wr.drewN nq).heap[w.heap.size]? = some (.cells #[.string (bs n), .string (bs d)] 74 (0, 0)) := (hB2.block _ (by have := lt_of_heap HC.out.2.2.2.2; omega)).trans HC.out.2.2.2.2
          refine wpList_append_own_at _ rfl _ _ 48 rfl w.heap.size 74 i0 (.agg #[.string ⟨#[]⟩, .string ⟨#[]⟩]) 2 32 Tryd.underlying48 hi0 hz0 hz1 hz2 rfl (by decide) (.slice none 0 0) 0 [] rfl ⟨rfl, .inl ⟨rfl, rfl⟩⟩ ⟨g, 0, none⟩ j cap (fcells (D.take j)) rfl (by rw [fcells_length, List.length_take, Nat.min_eq_left hj]) (hr2.front j) (fcells_one _) (by simp [maxLen]; omega) (by omega) (by have := hB2.size; omega) ?_
          intro v2 w2 hl2 hg2 hnil2 hloc2
          have hB3 : Below w1.heap.size w1 w2 := hB2.grown hg2 hB2.size (fun b hb => by cases hb)
          have hr3 : FRow (w.heap.size + 1) w2 (.slice (some ⟨g, 0, none⟩) D.length cap) D := hr2.of_block fun b hb => hg2.block b (World.ownsRow.lt hr2 b hb).2 (by simp [Value.ownBlock])
          have hb3 : w2.heap[w.heap.size]? = some (.cells #[.string (bs n), .string (bs d)] 74 (0, 0)) := (hg2.block _ (lt_of_heap hb2) (by simp [Value.ownBlock])).trans hb2
          have k0 : w2.cell? ⟨w.heap.size, 0, none⟩ = some (.string (bs n)) := cell_of hb3 0
          have k1 : w2.cell? ⟨w.heap.size, 1, none⟩ = some (.string (bs d)) := cell_of hb3 1
          have ho2 : ∀ b, v2.ownBlock = some b → w1.heap.size ≤ b := fun b hb => by
            rcases hloc2 with h | h
            · rw [h] at hb; cases hb
            · rw [h] at hb; cases hb; have := hB2.size; omega
          have H2 := Lib.hid (And.intro hl2 (And.intro hB3 (And.intro hr3 (And.intro hb3 ho2))))
          clear hg2 hnil2 hloc2 hl2 hB2 hr2 hb2 hB3 hr3 hb3 ho2
          go_wp2_with (at_builtin; refine hold ?_)
          refine unhold ?_
          refine wpList_append_own_at _ rfl _ _ 48 rfl w.heap.size 74 i0 (.agg #[.string ⟨#[]⟩, .string ⟨#[]⟩]) 2 32 Tryd.underlying48 hi0 hz0 hz1 hz2 rfl (by decide) v2 (0 + j) ([] ++ fcells (D.take j)) rfl (World.ownsRow.alloc H2.out.1 _) ⟨w2.heap.size, 0, none⟩ 1 1 [.string (bs n), .string (bs d)] rfl rfl (cell_two_new _ _ _ _) (by simp [Value.oneCell']) (by simp [maxLen]; omega) (by omega) (by have := H2.out.2.1.size; simp; omega) ?_
          intro v3 w3 hl3 hg3 hnil3 hloc3
          have hne2 : ∀ b, v2.ownBlock = some b → b ≠ g := fun b hb e => by
            have := H2.out.2.2.2.2 b hb
            have := lt_of_heap HC.out.2.2.1
            omega
          have hB3 : Below w1.heap.size w1 w3 := (H2.out.2.1.alloc H2.out.2.1.size _).grown hg3 (by have := H2.out.2.1.size; simp; omega) (fun b hb => H2.out.2.2.2.2 b hb)
          have hr3 : FRow (w.heap.size + 1) w3 (.slice (some ⟨g, 0, none⟩) D.length cap) D := HC.out.2.1.of_block fun b hb => hB3.block b (World.ownsRow.lt HC.out.2.1 b hb).2
          have ho3 : ∀ b, v3.ownBlock = some b → w1.heap.size ≤ b := fun b hb => by
            rcases hloc3 with h | h
            · rw [h] at hb; exact H2.out.2.2.2.2 b hb
            · rw [h] at hb; cases hb; have := H2.out.2.1.size; simp; omega
          have H3 := Lib.hid (And.intro hl3 (And.intro hB3 (And.intro hr3 ho3)))
          clear hg3 hnil3 hloc3 hl3 hne2 hB3 hr3 ho3 H2 k0 k1
          go_wp2_with (at_builtin; refine hold ?_)
          refine unhold ?_
          refine wpList_append_own_at _ rfl _ _ 48 rfl w.heap.size 74 i0 (.agg #[.string ⟨#[]⟩, .string ⟨#[]⟩]) 2 32 Tryd.underlying48 hi0 hz0 hz1 hz2 rfl (by decide) v3 (0 + j + 1) ([] ++ fcells (D.take j) ++ [.string (bs n), .string (bs d)]) rfl H3.out.1 ⟨g, j * 2, none⟩ (D.length - j) (cap - j) (fcells (D.drop j)) rfl (by rw [fcells_length, List.length_drop]) (H3.out.2.2.1.back hj) (fcells_one _) (by simp [maxLen]; omega) (by omega) (by have := H3.out.2.1.size; omega) ?_
          intro v4 w4 hl4 hg4 hnil4 hloc4
          have hB4 : Below w1.heap.size w1 w4 := H3.out.2.1.grown hg4 H3.out.2.1.size (fun b hb => H3.out.2.2.2 b hb)
          have hfin : FRow w.heap.size w4 v4 (fins (n, d) D) := by
            rw [fins_place n d D j hj HL.out.1 HP.out HE.out]
            show w4.ownsRow _ _ _ _ _ _
            have e1 : fcells (D.take j ++ (n, d) :: D.drop j) = [] ++ fcells (D.take j) ++ [.string (bs n), .string (bs d)] ++ fcells (D.drop j) := by
              rw [fcells_append, fcells_cons]; simp
            have e2 : (D.take j ++ (n, d) :: D.drop j).length = 0 + j + 1 + (D.length - j) := by
              rw [List.length_append, List.length_cons, List.length_take, List.length_drop, Nat.min_eq_left hj]; omega
            rw [e1, e2]
            exact hl4
          have H4 := Lib.hid (And.intro hfin (HB1.out.trans (hB4.mono hs1)))
          clear hg4 hnil4 hloc4 hl4 hB4 hfin
          go_wp2_with fail
          go_ret
          exact ⟨_, rfl, H4.out.1, H4.out.2⟩
      · have hje : j = D.length := by omega
        have hpl : ∀ q, D[j]? = some q → bytesBefore q.1 n = false := fun q hq => by
          rw [List.getElem?_eq_none (by omega)] at hq
          cases hq
        have HP := Lib.hid hpl
        have HL := Lib.hid (And.intro hlow (And.intro hBw hpl))
        clear hpl hlow hBw
        have hd1 : decide ((j : Int) < (D.length : Int)) = false := by simp; omega
        clear hje
        rcases Nat.lt_or_ge j cap with hcj | hcj
        · go_wp2_with fail
          go_quiet (fail)
          go_wp2_with (at_builtin; refine hold ?_)
          refine unhold ?_
          have hB2 : Below w1.heap.size w1 (wr.drewN nq) := HL.out.2.1.trans ⟨rfl, rfl, rfl, Nat.le_refl _, fun _ _ => rfl⟩
          have hr2 : FRow (w.heap.size + 1) (wr.drewN nq) (.slice (some ⟨g, 0, none⟩) D.length cap) D := HC.out.2.1.of_block fun b hb => hB2.block b (World.ownsRow.lt HC.out.2.1 b hb).2
          have hb2 : (wr.drewN nq).heap[w.heap.size]? = some (.cells #[.string (bs n), .string (bs d)] 74 (0, 0)) := (hB2.block _ (by have := lt_of_heap HC.out.2.2.2.2; omega)).trans HC.out.2.2.2.2
          refine wpList_append_own_at _ rfl _ _ 48 rfl w.heap.size 74 i0 (.agg #[.string ⟨#[]⟩, .string ⟨#[]⟩]) 2 32 Tryd.underlying48 hi0 hz0 hz1 hz2 rfl (by decide) (.slice none 0 0) 0 [] rfl ⟨rfl, .inl ⟨rfl, rfl⟩⟩ ⟨g, 0, none⟩ j cap (fcells (D.take j)) rfl (by rw [fcells_length, List.length_take, Nat.min_eq_left hj]) (hr2.front j) (fcells_one _) (by simp [maxLen]; omega) (by omega) (by have := hB2.size; omega) ?_
          intro v2 w2 hl2 hg2 hnil2 hloc2
          have hB3 : Below w1.heap.size w1 w2 := hB2.grown hg2 hB2.size (fun b hb => by cases hb)
          have hr3 : FRow (w.heap.size + 1) w2 (.slice (some ⟨g, 0, none⟩) D.length cap) D := hr2.of_block fun b hb => hg2.block b (World.ownsRow.lt hr2 b hb).2 (by simp [Value.ownBlock])
          have hb3 : w2.heap[w.heap.size]? = some (.cells #[.string (bs n), .string (bs d)] 74 (0, 0)) := (hg2.block _ (lt_of_heap hb2) (by simp [Value.ownBlock])).trans hb2
          have k0 : w2.cell? ⟨w.heap.size, 0, none⟩ = some (.string (bs n)) := cell_of hb3 0
          have k1 : w2.cell? ⟨w.heap.size, 1, none⟩ = some (.string (bs d)) := cell_of hb3 1
          have ho2 : ∀ b, v2.ownBlock = some b → w1.heap.size ≤ b := fun b hb => by
            rcases hloc2 with h | h
            · rw [h] at hb; cases hb
            · rw [h] at hb; cases hb; have := hB2.size; omega
          have H2 := Lib.hid (And.intro hl2 (And.intro hB3 (And.intro hr3 (And.intro hb3 ho2))))
          clear hg2 hnil2 hloc2 hl2 hB2 hr2 hb2 hB3 hr3 hb3 ho2
          go_wp2_with (at_builtin; refine hold ?_)
          refine unhold ?_
          refine wpList_append_own_at _ rfl _ _ 48 rfl w.heap.size 74 i0 (.agg #[.string ⟨#[]⟩, .string ⟨#[]⟩]) 2 32 Tryd.underlying48 hi0 hz0 hz1 hz2 rfl (by decide) v2 (0 + j) ([] ++ fcells (D.take j)) rfl (World.ownsRow.alloc H2.out.1 _) ⟨w2.heap.size, 0, none⟩ 1 1 [.string (bs n), .string (bs d)] rfl rfl (cell_two_new _ _ _ _) (by simp [Value.oneCell']) (by simp [maxLen]; omega) (by omega) (by have := H2.out.2.1.size; simp; omega) ?_
          intro v3 w3 hl3 hg3 hnil3 hloc3
          have hne2 : ∀ b, v2.ownBlock = some b → b ≠ g := fun b hb e => by
            have := H2.out.2.2.2.2 b hb
            have := lt_of_heap HC.out.2.2.1
            omega
          have hB3 : Below w1.heap.size w1 w3 := (H2.out.2.1.alloc H2.out.2.1.size _).grown hg3 (by have := H2.out.2.1.size; simp; omega) (fun b hb => H2.out.2.2.2.2 b hb)
          have hr3 : FRow (w.heap.size + 1) w3 (.slice (some ⟨g, 0, none⟩) D.length cap) D := HC.out.2.1.of_block fun b hb => hB3.block b (World.ownsRow.lt HC.out.2.1 b hb).2
          have ho3 : ∀ b, v3.ownBlock = some b → w1.heap.size ≤ b := fun b hb => by
            rcases hloc3 with h | h
            · rw [h] at hb; exact H2.out.2.2.2.2 b hb
            · rw [h] at hb; cases hb; have := H2.out.2.1.size; simp; omega
          have H3 := Lib.hid (And.intro hl3 (And.intro hB3 (And.intro hr3 ho3)))
          clear hg3 hnil3 hloc3 hl3 hne2 hB3 hr3 ho3 H2 k0 k1
          go_wp2_with (at_builtin; refine hold ?_)
          refine unhold ?_
          refine wpList_append_own_at _ rfl _ _ 48 rfl w.heap.size 74 i0 (.agg #[.string ⟨#[]⟩, .string ⟨#[]⟩]) 2 32 Tryd.underlying48 hi0 hz0 hz1 hz2 rfl (by decide) v3 (0 + j + 1) ([] ++ fcells (D.take j) ++ [.string (bs n), .string (bs d)]) rfl H3.out.1 ⟨g, j * 2, none⟩ (D.length - j) (cap - j) (fcells (D.drop j)) rfl (by rw [fcells_length, List.length_drop]) (H3.out.2.2.1.back hj) (fcells_one _) (by simp [maxLen]; omega) (by omega) (by have := H3.out.2.1.size; omega) ?_
          intro v4 w4 hl4 hg4 hnil4 hloc4
          have hB4 : Below w1.heap.size w1 w4 := H3.out.2.1.grown hg4 H3.out.2.1.size (fun b hb => H3.out.2.2.2 b hb)
          have hfin : FRow w.heap.size w4 v4 (fins (n, d) D) := by
            rw [fins_place n d D j hj HL.out.1 HP.out HE.out]
            show w4.ownsRow _ _ _ _ _ _
            have e1 : fcells (D.take j ++ (n, d) :: D.drop j) = [] ++ fcells (D.take j) ++ [.string (bs n), .string (bs d)] ++ fcells (D.drop j) := by
              rw [fcells_append, fcells_cons]; simp
            have e2 : (D.take j ++ (n, d) :: D.drop j).length = 0 + j + 1 + (D.length - j) := by
              rw [List.length_append, List.length_cons, List.length_take, List.length_drop, Nat.min_eq_left hj]; omega
            rw [e1, e2]
            exact hl4
          have H4 := Lib.hid (And.intro hfin (HB1.out.trans (hB4.mono hs1)))
          clear hg4 hnil4 hloc4 hl4 hB4 hfin
          go_wp2_with fail
          go_ret
          exact ⟨_, rfl, H4.out.1, H4.out.2⟩
        · obtain rfl : j = cap := by omega
          go_wp2_with fail
          go_quiet (fail)
          go_wp2_with (at_builtin; refine hold ?_)
          refine unhold ?_
          have hB2 : Below w1.heap.size w1 (wr.drewN nq) := HL.out.2.1.trans ⟨rfl, rfl, rfl, Nat.le_refl _, fun _ _ => rfl⟩
          have hr2 : FRow (w.heap.size + 1) (wr.drewN nq) (.slice (some ⟨g, 0, none⟩) D.length j) D := HC.out.2.1.of_block fun b hb => hB2.block b (World.ownsRow.lt HC.out.2.1 b hb).2
          have hb2 : (wr.drewN nq).heap[w.heap.size]? = some (.cells #[.string (bs n), .string (bs d)] 74 (0, 0)) := (hB2.block _ (by have := lt_of_heap HC.out.2.2.2.2; omega)).trans HC.out.2.2.2.2
          refine wpList_append_own_at _ rfl _ _ 48 rfl w.heap.size 74 i0 (.agg #[.string ⟨#[]⟩, .string ⟨#[]⟩]) 2 32 Tryd.underlying48 hi0 hz0 hz1 hz2 rfl (by decide) (.slice none 0 0) 0 [] rfl ⟨rfl, .inl ⟨rfl, rfl⟩⟩ ⟨g, 0, none⟩ j j (fcells (D.take j)) rfl (by rw [fcells_length, List.length_take, Nat.min_eq_left hj]) (hr2.front j) (fcells_one _) (by simp [maxLen]; omega) (by omega) (by have := hB2.size; omega) ?_
          intro v2 w2 hl2 hg2 hnil2 hloc2
          have hB3 : Below w1.heap.size w1 w2 := hB2.grown hg2 hB2.size (fun b hb => by cases hb)
          have hr3 : FRow (w.heap.size + 1) w2 (.slice (some ⟨g, 0, none⟩) D.length j) D := hr2.of_block fun b hb => hg2.block b (World.ownsRow.lt hr2 b hb).2 (by simp [Value.ownBlock])
          have hb3 : w2.heap[w.heap.size]? = some (.cells #[.string (bs n), .string (bs d)] 74 (0, 0)) := (hg2.block _ (lt_of_heap hb2) (by simp [Value.ownBlock])).trans hb2
          have k0 : w2.cell? ⟨w.heap.size, 0, none⟩ = some (.string (bs n)) := cell_of hb3 0
          have k1 : w2.cell? ⟨w.heap.size, 1, none⟩ = some (.string (bs d)) := cell_of hb3 1
          have ho2 : ∀ b, v2.ownBlock = some b → w1.heap.size ≤ b := fun b hb => by
            rcases hloc2 with h | h
            · rw [h] at hb; cases hb
            · rw [h] at hb; cases hb; have := hB2.size; omega
          have H2 := Lib.hid (And.intro hl2 (And.intro hB3 (And.intro hr3 (And.intro hb3 ho2))))
          clear hg2 hnil2 hloc2 hl2 hB2 hr2 hb2 hB3 hr3 hb3 ho2
          go_wp2_with (at_builtin; refine hold ?_)
          refine unhold ?_
          refine wpList_append_own_at _ rfl _ _ 48 rfl w.heap.size 74 i0 (.agg #[.string ⟨#[]⟩, .string ⟨#[]⟩]) 2 32 Tryd.underlying48 hi0 hz0 hz1 hz2 rfl (by decide) v2 (0 + j) ([] ++ fcells (D.take j)) rfl (World.ownsRow.alloc H2.out.1 _) ⟨w2.heap.size, 0, none⟩ 1 1 [.string (bs n), .string (bs d)] rfl rfl (cell_two_new _ _ _ _) (by simp [Value.oneCell']) (by simp [maxLen]; omega) (by omega) (by have := H2.out.2.1.size; simp; omega) ?_
          intro v3 w3 hl3 hg3 hnil3 hloc3
          have hne2 : ∀ b, v2.ownBlock = some b → b ≠ g := fun b hb e => by
            have := H2.out.2.2.2.2 b hb
            have := lt_of_heap HC.out.2.2.1
            omega
          have hB3 : Below w1.heap.size w1 w3 := (H2.out.2.1.alloc H2.out.2.1.size _).grown hg3 (by have := H2.out.2.1.size; simp; omega) (fun b hb => H2.out.2.2.2.2 b hb)
          have hr3 : FRow (w.heap.size + 1) w3 (.slice (some ⟨g, 0, none⟩) D.length j) D := HC.out.2.1.of_block fun b hb => hB3.block b (World.ownsRow.lt HC.out.2.1 b hb).2
          have ho3 : ∀ b, v3.ownBlock = some b → w1.heap.size ≤ b := fun b hb => by
            rcases hloc3 with h | h
            · rw [h] at hb; exact H2.out.2.2.2.2 b hb
            · rw [h] at hb; cases hb; have := H2.out.2.1.size; simp; omega
          have H3 := Lib.hid (And.intro hl3 (And.intro hB3 (And.intro hr3 ho3)))
          clear hg3 hnil3 hloc3 hl3 hne2 hB3 hr3 ho3 H2 k0 k1
          go_wp2_with (at_builtin; refine hold ?_)
          refine unhold ?_
          refine wpList_append_own_at _ rfl _ _ 48 rfl w.heap.size 74 i0 (.agg #[.string ⟨#[]⟩, .string ⟨#[]⟩]) 2 32 Tryd.underlying48 hi0 hz0 hz1 hz2 rfl (by decide) v3 (0 + j + 1) ([] ++ fcells (D.take j) ++ [.string (bs n), .string (bs d)]) rfl H3.out.1 ⟨g, 0, none⟩ 0 0 [] rfl rfl (fun i u h => by simp at h) (fun u h => by simp at h) (by simp [maxLen]; omega) (by omega) (by have := H3.out.2.1.size; omega) ?_
          intro v4 w4 hl4 hg4 hnil4 hloc4
          have hB4 : Below w1.heap.size w1 w4 := H3.out.2.1.grown hg4 H3.out.2.1.size (fun b hb => H3.out.2.2.2 b hb)
          have hfin : FRow w.heap.size w4 v4 (fins (n, d) D) := by
            rw [fins_place n d D j hj HL.out.1 HP.out HE.out]
            show w4.ownsRow _ _ _ _ _ _
            have e1 : fcells (D.take j ++ (n, d) :: D.drop j) = [] ++ fcells (D.take j) ++ [.string (bs n), .string (bs d)] ++ [] := by
              rw [fcells_append, fcells_cons, List.drop_of_length_le (by omega), fcells_nil]; simp
            have e2 : (D.take j ++ (n, d) :: D.drop j).length = 0 + j + 1 + 0 := by
              rw [List.length_append, List.length_cons, List.length_take, List.length_drop, Nat.min_eq_left hj]; omega
            rw [e1, e2]
            exact hl4
          have H4 := Lib.hid (And.intro hfin (HB1.out.trans (hB4.mono hs1)))
          clear hg4 hnil4 hloc4 hl4 hB4 hfin
          go_wp2_with fail
          go_ret
          exact ⟨_, rfl, H4.out.1, H4.out.2⟩
end Go.Proofs.YtmgnekaokcgmlaaDoor
