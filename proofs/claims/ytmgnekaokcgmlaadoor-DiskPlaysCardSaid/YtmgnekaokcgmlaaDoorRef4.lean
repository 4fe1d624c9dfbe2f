/- The reference's disk in memory; Now. -/
import Derived.Test.YtmgnekaokcgmlaaDoorRef3
set_option linter.unusedSimpArgs false
set_option linter.unusedVariables false
namespace Go.Proofs.YtmgnekaokcgmlaaDoor
open Go Go.RowKit Go.Maps Go.WideMaps

theorem done_spec (w : World) (G : Nat → Prop) (v : Value) (fs : Files) (c : DC) (room : Nat) (h : FlAt w G v fs) (hok : c.ok fs) (hf : FOk room fs) (hf2 : FOk room (c.run fs)) (hr : room ≤ 16777216) :
    Calls Tryd.prog 55 #[v, rval c] w fun e w' => ∃ r, e = .returned r ∧ FRow w.heap.size w' r (c.run fs) ∧ Below w.heap.size w w' := by
  have hn : fs.length ≤ 100000 := Nat.le_trans hf.many (by omega)
  have hold : ∀ n, ((fget fs n).getD []).length ≤ 16777216 := fun n => Nat.le_trans (getD_le_ftot fs n) (Nat.le_trans hf.tot hr)
  cases c with
  | app n d =>
    refine done_app w G v fs n d h hn ?_
    have h1 : fget ((DC.app n d).run fs) n = some ((fget fs n).getD [] ++ d) := fget_fput_same _ _ _
    have h2 := fget_le_ftot h1
    rw [List.length_append] at h2
    have := hf2.tot
    omega
  | cut n k => exact done_cut w G v fs n k h hn hok.1 hok.2 (hold n)
  | ren a b => exact done_ren w G v fs a b h hn hok.1
  | rem n => exact done_rem w G v fs n h hn hok.1

theorem rcells_length (c : DC) : (rcells c).length = 4 := by cases c <;> rfl
theorem rcells_one (c : DC) : ∀ u ∈ rcells c, u.oneCell' = true := by
  intro u hu
  cases c <;> (simp [rcells] at hu; rcases hu with rfl | rfl | rfl | rfl <;> rfl)
def lcells (l : List DC) : List Value := l.flatMap rcells
theorem lcells_append (l m : List DC) : lcells (l ++ m) = lcells l ++ lcells m := by simp [lcells]
theorem lcells_length : ∀ l : List DC, (lcells l).length = l.length * 4
  | [] => rfl
  | c :: l => by
    show (rcells c ++ lcells l).length = _
    rw [List.length_append, rcells_length, lcells_length l, List.length_cons]; omega
theorem lcells_at : ∀ {l : List DC} {i : Nat} {c : DC} {k : Nat} {u : Value}, l[i]? = some c → (rcells c)[k]? = some u → (lcells l)[i * 4 + k]? = some u
  | [], i, c, k, u, h, _ => by simp at h
  | d :: l, 0, c, k, u, h, hk => by
    obtain rfl : d = c := by simpa using h
    show (rcells d ++ lcells l)[0 * 4 + k]? = some u
    rw [Nat.zero_mul, Nat.zero_add, List.getElem?_append_left (List.getElem?_eq_some_iff.1 hk).1, hk]
  | d :: l, i + 1, c, k, u, h, hk => by
    show (rcells d ++ lcells l)[(i + 1) * 4 + k]? = some u
    rw [List.getElem?_append_right (by rw [rcells_length]; omega), rcells_length]
    have e : (i + 1) * 4 + k - 4 = i * 4 + k := by omega
    rw [e]
    exact lcells_at (by simpa using h) hk

structure RefIn (w : World) (F : Nat → Prop) (rb : Nat) (s : DS) (vs vl : Value) : Prop where
  head : w.heap[rb]? = some (.cells #[.int .i64 s.room, vs, vl, .int .i64 s.fuse] 51 (0, 0))
  sure : FlAt w F vs s.sure
  loose : w.ownsRow 0 81 4 vl s.loose.length (lcells s.loose)
  fb : F rb
  fl : ∀ g, vl.ownBlock = some g → F g
theorem RefIn.ltF {w : World} {F : Nat → Prop} {rb : Nat} {s : DS} {vs vl : Value} (h : RefIn w F rb s vs vl) : RefIn w (fun k => F k ∧ k < w.heap.size) rb s vs vl :=
  ⟨h.head, h.sure.more fun b hb hl => ⟨hb, hl⟩, h.loose, ⟨h.fb, lt_of_heap h.head⟩, fun g hg => ⟨h.fl g hg, (World.ownsRow.lt h.loose g hg).2⟩⟩
theorem RefIn.kept {w w' : World} {F : Nat → Prop} {rb : Nat} {s : DS} {vs vl : Value} (h : RefIn w F rb s vs vl) (hs : w.heap.size ≤ w'.heap.size) (hF : ∀ k, F k → k < w.heap.size → w'.heap[k]? = w.heap[k]?) : RefIn w' F rb s vs vl :=
  ⟨(hF rb h.fb (lt_of_heap h.head)).trans h.head, h.sure.kept hs hF, ownsRow_of_block h.loose fun g hg => hF g (h.fl g hg) (World.ownsRow.lt h.loose g hg).2, h.fb, h.fl⟩
theorem RefIn.cells {w : World} {F : Nat → Prop} {rb : Nat} {s : DS} {vs vl : Value} (h : RefIn w F rb s vs vl) :
    w.cell? ⟨rb, 0, none⟩ = some (.int .i64 s.room) ∧ w.cell? ⟨rb, 1, none⟩ = some vs ∧ w.cell? ⟨rb, 2, none⟩ = some vl ∧ w.cell? ⟨rb, 3, none⟩ = some (.int .i64 s.fuse) :=
  ⟨cell_of h.head 0, cell_of h.head 1, cell_of h.head 2, cell_of h.head 3⟩
theorem RefIn.callAt {w : World} {F : Nat → Prop} {rb : Nat} {s : DS} {vs vl : Value} (h : RefIn w F rb s vs vl) {i : Nat} {c : DC} (hi : s.loose[i]? = some c) :
    ∃ g cap, vl = .slice (some ⟨g, 0, none⟩) s.loose.length cap ∧ g < w.heap.size ∧ ∀ (k : Nat) (u : Value), (rcells c)[k]? = some u → w.cell? ⟨g, i * 4 + k, none⟩ = some u := by
  have hl : i < s.loose.length := (List.getElem?_eq_some_iff.1 hi).1
  rcases h.loose.2 with ⟨rfl, h0⟩ | ⟨g, cap, cur, rfl, hB, hg, _, _, _, hcur⟩
  · omega
  · refine ⟨g, cap, rfl, lt_of_heap hg, fun k u hk => ?_⟩
    have hk4 : k < 4 := by rw [← rcells_length c]; exact (List.getElem?_eq_some_iff.1 hk).1
    rw [World.ownsRow.cellAt h.loose (i * 4 + k) (by omega)]
    exact lcells_at hi hk

def Rk (K : Nat → Prop) (w : World) (rb : Nat) (s : DS) : Prop :=
  Inv s ∧ (∀ k, K k → k < w.heap.size) ∧ ∃ F vs vl, RefIn w F rb s vs vl ∧ ∀ k, F k → ¬ K k
theorem Rk.later {K L : Nat → Prop} {w w' : World} {rb : Nat} {s : DS} (h : Rk K w rb s) (hs : w.heap.size ≤ w'.heap.size) (hb : ∀ k, k < w.heap.size → ¬ K k → w'.heap[k]? = w.heap[k]?)
    (hL : ∀ k, L k → k < w'.heap.size ∧ (K k ∨ w.heap.size ≤ k)) : Rk L w' rb s := by
  obtain ⟨hi, hK, F, vs, vl, hd, hF⟩ := h
  refine ⟨hi, fun k hk => (hL k hk).1, _, vs, vl, hd.ltF.kept hs fun k hk hl => hb k hl (hF k hk.1), ?_⟩
  rintro k ⟨hk, hk'⟩ hl
  rcases (hL k hl).2 with h | h
  · exact hF k hk h
  · omega
theorem Rk.below {K : Nat → Prop} {w w' : World} {rb : Nat} {s : DS} (h : Rk K w rb s) (hb : Below w.heap.size w w') : Rk K w' rb s :=
  h.later hb.size (fun k hk _ => hb.block k hk) fun k hk => ⟨Nat.lt_of_lt_of_le (h.2.1 k hk) hb.size, .inl hk⟩
def RThen (K : Nat → Prop) (w : World) (rb : Nat) (s : DS) (w' : World) : Prop := Rk K w' rb s ∧ Keep K w w'

theorem runs_take_len {s : DS} : DC.runs s.sure (s.loose.take s.loose.length) = s.now := by rw [List.take_length]; rfl

set_option maxRecDepth 100000 in
set_option maxHeartbeats 2000000 in
theorem now_spec {K : Nat → Prop} (w : World) (rb : Nat) (s : DS) (h : Rk K w rb s) (hl : s.loose.length ≤ 1000000) :
    Calls Tryd.prog 45 #[.pointer (some ⟨rb, 0, none⟩)] w fun e w' => ∃ r G, e = .returned r ∧ FlAt w' G r s.now ∧ (∀ b, G b → ¬ K b) ∧ Below w.heap.size w w' := by
  obtain ⟨hi, hK, F, vs, vl, hd, hF⟩ := h
  obtain ⟨-, c1, c2, -⟩ := hd.cells
  obtain ⟨av, cp, hvl⟩ : ∃ a c, vl = .slice a s.loose.length c := by
    rcases hd.loose.2 with ⟨h1, h0⟩ | ⟨g, cap, cur, h1, _⟩
    · rw [h0]; exact ⟨_, _, h1⟩
    · exact ⟨_, _, h1⟩
  subst hvl
  have hfin : ∀ r w', FlAt w' (fun b => F b ∨ w.heap.size ≤ b) r s.now → Below w.heap.size w w' → (∃ r' G, Ending.returned r = .returned r' ∧ FlAt w' G r' s.now ∧ (∀ b, G b → ¬ K b) ∧ Below w.heap.size w w') := fun r w' h1 h2 =>
    ⟨r, _, rfl, h1, fun b hb hk => by
      rcases hb with hb | hb
      · exact hF b hb hk
      · have := hK b hk; omega, h2⟩
  have H := Lib.hid (And.intro hd (And.intro hi hfin))
  clear hd hi hF hK hfin
  generalize hn : s.loose.length = n at *
  have HN := Lib.hid hn
  clear hn
  go_enter Tryd.func45, Tryd.ntmps45
  go_wp2_with fail
  go_loopw [3, 4] (fun l i wr => ∃ j : Nat, j ≤ n ∧ i = .int .i64 j ∧ FlAt wr (fun b => F b ∨ w.heap.size ≤ b) l (DC.runs s.sure (s.loose.take j)) ∧ Below w.heap.size w wr) (fun _ i _ => n - (intOf i).toNat)
  case atStart => exact ⟨0, Nat.zero_le _, rfl, H.out.1.sure.more fun b hb _ => .inl hb, Below.refl _ _⟩
  case round =>
    obtain ⟨j, hj, rfl, hfl, hB⟩ := hrel
    have d2 := (hB.cell (cell_lt c2)).trans c2
    by_cases hjl : j < n
    · obtain ⟨c, hc⟩ : ∃ c, s.loose[j]? = some c := ⟨_, List.getElem?_eq_getElem (by rw [HN.out]; exact hjl)⟩
      obtain ⟨g, cap', he, hgl, hcell⟩ := H.out.1.callAt hc
      rw [HN.out] at he
      simp only [Value.slice.injEq] at he
      obtain ⟨rfl, -, rfl⟩ := he
      have hat := H.out.2.1.hist.at hc
      have hdone := done_spec wr _ _ _ c s.room hfl hat.1 (H.out.2.1.hist.take j) hat.2 H.out.2.1.room
      have hrt := runs_take_succ s.sure hc
      rw [← hrt] at hdone
      have hcw : ∀ (k : Nat) (u : Value), (rcells c)[k]? = some u → wr.cell? ⟨g, j * 4 + k, none⟩ = some u := fun k u hk => (hB.cell (p := ⟨g, j * 4 + k, none⟩) hgl).trans (hcell k u hk)
      have HL := Lib.hid (And.intro hfl hB)
      clear hfl hB hcell hat hrt hc
      have i1 : (0 : Int) ≤ (j : Int) := by omega
      have i2 : (j : Int) < (n : Int) := by omega
      cases c
      all_goals
        have k0 := hcw 0 _ rfl
        have k1 := hcw 1 _ rfl
        have k2 := hcw 2 _ rfl
        have k3 := hcw 3 _ rfl
        rw [Nat.add_zero] at k0
        clear hcw
        go_wp2_with fail
        refine hdone.mono ?_
        clear hdone
        rintro e w2 ⟨rr, rfl, hrow, hBw⟩
        have HF := Lib.hid (And.intro (hrow.flAt.more (L := fun b => F b ∨ w.heap.size ≤ b) fun b hb _ => .inr (Nat.le_trans HL.out.2.size hb)) (HL.out.2.trans (hBw.mono HL.out.2.size)))
        clear hrow hBw
        go_wp2_with fail
        go_roundw
        case rel => exact ⟨j + 1, by omega, by go_num, HF.out.1, HF.out.2⟩
        case measure => simp [intOf]; omega
    · have hje : j = s.loose.length := by rw [HN.out]; omega
      rw [hje, runs_take_len] at hfl
      have HL := Lib.hid (And.intro hfl hB)
      have hjn : decide ((j : Int) < (n : Int)) = false := by simp; omega
      clear hje hfl hB
      go_wp2_with fail
      go_ret
      exact H.out.2.2 _ _ HL.out.1 HL.out.2
end Go.Proofs.YtmgnekaokcgmlaaDoor
