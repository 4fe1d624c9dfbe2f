/- The reference's files: slices of names with bytes. Find, without. -/
import Derived.Test.YtmgnekaokcgmlaaDoorKLaw
import Derived.Laws.AppendOwnNone
import Derived.BigQuiet
set_option linter.unusedSimpArgs false
set_option linter.unusedVariables false
namespace Go.Proofs.YtmgnekaokcgmlaaDoor
open Go Go.RowKit Go.Maps Go.WideMaps

def fcells (fs : Files) : List Value := fs.flatMap fun p => [.string (bs p.1), .string (bs p.2)]
theorem fcells_nil : fcells [] = [] := rfl
theorem fcells_cons (p : Str × Str) (fs : Files) : fcells (p :: fs) = .string (bs p.1) :: .string (bs p.2) :: fcells fs := rfl
theorem fcells_append (fs gs : Files) : fcells (fs ++ gs) = fcells fs ++ fcells gs := by simp [fcells]
theorem fcells_length : ∀ fs : Files, (fcells fs).length = fs.length * 2
  | [] => rfl
  | p :: fs => by rw [fcells_cons, List.length_cons, List.length_cons, fcells_length fs, List.length_cons]; omega
theorem fcells_at : ∀ {fs : Files} {i : Nat} {p : Str × Str}, fs[i]? = some p → (fcells fs)[i * 2]? = some (.string (bs p.1)) ∧ (fcells fs)[i * 2 + 1]? = some (.string (bs p.2))
  | [], i, p, h => by simp at h
  | q :: fs, 0, p, h => by
    obtain rfl : q = p := by simpa using h
    exact ⟨rfl, rfl⟩
  | q :: fs, i + 1, p, h => by
    have := fcells_at (fs := fs) (i := i) (p := p) (by simpa using h)
    have e1 : (i + 1) * 2 = i * 2 + 1 + 1 := by omega
    rw [fcells_cons, e1]
    simpa using this

/-- A slice of these files, in blocks of G. -/
structure FlAt (w : World) (G : Nat → Prop) (v : Value) (fs : Files) : Prop where
  val : ∃ A cap, v = .slice A fs.length cap
  cells : ∀ (i : Nat) (p : Str × Str), fs[i]? = some p → ∃ g cap, v = .slice (some ⟨g, 0, none⟩) fs.length cap ∧ G g ∧ (∃ cur, w.heap[g]? = some (.cells cur 74 (0, 0))) ∧ w.cell? ⟨g, i * 2, none⟩ = some (.string (bs p.1)) ∧ w.cell? ⟨g, i * 2 + 1, none⟩ = some (.string (bs p.2))
theorem FlAt.kept {w w' : World} {G : Nat → Prop} {v : Value} {fs : Files} (h : FlAt w G v fs) (hs : w.heap.size ≤ w'.heap.size) (hb : ∀ b, G b → b < w.heap.size → w'.heap[b]? = w.heap[b]?) : FlAt w' G v fs := by
  refine ⟨h.val, fun i p hp => ?_⟩
  obtain ⟨g, cap, e1, e2, ⟨cur, e3⟩, e4, e5⟩ := h.cells i p hp
  have e := hb g e2 (lt_of_heap e3)
  exact ⟨g, cap, e1, e2, ⟨cur, e.trans e3⟩, by rw [← e4]; simp [World.cell?, e], by rw [← e5]; simp [World.cell?, e]⟩
theorem FlAt.below {w w' : World} {G : Nat → Prop} {v : Value} {fs : Files} (h : FlAt w G v fs) (hb : Below w.heap.size w w') : FlAt w' G v fs := h.kept hb.size fun b _ hl => hb.block b hl
theorem FlAt.more {w : World} {G L : Nat → Prop} {v : Value} {fs : Files} (h : FlAt w G v fs) (hL : ∀ b, G b → b < w.heap.size → L b) : FlAt w L v fs := by
  refine ⟨h.val, fun i p hp => ?_⟩
  obtain ⟨g, cap, e1, e2, ⟨cur, e3⟩, e4, e5⟩ := h.cells i p hp
  exact ⟨g, cap, e1, hL g e2 (lt_of_heap e3), ⟨cur, e3⟩, e4, e5⟩
/-- A block of another type holds no files. -/
theorem FlAt.apart {w : World} {G : Nat → Prop} {v : Value} {fs : Files} (h : FlAt w G v fs) : FlAt w (fun b => G b ∧ ∃ cur, w.heap[b]? = some (.cells cur 74 (0, 0))) v fs := by
  refine ⟨h.val, fun i p hp => ?_⟩
  obtain ⟨g, cap, e1, e2, e3, e4, e5⟩ := h.cells i p hp
  exact ⟨g, cap, e1, ⟨e2, e3⟩, e3, e4, e5⟩
theorem FlAt.of_owns {w : World} {B : Nat} {v : Value} {fs : Files} (h : w.ownsRow B 74 2 v fs.length (fcells fs)) : FlAt w (fun b => B ≤ b) v fs := by
  rcases h.2 with ⟨rfl, h0⟩ | ⟨g, cap, cur, rfl, hB, hg, _, _, _, hcur⟩
  · exact ⟨⟨none, 0, by rw [h0]⟩, fun i p hp => by rw [List.getElem?_eq_none (by omega)] at hp; cases hp⟩
  · refine ⟨⟨_, cap, rfl⟩, fun i p hp => ⟨g, cap, rfl, hB, ⟨cur, hg⟩, ?_⟩⟩
    have hi : i < fs.length := (List.getElem?_eq_some_iff.1 hp).1
    obtain ⟨e1, e2⟩ := fcells_at hp
    rw [← hcur, List.getElem?_take, if_pos (by omega)] at e1 e2
    rw [cell_of hg, cell_of hg]
    exact ⟨by simpa using e1, by simpa using e2⟩

def FindIs (fs : Files) (k : Str) (r : Int) : Prop := (r = -1 ∧ fget fs k = none) ∨ ∃ (i : Nat) (v : Str), r = i ∧ fs[i]? = some (k, v) ∧ fget fs k = some v
theorem bs_ne {a b : Str} (h : a ≠ b) : ((bs a).toList == (bs b).toList) = false := by
  rw [bs_toList, bs_toList]
  exact beq_eq_false_iff_ne.2 h
/-- The same world (a name that the walk does not look behind). -/
def Is (a b : World) : Prop := a = b
theorem fget_take_none {fs : Files} {k : Str} {i : Nat} {p : Str × Str} (h : fget (fs.take i) k = none) (hp : fs[i]? = some p) (hk : p.1 ≠ k) : fget (fs.take (i + 1)) k = none := by
  have e : fs.take (i + 1) = fs.take i ++ [p] := by
    rw [List.take_succ_eq_append_getElem (List.getElem?_eq_some_iff.1 hp).1, (List.getElem?_eq_some_iff.1 hp).2]
  rw [e]
  unfold fget at *
  rw [List.find?_append]
  have h1 : (fs.take i).find? (fun p => p.1 == k) = none := by simpa using h
  rw [h1]
  simp [hk]
theorem fget_take_some {fs : Files} {k : Str} {i : Nat} {p : Str × Str} (h : fget (fs.take i) k = none) (hp : fs[i]? = some p) (hk : p.1 = k) : fget fs k = some p.2 := by
  have e : fs = fs.take i ++ fs.drop i := (List.take_append_drop i fs).symm
  have e2 : fs.drop i = p :: fs.drop (i + 1) := by rw [List.drop_eq_getElem_cons (List.getElem?_eq_some_iff.1 hp).1, (List.getElem?_eq_some_iff.1 hp).2]
  rw [e]
  unfold fget at *
  rw [List.find?_append]
  have h1 : (fs.take i).find? (fun p => p.1 == k) = none := by simpa using h
  rw [h1, e2]
  simp [hk]

set_option maxRecDepth 100000 in
set_option maxHeartbeats 1000000 in
theorem find_spec (w : World) (G : Nat → Prop) (v : Value) (fs : Files) (k : Str) (h : FlAt w G v fs) (hn : fs.length ≤ 100000) :
    Calls Tryd.prog 53 #[v, .string (bs k)] w fun e w' => (∃ r : Int, e = .returned (.int .i64 r) ∧ FindIs fs k r) ∧ w = w' := by
  obtain ⟨A, cap, hv⟩ := h.val
  subst hv
  have H := Lib.hid h
  clear h
  go_enter Tryd.func53, Tryd.ntmps53
  go_wp2
  go_loopw [5] (fun i wr => ∃ j : Nat, j ≤ fs.length ∧ i = .int .i64 j ∧ Is w wr ∧ fget (fs.take j) k = none) (fun i _ => fs.length - (intOf i).toNat)
  case atStart => exact ⟨0, Nat.zero_le _, rfl, rfl, rfl⟩
  case round =>
    obtain ⟨j, hj, rfl, hw, hno⟩ := hrel
    obtain rfl : w = wr := hw
    by_cases hjl : j < fs.length
    · obtain ⟨p, hp⟩ : ∃ p, fs[j]? = some p := ⟨_, List.getElem?_eq_getElem hjl⟩
      obtain ⟨g, cap', he, hG, hgl, c0, c1⟩ := H.out.cells j p hp
      simp only [Value.slice.injEq] at he
      obtain ⟨rfl, -, rfl⟩ := he
      have HN := Lib.hid hno
      have HP := Lib.hid hp
      clear hno hp hG
      have i1 : (0 : Int) ≤ (j : Int) := by omega
      have i2 : (j : Int) < (fs.length : Int) := by omega
      by_cases hk : p.1 = k
      · rw [hk] at c0
        go_wp2
        go_ret
        refine ⟨⟨j, rfl, .inr ⟨j, p.2, rfl, ?_, fget_take_some HN.out HP.out hk⟩⟩, rfl⟩
        rw [HP.out, ← hk]
      · have hne := bs_ne hk
        go_wp2
        go_roundw
        case rel => exact ⟨j + 1, by omega, by go_num, rfl, fget_take_none HN.out HP.out hk⟩
        case measure => simp [intOf]; omega
    · obtain rfl : j = fs.length := by omega
      rw [List.take_length] at hno
      have HN := Lib.hid hno
      clear hno
      go_wp2
      go_ret
      exact ⟨⟨-1, rfl, .inl ⟨rfl, HN.out⟩⟩, rfl⟩

theorem infoFile : (Tryd.prog.info? 74).map (fun i => (i.zero, i.size, i.bytes)) = some (some (.agg #[.string ⟨#[]⟩, .string ⟨#[]⟩]), 2, 32) := by kernel_rfl

/-- Two cells in a new block. -/
theorem cell_two_new (w : World) (x y : Value) (t : TypeId) : ∀ (j : Nat) (u : Value), [x, y][j]? = some u → (w.alloc (.cells #[x, y] t)).cell? ((⟨w.heap.size, 0, none⟩ : Addr).add j) = some u := by
  intro j u hj
  rw [Addr.add_lit, Nat.zero_add, cell_of (heap_new w (.cells #[x, y] t)) j]
  simpa using hj
theorem fdel_take {fs : Files} {k : Str} {i : Nat} {p : Str × Str} (hp : fs[i]? = some p) : fdel (fs.take (i + 1)) k = if p.1 = k then fdel (fs.take i) k else fdel (fs.take i) k ++ [p] := by
  have e : fs.take (i + 1) = fs.take i ++ [p] := by
    rw [List.take_succ_eq_append_getElem (List.getElem?_eq_some_iff.1 hp).1, (List.getElem?_eq_some_iff.1 hp).2]
  rw [e]
  unfold fdel
  rw [List.filter_append]
  by_cases hk : p.1 = k
  · rw [if_pos hk]; simp [hk]
  · rw [if_neg hk]; simp [hk]
theorem fdel_length_le (fs : Files) (k : Str) : (fdel fs k).length ≤ fs.length := List.length_filter_le _ _

/-- A row of files that the call owns. -/
def FRow (B : Nat) (w : World) (v : Value) (fs : Files) : Prop := w.ownsRow B 74 2 v fs.length (fcells fs)
theorem FRow.alloc {B : Nat} {w : World} {v : Value} {fs : Files} (h : FRow B w v fs) (o : Obj) : (w.alloc o).ownsRow B 74 2 v fs.length (fcells fs) := World.ownsRow.alloc h o
theorem FRow.flAt {B : Nat} {w : World} {v : Value} {fs : Files} (h : FRow B w v fs) : FlAt w (fun b => B ≤ b) v fs := FlAt.of_owns h
theorem FRow.own {B : Nat} {w : World} {v : Value} {fs : Files} (h : FRow B w v fs) : ∀ g, v.ownBlock = some g → B ≤ g ∧ g < w.heap.size := fun g hg => World.ownsRow.lt h g hg
theorem FRow.empty (B : Nat) (w : World) : FRow B w (.slice none 0 0) [] := ⟨rfl, .inl ⟨rfl, rfl⟩⟩

set_option maxRecDepth 100000 in
set_option maxHeartbeats 2000000 in
theorem without_spec (w : World) (G : Nat → Prop) (v : Value) (fs : Files) (k : Str) (h : FlAt w G v fs) (hn : fs.length ≤ 100000) :
    Calls Tryd.prog 66 #[v, .string (bs k)] w fun e w' => ∃ r, e = .returned r ∧ FRow w.heap.size w' r (fdel fs k) ∧ Below w.heap.size w w' := by
  obtain ⟨A, cap, hv⟩ := h.val
  subst hv
  have H := Lib.hid h
  clear h
  obtain ⟨i0, hi0, hz0, hz1, hz2⟩ := info_parts infoFile
  go_enter Tryd.func66, Tryd.ntmps66
  go_wp2
  go_loopw [5, 6] (fun ov i wr => ∃ j : Nat, j ≤ fs.length ∧ i = .int .i64 j ∧ FRow w.heap.size wr ov (fdel (fs.take j) k) ∧ Below w.heap.size w wr) (fun _ i _ => fs.length - (intOf i).toNat)
  case atStart => exact ⟨0, Nat.zero_le _, rfl, FRow.empty _ _, Below.refl _ _⟩
  case round =>
    obtain ⟨j, hj, rfl, hrow, hB⟩ := hrel
    by_cases hjl : j < fs.length
    · obtain ⟨p, hp⟩ : ∃ p, fs[j]? = some p := ⟨_, List.getElem?_eq_getElem hjl⟩
      obtain ⟨g, cap', he, hG, hgl, c0, c1⟩ := (H.out.below hB).cells j p hp
      simp only [Value.slice.injEq] at he
      obtain ⟨rfl, -, rfl⟩ := he
      have HR := Lib.hid hrow
      have HB := Lib.hid hB
      have hdel := fdel_take (k := k) hp
      clear hrow hB hp hG hgl
      have i1 : (0 : Int) ≤ (j : Int) := by omega
      have i2 : (j : Int) < (fs.length : Int) := by omega
      by_cases hk : p.1 = k
      · rw [if_pos hk] at hdel
        rw [hk] at c0
        have HD := Lib.hid hdel
        clear hdel
        go_wp2
        go_roundw
        case rel => exact ⟨j + 1, by omega, by go_num, by rw [HD.out]; exact HR.out, HB.out⟩
        case measure => simp [intOf]; omega
      · rw [if_neg hk] at hdel
        have hne := bs_ne hk
        have hlen := fdel_length_le (fs.take j) k
        rw [List.length_take] at hlen
        have HD := Lib.hid hdel
        clear hdel
        go_wp2_with (at_builtin; refine hold ?_)
        refine unhold ?_
        refine wpList_append_own_at _ rfl _ _ 48 rfl w.heap.size 74 i0 (.agg #[.string ⟨#[]⟩, .string ⟨#[]⟩]) 2 32 Tryd.underlying48 hi0 hz0 hz1 hz2 rfl (by decide) _ (fdel (fs.take j) k).length (fcells (fdel (fs.take j) k)) rfl (HR.out.alloc _) ⟨wr.heap.size, 0, none⟩ 1 1 [_, _] rfl rfl (cell_two_new _ _ _ _) (by simp [Value.oneCell']) (by simp [maxLen]; omega) (by omega) (by have := HB.out.size; simp; omega) ?_
        intro v2 w2 hl2 hg2 hnil2 hloc2
        have hrow2 : FRow w.heap.size w2 v2 (fdel (fs.take (j + 1)) k) := by
          rw [HD.out]
          show w2.ownsRow _ _ _ _ _ _
          rw [List.length_append, fcells_append]
          exact hl2
        have hB2 : Below w.heap.size w w2 := (HB.out.alloc HB.out.size _).grown hg2 (by have := HB.out.size; simp; omega) fun g hg => (HR.out.own g hg).1
        have HR2 := Lib.hid (And.intro hrow2 hB2)
        clear hl2 hg2 hnil2 hloc2 hrow2 hB2
        go_wp2
        go_roundw
        case rel => exact ⟨j + 1, by omega, by go_num, HR2.out.1, HR2.out.2⟩
        case measure => simp [intOf]; omega
    · obtain rfl : j = fs.length := by omega
      rw [List.take_length] at hrow
      have HR := Lib.hid (And.intro hrow hB)
      clear hrow hB
      go_wp2
      go_ret
      exact ⟨_, rfl, HR.out.1, HR.out.2⟩
end Go.Proofs.YtmgnekaokcgmlaaDoor
