/- What a script that came in gives: the steps in memory. The reading of a slice of structs of one-cell fields; the same arguments read behind. -/
import Derived.Test.YtmgnekaokcgmlaaDoorSteps
import Derived.Test.YtmgnekaokcgmlaaDoorCBase
import Derived.Deep.Slices
import Derived.Deep.Fields
import Derived.WideKeyArgs
import Derived.Lib.LaidU8
set_option linter.unusedSimpArgs false
set_option linter.unusedVariables false
namespace Go.Proofs.YtmgnekaokcgmlaaDoor
open Go Go.ChangeShapes Go.WideShapes Go.Deep Go.RowKit

section
variable {H : Type} {enc : TypeId × Value → H} {P : Program} {w : World} {base : Nat} {spare : Nat → Bool} {held : Bool}
theorem open_slice_fields {t e : TypeId} {fs : Array Field} {fuel : Nat} {cs : List Value} {x : DataW H × List MemPlace} (ht : P.underlying t = some (.slice e)) (he : P.underlying e = some (.struct fs))
    (hone : oneCellFields P fs = true) (hC : P.cellsOf e = fs.size) (h : DataW.trod enc P w base spare held fuel t cs = some x) :
    (cs = [.slice none 0 0] ∧ x = (.nil, [])) ∨
    ∃ (a : Addr) (len cap m : Nat) (D : Nat → DataW H) (Pl : Nat → List MemPlace), cs = [.slice (some a) len cap] ∧ base ≤ a.block ∧ len ≤ cap ∧ cap ≤ maxLen ∧ m = (if spare a.block then cap else len) ∧
      x = (.slice ((List.range len).map D) ((List.range (m - len)).map fun j => D (len + j)), MemPlace.row a (m * fs.size) ++ (List.range m).flatMap Pl) ∧
      ∀ i, i < m → ∃ (ys : List (DataW H × List MemPlace)) (n : Nat), D i = .agg (ys.map (·.1)) ∧ Pl i = ys.flatMap (·.2) ∧ ys.length = fs.size ∧
        ∀ (j : Nat) (f : Field), fs[j]? = some f → ∃ (v : Value) (y : DataW H × List MemPlace), w.cell? (a.add (i * fs.size + j)) = some v ∧ ys[j]? = some y ∧ DataW.trod enc P w base spare held n f.type [v] = some y := by
  rcases open_slice ht h with h0 | ⟨a, len, cap, m, n, D, Pl, hcs, hb, hl, hm, hmm, hx, hi⟩
  · exact .inl h0
  · refine .inr ⟨a, len, cap, m, D, Pl, hcs, hb, hl, hm, hmm, by rw [hC] at hx; exact hx, fun i him => ?_⟩
    obtain ⟨cs', hc, ht'⟩ := hi i him
    rw [hC] at hc
    obtain ⟨ys, n', hn', hy, hlen, hyl, hf⟩ := DataW.trod_struct he ht'
    obtain ⟨_, hcl, hat⟩ := World.cells?_some hc
    simp only [Prod.mk.injEq] at hy
    refine ⟨ys, n', hy.1, hy.2, hyl, fun j f hj => ?_⟩
    obtain ⟨ho, hk⟩ := hone_of hone j f hj
    have hjl : j < fs.size := (Array.getElem?_eq_some_iff.1 hj).1
    have hcell := hat j hjl
    have hv : cs'[j]? = some (cs'[j]'(by omega)) := List.getElem?_eq_getElem (by omega)
    have h1 := hf j f hj
    rw [ho, hk] at h1
    have hone' : (cs'.drop j).take 1 = [cs'[j]'(by omega)] := by
      rw [List.drop_eq_getElem_cons (by omega)]
      rfl
    rw [hone'] at h1
    have hys : ys[j]? = some (ys[j]'(by omega)) := List.getElem?_eq_getElem (by omega)
    refine ⟨_, _, ?_, hys, h1.trans hys⟩
    rw [← Go.Deep.add_add, hcell, hv]
end

theorem list_of {α : Type} (P : Nat → α → Prop) : ∀ n : Nat, (∀ i, i < n → ∃ x, P i x) → ∃ l : List α, l.length = n ∧ ∀ (i : Nat) (x : α), l[i]? = some x → P i x
  | 0, _ => ⟨[], rfl, fun i x h => by simp at h⟩
  | n + 1, h => by
    obtain ⟨l, hl, hp⟩ := list_of P n fun i hi => h i (by omega)
    obtain ⟨x, hx⟩ := h n (by omega)
    refine ⟨l ++ [x], by simp [hl], fun i y hy => ?_⟩
    by_cases hi : i < l.length
    · rw [List.getElem?_append_left hi] at hy
      exact hp i y hy
    · rw [List.getElem?_append_right (by omega)] at hy
      have hi0 : i - l.length = 0 := by
        rcases Nat.eq_zero_or_pos (i - l.length) with h | h
        · exact h
        · rw [List.getElem?_eq_none (by simp; omega)] at hy; cases hy
      rw [hi0] at hy
      simp at hy
      subst hy
      obtain rfl : i = n := by omega
      exact hx

theorem cell_lt {w : World} {a : Addr} {v : Value} (h : w.cell? a = some v) : a.block < w.heap.size := by
  rcases Nat.lt_or_ge a.block w.heap.size with h' | h'
  · exact h'
  · unfold World.cell? at h
    rw [Array.getElem?_eq_none h'] at h
    simp at h

section
variable {H : Type} {enc : TypeId × Value → H}

/-- A step's datum. -/
def stD (x : St) : DataW H := .agg [.lit (.int .i64 x.dO), .lit (.string x.a), .lit (.string x.b), .lit (.int .i64 x.n), .lit (.int .i64 x.m)]

def Good (W : World) (a : Addr) (D : Nat → DataW H) (i : Nat) (x : St) : Prop :=
  D i = stD x ∧ (x.a.length ≤ maxLen ∧ x.b.length ≤ maxLen ∧ (Lit.int .i64 x.dO).wf = true ∧ (Lit.int .i64 x.n).wf = true ∧ (Lit.int .i64 x.m).wf = true) ∧
    a.block < W.heap.size ∧ a = ⟨a.block, a.off, none⟩ ∧ StAt W a.block (a.off + i * 5) x

set_option maxRecDepth 100000 in
theorem good_of {W : World} {base : Nat} {spare : Nat → Bool} {held : Bool} {a : Addr} {D : Nat → DataW H} {i n : Nat} {fs : Array Field} (hfs : Tryd.prog.underlying 30 = some (.struct fs))
    (h5 : fs.size = 5) (hsp : a.spot = none) (ht : (fs.toList.map (·.type)) = [3, 9, 9, 3, 3])
    (h : ∃ (ys : List (DataW H × List MemPlace)), D i = .agg (ys.map (·.1)) ∧ ys.length = fs.size ∧
        ∀ (j : Nat) (f : Field), fs[j]? = some f → ∃ (v : Value) (y : DataW H × List MemPlace), W.cell? (a.add (i * fs.size + j)) = some v ∧ ys[j]? = some y ∧ DataW.trod enc Tryd.prog W base spare held n f.type [v] = some y) :
    ∃ x, Good W a D i x := by
  obtain ⟨ys, hD, hl, hf⟩ := h
  have hty : ∀ (j : Nat) (t : TypeId), [3, 9, 9, 3, 3][j]? = some t → ∃ f, fs[j]? = some f ∧ f.type = t := fun j t e => by
    rw [← ht, List.getElem?_map] at e
    obtain ⟨f, hf', e'⟩ := Option.map_eq_some_iff.1 e
    exact ⟨f, by simpa using hf', e'⟩
  have hint : ∀ j, [3, 9, 9, 3, 3][j]? = some 3 → ∃ q : Int, W.cell? (a.add (i * 5 + j)) = some (.int .i64 q) ∧ ys[j]? = some (.lit (.int .i64 q), []) ∧ (Lit.int .i64 q).wf = true := fun j e => by
    obtain ⟨f, hf1, hf2⟩ := hty j _ e
    obtain ⟨v, y, h1, h2, h3⟩ := hf j f hf1
    rw [hf2] at h3
    obtain ⟨q, e1, rfl, hw⟩ := DataW.trod_int Tryd.underlying3 h3
    obtain rfl : v = .int .i64 q := by simpa using e1
    rw [h5] at h1
    exact ⟨q, h1, h2, hw⟩
  have hstr : ∀ j, [3, 9, 9, 3, 3][j]? = some 9 → ∃ q : Str, W.cell? (a.add (i * 5 + j)) = some (.string (bs q)) ∧ ys[j]? = some (.lit (.string q), []) ∧ q.length ≤ maxLen := fun j e => by
    obtain ⟨f, hf1, hf2⟩ := hty j _ e
    obtain ⟨v, y, h1, h2, h3⟩ := hf j f hf1
    rw [hf2] at h3
    obtain ⟨q, e1, rfl, hw⟩ := DataW.trod_string Tryd.underlying9 h3
    obtain rfl : v = .string q := by simpa using e1
    rw [h5] at h1
    obtain ⟨q', rfl⟩ := bs_of q
    rw [bs_data] at h2
    rw [bs_size] at hw
    exact ⟨q', h1, h2, hw⟩
  obtain ⟨q0, c0, y0, k0⟩ := hint 0 rfl
  obtain ⟨q1, c1, y1, k1⟩ := hstr 1 rfl
  obtain ⟨q2, c2, y2, k2⟩ := hstr 2 rfl
  obtain ⟨q3, c3, y3, k3⟩ := hint 3 rfl
  obtain ⟨q4, c4, y4, k4⟩ := hint 4 rfl
  have hys : ys = [(.lit (.int .i64 q0), []), (.lit (.string q1), []), (.lit (.string q2), []), (.lit (.int .i64 q3), []), (.lit (.int .i64 q4), [])] := by
    rw [h5] at hl
    match ys, hl with
    | [a0, a1, a2, a3, a4], _ => simp_all
  have ha : a = ⟨a.block, a.off, none⟩ := by rw [← hsp]
  refine ⟨⟨q0, q1, q2, q3, q4⟩, ?_, ⟨k1, k2, k0, k3, k4⟩, ?_, ha, ?_⟩
  · rw [hD, hys]; rfl
  · rw [ha, Addr.add_lit] at c0
    exact cell_lt (a := ⟨a.block, a.off + (i * 5 + 0), none⟩) c0
  · rw [ha, Addr.add_lit] at c0 c1 c2 c3 c4
    exact ⟨c0, c1, c2, c3, c4⟩

set_option maxRecDepth 100000 in
theorem script_cells {W : World} {base : Nat} {spare : Nat → Bool} {held : Bool} {v : Value} {d : DataW H} {p : List MemPlace} {r : Reach} {b0 : Nat}
    (hval : Value.okWide Tryd.prog W r b0 22 v) (h : DataW.Trod enc Tryd.prog W base spare held 22 v d p) :
    ∃ l : List St, (∃ A cap, v = .slice A l.length cap) ∧ (∃ sp, d = .slice (l.map stD) sp ∨ (l = [] ∧ d = .nil)) ∧
      (∀ (i : Nat) (x : St), l[i]? = some x → (x.a.length ≤ maxLen ∧ x.b.length ≤ maxLen ∧ (Lit.int .i64 x.dO).wf = true ∧ (Lit.int .i64 x.n).wf = true ∧ (Lit.int .i64 x.m).wf = true) ∧
        ∃ ab ao cap, v = .slice (some ⟨ab, ao, none⟩) l.length cap ∧ ab < W.heap.size ∧ StAt W ab (ao + i * 5) x) := by
  obtain ⟨a0, l0, c0, rfl⟩ := okWide_slice Tryd.underlying22 hval
  obtain ⟨fuel, hf⟩ := h
  rcases open_slice_fields Tryd.underlying22 Tryd.underlying30 (by kernel_rfl) (by kernel_rfl) hf with ⟨hc, hx⟩ | ⟨a, len, cap, m, D, Pl, hc, hb, hl, hm, hmm, hx, hi⟩
  · have hc' : Value.slice a0 l0 c0 = .slice none 0 0 := by simpa [Value.cells] using hc
    simp only [Prod.mk.injEq] at hx
    exact ⟨[], ⟨none, 0, hc'⟩, ⟨[], .inr ⟨rfl, hx.1⟩⟩, fun i x h => by simp at h⟩
  · have hc' : Value.slice a0 l0 c0 = .slice (some a) len cap := by simpa [Value.cells] using hc
    simp only [Prod.mk.injEq] at hx
    have hlm : len ≤ m := by
      rw [hmm]; split <;> omega
    have hsp : 0 < len → a.spot = none := fun h0 => by
      obtain ⟨ys, n, _, _, _, h4⟩ := hi 0 (by omega)
      obtain ⟨v, y, hcell, _, _⟩ := h4 0 _ rfl
      exact World.cell?_spot hcell
    obtain ⟨l, hll, hP⟩ := list_of (Good (H := H) W a D) len fun i hil => by
      obtain ⟨ys, n, h1, _, h3, h4⟩ := hi i (by omega)
      exact good_of (n := n) Tryd.underlying30 rfl (hsp (by omega)) rfl ⟨ys, h1, h3, h4⟩
    refine ⟨l, ⟨some a, cap, by rw [hll]; exact hc'⟩, ⟨(List.range (m - len)).map fun j => D (len + j), .inl ?_⟩, fun i x hx => ?_⟩
    · rw [hx.1]
      congr 1
      refine List.ext_getElem? fun j => ?_
      rw [List.getElem?_map, List.getElem?_map]
      by_cases hj : j < len
      · obtain ⟨x, hx⟩ : ∃ x, l[j]? = some x := ⟨_, List.getElem?_eq_getElem (by omega)⟩
        rw [hx, List.getElem?_range hj]
        exact congrArg some (hP j x hx).1
      · rw [List.getElem?_eq_none (by simp; omega), List.getElem?_eq_none (by omega)]; rfl
    · obtain ⟨_, h2, h3, h4, h5⟩ := hP i x hx
      exact ⟨h2, a.block, a.off, cap, by rw [hll, hc', ← h4], h3, h5⟩

theorem i64_wf {q : Int} (h : (Lit.int .i64 q).wf = true) : -9223372036854775808 ≤ q ∧ q ≤ 9223372036854775807 := by
  have e1 : IntKind.i64.min = -9223372036854775808 := by decide
  have e2 : IntKind.i64.max = 9223372036854775807 := by decide
  simp only [Lit.wf, e1, e2, Bool.and_eq_true, decide_eq_true_eq] at h
  exact h

theorem bytes_step : Tryd.prog.bytesOf 30 = 56 := by kernel_rfl
theorem weights_step (x : St) : (stD (H := H) x).weights Tryd.prog 30 = [x.a.length, x.b.length] := by
  simp [stD, DataW.weights, DataW.weightsEach, Tryd.underlying30]
theorem weights_steps : ∀ l : List St, DataW.weightsAll (H := H) Tryd.prog 30 (l.map stD) = l.flatMap fun x => [x.a.length, x.b.length]
  | [] => rfl
  | x :: l => by
    rw [List.map_cons, DataW.weightsAll, weights_step, weights_steps l]; rfl

set_option maxRecDepth 100000 in
/-- THE SCRIPT THAT CAME IN. -/
theorem script_in {W : World} {base : Nat} {spare : Nat → Bool} {held : Bool} {v : Value} {d : DataW H} {p : List MemPlace} {r : Reach} {b0 : Nat}
    (hval : Value.okWide Tryd.prog W r b0 22 v) (h : DataW.Trod enc Tryd.prog W base spare held 22 v d p)
    (hsz : ∀ n ∈ d.weights Tryd.prog 22, n ≤ 140737488351232) : ∃ l : List St, ScriptIn W W.heap.size v l := by
  obtain ⟨l, h1, ⟨sp, hd⟩, h3⟩ := script_cells hval h
  have hw : l.length * 56 ≤ 140737488351232 ∧ ∀ (i : Nat) (x : St), l[i]? = some x → x.a.length ≤ 140737488351232 ∧ x.b.length ≤ 140737488351232 := by
    rcases hd with rfl | ⟨rfl, _⟩
    · rw [DataW.weights, Tryd.underlying22] at hsz
      dsimp only at hsz
      rw [bytes_step, weights_steps] at hsz
      refine ⟨?_, fun i x hx => ?_⟩
      · have := hsz _ List.mem_cons_self
        rw [List.length_map] at this
        omega
      · have hmem : x ∈ l := List.mem_of_getElem? hx
        have ha : x.a.length ∈ l.flatMap fun x => [x.a.length, x.b.length] := List.mem_flatMap.2 ⟨x, hmem, by simp⟩
        have hb : x.b.length ∈ l.flatMap fun x => [x.a.length, x.b.length] := List.mem_flatMap.2 ⟨x, hmem, by simp⟩
        exact ⟨hsz _ (List.mem_cons_of_mem _ (List.mem_append_left _ ha)), hsz _ (List.mem_cons_of_mem _ (List.mem_append_left _ hb))⟩
    · exact ⟨by simp, fun i x hx => by simp at hx⟩
  refine ⟨l, h1, hw.1, fun i x hx => ?_, fun i x hx => (h3 i x hx).2⟩
  obtain ⟨⟨_, _, k0, k3, k4⟩, _⟩ := h3 i x hx
  exact ⟨(hw.2 i x hx).1, (hw.2 i x hx).2, (i64_wf k0).1, (i64_wf k0).2, (i64_wf k3).1, (i64_wf k3).2, (i64_wf k4).1, (i64_wf k4).2⟩

set_option maxRecDepth 100000 in
/-- Such an argument, behind a run that keeps all older blocks. -/
theorem script_later {W W' : World} {v : Value} {d : DataW H} {p : List MemPlace} {sp : Nat → Bool} (h : DataW.Trod enc Tryd.prog W 0 (fun _ => true) true 22 v d p)
    (hp : ∀ q ∈ p, q.block < W.heap.size) (hs : ∀ q ∈ p, sp q.block = true) (hb : Below W.heap.size W W') : DataW.Trod enc Tryd.prog W' 0 sp true 22 v d p :=
  Go.WideElems.Trod_stays (by kernel_rfl) (by kernel_rfl) (of_decide_eq_true (by kernel_rfl)) h (fun q hq => hb.same (hp q hq)) hs
end
end Go.Proofs.YtmgnekaokcgmlaaDoor
