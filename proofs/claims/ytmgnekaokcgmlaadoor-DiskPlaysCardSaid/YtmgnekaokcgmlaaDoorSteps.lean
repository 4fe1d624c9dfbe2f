/- A script that came in: its steps in memory; Heavy. -/
import Derived.Test.YtmgnekaokcgmlaaDoorNil
set_option linter.unusedSimpArgs false
set_option linter.unusedVariables false
namespace Go.Proofs.YtmgnekaokcgmlaaDoor
open Go Go.RowKit Go.Maps Go.WideMaps

structure St where
  dO : Int
  a : Str
  b : Str
  n : Int
  m : Int
structure St.Ok (x : St) : Prop where
  a : x.a.length ≤ 140737488351232
  b : x.b.length ≤ 140737488351232
  d1 : -9223372036854775808 ≤ x.dO
  d2 : x.dO ≤ 9223372036854775807
  n1 : -9223372036854775808 ≤ x.n
  n2 : x.n ≤ 9223372036854775807
  m1 : -9223372036854775808 ≤ x.m
  m2 : x.m ≤ 9223372036854775807
/-- The cells of one step. -/
structure StAt (w : World) (ab o : Nat) (x : St) : Prop where
  c0 : w.cell? ⟨ab, o, none⟩ = some (.int .i64 x.dO)
  c1 : w.cell? ⟨ab, o + 1, none⟩ = some (.string (bs x.a))
  c2 : w.cell? ⟨ab, o + 2, none⟩ = some (.string (bs x.b))
  c3 : w.cell? ⟨ab, o + 3, none⟩ = some (.int .i64 x.n)
  c4 : w.cell? ⟨ab, o + 4, none⟩ = some (.int .i64 x.m)
structure ScriptIn (w : World) (B : Nat) (v : Value) (l : List St) : Prop where
  val : ∃ A cap, v = .slice A l.length cap
  small : l.length * 56 ≤ 140737488351232
  ok : ∀ (i : Nat) (x : St), l[i]? = some x → x.Ok
  cells : ∀ (i : Nat) (x : St), l[i]? = some x → ∃ ab ao cap, v = .slice (some ⟨ab, ao, none⟩) l.length cap ∧ ab < B ∧ StAt w ab (ao + i * 5) x
theorem StAt.of_block {w w' : World} {ab o : Nat} {x : St} (h : StAt w ab o x) (hb : w'.heap[ab]? = w.heap[ab]?) : StAt w' ab o x := by
  have e : ∀ j, w'.cell? ⟨ab, j, none⟩ = w.cell? ⟨ab, j, none⟩ := fun j => by simp [World.cell?, hb]
  exact ⟨(e _).trans h.c0, (e _).trans h.c1, (e _).trans h.c2, (e _).trans h.c3, (e _).trans h.c4⟩
theorem ScriptIn.later {w w' : World} {B : Nat} {v : Value} {l : List St} (h : ScriptIn w B v l) (hb : ∀ k : Nat, k < B → w'.heap[k]? = w.heap[k]?) : ScriptIn w' B v l :=
  ⟨h.val, h.small, h.ok, fun i x hx => (h.cells i x hx).imp fun ab h => h.imp fun ao h => h.imp fun cap h => ⟨h.1, h.2.1, h.2.2.of_block (hb ab h.2.1)⟩⟩

/-- What Heavy counts. -/
def weigh : List St → Nat
  | [] => 0
  | x :: l => x.a.length + x.b.length + weigh l
theorem weigh_snoc : ∀ (l : List St) (x : St), weigh (l ++ [x]) = weigh l + (x.a.length + x.b.length)
  | [], x => by simp [weigh]
  | y :: l, x => by simp [weigh, weigh_snoc l x]; omega
theorem weigh_take {l : List St} {k : Nat} {x : St} (h : l[k]? = some x) : weigh (l.take (k + 1)) = weigh (l.take k) + (x.a.length + x.b.length) := by
  rw [List.take_succ_eq_append_getElem (List.getElem?_eq_some_iff.1 h).1, weigh_snoc, (List.getElem?_eq_some_iff.1 h).2]
def heavyB (l : List St) : Bool := decide (100 < l.length) || decide (4096 < weigh (l.take 200))
theorem weigh_le {l : List St} (h : ∀ (i : Nat) (x : St), l[i]? = some x → x.Ok) : ∀ k, k ≤ l.length → weigh (l.take k) ≤ k * 281474976702464
  | 0, _ => by simp [weigh]
  | k + 1, hk => by
    obtain ⟨x, hx⟩ : ∃ x, l[k]? = some x := ⟨_, List.getElem?_eq_getElem (by omega)⟩
    rw [weigh_take hx]
    have := weigh_le h k (by omega)
    have := h k x hx
    have := this.a
    have := (h k x hx).b
    omega

theorem ret_bool {a b : Bool} (h : a = b) : Ending.returned (.bool a) = .returned (.bool b) := by rw [h]

set_option maxRecDepth 100000 in
set_option maxHeartbeats 1000000 in
theorem heavy_spec (w : World) (B : Nat) (v : Value) (l : List St) (hBw : B ≤ w.heap.size) (h : ScriptIn w B v l) :
    Calls Tryd.prog 7 #[v] w fun e w' => e = .returned (.bool (heavyB l)) ∧ Below w.heap.size w w' := by
  obtain ⟨A, cap, hv⟩ := h.val
  subst hv
  have hsm := h.small
  have H := Lib.hid h
  clear h
  go_enter Tryd.func7, Tryd.ntmps7
  go_wp2
  go_loopw [3, 4] (fun n i wr => ∃ k : Nat, k ≤ l.length ∧ k ≤ 200 ∧ i = .int .i64 k ∧ n = .int .i64 (weigh (l.take k)) ∧ Below w.heap.size w wr) (fun n i _ => l.length - (intOf i).toNat)
  case atStart => exact ⟨0, Nat.zero_le _, by omega, rfl, by simp [weigh], Below.refl _ _⟩
  case round =>
    obtain ⟨k, hk, hk2, rfl, rfl, hB⟩ := hrel
    have hw := weigh_le H.out.ok k hk
    by_cases hlt : k < l.length ∧ k < 200
    · obtain ⟨x, hx⟩ : ∃ x, l[k]? = some x := ⟨_, List.getElem?_eq_getElem hlt.1⟩
      obtain ⟨ab, ao, cap', he, hab, hst⟩ := H.out.cells k x hx
      simp only [Value.slice.injEq] at he
      obtain ⟨rfl, -, rfl⟩ := he
      have hst' := hst.of_block (hB.block ab (by omega))
      obtain ⟨-, c1, c2, -, -⟩ := hst'
      clear hst
      have hx' := H.out.ok k x hx
      obtain ⟨xa, xb, -, -, -, -, -, -⟩ := hx'
      have hwt := weigh_take hx
      have HX := Lib.hid hx
      have HB := Lib.hid hB
      clear hx hB
      obtain ⟨hl1, hl2⟩ := hlt
      have s1 := bs_size x.a
      have s2 := bs_size x.b
      go_wp2
      have i1 : (0 : Int) ≤ (k : Int) := by omega
      have i2 : (k : Int) < (l.length : Int) := by omega
      go_region
      go_wp2
      go_roundw
      case rel =>
        refine ⟨k + 1, by omega, by omega, by go_num, ?_, HB.out.drew⟩
        rw [hwt]; congr 1; omega
      case measure => simp [intOf]; omega
    · have htk : weigh (l.take 200) = weigh (l.take k) := by
        by_cases h2 : k = 200
        · rw [h2]
        · have : k = l.length := by omega
          rw [this, List.take_length, List.take_of_length_le (by omega)]
      have HT := Lib.hid htk
      clear htk
      go_wp2
      all_goals go_ret
      all_goals refine ⟨?_, hB⟩
      all_goals unfold heavyB
      all_goals rw [HT.out]
      all_goals refine ret_bool ?_
      all_goals first
        | (have e1 : decide (100 < l.length) = true := by simp; omega
           rw [e1]; rfl)
        | (have e1 : decide (100 < l.length) = false := by simp; omega
           rw [e1, Bool.false_or]
           first
           | (congr 1; exact propext ⟨fun h => by omega, fun h => by omega⟩)
           | (have e2 : decide (100 < (l.length : Int)) = false := by simp; omega
              rw [e2, Bool.false_or]
              congr 1; exact propext ⟨fun h => by omega, fun h => by omega⟩)
           | (symm; simp; omega))
end Go.Proofs.YtmgnekaokcgmlaaDoor
