/- Name: which names of files may be. -/
import Derived.Test.YtmgnekaokcgmlaaDoorMeths
set_option linter.unusedSimpArgs false
set_option linter.unusedVariables false
namespace Go.Proofs.YtmgnekaokcgmlaaDoor
open Go Go.RowKit Go.Maps Go.WideMaps Go.Shelf

def nameSet : Str := [97, 98, 99, 100, 101, 102, 103, 104, 105, 106, 107, 108, 109, 110, 111, 112, 113, 114, 115, 116, 117, 118, 119, 120, 121, 122, 48, 49, 50, 51, 52, 53, 54, 55, 56, 57, 46, 45, 95]
theorem inSet_all : ∀ n, n < 256 → nameSet.contains (UInt8.ofNat n) = okByte (UInt8.ofNat n) := by decide +kernel
theorem inSet (c : UInt8) : nameSet.contains c = okByte c := by
  have := inSet_all c.toNat c.toNat_lt
  rwa [UInt8.ofNat_toNat] at this
theorem dropWhile_nil {α : Type} {p : α → Bool} : ∀ {l : List α}, l.dropWhile p = [] ↔ l.all p = true
  | [] => by simp
  | a :: l => by
    rw [List.dropWhile_cons, List.all_cons]
    cases h : p a
    · simp
    · simpa using dropWhile_nil (l := l)
theorem trim_nil (l : Str) : Lib.trimS l nameSet = [] ↔ l.all okByte = true := by
  unfold Lib.trimS Lib.trimLeftS Lib.trimRightS
  rw [dropWhile_nil]
  have hf : (fun x => nameSet.contains x) = okByte := funext inSet
  rw [hf]
  constructor
  · intro h
    cases h2 : l.all okByte with
    | true => rfl
    | false =>
      exfalso
      have h3 : l.reverse.dropWhile okByte ≠ [] := by
        rw [Ne, dropWhile_nil, List.all_reverse, h2]; simp
      obtain ⟨x, r, hx⟩ := List.exists_cons_of_ne_nil h3
      have h4 : okByte x = false := by
        have := List.head?_dropWhile_not okByte l.reverse
        rw [hx] at this
        simpa using this
      rw [hx] at h
      simp at h
      rw [h.2] at h4
      cases h4
  · intro h
    have : l.reverse.dropWhile okByte = [] := by rw [dropWhile_nil, List.all_reverse]; exact h
    rw [this]; rfl

theorem bs_toList (l : Str) : (bs l).toList = l := by rw [Lib.toList_data, bs_data]

set_option maxRecDepth 100000 in
set_option maxHeartbeats 1000000 in
theorem name_spec (k : Str) (w : World) (hk : k.length ≤ maxLen) :
    Calls Tryd.prog 25 #[.string (bs k)] w fun e w' => e = .returned (.bool (nameOk k)) ∧ Below w.heap.size w w' := by
  have hs : (bs k).size = k.length := bs_size k
  have hcon := Any.strings_Trim_laid Tryd.lays160 (by kernel_rfl) (bs k) ⟨#[97, 98, 99, 100, 101, 102, 103, 104, 105, 106, 107, 108, 109, 110, 111, 112, 113, 114, 115, 116, 117, 118, 119, 120, 121, 122, 48, 49, 50, 51, 52, 53, 54, 55, 56, 57, 46, 45, 95]⟩ w (by rw [hs]; simp [maxLen] at hk; omega) (by decide) (ascii_of_all (by decide))
  change Calls Tryd.prog 47 _ _ (fun e w' => e = .returned (.string ⟨(Lib.trimS (bs k).data.toList nameSet).toArray⟩) ∧ Below w.heap.size w w') at hcon
  rw [bs_data] at hcon
  change Calls Tryd.prog 47 _ _ (fun e w' => e = .returned (.string (bs (Lib.trimS k nameSet))) ∧ Below w.heap.size w w') at hcon
  cases k with
  | nil =>
    have hl := bs_toList []
    clear hcon hs hk
    go_enter Tryd.func25, Tryd.ntmps25
    go_wp2_with fail
    go_ret
    exact ⟨rfl, Below.refl _ _⟩
  | cons c r =>
    have hl := bs_toList (c :: r)
    by_cases h32 : (c :: r).length ≤ 32
    · have hb : ((bs (c :: r)).size : Int) ≤ 32 := by rw [hs]; omega
      have hfin : nameOk (c :: r) = (Lib.trimS (c :: r) nameSet).isEmpty := by
        unfold nameOk
        rw [decide_eq_true h32]
        cases h : (Lib.trimS (c :: r) nameSet).isEmpty with
        | true => rw [List.isEmpty_iff, trim_nil] at h; rw [h]; rfl
        | false =>
          have : ¬ (c :: r).all okByte = true := fun e => by rw [← trim_nil] at e; rw [e] at h; cases h
          rw [Bool.eq_false_iff.2 this]; rfl
      rw [hfin]
      clear hfin hs hk h32
      generalize Lib.trimS (c :: r) nameSet = t at *
      generalize bs (c :: r) = S at *
      cases t with
      | nil =>
        have ht := bs_toList []
        go_enter Tryd.func25, Tryd.ntmps25
        go_wp2_with fail
        refine hcon.mono ?_
        clear hcon
        rintro e w1 ⟨rfl, hB⟩
        go_wp2
        go_ret
        exact ⟨rfl, hB⟩
      | cons d u =>
        have ht := bs_toList (d :: u)
        go_enter Tryd.func25, Tryd.ntmps25
        go_wp2_with fail
        refine hcon.mono ?_
        clear hcon
        rintro e w1 ⟨rfl, hB⟩
        go_wp2
        go_ret
        exact ⟨rfl, hB⟩
    · have hb : ¬ ((bs (c :: r)).size : Int) ≤ 32 := by rw [hs]; omega
      have hfin : nameOk (c :: r) = false := by unfold nameOk; rw [decide_eq_false h32]; simp
      rw [hfin]
      clear hfin hs hk h32 hcon
      go_enter Tryd.func25, Tryd.ntmps25
      go_wp2_with fail
      go_ret
      exact ⟨rfl, Below.refl _ _⟩
end Go.Proofs.YtmgnekaokcgmlaaDoor
