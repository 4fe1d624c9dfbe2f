/- The reference's Name. -/
import Derived.Test.YtmgnekaokcgmlaaDoorRef5
import Derived.Deep.CutRange
import Derived.Deep.CutBlock
set_option linter.unusedSimpArgs false
set_option linter.unusedVariables false
namespace Go.Proofs.YtmgnekaokcgmlaaDoor
open Go Go.RowKit Go.Maps Go.WideMaps

theorem nameOk_all {k : Str} (h : k.all okByte = true) : nameOk k = (decide (1 ≤ (k.length : Int)) && decide ((k.length : Int) ≤ 32)) := by
  unfold nameOk
  rw [h, Bool.and_true]
  have e1 : (!k.isEmpty) = decide (1 ≤ (k.length : Int)) := by
    cases k with
    | nil => rfl
    | cons x k => rw [Bool.eq_iff_iff]; simp; omega
  have e2 : decide (k.length ≤ 32) = decide ((k.length : Int) ≤ 32) := by rw [Bool.eq_iff_iff]; simp; omega
  rw [e1, e2]
theorem okByte_true {c : UInt8} (h : (97 ≤ c.toNat ∧ c.toNat ≤ 122) ∨ (48 ≤ c.toNat ∧ c.toNat ≤ 57) ∨ c.toNat = 46 ∨ c.toNat = 45 ∨ c.toNat = 95) : okByte c = true := by
  unfold okByte
  simp only [Bool.or_eq_true, Bool.and_eq_true, decide_eq_true_eq, beq_iff_eq, UInt8.le_iff_toNat_le, ← UInt8.toNat_inj]
  have e1 : (97 : UInt8).toNat = 97 := rfl
  have e2 : (122 : UInt8).toNat = 122 := rfl
  have e3 : (48 : UInt8).toNat = 48 := rfl
  have e4 : (57 : UInt8).toNat = 57 := rfl
  have e5 : (46 : UInt8).toNat = 46 := rfl
  have e6 : (45 : UInt8).toNat = 45 := rfl
  have e7 : (95 : UInt8).toNat = 95 := rfl
  rw [e1, e2, e3, e4, e5, e6, e7]
  omega
theorem okByte_false {c : UInt8} (h : ¬ ((97 ≤ c.toNat ∧ c.toNat ≤ 122) ∨ (48 ≤ c.toNat ∧ c.toNat ≤ 57) ∨ c.toNat = 46 ∨ c.toNat = 45 ∨ c.toNat = 95)) : okByte c = false := by
  cases e : okByte c with
  | false => rfl
  | true =>
    exfalso
    apply h
    unfold okByte at e
    simp only [Bool.or_eq_true, Bool.and_eq_true, decide_eq_true_eq, beq_iff_eq, UInt8.le_iff_toNat_le, ← UInt8.toNat_inj] at e
    have e1 : (97 : UInt8).toNat = 97 := rfl
    have e2 : (122 : UInt8).toNat = 122 := rfl
    have e3 : (48 : UInt8).toNat = 48 := rfl
    have e4 : (57 : UInt8).toNat = 57 := rfl
    have e5 : (46 : UInt8).toNat = 46 := rfl
    have e6 : (45 : UInt8).toNat = 45 := rfl
    have e7 : (95 : UInt8).toNat = 95 := rfl
    rw [e1, e2, e3, e4, e5, e6, e7] at e
    omega

set_option maxRecDepth 100000 in
set_option maxHeartbeats 4000000 in
theorem rname_spec (w : World) (k : Str) (hk : k.length ≤ maxLen) :
    Calls Tryd.prog 26 #[.string (bs k)] w fun e w' => e = .returned (.bool (nameOk k)) ∧ Below w.heap.size w w' := by
  have hs : (bs k).size = k.length := bs_size k
  go_enter Tryd.func26, Tryd.ntmps26
  go_wp2_with fail
  go_loopw [3] (fun i wr => ∃ j : Nat, j ≤ k.length ∧ i = .int .i64 j ∧ Below w.heap.size w wr ∧ (k.take j).all okByte = true) (fun i _ => k.length - (intOf i).toNat)
  case atStart => exact ⟨0, Nat.zero_le _, rfl, Below.refl _ _, rfl⟩
  case round =>
    obtain ⟨j, hj, rfl, hB, hall⟩ := hrel
    have H := Lib.hid (And.intro hB hall)
    clear hB hall
    by_cases hjl : j < k.length
    · have i1 : (0 : Int) ≤ (j : Int) := by omega
      have i2 : (j : Int) < (k.length : Int) := by omega
      obtain ⟨c, hc⟩ : ∃ c, k[j]? = some c := ⟨_, List.getElem?_eq_getElem hjl⟩
      have hcl := c.toNat_lt
      have hix : ∀ w0, (Instr.index 9 (.string (bs k)) (.int .i64 j)).run Tryd.prog w0 = .ok (.int .u8 c.toNat) w0 := by
        intro w0
        have hlt : (0 : Int) ≤ (j : Int) ∧ (j : Int) < ((bs k).size : Int) := by rw [hs]; omega
        rw [run_index_string _ _ _ _ _ Tryd.underlying9, dif_pos hlt]
        have e : (bs k)[(j : Int).toNat]'(by omega) = c := by
          obtain ⟨h1, h2⟩ := List.getElem?_eq_some_iff.1 hc
          exact h2
        rw [e]
      have hk2 : k.length ≤ 9223372036854775807 := hk
      go_upto_region 4 with fail
      go_cut [50] from 4 to 50 (fun b wx => b = .bool (!okByte c) ∧ Is wr wx)
      case first =>
        go_wp2_with fail
        all_goals go_meet
        all_goals refine ⟨?_, rfl⟩
        all_goals refine congrArg Value.bool ?_
        all_goals by_cases hP : (97 ≤ c.toNat ∧ c.toNat ≤ 122) ∨ (48 ≤ c.toNat ∧ c.toNat ≤ 57) ∨ c.toNat = 46 ∨ c.toNat = 45 ∨ c.toNat = 95
        all_goals first
          | rw [okByte_true hP]
          | rw [okByte_false hP]
        all_goals first
          | (exfalso; omega)
          | rfl
          | (rw [Bool.eq_iff_iff]; simp; done)
          | (rw [Bool.eq_iff_iff]; simp; omega)
      case rest =>
        obtain ⟨rfl, hw⟩ := hcut
        obtain rfl : wr = wc := hw
        cases hok : okByte c with
        | true =>
          have htk : (k.take (j + 1)).all okByte = true := by
            rw [List.take_succ_eq_append_getElem (List.getElem?_eq_some_iff.1 hc).1, List.all_append, H.out.2, (List.getElem?_eq_some_iff.1 hc).2]
            simp [hok]
          have HT := Lib.hid htk
          clear htk hc
          simp only [Bool.not_true]
          go_wp2_with fail
          go_roundw
          case rel => exact ⟨j + 1, by omega, by go_num, H.out.1, HT.out⟩
          case measure => simp [intOf]; omega
        | false =>
          have hno : nameOk k = false := by
            unfold nameOk
            have : k.all okByte = false := by
              rw [List.all_eq_false]
              exact ⟨c, List.mem_of_getElem? hc, by rw [hok]; simp⟩
            rw [this]; simp
          have HN := Lib.hid hno
          clear hno hc
          simp only [Bool.not_false]
          go_wp2_with fail
          go_ret
          exact ⟨ret_bool HN.out.symm, H.out.1⟩
    · have hall : k.all okByte = true := by
        have := H.out.2
        rwa [List.take_of_length_le (by omega)] at this
      have hname := nameOk_all hall
      have HN := Lib.hid hname
      have hk2 : k.length ≤ 9223372036854775807 := hk
      clear hall hname
      go_wp2_with fail
      all_goals go_ret
      all_goals refine ⟨?_, H.out.1⟩
      all_goals refine ret_bool ?_
      all_goals rw [HN.out]
      all_goals first
        | rfl
        | (rw [Bool.eq_iff_iff]; simp; done)
        | (rw [Bool.eq_iff_iff]; simp; omega)
end Go.Proofs.YtmgnekaokcgmlaaDoor
