/- What no disk answers; the known case 'works'. -/
import Derived.Test.YtmgnekaokcgmlaaDoorAlter
set_option linter.unusedSimpArgs false
set_option linter.unusedVariables false
namespace Go.Proofs.YtmgnekaokcgmlaaDoor
open Go Go.RowKit Go.Maps Go.WideMaps

set_option maxRecDepth 100000 in
set_option maxHeartbeats 400000 in
theorem burns_nil (w : World) : Calls Tryd.prog 28 #[.pointer none] w fun e w' => e = .returned (.int .i64 1) ∧ w = w' := by
  have hq := eqMapNil
  go_enter Tryd.func28, Tryd.ntmps28
  go_wp2
  go_ret
  exact ⟨rfl, rfl⟩
set_option maxRecDepth 100000 in
set_option maxHeartbeats 400000 in
theorem append_nil (w : World) (a b : ByteArray) : Calls Tryd.prog 10 #[.pointer none, .string a, .string b] w fun e w' => e = .returned (.int .i64 1) ∧ Below w.heap.size w w' := by
  go_enter Tryd.func10, Tryd.ntmps10
  go_wp2_with (go_at_call 28; refine (burns_nil _).mono ?_; rintro e w' ⟨rfl, rfl⟩)
  go_ret
  exact ⟨rfl, ((Below.refl _ _).alloc (Nat.le_refl _) _).alloc (by simp) _⟩
set_option maxRecDepth 100000 in
set_option maxHeartbeats 400000 in
theorem cut_nil (w : World) (a : ByteArray) (n : Int) : Calls Tryd.prog 11 #[.pointer none, .string a, .int .i64 n] w fun e w' => e = .returned (.int .i64 1) ∧ Below w.heap.size w w' := by
  go_enter Tryd.func11, Tryd.ntmps11
  go_wp2_with (go_at_call 28; refine (burns_nil _).mono ?_; rintro e w' ⟨rfl, rfl⟩)
  go_ret
  exact ⟨rfl, ((Below.refl _ _).alloc (Nat.le_refl _) _).alloc (by simp) _⟩
set_option maxRecDepth 100000 in
set_option maxHeartbeats 400000 in
theorem rename_nil (w : World) (a b : ByteArray) : Calls Tryd.prog 12 #[.pointer none, .string a, .string b] w fun e w' => e = .returned (.int .i64 1) ∧ Below w.heap.size w w' := by
  go_enter Tryd.func12, Tryd.ntmps12
  go_wp2_with (go_at_call 28; refine (burns_nil _).mono ?_; rintro e w' ⟨rfl, rfl⟩)
  go_ret
  exact ⟨rfl, ((Below.refl _ _).alloc (Nat.le_refl _) _).alloc (by simp) _⟩
set_option maxRecDepth 100000 in
set_option maxHeartbeats 400000 in
theorem remove_nil (w : World) (a : ByteArray) : Calls Tryd.prog 13 #[.pointer none, .string a] w fun e w' => e = .returned (.int .i64 1) ∧ Below w.heap.size w w' := by
  go_enter Tryd.func13, Tryd.ntmps13
  go_wp2_with (go_at_call 28; refine (burns_nil _).mono ?_; rintro e w' ⟨rfl, rfl⟩)
  go_ret
  exact ⟨rfl, (Below.refl _ _).alloc (Nat.le_refl _) _⟩
set_option maxRecDepth 100000 in
set_option maxHeartbeats 400000 in
theorem sync_nil (w : World) : Calls Tryd.prog 14 #[.pointer none] w fun e w' => e = .returned (.int .i64 1) ∧ w = w' := by
  go_enter Tryd.func14, Tryd.ntmps14
  go_wp2_with (go_at_call 28; refine (burns_nil _).mono ?_; rintro e w' ⟨rfl, rfl⟩)
  go_ret
  exact ⟨rfl, rfl⟩
set_option maxRecDepth 100000 in
set_option maxHeartbeats 400000 in
theorem read_nil (w : World) (a : ByteArray) : Calls Tryd.prog 17 #[.pointer none, .string a] w fun e w' => e = .returned (.tuple #[.string (bs []), .int .i64 1]) ∧ w = w' := by
  have hq := eqMapNil
  go_enter Tryd.func17, Tryd.ntmps17
  go_wp2
  go_ret2
  exact ⟨rfl, rfl⟩
set_option maxRecDepth 100000 in
set_option maxHeartbeats 400000 in
theorem names_nil (w : World) : Calls Tryd.prog 16 #[.pointer none] w fun e w' => e = .returned (.slice none 0 0) ∧ w = w' := by
  go_enter Tryd.func16, Tryd.ntmps16
  go_wp2
  go_ret
  exact ⟨rfl, rfl⟩
set_option maxRecDepth 100000 in
set_option maxHeartbeats 400000 in
theorem left_nil (w : World) : Calls Tryd.prog 20 #[.pointer none] w fun e w' => e = .returned (.int .i64 0) ∧ w = w' := by
  go_enter Tryd.func20, Tryd.ntmps20
  go_wp2
  go_ret
  exact ⟨rfl, rfl⟩
set_option maxRecDepth 100000 in
set_option maxHeartbeats 400000 in
theorem loose_nil (w : World) : Calls Tryd.prog 15 #[.pointer none] w fun e w' => e = .returned (.int .i64 0) ∧ w = w' := by
  go_enter Tryd.func15, Tryd.ntmps15
  go_wp2
  go_ret
  exact ⟨rfl, rfl⟩
set_option maxRecDepth 100000 in
set_option maxHeartbeats 400000 in
theorem fuse_nil (w : World) (n : Int) : Calls Tryd.prog 19 #[.pointer none, .int .i64 n] w fun e w' => e = .returned (.int .i64 1) ∧ w = w' := by
  have hq := eqMapNil
  go_enter Tryd.func19, Tryd.ntmps19
  go_wp2
  go_ret
  exact ⟨rfl, rfl⟩
set_option maxRecDepth 100000 in
set_option maxHeartbeats 400000 in
theorem crash_nil (w : World) (n m : Int) : Calls Tryd.prog 18 #[.pointer none, .int .i64 n, .int .i64 m] w fun e w' => e = .returned (.int .i64 1) ∧ w = w' := by
  have hq := eqMapNil
  go_enter Tryd.func18, Tryd.ntmps18
  go_wp2
  go_ret
  exact ⟨rfl, rfl⟩
set_option maxRecDepth 100000 in
set_option maxHeartbeats 400000 in
theorem alter_nil (w : World) (a : ByteArray) (n x : Int) : Calls Tryd.prog 27 #[.pointer none, .string a, .int .i64 n, .int .u8 x] w fun e w' => e = .returned (.int .i64 1) ∧ w = w' := by
  have hq := eqMapNil
  go_enter Tryd.func27, Tryd.ntmps27
  go_wp2
  go_ret
  exact ⟨rfl, rfl⟩

/-! ### works -/
def wk0 : DS := freshDS 100
def wk1 : DS := { room := 100, sure := [], loose := [.app [97] [120, 121]], fuse := -1 }
def wk2 : DS := { room := 100, sure := [([97], [120, 121])], loose := [], fuse := -1 }
def wk3 : DS := { room := 100, sure := [([97], [120, 121])], loose := [.app [97] [122]], fuse := -1 }
def wk4 : DS := { room := 100, sure := [([97], [120, 121])], loose := [.app [97] [122], .app [98] [119]], fuse := -1 }
def wk5 : DS := { room := 100, sure := [([97], [120, 121, 122]), ([98], [])], loose := [], fuse := -1 }
def wk6 : DS := { room := 100, sure := [([97], [120, 121, 122]), ([98], [])], loose := [.cut [97] 1], fuse := -1 }
theorem wk_1 : dAppend wk0 [97] [120, 121] = (0, wk1) := by rfl
theorem wk_2 : dSync wk1 = (0, wk2) := by rfl
theorem wk_3 : dAppend wk2 [97] [122] = (0, wk3) := by rfl
theorem wk_4 : dAppend wk3 [98] [119] = (0, wk4) := by rfl
theorem wk_5 : dCrash wk4 1 0 = wk5 := by rfl
theorem wk_6 : dRead wk5 [97] = ([120, 121, 122], 0) := by rfl
theorem wk_7 : dRead wk5 [98] = ([], 0) := by rfl
theorem wk_8 : dCut wk5 [97] 1 = (0, wk6) := by rfl
theorem wk_9 : dCrash wk6 0 0 = wk5 := by rfl
theorem wk_10 : wk5.left = 97 := by rfl
theorem wk_11 : wk5.now.length = 2 := by rfl

set_option maxRecDepth 100000 in
set_option maxHeartbeats 4000000 in
theorem works_spec (w : World) : Calls Tryd.prog 8 #[] w fun e w' => e = .returned (.bool true) ∧ Below w.heap.size w w' := by
  go_enter Tryd.func8, Tryd.ntmps8
  go_wp2_with fail
  refine (new_good _ 100 (by omega)).mono ?_
  rintro e w0 ⟨rfl, h0, k0⟩
  have hA := append_spec w0 _ wk0 [97] [120, 121] h0 (by simp [maxLen]) (by decide)
  rw [wk_1] at hA
  have K0 := Lib.hid k0
  clear h0 k0
  go_wp2_with fail
  refine hA.mono ?_
  clear hA
  rintro e w1 ⟨rfl, h1, k1⟩
  have hA := sync_spec w1 _ wk1 h1
  rw [wk_2] at hA
  have K1 := Lib.hid (K0.out.trans k1)
  clear h1 k1 K0
  go_wp2_with fail
  refine hA.mono ?_
  clear hA
  rintro e w2 ⟨rfl, h2, k2⟩
  have hA := append_spec w2 _ wk2 [97] [122] h2 (by simp [maxLen]) (by decide)
  rw [wk_3] at hA
  have K2 := Lib.hid (K1.out.trans k2)
  clear h2 k2 K1
  go_wp2_with fail
  refine hA.mono ?_
  clear hA
  rintro e w3 ⟨rfl, h3, k3⟩
  have hA := append_spec w3 _ wk3 [98] [119] h3 (by simp [maxLen]) (by decide)
  rw [wk_4] at hA
  have K3 := Lib.hid (K2.out.trans k3)
  clear h3 k3 K2
  go_wp2_with fail
  refine hA.mono ?_
  clear hA
  rintro e w4 ⟨rfl, h4, k4⟩
  have hA := crash_spec w4 _ wk4 1 0 h4 (by decide) (by omega) (by omega) (by omega) (by omega)
  rw [wk_5] at hA
  have K4 := Lib.hid (K3.out.trans k4)
  clear h4 k4 K3
  go_wp2_with fail
  refine hA.mono ?_
  clear hA
  rintro e w5 ⟨rfl, h5, k5⟩
  have hA := read_spec w5 _ wk5 [97] h5 (by simp [maxLen])
  rw [wk_6] at hA
  have K5 := Lib.hid (K4.out.trans k5)
  have H5 := Lib.hid h5
  clear h5 k5 K4
  go_wp2_with fail
  refine hA.mono ?_
  clear hA
  rintro e w6 ⟨rfl, rfl⟩
  have hA := read_spec w5 _ wk5 [98] H5.out (by simp [maxLen])
  rw [wk_7] at hA
  go_wp2_with fail
  refine hA.mono ?_
  clear hA
  rintro e w6 ⟨rfl, rfl⟩
  have hA := cut_spec w5 _ wk5 [97] 1 H5.out (by simp [maxLen]) (by decide)
  rw [wk_8] at hA
  go_wp2_with fail
  refine hA.mono ?_
  clear hA H5
  rintro e w6 ⟨rfl, h6, k6⟩
  have hA := crash_spec w6 _ wk6 0 0 h6 (by decide) (by omega) (by omega) (by omega) (by omega)
  rw [wk_9] at hA
  have K6 := Lib.hid (K5.out.trans k6)
  clear h6 k6 K5
  go_wp2_with fail
  refine hA.mono ?_
  clear hA
  rintro e w7 ⟨rfl, h7, k7⟩
  have hA := read_spec w7 _ wk5 [97] h7 (by simp [maxLen])
  rw [wk_6] at hA
  have K7 := Lib.hid (K6.out.trans k7)
  have H7 := Lib.hid h7
  clear h7 k7 K6
  go_wp2_with fail
  refine hA.mono ?_
  clear hA
  rintro e w8 ⟨rfl, rfl⟩
  have hA := left_spec w7 _ wk5 H7.out
  rw [wk_10] at hA
  have l1 := bs_toList [120, 121, 122]
  have l2 := bs_toList []
  go_wp2_with fail
  refine hA.mono ?_
  clear hA
  rintro e w8 ⟨rfl, hB8⟩
  have hA := names_spec w8 _ wk5 (H7.out.below hB8)
  rw [wk_11] at hA
  have B8 := Lib.hid hB8
  clear hB8
  go_wp2_with fail
  refine hA.mono ?_
  clear hA
  rintro e w9 ⟨v, rfl, hrow, -, hB9⟩
  obtain ⟨g, cap, rfl⟩ := ownsRow_succ hrow
  have HB := Lib.hid (K7.out.below.trans ((B8.out.mono K7.out.size).trans (hB9.mono (Nat.le_trans K7.out.size B8.out.size))))
  clear hrow hB9 B8 H7 K7
  go_wp2
  go_ret
  exact ⟨rfl, HB.out⟩

end Go.Proofs.YtmgnekaokcgmlaaDoor
