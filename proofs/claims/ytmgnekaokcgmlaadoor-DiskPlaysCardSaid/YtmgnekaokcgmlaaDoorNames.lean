/- Names: the files' names, rising. (The first part: the shelf's contracts on slices.Sorted(maps.Keys(m)), as the kit's lay-iter.mjs prints them for this dump.) -/
import Derived.Test.YtmgnekaokcgmlaaDoorLib
import Derived.Test.YtmgnekaokcgmlaaDoorLeft
set_option linter.unusedSimpArgs false
set_option linter.unusedVariables false
namespace Go.Proofs
open Go.RowKit Go.Maps Go.Sort Go.Shelf

/-- slices.Sort's two contracts at this dump, at the fence that asks nothing. -/
theorem Tryd.sorts35 (m : Nat) : AnyZ.SortsIn Tryd.prog Tryd.sorted35_ren Fence.wide m :=
  ⟨fun blk off cap ss W hH hblk hsz => callsIn_wide.2 (AnyM.slices_Sort_string Tryd.sort49 blk off cap ss W hH hblk hsz),
   fun p cap W => callsIn_wide.2 (AnyM.slices_Sort_string_none Tryd.sort49 p cap W)⟩

/-- **maps.Keys[codicil/disk.files,string,string], at whatever map, the nil one too:** a function value over ONE NEW BLOCK, which holds the map. -/
theorem Tryd.maps_Keys (mb : Option Nat) (W : World) : CallsIn Fence.wide 5 Tryd.prog 36 #[.map mb] W fun e w' => e = .returned (.func (.func 50) #[] #[.pointer (some ⟨W.heap.size, 0, none⟩)]) ∧ w' = W.alloc (.cells #[.map mb] 57) :=
  AnyZ.keys_in Tryd.keys36 Fence.wide 5 trivial rfl mb W

set_option maxHeartbeats 1000000 in
/-- **slices.Sorted[string] AT WHAT maps.Keys[codicil/disk.files,string,string] HANDED BACK FOR A MAP THAT IS NOT nil** ('w': the world AHEAD of maps.Keys' call): A NEW SLICE THAT HOLDS THE MAP's KEYS, SORTED; nil just where it has none; nothing that lay before has turned. -/
theorem Tryd.slices_Sorted_keys {H : Type} (b nn : Nat) (D0 : DataW H) (R : Value → Option (DataW H × List MemPlace)) (w : World) (hown : w.ownsMap Tryd.prog 9 R b nn D0) (hmax : Maps.size D0 ≤ maxLen) (hbytes : Maps.size D0 * 16 ≤ 140737488355328) :
    CallsIn Fence.wide 5 Tryd.prog 35 #[.func (.func 50) #[] #[.pointer (some ⟨w.heap.size, 0, none⟩)]] (w.alloc (.cells #[.map (some b)] 57)) fun e w' => ∃ (v : Value) (ss : List (List UInt8)), e = .returned v ∧ ss.Perm (strKeys D0) ∧
      w'.ownsRow (w.alloc (.cells #[.map (some b)] 57)).heap.size 9 1 v ss.length ((ss.mergeSort (fun x y => decide (x ≤ y))).map encStr) ∧ (v = .slice none 0 0 ↔ ss = []) ∧ Below (w.alloc (.cells #[.map (some b)] 57)).heap.size (w.alloc (.cells #[.map (some b)] 57)) w' := by
  have hbl := hown.lt
  have hseq : SeqGives Fence.wide 2 Tryd.prog 50 #[.pointer (some ⟨w.heap.size, 0, none⟩)] encStr (fun ss => ss.Perm (strKeys D0)) (Maps.size D0) (w.alloc (.cells #[.map (some b)] 57)) :=
    AnyZ.keys_gives (ρ := Tryd.keys36_ren) { Tryd.keys36 with } Fence.wide _ trivial rfl (by omega) w.heap.size b nn D0 _ (by simp) (by simp) (by
      obtain ⟨es, clock, hb, Ft, hs, hD⟩ := hown
      exact ⟨es, clock, (Below.heap_alloc _ _ b hbl).trans hb, Ft, hs, hD⟩)
  exact AnyZ.sorted_in Tryd.sorted35 Fence.wide 5 trivial trivial trivial trivial rfl (by omega) (Tryd.sorts35 _) (enters_of Tryd.func49 (by kernel_rfl) rfl) 50 #[.pointer (some ⟨w.heap.size, 0, none⟩)] trivial (enters_of Tryd.func50 (by kernel_rfl) rfl) _ _ hmax hbytes _ hseq


end Go.Proofs
namespace Go.Proofs.YtmgnekaokcgmlaaDoor
open Go Go.RowKit Go.Maps Go.Sort

theorem lt_of_before : ∀ {a b : Str}, bytesBefore a b = true → a < b
  | [], b :: l, _ => List.Lex.nil
  | x :: a, [], h => by simp [bytesBefore] at h
  | [], [], h => by simp [bytesBefore] at h
  | x :: a, y :: b, h => by
    simp only [bytesBefore, Bool.or_eq_true, Bool.and_eq_true, decide_eq_true_eq, beq_iff_eq] at h
    rcases h with h | ⟨rfl, h⟩
    · exact List.Lex.rel h
    · exact List.Lex.cons (lt_of_before h)
theorem le_of_before {a b : Str} (h : bytesBefore a b = true) : a ≤ b := fun h' => by
  exact absurd (List.lt_trans (lt_of_before h) h') (List.lt_irrefl _)
def fnames (fs : Files) : List Str := fs.map (·.1)
theorem strKeys_mapD (fs : Files) : strKeys (mapD fs) = fnames fs := by
  simp only [strKeys, mapD, fnames, List.map_map]
  exact List.map_congr_left fun _ _ => rfl
theorem sorted_names {fs : Files} (h : Rising fs) {ss : List Str} (hp : ss.Perm (strKeys (mapD fs))) : ss.mergeSort (fun x y => decide (x ≤ y)) = fnames fs := by
  rw [mergeSort_of_perm hp, strKeys_mapD]
  refine List.mergeSort_of_pairwise ?_
  unfold fnames
  refine List.pairwise_map.2 (List.Pairwise.imp (fun {a b} hab => ?_) h)
  simpa using le_of_before hab

set_option maxRecDepth 100000 in
set_option maxHeartbeats 1000000 in
theorem names_spec {K : Nat → Prop} (w : World) (b : Nat) (s : DS) (h : Dk K w b s) :
    Calls Tryd.prog 16 #[.pointer (some ⟨b, 0, none⟩)] w fun e w' => ∃ v, e = .returned v ∧ w'.ownsRow w.heap.size 9 1 v s.now.length ((fnames s.now).map encStr) ∧ (v = .slice none 0 0 ↔ s.now = []) ∧ Below w.heap.size w w' := by
  have hi := h.inv
  obtain ⟨_, hK, F, rs, rn, vl, vc, xs, hd, hF⟩ := h
  obtain ⟨-, -, c2, -, -, -⟩ := hd.cells
  have hm := Lib.hid hd.now
  have hrise := Lib.hid hi.now.rising
  have hmany := hi.now.many
  clear hi hd hF hK
  generalize s.now = fs at *
  have hs := (callsIn_wide).1 (Tryd.slices_Sorted_keys (H := Unit) rn fs.length (mapD fs) _ w hm.out (by rw [mapD_size]; simp [maxLen]; omega) (by rw [mapD_size]; omega))
  have hk := (callsIn_wide).1 (Tryd.maps_Keys (some rn) w)
  go_enter Tryd.func16, Tryd.ntmps16
  go_wp2_with fail
  refine hk.mono ?_
  clear hk
  rintro e w1 ⟨rfl, rfl⟩
  go_wp2_with fail
  refine hs.mono ?_
  clear hs
  rintro e w2 ⟨v, ss, rfl, hS, hrow, hnil, hb⟩
  have hlen : ss.length = fs.length := by rw [hS.length_eq, strKeys_mapD]; simp [fnames]
  rw [sorted_names hrise.out hS, hlen] at hrow
  have HX := Lib.hid (And.intro hrow (And.intro hnil hb))
  have HS := Lib.hid hlen
  clear hrow hnil hb hlen
  go_wp2
  go_ret
  refine ⟨v, rfl, ownsRow_base_a HX.out.1 (by simp), HX.out.2.1.trans ?_, ((Below.refl _ w).alloc (Nat.le_refl _) _).trans (HX.out.2.2.mono (by simp))⟩
  rw [← List.length_eq_zero_iff, HS.out, List.length_eq_zero_iff]

end Go.Proofs.YtmgnekaokcgmlaaDoor
