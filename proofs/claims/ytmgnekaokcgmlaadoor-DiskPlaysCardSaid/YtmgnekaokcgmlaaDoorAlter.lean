/- Alter. -/
import Derived.Test.YtmgnekaokcgmlaaDoorCrash
import Derived.Lib.ConvBytes
import Derived.Laws.BitsAllLaws
import Derived.Laws.IdiomStrings
set_option linter.unusedSimpArgs false
set_option linter.unusedVariables false
namespace Go.Proofs.YtmgnekaokcgmlaaDoor
open Go Go.RowKit Go.Maps Go.WideMaps

theorem xor_byte (a b : UInt8) : bits .xor .u8 (a.toNat : Int) (b.toNat : Int) = (((a ^^^ b).toNat : Nat) : Int) := by
  rw [u8_xor_nat _ _ a.toNat_lt b.toNat_lt, UInt8.toNat_xor]

set_option maxRecDepth 100000 in
set_option maxHeartbeats 1000000 in
theorem alter_none {K : Nat → Prop} (w : World) (b : Nat) (s : DS) (n : Str) (at_ : Int) (x : UInt8) (h : Dk K w b s) (hn : n.length ≤ maxLen) (hv : fget s.now n = none) :
    Calls Tryd.prog 27 #[.pointer (some ⟨b, 0, none⟩), .string (bs n), .int .i64 at_, .int .u8 x.toNat] w fun e w' => e = .returned (.int .i64 5) ∧ w = w' := by
  obtain ⟨rn, c2, hlook⟩ := h.lookAt hn
  rw [fhas_eq, hv] at hlook
  simp only [Option.isSome_none, Option.getD_none] at hlook
  have hq := eqMapNil
  clear h
  go_enter Tryd.func27, Tryd.ntmps27
  go_wp2
  go_ret
  exact ⟨rfl, rfl⟩

set_option maxRecDepth 100000 in
set_option maxHeartbeats 1000000 in
theorem alter_arg {K : Nat → Prop} (w : World) (b : Nat) (s : DS) (n v : Str) (at_ : Int) (x : UInt8) (h : Dk K w b s) (hn : n.length ≤ maxLen) (hv : fget s.now n = some v) (ha : at_ < 0 ∨ v.length ≤ at_) :
    Calls Tryd.prog 27 #[.pointer (some ⟨b, 0, none⟩), .string (bs n), .int .i64 at_, .int .u8 x.toNat] w fun e w' => e = .returned (.int .i64 2) ∧ w = w' := by
  obtain ⟨rn, c2, hlook⟩ := h.lookAt hn
  rw [fhas_eq, hv] at hlook
  simp only [Option.isSome_some, Option.getD_some] at hlook
  have hq := eqMapNil
  clear h
  rcases ha with ha | ha
  · go_enter Tryd.func27, Tryd.ntmps27
    go_wp2
    go_ret
    exact ⟨rfl, rfl⟩
  · have ha' : ¬ at_ < 0 := by omega
    have hs : ((bs v).size : Int) ≤ at_ := by rw [bs_size]; exact ha
    clear ha
    go_enter Tryd.func27, Tryd.ntmps27
    go_wp2
    go_ret
    exact ⟨rfl, rfl⟩

theorem Dk.looseAt {K : Nat → Prop} {w : World} {b : Nat} {s : DS} (h : Dk K w b s) : ∃ a c, w.cell? ⟨b, 3, none⟩ = some (.slice a s.loose.length c) := by
  obtain ⟨_, hK, F, rs, rn, vl, vc, xs, hd, hF⟩ := h
  rcases hd.loose.2 with ⟨rfl, h0⟩ | ⟨g, cap, cur, rfl, _⟩
  · exact ⟨_, _, by rw [h0]; exact hd.cells.2.2.2.1⟩
  · exact ⟨_, _, hd.cells.2.2.2.1⟩

set_option maxRecDepth 100000 in
set_option maxHeartbeats 1000000 in
theorem alter_state {K : Nat → Prop} (w : World) (b : Nat) (s : DS) (n v : Str) (at_ : Int) (x : UInt8) (h : Dk K w b s) (hn : n.length ≤ maxLen) (hv : fget s.now n = some v) (ha : 0 ≤ at_) (ha' : at_ < v.length) (hl : s.loose ≠ []) :
    Calls Tryd.prog 27 #[.pointer (some ⟨b, 0, none⟩), .string (bs n), .int .i64 at_, .int .u8 x.toNat] w fun e w' => e = .returned (.int .i64 3) ∧ w = w' := by
  obtain ⟨rn, c2, hlook⟩ := h.lookAt hn
  obtain ⟨a, c, c3⟩ := h.looseAt
  rw [fhas_eq, hv] at hlook
  simp only [Option.isSome_some, Option.getD_some] at hlook
  have hq := eqMapNil
  have hs : at_ < ((bs v).size : Int) := by rw [bs_size]; exact ha'
  have hpos : 0 < s.loose.length := by cases e : s.loose with | nil => exact absurd e hl | cons c l => simp
  generalize s.loose.length = m at *
  clear h ha' hl
  go_enter Tryd.func27, Tryd.ntmps27
  go_wp2
  go_ret
  exact ⟨rfl, rfl⟩

set_option maxRecDepth 100000 in
set_option maxHeartbeats 2000000 in
theorem alter_good {K : Nat → Prop} (w : World) (b : Nat) (s : DS) (n v : Str) (at_ : Nat) (x : UInt8) (h : Dk K w b s) (hn : n.length ≤ maxLen) (hv : fget s.now n = some v) (ha : at_ < v.length) (hl : s.loose = []) :
    Calls Tryd.prog 27 #[.pointer (some ⟨b, 0, none⟩), .string (bs n), .int .i64 at_, .int .u8 x.toNat] w fun e w' => e = .returned (.int .i64 0) ∧ Then K w b { s with sure := fput s.sure n (v.set at_ (v.getD at_ 0 ^^^ x)) } w' := by
  have hinv : Inv { s with sure := fput s.sure n (v.set at_ (v.getD at_ 0 ^^^ x)) } := by
    have := h.inv.alter n at_ x
    unfold dAlter at this
    rw [hv] at this
    simp only at this
    rw [if_neg (by omega), if_neg (by simp [hl])] at this
    exact this
  have hnow : s.now = s.sure := by unfold DS.now; rw [hl]; rfl
  obtain ⟨rn0, c2, hlook⟩ := h.lookAt hn
  obtain ⟨a, c, c3⟩ := h.looseAt
  rw [hl] at c3
  rw [fhas_eq, hv] at hlook
  simp only [Option.isSome_some, Option.getD_some] at hlook
  obtain ⟨hi, hK, F, rs, rn, vl, vc, xs, hd, hF⟩ := h
  obtain rfl : rn = rn0 := by have := hd.cells.2.2.1; rw [c2] at this; simpa using this.symm
  have hq := eqMapNil
  have hb := lt_of_heap hd.head
  have hsz : (bs v).size = v.length := bs_size v
  have hs : (at_ : Int) < ((bs v).size : Int) := by rw [bs_size]; omega
  -- the bytes
  have hconv := Lib.run_convert_string_bytes (P := Tryd.prog) w 9 76 5 (bs v) Tryd.underlying9 Tryd.underlying76 Tryd.underlying5
  have hcell := Lib.bytesWorld_cell w 5 (bs v) at_ (by omega)
  rw [bs_data] at hcell
  have hnewb := Lib.bytesWorld_at_new w 5 (bs v)
  have hcs : v.length ≤ (Lib.bytesCells w 5 (bs v)).size := by simp [Lib.bytesCells, bs_size, bs]
  have hfz : (Lib.bytesWorld w 5 (bs v)).frozen? ⟨w.heap.size, at_, none⟩ = false := by
    simp [World.frozen?, hnewb]; omega
  have hx := u8_xor_nat (v.getD at_ 0).toNat x.toNat (v.getD at_ 0).toNat_lt x.toNat_lt
  obtain ⟨W1, hW1⟩ : ∃ W1, W1 = Lib.bytesWorld w 5 (bs v) := ⟨_, rfl⟩
  rw [← hW1] at hconv hcell hfz
  have hold1 : ∀ k, k < w.heap.size → W1.heap[k]? = w.heap[k]? := fun k hk => by rw [hW1]; exact Lib.bytesWorld_at_old w _ _ k hk
  have hsize1 : W1.heap.size = w.heap.size + 1 := by rw [hW1]; exact Lib.bytesWorld_size w _ _
  have hcells1 : ∀ j, j < v.length → W1.cell? ⟨w.heap.size, j, none⟩ = some (.int .u8 (v.getD j 0).toNat) := fun j hj => by
    have := Lib.bytesWorld_cell w 5 (bs v) j (by omega)
    rw [bs_data] at this; rw [hW1]; exact this
  have htop : W1.os = w.os ∧ W1.tape = w.tape ∧ W1.output = w.output := by rw [hW1]; exact ⟨rfl, rfl, rfl⟩
  obtain ⟨W2, hW2⟩ : ∃ W2, W2 = W1.setCell ⟨w.heap.size, at_, none⟩ (.int .u8 ((v.getD at_ 0 ^^^ x).toNat : Nat)) := ⟨_, rfl⟩
  have hold2 : ∀ k, k < w.heap.size → W2.heap[k]? = w.heap[k]? := fun k hk => by rw [hW2, heap_set_other _ (by omega)]; exact hold1 k hk
  have hm2 : MapIs W2.drew rn s.now := hd.now.of_block (hold2 rn hd.now.lt)
  have hhead2 : W2.drew.heap[b]? = _ := (hold2 b hb).trans hd.head
  have e2 : W2.drew.cell? ⟨b, 2, none⟩ = some (.map (some rn)) := cell_of hhead2 2
  have hback : (convert 76 9 (.slice (some ⟨w.heap.size, 0, none⟩) (bs v).size (grownCap w (bs v).size 0 5))).run Tryd.prog W2.drew = .ok (.string (bs (v.set at_ (v.getD at_ 0 ^^^ x)))) W2.drew := by
    have := run_convert_bytes_back (P := Tryd.prog) W2.drew 76 9 5 ⟨w.heap.size, 0, none⟩ (grownCap w (bs v).size 0 5) (v.set at_ (v.getD at_ 0 ^^^ x)) Tryd.underlying76 Tryd.underlying5 Tryd.underlying9 (fun j hj => by
      rw [List.length_set] at hj
      have hadd : (⟨w.heap.size, 0, none⟩ : Addr).add j = ⟨w.heap.size, j, none⟩ := by unfold Addr.add; split <;> simp_all
      rw [hadd]
      show W2.cell? ⟨w.heap.size, j, none⟩ = _
      rw [hW2, List.getElem_set]
      split
      · rename_i e; subst e
        exact World.cell?_setCell_same' _ _ _ (by rw [hcells1 _ hj]; rfl)
      · rename_i e
        rw [World.cell?_setCell_other _ _ _ _ (by simp [e]), hcells1 j hj]
        simp [List.getD, hj])
    rw [List.length_set] at this
    rw [hsz]; rw [hsz] at this
    exact this
  have htot : v.length ≤ 16777216 := by have := fget_le_ftot hv; have := hi.now.tot; have := hi.room; omega
  have hvl : (v.set at_ (v.getD at_ 0 ^^^ x)).length = v.length := List.length_set
  obtain ⟨w3, hst, hm3, hg3⟩ := hm2.store (k := n) (v := v.set at_ (v.getD at_ 0 ^^^ x)) (by have := hi.now.many; simp [maxLen]; omega) hn (by rw [hvl]; simp [maxLen]; omega)
  have hh3 : w3.heap[b]? = some (.cells #[.int .i64 s.room, .map (some rs), .map (some rn), vl, vc, .int .i64 s.fuse] 61 (0, 0)) := (hg3.block b (lt_of_heap hhead2) (by have := map_ne hd.head hd.now; simp; omega)).trans hhead2
  obtain ⟨es3, ck3, he3⟩ := hm3.isMap
  have hset := settle_raw w3 b rs rn s.room s.fuse vl vc hh3 es3 ck3 he3
  have hFb : ¬ K b := hF b hd.fb
  have hFr : ¬ K rn := hF rn hd.fn
  have hs3 : w.heap.size ≤ w3.heap.size := by
    have h1 := hg3.size
    have h2 : W2.drew.heap.size = W1.heap.size := by rw [hW2]; simp [World.setCell]
    omega
  have hkeep : Keep K w w3 := by
    refine ⟨hg3.os.trans ?_, hg3.tape.trans ?_, hg3.output.trans ?_, hs3, fun k hk => ?_⟩
    · rw [hW2]; exact htop.1
    · rw [hW2]; exact htop.2.1
    · rw [hW2]; exact htop.2.2
    · have hlt := hK k hk
      have h2 : W2.drew.heap.size = W1.heap.size := by rw [hW2]; simp [World.setCell]
      exact (hg3.block k (by omega) (fun e => hFr (by simp at e; exact e ▸ hk))).trans (hold2 k hlt)
  rw [hnow] at hm3
  have hfin := fun w' hw' => @settled_raw K w w3 w' b rs rn s.room s.fuse vl vc _ hK hs3 hFb hFr hinv.hist.first hi.room hi.fuse hi.fuse' hh3 hm3 es3 ck3 he3 hw'
  have hst' : ({ s with sure := fput s.sure n (v.set at_ (v.getD at_ 0 ^^^ x)) } : DS) = { room := s.room, sure := fput s.sure n (v.set at_ (v.getD at_ 0 ^^^ x)), loose := [], fuse := s.fuse } := by rw [hl]
  rw [hst']
  have HX := Lib.hid (And.intro hfin hkeep)
  have hsetv : W1.setCell ⟨w.heap.size, at_, none⟩ (.int .u8 (((v.getD at_ 0).toNat ^^^ x.toNat : Nat) : Int)) = W2 := by rw [hW2, UInt8.toNat_xor]
  have hlen0 : (List.length ([] : List DC) : Int) = 0 := rfl
  have hget : List.getD v at_ 0 = v[at_]?.getD 0 := by simp
  rw [hget] at hcell hx hsetv hback hst HX ⊢
  generalize bs (v.set at_ (v[at_]?.getD 0 ^^^ x)) = S' at *
  generalize fput s.sure n (v.set at_ (v[at_]?.getD 0 ^^^ x)) = fs' at *
  generalize v[at_]?.getD 0 = y at *
  clear hfin hkeep hm3 he3 hh3 hst' hold1 hsize1 hcells1 htop hold2 hm2 hhead2 htot hvl hg3 hFb hFr hs3 hnewb hcs hd hF hK hi hinv hnow hW1 hW2 hb hsz hl hv hn hget
  go_enter Tryd.func27, Tryd.ntmps27
  go_wp2
  go_region
  go_wp2_with fail
  refine hset.mono ?_
  clear hset hst hback e2 hsetv hcell hx
  rintro e w4 ⟨rfl, hw4⟩
  have h4 := HX.out.1 w4 hw4
  have H := Lib.hid (And.intro h4.1 (HX.out.2.trans h4.2))
  clear h4 hw4
  go_wp2
  go_ret
  exact ⟨rfl, H.out⟩

theorem alter_spec {K : Nat → Prop} (w : World) (b : Nat) (s : DS) (n : Str) (at_ : Int) (x : UInt8) (h : Dk K w b s) (hn : n.length ≤ maxLen) :
    Calls Tryd.prog 27 #[.pointer (some ⟨b, 0, none⟩), .string (bs n), .int .i64 at_, .int .u8 x.toNat] w fun e w' => e = .returned (.int .i64 (dAlter s n at_ x).1) ∧ Then K w b (dAlter s n at_ x).2 w' := by
  cases hv : fget s.now n with
  | none =>
    have : dAlter s n at_ x = (5, s) := by unfold dAlter; rw [hv]
    rw [this]
    exact (alter_none w b s n at_ x h hn hv).mono fun e w' ⟨he, hw⟩ => ⟨he, hw ▸ ⟨h, Keep.refl _ _⟩⟩
  | some v =>
    by_cases h1 : at_ < 0 ∨ v.length ≤ at_
    · have : dAlter s n at_ x = (2, s) := by unfold dAlter; rw [hv]; simp only; rw [if_pos h1]
      rw [this]
      exact (alter_arg w b s n v at_ x h hn hv h1).mono fun e w' ⟨he, hw⟩ => ⟨he, hw ▸ ⟨h, Keep.refl _ _⟩⟩
    · by_cases h2 : s.loose ≠ []
      · have : dAlter s n at_ x = (3, s) := by unfold dAlter; rw [hv]; simp only; rw [if_neg h1, if_pos h2]
        rw [this]
        exact (alter_state w b s n v at_ x h hn hv (by omega) (by omega) h2).mono fun e w' ⟨he, hw⟩ => ⟨he, hw ▸ ⟨h, Keep.refl _ _⟩⟩
      · have : dAlter s n at_ x = (0, { s with sure := fput s.sure n (v.set at_.toNat (v.getD at_.toNat 0 ^^^ x)) }) := by unfold dAlter; rw [hv]; simp only; rw [if_neg h1, if_neg h2]
        rw [this]
        obtain ⟨j, rfl⟩ := Int.eq_ofNat_of_zero_le (by omega : 0 ≤ at_)
        exact alter_good w b s n v j x h hn hv (by omega) (by simpa using h2)
end Go.Proofs.YtmgnekaokcgmlaaDoor
