/- Left: the bytes that are free. Loose, Fuse, Read. -/
import Derived.Test.YtmgnekaokcgmlaaDoorDoes2
set_option linter.unusedSimpArgs false
set_option linter.unusedVariables false
namespace Go.Proofs.YtmgnekaokcgmlaaDoor
open Go Go.RowKit Go.Maps Go.WideMaps

def leftTot (left : Lit → Bool) (fs : Files) : Nat := ftot (fs.filter fun p => left (.string p.1))
theorem leftTot_none {left : Lit → Bool} (h : ∀ k, left k = false) (fs : Files) : leftTot left fs = 0 := by
  unfold leftTot
  rw [List.filter_eq_nil_iff.2 (fun p _ => by simp [h])]; rfl
theorem leftTot_all {fs : Files} : leftTot (Maps.has (mapD fs)) fs = ftot fs := by
  unfold leftTot
  rw [List.filter_eq_self.2 fun p hp => ?_]
  rw [mapD_has]
  exact List.any_eq_true.2 ⟨p, hp, by simp⟩
theorem leftTot_strike {left : Lit → Bool} {k v : Str} : ∀ {fs : Files}, Rising fs → fget fs k = some v → left (.string k) = true → leftTot (fun z => left z && !z.sameKey (.string k)) fs + v.length = leftTot left fs
  | [], _, h, _ => by cases h
  | p :: l, hr, h, hl => by
    obtain ⟨h1, h2⟩ := List.pairwise_cons.1 hr
    have e : ∀ q : Str × Str, (Lit.string q.1).sameKey (.string k) = (q.1 == k) := fun _ => rfl
    rw [fget_cons] at h
    split at h
    · rename_i ek
      cases h
      have hrest : l.filter (fun q => left (.string q.1) && !(Lit.string q.1).sameKey (.string k)) = l.filter fun q => left (.string q.1) := by
        refine List.filter_congr fun q hq => ?_
        have : (q.1 == k) = false := by rw [← ek]; simpa using (before_ne (h1 q hq)).symm
        rw [e, this]; simp
      unfold leftTot
      have hpk : left (.string p.1) = true := by rw [ek]; exact hl
      have hpp : (Lit.string p.1).sameKey (.string k) = true := by rw [ek]; simp [Lit.sameKey]
      simp only [List.filter_cons, hrest, hpk, hpp]
      simp [ftot_cons]; omega
    · rename_i ek
      have ih := leftTot_strike (left := left) h2 h hl
      unfold leftTot at *
      have : (p.1 == k) = false := by simpa using ek
      simp only [List.filter_cons, e, this] at ih ⊢
      cases hp : left (.string p.1)
      · simpa using ih
      · simp [ftot_cons]; omega
theorem leftTot_le {left : Lit → Bool} : ∀ {fs : Files}, leftTot left fs ≤ ftot fs
  | [] => Nat.le_refl _
  | p :: l => by
    have ih := leftTot_le (left := left) (fs := l)
    unfold leftTot at *
    rw [List.filter_cons]
    split
    · rw [ftot_cons, ftot_cons]; omega
    · rw [ftot_cons]; omega

theorem ret_int {k : IntKind} {a b : Int} (h : a = b) : Ending.returned (.int k a) = .returned (.int k b) := by rw [h]

theorem keyStr_inv {key : Value} {kl : Lit} (h : keyOf Tryd.prog 9 key = some kl) : ∃ x : Str, key = .string (bs x) ∧ kl = .string x := by
  have := Tryd.underlying9
  cases key <;> simp [keyOf, this, mapKey] at h
  rename_i s
  exact ⟨s.data.toList, by rw [bs_eta], h.2.symm⟩

/-- A key of the map is a file's name, and its element that file's bytes. -/
theorem at_of {fs : Files} {x c : Str} {kl : Lit} {y : DataW Unit × List MemPlace} (hk : keyOf Tryd.prog 9 (.string (bs x)) = some kl) (hv : plainElem (H := Unit) Tryd.prog 9 (.string (bs c)) = some y) (hat : ∀ zd, (mapD fs).atKey kl zd = y.1) :
    kl = .string x ∧ fget fs x = some c := by
  obtain ⟨x', hx, rfl⟩ := keyStr_inv hk
  obtain rfl : x = x' := by have := congrArg (fun v => match v with | .string s => s.data.toList | _ => []) hx; simpa [bs_data] using this
  refine ⟨rfl, ?_⟩
  obtain ⟨s, hs, rfl, _⟩ := elemStr_inv hv
  obtain rfl : c = s := by have := congrArg (fun v => match v with | .string s => s.data.toList | _ => []) hs; simpa [bs_data] using this
  cases e : fget fs x with
  | some u =>
    have := hat (.lit (.string []))
    rw [mapD_at, e] at this
    simp only [Option.getD_some, DataW.lit.injEq, Lit.string.injEq] at this
    rw [this]
  | none =>
    have h1 := hat (.lit (.string [0]))
    have h2 := hat (.lit (.string []))
    rw [mapD_at, e] at h1 h2
    rw [← h2] at h1
    simp at h1

set_option maxRecDepth 100000 in
set_option maxHeartbeats 1000000 in
theorem left_spec {K : Nat → Prop} (w : World) (b : Nat) (s : DS) (h : Dk K w b s) :
    Calls Tryd.prog 20 #[.pointer (some ⟨b, 0, none⟩)] w fun e w' => e = .returned (.int .i64 s.left) ∧ Below w.heap.size w w' := by
  have hi := h.inv
  obtain ⟨_, hK, F, rs, rn, vl, vc, xs, hd, hF⟩ := h
  obtain ⟨c0, -, c2, -, -, -⟩ := hd.cells
  have hm := Lib.hid hd.now
  have hrise := Lib.hid hi.now.rising
  have htot := hi.now.tot
  have hroom := hi.room
  have hleft : s.left = s.room - ftot s.now := rfl
  rw [hleft]
  clear hleft hi hd hF hK
  generalize s.now = fs at *
  generalize s.room = room at *
  go_enter Tryd.func20, Tryd.ntmps20
  go_wp2_with (at_range; refine wpList_range_own _ rfl _ 57 rfl 9 9 strKey Tryd.underlying57 (plainElem (H := Unit) Tryd.prog 9) rn fs.length (mapD fs) rfl hm.out ?_; intro w0 hrg0 hg0 hs0)
  go_frame
  go_loopw [3] (fun n wr => ∃ (left : Lit → Bool) (cnt m : Nat), wr.ranges Tryd.prog 9 (plainElem (H := Unit) Tryd.prog 9) rn w.heap.size fs.length (mapD fs) left cnt ∧ Below w.heap.size w wr ∧ n = .int .i64 m ∧ m + ftot fs = room + leftTot left fs) (fun n wr => wr.rangeLeft rn w.heap.size)
  case atStart => exact ⟨_, _, room, hrg0, ⟨hg0.os, hg0.tape, hg0.output, hg0.size, fun k hk => hg0.block k hk (by simp)⟩, rfl, by rw [leftTot_all]⟩
  case round =>
    obtain ⟨left, cnt, m, hrg, hB, rfl, hm'⟩ := hrel
    have hlt := leftTot_le (left := left) (fs := fs)
    have hM := Lib.hid hm'
    have hmb : m ≤ room := by omega
    clear hm'
    go_wp2_with (at_next; refine wpList_next_ranges _ rfl _ rfl 9 strKey (plainElem (H := Unit) Tryd.prog 9) (fun x : Str => .string (bs x)) (fun x : Str => .string (bs x)) (fun key kl h => (keyStr_inv h).imp fun _ h => h.1) (fun v y h => (elemStr_inv h).imp fun _ h => h.1) rn w.heap.size fs.length (mapD fs) left cnt rfl hrg (fun hc0 hl0 => hold ?_) (fun x c kl y w1 cnt1 hkx hlx hRc hat hrg1 hlt1 hg1 hs1 hen => hold ?_))
    · rename_i hc0 hl0
      refine unhold ?_
      have hz := leftTot_none hl0 fs
      go_wp2
      go_ret
      exact ⟨ret_int (by have := hM.out; omega), hB⟩
    · refine unhold ?_
      obtain ⟨rfl, hget⟩ := at_of hkx hRc hat
      have hst := leftTot_strike hrise.out hget hlx
      have hcl := fget_le_ftot hget
      have hcs : (bs c).size = c.length := bs_size c
      have hmc : c.length ≤ m := by have := hM.out; omega
      have HS := Lib.hid hst
      clear hst
      have HX := Lib.hid (And.intro hkx (And.intro hlx (And.intro hRc hget)))
      clear hkx hlx hRc hget hat
      go_wp2
      go_roundw
      case rel => exact ⟨_, cnt1, m - c.length, hrg1, hB.grown hg1 hB.size (fun k e => by cases e; exact Nat.le_refl _), by congr 1; omega, by have := hM.out; have := HS.out; omega⟩
      case measure => rw [hrg1.left_eq, hrg.left_eq]; omega
end Go.Proofs.YtmgnekaokcgmlaaDoor
