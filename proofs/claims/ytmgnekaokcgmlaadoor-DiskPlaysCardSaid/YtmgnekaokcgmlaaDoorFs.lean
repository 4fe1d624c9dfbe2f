/- The plain law of the disk: files as a rising list of names with bytes, the calls that are loose, the disk's state, and what each call answers. No program stands here. -/
import GoSem.ClaimWide
set_option linter.unusedSimpArgs false
set_option linter.unusedVariables false
namespace Go.Proofs.YtmgnekaokcgmlaaDoor
open Go

abbrev Str := List UInt8
abbrev Files := List (Str × Str)

def fins (x : Str × Str) : Files → Files
  | [] => [x]
  | y :: r => if bytesBefore x.1 y.1 then x :: y :: r else y :: fins x r
def fdel (fs : Files) (k : Str) : Files := fs.filter fun p => !(p.1 == k)
def fput (fs : Files) (k v : Str) : Files := fins (k, v) (fdel fs k)
def fget (fs : Files) (k : Str) : Option Str := (fs.find? fun p => p.1 == k).map (·.2)
def fhas (fs : Files) (k : Str) : Bool := fs.any fun p => p.1 == k
def ftot (fs : Files) : Nat := (fs.map (·.2.length)).sum
def Rising (fs : Files) : Prop := fs.Pairwise fun p q => bytesBefore p.1 q.1 = true

theorem before_irrefl : ∀ a : Str, bytesBefore a a = false
  | [] => rfl
  | a :: r => by simp [bytesBefore, before_irrefl r]

theorem before_trans : ∀ {a b c : Str}, bytesBefore a b = true → bytesBefore b c = true → bytesBefore a c = true
  | [], b, c, h1, h2 => by cases b <;> cases c <;> simp_all [bytesBefore]
  | x :: a, [], c, h1, h2 => by simp [bytesBefore] at h1
  | x :: a, y :: b, [], h1, h2 => by simp [bytesBefore] at h2
  | x :: a, y :: b, z :: c, h1, h2 => by
    simp only [bytesBefore, Bool.or_eq_true, Bool.and_eq_true, decide_eq_true_eq, beq_iff_eq] at *
    rcases h1 with h1 | ⟨rfl, h1⟩
    · rcases h2 with h2 | ⟨rfl, h2⟩
      · exact .inl (by simp only [UInt8.lt_iff_toNat_lt] at *; omega)
      · exact .inl h1
    · rcases h2 with h2 | ⟨rfl, h2⟩
      · exact .inl h2
      · exact .inr ⟨rfl, before_trans h1 h2⟩

theorem before_total : ∀ {a b : Str}, a ≠ b → bytesBefore a b = false → bytesBefore b a = true
  | [], [], h, _ => absurd rfl h
  | [], _ :: _, _, h => by simp [bytesBefore] at h
  | _ :: _, [], _, _ => rfl
  | x :: a, y :: b, h, h1 => by
    simp only [bytesBefore, Bool.or_eq_true, Bool.and_eq_true, decide_eq_true_eq, beq_iff_eq, Bool.or_eq_false_iff, decide_eq_false_iff_not, Bool.and_eq_false_iff, beq_eq_false_iff_ne] at *
    obtain ⟨h1, h2⟩ := h1
    by_cases e : x = y
    · subst e
      refine .inr ⟨rfl, before_total (fun e => h (by rw [e])) ?_⟩
      rcases h2 with h2 | h2
      · exact absurd rfl h2
      · exact h2
    · refine .inl ?_
      simp only [UInt8.lt_iff_toNat_lt] at *
      have : x.toNat ≠ y.toNat := fun e' => e (UInt8.toNat_inj.1 e')
      omega

theorem before_ne {a b : Str} (h : bytesBefore a b = true) : a ≠ b := fun e => by subst e; rw [before_irrefl] at h; cases h

theorem mem_fins {x p : Str × Str} : ∀ {l : Files}, p ∈ fins x l ↔ p = x ∨ p ∈ l
  | [] => by simp [fins]
  | y :: r => by
    unfold fins
    split
    · simp
    · simp [mem_fins (l := r)]; constructor
      · rintro (h | h | h) <;> simp [h]
      · rintro (h | h | h) <;> simp [h]

theorem rising_fins {x : Str × Str} : ∀ {l : Files}, Rising l → (∀ p ∈ l, p.1 ≠ x.1) → Rising (fins x l)
  | [], _, _ => by simp [fins, Rising]
  | y :: r, h, hne => by
    unfold Rising at *
    obtain ⟨h1, h2⟩ := List.pairwise_cons.1 h
    unfold fins
    split
    · rename_i hb
      refine List.pairwise_cons.2 ⟨fun p hp => ?_, h⟩
      rcases List.mem_cons.1 hp with rfl | hp
      · exact hb
      · exact before_trans hb (h1 p hp)
    · rename_i hb
      refine List.pairwise_cons.2 ⟨fun p hp => ?_, rising_fins h2 fun p hp => hne p (List.mem_cons_of_mem _ hp)⟩
      rcases mem_fins.1 hp with rfl | hp
      · exact before_total (fun e => hne y (by simp) e.symm) (by simpa using hb)
      · exact h1 p hp

theorem rising_fdel {l : Files} (h : Rising l) (k : Str) : Rising (fdel l k) := List.Pairwise.filter _ h
theorem mem_fdel {l : Files} {k : Str} {p : Str × Str} : p ∈ fdel l k ↔ p ∈ l ∧ p.1 ≠ k := by simp [fdel]
theorem rising_fput {l : Files} (h : Rising l) (k v : Str) : Rising (fput l k v) := rising_fins (rising_fdel h k) fun p hp => (mem_fdel.1 hp).2

theorem fget_nil (k : Str) : fget [] k = none := rfl
theorem fget_cons (p : Str × Str) (l : Files) (k : Str) : fget (p :: l) k = if p.1 = k then some p.2 else fget l k := by
  by_cases h : p.1 = k <;> simp [fget, List.find?_cons, h]
theorem fhas_eq (l : Files) (k : Str) : fhas l k = (fget l k).isSome := by
  induction l with
  | nil => rfl
  | cons p l ih => rw [fget_cons]; by_cases h : p.1 = k <;> simp_all [fhas]

theorem fget_fins_same (k v : Str) : ∀ l : Files, (∀ p ∈ l, p.1 ≠ k) → fget (fins (k, v) l) k = some v
  | [], _ => by simp [fins, fget_cons]
  | y :: r, h => by
    unfold fins
    split
    · simp [fget_cons]
    · rw [fget_cons, if_neg (h y (by simp)), fget_fins_same k v r fun p hp => h p (List.mem_cons_of_mem _ hp)]
theorem fget_fins_other (k v : Str) {j : Str} (hj : j ≠ k) : ∀ l : Files, fget (fins (k, v) l) j = fget l j
  | [] => by simp [fins, fget_cons, fget_nil, Ne.symm hj]
  | y :: r => by
    unfold fins
    split
    · rw [fget_cons]; simp [Ne.symm hj]
    · rw [fget_cons, fget_cons, fget_fins_other k v hj r]
theorem fget_fdel_same (l : Files) (k : Str) : fget (fdel l k) k = none := by
  induction l with
  | nil => rfl
  | cons p l ih =>
    unfold fdel at *
    by_cases h : p.1 = k
    · simp [List.filter_cons, h, ih]
    · simp [List.filter_cons, h, fget_cons, ih]
theorem fget_fdel_other (l : Files) {j k : Str} (hj : j ≠ k) : fget (fdel l k) j = fget l j := by
  induction l with
  | nil => rfl
  | cons p l ih =>
    unfold fdel at *
    by_cases h : p.1 = k
    · rw [fget_cons, if_neg (fun e => hj (e.symm.trans h))]; simp [List.filter_cons, h, ih]
    · simp [List.filter_cons, h, fget_cons, ih]
theorem fget_fput_same (l : Files) (k v : Str) : fget (fput l k v) k = some v := fget_fins_same k v _ fun _ hp => (mem_fdel.1 hp).2
theorem fget_fput_other (l : Files) {j k : Str} (v : Str) (hj : j ≠ k) : fget (fput l k v) j = fget l j := by
  rw [fput, fget_fins_other k v hj, fget_fdel_other l hj]

theorem fget_mem {l : Files} {k v : Str} (h : fget l k = some v) : (k, v) ∈ l := by
  induction l with
  | nil => cases h
  | cons p l ih =>
    rw [fget_cons] at h
    split at h
    · rename_i e; cases h; subst e; exact List.mem_cons_self
    · exact List.mem_cons_of_mem _ (ih h)
theorem fget_of_mem {l : Files} (hs : Rising l) {k v : Str} (h : (k, v) ∈ l) : fget l k = some v := by
  induction l with
  | nil => cases h
  | cons p l ih =>
    obtain ⟨h1, h2⟩ := List.pairwise_cons.1 hs
    rw [fget_cons]
    rcases List.mem_cons.1 h with rfl | h
    · simp
    · rw [if_neg (before_ne (h1 _ h)), ih h2 h]

/-- Two rising lists with the same answers are one. -/
theorem rising_ext : ∀ {l m : Files}, Rising l → Rising m → (∀ k, fget l k = fget m k) → l = m
  | [], [], _, _, _ => rfl
  | [], q :: m, _, _, h => by have := h q.1; rw [fget_cons] at this; simp [fget_nil] at this
  | p :: l, [], _, _, h => by have := h p.1; rw [fget_cons] at this; simp [fget_nil] at this
  | p :: l, q :: m, hl, hm, h => by
    obtain ⟨l1, l2⟩ := List.pairwise_cons.1 hl
    obtain ⟨m1, m2⟩ := List.pairwise_cons.1 hm
    have hpq : p.1 = q.1 := by
      have hp : (p.1, p.2) ∈ q :: m := fget_mem (by rw [← h, fget_cons, if_pos rfl])
      have hq : (q.1, q.2) ∈ p :: l := fget_mem (by rw [h, fget_cons, if_pos rfl])
      rcases List.mem_cons.1 hp with e | hp
      · rw [← e]
      · rcases List.mem_cons.1 hq with e | hq
        · rw [← e]
        · have a1 := m1 _ hp
          have a2 := l1 _ hq
          have := before_trans a1 a2
          rw [before_irrefl] at this; cases this
    have h0 := h p.1
    rw [fget_cons, if_pos rfl, fget_cons, if_pos hpq.symm] at h0
    have e : p = q := Prod.ext hpq (by simpa using h0)
    subst e
    congr 1
    refine rising_ext l2 m2 fun k => ?_
    have hk := h k
    rw [fget_cons, fget_cons] at hk
    by_cases e : p.1 = k
    · subst e
      have n1 : fget l p.1 = none := by
        cases e1 : fget l p.1 with
        | none => rfl
        | some v => exact absurd rfl (before_ne (l1 (p.1, v) (fget_mem e1)))
      have n2 : fget m p.1 = none := by
        cases e1 : fget m p.1 with
        | none => rfl
        | some v => exact absurd rfl (before_ne (m1 (p.1, v) (fget_mem e1)))
      rw [n1, n2]
    · simpa [e] using hk

theorem ftot_cons (p : Str × Str) (l : Files) : ftot (p :: l) = p.2.length + ftot l := by simp [ftot]
theorem ftot_fins (x : Str × Str) : ∀ l : Files, ftot (fins x l) = x.2.length + ftot l
  | [] => by simp [fins, ftot]
  | y :: r => by
    unfold fins
    split
    · simp [ftot_cons]
    · rw [ftot_cons, ftot_fins x r, ftot_cons]; omega
theorem length_fins (x : Str × Str) : ∀ l : Files, (fins x l).length = l.length + 1
  | [] => rfl
  | y :: r => by
    unfold fins
    split
    · simp
    · simp [length_fins x r]
theorem ftot_fdel {l : Files} (h : Rising l) (k : Str) : ftot (fdel l k) + ((fget l k).getD []).length = ftot l := by
  induction l with
  | nil => rfl
  | cons p l ih =>
    obtain ⟨h1, h2⟩ := List.pairwise_cons.1 h
    by_cases e : p.1 = k
    · subst e
      have n1 : fdel l p.1 = l := List.filter_eq_self.2 fun q hq => by simpa using (before_ne (h1 q hq)).symm
      have : fdel (p :: l) p.1 = l := by rw [← n1]; simp [fdel, List.filter_cons]
      rw [this, ftot_cons, fget_cons, if_pos rfl]; simp; omega
    · have : fdel (p :: l) k = p :: fdel l k := by simp [fdel, List.filter_cons, e]
      rw [this, ftot_cons, ftot_cons, fget_cons, if_neg e]
      have := ih h2
      omega
theorem length_fdel {l : Files} (h : Rising l) (k : Str) : (fdel l k).length + (if fhas l k then 1 else 0) = l.length := by
  induction l with
  | nil => rfl
  | cons p l ih =>
    obtain ⟨h1, h2⟩ := List.pairwise_cons.1 h
    by_cases e : p.1 = k
    · subst e
      have n1 : fdel l p.1 = l := List.filter_eq_self.2 fun q hq => by simpa using (before_ne (h1 q hq)).symm
      have : fdel (p :: l) p.1 = l := by rw [← n1]; simp [fdel, List.filter_cons]
      rw [this]; simp [fhas]
    · have : fdel (p :: l) k = p :: fdel l k := by simp [fdel, List.filter_cons, e]
      rw [this]
      have := ih h2
      have e2 : fhas (p :: l) k = fhas l k := by simp [fhas, e]
      rw [e2]; simp; omega
theorem ftot_fput {l : Files} (h : Rising l) (k v : Str) : ftot (fput l k v) + ((fget l k).getD []).length = v.length + ftot l := by
  have := ftot_fdel h k
  rw [fput, ftot_fins]; simp; omega
theorem length_fput {l : Files} (h : Rising l) (k v : Str) : (fput l k v).length + (if fhas l k then 1 else 0) = l.length + 1 := by
  have := length_fdel h k
  rw [fput, length_fins]; omega
theorem fget_le_ftot {l : Files} {k v : Str} (h : fget l k = some v) : v.length ≤ ftot l := by
  induction l with
  | nil => cases h
  | cons p l ih =>
    rw [fget_cons] at h
    rw [ftot_cons]
    split at h
    · cases h; omega
    · have := ih h; omega
theorem getD_le_ftot (l : Files) (k : Str) : ((fget l k).getD []).length ≤ ftot l := by
  cases h : fget l k with
  | none => simp
  | some v => simpa using fget_le_ftot h

/-! ### the calls that are loose, and the disk -/
inductive DC where
  | app (n d : Str)
  | cut (n : Str) (k : Nat)
  | ren (a b : Str)
  | rem (n : Str)

def DC.run : DC → Files → Files
  | .app n d, fs => fput fs n ((fget fs n).getD [] ++ d)
  | .cut n k, fs => fput fs n (((fget fs n).getD []).take k)
  | .ren a b, fs => fput (fdel fs a) b ((fget fs a).getD [])
  | .rem n, fs => fdel fs n
def DC.runs (fs : Files) (l : List DC) : Files := l.foldl (fun fs c => c.run fs) fs
def DC.isApp : DC → Bool
  | .app _ _ => true
  | _ => false

structure DS where
  room : Nat
  sure : Files
  loose : List DC
  fuse : Int
def DS.now (s : DS) : Files := DC.runs s.sure s.loose
def DS.left (s : DS) : Int := s.room - ftot s.now

def okByte (c : UInt8) : Bool := (97 ≤ c && c ≤ 122) || (48 ≤ c && c ≤ 57) || c == 46 || c == 45 || c == 95
def nameOk (s : Str) : Bool := !s.isEmpty && decide (s.length ≤ 32) && s.all okByte

/-- What holds of files at any time. -/
structure FOk (room : Nat) (fs : Files) : Prop where
  rising : Rising fs
  tot : ftot fs ≤ room
  many : fs.length ≤ 64
  names : ∀ p ∈ fs, p.1.length ≤ 32
def DC.ok : DC → Files → Prop
  | .app n _, _ => n.length ≤ 32
  | .cut n k, fs => fhas fs n = true ∧ k ≤ ((fget fs n).getD []).length
  | .ren a b, fs => fhas fs a = true ∧ a.length ≤ 32 ∧ b.length ≤ 32
  | .rem n, fs => fhas fs n = true ∧ n.length ≤ 32
/-- The files were fine all along the loose calls. -/
def Hist (room : Nat) : Files → List DC → Prop
  | fs, [] => FOk room fs
  | fs, c :: l => FOk room fs ∧ c.ok fs ∧ Hist room (c.run fs) l

theorem Hist.first {room : Nat} {fs : Files} {l : List DC} (h : Hist room fs l) : FOk room fs := by
  cases l with
  | nil => exact h
  | cons c l => exact h.1
theorem Hist.last {room : Nat} : ∀ {fs : Files} {l : List DC}, Hist room fs l → FOk room (DC.runs fs l)
  | _, [], h => h
  | fs, c :: l, h => Hist.last (fs := c.run fs) (l := l) h.2.2
theorem Hist.snoc {room : Nat} {c : DC} : ∀ {fs : Files} {l : List DC}, Hist room fs l → c.ok (DC.runs fs l) → FOk room (c.run (DC.runs fs l)) → Hist room fs (l ++ [c])
  | _, [], h, h1, h2 => ⟨h, h1, h2⟩
  | fs, d :: l, h, h1, h2 => ⟨h.1, h.2.1, Hist.snoc (fs := d.run fs) (l := l) h.2.2 h1 h2⟩
theorem runs_snoc (fs : Files) (l : List DC) (c : DC) : DC.runs fs (l ++ [c]) = c.run (DC.runs fs l) := by simp [DC.runs]

structure Inv (s : DS) : Prop where
  room : s.room ≤ 16777216
  fuse : -1 ≤ s.fuse
  fuse' : s.fuse ≤ 9223372036854775807
  hist : Hist s.room s.sure s.loose
theorem Inv.now {s : DS} (h : Inv s) : FOk s.room s.now := h.hist.last
theorem Inv.left {s : DS} (h : Inv s) : 0 ≤ s.left ∧ s.left ≤ 16777216 := by
  have := h.now.tot; have := h.room; unfold DS.left; omega

/-! ### what each call answers -/
def DS.burn (s : DS) : DS := if 0 < s.fuse then { s with fuse := s.fuse - 1 } else s
theorem DS.now_burn (s : DS) : s.burn.now = s.now := by unfold DS.burn; split <;> rfl
theorem DS.left_burn (s : DS) : s.burn.left = s.left := by unfold DS.burn; split <;> rfl
theorem Inv.burn {s : DS} (h : Inv s) : Inv s.burn := by
  unfold DS.burn
  split
  · exact ⟨h.room, by have := h.fuse; show -1 ≤ s.fuse - 1; omega, by have := h.fuse'; show s.fuse - 1 ≤ _; omega, h.hist⟩
  · exact h
def DS.push (s : DS) (c : DC) : DS := { s with loose := s.loose ++ [c] }
theorem DS.now_push (s : DS) (c : DC) : (s.push c).now = c.run s.now := runs_snoc _ _ _
theorem Inv.push {s : DS} (h : Inv s) {c : DC} (h1 : c.ok s.now) (h2 : FOk s.room (c.run s.now)) : Inv (s.push c) :=
  ⟨h.room, h.fuse, h.fuse', h.hist.snoc h1 h2⟩

theorem names_fput {l : Files} (h : ∀ p ∈ l, p.1.length ≤ 32) {k : Str} (hk : k.length ≤ 32) (v : Str) : ∀ p ∈ fput l k v, p.1.length ≤ 32 := fun p hp => by
  rcases mem_fins.1 hp with rfl | hp
  · exact hk
  · exact h p (mem_fdel.1 hp).1
theorem names_fdel {l : Files} (h : ∀ p ∈ l, p.1.length ≤ 32) (k : Str) : ∀ p ∈ fdel l k, p.1.length ≤ 32 := fun p hp => h p (mem_fdel.1 hp).1
theorem FOk.del {room : Nat} {fs : Files} (h : FOk room fs) (k : Str) : FOk room (fdel fs k) :=
  ⟨rising_fdel h.rising k, by have := ftot_fdel h.rising k; have := h.tot; omega, by have := length_fdel h.rising k; have := h.many; omega, names_fdel h.names k⟩
theorem fok_app {room : Nat} {fs : Files} (h : FOk room fs) {n d : Str} (hn : n.length ≤ 32) (hd : d.length + ftot fs ≤ room) (hm : fhas fs n = true ∨ fs.length < 64) : FOk room ((DC.app n d).run fs) := by
  have h1 := ftot_fput h.rising n ((fget fs n).getD [] ++ d)
  have h2 := length_fput h.rising n ((fget fs n).getD [] ++ d)
  have h3 := h.many
  refine ⟨rising_fput h.rising _ _, ?_, ?_, names_fput h.names hn _⟩
  · show ftot (fput fs n ((fget fs n).getD [] ++ d)) ≤ room
    rw [List.length_append] at h1; omega
  · show (fput fs n ((fget fs n).getD [] ++ d)).length ≤ 64
    rcases hm with hm | hm
    · rw [hm] at h2; simp at h2; omega
    · split at h2 <;> omega
theorem fok_cut {room : Nat} {fs : Files} (h : FOk room fs) {n : Str} (hn : fhas fs n = true) (k : Nat) : FOk room ((DC.cut n k).run fs) := by
  have h1 := ftot_fput h.rising n (((fget fs n).getD []).take k)
  have h2 := length_fput h.rising n (((fget fs n).getD []).take k)
  have h3 := h.many
  have h4 := h.tot
  have hl : (((fget fs n).getD []).take k).length ≤ ((fget fs n).getD []).length := by rw [List.length_take]; omega
  have hn' : ∃ v, fget fs n = some v := by rw [fhas_eq] at hn; exact Option.isSome_iff_exists.1 hn
  obtain ⟨v, hv⟩ := hn'
  have hlen : n.length ≤ 32 := h.names _ (fget_mem hv)
  refine ⟨rising_fput h.rising _ _, ?_, ?_, names_fput h.names hlen _⟩
  · show ftot (fput fs n (((fget fs n).getD []).take k)) ≤ room
    omega
  · show (fput fs n (((fget fs n).getD []).take k)).length ≤ 64
    rw [hn] at h2; simp at h2; omega
theorem fok_ren {room : Nat} {fs : Files} (h : FOk room fs) {a b : Str} (ha : fhas fs a = true) (hb : b.length ≤ 32) : FOk room ((DC.ren a b).run fs) := by
  have hd := rising_fdel h.rising a
  have h0 := ftot_fdel h.rising a
  have h0' := length_fdel h.rising a
  have h1 := ftot_fput hd b ((fget fs a).getD [])
  have h2 := length_fput hd b ((fget fs a).getD [])
  have h3 := h.many
  have h4 := h.tot
  rw [ha] at h0'
  refine ⟨rising_fput hd _ _, ?_, ?_, names_fput (names_fdel h.names a) hb _⟩
  · show ftot (fput (fdel fs a) b ((fget fs a).getD [])) ≤ room
    omega
  · show (fput (fdel fs a) b ((fget fs a).getD [])).length ≤ 64
    simp at h0'; omega

def dAppend (s : DS) (n d : Str) : Int × DS :=
  if s.fuse = 0 then (60, s)
  else if nameOk n = false then (2, s.burn)
  else if s.left < d.length ∨ (fhas s.now n = false ∧ 64 ≤ s.now.length) then (6, s.burn)
  else (0, s.burn.push (.app n d))
def dCut (s : DS) (n : Str) (k : Int) : Int × DS :=
  if s.fuse = 0 then (60, s)
  else if fhas s.now n = false then (5, s.burn)
  else if k < 0 ∨ ((fget s.now n).getD []).length < k then (2, s.burn)
  else (0, s.burn.push (.cut n k.toNat))
def dRename (s : DS) (a b : Str) : Int × DS :=
  if s.fuse = 0 then (60, s)
  else if fhas s.now a = false then (5, s.burn)
  else if nameOk b = false then (2, s.burn)
  else (0, s.burn.push (.ren a b))
def dRemove (s : DS) (n : Str) : Int × DS :=
  if s.fuse = 0 then (60, s)
  else if fhas s.now n = false then (5, s.burn)
  else (0, s.burn.push (.rem n))
def DS.settle (s : DS) : DS := { s with sure := s.now, loose := [] }
def dSync (s : DS) : Int × DS := if s.fuse = 0 then (60, s) else (0, s.burn.settle)
def dRead (s : DS) (n : Str) : Str × Int :=
  if s.fuse = 0 then ([], 60) else match fget s.now n with
    | none => ([], 5)
    | some v => (v, 0)
def dFuse (s : DS) (n : Int) : DS := { s with fuse := max n (-1) }
def crashCall : Option DC → Int → Files → Files
  | some (.app n d), bytes, fs => (DC.app n (d.take bytes.toNat)).run fs
  | _, _, fs => fs
def crashFiles (s : DS) (calls bytes : Int) : Files :=
  if calls < 0 then s.sure else crashCall s.loose[calls.toNat]? bytes (DC.runs s.sure (s.loose.take calls.toNat))
def dCrash (s : DS) (calls bytes : Int) : DS := { room := s.room, sure := crashFiles s calls bytes, loose := [], fuse := -1 }
def dAlter (s : DS) (n : Str) (at_ : Int) (by_ : UInt8) : Int × DS :=
  match fget s.now n with
  | none => (5, s)
  | some v =>
    if at_ < 0 ∨ v.length ≤ at_ then (2, s)
    else if s.loose ≠ [] then (3, s)
    else (0, { s with sure := fput s.sure n (v.set at_.toNat (v.getD at_.toNat 0 ^^^ by_)) })

theorem fhas_of_get {l : Files} {n v : Str} (h : fget l n = some v) : fhas l n = true := by rw [fhas_eq, h]; rfl
theorem nameOk_len {n : Str} (h : nameOk n = true) : n.length ≤ 32 := by
  simp only [nameOk, Bool.and_eq_true, decide_eq_true_eq] at h; exact h.1.2
theorem Inv.append {s : DS} (h : Inv s) (n d : Str) : Inv (dAppend s n d).2 := by
  unfold dAppend
  split
  · exact h
  split
  · exact h.burn
  split
  · exact h.burn
  · rename_i h1 h2 h3
    have hn := nameOk_len (by simpa using h2)
    have hf := h.burn.now
    rw [DS.now_burn] at hf
    have hroom : s.burn.room = s.room := by unfold DS.burn; split <;> rfl
    refine h.burn.push (by rw [DS.now_burn]; exact hn) ?_
    rw [DS.now_burn]
    refine fok_app hf hn ?_ ?_
    · have : ¬ s.left < d.length := fun e => h3 (.inl e)
      unfold DS.left at this; rw [hroom]; omega
    · cases e : fhas s.now n with
      | true => exact .inl rfl
      | false => exact .inr (by have : ¬ 64 ≤ s.now.length := fun e' => h3 (.inr ⟨e, e'⟩); omega)
theorem Inv.cut {s : DS} (h : Inv s) (n : Str) (k : Int) : Inv (dCut s n k).2 := by
  unfold dCut
  split
  · exact h
  split
  · exact h.burn
  split
  · exact h.burn
  · rename_i h1 h2 h3
    have hf := h.burn.now
    rw [DS.now_burn] at hf
    refine h.burn.push (by rw [DS.now_burn]; exact ⟨by simpa using h2, by omega⟩) ?_
    rw [DS.now_burn]
    exact fok_cut hf (by simpa using h2) _
theorem Inv.has_len {s : DS} (h : Inv s) {n : Str} (hn : fhas s.now n = true) : n.length ≤ 32 := by
  rw [fhas_eq] at hn
  obtain ⟨v, hv⟩ := Option.isSome_iff_exists.1 hn
  exact h.now.names _ (fget_mem hv)
theorem Inv.rename {s : DS} (h : Inv s) (a b : Str) : Inv (dRename s a b).2 := by
  unfold dRename
  split
  · exact h
  split
  · exact h.burn
  split
  · exact h.burn
  · rename_i h1 h2 h3
    have hf := h.burn.now
    rw [DS.now_burn] at hf
    have h2' : fhas s.now a = true := by simpa using h2
    have hb := nameOk_len (n := b) (by simpa using h3)
    refine h.burn.push (by rw [DS.now_burn]; exact ⟨h2', h.has_len h2', hb⟩) ?_
    rw [DS.now_burn]
    exact fok_ren hf h2' hb
theorem Inv.remove {s : DS} (h : Inv s) (n : Str) : Inv (dRemove s n).2 := by
  unfold dRemove
  split
  · exact h
  split
  · exact h.burn
  · rename_i h1 h2
    have hf := h.burn.now
    rw [DS.now_burn] at hf
    have h2' : fhas s.now n = true := by simpa using h2
    refine h.burn.push (by rw [DS.now_burn]; exact ⟨h2', h.has_len h2'⟩) ?_
    rw [DS.now_burn]
    exact hf.del n
theorem Inv.settle {s : DS} (h : Inv s) : Inv s.settle := ⟨h.room, h.fuse, h.fuse', h.now⟩
theorem Inv.sync {s : DS} (h : Inv s) : Inv (dSync s).2 := by
  unfold dSync
  split
  · exact h
  · exact h.burn.settle
theorem Inv.setFuse {s : DS} (h : Inv s) {n : Int} (hn : n ≤ 9223372036854775807) : Inv (dFuse s n) := ⟨h.room, by show -1 ≤ max n (-1); omega, by show max n (-1) ≤ _; omega, h.hist⟩

theorem Hist.take {room : Nat} : ∀ {fs : Files} {l : List DC} (k : Nat), Hist room fs l → FOk room (DC.runs fs (l.take k))
  | _, [], k, h => by rw [List.take_nil]; exact h
  | _, _ :: _, 0, h => h.1
  | fs, c :: l, k + 1, h => Hist.take (fs := c.run fs) (l := l) k h.2.2
theorem Hist.at {room : Nat} : ∀ {fs : Files} {l : List DC} {k : Nat} {c : DC}, Hist room fs l → l[k]? = some c → c.ok (DC.runs fs (l.take k)) ∧ FOk room (c.run (DC.runs fs (l.take k)))
  | _, [], k, c, h, e => by simp at e
  | _, d :: l, 0, c, h, e => by
    obtain rfl : d = c := by simpa using e
    exact ⟨h.2.1, h.2.2.first⟩
  | fs, d :: l, k + 1, c, h, e => Hist.at (fs := d.run fs) (l := l) h.2.2 (by simpa using e)
theorem fok_part {room : Nat} {fs : Files} (h : FOk room fs) {n d : Str} (h1 : (DC.app n d).ok fs) (h2 : FOk room ((DC.app n d).run fs)) (k : Nat) : FOk room ((DC.app n (d.take k)).run fs) := by
  have a1 := ftot_fput h.rising n ((fget fs n).getD [] ++ d)
  have a2 := h2.tot
  have a3 := length_fput h.rising n ((fget fs n).getD [] ++ d)
  have a4 := h2.many
  have b1 := ftot_fput h.rising n ((fget fs n).getD [] ++ d.take k)
  have b3 := length_fput h.rising n ((fget fs n).getD [] ++ d.take k)
  have hl : (d.take k).length ≤ d.length := by rw [List.length_take]; omega
  have e1 : ftot ((DC.app n d).run fs) = ftot (fput fs n ((fget fs n).getD [] ++ d)) := rfl
  have e2 : ((DC.app n d).run fs).length = (fput fs n ((fget fs n).getD [] ++ d)).length := rfl
  rw [List.length_append] at a1 b1
  refine ⟨rising_fput h.rising _ _, ?_, ?_, names_fput h.names h1 _⟩
  · show ftot (fput fs n ((fget fs n).getD [] ++ d.take k)) ≤ room
    omega
  · show (fput fs n ((fget fs n).getD [] ++ d.take k)).length ≤ 64
    omega
theorem Inv.crashFiles {s : DS} (h : Inv s) (calls bytes : Int) : FOk s.room (crashFiles s calls bytes) := by
  unfold Go.Proofs.YtmgnekaokcgmlaaDoor.crashFiles
  split
  · exact h.hist.first
  · have h1 := h.hist.take calls.toNat
    cases e : s.loose[calls.toNat]? with
    | none => exact h1
    | some c =>
      obtain ⟨h2, h3⟩ := h.hist.at e
      cases c with
      | app n d => exact fok_part h1 h2 h3 _
      | _ => exact h1
theorem Inv.crash {s : DS} (h : Inv s) (calls bytes : Int) : Inv (dCrash s calls bytes) :=
  ⟨h.room, by show (-1 : Int) ≤ -1; omega, by show (-1 : Int) ≤ _; omega, h.crashFiles calls bytes⟩
theorem Inv.alter {s : DS} (h : Inv s) (n : Str) (at_ : Int) (b : UInt8) : Inv (dAlter s n at_ b).2 := by
  unfold dAlter
  split
  · exact h
  · rename_i v hv
    split
    · exact h
    split
    · exact h
    · rename_i h1 h2
      have hl : s.loose = [] := by simpa using h2
      have hnow : s.now = s.sure := by unfold DS.now; rw [hl]; rfl
      rw [hnow] at hv
      have hf : FOk s.room s.sure := h.hist.first
      refine ⟨h.room, h.fuse, h.fuse', ?_⟩
      show Hist s.room (fput s.sure n (v.set at_.toNat (v.getD at_.toNat 0 ^^^ b))) s.loose
      rw [hl]
      generalize v.getD at_.toNat 0 ^^^ b = x
      have a1 := ftot_fput hf.rising n (v.set at_.toNat x)
      have a3 := length_fput hf.rising n (v.set at_.toNat x)
      have a4 := hf.many
      have a5 := hf.tot
      rw [hv, List.length_set] at a1
      rw [fhas_of_get hv] at a3
      simp at a1 a3
      exact ⟨rising_fput hf.rising _ _, by omega, by omega, names_fput hf.names (hf.names _ (fget_mem hv)) _⟩

end Go.Proofs.YtmgnekaokcgmlaaDoor
