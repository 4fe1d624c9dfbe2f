/- How the disk lies in memory: what is kept, maps that read as files, the loose calls' function values, the disk's cells. -/
import Derived.Test.YtmgnekaokcgmlaaDoorFs
import Derived.Test.YtmgnekaokcgmlaaDoorRows
import Derived.WalkKit
import Derived.WalkSpells
import Derived.WalkLawsBesides
import Derived.Maps.OwnSet
import Derived.Maps.AppendAt
import Derived.Maps.StringElems
import Derived.Maps.Ext
import Derived.Maps.RangeWalk
import Derived.Lib.Hide
set_option linter.unusedSimpArgs false
set_option linter.unusedVariables false
namespace Go.Proofs.YtmgnekaokcgmlaaDoor
open Go Go.RowKit Go.Maps Go.ChangeMaps Go.WideMaps

/-- A string of these bytes. -/
def bs (l : Str) : ByteArray := ⟨l.toArray⟩
theorem bs_eta (s : ByteArray) : bs s.data.toList = s := by cases s; simp [bs]
theorem bs_data (l : Str) : (bs l).data.toList = l := by simp [bs]
theorem bs_size (l : Str) : (bs l).size = l.length := by simp [bs, ByteArray.size]
theorem bs_of (s : ByteArray) : ∃ l, s = bs l := ⟨s.data.toList, (bs_eta s).symm⟩

/-! ### what is kept -/
structure Keep (K : Nat → Prop) (w w' : World) : Prop where
  os : w'.os = w.os
  tape : w'.tape = w.tape
  output : w'.output = w.output
  size : w.heap.size ≤ w'.heap.size
  block : ∀ k, K k → w'.heap[k]? = w.heap[k]?

theorem Keep.refl (K : Nat → Prop) (w : World) : Keep K w w := ⟨rfl, rfl, rfl, Nat.le_refl _, fun _ _ => rfl⟩
theorem Keep.trans {K : Nat → Prop} {a b c : World} (h : Keep K a b) (k : Keep K b c) : Keep K a c :=
  ⟨k.os.trans h.os, k.tape.trans h.tape, k.output.trans h.output, Nat.le_trans h.size k.size, fun i hi => (k.block i hi).trans (h.block i hi)⟩
theorem Keep.mono {K L : Nat → Prop} {a b : World} (h : Keep K a b) (hl : ∀ k, L k → K k) : Keep L a b := ⟨h.os, h.tape, h.output, h.size, fun k hk => h.block k (hl k hk)⟩
theorem Keep.drew (K : Nat → Prop) (w : World) : Keep K w w.drew := ⟨rfl, rfl, rfl, Nat.le_refl _, fun _ _ => rfl⟩
theorem Keep.drewN (K : Nat → Prop) (w : World) (n : Nat) : Keep K w (w.drewN n) := ⟨rfl, rfl, rfl, Nat.le_refl _, fun _ _ => rfl⟩
theorem Keep.alloc {K : Nat → Prop} {w : World} (hK : ∀ k, K k → k < w.heap.size) (o : Obj) : Keep K w (w.alloc o) :=
  ⟨rfl, rfl, rfl, by simp, fun k hk => Below.heap_alloc w o k (hK k hk)⟩
theorem Keep.setCell {K : Nat → Prop} {w : World} {a : Addr} (ha : ¬ K a.block) (v : Value) : Keep K w (w.setCell a v) :=
  ⟨rfl, rfl, rfl, by simp [World.setCell], fun k hk => Below.heap_setCell w a v k (fun e => ha (e ▸ hk))⟩
theorem Keep.grown {K : Nat → Prop} {w w' : World} {row : Option Nat} (hg : w.grownBy w' row) (hK : ∀ k, K k → k < w.heap.size) (hr : ∀ k, row = some k → ¬ K k) : Keep K w w' :=
  ⟨hg.os, hg.tape, hg.output, hg.size, fun k hk => hg.block k (hK k hk) fun e => hr k e.symm hk⟩
theorem Keep.below {w w' : World} (h : Keep (· < w.heap.size) w w') : Below w.heap.size w w' := ⟨h.os, h.tape, h.output, h.size, h.block⟩
theorem Keep.of_below {B : Nat} {w w' : World} (h : Below B w w') {K : Nat → Prop} (hK : ∀ k, K k → k < B) : Keep K w w' := ⟨h.os, h.tape, h.output, h.size, fun k hk => h.block k (hK k hk)⟩

theorem ownsMap_of_block {H : Type} {w w' : World} {P : Program} {k : TypeId} {R : Value → Option (DataW H × List MemPlace)} {b n : Nat} {D : DataW H} (h : w.ownsMap P k R b n D) (hb : w'.heap[b]? = w.heap[b]?) : w'.ownsMap P k R b n D := by
  obtain ⟨es, clock, h1, h2⟩ := h
  exact ⟨es, clock, hb.trans h1, h2⟩
theorem ownsRow_of_block {w w' : World} {base : Nat} {e : TypeId} {size : Nat} {v : Value} {n : Nat} {xs : List Value} (h : w.ownsRow base e size v n xs) (hb : ∀ g, v.ownBlock = some g → w'.heap[g]? = w.heap[g]?) : w'.ownsRow base e size v n xs := by
  obtain ⟨h1, h2⟩ := h
  refine ⟨h1, ?_⟩
  rcases h2 with h2 | ⟨g, cap, cur, hv, hg, hh, r⟩
  · exact .inl h2
  · subst hv; exact .inr ⟨g, cap, cur, rfl, hg, (hb g rfl).trans hh, r⟩

/-- A block of cells, known whole. -/
theorem cell_of {w : World} {b : Nat} {cs : Array Value} {T : TypeId} (h : w.heap[b]? = some (.cells cs T (0, 0))) (i : Nat) : w.cell? ⟨b, i, none⟩ = cs[i]? := by simp [World.cell?, h]
theorem free_of {w : World} {b : Nat} {cs : Array Value} {T : TypeId} (h : w.heap[b]? = some (.cells cs T (0, 0))) (i : Nat) : w.frozen? ⟨b, i, none⟩ = false := by simp [World.frozen?, h]
theorem heap_set {w : World} {b : Nat} {cs : Array Value} {T : TypeId} (h : w.heap[b]? = some (.cells cs T (0, 0))) (i : Nat) (v : Value) : (w.setCell ⟨b, i, none⟩ v).heap[b]? = some (.cells (cs.setIfInBounds i v) T (0, 0)) := by
  simp [World.setCell, Array.getElem?_modify, h]
theorem heap_set_other {w : World} {b k : Nat} {i : Nat} (v : Value) (hk : k ≠ b) : (w.setCell ⟨b, i, none⟩ v).heap[k]? = w.heap[k]? := Below.heap_setCell w ⟨b, i, none⟩ v k hk
theorem lt_of_heap {w : World} {b : Nat} {o : Obj} (h : w.heap[b]? = some o) : b < w.heap.size := (Array.getElem?_eq_some_iff.1 h).1
theorem heap_new (w : World) (o : Obj) : (w.alloc o).heap[w.heap.size]? = some o := (MapKept.heap_alloc w o).1

/-! ### a map that reads as files -/
def ent (p : Str × Str) : Lit × DataW Unit := (.string p.1, .lit (.string p.2))
def mapD (fs : Files) : DataW Unit := .map (fs.map ent)
def MapIs (w : World) (r : Nat) (fs : Files) : Prop := w.ownsMap Tryd.prog 9 (plainElem Tryd.prog 9) r fs.length (mapD fs)

theorem MapIs.of_block {w w' : World} {r : Nat} {fs : Files} (h : MapIs w r fs) (hb : w'.heap[r]? = w.heap[r]?) : MapIs w' r fs := ownsMap_of_block h hb
theorem MapIs.lt {w : World} {r : Nat} {fs : Files} (h : MapIs w r fs) : r < w.heap.size := World.ownsMap.lt h
theorem MapIs.isMap {w : World} {r : Nat} {fs : Files} (h : MapIs w r fs) : ∃ es clock, w.heap[r]? = some (.map es clock) := by
  obtain ⟨es, clock, h, _⟩ := h; exact ⟨es, clock, h⟩
theorem strKey : Keyed Tryd.prog 9 := string_keyed Tryd.underlying9
theorem mapD_size (fs : Files) : Maps.size (mapD fs) = fs.length := by simp [mapD, size_eq]
theorem ownsMap_exact {w : World} {r n : Nat} {D : DataW Unit} {R : Value → Option (DataW Unit × List MemPlace)} {P : Program} {k : TypeId} (h : w.ownsMap P k R r n D) : w.ownsMap P k R r (Maps.size D) D := by
  obtain ⟨es, clock, hb, F, hs, rfl⟩ := h
  exact ⟨es, clock, hb, F, by rw [size_eq, length_sorted]; simp, rfl⟩
theorem MapIs.of_owns {w : World} {r n : Nat} {fs : Files} (h : w.ownsMap Tryd.prog 9 (plainElem Tryd.prog 9) r n (mapD fs)) : MapIs w r fs := by
  have := ownsMap_exact h
  rw [mapD_size] at this
  exact this

theorem mapD_insert (x : Str × Str) : ∀ l : Files, DataW.insert (ent x) (l.map ent) = (fins x l).map ent
  | [] => rfl
  | y :: r => by
    show (if bytesBefore x.1 y.1 = true then ent x :: ent y :: r.map ent else ent y :: DataW.insert (ent x) (r.map ent)) = (if bytesBefore x.1 y.1 = true then x :: y :: r else y :: fins x r).map ent
    by_cases h : bytesBefore x.1 y.1 = true
    · rw [if_pos h, if_pos h]; rfl
    · rw [if_neg h, if_neg h, mapD_insert x r]; rfl
theorem mapD_filter (k : Str) (l : Files) : (l.map ent).filter (fun p => !p.1.sameKey (.string k)) = (fdel l k).map ent := by
  induction l with
  | nil => rfl
  | cons p l ih =>
    unfold fdel at *
    have e : (ent p).1.sameKey (.string k) = (p.1 == k) := rfl
    rw [List.map_cons, List.filter_cons, List.filter_cons, e]
    by_cases h : (p.1 == k) = true
    · rw [h]; exact ih
    · have h' : (p.1 == k) = false := by simpa using h
      rw [h']; simp only [Bool.not_false, if_true, List.map_cons]; rw [ih]
theorem mapD_put (fs : Files) (k v : Str) : (mapD fs).put (.string k) (.lit (.string v)) = mapD (fput fs k v) := by
  show DataW.map (DataW.insert (ent (k, v)) ((fs.map ent).filter fun p => !p.1.sameKey (.string k))) = DataW.map ((fins (k, v) (fdel fs k)).map ent)
  rw [mapD_filter, mapD_insert]
theorem mapD_del (fs : Files) (k : Str) : (mapD fs).del (.string k) = mapD (fdel fs k) := by
  show DataW.map ((fs.map ent).filter fun p => !p.1.sameKey (.string k)) = DataW.map ((fdel fs k).map ent)
  rw [mapD_filter]
theorem mapD_has (fs : Files) (k : Str) : Maps.has (mapD fs) (.string k) = fhas fs k := by
  simp only [mapD, has_eq, fhas]
  induction fs with
  | nil => rfl
  | cons p l ih => simp only [List.map_cons, List.any_cons, ih]; rfl
theorem mapD_at (fs : Files) (k : Str) (z : Str) : (mapD fs).atKey (.string k) (.lit (.string z)) = .lit (.string ((fget fs k).getD z)) := by
  simp only [mapD, DataW.atKey]
  induction fs with
  | nil => rfl
  | cons p l ih =>
    have e : (ent p).1.sameKey (.string k) = (p.1 == k) := rfl
    rw [List.map_cons, List.find?_cons, fget_cons, e]
    by_cases h : p.1 = k
    · have : (p.1 == k) = true := by simpa using h
      rw [this, if_pos h]; rfl
    · have : (p.1 == k) = false := by simpa using h
      rw [this, if_neg h]
      exact ih

theorem zeroStr (w : World) : (zeroValue 9).run Tryd.prog w = .ok (.string (bs [])) w := by kernel_rfl
theorem keyStr {k : Str} (h : k.length ≤ maxLen) : keyOf Tryd.prog 9 (.string (bs k)) = some (.string k) := by
  have := keyOf_string_mk (P := Tryd.prog) (k := 9) (s := bs k) Tryd.underlying9 (by rw [bs_size]; exact h)
  rw [bs_data] at this; exact this
theorem elemStr {v : Str} (h : v.length ≤ maxLen) : plainElem (H := Unit) Tryd.prog 9 (.string (bs v)) = some (.lit (.string v), []) := by
  have := plainElem_string (H := Unit) (P := Tryd.prog) (e := 9) (s := bs v) Tryd.underlying9 (by rw [bs_size]; exact h)
  rw [bs_data] at this; exact this
theorem elemStr_inv {v : Value} {z : DataW Unit × List MemPlace} (h : plainElem Tryd.prog 9 v = some z) : ∃ s : Str, v = .string (bs s) ∧ z = (.lit (.string s), []) ∧ s.length ≤ maxLen := by
  obtain ⟨s, h1, h2, h3⟩ := plainElem_string_inv (H := Unit) (P := Tryd.prog) (e := 9) Tryd.underlying9 h
  exact ⟨s.data.toList, by rw [bs_eta]; exact h1, h2, by rw [← bs_size, bs_eta]; exact h3⟩

/-- 'f[name]'. -/
theorem MapIs.look {w : World} {r : Nat} {fs : Files} (h : MapIs w r fs) {k : Str} (hk : k.length ≤ maxLen) :
    (Instr.lookup 57 (.map (some r)) (.string (bs k)) false).run Tryd.prog w = .ok (.string (bs ((fget fs k).getD []))) w := by
  obtain ⟨v, ps, hr, hv⟩ := World.ownsMap.lookup (H := Unit) h strKey Tryd.underlying57 (zeroStr w) (elemStr (v := []) (Nat.zero_le _)) (keyStr hk)
  rw [mapD_at] at hv
  obtain ⟨s, rfl, h2, _⟩ := elemStr_inv hv
  simp only [Prod.mk.injEq, DataW.lit.injEq, Lit.string.injEq] at h2
  rw [← h2.1] at hr
  exact hr
/-- 'f[name]' with ok. -/
theorem MapIs.look_ok {w : World} {r : Nat} {fs : Files} (h : MapIs w r fs) {k : Str} (hk : k.length ≤ maxLen) :
    (Instr.lookup 57 (.map (some r)) (.string (bs k)) true).run Tryd.prog w = .ok (.tuple #[.string (bs ((fget fs k).getD [])), .bool (fhas fs k)]) w := by
  obtain ⟨v, ps, hr, hv⟩ := World.ownsMap.look_ok (H := Unit) h strKey Tryd.underlying57 (zeroStr w) (elemStr (v := []) (Nat.zero_le _)) (keyStr hk)
  rw [mapD_at] at hv
  obtain ⟨s, rfl, h2, _⟩ := elemStr_inv hv
  simp only [Prod.mk.injEq, DataW.lit.injEq, Lit.string.injEq] at h2
  rw [← h2.1, mapD_has] at hr
  exact hr
theorem MapIs.len {w : World} {r : Nat} {fs : Files} (h : MapIs w r fs) (ty : TypeId) : (Builtin.len_ #[57] ty #[.map (some r)]).run Tryd.prog w = .ok (.int .i64 fs.length) w := by
  have := World.ownsMap.len (H := Unit) h Tryd.underlying57 ty
  rw [mapD_size] at this
  exact this
/-- 'f[name] = v'. -/
theorem MapIs.store {w : World} {r : Nat} {fs : Files} (h : MapIs w r fs) (hn : fs.length < maxLen) {k v : Str} (hk : k.length ≤ maxLen) (hv : v.length ≤ maxLen) :
    ∃ w', (Instr.mapUpdate 57 (.map (some r)) (.string (bs k)) (.string (bs v))).run Tryd.prog w = .ok () w' ∧ MapIs w' r (fput fs k v) ∧ w.grownBy w' (some r) := by
  obtain ⟨w', hr, ho, hg⟩ := World.ownsMap.update (H := Unit) h strKey Tryd.underlying57 hn (keyStr hk) (elemStr hv)
  rw [mapD_put] at ho
  exact ⟨w', hr, MapIs.of_owns ho, hg⟩
/-- 'delete(f, name)'. -/
theorem MapIs.drop {w : World} {r : Nat} {fs : Files} (h : MapIs w r fs) {k : Str} (hk : k.length ≤ maxLen) (ty : TypeId) :
    ∃ w', (Builtin.delete_ #[57, 9] ty #[.map (some r), .string (bs k)]).run Tryd.prog w = .ok (.tuple #[]) w' ∧ MapIs w' r (fdel fs k) ∧ w.grownBy w' (some r) := by
  obtain ⟨w', hr, ho, hg⟩ := World.ownsMap.drop (H := Unit) h strKey Tryd.underlying57 (keyStr hk) ty
  rw [mapD_del] at ho
  exact ⟨w', hr, MapIs.of_owns ho, hg.grown⟩
theorem MapIs.made (w : World) : MapIs (w.alloc (.map #[] 0)) w.heap.size [] := World.ownsMap_made w Tryd.prog 9 _

/-! ### the calls that are loose -/
def Box (w : World) (x : Nat) (v : Value) (T : TypeId) : Prop := w.heap[x]? = some (.cells #[v] T (0, 0))
def CallAt (w : World) (G : Nat → Prop) (v : Value) : DC → Prop
  | .app n d => ∃ x y, v = .func (.func 30) #[] #[.pointer (some ⟨x, 0, none⟩), .pointer (some ⟨y, 0, none⟩)] ∧ Box w x (.string (bs n)) 9 ∧ Box w y (.string (bs d)) 9 ∧ G x ∧ G y
  | .cut n k => ∃ x y, v = .func (.func 31) #[] #[.pointer (some ⟨x, 0, none⟩), .pointer (some ⟨y, 0, none⟩)] ∧ Box w x (.string (bs n)) 9 ∧ Box w y (.int .i64 k) 3 ∧ G x ∧ G y
  | .ren a b => ∃ x y, v = .func (.func 32) #[] #[.pointer (some ⟨x, 0, none⟩), .pointer (some ⟨y, 0, none⟩)] ∧ Box w x (.string (bs a)) 9 ∧ Box w y (.string (bs b)) 9 ∧ G x ∧ G y
  | .rem n => ∃ x, v = .func (.func 33) #[] #[.pointer (some ⟨x, 0, none⟩)] ∧ Box w x (.string (bs n)) 9 ∧ G x
theorem CallAt.kept {w w' : World} {G G' : Nat → Prop} {v : Value} {c : DC} (h : CallAt w G v c) (hg : ∀ x, G x → w'.heap[x]? = w.heap[x]?) (hG : ∀ x, G x → G' x) : CallAt w' G' v c := by
  cases c with
  | app n d => obtain ⟨x, y, h1, h2, h3, h4, h5⟩ := h; exact ⟨x, y, h1, (hg x h4).trans h2, (hg y h5).trans h3, hG x h4, hG y h5⟩
  | cut n d => obtain ⟨x, y, h1, h2, h3, h4, h5⟩ := h; exact ⟨x, y, h1, (hg x h4).trans h2, (hg y h5).trans h3, hG x h4, hG y h5⟩
  | ren n d => obtain ⟨x, y, h1, h2, h3, h4, h5⟩ := h; exact ⟨x, y, h1, (hg x h4).trans h2, (hg y h5).trans h3, hG x h4, hG y h5⟩
  | rem n => obtain ⟨x, h1, h2, h4⟩ := h; exact ⟨x, h1, (hg x h4).trans h2, hG x h4⟩

def cutVal (c : DC) : Value := .int .i64 (if c.isApp then 1 else 0)

structure DiskIn (w : World) (F : Nat → Prop) (b : Nat) (s : DS) (rs rn : Nat) (vl vc : Value) (xs : List Value) : Prop where
  head : w.heap[b]? = some (.cells #[.int .i64 s.room, .map (some rs), .map (some rn), vl, vc, .int .i64 s.fuse] 61 (0, 0))
  sure : MapIs w rs s.sure
  now : MapIs w rn s.now
  ne : rs ≠ rn
  loose : w.ownsRow 0 70 1 vl s.loose.length xs
  cuts : w.ownsRow 0 3 1 vc s.loose.length (s.loose.map cutVal)
  calls : ∀ (i : Nat) (c : DC), s.loose[i]? = some c → ∃ v, xs[i]? = some v ∧ CallAt w (fun x => F x ∧ vl.ownBlock ≠ some x ∧ vc.ownBlock ≠ some x) v c
  fb : F b
  fs : F rs
  fn : F rn
  fl : ∀ g, vl.ownBlock = some g → F g
  fc : ∀ g, vc.ownBlock = some g → F g

theorem DiskIn.kept {w w' : World} {F : Nat → Prop} {b : Nat} {s : DS} {rs rn : Nat} {vl vc : Value} {xs : List Value} (h : DiskIn w F b s rs rn vl vc xs) (hF : ∀ k, F k → w'.heap[k]? = w.heap[k]?) : DiskIn w' F b s rs rn vl vc xs :=
  ⟨(hF b h.fb).trans h.head, h.sure.of_block (hF rs h.fs), h.now.of_block (hF rn h.fn), h.ne, ownsRow_of_block h.loose fun g hg => hF g (h.fl g hg), ownsRow_of_block h.cuts fun g hg => hF g (h.fc g hg),
    fun i c hc => (h.calls i c hc).elim fun v hva => ⟨v, hva.1, hva.2.kept (fun x hx => hF x hx.1) (fun _ hx => hx)⟩, h.fb, h.fs, h.fn, h.fl, h.fc⟩

/-- A disk lies at b, in state s, and nothing of it lies in K. -/
def Dk (K : Nat → Prop) (w : World) (b : Nat) (s : DS) : Prop :=
  Inv s ∧ (∀ k, K k → k < w.heap.size) ∧ ∃ F rs rn vl vc xs, DiskIn w F b s rs rn vl vc xs ∧ ∀ k, F k → ¬ K k

theorem DiskIn.ltF {w : World} {F : Nat → Prop} {b : Nat} {s : DS} {rs rn : Nat} {vl vc : Value} {xs : List Value} (h : DiskIn w F b s rs rn vl vc xs) : DiskIn w (fun k => F k ∧ k < w.heap.size) b s rs rn vl vc xs := by
  have hrow : ∀ {e : TypeId} {v : Value} {n : Nat} {ys : List Value}, w.ownsRow 0 e 1 v n ys → ∀ g, v.ownBlock = some g → g < w.heap.size := fun h g hg => (h.lt g hg).2
  refine ⟨h.head, h.sure, h.now, h.ne, h.loose, h.cuts, fun i c hc => ?_, ⟨h.fb, lt_of_heap h.head⟩, ⟨h.fs, h.sure.lt⟩, ⟨h.fn, h.now.lt⟩, fun g hg => ⟨h.fl g hg, hrow h.loose g hg⟩, fun g hg => ⟨h.fc g hg, hrow h.cuts g hg⟩⟩
  obtain ⟨v, hv, ha⟩ := h.calls i c hc
  refine ⟨v, hv, ?_⟩
  cases c with
  | app n d => obtain ⟨x, y, h1, h2, h3, h4, h5⟩ := ha; exact ⟨x, y, h1, h2, h3, ⟨⟨h4.1, lt_of_heap h2⟩, h4.2⟩, ⟨⟨h5.1, lt_of_heap h3⟩, h5.2⟩⟩
  | cut n d => obtain ⟨x, y, h1, h2, h3, h4, h5⟩ := ha; exact ⟨x, y, h1, h2, h3, ⟨⟨h4.1, lt_of_heap h2⟩, h4.2⟩, ⟨⟨h5.1, lt_of_heap h3⟩, h5.2⟩⟩
  | ren n d => obtain ⟨x, y, h1, h2, h3, h4, h5⟩ := ha; exact ⟨x, y, h1, h2, h3, ⟨⟨h4.1, lt_of_heap h2⟩, h4.2⟩, ⟨⟨h5.1, lt_of_heap h3⟩, h5.2⟩⟩
  | rem n => obtain ⟨x, h1, h2, h4⟩ := ha; exact ⟨x, h1, h2, ⟨⟨h4.1, lt_of_heap h2⟩, h4.2⟩⟩

/-- The same disk, in a world in which what it has lies as it lay. -/
theorem Dk.later {K L : Nat → Prop} {w w' : World} {b : Nat} {s : DS} (h : Dk K w b s) (hs : w.heap.size ≤ w'.heap.size) (hb : ∀ k, k < w.heap.size → ¬ K k → w'.heap[k]? = w.heap[k]?)
    (hL : ∀ k, L k → k < w'.heap.size ∧ (K k ∨ w.heap.size ≤ k)) : Dk L w' b s := by
  obtain ⟨hi, hK, F, rs, rn, vl, vc, xs, hd, hF⟩ := h
  refine ⟨hi, fun k hk => (hL k hk).1, _, rs, rn, vl, vc, xs, hd.ltF.kept fun k hk => hb k hk.2 (hF k hk.1), ?_⟩
  rintro k ⟨hk, hk'⟩ hl
  rcases (hL k hl).2 with h | h
  · exact hF k hk h
  · omega
/-- More is kept: whatever is new. -/
theorem Dk.more {K : Nat → Prop} {w : World} {b : Nat} {s : DS} (h : Dk K w b s) (o : Obj) : Dk (fun k => K k ∨ k = w.heap.size) (w.alloc o) b s :=
  h.later (by simp) (fun k hk _ => Below.heap_alloc w o k hk) fun k hk => by
    rcases hk with hk | rfl
    · exact ⟨by have := h.2.1 k hk; simp; omega, .inl hk⟩
    · exact ⟨by simp, .inr (Nat.le_refl _)⟩
theorem Dk.below {K : Nat → Prop} {w w' : World} {b : Nat} {s : DS} (h : Dk K w b s) (hb : Below w.heap.size w w') : Dk K w' b s :=
  h.later hb.size (fun k hk _ => hb.block k hk) fun k hk => ⟨Nat.lt_of_lt_of_le (h.2.1 k hk) hb.size, .inl hk⟩
theorem Dk.inv {K : Nat → Prop} {w : World} {b : Nat} {s : DS} (h : Dk K w b s) : Inv s := h.1
theorem Dk.lt {K : Nat → Prop} {w : World} {b : Nat} {s : DS} (h : Dk K w b s) : ∀ k, K k → k < w.heap.size := h.2.1
theorem Dk.less {K L : Nat → Prop} {w : World} {b : Nat} {s : DS} (h : Dk K w b s) (hL : ∀ k, L k → K k) : Dk L w b s := by
  obtain ⟨hi, hK, F, rs, rn, vl, vc, xs, hd, hF⟩ := h
  exact ⟨hi, fun k hk => hK k (hL k hk), F, rs, rn, vl, vc, xs, hd, fun k hk hl => hF k hk (hL k hl)⟩
/-- What a method leaves. -/
def Then (K : Nat → Prop) (w : World) (b : Nat) (s : DS) (w' : World) : Prop := Dk K w' b s ∧ Keep K w w'

end Go.Proofs.YtmgnekaokcgmlaaDoor
