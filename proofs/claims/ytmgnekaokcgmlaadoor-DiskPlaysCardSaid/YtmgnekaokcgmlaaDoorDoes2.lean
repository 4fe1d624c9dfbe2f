/- The disk's 'does': a call is done now, and is loose. -/
import Derived.Test.YtmgnekaokcgmlaaDoorDoes
import Derived.RangeFuncBox
set_option linter.unusedSimpArgs false
set_option linter.unusedVariables false
namespace Go.Proofs.YtmgnekaokcgmlaaDoor
open Go Go.RowKit Go.Maps
theorem infoCall : (Tryd.prog.info? 70).map (fun i => (i.zero, i.size, i.bytes)) = some (some .nilFunc, 1, 8) := by kernel_rfl
theorem infoInt : (Tryd.prog.info? 3).map (fun i => (i.zero, i.size, i.bytes)) = some (some (.int .i64 0), 1, 8) := by kernel_rfl

def CallR (w : World) (r : Nat) (fs : Files) (e : Ending) (w' : World) : Prop := e = .returned (.tuple #[]) ∧ MapIs w' r fs ∧ w.grownBy w' (some r)
/-- A loose call, done whole. -/
theorem call_whole {w : World} {G : Nat → Prop} {v : Value} {c : DC} {r room : Nat} {fs : Files} (hc : CallAt w G v c) (hm : MapIs w r fs) (hok : c.ok fs) (h0 : FOk room fs) (h1 : FOk room (c.run fs)) (hr : room ≤ 16777216) :
    (∃ x y, v = .func (.func 30) #[] #[.pointer (some ⟨x, 0, none⟩), .pointer (some ⟨y, 0, none⟩)] ∧ Calls Tryd.prog 30 #[.map (some r), .int .i64 1099511627776, .pointer (some ⟨x, 0, none⟩), .pointer (some ⟨y, 0, none⟩)] w (CallR w r (c.run fs))) ∨
    (∃ x y, v = .func (.func 31) #[] #[.pointer (some ⟨x, 0, none⟩), .pointer (some ⟨y, 0, none⟩)] ∧ Calls Tryd.prog 31 #[.map (some r), .int .i64 1099511627776, .pointer (some ⟨x, 0, none⟩), .pointer (some ⟨y, 0, none⟩)] w (CallR w r (c.run fs))) ∨
    (∃ x y, v = .func (.func 32) #[] #[.pointer (some ⟨x, 0, none⟩), .pointer (some ⟨y, 0, none⟩)] ∧ Calls Tryd.prog 32 #[.map (some r), .int .i64 1099511627776, .pointer (some ⟨x, 0, none⟩), .pointer (some ⟨y, 0, none⟩)] w (CallR w r (c.run fs))) ∨
    (∃ x, v = .func (.func 33) #[] #[.pointer (some ⟨x, 0, none⟩)] ∧ Calls Tryd.prog 33 #[.map (some r), .int .i64 1099511627776, .pointer (some ⟨x, 0, none⟩)] w (CallR w r (c.run fs))) := by
  have hv : ∀ n, ((fget fs n).getD []).length ≤ 16777216 := fun n => by have := getD_le_ftot fs n; have := h0.tot; omega
  cases c with
  | app n d =>
    obtain ⟨x, y, e, hx, hy, -, -⟩ := hc
    refine .inl ⟨x, y, e, ?_⟩
    have hd : ((fget fs n).getD []).length + d.length ≤ 16777216 := by
      have a1 := ftot_fput h0.rising n ((fget fs n).getD [] ++ d)
      have a2 : ftot (fput fs n ((fget fs n).getD [] ++ d)) ≤ room := h1.tot
      have a3 := getD_le_ftot fs n
      rw [List.length_append] at a1
      omega
    have := app_call w r x y fs n d 1099511627776 hm hx hy (by omega) (by omega) hok hd h0.many
    rw [List.take_of_length_le (by omega)] at this
    exact this
  | cut n k =>
    obtain ⟨x, y, e, hx, hy, -, -⟩ := hc
    refine .inr (.inl ⟨x, y, e, ?_⟩)
    obtain ⟨u, hu⟩ : ∃ u, fget fs n = some u := Option.isSome_iff_exists.1 (by rw [← fhas_eq]; exact hok.1)
    exact cut_call w r x y fs n k _ hm hx hy (h0.names _ (fget_mem hu)) hok.2 (hv n) h0.many
  | ren a b =>
    obtain ⟨x, y, e, hx, hy, -, -⟩ := hc
    refine .inr (.inr (.inl ⟨x, y, e, ?_⟩))
    exact ren_call w r x y fs a b _ hm hx hy hok.2.1 hok.2.2 (hv a) (h0.del a).many
  | rem n =>
    obtain ⟨x, e, hx, -⟩ := hc
    refine .inr (.inr (.inr ⟨x, e, ?_⟩))
    exact rem_call w r x fs n _ hm hx hok.2

/-- A goal held back: the walk stops there. -/
def Held (p : Prop) : Prop := p
theorem hold {p : Prop} (h : Held p) : p := h
theorem unhold {p : Prop} (h : p) : Held p := h

theorem after_grown {w w' : World} {row : Option Nat} {b : Nat} {o p : Obj} (h : w.heap[b]? = some p) (hg : (w.alloc o).grownBy w' row) (hr : row ≠ some b) : w'.heap[b]? = some p :=
  (hg.block b (by have := lt_of_heap h; simp; omega) fun e => hr e.symm).trans ((Below.heap_alloc w o b (lt_of_heap h)).trans h)

theorem ownBlock_lt {w : World} {e : TypeId} {v : Value} {n : Nat} {xs : List Value} (h : w.ownsRow 0 e 1 v n xs) {g : Nat} (hg : v.ownBlock = some g) : g < w.heap.size := (h.lt g hg).2
theorem row_apart {w : World} {e e' : TypeId} {v v' : Value} {n n' : Nat} {xs xs' : List Value} (h : w.ownsRow 0 e 1 v n xs) (h' : w.ownsRow 0 e' 1 v' n' xs') (he : e ≠ e') {g : Nat} (hg : v.ownBlock = some g) : v'.ownBlock ≠ some g := by
  intro hg'
  rcases h.2 with ⟨rfl, _⟩ | ⟨g1, cap, cur, rfl, _, hh, _⟩
  · cases hg
  · rcases h'.2 with ⟨rfl, _⟩ | ⟨g2, cap2, cur2, rfl, _, hh2, _⟩
    · cases hg'
    · obtain rfl : g1 = g := by simpa [Value.ownBlock] using hg
      obtain rfl : g2 = g1 := by simpa [Value.ownBlock] using hg'
      rw [hh] at hh2; cases hh2; exact he rfl
theorem row_map {w : World} {e : TypeId} {v : Value} {n r : Nat} {xs : List Value} {fs : Files} (h : w.ownsRow 0 e 1 v n xs) (hm : MapIs w r fs) : v.ownBlock ≠ some r := by
  intro hg
  obtain ⟨es, ck, hm⟩ := hm.isMap
  rcases h.2 with ⟨rfl, _⟩ | ⟨g1, cap, cur, rfl, _, hh, _⟩
  · cases hg
  · obtain rfl : g1 = r := by simpa [Value.ownBlock] using hg
    rw [hh] at hm; cases hm

theorem CallAt.notMap {w : World} {G : Nat → Prop} {v : Value} {c : DC} {r : Nat} {fs : Files} (h : CallAt w G v c) (hm : MapIs w r fs) : CallAt w (fun x => G x ∧ x ≠ r ∧ x < w.heap.size) v c := by
  have key : ∀ {x : Nat} {u : Value} {T : TypeId}, Box w x u T → x ≠ r ∧ x < w.heap.size := fun {x u T} hx => by
    refine ⟨?_, lt_of_heap hx⟩
    rintro rfl
    obtain ⟨es, ck, hm⟩ := hm.isMap
    unfold Box at hx; rw [hx] at hm; cases hm
  cases c with
  | app n d => obtain ⟨x, y, e, hx, hy, gx, gy⟩ := h; exact ⟨x, y, e, hx, hy, ⟨gx, key hx⟩, ⟨gy, key hy⟩⟩
  | cut n d => obtain ⟨x, y, e, hx, hy, gx, gy⟩ := h; exact ⟨x, y, e, hx, hy, ⟨gx, key hx⟩, ⟨gy, key hy⟩⟩
  | ren n d => obtain ⟨x, y, e, hx, hy, gx, gy⟩ := h; exact ⟨x, y, e, hx, hy, ⟨gx, key hx⟩, ⟨gy, key hy⟩⟩
  | rem n => obtain ⟨x, e, hx, gx⟩ := h; exact ⟨x, e, hx, ⟨gx, key hx⟩⟩

theorem does_close {K B F : Nat → Prop} {w w1 w2 w3 w4 : World} {b : Nat} {s : DS} {c : DC} {v vl vc v2 v4 : Value} {rs rn : Nat} {xs : List Value} {o1 o2 : Obj} {q : Int}
    (hi : Inv s) (hK : ∀ k, K k ∨ B k → k < w.heap.size) (hd : DiskIn w F b s rs rn vl vc xs) (hF : ∀ k, F k → ¬ (K k ∨ B k)) (hB : ∀ x, B x → ¬ K x) (hc : CallAt w B v c) (hok : c.ok s.now) (hfo : FOk s.room (c.run s.now)) (hq : cutVal c = .int .i64 q)
    (hm1 : MapIs w1 rn (c.run s.now)) (hg1 : w.grownBy w1 (some rn))
    (hl2 : w2.ownsRow 0 70 1 v2 (s.loose.length + 1) (xs ++ [v])) (hg2 : (w1.alloc o1).grownBy w2 vl.ownBlock) (hloc2 : v2.ownBlock = vl.ownBlock ∨ v2.ownBlock = some (w1.alloc o1).heap.size)
    (hw3 : w3 = w2.setCell ⟨b, 3, none⟩ v2)
    (hl4 : w4.ownsRow 0 3 1 v4 (s.loose.length + 1) (s.loose.map cutVal ++ [.int .i64 q])) (hg4 : (w3.alloc o2).grownBy w4 vc.ownBlock) (hloc4 : v4.ownBlock = vc.ownBlock ∨ v4.ownBlock = some (w3.alloc o2).heap.size) :
    Then K w b (s.push c) (w4.setCell ⟨b, 4, none⟩ v4) := by
  have s1 := hg1.size
  have s2 : w1.heap.size < w2.heap.size := by have := hg2.size; simp at this; omega
  have s3 : w3.heap.size = w2.heap.size := by rw [hw3]; simp [World.setCell]
  have s4 : w3.heap.size < w4.heap.size := by have := hg4.size; simp at this; omega
  have hbw := lt_of_heap hd.head
  have nbl := row_ne hd.head hd.loose (by decide)
  have nbc := row_ne hd.head hd.cuts (by decide)
  have nbn : rn ≠ b := map_ne hd.head hd.now
  -- what has not turned
  have k1 : ∀ k, k < w.heap.size → k ≠ rn → w1.heap[k]? = w.heap[k]? := fun k hk h => hg1.block k hk (by simpa using h)
  have k2 : ∀ k, k < w1.heap.size → vl.ownBlock ≠ some k → w2.heap[k]? = w1.heap[k]? := fun k hk h => (hg2.block k (by simp; omega) (fun e => h e.symm)).trans (Below.heap_alloc w1 o1 k hk)
  have k3 : ∀ k, k ≠ b → w3.heap[k]? = w2.heap[k]? := fun k hk => by rw [hw3]; exact heap_set_other _ hk
  have k4 : ∀ k, k < w3.heap.size → vc.ownBlock ≠ some k → w4.heap[k]? = w3.heap[k]? := fun k hk h => (hg4.block k (by simp; omega) (fun e => h e.symm)).trans (Below.heap_alloc w3 o2 k hk)
  have k5 : ∀ k, k ≠ b → (w4.setCell ⟨b, 4, none⟩ v4).heap[k]? = w4.heap[k]? := fun k hk => heap_set_other _ hk
  have kk : ∀ k, k < w.heap.size → k ≠ rn → k ≠ b → vl.ownBlock ≠ some k → vc.ownBlock ≠ some k → (w4.setCell ⟨b, 4, none⟩ v4).heap[k]? = w.heap[k]? := fun k hk h1 h2 h3 h4 =>
    (k5 k h2).trans ((k4 k (by omega) h4).trans ((k3 k h2).trans ((k2 k (by omega) h3).trans (k1 k hk h1))))
  have nlb : vl.ownBlock ≠ some b := fun e => nbl b e rfl
  have ncb : vc.ownBlock ≠ some b := fun e => nbc b e rfl
  have nlr : ∀ {fs r}, MapIs w r fs → vl.ownBlock ≠ some r := fun h => row_map hd.loose h
  have ncr : ∀ {fs r}, MapIs w r fs → vc.ownBlock ≠ some r := fun h => row_map hd.cuts h
  have hh4 : w4.heap[b]? = some (.cells #[.int .i64 s.room, .map (some rs), .map (some rn), v2, vc, .int .i64 s.fuse] 61 (0, 0)) := by
    rw [k4 b (by omega) ncb, hw3]
    have := heap_set (w := w2) (b := b) ((k2 b (by omega) nlb).trans ((k1 b hbw nbn.symm).trans hd.head)) 3 v2
    exact this
  have hh5 := heap_set hh4 4 v4
  have n2 : ∀ g, v2.ownBlock = some g → vl.ownBlock = some g ∨ w.heap.size ≤ g := fun g hg => by
    rcases hloc2 with e | e
    · exact .inl (e ▸ hg)
    · rw [e] at hg; simp at hg; exact .inr (by omega)
  have n4 : ∀ g, v4.ownBlock = some g → vc.ownBlock = some g ∨ w2.heap.size ≤ g := fun g hg => by
    rcases hloc4 with e | e
    · exact .inl (e ▸ hg)
    · rw [e] at hg; simp at hg; exact .inr (by omega)
  have hv24 : ∀ g, v2.ownBlock = some g → v4.ownBlock ≠ some g ∧ vc.ownBlock ≠ some g ∧ g ≠ b := fun g hg => by
    have hlt : g < w2.heap.size := ownBlock_lt hl2 hg
    have hcg : vc.ownBlock ≠ some g := fun e => by
      rcases n2 g hg with h | h
      · exact row_apart hd.loose hd.cuts (by decide) h e
      · have := ownBlock_lt hd.cuts e; omega
    refine ⟨fun e => ?_, hcg, ?_⟩
    · rcases n4 g e with h | h
      · exact hcg h
      · omega
    · rintro rfl
      rcases n2 g hg with h | h
      · exact nlb h
      · omega
  refine ⟨⟨hi.push hok hfo, fun k hk => ?_, fun k => F k ∨ B k ∨ w.heap.size ≤ k, rs, rn, v2, v4, xs ++ [v], ⟨hh5, ?_, ?_, hd.ne, ?_, ?_, ?_, .inl hd.fb, .inl hd.fs, .inl hd.fn, ?_, ?_⟩, ?_⟩, ?_⟩
  · have := hK k (.inl hk); simp [World.setCell]; omega
  · exact hd.sure.of_block (kk rs hd.sure.lt hd.ne (map_ne hd.head hd.sure) (nlr hd.sure) (ncr hd.sure))
  · rw [DS.now_push]
    exact hm1.of_block ((k5 rn nbn).trans ((k4 rn (by have := hd.now.lt; omega) (ncr hd.now)).trans ((k3 rn nbn).trans (k2 rn (by have := hd.now.lt; omega) (nlr hd.now)))))
  · have : (s.push c).loose.length = s.loose.length + 1 := by simp [DS.push]
    rw [this]
    refine ownsRow_of_block hl2 fun g hg => ?_
    obtain ⟨_, hcg, hgb⟩ := hv24 g hg
    exact (k5 g hgb).trans ((k4 g (by have := ownBlock_lt hl2 hg; omega) hcg).trans (k3 g hgb))
  · have e1 : (s.push c).loose.length = s.loose.length + 1 := by simp [DS.push]
    have e2 : (s.push c).loose.map cutVal = s.loose.map cutVal ++ [.int .i64 q] := by simp [DS.push, hq]
    rw [e1, e2]
    refine ownsRow_of_block hl4 fun g hg => k5 g ?_
    rintro rfl
    rcases n4 g hg with h | h
    · exact ncb h
    · omega
  · intro i c' hc'
    have hbox : ∀ x, x < w.heap.size → vl.ownBlock ≠ some x → vc.ownBlock ≠ some x → v2.ownBlock ≠ some x ∧ v4.ownBlock ≠ some x := fun x hx h1 h2 => by
      refine ⟨fun e => ?_, fun e => ?_⟩
      · rcases n2 x e with h | h
        · exact h1 h
        · omega
      · rcases n4 x e with h | h
        · exact h2 h
        · omega
    have hxl : xs.length = s.loose.length := by have := hd.loose.1; omega
    rw [show (s.push c).loose = s.loose ++ [c] from rfl, List.getElem?_append] at hc'
    split at hc'
    · rename_i hlt
      obtain ⟨u, hu, ha⟩ := hd.calls i c' hc'
      refine ⟨u, by rw [List.getElem?_append_left (by omega)]; exact hu, ?_⟩
      refine ((ha.notMap hd.now).ne hd.head (by decide) (by decide)).kept ?_ ?_
      · rintro x ⟨⟨⟨hx, h1, h2⟩, h3, h4⟩, h5⟩
        exact kk x h4 h3 h5 h1 h2
      · rintro x ⟨⟨⟨hx, h1, h2⟩, h3, h4⟩, h5⟩
        exact ⟨.inl hx, hbox x h4 h1 h2⟩
    · rename_i hge
      have hi0 : i = s.loose.length := by
        rcases Nat.lt_or_ge (i - s.loose.length) 1 with h | h
        · omega
        · rw [List.getElem?_eq_none (by simpa using h)] at hc'; cases hc'
      subst hi0
      rw [Nat.sub_self] at hc'
      obtain rfl : c = c' := by simpa using hc'
      refine ⟨v, by rw [List.getElem?_append_right (by omega)]; simp [hxl], ?_⟩
      have hnot : ∀ x, B x → vl.ownBlock ≠ some x ∧ vc.ownBlock ≠ some x := fun x hx =>
        ⟨fun e => hF x (hd.fl x e) (.inr hx), fun e => hF x (hd.fc x e) (.inr hx)⟩
      refine ((hc.notMap hd.now).ne hd.head (by decide) (by decide)).kept ?_ ?_
      · rintro x ⟨⟨hx, h3, h4⟩, h5⟩
        exact kk x h4 h3 h5 (hnot x hx).1 (hnot x hx).2
      · rintro x ⟨⟨hx, h3, h4⟩, h5⟩
        exact ⟨.inr (.inl hx), hbox x h4 (hnot x hx).1 (hnot x hx).2⟩
  · intro g hg
    rcases n2 g hg with h | h
    · exact .inl (hd.fl g h)
    · exact .inr (.inr h)
  · intro g hg
    rcases n4 g hg with h | h
    · exact .inl (hd.fc g h)
    · exact .inr (.inr (by omega))
  · rintro k (h | h | h) hk
    · exact hF k h (.inl hk)
    · exact hB k h hk
    · have := hK k (.inl hk); omega
  · refine ⟨?_, ?_, ?_, by simp [World.setCell]; omega, fun k hk => ?_⟩
    · exact hg4.os.trans ((by rw [hw3]; rfl : (w3.alloc o2).os = w2.os).trans (hg2.os.trans hg1.os))
    · exact hg4.tape.trans ((by rw [hw3]; rfl : (w3.alloc o2).tape = w2.tape).trans (hg2.tape.trans hg1.tape))
    · exact hg4.output.trans ((by rw [hw3]; rfl : (w3.alloc o2).output = w2.output).trans (hg2.output.trans hg1.output))
    · have hnf : ∀ x, F x → k ≠ x := fun x hx e => hF x hx (.inl (e ▸ hk))
      exact kk k (hK k (.inl hk)) (hnf rn hd.fn) (hnf b hd.fb) (fun e => hF k (hd.fl k e) (.inl hk)) (fun e => hF k (hd.fc k e) (.inl hk))

set_option maxRecDepth 100000 in
set_option maxHeartbeats 2000000 in
theorem does_spec {K B : Nat → Prop} (w : World) (b : Nat) (s : DS) (c : DC) (v : Value) (h : Dk (fun k => K k ∨ B k) w b s) (hB : ∀ x, B x → ¬ K x) (hc : CallAt w B v c) (hok : c.ok s.now) (hfo : FOk s.room (c.run s.now)) (hlen : s.loose.length < 1000000000) (q : Int) (hq : cutVal c = .int .i64 q) :
    Calls Tryd.prog 29 #[.pointer (some ⟨b, 0, none⟩), .int .i64 q, v] w fun e w' => e = .returned (.int .i64 0) ∧ Then K w b (s.push c) w' := by
  obtain ⟨hi, hK, F, rs, rn, vl, vc, xs, hd, hF⟩ := h
  obtain ⟨-, -, c2, -, -, -⟩ := hd.cells
  obtain ⟨i0, hi0, hz0, hz1, hz2⟩ := info_parts infoCall
  obtain ⟨j0, hj0, hy0, hy1, hy2⟩ := info_parts infoInt
  have hwhole := call_whole hc hd.now hok hi.now hfo hi.room
  have hone : v.oneCell' = true := by rcases hwhole with ⟨x, y, rfl, hcall⟩ | ⟨x, y, rfl, hcall⟩ | ⟨x, y, rfl, hcall⟩ | ⟨x, rfl, hcall⟩ <;> rfl
  have hclose := Lib.hid (fun w1 w2 w3 w4 v2 v4 o1 o2 => @does_close K B F w w1 w2 w3 w4 b s c v vl vc v2 v4 rs rn xs o1 o2 q hi hK hd hF hB hc hok hfo hq)
  have HW := Lib.hid hwhole
  clear hwhole hc
  have HD := Lib.hid hd
  clear hd hF
  have HL : s.loose.length + 1 ≤ 1000000000 := by omega
  generalize hlen' : s.loose.length = len at HL
  have HE := Lib.hid hlen'
  clear hlen' hlen hok hfo hi hB hK hq
  rcases HW.out with ⟨x, y, rfl, hcall⟩ | ⟨x, y, rfl, hcall⟩ | ⟨x, y, rfl, hcall⟩ | ⟨x, rfl, hcall⟩
  all_goals
    go_enter Tryd.func29, Tryd.ntmps29
    go_wp2_with fail
    refine hcall.mono ?_
    clear hcall
    rintro e w1 ⟨rfl, hm1, hg1⟩
    have hh1 : w1.heap[b]? = some (.cells #[.int .i64 s.room, .map (some rs), .map (some rn), vl, vc, .int .i64 s.fuse] 61 (0, 0)) := (hg1.block b (lt_of_heap HD.out.head) (fun e => map_ne HD.out.head HD.out.now (by simpa using e.symm))).trans HD.out.head
    have c3 : w1.cell? ⟨b, 3, none⟩ = some vl := cell_of hh1 3
    have hl1 : w1.ownsRow 0 70 1 vl len xs := by rw [← HE.out]; exact HD.out.loose.kept hg1 (.inr (row_map HD.out.loose HD.out.now))
    have hc1 : w1.ownsRow 0 3 1 vc len (s.loose.map cutVal) := by rw [← HE.out]; exact HD.out.cuts.kept hg1 (.inr (row_map HD.out.cuts HD.out.now))
    go_wp2_with (at_builtin; refine hold ?_)
    refine unhold ?_
    refine wpList_append_own_at _ rfl _ _ 58 rfl 0 70 i0 .nilFunc 1 8 Tryd.underlying58 hi0 hz0 hz1 hz2 rfl (by decide) vl len xs rfl (hl1.alloc _) ⟨w1.heap.size, 0, none⟩ 1 1 [_] rfl rfl (cell_one_new _ _ _) (by simp [Value.oneCell']) (by simp [maxLen]; omega) (by omega) (Nat.zero_le _) ?_
    intro v2 w2 hl2 hg2 hnil2 hloc2
    obtain ⟨g2, cap2, rfl⟩ := ownsRow_succ hl2
    have hh2 := after_grown hh1 hg2 (fun e => row_ne hh1 hl1 (by decide) b e rfl)
    have d3 : w2.cell? ⟨b, 3, none⟩ = some vl := cell_of hh2 3
    have f3 : w2.frozen? ⟨b, 3, none⟩ = false := free_of hh2 3
    have d4 : w2.cell? ⟨b, 4, none⟩ = some vc := cell_of hh2 4
    have HM := Lib.hid (And.intro hm1 (And.intro hg1 (And.intro hl2 (And.intro hg2 hloc2))))
    clear hm1 hg1 hnil2 hloc2 c3
    go_wp2_with (at_builtin; refine hold ?_)
    refine unhold ?_
    obtain ⟨w3, hw3⟩ : ∃ w3, w3 = w2.setCell ⟨b, 3, none⟩ (.slice (some ⟨g2, 0, none⟩) (len + 1) cap2) := ⟨_, rfl⟩
    rw [← hw3]
    have hsz3 : w3.heap.size = w2.heap.size := by rw [hw3]; simp [World.setCell]
    have hcb : vc.ownBlock ≠ some b := fun e => row_ne hh1 hc1 (by decide) b e rfl
    have hcl : vc.ownBlock = none ∨ vc.ownBlock ≠ vl.ownBlock := by
      cases e : vc.ownBlock with
      | none => exact .inl rfl
      | some g => exact .inr fun e' => row_apart hc1 hl1 (by decide) e e'.symm
    have hc3 : w3.ownsRow 0 3 1 vc len (s.loose.map cutVal) := by
      refine ownsRow_of_block ((hc1.alloc _).kept hg2 hcl) fun g hg => ?_
      rw [hw3]; exact heap_set_other _ (fun e => hcb (e ▸ hg))
    have hh3 : w3.heap[b]? = some (.cells #[.int .i64 s.room, .map (some rs), .map (some rn), .slice (some ⟨g2, 0, none⟩) (len + 1) cap2, vc, .int .i64 s.fuse] 61 (0, 0)) := by rw [hw3]; exact heap_set hh2 3 _
    rw [← hsz3]
    clear hh1 hl1 hc1 hg2 hl2 hh2 d3 f3 d4 hcl
    refine wpList_append_own_at _ rfl _ _ 59 rfl 0 3 j0 (.int .i64 0) 1 8 Tryd.underlying59 hj0 hy0 hy1 hy2 rfl (by decide) vc len (s.loose.map cutVal) rfl (hc3.alloc _) ⟨w3.heap.size, 0, none⟩ 1 1 [_] rfl rfl (cell_one_new _ _ _) (by simp [Value.oneCell']) (by simp [maxLen]; omega) (by omega) (Nat.zero_le _) ?_
    intro v4 w4 hl4 hg4 hnil4 hloc4
    obtain ⟨g4, cap4, rfl⟩ := ownsRow_succ hl4
    have hh4 := after_grown hh3 hg4 hcb
    have d4 : w4.cell? ⟨b, 4, none⟩ = some vc := cell_of hh4 4
    have f4 : w4.frozen? ⟨b, 4, none⟩ = false := free_of hh4 4
    have HN := Lib.hid (And.intro hw3 (And.intro hl4 (And.intro hg4 hloc4)))
    clear hw3 hsz3 hc3 hh3 hl4 hg4 hnil4 hloc4 hh4 hcb
    go_wp2
    go_ret
    exact ⟨rfl, hclose.out w1 w2 w3 w4 _ _ _ _ HM.out.1 HM.out.2.1 (by rw [HE.out]; exact HM.out.2.2.1) HM.out.2.2.2.1 HM.out.2.2.2.2 HN.out.1 (by rw [HE.out]; exact HN.out.2.1) HN.out.2.2.1 HN.out.2.2.2⟩
end Go.Proofs.YtmgnekaokcgmlaaDoor
