/- Crash. -/
import Derived.Test.YtmgnekaokcgmlaaDoorCut
set_option linter.unusedSimpArgs false
set_option linter.unusedVariables false
namespace Go.Proofs.YtmgnekaokcgmlaaDoor
open Go Go.RowKit Go.Maps Go.WideMaps

/-- The files while a crash does the loose calls, ahead of the k-th. -/
def crAt (s : DS) (calls bytes : Int) (k : Nat) : Files :=
  if calls < 0 then s.sure else if (k : Int) ≤ calls then DC.runs s.sure (s.loose.take k) else crashCall s.loose[calls.toNat]? bytes (DC.runs s.sure (s.loose.take calls.toNat))
theorem crAt_zero (s : DS) (calls bytes : Int) : crAt s calls bytes 0 = s.sure := by
  unfold crAt
  split
  · rfl
  · rw [if_pos (by omega)]; rfl
theorem crAt_of_le (s : DS) {calls : Int} (bytes : Int) {k : Nat} (h : (k : Int) ≤ calls) : crAt s calls bytes k = DC.runs s.sure (s.loose.take k) := by
  unfold crAt
  rw [if_neg (by omega), if_pos h]
theorem runs_take_succ (fs : Files) {l : List DC} {k : Nat} {c : DC} (h : l[k]? = some c) : DC.runs fs (l.take (k + 1)) = c.run (DC.runs fs (l.take k)) := by
  rw [List.take_succ_eq_append_getElem (List.getElem?_eq_some_iff.1 h).1, runs_snoc]
  rw [(List.getElem?_eq_some_iff.1 h).2]
theorem crAt_low (s : DS) {calls : Int} (bytes : Int) {k : Nat} {c : DC} (h : (k : Int) < calls) (hc : s.loose[k]? = some c) : crAt s calls bytes (k + 1) = c.run (crAt s calls bytes k) := by
  rw [crAt_of_le s bytes (by omega : (k : Int) ≤ calls), crAt_of_le s bytes (by omega : ((k + 1 : Nat) : Int) ≤ calls), runs_take_succ _ hc]
theorem crAt_mid (s : DS) {calls : Int} (bytes : Int) {k : Nat} {c : DC} (h : (k : Int) = calls) (hc : s.loose[k]? = some c) : crAt s calls bytes (k + 1) = crashCall (some c) bytes (crAt s calls bytes k) := by
  rw [crAt_of_le s bytes (by omega : (k : Int) ≤ calls)]
  unfold crAt
  have e : calls.toNat = k := by omega
  rw [if_neg (by omega), if_neg (by omega), e, hc]
theorem crAt_high (s : DS) {calls : Int} (bytes : Int) {k : Nat} (h : calls < (k : Int)) : crAt s calls bytes (k + 1) = crAt s calls bytes k := by
  unfold crAt
  by_cases h0 : calls < 0
  · rw [if_pos h0, if_pos h0]
  · rw [if_neg h0, if_neg h0, if_neg (by omega), if_neg (by omega)]
theorem crAt_end (s : DS) (calls bytes : Int) : crAt s calls bytes s.loose.length = crashFiles s calls bytes := by
  unfold crAt crashFiles
  by_cases h0 : calls < 0
  · rw [if_pos h0, if_pos h0]
  · rw [if_neg h0, if_neg h0]
    split
    · rename_i h
      rw [List.getElem?_eq_none (by omega), List.take_of_length_le (Nat.le_refl _), List.take_of_length_le (by omega)]
      rfl
    · rfl

/-- A world in which a crash is under way. -/
structure CrMid (w wr : World) (b : Nat) (s : DS) (rs : Nat) (vl vc : Value) (fs : Files) : Prop where
  os : wr.os = w.os
  tape : wr.tape = w.tape
  output : wr.output = w.output
  size : w.heap.size + 1 ≤ wr.heap.size
  old : ∀ k, k < w.heap.size → k ≠ b → wr.heap[k]? = w.heap[k]?
  head : wr.heap[b]? = some (.cells #[.int .i64 s.room, .map (some rs), .map (some w.heap.size), vl, vc, .int .i64 s.fuse] 61 (0, 0))
  now : MapIs wr w.heap.size fs
theorem CrMid.turned {w wr w' : World} {b : Nat} {s : DS} {rs : Nat} {vl vc : Value} {fs fs' : Files} (h : CrMid w wr b s rs vl vc fs) (hb : b < w.heap.size) (hm : MapIs w' w.heap.size fs') (hg : wr.grownBy w' (some w.heap.size)) : CrMid w w' b s rs vl vc fs' :=
  ⟨hg.os.trans h.os, hg.tape.trans h.tape, hg.output.trans h.output, Nat.le_trans h.size hg.size,
    fun k hk hkb => (hg.block k (by have := h.size; omega) (by simp; omega)).trans (h.old k hk hkb), (hg.block b (by have := h.size; omega) (by simp; omega)).trans h.head, hm⟩

theorem settled_raw {K : Nat → Prop} {w w1 w' : World} {b rs rn room : Nat} {fuse : Int} {vl vc : Value} {fs : Files}
    (hw : ∀ k, K k → k < w.heap.size) (hs : w.heap.size ≤ w1.heap.size) (hKb : ¬ K b) (hKr : ¬ K rn) (hf : FOk room fs) (hroom : room ≤ 16777216) (hf1 : -1 ≤ fuse) (hf2 : fuse ≤ 9223372036854775807)
    (hh : w1.heap[b]? = some (.cells #[.int .i64 room, .map (some rs), .map (some rn), vl, vc, .int .i64 fuse] 61 (0, 0))) (hm : MapIs w1 rn fs) {es : Array MapEntry} {ck : Nat} (he : w1.heap[rn]? = some (.map es ck))
    (hw' : w' = (((w1.alloc (.map es ck)).setCell ⟨b, 1, none⟩ (.map (some w1.heap.size))).setCell ⟨b, 3, none⟩ (.slice none 0 0)).setCell ⟨b, 4, none⟩ (.slice none 0 0)) :
    Dk K w' b { room := room, sure := fs, loose := [], fuse := fuse } ∧ Keep K w1 w' := by
  have hb := lt_of_heap hh
  have kk : ∀ k, k ≠ b → k < w1.heap.size → w'.heap[k]? = w1.heap[k]? := fun k hk hlt => by
    rw [hw', heap_set_other _ hk, heap_set_other _ hk, heap_set_other _ hk]
    exact Below.heap_alloc w1 _ k hlt
  have hn : w'.heap[w1.heap.size]? = some (.map es ck) := by
    rw [hw', heap_set_other _ (by omega), heap_set_other _ (by omega), heap_set_other _ (by omega)]
    exact heap_new w1 _
  have hh' : w'.heap[b]? = some (.cells #[.int .i64 room, .map (some w1.heap.size), .map (some rn), .slice none 0 0, .slice none 0 0, .int .i64 fuse] 61 (0, 0)) := by
    have h0 : (w1.alloc (.map es ck)).heap[b]? = _ := (Below.heap_alloc w1 _ b hb).trans hh
    rw [hw']
    exact heap_set (heap_set (heap_set h0 1 _) 3 _) 4 _
  have hsz : w'.heap.size = w1.heap.size + 1 := by rw [hw']; simp [World.setCell]
  refine ⟨⟨⟨hroom, hf1, hf2, hf⟩, fun k hk => by have := hw k hk; omega, fun k => k = b ∨ k = rn ∨ k = w1.heap.size, w1.heap.size, rn, .slice none 0 0, .slice none 0 0, [], ⟨hh', ?_, ?_, ?_, World.ownsRow_nil _ _ _ _, World.ownsRow_nil _ _ _ _, (fun i c hc => by simp at hc), .inl rfl, .inr (.inr rfl), .inr (.inl rfl), (fun g hg => by cases hg), (fun g hg => by cases hg)⟩, ?_⟩, ?_⟩
  · obtain ⟨es', ck', he', h2⟩ := hm
    rw [he] at he'; cases he'
    exact ⟨es, ck, hn, h2⟩
  · exact hm.of_block (kk rn (map_ne hh hm) hm.lt)
  · have := hm.lt; omega
  · rintro k (rfl | rfl | rfl) hk
    · exact hKb hk
    · exact hKr hk
    · have := hw _ hk; omega
  · exact ⟨by rw [hw']; rfl, by rw [hw']; rfl, by rw [hw']; rfl, by omega, fun k hk => kk k (fun e => hKb (e ▸ hk)) (by have := hw k hk; omega)⟩

set_option maxRecDepth 100000 in
set_option maxHeartbeats 400000 in
theorem settle_raw (w : World) (b rs rn room : Nat) (fuse : Int) (vl vc : Value) (hh : w.heap[b]? = some (.cells #[.int .i64 room, .map (some rs), .map (some rn), vl, vc, .int .i64 fuse] 61 (0, 0))) (es : Array MapEntry) (ck : Nat) (he : w.heap[rn]? = some (.map es ck)) :
    Calls Tryd.prog 34 #[.pointer (some ⟨b, 0, none⟩)] w fun e w' => e = .returned (.tuple #[]) ∧
      w' = (((w.alloc (.map es ck)).setCell ⟨b, 1, none⟩ (.map (some w.heap.size))).setCell ⟨b, 3, none⟩ (.slice none 0 0)).setCell ⟨b, 4, none⟩ (.slice none 0 0) := by
  have hcl := AnyW.maps_Clone Tryd.clone37 rn es ck w he
  have hb := lt_of_heap hh
  have c2 : w.cell? ⟨b, 2, none⟩ = some (.map (some rn)) := cell_of hh 2
  have h0 : (w.alloc (.map es ck)).heap[b]? = _ := (Below.heap_alloc w _ b hb).trans hh
  have d1 : (w.alloc (.map es ck)).cell? ⟨b, 1, none⟩ = some (.map (some rs)) := cell_of h0 1
  have g1 : (w.alloc (.map es ck)).frozen? ⟨b, 1, none⟩ = false := free_of h0 1
  have d3 : (w.alloc (.map es ck)).cell? ⟨b, 3, none⟩ = some vl := cell_of h0 3
  have g3 : (w.alloc (.map es ck)).frozen? ⟨b, 3, none⟩ = false := free_of h0 3
  have d4 : (w.alloc (.map es ck)).cell? ⟨b, 4, none⟩ = some vc := cell_of h0 4
  have g4 : (w.alloc (.map es ck)).frozen? ⟨b, 4, none⟩ = false := free_of h0 4
  clear he h0 hb hh
  go_enter Tryd.func34, Tryd.ntmps34
  go_wp2_with fail
  refine hcl.mono ?_
  clear hcl
  rintro e w1 ⟨rfl, rfl⟩
  go_wp2
  go_end0
  exact ⟨rfl, rfl⟩

/-- What the walk wants at the k-th call. -/
theorem DiskIn.callAt {w wr : World} {F : Nat → Prop} {b : Nat} {s : DS} {rs rn : Nat} {vl vc : Value} {xs : List Value} {fs : Files} (hd : DiskIn w F b s rs rn vl vc xs) (h : CrMid w wr b s rs vl vc fs) {k : Nat} (hk : k < s.loose.length) :
    ∃ (c : DC) (v : Value) (g g2 cap cap2 : Nat), s.loose[k]? = some c ∧ vl = .slice (some ⟨g, 0, none⟩) s.loose.length cap ∧ vc = .slice (some ⟨g2, 0, none⟩) s.loose.length cap2 ∧ wr.cell? ⟨g, k, none⟩ = some v ∧ wr.cell? ⟨g2, k, none⟩ = some (cutVal c) ∧
      CallAt wr (fun _ => True) v c := by
  obtain ⟨c, hc⟩ : ∃ c, s.loose[k]? = some c := ⟨_, List.getElem?_eq_getElem hk⟩
  obtain ⟨v, hv, ha⟩ := hd.calls k c hc
  rcases hd.loose.2 with ⟨_, h0⟩ | ⟨g, cap, cur, rfl, _, hg, _, _, _, hcur⟩
  · omega
  rcases hd.cuts.2 with ⟨_, h0⟩ | ⟨g2, cap2, cur2, rfl, _, hg2, _, _, _, hcur2⟩
  · omega
  refine ⟨c, v, g, g2, cap, cap2, hc, rfl, rfl, ?_, ?_, ?_⟩
  · have e1 := h.old g (lt_of_heap hg) (row_ne hd.head hd.loose (by decide) g rfl)
    rw [cell_of (e1.trans hg)]
    have : cur.toList[k]? = some v := by rw [← hv, ← hcur, Nat.mul_one, List.getElem?_take, if_pos hk]
    simpa using this
  · have e1 := h.old g2 (lt_of_heap hg2) (row_ne hd.head hd.cuts (by decide) g2 rfl)
    rw [cell_of (e1.trans hg2)]
    have : cur2.toList[k]? = some (cutVal c) := by
      have e : (s.loose.map cutVal)[k]? = some (cutVal c) := by rw [List.getElem?_map, hc]; rfl
      rw [← e, ← hcur2, Nat.mul_one, List.getElem?_take, if_pos hk]
    simpa using this
  · have hlt : ∀ {x : Nat} {u : Value} {T : TypeId}, Box w x u T → x < w.heap.size := fun hx => lt_of_heap hx
    exact ((ha.notMap hd.now).ne hd.head (by decide) (by decide)).kept (fun x hx => h.old x hx.1.2.2 hx.2) (fun _ _ => trivial)

set_option maxRecDepth 100000 in
set_option maxHeartbeats 4000000 in
theorem crash_spec {K : Nat → Prop} (w : World) (b : Nat) (s : DS) (calls bytes : Int) (h : Dk K w b s) (hlen : s.loose.length < 1000000000) (hc1 : -9223372036854775808 ≤ calls) (hc2 : calls ≤ 9223372036854775807) (hb1 : -9223372036854775808 ≤ bytes) (hb2 : bytes ≤ 9223372036854775807) :
    Calls Tryd.prog 18 #[.pointer (some ⟨b, 0, none⟩), .int .i64 calls, .int .i64 bytes] w fun e w' => e = .returned (.int .i64 0) ∧ Then K w b (dCrash s calls bytes) w' := by
  have hq := eqMapNil
  obtain ⟨hi, hK, F, rs, rn, vl, vc, xs, hd, hF⟩ := h
  obtain ⟨es, ck, he⟩ := hd.sure.isMap
  have hcl := AnyW.maps_Clone Tryd.clone37 rs es ck w he
  obtain ⟨-, c1, c2, -, -, -⟩ := hd.cells
  obtain ⟨av, cp, hvl⟩ : ∃ a c, vl = .slice a s.loose.length c := by
    rcases hd.loose.2 with ⟨h1, h0⟩ | ⟨g, cap, cur, h1, _⟩
    · rw [h0]; exact ⟨_, _, h1⟩
    · exact ⟨_, _, h1⟩
  have hb := lt_of_heap hd.head
  have h0 : (w.alloc (.map es ck)).heap[b]? = _ := (Below.heap_alloc w _ b hb).trans hd.head
  have d2 : (w.alloc (.map es ck)).cell? ⟨b, 2, none⟩ = some (.map (some rn)) := cell_of h0 2
  have g2 : (w.alloc (.map es ck)).frozen? ⟨b, 2, none⟩ = false := free_of h0 2
  have hw1 : CrMid w ((w.setCell ⟨b, 2, none⟩ (.map (some w.heap.size))).alloc (.map es ck)) b s rs vl vc (crAt s calls bytes 0) := by
    have hsz : (w.setCell ⟨b, 2, none⟩ (.map (some w.heap.size))).heap.size = w.heap.size := by simp [World.setCell]
    refine ⟨rfl, rfl, rfl, by simp [hsz], fun k hk hkb => (Below.heap_alloc _ _ k (by omega)).trans (heap_set_other _ hkb), (Below.heap_alloc _ _ b (by omega)).trans (heap_set hd.head 2 _), ?_⟩
    rw [crAt_zero]
    obtain ⟨es', ck', he', h2⟩ := hd.sure
    rw [he] at he'; cases he'
    have := heap_new (w.setCell ⟨b, 2, none⟩ (.map (some w.heap.size))) (.map es ck)
    rw [hsz] at this
    exact ⟨es, ck, this, h2⟩
  have d3 : w.cell? ⟨b, 3, none⟩ = some vl := cell_of hd.head 3
  rw [hvl] at d3
  have HH := Lib.hid (And.intro hi (And.intro hK (And.intro hd (And.intro hF (And.intro hw1 hvl)))))
  clear hi hK hd hF hw1 hvl h0
  generalize hn : s.loose.length = n at *
  have HN := Lib.hid hn
  clear hn
  go_enter Tryd.func18, Tryd.ntmps18
  go_wp2_with fail
  refine hcl.mono ?_
  clear hcl he
  rintro e w1 ⟨rfl, rfl⟩
  go_wp2_with fail
  go_loopw [31] (fun i wr => ∃ k : Nat, k ≤ n ∧ i = .int .i64 k ∧ CrMid w wr b s rs vl vc (crAt s calls bytes k)) (fun i _ => n - (intOf i).toNat)
  case atStart => exact ⟨0, Nat.zero_le _, rfl, HH.out.2.2.2.2.1⟩
  case round =>
    obtain ⟨k, hk, rfl, hmid⟩ := hrel
    have hb' := hb
    by_cases hlt : k < n
    · obtain ⟨c, v, g, g2', cap, cap2, hc, e1, e2, hcell, hcut, hcall⟩ := HH.out.2.2.1.callAt hmid (by rw [HN.out]; exact hlt)
      rw [HN.out] at e1 e2
      have e3 := HH.out.2.2.2.2.2
      rw [e1] at e3
      obtain ⟨rfl, rfl⟩ : some ⟨g, 0, none⟩ = av ∧ cap = cp := by simpa using e3
      clear e3
      have m2 : wr.cell? ⟨b, 2, none⟩ = some (.map (some w.heap.size)) := cell_of hmid.head 2
      have m4 : wr.cell? ⟨b, 4, none⟩ = some vc := cell_of hmid.head 4
      rw [e2] at m4
      have hroom := HH.out.1.room
      have hlow : (k : Int) ≤ calls → c.ok (crAt s calls bytes k) ∧ FOk s.room (crAt s calls bytes k) ∧ FOk s.room (c.run (crAt s calls bytes k)) := fun h => by
        rw [crAt_of_le s bytes h]
        exact ⟨(HH.out.1.hist.at hc).1, HH.out.1.hist.take k, (HH.out.1.hist.at hc).2⟩
      by_cases hkc : (k : Int) < calls
      · have hnext := crAt_low s bytes hkc hc
        have hl := hlow (by omega)
        have hwhole := call_whole hcall hmid.now hl.1 hl.2.1 hl.2.2 hroom
        rw [← hnext] at hwhole
        have HM := Lib.hid hmid
        have HE := Lib.hid (And.intro e1 e2)
        clear hcall hl hlow hnext hmid hc m4 hcut e1 e2
        rcases hwhole with ⟨x, y, rfl, hcall⟩ | ⟨x, y, rfl, hcall⟩ | ⟨x, y, rfl, hcall⟩ | ⟨x, rfl, hcall⟩
        all_goals
          go_wp2_with fail
          refine hcall.mono ?_
          clear hcall
          rintro e w' ⟨rfl, hm', hg'⟩
          have H := Lib.hid (HM.out.turned hb' hm' hg')
          clear hm' hg' hcell m2
          go_wp2
          go_roundw
          case rel => exact ⟨k + 1, by omega, by go_num, H.out⟩
          case measure => simp [intOf]; omega
      · by_cases hke : (k : Int) = calls
        · have hl := hlow (by omega)
          have hnext := crAt_mid s bytes hke hc
          have hkq : ((k : Int) == calls) = true := by simpa using hke
          have hkl : ¬ (k : Int) < calls := hkc
          cases c with
          | app n' d' =>
            obtain ⟨x, y, rfl, hx, hy, -, -⟩ := hcall
            have hd' : ((fget (crAt s calls bytes k) n').getD []).length + d'.length ≤ 16777216 := by
              have a1 := ftot_fput hl.2.1.rising n' ((fget (crAt s calls bytes k) n').getD [] ++ d')
              have a2 : ftot (fput (crAt s calls bytes k) n' ((fget (crAt s calls bytes k) n').getD [] ++ d')) ≤ s.room := hl.2.2.tot
              have a3 := getD_le_ftot (crAt s calls bytes k) n'
              rw [List.length_append] at a1
              omega
            have happ := app_call wr w.heap.size x y _ n' d' (max bytes 0) hmid.now hx hy (by omega) (by omega) hl.1 hd' hl.2.1.many
            rw [show (max bytes 0).toNat = bytes.toNat by omega] at happ
            have hcut' : wr.cell? ⟨g2', k, none⟩ = some (.int .i64 1) := hcut
            have HM := Lib.hid hmid
            have HE := Lib.hid (And.intro e1 (And.intro e2 (And.intro hnext hke)))
            clear hl hlow hnext hmid hc hcut e1 e2 hx hy hd' hke hkc
            go_wp2_with fail
            refine happ.mono ?_
            clear happ
            rintro e w' ⟨rfl, hm', hg'⟩
            have H := Lib.hid (HM.out.turned hb' hm' hg')
            clear hm' hg' hcell m2 m4 hcut'
            go_wp2
            go_roundw
            case rel => exact ⟨k + 1, by omega, by go_num, by rw [HE.out.2.2.1]; exact H.out⟩
            case measure => simp [intOf]; omega
          | cut n' d' =>
            have hcut' : wr.cell? ⟨g2', k, none⟩ = some (.int .i64 0) := hcut
            obtain ⟨x, y, rfl, hx, hy, -, -⟩ := hcall
            have HM := Lib.hid hmid
            have HE := Lib.hid (And.intro e1 (And.intro e2 (And.intro hnext hke)))
            clear hl hlow hnext hmid hc hcut e1 e2 hx hy hke hkc
            go_wp2
            go_roundw
            case rel => exact ⟨k + 1, by omega, by go_num, by rw [HE.out.2.2.1]; exact HM.out⟩
            case measure => simp [intOf]; omega
          | ren n' d' =>
            have hcut' : wr.cell? ⟨g2', k, none⟩ = some (.int .i64 0) := hcut
            obtain ⟨x, y, rfl, hx, hy, -, -⟩ := hcall
            have HM := Lib.hid hmid
            have HE := Lib.hid (And.intro e1 (And.intro e2 (And.intro hnext hke)))
            clear hl hlow hnext hmid hc hcut e1 e2 hx hy hke hkc
            go_wp2
            go_roundw
            case rel => exact ⟨k + 1, by omega, by go_num, by rw [HE.out.2.2.1]; exact HM.out⟩
            case measure => simp [intOf]; omega
          | rem n' =>
            have hcut' : wr.cell? ⟨g2', k, none⟩ = some (.int .i64 0) := hcut
            obtain ⟨x, rfl, hx, -⟩ := hcall
            have HM := Lib.hid hmid
            have HE := Lib.hid (And.intro e1 (And.intro e2 (And.intro hnext hke)))
            clear hl hlow hnext hmid hc hcut e1 e2 hx hke hkc
            go_wp2
            go_roundw
            case rel => exact ⟨k + 1, by omega, by go_num, by rw [HE.out.2.2.1]; exact HM.out⟩
            case measure => simp [intOf]; omega
        · have hnext := crAt_high s bytes (by omega : calls < (k : Int))
          have hkq : ((k : Int) == calls) = false := by simpa using hke
          have hkl : ¬ (k : Int) < calls := hkc
          have HM := Lib.hid hmid
          have HE := Lib.hid (And.intro e1 (And.intro e2 hnext))
          have hone : ∃ f cp', v = .func f #[] cp' := by
            cases c with
            | app n' d' => obtain ⟨x, y, e, _⟩ := hcall; exact ⟨_, _, e⟩
            | cut n' d' => obtain ⟨x, y, e, _⟩ := hcall; exact ⟨_, _, e⟩
            | ren n' d' => obtain ⟨x, y, e, _⟩ := hcall; exact ⟨_, _, e⟩
            | rem n' => obtain ⟨x, e, _⟩ := hcall; exact ⟨_, _, e⟩
          obtain ⟨f, cp', rfl⟩ := hone
          clear hlow hnext hmid hc hcut e1 e2 hcall hke hkc
          go_wp2
          go_roundw
          case rel => exact ⟨k + 1, by omega, by go_num, by rw [HE.out.2.2]; exact HM.out⟩
          case measure => simp [intOf]; omega
    · obtain rfl : n = k := by omega
      rw [← HN.out, crAt_end] at hmid
      obtain ⟨es2, ck2, he2⟩ := hmid.now.isMap
      have hset := settle_raw wr b rs w.heap.size s.room s.fuse vl vc hmid.head es2 ck2 he2
      have hK := HH.out.2.1
      have hFb : ¬ K b := fun hk => HH.out.2.2.2.1 b HH.out.2.2.1.fb hk
      have hfin := fun w' hw' => @settled_raw K w wr w' b rs w.heap.size s.room s.fuse vl vc _ hK (by have := hmid.size; omega) hFb (fun hk => by have := hK _ hk; omega) (HH.out.1.crashFiles calls bytes) HH.out.1.room HH.out.1.fuse HH.out.1.fuse' hmid.head hmid.now es2 ck2 he2 hw'
      have hkeep : Keep K w wr := ⟨hmid.os, hmid.tape, hmid.output, by have := hmid.size; omega, fun k hk => hmid.old k (hK k hk) (fun e => hFb (e ▸ hk))⟩
      have HX := Lib.hid (And.intro hfin hkeep)
      clear hfin hkeep hmid he2 hK hFb
      go_wp2_with fail
      refine hset.mono ?_
      clear hset
      rintro e w2 ⟨rfl, hw2⟩
      have hst := HX.out.1 w2 hw2
      have hsf := hst.1.setFuse (-1) (by omega) (by omega)
      have hd5 := hst.1
      obtain ⟨_, _, F', rs', rn', vl', vc', xs', hd', _⟩ := hd5
      have z5 : w2.cell? ⟨b, 5, none⟩ = some (.int .i64 s.fuse) := hd'.cells.2.2.2.2.2
      have f5 : w2.frozen? ⟨b, 5, none⟩ = false := free_of hd'.head 5
      have H : Then K w b (dCrash s calls bytes) (w2.setCell ⟨b, 5, none⟩ (.int .i64 (-1))) := ⟨hsf.1, HX.out.2.trans (hst.2.trans hsf.2)⟩
      have H' := Lib.hid H
      clear hw2 hst hsf hd' H
      go_wp2
      go_ret
      exact ⟨rfl, H'.out⟩
end Go.Proofs.YtmgnekaokcgmlaaDoor
