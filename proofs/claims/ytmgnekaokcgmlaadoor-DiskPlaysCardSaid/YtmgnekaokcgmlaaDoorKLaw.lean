/- The plain law of DiskKeeps: behind a crash a file that was synced begins with its synced bytes, and is a beginning of what it was. And the rows of strings that the walk fills. -/
import Derived.Test.YtmgnekaokcgmlaaDoorLFuse
import Derived.Deep.OwnRows
set_option linter.unusedSimpArgs false
set_option linter.unusedVariables false
namespace Go.Proofs.YtmgnekaokcgmlaaDoor
open Go Go.RowKit Go.Maps Go.WideMaps Go.Sort Go.Shelf

/-- Each file of the first is a beginning of that of the second. -/
def Pre (fs gs : Files) : Prop := ∀ k v, fget fs k = some v → ∃ t, fget gs k = some (v ++ t)
theorem Pre.refl (fs : Files) : Pre fs fs := fun k v h => ⟨[], by simpa using h⟩
theorem Pre.trans {a b c : Files} (h : Pre a b) (g : Pre b c) : Pre a c := fun k v e => by
  obtain ⟨t, e1⟩ := h k v e
  obtain ⟨u, e2⟩ := g k _ e1
  exact ⟨t ++ u, by rw [e2, List.append_assoc]⟩
theorem pre_app (fs : Files) (n d : Str) : Pre fs ((DC.app n d).run fs) := fun k v h => by
  show ∃ t, fget (fput fs n ((fget fs n).getD [] ++ d)) k = some (v ++ t)
  by_cases e : k = n
  · subst e
    exact ⟨d, by rw [fget_fput_same, h]; rfl⟩
  · exact ⟨[], by rw [fget_fput_other _ _ e, h]; simp⟩
theorem pre_part (fs : Files) (n d : Str) (j : Nat) : Pre ((DC.app n (d.take j)).run fs) ((DC.app n d).run fs) := fun k v h => by
  change fget (fput fs n ((fget fs n).getD [] ++ d.take j)) k = some v at h
  show ∃ t, fget (fput fs n ((fget fs n).getD [] ++ d)) k = some (v ++ t)
  by_cases e : k = n
  · subst e
    rw [fget_fput_same] at h
    cases h
    exact ⟨d.drop j, by rw [fget_fput_same, List.append_assoc, List.take_append_drop]⟩
  · rw [fget_fput_other _ _ e] at h
    exact ⟨[], by rw [fget_fput_other _ _ e, h]; simp⟩
theorem pre_runs : ∀ (l : List DC) (fs : Files), (∀ c ∈ l, c.isApp = true) → Pre fs (DC.runs fs l)
  | [], fs, _ => Pre.refl fs
  | c :: l, fs, h => by
    have h1 : Pre fs (c.run fs) := by
      have := h c List.mem_cons_self
      cases c with
      | app n d => exact pre_app fs n d
      | _ => cases this
    exact h1.trans (pre_runs l (c.run fs) fun x hx => h x (List.mem_cons_of_mem _ hx))
theorem runs_append (fs : Files) (l m : List DC) : DC.runs fs (l ++ m) = DC.runs (DC.runs fs l) m := by simp [DC.runs]
theorem keeps {s : DS} (ha : ∀ c ∈ s.loose, c.isApp = true) (calls bytes : Int) : Pre s.sure (crashFiles s calls bytes) ∧ Pre (crashFiles s calls bytes) s.now := by
  unfold crashFiles
  split
  · exact ⟨Pre.refl _, pre_runs _ _ ha⟩
  · have hnow : s.now = DC.runs (DC.runs s.sure (s.loose.take calls.toNat)) (s.loose.drop calls.toNat) := by rw [← runs_append, List.take_append_drop]; rfl
    have h1 : Pre s.sure (DC.runs s.sure (s.loose.take calls.toNat)) := pre_runs _ _ fun c hc => ha c (List.mem_of_mem_take hc)
    have h2 : Pre (DC.runs s.sure (s.loose.take calls.toNat)) s.now := by rw [hnow]; exact pre_runs _ _ fun c hc => ha c (List.mem_of_mem_drop hc)
    cases e : s.loose[calls.toNat]? with
    | none => exact ⟨h1, h2⟩
    | some c =>
      obtain ⟨hlt, hc⟩ := List.getElem?_eq_some_iff.1 e
      have hm : c ∈ s.loose := hc ▸ List.getElem_mem hlt
      cases c with
      | app n d =>
        refine ⟨h1.trans (pre_app _ _ _), (pre_part _ n d _).trans ?_⟩
        have hd : s.loose.drop calls.toNat = .app n d :: s.loose.drop (calls.toNat + 1) := by rw [List.drop_eq_getElem_cons hlt, hc]
        rw [hnow, hd]
        exact pre_runs _ ((DC.app n d).run _) fun c hc => ha c (List.mem_of_mem_drop hc)
      | _ => exact absurd (ha _ hm) (by simp [DC.isApp])

theorem app_keep {s : DS} {n d : Str} (h : s.fuse = -1) (ha : ∀ c ∈ s.loose, c.isApp = true) :
    (dAppend s n d).2.sure = s.sure ∧ (dAppend s n d).2.fuse = -1 ∧ (∀ c ∈ (dAppend s n d).2.loose, c.isApp = true) ∧ (dAppend s n d).2.loose.length ≤ s.loose.length + 1 := by
  have hb : s.burn = s := by unfold DS.burn; rw [if_neg (by omega)]
  unfold dAppend
  rw [if_neg (by omega), hb]
  split
  · exact ⟨rfl, h, ha, by simp⟩
  split
  · exact ⟨rfl, h, ha, by simp⟩
  · refine ⟨rfl, h, fun c hc => ?_, by simp [DS.push]⟩
    simp only [DS.push, List.mem_append, List.mem_singleton] at hc
    rcases hc with hc | rfl
    · exact ha c hc
    · rfl
theorem stepE_keep {s : DS} {x : St} (h : s.fuse = -1) : (stepE s x).2.fuse = -1 ∧ (stepE s x).2.loose.length ≤ s.loose.length + 1 := by
  by_cases hx : 0 ≤ x.dO ∧ x.dO ≤ 4
  · obtain ⟨_, h1, h2⟩ := stepE_up (s := s) (x := x) (by omega) hx
    rw [burn_fuse, if_neg (by omega), h] at h1
    exact ⟨h1, h2⟩
  · have : stepE s x = (0, s) := by
      unfold stepE
      rw [if_neg (by omega), if_neg (by omega), if_neg (by omega), if_neg (by omega), if_neg (by omega)]
    rw [this]
    exact ⟨h, by simp⟩
theorem read_has {s : DS} {k v : Str} (h : s.fuse = -1) (hk : fget s.now k = some v) : dRead s k = (v, 0) := by
  unfold dRead; rw [if_neg (by omega), hk]
theorem fnames_at {fs : Files} {i : Nat} {k : Str} (hr : Rising fs) (h : (fnames fs)[i]? = some k) : ∃ v, fs[i]? = some (k, v) ∧ fget fs k = some v := by
  unfold fnames at h
  rw [List.getElem?_map] at h
  obtain ⟨p, hp, rfl⟩ := Option.map_eq_some_iff.1 h
  exact ⟨p.2, hp, fget_of_mem hr (List.mem_of_getElem? hp)⟩

/-! ### rows -/
/-- A slice of these strings, in blocks of G. -/
structure NmAt (w : World) (G : Nat → Prop) (v : Value) (ns : List Str) : Prop where
  val : ∃ A cap, v = .slice A ns.length cap
  cells : ∀ (i : Nat) (k : Str), ns[i]? = some k → ∃ g cap, v = .slice (some ⟨g, 0, none⟩) ns.length cap ∧ G g ∧ w.cell? ⟨g, i, none⟩ = some (.string (bs k))
theorem NmAt.kept {w w' : World} {G : Nat → Prop} {v : Value} {ns : List Str} (h : NmAt w G v ns) (hb : ∀ b, G b → w'.heap[b]? = w.heap[b]?) : NmAt w' G v ns :=
  ⟨h.val, fun i k hk => (h.cells i k hk).imp fun g h => h.imp fun cap h => ⟨h.1, h.2.1, by rw [← h.2.2]; simp [World.cell?, hb g h.2.1]⟩⟩
theorem NmAt.of_owns {w : World} {B : Nat} {v : Value} {ns : List Str} (h : w.ownsRow B 9 1 v ns.length (ns.map encStr)) : NmAt w (fun b => B ≤ b ∧ b < w.heap.size) v ns := by
  rcases h.2 with ⟨rfl, h0⟩ | ⟨g, cap, cur, rfl, hB, hg, _, _, _, hcur⟩
  · exact ⟨⟨none, 0, by rw [h0]⟩, fun i k hk => by rw [List.getElem?_eq_none (by omega)] at hk; cases hk⟩
  · refine ⟨⟨_, cap, rfl⟩, fun i k hk => ⟨g, cap, rfl, ⟨hB, lt_of_heap hg⟩, ?_⟩⟩
    have hi : i < ns.length := (List.getElem?_eq_some_iff.1 hk).1
    rw [cell_of hg]
    have : cur.toList[i]? = some (encStr k) := by
      have e : (ns.map encStr)[i]? = some (encStr k) := by rw [List.getElem?_map, hk]; rfl
      rw [← e, ← hcur, Nat.mul_one, List.getElem?_take, if_pos hi]
    have h2 : cur[i]? = some (encStr k) := by simpa using this
    exact h2

def rowF (g : Nat → Str) (j i : Nat) : Value := .string (bs (if i < j then g i else []))
/-- A row that is being filled, the disk beside it; nothing else has turned. -/
structure Fil (K : Nat → Prop) (wc wr : World) (db mb n : Nat) (s : DS) (g : Nat → Str) (j : Nat) : Prop where
  dk : Dk K wr db s
  mine : K mb
  row : wr.rowIs mb 9 n (rowF g j)
  os : wr.os = wc.os
  tape : wr.tape = wc.tape
  output : wr.output = wc.output
  size : wr.heap.size = wc.heap.size
  same : ∀ b, b ≠ mb → wr.heap[b]? = wc.heap[b]?
theorem Fil.new {K : Nat → Prop} {wb : World} {db n : Nat} {s : DS} (g : Nat → Str) (h : Dk K wb db s) :
    Fil (fun k => K k ∨ k = wb.heap.size) (wb.alloc (.cells (madeCells #[.string (bs [])] n) 9)) (wb.alloc (.cells (madeCells #[.string (bs [])] n) 9)) db wb.heap.size n s g 0 :=
  ⟨h.more _, .inr rfl, (World.rowIs_made wb _ n _).congr fun i hi => by simp [rowF], rfl, rfl, rfl, rfl, fun _ _ => rfl⟩
theorem Fil.put {K : Nat → Prop} {wc wr : World} {db mb n : Nat} {s : DS} {g : Nat → Str} {j : Nat} (h : Fil K wc wr db mb n s g j) (hj : j < n) :
    Fil K wc (wr.setCell ⟨mb, j, none⟩ (.string (bs (g j)))) db mb n s g (j + 1) := by
  have hsz : (wr.setCell ⟨mb, j, none⟩ (.string (bs (g j)))).heap.size = wr.heap.size := by simp [World.setCell]
  refine ⟨h.dk.later (by omega) (fun k _ hk => heap_set_other _ fun e => hk (e ▸ h.mine)) fun k hk => ⟨by rw [hsz]; exact h.dk.lt k hk, .inl hk⟩, h.mine, (h.row.set j _).congr fun i hi => ?_, h.os, h.tape, h.output, hsz.trans h.size, fun b hb => (heap_set_other _ hb).trans (h.same b hb)⟩
  by_cases e : i = j
  · subst e; simp [rowF]
  · simp only [e, if_false, rowF]
    by_cases h1 : i < j
    · rw [if_pos h1, if_pos (by omega)]
    · rw [if_neg h1, if_neg (by omega)]
theorem Fil.drew {K : Nat → Prop} {wc wr : World} {db mb n : Nat} {s : DS} {g : Nat → Str} {j : Nat} (h : Fil K wc wr db mb n s g j) : Fil K wc wr.drew db mb n s g j :=
  ⟨h.dk.drew, h.mine, h.row, h.os, h.tape, h.output, h.size, h.same⟩
theorem Fil.keep {K L : Nat → Prop} {wc wr : World} {db mb n : Nat} {s : DS} {g : Nat → Str} {j : Nat} (h : Fil K wc wr db mb n s g j) (hL : ¬ L mb) : Keep L wc wr :=
  ⟨h.os, h.tape, h.output, by rw [h.size]; exact Nat.le_refl _, fun k hk => h.same k fun e => hL (e ▸ hk)⟩
/-- What stands in the i-th file. -/
def g1 (fs : Files) (i : Nat) : Str := ((fs[i]?).map (·.2)).getD []
/-- What the i-th name has in these files. -/
def g2 (ns : List Str) (fs : Files) (i : Nat) : Str := (fget fs ((ns[i]?).getD [])).getD []
theorem g1_at {fs : Files} {i : Nat} {p : Str × Str} (h : fs[i]? = some p) : g1 fs i = p.2 := by unfold g1; rw [h]; rfl
theorem g2_at {ns : List Str} {fs : Files} {i : Nat} {k v : Str} (h : ns[i]? = some k) (hk : fget fs k = some v) : g2 ns fs i = v := by unfold g2; rw [h]; simp [hk]
/-- What the walk wants of the i-th name. -/
theorem Fil.nameAt {K G : Nat → Prop} {wc wr : World} {db mb n j : Nat} {s : DS} {g : Nat → Str} {v : Value} {ns : List Str} (h : Fil K wc wr db mb n s g j) (hn : NmAt wc G v ns) (hG : ∀ b, G b → b ≠ mb) {i : Nat} {k : Str} (hi : ns[i]? = some k) :
    ∃ b cap, v = .slice (some ⟨b, 0, none⟩) ns.length cap ∧ wr.cell? ⟨b, i, none⟩ = some (.string (bs k)) := by
  obtain ⟨b, cap, h1, h2, h3⟩ := (hn.kept fun b hb => h.same b (hG b hb)).cells i k hi
  exact ⟨b, cap, h1, h3⟩
/-- What the last loop compares. -/
theorem three_strs (v t u : Str) : ∃ X Y Z : ByteArray, bs v = X ∧ bs (v ++ t) = Y ∧ bs (v ++ t ++ u) = Z ∧ X.size ≤ Y.size ∧ Y.size ≤ Z.size ∧ Y.extract 0 X.size = X ∧ Z.extract 0 Y.size = Y := by
  refine ⟨_, _, _, rfl, rfl, rfl, by simp [bs_size], by simp [bs_size], ?_, ?_⟩
  · rw [bs_size, bs_extract, List.take_left']
    rfl
  · rw [bs_size, bs_extract, List.take_left']
    rfl
theorem crash_now (s : DS) (calls bytes : Int) : (dCrash s calls bytes).now = crashFiles s calls bytes := rfl
theorem make_strs (n : Nat) (hn : n ≤ 1000) (w : World) :
    (Instr.makeSlice 36 (.int .i64 (n : Int)) (.int .i64 (n : Int))).run Tryd.prog w = .ok (.slice (some ⟨w.heap.size, 0, none⟩) n n) (w.alloc (.cells (madeCells #[.string (bs [])] n) 9)) :=
  run_make_row' 36 9 (.string (bs [])) 16 Tryd.underlying36 (by kernel_rfl) rfl .i64 .i64 n (by omega) (by omega) w
end Go.Proofs.YtmgnekaokcgmlaaDoor
